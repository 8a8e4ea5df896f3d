/- What is put: asked. -/
import Derived.Test.YtebdaoihajjgmaaSpl
set_option linter.unusedVariables false
set_option linter.unusedSimpArgs false
namespace Go.Proofs.Ytebdaoihajjgmaa
open Go.RowKit

theorem Split_some (lo hi n : ByteArray) (w : World) (h1 : lo.size ≤ maxLen) (h2 : hi.size ≤ maxLen) (h3 : n.size ≤ 16) : Calls Try.prog 22 #[.agg #[.string lo, .string hi], .string n] w fun e w' =>
    ∃ (alo ahi blo bhi : ByteArray) (q : Bool), e = .returned (.tuple #[.agg #[.string alo, .string ahi], .agg #[.string blo, .string bhi], .bool q]) ∧ ((alo.size ≤ maxLen ∧ ahi.size ≤ maxLen) ∧ (blo.size ≤ maxLen ∧ bhi.size ≤ maxLen)) ∧ Chg Non w w' := by
  refine (R7Split_any ⟨lo, hi⟩ n w).mono ?_
  rintro e w' ⟨rfl, hc⟩
  have hn : n.size ≤ maxLen := by unfold maxLen; omega
  have hz : ByteArray.size ⟨#[]⟩ ≤ maxLen := by simp [bsize]
  refine ⟨(pSplit1 ⟨lo, hi⟩ n).lo, (pSplit1 ⟨lo, hi⟩ n).hi, (pSplit2 ⟨lo, hi⟩ n).lo, (pSplit2 ⟨lo, hi⟩ n).hi, pSplitB ⟨lo, hi⟩ n, rfl, ?_, hc⟩
  unfold pSplit1 pSplit2
  split
  · exact ⟨⟨h1, hn⟩, hn, h2⟩
  · exact ⟨⟨hz, hz⟩, hz, hz⟩
theorem Join_some (lo hi lo' hi' : ByteArray) (w : World) (h1 : lo.size ≤ maxLen) (h2 : hi'.size ≤ maxLen) : Calls Try.prog 35 #[.agg #[.string lo, .string hi], .agg #[.string lo', .string hi']] w fun e w' =>
    ∃ (alo ahi : ByteArray) (q : Bool), e = .returned (.tuple #[.agg #[.string alo, .string ahi], .bool q]) ∧ (alo.size ≤ maxLen ∧ ahi.size ≤ maxLen) ∧ Chg Non w w' := by
  refine (R7Join_any ⟨lo, hi⟩ ⟨lo', hi'⟩ w).mono ?_
  rintro e w' ⟨q, rfl, hc⟩
  have hz : ByteArray.size ⟨#[]⟩ ≤ maxLen := by simp [bsize]
  cases q
  · exact ⟨⟨#[]⟩, ⟨#[]⟩, false, rfl, ⟨hz, hz⟩, hc⟩
  · exact ⟨lo, hi', true, rfl, ⟨h1, h2⟩, hc⟩
/-- What asked answers. -/
def AskPost (w : World) (e : Ending) (w' : World) : Prop := ∃ (v' : Value) (more : List Tab), e = .returned v' ∧ TabsAt w' (fun b => b < w'.heap.size) v' more ∧ more.length ≤ 4 ∧ Chg Non w w'
theorem AskPost.one {w w1 : World} (hc : Chg Non w w1) (x : Tab) (hx : TabOk x) : AskPost w (.returned (.slice (some ⟨w1.heap.size, 0, none⟩) 1 1)) (w1.alloc (.cells #[.string x.span.lo, .string x.span.hi, .int .i64 x.group, .int .i64 x.gen] 28)) :=
  ⟨_, [x], rfl, (TabsAt.of_blk (l := [x]) (Blk.new _ _ _) rfl (by intro y hy; rw [List.mem_singleton.1 hy]; exact hx) (by simp [maxLen])).mono fun b hb => (show b < _ by rw [show b = w1.heap.size from hb]; exact (Blk.new w1 _ _).lt), by simp, hc.alloc _⟩
theorem AskPost.two {w w1 : World} (hc : Chg Non w w1) (x y : Tab) (hx : TabOk x) (hy : TabOk y) : AskPost w (.returned (.slice (some ⟨w1.heap.size, 0, none⟩) 2 2)) (w1.alloc (.cells #[.string x.span.lo, .string x.span.hi, .int .i64 x.group, .int .i64 x.gen, .string y.span.lo, .string y.span.hi, .int .i64 y.group, .int .i64 y.gen] 28)) :=
  ⟨_, [x, y], rfl, (TabsAt.of_blk (l := [x, y]) (Blk.new _ _ _) rfl (by intro z hz; simp at hz; rcases hz with rfl | rfl <;> assumption) (by simp [maxLen])).mono fun b hb => (show b < _ by rw [show b = w1.heap.size from hb]; exact (Blk.new w1 _ _).lt), by simp, hc.alloc _⟩

set_option maxRecDepth 100000 in
set_option maxHeartbeats 6400000 in
theorem asked_any (K KR : Nat → Prop) (lv rv : Value) (l raw : List Tab) (kind i at_ gr gen : Int) (w : World) (hl : TabsAt w K lv l) (hr : TabsAt w KR rv raw) (hK : ∀ b, K b → b < w.heap.size) (hKR : ∀ b, KR b → b < w.heap.size)
    (hlen : 0 < l.length ∧ l.length ≤ 64) (f1 : Fits .i64 kind) (f2 : Fits .i64 i) (f3 : Fits .i64 at_) (f4 : Fits .i64 gr) (f5 : Fits .i64 gen) :
    Calls Try.prog 16 #[lv, .agg #[.int .i64 kind, .int .i64 i, .int .i64 at_, .int .i64 gr, rv], .int .i64 gen] w (AskPost w) := by
  obtain ⟨A, cap, rfl, h1, h2⟩ := hl.shape
  obtain ⟨Ar, cr, rfl, h3, h4⟩ := hr.shape
  obtain ⟨w0, hw0⟩ : ∃ w0, w0 = w.alloc (.cells #[.int .i64 kind, .int .i64 i, .int .i64 at_, .int .i64 gr, .slice Ar raw.length cr] 47) := ⟨_, rfl⟩
  have b0 : Blk w0 w.heap.size 47 #[.int .i64 kind, .int .i64 i, .int .i64 at_, .int .i64 gr, .slice Ar raw.length cr] := by rw [hw0]; exact Blk.new _ _ _
  have c0 : Chg Non w w0 := by rw [hw0]; exact (Chg.refl Non w).alloc _
  have k1 := within_range i 0 ((l.length : Int) - 1) (by omega)
  have W1 := fun W => Within_any i 0 ((l.length : Int) - 1) W f2 (by omega) (by omega) (by omega)
  generalize within i 0 ((l.length : Int) - 1) = ki at *
  obtain ⟨k, rfl⟩ := Int.eq_ofNat_of_zero_le k1.1
  have hk : k < l.length := by omega
  have k2 := within_range gr 0 300 (by decide)
  have W2 := fun W => Within_any gr 0 300 W f4 (by decide) (by decide) (by decide)
  generalize within gr 0 300 = g at *
  have k3 := within_range kind 0 1048576 (by decide)
  have W3 := fun W => Within_any kind 0 1048576 W f1 (by decide) (by decide) (by decide)
  generalize within kind 0 1048576 = mi at *
  obtain ⟨m, rfl⟩ := Int.eq_ofNat_of_zero_le k3.1
  have fg : Fits .i64 g := fits_i64 (by omega)
  have hm : (m : Int) % 5 = 0 ∨ (m : Int) % 5 = 1 ∨ (m : Int) % 5 = 2 ∨ (m : Int) % 5 = 3 ∨ (m : Int) % 5 = 4 := by omega
  have H := Lib.hid (And.intro hw0 (And.intro b0 (And.intro c0 (And.intro W1 (And.intro W2 (And.intro W3 (And.intro (fun W => Row_any at_ W f3) (And.intro fg f5))))))))
  have HM := Lib.hid hm
  have HL := Lib.hid (And.intro hl (And.intro hr (And.intro hK hKR)))
  have x0 := b0.cell
  have bb := f5.i64
  have hl0 := hl.chg c0 fun b hb => ⟨hK b hb, id⟩
  obtain ⟨b, off, rfl, hbK, ⟨o1, o2, o3, o4⟩, d0, d1, d2, d3⟩ := tab_cells hl0 hk
  obtain ⟨x, hx⟩ : ∃ x, x = l[k] := ⟨_, rfl⟩
  rw [← hx] at d0 d1 o3 o4
  obtain ⟨⟨lo, hi⟩, xg, xn⟩ := x
  dsimp only at d0 d1 o3 o4
  clear hw0 b0 c0 W1 W2 W3 hm fg f1 f2 f3 f4 f5 hl hr hl0 hx o1 o2 d2 d3
  have hkl : (0 : Int) ≤ (k : Int) ∧ (k : Int) < (l.length : Int) := by omega
  obtain ⟨hkl0, hkl1⟩ := hkl
  go_enter Try.func16, Try.ntmps16
  go_upto_region 1 with fail
  rw [← H.out.1]
  go_wp2_with fail
  refine (H.out.2.2.2.1 _).mono ?_
  rintro e w' ⟨rfl, rfl⟩
  go_wp2_with fail
  refine (H.out.2.2.2.2.1 _).mono ?_
  rintro e w' ⟨rfl, rfl⟩
  go_wp2_with fail
  refine (H.out.2.2.2.2.2.1 _).mono ?_
  rintro e w' ⟨rfl, rfl⟩
  rcases HM.out with hm | hm | hm | hm | hm
  · go_upto_region 5 with fail
    go_cut [9, 10, 11] (fun p q v wc => ∃ (g9 g10 : Nat) (alo ahi blo bhi : ByteArray) (ok : Bool), p = .pointer (some ⟨g9, 0, none⟩) ∧ q = .pointer (some ⟨g10, 0, none⟩) ∧ v = .bool ok ∧ Blk wc g9 26 #[.string alo, .string ahi] ∧ Blk wc g10 26 #[.string blo, .string bhi] ∧ ((alo.size ≤ maxLen ∧ ahi.size ≤ maxLen) ∧ (blo.size ≤ maxLen ∧ bhi.size ≤ maxLen)) ∧ Chg Non w' wc)
    case first =>
      clear hm
      obtain ⟨wn0, hwn0⟩ : ∃ x, x = w'.drew := ⟨_, rfl⟩
      have C0 := Lib.hid (show Chg Non w' wn0 by rw [hwn0]; exact (Chg.refl Non w').drew)
      have e0 := FamC.cells (K := Ge w'.heap.size) (C0.out.cellv d0 id) (show ¬ (w'.heap.size ≤ b) by have := World.block_lt_of_cell? w' _ d0; simp at this; omega)
      have e1 := FamC.cells (K := Ge w'.heap.size) (C0.out.cellv d1 id) (show ¬ (w'.heap.size ≤ b) by have := World.block_lt_of_cell? w' _ d1; simp at this; omega)
      have e2 := FamC.cells (K := Ge w'.heap.size) (C0.out.cellv (x0 2) id) (show ¬ (w'.heap.size ≤ w.heap.size) by have := H.out.2.1.lt; omega)
      clear x0 d0 d1
      refine wp_region_g2 (Ge w'.heap.size) #[false, false, false, false, false, false, false, false, false, false, false, false, false, false, false, false, false, false] 18 (by kernel_rfl) (by kernel_rfl) (by kernel_rfl) ?_
      rw [← hwn0]
      clear hwn0
      refine wpG2.seg [0, 1, 2, 3, 4, 5, 6] 11 #[true, true, true, true, true, true, true, false, false, false, false, false, false, false, false, false, false, false] rfl (by kernel_rfl) (fun _ _ _ _ h => h) (by kernel_rfl) (by kernel_rfl) ?_
      simp only [List.filterMap_cons, List.filterMap_nil, List.getElem?_toArray, List.getElem?_cons_zero, List.getElem?_cons_succ]
      change wpQuiet _ _ _ _ (_ :: _ :: _ :: _ :: _ :: _ :: _ :: []) _
      repeat (go_big_quiet_step (fail))
      refine wpQuiet_nil ?_
      refine wpG2.acts [7, 13, 14] 10 (by kernel_rfl) rfl (fun i0 hi0 => ?_)
      simp only [List.mem_cons, List.not_mem_nil, or_false] at hi0
      rcases hi0 with rfl | rfl | rfl
      · refine wpMix_act rfl (by kernel_rfl) (fun K1 hK1 => ?_)
        go_simp
        refine (H.out.2.2.2.2.2.2.1 wn0).mono ?_
        rintro e wn1 ⟨sr, rfl, hsr, hcn⟩
        refine hK1 _ _ ⟨hcn.any, ?_⟩
        have C1 := Lib.hid (C0.out.trans hcn)
        have HS := Lib.hid hsr
        clear hcn hsr
        clear hK1 K1
        change wpG2 _ _ _ _ _ 10 #[true, true, true, true, true, true, true, true, false, false, false, false, false, false, false, false, false, false] _ _
        refine wpG2.acts [8, 13, 14] 9 (by kernel_rfl) rfl (fun i0 hi0 => ?_)
        simp only [List.mem_cons, List.not_mem_nil, or_false] at hi0
        rcases hi0 with rfl | rfl | rfl
        · refine wpMix_act rfl (by kernel_rfl) (fun K1 hK1 => ?_)
          go_simp
          refine (Split_some lo hi sr wn1 o3 o4 HS.out).mono ?_
          rintro e wn2 ⟨alo, ahi, blo, bhi, ok, rfl, hsz, hcn⟩
          refine hK1 _ _ ⟨hcn.any, ?_⟩
          have C2 := Lib.hid (C1.out.trans hcn)
          have HZ := Lib.hid hsz
          clear hcn hsz
          clear hK1 K1
          change wpG2 _ _ _ _ _ 9 #[true, true, true, true, true, true, true, true, true, false, false, false, false, false, false, false, false, false] _ _
          refine wpG2.seg [9, 10, 11, 12] 5 #[true, true, true, true, true, true, true, true, true, true, true, true, true, false, false, false, false, false] rfl (by kernel_rfl) (fun _ _ _ _ h => h) (by kernel_rfl) (by kernel_rfl) ?_
          simp only [List.filterMap_cons, List.filterMap_nil, List.getElem?_toArray, List.getElem?_cons_zero, List.getElem?_cons_succ]
          change wpQuiet _ _ _ _ (_ :: _ :: _ :: _ :: []) _
          repeat (go_big_quiet_step (fail))
          refine wpQuiet_nil ?_
          refine wpG2.acts [13, 14] 4 (by kernel_rfl) rfl (fun i0 hi0 => ?_)
          simp only [List.mem_cons, List.not_mem_nil, or_false] at hi0
          rcases hi0 with rfl | rfl
          · refine wpMix_act rfl (by kernel_rfl) (fun K1 hK1 => ?_)
            go_simp
            obtain ⟨wn3, hwn⟩ : ∃ x, x = wn2.alloc (.cells #[.string { data := #[] }, .string { data := #[] }] 26) := ⟨_, rfl⟩
            rw [← hwn]
            have hcn : Chg Non wn2 wn3 := by rw [hwn]; exact (Chg.refl Non _).alloc _
            have P9_3 := Lib.hid (show Blk wn3 wn2.heap.size 26 #[.string { data := #[] }, .string { data := #[] }] by rw [hwn]; exact Blk.new _ _ _)
            refine hK1 _ _ ⟨hcn.any, ?_⟩
            have C3 := Lib.hid (C2.out.trans hcn)
            clear hcn hwn
            clear hK1 K1
            change wpG2 _ _ _ _ _ 4 #[true, true, true, true, true, true, true, true, true, true, true, true, true, true, false, false, false, false] _ _
            refine wpG2.acts [14] 3 (by kernel_rfl) rfl (fun i0 hi0 => ?_)
            obtain rfl := List.mem_singleton.1 hi0
            refine wpMix_act rfl (by kernel_rfl) (fun K1 hK1 => ?_)
            go_simp
            obtain ⟨wn4, hwn⟩ : ∃ x, x = wn3.alloc (.cells #[.string { data := #[] }, .string { data := #[] }] 26) := ⟨_, rfl⟩
            rw [← hwn]
            have hcn : Chg Non wn3 wn4 := by rw [hwn]; exact (Chg.refl Non _).alloc _
            have P10_4 := Lib.hid (show Blk wn4 wn3.heap.size 26 #[.string { data := #[] }, .string { data := #[] }] by rw [hwn]; exact Blk.new _ _ _)
            refine hK1 _ _ ⟨hcn.any, ?_⟩
            have C4 := Lib.hid (C3.out.trans hcn)
            have P9_4 := Lib.hid (P9_3.out.chg hcn id)
            clear hcn hwn
            clear hK1 K1
            change wpG2 _ _ _ _ _ 3 #[true, true, true, true, true, true, true, true, true, true, true, true, true, true, true, false, false, false] _ _
            refine wpG2.acts [15] 2 (by kernel_rfl) rfl (fun i0 hi0 => ?_)
            obtain rfl := List.mem_singleton.1 hi0
            refine wpMix_act rfl (by kernel_rfl) (fun K1 hK1 => ?_)
            refine wp_storeB 26 (.tmp 9) (.tmp 39) rfl wn2.heap.size #[.string alo, .string ahi] rfl rfl P9_4.out rfl (by kernel_rfl) (by simp [Value.oneCell']) rfl ?_
            intro wn5 hb hcs hz
            refine hK1 _ _ ⟨hcs.mono fun b _ hb => (show w'.heap.size ≤ b by have : b = wn2.heap.size := hb; have := C2.out.size; omega), ?_⟩
            have C5 := Lib.hid (C4.out.then_ hcs (fun k hk e => by have : k = wn2.heap.size := e; have := C2.out.size; omega))
            have P9_5 := Lib.hid hb
            have P10_5 := Lib.hid (P10_4.out.chg hcs (show ¬ (wn3.heap.size = wn2.heap.size) by have := P9_3.out.lt; omega))
            clear hb hcs hz
            clear hK1 K1
            change wpG2 _ _ _ _ _ 2 #[true, true, true, true, true, true, true, true, true, true, true, true, true, true, true, true, false, false] _ _
            refine wpG2.acts [16] 1 (by kernel_rfl) rfl (fun i0 hi0 => ?_)
            obtain rfl := List.mem_singleton.1 hi0
            refine wpMix_act rfl (by kernel_rfl) (fun K1 hK1 => ?_)
            refine wp_storeB 26 (.tmp 10) (.tmp 40) rfl wn3.heap.size #[.string blo, .string bhi] rfl rfl P10_5.out rfl (by kernel_rfl) (by simp [Value.oneCell']) rfl ?_
            intro wn6 hb hcs hz
            refine hK1 _ _ ⟨hcs.mono fun b _ hb => (show w'.heap.size ≤ b by have : b = wn3.heap.size := hb; have := C3.out.size; omega), ?_⟩
            have C6 := Lib.hid (C5.out.then_ hcs (fun k hk e => by have : k = wn3.heap.size := e; have := C3.out.size; omega))
            have P10_6 := Lib.hid hb
            have P9_6 := Lib.hid (P9_5.out.chg hcs (show ¬ (wn2.heap.size = wn3.heap.size) by have := P9_3.out.lt; omega))
            clear hb hcs hz
            clear hK1 K1
            change wpG2 _ _ _ _ _ 1 #[true, true, true, true, true, true, true, true, true, true, true, true, true, true, true, true, true, false] _ _
            refine wpG2.seg [17] 0 #[true, true, true, true, true, true, true, true, true, true, true, true, true, true, true, true, true, true] rfl (by kernel_rfl) (fun _ _ _ _ h => h) (by kernel_rfl) (by kernel_rfl) ?_
            simp only [List.filterMap_cons, List.filterMap_nil, List.getElem?_toArray, List.getElem?_cons_zero, List.getElem?_cons_succ]
            change wpQuiet _ _ _ _ (_ :: []) _
            repeat (go_big_quiet_step (fail))
            refine wpQuiet_nil ?_
            refine wpG2.last (by kernel_rfl) ?_
            go_wp2_with fail
            go_meet
            exact ⟨_, _, alo, ahi, blo, bhi, ok, rfl, rfl, rfl, P9_6.out, P10_6.out, HZ.out, C6.out⟩
          · refine wpMix_act rfl (by kernel_rfl) (fun K1 hK1 => ?_)
            go_simp
            obtain ⟨wn3, hwn⟩ : ∃ x, x = wn2.alloc (.cells #[.string { data := #[] }, .string { data := #[] }] 26) := ⟨_, rfl⟩
            rw [← hwn]
            have hcn : Chg Non wn2 wn3 := by rw [hwn]; exact (Chg.refl Non _).alloc _
            have P10_3 := Lib.hid (show Blk wn3 wn2.heap.size 26 #[.string { data := #[] }, .string { data := #[] }] by rw [hwn]; exact Blk.new _ _ _)
            refine hK1 _ _ ⟨hcn.any, ?_⟩
            have C3 := Lib.hid (C2.out.trans hcn)
            clear hcn hwn
            clear hK1 K1
            change wpG2 _ _ _ _ _ 4 #[true, true, true, true, true, true, true, true, true, true, true, true, true, false, true, false, false, false] _ _
            refine wpG2.acts [13] 3 (by kernel_rfl) rfl (fun i0 hi0 => ?_)
            obtain rfl := List.mem_singleton.1 hi0
            refine wpMix_act rfl (by kernel_rfl) (fun K1 hK1 => ?_)
            go_simp
            obtain ⟨wn4, hwn⟩ : ∃ x, x = wn3.alloc (.cells #[.string { data := #[] }, .string { data := #[] }] 26) := ⟨_, rfl⟩
            rw [← hwn]
            have hcn : Chg Non wn3 wn4 := by rw [hwn]; exact (Chg.refl Non _).alloc _
            have P9_4 := Lib.hid (show Blk wn4 wn3.heap.size 26 #[.string { data := #[] }, .string { data := #[] }] by rw [hwn]; exact Blk.new _ _ _)
            refine hK1 _ _ ⟨hcn.any, ?_⟩
            have C4 := Lib.hid (C3.out.trans hcn)
            have P10_4 := Lib.hid (P10_3.out.chg hcn id)
            clear hcn hwn
            clear hK1 K1
            change wpG2 _ _ _ _ _ 3 #[true, true, true, true, true, true, true, true, true, true, true, true, true, true, true, false, false, false] _ _
            refine wpG2.acts [15] 2 (by kernel_rfl) rfl (fun i0 hi0 => ?_)
            obtain rfl := List.mem_singleton.1 hi0
            refine wpMix_act rfl (by kernel_rfl) (fun K1 hK1 => ?_)
            refine wp_storeB 26 (.tmp 9) (.tmp 39) rfl wn3.heap.size #[.string alo, .string ahi] rfl rfl P9_4.out rfl (by kernel_rfl) (by simp [Value.oneCell']) rfl ?_
            intro wn5 hb hcs hz
            refine hK1 _ _ ⟨hcs.mono fun b _ hb => (show w'.heap.size ≤ b by have : b = wn3.heap.size := hb; have := C3.out.size; omega), ?_⟩
            have C5 := Lib.hid (C4.out.then_ hcs (fun k hk e => by have : k = wn3.heap.size := e; have := C3.out.size; omega))
            have P9_5 := Lib.hid hb
            have P10_5 := Lib.hid (P10_4.out.chg hcs (show ¬ (wn2.heap.size = wn3.heap.size) by have := P10_3.out.lt; omega))
            clear hb hcs hz
            clear hK1 K1
            change wpG2 _ _ _ _ _ 2 #[true, true, true, true, true, true, true, true, true, true, true, true, true, true, true, true, false, false] _ _
            refine wpG2.acts [16] 1 (by kernel_rfl) rfl (fun i0 hi0 => ?_)
            obtain rfl := List.mem_singleton.1 hi0
            refine wpMix_act rfl (by kernel_rfl) (fun K1 hK1 => ?_)
            refine wp_storeB 26 (.tmp 10) (.tmp 40) rfl wn2.heap.size #[.string blo, .string bhi] rfl rfl P10_5.out rfl (by kernel_rfl) (by simp [Value.oneCell']) rfl ?_
            intro wn6 hb hcs hz
            refine hK1 _ _ ⟨hcs.mono fun b _ hb => (show w'.heap.size ≤ b by have : b = wn2.heap.size := hb; have := C2.out.size; omega), ?_⟩
            have C6 := Lib.hid (C5.out.then_ hcs (fun k hk e => by have : k = wn2.heap.size := e; have := C2.out.size; omega))
            have P10_6 := Lib.hid hb
            have P9_6 := Lib.hid (P9_5.out.chg hcs (show ¬ (wn3.heap.size = wn2.heap.size) by have := P10_3.out.lt; omega))
            clear hb hcs hz
            clear hK1 K1
            change wpG2 _ _ _ _ _ 1 #[true, true, true, true, true, true, true, true, true, true, true, true, true, true, true, true, true, false] _ _
            refine wpG2.seg [17] 0 #[true, true, true, true, true, true, true, true, true, true, true, true, true, true, true, true, true, true] rfl (by kernel_rfl) (fun _ _ _ _ h => h) (by kernel_rfl) (by kernel_rfl) ?_
            simp only [List.filterMap_cons, List.filterMap_nil, List.getElem?_toArray, List.getElem?_cons_zero, List.getElem?_cons_succ]
            change wpQuiet _ _ _ _ (_ :: []) _
            repeat (go_big_quiet_step (fail))
            refine wpQuiet_nil ?_
            refine wpG2.last (by kernel_rfl) ?_
            go_wp2_with fail
            go_meet
            exact ⟨_, _, alo, ahi, blo, bhi, ok, rfl, rfl, rfl, P9_6.out, P10_6.out, HZ.out, C6.out⟩
        · refine wpMix_act rfl (by kernel_rfl) (fun K1 hK1 => ?_)
          go_simp
          obtain ⟨wn2, hwn⟩ : ∃ x, x = wn1.alloc (.cells #[.string { data := #[] }, .string { data := #[] }] 26) := ⟨_, rfl⟩
          rw [← hwn]
          have hcn : Chg Non wn1 wn2 := by rw [hwn]; exact (Chg.refl Non _).alloc _
          have P9_2 := Lib.hid (show Blk wn2 wn1.heap.size 26 #[.string { data := #[] }, .string { data := #[] }] by rw [hwn]; exact Blk.new _ _ _)
          refine hK1 _ _ ⟨hcn.any, ?_⟩
          have C2 := Lib.hid (C1.out.trans hcn)
          clear hcn hwn
          clear hK1 K1
          change wpG2 _ _ _ _ _ 9 #[true, true, true, true, true, true, true, true, false, false, false, false, false, true, false, false, false, false] _ _
          refine wpG2.acts [8, 14] 8 (by kernel_rfl) rfl (fun i0 hi0 => ?_)
          simp only [List.mem_cons, List.not_mem_nil, or_false] at hi0
          rcases hi0 with rfl | rfl
          · refine wpMix_act rfl (by kernel_rfl) (fun K1 hK1 => ?_)
            go_simp
            refine (Split_some lo hi sr wn2 o3 o4 HS.out).mono ?_
            rintro e wn3 ⟨alo, ahi, blo, bhi, ok, rfl, hsz, hcn⟩
            refine hK1 _ _ ⟨hcn.any, ?_⟩
            have C3 := Lib.hid (C2.out.trans hcn)
            have HZ := Lib.hid hsz
            have P9_3 := Lib.hid (P9_2.out.chg hcn id)
            clear hcn hsz
            clear hK1 K1
            change wpG2 _ _ _ _ _ 8 #[true, true, true, true, true, true, true, true, true, false, false, false, false, true, false, false, false, false] _ _
            refine wpG2.seg [9, 10, 11, 12] 4 #[true, true, true, true, true, true, true, true, true, true, true, true, true, true, false, false, false, false] rfl (by kernel_rfl) (fun _ _ _ _ h => h) (by kernel_rfl) (by kernel_rfl) ?_
            simp only [List.filterMap_cons, List.filterMap_nil, List.getElem?_toArray, List.getElem?_cons_zero, List.getElem?_cons_succ]
            change wpQuiet _ _ _ _ (_ :: _ :: _ :: _ :: []) _
            repeat (go_big_quiet_step (fail))
            refine wpQuiet_nil ?_
            refine wpG2.acts [14] 3 (by kernel_rfl) rfl (fun i0 hi0 => ?_)
            obtain rfl := List.mem_singleton.1 hi0
            refine wpMix_act rfl (by kernel_rfl) (fun K1 hK1 => ?_)
            go_simp
            obtain ⟨wn4, hwn⟩ : ∃ x, x = wn3.alloc (.cells #[.string { data := #[] }, .string { data := #[] }] 26) := ⟨_, rfl⟩
            rw [← hwn]
            have hcn : Chg Non wn3 wn4 := by rw [hwn]; exact (Chg.refl Non _).alloc _
            have P10_4 := Lib.hid (show Blk wn4 wn3.heap.size 26 #[.string { data := #[] }, .string { data := #[] }] by rw [hwn]; exact Blk.new _ _ _)
            refine hK1 _ _ ⟨hcn.any, ?_⟩
            have C4 := Lib.hid (C3.out.trans hcn)
            have P9_4 := Lib.hid (P9_3.out.chg hcn id)
            clear hcn hwn
            clear hK1 K1
            change wpG2 _ _ _ _ _ 3 #[true, true, true, true, true, true, true, true, true, true, true, true, true, true, true, false, false, false] _ _
            refine wpG2.acts [15] 2 (by kernel_rfl) rfl (fun i0 hi0 => ?_)
            obtain rfl := List.mem_singleton.1 hi0
            refine wpMix_act rfl (by kernel_rfl) (fun K1 hK1 => ?_)
            refine wp_storeB 26 (.tmp 9) (.tmp 39) rfl wn1.heap.size #[.string alo, .string ahi] rfl rfl P9_4.out rfl (by kernel_rfl) (by simp [Value.oneCell']) rfl ?_
            intro wn5 hb hcs hz
            refine hK1 _ _ ⟨hcs.mono fun b _ hb => (show w'.heap.size ≤ b by have : b = wn1.heap.size := hb; have := C1.out.size; omega), ?_⟩
            have C5 := Lib.hid (C4.out.then_ hcs (fun k hk e => by have : k = wn1.heap.size := e; have := C1.out.size; omega))
            have P9_5 := Lib.hid hb
            have P10_5 := Lib.hid (P10_4.out.chg hcs (show ¬ (wn3.heap.size = wn1.heap.size) by have := P9_3.out.lt; omega))
            clear hb hcs hz
            clear hK1 K1
            change wpG2 _ _ _ _ _ 2 #[true, true, true, true, true, true, true, true, true, true, true, true, true, true, true, true, false, false] _ _
            refine wpG2.acts [16] 1 (by kernel_rfl) rfl (fun i0 hi0 => ?_)
            obtain rfl := List.mem_singleton.1 hi0
            refine wpMix_act rfl (by kernel_rfl) (fun K1 hK1 => ?_)
            refine wp_storeB 26 (.tmp 10) (.tmp 40) rfl wn3.heap.size #[.string blo, .string bhi] rfl rfl P10_5.out rfl (by kernel_rfl) (by simp [Value.oneCell']) rfl ?_
            intro wn6 hb hcs hz
            refine hK1 _ _ ⟨hcs.mono fun b _ hb => (show w'.heap.size ≤ b by have : b = wn3.heap.size := hb; have := C3.out.size; omega), ?_⟩
            have C6 := Lib.hid (C5.out.then_ hcs (fun k hk e => by have : k = wn3.heap.size := e; have := C3.out.size; omega))
            have P10_6 := Lib.hid hb
            have P9_6 := Lib.hid (P9_5.out.chg hcs (show ¬ (wn1.heap.size = wn3.heap.size) by have := P9_3.out.lt; omega))
            clear hb hcs hz
            clear hK1 K1
            change wpG2 _ _ _ _ _ 1 #[true, true, true, true, true, true, true, true, true, true, true, true, true, true, true, true, true, false] _ _
            refine wpG2.seg [17] 0 #[true, true, true, true, true, true, true, true, true, true, true, true, true, true, true, true, true, true] rfl (by kernel_rfl) (fun _ _ _ _ h => h) (by kernel_rfl) (by kernel_rfl) ?_
            simp only [List.filterMap_cons, List.filterMap_nil, List.getElem?_toArray, List.getElem?_cons_zero, List.getElem?_cons_succ]
            change wpQuiet _ _ _ _ (_ :: []) _
            repeat (go_big_quiet_step (fail))
            refine wpQuiet_nil ?_
            refine wpG2.last (by kernel_rfl) ?_
            go_wp2_with fail
            go_meet
            exact ⟨_, _, alo, ahi, blo, bhi, ok, rfl, rfl, rfl, P9_6.out, P10_6.out, HZ.out, C6.out⟩
          · refine wpMix_act rfl (by kernel_rfl) (fun K1 hK1 => ?_)
            go_simp
            obtain ⟨wn3, hwn⟩ : ∃ x, x = wn2.alloc (.cells #[.string { data := #[] }, .string { data := #[] }] 26) := ⟨_, rfl⟩
            rw [← hwn]
            have hcn : Chg Non wn2 wn3 := by rw [hwn]; exact (Chg.refl Non _).alloc _
            have P10_3 := Lib.hid (show Blk wn3 wn2.heap.size 26 #[.string { data := #[] }, .string { data := #[] }] by rw [hwn]; exact Blk.new _ _ _)
            refine hK1 _ _ ⟨hcn.any, ?_⟩
            have C3 := Lib.hid (C2.out.trans hcn)
            have P9_3 := Lib.hid (P9_2.out.chg hcn id)
            clear hcn hwn
            clear hK1 K1
            change wpG2 _ _ _ _ _ 8 #[true, true, true, true, true, true, true, true, false, false, false, false, false, true, true, false, false, false] _ _
            refine wpG2.acts [8] 7 (by kernel_rfl) rfl (fun i0 hi0 => ?_)
            obtain rfl := List.mem_singleton.1 hi0
            refine wpMix_act rfl (by kernel_rfl) (fun K1 hK1 => ?_)
            go_simp
            refine (Split_some lo hi sr wn3 o3 o4 HS.out).mono ?_
            rintro e wn4 ⟨alo, ahi, blo, bhi, ok, rfl, hsz, hcn⟩
            refine hK1 _ _ ⟨hcn.any, ?_⟩
            have C4 := Lib.hid (C3.out.trans hcn)
            have HZ := Lib.hid hsz
            have P9_4 := Lib.hid (P9_3.out.chg hcn id)
            have P10_4 := Lib.hid (P10_3.out.chg hcn id)
            clear hcn hsz
            clear hK1 K1
            change wpG2 _ _ _ _ _ 7 #[true, true, true, true, true, true, true, true, true, false, false, false, false, true, true, false, false, false] _ _
            refine wpG2.seg [9, 10, 11, 12] 3 #[true, true, true, true, true, true, true, true, true, true, true, true, true, true, true, false, false, false] rfl (by kernel_rfl) (fun _ _ _ _ h => h) (by kernel_rfl) (by kernel_rfl) ?_
            simp only [List.filterMap_cons, List.filterMap_nil, List.getElem?_toArray, List.getElem?_cons_zero, List.getElem?_cons_succ]
            change wpQuiet _ _ _ _ (_ :: _ :: _ :: _ :: []) _
            repeat (go_big_quiet_step (fail))
            refine wpQuiet_nil ?_
            refine wpG2.acts [15] 2 (by kernel_rfl) rfl (fun i0 hi0 => ?_)
            obtain rfl := List.mem_singleton.1 hi0
            refine wpMix_act rfl (by kernel_rfl) (fun K1 hK1 => ?_)
            refine wp_storeB 26 (.tmp 9) (.tmp 39) rfl wn1.heap.size #[.string alo, .string ahi] rfl rfl P9_4.out rfl (by kernel_rfl) (by simp [Value.oneCell']) rfl ?_
            intro wn5 hb hcs hz
            refine hK1 _ _ ⟨hcs.mono fun b _ hb => (show w'.heap.size ≤ b by have : b = wn1.heap.size := hb; have := C1.out.size; omega), ?_⟩
            have C5 := Lib.hid (C4.out.then_ hcs (fun k hk e => by have : k = wn1.heap.size := e; have := C1.out.size; omega))
            have P9_5 := Lib.hid hb
            have P10_5 := Lib.hid (P10_4.out.chg hcs (show ¬ (wn2.heap.size = wn1.heap.size) by have := P9_2.out.lt; omega))
            clear hb hcs hz
            clear hK1 K1
            change wpG2 _ _ _ _ _ 2 #[true, true, true, true, true, true, true, true, true, true, true, true, true, true, true, true, false, false] _ _
            refine wpG2.acts [16] 1 (by kernel_rfl) rfl (fun i0 hi0 => ?_)
            obtain rfl := List.mem_singleton.1 hi0
            refine wpMix_act rfl (by kernel_rfl) (fun K1 hK1 => ?_)
            refine wp_storeB 26 (.tmp 10) (.tmp 40) rfl wn2.heap.size #[.string blo, .string bhi] rfl rfl P10_5.out rfl (by kernel_rfl) (by simp [Value.oneCell']) rfl ?_
            intro wn6 hb hcs hz
            refine hK1 _ _ ⟨hcs.mono fun b _ hb => (show w'.heap.size ≤ b by have : b = wn2.heap.size := hb; have := C2.out.size; omega), ?_⟩
            have C6 := Lib.hid (C5.out.then_ hcs (fun k hk e => by have : k = wn2.heap.size := e; have := C2.out.size; omega))
            have P10_6 := Lib.hid hb
            have P9_6 := Lib.hid (P9_5.out.chg hcs (show ¬ (wn1.heap.size = wn2.heap.size) by have := P9_2.out.lt; omega))
            clear hb hcs hz
            clear hK1 K1
            change wpG2 _ _ _ _ _ 1 #[true, true, true, true, true, true, true, true, true, true, true, true, true, true, true, true, true, false] _ _
            refine wpG2.seg [17] 0 #[true, true, true, true, true, true, true, true, true, true, true, true, true, true, true, true, true, true] rfl (by kernel_rfl) (fun _ _ _ _ h => h) (by kernel_rfl) (by kernel_rfl) ?_
            simp only [List.filterMap_cons, List.filterMap_nil, List.getElem?_toArray, List.getElem?_cons_zero, List.getElem?_cons_succ]
            change wpQuiet _ _ _ _ (_ :: []) _
            repeat (go_big_quiet_step (fail))
            refine wpQuiet_nil ?_
            refine wpG2.last (by kernel_rfl) ?_
            go_wp2_with fail
            go_meet
            exact ⟨_, _, alo, ahi, blo, bhi, ok, rfl, rfl, rfl, P9_6.out, P10_6.out, HZ.out, C6.out⟩
        · refine wpMix_act rfl (by kernel_rfl) (fun K1 hK1 => ?_)
          go_simp
          obtain ⟨wn2, hwn⟩ : ∃ x, x = wn1.alloc (.cells #[.string { data := #[] }, .string { data := #[] }] 26) := ⟨_, rfl⟩
          rw [← hwn]
          have hcn : Chg Non wn1 wn2 := by rw [hwn]; exact (Chg.refl Non _).alloc _
          have P10_2 := Lib.hid (show Blk wn2 wn1.heap.size 26 #[.string { data := #[] }, .string { data := #[] }] by rw [hwn]; exact Blk.new _ _ _)
          refine hK1 _ _ ⟨hcn.any, ?_⟩
          have C2 := Lib.hid (C1.out.trans hcn)
          clear hcn hwn
          clear hK1 K1
          change wpG2 _ _ _ _ _ 9 #[true, true, true, true, true, true, true, true, false, false, false, false, false, false, true, false, false, false] _ _
          refine wpG2.acts [8, 13] 8 (by kernel_rfl) rfl (fun i0 hi0 => ?_)
          simp only [List.mem_cons, List.not_mem_nil, or_false] at hi0
          rcases hi0 with rfl | rfl
          · refine wpMix_act rfl (by kernel_rfl) (fun K1 hK1 => ?_)
            go_simp
            refine (Split_some lo hi sr wn2 o3 o4 HS.out).mono ?_
            rintro e wn3 ⟨alo, ahi, blo, bhi, ok, rfl, hsz, hcn⟩
            refine hK1 _ _ ⟨hcn.any, ?_⟩
            have C3 := Lib.hid (C2.out.trans hcn)
            have HZ := Lib.hid hsz
            have P10_3 := Lib.hid (P10_2.out.chg hcn id)
            clear hcn hsz
            clear hK1 K1
            change wpG2 _ _ _ _ _ 8 #[true, true, true, true, true, true, true, true, true, false, false, false, false, false, true, false, false, false] _ _
            refine wpG2.seg [9, 10, 11, 12] 4 #[true, true, true, true, true, true, true, true, true, true, true, true, true, false, true, false, false, false] rfl (by kernel_rfl) (fun _ _ _ _ h => h) (by kernel_rfl) (by kernel_rfl) ?_
            simp only [List.filterMap_cons, List.filterMap_nil, List.getElem?_toArray, List.getElem?_cons_zero, List.getElem?_cons_succ]
            change wpQuiet _ _ _ _ (_ :: _ :: _ :: _ :: []) _
            repeat (go_big_quiet_step (fail))
            refine wpQuiet_nil ?_
            refine wpG2.acts [13] 3 (by kernel_rfl) rfl (fun i0 hi0 => ?_)
            obtain rfl := List.mem_singleton.1 hi0
            refine wpMix_act rfl (by kernel_rfl) (fun K1 hK1 => ?_)
            go_simp
            obtain ⟨wn4, hwn⟩ : ∃ x, x = wn3.alloc (.cells #[.string { data := #[] }, .string { data := #[] }] 26) := ⟨_, rfl⟩
            rw [← hwn]
            have hcn : Chg Non wn3 wn4 := by rw [hwn]; exact (Chg.refl Non _).alloc _
            have P9_4 := Lib.hid (show Blk wn4 wn3.heap.size 26 #[.string { data := #[] }, .string { data := #[] }] by rw [hwn]; exact Blk.new _ _ _)
            refine hK1 _ _ ⟨hcn.any, ?_⟩
            have C4 := Lib.hid (C3.out.trans hcn)
            have P10_4 := Lib.hid (P10_3.out.chg hcn id)
            clear hcn hwn
            clear hK1 K1
            change wpG2 _ _ _ _ _ 3 #[true, true, true, true, true, true, true, true, true, true, true, true, true, true, true, false, false, false] _ _
            refine wpG2.acts [15] 2 (by kernel_rfl) rfl (fun i0 hi0 => ?_)
            obtain rfl := List.mem_singleton.1 hi0
            refine wpMix_act rfl (by kernel_rfl) (fun K1 hK1 => ?_)
            refine wp_storeB 26 (.tmp 9) (.tmp 39) rfl wn3.heap.size #[.string alo, .string ahi] rfl rfl P9_4.out rfl (by kernel_rfl) (by simp [Value.oneCell']) rfl ?_
            intro wn5 hb hcs hz
            refine hK1 _ _ ⟨hcs.mono fun b _ hb => (show w'.heap.size ≤ b by have : b = wn3.heap.size := hb; have := C3.out.size; omega), ?_⟩
            have C5 := Lib.hid (C4.out.then_ hcs (fun k hk e => by have : k = wn3.heap.size := e; have := C3.out.size; omega))
            have P9_5 := Lib.hid hb
            have P10_5 := Lib.hid (P10_4.out.chg hcs (show ¬ (wn1.heap.size = wn3.heap.size) by have := P10_3.out.lt; omega))
            clear hb hcs hz
            clear hK1 K1
            change wpG2 _ _ _ _ _ 2 #[true, true, true, true, true, true, true, true, true, true, true, true, true, true, true, true, false, false] _ _
            refine wpG2.acts [16] 1 (by kernel_rfl) rfl (fun i0 hi0 => ?_)
            obtain rfl := List.mem_singleton.1 hi0
            refine wpMix_act rfl (by kernel_rfl) (fun K1 hK1 => ?_)
            refine wp_storeB 26 (.tmp 10) (.tmp 40) rfl wn1.heap.size #[.string blo, .string bhi] rfl rfl P10_5.out rfl (by kernel_rfl) (by simp [Value.oneCell']) rfl ?_
            intro wn6 hb hcs hz
            refine hK1 _ _ ⟨hcs.mono fun b _ hb => (show w'.heap.size ≤ b by have : b = wn1.heap.size := hb; have := C1.out.size; omega), ?_⟩
            have C6 := Lib.hid (C5.out.then_ hcs (fun k hk e => by have : k = wn1.heap.size := e; have := C1.out.size; omega))
            have P10_6 := Lib.hid hb
            have P9_6 := Lib.hid (P9_5.out.chg hcs (show ¬ (wn3.heap.size = wn1.heap.size) by have := P10_3.out.lt; omega))
            clear hb hcs hz
            clear hK1 K1
            change wpG2 _ _ _ _ _ 1 #[true, true, true, true, true, true, true, true, true, true, true, true, true, true, true, true, true, false] _ _
            refine wpG2.seg [17] 0 #[true, true, true, true, true, true, true, true, true, true, true, true, true, true, true, true, true, true] rfl (by kernel_rfl) (fun _ _ _ _ h => h) (by kernel_rfl) (by kernel_rfl) ?_
            simp only [List.filterMap_cons, List.filterMap_nil, List.getElem?_toArray, List.getElem?_cons_zero, List.getElem?_cons_succ]
            change wpQuiet _ _ _ _ (_ :: []) _
            repeat (go_big_quiet_step (fail))
            refine wpQuiet_nil ?_
            refine wpG2.last (by kernel_rfl) ?_
            go_wp2_with fail
            go_meet
            exact ⟨_, _, alo, ahi, blo, bhi, ok, rfl, rfl, rfl, P9_6.out, P10_6.out, HZ.out, C6.out⟩
          · refine wpMix_act rfl (by kernel_rfl) (fun K1 hK1 => ?_)
            go_simp
            obtain ⟨wn3, hwn⟩ : ∃ x, x = wn2.alloc (.cells #[.string { data := #[] }, .string { data := #[] }] 26) := ⟨_, rfl⟩
            rw [← hwn]
            have hcn : Chg Non wn2 wn3 := by rw [hwn]; exact (Chg.refl Non _).alloc _
            have P9_3 := Lib.hid (show Blk wn3 wn2.heap.size 26 #[.string { data := #[] }, .string { data := #[] }] by rw [hwn]; exact Blk.new _ _ _)
            refine hK1 _ _ ⟨hcn.any, ?_⟩
            have C3 := Lib.hid (C2.out.trans hcn)
            have P10_3 := Lib.hid (P10_2.out.chg hcn id)
            clear hcn hwn
            clear hK1 K1
            change wpG2 _ _ _ _ _ 8 #[true, true, true, true, true, true, true, true, false, false, false, false, false, true, true, false, false, false] _ _
            refine wpG2.acts [8] 7 (by kernel_rfl) rfl (fun i0 hi0 => ?_)
            obtain rfl := List.mem_singleton.1 hi0
            refine wpMix_act rfl (by kernel_rfl) (fun K1 hK1 => ?_)
            go_simp
            refine (Split_some lo hi sr wn3 o3 o4 HS.out).mono ?_
            rintro e wn4 ⟨alo, ahi, blo, bhi, ok, rfl, hsz, hcn⟩
            refine hK1 _ _ ⟨hcn.any, ?_⟩
            have C4 := Lib.hid (C3.out.trans hcn)
            have HZ := Lib.hid hsz
            have P10_4 := Lib.hid (P10_3.out.chg hcn id)
            have P9_4 := Lib.hid (P9_3.out.chg hcn id)
            clear hcn hsz
            clear hK1 K1
            change wpG2 _ _ _ _ _ 7 #[true, true, true, true, true, true, true, true, true, false, false, false, false, true, true, false, false, false] _ _
            refine wpG2.seg [9, 10, 11, 12] 3 #[true, true, true, true, true, true, true, true, true, true, true, true, true, true, true, false, false, false] rfl (by kernel_rfl) (fun _ _ _ _ h => h) (by kernel_rfl) (by kernel_rfl) ?_
            simp only [List.filterMap_cons, List.filterMap_nil, List.getElem?_toArray, List.getElem?_cons_zero, List.getElem?_cons_succ]
            change wpQuiet _ _ _ _ (_ :: _ :: _ :: _ :: []) _
            repeat (go_big_quiet_step (fail))
            refine wpQuiet_nil ?_
            refine wpG2.acts [15] 2 (by kernel_rfl) rfl (fun i0 hi0 => ?_)
            obtain rfl := List.mem_singleton.1 hi0
            refine wpMix_act rfl (by kernel_rfl) (fun K1 hK1 => ?_)
            refine wp_storeB 26 (.tmp 9) (.tmp 39) rfl wn2.heap.size #[.string alo, .string ahi] rfl rfl P9_4.out rfl (by kernel_rfl) (by simp [Value.oneCell']) rfl ?_
            intro wn5 hb hcs hz
            refine hK1 _ _ ⟨hcs.mono fun b _ hb => (show w'.heap.size ≤ b by have : b = wn2.heap.size := hb; have := C2.out.size; omega), ?_⟩
            have C5 := Lib.hid (C4.out.then_ hcs (fun k hk e => by have : k = wn2.heap.size := e; have := C2.out.size; omega))
            have P9_5 := Lib.hid hb
            have P10_5 := Lib.hid (P10_4.out.chg hcs (show ¬ (wn1.heap.size = wn2.heap.size) by have := P10_2.out.lt; omega))
            clear hb hcs hz
            clear hK1 K1
            change wpG2 _ _ _ _ _ 2 #[true, true, true, true, true, true, true, true, true, true, true, true, true, true, true, true, false, false] _ _
            refine wpG2.acts [16] 1 (by kernel_rfl) rfl (fun i0 hi0 => ?_)
            obtain rfl := List.mem_singleton.1 hi0
            refine wpMix_act rfl (by kernel_rfl) (fun K1 hK1 => ?_)
            refine wp_storeB 26 (.tmp 10) (.tmp 40) rfl wn1.heap.size #[.string blo, .string bhi] rfl rfl P10_5.out rfl (by kernel_rfl) (by simp [Value.oneCell']) rfl ?_
            intro wn6 hb hcs hz
            refine hK1 _ _ ⟨hcs.mono fun b _ hb => (show w'.heap.size ≤ b by have : b = wn1.heap.size := hb; have := C1.out.size; omega), ?_⟩
            have C6 := Lib.hid (C5.out.then_ hcs (fun k hk e => by have : k = wn1.heap.size := e; have := C1.out.size; omega))
            have P10_6 := Lib.hid hb
            have P9_6 := Lib.hid (P9_5.out.chg hcs (show ¬ (wn2.heap.size = wn1.heap.size) by have := P10_2.out.lt; omega))
            clear hb hcs hz
            clear hK1 K1
            change wpG2 _ _ _ _ _ 1 #[true, true, true, true, true, true, true, true, true, true, true, true, true, true, true, true, true, false] _ _
            refine wpG2.seg [17] 0 #[true, true, true, true, true, true, true, true, true, true, true, true, true, true, true, true, true, true] rfl (by kernel_rfl) (fun _ _ _ _ h => h) (by kernel_rfl) (by kernel_rfl) ?_
            simp only [List.filterMap_cons, List.filterMap_nil, List.getElem?_toArray, List.getElem?_cons_zero, List.getElem?_cons_succ]
            change wpQuiet _ _ _ _ (_ :: []) _
            repeat (go_big_quiet_step (fail))
            refine wpQuiet_nil ?_
            refine wpG2.last (by kernel_rfl) ?_
            go_wp2_with fail
            go_meet
            exact ⟨_, _, alo, ahi, blo, bhi, ok, rfl, rfl, rfl, P9_6.out, P10_6.out, HZ.out, C6.out⟩
      · refine wpMix_act rfl (by kernel_rfl) (fun K1 hK1 => ?_)
        go_simp
        obtain ⟨wn1, hwn⟩ : ∃ x, x = wn0.alloc (.cells #[.string { data := #[] }, .string { data := #[] }] 26) := ⟨_, rfl⟩
        rw [← hwn]
        have hcn : Chg Non wn0 wn1 := by rw [hwn]; exact (Chg.refl Non _).alloc _
        have P9_1 := Lib.hid (show Blk wn1 wn0.heap.size 26 #[.string { data := #[] }, .string { data := #[] }] by rw [hwn]; exact Blk.new _ _ _)
        refine hK1 _ _ ⟨hcn.any, ?_⟩
        have C1 := Lib.hid (C0.out.trans hcn)
        clear hcn hwn
        clear hK1 K1
        change wpG2 _ _ _ _ _ 10 #[true, true, true, true, true, true, true, false, false, false, false, false, false, true, false, false, false, false] _ _
        refine wpG2.acts [7, 14] 9 (by kernel_rfl) rfl (fun i0 hi0 => ?_)
        simp only [List.mem_cons, List.not_mem_nil, or_false] at hi0
        rcases hi0 with rfl | rfl
        · refine wpMix_act rfl (by kernel_rfl) (fun K1 hK1 => ?_)
          go_simp
          refine (H.out.2.2.2.2.2.2.1 wn1).mono ?_
          rintro e wn2 ⟨sr, rfl, hsr, hcn⟩
          refine hK1 _ _ ⟨hcn.any, ?_⟩
          have C2 := Lib.hid (C1.out.trans hcn)
          have HS := Lib.hid hsr
          have P9_2 := Lib.hid (P9_1.out.chg hcn id)
          clear hcn hsr
          clear hK1 K1
          change wpG2 _ _ _ _ _ 9 #[true, true, true, true, true, true, true, true, false, false, false, false, false, true, false, false, false, false] _ _
          refine wpG2.acts [8, 14] 8 (by kernel_rfl) rfl (fun i0 hi0 => ?_)
          simp only [List.mem_cons, List.not_mem_nil, or_false] at hi0
          rcases hi0 with rfl | rfl
          · refine wpMix_act rfl (by kernel_rfl) (fun K1 hK1 => ?_)
            go_simp
            refine (Split_some lo hi sr wn2 o3 o4 HS.out).mono ?_
            rintro e wn3 ⟨alo, ahi, blo, bhi, ok, rfl, hsz, hcn⟩
            refine hK1 _ _ ⟨hcn.any, ?_⟩
            have C3 := Lib.hid (C2.out.trans hcn)
            have HZ := Lib.hid hsz
            have P9_3 := Lib.hid (P9_2.out.chg hcn id)
            clear hcn hsz
            clear hK1 K1
            change wpG2 _ _ _ _ _ 8 #[true, true, true, true, true, true, true, true, true, false, false, false, false, true, false, false, false, false] _ _
            refine wpG2.seg [9, 10, 11, 12] 4 #[true, true, true, true, true, true, true, true, true, true, true, true, true, true, false, false, false, false] rfl (by kernel_rfl) (fun _ _ _ _ h => h) (by kernel_rfl) (by kernel_rfl) ?_
            simp only [List.filterMap_cons, List.filterMap_nil, List.getElem?_toArray, List.getElem?_cons_zero, List.getElem?_cons_succ]
            change wpQuiet _ _ _ _ (_ :: _ :: _ :: _ :: []) _
            repeat (go_big_quiet_step (fail))
            refine wpQuiet_nil ?_
            refine wpG2.acts [14] 3 (by kernel_rfl) rfl (fun i0 hi0 => ?_)
            obtain rfl := List.mem_singleton.1 hi0
            refine wpMix_act rfl (by kernel_rfl) (fun K1 hK1 => ?_)
            go_simp
            obtain ⟨wn4, hwn⟩ : ∃ x, x = wn3.alloc (.cells #[.string { data := #[] }, .string { data := #[] }] 26) := ⟨_, rfl⟩
            rw [← hwn]
            have hcn : Chg Non wn3 wn4 := by rw [hwn]; exact (Chg.refl Non _).alloc _
            have P10_4 := Lib.hid (show Blk wn4 wn3.heap.size 26 #[.string { data := #[] }, .string { data := #[] }] by rw [hwn]; exact Blk.new _ _ _)
            refine hK1 _ _ ⟨hcn.any, ?_⟩
            have C4 := Lib.hid (C3.out.trans hcn)
            have P9_4 := Lib.hid (P9_3.out.chg hcn id)
            clear hcn hwn
            clear hK1 K1
            change wpG2 _ _ _ _ _ 3 #[true, true, true, true, true, true, true, true, true, true, true, true, true, true, true, false, false, false] _ _
            refine wpG2.acts [15] 2 (by kernel_rfl) rfl (fun i0 hi0 => ?_)
            obtain rfl := List.mem_singleton.1 hi0
            refine wpMix_act rfl (by kernel_rfl) (fun K1 hK1 => ?_)
            refine wp_storeB 26 (.tmp 9) (.tmp 39) rfl wn0.heap.size #[.string alo, .string ahi] rfl rfl P9_4.out rfl (by kernel_rfl) (by simp [Value.oneCell']) rfl ?_
            intro wn5 hb hcs hz
            refine hK1 _ _ ⟨hcs.mono fun b _ hb => (show w'.heap.size ≤ b by have : b = wn0.heap.size := hb; have := C0.out.size; omega), ?_⟩
            have C5 := Lib.hid (C4.out.then_ hcs (fun k hk e => by have : k = wn0.heap.size := e; have := C0.out.size; omega))
            have P9_5 := Lib.hid hb
            have P10_5 := Lib.hid (P10_4.out.chg hcs (show ¬ (wn3.heap.size = wn0.heap.size) by have := P9_3.out.lt; omega))
            clear hb hcs hz
            clear hK1 K1
            change wpG2 _ _ _ _ _ 2 #[true, true, true, true, true, true, true, true, true, true, true, true, true, true, true, true, false, false] _ _
            refine wpG2.acts [16] 1 (by kernel_rfl) rfl (fun i0 hi0 => ?_)
            obtain rfl := List.mem_singleton.1 hi0
            refine wpMix_act rfl (by kernel_rfl) (fun K1 hK1 => ?_)
            refine wp_storeB 26 (.tmp 10) (.tmp 40) rfl wn3.heap.size #[.string blo, .string bhi] rfl rfl P10_5.out rfl (by kernel_rfl) (by simp [Value.oneCell']) rfl ?_
            intro wn6 hb hcs hz
            refine hK1 _ _ ⟨hcs.mono fun b _ hb => (show w'.heap.size ≤ b by have : b = wn3.heap.size := hb; have := C3.out.size; omega), ?_⟩
            have C6 := Lib.hid (C5.out.then_ hcs (fun k hk e => by have : k = wn3.heap.size := e; have := C3.out.size; omega))
            have P10_6 := Lib.hid hb
            have P9_6 := Lib.hid (P9_5.out.chg hcs (show ¬ (wn0.heap.size = wn3.heap.size) by have := P9_3.out.lt; omega))
            clear hb hcs hz
            clear hK1 K1
            change wpG2 _ _ _ _ _ 1 #[true, true, true, true, true, true, true, true, true, true, true, true, true, true, true, true, true, false] _ _
            refine wpG2.seg [17] 0 #[true, true, true, true, true, true, true, true, true, true, true, true, true, true, true, true, true, true] rfl (by kernel_rfl) (fun _ _ _ _ h => h) (by kernel_rfl) (by kernel_rfl) ?_
            simp only [List.filterMap_cons, List.filterMap_nil, List.getElem?_toArray, List.getElem?_cons_zero, List.getElem?_cons_succ]
            change wpQuiet _ _ _ _ (_ :: []) _
            repeat (go_big_quiet_step (fail))
            refine wpQuiet_nil ?_
            refine wpG2.last (by kernel_rfl) ?_
            go_wp2_with fail
            go_meet
            exact ⟨_, _, alo, ahi, blo, bhi, ok, rfl, rfl, rfl, P9_6.out, P10_6.out, HZ.out, C6.out⟩
          · refine wpMix_act rfl (by kernel_rfl) (fun K1 hK1 => ?_)
            go_simp
            obtain ⟨wn3, hwn⟩ : ∃ x, x = wn2.alloc (.cells #[.string { data := #[] }, .string { data := #[] }] 26) := ⟨_, rfl⟩
            rw [← hwn]
            have hcn : Chg Non wn2 wn3 := by rw [hwn]; exact (Chg.refl Non _).alloc _
            have P10_3 := Lib.hid (show Blk wn3 wn2.heap.size 26 #[.string { data := #[] }, .string { data := #[] }] by rw [hwn]; exact Blk.new _ _ _)
            refine hK1 _ _ ⟨hcn.any, ?_⟩
            have C3 := Lib.hid (C2.out.trans hcn)
            have P9_3 := Lib.hid (P9_2.out.chg hcn id)
            clear hcn hwn
            clear hK1 K1
            change wpG2 _ _ _ _ _ 8 #[true, true, true, true, true, true, true, true, false, false, false, false, false, true, true, false, false, false] _ _
            refine wpG2.acts [8] 7 (by kernel_rfl) rfl (fun i0 hi0 => ?_)
            obtain rfl := List.mem_singleton.1 hi0
            refine wpMix_act rfl (by kernel_rfl) (fun K1 hK1 => ?_)
            go_simp
            refine (Split_some lo hi sr wn3 o3 o4 HS.out).mono ?_
            rintro e wn4 ⟨alo, ahi, blo, bhi, ok, rfl, hsz, hcn⟩
            refine hK1 _ _ ⟨hcn.any, ?_⟩
            have C4 := Lib.hid (C3.out.trans hcn)
            have HZ := Lib.hid hsz
            have P9_4 := Lib.hid (P9_3.out.chg hcn id)
            have P10_4 := Lib.hid (P10_3.out.chg hcn id)
            clear hcn hsz
            clear hK1 K1
            change wpG2 _ _ _ _ _ 7 #[true, true, true, true, true, true, true, true, true, false, false, false, false, true, true, false, false, false] _ _
            refine wpG2.seg [9, 10, 11, 12] 3 #[true, true, true, true, true, true, true, true, true, true, true, true, true, true, true, false, false, false] rfl (by kernel_rfl) (fun _ _ _ _ h => h) (by kernel_rfl) (by kernel_rfl) ?_
            simp only [List.filterMap_cons, List.filterMap_nil, List.getElem?_toArray, List.getElem?_cons_zero, List.getElem?_cons_succ]
            change wpQuiet _ _ _ _ (_ :: _ :: _ :: _ :: []) _
            repeat (go_big_quiet_step (fail))
            refine wpQuiet_nil ?_
            refine wpG2.acts [15] 2 (by kernel_rfl) rfl (fun i0 hi0 => ?_)
            obtain rfl := List.mem_singleton.1 hi0
            refine wpMix_act rfl (by kernel_rfl) (fun K1 hK1 => ?_)
            refine wp_storeB 26 (.tmp 9) (.tmp 39) rfl wn0.heap.size #[.string alo, .string ahi] rfl rfl P9_4.out rfl (by kernel_rfl) (by simp [Value.oneCell']) rfl ?_
            intro wn5 hb hcs hz
            refine hK1 _ _ ⟨hcs.mono fun b _ hb => (show w'.heap.size ≤ b by have : b = wn0.heap.size := hb; have := C0.out.size; omega), ?_⟩
            have C5 := Lib.hid (C4.out.then_ hcs (fun k hk e => by have : k = wn0.heap.size := e; have := C0.out.size; omega))
            have P9_5 := Lib.hid hb
            have P10_5 := Lib.hid (P10_4.out.chg hcs (show ¬ (wn2.heap.size = wn0.heap.size) by have := P9_2.out.lt; omega))
            clear hb hcs hz
            clear hK1 K1
            change wpG2 _ _ _ _ _ 2 #[true, true, true, true, true, true, true, true, true, true, true, true, true, true, true, true, false, false] _ _
            refine wpG2.acts [16] 1 (by kernel_rfl) rfl (fun i0 hi0 => ?_)
            obtain rfl := List.mem_singleton.1 hi0
            refine wpMix_act rfl (by kernel_rfl) (fun K1 hK1 => ?_)
            refine wp_storeB 26 (.tmp 10) (.tmp 40) rfl wn2.heap.size #[.string blo, .string bhi] rfl rfl P10_5.out rfl (by kernel_rfl) (by simp [Value.oneCell']) rfl ?_
            intro wn6 hb hcs hz
            refine hK1 _ _ ⟨hcs.mono fun b _ hb => (show w'.heap.size ≤ b by have : b = wn2.heap.size := hb; have := C2.out.size; omega), ?_⟩
            have C6 := Lib.hid (C5.out.then_ hcs (fun k hk e => by have : k = wn2.heap.size := e; have := C2.out.size; omega))
            have P10_6 := Lib.hid hb
            have P9_6 := Lib.hid (P9_5.out.chg hcs (show ¬ (wn0.heap.size = wn2.heap.size) by have := P9_2.out.lt; omega))
            clear hb hcs hz
            clear hK1 K1
            change wpG2 _ _ _ _ _ 1 #[true, true, true, true, true, true, true, true, true, true, true, true, true, true, true, true, true, false] _ _
            refine wpG2.seg [17] 0 #[true, true, true, true, true, true, true, true, true, true, true, true, true, true, true, true, true, true] rfl (by kernel_rfl) (fun _ _ _ _ h => h) (by kernel_rfl) (by kernel_rfl) ?_
            simp only [List.filterMap_cons, List.filterMap_nil, List.getElem?_toArray, List.getElem?_cons_zero, List.getElem?_cons_succ]
            change wpQuiet _ _ _ _ (_ :: []) _
            repeat (go_big_quiet_step (fail))
            refine wpQuiet_nil ?_
            refine wpG2.last (by kernel_rfl) ?_
            go_wp2_with fail
            go_meet
            exact ⟨_, _, alo, ahi, blo, bhi, ok, rfl, rfl, rfl, P9_6.out, P10_6.out, HZ.out, C6.out⟩
        · refine wpMix_act rfl (by kernel_rfl) (fun K1 hK1 => ?_)
          go_simp
          obtain ⟨wn2, hwn⟩ : ∃ x, x = wn1.alloc (.cells #[.string { data := #[] }, .string { data := #[] }] 26) := ⟨_, rfl⟩
          rw [← hwn]
          have hcn : Chg Non wn1 wn2 := by rw [hwn]; exact (Chg.refl Non _).alloc _
          have P10_2 := Lib.hid (show Blk wn2 wn1.heap.size 26 #[.string { data := #[] }, .string { data := #[] }] by rw [hwn]; exact Blk.new _ _ _)
          refine hK1 _ _ ⟨hcn.any, ?_⟩
          have C2 := Lib.hid (C1.out.trans hcn)
          have P9_2 := Lib.hid (P9_1.out.chg hcn id)
          clear hcn hwn
          clear hK1 K1
          change wpG2 _ _ _ _ _ 9 #[true, true, true, true, true, true, true, false, false, false, false, false, false, true, true, false, false, false] _ _
          refine wpG2.acts [7] 8 (by kernel_rfl) rfl (fun i0 hi0 => ?_)
          obtain rfl := List.mem_singleton.1 hi0
          refine wpMix_act rfl (by kernel_rfl) (fun K1 hK1 => ?_)
          go_simp
          refine (H.out.2.2.2.2.2.2.1 wn2).mono ?_
          rintro e wn3 ⟨sr, rfl, hsr, hcn⟩
          refine hK1 _ _ ⟨hcn.any, ?_⟩
          have C3 := Lib.hid (C2.out.trans hcn)
          have HS := Lib.hid hsr
          have P9_3 := Lib.hid (P9_2.out.chg hcn id)
          have P10_3 := Lib.hid (P10_2.out.chg hcn id)
          clear hcn hsr
          clear hK1 K1
          change wpG2 _ _ _ _ _ 8 #[true, true, true, true, true, true, true, true, false, false, false, false, false, true, true, false, false, false] _ _
          refine wpG2.acts [8] 7 (by kernel_rfl) rfl (fun i0 hi0 => ?_)
          obtain rfl := List.mem_singleton.1 hi0
          refine wpMix_act rfl (by kernel_rfl) (fun K1 hK1 => ?_)
          go_simp
          refine (Split_some lo hi sr wn3 o3 o4 HS.out).mono ?_
          rintro e wn4 ⟨alo, ahi, blo, bhi, ok, rfl, hsz, hcn⟩
          refine hK1 _ _ ⟨hcn.any, ?_⟩
          have C4 := Lib.hid (C3.out.trans hcn)
          have HZ := Lib.hid hsz
          have P9_4 := Lib.hid (P9_3.out.chg hcn id)
          have P10_4 := Lib.hid (P10_3.out.chg hcn id)
          clear hcn hsz
          clear hK1 K1
          change wpG2 _ _ _ _ _ 7 #[true, true, true, true, true, true, true, true, true, false, false, false, false, true, true, false, false, false] _ _
          refine wpG2.seg [9, 10, 11, 12] 3 #[true, true, true, true, true, true, true, true, true, true, true, true, true, true, true, false, false, false] rfl (by kernel_rfl) (fun _ _ _ _ h => h) (by kernel_rfl) (by kernel_rfl) ?_
          simp only [List.filterMap_cons, List.filterMap_nil, List.getElem?_toArray, List.getElem?_cons_zero, List.getElem?_cons_succ]
          change wpQuiet _ _ _ _ (_ :: _ :: _ :: _ :: []) _
          repeat (go_big_quiet_step (fail))
          refine wpQuiet_nil ?_
          refine wpG2.acts [15] 2 (by kernel_rfl) rfl (fun i0 hi0 => ?_)
          obtain rfl := List.mem_singleton.1 hi0
          refine wpMix_act rfl (by kernel_rfl) (fun K1 hK1 => ?_)
          refine wp_storeB 26 (.tmp 9) (.tmp 39) rfl wn0.heap.size #[.string alo, .string ahi] rfl rfl P9_4.out rfl (by kernel_rfl) (by simp [Value.oneCell']) rfl ?_
          intro wn5 hb hcs hz
          refine hK1 _ _ ⟨hcs.mono fun b _ hb => (show w'.heap.size ≤ b by have : b = wn0.heap.size := hb; have := C0.out.size; omega), ?_⟩
          have C5 := Lib.hid (C4.out.then_ hcs (fun k hk e => by have : k = wn0.heap.size := e; have := C0.out.size; omega))
          have P9_5 := Lib.hid hb
          have P10_5 := Lib.hid (P10_4.out.chg hcs (show ¬ (wn1.heap.size = wn0.heap.size) by have := P9_1.out.lt; omega))
          clear hb hcs hz
          clear hK1 K1
          change wpG2 _ _ _ _ _ 2 #[true, true, true, true, true, true, true, true, true, true, true, true, true, true, true, true, false, false] _ _
          refine wpG2.acts [16] 1 (by kernel_rfl) rfl (fun i0 hi0 => ?_)
          obtain rfl := List.mem_singleton.1 hi0
          refine wpMix_act rfl (by kernel_rfl) (fun K1 hK1 => ?_)
          refine wp_storeB 26 (.tmp 10) (.tmp 40) rfl wn1.heap.size #[.string blo, .string bhi] rfl rfl P10_5.out rfl (by kernel_rfl) (by simp [Value.oneCell']) rfl ?_
          intro wn6 hb hcs hz
          refine hK1 _ _ ⟨hcs.mono fun b _ hb => (show w'.heap.size ≤ b by have : b = wn1.heap.size := hb; have := C1.out.size; omega), ?_⟩
          have C6 := Lib.hid (C5.out.then_ hcs (fun k hk e => by have : k = wn1.heap.size := e; have := C1.out.size; omega))
          have P10_6 := Lib.hid hb
          have P9_6 := Lib.hid (P9_5.out.chg hcs (show ¬ (wn0.heap.size = wn1.heap.size) by have := P9_1.out.lt; omega))
          clear hb hcs hz
          clear hK1 K1
          change wpG2 _ _ _ _ _ 1 #[true, true, true, true, true, true, true, true, true, true, true, true, true, true, true, true, true, false] _ _
          refine wpG2.seg [17] 0 #[true, true, true, true, true, true, true, true, true, true, true, true, true, true, true, true, true, true] rfl (by kernel_rfl) (fun _ _ _ _ h => h) (by kernel_rfl) (by kernel_rfl) ?_
          simp only [List.filterMap_cons, List.filterMap_nil, List.getElem?_toArray, List.getElem?_cons_zero, List.getElem?_cons_succ]
          change wpQuiet _ _ _ _ (_ :: []) _
          repeat (go_big_quiet_step (fail))
          refine wpQuiet_nil ?_
          refine wpG2.last (by kernel_rfl) ?_
          go_wp2_with fail
          go_meet
          exact ⟨_, _, alo, ahi, blo, bhi, ok, rfl, rfl, rfl, P9_6.out, P10_6.out, HZ.out, C6.out⟩
      · refine wpMix_act rfl (by kernel_rfl) (fun K1 hK1 => ?_)
        go_simp
        obtain ⟨wn1, hwn⟩ : ∃ x, x = wn0.alloc (.cells #[.string { data := #[] }, .string { data := #[] }] 26) := ⟨_, rfl⟩
        rw [← hwn]
        have hcn : Chg Non wn0 wn1 := by rw [hwn]; exact (Chg.refl Non _).alloc _
        have P10_1 := Lib.hid (show Blk wn1 wn0.heap.size 26 #[.string { data := #[] }, .string { data := #[] }] by rw [hwn]; exact Blk.new _ _ _)
        refine hK1 _ _ ⟨hcn.any, ?_⟩
        have C1 := Lib.hid (C0.out.trans hcn)
        clear hcn hwn
        clear hK1 K1
        change wpG2 _ _ _ _ _ 10 #[true, true, true, true, true, true, true, false, false, false, false, false, false, false, true, false, false, false] _ _
        refine wpG2.acts [7, 13] 9 (by kernel_rfl) rfl (fun i0 hi0 => ?_)
        simp only [List.mem_cons, List.not_mem_nil, or_false] at hi0
        rcases hi0 with rfl | rfl
        · refine wpMix_act rfl (by kernel_rfl) (fun K1 hK1 => ?_)
          go_simp
          refine (H.out.2.2.2.2.2.2.1 wn1).mono ?_
          rintro e wn2 ⟨sr, rfl, hsr, hcn⟩
          refine hK1 _ _ ⟨hcn.any, ?_⟩
          have C2 := Lib.hid (C1.out.trans hcn)
          have HS := Lib.hid hsr
          have P10_2 := Lib.hid (P10_1.out.chg hcn id)
          clear hcn hsr
          clear hK1 K1
          change wpG2 _ _ _ _ _ 9 #[true, true, true, true, true, true, true, true, false, false, false, false, false, false, true, false, false, false] _ _
          refine wpG2.acts [8, 13] 8 (by kernel_rfl) rfl (fun i0 hi0 => ?_)
          simp only [List.mem_cons, List.not_mem_nil, or_false] at hi0
          rcases hi0 with rfl | rfl
          · refine wpMix_act rfl (by kernel_rfl) (fun K1 hK1 => ?_)
            go_simp
            refine (Split_some lo hi sr wn2 o3 o4 HS.out).mono ?_
            rintro e wn3 ⟨alo, ahi, blo, bhi, ok, rfl, hsz, hcn⟩
            refine hK1 _ _ ⟨hcn.any, ?_⟩
            have C3 := Lib.hid (C2.out.trans hcn)
            have HZ := Lib.hid hsz
            have P10_3 := Lib.hid (P10_2.out.chg hcn id)
            clear hcn hsz
            clear hK1 K1
            change wpG2 _ _ _ _ _ 8 #[true, true, true, true, true, true, true, true, true, false, false, false, false, false, true, false, false, false] _ _
            refine wpG2.seg [9, 10, 11, 12] 4 #[true, true, true, true, true, true, true, true, true, true, true, true, true, false, true, false, false, false] rfl (by kernel_rfl) (fun _ _ _ _ h => h) (by kernel_rfl) (by kernel_rfl) ?_
            simp only [List.filterMap_cons, List.filterMap_nil, List.getElem?_toArray, List.getElem?_cons_zero, List.getElem?_cons_succ]
            change wpQuiet _ _ _ _ (_ :: _ :: _ :: _ :: []) _
            repeat (go_big_quiet_step (fail))
            refine wpQuiet_nil ?_
            refine wpG2.acts [13] 3 (by kernel_rfl) rfl (fun i0 hi0 => ?_)
            obtain rfl := List.mem_singleton.1 hi0
            refine wpMix_act rfl (by kernel_rfl) (fun K1 hK1 => ?_)
            go_simp
            obtain ⟨wn4, hwn⟩ : ∃ x, x = wn3.alloc (.cells #[.string { data := #[] }, .string { data := #[] }] 26) := ⟨_, rfl⟩
            rw [← hwn]
            have hcn : Chg Non wn3 wn4 := by rw [hwn]; exact (Chg.refl Non _).alloc _
            have P9_4 := Lib.hid (show Blk wn4 wn3.heap.size 26 #[.string { data := #[] }, .string { data := #[] }] by rw [hwn]; exact Blk.new _ _ _)
            refine hK1 _ _ ⟨hcn.any, ?_⟩
            have C4 := Lib.hid (C3.out.trans hcn)
            have P10_4 := Lib.hid (P10_3.out.chg hcn id)
            clear hcn hwn
            clear hK1 K1
            change wpG2 _ _ _ _ _ 3 #[true, true, true, true, true, true, true, true, true, true, true, true, true, true, true, false, false, false] _ _
            refine wpG2.acts [15] 2 (by kernel_rfl) rfl (fun i0 hi0 => ?_)
            obtain rfl := List.mem_singleton.1 hi0
            refine wpMix_act rfl (by kernel_rfl) (fun K1 hK1 => ?_)
            refine wp_storeB 26 (.tmp 9) (.tmp 39) rfl wn3.heap.size #[.string alo, .string ahi] rfl rfl P9_4.out rfl (by kernel_rfl) (by simp [Value.oneCell']) rfl ?_
            intro wn5 hb hcs hz
            refine hK1 _ _ ⟨hcs.mono fun b _ hb => (show w'.heap.size ≤ b by have : b = wn3.heap.size := hb; have := C3.out.size; omega), ?_⟩
            have C5 := Lib.hid (C4.out.then_ hcs (fun k hk e => by have : k = wn3.heap.size := e; have := C3.out.size; omega))
            have P9_5 := Lib.hid hb
            have P10_5 := Lib.hid (P10_4.out.chg hcs (show ¬ (wn0.heap.size = wn3.heap.size) by have := P10_3.out.lt; omega))
            clear hb hcs hz
            clear hK1 K1
            change wpG2 _ _ _ _ _ 2 #[true, true, true, true, true, true, true, true, true, true, true, true, true, true, true, true, false, false] _ _
            refine wpG2.acts [16] 1 (by kernel_rfl) rfl (fun i0 hi0 => ?_)
            obtain rfl := List.mem_singleton.1 hi0
            refine wpMix_act rfl (by kernel_rfl) (fun K1 hK1 => ?_)
            refine wp_storeB 26 (.tmp 10) (.tmp 40) rfl wn0.heap.size #[.string blo, .string bhi] rfl rfl P10_5.out rfl (by kernel_rfl) (by simp [Value.oneCell']) rfl ?_
            intro wn6 hb hcs hz
            refine hK1 _ _ ⟨hcs.mono fun b _ hb => (show w'.heap.size ≤ b by have : b = wn0.heap.size := hb; have := C0.out.size; omega), ?_⟩
            have C6 := Lib.hid (C5.out.then_ hcs (fun k hk e => by have : k = wn0.heap.size := e; have := C0.out.size; omega))
            have P10_6 := Lib.hid hb
            have P9_6 := Lib.hid (P9_5.out.chg hcs (show ¬ (wn3.heap.size = wn0.heap.size) by have := P10_3.out.lt; omega))
            clear hb hcs hz
            clear hK1 K1
            change wpG2 _ _ _ _ _ 1 #[true, true, true, true, true, true, true, true, true, true, true, true, true, true, true, true, true, false] _ _
            refine wpG2.seg [17] 0 #[true, true, true, true, true, true, true, true, true, true, true, true, true, true, true, true, true, true] rfl (by kernel_rfl) (fun _ _ _ _ h => h) (by kernel_rfl) (by kernel_rfl) ?_
            simp only [List.filterMap_cons, List.filterMap_nil, List.getElem?_toArray, List.getElem?_cons_zero, List.getElem?_cons_succ]
            change wpQuiet _ _ _ _ (_ :: []) _
            repeat (go_big_quiet_step (fail))
            refine wpQuiet_nil ?_
            refine wpG2.last (by kernel_rfl) ?_
            go_wp2_with fail
            go_meet
            exact ⟨_, _, alo, ahi, blo, bhi, ok, rfl, rfl, rfl, P9_6.out, P10_6.out, HZ.out, C6.out⟩
          · refine wpMix_act rfl (by kernel_rfl) (fun K1 hK1 => ?_)
            go_simp
            obtain ⟨wn3, hwn⟩ : ∃ x, x = wn2.alloc (.cells #[.string { data := #[] }, .string { data := #[] }] 26) := ⟨_, rfl⟩
            rw [← hwn]
            have hcn : Chg Non wn2 wn3 := by rw [hwn]; exact (Chg.refl Non _).alloc _
            have P9_3 := Lib.hid (show Blk wn3 wn2.heap.size 26 #[.string { data := #[] }, .string { data := #[] }] by rw [hwn]; exact Blk.new _ _ _)
            refine hK1 _ _ ⟨hcn.any, ?_⟩
            have C3 := Lib.hid (C2.out.trans hcn)
            have P10_3 := Lib.hid (P10_2.out.chg hcn id)
            clear hcn hwn
            clear hK1 K1
            change wpG2 _ _ _ _ _ 8 #[true, true, true, true, true, true, true, true, false, false, false, false, false, true, true, false, false, false] _ _
            refine wpG2.acts [8] 7 (by kernel_rfl) rfl (fun i0 hi0 => ?_)
            obtain rfl := List.mem_singleton.1 hi0
            refine wpMix_act rfl (by kernel_rfl) (fun K1 hK1 => ?_)
            go_simp
            refine (Split_some lo hi sr wn3 o3 o4 HS.out).mono ?_
            rintro e wn4 ⟨alo, ahi, blo, bhi, ok, rfl, hsz, hcn⟩
            refine hK1 _ _ ⟨hcn.any, ?_⟩
            have C4 := Lib.hid (C3.out.trans hcn)
            have HZ := Lib.hid hsz
            have P10_4 := Lib.hid (P10_3.out.chg hcn id)
            have P9_4 := Lib.hid (P9_3.out.chg hcn id)
            clear hcn hsz
            clear hK1 K1
            change wpG2 _ _ _ _ _ 7 #[true, true, true, true, true, true, true, true, true, false, false, false, false, true, true, false, false, false] _ _
            refine wpG2.seg [9, 10, 11, 12] 3 #[true, true, true, true, true, true, true, true, true, true, true, true, true, true, true, false, false, false] rfl (by kernel_rfl) (fun _ _ _ _ h => h) (by kernel_rfl) (by kernel_rfl) ?_
            simp only [List.filterMap_cons, List.filterMap_nil, List.getElem?_toArray, List.getElem?_cons_zero, List.getElem?_cons_succ]
            change wpQuiet _ _ _ _ (_ :: _ :: _ :: _ :: []) _
            repeat (go_big_quiet_step (fail))
            refine wpQuiet_nil ?_
            refine wpG2.acts [15] 2 (by kernel_rfl) rfl (fun i0 hi0 => ?_)
            obtain rfl := List.mem_singleton.1 hi0
            refine wpMix_act rfl (by kernel_rfl) (fun K1 hK1 => ?_)
            refine wp_storeB 26 (.tmp 9) (.tmp 39) rfl wn2.heap.size #[.string alo, .string ahi] rfl rfl P9_4.out rfl (by kernel_rfl) (by simp [Value.oneCell']) rfl ?_
            intro wn5 hb hcs hz
            refine hK1 _ _ ⟨hcs.mono fun b _ hb => (show w'.heap.size ≤ b by have : b = wn2.heap.size := hb; have := C2.out.size; omega), ?_⟩
            have C5 := Lib.hid (C4.out.then_ hcs (fun k hk e => by have : k = wn2.heap.size := e; have := C2.out.size; omega))
            have P9_5 := Lib.hid hb
            have P10_5 := Lib.hid (P10_4.out.chg hcs (show ¬ (wn0.heap.size = wn2.heap.size) by have := P10_2.out.lt; omega))
            clear hb hcs hz
            clear hK1 K1
            change wpG2 _ _ _ _ _ 2 #[true, true, true, true, true, true, true, true, true, true, true, true, true, true, true, true, false, false] _ _
            refine wpG2.acts [16] 1 (by kernel_rfl) rfl (fun i0 hi0 => ?_)
            obtain rfl := List.mem_singleton.1 hi0
            refine wpMix_act rfl (by kernel_rfl) (fun K1 hK1 => ?_)
            refine wp_storeB 26 (.tmp 10) (.tmp 40) rfl wn0.heap.size #[.string blo, .string bhi] rfl rfl P10_5.out rfl (by kernel_rfl) (by simp [Value.oneCell']) rfl ?_
            intro wn6 hb hcs hz
            refine hK1 _ _ ⟨hcs.mono fun b _ hb => (show w'.heap.size ≤ b by have : b = wn0.heap.size := hb; have := C0.out.size; omega), ?_⟩
            have C6 := Lib.hid (C5.out.then_ hcs (fun k hk e => by have : k = wn0.heap.size := e; have := C0.out.size; omega))
            have P10_6 := Lib.hid hb
            have P9_6 := Lib.hid (P9_5.out.chg hcs (show ¬ (wn2.heap.size = wn0.heap.size) by have := P10_2.out.lt; omega))
            clear hb hcs hz
            clear hK1 K1
            change wpG2 _ _ _ _ _ 1 #[true, true, true, true, true, true, true, true, true, true, true, true, true, true, true, true, true, false] _ _
            refine wpG2.seg [17] 0 #[true, true, true, true, true, true, true, true, true, true, true, true, true, true, true, true, true, true] rfl (by kernel_rfl) (fun _ _ _ _ h => h) (by kernel_rfl) (by kernel_rfl) ?_
            simp only [List.filterMap_cons, List.filterMap_nil, List.getElem?_toArray, List.getElem?_cons_zero, List.getElem?_cons_succ]
            change wpQuiet _ _ _ _ (_ :: []) _
            repeat (go_big_quiet_step (fail))
            refine wpQuiet_nil ?_
            refine wpG2.last (by kernel_rfl) ?_
            go_wp2_with fail
            go_meet
            exact ⟨_, _, alo, ahi, blo, bhi, ok, rfl, rfl, rfl, P9_6.out, P10_6.out, HZ.out, C6.out⟩
        · refine wpMix_act rfl (by kernel_rfl) (fun K1 hK1 => ?_)
          go_simp
          obtain ⟨wn2, hwn⟩ : ∃ x, x = wn1.alloc (.cells #[.string { data := #[] }, .string { data := #[] }] 26) := ⟨_, rfl⟩
          rw [← hwn]
          have hcn : Chg Non wn1 wn2 := by rw [hwn]; exact (Chg.refl Non _).alloc _
          have P9_2 := Lib.hid (show Blk wn2 wn1.heap.size 26 #[.string { data := #[] }, .string { data := #[] }] by rw [hwn]; exact Blk.new _ _ _)
          refine hK1 _ _ ⟨hcn.any, ?_⟩
          have C2 := Lib.hid (C1.out.trans hcn)
          have P10_2 := Lib.hid (P10_1.out.chg hcn id)
          clear hcn hwn
          clear hK1 K1
          change wpG2 _ _ _ _ _ 9 #[true, true, true, true, true, true, true, false, false, false, false, false, false, true, true, false, false, false] _ _
          refine wpG2.acts [7] 8 (by kernel_rfl) rfl (fun i0 hi0 => ?_)
          obtain rfl := List.mem_singleton.1 hi0
          refine wpMix_act rfl (by kernel_rfl) (fun K1 hK1 => ?_)
          go_simp
          refine (H.out.2.2.2.2.2.2.1 wn2).mono ?_
          rintro e wn3 ⟨sr, rfl, hsr, hcn⟩
          refine hK1 _ _ ⟨hcn.any, ?_⟩
          have C3 := Lib.hid (C2.out.trans hcn)
          have HS := Lib.hid hsr
          have P10_3 := Lib.hid (P10_2.out.chg hcn id)
          have P9_3 := Lib.hid (P9_2.out.chg hcn id)
          clear hcn hsr
          clear hK1 K1
          change wpG2 _ _ _ _ _ 8 #[true, true, true, true, true, true, true, true, false, false, false, false, false, true, true, false, false, false] _ _
          refine wpG2.acts [8] 7 (by kernel_rfl) rfl (fun i0 hi0 => ?_)
          obtain rfl := List.mem_singleton.1 hi0
          refine wpMix_act rfl (by kernel_rfl) (fun K1 hK1 => ?_)
          go_simp
          refine (Split_some lo hi sr wn3 o3 o4 HS.out).mono ?_
          rintro e wn4 ⟨alo, ahi, blo, bhi, ok, rfl, hsz, hcn⟩
          refine hK1 _ _ ⟨hcn.any, ?_⟩
          have C4 := Lib.hid (C3.out.trans hcn)
          have HZ := Lib.hid hsz
          have P10_4 := Lib.hid (P10_3.out.chg hcn id)
          have P9_4 := Lib.hid (P9_3.out.chg hcn id)
          clear hcn hsz
          clear hK1 K1
          change wpG2 _ _ _ _ _ 7 #[true, true, true, true, true, true, true, true, true, false, false, false, false, true, true, false, false, false] _ _
          refine wpG2.seg [9, 10, 11, 12] 3 #[true, true, true, true, true, true, true, true, true, true, true, true, true, true, true, false, false, false] rfl (by kernel_rfl) (fun _ _ _ _ h => h) (by kernel_rfl) (by kernel_rfl) ?_
          simp only [List.filterMap_cons, List.filterMap_nil, List.getElem?_toArray, List.getElem?_cons_zero, List.getElem?_cons_succ]
          change wpQuiet _ _ _ _ (_ :: _ :: _ :: _ :: []) _
          repeat (go_big_quiet_step (fail))
          refine wpQuiet_nil ?_
          refine wpG2.acts [15] 2 (by kernel_rfl) rfl (fun i0 hi0 => ?_)
          obtain rfl := List.mem_singleton.1 hi0
          refine wpMix_act rfl (by kernel_rfl) (fun K1 hK1 => ?_)
          refine wp_storeB 26 (.tmp 9) (.tmp 39) rfl wn1.heap.size #[.string alo, .string ahi] rfl rfl P9_4.out rfl (by kernel_rfl) (by simp [Value.oneCell']) rfl ?_
          intro wn5 hb hcs hz
          refine hK1 _ _ ⟨hcs.mono fun b _ hb => (show w'.heap.size ≤ b by have : b = wn1.heap.size := hb; have := C1.out.size; omega), ?_⟩
          have C5 := Lib.hid (C4.out.then_ hcs (fun k hk e => by have : k = wn1.heap.size := e; have := C1.out.size; omega))
          have P9_5 := Lib.hid hb
          have P10_5 := Lib.hid (P10_4.out.chg hcs (show ¬ (wn0.heap.size = wn1.heap.size) by have := P10_1.out.lt; omega))
          clear hb hcs hz
          clear hK1 K1
          change wpG2 _ _ _ _ _ 2 #[true, true, true, true, true, true, true, true, true, true, true, true, true, true, true, true, false, false] _ _
          refine wpG2.acts [16] 1 (by kernel_rfl) rfl (fun i0 hi0 => ?_)
          obtain rfl := List.mem_singleton.1 hi0
          refine wpMix_act rfl (by kernel_rfl) (fun K1 hK1 => ?_)
          refine wp_storeB 26 (.tmp 10) (.tmp 40) rfl wn0.heap.size #[.string blo, .string bhi] rfl rfl P10_5.out rfl (by kernel_rfl) (by simp [Value.oneCell']) rfl ?_
          intro wn6 hb hcs hz
          refine hK1 _ _ ⟨hcs.mono fun b _ hb => (show w'.heap.size ≤ b by have : b = wn0.heap.size := hb; have := C0.out.size; omega), ?_⟩
          have C6 := Lib.hid (C5.out.then_ hcs (fun k hk e => by have : k = wn0.heap.size := e; have := C0.out.size; omega))
          have P10_6 := Lib.hid hb
          have P9_6 := Lib.hid (P9_5.out.chg hcs (show ¬ (wn1.heap.size = wn0.heap.size) by have := P10_1.out.lt; omega))
          clear hb hcs hz
          clear hK1 K1
          change wpG2 _ _ _ _ _ 1 #[true, true, true, true, true, true, true, true, true, true, true, true, true, true, true, true, true, false] _ _
          refine wpG2.seg [17] 0 #[true, true, true, true, true, true, true, true, true, true, true, true, true, true, true, true, true, true] rfl (by kernel_rfl) (fun _ _ _ _ h => h) (by kernel_rfl) (by kernel_rfl) ?_
          simp only [List.filterMap_cons, List.filterMap_nil, List.getElem?_toArray, List.getElem?_cons_zero, List.getElem?_cons_succ]
          change wpQuiet _ _ _ _ (_ :: []) _
          repeat (go_big_quiet_step (fail))
          refine wpQuiet_nil ?_
          refine wpG2.last (by kernel_rfl) ?_
          go_wp2_with fail
          go_meet
          exact ⟨_, _, alo, ahi, blo, bhi, ok, rfl, rfl, rfl, P9_6.out, P10_6.out, HZ.out, C6.out⟩
    case rest =>
      obtain ⟨g9, g10, alo, ahi, blo, bhi, ok, rfl, rfl, rfl, b9, b10, hsz, hc⟩ := hcut
      have x9 := b9.cell
      have x10 := b10.cell
      have xb := (H.out.2.1.chg hc id).cell
      have HC := Lib.hid (And.intro hsz (H.out.2.2.1.trans hc))
      clear hsz hc x0 d0 d1 b9 b10
      cases ok
      · go_wp2_with fail
        with_reducible refine (H.out.2.2.2.2.2.2.1 _).mono ?_
        rintro e w1 ⟨s, rfl, hs, hc1⟩
        have H1 := Lib.hid (And.intro hs (HC.out.2.trans hc1))
        clear hs hc1 x9 x10 xb
        go_wp2_with fail
        go_ret
        exact AskPost.one H1.out.2 ⟨⟨s, ⟨#[]⟩⟩, g, gen⟩ ⟨⟨by have := H1.out.1; unfold maxLen; dsimp only; omega, by simp [bsize]⟩, H.out.2.2.2.2.2.2.2.1, H.out.2.2.2.2.2.2.2.2⟩
      · go_wp2_with fail
        go_ret
        exact AskPost.two HC.out.2 ⟨⟨alo, ahi⟩, g, gen⟩ ⟨⟨blo, bhi⟩, g, gen⟩ ⟨HC.out.1.1, H.out.2.2.2.2.2.2.2.1, H.out.2.2.2.2.2.2.2.2⟩ ⟨HC.out.1.2, H.out.2.2.2.2.2.2.2.1, H.out.2.2.2.2.2.2.2.2⟩
  · by_cases hk1 : k + 1 < l.length
    · have hl0 := HL.out.1.chg H.out.2.2.1 fun b hb => ⟨HL.out.2.2.1 b hb, id⟩
      obtain ⟨b', off', eA, _, ⟨_, _, p3, p4⟩, m0, m1, _, _⟩ := tab_cells hl0 hk1
      obtain ⟨rfl, rfl⟩ : b = b' ∧ off = off' := by injection eA with eA; injection eA with e1 e2; exact ⟨e1, e2⟩
      obtain ⟨x, hx⟩ : ∃ x, x = l[k + 1] := ⟨_, rfl⟩
      rw [← hx] at m0 m1 p3 p4
      obtain ⟨⟨lo', hi'⟩, xg', xn'⟩ := x
      dsimp only at m0 m1 p3 p4
      have hk1' : (k : Int) + 1 < (l.length : Int) := by omega
      have hk2' : (0 : Int) ≤ (k : Int) + 1 := by omega
      clear hl0 eA hx
      go_upto_region 10 with fail
      go_cut [12] (fun p wc => ∃ (g9 : Nat) (alo ahi : ByteArray), p = .pointer (some ⟨g9, 0, none⟩) ∧ Blk wc g9 26 #[.string alo, .string ahi] ∧ (alo.size ≤ maxLen ∧ ahi.size ≤ maxLen) ∧ Chg Non w' wc)
      case first =>
        clear hm
        obtain ⟨wn0, hwn0⟩ : ∃ x, x = w'.drew := ⟨_, rfl⟩
        have C0 := Lib.hid (show Chg Non w' wn0 by rw [hwn0]; exact (Chg.refl Non w').drew)
        have e0 := FamC.cells (K := Ge w'.heap.size) (C0.out.cellv d0 id) (show ¬ (w'.heap.size ≤ b) by have := World.block_lt_of_cell? w' _ d0; simp at this; omega)
        have e1 := FamC.cells (K := Ge w'.heap.size) (C0.out.cellv d1 id) (show ¬ (w'.heap.size ≤ b) by have := World.block_lt_of_cell? w' _ d1; simp at this; omega)
        have e2 := FamC.cells (K := Ge w'.heap.size) (C0.out.cellv m0 id) (show ¬ (w'.heap.size ≤ b) by have := World.block_lt_of_cell? w' _ d1; simp at this; omega)
        have e3 := FamC.cells (K := Ge w'.heap.size) (C0.out.cellv m1 id) (show ¬ (w'.heap.size ≤ b) by have := World.block_lt_of_cell? w' _ d1; simp at this; omega)
        clear x0 d0 d1 m0 m1
        refine wp_region_g2 (Ge w'.heap.size) #[false, false, false, false, false, false, false, false, false, false, false, false, false, false, false, false, false, false] 18 (by kernel_rfl) (by kernel_rfl) (by kernel_rfl) ?_
        rw [← hwn0]
        clear hwn0
        refine wpG2.seg [0, 1, 2, 3, 4, 5, 6, 7, 8, 9, 10] 7 #[true, true, true, true, true, true, true, true, true, true, true, false, false, false, false, false, false, false] rfl (by kernel_rfl) (fun _ _ _ _ h => h) (by kernel_rfl) (by kernel_rfl) ?_
        simp only [List.filterMap_cons, List.filterMap_nil, List.getElem?_toArray, List.getElem?_cons_zero, List.getElem?_cons_succ]
        change wpQuiet _ _ _ _ (_ :: _ :: _ :: _ :: _ :: _ :: _ :: _ :: _ :: _ :: _ :: []) _
        repeat (go_big_quiet_step (fail))
        refine wpQuiet_nil ?_
        refine wpG2.acts [11, 15] 6 (by kernel_rfl) rfl (fun i0 hi0 => ?_)
        simp only [List.mem_cons, List.not_mem_nil, or_false] at hi0
        rcases hi0 with rfl | rfl
        · refine wpMix_act rfl (by kernel_rfl) (fun K1 hK1 => ?_)
          go_simp
          refine (Join_some lo hi lo' hi' wn0 o3 p4).mono ?_
          rintro e wn1 ⟨alo, ahi, ok, rfl, hsz, hcn⟩
          refine hK1 _ _ ⟨hcn.any, ?_⟩
          have C1 := Lib.hid (C0.out.trans hcn)
          have HZ := Lib.hid hsz
          clear hcn hsz
          clear hK1 K1
          change wpG2 _ _ _ _ _ 6 #[true, true, true, true, true, true, true, true, true, true, true, true, false, false, false, false, false, false] _ _
          refine wpG2.seg [12, 13, 14] 3 #[true, true, true, true, true, true, true, true, true, true, true, true, true, true, true, false, false, false] rfl (by kernel_rfl) (fun _ _ _ _ h => h) (by kernel_rfl) (by kernel_rfl) ?_
          simp only [List.filterMap_cons, List.filterMap_nil, List.getElem?_toArray, List.getElem?_cons_zero, List.getElem?_cons_succ]
          change wpQuiet _ _ _ _ (_ :: _ :: _ :: []) _
          repeat (go_big_quiet_step (fail))
          refine wpQuiet_nil ?_
          refine wpG2.acts [15] 2 (by kernel_rfl) rfl (fun i0 hi0 => ?_)
          obtain rfl := List.mem_singleton.1 hi0
          refine wpMix_act rfl (by kernel_rfl) (fun K1 hK1 => ?_)
          go_simp
          obtain ⟨wn2, hwn⟩ : ∃ x, x = wn1.alloc (.cells #[.string { data := #[] }, .string { data := #[] }] 26) := ⟨_, rfl⟩
          rw [← hwn]
          have hcn : Chg Non wn1 wn2 := by rw [hwn]; exact (Chg.refl Non _).alloc _
          have P12_2 := Lib.hid (show Blk wn2 wn1.heap.size 26 #[.string { data := #[] }, .string { data := #[] }] by rw [hwn]; exact Blk.new _ _ _)
          refine hK1 _ _ ⟨hcn.any, ?_⟩
          have C2 := Lib.hid (C1.out.trans hcn)
          clear hcn hwn
          clear hK1 K1
          change wpG2 _ _ _ _ _ 2 #[true, true, true, true, true, true, true, true, true, true, true, true, true, true, true, true, false, false] _ _
          refine wpG2.acts [16] 1 (by kernel_rfl) rfl (fun i0 hi0 => ?_)
          obtain rfl := List.mem_singleton.1 hi0
          refine wpMix_act rfl (by kernel_rfl) (fun K1 hK1 => ?_)
          refine wp_storeB 26 (.tmp 12) (.tmp 72) rfl wn1.heap.size #[.string alo, .string ahi] rfl rfl P12_2.out rfl (by kernel_rfl) (by simp [Value.oneCell']) rfl ?_
          intro wn3 hb hcs hz
          refine hK1 _ _ ⟨hcs.mono fun b _ hb => (show w'.heap.size ≤ b by have : b = wn1.heap.size := hb; have := C1.out.size; omega), ?_⟩
          have C3 := Lib.hid (C2.out.then_ hcs (fun k hk e => by have : k = wn1.heap.size := e; have := C1.out.size; omega))
          have P12_3 := Lib.hid hb
          clear hb hcs hz
          clear hK1 K1
          change wpG2 _ _ _ _ _ 1 #[true, true, true, true, true, true, true, true, true, true, true, true, true, true, true, true, true, false] _ _
          refine wpG2.seg [17] 0 #[true, true, true, true, true, true, true, true, true, true, true, true, true, true, true, true, true, true] rfl (by kernel_rfl) (fun _ _ _ _ h => h) (by kernel_rfl) (by kernel_rfl) ?_
          simp only [List.filterMap_cons, List.filterMap_nil, List.getElem?_toArray, List.getElem?_cons_zero, List.getElem?_cons_succ]
          change wpQuiet _ _ _ _ (_ :: []) _
          repeat (go_big_quiet_step (fail))
          refine wpQuiet_nil ?_
          refine wpG2.last (by kernel_rfl) ?_
          go_wp2_with fail
          go_meet
          exact ⟨_, alo, ahi, rfl, P12_3.out, HZ.out, C3.out⟩
        · refine wpMix_act rfl (by kernel_rfl) (fun K1 hK1 => ?_)
          go_simp
          obtain ⟨wn1, hwn⟩ : ∃ x, x = wn0.alloc (.cells #[.string { data := #[] }, .string { data := #[] }] 26) := ⟨_, rfl⟩
          rw [← hwn]
          have hcn : Chg Non wn0 wn1 := by rw [hwn]; exact (Chg.refl Non _).alloc _
          have P12_1 := Lib.hid (show Blk wn1 wn0.heap.size 26 #[.string { data := #[] }, .string { data := #[] }] by rw [hwn]; exact Blk.new _ _ _)
          refine hK1 _ _ ⟨hcn.any, ?_⟩
          have C1 := Lib.hid (C0.out.trans hcn)
          clear hcn hwn
          clear hK1 K1
          change wpG2 _ _ _ _ _ 6 #[true, true, true, true, true, true, true, true, true, true, true, false, false, false, false, true, false, false] _ _
          refine wpG2.acts [11] 5 (by kernel_rfl) rfl (fun i0 hi0 => ?_)
          obtain rfl := List.mem_singleton.1 hi0
          refine wpMix_act rfl (by kernel_rfl) (fun K1 hK1 => ?_)
          go_simp
          refine (Join_some lo hi lo' hi' wn1 o3 p4).mono ?_
          rintro e wn2 ⟨alo, ahi, ok, rfl, hsz, hcn⟩
          refine hK1 _ _ ⟨hcn.any, ?_⟩
          have C2 := Lib.hid (C1.out.trans hcn)
          have HZ := Lib.hid hsz
          have P12_2 := Lib.hid (P12_1.out.chg hcn id)
          clear hcn hsz
          clear hK1 K1
          change wpG2 _ _ _ _ _ 5 #[true, true, true, true, true, true, true, true, true, true, true, true, false, false, false, true, false, false] _ _
          refine wpG2.seg [12, 13, 14] 2 #[true, true, true, true, true, true, true, true, true, true, true, true, true, true, true, true, false, false] rfl (by kernel_rfl) (fun _ _ _ _ h => h) (by kernel_rfl) (by kernel_rfl) ?_
          simp only [List.filterMap_cons, List.filterMap_nil, List.getElem?_toArray, List.getElem?_cons_zero, List.getElem?_cons_succ]
          change wpQuiet _ _ _ _ (_ :: _ :: _ :: []) _
          repeat (go_big_quiet_step (fail))
          refine wpQuiet_nil ?_
          refine wpG2.acts [16] 1 (by kernel_rfl) rfl (fun i0 hi0 => ?_)
          obtain rfl := List.mem_singleton.1 hi0
          refine wpMix_act rfl (by kernel_rfl) (fun K1 hK1 => ?_)
          refine wp_storeB 26 (.tmp 12) (.tmp 72) rfl wn0.heap.size #[.string alo, .string ahi] rfl rfl P12_2.out rfl (by kernel_rfl) (by simp [Value.oneCell']) rfl ?_
          intro wn3 hb hcs hz
          refine hK1 _ _ ⟨hcs.mono fun b _ hb => (show w'.heap.size ≤ b by have : b = wn0.heap.size := hb; have := C0.out.size; omega), ?_⟩
          have C3 := Lib.hid (C2.out.then_ hcs (fun k hk e => by have : k = wn0.heap.size := e; have := C0.out.size; omega))
          have P12_3 := Lib.hid hb
          clear hb hcs hz
          clear hK1 K1
          change wpG2 _ _ _ _ _ 1 #[true, true, true, true, true, true, true, true, true, true, true, true, true, true, true, true, true, false] _ _
          refine wpG2.seg [17] 0 #[true, true, true, true, true, true, true, true, true, true, true, true, true, true, true, true, true, true] rfl (by kernel_rfl) (fun _ _ _ _ h => h) (by kernel_rfl) (by kernel_rfl) ?_
          simp only [List.filterMap_cons, List.filterMap_nil, List.getElem?_toArray, List.getElem?_cons_zero, List.getElem?_cons_succ]
          change wpQuiet _ _ _ _ (_ :: []) _
          repeat (go_big_quiet_step (fail))
          refine wpQuiet_nil ?_
          refine wpG2.last (by kernel_rfl) ?_
          go_wp2_with fail
          go_meet
          exact ⟨_, alo, ahi, rfl, P12_3.out, HZ.out, C3.out⟩
      case rest =>
        obtain ⟨g9, alo, ahi, rfl, b9, hsz, hc⟩ := hcut
        have x9 := b9.cell
        have HC := Lib.hid (And.intro hsz (H.out.2.2.1.trans hc))
        clear hsz hc x0 d0 d1 m0 m1 b9
        go_wp2_with fail
        go_ret
        exact AskPost.one HC.out.2 ⟨⟨alo, ahi⟩, g, gen⟩ ⟨HC.out.1, H.out.2.2.2.2.2.2.2.1, H.out.2.2.2.2.2.2.2.2⟩
    · have hk1' : ¬ (k : Int) + 1 < (l.length : Int) := by omega
      go_wp2_with fail
      with_reducible refine (H.out.2.2.2.2.2.2.1 _).mono ?_
      rintro e w1 ⟨s, rfl, hs, hc1⟩
      have H1 := Lib.hid (And.intro hs (H.out.2.2.1.trans hc1))
      clear hs hc1
      go_wp2_with fail
      go_ret
      exact AskPost.one H1.out.2 ⟨⟨s, ⟨#[]⟩⟩, g, gen⟩ ⟨⟨by have := H1.out.1; unfold maxLen; dsimp only; omega, by simp [bsize]⟩, H.out.2.2.2.2.2.2.2.1, H.out.2.2.2.2.2.2.2.2⟩
  · go_wp2_with fail
    go_ret
    exact AskPost.one H.out.2.2.1 ⟨⟨lo, hi⟩, g, gen⟩ ⟨⟨o3, o4⟩, H.out.2.2.2.2.2.2.2.1, H.out.2.2.2.2.2.2.2.2⟩
  · by_cases h4 : 4 < raw.length
    · have h4' : (4 : Int) < (raw.length : Int) := by omega
      have hr0 := HL.out.2.1.chg H.out.2.2.1 fun b hb => ⟨HL.out.2.2.2 b hb, id⟩
      have HR0 := Lib.hid hr0
      clear hr0
      go_wp2_with (refine wpList_cut tTab rfl 22 (.tmp 97) none (some (.const (.int .i64 4))) rfl Try.underlying22 size_tab rfl HR0.out 0 4 (.inl ⟨rfl, rfl⟩) (.inr ⟨_, rfl⟩) (by omega) (by omega) ?_)
      intro A1 c1 hs1
      have HS1 := Lib.hid hs1
      clear hs1
      go_wp2_with fail
      go_ret
      exact ⟨_, _, rfl, HS1.out.mono fun b hb => Nat.lt_of_lt_of_le (HL.out.2.2.2 b hb) H.out.2.2.1.size, by simp; omega, H.out.2.2.1⟩
    · have h4' : ¬ (4 : Int) < (raw.length : Int) := by omega
      go_wp2_with fail
      go_ret
      exact ⟨_, _, rfl, (HL.out.2.1.chg H.out.2.2.1 fun b hb => ⟨HL.out.2.2.2 b hb, id⟩).mono fun b hb => Nat.lt_of_lt_of_le (HL.out.2.2.2 b hb) H.out.2.2.1.size, by omega, H.out.2.2.1⟩
  · go_wp2_with fail
    with_reducible refine (H.out.2.2.2.2.2.2.1 _).mono ?_
    rintro e w1 ⟨s, rfl, hs, hc1⟩
    have H1 := Lib.hid (And.intro hs (H.out.2.2.1.trans hc1))
    clear hs hc1
    go_wp2_with fail
    go_ret
    exact AskPost.one H1.out.2 ⟨⟨s, ⟨#[]⟩⟩, g, gen⟩ ⟨⟨by have := H1.out.1; unfold maxLen; dsimp only; omega, by simp [bsize]⟩, H.out.2.2.2.2.2.2.2.1, H.out.2.2.2.2.2.2.2.2⟩
end Go.Proofs.Ytebdaoihajjgmaa
