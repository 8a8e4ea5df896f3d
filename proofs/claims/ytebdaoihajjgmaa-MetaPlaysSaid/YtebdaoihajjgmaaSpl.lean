/- The document's Split and Join: whole. -/
import Derived.Test.YtebdaoihajjgmaaKnw
set_option linter.unusedVariables false
set_option linter.unusedSimpArgs false
namespace Go.Proofs.Ytebdaoihajjgmaa
open Go.RowKit

/-- A store of a whole struct into a block that is known whole, as one operation. -/
theorem wp_storeB {P : Program} {o : Oper} {a : Act} {K : Act → World → Prop} {Q : Exit → Act → World → Prop} {w : World} (ty : TypeId) (x y : Operand) (ho : o.op = .store ty x y) (g : Nat) (cells : Array Value) (hx : a.eval x = .pointer (some ⟨g, 0, none⟩)) (hy : a.eval y = .agg cells)
    {t : TypeId} {old : Array Value} (hb : Blk w g t old) (hs : old.size = cells.size) (hi : (P.info? ty).map (·.size) = some cells.size) (h1 : ∀ v ∈ cells.toList, v.oneCell' = true)
    (hd : o.dst = none) (h : ∀ w', Blk w' g t cells → Chg (Is g) w w' → w'.heap.size = w.heap.size → K a w') : o.wp P a w K Q := by
  refine wp_store_mid ty x y ho g 0 cells hx hy ?_ hi (all_oneCell_toArray h1) ?_
  · intro j hj
    rw [Nat.zero_add, hb.cell j, hb.frozen j]
    exact ⟨by simp; omega, rfl⟩
  · have hb' := Blk.setCells cells.toList 0 w old hb (by simp; omega)
    obtain ⟨hc, hz⟩ := Chg.setCells g cells.toList 0 w
    rw [hd]
    refine h _ ?_ hc hz
    have e : (old.toList.take 0 ++ cells.toList ++ old.toList.drop (0 + cells.toList.length)).toArray = cells := by
      rw [List.drop_of_length_le (by simp; omega)]; simp
    rwa [e] at hb'
theorem ret_cellB3 {P : Program} {fn : Func} {p q r : Tmp} {ty : TypeId} (h : fn.results = #[.cell p ty, .cell q ty, .tmp r]) (tmps : Array Value) {w : World} {g g' : Nat} (hp : tmps.getD p undef = .pointer (some ⟨g, 0, none⟩)) (hq : tmps.getD q undef = .pointer (some ⟨g', 0, none⟩)) {t : TypeId} {cs cs' : Array Value} (hb : Blk w g t cs) (hb' : Blk w g' t cs')
    {fs : Array Field} (hu : P.underlying ty = some (.struct fs)) (hi : (P.info? ty).map (·.size) = some cs.size) (hi' : (P.info? ty).map (·.size) = some cs'.size) : (results fn tmps).run P w = .ok (.tuple #[.agg cs, .agg cs', tmps.getD r undef]) w := by
  have hp' : tmps[p]?.getD undef = .pointer (some ⟨g, 0, none⟩) := by simpa using hp
  have hq' : tmps[q]?.getD undef = .pointer (some ⟨g', 0, none⟩) := by simpa using hq
  have hl := run_loadVar_row (P := P) w g t ty cs (0, 0) _ hb hu rfl hi
  have hl' := run_loadVar_row (P := P) w g' t ty cs' (0, 0) _ hb' hu rfl hi'
  simp [results, h, hp', hq', asAddr, hl, hl']

theorem sLe_eq (a b : List UInt8) : (Op.bytesLess a b || a == b) = !Op.bytesLess b a := by
  have h := sGt_eq a b
  rw [← h, Bool.not_not]
def pSplitB (s : Span) (n : ByteArray) : Bool := pRight s && decide ((n.size : Int) ≤ 16) && sLt s.lo n && (sE s.hi || sLt n s.hi)
def zSpan : Span := ⟨⟨#[]⟩, ⟨#[]⟩⟩
def pSplit1 (s : Span) (n : ByteArray) : Span := if pSplitB s n then ⟨s.lo, n⟩ else zSpan
def pSplit2 (s : Span) (n : ByteArray) : Span := if pSplitB s n then ⟨n, s.hi⟩ else zSpan
theorem size_span : (Try.prog.info? 26).map (·.size) = some 2 := by kernel_rfl
set_option maxRecDepth 100000 in
set_option maxHeartbeats 800000 in
theorem R7Split_any (s : Span) (n : ByteArray) (w : World) : Calls Try.prog 22 #[s.v, .string n] w fun e w' => e = .returned (.tuple #[(pSplit1 s n).v, (pSplit2 s n).v, .bool (pSplitB s n)]) ∧ Chg Non w w' := by
  have HC := Lib.hid (fun W => R7Right_any s W)
  obtain ⟨q, hq⟩ : ∃ q, q = pSplitB s n := ⟨_, rfl⟩
  have hv : (q = true → pSplit1 s n = ⟨s.lo, n⟩ ∧ pSplit2 s n = ⟨n, s.hi⟩) ∧ (q = false → pSplit1 s n = zSpan ∧ pSplit2 s n = zSpan) := by
    unfold pSplit1 pSplit2
    rw [← hq]
    exact ⟨fun h => by simp [h], fun h => by simp [h]⟩
  have HV := Lib.hid hv
  clear hv
  generalize pSplit1 s n = s1 at *
  generalize pSplit2 s n = s2 at *
  rw [← hq]
  unfold pSplitB at hq
  generalize pRight s = ra at HC hq
  obtain ⟨lo, hi⟩ := s
  obtain ⟨w0, hw0⟩ : ∃ w0, w0 = ((w.alloc (.cells #[.string lo, .string hi] 26)).alloc (.cells #[.string { data := #[] }, .string { data := #[] }] 26)).alloc (.cells #[.string { data := #[] }, .string { data := #[] }] 26) := ⟨_, rfl⟩
  have b0 : Blk w0 w.heap.size 26 #[.string lo, .string hi] := by rw [hw0]; exact ((Blk.new _ _ _).alloc _).alloc _
  have b1 : Blk w0 (w.heap.size + 1) 26 #[.string { data := #[] }, .string { data := #[] }] := by rw [hw0]; exact (Blk.newAt (by simp) _ _).alloc _
  have b2 : Blk w0 (w.heap.size + 2) 26 #[.string { data := #[] }, .string { data := #[] }] := by rw [hw0]; exact Blk.newAt (by simp) _ _
  have c0 : Chg Non w w0 := by rw [hw0]; exact (((Chg.refl Non w).alloc _).alloc _).alloc _
  have B := Lib.hid (And.intro hw0 (And.intro b0 (And.intro b1 (And.intro b2 c0))))
  have HQ := Lib.hid hq
  clear hw0 b0 b1 b2 c0 hq
  dsimp only at *
  go_enter Try.func22, Try.ntmps22
  go_upto_region 1 with fail
  rw [← B.out.1]
  go_cut [31] (fun v wc => v = .bool (!q) ∧ Chg Non w0 wc)
  case first =>
    have y0 := B.out.2.1.cell
    go_wp2_with fail
    clear y0
    refine (HC.out _).mono ?_
    rintro e w1 ⟨rfl, hc1⟩
    have x0 := (B.out.2.1.chg hc1 id).cell
    have X1 := Lib.hid hc1
    clear hc1
    cases ra
    · go_wp2_with fail
      go_meet
      exact ⟨by rw [HQ.out]; simp, X1.out⟩
    · go_wp2_with fail
      all_goals
        go_meet
        have hle := sLe_eq n.toList lo.toList
        have hge := sLt_tri n.toList hi.toList
        exact ⟨by rw [HQ.out]; first | (simp_all; done) | grind, X1.out⟩
  case rest =>
    obtain ⟨rfl, hc1⟩ := hcut
    have b0 := B.out.2.1.chg hc1 id
    have b1 := B.out.2.2.1.chg hc1 id
    have b2 := B.out.2.2.2.1.chg hc1 id
    have c1 := B.out.2.2.2.2.trans hc1
    have hlt : w.heap.size < wc.heap.size := b0.lt
    have X1 := Lib.hid (And.intro b0 (And.intro b1 (And.intro b2 c1)))
    clear b0 b1 b2 c1 hc1
    cases q
    · obtain ⟨e1, e2⟩ := HV.out.2 rfl
      subst e1 e2
      go_wp2_with (refine wpList_storeB rfl 26 (.tmp 4) (.tmp 32) rfl (w.heap.size + 1) #[.string { data := #[] }, .string { data := #[] }] rfl rfl X1.out.2.1 rfl (by kernel_rfl) (by simp [Value.oneCell']) ?_)
      intro w4 hb4 hc4 hz4
      have b2 := X1.out.2.2.1.chg hc4 (show ¬ (w.heap.size + 2 = w.heap.size + 1) by omega)
      have c4 := X1.out.2.2.2.then_ hc4 (fun k hk e => by have : k = w.heap.size + 1 := e; omega)
      have X4 := Lib.hid (And.intro hb4 (And.intro b2 c4))
      clear hb4 hc4 hz4 b2 c4
      go_wp2_with (refine wpList_storeB rfl 26 (.tmp 5) (.tmp 33) rfl (w.heap.size + 2) #[.string { data := #[] }, .string { data := #[] }] rfl rfl X4.out.2.1 rfl (by kernel_rfl) (by simp [Value.oneCell']) ?_)
      intro w5 hb5 hc5 hz5
      have X5 := Lib.hid (And.intro (X4.out.1.chg hc5 (show ¬ (w.heap.size + 1 = w.heap.size + 2) by omega)) (And.intro hb5 (X4.out.2.2.then_ hc5 (fun k hk e => by have : k = w.heap.size + 2 := e; omega))))
      clear hb5 hc5 hz5
      go_wp2_with fail
      exact bodyPost_ret (v := .tuple #[.agg #[.string { data := #[] }, .string { data := #[] }], .agg #[.string { data := #[] }, .string { data := #[] }], .bool false]) (ret_cellB3 (p := 4) (q := 5) (r := 6) (ty := 26) rfl _ rfl rfl X5.out.1 X5.out.2.1 Try.underlying26 size_span size_span) rfl ⟨rfl, X5.out.2.2⟩
    · obtain ⟨e1, e2⟩ := HV.out.1 rfl
      subst e1 e2
      have hx0 := X1.out.1.drew.cell
      have h0 : wc.drew.cell? ⟨w.heap.size, 0, none⟩ = some (.string lo) := hx0 0
      have h1 : wc.drew.cell? ⟨w.heap.size, 1, none⟩ = some (.string hi) := hx0 1
      have H0 : ∀ i : FamC (Ge (w.heap.size + 1)) wc.drew, i.w'.cell? ⟨w.heap.size, 0, none⟩ = some (.string lo) := fun i => i.h.cellv h0 (show ¬ (w.heap.size + 1 ≤ w.heap.size) by omega)
      have H1 : ∀ i : FamC (Ge (w.heap.size + 1)) wc.drew, i.w'.cell? ⟨w.heap.size, 1, none⟩ = some (.string hi) := fun i => i.h.cellv h1 (show ¬ (w.heap.size + 1 ≤ w.heap.size) by omega)
      clear h0 h1 hx0
      go_upto_region 3 with fail
      refine wp_region_mix (Ge (w.heap.size + 1)) [([0, 1, 2, 3, 4, 5, 6, 7], 8), ([], 9)] [10] (by kernel_rfl) (by kernel_rfl) (by kernel_rfl) (by kernel_rfl) (fun _ _ _ _ h => h) ?_
      refine wpMix_cons rfl ?_
      simp only [List.filterMap_cons, List.filterMap_nil, List.getElem?_toArray, List.getElem?_cons_zero, List.getElem?_cons_succ]
      change wpQuiet _ _ _ _ (_ :: _ :: _ :: _ :: _ :: _ :: _ :: _ :: []) _
      repeat (go_big_quiet_step (fail))
      refine wpQuiet_nil ?_
      refine wpMix_act rfl (by kernel_rfl) (fun K1 hK1 => ?_)
      refine wp_storeB 26 (.tmp 4) (.tmp 37) rfl (w.heap.size + 1) #[.string lo, .string n] rfl rfl X1.out.2.1.drew rfl (by kernel_rfl) (by simp [Value.oneCell']) rfl ?_
      intro w4 hb4 hc4 hz4
      have b2 := X1.out.2.2.1.drew.chg hc4 (show ¬ (w.heap.size + 2 = w.heap.size + 1) by omega)
      have c4 := X1.out.2.2.2.drew.then_ hc4 (fun k hk e => by have : k = w.heap.size + 1 := e; omega)
      refine hK1 _ _ ⟨hc4.mono fun b _ hb => (show w.heap.size + 1 ≤ b by have : b = w.heap.size + 1 := hb; omega), ?_⟩
      have X4 := Lib.hid (And.intro hb4 (And.intro b2 c4))
      clear hb4 hc4 hz4 b2 c4
      clear hK1 K1
      refine wpMix_cons rfl ?_
      simp only [List.filterMap_cons, List.filterMap_nil, List.getElem?_toArray, List.getElem?_cons_zero, List.getElem?_cons_succ]
      refine wpQuiet_nil ?_
      refine wpMix_act rfl (by kernel_rfl) (fun K1 hK1 => ?_)
      refine wp_storeB 26 (.tmp 5) (.tmp 41) rfl (w.heap.size + 2) #[.string n, .string hi] rfl rfl X4.out.2.1 rfl (by kernel_rfl) (by simp [Value.oneCell']) rfl ?_
      intro w5 hb5 hc5 hz5
      refine hK1 _ _ ⟨hc5.mono fun b _ hb => (show w.heap.size + 1 ≤ b by have : b = w.heap.size + 2 := hb; omega), ?_⟩
      have X5 := Lib.hid (And.intro (X4.out.1.chg hc5 (show ¬ (w.heap.size + 1 = w.heap.size + 2) by omega)) (And.intro hb5 (X4.out.2.2.then_ hc5 (fun k hk e => by have : k = w.heap.size + 2 := e; omega))))
      clear hb5 hc5 hz5
      clear hK1 K1
      refine wpMix_nil rfl ?_
      simp only [List.filterMap_cons, List.filterMap_nil, List.getElem?_toArray, List.getElem?_cons_zero, List.getElem?_cons_succ]
      change wpQuiet _ _ _ _ (_ :: []) _
      repeat (go_big_quiet_step (fail))
      refine wpQuiet_nil ?_
      go_wp2_with fail
      exact bodyPost_ret (v := .tuple #[.agg #[.string lo, .string n], .agg #[.string n, .string hi], .bool true]) (ret_cellB3 (p := 4) (q := 5) (r := 6) (ty := 26) rfl _ rfl rfl X5.out.1 X5.out.2.1 Try.underlying26 size_span size_span) rfl ⟨rfl, X5.out.2.2⟩
set_option maxRecDepth 100000 in
set_option maxHeartbeats 800000 in
theorem R7Join_any (s s' : Span) (w : World) : Calls Try.prog 35 #[s.v, s'.v] w fun e w' => ∃ q : Bool, e = .returned (.tuple #[(if q then Span.mk s.lo s'.hi else zSpan).v, .bool q]) ∧ Chg Non w w' := by
  have HC := Lib.hid (And.intro (fun W => R7Right_any s W) (fun W => R7Right_any s' W))
  generalize pRight s = ra at HC
  generalize pRight s' = rb at HC
  obtain ⟨lo, hi⟩ := s
  obtain ⟨lo', hi'⟩ := s'
  obtain ⟨w0, hw0⟩ : ∃ w0, w0 = ((w.alloc (.cells #[.string lo, .string hi] 26)).alloc (.cells #[.string lo', .string hi'] 26)).alloc (.cells #[.string { data := #[] }, .string { data := #[] }] 26) := ⟨_, rfl⟩
  have b0 : Blk w0 w.heap.size 26 #[.string lo, .string hi] := by rw [hw0]; exact ((Blk.new _ _ _).alloc _).alloc _
  have b1 : Blk w0 (w.heap.size + 1) 26 #[.string lo', .string hi'] := by rw [hw0]; exact (Blk.newAt (by simp) _ _).alloc _
  have b2 : Blk w0 (w.heap.size + 2) 26 #[.string { data := #[] }, .string { data := #[] }] := by rw [hw0]; exact Blk.newAt (by simp) _ _
  have c0 : Chg Non w w0 := by rw [hw0]; exact (((Chg.refl Non w).alloc _).alloc _).alloc _
  have B := Lib.hid (And.intro hw0 (And.intro b0 (And.intro b1 (And.intro b2 c0))))
  clear hw0 b0 b1 b2 c0
  dsimp only at *
  go_enter Try.func35, Try.ntmps35
  go_upto_region 1 with fail
  rw [← B.out.1]
  go_cut [25] (fun v wc => (∃ q : Bool, v = .bool q) ∧ Chg Non w0 wc)
  case first =>
    have y0 := B.out.2.1.cell
    go_wp2_with fail
    clear y0
    refine (HC.out.1 _).mono ?_
    rintro e w1 ⟨rfl, hc1⟩
    have x0 := (B.out.2.1.chg hc1 id).cell
    have x1 := (B.out.2.2.1.chg hc1 id).cell
    have X1 := Lib.hid hc1
    clear hc1
    cases ra
    · go_wp2_with fail
      go_meet
      exact ⟨⟨_, rfl⟩, X1.out⟩
    · go_wp2_with fail
      clear x0 x1
      refine (HC.out.2 _).mono ?_
      rintro e w2 ⟨rfl, hc2⟩
      have x0 := (B.out.2.1.chg (X1.out.trans hc2) id).cell
      have x1 := (B.out.2.2.1.chg (X1.out.trans hc2) id).cell
      have X2 := Lib.hid (X1.out.trans hc2)
      clear hc2
      cases rb
      all_goals
        go_wp2_with fail
        all_goals
          go_meet
          exact ⟨⟨_, rfl⟩, X2.out⟩
  case rest =>
    obtain ⟨⟨q, rfl⟩, hc1⟩ := hcut
    have b0 := B.out.2.1.chg hc1 id
    have b1 := B.out.2.2.1.chg hc1 id
    have b2 := B.out.2.2.2.1.chg hc1 id
    have c1 := B.out.2.2.2.2.trans hc1
    have x0 := b0.cell
    have x1 := b1.cell
    have X1 := Lib.hid (And.intro b2 c1)
    clear b0 b1 b2 c1 hc1
    cases q
    · go_wp2_with (refine wpList_storeB rfl 26 (.tmp 4) (.tmp 31) rfl (w.heap.size + 2) #[.string lo, .string hi'] rfl rfl X1.out.1 rfl (by kernel_rfl) (by simp [Value.oneCell']) ?_)
      intro w4 hb4 hc4 hz4
      have X4 := Lib.hid (And.intro hb4 (X1.out.2.then_ hc4 (fun k hk e => by have : k = w.heap.size + 2 := e; omega)))
      clear hb4 hc4 hz4 x0 x1
      go_wp2_with fail
      exact bodyPost_ret (v := .tuple #[.agg #[.string lo, .string hi'], .bool true]) (ret_cellB2 (p := 4) (q := 5) (ty := 26) rfl _ rfl X4.out.1 Try.underlying26 size_span) rfl ⟨true, rfl, X4.out.2⟩
    · go_wp2_with (refine wpList_storeB rfl 26 (.tmp 4) (.tmp 26) rfl (w.heap.size + 2) #[.string { data := #[] }, .string { data := #[] }] rfl rfl X1.out.1 rfl (by kernel_rfl) (by simp [Value.oneCell']) ?_)
      intro w4 hb4 hc4 hz4
      have X4 := Lib.hid (And.intro hb4 (X1.out.2.then_ hc4 (fun k hk e => by have : k = w.heap.size + 2 := e; omega)))
      clear hb4 hc4 hz4 x0 x1
      go_wp2_with fail
      exact bodyPost_ret (v := .tuple #[.agg #[.string { data := #[] }, .string { data := #[] }], .bool false]) (ret_cellB2 (p := 4) (q := 5) (ty := 26) rfl _ rfl X4.out.1 Try.underlying26 size_span) rfl ⟨false, rfl, X4.out.2⟩
end Go.Proofs.Ytebdaoihajjgmaa
