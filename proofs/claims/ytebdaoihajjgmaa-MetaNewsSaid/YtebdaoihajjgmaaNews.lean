/- The law MetaNews: true at every input. -/
import Derived.Test.YtebdaoihajjgmaaKnw
set_option linter.unusedVariables false
set_option linter.unusedSimpArgs false
namespace Go.Proofs.Ytebdaoihajjgmaa
open Go.RowKit

theorem Own.some_ {α : Type} {T : Ty α} {w : World} {lo : Nat} {e : TypeId} {K : Nat → Prop} {A : Option Addr} {n c : Nat} {l : List α} (h : Own w lo e T K (.slice A n c) l) (hn : 0 < n) : ∃ g, A = some ⟨g, 0, none⟩ := by
  obtain ⟨xs, h1, _⟩ := h
  rcases h1.2 with ⟨hv, h0⟩ | ⟨g, cap, cur, hv, _⟩
  · injection hv with _ h2 _; omega
  · injection hv with h1 _ _; exact ⟨g, h1⟩
theorem SlT.front {α : Type} {T : Ty α} {w : World} {K : Nat → Prop} {g c n : Nat} {l : List α} (h : SlT T w K (.slice (some ⟨g, 0, none⟩) n c) l) (j : Nat) (hj : j ≤ l.length) : SlT T w K (.slice (some ⟨g, 0, none⟩) j c) (l.take j) := by
  have := h.cut (i := 0) (j := j) (Nat.zero_le _) hj
  have ha : (if c = 0 then some (⟨g, 0, none⟩ : Addr) else (some ⟨g, 0, none⟩ : Option Addr).map (·.add (0 * T.size))) = some ⟨g, 0, none⟩ := by
    split
    · rfl
    · simp [add_lit']
  rw [ha] at this
  simpa using this

set_option maxRecDepth 100000 in
set_option maxHeartbeats 3200000 in
theorem MetaNews_yes (K : Nat → Prop) (lv cv : Value) (l : List Tab) (cuts : List Int) (w : World) (hl : TabsAt w K lv l) (hcuts : SlT (tInt .i64) w K cv cuts) (hK : ∀ b, K b → b < w.heap.size) :
    Calls Try.prog 3 #[lv, cv] w fun e w' => e = .returned (.bool true) ∧ Chg Non w w' := by
  obtain ⟨A, cap, rfl, h1, h2⟩ := hl.shape
  obtain ⟨Ac, cc, rfl, h3, h4⟩ := hcuts.shape
  go_enter Try.func3, Try.ntmps3
  go_upto_if 16 with (fail)
  go_cut [0] (fun t wc => wc = w ∧ ∃ l' : List Tab, l'.length ≤ 5 ∧ TabsAt w K t l')
  case first =>
    by_cases h5 : 5 < l.length
    · have h5' : (5 : Int) < (l.length : Int) := by omega
      go_wp2_with (refine wpList_cut tTab rfl 22 (.tmp 17) none (some (.const (.int .i64 5))) rfl Try.underlying22 size_tab rfl hl 0 5 (.inl ⟨rfl, rfl⟩) (.inr ⟨_, rfl⟩) (by omega) (by omega) ?_)
      intro A1 c1 hs1
      go_wp2_with fail
      go_meet
      exact ⟨rfl, _, by simp; omega, hs1⟩
    · have h5' : ¬ (5 : Int) < (l.length : Int) := by omega
      go_wp2_with fail
      go_meet
      exact ⟨rfl, l, by omega, hl⟩
  case rest =>
    obtain ⟨hwc, l', hl5, hl'⟩ := hcut
    obtain rfl : w = wc := hwc.symm
    clear hl
    obtain ⟨A, cap, rfl, h1, h2⟩ := hl'.shape
    have hcu := hcuts
    go_upto_block 0 with fail
    go_cut [5, 6] (fun mv s w2 => ∃ (ml : List Tab) (lo : ByteArray), s = .string lo ∧ lo.size ≤ 16 ∧ Chg Non w w2 ∧ Own w2 w.heap.size 28 tTab Non mv ml ∧ ml.length ≤ 6)
    case first =>
      go_wp2_with fail
      go_loopw [5, 6, 7] (fun mv s i wr => ∃ (k : Nat) (ml : List Tab) (lo : ByteArray), k ≤ 6 ∧ k ≤ cuts.length ∧ i = .int .i64 k ∧ s = .string lo ∧ lo.size ≤ 16 ∧ Chg Non w wr ∧ Own wr w.heap.size 28 tTab Non mv ml ∧ ml.length ≤ k) (fun _ _ i _ => 6 - (intOf i).toNat)
      case atStart => exact ⟨0, [], _, by omega, Nat.zero_le _, rfl, rfl, by decide, Chg.refl _ _, Own.nil_, Nat.le_refl _⟩
      case round =>
        obtain ⟨k, ml, lo, hk6, hk, rfl, rfl, hlo, hc, own, hml⟩ := hrel
        have hexit : ∀ W, Chg Non wr W → True := fun _ _ => trivial
        clear hexit
        by_cases hlt : k < cuts.length
        · by_cases hlt6 : k < 6
          · obtain ⟨bb, off, cs, rfl, _, ⟨rfl, hf⟩, hcell⟩ := (hcuts.chg hc fun b hb => ⟨hK b hb, id⟩).get hlt
            have c0 := hcell 0 _ rfl
            simp only [tInt, Nat.mul_one, Nat.add_zero] at c0
            have hrow := Row_any cuts[k] wr hf
            have HR := Lib.hid (And.intro hrow (And.intro hc own))
            generalize cuts[k] = cu at *
            obtain ⟨Am, cm, rfl, _, _⟩ := own.shape
            clear hrow hc own hf hcell
            go_wp2_with fail
            refine HR.out.1.mono ?_
            rintro e w3 ⟨s, rfl, hs16, hc3⟩
            have hcw := HR.out.2.1.trans hc3
            have own3 := HR.out.2.2.chg hc3 (fun _ _ h => h) (fun _ h => h.elim)
            have hrw : ∀ b, Row (.slice Am ml.length cm) b → w.heap.size ≤ b := fun b hb => (own3.lt hb).1
            obtain ⟨w4, hw4⟩ : ∃ w4, w4 = w3.alloc (.cells #[.string lo, .string s, .int .i64 k, .int .i64 ((k : Int) + 1)] 28) := ⟨_, rfl⟩
            have hc4 : Chg Non w3 w4 := by rw [hw4]; exact (Chg.refl Non w3).alloc _
            have hb4 : Blk w4 w3.heap.size 28 #[.string lo, .string s, .int .i64 k, .int .i64 ((k : Int) + 1)] := by rw [hw4]; exact Blk.new _ _ _
            have own4 := own3.chg hc4 (fun _ _ h => h) (fun _ h => h.elim)
            have hz4 : w.heap.size ≤ w4.heap.size := (hcw.trans hc4).size
            have hrep : tTab.rep w4 Non [.string lo, .string s, .int .i64 k, .int .i64 ((k : Int) + 1)] ⟨⟨lo, s⟩, k, (k : Int) + 1⟩ := ⟨rfl, ⟨by unfold maxLen; dsimp only; omega, by unfold maxLen; dsimp only; omega⟩, fits_i64 (by dsimp only; omega), fits_i64 (by dsimp only; omega)⟩
            have H4 := Lib.hid (And.intro hw4 (And.intro own4 (And.intro hb4 (And.intro hz4 (And.intro hrep (And.intro (hcw.trans hc4) (And.intro hrw (And.intro own3 (And.intro hcw hs16)))))))))
            clear hw4 own4 hb4 hz4 hrep hcw hrw own3 hc3 hc4 hs16
            go_wp2_with (at_builtin; rw [← H4.out.1]; refine wpList_push tTab Non rfl (.tmp 37) (.tmp 45) 22 rfl w.heap.size 28 _ 48 Try.underlying22 info_tab rfl (by decide) (by decide) _ ml _ [_, _, _, _] w3.heap.size (0, 0) rfl rfl H4.out.2.1 H4.out.2.2.1 H4.out.2.2.2.2.1 (fun _ h => h.elim) (by omega) H4.out.2.2.2.1 ?_)
            · intro A6 c6 w6 own6 hc6 hat
              have hc7 : Chg Non w w6 := H4.out.2.2.2.2.2.1.then_ hc6 (fun b hb h => by have := H4.out.2.2.2.2.2.2.1 b h; omega)
              have H7 := Lib.hid (And.intro own6 hc7)
              clear own6 hc6 hat hc7
              go_wp2_with fail
              go_roundw
              case rel => exact ⟨k + 1, _, _, by omega, by omega, by go_num, rfl, H4.out.2.2.2.2.2.2.2.2.2, H7.out.2, H7.out.1, by simp; omega⟩
              case measure => simp [intOf]; omega
            · go_roundw
              case rel => exact ⟨k + 1, ml, lo, by omega, by omega, by go_num, rfl, hlo, H4.out.2.2.2.2.2.2.2.2.1, H4.out.2.2.2.2.2.2.2.1, by omega⟩
              case measure => simp [intOf]; omega
          · have hk' : k = 6 := by omega
            subst hk'
            go_wp2_with fail
            go_meet
            exact ⟨ml, lo, rfl, hlo, hc, own, hml⟩
        · go_wp2_with fail
          go_meet
          exact ⟨ml, lo, rfl, hlo, hc, own, by omega⟩
    case rest =>
      obtain ⟨ml, lo, rfl, hlo, hc2, own, hml⟩ := hcut
      obtain ⟨Am, cm, rfl, _, _⟩ := own.shape
      have hrw : ∀ b, Row (.slice Am ml.length cm) b → w.heap.size ≤ b := fun b hb => (own.lt hb).1
      obtain ⟨w4, hw4⟩ : ∃ w4, w4 = wc.alloc (.cells #[.string lo, .string { data := #[] }, .int .i64 0, .int .i64 9] 28) := ⟨_, rfl⟩
      have hc4 : Chg Non wc w4 := by rw [hw4]; exact (Chg.refl Non wc).alloc _
      have hb4 : Blk w4 wc.heap.size 28 #[.string lo, .string { data := #[] }, .int .i64 0, .int .i64 9] := by rw [hw4]; exact Blk.new _ _ _
      have own4 := own.chg hc4 (fun _ _ h => h) (fun _ h => h.elim)
      have hz4 : w.heap.size ≤ w4.heap.size := (hc2.trans hc4).size
      have hrep : tTab.rep w4 Non [.string lo, .string { data := #[] }, .int .i64 0, .int .i64 9] ⟨⟨lo, ⟨#[]⟩⟩, 0, 9⟩ := ⟨rfl, ⟨by unfold maxLen; dsimp only; omega, by unfold maxLen; simp [bsize]⟩, fits_i64 (by dsimp only; omega), fits_i64 (by dsimp only; omega)⟩
      have H4 := Lib.hid (And.intro hw4 (And.intro own4 (And.intro hb4 (And.intro hz4 (And.intro hrep (And.intro (hc2.trans hc4) hrw))))))
      clear hw4 own4 hb4 hz4 hrep hc2 hrw hc4 own
      go_wp2_with (at_builtin; rw [← H4.out.1]; refine wpList_push tTab Non rfl (.tmp 48) (.tmp 52) 22 rfl w.heap.size 28 _ 48 Try.underlying22 info_tab rfl (by decide) (by decide) _ ml _ [_, _, _, _] wc.heap.size (0, 0) rfl rfl H4.out.2.1 H4.out.2.2.1 H4.out.2.2.2.2.1 (fun _ h => h.elim) (by omega) H4.out.2.2.2.1 ?_)
      intro A6 c6 w6 own6 hc6 hat
      have hc7 : Chg Non w w6 := H4.out.2.2.2.2.2.1.then_ hc6 (fun b hb h => by have := H4.out.2.2.2.2.2.2 b h; omega)
      obtain ⟨m2, hm2⟩ : ∃ m2 : List Tab, m2 = ml ++ [⟨⟨lo, ⟨#[]⟩⟩, 0, 9⟩] := ⟨_, rfl⟩
      have hml2 : ml.length + 1 = m2.length := by rw [hm2]; simp
      rw [← hm2] at own6
      rw [hml2] at own6 ⊢
      have hm7 : m2.length ≤ 7 ∧ 0 < m2.length := by omega
      have H7 := Lib.hid (And.intro own6 (And.intro hc7 (And.intro hat hm2)))
      clear own6 hc6 hat hc7 hm2 hml2
      obtain ⟨g6, rfl⟩ := H7.out.1.some_ hm7.2
      have hc6l : m2.length ≤ c6 := by
        obtain ⟨A0, c0, e0, h0, _⟩ := H7.out.1.shape
        injection e0 with _ _ e0
        omega
      have t1 : (0 : Int) ≤ (m2.length : Int) - 1 := by omega
      have t2 : (m2.length : Int) - 1 ≤ (c6 : Int) := by omega
      have t3 : (m2.length : Int) - 1 = ((m2.length - 1 : Nat) : Int) := by omega
      have t4 : ((m2.length - 1 : Nat) : Int) ≤ (c6 : Int) := by omega
      have t5 : ¬ c6 = 0 := by omega
      go_upto_region 13 with fail
      refine wp_region_mix (Ge w6.heap.size) [([0, 1, 2, 3, 4, 5, 6, 8, 10, 14], 7), ([], 9), ([], 11), ([], 12)] [13] (by kernel_rfl) (by kernel_rfl) (by kernel_rfl) (by kernel_rfl) (fun _ _ _ _ h => h) ?_
      refine wpMix_cons rfl ?_
      simp only [List.filterMap_cons, List.filterMap_nil, List.getElem?_toArray, List.getElem?_cons_zero, List.getElem?_cons_succ]
      change wpQuiet _ _ _ _ (_ :: _ :: _ :: _ :: _ :: _ :: _ :: _ :: _ :: _ :: []) _
      repeat (go_big_quiet_step (fail))
      refine wpQuiet_nil ?_
      refine wpMix_act rfl (by kernel_rfl) (fun K1 hK1 => ?_)
      go_simp
      obtain ⟨w20, hw20⟩ : ∃ w20, w20 = (w6.alloc (.cells #[] 28)).drew := ⟨_, rfl⟩
      have hk20 : Chg Non w6 w20 := by rw [hw20]; exact ((Chg.refl Non w6).alloc _).drew
      have hb20 : Blk w20 w6.heap.size 28 #[] := by rw [hw20]; exact (Blk.new _ _ _).drew
      rw [← hw20]
      refine hK1 _ _ ⟨by rw [hw20]; exact (show Chg _ w6.drew (w6.drew.alloc _) from (Chg.refl _ _).alloc _), ?_⟩
      clear hK1 K1 hw20
      have own20 : Own w20 w6.heap.size 28 tTab Non (.slice (some ⟨w6.heap.size, 0, none⟩) 0 0) [] := Own.lit0 hb20 (Nat.le_refl _) id
      have hm6 : TabsAt w6 (fun b => b < w6.heap.size) (.slice (some ⟨g6, 0, none⟩) m2.length c6) m2 := H7.out.1.toSl (fun _ h => h.elim) (fun b hb => (H7.out.1.lt hb).2)
      have hcw6 := H7.out.2.1
      have hl6 : TabsAt w6 (fun b => b < w6.heap.size) (.slice A l'.length cap) l' := (hl'.chg hcw6 fun b hb => ⟨hK b hb, id⟩).mono fun b hb => Nat.lt_of_lt_of_le (hK b hb) hcw6.size
      refine wpMix_cons rfl ?_
      refine wpQuiet_nil ?_
      refine wpMix_act rfl (by kernel_rfl) (fun K1 hK1 => ?_)
      obtain ⟨cs9, hs9, hr9⟩ := hm6.chg hk20 fun b hb => ⟨hb, id⟩
      refine wp_app tTab Non _ (.tmp 61) (.tmp 62) 22 rfl w6.heap.size 28 _ 48 Try.underlying22 info_tab rfl (by decide) (by decide) _ [] _ m2 cs9 rfl rfl own20 hs9 (Reps.flat tTab_flat hr9) (fun _ h => h.elim) (by simp; omega) hk20.size ?_
      intro A9 c9 w9 own9 hc9 hat9
      try simp only [List.length_nil, Nat.zero_add, List.nil_append] at own9 hc9 hat9 ⊢
      have hr20 : ∀ b, Row (.slice (some ⟨w6.heap.size, 0, none⟩) 0 0) b → w6.heap.size ≤ b := fun b hb => (own20.lt hb).1
      have hg9 : Chg (Ge w6.heap.size) w20 w9 := hc9.mono fun b _ hb => hr20 b hb
      have hk9 : Chg Non w6 w9 := hk20.then_ hc9 (fun b hb h => by have := hr20 b h; omega)
      refine hK1 _ _ ⟨hg9, ?_⟩
      clear hK1 K1
      refine wpMix_cons rfl ?_
      refine wpQuiet_nil ?_
      refine wpMix_act rfl (by kernel_rfl) (fun K1 hK1 => ?_)
      obtain ⟨cs11, hs11, hr11⟩ := hl6.chg hk9 fun b hb => ⟨hb, id⟩
      refine wp_app tTab Non _ (.tmp 63) (.tmp 64) 22 rfl w6.heap.size 28 _ 48 Try.underlying22 info_tab rfl (by decide) (by decide) _ m2 _ l' cs11 rfl rfl own9 hs11 (Reps.flat tTab_flat hr11) (fun _ h => h.elim) (by omega) hk9.size ?_
      intro A11 c11 w11 own11 hc11 hat11
      have hr9' : ∀ b, Row (.slice A9 m2.length c9) b → w6.heap.size ≤ b := fun b hb => (own9.lt hb).1
      have hg11 : Chg (Ge w6.heap.size) w9 w11 := hc11.mono fun b _ hb => hr9' b hb
      have hk11 : Chg Non w6 w11 := hk9.then_ hc11 (fun b hb h => by have := hr9' b h; omega)
      refine hK1 _ _ ⟨hg11, ?_⟩
      clear hK1 K1
      refine wpMix_cons rfl ?_
      refine wpQuiet_nil ?_
      refine wpMix_act rfl (by kernel_rfl) (fun K1 hK1 => ?_)
      go_simp
      obtain ⟨w12, hw12⟩ : ∃ w12, w12 = w11.alloc (.cells #[.slice A l'.length cap, .slice (some ⟨g6, 0, none⟩) m2.length c6, .slice (some ⟨g6, 0, none⟩) (m2.length - 1) c6, .slice A11 (m2.length + l'.length) c11] 22) := ⟨_, rfl⟩
      have hc12 : Chg Non w11 w12 := by rw [hw12]; exact (Chg.refl Non w11).alloc _
      have hb12 : Blk w12 w11.heap.size 22 #[.slice A l'.length cap, .slice (some ⟨g6, 0, none⟩) m2.length c6, .slice (some ⟨g6, 0, none⟩) (m2.length - 1) c6, .slice A11 (m2.length + l'.length) c11] := by rw [hw12]; exact Blk.new _ _ _
      have hk12 : Chg Non w6 w12 := hk11.trans hc12
      rw [← hw12]
      refine hK1 _ _ ⟨hc12.any, ?_⟩
      clear hK1 K1 hw12
      have hlist : ∀ j : Nat, j < 4 → ∃ v xs, w12.cell? ⟨w11.heap.size, j, none⟩ = some v ∧ TabsAt w12 (fun b => b < w12.heap.size) v xs ∧ xs.length ≤ 16 := by
        have f6 : ∀ {v : Value} {xs : List Tab}, TabsAt w6 (fun b => b < w6.heap.size) v xs → TabsAt w12 (fun b => b < w12.heap.size) v xs := fun h => (h.chg hk12 fun b hb => ⟨hb, id⟩).mono fun b hb => Nat.lt_of_lt_of_le hb hk12.size
        intro j hj
        rw [hb12.cell]
        have hj' : j = 0 ∨ j = 1 ∨ j = 2 ∨ j = 3 := by omega
        rcases hj' with rfl | rfl | rfl | rfl
        · exact ⟨_, l', rfl, f6 hl6, by omega⟩
        · exact ⟨_, m2, rfl, f6 hm6, by omega⟩
        · exact ⟨_, m2.take (m2.length - 1), rfl, f6 (hm6.front (m2.length - 1) (by omega)), by simp; omega⟩
        · exact ⟨_, m2 ++ l', rfl, ((own11.toSl (K' := fun b => b < w11.heap.size) (fun _ h => h.elim) (fun b hb => (own11.lt hb).2)).chg hc12 fun b hb => ⟨hb, id⟩).mono fun b hb => Nat.lt_of_lt_of_le hb hc12.size, by simp; omega⟩
      have HL := Lib.hid (And.intro hlist (hcw6.trans hk12))
      clear hlist hcw6 hk12 hb12 hc12 hk11 hg11 hr9' own11 hc11 hat11 hs11 hr11 hk9 hg9 hr20 own9 hc9 hat9 hs9 hr9 hl6 hm6 own20 hb20 hk20
      refine wpMix_nil rfl ?_
      simp only [List.filterMap_cons, List.filterMap_nil, List.getElem?_toArray, List.getElem?_cons_zero, List.getElem?_cons_succ]
      change wpQuiet _ _ _ _ (_ :: []) _
      repeat (go_big_quiet_step (fail))
      refine wpQuiet_nil ?_
      go_wp2_with fail
      go_loopw [68] (fun i wr => ∃ k : Nat, k ≤ 4 ∧ i = .int .i64 k ∧ Chg Non w12 wr) (fun i _ => 4 - (intOf i).toNat)
      case atStart => exact ⟨0, by omega, rfl, Chg.refl _ _⟩
      case round =>
        obtain ⟨k, hk, rfl, hc⟩ := hrel
        by_cases hlt : k < 4
        · obtain ⟨v, xs, hcell, hxs, hx16⟩ := HL.out.1 k hlt
          obtain ⟨Ax, cx, rfl, _, _⟩ := hxs.shape
          have c0 := hc.cellv hcell id
          have hxr := hxs.chg hc fun b hb => ⟨hb, id⟩
          have hKr : ∀ b, b < w12.heap.size → b < wr.heap.size := fun b hb => Nat.lt_of_lt_of_le hb hc.size
          have hnew := New_t_any _ _ xs wr hxr hKr (by omega)
          have HX := Lib.hid (And.intro hxs (And.intro hc hnew))
          clear hcell hxs hxr hKr hnew hc
          go_wp2_with fail
          with_reducible refine HX.out.2.2.mono ?_
          rintro e w13 hpost
          have hcm : mCode xs = 0 ∨ mCode xs = 1 := by
            unfold mCode
            split
            · exact .inr rfl
            · rw [if_neg (by omega)]; exact .inl rfl
          rcases hcm with hm | hm
          · obtain ⟨hcm1, g, hg, rfl, hT⟩ := madeYes hpost hm
            clear hpost
            obtain ⟨hcov, hnum, _⟩ := mCode_cov hm
            have hxw := HX.out.1.chg (HX.out.2.1.trans hcm1) fun b hb => ⟨hb, id⟩
            have hKw : ∀ b, b < w12.heap.size → b < w13.heap.size := fun b hb => Nat.lt_of_lt_of_le hb (HX.out.2.1.trans hcm1).size
            have hsp := lspans_any _ _ xs w13 hxw hKw (by omega)
            have H13 := Lib.hid (And.intro hcm1 (And.intro hT (And.intro hxw (And.intro hKw (And.intro hsp (And.intro hcov hnum))))))
            clear hcm1 hg hT hxw hKw hsp hcov hnum hm
            go_wp2_with fail
            with_reducible refine H13.out.2.2.2.2.1.mono ?_
            rintro e w14 ⟨sv, rfl, hs14, hc14⟩
            have hcover := R7Cover_any _ sv _ w14 hs14 (fun b hb => hb.2)
            obtain ⟨sl, hsl⟩ : ∃ sl, sl = xs.map (·.span) := ⟨_, rfl⟩
            rw [← hsl] at hs14
            rw [pCover_eq, (sCover_iff xs).2 H13.out.2.2.2.2.2.1] at hcover
            obtain ⟨As, cs, rfl, _, _⟩ := hs14.shape
            have H14 := Lib.hid (And.intro hcover hc14)
            clear hcover hc14 hs14 hsl
            go_wp2_with fail
            with_reducible refine H14.out.1.mono ?_
            rintro e w15 ⟨rfl, hc15⟩
            have hc1315 := H14.out.2.trans hc15
            have hright := lright_any _ _ xs w15 (H13.out.2.2.1.chg hc1315 fun b hb => ⟨H13.out.2.2.2.1 b hb, id⟩) (fun b hb => Nat.lt_of_lt_of_le (H13.out.2.2.2.1 b hb) hc1315.size)
            rw [H13.out.2.2.2.2.2.2] at hright
            have H15 := Lib.hid (And.intro hright hc1315)
            clear hright hc1315 hc15
            go_wp2_with fail
            with_reducible refine H15.out.1.mono ?_
            rintro e w16 ⟨rfl, hc16⟩
            have hc1316 := H15.out.2.trans hc16
            have htl := tells_yes _ _ g _ xs ⟨#[109]⟩ w16 (H13.out.2.1.grow hc1316) (H13.out.2.2.1.chg hc1316 fun b hb => ⟨H13.out.2.2.2.1 b hb, id⟩) (fun b hb => Nat.lt_of_lt_of_le (H13.out.2.2.2.1 b hb) hc1316.size) H13.out.2.2.2.2.2.1 (by omega)
            have H16 := Lib.hid (And.intro htl ((HX.out.2.1.trans H13.out.1).trans hc1316))
            clear htl hc1316 hc16
            go_wp2_with fail
            with_reducible refine H16.out.1.mono ?_
            rintro e w17 ⟨rfl, hc17⟩
            have H17 := Lib.hid (H16.out.2.trans hc17)
            clear hc17
            go_wp2_with fail
            go_roundw
            case rel => exact ⟨k + 1, by omega, by go_num, H17.out⟩
            case measure => simp [intOf]; omega
          · obtain ⟨hcm1, rfl⟩ := madeNo hpost (by rw [hm]; decide)
            rw [hm]
            clear hpost
            have hno : sCover (xs.map (·.span)) = true → xs.all pNum = false := by
              intro h1
              unfold mCode at hm
              rw [h1] at hm
              cases h2 : xs.all pNum
              · rfl
              · have h3 : (xs.any fun x => !pNum x) = false := by
                  rw [Bool.eq_false_iff]
                  intro h4
                  rw [List.any_eq_true] at h4
                  obtain ⟨x, hx, h5⟩ := h4
                  have h6 := List.all_eq_true.1 h2 x hx
                  rw [h6] at h5; cases h5
                rw [h3] at hm
                simp at hm
                omega
            have hxw := HX.out.1.chg (HX.out.2.1.trans hcm1) fun b hb => ⟨hb, id⟩
            have hKw : ∀ b, b < w12.heap.size → b < w13.heap.size := fun b hb => Nat.lt_of_lt_of_le hb (HX.out.2.1.trans hcm1).size
            have hsp := lspans_any _ _ xs w13 hxw hKw (by omega)
            have H13 := Lib.hid (And.intro hcm1 (And.intro hxw (And.intro hKw (And.intro hsp hno))))
            clear hcm1 hxw hKw hsp hno hm
            go_wp2_with fail
            with_reducible refine H13.out.2.2.2.1.mono ?_
            rintro e w14 ⟨sv, rfl, hs14, hc14⟩
            have hcover := R7Cover_any _ sv _ w14 hs14 (fun b hb => hb.2)
            obtain ⟨sl, hsl⟩ : ∃ sl, sl = xs.map (·.span) := ⟨_, rfl⟩
            rw [← hsl] at hs14
            rw [pCover_eq] at hcover
            obtain ⟨As, cs, rfl, _, _⟩ := hs14.shape
            cases hq : sCover (xs.map (·.span))
            · rw [hq] at hcover
              have H14 := Lib.hid (And.intro hcover hc14)
              clear hcover hc14 hs14 hq hsl
              go_wp2_with fail
              with_reducible refine H14.out.1.mono ?_
              rintro e w15 ⟨rfl, hc15⟩
              have H15 := Lib.hid ((HX.out.2.1.trans H13.out.1).trans (H14.out.2.trans hc15))
              clear hc15
              go_wp2_with fail
              go_roundw
              case rel => exact ⟨k + 1, by omega, by go_num, H15.out⟩
              case measure => simp [intOf]; omega
            · rw [hq] at hcover
              have hnum := H13.out.2.2.2.2 hq
              have H14 := Lib.hid (And.intro hcover (And.intro hc14 hnum))
              clear hcover hc14 hs14 hq hnum hsl
              go_wp2_with fail
              with_reducible refine H14.out.1.mono ?_
              rintro e w15 ⟨rfl, hc15⟩
              have hc1315 := H14.out.2.1.trans hc15
              have hright := lright_any _ _ xs w15 (H13.out.2.1.chg hc1315 fun b hb => ⟨H13.out.2.2.1 b hb, id⟩) (fun b hb => Nat.lt_of_lt_of_le (H13.out.2.2.1 b hb) hc1315.size)
              rw [H14.out.2.2] at hright
              have H15 := Lib.hid (And.intro hright hc1315)
              clear hright hc1315 hc15
              go_wp2_with fail
              with_reducible refine H15.out.1.mono ?_
              rintro e w16 ⟨rfl, hc16⟩
              have H16 := Lib.hid ((HX.out.2.1.trans H13.out.1).trans (H15.out.2.trans hc16))
              clear hc16
              go_wp2_with fail
              go_roundw
              case rel => exact ⟨k + 1, by omega, by go_num, H16.out⟩
              case measure => simp [intOf]; omega
        · have hk4 : k = 4 := by omega
          subst hk4
          have HZ := Lib.hid (HL.out.2.trans hc)
          clear hc
          go_wp2_with fail
          refine (known_yes wr).mono ?_
          rintro e w13 ⟨rfl, hc13⟩
          have H13 := Lib.hid (HZ.out.trans hc13)
          clear hc13
          go_wp2_with fail
          go_ret
          exact ⟨rfl, H13.out⟩
end Go.Proofs.Ytebdaoihajjgmaa
