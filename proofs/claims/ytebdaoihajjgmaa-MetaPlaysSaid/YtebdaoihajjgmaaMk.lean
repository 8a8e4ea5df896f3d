/- Tables are made, copied, compared. -/
import Derived.Test.YtebdaoihajjgmaaTbm
set_option linter.unusedVariables false
set_option linter.unusedSimpArgs false
namespace Go.Proofs.Ytebdaoihajjgmaa
open Go.RowKit

/-- What made answers. -/
def mCode (l : List Tab) : Int := if l.any (fun x => !pNum x) || !sCover (l.map (·.span)) then 1 else if 16 < l.length then 13 else 0
def MadePost (l : List Tab) (w : World) (e : Ending) (w' : World) : Prop := Chg Non w w' ∧
  ((mCode l ≠ 0 ∧ e = .returned (.tuple #[.pointer none, .int .i64 (mCode l)])) ∨
   (mCode l = 0 ∧ ∃ g, w.heap.size ≤ g ∧ e = .returned (.tuple #[.pointer (some ⟨g, 0, none⟩), .int .i64 0]) ∧ Tbl w' (In (g + 1) w'.heap.size) g (chunk l)))
set_option maxHeartbeats 1600000 in
theorem made_any (K : Nat → Prop) (v : Value) (l : List Tab) (w : World) (h : TabsAt w K v l) (hK : ∀ b, K b → b < w.heap.size) (hn : l.length ≤ 1048576) :
    Calls Try.prog 26 #[v] w (MadePost l w) := by
  obtain ⟨A, cap, rfl, h1, h2⟩ := h.shape
  have hcon := ConF_made1 (fun x => !pNum x) K _ l w h hK (fun W x _ f1 f2 _ => made1_any x W f1 f2)
  have HM := Lib.hid (show mCode l = if l.any (fun x => !pNum x) || !sCover (l.map (·.span)) then 1 else if 16 < l.length then 13 else 0 from rfl)
  obtain ⟨q, hq⟩ : ∃ q, q = l.any (fun x => !pNum x) := ⟨_, rfl⟩
  rw [← hq] at hcon HM
  have HC := Lib.hid hcon
  clear hcon hq
  go_enter Try.func26, Try.ntmps26
  go_wp2_with fail
  refine HC.out.mono ?_
  rintro e w1 ⟨rfl, hc1⟩
  cases q
  · go_wp2_with fail
    refine (tspans_any K _ l w1 (h.chg hc1 fun b hb => ⟨hK b hb, id⟩) (fun b hb => Nat.lt_of_lt_of_le (hK b hb) hc1.size) hn).mono ?_
    rintro e w2 ⟨sv, rfl, hs, hc2⟩
    obtain ⟨sl, hsl⟩ : ∃ sl, sl = l.map (·.span) := ⟨_, rfl⟩
    rw [← hsl] at hs HM
    have hcall := SCover_any _ sv sl w2 hs (fun b hb => hb.2)
    obtain ⟨q, hq⟩ : ∃ q, q = sCover sl := ⟨_, rfl⟩
    rw [← hq] at hcall HM
    obtain ⟨As, cs, rfl, _, _⟩ := hs.shape
    have HC2 := Lib.hid (And.intro hcall (hc1.trans hc2))
    clear hcall hc1 hc2 hsl hq hs
    go_wp2_with fail
    refine HC2.out.1.mono ?_
    rintro e w3 ⟨rfl, hc3⟩
    have hc4 := HC2.out.2.trans hc3
    have h4 := h.chg hc4 fun b hb => ⟨hK b hb, id⟩
    have hK4 : ∀ b, K b → b < w3.heap.size := fun b hb => Nat.lt_of_lt_of_le (hK b hb) hc4.size
    have H4 := Lib.hid (And.intro hc4 (And.intro h4 hK4))
    clear hc4 h4 hK4 hc3
    cases q
    · have hm : mCode l = 1 := by rw [HM.out]; rfl
      have HM1 := Lib.hid hm
      clear hm
      go_wp2_with fail
      go_ret2
      exact ⟨H4.out.1, .inl ⟨by rw [HM1.out]; decide, by rw [HM1.out]; rfl⟩⟩
    · by_cases h16 : 16 < l.length
      · have hm : mCode l = 13 := by rw [HM.out]; simp [h16]
        have HM1 := Lib.hid hm
        have t1 : (16 : Int) < (l.length : Int) := by omega
        clear hm
        go_wp2_with fail
        go_ret2
        exact ⟨H4.out.1, .inl ⟨by rw [HM1.out]; decide, by rw [HM1.out]; rfl⟩⟩
      · have hm : mCode l = 0 := by rw [HM.out]; simp [h16]
        have HM1 := Lib.hid hm
        have t1 : (l.length : Int) ≤ 16 := by omega
        clear hm
        go_wp2_with fail
        refine (lay_any K _ l w3 H4.out.2.1 H4.out.2.2 hn).mono ?_
        rintro e w5 ⟨rfl, ht, hc5⟩
        have H5 := Lib.hid (And.intro ht (And.intro hc5 H4.out.1.size))
        clear ht hc5
        go_wp2_with fail
        go_ret2
        exact ⟨H4.out.1.trans H5.out.2.1, .inr ⟨HM1.out, _, H5.out.2.2, rfl, H5.out.1⟩⟩
  · have hm : mCode l = 1 := by rw [HM.out]; rfl
    have HM1 := Lib.hid hm
    clear hm
    go_wp2_with fail
    go_ret2
    exact ⟨hc1, .inl ⟨by rw [HM1.out]; decide, by rw [HM1.out]; rfl⟩⟩
theorem New_t_any (K : Nat → Prop) (v : Value) (l : List Tab) (w : World) (h : TabsAt w K v l) (hK : ∀ b, K b → b < w.heap.size) (hn : l.length ≤ 1048576) :
    Calls Try.prog 8 #[v] w (MadePost l w) := by
  obtain ⟨A, cap, rfl, h1, h2⟩ := h.shape
  have hcall := made_any K _ l w h hK hn
  have HC := Lib.hid hcall
  clear hcall
  go_enter Try.func8, Try.ntmps8
  go_wp2_with fail
  refine HC.out.mono ?_
  rintro e w1 ⟨hc, ⟨hm, rfl⟩ | ⟨hm, g, hg, rfl, ht⟩⟩
  · have H := Lib.hid (And.intro hc hm)
    clear hc hm
    go_wp2_with fail
    go_ret2
    exact ⟨H.out.1, .inl ⟨H.out.2, rfl⟩⟩
  · have H := Lib.hid (And.intro hc (And.intro hm (And.intro hg ht)))
    clear hc hm hg ht
    go_wp2_with fail
    go_ret2
    exact ⟨H.out.1, .inr ⟨H.out.2.1, g, H.out.2.2.1, rfl, H.out.2.2.2⟩⟩
theorem TCopy_any (K : Nat → Prop) (g : Nat) (ms : List (List Tab)) (w : World) (h : Tbl w K g ms) (hf : ms.flatten.length ≤ 1048576) :
    Calls Try.prog 42 #[.pointer (some ⟨g, 0, none⟩)] w fun e w' => ∃ g', w.heap.size ≤ g' ∧ e = .returned (.pointer (some ⟨g', 0, none⟩)) ∧ Tbl w' (In (g' + 1) w'.heap.size) g' (chunk ms.flatten) ∧ Chg Non w w' := by
  go_enter Try.func42, Try.ntmps42
  go_wp2_with fail
  refine (All_any K g ms w h hf).mono ?_
  rintro e w1 ⟨v', rfl, h1, h2⟩
  obtain ⟨l, hl⟩ : ∃ l, l = ms.flatten := ⟨_, rfl⟩
  rw [← hl] at h1 hf
  obtain ⟨A, cap, rfl, _, _⟩ := h1.shape
  have HL := Lib.hid (And.intro hl (And.intro h2 h1))
  clear hl h2 h1
  go_wp2_with fail
  refine (lay_any _ _ l w1 HL.out.2.2 (fun b hb => hb.2) hf).mono ?_
  rintro e w2 ⟨rfl, ht, hc2⟩
  have H2 := Lib.hid (And.intro ht hc2)
  clear ht hc2
  go_wp2_with fail
  go_ret
  exact ⟨_, HL.out.2.1.size, rfl, by rw [← HL.out.1]; exact H2.out.1, HL.out.2.1.trans H2.out.2⟩
set_option maxHeartbeats 1600000 in
theorem TSame_any (K K' : Nat → Prop) (g g' : Nat) (ms ms' : List (List Tab)) (w : World) (h : Tbl w K g ms) (h' : Tbl w K' g' ms') (hf : ms.flatten.length ≤ 1048576) (hf' : ms'.flatten.length ≤ 1048576) :
    Calls Try.prog 43 #[.pointer (some ⟨g, 0, none⟩), .pointer (some ⟨g', 0, none⟩)] w fun e w' => e = .returned (.bool (tEqL ms.flatten ms'.flatten)) ∧ Chg Non w w' := by
  go_enter Try.func43, Try.ntmps43
  go_wp2_with fail
  refine (All_any K g ms w h hf).mono ?_
  rintro e w1 ⟨v1, rfl, h1, hc1⟩
  have h'1 := h'.grow hc1
  obtain ⟨l, hl⟩ : ∃ l, l = ms.flatten := ⟨_, rfl⟩
  rw [← hl] at h1
  obtain ⟨A, cap, rfl, _, _⟩ := h1.shape
  have HL := Lib.hid (And.intro hl (And.intro hc1 h1))
  clear hl hc1 h1
  go_wp2_with fail
  refine (All_any K' g' ms' w1 h'1 hf').mono ?_
  rintro e w2 ⟨v2, rfl, h2, hc2⟩
  obtain ⟨l', hl'⟩ : ∃ l, l = ms'.flatten := ⟨_, rfl⟩
  rw [← hl'] at h2
  obtain ⟨A', cap', rfl, _, _⟩ := h2.shape
  have hcall := TEqual_any _ _ _ _ l l' w2 (HL.out.2.2.chg hc2 fun b hb => ⟨hb.2, id⟩) h2 (fun b hb => Nat.lt_of_lt_of_le hb.2 hc2.size) (fun b hb => hb.2)
  have H2 := Lib.hid (And.intro hl' (And.intro (HL.out.2.1.trans hc2) hcall))
  clear hl' hc2 h2 hcall
  go_wp2_with fail
  refine H2.out.2.2.mono ?_
  rintro e w3 ⟨rfl, hc3⟩
  go_wp2_with fail
  go_ret
  exact ⟨ret_bool (by rw [HL.out.1, H2.out.1]), H2.out.2.1.trans hc3⟩
end Go.Proofs.Ytebdaoihajjgmaa
