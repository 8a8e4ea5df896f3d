/- A span, a table read from octets. -/
import Derived.Test.YtebdaoihajjgmaaWtb
import Derived.Test.YtebdaoihajjgmaaOctRead
set_option linter.unusedVariables false
set_option linter.unusedSimpArgs false
namespace Go.Proofs.Ytebdaoihajjgmaa
open Go.RowKit

set_option maxRecDepth 100000 in
set_option maxHeartbeats 1600000 in
theorem STake_any (K : Nat → Prop) (g : Nat) (l : List Int) (s : Span) (w : World) (h : Rd w K g (encSpan s ++ l)) (hp : pRight s = true) :
    Calls Try.prog 65 #[.pointer (some ⟨g, 0, none⟩)] w fun e w' => e = .returned s.v ∧ Rd w' K g l ∧ Chg (Is g) w w' := by
  have hsr := fun W => SRight_any s W
  rw [hp] at hsr
  have hsz : s.lo.size ≤ 16 ∧ s.hi.size ≤ 16 := by
    simp only [pRight, Bool.and_eq_true, decide_eq_true_eq] at hp
    omega
  obtain ⟨slo, shi⟩ := s
  have hgl := h.lt
  have hKold : ∀ b, K b → b < w.heap.size := by obtain ⟨_, _, _, _, x⟩ := h; exact x
  have HKold := Lib.hid hKold
  clear hKold
  obtain ⟨w0, hw0⟩ : ∃ w0, w0 = w.alloc (.cells #[.string { data := #[] }, .string { data := #[] }] 26) := ⟨_, rfl⟩
  have b0 : Blk w0 w.heap.size 26 #[.string { data := #[] }, .string { data := #[] }] := by rw [hw0]; exact Blk.new _ _ _
  have c0 : Chg Non w w0 := by rw [hw0]; exact (Chg.refl Non w).alloc _
  have hr0 : Rd w0 K g (be (numsOf slo).length 4 ++ (numsOf slo ++ (encStr shi ++ l))) := by
    have := h.chg c0 id fun _ _ x => x
    simpa [encSpan, encStr, numsOf_length] using this
  dsimp only at hsz
  have ht := RText_any K g (encStr shi ++ l) (numsOf slo) 16 w0 hr0 (by rw [numsOf_length]; omega) (by decide) (by rw [numsOf_length]; omega)
  have H := Lib.hid (And.intro hw0 (And.intro b0 (And.intro c0 (And.intro ht (And.intro hsr hsz)))))
  clear hw0 b0 c0 hr0 ht hsr hsz h hp
  go_enter Try.func65, Try.ntmps65
  go_upto_region 1 with fail
  rw [← H.out.1]
  go_wp2_with fail
  with_reducible refine H.out.2.2.2.1.mono ?_
  rintro e w1 ⟨v1, rfl, hs1, hr1, hc1⟩
  obtain ⟨A1, cp1, rfl, _, _⟩ := hs1.shape
  have hcv1 := hs1.str (src := 84) (dst := 9) Try.underlying84 Try.underlying5 Try.underlying9
  rw [strOf_numsOf] at hcv1
  have H1 := Lib.hid (And.intro hr1 hc1)
  clear hs1 hr1 hc1
  go_wp2_with (refine wpList_storeB rfl 26 (.tmp 3) (.tmp 7) rfl w1.heap.size _ rfl rfl (Blk.new _ _ _) rfl (by kernel_rfl) (by simp [Value.oneCell']) ?_)
  intro w2 hb2 hc2 hz2
  have hg2 : Chg Non w1 w2 := ((Chg.refl Non w1).alloc _).then_ hc2 (fun q hq e => by have : q = w1.heap.size := e; omega)
  have hr2 : Rd w2 K g (be (numsOf shi).length 4 ++ (numsOf shi ++ l)) := by
    have := H1.out.1.chg hg2 id fun _ _ x => x
    simpa [encStr, numsOf_length] using this
  have ht2 := RText_any K g l (numsOf shi) 16 w2 hr2 (by rw [numsOf_length]; have := H.out.2.2.2.2.2; omega) (by decide) (by rw [numsOf_length]; have := H.out.2.2.2.2.2; omega)
  have H2 := Lib.hid (And.intro hb2 (And.intro hg2 ht2))
  clear hb2 hc2 hz2 hg2 hr2 ht2 hcv1
  go_wp2_with fail
  with_reducible refine H2.out.2.2.mono ?_
  rintro e w3 ⟨v3, rfl, hs3, hr3, hc3⟩
  obtain ⟨A3, cp3, rfl, _, _⟩ := hs3.shape
  have hcv3 := hs3.str (src := 84) (dst := 9) Try.underlying84 Try.underlying5 Try.underlying9
  rw [strOf_numsOf] at hcv3
  have hw01 : w.heap.size < w0.heap.size := H.out.2.1.lt
  have hw1 : w0.heap.size ≤ w1.heap.size := H1.out.2.size
  have hb3 := H2.out.1.chg hc3 (show ¬ (w1.heap.size = g) by omega)
  have hb4 : Blk (w3.setCell ⟨w1.heap.size, 1, none⟩ (.string shi)) w1.heap.size 26 #[.string slo, .string shi] := by simpa using hb3.set_ 1 (.string shi)
  have x3 := hb3.cell
  have z3 := hb3.frozen
  have x4 := hb4.cell
  have hch : Chg (Is g) w (w3.setCell ⟨w1.heap.size, 1, none⟩ (.string shi)) := ((((H.out.2.2.1.any.trans H1.out.2).trans H2.out.2.1.any).trans hc3)).setNew (show w.heap.size ≤ w1.heap.size by omega) _
  have hr4 : Rd (w3.setCell ⟨w1.heap.size, 1, none⟩ (.string shi)) K g l := by
    refine hr3.chg (Chg.at_ w3 w1.heap.size 1 (.string shi)) (show ¬ (g = w1.heap.size) by omega) fun b hb e => ?_
    have h1 := HKold.out b hb
    have : b = w1.heap.size := e
    omega
  have hz4 : Blk (w3.setCell ⟨w1.heap.size, 1, none⟩ (.string shi)) w.heap.size 26 #[.string { data := #[] }, .string { data := #[] }] := (((H.out.2.1.chg H1.out.2 (show ¬ (w.heap.size = g) by omega)).chg H2.out.2.1 id).chg hc3 (show ¬ (w.heap.size = g) by omega)).chg (Chg.at_ w3 w1.heap.size 1 (.string shi)) (show ¬ (w.heap.size = w1.heap.size) by omega)
  have H4 := Lib.hid (And.intro hb4 (And.intro hch (And.intro hr4 hz4)))
  clear hs3 hr3 hc3 hb3 hb4 hch hr4 hz4
  go_wp2_with fail
  clear x3 z3 x4 hcv3
  with_reducible refine (H.out.2.2.2.2.1 _).mono ?_
  rintro e w5 ⟨rfl, hc5⟩
  have x5 := (H4.out.1.chg hc5 id).cell
  have H5 := Lib.hid (And.intro (H4.out.2.2.2.chg hc5 id) (And.intro (H4.out.2.1.grow hc5) (H4.out.2.2.1.chg hc5 id fun _ _ x => x)))
  clear hc5
  go_wp2_with (refine wpList_storeB rfl 26 (.tmp 2) (.tmp 17) rfl w.heap.size _ rfl rfl H5.out.1 rfl (by kernel_rfl) (by simp [Value.oneCell']) ?_)
  intro w6 hb6 hc6 hz6
  have hKb : ∀ b, K b → ¬ (b = w.heap.size) := by
    intro b hb
    have := HKold.out b hb
    omega
  have H6 := Lib.hid (And.intro hb6 (And.intro (H5.out.2.1.then_ hc6 (fun q hq e => by have : q = w.heap.size := e; omega)) (H5.out.2.2.chg hc6 (show ¬ (g = w.heap.size) by omega) fun b hb e => hKb b hb e)))
  clear hb6 hc6 hz6 x5
  go_wp2_with fail
  exact bodyPost_ret (v := .agg #[.string slo, .string shi]) (ret_cellB (p := 2) (ty := 26) rfl _ rfl H6.out.1 Try.underlying26 size_span) rfl ⟨rfl, H6.out.2.2, H6.out.2.1⟩
end Go.Proofs.Ytebdaoihajjgmaa
