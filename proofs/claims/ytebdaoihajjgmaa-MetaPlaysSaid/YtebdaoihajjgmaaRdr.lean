/- Tablets, draws, as the arguments read. -/
import Derived.Test.YtebdaoihajjgmaaRows
import Derived.Test.YtebdaoihajjgmaaTab
import Derived.ProofKit
import Derived.JoinedOf
import Derived.JoinedAt
import Derived.RowKit3
import Derived.Carry
import Derived.ChangeSame
set_option linter.unusedVariables false
set_option linter.unusedSimpArgs false
namespace Go.Proofs.Ytebdaoihajjgmaa
open Go.ChangeShapes Go.WideShapes Go.ChangeAt Go.RowKit Go.Joins

theorem cells_int : Try.prog.cellsOf 3 = 1 := by kernel_rfl
theorem cells_str : Try.prog.cellsOf 9 = 1 := by kernel_rfl
theorem cells_span : Try.prog.cellsOf 26 = 2 := by kernel_rfl
theorem cells_tab : Try.prog.cellsOf 28 = 4 := by kernel_rfl
theorem opens_i64 : Opens Try.prog 3 (tInt .i64) := opens_int Try.underlying3
theorem opens_string : Opens Try.prog 9 tStr := opens_str Try.underlying9
theorem list2 {α : Type} {l : List α} (h : l.length = 2) : ∃ a b, l = [a, b] := by
  match l, h with
  | [a, b], _ => exact ⟨a, b, rfl⟩
theorem list4 {α : Type} {l : List α} (h : l.length = 4) : ∃ a b c d, l = [a, b, c, d] := by
  match l, h with
  | [a, b, c, d], _ => exact ⟨a, b, c, d, rfl⟩
theorem opens_span : Opens Try.prog 26 tSpan := by
  intro H enc w fuel cs x h
  obtain ⟨xs, n, _, _, hl, hlen, hf⟩ := DataW.trod_struct Try.underlying26 h
  rw [cells_span] at hl
  obtain ⟨c0, c1, rfl⟩ := list2 hl
  have hlen' : xs.length = 2 := hlen
  obtain ⟨y0, h0⟩ := field_some (hf 0 _ rfl) (by omega)
  obtain ⟨y1, h1⟩ := field_some (hf 1 _ rfl) (by omega)
  simp only [List.getElem_toArray, List.getElem_cons_zero, List.getElem_cons_succ, cells_str, List.drop_zero, List.drop_succ_cons, List.take_succ_cons, List.take_zero] at h0 h1
  obtain ⟨s0, e0, f0⟩ := opens_string H enc w _ _ _ h0
  obtain ⟨s1, e1, f1⟩ := opens_string H enc w _ _ _ h1
  injection e0 with e0 _
  injection e1 with e1 _
  subst e0 e1
  exact ⟨⟨s0, s1⟩, rfl, f0, f1⟩
theorem opens_tab : Opens Try.prog 28 tTab := by
  intro H enc w fuel cs x h
  obtain ⟨xs, n, _, _, hl, hlen, hf⟩ := DataW.trod_struct Try.underlying28 h
  rw [cells_tab] at hl
  obtain ⟨c0, c1, c2, c3, rfl⟩ := list4 hl
  have hlen' : xs.length = 3 := hlen
  obtain ⟨y0, h0⟩ := field_some (hf 0 _ rfl) (by omega)
  obtain ⟨y1, h1⟩ := field_some (hf 1 _ rfl) (by omega)
  obtain ⟨y2, h2⟩ := field_some (hf 2 _ rfl) (by omega)
  simp only [List.getElem_toArray, List.getElem_cons_zero, List.getElem_cons_succ, cells_span, cells_int, List.drop_zero, List.drop_succ_cons, List.take_succ_cons, List.take_zero] at h0 h1 h2
  obtain ⟨s, e0, f0⟩ := opens_span H enc w _ _ _ h0
  obtain ⟨n1, e1, f1⟩ := opens_i64 H enc w _ _ _ h1
  obtain ⟨n2, e2, f2⟩ := opens_i64 H enc w _ _ _ h2
  injection e0 with e0 e0'
  injection e0' with e0' _
  injection e1 with e1 _
  injection e2 with e2 _
  subst e0 e0' e1 e2
  exact ⟨⟨s, n1, n2⟩, rfl, f0, f1, f2⟩
theorem opens_tabs : Opens Try.prog 22 (tSl tTab) := opens_slice Try.underlying22 cells_tab (by decide) opens_tab
theorem opens_ints : Opens Try.prog 23 (tSl (tInt .i64)) := opens_slice Try.underlying23 cells_int (by decide) opens_i64
theorem own_try : ownKnob Try.prog.godebug = none := by kernel_rfl
theorem laid_try : laidOutB Try.prog = true := by kernel_rfl
end Go.Proofs.Ytebdaoihajjgmaa
