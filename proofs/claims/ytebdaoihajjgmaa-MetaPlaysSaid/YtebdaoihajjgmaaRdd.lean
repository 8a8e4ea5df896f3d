/- Draws, as the arguments read. -/
import Derived.Test.YtebdaoihajjgmaaRdr
import Derived.Test.YtebdaoihajjgmaaSpls
set_option linter.unusedVariables false
set_option linter.unusedSimpArgs false
namespace Go.Proofs.Ytebdaoihajjgmaa
open Go.ChangeShapes Go.WideShapes Go.ChangeAt Go.RowKit Go.Joins

theorem cells_tabs : Try.prog.cellsOf 22 = 1 := by kernel_rfl
theorem cells_drw : Try.prog.cellsOf 47 = 5 := by kernel_rfl
theorem list5 {α : Type} {l : List α} (h : l.length = 5) : ∃ a b c d e, l = [a, b, c, d, e] := by
  match l, h with
  | [a, b, c, d, e], _ => exact ⟨a, b, c, d, e, rfl⟩
theorem opens_drw : Opens Try.prog 47 tDrw := by
  intro H enc w fuel cs x h
  obtain ⟨xs, n, _, _, hl, hlen, hf⟩ := DataW.trod_struct Try.underlying47 h
  rw [cells_drw] at hl
  obtain ⟨c0, c1, c2, c3, c4, rfl⟩ := list5 hl
  have hlen' : xs.length = 5 := hlen
  obtain ⟨y0, h0⟩ := field_some (hf 0 _ rfl) (by omega)
  obtain ⟨y1, h1⟩ := field_some (hf 1 _ rfl) (by omega)
  obtain ⟨y2, h2⟩ := field_some (hf 2 _ rfl) (by omega)
  obtain ⟨y3, h3⟩ := field_some (hf 3 _ rfl) (by omega)
  obtain ⟨y4, h4⟩ := field_some (hf 4 _ rfl) (by omega)
  simp only [List.getElem_toArray, List.getElem_cons_zero, List.getElem_cons_succ, cells_int, cells_tabs, List.drop_zero, List.drop_succ_cons, List.take_succ_cons, List.take_zero] at h0 h1 h2 h3 h4
  obtain ⟨n0, e0, f0⟩ := opens_i64 H enc w _ _ _ h0
  obtain ⟨n1, e1, f1⟩ := opens_i64 H enc w _ _ _ h1
  obtain ⟨n2, e2, f2⟩ := opens_i64 H enc w _ _ _ h2
  obtain ⟨n3, e3, f3⟩ := opens_i64 H enc w _ _ _ h3
  obtain ⟨l, v, e4, hs⟩ := opens_tabs H enc w _ _ _ h4
  injection e0 with e0 _
  injection e1 with e1 _
  injection e2 with e2 _
  injection e3 with e3 _
  injection e4 with e4 _
  subst e0 e1 e2 e3 e4
  exact ⟨⟨n0, n1, n2, n3, l⟩, _, rfl, ⟨f0, f1, f2, f3⟩, hs⟩
theorem opens_drws : Opens Try.prog 41 (tSl tDrw) := opens_slice Try.underlying41 cells_drw (by decide) opens_drw
theorem opens_strs : Opens Try.prog 42 (tSl tStr) := opens_slice Try.underlying42 cells_str (by decide) opens_string
end Go.Proofs.Ytebdaoihajjgmaa
