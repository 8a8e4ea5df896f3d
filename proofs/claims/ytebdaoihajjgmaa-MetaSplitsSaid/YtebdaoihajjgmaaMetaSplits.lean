/- 'wardmotelaw11.MetaSplits' returns true at every input, and its arguments read as they did: no condition. -/
import Derived.Test.YtebdaoihajjgmaaRdr
import Derived.Test.YtebdaoihajjgmaaSpls
set_option linter.unusedVariables false
set_option linter.unusedSimpArgs false
namespace Go.Proofs.Ytebdaoihajjgmaa
open Go.ChangeShapes Go.WideShapes Go.ChangeAt Go.RowKit Go.Joins

theorem cells_tabs : Try.prog.cellsOf 22 = 1 := by kernel_rfl
theorem cells_drw : Try.prog.cellsOf 47 = 5 := by kernel_rfl
theorem list5 {α : Type} {l : List α} (h : l.length = 5) : ∃ a b c d e, l = [a, b, c, d, e] := by
  match l, h with
  | [a, b, c, d, e], _ => exact ⟨a, b, c, d, e, rfl⟩
theorem opens_drw : Opens Try.prog 47 tDrw := by
  intro H enc w fuel cs x h
  obtain ⟨xs, n, _, _, hl, hlen, hf⟩ := DataW.trod_struct Try.underlying47 h
  rw [cells_drw] at hl
  obtain ⟨c0, c1, c2, c3, c4, rfl⟩ := list5 hl
  have hlen' : xs.length = 5 := hlen
  obtain ⟨y0, h0⟩ := field_some (hf 0 _ rfl) (by omega)
  obtain ⟨y1, h1⟩ := field_some (hf 1 _ rfl) (by omega)
  obtain ⟨y2, h2⟩ := field_some (hf 2 _ rfl) (by omega)
  obtain ⟨y3, h3⟩ := field_some (hf 3 _ rfl) (by omega)
  obtain ⟨y4, h4⟩ := field_some (hf 4 _ rfl) (by omega)
  simp only [List.getElem_toArray, List.getElem_cons_zero, List.getElem_cons_succ, cells_int, cells_tabs, List.drop_zero, List.drop_succ_cons, List.take_succ_cons, List.take_zero] at h0 h1 h2 h3 h4
  obtain ⟨n0, e0, f0⟩ := opens_i64 H enc w _ _ _ h0
  obtain ⟨n1, e1, f1⟩ := opens_i64 H enc w _ _ _ h1
  obtain ⟨n2, e2, f2⟩ := opens_i64 H enc w _ _ _ h2
  obtain ⟨n3, e3, f3⟩ := opens_i64 H enc w _ _ _ h3
  obtain ⟨l, v, e4, hs⟩ := opens_tabs H enc w _ _ _ h4
  injection e0 with e0 _
  injection e1 with e1 _
  injection e2 with e2 _
  injection e3 with e3 _
  injection e4 with e4 _
  subst e0 e1 e2 e3 e4
  exact ⟨⟨n0, n1, n2, n3, l⟩, _, rfl, ⟨f0, f1, f2, f3⟩, hs⟩
theorem opens_drws : Opens Try.prog 41 (tSl tDrw) := opens_slice Try.underlying41 cells_drw (by decide) opens_drw
theorem opens_strs : Opens Try.prog 42 (tSl tStr) := opens_slice Try.underlying42 cells_str (by decide) opens_string

set_option maxRecDepth 100000 in
theorem metaSplits_lifted (os : Os) (started : os.Started) (H : Type) (enc : TypeId × Value → H) :
    ReturnsInHanded {} Try.checked os 4 .any (Rows.metaSplitsSpec.pre6 enc Try.prog Try.f4 Rows.metaSplitsRow.domain false) (Rows.metaSplitsSpec.post enc Try.prog Try.f4 false true false false) := by
  refine returnsInHanded_of_change (C := Try.checked) own_try started (by kernel_rfl) Try.func4
    (ChangeSpec.witness6 (enc := enc) (C := Try.checked) false ⟨#[], #[.slice none 0 0, .slice none 0 0], []⟩ 8 (by kernel_rfl) (by kernel_rfl) (by kernel_rfl) (by kernel_rfl)) ?_
  intro W base args ds gs before hval0 hW _ _
  have hval : ∀ (j : Nat) t v, Try.f4.params[j]? = some t → args[j]? = some v → Value.okWide Try.prog W .any base t v := hval0
  have hW' := hW
  obtain ⟨p, q, hA0, hV, rfl, _, _⟩ := hW
  have hA : DataW.TrodAll enc Try.prog W 0 (fun _ => true) true Try.f4.params.toList args.toList ds p := hA0
  rw [Try.params4] at hA hval
  obtain ⟨v0, v1, d0, d1, p0, p1, rfl, rfl, rfl, h0, h1⟩ := trodAll_two hA
  obtain ⟨rfl, rfl⟩ := trodVars_none hV
  have h0k := h0
  have h1k := h1
  obtain ⟨f0, hf0⟩ := h0
  obtain ⟨f1, hf1⟩ := h1
  obtain ⟨l, y0, e0, hl⟩ := opens_drws H enc W _ _ _ hf0
  obtain ⟨cuts, y1, e1, hcuts⟩ := opens_strs H enc W _ _ _ hf1
  obtain ⟨a0, n0, c0, rfl⟩ := okWide_slice Try.underlying41 (hval 0 41 v0 rfl rfl)
  obtain ⟨a1, n1, c1, rfl⟩ := okWide_slice Try.underlying42 (hval 1 42 v1 rfl rfl)
  obtain rfl : .slice a0 n0 c0 = y0 := by injection e0
  obtain rfl : .slice a1 n1 c1 = y1 := by injection e1
  clear hA0 hval0
  simp only [List.append_nil] at hW'
  have hlt : ∀ x ∈ p0 ++ p1, x.block < W.heap.size := fun x hx => by simpa using hW'.lt x hx
  have hcall := MetaSplits_yes (fun b => b < W.heap.size) _ _ l cuts W hl hcuts (fun b hb => hb)
  refine hcall.mono fun e W' ⟨he, hc⟩ => ?_
  subst he
  have bel : Below W.heap.size W W' := hc.below0
  exact ⟨_, rfl, _, _, _, [], p0 ++ p1, [], hW', trodAll_mk1 (shut_bool Try.underlying4 true), trodAll_mk2 (Below.trod laid_try (by kernel_rfl) (of_decide_eq_true (by kernel_rfl)) h0k bel fun x hx => hlt x (by simp [hx])) (Below.trod laid_try (by kernel_rfl) (of_decide_eq_true (by kernel_rfl)) h1k bel fun x hx => hlt x (by simp [hx])), rfl, bel.frame _, fun h => by cases h⟩

theorem metaSplits_holds : Rows.MetaSplitsSaid :=
  OpenClaim.holds_of_wide 4 Try.f4 rfl rfl rfl rfl rfl rfl rfl ⟨rfl, rfl, rfl, rfl, rfl⟩ rfl rfl rfl rfl rfl (by kernel_rfl) Try.func4 (by kernel_rfl)
    (of_decide_eq_true (by kernel_rfl)) (by unfold Func.isWrapper; rw [if_neg (of_decide_eq_false (by kernel_rfl))]; exact ⟨rfl, rfl⟩)
    (fun os started H enc _ => metaSplits_lifted os started H enc)

#print axioms metaSplits_holds
end Go.Proofs.Ytebdaoihajjgmaa
