/- 'wardmotelaw16.MsgBack' returns true at every input, and its argument reads as it did: no condition. -/
import Derived.Test.YthfeipnbhecjdaaRows
import Derived.Test.YthfeipnbhecjdaaBck
import Derived.Test.YthfeipnbhecjdaaOpn
import Derived.ProofKit
import Derived.JoinedOf
import Derived.JoinedAt
import Derived.RowKit3
import Derived.Carry
import Derived.ChangeSame
set_option linter.unusedVariables false
set_option linter.unusedSimpArgs false
namespace Go.Proofs.Ythfeipnbhecjdaa
open Go.ChangeShapes Go.WideShapes Go.ChangeAt Go.RowKit Go.Joins

theorem cells_int : Try.prog.cellsOf 3 = 1 := by kernel_rfl
theorem cells_u8 : Try.prog.cellsOf 5 = 1 := by kernel_rfl
theorem cells_bytes : Try.prog.cellsOf 22 = 1 := by kernel_rfl
theorem cells_votes : Try.prog.cellsOf 23 = 1 := by kernel_rfl
theorem cells_vote : Try.prog.cellsOf 36 = 3 := by kernel_rfl
theorem cells_draw : Try.prog.cellsOf 25 = 10 := by kernel_rfl
theorem opens_byte : Opens Try.prog 5 tB := opens_int Try.underlying5
theorem opens_i64 : Opens Try.prog 3 (tInt .i64) := opens_int Try.underlying3
theorem opens_bytes : Opens Try.prog 22 (tSl tB) := opens_slice Try.underlying22 cells_u8 (by decide) opens_byte
theorem opens_vote : Opens Try.prog 36 tVote := by
  intro H enc w fuel cs x h
  obtain ⟨xs, n, _, _, hl, hlen, hf⟩ := DataW.trod_struct Try.underlying36 h
  rw [cells_vote] at hl
  obtain ⟨c0, c1, c2, rfl⟩ := list3 hl
  have hlen' : xs.length = 3 := hlen
  obtain ⟨y0, h0⟩ := field_some (hf 0 _ rfl) (by omega)
  obtain ⟨y1, h1⟩ := field_some (hf 1 _ rfl) (by omega)
  obtain ⟨y2, h2⟩ := field_some (hf 2 _ rfl) (by omega)
  simp only [List.getElem_toArray, List.getElem_cons_zero, List.getElem_cons_succ, cells_int, cells_bytes, List.drop_zero, List.drop_succ_cons, List.take_succ_cons, List.take_zero] at h0 h1 h2
  obtain ⟨n0, e0, f0⟩ := opens_i64 H enc w _ _ _ h0
  obtain ⟨n1, e1, f1⟩ := opens_i64 H enc w _ _ _ h1
  obtain ⟨l, v, e2, hs⟩ := opens_bytes H enc w _ _ _ h2
  injection e0 with e0 _
  injection e1 with e1 _
  injection e2 with e2 _
  subst e0 e1 e2
  exact ⟨⟨n0, n1, l⟩, _, rfl, f0, f1, hs⟩
theorem opens_votes : Opens Try.prog 23 (tSl tVote) := opens_slice Try.underlying23 cells_vote (by decide) opens_vote
theorem open_draw {H : Type} {enc : TypeId × Value → H} {w : World} {fuel : Nat} {cs : List Value} {x : DataW H × List MemPlace}
    (h : DataW.trod enc Try.prog w 0 (fun _ => true) true fuel 25 cs = some x) : ∃ d, MsgAt w (fun b => b < w.heap.size) cs d ∧ DrawFits d := by
  obtain ⟨xs, n, _, _, hl, hlen, hf⟩ := DataW.trod_struct Try.underlying25 h
  rw [cells_draw] at hl
  obtain ⟨c0, c1, c2, c3, c4, c5, c6, c7, c8, c9, rfl⟩ := list10 hl
  have hlen' : xs.length = 10 := hlen
  obtain ⟨y0, h0⟩ := field_some (hf 0 _ rfl) (by omega)
  obtain ⟨y1, h1⟩ := field_some (hf 1 _ rfl) (by omega)
  obtain ⟨y2, h2⟩ := field_some (hf 2 _ rfl) (by omega)
  obtain ⟨y3, h3⟩ := field_some (hf 3 _ rfl) (by omega)
  obtain ⟨y4, h4⟩ := field_some (hf 4 _ rfl) (by omega)
  obtain ⟨y5, h5⟩ := field_some (hf 5 _ rfl) (by omega)
  obtain ⟨y6, h6⟩ := field_some (hf 6 _ rfl) (by omega)
  obtain ⟨y7, h7⟩ := field_some (hf 7 _ rfl) (by omega)
  obtain ⟨y8, h8⟩ := field_some (hf 8 _ rfl) (by omega)
  obtain ⟨y9, h9⟩ := field_some (hf 9 _ rfl) (by omega)
  clear hf
  simp only [List.getElem_toArray, List.getElem_cons_zero, List.getElem_cons_succ, cells_int, cells_bytes, cells_votes, List.drop_zero, List.drop_succ_cons, List.take_succ_cons, List.take_zero] at h0 h1 h2 h3 h4 h5 h6 h7 h8 h9
  obtain ⟨n0, e0, f0⟩ := opens_i64 H enc w _ _ _ h0
  obtain ⟨n1, e1, f1⟩ := opens_i64 H enc w _ _ _ h1
  obtain ⟨n2, e2, f2⟩ := opens_i64 H enc w _ _ _ h2
  obtain ⟨n3, e3, f3⟩ := opens_i64 H enc w _ _ _ h3
  obtain ⟨n4, e4, f4⟩ := opens_i64 H enc w _ _ _ h4
  obtain ⟨n5, e5, f5⟩ := opens_i64 H enc w _ _ _ h5
  obtain ⟨n6, e6, f6⟩ := opens_i64 H enc w _ _ _ h6
  obtain ⟨n7, e7, f7⟩ := opens_i64 H enc w _ _ _ h7
  obtain ⟨l8, v8, e8, s8⟩ := opens_bytes H enc w _ _ _ h8
  obtain ⟨l9, v9, e9, s9⟩ := opens_votes H enc w _ _ _ h9
  injection e0 with e0 _
  injection e1 with e1 _
  injection e2 with e2 _
  injection e3 with e3 _
  injection e4 with e4 _
  injection e5 with e5 _
  injection e6 with e6 _
  injection e7 with e7 _
  injection e8 with e8 _
  injection e9 with e9 _
  subst e0 e1 e2 e3 e4 e5 e6 e7 e8 e9
  exact ⟨⟨n0, n1, n2, n3, n4, n5, n6, n7, l8, l9⟩, ⟨_, _, rfl, s8, s9⟩, f0, f1, f2, f3, f4, f5, f6, f7⟩

theorem own_try : ownKnob Try.prog.godebug = none := by kernel_rfl
theorem laid_try : laidOutB Try.prog = true := by kernel_rfl

set_option maxRecDepth 100000 in
theorem msgBack_lifted (os : Os) (started : os.Started) (H : Type) (enc : TypeId × Value → H) :
    ReturnsInHanded {} Try.checked os 3 .any (Rows.msgBackSpec.pre6 enc Try.prog Try.f3 Rows.msgBackRow.domain false) (Rows.msgBackSpec.post enc Try.prog Try.f3 false true false false) := by
  refine returnsInHanded_of_change (C := Try.checked) own_try started (by kernel_rfl) Try.func3
    (ChangeSpec.witness6 (enc := enc) (C := Try.checked) false ⟨#[], #[.agg #[.int .i64 0, .int .i64 0, .int .i64 0, .int .i64 0, .int .i64 0, .int .i64 0, .int .i64 0, .int .i64 0, .slice none 0 0, .slice none 0 0]], []⟩ 8 (by kernel_rfl) (by kernel_rfl) (by kernel_rfl) (by kernel_rfl)) ?_
  intro W base args ds gs before hval0 hW _ _
  have hval : ∀ (j : Nat) t v, Try.f3.params[j]? = some t → args[j]? = some v → Value.okWide Try.prog W .any base t v := hval0
  have hW' := hW
  obtain ⟨p, q, hA0, hV, rfl, _, _⟩ := hW
  have hA : DataW.TrodAll enc Try.prog W 0 (fun _ => true) true Try.f3.params.toList args.toList ds p := hA0
  rw [Try.params3] at hA hval
  obtain ⟨v0, d0, rfl, rfl, h0⟩ := trodAll_one hA
  obtain ⟨rfl, rfl⟩ := trodVars_none hV
  have h0k := h0
  obtain ⟨cs, rfl, _⟩ := okWide_struct Try.underlying25 (hval 0 25 v0 rfl rfl)
  obtain ⟨fuel, hf⟩ := h0
  obtain ⟨d, hd, hfit⟩ := open_draw hf
  clear hA0 hval0
  simp only [List.append_nil] at hW'
  have hlt : ∀ x ∈ p, x.block < W.heap.size := fun x hx => by simpa using hW'.lt x hx
  have hcall := MsgBack_yes (fun b => b < W.heap.size) (Value.agg cs).cells.toList d W hd (fun b hb => hb) hfit
  have hcs : (Value.agg cs).cells.toList.toArray = cs := by simp [Value.cells]
  rw [hcs] at hcall
  refine hcall.mono fun e W' ⟨he, hc⟩ => ?_
  subst he
  have bel : Below W.heap.size W W' := hc.below0
  exact ⟨_, rfl, _, _, _, [], p, [], hW', trodAll_mk1 (shut_bool Try.underlying4 true), trodAll_mk1 (Below.trod laid_try (by kernel_rfl) (of_decide_eq_true (by kernel_rfl)) h0k bel hlt), rfl, bel.frame _, fun h => by cases h⟩

theorem msgBack_holds : Rows.MsgBackSaid :=
  OpenClaim.holds_of_wide 3 Try.f3 rfl rfl rfl rfl rfl rfl rfl ⟨rfl, rfl, rfl, rfl, rfl⟩ rfl rfl rfl rfl rfl (by kernel_rfl) Try.func3 (by kernel_rfl)
    (of_decide_eq_true (by kernel_rfl)) (by unfold Func.isWrapper; rw [if_neg (of_decide_eq_false (by kernel_rfl))]; exact ⟨rfl, rfl⟩)
    (fun os started H enc _ => msgBack_lifted os started H enc)

#print axioms msgBack_holds
end Go.Proofs.Ythfeipnbhecjdaa
