/- From a reading of an argument to what lies in memory: numbers, strings, slices. -/
import Derived.Test.YtebdaoihajjgmaaBase
import Derived.Deep.Slices
import Derived.Lib.SmallJoins
set_option linter.unusedVariables false
set_option linter.unusedSimpArgs false
namespace Go.Proofs.Ytebdaoihajjgmaa
open Go.RowKit Go.Deep

/-- What reads at the type t lies in memory as a T. -/
def Opens {α : Type} (P : Program) (t : TypeId) (T : Ty α) : Prop :=
  ∀ (H : Type) (enc : TypeId × Value → H) (w : World) (fuel : Nat) (cs : List Value) (x : DataW H × List MemPlace),
    DataW.trod enc P w 0 (fun _ => true) true fuel t cs = some x → ∃ a, T.rep w (fun b => b < w.heap.size) cs a
section
variable {P : Program} {t e : TypeId} {α : Type} {T : Ty α}
theorem opens_int {k : IntKind} (ht : P.underlying t = some (.int k)) : Opens P t (tInt k) := by
  intro H enc w fuel cs x h
  obtain ⟨n, rfl, _, hw⟩ := DataW.trod_int ht h
  exact ⟨n, rfl, hw⟩
theorem opens_str (ht : P.underlying t = some .string) : Opens P t tStr := by
  intro H enc w fuel cs x h
  obtain ⟨s, rfl, _, hs⟩ := DataW.trod_string ht h
  exact ⟨s, rfl, hs⟩
theorem reps_row {w : World} {b off size : Nat} (hT : T.size = size) : ∀ n : Nat,
    (∀ i, i < n → ∃ cs a, T.rep w (fun b => b < w.heap.size) cs a ∧ ∀ j u, cs[j]? = some u → w.cell? ⟨b, off + (i * size + j), none⟩ = some u) →
    ∃ (xs : List Value) (l : List α), l.length = n ∧ xs.length = n * size ∧ Reps T w (fun b => b < w.heap.size) xs l ∧ ∀ j u, xs[j]? = some u → w.cell? ⟨b, off + j, none⟩ = some u
  | 0, _ => ⟨[], [], rfl, by simp, rfl, fun j u h => by simp at h⟩
  | n + 1, h => by
    obtain ⟨xs, l, h1, h2, h3, h4⟩ := reps_row hT n fun i hi => h i (by omega)
    obtain ⟨cs, a, h5, h6⟩ := h n (by omega)
    have hl := T.len h5
    refine ⟨xs ++ cs, l ++ [a], by simp [h1], by rw [List.length_append, h2, hl, hT, Nat.succ_mul], h3.append (Reps.single h5), fun j u hu => ?_⟩
    by_cases hj : j < xs.length
    · rw [List.getElem?_append_left hj] at hu
      exact h4 j u hu
    · rw [List.getElem?_append_right (by omega)] at hu
      have := h6 _ u hu
      rw [show n * size + (j - xs.length) = j by omega] at this
      exact this
theorem opens_slice (ht : P.underlying t = some (.slice e)) (he : P.cellsOf e = T.size) (hs : 0 < T.size) (h : Opens P e T) : Opens P t (tSl T) := by
  intro H enc w fuel cs x hx
  rcases open_slice ht hx with ⟨rfl, _⟩ | ⟨a, len, cap, m, n, D, Pl, rfl, _, hl, hm, hmm, _, hel⟩
  · exact ⟨[], _, rfl, SlT.nil_⟩
  · have hlm : len ≤ m := by rw [hmm]; simp; omega
    obtain ⟨b, off, spot⟩ := a
    by_cases h0 : 0 < len
    · have hsp : spot = none := by
        obtain ⟨cs', h1, h2⟩ := hel 0 (by omega)
        obtain ⟨_, h3, h4⟩ := World.cells?_some h1
        have := h4 0 (by rw [he]; exact hs)
        rw [List.getElem?_eq_getElem (by rw [h3, he]; exact hs)] at this
        simpa [Addr.add] using World.cell?_spot this
      subst hsp
      have hrow : ∀ i, i < len → ∃ cs a, T.rep w (fun b => b < w.heap.size) cs a ∧ ∀ j u, cs[j]? = some u → w.cell? ⟨b, off + (i * T.size + j), none⟩ = some u := by
        intro i hi
        obtain ⟨cs', h1, h2⟩ := hel i (by omega)
        obtain ⟨_, h3, h4⟩ := World.cells?_some h1
        obtain ⟨y, hy⟩ := h H enc w n cs' _ h2
        refine ⟨cs', y, hy, fun j u hu => ?_⟩
        have hj : j < P.cellsOf e := by
          rcases Nat.lt_or_ge j cs'.length with h | h
          · omega
          · rw [List.getElem?_eq_none h] at hu; cases hu
        have := h4 j hj
        rw [hu, he] at this
        rw [Go.WideShapes.add_plain, Go.WideShapes.add_plain, Nat.add_assoc] at this
        exact this
      obtain ⟨xs, l, h1, h2, h3, h4⟩ := reps_row rfl len hrow
      have hb : b < w.heap.size := by
        obtain ⟨cs', h1, h2⟩ := hel 0 (by omega)
        obtain ⟨_, h3, h4⟩ := World.cells?_some h1
        have := h4 0 (by rw [he]; exact hs)
        rw [List.getElem?_eq_getElem (by rw [h3, he]; exact hs)] at this
        rw [Go.WideShapes.add_plain, Go.WideShapes.add_plain] at this
        exact World.block_lt_of_cell? w _ this
      refine ⟨l, _, rfl, xs, ⟨by rw [h1]; exact h2, some ⟨b, off, none⟩, cap, by rw [h1], by omega, hm, (fun h => nomatch h), fun _ => ⟨b, off, rfl, hb, h4⟩⟩, h3⟩
    · have : len = 0 := by omega
      subst this
      exact ⟨[], _, rfl, [], ⟨by simp, _, cap, rfl, by simp, hm, (fun h => nomatch h), fun h => absurd h (by simp)⟩, rfl⟩
end
/-- A field of a struct. -/
theorem field_some {H : Type} {P : Program} {enc : TypeId × Value → H} {w : World} {n : Nat} {t : TypeId} {cs : List Value} {xs : List (DataW H × List MemPlace)} {i : Nat}
    (h : DataW.trod enc P w 0 (fun _ => true) true n t cs = xs[i]?) (hi : i < xs.length) : ∃ y, DataW.trod enc P w 0 (fun _ => true) true n t cs = some y := ⟨_, h.trans (List.getElem?_eq_getElem hi)⟩
theorem list3 {α : Type} {l : List α} (h : l.length = 3) : ∃ a b c, l = [a, b, c] := by
  match l, h with
  | [a, b, c], _ => exact ⟨a, b, c, rfl⟩
theorem list10 {α : Type} {l : List α} (h : l.length = 10) : ∃ a b c d e f g i j k, l = [a, b, c, d, e, f, g, i, j, k] := by
  match l, h with
  | [a, b, c, d, e, f, g, i, j, k], _ => exact ⟨a, b, c, d, e, f, g, i, j, k, rfl⟩
end Go.Proofs.Ytebdaoihajjgmaa
