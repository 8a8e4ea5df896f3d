/- Spans that cover all names: what follows for a list of tablets and its parts. No walk. -/
import Derived.Test.YtebdaoihajjgmaaPut
set_option linter.unusedVariables false
set_option linter.unusedSimpArgs false
namespace Go.Proofs.Ytebdaoihajjgmaa
open Go.RowKit

/-- They cover all names, in order. -/
structure Cov (l : List Tab) : Prop where
  ne : 0 < l.length
  first : l[0].span.lo.toList = []
  right : ∀ x ∈ l, pRight x.span = true
  link : ∀ i (h : i + 1 < l.length), l[i].span.hi.toList = l[i + 1].span.lo.toList ∧ l[i + 1].span.lo.toList ≠ []
  last : (l[l.length - 1]).span.hi.toList = []

theorem sLt_nil (a : List UInt8) : Op.bytesLess a [] = false := by cases a <;> rfl
theorem sLt_nil' (a : List UInt8) : Op.bytesLess [] a = true ↔ a ≠ [] := by cases a <;> simp [Op.bytesLess]
theorem sLt_le_trans {a b c : List UInt8} (h : Op.bytesLess b a = false) (h' : Op.bytesLess b c = true) : Op.bytesLess a c = true := by
  rcases sLt_tri a b with e | e | e
  · exact sLt_trans e h'
  · rw [e]; exact h'
  · rw [h] at e; cases e
theorem sLt_trans_le {a b c : List UInt8} (h : Op.bytesLess a b = true) (h' : Op.bytesLess c b = false) : Op.bytesLess a c = true := by
  rcases sLt_tri b c with e | e | e
  · exact sLt_trans h e
  · rw [← e]; exact h
  · rw [h'] at e; cases e
theorem right_lt {s : Span} (h : pRight s = true) (hh : s.hi.toList ≠ []) : Op.bytesLess s.lo.toList s.hi.toList = true := by
  unfold pRight at h
  simp only [Bool.and_eq_true, Bool.or_eq_true, sE, List.isEmpty_iff] at h
  rcases h.2 with h | h
  · exact absurd h hh
  · exact h

section
variable {l : List Tab} (hc : Cov l)
include hc
theorem Cov.step (i : Nat) (h : i + 1 < l.length) : Op.bytesLess l[i].span.lo.toList l[i + 1].span.lo.toList = true := by
  obtain ⟨h1, h2⟩ := hc.link i h
  have := right_lt (hc.right l[i] (List.getElem_mem _)) (by rw [h1]; exact h2)
  rwa [h1] at this
theorem Cov.inc : ∀ (j i : Nat) (hj : j < l.length) (hij : i < j), Op.bytesLess (l[i]'(by omega)).span.lo.toList l[j].span.lo.toList = true
  | 0, i, _, h => absurd h (by omega)
  | j + 1, i, hj, h => by
    rcases Nat.lt_or_ge i j with h' | h'
    · exact sLt_trans (Cov.inc j i (by omega) h') (hc.step j hj)
    · have : i = j := by omega
      subst this
      exact hc.step i hj
/-- The place of the tablet that has a name. -/
theorem Cov.place (n : ByteArray) : ∃ k, ∃ hk : k < l.length, Op.bytesLess n.toList l[k].span.lo.toList = false ∧ ∀ j (hj : j < l.length), k < j → Op.bytesLess n.toList l[j].span.lo.toList = true := by
  have main : ∀ m, m ≤ l.length → 0 < m → ∃ k, ∃ hk : k < m, ∃ hk' : k < l.length, Op.bytesLess n.toList l[k].span.lo.toList = false ∧ ∀ j (hj : j < l.length), j < m → k < j → Op.bytesLess n.toList l[j].span.lo.toList = true := by
    intro m
    induction m with
    | zero => intro _ h; omega
    | succ m ih =>
      intro hm _
      rcases Nat.eq_zero_or_pos m with h0 | h0
      · subst h0
        refine ⟨0, by omega, hc.ne, ?_, fun j _ h1 h2 => absurd h2 (by omega)⟩
        rw [hc.first]; exact sLt_nil _
      · obtain ⟨k, h1, h2, h3, h4⟩ := ih (by omega) h0
        cases hp : Op.bytesLess n.toList (l[m]'(by omega)).span.lo.toList
        · exact ⟨m, by omega, by omega, hp, fun j _ h1 h2 => absurd h2 (by omega)⟩
        · refine ⟨k, by omega, h2, h3, fun j hj h5 h6 => ?_⟩
          rcases Nat.lt_or_ge j m with h | h
          · exact h4 j hj h h6
          · have : j = m := by omega
            subst this
            exact hp
  obtain ⟨k, h1, h2, h3, h4⟩ := main l.length (Nat.le_refl _) hc.ne
  exact ⟨k, h2, h3, fun j hj h => h4 j hj hj h⟩
theorem Cov.has_iff (n : ByteArray) {k : Nat} (hk : k < l.length) (h1 : Op.bytesLess n.toList l[k].span.lo.toList = false) (h2 : ∀ j (hj : j < l.length), k < j → Op.bytesLess n.toList l[j].span.lo.toList = true) (j : Nat) (hj : j < l.length) :
    pHas l[j].span n = decide (j = k) := by
  show (!Op.bytesLess n.toList l[j].span.lo.toList && (l[j].span.hi.toList.isEmpty || Op.bytesLess n.toList l[j].span.hi.toList)) = decide (j = k)
  rcases Nat.lt_trichotomy j k with h | h | h
  · have hl := hc.link j (by omega)
    have hle : Op.bytesLess n.toList l[j].span.hi.toList = false := by
      rw [hl.1]
      rcases Nat.lt_or_ge (j + 1) k with h' | h'
      · cases e : Op.bytesLess n.toList l[j + 1].span.lo.toList
        · rfl
        · have := sLt_trans e (hc.inc k (j + 1) hk h')
          rw [h1] at this; cases this
      · have : k = j + 1 := by omega
        subst this
        exact h1
    have hne : l[j].span.hi.toList.isEmpty = false := by
      rw [List.isEmpty_eq_false_iff, hl.1]; exact hl.2
    rw [hne, hle]
    simp; omega
  · subst h
    rw [h1]
    simp only [Bool.not_false, Bool.true_and, decide_true, Bool.or_eq_true]
    rcases Nat.lt_or_ge (j + 1) l.length with h' | h'
    · right
      rw [(hc.link j h').1]
      exact h2 (j + 1) h' (by omega)
    · left
      have : j = l.length - 1 := by omega
      subst this
      rw [hc.last]; rfl
  · rw [h2 j hj h]
    simp; omega
end

/-! ### The program's answer -/
theorem chain_iff : ∀ (l : List Tab) (p : Option ByteArray), chain p (l.map (·.span)) = true ↔ (∀ x ∈ l, pRight x.span = true) ∧ (∀ i (h : i + 1 < l.length), l[i].span.hi.toList = l[i + 1].span.lo.toList ∧ l[i + 1].span.lo.toList ≠ []) ∧ (∀ q (h : 0 < l.length), p = some q → q.toList = l[0].span.lo.toList ∧ l[0].span.lo.toList ≠ [])
  | [], p => by simp [chain]
  | x :: r, p => by
    have ih := chain_iff r (some x.span.hi)
    have hcons : chain p ((x :: r).map (·.span)) = (pRight x.span && (match p with | none => true | some hi => !sE x.span.lo && decide (hi.toList = x.span.lo.toList)) && chain (some x.span.hi) (r.map (·.span))) := by
      cases p <;> simp [chain]
    rw [hcons]
    simp only [Bool.and_eq_true, ih]
    constructor
    · rintro ⟨⟨h1, h2⟩, h3, h4, h5⟩
      refine ⟨fun y hy => ?_, fun i h => ?_, fun q h hq => ?_⟩
      · rcases List.mem_cons.1 hy with rfl | hy
        · exact h1
        · exact h3 y hy
      · cases i with
        | zero => exact h5 x.span.hi (by simpa using h) rfl
        | succ i => exact h4 i (by simpa using h)
      · subst hq
        simp only [Bool.and_eq_true, decide_eq_true_eq, Bool.not_eq_true', sE, List.isEmpty_eq_false_iff] at h2
        exact ⟨h2.2, h2.1⟩
    · rintro ⟨h1, h2, h3⟩
      refine ⟨⟨h1 x (by simp), ?_⟩, fun y hy => h1 y (by simp [hy]), fun i h => h2 (i + 1) (by simpa using h), fun q h hq => ?_⟩
      · cases p with
        | none => rfl
        | some q =>
          have := h3 q (by simp) rfl
          simp only [Bool.and_eq_true, decide_eq_true_eq, Bool.not_eq_true', sE, List.isEmpty_eq_false_iff]
          exact ⟨this.2, this.1⟩
      · injection hq with hq
        subst hq
        exact h2 0 (by simpa using h)
theorem sCover_iff (l : List Tab) : sCover (l.map (·.span)) = true ↔ Cov l := by
  cases l with
  | nil => exact ⟨fun h => (by cases h), fun h => absurd h.ne (by simp)⟩
  | cons x r =>
    have hs : sCover ((x :: r).map (·.span)) = (sE x.span.lo && sE (((x :: r)[r.length]'(by simp)).span.hi) && chain none ((x :: r).map (·.span))) := by
      have e : (x.span :: List.map (fun x => x.span) r)[(r.map (·.span)).length]'(by simp) = ((x :: r)[r.length]'(by simp)).span := by
        have := List.getElem_map (fun x : Tab => x.span) (l := x :: r) (i := r.length) (h := by simp)
        simp only [List.length_map]
        exact this
      show (sE x.span.lo && sE ((x.span :: List.map (fun x => x.span) r)[(r.map (·.span)).length]'(by simp)).hi && _) = _
      rw [e]
      rfl
    rw [hs, Bool.and_eq_true, Bool.and_eq_true, chain_iff]
    constructor
    · rintro ⟨⟨h1, h2⟩, h3, h4, _⟩
      exact ⟨by simp, by simpa [sE] using h1, h3, h4, by simpa [sE] using h2⟩
    · intro h
      exact ⟨⟨by have := h.first; simpa [sE] using this, by have := h.last; simpa [sE] using this⟩, h.right, h.link, fun q _ hq => by cases hq⟩
theorem covFrom_iff : ∀ (l : List Tab) (lo : ByteArray) (hl : 0 < l.length), covFrom lo (l.map (·.span)) = true ↔
    (∀ x ∈ l, pRight x.span = true) ∧ l[0].span.lo.toList = lo.toList ∧ (∀ i (h : i + 1 < l.length), l[i].span.hi.toList = l[i + 1].span.lo.toList ∧ l[i + 1].span.lo.toList ≠ []) ∧ (l[l.length - 1]).span.hi.toList = []
  | [], _, h => absurd h (by simp)
  | [x], lo, _ => by
    simp [covFrom, sE, and_assoc]
  | x :: y :: r, lo, _ => by
    have ih := covFrom_iff (y :: r) x.span.hi (by simp)
    have hcons : covFrom lo ((x :: y :: r).map (·.span)) = (pRight x.span && decide (x.span.lo.toList = lo.toList) && !sE x.span.hi && covFrom x.span.hi ((y :: r).map (·.span))) := by
      simp [covFrom]
    rw [hcons]
    simp only [Bool.and_eq_true, decide_eq_true_eq, ih, Bool.not_eq_true', sE, List.isEmpty_eq_false_iff]
    constructor
    · rintro ⟨⟨⟨h1, h2⟩, h3⟩, h4, h5, h6, h7⟩
      refine ⟨fun z hz => ?_, h2, fun i h => ?_, by simpa using h7⟩
      · rcases List.mem_cons.1 hz with rfl | hz
        · exact h1
        · exact h4 z hz
      · cases i with
        | zero => exact ⟨h5.symm, by have e : y.span.lo.toList = x.span.hi.toList := h5; show y.span.lo.toList ≠ []; rw [e]; exact h3⟩
        | succ i => exact h6 i (by simpa using h)
    · rintro ⟨h1, h2, h3, h4⟩
      have h0 := h3 0 (by simp)
      refine ⟨⟨⟨h1 x (by simp), h2⟩, ?_⟩, fun z hz => h1 z (by simp [hz]), h0.1.symm, fun i h => h3 (i + 1) (by simpa using h), by simpa using h4⟩
      have e : x.span.hi.toList = y.span.lo.toList := h0.1
      rw [e]; exact h0.2
/-- The program's answer is the document's. -/
theorem pCover_eq (l : List Tab) : pCover (l.map (·.span)) = sCover (l.map (·.span)) := by
  rw [Bool.eq_iff_iff, sCover_iff]
  unfold pCover
  rw [Bool.and_eq_true, decide_eq_true_eq, List.length_map]
  constructor
  · rintro ⟨h1, h2⟩
    obtain ⟨a, b, c, d⟩ := (covFrom_iff l _ h2).1 h1
    exact ⟨h2, by simpa using b, a, c, d⟩
  · intro h
    exact ⟨(covFrom_iff l _ h.ne).2 ⟨h.right, by rw [h.first, ByteArray.toList_eq], h.link, h.last⟩, h.ne⟩

/-! ### Places -/
theorem lastLe_skip (n : ByteArray) : ∀ (l : List ByteArray) (k acc : Nat), (∀ i (h : i < l.length), Op.bytesLess n.toList l[i].toList = true) → lastLe n l k acc = acc
  | [], _, _, _ => rfl
  | lo :: r, k, acc, h => by
    have h0 : sLt n lo = true := h 0 (by simp)
    rw [lastLe, if_pos h0]
    exact lastLe_skip n r (k + 1) acc fun i hi => h (i + 1) (by simpa using hi)
theorem lastLe_eq (n : ByteArray) : ∀ (l : List ByteArray) (k acc m : Nat) (hm : m < l.length), Op.bytesLess n.toList l[m].toList = false → (∀ i (h : i < l.length), m < i → Op.bytesLess n.toList l[i].toList = true) → lastLe n l k acc = k + m
  | lo :: r, k, acc, 0, _, h1, h2 => by
    have h0 : ¬ sLt n lo = true := by rw [sLt, show lo.toList = (lo :: r)[0].toList from rfl, h1]; decide
    rw [lastLe, if_neg h0]
    exact lastLe_skip n r (k + 1) k fun i hi => h2 (i + 1) (by simpa using hi) (by omega)
  | lo :: r, k, acc, m + 1, hm, h1, h2 => by
    rw [lastLe, lastLe_eq n r (k + 1) _ m (by simpa using hm) h1 fun i hi h => h2 (i + 1) (by simpa using hi) (by omega)]
    omega
theorem idx_eq {α : Type} (q : α → Bool) : ∀ (l : List α) (k m : Nat) (hm : m < l.length), q l[m] = true → (∀ j (h : j < m), q (l[j]'(by omega)) = false) → idx q l k = ((k + m : Nat) : Int)
  | x :: r, k, 0, _, h1, _ => by
    have h0 : q x = true := h1
    rw [idx, if_pos h0]; rfl
  | x :: r, k, m + 1, hm, h1, h2 => by
    have h0 : ¬ q x = true := by rw [show q x = false from h2 0 (by omega)]; decide
    rw [idx, if_neg h0, idx_eq q r (k + 1) m (by simpa using hm) h1 fun j h => h2 (j + 1) (by omega)]
    congr 1; omega
theorem chunk_length {α : Type} : ∀ (l : List α), (chunk l).length = (l.length + 3) / 4
  | [] => by simp [chunk]
  | [a] => by simp [chunk]
  | [a, b] => by simp [chunk]
  | [a, b, c] => by simp [chunk]
  | a :: b :: c :: d :: r => by simp only [chunk, List.length_cons, chunk_length r]; omega
theorem chunk_get {α : Type} : ∀ (l : List α) (i : Nat) (h : i < (chunk l).length), (chunk l)[i] = (l.drop (4 * i)).take 4
  | [], i, h => absurd h (by simp [chunk])
  | [a], i, h => by have : i = 0 := by simp [chunk] at h; omega
                    subst this; rfl
  | [a, b], i, h => by have : i = 0 := by simp [chunk] at h; omega
                       subst this; rfl
  | [a, b, c], i, h => by have : i = 0 := by simp [chunk] at h; omega
                          subst this; rfl
  | a :: b :: c :: d :: r, 0, h => by simp [chunk]
  | a :: b :: c :: d :: r, i + 1, h => by
    have := chunk_get r i (by simpa [chunk] using h)
    simp only [chunk, List.getElem_cons_succ, this]
    rw [show 4 * (i + 1) = 4 * i + 4 by omega]
    rfl
theorem chunk_at {α : Type} (l : List α) (i j : Nat) (h : i < (chunk l).length) (hj : j < (chunk l)[i].length) : ∃ hk : 4 * i + j < l.length, (chunk l)[i][j] = l[4 * i + j] := by
  have e := chunk_get l i h
  have hlen : j < ((l.drop (4 * i)).take 4).length := by rw [← e]; exact hj
  have hk : 4 * i + j < l.length := by simp at hlen; omega
  refine ⟨hk, ?_⟩
  have : (chunk l)[i][j] = ((l.drop (4 * i)).take 4)[j] := by congr 1
  rw [this]
  simp
theorem chunk_len_at {α : Type} (l : List α) (i : Nat) (h : i < (chunk l).length) : (chunk l)[i].length = min 4 (l.length - 4 * i) := by
  rw [chunk_get l i h]; simp

/-- Where a name is: the tablet's place in the list, its meta tablet, its place there. -/
structure At (l : List Tab) (n : ByteArray) (k : Nat) : Prop where
  lt : k < l.length
  has : ∀ j (hj : j < l.length), pHas l[j].span n = decide (j = k)
  mtab : lastLe n ((chunk l).map rootOf) 0 0 = k / 4
  mlt : k / 4 < (chunk l).length
  jlt : k % 4 < (chunk l)[k / 4].length
  jidx : idx (fun x => pHas x.span n) (chunk l)[k / 4] 0 = ((k % 4 : Nat) : Int)
  got : (chunk l)[k / 4][k % 4] = l[k]
  idx : idx (fun y => tEq l[k] y) l 0 = ((k : Nat) : Int)
  eqs : ∀ j (hj : j < l.length), tEq l[j] l[k] = decide (j = k)
theorem root_at (l : List Tab) (i : Nat) (h : i < ((chunk l).map rootOf).length) : ∃ hk : 4 * i < l.length, ((chunk l).map rootOf)[i] = l[4 * i].span.lo := by
  have h' : i < (chunk l).length := by simpa using h
  have hl := chunk_len (l := l) ((chunk l)[i]) (List.getElem_mem _)
  obtain ⟨hk, e⟩ := chunk_at l i 0 h' (by omega)
  refine ⟨hk, ?_⟩
  rw [List.getElem_map, rootOf_get _ (by omega), e]
  rfl
theorem tEq_self (x : Tab) : tEq x x = true := by simp [tEq]
theorem Cov.at_ {l : List Tab} (hc : Cov l) (n : ByteArray) : ∃ k, At l n k := by
  obtain ⟨k, hk, h1, h2⟩ := hc.place n
  have hhas := hc.has_iff n hk h1 h2
  have hml : k / 4 < (chunk l).length := by rw [chunk_length]; omega
  have hjl : k % 4 < (chunk l)[k / 4].length := by rw [chunk_len_at l _ hml]; omega
  have hgot : (chunk l)[k / 4][k % 4] = l[k] := by
    obtain ⟨_, e⟩ := chunk_at l (k / 4) (k % 4) hml hjl
    rw [e]
    congr 1
    omega
  refine ⟨k, hk, hhas, ?_, hml, hjl, ?_, hgot, ?_, ?_⟩
  · have h0 : k / 4 < ((chunk l).map rootOf).length := by simpa using hml
    rw [lastLe_eq n _ 0 0 (k / 4) h0 ?_ ?_, Nat.zero_add]
    · obtain ⟨h4, e⟩ := root_at l (k / 4) h0
      rw [e]
      rcases Nat.lt_or_ge (4 * (k / 4)) k with h | h
      · cases e' : Op.bytesLess n.toList (l[4 * (k / 4)]).span.lo.toList
        · rfl
        · have := sLt_trans e' (hc.inc k (4 * (k / 4)) hk h)
          rw [h1] at this; cases this
      · have e' : l[4 * (k / 4)] = l[k] := by congr 1; omega
        rw [e']; exact h1
    · intro i hi hlt
      obtain ⟨h4, e⟩ := root_at l i hi
      rw [e]
      exact h2 (4 * i) h4 (by omega)
  · rw [idx_eq _ _ 0 (k % 4) hjl, Nat.zero_add]
    · show pHas (chunk l)[k / 4][k % 4].span n = true
      rw [hgot, hhas k hk]; simp
    · intro j hj
      obtain ⟨h4, e⟩ := chunk_at l (k / 4) j hml (by omega)
      rw [e, hhas _ h4]
      simp; omega
  · rw [idx_eq _ _ 0 k hk (tEq_self _), Nat.zero_add]
    intro j hj
    have := hc.inc k j hk hj
    cases e : tEq l[k] (l[j]'(by omega))
    · rfl
    · unfold tEq at e
      simp only [Bool.and_eq_true, beq_iff_eq] at e
      rw [e.1, sLt_irrefl] at this; cases this
  · intro j hj
    by_cases e : j = k
    · subst e; rw [tEq_self]; simp
    · have : Op.bytesLess l[j].span.lo.toList l[k].span.lo.toList = true ∨ Op.bytesLess l[k].span.lo.toList l[j].span.lo.toList = true := by
        rcases Nat.lt_or_ge j k with h | h
        · exact .inl (hc.inc k j hk h)
        · exact .inr (hc.inc j k hj (by omega))
      cases e' : tEq l[j] l[k]
      · simp [e]
      · unfold tEq at e'
        simp only [Bool.and_eq_true, beq_iff_eq] at e'
        rw [e'.1, sLt_irrefl] at this
        rcases this with h | h <;> cases h
end Go.Proofs.Ytebdaoihajjgmaa
