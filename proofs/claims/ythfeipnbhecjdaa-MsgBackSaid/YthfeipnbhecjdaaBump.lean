/- Rows of bytes and rows of votes into which numbers are stored: what a store of a number leaves. -/
import Derived.Test.YthfeipnbhecjdaaKno
set_option linter.unusedVariables false
set_option linter.unusedSimpArgs false
namespace Go.Proofs.Ythfeipnbhecjdaa
open Go.RowKit

/-- A slice of n bytes, whatever they are; they lie in a block between lo and hi. -/
def ByteRow (w : World) (lo hi : Nat) (v : Value) (n : Nat) : Prop :=
  ∃ A c, v = .slice A n c ∧ n ≤ c ∧ c ≤ 9223372036854775807 ∧ (0 < n → ∃ g cur, A = some ⟨g, 0, none⟩ ∧ lo ≤ g ∧ g < hi ∧ Blk w g 5 cur ∧ ∀ j, j < n → ∃ x, cur[j]? = some (.int .u8 x))
/-- A slice of n votes, whatever they are. -/
def VoteRow (w : World) (lo hi : Nat) (v : Value) (n : Nat) : Prop :=
  ∃ A c, v = .slice A n c ∧ n ≤ c ∧ c ≤ 9223372036854775807 ∧ (0 < n → ∃ g cur, A = some ⟨g, 0, none⟩ ∧ lo ≤ g ∧ g < hi ∧ Blk w g 36 cur ∧
    ∀ j, j < n → (∃ x, cur[j * 3]? = some (.int .i64 x)) ∧ ∃ bv nb, cur[j * 3 + 2]? = some bv ∧ ByteRow w lo hi bv nb)
/-- A number stored over a number. -/
def Bump (lo hi : Nat) (w w' : World) : Prop :=
  ∃ g j u t cur, lo ≤ g ∧ g < hi ∧ Blk w g t cur ∧ w' = w.setCell ⟨g, j, none⟩ u ∧ ((t = 5 ∧ ∃ x, u = .int .u8 x) ∨ (t = 36 ∧ j % 3 = 0 ∧ ∃ x, u = .int .i64 x))

section
variable {w w' : World} {lo hi : Nat} {v : Value} {n : Nat}
theorem Bump.chg (h : Bump lo hi w w') : Chg (In lo hi) w w' := by
  obtain ⟨g, j, u, t, cur, h1, h2, _, rfl, _⟩ := h
  exact (Chg.refl _ w).set (fun _ => ⟨h1, h2⟩) u
theorem Bump.size (h : Bump lo hi w w') : w'.heap.size = w.heap.size := by
  obtain ⟨g, j, u, t, cur, h1, h2, _, rfl, _⟩ := h
  simp [World.setCell]
/-- A block of bytes stays one. -/
theorem Bump.bytes (h : Bump lo hi w w') {g : Nat} {cur : Array Value} {n : Nat} (hb : Blk w g 5 cur) (hx : ∀ j, j < n → ∃ x, cur[j]? = some (.int .u8 x)) :
    ∃ cur', Blk w' g 5 cur' ∧ ∀ j, j < n → ∃ x, cur'[j]? = some (.int .u8 x) := by
  obtain ⟨g', i, u, t, cur0, h1, h2, hb', rfl, hu⟩ := h
  by_cases hg : g = g'
  · subst hg
    have ht : t = 5 := by
      have e := hb.symm.trans hb'
      injection e with e
      injection e with _ e
      exact e.symm
    rcases hu with ⟨_, x, rfl⟩ | ⟨h, _⟩
    · refine ⟨_, hb.set_ i _, fun j hj => ?_⟩
      by_cases hij : i = j
      · subst hij
        obtain ⟨y, hy⟩ := hx i hj
        refine ⟨x, ?_⟩
        have : i < cur.size := by
          rcases Nat.lt_or_ge i cur.size with h | h
          · exact h
          · rw [Array.getElem?_eq_none h] at hy; cases hy
        simp [this]
      · obtain ⟨y, hy⟩ := hx j hj
        exact ⟨y, by rw [Array.getElem?_setIfInBounds_ne hij]; exact hy⟩
    · rw [h] at ht; exact absurd ht (by decide)
  · exact ⟨cur, hb.far hg u, hx⟩
theorem ByteRow.bump (h : ByteRow w lo hi v n) (hb : Bump lo hi w w') : ByteRow w' lo hi v n := by
  obtain ⟨A, c, e, h1, h2, h3⟩ := h
  refine ⟨A, c, e, h1, h2, fun hn => ?_⟩
  obtain ⟨g, cur, e1, h4, h5, h6, h7⟩ := h3 hn
  obtain ⟨cur', h8, h9⟩ := hb.bytes h6 h7
  exact ⟨g, cur', e1, h4, h5, h8, h9⟩
/-- In a block of votes what is no slot stays. -/
theorem Bump.votes (h : Bump lo hi w w') {g : Nat} {cur : Array Value} (hb : Blk w g 36 cur) :
    ∃ cur', Blk w' g 36 cur' ∧ (∀ j, (∃ x, cur[j * 3]? = some (.int .i64 x)) → ∃ x, cur'[j * 3]? = some (.int .i64 x)) ∧ ∀ j, cur'[j * 3 + 2]? = cur[j * 3 + 2]? := by
  obtain ⟨g', i, u, t, cur0, h1, h2, hb', rfl, hu⟩ := h
  by_cases hg : g = g'
  · subst hg
    have ht : t = 36 := by
      have e := hb.symm.trans hb'
      injection e with e
      injection e with _ e
      exact e.symm
    rcases hu with ⟨h, _⟩ | ⟨_, hi3, x, rfl⟩
    · rw [h] at ht; exact absurd ht (by decide)
    · refine ⟨_, hb.set_ i _, fun j hj => ?_, fun j => ?_⟩
      · by_cases hij : i = j * 3
        · subst hij
          obtain ⟨y, hy⟩ := hj
          refine ⟨x, ?_⟩
          have : j * 3 < cur.size := by
            rcases Nat.lt_or_ge (j * 3) cur.size with h | h
            · exact h
            · rw [Array.getElem?_eq_none h] at hy; cases hy
          simp [this]
        · obtain ⟨y, hy⟩ := hj
          exact ⟨y, by rw [Array.getElem?_setIfInBounds_ne hij]; exact hy⟩
      · rw [Array.getElem?_setIfInBounds_ne (by omega)]
  · exact ⟨cur, hb.far hg u, fun _ h => h, fun _ => rfl⟩
theorem VoteRow.bump (h : VoteRow w lo hi v n) (hb : Bump lo hi w w') : VoteRow w' lo hi v n := by
  obtain ⟨A, c, e, h1, h2, h3⟩ := h
  refine ⟨A, c, e, h1, h2, fun hn => ?_⟩
  obtain ⟨g, cur, e1, h4, h5, h6, h7⟩ := h3 hn
  obtain ⟨cur', h8, h9, h10⟩ := hb.votes h6
  refine ⟨g, cur', e1, h4, h5, h8, fun j hj => ⟨h9 j (h7 j hj).1, ?_⟩⟩
  obtain ⟨bv, nb, h11, h12⟩ := (h7 j hj).2
  exact ⟨bv, nb, (h10 j).trans h11, h12.bump hb⟩
theorem ByteRow.chg {K : Nat → Prop} (h : ByteRow w lo hi v n) (hc : Chg K w w') (hk : ∀ b, lo ≤ b → b < hi → ¬ K b) : ByteRow w' lo hi v n := by
  obtain ⟨A, c, e, h1, h2, h3⟩ := h
  refine ⟨A, c, e, h1, h2, fun hn => ?_⟩
  obtain ⟨g, cur, e1, h4, h5, h6, h7⟩ := h3 hn
  exact ⟨g, cur, e1, h4, h5, h6.chg hc (hk g h4 h5), h7⟩
theorem VoteRow.chg {K : Nat → Prop} (h : VoteRow w lo hi v n) (hc : Chg K w w') (hk : ∀ b, lo ≤ b → b < hi → ¬ K b) : VoteRow w' lo hi v n := by
  obtain ⟨A, c, e, h1, h2, h3⟩ := h
  refine ⟨A, c, e, h1, h2, fun hn => ?_⟩
  obtain ⟨g, cur, e1, h4, h5, h6, h7⟩ := h3 hn
  refine ⟨g, cur, e1, h4, h5, h6.chg hc (hk g h4 h5), fun j hj => ⟨(h7 j hj).1, ?_⟩⟩
  obtain ⟨bv, nb, h8, h9⟩ := (h7 j hj).2
  exact ⟨bv, nb, h8, h9.chg hc hk⟩
theorem ByteRow.shape (h : ByteRow w lo hi v n) : ∃ A c, v = .slice A n c ∧ n ≤ c ∧ c ≤ 9223372036854775807 := by
  obtain ⟨A, c, e, h1, h2, _⟩ := h
  exact ⟨A, c, e, h1, h2⟩
theorem VoteRow.shape (h : VoteRow w lo hi v n) : ∃ A c, v = .slice A n c ∧ n ≤ c ∧ c ≤ 9223372036854775807 := by
  obtain ⟨A, c, e, h1, h2, _⟩ := h
  exact ⟨A, c, e, h1, h2⟩
theorem ByteRow.get {A : Option Addr} {m c : Nat} (h : ByteRow w lo hi (.slice A m c) n) {j : Nat} (hj : j < n) :
    ∃ g cur x, A = some ⟨g, 0, none⟩ ∧ lo ≤ g ∧ g < hi ∧ Blk w g 5 cur ∧ w.cell? ⟨g, j, none⟩ = some (.int .u8 x) := by
  obtain ⟨A', c', e, h1, h2, h3⟩ := h
  injection e with e1 e2 e3
  subst e1
  obtain ⟨g, cur, e1, h4, h5, h6, h7⟩ := h3 (by omega)
  obtain ⟨x, hx⟩ := h7 j hj
  exact ⟨g, cur, x, e1, h4, h5, h6, (h6.cell j).trans hx⟩
theorem VoteRow.get {A : Option Addr} {m c : Nat} (h : VoteRow w lo hi (.slice A m c) n) {j : Nat} (hj : j < n) :
    ∃ g cur x bv nb, A = some ⟨g, 0, none⟩ ∧ lo ≤ g ∧ g < hi ∧ Blk w g 36 cur ∧ w.cell? ⟨g, j * 3, none⟩ = some (.int .i64 x) ∧ w.cell? ⟨g, j * 3 + 2, none⟩ = some bv ∧ ByteRow w lo hi bv nb := by
  obtain ⟨A', c', e, h1, h2, h3⟩ := h
  injection e with e1 e2 e3
  subst e1
  obtain ⟨g, cur, e1, h4, h5, h6, h7⟩ := h3 (by omega)
  obtain ⟨⟨x, hx⟩, bv, nb, h8, h9⟩ := h7 j hj
  exact ⟨g, cur, x, bv, nb, e1, h4, h5, h6, (h6.cell _).trans hx, (h6.cell _).trans h8, h9⟩
theorem ByteRow.of_own {lo' : Nat} {l : List Int} (h : Own w lo' 5 tB Non v l) (hlo : lo ≤ lo') (hhi : w.heap.size ≤ hi) : ByteRow w lo hi v l.length := by
  have h0 := h
  obtain ⟨A, c, rfl, h1, h2⟩ := h.shape
  refine ⟨A, c, rfl, h1, h2, fun hn => ?_⟩
  obtain ⟨xs, ⟨hl, hrow⟩, hrep, _⟩ := h
  rcases hrow with ⟨e, e'⟩ | ⟨g, cap, cur, e, h3, h4, h5, h6, h7, h8⟩
  · omega
  · injection e with e1 e2 e3
    refine ⟨g, cur, e1, by omega, Nat.lt_of_lt_of_le (Blk.lt h4) hhi, h4, fun j hj => ?_⟩
    obtain ⟨cs, ⟨rfl, _⟩, hc⟩ := hrep.get hj
    have := hc 0 _ rfl
    rw [← h8] at this
    simp [tInt] at this
    rw [List.getElem?_take_of_lt hj] at this
    exact ⟨_, by simpa using this⟩
theorem VoteRow.of_own {lo' : Nat} {l : List Vote} {K : Nat → Prop} (h : Own w lo' 36 tVoteO K v l) (hlo : lo ≤ lo') (hhi : w.heap.size ≤ hi) (hK : ∀ b, K b → lo ≤ b) : VoteRow w lo hi v l.length := by
  obtain ⟨A, c, rfl, h1, h2⟩ := h.shape
  refine ⟨A, c, rfl, h1, h2, fun hn => ?_⟩
  obtain ⟨xs, ⟨hl, hrow⟩, hrep, _⟩ := h
  rcases hrow with ⟨e, e'⟩ | ⟨g, cap, cur, e, h3, h4, h5, h6, h7, h8⟩
  · omega
  · injection e with e1 e2 e3
    refine ⟨g, cur, e1, by omega, Nat.lt_of_lt_of_le (Blk.lt h4) hhi, h4, fun j hj => ?_⟩
    obtain ⟨cs, ⟨bv, lo2, rfl, _, _, ho, hr⟩, hc⟩ := hrep.get hj
    have c0 := hc 0 _ rfl
    have c2 := hc 2 _ rfl
    rw [← h8] at c0 c2
    have hs3 : tVoteO.size = 3 := rfl
    rw [hs3] at c0 c2
    rw [List.getElem?_take_of_lt (by omega)] at c0 c2
    refine ⟨⟨_, by simpa using c0⟩, bv, l[j].v.length, by simpa using c2, ?_⟩
    obtain ⟨Ab, cb, rfl, h9, h10⟩ := ho.shape
    refine ⟨Ab, cb, rfl, h9, h10, fun hn => ?_⟩
    obtain ⟨ys, ⟨hl', hrow'⟩, hrep', _⟩ := ho
    rcases hrow' with ⟨e, e'⟩ | ⟨g', cap', cur', e, h3', h4', h5', h6', h7', h8'⟩
    · omega
    · injection e with e1 e2 e3
      subst e1
      refine ⟨g', cur', rfl, hK _ (hr _ rfl), Nat.lt_of_lt_of_le (Blk.lt h4') hhi, h4', fun j' hj' => ?_⟩
      obtain ⟨cs, ⟨rfl, _⟩, hc⟩ := hrep'.get hj'
      have := hc 0 _ rfl
      rw [← h8'] at this
      simp [tInt] at this
      rw [List.getElem?_take_of_lt hj'] at this
      exact ⟨_, by simpa using this⟩
end
end Go.Proofs.Ythfeipnbhecjdaa
