/- Words on memory: what may have changed between two worlds, lists that lie in slices, rows of a call's own. No program in sight. -/
import Derived.WalkKit
import Derived.WalkLawsBesides
import Derived.WalkSpells
import Derived.Maps.AppendAt
import Derived.Lib.Hide
import Derived.Deep.AppendLies
import Derived.Deep.OwnRows
import Derived.OpenShut
import Derived.Deep.MidRow
import Derived.Laws.BytesArg
set_option linter.unusedVariables false
namespace Go.Proofs.Ytebdaoihajjgmaa
open Go.RowKit

theorem ret_int {k : IntKind} {a b : Int} (h : a = b) : Ending.returned (.int k a) = .returned (.int k b) := by rw [h]
theorem ret_bool {a b : Bool} (h : a = b) : Ending.returned (.bool a) = .returned (.bool b) := by rw [h]
theorem ret_val {a b : Value} (h : a = b) : Ending.returned a = .returned b := by rw [h]

/-! ### Worlds -/
/-- Of the blocks that were there, those outside K are as they were. -/
structure Chg (K : Nat → Prop) (w w' : World) : Prop where
  os : w'.os = w.os
  tape : w'.tape = w.tape
  output : w'.output = w.output
  size : w.heap.size ≤ w'.heap.size
  block : ∀ k, k < w.heap.size → ¬ K k → w'.heap[k]? = w.heap[k]?

/-- No block. -/
def Non : Nat → Prop := fun _ => False
/-- This block. -/
def Is (g : Nat) : Nat → Prop := fun k => k = g
/-- Blocks from lo on, below hi. -/
def In (lo hi : Nat) : Nat → Prop := fun k => lo ≤ k ∧ k < hi
/-- Blocks from lo on. -/
def Ge (lo : Nat) : Nat → Prop := fun k => lo ≤ k
/-- The block of a row of the call's own. -/
def Row (v : Value) : Nat → Prop := fun k => v.ownBlock = some k
/-- One or the other. -/
def Or2 (K K' : Nat → Prop) : Nat → Prop := fun k => K k ∨ K' k

section
variable {K K' : Nat → Prop} {w w1 w2 : World}
theorem Chg.refl (K : Nat → Prop) (w : World) : Chg K w w := ⟨rfl, rfl, rfl, Nat.le_refl _, fun _ _ _ => rfl⟩
theorem Chg.then_ (h : Chg K w w1) (h' : Chg K' w1 w2) (hk : ∀ k, k < w.heap.size → K' k → K k) : Chg K w w2 :=
  ⟨h'.os.trans h.os, h'.tape.trans h.tape, h'.output.trans h.output, Nat.le_trans h.size h'.size,
    fun k hk1 hk2 => (h'.block k (Nat.lt_of_lt_of_le hk1 h.size) (fun x => hk2 (hk k hk1 x))).trans (h.block k hk1 hk2)⟩
theorem Chg.trans (h : Chg K w w1) (h' : Chg K w1 w2) : Chg K w w2 := h.then_ h' fun _ _ x => x
theorem Chg.grow (h : Chg K w w1) (h' : Chg Non w1 w2) : Chg K w w2 := h.then_ h' fun _ _ x => x.elim
theorem Chg.mono (h : Chg K w w1) (hk : ∀ k, k < w.heap.size → K k → K' k) : Chg K' w w1 := ⟨h.os, h.tape, h.output, h.size, fun k hk1 hk2 => h.block k hk1 fun x => hk2 (hk k hk1 x)⟩
theorem Chg.any (h : Chg Non w w1) : Chg K w w1 := h.mono fun _ _ x => x.elim
theorem Chg.alloc (h : Chg K w w1) (o : Obj) : Chg K w (w1.alloc o) :=
  ⟨h.os, h.tape, h.output, Nat.le_trans h.size (by simp), fun k hk1 hk2 => (Below.heap_alloc _ _ _ (Nat.lt_of_lt_of_le hk1 h.size)).trans (h.block k hk1 hk2)⟩
theorem Chg.drew (h : Chg K w w1) : Chg K w w1.drew := ⟨h.os, h.tape, h.output, h.size, h.block⟩
theorem Chg.drewN (h : Chg K w w1) (n : Nat) : Chg K w (w1.drewN n) := ⟨h.os, h.tape, h.output, h.size, h.block⟩
theorem Chg.set (h : Chg K w w1) {p : Addr} (hp : p.block < w.heap.size → K p.block) (u : Value) : Chg K w (w1.setCell p u) :=
  ⟨h.os, h.tape, h.output, Nat.le_trans h.size (by simp [World.setCell]), fun k hk1 hk2 => (Below.heap_setCell _ _ _ _ (by rintro rfl; exact hk2 (hp hk1))).trans (h.block k hk1 hk2)⟩
theorem Chg.setNew (h : Chg K w w1) {p : Addr} (hp : w.heap.size ≤ p.block) (u : Value) : Chg K w (w1.setCell p u) := h.set (fun x => absurd hp (by omega)) u
theorem Chg.at_ (w : World) (g i : Nat) (u : Value) : Chg (Is g) w (w.setCell ⟨g, i, none⟩ u) :=
  (Chg.refl (Is g) w).set (p := ⟨g, i, none⟩) (fun _ => rfl) u
theorem Chg.grown {row : Option Nat} (h : Chg K w w1) (hg : w1.grownBy w2 row) (hr : ∀ k, k < w.heap.size → row = some k → K k) : Chg K w w2 :=
  ⟨hg.os.trans h.os, hg.tape.trans h.tape, hg.output.trans h.output, Nat.le_trans h.size hg.size,
    fun k hk1 hk2 => (hg.block k (Nat.lt_of_lt_of_le hk1 h.size) (fun e => hk2 (hr k hk1 e.symm))).trans (h.block k hk1 hk2)⟩
theorem Chg.of_below {B : Nat} (h : Below B w w1) : Chg (Ge B) w w1 := ⟨h.os, h.tape, h.output, h.size, fun k _ hk => h.block k (Nat.lt_of_not_le hk)⟩
theorem Chg.of_grow {B : Nat} (h : Below B w w1) (hB : w.heap.size ≤ B) : Chg Non w w1 := ⟨h.os, h.tape, h.output, h.size, fun k hk _ => h.block k (Nat.lt_of_lt_of_le hk hB)⟩
theorem Chg.below {B : Nat} (h : Chg K w w1) (hB : B ≤ w.heap.size) (hk : ∀ k, k < B → ¬ K k) : Below B w w1 := ⟨h.os, h.tape, h.output, h.size, fun k hk1 => h.block k (Nat.lt_of_lt_of_le hk1 hB) (hk k hk1)⟩
theorem Chg.below0 (h : Chg Non w w1) : Below w.heap.size w w1 := h.below (Nat.le_refl _) fun _ _ x => x
theorem Chg.cell (h : Chg K w w1) {p : Addr} (hp : p.block < w.heap.size) (hk : ¬ K p.block) : w1.cell? p = w.cell? p := World.cell?_of_block (w := w) (h.block _ hp hk)
theorem Chg.cellv (h : Chg K w w1) {p : Addr} {v : Value} (hc : w.cell? p = some v) (hk : ¬ K p.block) : w1.cell? p = some v := (h.cell (World.block_lt_of_cell? w p hc) hk).trans hc
theorem Chg.frozen (h : Chg K w w1) {p : Addr} (hp : p.block < w.heap.size) (hk : ¬ K p.block) : w1.frozen? p = w.frozen? p := World.frozen?_of_block (w := w) (h.block _ hp hk)
end

/-! ### A block that is known whole -/
def Blk (w : World) (g : Nat) (t : TypeId) (cs : Array Value) : Prop := w.heap[g]? = some (.cells cs t (0, 0))
section
variable {w w' : World} {g : Nat} {t : TypeId} {cs : Array Value} {K : Nat → Prop}
theorem Blk.lt (h : Blk w g t cs) : g < w.heap.size := by
  rcases Nat.lt_or_ge g w.heap.size with hlt | hge
  · exact hlt
  · unfold Blk at h; rw [Array.getElem?_eq_none hge] at h; cases h
theorem Blk.cell (h : Blk w g t cs) (i : Nat) : w.cell? ⟨g, i, none⟩ = cs[i]? := cell_of_row w g i cs t (0, 0) h
theorem Blk.frozen (h : Blk w g t cs) (i : Nat) : w.frozen? ⟨g, i, none⟩ = false := by
  unfold Blk at h
  simp [World.frozen?, h]
theorem Blk.new (w : World) (t : TypeId) (cs : Array Value) : Blk (w.alloc (.cells cs t)) w.heap.size t cs := heap_alloc_new w _
theorem Blk.newAt {w : World} {H : Nat} (hH : w.heap.size = H) (t : TypeId) (cs : Array Value) : Blk (w.alloc (.cells cs t)) H t cs := by subst hH; exact heap_alloc_new w _
theorem Blk.drew (h : Blk w g t cs) : Blk w.drew g t cs := h
theorem Blk.drewN (h : Blk w g t cs) (n : Nat) : Blk (w.drewN n) g t cs := h
theorem Blk.alloc (h : Blk w g t cs) (o : Obj) : Blk (w.alloc o) g t cs := (Below.heap_alloc w o g h.lt).trans h
theorem Blk.set_ (h : Blk w g t cs) (i : Nat) (u : Value) : Blk (w.setCell ⟨g, i, none⟩ u) g t (cs.setIfInBounds i u) := by
  unfold Blk at h ⊢
  simp [World.setCell, Array.getElem?_modify, h]
theorem Blk.far (h : Blk w g t cs) {p : Addr} (hp : g ≠ p.block) (u : Value) : Blk (w.setCell p u) g t cs := (Below.heap_setCell w p u g hp).trans h
theorem Blk.chg (h : Blk w g t cs) (hb : Chg K w w') (hg : ¬ K g) : Blk w' g t cs := (hb.block g h.lt hg).trans h
theorem Blk.grown {row : Option Nat} (h : Blk w g t cs) (hb : w.grownBy w' row) (hg : some g ≠ row) : Blk w' g t cs := (hb.block g h.lt hg).trans h
theorem Blk.ne_ {g' : Nat} {t' : TypeId} {cs' : Array Value} (h : Blk w g t cs) (h' : Blk w g' t' cs') (hne : t ≠ t') : g ≠ g' := by
  rintro rfl
  unfold Blk at h h'
  rw [h] at h'
  injection h' with h'
  injection h' with _ ht
  exact hne ht
theorem own_blk_ne {base : Nat} {e : TypeId} {size n : Nat} {v : Value} {xs : List Value} (h : w.ownsRow base e size v n xs) (hg : Blk w g t cs) (hne : e ≠ t) : v.ownBlock ≠ some g := by
  rcases h.2 with ⟨rfl, _⟩ | ⟨g', cap, cur, rfl, _, hh, _⟩
  · simp [Value.ownBlock]
  · intro he
    have : g' = g := by simpa [Value.ownBlock] using he
    subst this
    exact Blk.ne_ (t := e) hh hg hne rfl
theorem own_shape {base n : Nat} {e : TypeId} {size : Nat} {v : Value} {xs : List Value} (h : w.ownsRow base e size v n xs) : ∃ A c, v = .slice A n c ∧ n ≤ c ∧ c ≤ maxLen := by
  rcases h.2 with ⟨rfl, rfl⟩ | ⟨g, cap, cur, rfl, _, _, h1, h2, _⟩
  · exact ⟨none, 0, rfl, Nat.le_refl _, by unfold maxLen; omega⟩
  · exact ⟨_, cap, rfl, h1, h2⟩
theorem own_lt {base n : Nat} {e : TypeId} {size : Nat} {v : Value} {xs : List Value} (h : w.ownsRow base e size v n xs) {k : Nat} (hk : v.ownBlock = some k) : base ≤ k ∧ k < w.heap.size := h.lt k hk
theorem own_chg {base n : Nat} {e : TypeId} {size : Nat} {v : Value} {xs : List Value} (h : w.ownsRow base e size v n xs) (hb : Chg K w w') (hk : ∀ k, v.ownBlock = some k → ¬ K k) : w'.ownsRow base e size v n xs := by
  refine ⟨h.1, ?_⟩
  rcases h.2 with hn | ⟨g, cap, cur, rfl, hb', hgg, rest⟩
  · exact .inl hn
  · exact .inr ⟨g, cap, cur, rfl, hb', (hb.block g (Array.getElem?_eq_some_iff.1 hgg).1 (hk g rfl)).trans hgg, rest⟩
theorem own_set {base n : Nat} {e : TypeId} {size : Nat} {v : Value} {xs : List Value} (h : w.ownsRow base e size v n xs) {p : Addr} (hp : v.ownBlock ≠ some p.block) (u : Value) : (w.setCell p u).ownsRow base e size v n xs :=
  own_chg (K := Is p.block) h (show Chg (Is p.block) w (w.setCell p u) from (Chg.refl (Is p.block) w).set (fun _ => rfl) u) fun k hk e => hp (by rw [hk]; exact congrArg some e)
end

/-! ### Kinds of data, as cells -/
structure Ty (α : Type) where
  size : Nat
  rep : World → (Nat → Prop) → List Value → α → Prop
  len : ∀ {w K cs x}, rep w K cs x → cs.length = size
  one : ∀ {w K cs x}, rep w K cs x → ∀ u ∈ cs, u.oneCell' = true
  keep : ∀ {w w' K K' cs x}, rep w K cs x → (∀ b, K b → K' b ∧ w'.heap[b]? = w.heap[b]?) → rep w' K' cs x

/-- A slice of n elements that reads as these cells; they lie in a block of K. -/
def Sl (w : World) (K : Nat → Prop) (size : Nat) (v : Value) (n : Nat) (xs : List Value) : Prop :=
  xs.length = n * size ∧ ∃ A cap, v = .slice A n cap ∧ n ≤ cap ∧ cap ≤ maxLen ∧ (A = none → cap = 0) ∧
    (0 < n → ∃ b off, A = some ⟨b, off, none⟩ ∧ K b ∧ ∀ j u, xs[j]? = some u → w.cell? ⟨b, off + j, none⟩ = some u)

theorem Sl.keep {w w' : World} {K K' : Nat → Prop} {size n : Nat} {v : Value} {xs : List Value} (h : Sl w K size v n xs) (hk : ∀ b, K b → K' b ∧ w'.heap[b]? = w.heap[b]?) : Sl w' K' size v n xs := by
  obtain ⟨hl, A, cap, hv, h1, h2, h0, h3⟩ := h
  refine ⟨hl, A, cap, hv, h1, h2, h0, fun hn => ?_⟩
  obtain ⟨b, off, hA, hb, hc⟩ := h3 hn
  exact ⟨b, off, hA, (hk b hb).1, fun j u hu => (World.cell?_of_block (w := w) (hk b hb).2).trans (hc j u hu)⟩

section
variable {α : Type} (T : Ty α)
/-- These cells, one behind the other, are this list. -/
def Reps (w : World) (K : Nat → Prop) : List Value → List α → Prop
  | xs, [] => xs = []
  | xs, x :: l => ∃ c r, xs = c ++ r ∧ T.rep w K c x ∧ Reps w K r l
end
section
variable {α : Type} {T : Ty α} {w w' : World} {K K' : Nat → Prop}
theorem Reps.keep : ∀ {l : List α} {xs : List Value}, Reps T w K xs l → (∀ b, K b → K' b ∧ w'.heap[b]? = w.heap[b]?) → Reps T w' K' xs l
  | [], _, h, _ => h
  | _ :: _, _, ⟨c, r, e, h1, h2⟩, hk => ⟨c, r, e, T.keep h1 hk, Reps.keep h2 hk⟩
theorem Reps.len : ∀ {l : List α} {xs : List Value}, Reps T w K xs l → xs.length = l.length * T.size
  | [], _, h => by subst h; simp
  | _ :: l, _, ⟨c, r, e, h1, h2⟩ => by subst e; rw [List.length_append, T.len h1, Reps.len h2, List.length_cons, Nat.add_mul]; omega
theorem Reps.one : ∀ {l : List α} {xs : List Value}, Reps T w K xs l → ∀ u ∈ xs, u.oneCell' = true
  | [], _, h => by subst h; simp
  | _ :: l, _, ⟨c, r, e, h1, h2⟩ => by
    subst e; intro u hu
    rcases List.mem_append.1 hu with hu | hu
    · exact T.one h1 u hu
    · exact Reps.one h2 u hu
theorem Reps.append : ∀ {l l' : List α} {xs ys : List Value}, Reps T w K xs l → Reps T w K ys l' → Reps T w K (xs ++ ys) (l ++ l')
  | [], _, _, _, h, h' => by subst h; exact h'
  | _ :: l, _, _, ys, ⟨c, r, e, h1, h2⟩, h' => ⟨c, r ++ ys, by rw [e, List.append_assoc], h1, Reps.append h2 h'⟩
theorem Reps.single {c : List Value} {x : α} (h : T.rep w K c x) : Reps T w K c [x] := ⟨c, [], by simp, h, rfl⟩
theorem Reps.nil : Reps T w K [] ([] : List α) := rfl
theorem Reps.get : ∀ {l : List α} {xs : List Value} {k : Nat} (hk : k < l.length), Reps T w K xs l → ∃ c, T.rep w K c l[k] ∧ ∀ j u, c[j]? = some u → xs[k * T.size + j]? = some u
  | x :: l, xs, 0, hk, ⟨c, r, e, h1, h2⟩ => ⟨c, h1, fun j u hu => by
      subst e
      have hj := (List.getElem?_eq_some_iff.1 hu).1
      rw [Nat.zero_mul, Nat.zero_add, List.getElem?_append_left hj]; exact hu⟩
  | x :: l, xs, k + 1, hk, ⟨c, r, e, h1, h2⟩ => by
      obtain ⟨c', h3, h4⟩ := Reps.get (k := k) (by simpa using hk) h2
      refine ⟨c', by simpa using h3, fun j u hu => ?_⟩
      subst e
      have hl := T.len h1
      rw [List.getElem?_append_right (by rw [hl, Nat.add_mul]; omega)]
      have : (k + 1) * T.size + j - c.length = k * T.size + j := by rw [hl, Nat.add_mul]; omega
      rw [this]; exact h4 j u hu
theorem Reps.take : ∀ {l : List α} {xs : List Value} (k : Nat), Reps T w K xs l → Reps T w K (xs.take (k * T.size)) (l.take k)
  | _, xs, 0, _ => by simp [Reps]
  | [], _, k + 1, h => by subst h; simp [Reps]
  | x :: l, _, k + 1, ⟨c, r, e, h1, h2⟩ => by
      subst e
      have hl := T.len h1
      refine ⟨c, r.take (k * T.size), ?_, h1, Reps.take k h2⟩
      rw [List.take_append, List.take_of_length_le (by rw [hl, Nat.add_mul]; omega)]
      congr 2; rw [hl, Nat.add_mul]; omega
theorem Reps.drop : ∀ {l : List α} {xs : List Value} (k : Nat), Reps T w K xs l → Reps T w K (xs.drop (k * T.size)) (l.drop k)
  | _, xs, 0, h => by simpa using h
  | [], _, k + 1, h => by subst h; simp [Reps]
  | x :: l, _, k + 1, ⟨c, r, e, h1, h2⟩ => by
      subst e
      have hl := T.len h1
      rw [List.drop_append, List.drop_of_length_le (by rw [hl, Nat.add_mul]; omega), List.drop_succ_cons, List.nil_append]
      have : (k + 1) * T.size - c.length = k * T.size := by rw [hl, Nat.add_mul]; omega
      rw [this]; exact Reps.drop k h2
theorem Reps.cut {l l' : List α} {xs : List Value} (h : Reps T w K xs (l ++ l')) : ∃ ys zs, xs = ys ++ zs ∧ Reps T w K ys l ∧ Reps T w K zs l' :=
  ⟨xs.take (l.length * T.size), xs.drop (l.length * T.size), (List.take_append_drop _ _).symm, by simpa using Reps.take l.length h, by simpa using Reps.drop l.length h⟩
theorem Reps.shape {l : List α} {xs : List Value} (h : Reps T w K xs l) (hs : T.size = 0) : xs = [] := List.eq_nil_of_length_eq_zero (by rw [h.len, hs, Nat.mul_zero])
end

/-! ### A slice that reads as a list -/
def SlT {α : Type} (T : Ty α) (w : World) (K : Nat → Prop) (v : Value) (l : List α) : Prop := ∃ xs, Sl w K T.size v l.length xs ∧ Reps T w K xs l
section
variable {α : Type} {T : Ty α} {w w' : World} {K K' : Nat → Prop} {v : Value} {l : List α}
theorem SlT.keep (h : SlT T w K v l) (hk : ∀ b, K b → K' b ∧ w'.heap[b]? = w.heap[b]?) : SlT T w' K' v l := by
  obtain ⟨xs, h1, h2⟩ := h
  exact ⟨xs, h1.keep hk, h2.keep hk⟩
theorem SlT.mono (h : SlT T w K v l) (hk : ∀ b, K b → K' b) : SlT T w K' v l := h.keep fun b hb => ⟨hk b hb, rfl⟩
theorem SlT.chg {C : Nat → Prop} (h : SlT T w K v l) (hc : Chg C w w') (hk : ∀ b, K b → b < w.heap.size ∧ ¬ C b) : SlT T w' K v l := h.keep fun b hb => ⟨hb, hc.block b (hk b hb).1 (hk b hb).2⟩
theorem SlT.shape (h : SlT T w K v l) : ∃ A cap, v = .slice A l.length cap ∧ l.length ≤ cap ∧ cap ≤ 9223372036854775807 := by
  obtain ⟨xs, ⟨_, A, cap, h1, h2, h3, _⟩, _⟩ := h
  exact ⟨A, cap, h1, h2, h3⟩
theorem SlT.shape0 (h : SlT T w K v l) : ∃ A cap, v = .slice A l.length cap ∧ l.length ≤ cap ∧ cap ≤ 9223372036854775807 ∧ (A = none → cap = 0) := by
  obtain ⟨xs, ⟨_, A, cap, h1, h2, h3, h4, _⟩, _⟩ := h
  exact ⟨A, cap, h1, h2, h3, h4⟩
theorem SlT.get {A : Option Addr} {n cap : Nat} (h : SlT T w K (.slice A n cap) l) {k : Nat} (hk : k < l.length) :
    ∃ b off cs, A = some ⟨b, off, none⟩ ∧ K b ∧ T.rep w K cs l[k] ∧ ∀ j u, cs[j]? = some u → w.cell? ⟨b, off + k * T.size + j, none⟩ = some u := by
  obtain ⟨xs, ⟨_, A', cap', h1, _, _, _, h4⟩, h5⟩ := h
  obtain ⟨b, off, hA, hb, hc⟩ := h4 (by omega)
  obtain ⟨c, h6, h7⟩ := h5.get hk
  injection h1 with e1 e2 e3
  subst e1
  exact ⟨b, off, c, hA, hb, h6, fun j u hu => by rw [Nat.add_assoc]; exact hc _ _ (h7 j u hu)⟩
theorem SlT.nil_ : SlT T w K (.slice none 0 0) ([] : List α) := ⟨[], ⟨by simp, none, 0, rfl, Nat.le_refl _, by unfold maxLen; omega, fun _ => rfl, fun h => absurd h (by simp)⟩, rfl⟩
theorem SlT.len_eq {A : Option Addr} {n cap : Nat} (h : SlT T w K (.slice A n cap) l) : n = l.length := by
  obtain ⟨A', c', e, _⟩ := h.shape
  injection e
/-- A slice of slices: what lies in a slot. -/
def tSl {α : Type} (T : Ty α) : Ty (List α) where
  size := 1
  rep w K cs l := ∃ v, cs = [v] ∧ SlT T w K v l
  len := by rintro w K cs x ⟨v, rfl, _⟩; rfl
  one := by
    rintro w K cs x ⟨v, rfl, h⟩ u hu
    obtain ⟨A, cap, rfl, _⟩ := h.shape
    simp at hu; subst hu; rfl
  keep := by rintro w w' K K' cs x ⟨v, rfl, h⟩ hk; exact ⟨v, rfl, h.keep hk⟩
end

/-! ### Plain kinds -/
/-- A number that fits its kind. -/
def Fits (k : IntKind) (n : Int) : Prop := (Lit.int k n).wf = true
theorem Fits.i64 {n : Int} (h : Fits .i64 n) : -9223372036854775808 ≤ n ∧ n ≤ 9223372036854775807 := Go.bounds_i64 h
theorem Fits.u8 {n : Int} (h : Fits .u8 n) : 0 ≤ n ∧ n ≤ 255 := Go.bounds_u8 h
theorem fits_i64 {n : Int} (h : -9223372036854775808 ≤ n ∧ n ≤ 9223372036854775807) : Fits .i64 n := by
  simp [Fits, Lit.wf, IntKind.min, IntKind.max, IntKind.signed, IntKind.bits]; omega
theorem fits_u8 {n : Int} (h : 0 ≤ n ∧ n ≤ 255) : Fits .u8 n := by
  simp [Fits, Lit.wf, IntKind.min, IntKind.max, IntKind.signed, IntKind.bits]; omega
def tInt (k : IntKind) : Ty Int where
  size := 1
  rep _ _ cs n := cs = [.int k n] ∧ Fits k n
  len := by rintro w K cs x ⟨rfl, _⟩; rfl
  one := by rintro w K cs x ⟨rfl, _⟩ u hu; simp at hu; subst hu; rfl
  keep := by rintro w w' K K' cs x h _; exact h
def tStr : Ty ByteArray where
  size := 1
  rep _ _ cs s := cs = [.string s] ∧ s.size ≤ maxLen
  len := by rintro w K cs x ⟨rfl, _⟩; rfl
  one := by rintro w K cs x ⟨rfl, _⟩ u hu; simp at hu; subst hu; rfl
  keep := by rintro w w' K K' cs x h _; exact h
theorem tInt_flat {k : IntKind} {w w' : World} {K K' : Nat → Prop} {cs : List Value} {x : Int} (h : (tInt k).rep w K cs x) : (tInt k).rep w' K' cs x := h
theorem tStr_flat {w w' : World} {K K' : Nat → Prop} {cs : List Value} {x : ByteArray} (h : tStr.rep w K cs x) : tStr.rep w' K' cs x := h
/-- Bytes. -/
abbrev tB : Ty Int := tInt .u8
abbrev tBs : Ty (List Int) := tSl tB

/-! ### A row of the call's own that reads as a list; what its elements lead to lies in K -/
def Own {α : Type} (w : World) (lo : Nat) (e : TypeId) (T : Ty α) (K : Nat → Prop) (v : Value) (l : List α) : Prop :=
  ∃ xs, w.ownsRow lo e T.size v l.length xs ∧ Reps T w K xs l ∧ ∀ b, v.ownBlock = some b → ¬ K b
section
variable {α : Type} {T : Ty α} {w w' : World} {lo : Nat} {e : TypeId} {K K' : Nat → Prop} {v : Value} {l : List α}
theorem Own.nil_ : Own w lo e T K (.slice none 0 0) [] := ⟨[], World.ownsRow_nil w lo e T.size, rfl, by simp [Value.ownBlock]⟩
/-- An empty slice in a new block, as a literal of no element lies. -/
theorem Own.lit0 {w : World} {g : Nat} (hb : Blk w g e #[]) (hlo : lo ≤ g) (hK : ¬ K g) : Own w lo e T K (.slice (some ⟨g, 0, none⟩) 0 0) [] :=
  ⟨[], ⟨by simp, .inr ⟨g, 0, #[], rfl, hlo, hb, Nat.le_refl _, by unfold maxLen; omega, by simp, by simp⟩⟩, rfl, fun b hb => by simp [Value.ownBlock] at hb; subst hb; exact hK⟩
theorem Own.shape (h : Own w lo e T K v l) : ∃ A c, v = .slice A l.length c ∧ l.length ≤ c ∧ c ≤ 9223372036854775807 := by
  obtain ⟨xs, h1, _⟩ := h
  exact own_shape h1
theorem Own.lt (h : Own w lo e T K v l) {k : Nat} (hk : v.ownBlock = some k) : lo ≤ k ∧ k < w.heap.size := by
  obtain ⟨xs, h1, _⟩ := h
  exact own_lt h1 hk
theorem Own.chg {C : Nat → Prop} (h : Own w lo e T K v l) (hc : Chg C w w') (hr : ∀ b, v.ownBlock = some b → ¬ C b) (hk : ∀ b, K b → b < w.heap.size ∧ ¬ C b) : Own w' lo e T K v l := by
  obtain ⟨xs, h1, h2, h3⟩ := h
  exact ⟨xs, own_chg h1 hc hr, h2.keep fun b hb => ⟨hb, hc.block b (hk b hb).1 (hk b hb).2⟩, h3⟩
theorem Own.more (h : Own w lo e T K v l) (hk : ∀ b, K b → K' b) (hr : ∀ b, v.ownBlock = some b → ¬ K' b) : Own w lo e T K' v l := by
  obtain ⟨xs, h1, h2, h3⟩ := h
  exact ⟨xs, h1, h2.keep fun b hb => ⟨hk b hb, rfl⟩, hr⟩
theorem Own.ne_type {α' : Type} {T' : Ty α'} {lo' : Nat} {e' : TypeId} {K2 : Nat → Prop} {v' : Value} {l' : List α'} (h : Own w lo e T K v l) (h' : Own w lo' e' T' K2 v' l') (hne : e ≠ e') {b : Nat} (hb : v.ownBlock = some b) : v'.ownBlock ≠ some b := by
  obtain ⟨xs, h1, _⟩ := h
  obtain ⟨xs', h1', _⟩ := h'
  intro hb'
  rcases h1.2 with ⟨rfl, _⟩ | ⟨g, cap, cur, rfl, _, hh, _⟩
  · simp [Value.ownBlock] at hb
  · rcases h1'.2 with ⟨rfl, _⟩ | ⟨g', cap', cur', rfl, _, hh', _⟩
    · simp [Value.ownBlock] at hb'
    · have e1 : g = b := by simpa [Value.ownBlock] using hb
      have e2 : g' = b := by simpa [Value.ownBlock] using hb'
      rw [e1] at hh; rw [e2, hh] at hh'
      injection hh' with hh'
      injection hh' with _ ht
      exact hne ht
theorem Own.low (h : Own w lo e T K v l) {lo' : Nat} (hl : lo' ≤ lo) : Own w lo' e T K v l := by
  obtain ⟨xs, h1, h2, h3⟩ := h
  refine ⟨xs, ⟨h1.1, ?_⟩, h2, h3⟩
  rcases h1.2 with hn | ⟨g, cap, cur, rfl, hb, rest⟩
  · exact .inl hn
  · exact .inr ⟨g, cap, cur, rfl, Nat.le_trans hl hb, rest⟩
theorem Own.toSl (h : Own w lo e T K v l) (hk : ∀ b, K b → K' b) (hr : ∀ b, v.ownBlock = some b → K' b) : SlT T w K' v l := by
  obtain ⟨xs, h1, h2, h3⟩ := h
  refine ⟨xs, ⟨h1.1, ?_⟩, h2.keep fun b hb => ⟨hk b hb, rfl⟩⟩
  rcases h1.2 with ⟨hv, hn⟩ | ⟨g, cap, cur, hv, hg, hh, h4, h5, h6, h7⟩
  · exact ⟨none, 0, by rw [hv, hn], by omega, by unfold maxLen; omega, fun _ => rfl, fun h => absurd h (by omega)⟩
  · refine ⟨_, cap, hv, h4, h5, (fun h => nomatch h), fun _ => ⟨g, 0, rfl, hr g (by rw [hv]; rfl), fun j u hu => ?_⟩⟩
    have := h1.cells (g := g) (by rw [hv]; rfl) j u hu
    have ha : (⟨g, 0, none⟩ : Addr).add j = ⟨g, 0 + j, none⟩ := by unfold Addr.add; split <;> simp_all
    rwa [ha] at this
end

/-! ### append onto a row of the call's own -/
section
variable {P : Program} {α : Type}
theorem Sl.box {w : World} {g0 : Nat} {e : TypeId} {fr : Nat × Nat} {cs : List Value} {size : Nat} (hb : w.heap[g0]? = some (.cells cs.toArray e fr)) (hl : cs.length = size) : Sl w (Is g0) size (.slice (some ⟨g0, 0, none⟩) 1 1) 1 cs :=
  ⟨by omega, _, 1, rfl, Nat.le_refl _, by unfold maxLen; omega, fun h => (nomatch h), fun _ => ⟨g0, 0, rfl, rfl, fun j u hu => by
    rw [cell_of_row w g0 (0 + j) cs.toArray e fr hb]; simpa using hu⟩⟩

/-- append(v, x...): v the call's own, x whatever. -/
theorem run_app (T : Ty α) (w : World) (K KS : Nat → Prop) (t ty e : TypeId) (lo : Nat) (z : Value) (bytes : Nat) (ht : P.underlying t = some (.slice e))
    (hinfo : (P.info? e).map (fun i => (i.zero, i.size, i.bytes)) = some (some z, T.size, bytes)) (hzs : z.cells.size = T.size) (hsz : 0 < T.size) (hby : 0 < bytes)
    (v : Value) (l : List α) (xv : Value) (l' : List α) (cs : List Value) (hown : Own w lo e T K v l) (hsrc : Sl w KS T.size xv l'.length cs) (hrep : Reps T w K cs l') (hK : ∀ b, K b → b < w.heap.size)
    (hl : (l.length + l'.length) * bytes ≤ 140737488355328) (hlo : lo ≤ w.heap.size) :
    ∃ A c w', (Builtin.append_ #[t, t] ty #[v, xv]).run P w = .ok (.slice A (l.length + l'.length) c) w' ∧ Own w' lo e T K (.slice A (l.length + l'.length) c) (l ++ l') ∧ Chg (Row v) w w' ∧
      ((Value.slice A (l.length + l'.length) c).ownBlock = v.ownBlock ∨ (Value.slice A (l.length + l'.length) c).ownBlock = some w.heap.size) := by
  obtain ⟨i0, hi, hz0, hz1, hz2⟩ := info_parts hinfo
  obtain ⟨xs, h1, h2, h3⟩ := hown
  have hlen : l.length + l'.length ≤ 140737488355328 := Nat.le_trans (Nat.le_mul_of_pos_right _ hby) hl
  obtain ⟨hcl, A, cap, rfl, hn, hcm, hnil, hcell⟩ := hsrc
  have main : ∀ ad : Addr, A = some ad → (∀ j u, cs[j]? = some u → w.cell? (ad.add j) = some u) → ∃ A' c w', (Builtin.append_ #[t, t] ty #[v, .slice A l'.length cap]).run P w = .ok (.slice A' (l.length + l'.length) c) w' ∧ Own w' lo e T K (.slice A' (l.length + l'.length) c) (l ++ l') ∧ Chg (Row v) w w' ∧
      ((Value.slice A' (l.length + l'.length) c).ownBlock = v.ownBlock ∨ (Value.slice A' (l.length + l'.length) c).ownBlock = some w.heap.size) := by
    rintro ad rfl hc
    obtain ⟨v1, w1, hr, hown1, hg, _, hat⟩ := run_append_own_at (P := P) w lo t ty e i0 z T.size bytes ht hi hz0 hz1 hz2 hzs hsz v l.length xs h1 ad l'.length cap cs hcl hc hrep.one (by unfold maxLen; omega) hl hlo
    have hc : Chg (Row v) w w1 := (Chg.refl _ w).grown hg fun k _ hk => hk
    obtain ⟨A', c, rfl, _, _⟩ := own_shape hown1
    refine ⟨A', c, w1, hr, ⟨xs ++ cs, by simpa using hown1, ?_, ?_⟩, hc, hat⟩
    · have hk : ∀ b, K b → K b ∧ w1.heap[b]? = w.heap[b]? := fun b hb => ⟨hb, hc.block b (hK b hb) fun hr => h3 b hr hb⟩
      exact (h2.keep hk).append (hrep.keep hk)
    · intro b hb' hKb
      rcases hat with hat | hat
      · exact h3 b (hat.symm.trans hb') hKb
      · have := hK b hKb
        rw [hb'] at hat; injection hat with hat; omega
  rcases Nat.eq_zero_or_pos l'.length with h0 | h0
  · have hl0 : l' = [] := List.eq_nil_of_length_eq_zero h0
    subst hl0
    have hc0 : cs = [] := hrep
    subst hc0
    rcases A with _ | ad
    · have hcap := hnil rfl
      subst hcap
      obtain ⟨A', c, rfl, _⟩ := own_shape h1
      refine ⟨A', c, w, run_append_owned_none w lo t ty e i0 T.size ht hi _ _ xs h1, ⟨xs, by simpa using h1, by simpa using h2, h3⟩, Chg.refl _ _, .inl rfl⟩
    · exact main ad rfl (by simp)
  · obtain ⟨b, off, rfl, hb, hc⟩ := hcell h0
    refine main ⟨b, off, none⟩ rfl fun j u hu => ?_
    have ha : (⟨b, off, none⟩ : Addr).add j = ⟨b, off + j, none⟩ := by unfold Addr.add; split <;> simp_all
    rw [ha]; exact hc j u hu
end

section
variable {P : Program} {ops : Array Oper} {rest : List Oper} {o : Oper} {a : Act} {Q : Exit → Act → World → Prop} {w : World} {α : Type}
theorem wp_app {R : Act → World → Prop} (T : Ty α) (K KS : Nat → Prop) (s x : Operand) (t : TypeId)
    (ho : o.op = .call { callee := .builtin .append, args := #[s, x], argTypes := #[t, t] })
    (lo : Nat) (e : TypeId) (z : Value) (bytes : Nat) (ht : P.underlying t = some (.slice e))
    (hinfo : (P.info? e).map (fun i => (i.zero, i.size, i.bytes)) = some (some z, T.size, bytes)) (hzs : z.cells.size = T.size) (hsz : 0 < T.size) (hby : 0 < bytes)
    (v : Value) (l : List α) (xv : Value) (l' : List α) (cs : List Value) (hs : a.eval s = v) (hx : a.eval x = xv)
    (hown : Own w lo e T K v l) (hsrc : Sl w KS T.size xv l'.length cs) (hrep : Reps T w K cs l') (hK : ∀ b, K b → b < w.heap.size)
    (hl : (l.length + l'.length) * bytes ≤ 140737488355328) (hlo : lo ≤ w.heap.size)
    (h : ∀ A c w', Own w' lo e T K (.slice A (l.length + l'.length) c) (l ++ l') → Chg (Row v) w w' → ((Value.slice A (l.length + l'.length) c).ownBlock = v.ownBlock ∨ (Value.slice A (l.length + l'.length) c).ownBlock = some w.heap.size) →
      R (a.put o.dst (.slice A (l.length + l'.length) c)) w') : o.wp P a w R Q := by
  obtain ⟨A, c, w', hr, h1, h2, h3⟩ := run_app (P := P) T w K KS t o.type e lo z bytes ht hinfo hzs hsz hby v l xv l' cs hown hsrc hrep hK hl hlo
  unfold Oper.wp execOp
  simp only [ho, resolve, invoke, builtin, Sem.run_bind, Sem.run_pure, Result.andThen_ok, List.map_toArray, List.map_cons, List.map_nil, hs, hx, hr]
  exact h A c w' h1 h2 h3

/-- append(v, x), at the operation itself. -/
theorem wp_push {R : Act → World → Prop} (T : Ty α) (K : Nat → Prop) (s x : Operand) (t : TypeId)
    (ho : o.op = .call { callee := .builtin .append, args := #[s, x], argTypes := #[t, t] })
    (lo : Nat) (e : TypeId) (z : Value) (bytes : Nat) (ht : P.underlying t = some (.slice e))
    (hinfo : (P.info? e).map (fun i => (i.zero, i.size, i.bytes)) = some (some z, T.size, bytes)) (hzs : z.cells.size = T.size) (hsz : 0 < T.size) (hby : 0 < bytes)
    (v : Value) (l : List α) (x0 : α) (cs : List Value) (g0 : Nat) (fr : Nat × Nat) (hs : a.eval s = v) (hx : a.eval x = .slice (some ⟨g0, 0, none⟩) 1 1)
    (hown : Own w lo e T K v l) (hb : w.heap[g0]? = some (.cells cs.toArray e fr)) (hrep : T.rep w K cs x0) (hK : ∀ b, K b → b < w.heap.size)
    (hl : (l.length + 1) * bytes ≤ 140737488355328) (hlo : lo ≤ w.heap.size)
    (h : ∀ A c w', Own w' lo e T K (.slice A (l.length + 1) c) (l ++ [x0]) → Chg (Row v) w w' → ((Value.slice A (l.length + 1) c).ownBlock = v.ownBlock ∨ (Value.slice A (l.length + 1) c).ownBlock = some w.heap.size) →
      R (a.put o.dst (.slice A (l.length + 1) c)) w') : o.wp P a w R Q :=
  wp_app T K (Is g0) s x t ho lo e z bytes ht hinfo hzs hsz hby v l _ [x0] cs hs hx hown (Sl.box hb (T.len hrep)) (Reps.single hrep) hK hl hlo h

/-- append(v, x): the element lies in a block g0 of its own, as the translation lays it. -/
theorem wpList_push (T : Ty α) (K : Nat → Prop) (hgd : o.guard = none) (s x : Operand) (t : TypeId)
    (ho : o.op = .call { callee := .builtin .append, args := #[s, x], argTypes := #[t, t] })
    (lo : Nat) (e : TypeId) (z : Value) (bytes : Nat) (ht : P.underlying t = some (.slice e))
    (hinfo : (P.info? e).map (fun i => (i.zero, i.size, i.bytes)) = some (some z, T.size, bytes)) (hzs : z.cells.size = T.size) (hsz : 0 < T.size) (hby : 0 < bytes)
    (v : Value) (l : List α) (x0 : α) (cs : List Value) (g0 : Nat) (fr : Nat × Nat) (hs : a.eval s = v) (hx : a.eval x = .slice (some ⟨g0, 0, none⟩) 1 1)
    (hown : Own w lo e T K v l) (hb : w.heap[g0]? = some (.cells cs.toArray e fr)) (hrep : T.rep w K cs x0) (hK : ∀ b, K b → b < w.heap.size)
    (hl : (l.length + 1) * bytes ≤ 140737488355328) (hlo : lo ≤ w.heap.size)
    (h : ∀ A c w', Own w' lo e T K (.slice A (l.length + 1) c) (l ++ [x0]) → Chg (Row v) w w' → ((Value.slice A (l.length + 1) c).ownBlock = v.ownBlock ∨ (Value.slice A (l.length + 1) c).ownBlock = some w.heap.size) →
      wpList P ops Q rest (a.put o.dst (.slice A (l.length + 1) c)) w') :
    wpList P ops Q (o :: rest) a w :=
  wpList_plain hgd fun _ hK' => wp_app T K (Is g0) s x t ho lo e z bytes ht hinfo hzs hsz hby v l _ [x0] cs hs hx hown (Sl.box hb (T.len hrep)) (Reps.single hrep) hK hl hlo fun A c w' h1 h2 h3 => hK' _ _ (h A c w' h1 h2 h3)

/-- append(v, x...). -/
theorem wpList_pushes (T : Ty α) (K : Nat → Prop) (hgd : o.guard = none) (s x : Operand) (t : TypeId)
    (ho : o.op = .call { callee := .builtin .append, args := #[s, x], argTypes := #[t, t] })
    (lo : Nat) (e : TypeId) (z : Value) (bytes : Nat) (ht : P.underlying t = some (.slice e))
    (hinfo : (P.info? e).map (fun i => (i.zero, i.size, i.bytes)) = some (some z, T.size, bytes)) (hzs : z.cells.size = T.size) (hsz : 0 < T.size) (hby : 0 < bytes)
    (v : Value) (l : List α) (xv : Value) (l' : List α) (hs : a.eval s = v) (hx : a.eval x = xv)
    (hown : Own w lo e T K v l) (hsrc : SlT T w K xv l') (hK : ∀ b, K b → b < w.heap.size)
    (hl : (l.length + l'.length) * bytes ≤ 140737488355328) (hlo : lo ≤ w.heap.size)
    (h : ∀ A c w', Own w' lo e T K (.slice A (l.length + l'.length) c) (l ++ l') → Chg (Row v) w w' → ((Value.slice A (l.length + l'.length) c).ownBlock = v.ownBlock ∨ (Value.slice A (l.length + l'.length) c).ownBlock = some w.heap.size) →
      wpList P ops Q rest (a.put o.dst (.slice A (l.length + l'.length) c)) w') :
    wpList P ops Q (o :: rest) a w := by
  obtain ⟨cs, h1, h2⟩ := hsrc
  exact wpList_plain hgd fun _ hK' => wp_app T K K s x t ho lo e z bytes ht hinfo hzs hsz hby v l _ l' cs hs hx hown h1 h2 hK hl hlo fun A c w' h1 h2 h3 => hK' _ _ (h A c w' h1 h2 h3)

/-- append(v, x...): elements that lead nowhere. -/
theorem Reps.flat {T : Ty α} (hflat : ∀ {w w' : World} {K K' : Nat → Prop} {cs : List Value} {x : α}, T.rep w K cs x → T.rep w' K' cs x) {w w' : World} {K K' : Nat → Prop} : ∀ {l : List α} {xs : List Value}, Reps T w K xs l → Reps T w' K' xs l
  | [], _, h => h
  | _ :: _, _, ⟨c, r, e, h1, h2⟩ => ⟨c, r, e, hflat h1, Reps.flat hflat h2⟩
theorem wpList_pushes_flat (T : Ty α) (hflat : ∀ {w w' : World} {K K' : Nat → Prop} {cs : List Value} {x : α}, T.rep w K cs x → T.rep w' K' cs x) (K : Nat → Prop) (hgd : o.guard = none) (s x : Operand) (t : TypeId)
    (ho : o.op = .call { callee := .builtin .append, args := #[s, x], argTypes := #[t, t] })
    (lo : Nat) (e : TypeId) (z : Value) (bytes : Nat) (ht : P.underlying t = some (.slice e))
    (hinfo : (P.info? e).map (fun i => (i.zero, i.size, i.bytes)) = some (some z, T.size, bytes)) (hzs : z.cells.size = T.size) (hsz : 0 < T.size) (hby : 0 < bytes)
    (v : Value) (l : List α) (xv : Value) (l' : List α) (hs : a.eval s = v) (hx : a.eval x = xv)
    (hown : Own w lo e T Non v l) (hsrc : SlT T w K xv l')
    (hl : (l.length + l'.length) * bytes ≤ 140737488355328) (hlo : lo ≤ w.heap.size)
    (h : ∀ A c w', Own w' lo e T Non (.slice A (l.length + l'.length) c) (l ++ l') → Chg (Row v) w w' → ((Value.slice A (l.length + l'.length) c).ownBlock = v.ownBlock ∨ (Value.slice A (l.length + l'.length) c).ownBlock = some w.heap.size) →
      wpList P ops Q rest (a.put o.dst (.slice A (l.length + l'.length) c)) w') :
    wpList P ops Q (o :: rest) a w := by
  obtain ⟨cs, h1, h2⟩ := hsrc
  exact wpList_plain hgd fun _ hK' => wp_app T Non K s x t ho lo e z bytes ht hinfo hzs hsz hby v l _ l' cs hs hx hown h1 (Reps.flat hflat h2) (fun _ h => h.elim) hl hlo fun A c w' h1 h2 h3 => hK' _ _ (h A c w' h1 h2 h3)

/-- The same at a step of a region that draws its order. -/
theorem step_push {R : Act → World → Prop} {E : Prop} (T : Ty α) (K : Nat → Prop) (hgd : o.guard = none) (s x : Operand) (t : TypeId)
    (ho : o.op = .call { callee := .builtin .append, args := #[s, x], argTypes := #[t, t] })
    (lo : Nat) (e : TypeId) (z : Value) (bytes : Nat) (ht : P.underlying t = some (.slice e))
    (hinfo : (P.info? e).map (fun i => (i.zero, i.size, i.bytes)) = some (some z, T.size, bytes)) (hzs : z.cells.size = T.size) (hsz : 0 < T.size) (hby : 0 < bytes)
    (v : Value) (l : List α) (x0 : α) (cs : List Value) (g0 : Nat) (fr : Nat × Nat) (hs : a.eval s = v) (hx : a.eval x = .slice (some ⟨g0, 0, none⟩) 1 1)
    (hown : Own w lo e T K v l) (hb : w.heap[g0]? = some (.cells cs.toArray e fr)) (hrep : T.rep w K cs x0) (hK : ∀ b, K b → b < w.heap.size)
    (hl : (l.length + 1) * bytes ≤ 140737488355328) (hlo : lo ≤ w.heap.size)
    (h : ∀ A c w', Own w' lo e T K (.slice A (l.length + 1) c) (l ++ [x0]) → Chg (Row v) w w' → ((Value.slice A (l.length + 1) c).ownBlock = v.ownBlock ∨ (Value.slice A (l.length + 1) c).ownBlock = some w.heap.size) →
      R (a.put o.dst (.slice A (l.length + 1) c)) w') :
    if Region.wanted o (yielded ops a.tmps) = true then Oper.wp P o a w R Q else E := by
  rw [if_pos (by simp [Region.wanted, hgd])]
  exact wp_app T K (Is g0) s x t ho lo e z bytes ht hinfo hzs hsz hby v l _ [x0] cs hs hx hown (Sl.box hb (T.len hrep)) (Reps.single hrep) hK hl hlo h
end

/-! ### x[i:j] -/
section
variable {P : Program} {α : Type} {T : Ty α} {w : World} {K : Nat → Prop} {v : Value} {l : List α}
theorem add_lit' (b off j : Nat) : (⟨b, off, none⟩ : Addr).add j = ⟨b, off + j, none⟩ := by unfold Addr.add; split <;> simp_all
theorem SlT.cut {A : Option Addr} {n cap : Nat} (h : SlT T w K (.slice A n cap) l) {i j : Nat} (hij : i ≤ j) (hj : j ≤ l.length) :
    SlT T w K (.slice (if cap = i then A else A.map (·.add (i * T.size))) (j - i) (cap - i)) ((l.take j).drop i) := by
  obtain ⟨xs, ⟨hl, A', cap', hv, h1, h2, h0, h3⟩, hr⟩ := h
  injection hv with e1 e2 e3
  subst e1; subst e3
  have hlen : ((l.take j).drop i).length = j - i := by simp; omega
  refine ⟨(xs.take (j * T.size)).drop (i * T.size), ⟨?_, _, cap - i, by rw [hlen], ?_, by omega, ?_, ?_⟩, (hr.take j).drop i⟩
  · rw [hlen, List.length_drop, List.length_take, hl, Nat.sub_mul, Nat.min_eq_left (Nat.mul_le_mul_right _ hj)]
  · rw [hlen]; omega
  · intro hA
    split at hA
    · have := h0 hA; omega
    · rcases A with _ | ad
      · have := h0 rfl; omega
      · cases hA
  · intro hn
    rw [hlen] at hn
    obtain ⟨b, off, rfl, hb, hc⟩ := h3 (by omega)
    rw [if_neg (by omega)]
    refine ⟨b, off + i * T.size, by simp [add_lit'], hb, fun q u hu => ?_⟩
    rw [List.getElem?_drop, List.getElem?_take] at hu
    split at hu
    · rw [Nat.add_assoc]; exact hc _ u hu
    · cases hu
theorem run_cut {t e : TypeId} (ht : P.underlying t = some (.slice e)) (hinfo : (P.info? e).map (·.size) = some T.size) (h : SlT T w K v l) (lov hiv : Option Value) (i j : Nat)
    (hi : (lov = none ∧ i = 0) ∨ ∃ k, lov = some (.int k i)) (hj : (hiv = none ∧ j = l.length) ∨ ∃ k, hiv = some (.int k j)) (hij : i ≤ j) (hjl : j ≤ l.length) :
    ∃ A c, (Instr.sliceAt t v lov hiv none).run P w = .ok (.slice A (j - i) c) w ∧ SlT T w K (.slice A (j - i) c) ((l.take j).drop i) := by
  obtain ⟨A, cap, rfl, h1, h2⟩ := h.shape
  refine ⟨_, _, ?_, h.cut hij hjl⟩
  obtain ⟨i0, hi0, hz⟩ := Option.map_eq_some_iff.1 hinfo
  have ee : P.elem t = e := by simp [Program.elem, ht]
  have he : P.underlying t = some (.slice (P.elem t)) := by rw [ee]; exact ht
  have hsz : (sizeOf (P.elem t)).run P w = .ok T.size w := by rw [ee]; simp [sizeOf, typeInfo, hi0, hz]
  rw [run_sliceAt_slice w t _ _ _ _ he]
  rcases hi with ⟨rfl, rfl⟩ | ⟨k, rfl⟩ <;> rcases hj with ⟨rfl, rfl⟩ | ⟨k', rfl⟩
  · rw [run_slice_all w t A _ cap he, hsz]; rfl
  · rw [run_slice_h w t A _ cap he k' j (by omega) (by omega), hsz]; rfl
  · rw [run_slice_l w t A _ cap he k i (by omega) (by omega), hsz]; rfl
  · rw [run_slice_lh w t A _ cap he k k' i j (by omega) (by omega) (by omega), hsz]; rfl
end
section
variable {P : Program} {ops : Array Oper} {rest : List Oper} {o : Oper} {a : Act} {Q : Exit → Act → World → Prop} {w : World} {α : Type}
theorem wp_cut {R : Act → World → Prop} (T : Ty α) {K : Nat → Prop} {v : Value} {l : List α} (t : TypeId) (x : Operand) (lo hi : Option Operand) (ho : o.op = .slice t x lo hi none)
    {e : TypeId} (ht : P.underlying t = some (.slice e)) (hinfo : (P.info? e).map (·.size) = some T.size) (hx : a.eval x = v) (hs : SlT T w K v l) (i j : Nat)
    (hi' : (lo.map a.eval = none ∧ i = 0) ∨ ∃ k, lo.map a.eval = some (.int k i)) (hj' : (hi.map a.eval = none ∧ j = l.length) ∨ ∃ k, hi.map a.eval = some (.int k j)) (hij : i ≤ j) (hjl : j ≤ l.length)
    (h : ∀ A c, SlT T w K (.slice A (j - i) c) ((l.take j).drop i) → R (a.put o.dst (.slice A (j - i) c)) w) : o.wp P a w R Q := by
  obtain ⟨A, c, hr, h1⟩ := run_cut ht hinfo hs _ _ i j hi' hj' hij hjl
  unfold Oper.wp execOp
  simp only [ho, hx, Sem.run_bind, Sem.run_pure, Result.andThen_ok, hr, Option.map_none]
  exact h A c h1
theorem wpList_cut (T : Ty α) {K : Nat → Prop} {v : Value} {l : List α} (hgd : o.guard = none) (t : TypeId) (x : Operand) (lo hi : Option Operand) (ho : o.op = .slice t x lo hi none)
    {e : TypeId} (ht : P.underlying t = some (.slice e)) (hinfo : (P.info? e).map (·.size) = some T.size) (hx : a.eval x = v) (hs : SlT T w K v l) (i j : Nat)
    (hi' : (lo.map a.eval = none ∧ i = 0) ∨ ∃ k, lo.map a.eval = some (.int k i)) (hj' : (hi.map a.eval = none ∧ j = l.length) ∨ ∃ k, hi.map a.eval = some (.int k j)) (hij : i ≤ j) (hjl : j ≤ l.length)
    (h : ∀ A c, SlT T w K (.slice A (j - i) c) ((l.take j).drop i) → wpList P ops Q rest (a.put o.dst (.slice A (j - i) c)) w) : wpList P ops Q (o :: rest) a w :=
  wpList_plain hgd fun _ hK' => wp_cut T t x lo hi ho ht hinfo hx hs i j hi' hj' hij hjl fun A c h1 => hK' _ _ (h A c h1)
end

/-! ### A whole struct stored into a block that is known whole -/
section
variable {P : Program} {ops : Array Oper} {rest : List Oper} {o : Oper} {a : Act} {Q : Exit → Act → World → Prop}
theorem Blk.setCells {g : Nat} {t : TypeId} : ∀ (vs : List Value) (k : Nat) (w : World) (old : Array Value), Blk w g t old → k + vs.length ≤ old.size →
    Blk (w.setCells g k vs) g t (old.toList.take k ++ vs ++ old.toList.drop (k + vs.length)).toArray
  | [], k, w, old, h, hl => by simpa [World.setCells] using h
  | v :: vs, k, w, old, h, hl => by
      simp only [List.length_cons] at hl
      have := Blk.setCells vs (k + 1) (w.setCell ⟨g, k, none⟩ v) (old.setIfInBounds k v) (h.set_ k v) (by simp; omega)
      have e : ((old.setIfInBounds k v).toList.take (k + 1) ++ vs ++ (old.setIfInBounds k v).toList.drop (k + 1 + vs.length)) = (old.toList.take k ++ v :: vs ++ old.toList.drop (k + (v :: vs).length)) := by
        rw [Array.toList_setIfInBounds, List.take_add_one, List.take_set, List.getElem?_set_self (by simp; omega), List.drop_set_of_lt (by omega)]
        rw [List.set_eq_of_length_le (by simp; omega)]
        simp only [Option.toList_some, List.length_cons, List.append_assoc, List.cons_append, List.nil_append]
        congr 4
        omega
      rw [← e]
      exact this
theorem Chg.setCells (g : Nat) : ∀ (vs : List Value) (k : Nat) (w : World), Chg (Is g) w (w.setCells g k vs) ∧ (w.setCells g k vs).heap.size = w.heap.size
  | [], k, w => ⟨Chg.refl _ _, rfl⟩
  | v :: vs, k, w => by
      obtain ⟨h1, h2⟩ := Chg.setCells g vs (k + 1) (w.setCell ⟨g, k, none⟩ v)
      exact ⟨(Chg.at_ w g k v).trans h1, by rw [World.setCells, h2]; simp [World.setCell]⟩
theorem wpList_storeB {w : World} (hgd : o.guard = none) (ty : TypeId) (x y : Operand) (ho : o.op = .store ty x y) (g : Nat) (cells : Array Value) (hx : a.eval x = .pointer (some ⟨g, 0, none⟩)) (hy : a.eval y = .agg cells)
    {t : TypeId} {old : Array Value} (hb : Blk w g t old) (hs : old.size = cells.size) (hi : (P.info? ty).map (·.size) = some cells.size) (h1 : ∀ v ∈ cells.toList, v.oneCell' = true)
    (h : ∀ w', Blk w' g t cells → Chg (Is g) w w' → w'.heap.size = w.heap.size → wpList P ops Q rest (a.put o.dst undef) w') : wpList P ops Q (o :: rest) a w := by
  refine wpList_store_mid hgd ty x y ho g 0 cells hx hy ?_ hi (all_oneCell_toArray h1) ?_
  · intro j hj
    rw [Nat.zero_add, hb.cell j, hb.frozen j]
    exact ⟨by simp; omega, rfl⟩
  · have hb' := Blk.setCells cells.toList 0 w old hb (by simp; omega)
    obtain ⟨hc, hz⟩ := Chg.setCells g cells.toList 0 w
    refine h _ ?_ hc hz
    have e : (old.toList.take 0 ++ cells.toList ++ old.toList.drop (0 + cells.toList.length)).toArray = cells := by
      rw [List.drop_of_length_le (by simp; omega)]; simp
    rwa [e] at hb'
/-- A whole struct loaded out of one. -/
theorem wpList_loadB {w : World} (hgd : o.guard = none) (ty : TypeId) (x : Operand) (ho : o.op = .load ty x) (g : Nat) (hx : a.eval x = .pointer (some ⟨g, 0, none⟩)) {t : TypeId} {cs : Array Value} (hb : Blk w g t cs)
    {fs : Array Field} (hu : P.underlying ty = some (.struct fs)) (hi : (P.info? ty).map (·.size) = some cs.size) (h : wpList P ops Q rest (a.put o.dst (.agg cs)) w) : wpList P ops Q (o :: rest) a w :=
  wpList_load_row hgd ty x ho g hx t cs (0, 0) _ hb hu rfl hi h
theorem ret_cellB {fn : Func} {p : Tmp} {ty : TypeId} (h : fn.results = #[.cell p ty]) (tmps : Array Value) {w : World} {g : Nat} (hp : tmps.getD p undef = .pointer (some ⟨g, 0, none⟩)) {t : TypeId} {cs : Array Value} (hb : Blk w g t cs)
    {fs : Array Field} (hu : P.underlying ty = some (.struct fs)) (hi : (P.info? ty).map (·.size) = some cs.size) : (results fn tmps).run P w = .ok (.agg cs) w :=
  results_cell_row h tmps w g t cs (0, 0) _ hp hb hu rfl hi
end

section
variable {P : Program}
/-- Two results, the first of which lies in a block that is known whole. -/
theorem ret_cellB2 {fn : Func} {p q : Tmp} {ty : TypeId} (h : fn.results = #[.cell p ty, .tmp q]) (tmps : Array Value) {w : World} {g : Nat} (hp : tmps.getD p undef = .pointer (some ⟨g, 0, none⟩)) {t : TypeId} {cs : Array Value} (hb : Blk w g t cs)
    {fs : Array Field} (hu : P.underlying ty = some (.struct fs)) (hi : (P.info? ty).map (·.size) = some cs.size) : (results fn tmps).run P w = .ok (.tuple #[.agg cs, tmps.getD q undef]) w := by
  have hp' : tmps[p]?.getD undef = .pointer (some ⟨g, 0, none⟩) := by simpa using hp
  have hl := run_loadVar_row (P := P) w g t ty cs (0, 0) _ hb hu rfl hi
  simp [results, h, hp', asAddr, hl]
end

/-! ### Bytes as a string -/
section
variable {P : Program} {w : World} {K : Nat → Prop} {v : Value} {l : List Int}
theorem SlT.str (h : SlT tB w K v l) {src e dst : TypeId} (hs : P.underlying src = some (.slice e)) (he : P.underlying e = some (.int .u8)) (hd : P.underlying dst = some .string) :
    (convert src dst v).run P w = .ok (.string (strOfNums l)) w := by
  obtain ⟨A, cap, rfl, _, _, hnil⟩ := h.shape0
  rcases A with _ | ad
  · have hl : l = [] := List.eq_nil_of_length_eq_zero (by have := hnil rfl; omega)
    subst hl
    exact run_convert_bytes_nil w src e hs he _ _ dst hd
  · rcases Nat.eq_zero_or_pos l.length with h0 | h0
    · have hl : l = [] := List.eq_nil_of_length_eq_zero h0
      subst hl
      rw [run_convert_bytes_string w src dst e _ _ _ hs he hd]
      simp [Conv.bytesToString, loadCells, loadCellsFrom]
      rfl
    · have hg := fun k (hk : k < l.length) => h.get hk
      obtain ⟨b, off, cs, hA, _⟩ := hg 0 h0
      injection hA with hA
      subst hA
      refine run_convert_bytes_arg w src e hs he b off _ cap l rfl (fun i hi => ?_) dst hd
      obtain ⟨b', off', cs, hA, _, ⟨rfl, _⟩, hc⟩ := hg i hi
      injection hA with hA
      injection hA with e1 e2
      subst e1; subst e2
      have := hc 0 _ rfl
      simp [tInt] at this
      rw [this]
      simp [List.getD_eq_getElem?_getD, List.getElem?_eq_getElem hi]
end

end Go.Proofs.Ytebdaoihajjgmaa
