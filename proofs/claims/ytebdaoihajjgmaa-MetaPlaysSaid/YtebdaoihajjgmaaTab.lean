/- Names, spans, tablets: as data, as cells; the contracts of the small functions on them. -/
import Derived.Test.YtebdaoihajjgmaaOpn
import Derived.Test.YtebdaoihajjgmaaProg
set_option linter.unusedVariables false
set_option linter.unusedSimpArgs false
namespace Go.Proofs.Ytebdaoihajjgmaa
open Go.RowKit

/-! ### Strings -/
abbrev sLt (a b : ByteArray) : Bool := Op.bytesLess a.toList b.toList
abbrev sEq (a b : ByteArray) : Bool := a.toList == b.toList
abbrev sE (a : ByteArray) : Bool := a.toList.isEmpty
theorem bytesLess_eq : ∀ (x y : List UInt8), Op.bytesLess x y = decide (x < y)
  | [], [] => by simp [Op.bytesLess]
  | _ :: _, [] => by simp [Op.bytesLess]
  | [], _ :: _ => by simp [Op.bytesLess]
  | a :: x, b :: y => by
    rw [Op.bytesLess, bytesLess_eq x y]
    by_cases h : a < b
    · simp [h, List.cons_lt_cons_iff]
    · by_cases e : a = b
      · subst e; simp [List.cons_lt_cons_iff]
      · simp [h, e, List.cons_lt_cons_iff]
theorem sLt_irrefl (a : List UInt8) : Op.bytesLess a a = false := by rw [bytesLess_eq]; simp
theorem sLt_trans {a b c : List UInt8} (h : Op.bytesLess a b = true) (h' : Op.bytesLess b c = true) : Op.bytesLess a c = true := by
  rw [bytesLess_eq] at *
  simp only [decide_eq_true_eq] at *
  exact List.lt_trans h h'
theorem sLt_tri (a b : List UInt8) : Op.bytesLess a b = true ∨ a = b ∨ Op.bytesLess b a = true := by
  rw [bytesLess_eq, bytesLess_eq]
  simp only [decide_eq_true_eq]
  rcases Decidable.em (a < b) with h | h
  · exact .inl h
  · rcases Decidable.em (b < a) with h' | h'
    · exact .inr (.inr h')
    · exact .inr (.inl (List.le_antisymm h' h))
theorem sLt_asymm {a b : List UInt8} (h : Op.bytesLess a b = true) : Op.bytesLess b a = false := by
  rcases h' : Op.bytesLess b a with _ | _
  · rfl
  · have := sLt_trans h h'; rw [sLt_irrefl] at this; cases this
theorem sGt_eq (a b : List UInt8) : (!(Op.bytesLess a b || a == b)) = Op.bytesLess b a := by
  rcases sLt_tri a b with h | h | h
  · simp [h, sLt_asymm h]
  · subst h; simp [sLt_irrefl]
  · have h1 := sLt_asymm h
    have h2 : (a == b) = false := by
      rw [beq_eq_false_iff_ne]
      rintro rfl
      rw [sLt_irrefl] at h; cases h
    rw [h, h1, h2]; rfl
theorem Chg.cells {W w1 : World} (h : Chg Non W w1) : (∀ p : Addr, p.block < W.heap.size → w1.cell? p = W.cell? p) ∧ (∀ p : Addr, p.block < W.heap.size → w1.frozen? p = W.frozen? p) :=
  ⟨fun p hp => h.cell hp id, fun p hp => h.frozen hp id⟩
structure Span where
  lo : ByteArray
  hi : ByteArray
structure Tab where
  span : Span
  group : Int
  gen : Int
def tSpan : Ty Span where
  size := 2
  rep _ _ cs s := cs = [.string s.lo, .string s.hi] ∧ s.lo.size ≤ maxLen ∧ s.hi.size ≤ maxLen
  len := by rintro w K cs x ⟨rfl, _⟩; rfl
  one := by rintro w K cs x ⟨rfl, _⟩ u hu; simp at hu; rcases hu with rfl | rfl <;> rfl
  keep := by rintro w w' K K' cs x h _; exact h
def tTab : Ty Tab where
  size := 4
  rep _ _ cs x := cs = [.string x.span.lo, .string x.span.hi, .int .i64 x.group, .int .i64 x.gen] ∧ (x.span.lo.size ≤ maxLen ∧ x.span.hi.size ≤ maxLen) ∧ Fits .i64 x.group ∧ Fits .i64 x.gen
  len := by rintro w K cs x ⟨rfl, _⟩; rfl
  one := by rintro w K cs x ⟨rfl, _⟩ u hu; simp at hu; rcases hu with rfl | rfl | rfl | rfl <;> rfl
  keep := by rintro w w' K K' cs x h _; exact h
theorem tTab_flat {w w' : World} {K K' : Nat → Prop} {cs : List Value} {x : Tab} (h : tTab.rep w K cs x) : tTab.rep w' K' cs x := h
theorem tSpan_flat {w w' : World} {K K' : Nat → Prop} {cs : List Value} {x : Span} (h : tSpan.rep w K cs x) : tSpan.rep w' K' cs x := h
abbrev Span.v (s : Span) : Value := .agg #[.string s.lo, .string s.hi]
abbrev Tab.v (x : Tab) : Value := .agg #[.string x.span.lo, .string x.span.hi, .int .i64 x.group, .int .i64 x.gen]

/-! ### What the document's functions say -/
def pRight (s : Span) : Bool := decide ((s.lo.size : Int) ≤ 16) && decide ((s.hi.size : Int) ≤ 16) && (sE s.hi || sLt s.lo s.hi)
def pHas (s : Span) (n : ByteArray) : Bool := !sLt n s.lo && (sE s.hi || sLt n s.hi)
def pMeet (a b : Span) : Bool := pRight a && pRight b && (sE a.hi || sLt b.lo a.hi) && (sE b.hi || sLt a.lo b.hi)
def pNum (x : Tab) : Bool := decide (0 ≤ x.group) && decide (x.group ≤ 255) && decide (1 ≤ x.gen) && decide (x.gen ≤ 1073741824)

theorem R7Has_any (s : Span) (n : ByteArray) (w : World) : Calls Try.prog 21 #[s.v, .string n] w fun e w' => e = .returned (.bool (pHas s n)) ∧ Chg Non w w' := by
  obtain ⟨lo, hi⟩ := s
  unfold pHas
  dsimp only
  go_enter Try.func21, Try.ntmps21
  go_wp2
  all_goals
    go_ret
    exact ⟨ret_bool (by first | (simp_all; done) | grind), (Chg.refl Non w).alloc _⟩
theorem SHas_any (s : Span) (n : ByteArray) (w : World) : Calls Try.prog 38 #[s.v, .string n] w fun e w' => e = .returned (.bool (pHas s n)) ∧ Chg Non w w' := by
  obtain ⟨lo, hi⟩ := s
  unfold pHas
  dsimp only
  go_enter Try.func38, Try.ntmps38
  go_wp2
  all_goals
    go_ret
    exact ⟨ret_bool (by first | (simp_all; done) | grind), (Chg.refl Non w).alloc _⟩
theorem R7Right_any (s : Span) (w : World) : Calls Try.prog 27 #[s.v] w fun e w' => e = .returned (.bool (pRight s)) ∧ Chg Non w w' := by
  obtain ⟨lo, hi⟩ := s
  unfold pRight
  dsimp only
  go_enter Try.func27, Try.ntmps27
  go_wp2
  all_goals
    go_ret
    exact ⟨ret_bool (by first | (simp_all; done) | grind), (Chg.refl Non w).alloc _⟩
theorem SRight_any (s : Span) (w : World) : Calls Try.prog 56 #[s.v] w fun e w' => e = .returned (.bool (pRight s)) ∧ Chg Non w w' := by
  obtain ⟨lo, hi⟩ := s
  unfold pRight
  dsimp only
  go_enter Try.func56, Try.ntmps56
  go_wp2
  all_goals
    go_ret
    have hgt := sGt_eq hi.toList lo.toList
    rw [Bool.not_or] at hgt
    exact ⟨ret_bool (by first | (simp_all; done) | grind), (Chg.refl Non w).alloc _⟩
theorem number1_any (x : Tab) (w : World) (h1 : Fits .i64 x.group) (h2 : Fits .i64 x.gen) : Calls Try.prog 51 #[x.v] w fun e w' => e = .returned (.bool (pNum x)) ∧ Chg Non w w' := by
  obtain ⟨⟨lo, hi⟩, g, n⟩ := x
  have b1 := h1.i64
  have b2 := h2.i64
  clear h1 h2
  unfold pNum
  dsimp only at *
  go_enter Try.func51, Try.ntmps51
  go_wp2
  all_goals
    go_ret
    exact ⟨ret_bool (by first | (simp_all; done) | grind), (Chg.refl Non w).alloc _⟩
theorem made1_any (x : Tab) (w : World) (h1 : Fits .i64 x.group) (h2 : Fits .i64 x.gen) : Calls Try.prog 50 #[x.v] w fun e w' => e = .returned (.bool (!pNum x)) ∧ Chg Non w w' := by
  have hc := fun W => number1_any x W h1 h2
  have HC := Lib.hid hc
  clear hc h1 h2
  obtain ⟨⟨lo, hi⟩, g, n⟩ := x
  go_enter Try.func50, Try.ntmps50
  go_wp2_with fail
  refine (HC.out _).mono ?_
  rintro e w1 ⟨rfl, hc⟩
  go_wp2_with fail
  go_ret
  exact ⟨rfl, ((Chg.refl Non w).alloc _).trans hc⟩
theorem R7Meet_any (a b : Span) (w : World) : Calls Try.prog 57 #[a.v, b.v] w fun e w' => e = .returned (.bool (pMeet a b)) ∧ Chg Non w w' := by
  have hc := fun W => R7Right_any a W
  have hd := fun W => R7Right_any b W
  have HC := Lib.hid (And.intro hc hd)
  clear hc hd
  unfold pMeet
  generalize pRight a = ra at HC ⊢
  generalize pRight b = rb at HC ⊢
  obtain ⟨lo, hi⟩ := a
  obtain ⟨lo', hi'⟩ := b
  have b0 : Blk ((w.alloc (.cells #[.string lo, .string hi] 26)).alloc (.cells #[.string lo', .string hi'] 26)) w.heap.size 26 #[.string lo, .string hi] := (Blk.new _ _ _).alloc _
  have b1 : Blk ((w.alloc (.cells #[.string lo, .string hi] 26)).alloc (.cells #[.string lo', .string hi'] 26)) (w.heap.size + 1) 26 #[.string lo', .string hi'] := Blk.newAt (by simp) _ _
  have c0 : Chg Non w ((w.alloc (.cells #[.string lo, .string hi] 26)).alloc (.cells #[.string lo', .string hi'] 26)) := ((Chg.refl Non w).alloc _).alloc _
  have B := Lib.hid (And.intro b0 (And.intro b1 c0))
  clear b0 b1 c0
  dsimp only
  go_enter Try.func57, Try.ntmps57
  go_wp2_with fail
  refine (HC.out.1 _).mono ?_
  rintro e w1 ⟨rfl, hc1⟩
  obtain ⟨b0, b1, c0⟩ := B.out
  replace b0 := b0.chg hc1 id
  replace b1 := b1.chg hc1 id
  have x1 := b1.cell
  have X1 := Lib.hid (c0.trans hc1)
  clear hc1 c0
  cases ra
  · go_wp2_with fail
    go_ret
    exact ⟨rfl, X1.out⟩
  · go_wp2_with fail
    refine (HC.out.2 _).mono ?_
    rintro e w2 ⟨rfl, hc2⟩
    replace x1 := (b1.chg hc2 id).cell
    have x0 := (b0.chg hc2 id).cell
    have X2 := Lib.hid (X1.out.trans hc2)
    clear hc2
    cases rb
    · go_wp2_with fail
      go_ret
      exact ⟨rfl, X2.out⟩
    · go_wp2_with fail
      all_goals
        go_ret
        exact ⟨ret_bool (by first | (simp_all; done) | grind), X2.out⟩

def sMax (a b : ByteArray) : ByteArray := if sLt a b then b else a
theorem run_max_str {P : Program} (w : World) (ts : Array TypeId) (t : TypeId) (x y : ByteArray) : (Builtin.max_ ts t #[.string x, .string y]).run P w = .ok (.string (sMax x y)) w := by
  cases h : sLt x y <;> simp [Builtin.max_, Builtin.max2, Op.stringOp, asBool, sMax, h]
theorem SMeet_any (a b : Span) (w : World) : Calls Try.prog 33 #[a.v, b.v] w fun e w' => e = .returned (.bool (pRight a && pRight b && pHas a (sMax a.lo b.lo) && pHas b (sMax a.lo b.lo))) ∧ Chg Non w w' := by
  have hc := fun W => SRight_any a W
  have hd := fun W => SRight_any b W
  have he := fun W => SHas_any a (sMax a.lo b.lo) W
  have hf := fun W => SHas_any b (sMax a.lo b.lo) W
  have hmx := fun W => run_max_str (P := Try.prog) W #[9, 9] 9 a.lo b.lo
  have HC := Lib.hid (And.intro hc (And.intro hd (And.intro he hf)))
  clear hc hd he hf
  generalize pRight a = ra at HC ⊢
  generalize pRight b = rb at HC ⊢
  generalize pHas a (sMax a.lo b.lo) = ha at HC ⊢
  generalize pHas b (sMax a.lo b.lo) = hb at HC ⊢
  generalize sMax a.lo b.lo = mx at HC hmx
  obtain ⟨lo, hi⟩ := a
  obtain ⟨lo', hi'⟩ := b
  have b0 : Blk ((w.alloc (.cells #[.string lo, .string hi] 26)).alloc (.cells #[.string lo', .string hi'] 26)) w.heap.size 26 #[.string lo, .string hi] := (Blk.new _ _ _).alloc _
  have b1 : Blk ((w.alloc (.cells #[.string lo, .string hi] 26)).alloc (.cells #[.string lo', .string hi'] 26)) (w.heap.size + 1) 26 #[.string lo', .string hi'] := Blk.newAt (by simp) _ _
  have c0 : Chg Non w ((w.alloc (.cells #[.string lo, .string hi] 26)).alloc (.cells #[.string lo', .string hi'] 26)) := ((Chg.refl Non w).alloc _).alloc _
  have B := Lib.hid (And.intro b0 (And.intro b1 c0))
  clear b0 b1 c0
  dsimp only at *
  go_enter Try.func33, Try.ntmps33
  go_wp2_with fail
  refine (HC.out.1 _).mono ?_
  rintro e w1 ⟨rfl, hc1⟩
  obtain ⟨b0, b1, c0⟩ := B.out
  replace b0 := b0.chg hc1 id
  replace b1 := b1.chg hc1 id
  have x1 := b1.cell
  have X1 := Lib.hid (c0.trans hc1)
  clear hc1 c0
  cases ra
  · go_wp2_with fail
    go_ret
    exact ⟨rfl, X1.out⟩
  · go_wp2_with fail
    refine (HC.out.2.1 _).mono ?_
    rintro e w2 ⟨rfl, hc2⟩
    replace x1 := (b1.chg hc2 id).cell
    have x0 := (b0.chg hc2 id).cell
    have X2 := Lib.hid (X1.out.trans hc2)
    cases rb
    · go_wp2_with fail
      go_ret
      exact ⟨rfl, X2.out⟩
    · replace b0 := b0.chg hc2 id
      replace b1 := b1.chg hc2 id
      clear hc2
      go_wp2_with fail
      refine (HC.out.2.2.1 _).mono ?_
      rintro e w3 ⟨rfl, hc3⟩
      replace x1 := (b1.chg hc3 id).cell
      replace x0 := (b0.chg hc3 id).cell
      have X3 := Lib.hid (X2.out.trans hc3)
      clear hc3
      cases ha
      · go_wp2_with fail
        go_ret
        exact ⟨rfl, X3.out⟩
      · go_wp2_with fail
        refine (HC.out.2.2.2 _).mono ?_
        rintro e w4 ⟨rfl, hc4⟩
        have X4 := Lib.hid (X3.out.trans hc4)
        clear hc4
        go_wp2_with fail
        go_ret
        exact ⟨rfl, X4.out⟩
end Go.Proofs.Ytebdaoihajjgmaa
