/- The law of text Ht, its head walked by the cheap step of the quiet walk, in a family of worlds. -/
import Derived.Test.YtebdaoihajjgmaaHt
import Derived.BigQuiet
set_option linter.unusedVariables false
namespace Go.Proofs.Ytebdaoihajjgmaa
open Go Go.RowKit

/-- A world in which all that w had, but for blocks of K, is as it was. -/
structure FamC (K : Nat → Prop) (w : World) where
  w' : World
  h : Chg K w w'
instance (K : Nat → Prop) (w : World) : Nonempty (FamC K w) := ⟨⟨w, Chg.refl K w⟩⟩
theorem FamC.cells {K : Nat → Prop} {w : World} {p : Addr} {v : Value} (hc : w.cell? p = some v) (hk : ¬ K p.block) : ∀ i : FamC K w, i.w'.cell? p = some v := fun i => i.h.cellv hc hk

/-- An operation that yields a value, and nothing else. -/
def plainOp (o : Oper) : Bool := match o.op with
  | .move _ | .assign _ | .pick .. | .load .. | .nilCheck _ | .binOp .. | .unOp .. | .convert .. | .fieldAddr .. | .field .. | .indexAddr .. | .index .. | .slice .. | .makeInterface .. | .extract .. | .build .. | .makeFunc .. => true
  | .call c => match c.callee with
    | .builtin .len | .builtin .cap | .builtin .min | .builtin .max => true
    | _ => false
  | _ => false
section
variable {P : Program}
theorem val_only {s : Sem Value} {w w' : World} {n : Next} (h : ((do pure (.value (← s))) : Sem Next).run P w = .ok n w') : ∃ v, n = .value v := by
  rw [Sem.run_bind] at h
  generalize s.run P w = r at h
  cases r with
  | ok v w1 => simp [Result.andThen] at h; exact ⟨v, h.1.symm⟩
  | halt x w1 => simp [Result.andThen] at h
theorem plain_value {o : Oper} (ho : plainOp o = true) {ρ : Operand → Value} {w w' : World} {n : Next} (h : (execOp ρ o).run P w = .ok n w') : ∃ v, n = .value v := by
  unfold plainOp at ho
  unfold execOp at h
  cases hop : o.op <;> rw [hop] at ho h <;> first | (cases ho; done) | (exact val_only h) | skip
  case move x => simp at h; exact ⟨_, h.1.symm⟩
  case assign x => simp at h; exact ⟨_, h.1.symm⟩
  case pick c a b =>
    dsimp only at h
    rw [Sem.run_bind] at h
    generalize (asBool (ρ c)).run P w = r at h
    cases r with
    | ok v w1 => simp [Result.andThen] at h; exact ⟨_, h.1.symm⟩
    | halt x w1 => simp [Result.andThen] at h
  case nilCheck x =>
    dsimp only at h
    split at h
    case h_1 => simp [go_sem] at h
    case h_2 => simp [go_sem] at h
    case h_3 => simp [go_sem] at h
    case h_4 name first captured _ =>
      split at h
      · simp [go_sem] at h
      · rename_i t u _
        simp only [Sem.run_bind, run_program, Result.andThen_ok] at h
        generalize Sem.run P (nilAhead _ _ _ _) _ = r at h
        cases r with
        | halt x w1 => simp [Result.andThen] at h
        | ok b w1 =>
          simp only [Result.andThen_ok] at h
          split at h
          · simp [go_sem] at h
          · simp at h; exact ⟨_, h.1.symm⟩
      · simp at h; exact ⟨_, h.1.symm⟩
    case h_5 => simp at h; exact ⟨_, h.1.symm⟩
  case call c =>
    dsimp only at h ho
    unfold resolve at h
    cases hc : c.callee <;> rw [hc] at ho h <;> first | (cases ho; done) | skip
    rename_i b
    cases b <;> first | (cases ho; done) | skip
    all_goals
      simp only [Sem.run_bind, Sem.run_pure, Result.andThen_ok, invoke, builtin] at h
      exact val_only (by rw [Sem.run_bind]; exact h)
variable {ops : Array Oper} {Q : Exit → Act → World → Prop} {C : World → Prop} {w : World}
theorem wpHead_of_wpQuiet {F : Act → Prop} : ∀ (l : List Oper) (a : Act), l.all plainOp = true → wpQuiet P ops C F l a → wpHead P ops C F l a
  | [], _, _, h => h
  | o :: l, a, hp, h => by
    simp only [List.all_cons, Bool.and_eq_true] at hp
    unfold wpQuiet at h
    split at h
    · rename_i hw
      obtain ⟨v, hv, hn⟩ := h
      refine ⟨v, .inl ⟨hw, fun W hW => .inl ?_⟩, wpHead_of_wpQuiet l _ hp.2 hn⟩
      have := hv W hW
      unfold Oper.quietAt at this
      generalize hr : (execOp a.eval o).run P W = r at this
      cases r with
      | halt x w1 => simp [Oper.quietUpon] at this
      | ok n w1 =>
        obtain ⟨u, rfl⟩ := plain_value hp.1 hr
        obtain ⟨e1, e2⟩ := this
        rw [e1, e2]
    · rename_i hw
      exact ⟨undef, .inr ⟨by simpa using hw, rfl⟩, wpHead_of_wpQuiet l _ hp.2 h⟩
/-- THE LAW. hd: the numbers of those that only read, in an order in which they may come up; tl: of the others, in the order in which they come up; S: what the worlds between them are. -/
theorem wpAny_hq {a : Act} (hd tl : List Nat) {S : World → Prop} (hm : P.follows .mixedOrders = true) (hs : Region.noSelect ops = true)
    (hh : headOk .any ops hd hd (Array.replicate ops.size false) = true) (ht : tailOk .any ops tl (listAll hd (Array.replicate ops.size false)) = true) (hn : ops.size = tl.length + hd.length)
    (hp : (hd.filterMap (ops[·]?)).all plainOp = true) (hq : ∀ c a t w, Q (.panic c) { tmps := t, defers := Act.defers a } w → Q (.panic c) a w) (hS : S w.drew)
    (h : wpQuiet P ops S (fun a' => wpTail P .any ops Q S hd tl a' w.drew) (hd.filterMap (ops[·]?)) a) : wpAny P .any ops Q ops.size (Array.replicate ops.size false) a w.drew :=
  wpAny_ht [] hd tl S hm hs (by rfl) hh ht (by simpa using hn) hq hS (wpHead.nil (wpHead_of_wpQuiet _ _ hp h))
theorem wp_region_hq {id : Nat} {a : Act} (hd tl : List Nat) {S : World → Prop} (hm : P.follows .mixedOrders = true) (hs : Region.noSelect ops = true)
    (hh : headOk .any ops hd hd (Array.replicate ops.size false) = true) (ht : tailOk .any ops tl (listAll hd (Array.replicate ops.size false)) = true) (hn : ops.size = tl.length + hd.length)
    (hp : (hd.filterMap (ops[·]?)).all plainOp = true) (hq : ∀ c a t w, Q (.panic c) { tmps := t, defers := Act.defers a } w → Q (.panic c) a w) (hS : S w.drew)
    (h : wpQuiet P ops S (fun a' => wpTail P .any ops Q S hd tl a' w.drew) (hd.filterMap (ops[·]?)) a) : (Code.region id ops true).wp P Q a w :=
  wp_region_any hm (wpAny_hq hd tl hm hs hh ht hn hp hq hS h)
end
end Go.Proofs.Ytebdaoihajjgmaa
