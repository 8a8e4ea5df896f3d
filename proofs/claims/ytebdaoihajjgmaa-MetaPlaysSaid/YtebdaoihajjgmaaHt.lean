/- A region that draws its order: those of its operations that only read (calls among them that leave the world as it is) may be taken first, in the text's order, where each world that the others may lay between meets a condition S; what is left comes up in one order. -/
import Derived.Test.YtebdaoihajjgmaaBase
import Derived.OrdersHeld
import Derived.StillTail
set_option linter.unusedVariables false
namespace Go.Proofs.Ytebdaoihajjgmaa
open Go

section
variable {P : Program} {ops : Array Oper} {Q : Exit → Act → World → Prop} {md : Region.Mode} {S : World → Prop}

/-- In state a, in every world that meets S, o leaves v in its slot and the world as it is: by itself, or through a call. -/
def Gives (P : Program) (ops : Array Oper) (S : World → Prop) (o : Oper) (v : Value) (a : Act) : Prop :=
  (Region.wanted o (yielded ops a.tmps) = true ∧ ∀ w, S w → (execOp a.eval o).run P w = .ok (.value v) w ∨
    ∃ f args, (execOp a.eval o).run P w = .ok (.enter f args) w ∧ Calls P f args w fun e w' => e = .returned v ∧ w' = w) ∨
  (Region.wanted o (yielded ops a.tmps) = false ∧ v = undef)

theorem Gives.op {i : Nat} {o : Oper} {v : Value} {a : Act} (hi : ops[i]? = some o) (hy : Gives P ops S o v a) {K : Act → World → Prop} {w : World} (hS : S w) (h : K (a.put o.dst v) w) : wpOp P ops Q i K a w := by
  unfold wpOp
  simp only [hi]
  rcases hy with ⟨hw, hv⟩ | ⟨hw, rfl⟩
  · simp only [hw, if_true]
    refine .inl ?_
    unfold Oper.wp
    rcases hv w hS with hr | ⟨f, args, hr, hc⟩
    · rw [hr]; exact h
    · rw [hr]
      refine hc.mono ?_
      rintro e w' ⟨rfl, rfl⟩
      exact h
  · simp only [hw, Bool.false_eq_true, if_false]
    exact h
theorem Gives.same {o : Oper} {v : Value} {a a' : Act} (hy : Gives P ops S o v a) (he : execOp a'.eval o = execOp a.eval o) (hw : Region.wanted o (yielded ops a'.tmps) = Region.wanted o (yielded ops a.tmps)) : Gives P ops S o v a' := by
  unfold Gives at *
  rw [he, hw]
  exact hy

/-- Whether oi's value lies in its slot already makes no difference to oj. -/
theorem Gives.swap {j : Nat} {oi oj : Oper} {v : Value} (hj : ops[j]? = some oj) (hap : oi.apart ops oj = true) (hsi : ∀ cs b, oi.op ≠ .select cs b) (hsj : ∀ cs b, oj.op ≠ .select cs b)
    (hQ : ∀ c a w, Q (.panic c) (a.put oi.dst v) w → Q (.panic c) a w) {K : Act → World → Prop} {a : Act} {w : World} (hy : Gives P ops S oi v a) (h : wpOp P ops Q j K (a.put oi.dst v) w) :
    wpOp P ops Q j (fun a' w' => Gives P ops S oi v a' ∧ K (a'.put oi.dst v) w') a w := by
  obtain ⟨h1, h2, h3⟩ := Oper.apart_spec hap
  have keep : ∀ (a : Act), Gives P ops S oi v a → ∀ u, Gives P ops S oi v (a.put oj.dst u) := fun a hy u => hy.same (execOp_put oi hsi a oj.dst u h3) (wanted_put oi a oj.dst u h3)
  have keepD : ∀ d, Gives P ops S oi v { a with defers := d :: a.defers } := fun d => hy.same rfl rfl
  unfold wpOp at *
  simp only [hj] at *
  rw [wanted_put oj a oi.dst v h1] at h
  split
  · rename_i hw
    simp only [hw, if_true] at h
    rcases h with h | ⟨hasks, hlets⟩
    · refine .inl ?_
      unfold Oper.wp at *
      rw [execOp_put oj hsj a oi.dst v h1] at h
      generalize (execOp a.eval oj).run P w = r at *
      cases r with
      | ok n w' =>
        cases n with
        | value u => simp only [Oper.upon] at h ⊢; exact ⟨keep a hy u, by rw [← Act.put_comm a v u h2]; exact h⟩
        | skip => simp only [Oper.upon] at h ⊢; exact ⟨keep a hy _, by rw [← Act.put_comm a v undef h2]; exact h⟩
        | «defer» d =>
          simp only [Oper.upon] at h ⊢
          refine ⟨keep _ (keepD d) _, ?_⟩
          rw [← Act.put_comm _ v undef h2, ← Act.put_defers]
          exact h
        | enter f args =>
          simp only [Oper.upon] at h ⊢
          refine Calls.mono h fun e w'' he => ?_
          cases e with
          | returned u => exact ⟨keep a hy u, by rw [← Act.put_comm a v u h2]; exact he⟩
          | panicked c => exact hQ _ _ _ he
          | outgrown => exact he
        | row row args => simp only [Oper.upon] at h ⊢; exact Rows.mono h fun u w'' he => ⟨keep a hy u, by rw [← Act.put_comm a v u h2]; exact he⟩
        | _ => simp only [Oper.upon] at h
      | halt x w' =>
        cases x with
        | panic u => simp only [Oper.upon] at h ⊢; exact hQ _ _ _ h
        | _ => simp only [Oper.upon] at h
    · exact .inr ⟨by unfold Oper.asks at *; rw [execOp_put oj hsj a oi.dst v h1] at hasks; exact hasks, hlets⟩
  · rename_i hw
    simp only [hw] at h
    exact ⟨keep a hy _, by rw [← Act.put_comm a v undef h2]; exact h⟩

/-- Does j wait for k, through others too? -/
def Anc (md : Region.Mode) (ops : Array Oper) : Nat → Nat → Nat → Bool
  | 0, _, _ => false
  | n + 1, j, k => match ops[j]? with
    | some o => o.after.any fun e => Region.binds md e && (e.on == k || Anc md ops n e.on k)
    | none => false
/-- May j come up while one of hd has not? -/
def Early (md : Region.Mode) (ops : Array Oper) (hd : List Nat) (j : Nat) : Bool := !(hd.all fun k => Anc md ops ops.size j k)
/-- What has come up has all that it waits for behind it. -/
def Shut (md : Region.Mode) (ops : Array Oper) (listed : Array Bool) : Prop := ∀ (j : Nat) (oj : Oper), ops[j]? = some oj → listed.getD j false = true → ∀ e ∈ oj.after, Region.binds md e = true → listed.getD e.on false = true

theorem Shut.set {i : Nat} {listed : Array Bool} (h : Shut md ops listed) (hi : i ∈ Region.ready md ops listed) : Shut md ops (listed.setIfInBounds i true) := by
  obtain ⟨_, oi, hoi, hall⟩ := mem_ready.1 hi
  intro j oj hj hl e he hb
  by_cases hij : i = j
  · subst hij
    have : oj = oi := Option.some.inj (hj.symm.trans hoi)
    subst this
    exact getD_set_true (hall e he hb)
  · rw [getD_set_ne false hij] at hl
    exact getD_set_true (h j oj hj hl e he hb)
theorem Anc.listed {listed : Array Bool} (h : Shut md ops listed) : ∀ (n j k : Nat), Anc md ops n j k = true → (∀ o, ops[j]? = some o → ∀ e ∈ o.after, Region.binds md e = true → listed.getD e.on false = true) → listed.getD k false = true := by
  intro n
  induction n with
  | zero => intro j k h0; simp [Anc] at h0
  | succ n ih =>
    intro j k h0 hj
    unfold Anc at h0
    split at h0
    · rename_i o ho
      obtain ⟨e, he, hb⟩ := Array.any_eq_true'.1 h0
      simp only [Bool.and_eq_true, Bool.or_eq_true, beq_iff_eq] at hb
      have hl := hj o ho e he hb.1
      rcases hb.2 with h1 | h1
      · rw [← h1]; exact hl
      · exact ih e.on k h1 fun o' ho' e' he' hb' => h e.on o' ho' hl e' he' hb'
    · cases h0
theorem early_of {hd : List Nat} {listed : Array Bool} {i j : Nat} (h : Shut md ops listed) (hj : j ∈ Region.ready md ops listed) (hi : listed.getD i true = false) (hm : i ∈ hd) : Early md ops hd j = true := by
  unfold Early
  rw [Bool.not_eq_true']
  apply Bool.eq_false_iff.2
  intro hall
  have ha := List.all_eq_true.1 hall i hm
  obtain ⟨_, o, ho, hw⟩ := mem_ready.1 hj
  have hl := Anc.listed h _ j i ha fun o' ho' => by rw [Option.some.inj (ho'.symm.trans ho)]; exact hw
  rcases Nat.lt_or_ge i listed.size with h' | h'
  · simp [h'] at hl hi; rw [hl] at hi; cases hi
  · simp [Array.getElem?_eq_none h'] at hl

/-- Whatever order is picked; S holds behind each operation that may come up ahead of one of hd. -/
def wpG (P : Program) (md : Region.Mode) (ops : Array Oper) (Q : Exit → Act → World → Prop) (S : World → Prop) (hd : List Nat) : Nat → Array Bool → Act → World → Prop
  | 0, listed, a, w => Region.ready md ops listed = [] ∧ Q .normal a w
  | fuel + 1, listed, a, w =>
    (Region.ready md ops listed = [] → Q .normal a w) ∧
    ∀ i ∈ Region.ready md ops listed, wpOp P ops Q i (fun a' w' => (Early md ops hd i = true → S w') ∧ wpG P md ops Q S hd fuel (listed.setIfInBounds i true) a' w') a w
variable {hd : List Nat}
theorem wpG.any : ∀ (fuel : Nat) (listed : Array Bool) (a : Act) (w : World), wpG P md ops Q S hd fuel listed a w → wpAny P md ops Q fuel listed a w
  | 0, _, _, _, h => h
  | fuel + 1, _, _, _, h => ⟨h.1, fun i hi => wpOp_mono (fun a' w' h' => wpG.any fuel _ a' w' h'.2) (h.2 i hi)⟩

/-- One of hd may be taken first. -/
theorem wpG.first {i : Nat} {oi : Oper} {v : Value} (hi : ops[i]? = some oi) (hm : i ∈ hd) (hsel : ∀ (j : Nat) (o : Oper) cs b, ops[j]? = some o → o.op ≠ .select cs b)
    (hQ : ∀ c a w, Q (.panic c) (a.put oi.dst v) w → Q (.panic c) a w) :
    ∀ (fuel : Nat) (listed : Array Bool) (a : Act) (w : World),
      (∀ j oj, ops[j]? = some oj → j ≠ i → listed.getD j true = false → (∀ e ∈ oj.after, Region.binds md e = true → e.on ≠ i) → oi.apart ops oj = true) →
      Shut md ops listed → i ∈ Region.ready md ops listed → Gives P ops S oi v a → S w →
      wpG P md ops Q S hd fuel (listed.setIfInBounds i true) (a.put oi.dst v) w → wpG P md ops Q S hd (fuel + 1) listed a w := by
  intro fuel
  induction fuel with
  | zero =>
    intro listed a w _ _ hr hy hS H
    refine ⟨fun h => (by rw [h] at hr; cases hr), fun j hj => ?_⟩
    by_cases hji : j = i
    · subst hji; exact hy.op hi hS ⟨fun _ => hS, H⟩
    · have := ready_mono hj hji
      rw [H.1] at this
      cases this
  | succ fuel ih =>
    intro listed a w hfree hshut hr hy hS H
    refine ⟨fun h => (by rw [h] at hr; cases hr), fun j hj => ?_⟩
    by_cases hji : j = i
    · subst hji; exact hy.op hi hS ⟨fun _ => hS, H⟩
    · have h1 := H.2 j (ready_mono hj hji)
      obtain ⟨hjun, oj, hoj, hall⟩ := mem_ready.1 hj
      have h0 := (mem_ready.1 hr).1
      have hnot : ∀ e ∈ oj.after, Region.binds md e = true → e.on ≠ i := fun e he hb heq => by
        have h1 := hall e he hb
        rw [heq] at h1
        rcases Nat.lt_or_ge i listed.size with h' | h'
        · simp [h'] at h0 h1; rw [h0] at h1; cases h1
        · simp [Array.getElem?_eq_none h'] at h1
      have h2 := hy.swap hoj (hfree j oj hoj hji hjun hnot) (fun cs b => hsel i oi cs b hi) (fun cs b => hsel j oj cs b hoj) hQ h1
      have hfree' : ∀ k ok, ops[k]? = some ok → k ≠ i → (listed.setIfInBounds j true).getD k true = false →
          (∀ e ∈ ok.after, Region.binds md e = true → e.on ≠ i) → oi.apart ops ok = true := fun k ok hk hki hun hno => by
        refine hfree k ok hk hki ?_ hno
        by_cases hjk : j = k
        · subst hjk; exact hjun
        · rw [getD_set_ne true hjk] at hun; exact hun
      have he := early_of hshut hj h0 hm
      refine wpOp_mono (fun a' w' h3 => ⟨h3.2.1, ih (listed.setIfInBounds j true) a' w' hfree' (hshut.set hj) (ready_mono hr (Ne.symm hji)) h3.1 (h3.2.1 he) ?_⟩) h2
      rw [Array.setIfInBounds_comm _ _ hji]
      exact h3.2.2

/-- These, one behind the other: each may come up, each is free of the others, each is of hd. -/
def headOk (md : Region.Mode) (ops : Array Oper) (hd : List Nat) : List Nat → Array Bool → Bool
  | [], _ => true
  | i :: l, listed => hd.contains i && (ops[i]?).isSome && (Region.ready md ops listed).contains i && Region.free md ops listed i && headOk md ops hd l (listed.setIfInBounds i true)
def listAll : List Nat → Array Bool → Array Bool
  | [], listed => listed
  | i :: l, listed => listAll l (listed.setIfInBounds i true)
/-- What the head leaves: its values, each in its slot. -/
def wpHead (P : Program) (ops : Array Oper) (S : World → Prop) (F : Act → Prop) : List Oper → Act → Prop
  | [], a => F a
  | o :: r, a => ∃ v, Gives P ops S o v a ∧ wpHead P ops S F r (a.put o.dst v)

theorem wpG.head (hs : Region.noSelect ops = true) (hQ : ∀ c a d v w, Q (.panic c) (Act.put a d v) w → Q (.panic c) a w) {w : World} (hS : S w) :
    ∀ (l : List Nat) (listed : Array Bool) (fuel : Nat) (a : Act), headOk md ops hd l listed = true → Shut md ops listed →
      wpHead P ops S (fun a' => Shut md ops (listAll l listed) → wpG P md ops Q S hd fuel (listAll l listed) a' w) (l.filterMap (ops[·]?)) a → wpG P md ops Q S hd (fuel + l.length) listed a w
  | [], listed, fuel, a, _, hshut, h => h hshut
  | i :: l, listed, fuel, a, hok, hshut, h => by
    simp only [headOk, Bool.and_eq_true] at hok
    obtain ⟨⟨⟨⟨h1, h2⟩, h3⟩, h4⟩, h5⟩ := hok
    obtain ⟨oi, hoi⟩ := Option.isSome_iff_exists.1 h2
    have e : (i :: l).filterMap (ops[·]?) = oi :: l.filterMap (ops[·]?) := by simp [List.filterMap_cons, hoi]
    rw [e] at h
    obtain ⟨v, hy, hrest⟩ := h
    have hr : i ∈ Region.ready md ops listed := by simpa using h3
    refine wpG.first hoi (by simpa using h1) (Region.noSelect_spec hs) (fun c a w => hQ c a _ _ w) _ listed a w (Region.free_spec hoi h4) hshut hr hy hS ?_
    exact wpG.head hs hQ hS l (listed.setIfInBounds i true) fuel (a.put oi.dst v) h5 (hshut.set hr) hrest

/-- These come up in this order and no other, and then none. -/
def tailOk (md : Region.Mode) (ops : Array Oper) : List Nat → Array Bool → Bool
  | [], listed => (Region.ready md ops listed).isEmpty
  | i :: l, listed => (Region.ready md ops listed == [i]) && tailOk md ops l (listed.setIfInBounds i true)
/-- The tail, S shown behind those that may come up ahead of one of the head. -/
def wpTail (P : Program) (md : Region.Mode) (ops : Array Oper) (Q : Exit → Act → World → Prop) (S : World → Prop) (hd : List Nat) : List Nat → Act → World → Prop
  | [], a, w => Q .normal a w
  | i :: r, a, w => wpOp P ops Q i (fun a' w' => (Early md ops hd i = true → S w') ∧ wpTail P md ops Q S hd r a' w') a w
theorem wpG.tail : ∀ (l : List Nat) (listed : Array Bool) (a : Act) (w : World), tailOk md ops l listed = true → wpTail P md ops Q S hd l a w → wpG P md ops Q S hd l.length listed a w
  | [], listed, a, w, hok, h => ⟨by simpa [tailOk] using hok, h⟩
  | i :: l, listed, a, w, hok, h => by
    simp only [tailOk, Bool.and_eq_true, beq_iff_eq] at hok
    refine ⟨fun h0 => (by rw [hok.1] at h0; cases h0), fun j hj => ?_⟩
    rw [hok.1] at hj
    obtain rfl : j = i := by simpa using hj
    exact wpOp_mono (fun a' w' h' => ⟨h'.1, wpG.tail l _ a' w' hok.2 h'.2⟩) h

end

section
variable {P : Program} {ops : Array Oper} {Q : Exit → Act → World → Prop} {S : World → Prop} {hd : List Nat} {a : Act} {w : World}
theorem wpTail.nil (h : Q .normal a w) : wpTail P .any ops Q S hd [] a w := h
/-- One that waits for all of the head. -/
theorem wpTail.late {i : Nat} {r : List Nat} {o : Oper} (ho : ops[i]? = some o) (he : Early .any ops hd i = false) (hg : o.guard = none)
    (h : ∀ K : Act → World → Prop, (∀ a w, wpTail P .any ops Q S hd r a w → K a w) → o.wp P a w K Q) : wpTail P .any ops Q S hd (i :: r) a w := by
  show wpOp P ops Q i _ a w
  unfold wpOp
  simp only [ho, Region.wanted, hg, if_true]
  exact .inl (h _ fun a' w' h' => ⟨fun x => (by rw [he] at x; cases x), h'⟩)
/-- One that may come up ahead of one of the head. -/
theorem wpTail.early {i : Nat} {r : List Nat} {o : Oper} (ho : ops[i]? = some o) (hg : o.guard = none)
    (h : ∀ K : Act → World → Prop, (∀ a w, S w → wpTail P .any ops Q S hd r a w → K a w) → o.wp P a w K Q) : wpTail P .any ops Q S hd (i :: r) a w := by
  show wpOp P ops Q i _ a w
  unfold wpOp
  simp only [ho, Region.wanted, hg, if_true]
  exact .inl (h _ fun a' w' h1 h2 => ⟨fun _ => h1, h2⟩)

theorem wpHead.nil {F : Act → Prop} (h : F a) : wpHead P ops S F [] a := h
theorem wpHead.val {F : Act → Prop} {o : Oper} {r : List Oper} (v : Value) (hw : Region.wanted o (yielded ops a.tmps) = true) (hy : ∀ W, S W → (execOp a.eval o).run P W = .ok (.value v) W)
    (h : wpHead P ops S F r (a.put o.dst v)) : wpHead P ops S F (o :: r) a := ⟨v, .inl ⟨hw, fun W hS => .inl (hy W hS)⟩, h⟩
theorem wpHead.skip {F : Act → Prop} {o : Oper} {r : List Oper} (hw : Region.wanted o (yielded ops a.tmps) = false) (h : wpHead P ops S F r (a.put o.dst undef)) : wpHead P ops S F (o :: r) a :=
  ⟨undef, .inr ⟨hw, rfl⟩, h⟩
theorem wpHead.call {F : Act → Prop} {o : Oper} {r : List Oper} (v : Value) (f : FuncId) (args : Array Value) (hw : Region.wanted o (yielded ops a.tmps) = true) (hy : ∀ W, S W → (execOp a.eval o).run P W = .ok (.enter f args) W)
    (hc : ∀ W, S W → Calls P f args W fun e w' => e = .returned v ∧ w' = W) (h : wpHead P ops S F r (a.put o.dst v)) : wpHead P ops S F (o :: r) a :=
  ⟨v, .inl ⟨hw, fun W hS => .inr ⟨f, args, hy W hS, hc W hS⟩⟩, h⟩

theorem wpHead.mono {F F' : Act → Prop} (hF : ∀ a, F a → F' a) : ∀ (l : List Oper) (a : Act), wpHead P ops S F l a → wpHead P ops S F' l a
  | [], _, h => hF _ h
  | _ :: l, _, ⟨v, hy, h⟩ => ⟨v, hy, wpHead.mono hF l _ h⟩

theorem wpG.free {md : Region.Mode} : ∀ (fuel : Nat) (listed : Array Bool) (a : Act) (w : World), wpAny P md ops Q fuel listed a w → wpG P md ops Q (fun _ => True) hd fuel listed a w
  | 0, _, _, _, h => h
  | fuel + 1, _, _, _, h => ⟨h.1, fun i hi => wpOp_mono (fun a' w' h' => ⟨fun _ => trivial, wpG.free fuel _ a' w' h'⟩) (h.2 i hi)⟩

/-- THE LAW. fr: the numbers of those that don't look at the world and wait for nobody but one another; hd: of those that only read, in an order in which they may come up; tl: of the others, in the order in which they come up. -/
theorem wpAny_ht (fr hd tl : List Nat) (S : World → Prop) (hm : P.follows .mixedOrders = true) (hs : Region.noSelect ops = true)
    (hf : headOk .any ops fr fr (Array.replicate ops.size false) = true) (hh : headOk .any ops hd hd (listAll fr (Array.replicate ops.size false)) = true)
    (ht : tailOk .any ops tl (listAll hd (listAll fr (Array.replicate ops.size false))) = true) (hn : ops.size = tl.length + hd.length + fr.length)
    (hq : ∀ c a t w, Q (.panic c) { tmps := t, defers := Act.defers a } w → Q (.panic c) a w) (hS : S w.drew)
    (h : wpHead P ops (fun _ => True) (fun a' => wpHead P ops S (fun a' => wpTail P .any ops Q S hd tl a' w.drew) (hd.filterMap (ops[·]?)) a') (fr.filterMap (ops[·]?)) a) : wpAny P .any ops Q ops.size (Array.replicate ops.size false) a w.drew := by
  have hQ : ∀ c a d v w, Q (.panic c) (Act.put a d v) w → Q (.panic c) a w := fun c a d v w h => by
    cases d with
    | none => exact h
    | some t => exact hq c a _ w h
  have hG : wpG P .any ops Q (fun _ => True) fr (tl.length + hd.length + fr.length) (Array.replicate ops.size false) a w.drew := by
    refine wpG.head hs hQ trivial fr _ (tl.length + hd.length) a hf ?_ ?_
    · intro j oj _ hl
      rw [getD_replicate_false] at hl
      cases hl
    · refine wpHead.mono (fun a' h' hsh => wpG.free _ _ _ _ (wpG.any (S := S) (hd := hd) _ _ _ _ ?_)) _ _ h
      exact wpG.head hs hQ hS hd _ tl.length a' hh hsh (wpHead.mono (fun a' h' _ => wpG.tail tl _ a' _ ht h') _ _ h')
  rw [← hn] at hG
  exact wpG.any _ _ _ _ hG
theorem wp_region_ht {id : Nat} (fr hd tl : List Nat) (S : World → Prop) (hm : P.follows .mixedOrders = true) (hs : Region.noSelect ops = true)
    (hf : headOk .any ops fr fr (Array.replicate ops.size false) = true) (hh : headOk .any ops hd hd (listAll fr (Array.replicate ops.size false)) = true)
    (ht : tailOk .any ops tl (listAll hd (listAll fr (Array.replicate ops.size false))) = true) (hn : ops.size = tl.length + hd.length + fr.length)
    (hq : ∀ c a t w, Q (.panic c) { tmps := t, defers := Act.defers a } w → Q (.panic c) a w) (hS : S w.drew)
    (h : wpHead P ops (fun _ => True) (fun a' => wpHead P ops S (fun a' => wpTail P .any ops Q S hd tl a' w.drew) (hd.filterMap (ops[·]?)) a') (fr.filterMap (ops[·]?)) a) : (Code.region id ops true).wp P Q a w :=
  wp_region_any hm (wpAny_ht fr hd tl S hm hs hf hh ht hn hq hS h)
end
end Go.Proofs.Ytebdaoihajjgmaa
