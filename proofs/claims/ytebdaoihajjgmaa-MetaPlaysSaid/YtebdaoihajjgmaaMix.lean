/- A region that draws its order: operations that only read, and others that come up in one order, each of which waits for all that is not done behind it; all of them leave what there was, but for blocks of K. What only reads is taken as early as it may come up. -/
import Derived.Test.YtebdaoihajjgmaaHq
set_option linter.unusedVariables false
set_option linter.unusedSimpArgs false
namespace Go.Proofs.Ytebdaoihajjgmaa
open Go Go.RowKit

section
variable {P : Program} {ops : Array Oper} {Q : Exit → Act → World → Prop} {md : Region.Mode} {KC : Nat → Prop}

/-- Whatever order is picked; each step leaves what there was. -/
def wpG2 (P : Program) (md : Region.Mode) (ops : Array Oper) (Q : Exit → Act → World → Prop) (KC : Nat → Prop) : Nat → Array Bool → Act → World → Prop
  | 0, listed, a, w => Region.ready md ops listed = [] ∧ Q .normal a w
  | fuel + 1, listed, a, w =>
    (Region.ready md ops listed = [] → Q .normal a w) ∧
    ∀ i ∈ Region.ready md ops listed, wpOp P ops Q i (fun a' w' => Chg KC w w' ∧ wpG2 P md ops Q KC fuel (listed.setIfInBounds i true) a' w') a w
theorem wpG2.any : ∀ (fuel : Nat) (listed : Array Bool) (a : Act) (w : World), wpG2 P md ops Q KC fuel listed a w → wpAny P md ops Q fuel listed a w
  | 0, _, _, _, h => h
  | fuel + 1, _, _, _, h => ⟨h.1, fun i hi => wpOp_mono (fun a' w' h' => wpG2.any fuel _ a' w' h'.2) (h.2 i hi)⟩

/-- One that only reads may be taken first. -/
theorem wpG2.first {b : World} {i : Nat} {oi : Oper} {v : Value} (hi : ops[i]? = some oi) (hsel : ∀ (j : Nat) (o : Oper) cs b, ops[j]? = some o → o.op ≠ .select cs b)
    (hQ : ∀ c a w, Q (.panic c) (a.put oi.dst v) w → Q (.panic c) a w) :
    ∀ (fuel : Nat) (listed : Array Bool) (a : Act) (w : World),
      (∀ j oj, ops[j]? = some oj → j ≠ i → listed.getD j true = false → (∀ e ∈ oj.after, Region.binds md e = true → e.on ≠ i) → oi.apart ops oj = true) →
      i ∈ Region.ready md ops listed → Gives P ops (fun W => ∃ q : FamC KC b, W = q.w') oi v a → (∃ q : FamC KC b, w = q.w') →
      wpG2 P md ops Q KC fuel (listed.setIfInBounds i true) (a.put oi.dst v) w → wpG2 P md ops Q KC (fuel + 1) listed a w := by
  intro fuel
  induction fuel with
  | zero =>
    intro listed a w _ hr hy hS H
    refine ⟨fun h => (by rw [h] at hr; cases hr), fun j hj => ?_⟩
    by_cases hji : j = i
    · subst hji; exact hy.op hi hS ⟨Chg.refl _ _, H⟩
    · have := ready_mono hj hji
      rw [H.1] at this
      cases this
  | succ fuel ih =>
    intro listed a w hfree hr hy hS H
    refine ⟨fun h => (by rw [h] at hr; cases hr), fun j hj => ?_⟩
    by_cases hji : j = i
    · subst hji; exact hy.op hi hS ⟨Chg.refl _ _, H⟩
    · have h1 := H.2 j (ready_mono hj hji)
      obtain ⟨hjun, oj, hoj, hall⟩ := mem_ready.1 hj
      have h0 := (mem_ready.1 hr).1
      have hnot : ∀ e ∈ oj.after, Region.binds md e = true → e.on ≠ i := fun e he hb heq => by
        have h1 := hall e he hb
        rw [heq] at h1
        rcases Nat.lt_or_ge i listed.size with h' | h'
        · simp [h'] at h0 h1; rw [h0] at h1; cases h1
        · simp [Array.getElem?_eq_none h'] at h1
      have h2 := hy.swap hoj (hfree j oj hoj hji hjun hnot) (fun cs b => hsel i oi cs b hi) (fun cs b => hsel j oj cs b hoj) hQ h1
      have hfree' : ∀ k ok, ops[k]? = some ok → k ≠ i → (listed.setIfInBounds j true).getD k true = false →
          (∀ e ∈ ok.after, Region.binds md e = true → e.on ≠ i) → oi.apart ops ok = true := fun k ok hk hki hun hno => by
        refine hfree k ok hk hki ?_ hno
        by_cases hjk : j = k
        · subst hjk; exact hjun
        · rw [getD_set_ne true hjk] at hun; exact hun
      refine wpOp_mono (fun a' w' h3 => ⟨h3.2.1, ih (listed.setIfInBounds j true) a' w' hfree' (ready_mono hr (Ne.symm hji)) h3.1 ?_ ?_⟩) h2
      · obtain ⟨q, rfl⟩ := hS
        exact ⟨⟨w', q.h.trans h3.2.1⟩, rfl⟩
      · rw [Array.setIfInBounds_comm _ _ hji]
        exact h3.2.2

/-- These, one behind the other: each may come up, each is free of the others, each only reads. -/
def purOk (md : Region.Mode) (ops : Array Oper) : List Nat → Array Bool → Bool
  | [], _ => true
  | i :: l, listed => (match ops[i]? with | some o => plainOp o | none => false) && (Region.ready md ops listed).contains i && Region.free md ops listed i && purOk md ops l (listed.setIfInBounds i true)
theorem wpG2.pure {b : World} (hs : Region.noSelect ops = true) (hQ : ∀ c a d v w, Q (.panic c) (Act.put a d v) w → Q (.panic c) a w) {w : World} (hS : ∃ q : FamC KC b, w = q.w') :
    ∀ (l : List Nat) (listed : Array Bool) (fuel : Nat) (a : Act), purOk md ops l listed = true →
      wpHead P ops (fun W => ∃ q : FamC KC b, W = q.w') (fun a' => wpG2 P md ops Q KC fuel (listAll l listed) a' w) (l.filterMap (ops[·]?)) a → wpG2 P md ops Q KC (fuel + l.length) listed a w
  | [], listed, fuel, a, _, h => h
  | i :: l, listed, fuel, a, hok, h => by
    simp only [purOk, Bool.and_eq_true] at hok
    obtain ⟨⟨⟨h2, h3⟩, h4⟩, h5⟩ := hok
    obtain ⟨oi, hoi⟩ : ∃ oi, ops[i]? = some oi := by
      cases h : ops[i]? with
      | none => rw [h] at h2; cases h2
      | some o => exact ⟨o, rfl⟩
    have e : (i :: l).filterMap (ops[·]?) = oi :: l.filterMap (ops[·]?) := by simp [List.filterMap_cons, hoi]
    rw [e] at h
    obtain ⟨v, hy, hrest⟩ := h
    have hr : i ∈ Region.ready md ops listed := by simpa using h3
    refine wpG2.first hoi (Region.noSelect_spec hs) (fun c a w => hQ c a _ _ w) _ listed a w (Region.free_spec hoi h4) hr hy hS ?_
    exact wpG2.pure hs hQ hS l (listed.setIfInBounds i true) fuel (a.put oi.dst v) h5 hrest

theorem wpQuiet_mono {C : World → Prop} {F F' : Act → Prop} (hF : ∀ a, F a → F' a) : ∀ (l : List Oper) (a : Act), wpQuiet P ops C F l a → wpQuiet P ops C F' l a
  | [], _, h => hF _ h
  | o :: l, a, h => by
    unfold wpQuiet at h ⊢
    split at h
    · rename_i hw
      rw [if_pos hw]
      obtain ⟨v, hv, hn⟩ := h
      exact ⟨v, hv, wpQuiet_mono hF l _ hn⟩
    · rename_i hw
      rw [if_neg hw]
      exact wpQuiet_mono hF l _ h
/-- The walk: what only reads, then one that waits for all else, and so on; b: the world that the last one left. -/
def wpMix (P : Program) (ops : Array Oper) (Q : Exit → Act → World → Prop) (KC : Nat → Prop) (last : List Nat) : List (List Nat × Nat) → Act → World → Prop
  | [], a, b => wpQuiet P ops (fun W => ∃ q : FamC KC b, W = q.w') (fun a' => Q .normal a' b) (last.filterMap (ops[·]?)) a
  | (hd, i) :: r, a, b => wpQuiet P ops (fun W => ∃ q : FamC KC b, W = q.w') (fun a' => wpOp P ops Q i (fun a'' W' => Chg KC b W' ∧ wpMix P ops Q KC last r a'' W') a' b) (hd.filterMap (ops[·]?)) a
def mixOk (md : Region.Mode) (ops : Array Oper) (last : List Nat) : List (List Nat × Nat) → Array Bool → Bool
  | [], listed => purOk md ops last listed && (Region.ready md ops (listAll last listed)).isEmpty
  | (hd, i) :: r, listed => purOk md ops hd listed && (Region.ready md ops (listAll hd listed) == [i]) && mixOk md ops last r ((listAll hd listed).setIfInBounds i true)
def mixLen (last : List Nat) : List (List Nat × Nat) → Nat
  | [] => last.length
  | (hd, _) :: r => mixLen last r + 1 + hd.length
theorem purOk_plain : ∀ (l : List Nat) (listed : Array Bool), purOk md ops l listed = true → (l.filterMap (ops[·]?)).all plainOp = true
  | [], _, _ => rfl
  | i :: l, listed, h => by
    simp only [purOk, Bool.and_eq_true] at h
    cases hi : ops[i]? with
    | none => rw [hi] at h; cases h.1.1.1
    | some o =>
      rw [hi] at h
      simp [List.filterMap_cons, hi, h.1.1.1]
      simpa using purOk_plain l _ h.2
theorem wpMix.sound (hs : Region.noSelect ops = true) (hQ : ∀ c a d v w, Q (.panic c) (Act.put a d v) w → Q (.panic c) a w) (last : List Nat) :
    ∀ (segs : List (List Nat × Nat)) (listed : Array Bool) (a : Act) (b : World), mixOk md ops last segs listed = true → wpMix P ops Q KC last segs a b → wpG2 P md ops Q KC (mixLen last segs) listed a b
  | [], listed, a, b, hok, h => by
    simp only [mixOk, Bool.and_eq_true] at hok
    have := wpG2.pure (P := P) (KC := KC) (b := b) hs hQ ⟨⟨b, Chg.refl _ _⟩, rfl⟩ last listed 0 a hok.1 (wpHead_of_wpQuiet _ _ (purOk_plain _ _ hok.1) (by
      have h' : wpQuiet P ops (fun W => ∃ q : FamC KC b, W = q.w') (fun a' => Q .normal a' b) (last.filterMap (ops[·]?)) a := h
      exact wpQuiet_mono (fun a' h2 => ⟨by simpa using hok.2, h2⟩) _ _ h'))
    simpa [mixLen] using this
  | (hd, i) :: r, listed, a, b, hok, h => by
    simp only [mixOk, Bool.and_eq_true, beq_iff_eq] at hok
    have h' : wpQuiet P ops (fun W => ∃ q : FamC KC b, W = q.w') (fun a' => wpOp P ops Q i (fun a'' W' => Chg KC b W' ∧ wpMix P ops Q KC last r a'' W') a' b) (hd.filterMap (ops[·]?)) a := h
    refine wpG2.pure (P := P) (KC := KC) (b := b) hs hQ ⟨⟨b, Chg.refl _ _⟩, rfl⟩ hd listed (mixLen last r + 1) a hok.1.1 (wpHead_of_wpQuiet _ _ (purOk_plain _ _ hok.1.1) (wpQuiet_mono (fun a' h2 => ?_) _ _ h'))
    refine ⟨fun h0 => (by rw [hok.1.2] at h0; cases h0), fun j hj => ?_⟩
    rw [hok.1.2] at hj
    obtain rfl : j = i := by simpa using hj
    exact wpOp_mono (fun a'' W' h3 => ⟨h3.1, wpMix.sound hs hQ last r _ a'' W' hok.2 h3.2⟩) h2
/-- THE LAW. segs: the numbers of those that only read, and of the one behind them; last: those behind the last. KC: the blocks that are written. -/
theorem wp_region_mix {id : Nat} {a : Act} {w : World} (KC : Nat → Prop) (segs : List (List Nat × Nat)) (last : List Nat) (hm : P.follows .mixedOrders = true) (hs : Region.noSelect ops = true)
    (hok : mixOk .any ops last segs (Array.replicate ops.size false) = true) (hn : ops.size = mixLen last segs) (hq : ∀ c a t w, Q (.panic c) { tmps := t, defers := Act.defers a } w → Q (.panic c) a w)
    (h : wpMix P ops Q KC last segs a w.drew) : (Code.region id ops true).wp P Q a w := by
  have hQ : ∀ c a d v w, Q (.panic c) (Act.put a d v) w → Q (.panic c) a w := fun c a d v w h => by
    cases d with
    | none => exact h
    | some t => exact hq c a _ w h
  have hG := wpMix.sound (md := .any) hs hQ last segs (Array.replicate ops.size false) a w.drew hok h
  rw [← hn] at hG
  exact wp_region_any hm (wpG2.any _ _ _ _ hG)
theorem wpMix_cons {hd last : List Nat} {i : Nat} {r : List (List Nat × Nat)} {a : Act} {b : World} {l : List Oper} (hl : hd.filterMap (ops[·]?) = l)
    (h : wpQuiet P ops (fun W => ∃ q : FamC KC b, W = q.w') (fun a' => wpOp P ops Q i (fun a'' W' => Chg KC b W' ∧ wpMix P ops Q KC last r a'' W') a' b) l a) : wpMix P ops Q KC last ((hd, i) :: r) a b := by
  subst hl; exact h
theorem wpMix_nil {last : List Nat} {a : Act} {b : World} {l : List Oper} (hl : last.filterMap (ops[·]?) = l)
    (h : wpQuiet P ops (fun W => ∃ q : FamC KC b, W = q.w') (fun a' => Q .normal a' b) l a) : wpMix P ops Q KC last [] a b := by
  subst hl; exact h
/-- At the one that waits for all else: it is asked for. -/
theorem wpMix_act {i : Nat} {o : Oper} {K : Act → World → Prop} {a : Act} {w : World} (ho : ops[i]? = some o) (hw : Region.wanted o (yielded ops a.tmps) = true)
    (h : ∀ K' : Act → World → Prop, (∀ a w, K a w → K' a w) → o.wp P a w K' Q) : wpOp P ops Q i K a w := by
  unfold wpOp
  simp only [ho, hw, if_true]
  exact .inl (h _ fun _ _ h => h)
/-- .. or not. -/
theorem wpMix_skip {i : Nat} {o : Oper} {K : Act → World → Prop} {a : Act} {w : World} (ho : ops[i]? = some o) (hw : Region.wanted o (yielded ops a.tmps) = false) (h : K (a.put o.dst undef) w) : wpOp P ops Q i K a w := by
  unfold wpOp
  simp only [ho, hw, Bool.false_eq_true, if_false]
  exact h
/-! ### Where several may come up: by hand -/
theorem wpG2.seg {listed : Array Bool} {a : Act} {b : World} (l : List Nat) (fuel : Nat) (listed' : Array Bool) {n : Nat} (hn : n = fuel + l.length) (hs : Region.noSelect ops = true) (hq : ∀ c a t w, Q (.panic c) { tmps := t, defers := Act.defers a } w → Q (.panic c) a w)
    (hok : purOk .any ops l listed = true) (hl : listAll l listed = listed') (h : wpQuiet P ops (fun W => ∃ q : FamC KC b, W = q.w') (fun a' => wpG2 P .any ops Q KC fuel listed' a' b) (l.filterMap (ops[·]?)) a) : wpG2 P .any ops Q KC n listed a b := by
  have hQ : ∀ c a d v w, Q (.panic c) (Act.put a d v) w → Q (.panic c) a w := fun c a d v w h => by
    cases d with
    | none => exact h
    | some t => exact hq c a _ w h
  subst hn hl
  exact wpG2.pure hs hQ ⟨⟨b, Chg.refl _ _⟩, rfl⟩ l listed fuel a hok (wpHead_of_wpQuiet _ _ (purOk_plain _ _ hok) h)
/-- One of these. -/
theorem wpG2.acts {listed : Array Bool} {a : Act} {b : World} (rs : List Nat) (fuel : Nat) (hr : Region.ready .any ops listed = rs) (hne : rs.isEmpty = false)
    (h : ∀ i ∈ rs, wpOp P ops Q i (fun a' W' => Chg KC b W' ∧ wpG2 P .any ops Q KC fuel (listed.setIfInBounds i true) a' W') a b) : wpG2 P .any ops Q KC (fuel + 1) listed a b := by
  refine ⟨fun h0 => ?_, fun i hi => h i (by rw [← hr]; exact hi)⟩
  rw [hr] at h0
  subst h0
  cases hne
theorem wpG2.last {listed : Array Bool} {a : Act} {b : World} (hr : (Region.ready .any ops listed).isEmpty = true) (h : Q .normal a b) : wpG2 P .any ops Q KC 0 listed a b := ⟨by simpa using hr, h⟩
theorem wp_region_g2 {id : Nat} {a : Act} {w : World} (KC : Nat → Prop) (listed : Array Bool) (n : Nat) (hm : P.follows .mixedOrders = true) (hn : ops.size = n) (hl : Array.replicate n false = listed) (h : wpG2 P .any ops Q KC n listed a w.drew) : (Code.region id ops true).wp P Q a w := by
  subst hn hl
  exact wp_region_any hm (wpG2.any _ _ _ _ h)
end
end Go.Proofs.Ytebdaoihajjgmaa
