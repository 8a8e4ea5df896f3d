/- The document's put: what it says is what the table does. No walk. -/
import Derived.Test.YtebdaoihajjgmaaPln
set_option linter.unusedVariables false
set_option linter.unusedSimpArgs false
namespace Go.Proofs.Ytebdaoihajjgmaa
open Go.RowKit

/-- May the i-th of these stand where it stands? -/
def dOk (more : List Tab) (i : Nat) : Bool := match more[i]? with
  | none => true
  | some x => pRight x.span && (match i with
    | 0 => true
    | j + 1 => match more[j]? with
      | none => true
      | some y => !sE y.span.hi && decide (y.span.hi.toList = x.span.lo.toList))
def dLinks (more : List Tab) : Bool := (List.range more.length).all (dOk more)
def dMeets (more : List Tab) (x : Tab) : Bool := more.any fun y => pMeet x.span y.span
def dOut (more : List Tab) : List Tab → Bool → List Tab
  | [], _ => []
  | x :: l, d => if dMeets more x then (if d then dOut more l true else more ++ dOut more l true) else x :: dOut more l d
def dCode (l more : List Tab) : Int :=
  if !dLinks more then 1 else if more.isEmpty || !more.all pNum then 1 else if !pCover ((dOut more l false).map (·.span)) then 1 else if 16 < (dOut more l false).length then 13 else 0

theorem dLinks_iff (more : List Tab) : dLinks more = true ↔ ∀ i, i < more.length → dOk more i = true := by simp [dLinks]
theorem dOk_iff (more : List Tab) (i : Nat) (h : i < more.length) : dOk more i = true ↔ pRight more[i].span = true ∧ ∀ j (hj : j + 1 = i), (more[j]'(by omega)).span.hi.toList ≠ [] ∧ (more[j]'(by omega)).span.hi.toList = more[i].span.lo.toList := by
  unfold dOk
  rw [List.getElem?_eq_getElem h]
  cases i with
  | zero => simp
  | succ j =>
    simp only [List.getElem?_eq_getElem (show j < more.length by omega), Bool.and_eq_true, Bool.not_eq_true', decide_eq_true_eq, sE, List.isEmpty_eq_false_iff]
    constructor
    · rintro ⟨h1, h2, h3⟩
      refine ⟨h1, fun j' hj => ?_⟩
      obtain rfl : j' = j := by omega
      exact ⟨h2, h3⟩
    · rintro ⟨h1, h2⟩
      exact ⟨h1, h2 j rfl⟩
theorem right_or {s : Span} (h : pRight s = true) : s.hi.toList = [] ∨ Op.bytesLess s.lo.toList s.hi.toList = true := by
  rcases Classical.em (s.hi.toList = []) with e | e
  · exact .inl e
  · exact .inr (right_lt h e)
theorem pMeet_iff {a b : Span} (ha : pRight a = true) (hb : pRight b = true) : pMeet a b = true ↔ (a.hi.toList = [] ∨ Op.bytesLess b.lo.toList a.hi.toList = true) ∧ (b.hi.toList = [] ∨ Op.bytesLess a.lo.toList b.hi.toList = true) := by
  simp [pMeet, ha, hb, sE]
theorem sMeet_eq (a b : Span) : sMeetB a b = pMeet a b := by
  cases ha : pRight a
  · simp [sMeetB, pMeet, ha]
  cases hb : pRight b
  · simp [sMeetB, pMeet, hb]
  rw [Bool.eq_iff_iff, pMeet_iff ha hb]
  have ra := right_or ha
  have rb := right_or hb
  simp only [sMeetB, ha, hb, Bool.true_and, Bool.and_eq_true, pHas, Bool.not_eq_true', Bool.or_eq_true, sE, List.isEmpty_iff, sMax]
  cases h : sLt a.lo b.lo
  · have h' : Op.bytesLess a.lo.toList b.lo.toList = false := h
    simp only [Bool.false_eq_true, if_false]
    constructor
    · rintro ⟨⟨_, h1⟩, _, h2⟩
      exact ⟨h1.imp id fun e => sLt_le_trans h' e, h2⟩
    · rintro ⟨_, h2⟩
      exact ⟨⟨sLt_irrefl _, ra⟩, h', h2⟩
  · have h' : Op.bytesLess a.lo.toList b.lo.toList = true := h
    simp only [if_true]
    constructor
    · rintro ⟨⟨_, h1⟩, _, h2⟩
      exact ⟨h1, h2.imp id fun e => sLt_trans h' e⟩
    · rintro ⟨h1, _⟩
      exact ⟨⟨sLt_asymm h', h1⟩, sLt_irrefl _, rb⟩
theorem meets_eq (more : List Tab) : meets more = dMeets more := by
  funext x
  unfold meets dMeets
  congr 1
  funext y
  exact sMeet_eq _ _
/-- They are right, each begins where the one ahead ends. -/
structure Row1 (more : List Tab) : Prop where
  ne : 0 < more.length
  right : ∀ i (h : i < more.length), pRight more[i].span = true
  link : ∀ i (h : i + 1 < more.length), more[i].span.hi.toList ≠ [] ∧ more[i].span.hi.toList = more[i + 1].span.lo.toList
theorem row1_of {more : List Tab} (h : dLinks more = true) (hn : more ≠ []) : Row1 more := by
  have h1 := (dLinks_iff more).1 h
  refine ⟨List.length_pos_iff.2 hn, fun i hi => ((dOk_iff more i hi).1 (h1 i hi)).1, fun i hi => ?_⟩
  exact ((dOk_iff more (i + 1) hi).1 (h1 _ hi)).2 i rfl
section
variable {more : List Tab} (hm : Row1 more)
include hm
theorem Row1.le : ∀ j (hj : j < more.length), Op.bytesLess more[j].span.lo.toList (more[0]'hm.ne).span.lo.toList = false
  | 0, _ => sLt_irrefl _
  | j + 1, hj => by
    have ih := Row1.le j (by omega)
    obtain ⟨h1, h2⟩ := hm.link j hj
    have h3 := right_lt (hm.right j (by omega)) h1
    rw [h2] at h3
    cases e : Op.bytesLess more[j + 1].span.lo.toList (more[0]'hm.ne).span.lo.toList
    · rfl
    · have := sLt_trans h3 e
      rw [ih] at this; cases this
/-- It ends ahead of them all. -/
def EndsA (more : List Tab) (x : Tab) (h : 0 < more.length) : Prop := x.span.hi.toList ≠ [] ∧ Op.bytesLess (more[0]).span.lo.toList x.span.hi.toList = false
/-- It begins behind them all. -/
def BegC (more : List Tab) (x : Tab) : Prop := ∀ j (hj : j < more.length), more[j].span.hi.toList ≠ [] ∧ Op.bytesLess x.span.lo.toList more[j].span.hi.toList = false
theorem Row1.either {x : Tab} (hx : pRight x.span = true) (h : dMeets more x = false) : EndsA more x hm.ne ∨ BegC more x := by
  rcases Classical.em (EndsA more x hm.ne) with h0 | h0
  · exact .inl h0
  refine .inr ?_
  have hn : ∀ j (hj : j < more.length), ¬ ((x.span.hi.toList = [] ∨ Op.bytesLess more[j].span.lo.toList x.span.hi.toList = true) ∧ (more[j].span.hi.toList = [] ∨ Op.bytesLess x.span.lo.toList more[j].span.hi.toList = true)) := by
    intro j hj
    rw [← pMeet_iff hx (hm.right j hj)]
    intro e
    have : dMeets more x = true := List.any_eq_true.2 ⟨more[j], List.getElem_mem _, e⟩
    rw [h] at this; cases this
  have hfin : ∀ j (hj : j < more.length), (x.span.hi.toList = [] ∨ Op.bytesLess more[j].span.lo.toList x.span.hi.toList = true) → more[j].span.hi.toList ≠ [] ∧ Op.bytesLess x.span.lo.toList more[j].span.hi.toList = false := by
    intro j hj h1
    have := hn j hj
    refine ⟨fun e => this ⟨h1, .inl e⟩, ?_⟩
    cases e : Op.bytesLess x.span.lo.toList more[j].span.hi.toList
    · rfl
    · exact absurd ⟨h1, .inr e⟩ this
  intro j
  induction j with
  | zero =>
    intro hj
    refine hfin 0 hj ?_
    rcases Classical.em (x.span.hi.toList = []) with e | e
    · exact .inl e
    · right
      cases e2 : Op.bytesLess (more[0]).span.lo.toList x.span.hi.toList
      · exact absurd ⟨e, e2⟩ h0
      · rfl
  | succ j ih =>
    intro hj
    refine hfin (j + 1) hj ?_
    obtain ⟨h1, h2⟩ := ih (by omega)
    obtain ⟨_, h3⟩ := hm.link j hj
    rw [← h3]
    rcases right_or hx with e | e
    · exact .inl e
    · right
      exact sLt_le_trans h2 e
theorem Row1.not_a {x : Tab} (hx : pRight x.span = true) (h : dMeets more x = true) : ¬ EndsA more x hm.ne := by
  rintro ⟨h1, h2⟩
  obtain ⟨y, hy, hxy⟩ := List.any_eq_true.1 h
  obtain ⟨j, hj, rfl⟩ := List.getElem_of_mem hy
  rcases ((pMeet_iff hx (hm.right j hj)).1 hxy).1 with e | e
  · exact h1 e
  · have := sLt_le_trans (hm.le j hj) e
    rw [h2] at this; cases this
theorem Row1.not_c {x : Tab} (hx : pRight x.span = true) (h : dMeets more x = true) : ¬ BegC more x := by
  intro hc
  obtain ⟨y, hy, hxy⟩ := List.any_eq_true.1 h
  obtain ⟨j, hj, rfl⟩ := List.getElem_of_mem hy
  obtain ⟨h1, h2⟩ := hc j hj
  rcases ((pMeet_iff hx (hm.right j hj)).1 hxy).2 with e | e
  · exact h1 e
  · rw [h2] at e; cases e
theorem root0 : rootOf more = (more[0]'hm.ne).span.lo := rootOf_get _ hm.ne
/-- x ends where y begins, or ahead of it. -/
def Ahead (x y : Tab) : Prop := x.span.hi.toList ≠ [] ∧ Op.bytesLess y.span.lo.toList x.span.hi.toList = false
theorem Row1.tailOf {x : Tab} (hx : pRight x.span = true) (h : dMeets more x = false) (hc : BegC more x) : isHead more x = false ∧ isTail more x = true := by
  obtain ⟨h1, h2⟩ := hc 0 hm.ne
  have h3 := right_lt (hm.right 0 hm.ne) h1
  have h4 : sLt x.span.lo (rootOf more) = false := by
    rw [root0 hm]
    show Op.bytesLess x.span.lo.toList _ = false
    cases e : Op.bytesLess x.span.lo.toList (more[0]'hm.ne).span.lo.toList
    · rfl
    · have := sLt_trans e h3
      rw [h2] at this; cases this
  simp [isHead, isTail, meets_eq, h, h4]
theorem Row1.done : ∀ (l : List Tab) (z : Tab), (∀ x ∈ l, pRight x.span = true) → pRight z.span = true → dMeets more z = true → (∀ x ∈ l, Ahead z x) → dOut more l true = l.filter (isTail more) ∧ l.filter (isHead more) = []
  | [], _, _, _, _, _ => ⟨rfl, rfl⟩
  | x :: l, z, hr, hz, hmz, ha => by
    obtain ⟨i1, i2⟩ := Row1.done l z (fun y hy => hr y (by simp [hy])) hz hmz (fun y hy => ha y (by simp [hy]))
    have hx := hr x (by simp)
    cases h : dMeets more x
    · rcases hm.either hx h with ⟨h1, h2⟩ | hc
      · exfalso
        obtain ⟨a1, a2⟩ := ha x (by simp)
        refine hm.not_a hz hmz ⟨a1, ?_⟩
        have h3 := right_lt hx h1
        cases e : Op.bytesLess (more[0]'hm.ne).span.lo.toList z.span.hi.toList
        · rfl
        · have h4 := sLt_trans (sLt_trans_le e a2) h3
          rw [h2] at h4; cases h4
      · obtain ⟨h1, h2⟩ := hm.tailOf hx h hc
        simp [dOut, h, h1, h2, i1, i2]
    · have h1 : isHead more x = false ∧ isTail more x = false := by simp [isHead, isTail, meets_eq, h]
      simp [dOut, h, h1.1, h1.2, i1, i2]
theorem Row1.out : ∀ (l : List Tab), (∀ x ∈ l, pRight x.span = true) → l.Pairwise Ahead → (∃ x ∈ l, dMeets more x = true) → dOut more l false = l.filter (isHead more) ++ more ++ l.filter (isTail more)
  | [], _, _, h => by obtain ⟨x, hx, _⟩ := h; cases hx
  | x :: l, hr, hp, hex => by
    have hx := hr x (by simp)
    have hp' := List.pairwise_cons.1 hp
    cases h : dMeets more x
    · obtain ⟨y, hy, hmy⟩ := hex
      have hy' : y ∈ l := by
        rcases List.mem_cons.1 hy with rfl | hy
        · rw [h] at hmy; cases hmy
        · exact hy
      have ih := Row1.out l (fun z hz => hr z (by simp [hz])) hp'.2 ⟨y, hy', hmy⟩
      rcases hm.either hx h with ⟨h1, h2⟩ | hc
      · have h3 := right_lt hx h1
        have h4 : sLt x.span.lo (rootOf more) = true := by
          rw [root0 hm]
          exact sLt_trans_le h3 h2
        have h5 : isHead more x = true ∧ isTail more x = false := by simp [isHead, isTail, meets_eq, h, h4]
        simp [dOut, h, h5.1, h5.2, ih]
      · exfalso
        obtain ⟨a1, a2⟩ := hp'.1 y hy'
        refine hm.not_c (hr y (by simp [hy'])) hmy fun j hj => ?_
        obtain ⟨c1, c2⟩ := hc j hj
        refine ⟨c1, ?_⟩
        have h3 := right_lt hx a1
        cases e : Op.bytesLess y.span.lo.toList more[j].span.hi.toList
        · rfl
        · have h4 := sLt_trans (sLt_trans_le h3 a2) e
          rw [c2] at h4; cases h4
    · obtain ⟨i1, i2⟩ := hm.done l x (fun z hz => hr z (by simp [hz])) hx h (fun y hy => hp'.1 y hy)
      have h1 : isHead more x = false ∧ isTail more x = false := by simp [isHead, isTail, meets_eq, h]
      simp [dOut, h, h1.1, h1.2, i1, i2]
end
theorem Cov.ahead {l : List Tab} (hc : Cov l) : l.Pairwise Ahead := by
  rw [List.pairwise_iff_getElem]
  intro i j hi hj hij
  obtain ⟨h1, h2⟩ := hc.link i (by omega)
  refine ⟨by rw [h1]; exact h2, ?_⟩
  rw [h1]
  rcases Nat.lt_or_ge (i + 1) j with h | h
  · exact sLt_asymm (hc.inc j (i + 1) hj h)
  · obtain rfl : j = i + 1 := by omega
    exact sLt_irrefl _
theorem links_iff : ∀ (more : List Tab), links more = true ↔ ∀ i (h : i + 1 < more.length), more[i + 1].span.lo.toList ≠ [] ∧ more[i].span.hi.toList = more[i + 1].span.lo.toList
  | [] => by simp [links]
  | [_] => by simp [links]
  | a :: b :: r => by
    have ih := links_iff (b :: r)
    simp only [links, Bool.and_eq_true, ih, Bool.not_eq_true', decide_eq_true_eq, sE, List.isEmpty_eq_false_iff]
    constructor
    · rintro ⟨h1, h2⟩ i hi
      cases i with
      | zero => exact h1
      | succ i => exact h2 i (by simpa using hi)
    · intro h
      exact ⟨h 0 (by simp), fun i hi => h (i + 1) (by simpa using hi)⟩
/-- What the document says is what the table does. -/
theorem doc_put {l more : List Tab} (hc : Cov l) (hn : l.all pNum = true) : dCode l more = putCode l more ∧ (dCode l more = 0 → dOut more l false = putList l more) := by
  unfold dCode putCode
  rcases Classical.em (more = []) with rfl | hne
  · have : dLinks ([] : List Tab) = true := by simp [dLinks]
    simp [this]
  have he : more.isEmpty = false := by cases more; exact absurd rfl hne; rfl
  cases hd : dLinks more
  · refine ⟨?_, fun h => by simp at h⟩
    simp only [Bool.not_false, if_true, he, Bool.false_or]
    cases hl : links more
    · rfl
    · simp only [Bool.not_true, Bool.false_eq_true, if_false]
      have hbad : ∃ i, ∃ h : i < more.length, pRight more[i].span = false := by
        refine Classical.byContradiction fun hcon => ?_
        have hall : ∀ i, i < more.length → dOk more i = true := by
          intro i hi
          rw [dOk_iff more i hi]
          refine ⟨?_, fun j hj => ?_⟩
          · cases e : pRight more[i].span
            · exact absurd ⟨i, hi, e⟩ hcon
            · rfl
          · subst hj
            obtain ⟨h1, h2⟩ := (links_iff more).1 hl j hi
            exact ⟨by rw [h2]; exact h1, h2⟩
        rw [(dLinks_iff more).2 hall] at hd
        cases hd
      obtain ⟨i, hi, hbad⟩ := hbad
      have hs : sCover ((putList l more).map (·.span)) = false := by
        cases e : sCover ((putList l more).map (·.span))
        · rfl
        · have := ((sCover_iff _).1 e).right more[i] (by simp [putList])
          rw [hbad] at this; cases this
      simp [mCode, hs]
  · have hrow := row1_of hd hne
    have hl : links more = true := (links_iff more).2 fun i hi => by
      obtain ⟨h1, h2⟩ := hrow.link i hi
      exact ⟨by rw [← h2]; exact h1, h2⟩
    simp only [Bool.not_true, Bool.false_eq_true, if_false, he, Bool.false_or, hl]
    cases hp : more.all pNum
    · refine ⟨?_, fun h => by simp at h⟩
      have : (putList l more).any (fun x => !pNum x) = true := by
        refine Classical.byContradiction fun hcon => ?_
        have hall : more.all pNum = true := List.all_eq_true.2 fun x hx => by
          cases e : pNum x
          · exact absurd (List.any_eq_true.2 ⟨x, by simp [putList, hx], by simp [e]⟩) hcon
          · rfl
        rw [hp] at hall; cases hall
      simp [mCode, this]
    · have hex : ∃ x ∈ l, dMeets more x = true := by
        obtain ⟨k, hat⟩ := hc.at_ (more[0]'hrow.ne).span.lo
        have hk := hat.has k hat.lt
        simp only [decide_true, pHas, Bool.and_eq_true, Bool.not_eq_true', Bool.or_eq_true, sE, List.isEmpty_iff] at hk
        refine ⟨l[k]'hat.lt, List.getElem_mem _, List.any_eq_true.2 ⟨more[0]'hrow.ne, List.getElem_mem _, ?_⟩⟩
        rw [pMeet_iff (hc.right _ (List.getElem_mem _)) (hrow.right 0 hrow.ne)]
        exact ⟨hk.2, (right_or (hrow.right 0 hrow.ne)).imp id fun e => sLt_le_trans hk.1 e⟩
      have hout : dOut more l false = putList l more := hrow.out l hc.right hc.ahead hex
      rw [hout]
      have hany : (putList l more).any (fun x => !pNum x) = false := by
        rw [List.any_eq_false]
        intro x hx
        have : pNum x = true := by
          simp only [putList, List.mem_append, List.mem_filter] at hx
          rcases hx with (⟨h, _⟩ | h) | ⟨h, _⟩
          · exact List.all_eq_true.1 hn x h
          · exact List.all_eq_true.1 hp x h
          · exact List.all_eq_true.1 hn x h
        simp [this]
      refine ⟨?_, fun _ => rfl⟩
      simp only [mCode, hany, Bool.false_or, pCover_eq, Bool.not_true, Bool.false_eq_true, if_false]
end Go.Proofs.Ytebdaoihajjgmaa
