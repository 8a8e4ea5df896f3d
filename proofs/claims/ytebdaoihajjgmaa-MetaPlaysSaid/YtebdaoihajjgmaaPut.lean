/- Put: tablets in the place of those that meet them. -/
import Derived.Test.YtebdaoihajjgmaaMk
set_option linter.unusedVariables false
set_option linter.unusedSimpArgs false
namespace Go.Proofs.Ytebdaoihajjgmaa
open Go.RowKit

def sMeetB (a b : Span) : Bool := pRight a && pRight b && pHas a (sMax a.lo b.lo) && pHas b (sMax a.lo b.lo)
/-- Does each begin where the one ahead ends? -/
def links : List Tab → Bool
  | a :: b :: r => (!sE b.span.lo && decide (a.span.hi.toList = b.span.lo.toList)) && links (b :: r)
  | _ => true
def meets (more : List Tab) (x : Tab) : Bool := more.any fun y => sMeetB x.span y.span
def isHead (more : List Tab) (x : Tab) : Bool := !meets more x && sLt x.span.lo (rootOf more)
def isTail (more : List Tab) (x : Tab) : Bool := !meets more x && !sLt x.span.lo (rootOf more)
def putList (l more : List Tab) : List Tab := l.filter (isHead more) ++ more ++ l.filter (isTail more)
def putCode (l more : List Tab) : Int := if more.isEmpty || !links more then 1 else mCode (putList l more)

theorem Put1_any (x y : Tab) (p : Nat) (w : World) (h0 : w.cell? ⟨p, 0, none⟩ = some (.string x.span.lo)) (h1 : w.cell? ⟨p, 1, none⟩ = some (.string x.span.hi)) :
    Calls Try.prog 32 #[y.v, .pointer (some ⟨p, 0, none⟩)] w fun e w' => e = .returned (.bool (sMeetB x.span y.span)) ∧ Chg Non w w' := by
  have hc := fun W => SMeet_any x.span y.span W
  have HC := Lib.hid (And.intro hc True.intro)
  clear hc
  obtain ⟨⟨lo, hi⟩, gr, gn⟩ := x
  obtain ⟨⟨lo', hi'⟩, gr', gn'⟩ := y
  dsimp only at h0 h1
  have k0 := fun o => ((Chg.refl Non w).alloc o).cellv h0 id
  have k1 := fun o => ((Chg.refl Non w).alloc o).cellv h1 id
  have hc' := fun o => (Chg.refl Non w).alloc o
  have HC' := Lib.hid hc'
  clear hc'
  go_enter Try.func32, Try.ntmps32
  go_wp2_with fail
  refine (HC.out.1 _).mono ?_
  rintro e w1 ⟨rfl, hc⟩
  go_wp2_with fail
  go_ret
  exact ⟨ret_bool rfl, (HC'.out _).trans hc⟩

/-- What Put leaves. -/
def PutPost (w : World) (g : Nat) (ms : List (List Tab)) (more : List Tab) (e : Ending) (w' : World) : Prop :=
  e = .returned (.int .i64 (putCode ms.flatten more)) ∧ Chg (Is g) w w' ∧ ∃ K', Tbl w' K' g (if putCode ms.flatten more = 0 then chunk (putList ms.flatten more) else ms)

/-- The parts of the loop that takes those that do not meet. -/
def PutI (w1 : World) (more l : List Tab) (hv tv : Value) (wr : World) : Prop :=
  Chg Non w1 wr ∧ Own wr w1.heap.size 28 tTab Non hv (l.filter (isHead more)) ∧ Own wr w1.heap.size 28 tTab Non tv (l.filter (isTail more)) ∧ ∀ b, hv.ownBlock = some b → tv.ownBlock ≠ some b

/-- Three slices in a block. -/
theorem SlT.three {w : World} {K : Nat → Prop} {g : Nat} {t : TypeId} {v1 v2 v3 : Value} {l1 l2 l3 : List Tab} (hb : Blk w g t #[v1, v2, v3]) (hg : K g) (h1 : SlT tTab w K v1 l1) (h2 : SlT tTab w K v2 l2) (h3 : SlT tTab w K v3 l3) :
    SlT (tSl tTab) w K (.slice (some ⟨g, 0, none⟩) 3 3) [l1, l2, l3] :=
  ⟨[v1, v2, v3], ⟨rfl, _, 3, rfl, Nat.le_refl _, by unfold maxLen; omega, fun h => (nomatch h), fun _ => ⟨g, 0, rfl, hg, fun j u hu => by
    rw [Nat.zero_add, hb.cell]; simpa using hu⟩⟩, [v1], [v2, v3], rfl, ⟨v1, rfl, h1⟩, [v2], [v3], rfl, ⟨v2, rfl, h2⟩, [v3], [], rfl, ⟨v3, rfl, h3⟩, rfl⟩
theorem filter_take {α : Type} (q : α → Bool) (l : List α) (k : Nat) (hk : k < l.length) : (l.take (k + 1)).filter q = (l.take k).filter q ++ if q l[k] then [l[k]] else [] := by
  rw [List.take_succ_eq_append_getElem hk, List.filter_append]
  congr 1
  cases h : q l[k] <;> simp [h]
theorem PutI.chg {w1 wr W : World} {more l : List Tab} {hv tv : Value} (h : PutI w1 more l hv tv wr) (hc : Chg Non wr W) : PutI w1 more l hv tv W :=
  ⟨h.1.trans hc, h.2.1.chg hc (fun _ _ h => h) (fun _ h => h.elim), h.2.2.1.chg hc (fun _ _ h => h) (fun _ h => h.elim), h.2.2.2⟩
theorem PutI.skip {w1 wr : World} {more l : List Tab} {hv tv : Value} {k : Nat} (hk : k < l.length) (h : PutI w1 more (l.take k) hv tv wr) (hm : meets more l[k] = true) : PutI w1 more (l.take (k + 1)) hv tv wr := by
  obtain ⟨h1, h2, h3, h4⟩ := h
  refine ⟨h1, ?_, ?_, h4⟩
  · rw [filter_take _ _ _ hk, isHead, hm]; simpa using h2
  · rw [filter_take _ _ _ hk, isTail, hm]; simpa using h3
theorem PutI.head {w1 wr W : World} {more l : List Tab} {hv hv' tv : Value} {k : Nat} (hk : k < l.length) (h : PutI w1 more (l.take k) hv tv wr) (hm : meets more l[k] = false) (hlt : sLt l[k].span.lo (rootOf more) = true)
    (ho : Own W w1.heap.size 28 tTab Non hv' ((l.take k).filter (isHead more) ++ [l[k]])) (hc : Chg (Row hv) wr W) (hat : hv'.ownBlock = hv.ownBlock ∨ hv'.ownBlock = some wr.heap.size) : PutI w1 more (l.take (k + 1)) hv' tv W := by
  obtain ⟨h1, h2, h3, h4⟩ := h
  refine ⟨h1.then_ hc (fun b hb hr => by have := (h2.lt hr).1; omega), ?_, ?_, fun b hb ht => ?_⟩
  · rw [filter_take _ _ _ hk, isHead, hm, hlt]; simpa using ho
  · have h3' := h3.chg hc (fun b hb hr => h4 b hr hb) (fun _ h => h.elim)
    rw [filter_take _ _ _ hk, isTail, hm, hlt]; simpa using h3'
  · rcases hat with e | e
    · exact h4 b (e.symm.trans hb) ht
    · have := (h3.lt ht).2
      rw [e] at hb
      injection hb with hb
      omega
theorem PutI.tail {w1 wr W : World} {more l : List Tab} {hv tv tv' : Value} {k : Nat} (hk : k < l.length) (h : PutI w1 more (l.take k) hv tv wr) (hm : meets more l[k] = false) (hlt : sLt l[k].span.lo (rootOf more) = false)
    (ho : Own W w1.heap.size 28 tTab Non tv' ((l.take k).filter (isTail more) ++ [l[k]])) (hc : Chg (Row tv) wr W) (hat : tv'.ownBlock = tv.ownBlock ∨ tv'.ownBlock = some wr.heap.size) : PutI w1 more (l.take (k + 1)) hv tv' W := by
  obtain ⟨h1, h2, h3, h4⟩ := h
  refine ⟨h1.then_ hc (fun b hb hr => by have := (h3.lt hr).1; omega), ?_, ?_, fun b hb ht => ?_⟩
  · have h2' := h2.chg hc (fun b hb hr => h4 b hb hr) (fun _ h => h.elim)
    rw [filter_take _ _ _ hk, isHead, hm, hlt]; simpa using h2'
  · rw [filter_take _ _ _ hk, isTail, hm, hlt]; simpa using ho
  · rcases hat with e | e
    · exact h4 b hb (e.symm.trans ht)
    · have := (h2.lt hb).2
      rw [e] at ht
      injection ht with ht
      omega

set_option maxRecDepth 100000 in
set_option maxHeartbeats 6400000 in
theorem Put_any (K K2 : Nat → Prop) (g : Nat) (ms : List (List Tab)) (mv : Value) (more : List Tab) (w : World) (h : Tbl w K g ms) (hm : TabsAt w K2 mv more) (hK2 : ∀ b, K2 b → b < w.heap.size) (hf : ms.flatten.length ≤ 65536) (hmn : more.length ≤ 65536) :
    Calls Try.prog 15 #[.pointer (some ⟨g, 0, none⟩), mv] w (PutPost w g ms more) := by
  obtain ⟨A, cap, rfl, h1, h2⟩ := hm.shape
  have hkeep : ∀ (c : Int) (W : World), c ≠ 0 → Chg Non w W → putCode ms.flatten more = c → PutPost w g ms more (.returned (.int .i64 c)) W := fun c W hc hW he => ⟨by rw [he], hW.any, K, by rw [he, if_neg hc]; exact h.grow hW⟩
  by_cases hn0 : more = []
  · subst hn0
    have hp := hkeep 1 w (by decide) (Chg.refl _ _) rfl
    have HP := Lib.hid hp
    clear hp hkeep
    go_enter Try.func15, Try.ntmps15
    go_wp2_with fail
    go_ret
    exact HP.out
  · have hl0 : 0 < more.length := List.length_pos_iff.2 hn0
    have hcode : putCode ms.flatten more = if !links more then 1 else mCode (putList ms.flatten more) := by
      unfold putCode
      rw [List.isEmpty_eq_false_iff.2 hn0]; rfl
    have hnz : ((more.length : Int) == 0) = false := by rw [beq_eq_false_iff_ne]; omega
    have HD := Lib.hid (And.intro hcode hkeep)
    clear hcode hkeep hn0
    go_enter Try.func15, Try.ntmps15
    go_wp2_with fail
    go_loopw [5] (fun i wr => ∃ k : Nat, k < more.length ∧ i = .int .i64 (k + 1 : Nat) ∧ Chg Non w wr ∧ Hid (links more = links (more.drop k))) (fun i _ => more.length - (intOf i).toNat)
    case atStart => exact ⟨0, hl0, rfl, Chg.refl _ _, Lib.hid rfl⟩
    case round =>
      obtain ⟨k, hk, rfl, hc, hlk⟩ := hrel
      have hmr := hm.chg hc fun b hb => ⟨hK2 b hb, id⟩
      by_cases hlt : k + 1 < more.length
      · obtain ⟨bb, off, rfl, _, _, c0, c1, _, _⟩ := tab_cells hmr hk
        obtain ⟨bb', off', e, _, _, d0, d1, _, _⟩ := tab_cells hmr hlt
        injection e with e
        injection e with e e'
        subst e e'
        have hd : links (more.drop k) = ((!sE more[k+1].span.lo && decide (more[k].span.hi.toList = more[k+1].span.lo.toList)) && links (more.drop (k + 1))) := by
          rw [List.drop_eq_getElem_cons hk, List.drop_eq_getElem_cons hlt, links]
        obtain ⟨a, ha⟩ : ∃ a, a = more[k].span.hi := ⟨_, rfl⟩
        obtain ⟨b, hb⟩ : ∃ b, b = more[k+1].span.lo := ⟨_, rfl⟩
        rw [← ha, ← hb] at hd
        rw [← ha] at c1
        rw [← hb] at d0
        have HE := Lib.hid (And.intro hd (And.intro hc hmr))
        have t1 : ((k + 1 : Nat) : Int) - 1 = (k : Int) := by omega
        have t2 : (k : Int) < (more.length : Int) := by omega
        have t3 : ((k + 1 : Nat) : Int) < (more.length : Int) := by omega
        have t4 : (0 : Int) ≤ ((k + 1 : Nat) : Int) := by omega
        clear hd hc ha hb hmr c0 d1
        by_cases q0 : b.toList = []
        · have q0' : b.toList.isEmpty = true := by simp [q0]
          go_upto_region 6 with fail
          go_quiet (fail)
          go_wp2_with fail
          go_ret
          exact HD.out.2 1 _ (by decide) (HE.out.2.1.drewN _) (by rw [HD.out.1, hlk.out, HE.out.1]; simp [q0])
        · have q0' : b.toList.isEmpty = false := by simpa using q0
          by_cases q1 : a.toList = b.toList
          · have q1' : (a.toList == b.toList) = true := by simp [q1]
            go_upto_region 6 with fail
            go_quiet (fail)
            go_wp2_with fail
            go_roundw
            case rel => exact ⟨k + 1, by omega, by go_num, HE.out.2.1.drewN _, Lib.hid (by rw [hlk.out, HE.out.1]; simp [q0, q1])⟩
            case measure => simp [intOf]; omega
          · have q1' : (a.toList == b.toList) = false := by simp [q1]
            go_upto_region 6 with fail
            go_quiet (fail)
            go_wp2_with fail
            go_ret
            exact HD.out.2 1 _ (by decide) (HE.out.2.1.drewN _) (by rw [HD.out.1, hlk.out, HE.out.1]; simp [q1])
      · have hk' : more.drop k = [more[k]] := by rw [List.drop_eq_getElem_cons hk, List.drop_of_length_le (by omega)]
        have hcode : putCode ms.flatten more = mCode (putList ms.flatten more) := by rw [HD.out.1, hlk.out, hk']; rfl
        have hall := All_any K g ms wr (h.grow hc) (by omega)
        obtain ⟨l, hl'⟩ : ∃ l, l = ms.flatten := ⟨_, rfl⟩
        rw [← hl'] at hall hcode hf
        have HA := Lib.hid (And.intro hall (And.intro hcode (And.intro hl' (And.intro hc hmr))))
        have hkk : ((k + 1 : Nat) : Int) = (more.length : Int) := by omega
        clear hall hcode hl' hc hmr hlk hk'
        go_wp2_with fail
        refine HA.out.1.mono ?_
        rintro e w1 ⟨lv, rfl, hl1, hc1⟩
        obtain ⟨Al, cl, rfl, _, _⟩ := hl1.shape
        have hcw1 := HA.out.2.2.2.1.trans hc1
        have H1 := Lib.hid (And.intro hl1 (And.intro hcw1 (HA.out.2.2.2.2.chg hc1 fun b hb => ⟨Nat.lt_of_lt_of_le (hK2 b hb) HA.out.2.2.2.1.size, id⟩)))
        clear hl1 hcw1 hc1
        go_wp2_with fail
        go_loopw [6, 7, 48] (fun hv tv i wr2 => ∃ k2 : Nat, k2 ≤ l.length ∧ i = .int .i64 k2 ∧ PutI w1 more (l.take k2) hv tv wr2) (fun _ _ i _ => l.length - (intOf i).toNat)
        case atStart => exact ⟨0, Nat.zero_le _, rfl, Chg.refl _ _, Own.nil_, Own.nil_, by simp [Value.ownBlock]⟩
        case round =>
          obtain ⟨k2, hk2, rfl, hI⟩ := hrel
          have HI := Lib.hid hI
          obtain ⟨hci, oh, ot, hne⟩ := hI
          by_cases hlt2 : k2 < l.length
          · have hcw := H1.out.2.1.trans hci
            have hmr := H1.out.2.2.chg hci fun b hb => ⟨by have := hK2 b hb; have := H1.out.2.1.size; omega, id⟩
            obtain ⟨ba, oa, rfl, _, ⟨fx1, fx2, fx3, fx4⟩, a0, a1, a2, a3⟩ := tab_cells (H1.out.1.chg hci fun b hb => ⟨hb.2, id⟩) hlt2
            have hl65 : k2 ≤ 65536 := by omega
            obtain ⟨hh, hhe⟩ : ∃ hh, hh = (l.take k2).filter (isHead more) := ⟨_, rfl⟩
            obtain ⟨tt, tte⟩ : ∃ tt, tt = (l.take k2).filter (isTail more) := ⟨_, rfl⟩
            have hhl : hh.length ≤ 65536 := by rw [hhe]; exact Nat.le_trans (List.length_filter_le _ _) (by rw [List.length_take]; omega)
            have ttl : tt.length ≤ 65536 := by rw [tte]; exact Nat.le_trans (List.length_filter_le _ _) (by rw [List.length_take]; omega)
            rw [← hhe] at oh
            rw [← tte] at ot
            obtain ⟨Ah, ch, rfl, _, _⟩ := oh.shape
            obtain ⟨At, ct, rfl, _, _⟩ := ot.shape
            obtain ⟨x, hx⟩ : ∃ x, x = l[k2] := ⟨_, rfl⟩
            rw [← hx] at a0 a1 a2 a3 fx1 fx2 fx3 fx4
            obtain ⟨wr3, hw3⟩ : ∃ wr3, wr3 = wr.alloc (.cells #[.string x.span.lo, .string x.span.hi, .int .i64 x.group, .int .i64 x.gen] 28) := ⟨_, rfl⟩
            have hc3 : Chg Non wr wr3 := by rw [hw3]; exact (Chg.refl Non wr).alloc _
            have hb3 : Blk wr3 wr.heap.size 28 #[.string x.span.lo, .string x.span.hi, .int .i64 x.group, .int .i64 x.gen] := by rw [hw3]; exact Blk.new _ _ _
            have hm3 := hmr.chg hc3 fun b hb => ⟨by have := hK2 b hb; have := hcw.size; omega, id⟩
            have hK3 : ∀ b, K2 b → b < wr3.heap.size := fun b hb => by have := hK2 b hb; have := hcw.size; have := hc3.size; omega
            have hcon := ConF_Put1 (fun y => sMeetB x.span y.span) K2 _ more ⟨wr.heap.size, 0, none⟩ wr3 hm3 hK3 (fun W y _ _ _ hW => Put1_any x y wr.heap.size W (by rw [(hb3.chg hW id).cell]; rfl) (by rw [(hb3.chg hW id).cell]; rfl))
            have hcon' : Calls Try.prog 31 #[.slice A more.length cap, .func (.func 32) #[] #[.pointer (some ⟨wr.heap.size, 0, none⟩)]] wr3 fun e w' => e = .returned (.bool (meets more x)) ∧ Chg Non wr3 w' := hcon
            obtain ⟨q, hq⟩ : ∃ q, q = meets more x := ⟨_, rfl⟩
            rw [← hq] at hcon'
            have FX := Lib.hid (show tTab.rep wr Non [.string x.span.lo, .string x.span.hi, .int .i64 x.group, .int .i64 x.gen] x from ⟨rfl, ⟨fx3, fx4⟩, fx1, fx2⟩)
            have HC := Lib.hid (And.intro hcon' (And.intro hw3 (And.intro hc3 (And.intro hb3 (And.intro hm3 (And.intro hK3 (And.intro hx (And.intro hhe (And.intro tte hq)))))))))
            clear hcon hcon' hw3 hc3 hb3 hm3 hK3 hx hhe tte hq hcw hmr hci oh ot hne fx1 fx2 fx3 fx4
            go_wp2_with fail
            rw [← HC.out.2.1]
            refine HC.out.1.mono ?_
            rintro e w4 ⟨rfl, hc4⟩
            have hb4 := HC.out.2.2.2.1.chg hc4 id
            have HI4 := Lib.hid ((HI.out.chg HC.out.2.2.1).chg hc4)
            have hm4 := HC.out.2.2.2.2.1.chg hc4 fun b hb => ⟨HC.out.2.2.2.2.2.1 b hb, id⟩
            have x0 := hb4.cell 0
            have x1 := hb4.cell 1
            have x2 := hb4.cell 2
            have x3 := hb4.cell 3
            simp only [List.getElem?_toArray, List.getElem?_cons_zero, List.getElem?_cons_succ] at x0 x1 x2 x3
            obtain ⟨bm, om, rfl, _, _, m0, _, _, _⟩ := tab_cells hm4 hl0
            have HM := Lib.hid (show rootOf more = more[0].span.lo from rootOf_get more hl0)
            obtain ⟨mlo, hmlo⟩ : ∃ mlo, mlo = more[0].span.lo := ⟨_, rfl⟩
            rw [← hmlo] at m0 HM
            simp only [Nat.zero_mul, Nat.add_zero] at m0
            have tm : (0 : Int) < (more.length : Int) := by omega
            clear hmlo hb4 hm4 hc4 a0 a1 a2 a3
            cases q
            · cases q5 : Op.bytesLess x.span.lo.toList mlo.toList
              · go_upto_region 15 with fail
                go_quiet (fail)
                obtain ⟨w5, hw5⟩ : ∃ w5, w5 = (w4.drewN nq).alloc (.cells #[.string x.span.lo, .string x.span.hi, .int .i64 x.group, .int .i64 x.gen] 28) := ⟨_, rfl⟩
                have hc5 : Chg Non w4 w5 := by rw [hw5]; exact ((Chg.refl Non w4).drewN nq).alloc _
                have hb5 : Blk w5 w4.heap.size 28 #[.string x.span.lo, .string x.span.hi, .int .i64 x.group, .int .i64 x.gen] := by rw [hw5]; exact Blk.newAt rfl _ _
                have hI5 := HI4.out.chg hc5
                have hz5 : w1.heap.size ≤ w5.heap.size := hI5.1.size
                have ho5 := hI5.2.2.1
                rw [← HC.out.2.2.2.2.2.2.2.2.1] at ho5
                have H5 := Lib.hid (And.intro hw5 (And.intro hI5 (And.intro hb5 (And.intro hz5 ho5))))
                clear ho5
                clear hw5 hI5 hb5 hz5 hc5
                go_wp2_with (at_builtin; rw [← H5.out.1]; refine wpList_push tTab Non rfl (.tmp 55) (.tmp 57) 22 rfl w1.heap.size 28 _ 48 Try.underlying22 info_tab rfl (by decide) (by decide) _ tt x [_, _, _, _] w4.heap.size (0, 0) rfl rfl H5.out.2.2.2.2 H5.out.2.2.1 (tTab_flat FX.out) (fun _ h => h.elim) (by omega) H5.out.2.2.2.1 ?_)
                intro A6 c6 w6 own6 hc6 hat
                have H6 := Lib.hid (And.intro own6 (And.intro hc6 hat))
                clear own6 hc6 hat
                go_wp2_with fail
                go_roundw
                case rel =>
                  refine ⟨k2 + 1, by omega, by go_num, PutI.tail hlt2 H5.out.2.1 ?_ ?_ ?_ H6.out.2.1 H6.out.2.2⟩
                  · rw [← HC.out.2.2.2.2.2.2.1, ← HC.out.2.2.2.2.2.2.2.2.2]
                  · rw [← HC.out.2.2.2.2.2.2.1, HM.out]; exact q5
                  · rw [← HC.out.2.2.2.2.2.2.1, ← HC.out.2.2.2.2.2.2.2.2.1]; exact H6.out.1
                case measure => simp [intOf]; omega
              · go_upto_region 15 with fail
                go_quiet (fail)
                obtain ⟨w5, hw5⟩ : ∃ w5, w5 = (w4.drewN nq).alloc (.cells #[.string x.span.lo, .string x.span.hi, .int .i64 x.group, .int .i64 x.gen] 28) := ⟨_, rfl⟩
                have hc5 : Chg Non w4 w5 := by rw [hw5]; exact ((Chg.refl Non w4).drewN nq).alloc _
                have hb5 : Blk w5 w4.heap.size 28 #[.string x.span.lo, .string x.span.hi, .int .i64 x.group, .int .i64 x.gen] := by rw [hw5]; exact Blk.newAt rfl _ _
                have hI5 := HI4.out.chg hc5
                have hz5 : w1.heap.size ≤ w5.heap.size := hI5.1.size
                have ho5 := hI5.2.1
                rw [← HC.out.2.2.2.2.2.2.2.1] at ho5
                have H5 := Lib.hid (And.intro hw5 (And.intro hI5 (And.intro hb5 (And.intro hz5 ho5))))
                clear ho5
                clear hw5 hI5 hb5 hz5 hc5
                go_wp2_with (at_builtin; rw [← H5.out.1]; refine wpList_push tTab Non rfl (.tmp 71) (.tmp 73) 22 rfl w1.heap.size 28 _ 48 Try.underlying22 info_tab rfl (by decide) (by decide) _ hh x [_, _, _, _] w4.heap.size (0, 0) rfl rfl H5.out.2.2.2.2 H5.out.2.2.1 (tTab_flat FX.out) (fun _ h => h.elim) (by omega) H5.out.2.2.2.1 ?_)
                intro A6 c6 w6 own6 hc6 hat
                have H6 := Lib.hid (And.intro own6 (And.intro hc6 hat))
                clear own6 hc6 hat
                go_wp2_with fail
                go_roundw
                case rel =>
                  refine ⟨k2 + 1, by omega, by go_num, PutI.head hlt2 H5.out.2.1 ?_ ?_ ?_ H6.out.2.1 H6.out.2.2⟩
                  · rw [← HC.out.2.2.2.2.2.2.1, ← HC.out.2.2.2.2.2.2.2.2.2]
                  · rw [← HC.out.2.2.2.2.2.2.1, HM.out]; exact q5
                  · rw [← HC.out.2.2.2.2.2.2.1, ← HC.out.2.2.2.2.2.2.2.1]; exact H6.out.1
                case measure => simp [intOf]; omega
            · go_wp2_with fail
              go_roundw
              case rel => exact ⟨k2 + 1, by omega, by go_num, HI4.out.skip hlt2 (by rw [← HC.out.2.2.2.2.2.2.1, ← HC.out.2.2.2.2.2.2.2.2.2])⟩
              case measure => simp [intOf]; omega
          · have hk2' : k2 = l.length := by omega
            subst hk2'
            rw [List.take_length] at oh ot
            obtain ⟨hh, hhe⟩ : ∃ hh, hh = l.filter (isHead more) := ⟨_, rfl⟩
            obtain ⟨tt, tte⟩ : ∃ tt, tt = l.filter (isTail more) := ⟨_, rfl⟩
            have hhl : hh.length ≤ 65536 := by rw [hhe]; exact Nat.le_trans (List.length_filter_le _ _) (by omega)
            have ttl : tt.length ≤ 65536 := by rw [tte]; exact Nat.le_trans (List.length_filter_le _ _) (by omega)
            rw [← hhe] at oh
            rw [← tte] at ot
            obtain ⟨Ah, ch, rfl, _, _⟩ := oh.shape
            obtain ⟨At, ct, rfl, _, _⟩ := ot.shape
            have hcw := H1.out.2.1.trans hci
            have hmr := H1.out.2.2.chg hci fun b hb => ⟨by have := hK2 b hb; have := H1.out.2.1.size; omega, id⟩
            obtain ⟨wr3, hw3⟩ : ∃ wr3, wr3 = wr.alloc (.cells #[.slice Ah hh.length ch, .slice A more.length cap, .slice At tt.length ct] 22) := ⟨_, rfl⟩
            have hc3 : Chg Non wr wr3 := by rw [hw3]; exact (Chg.refl Non wr).alloc _
            have hb3 : Blk wr3 wr.heap.size 22 #[.slice Ah hh.length ch, .slice A more.length cap, .slice At tt.length ct] := by rw [hw3]; exact Blk.new _ _ _
            have hsl : SlT (tSl tTab) wr3 (fun b => b < wr3.heap.size) (.slice (some ⟨wr.heap.size, 0, none⟩) 3 3) [hh, more, tt] := by
              refine SlT.three hb3 hb3.lt ?_ ?_ ?_
              · exact ((oh.toSl (K' := fun b => b < wr.heap.size) (fun _ h => h.elim) (fun b hb => (oh.lt hb).2)).chg hc3 (fun b hb => ⟨hb, id⟩)).mono (fun b hb => Nat.lt_of_lt_of_le hb hc3.size)
              · exact (hmr.chg hc3 (fun b hb => ⟨by have := hK2 b hb; have := hcw.size; omega, id⟩)).mono (fun b hb => by have := hK2 b hb; have := hcw.size; have := hc3.size; omega)
              · exact ((ot.toSl (K' := fun b => b < wr.heap.size) (fun _ h => h.elim) (fun b hb => (ot.lt hb).2)).chg hc3 (fun b hb => ⟨hb, id⟩)).mono (fun b hb => Nat.lt_of_lt_of_le hb hc3.size)
            obtain ⟨pl, hpl⟩ : ∃ pl, pl = putList l more := ⟨_, rfl⟩
            have hfl : [hh, more, tt].flatten = pl := by rw [hpl, hhe, tte]; simp [putList]
            have hpn : pl.length ≤ 1048576 := by rw [← hfl]; simp; omega
            have hcat := Concat_any _ _ _ wr3 hsl (fun b hb => hb) (by rw [hfl]; exact hpn)
            rw [hfl] at hcat
            have HC := Lib.hid (And.intro hcat (And.intro hw3 (And.intro (hcw.trans hc3) (And.intro hpl (show putCode ms.flatten more = mCode pl by rw [← HA.out.2.2.1, HA.out.2.1, hpl])))))
            clear hcat hw3 hc3 hb3 hsl hfl hpl hhe tte hci oh ot hne hcw hmr
            go_wp2_with fail
            rw [← HC.out.2.1]
            refine HC.out.1.mono ?_
            rintro e w5 ⟨pv, rfl, hp5, hc5⟩
            obtain ⟨Ap, cp, rfl, _, _⟩ := hp5.shape
            have hmd := made_any _ _ pl w5 hp5 (fun b hb => hb.2) hpn
            have H5 := Lib.hid (And.intro hmd (HC.out.2.2.1.trans hc5))
            clear hmd hc5 hp5
            go_wp2_with fail
            refine H5.out.1.mono ?_
            rintro e w6 ⟨hc6, ⟨hm6, rfl⟩ | ⟨hm6, g6, hg6, rfl, ht6⟩⟩
            · have hcw6 := H5.out.2.trans hc6
              have hne6 : ((mCode pl) != 0) = true := by rw [bne_iff_ne]; exact hm6
              have H6 := Lib.hid (And.intro hm6 hcw6)
              clear hm6 hcw6 hc6
              go_wp2_with fail
              go_ret
              exact HD.out.2 (mCode pl) _ H6.out.1 H6.out.2 HC.out.2.2.2.2
            · have hcw6 := H5.out.2.trans hc6
              have hz6 := hcw6.size
              have hz5 := H5.out.2.size
              obtain ⟨v6, hb6, hs6, hg6', hK6⟩ := ht6
              obtain ⟨v, hb, hs, hg, hK⟩ := id h
              have hbg := hb.chg hcw6 id
              have n0 : w6.cell? ⟨g6, 0, none⟩ = some v6 := by rw [hb6.cell]; rfl
              have n1 : w6.cell? ⟨g, 0, none⟩ = some v := by rw [hbg.cell]; rfl
              have n2 := hbg.frozen 0
              obtain ⟨A6, c6, rfl, _, _⟩ := hs6.shape
              have hlt := hb.lt
              have H6 := Lib.hid (And.intro hm6 (And.intro hcw6 (And.intro hs6 (And.intro hbg (And.intro hg6 (And.intro hK6 hz5))))))
              clear hm6 hcw6 hc6 hb6 hs6 hg6' hb hs hg hK hbg hz6 hg6 hz5 hK6
              go_wp2_with fail
              go_ret
              obtain ⟨hm6, hcw6, hs6, hbg, hg6, hK6, hz5⟩ := H6.out
              have hset := Chg.at_ w6 g 0 (.slice A6 (chunk pl).length c6)
              have hcode : putCode ms.flatten more = 0 := by rw [HC.out.2.2.2.2]; exact hm6
              have hlist : putList ms.flatten more = pl := by rw [HC.out.2.2.2.1, HA.out.2.2.1]
              refine ⟨by rw [hcode]; rfl, hcw6.any.trans hset, In (g6 + 1) w6.heap.size, ?_⟩
              rw [hcode, if_pos rfl, hlist]
              refine ⟨_, by simpa using hbg.set_ 0 (.slice A6 (chunk pl).length c6), hs6.chg hset (fun b hb => ⟨hb.2, fun e => by have : b = g := e; have := hb.1; omega⟩), fun hb => by have := hb.1; omega, fun b hb => Nat.lt_of_lt_of_le hb.2 hset.size⟩
end Go.Proofs.Ytebdaoihajjgmaa
