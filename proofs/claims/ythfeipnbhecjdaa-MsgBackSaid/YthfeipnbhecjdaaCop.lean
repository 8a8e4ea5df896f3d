/- The contracts of msg.Copy and of the document's Same, at a message and itself. -/
import Derived.Test.YthfeipnbhecjdaaDec
import Derived.Deep.QuietTactic
set_option linter.unusedVariables false
set_option linter.unusedSimpArgs false
namespace Go.Proofs.Ythfeipnbhecjdaa
open Go.RowKit

/-- A vote whose bytes lie in a row of their own. -/
def tVoteO : Ty Vote where
  size := 3
  rep w K cs x := ∃ bv lo, cs = [.int .i64 x.slot, .int .i64 x.ballot, bv] ∧ Fits .i64 x.slot ∧ Fits .i64 x.ballot ∧ Own w lo 5 tB Non bv x.v ∧ ∀ b, bv.ownBlock = some b → K b
  len := by rintro w K cs x ⟨bv, lo, rfl, _⟩; rfl
  one := by
    rintro w K cs x ⟨bv, lo, rfl, _, _, h, _⟩ u hu
    obtain ⟨A, cap, rfl, _⟩ := h.shape
    simp at hu
    rcases hu with rfl | rfl | rfl <;> rfl
  keep := by
    rintro w w' K K' cs x ⟨bv, lo, rfl, h1, h2, h, hr⟩ hk
    refine ⟨bv, lo, rfl, h1, h2, ?_, fun b hb => (hk b (hr b hb)).1⟩
    obtain ⟨xs, a, b, c⟩ := h
    refine ⟨xs, ⟨a.1, ?_⟩, Reps.flat tInt_flat b, c⟩
    rcases a.2 with hn | ⟨g, cap, cur, rfl, hb', hgg, rest⟩
    · exact .inl hn
    · exact .inr ⟨g, cap, cur, rfl, hb', (hk g (hr g rfl)).2.trans hgg, rest⟩
theorem tVoteO.plain {w : World} {K : Nat → Prop} {cs : List Value} {x : Vote} (h : tVoteO.rep w K cs x) : tVote.rep w K cs x := by
  obtain ⟨bv, lo, e, h1, h2, h3, h4⟩ := h
  exact ⟨bv, e, h1, h2, h3.toSl (fun _ h => h.elim) h4⟩
theorem Reps.to {α : Type} {T T' : Ty α} (hp : ∀ {w : World} {K : Nat → Prop} {cs : List Value} {x : α}, T.rep w K cs x → T'.rep w K cs x) {w : World} {K : Nat → Prop} : ∀ {l : List α} {xs : List Value}, Reps T w K xs l → Reps T' w K xs l
  | [], _, h => h
  | _ :: _, _, ⟨c, r, e, h1, h2⟩ => ⟨c, r, e, hp h1, Reps.to hp h2⟩
/-- A message all of whose lists are rows of its own. -/
def MsgOwn (w : World) (lo : Nat) (cs : List Value) (m : Msg) : Prop :=
  ∃ bv lv KL, cs = [.int .i64 m.kind, .int .i64 m.group, .int .i64 m.frm, .int .i64 m.dst, .int .i64 m.ballot, .int .i64 m.slot, .int .i64 m.client, .int .i64 m.seq, bv, lv] ∧
    Own w lo 5 tB Non bv m.b ∧ Own w lo 36 tVoteO KL lv m.l ∧ ∀ b, KL b → lo ≤ b ∧ b < w.heap.size
theorem MsgOwn.at_ {w : World} {lo : Nat} {cs : List Value} {m : Msg} (h : MsgOwn w lo cs m) : MsgAt w (In lo w.heap.size) cs m := by
  obtain ⟨bv, lv, KL, e, h1, h2, h3⟩ := h
  have h4 := h2.toSl (K' := In lo w.heap.size) (fun b hb => h3 b hb) (fun b hb => h2.lt hb)
  obtain ⟨xs, a, b⟩ := h4
  exact ⟨bv, lv, e, h1.toSl (fun _ h => h.elim) (fun b hb => h1.lt hb), xs, a, Reps.to tVoteO.plain b⟩

set_option maxRecDepth 100000 in
set_option maxHeartbeats 3200000 in
theorem MCopy_any (K : Nat → Prop) (cs : List Value) (m : Msg) (w : World) (h : MsgAt w K cs m) (hK : ∀ b, K b → b < w.heap.size) (hm : MsgOk m) :
    Calls Try.prog 7 #[.agg cs.toArray] w fun e w' => ∃ cs', e = .returned (.agg cs'.toArray) ∧ MsgOwn w' w.heap.size cs' m ∧ Chg Non w w' := by
  have hone := h.one
  obtain ⟨bv, lv, rfl, hb, hl⟩ := h
  obtain ⟨A, cap, rfl, hb1, hb2⟩ := hb.shape
  obtain ⟨A', cap', rfl, hl1, hl2⟩ := hl.shape
  have a9 := hm.b
  have a10 := hm.l
  have HV := Lib.hid hm.votes
  clear hm
  have hc0 : ∀ o1 o2, Chg Non w ((w.alloc o1).alloc o2) := fun o1 o2 => ((Chg.refl Non w).alloc o1).alloc o2
  have hb0 := fun o1 o2 => hb.chg (hc0 o1 o2) (fun b hb => ⟨hK b hb, id⟩)
  have g0 : ∀ cs o2, Blk ((w.alloc (.cells cs 26)).alloc o2) w.heap.size 26 cs := fun cs o2 => (Blk.new w _ cs).alloc o2
  have g1 : ∀ o1 cs, Blk ((w.alloc o1).alloc (.cells cs 26)) (w.heap.size + 1) 26 cs := fun o1 cs => Blk.newAt (by simp) _ cs
  have H := Lib.hid (And.intro hc0 (And.intro hb0 (And.intro g0 g1)))
  clear hc0 hb0 g0 g1
  go_enter Try.func7, Try.ntmps7
  go_wp2_with fail
  refine (CloneB_own K _ m.b _ (H.out.2.1 _ _) (fun b hb => by have := hK b hb; simp; omega) (by omega)).mono ?_
  rintro e w1 ⟨bv1, rfl, hb1', hc1⟩
  obtain ⟨Ab, cb, rfl, _, _⟩ := hb1'.shape
  have b0 := (H.out.2.2.1 _ _).chg hc1 id
  have b1 := (H.out.2.2.2 _ _).chg hc1 id
  have hcw := (H.out.1 _ _).trans hc1
  have x1 := b0.cell
  have z1 := b0.frozen
  have b0' := b0.set_ 8 (.slice Ab m.b.length cb)
  have b1' := b1.far (p := ⟨w.heap.size, 8, none⟩) (by show w.heap.size + 1 ≠ w.heap.size; omega) (.slice Ab m.b.length cb)
  have hcw' : Chg Non w (w1.setCell ⟨w.heap.size, 8, none⟩ (.slice Ab m.b.length cb)) := hcw.setNew (Nat.le_refl _) _
  have hsz1 := hc1.size
  have hsz1' : w.heap.size + 2 ≤ w1.heap.size := by simpa using hsz1
  have hob := (hb1'.low (lo' := w.heap.size + 2) (by simp)).chg (Chg.at_ w1 w.heap.size 8 (.slice Ab m.b.length cb)) (fun b hb e => by have := (hb1'.lt hb).1; simp at this; have : b = w.heap.size := e; omega) (fun _ h => h.elim)
  simp only [List.setIfInBounds_toArray, List.set] at b0'
  obtain ⟨w2, hw2⟩ : ∃ w2, w2 = w1.setCell ⟨w.heap.size, 8, none⟩ (.slice Ab m.b.length cb) := ⟨_, rfl⟩
  have hsz2 : w2.heap.size = w1.heap.size := by rw [hw2]; simp [World.setCell]
  rw [← hw2] at b0' b1' hcw' hob
  have W2 := Lib.hid hw2
  have Z2 := Lib.hid hsz2
  clear hw2 hsz2 hsz1 b0 b1 hcw hb1' hc1 H
  go_wp2_with fail
  rw [← W2.out]
  clear x1 z1 W2
  go_loopw [3, 5, 13] (fun lv _ i wr => ∃ k : Nat, k ≤ m.l.length ∧ i = .int .i64 k ∧ ∃ KL, Blk wr w.heap.size 26 #[.int .i64 m.kind, .int .i64 m.group, .int .i64 m.frm, .int .i64 m.dst, .int .i64 m.ballot, .int .i64 m.slot, .int .i64 m.client, .int .i64 m.seq, .slice Ab m.b.length cb, .slice A' m.l.length cap'] ∧
    (∃ o, Blk wr (w.heap.size + 1) 26 o ∧ o.size = 10) ∧ Chg Non w wr ∧ Own wr (w.heap.size + 2) 5 tB Non (.slice Ab m.b.length cb) m.b ∧ Own wr (w.heap.size + 2) 36 tVoteO KL lv (m.l.take k) ∧ (∀ b, KL b → w.heap.size + 2 ≤ b ∧ b < wr.heap.size) ∧ w.heap.size + 2 ≤ wr.heap.size) (fun _ _ i _ => m.l.length - (intOf i).toNat)
  case atStart => exact ⟨0, by omega, rfl, Non, b0', ⟨_, b1', by simp⟩, hcw', hob, Own.nil_, fun _ h => h.elim, by rw [Z2.out]; omega⟩
  case round =>
    clear b0' b1' hcw' hob Z2 hsz1' hone
    obtain ⟨k, hk, rfl, KL, br0, ⟨o, br1, ho⟩, hcr, hor, own, hKL, hsr⟩ := hrel
    by_cases hlt : k < m.l.length
    · have hlr := hl.chg hcr (fun b hb => ⟨hK b hb, id⟩)
      obtain ⟨bb, off, cv, rfl, hbb, hr, hcell⟩ := hlr.get hlt
      have hv := HV.out _ (List.getElem_mem hlt)
      have htake : m.l.take (k + 1) = m.l.take k ++ [m.l[k]] := by rw [List.take_add_one, List.getElem?_eq_getElem hlt, Option.toList_some]
      obtain ⟨x, hx⟩ : ∃ x, x = m.l[k] := ⟨_, rfl⟩
      rw [← hx] at hr htake hv
      have HT := Lib.hid htake
      clear hx htake
      obtain ⟨bv, rfl, f1, f2, hbv⟩ := hr
      obtain ⟨Av, cv, rfl, _, _⟩ := hbv.shape
      have v5 := hv.2.2.2.2
      have c0 := hcell 0 _ rfl
      have c1 := hcell 1 _ rfl
      have c2 := hcell 2 _ rfl
      simp [tVote] at c0 c1 c2
      have hlen : (m.l.take k).length = k := by simp; omega
      obtain ⟨lk, hLk⟩ : ∃ lk, lk = m.l.take k := ⟨_, rfl⟩
      rw [← hLk] at own hlen HT
      clear hLk hcell
      have hlk : lk.length ≤ 16 := by omega
      have HLN := Lib.hid hlen
      clear hlen
      obtain ⟨Al, cl, rfl, _, _⟩ := own.shape
      have hrow : ∀ b, (Value.slice Al lk.length cl).ownBlock = some b → w.heap.size + 2 ≤ b ∧ b < wr.heap.size := fun b hb => own.lt hb
      have hrob := fun b hb => own.ne_type hor (by decide) (b := b) hb
      have HR := Lib.hid (And.intro hrow hrob)
      clear hrow hrob
      obtain ⟨gv, hGv⟩ : ∃ gv, gv = wr.heap.size := ⟨_, rfl⟩
      have bx : Blk (wr.alloc (.cells #[.int .i64 x.slot, .int .i64 x.ballot, .slice Av x.v.length cv] 36)) gv 36 #[.int .i64 x.slot, .int .i64 x.ballot, .slice Av x.v.length cv] := by rw [hGv]; exact Blk.new _ _ _
      have hsz0 : (wr.alloc (.cells #[.int .i64 x.slot, .int .i64 x.ballot, .slice Av x.v.length cv] 36)).heap.size = gv + 1 := by rw [hGv]; simp
      have hbx := hbv.chg ((Chg.refl Non wr).alloc (.cells #[.int .i64 x.slot, .int .i64 x.ballot, .slice Av x.v.length cv] 36)) (fun b hb => ⟨Nat.lt_of_lt_of_le (hK b hb) hcr.size, id⟩)
      have hcx := (Chg.refl Non wr).alloc (.cells #[.int .i64 x.slot, .int .i64 x.ballot, .slice Av x.v.length cv] 36)
      have HX := Lib.hid (And.intro bx (And.intro hsz0 (And.intro hbx hcx)))
      have xr := br0.cell
      clear bx hsz0 hbx hcx hbv hlr
      go_wp2_with fail
      rw [← hGv]
      obtain ⟨bx, hsz0, hbx, hcx⟩ := HX.out
      refine (CloneB_own K _ x.v _ hbx (fun b hb => by rw [hsz0, hGv]; have := hK b hb; have := hcr.size; omega) (by omega)).mono ?_
      rintro e y1 ⟨v1, rfl, ho1, hd1⟩
      rw [hsz0] at ho1
      obtain ⟨A1, c1', rfl, _, _⟩ := ho1.shape
      have hd := hcx.trans hd1
      have bx1 := bx.chg hd1 id
      have hsz1 := hd1.size
      rw [hsz0] at hsz1
      have xv1 := bx1.cell
      have zv1 := bx1.frozen
      have hgv1 : wr.heap.size ≤ gv := by omega
      have hgv2 : gv ≤ wr.heap.size := by omega
      clear bx hsz0 hbx hcx HX hd1 hGv
      obtain ⟨hrow, hrob⟩ := HR.out
      have hdY := (hd.setNew (p := ⟨gv, 2, none⟩) hgv1 (.slice A1 x.v.length c1')).alloc (.cells #[.int .i64 x.slot, .int .i64 x.ballot, .slice A1 x.v.length c1'] 36)
      have hszY : ((y1.setCell ⟨gv, 2, none⟩ (.slice A1 x.v.length c1')).alloc (.cells #[.int .i64 x.slot, .int .i64 x.ballot, .slice A1 x.v.length c1'] 36)).heap.size = y1.heap.size + 1 := by simp [World.setCell]
      have bn : Blk ((y1.setCell ⟨gv, 2, none⟩ (.slice A1 x.v.length c1')).alloc (.cells #[.int .i64 x.slot, .int .i64 x.ballot, .slice A1 x.v.length c1'] 36)) y1.heap.size 36 #[.int .i64 x.slot, .int .i64 x.ballot, .slice A1 x.v.length c1'] := Blk.newAt (by simp [World.setCell]) _ _
      have hdo : Chg (Is gv) y1 ((y1.setCell ⟨gv, 2, none⟩ (.slice A1 x.v.length c1')).alloc (.cells #[.int .i64 x.slot, .int .i64 x.ballot, .slice A1 x.v.length c1'] 36)) := (Chg.at_ y1 gv 2 (.slice A1 x.v.length c1')).alloc _
      have ho2 := ho1.chg hdo (fun b hb e => by have := (ho1.lt hb).1; have : b = gv := e; omega) (fun _ h => h.elim)
      have br0' := br0.chg hdY id
      have br1' := br1.chg hdY id
      have hcr' := hcr.trans hdY
      have hor' := hor.chg hdY (fun _ _ h => h) (fun _ h => h.elim)
      have own' : Own ((y1.setCell ⟨gv, 2, none⟩ (.slice A1 x.v.length c1')).alloc (.cells #[.int .i64 x.slot, .int .i64 x.ballot, .slice A1 x.v.length c1'] 36)) (w.heap.size + 2) 36 tVoteO (Or2 KL (In (gv + 1) y1.heap.size)) (.slice Al lk.length cl) lk := by
        refine (own.chg hdY (fun _ _ h => h) (fun b hb => ⟨(hKL b hb).2, id⟩)).more (fun b hb => .inl hb) fun b hb h => ?_
        rcases h with h | h
        · obtain ⟨_, _, _, h3⟩ := own
          exact h3 b hb h
        · have := (hrow b hb).2; have := h.1; omega
      have hrep : tVoteO.rep ((y1.setCell ⟨gv, 2, none⟩ (.slice A1 x.v.length c1')).alloc (.cells #[.int .i64 x.slot, .int .i64 x.ballot, .slice A1 x.v.length c1'] 36)) (Or2 KL (In (gv + 1) y1.heap.size)) [.int .i64 x.slot, .int .i64 x.ballot, .slice A1 x.v.length c1'] x :=
        ⟨_, _, rfl, f1, f2, ho2, fun b hb => .inr (ho1.lt hb)⟩
      have hKK : ∀ b, Or2 KL (In (gv + 1) y1.heap.size) b → w.heap.size + 2 ≤ b ∧ b < y1.heap.size := by
        intro b hb
        rcases hb with hb | hb
        · have := hKL b hb; omega
        · have := hb.1; have := hb.2; omega
      have HY := Lib.hid (And.intro hszY (And.intro bn (And.intro own' hrep)))
      have HRR := Lib.hid (And.intro br0' (And.intro br1' (And.intro hcr' hor')))
      clear hdY hszY bn hdo ho2 own' hrep ho1 br0' br1' hcr' hor' hrow hrob br0 br1 hcr hor own hd bx1
      go_wp2_with (at_builtin; refine wpList_push tVoteO (Or2 KL (In (gv + 1) y1.heap.size)) rfl (.tmp 21) (.tmp 23) 23 rfl (w.heap.size + 2) 36 _ 40 Try.underlying23 info_vote rfl (by decide) (by decide) _ lk x [_, _, _] y1.heap.size (0, 0) rfl rfl HY.out.2.2.1 HY.out.2.1 HY.out.2.2.2 (fun b hb => by rw [HY.out.1]; have := (hKK b hb).2; omega) (by omega) (by rw [HY.out.1]; omega) ?_)
      intro A6 c6 w6 own6 hc6 hat
      have hsz6 := hc6.size
      rw [HY.out.1] at hsz6
      obtain ⟨br0', br1', hcr', hor'⟩ := HRR.out
      have e0 := br0'.chg hc6 (fun h => by have := (HR.out.1 _ h).1; omega)
      have e1 := br1'.chg hc6 (fun h => by have := (HR.out.1 _ h).1; omega)
      have e2 := hcr'.then_ hc6 (fun b hb h => by have := (HR.out.1 _ h).1; omega)
      have e3 := hor'.chg hc6 (fun b hb h => HR.out.2 b h hb) (fun _ h => h.elim)
      have HE := Lib.hid (And.intro e0 (And.intro e1 (And.intro e2 (And.intro e3 own6))))
      clear e0 e1 e2 e3 br0' br1' hcr' hor' hc6 hat own6 HRR HY xr xv1 zv1
      go_wp2_with fail
      go_roundw
      case rel =>
        obtain ⟨e0, e1, e2, e3, own6⟩ := HE.out
        exact ⟨k + 1, by omega, by go_num, _, e0, ⟨_, e1, ho⟩, e2, e3, by rw [HT.out]; exact own6, fun b hb => ⟨(hKK b hb).1, by have := (hKK b hb).2; omega⟩, by omega⟩
      case measure => simp [intOf]; omega
    · have : k = m.l.length := by omega
      subst this
      rw [List.take_length] at own
      obtain ⟨Al, cl, rfl, _, _⟩ := own.shape
      have x0 := br0.cell
      have z0 := br0.frozen
      have bw := br0.set_ 9 (.slice Al m.l.length cl)
      have bw1 := br1.far (p := ⟨w.heap.size, 9, none⟩) (by show w.heap.size + 1 ≠ w.heap.size; omega) (.slice Al m.l.length cl)
      have hset := Chg.at_ wr w.heap.size 9 (.slice Al m.l.length cl)
      have hcw : Chg Non w (wr.setCell ⟨w.heap.size, 9, none⟩ (.slice Al m.l.length cl)) := hcr.setNew (Nat.le_refl _) _
      have hor2 := hor.chg hset (fun b hb e => by have := (hor.lt hb).1; have : b = w.heap.size := e; omega) (fun _ h => h.elim)
      have own2 := own.chg hset (fun b hb e => by have := (own.lt hb).1; have : b = w.heap.size := e; omega) (fun b hb => ⟨(hKL b hb).2, fun e => by have := (hKL b hb).1; have : b = w.heap.size := e; omega⟩)
      have hszs : (wr.setCell ⟨w.heap.size, 9, none⟩ (.slice Al m.l.length cl)).heap.size = wr.heap.size := by simp [World.setCell]
      simp only [List.setIfInBounds_toArray, List.set] at bw
      have HF := Lib.hid (And.intro bw (And.intro bw1 (And.intro hcw (And.intro hor2 (And.intro own2 hszs)))))
      clear bw bw1 hset hcw hor2 own2 hszs br0 br1 hcr hor own
      go_wp2_with (first | (refine wpList_loadB rfl 26 (.tmp 1) rfl w.heap.size rfl HF.out.1 Try.underlying26 size_msg ?_) | (refine wpList_storeB rfl 26 (.tmp 2) (.tmp 28) rfl (w.heap.size + 1) _ rfl rfl HF.out.2.1 (by simp [ho]) size_msg (by simp [Value.oneCell']) ?_; intro w3 b3 c3 z3))
      obtain ⟨bw, bw1, hcw, hor2, own2, hszs⟩ := HF.out
      refine bodyPost_ret (v := .agg #[.int .i64 m.kind, .int .i64 m.group, .int .i64 m.frm, .int .i64 m.dst, .int .i64 m.ballot, .int .i64 m.slot, .int .i64 m.client, .int .i64 m.seq, .slice Ab m.b.length cb, .slice Al m.l.length cl]) (ret_cellB (p := 2) (ty := 26) rfl _ rfl b3 Try.underlying26 size_msg) rfl ⟨_, rfl, ⟨_, _, KL, rfl, ?_, ?_, ?_⟩, ?_⟩
      · exact (hor2.chg c3 (fun b hb e => by have := (hor2.lt hb).1; have : b = w.heap.size + 1 := e; omega) (fun _ h => h.elim)).low (by omega)
      · exact (own2.chg c3 (fun b hb e => by have := (own2.lt hb).1; have : b = w.heap.size + 1 := e; omega) (fun b hb => ⟨by rw [hszs]; exact (hKL b hb).2, fun e => by have := (hKL b hb).1; have : b = w.heap.size + 1 := e; omega⟩)).low (by omega)
      · intro b hb
        rw [z3, hszs]
        have := hKL b hb
        exact ⟨by omega, this.2⟩
      · exact hcw.then_ c3 fun k hk h => by have : k = w.heap.size + 1 := h; omega

end Go.Proofs.Ythfeipnbhecjdaa
