/- The contract of the document's Same, at a message and one that reads as it does. -/
import Derived.Test.YthfeipnbhecjdaaCop
import Derived.Deep.QuietTactic
import Derived.BigQuiet
set_option linter.unusedVariables false
set_option linter.unusedSimpArgs false
namespace Go.Proofs.Ythfeipnbhecjdaa
open Go.RowKit

set_option maxRecDepth 100000 in
set_option maxHeartbeats 3200000 in
theorem RSame_yes (K K' : Nat → Prop) (cs cs' : List Value) (m : Msg) (w : World) (h : MsgAt w K cs m) (h' : MsgAt w K' cs' m) (hK : ∀ b, K b → b < w.heap.size) (hK' : ∀ b, K' b → b < w.heap.size) :
    Calls Try.prog 8 #[.agg cs.toArray, .agg cs'.toArray] w fun e w' => e = .returned (.bool true) ∧ Chg Non w w' := by
  obtain ⟨bv, lv, rfl, hb, hl⟩ := h
  obtain ⟨bv', lv', rfl, hb', hl'⟩ := h'
  have hst : ∀ W, Chg Non w W → (convert 22 9 bv).run Try.prog W = .ok (.string (strOfNums m.b)) W ∧ (convert 22 9 bv').run Try.prog W = .ok (.string (strOfNums m.b)) W := fun W hc =>
    ⟨(hb.chg hc fun b hb => ⟨hK b hb, id⟩).str Try.underlying22 Try.underlying5 Try.underlying9, (hb'.chg hc fun b hb => ⟨hK' b hb, id⟩).str Try.underlying22 Try.underlying5 Try.underlying9⟩
  have g0 : ∀ cs o2, Blk ((w.alloc (.cells cs 26)).alloc o2) w.heap.size 26 cs := fun cs o2 => (Blk.new w _ cs).alloc o2
  have g1 : ∀ o1 cs, Blk ((w.alloc o1).alloc (.cells cs 26)) (w.heap.size + 1) 26 cs := fun o1 cs => Blk.newAt (by simp) _ cs
  obtain ⟨A, cap, rfl, _, _⟩ := hb.shape
  obtain ⟨A', cap', rfl, _, _⟩ := hb'.shape
  obtain ⟨B, bap, rfl, hlb, _⟩ := hl.shape
  obtain ⟨B', bap', rfl, hlb', _⟩ := hl'.shape
  have H := Lib.hid (And.intro g0 (And.intro g1 hst))
  have s1 := fun o1 o2 => (hst ((w.alloc o1).alloc o2) (((Chg.refl Non w).alloc o1).alloc o2)).1
  have s2 := fun o1 o2 => (hst ((w.alloc o1).alloc o2) (((Chg.refl Non w).alloc o1).alloc o2)).2
  clear g0 g1 hst
  go_enter Try.func8, Try.ntmps8
  go_wp2_with fail
  obtain ⟨W, hW⟩ : ∃ W, W = (w.alloc (.cells #[.int .i64 m.kind, .int .i64 m.group, .int .i64 m.frm, .int .i64 m.dst, .int .i64 m.ballot, .int .i64 m.slot, .int .i64 m.client, .int .i64 m.seq, .slice A m.b.length cap, .slice B m.l.length bap] 26)).alloc (.cells #[.int .i64 m.kind, .int .i64 m.group, .int .i64 m.frm, .int .i64 m.dst, .int .i64 m.ballot, .int .i64 m.slot, .int .i64 m.client, .int .i64 m.seq, .slice A' m.b.length cap', .slice B' m.l.length bap'] 26) := ⟨_, rfl⟩
  have q0 : Blk W w.heap.size 26 #[.int .i64 m.kind, .int .i64 m.group, .int .i64 m.frm, .int .i64 m.dst, .int .i64 m.ballot, .int .i64 m.slot, .int .i64 m.client, .int .i64 m.seq, .slice A m.b.length cap, .slice B m.l.length bap] := by rw [hW]; exact H.out.1 _ _
  have q1 : Blk W (w.heap.size + 1) 26 #[.int .i64 m.kind, .int .i64 m.group, .int .i64 m.frm, .int .i64 m.dst, .int .i64 m.ballot, .int .i64 m.slot, .int .i64 m.client, .int .i64 m.seq, .slice A' m.b.length cap', .slice B' m.l.length bap'] := by rw [hW]; exact H.out.2.1 _ _
  have q2 : Chg Non w W := by rw [hW]; exact ((Chg.refl Non w).alloc _).alloc _
  rw [← hW]
  clear hW s1 s2
  go_loopw [5] (fun i wr => ∃ k : Nat, k ≤ m.l.length ∧ i = .int .i64 k ∧ Blk wr w.heap.size 26 #[.int .i64 m.kind, .int .i64 m.group, .int .i64 m.frm, .int .i64 m.dst, .int .i64 m.ballot, .int .i64 m.slot, .int .i64 m.client, .int .i64 m.seq, .slice A m.b.length cap, .slice B m.l.length bap] ∧ Blk wr (w.heap.size + 1) 26 #[.int .i64 m.kind, .int .i64 m.group, .int .i64 m.frm, .int .i64 m.dst, .int .i64 m.ballot, .int .i64 m.slot, .int .i64 m.client, .int .i64 m.seq, .slice A' m.b.length cap', .slice B' m.l.length bap'] ∧ Chg Non w wr) (fun i _ => m.l.length - (intOf i).toNat)
  case atStart => exact ⟨0, by omega, rfl, q0, q1, q2⟩
  case round =>
    clear q0 q1 q2
    obtain ⟨k, hk, rfl, r0, r1, hc⟩ := hrel
    have x0 := r0.cell
    have x1 := r1.cell
    by_cases hlt : k < m.l.length
    · have hlr := hl.chg hc (fun b hb => ⟨hK b hb, id⟩)
      have hlr' := hl'.chg hc (fun b hb => ⟨hK' b hb, id⟩)
      obtain ⟨bb, off, cv, hB, hbb, hr, hcell⟩ := hlr.get hlt
      obtain ⟨bb', off', cv', hB', hbb', hr', hcell'⟩ := hlr'.get hlt
      subst hB; subst hB'
      obtain ⟨x, hx⟩ : ∃ x, x = m.l[k] := ⟨_, rfl⟩
      rw [← hx] at hr hr'
      clear hx
      obtain ⟨vv, rfl, f1, f2, hbv⟩ := hr
      obtain ⟨vv', rfl, f1', f2', hbv'⟩ := hr'
      have t1 : ∀ n, (convert 22 9 vv).run Try.prog (wr.drewN n) = .ok (.string (strOfNums x.v)) (wr.drewN n) := fun n => (hbv.keep (w' := wr.drewN n) (fun b hb => ⟨hb, rfl⟩)).str Try.underlying22 Try.underlying5 Try.underlying9
      have t2 : ∀ n, (convert 22 9 vv').run Try.prog (wr.drewN n) = .ok (.string (strOfNums x.v)) (wr.drewN n) := fun n => (hbv'.keep (w' := wr.drewN n) (fun b hb => ⟨hb, rfl⟩)).str Try.underlying22 Try.underlying5 Try.underlying9
      have c0 := hcell 0 _ rfl
      have c1 := hcell 1 _ rfl
      have c2 := hcell 2 _ rfl
      have c0' := hcell' 0 _ rfl
      have c1' := hcell' 1 _ rfl
      have c2' := hcell' 2 _ rfl
      simp [tVote] at c0 c1 c2 c0' c1' c2'
      obtain ⟨Av, cvv, rfl, _, _⟩ := hbv.shape
      obtain ⟨Av', cvv', rfl, _, _⟩ := hbv'.shape
      have hk0 : (0 : Int) ≤ (k : Int) := by omega
      have hk1 : (k : Int) < (m.l.length : Int) := by omega
      have HH := Lib.hid (And.intro r0 (And.intro r1 hc))
      clear r0 r1 hc hcell hcell' hbv hbv' hlr hlr' H
      go_wp2_with fail
      go_quiet (fail)
      go_wp2_with fail
      go_roundw
      case rel => exact ⟨k + 1, by omega, by go_num, HH.out.1.drewN _, HH.out.2.1.drewN _, HH.out.2.2.drewN _⟩
      case measure => simp [intOf]; omega
    · go_wp2_with fail
      go_ret
      exact ⟨rfl, hc⟩

end Go.Proofs.Ythfeipnbhecjdaa
