/- The contract of the law's made: a message that may be. -/
import Derived.Test.YthfeipnbhecjdaaSam
import Derived.Test.YthfeipnbhecjdaaHt
import Derived.Deep.RegionHeld3
import Derived.Deep.DeepCutAuto
import Derived.Deep.CutBlock
set_option linter.unusedVariables false
set_option linter.unusedSimpArgs false
namespace Go.Proofs.Ythfeipnbhecjdaa
open Go.RowKit

def within (n lo hi : Int) : Int := if lo ≤ n ∧ n ≤ hi then n else lo + (if n.tmod (hi - lo + 1) < 0 then n.tmod (hi - lo + 1) + (hi - lo + 1) else n.tmod (hi - lo + 1))
theorem tmod_bounds (n m : Int) (hm : 0 < m) : -m < n.tmod m ∧ n.tmod m < m := by
  refine ⟨?_, Int.tmod_lt_of_pos n hm⟩
  rcases Int.lt_or_le n 0 with h | h
  · have h1 := Int.tmod_lt_of_pos (-n) hm
    rw [Int.neg_tmod] at h1
    omega
  · have := Int.tmod_nonneg m h
    omega
theorem within_range (n lo hi : Int) (h : lo ≤ hi) : lo ≤ within n lo hi ∧ within n lo hi ≤ hi := by
  obtain ⟨h1, h2⟩ := tmod_bounds n (hi - lo + 1) (by omega)
  unfold within
  split
  · omega
  · split <;> omega

theorem Within_any (n lo hi : Int) (w : World) (hn : Fits .i64 n) (h1 : lo ≤ hi) (h2 : -1073741824 ≤ lo) (h3 : hi ≤ 1073741824) :
    Calls Try.prog 10 #[.int .i64 n, .int .i64 lo, .int .i64 hi] w fun e w' => e = .returned (.int .i64 (within n lo hi)) ∧ w' = w := by
  have hb := hn.i64
  obtain ⟨m2, m1⟩ := tmod_bounds n (hi - lo + 1) (by omega)
  clear hn
  go_enter Try.func10, Try.ntmps10
  go_wp2
  all_goals
    go_ret
    refine ⟨ret_int ?_, rfl⟩
    unfold within
    first
      | rw [if_pos ⟨by omega, by omega⟩]
      | (rw [if_neg (by omega), if_pos (by omega)]; omega)
      | rw [if_neg (by omega), if_neg (by omega)]

/-- No more than n of them. -/
theorem Cut_any (K : Nat → Prop) (v : Value) (l : List Int) (n : Nat) (w : World) (h : SlT tB w K v l) (hn : n ≤ 1048576) :
    ∃ v', (∀ W, Calls Try.prog 11 #[v, .int .i64 n] W fun e w' => e = .returned v' ∧ w' = W) ∧ SlT tB w K v' (l.take n) := by
  obtain ⟨A, cap, rfl, h1, h2⟩ := h.shape
  by_cases hlt : n < l.length
  · have hs := h.cut (i := 0) (j := n) (Nat.zero_le _) (by omega)
    have ha : (if cap = 0 then A else A.map (·.add (0 * tB.size))) = A := by
      split
      · rfl
      · cases A <;> simp [Addr.add]
    rw [ha, Nat.sub_zero, Nat.sub_zero, List.drop_zero] at hs
    refine ⟨.slice A n cap, fun W => ?_, hs⟩
    have h3 : (n : Int) < (l.length : Int) := by omega
    have h4 : (n : Int) ≤ (cap : Int) := by omega
    go_enter Try.func11, Try.ntmps11
    go_wp2
    go_ret
    exact ⟨rfl, rfl⟩
  · refine ⟨.slice A l.length cap, fun W => ?_, by rw [List.take_of_length_le (by omega)]; exact h⟩
    have : ¬ (n : Int) < (l.length : Int) := by omega
    go_enter Try.func11, Try.ntmps11
    go_wp2
    go_ret
    exact ⟨rfl, rfl⟩

structure DrawFits (d : Msg) : Prop where
  kind : Fits .i64 d.kind
  group : Fits .i64 d.group
  frm : Fits .i64 d.frm
  dst : Fits .i64 d.dst
  ballot : Fits .i64 d.ballot
  slot : Fits .i64 d.slot
  client : Fits .i64 d.client
  seq : Fits .i64 d.seq

set_option maxRecDepth 100000 in
set_option maxHeartbeats 3200000 in
theorem made_any (K : Nat → Prop) (cs : List Value) (d : Msg) (w : World) (h : MsgAt w K cs d) (hK : ∀ b, K b → b < w.heap.size) (hd : DrawFits d) :
    Calls Try.prog 4 #[.agg cs.toArray] w fun e w' => ∃ cs' m, e = .returned (.agg cs'.toArray) ∧ MsgOk m ∧ MsgAt w' (Or2 K (Fresh w w')) cs' m ∧ Chg Non w w' := by
  obtain ⟨bv, lv, rfl, hb, hl⟩ := h
  obtain ⟨v', hcut, hs'⟩ := Cut_any K bv d.b 40 w hb (by decide)
  obtain ⟨b', hb'⟩ : ∃ b', b' = d.b.take 40 := ⟨_, rfl⟩
  have hbl : b'.length ≤ 40 := by rw [hb']; simp; omega
  rw [← hb'] at hs'
  clear hb'
  obtain ⟨Ac, cc, rfl, _, _⟩ := hs'.shape
  obtain ⟨A, cap, rfl, hb1, hb2⟩ := hb.shape
  obtain ⟨A', cap', rfl, hl1, hl2⟩ := hl.shape
  obtain ⟨d1, d2, d3, d4, d5, d6, d7, d8⟩ := hd
  have HC := Lib.hid hcut
  have HS := Lib.hid hs'
  clear hcut hs'
  obtain ⟨W, hW⟩ : ∃ W, W = (w.alloc (.cells #[.int .i64 d.kind, .int .i64 d.group, .int .i64 d.frm, .int .i64 d.dst, .int .i64 d.ballot, .int .i64 d.slot, .int .i64 d.client, .int .i64 d.seq, .slice A d.b.length cap, .slice A' d.l.length cap'] 25)).alloc (.cells zeroMsg.toArray 26) := ⟨_, rfl⟩
  have q0 : Blk W w.heap.size 25 #[.int .i64 d.kind, .int .i64 d.group, .int .i64 d.frm, .int .i64 d.dst, .int .i64 d.ballot, .int .i64 d.slot, .int .i64 d.client, .int .i64 d.seq, .slice A d.b.length cap, .slice A' d.l.length cap'] := by rw [hW]; exact (Blk.new w _ _).alloc _
  have q1 : Blk W (w.heap.size + 1) 26 zeroMsg.toArray := by rw [hW]; exact Blk.newAt (by simp) _ _
  have q2 : Chg Non w W := by rw [hW]; exact ((Chg.refl Non w).alloc _).alloc _
  have q3 : W.heap.size = w.heap.size + 2 := by rw [hW]; simp
  have HW := Lib.hid hW
  have Q := Lib.hid (And.intro q1 (And.intro q2 q3))
  have y0 := q0.cell 0
  have y1 := q0.cell 1
  have y2 := q0.cell 2
  have y3 := q0.cell 3
  have y4 := q0.cell 4
  have y5 := q0.cell 5
  have y6 := q0.cell 6
  have y7 := q0.cell 7
  have y8 := q0.cell 8
  simp only [List.getElem?_toArray, List.getElem?_cons_zero, List.getElem?_cons_succ] at y0 y1 y2 y3 y4 y5 y6 y7 y8
  have n0 := World.new_ne W _ y0
  have n1 := World.new_ne W _ y1
  have n2 := World.new_ne W _ y2
  have n3 := World.new_ne W _ y3
  have n4 := World.new_ne W _ y4
  have n5 := World.new_ne W _ y5
  have n6 := World.new_ne W _ y6
  have n7 := World.new_ne W _ y7
  have n8 := World.new_ne W _ y8
  have Q0 := Lib.hid q0
  clear hW q1 q2 q3 q0
  unfold zeroMsg at HW
  go_enter Try.func4, Try.ntmps4
  go_upto_region 1 with fail
  rw [← HW.out]
  go_cut [3] (fun t3 wc => t3 = .pointer (some ⟨w.heap.size + 2, 0, none⟩) ∧ ∃ kd : Int, (1 ≤ kd ∧ kd ≤ 9) ∧ Blk wc (w.heap.size + 2) 26 #[.int .i64 kd, .int .i64 (within d.group 0 3), .int .i64 (within d.frm 0 355), .int .i64 (within d.dst 0 355), .int .i64 (within d.ballot (-1) 1073741824), .int .i64 (within d.slot 0 1073741824), .int .i64 (within d.client 0 255), .int .i64 (within d.seq 0 1073741824), .slice Ac b'.length cc, .slice none 0 0] ∧ Chg Non W wc ∧ wc.heap.size = w.heap.size + 3)
  case first =>
    have hkd : 1 ≤ IntKind.i64.wrap (1 + (within d.kind 0 1048576).tmod 9) ∧ IntKind.i64.wrap (1 + (within d.kind 0 1048576).tmod 9) ≤ 9 := by
      have h1 := within_range d.kind 0 1048576 (by decide)
      have h2 := Int.tmod_lt_of_pos (within d.kind 0 1048576) (show (0 : Int) < 9 by decide)
      have h3 := Int.tmod_nonneg 9 h1.1
      have e : IntKind.i64.wrap (1 + (within d.kind 0 1048576).tmod 9) = 1 + (within d.kind 0 1048576).tmod 9 := by simp [IntKind.wrap, IntKind.bits, IntKind.signed]; omega
      rw [e]; omega
    have HKD := Lib.hid hkd
    clear hkd
    go_region_held3 (fun w' => w'.cell? ⟨w.heap.size, 0, none⟩ = some (.int .i64 d.kind) ∧ w'.cell? ⟨w.heap.size, 1, none⟩ = some (.int .i64 d.group) ∧ w'.cell? ⟨w.heap.size, 2, none⟩ = some (.int .i64 d.frm) ∧ w'.cell? ⟨w.heap.size, 3, none⟩ = some (.int .i64 d.dst) ∧ w'.cell? ⟨w.heap.size, 4, none⟩ = some (.int .i64 d.ballot) ∧ w'.cell? ⟨w.heap.size, 5, none⟩ = some (.int .i64 d.slot) ∧ w'.cell? ⟨w.heap.size, 6, none⟩ = some (.int .i64 d.client) ∧ w'.cell? ⟨w.heap.size, 7, none⟩ = some (.int .i64 d.seq) ∧ w'.cell? ⟨w.heap.size, 8, none⟩ = some (.slice A d.b.length cap)) (first | go_keep)
      (first | (go_at_call 10; refine (Within_any _ _ _ _ (by first | exact d1 | exact d2 | exact d3 | exact d4 | exact d5 | exact d6 | exact d7 | exact d8) (by decide) (by decide) (by decide)).mono ?_; rintro e w' ⟨rfl, rfl⟩) | (go_at_call 11; refine (HC.out _).mono ?_; rintro e w' ⟨rfl, rfl⟩))
    all_goals
      go_wp2_with fail
      go_meet
      refine ⟨by rw [Q.out.2.2], _, HKD.out, ?_, ((Chg.refl Non W).alloc _).drew, by simp [Q.out.2.2]⟩
      exact Blk.newAt Q.out.2.2 _ _
  case rest =>
    obtain ⟨rfl, kd, hkd, bm, hcm, hsm⟩ := hcut
    have r0 := Q0.out.chg hcm id
    have r1 := Q.out.1.chg hcm id
    have r2 := Q.out.2.1.trans hcm
    have hz : w.heap.size + 3 ≤ wc.heap.size := by omega
    clear y0 y1 y2 y3 y4 y5 y6 y7 y8 n0 n1 n2 n3 n4 n5 n6 n7 n8 HW Q Q0 hcm hsm HC
    go_wp2_with fail
    go_loopw [4] (fun i wr => ∃ k : Nat, k ≤ d.l.length ∧ k ≤ 5 ∧ i = .int .i64 k ∧ Blk wr w.heap.size 25 #[.int .i64 d.kind, .int .i64 d.group, .int .i64 d.frm, .int .i64 d.dst, .int .i64 d.ballot, .int .i64 d.slot, .int .i64 d.client, .int .i64 d.seq, .slice A d.b.length cap, .slice A' d.l.length cap'] ∧ (∃ o, Blk wr (w.heap.size + 1) 26 o ∧ o.size = 10) ∧ Chg Non w wr ∧ w.heap.size + 3 ≤ wr.heap.size ∧
      ∃ lv l', Blk wr (w.heap.size + 2) 26 #[.int .i64 kd, .int .i64 (within d.group 0 3), .int .i64 (within d.frm 0 355), .int .i64 (within d.dst 0 355), .int .i64 (within d.ballot (-1) 1073741824), .int .i64 (within d.slot 0 1073741824), .int .i64 (within d.client 0 255), .int .i64 (within d.seq 0 1073741824), .slice Ac b'.length cc, lv] ∧ Own wr (w.heap.size + 3) 36 tVote K lv l' ∧ l'.length = k ∧ ∀ x ∈ l', VoteOk x) (fun i _ => 5 - (intOf i).toNat)
    case atStart => exact ⟨0, by omega, by omega, rfl, r0, ⟨_, r1, by simp [zeroMsg]⟩, r2, hz, _, [], bm, Own.nil_, rfl, by simp⟩
    case round =>
      clear r0 r1 r2 hz bm
      obtain ⟨k, hk, hk5, rfl, r0, ⟨o, r1, ho⟩, r2, hz, lv, l', bm, own, hlk, hok⟩ := hrel
      have u9 := r0.cell 9
      have m9 := bm.cell 9
      have z9 := bm.frozen 9
      simp only [List.getElem?_toArray, List.getElem?_cons_zero, List.getElem?_cons_succ] at u9 m9
      have hex : (k < d.l.length ∧ k < 5) ∨ (k < d.l.length ∧ ¬ k < 5) ∨ ¬ k < d.l.length := by omega
      rcases hex with ⟨hlt, hlt5⟩ | ⟨hlt, hlt5⟩ | hlt
      · have hlr := hl.chg r2 (fun b hb => ⟨hK b hb, id⟩)
        obtain ⟨bb, off, cv, rfl, hbb, hr, hcell⟩ := hlr.get hlt
        obtain ⟨x, hx⟩ : ∃ x, x = d.l[k] := ⟨_, rfl⟩
        rw [← hx] at hr
        clear hx
        obtain ⟨bv, rfl, f1, f2, hbv⟩ := hr
        obtain ⟨v'', hcut, hs''⟩ := Cut_any K bv x.v 20 wr hbv (by decide)
        obtain ⟨bx, hbx⟩ : ∃ bx, bx = x.v.take 20 := ⟨_, rfl⟩
        have hxl : bx.length ≤ 20 := by rw [hbx]; simp; omega
        rw [← hbx] at hs''
        clear hbx
        obtain ⟨Ax, cx, rfl, _, _⟩ := hs''.shape
        obtain ⟨Av, cvv, rfl, _, _⟩ := hbv.shape
        have c0 := hcell 0 _ rfl
        have c1 := hcell 1 _ rfl
        have c2 := hcell 2 _ rfl
        simp [tVote] at c0 c1 c2
        have e0 := World.new_ne wr _ c0
        have e1 := World.new_ne wr _ c1
        have e2 := World.new_ne wr _ c2
        have e9 := World.new_ne wr _ u9
        have em := World.new_ne wr _ m9
        obtain ⟨Al, cl, rfl, _, _⟩ := own.shape
        have hk0 : (0 : Int) ≤ (k : Int) := by omega
        have hk1 : (k : Int) < (d.l.length : Int) := by omega
        have hk2 : (k : Int) < 5 := by omega
        have t0 : (x.v.length : Int) = (x.v.length : Int) := rfl
        have HCX := Lib.hid hcut
        have HLK := Lib.hid hlk
        have HSX := Lib.hid hs''
        have hl5 : l'.length ≤ 5 := by omega
        have HW := Lib.hid (And.intro r0 (And.intro r1 (And.intro r2 (And.intro bm own))))
        clear hcut hlk hs'' hcell hlr hbv r0 r1 r2 bm own t0
        obtain ⟨W1, hW1⟩ : ∃ W1, W1 = (wr.alloc (.cells #[.int .i64 (within x.slot 0 1073741824), .int .i64 (within x.ballot (-1) 1073741824), .slice Ax bx.length cx] 36)).drew := ⟨_, rfl⟩
        have hc1 : Chg Non wr W1 := by rw [hW1]; exact ((Chg.refl Non wr).alloc _).drew
        have hs1 : W1.heap.size = wr.heap.size + 1 := by rw [hW1]; simp
        have hb1 : Blk W1 wr.heap.size 36 #[.int .i64 (within x.slot 0 1073741824), .int .i64 (within x.ballot (-1) 1073741824), .slice Ax bx.length cx] := by rw [hW1]; exact Blk.newAt rfl _ _
        have HW1 := Lib.hid hW1
        have d0 := hc1.cellv c0 id
        have d1 := hc1.cellv c1 id
        have d2 := hc1.cellv c2 id
        have d9 := hc1.cellv u9 id
        have dm := hc1.cellv m9 id
        have HC1 := Lib.hid (And.intro hc1 (And.intro hs1 hb1))
        clear hW1 hc1 hs1 hb1
        go_wp2_with fail
        refine wp_region_ht [] (List.range 24) [24, 25, 26, 27] (fun W => W = wr.drew ∨ W = W1) (by kernel_rfl) (by kernel_rfl) (by kernel_rfl) (by kernel_rfl) (by kernel_rfl) (by kernel_rfl) (fun _ _ _ _ h => h) (.inl rfl) ?_
        refine wpHead.nil ?_
        simp only [List.range_succ, List.range_zero, List.nil_append, List.cons_append, List.filterMap_cons, List.filterMap_nil, List.getElem?_toArray, List.getElem?_cons_zero, List.getElem?_cons_succ]
        iterate 8 (refine wpHead.val ?_ (by rfl) ?_ ?_
                   rotate_left
                   (intro W hW; rcases hW with rfl | rfl <;> (go_simp; all_goals with_reducible rfl))
                   simp only [Act.put, List.setIfInBounds_toArray, List.set_cons_zero, List.set_cons_succ])
        (refine wpHead.call ?_ 10 ?_ (by rfl) ?_ ?_ ?_
         rotate_left 2
         (intro W hW; rcases hW with rfl | rfl <;> (go_simp; all_goals with_reducible rfl))
         (intro W hW; exact Within_any x.slot 0 1073741824 _ f1 (by decide) (by decide) (by decide))
         simp only [Act.put, List.setIfInBounds_toArray, List.set_cons_zero, List.set_cons_succ])
        iterate 6 (refine wpHead.val ?_ (by rfl) ?_ ?_
                   rotate_left
                   (intro W hW; rcases hW with rfl | rfl <;> (go_simp; all_goals with_reducible rfl))
                   simp only [Act.put, List.setIfInBounds_toArray, List.set_cons_zero, List.set_cons_succ])
        (refine wpHead.call ?_ 10 ?_ (by rfl) ?_ ?_ ?_
         rotate_left 2
         (intro W hW; rcases hW with rfl | rfl <;> (go_simp; all_goals with_reducible rfl))
         (intro W hW; exact Within_any x.ballot (-1) 1073741824 _ f2 (by decide) (by decide) (by decide))
         simp only [Act.put, List.setIfInBounds_toArray, List.set_cons_zero, List.set_cons_succ])
        iterate 6 (refine wpHead.val ?_ (by rfl) ?_ ?_
                   rotate_left
                   (intro W hW; rcases hW with rfl | rfl <;> (go_simp; all_goals with_reducible rfl))
                   simp only [Act.put, List.setIfInBounds_toArray, List.set_cons_zero, List.set_cons_succ])
        (refine wpHead.call ?_ 11 ?_ (by rfl) ?_ ?_ ?_
         rotate_left 2
         (intro W hW; rcases hW with rfl | rfl <;> (go_simp; all_goals with_reducible rfl))
         (intro W hW; exact HCX.out _)
         simp only [Act.put, List.setIfInBounds_toArray, List.set_cons_zero, List.set_cons_succ])
        (refine wpHead.val ?_ (by rfl) ?_ ?_
         rotate_left
         (intro W hW; rcases hW with rfl | rfl <;> (go_simp; all_goals with_reducible rfl))
         simp only [Act.put, List.setIfInBounds_toArray, List.set_cons_zero, List.set_cons_succ])
        refine wpHead.nil ?_
        refine wpTail.early rfl rfl (fun K1 hK1 => ?_)
        go_simp
        rw [← HW1.out]
        refine hK1 _ _ (.inr rfl) ?_
        clear hK1 K1 HW1
        obtain ⟨hc1, hs1, hb1⟩ := HC1.out
        obtain ⟨r0, r1, r2, bm, own⟩ := HW.out
        have KZ : ∀ b, K b → b < wr.heap.size := fun b hb => by have := hK b hb; omega
        have own1 := own.chg hc1 (fun _ _ h => h) (fun b hb => ⟨KZ b hb, id⟩)
        have hs1' := (HSX.out.chg hc1 (fun b hb => ⟨KZ b hb, id⟩))
        have i1 := within_range x.slot 0 1073741824 (by decide)
        have i2 := within_range x.ballot (-1) 1073741824 (by decide)
        refine wpTail.late rfl (by kernel_rfl) rfl (fun K1 hK1 => ?_)
        refine wp_push tVote K (.tmp 47) (.tmp 70) 23 rfl (w.heap.size + 3) 36 _ 40 Try.underlying23 info_vote rfl (by decide) (by decide) _ l' ⟨within x.slot 0 1073741824, within x.ballot (-1) 1073741824, bx⟩ [_, _, _] wr.heap.size (0, 0) rfl rfl own1 hb1 ⟨_, rfl, fits_i64 (show _ ∧ _ from ⟨by dsimp only; omega, by dsimp only; omega⟩), fits_i64 (show _ ∧ _ from ⟨by dsimp only; omega, by dsimp only; omega⟩), hs1'⟩ (fun b hb => by have := KZ b hb; omega) (by omega) (by omega) ?_
        intro A6 c6 w6 own6 hc6 hat
        refine hK1 _ _ ?_
        clear hK1 K1
        refine wpTail.late rfl (by kernel_rfl) rfl (fun K1 hK1 => ?_)
        go_simp
        refine hK1 _ _ ?_
        clear hK1 K1
        refine wpTail.late rfl (by kernel_rfl) rfl (fun K1 hK1 => ?_)
        have hRow : ∀ b, Row (.slice Al l'.length cl) b → w.heap.size + 3 ≤ b := fun b hb => (own.lt hb).1
        have bm6 := (bm.chg hc1 id).chg hc6 (fun h => by have := hRow _ h; omega)
        have m6 := bm6.cell 9
        have z6 := bm6.frozen 9
        simp only [List.getElem?_toArray, List.getElem?_cons_zero, List.getElem?_cons_succ] at m6
        have hcs := Chg.at_ w6 (w.heap.size + 2) 9 (.slice A6 (l'.length + 1) c6)
        have b7 := bm6.set_ 9 (.slice A6 (l'.length + 1) c6)
        simp only [List.setIfInBounds_toArray, List.set] at b7
        have own7 := own6.chg hcs (fun b hb e => by have := (own6.lt hb).1; have : b = w.heap.size + 2 := e; omega) (fun b hb => ⟨by have := KZ b hb; have := hc1.size; have := hc6.size; omega, fun e => by have := hK b hb; have : b = w.heap.size + 2 := e; omega⟩)
        have r06 := ((r0.chg hc1 id).chg hc6 (fun h => by have := hRow _ h; omega)).chg hcs (fun e => by have : w.heap.size = w.heap.size + 2 := e; omega)
        have r16 := ((r1.chg hc1 id).chg hc6 (fun h => by have := hRow _ h; omega)).chg hcs (fun e => by have : w.heap.size + 1 = w.heap.size + 2 := e; omega)
        have r26 := ((r2.trans hc1).then_ hc6 (fun b hb h => by have := hRow _ h; omega)).then_ hcs (fun b hb e => by have : b = w.heap.size + 2 := e; omega)
        have hz6 : w.heap.size + 3 ≤ (w6.setCell ⟨w.heap.size + 2, 9, none⟩ (.slice A6 (l'.length + 1) c6)).heap.size := by have := hcs.size; have := hc1.size; have := hc6.size; omega
        have HR := Lib.hid (And.intro r06 (And.intro r16 (And.intro r26 (And.intro b7 (And.intro own7 hz6)))))
        clear r06 r16 r26 b7 own7 hz6 hcs bm6 own6 hc6 hc1 hs1 hb1 r0 r1 r2 bm own KZ own1 hs1' hat hRow
        go_simp
        refine hK1 _ _ ?_
        clear hK1 K1 m6 z6
        refine wpTail.nil ?_
        go_wp2_with fail
        go_roundw
        case rel =>
          obtain ⟨e0, e1, e2, e3, e4, e5⟩ := HR.out
          refine ⟨k + 1, by omega, by omega, by go_num, e0, ⟨_, e1, ho⟩, e2, e5, _, l' ++ [_], e3, e4, by rw [List.length_append, List.length_singleton, HLK.out], ?_⟩
          intro y hy
          rcases List.mem_append.1 hy with hy | hy
          · exact hok y hy
          · rw [List.mem_singleton] at hy
            subst hy
            exact ⟨i1.1, i1.2, i2.1, i2.2, by dsimp only; omega⟩
        case measure => simp [intOf]; omega
      all_goals first
        | (have hk1 : (k : Int) < (d.l.length : Int) := by omega
           have hk2 : ¬ (k : Int) < 5 := by omega)
        | have hk1 : ¬ (k : Int) < (d.l.length : Int) := by omega
      all_goals
        obtain ⟨Al, cl, rfl, _, _⟩ := own.shape
        have HW := Lib.hid (And.intro r0 (And.intro r1 (And.intro r2 (And.intro bm own))))
        have HLK := Lib.hid hlk
        clear hlk r0 r1 r2 bm own m9 z9
        go_wp2_with (first | (refine wpList_loadB rfl 26 (.tmp 3) rfl (w.heap.size + 2) rfl HW.out.2.2.2.1 Try.underlying26 size_msg ?_) | (refine wpList_storeB rfl 26 (.tmp 2) (.tmp 73) rfl (w.heap.size + 1) _ rfl rfl HW.out.2.1 (by simp [ho]) size_msg (by simp [Value.oneCell']) ?_; intro w3 b3 c3 z3))
        obtain ⟨r0, r1, r2, bm, own⟩ := HW.out
        obtain ⟨i1, i1'⟩ := within_range d.group 0 3 (by decide)
        obtain ⟨i2, i2'⟩ := within_range d.frm 0 355 (by decide)
        obtain ⟨i3, i3'⟩ := within_range d.dst 0 355 (by decide)
        obtain ⟨i4, i4'⟩ := within_range d.ballot (-1) 1073741824 (by decide)
        obtain ⟨i5, i5'⟩ := within_range d.slot 0 1073741824 (by decide)
        obtain ⟨i6, i6'⟩ := within_range d.client 0 255 (by decide)
        obtain ⟨i7, i7'⟩ := within_range d.seq 0 1073741824 (by decide)
        have hKW : ∀ b, K b → b < wr.heap.size := fun b hb => by have := hK b hb; omega
        refine bodyPost_ret (v := .agg #[.int .i64 kd, .int .i64 (within d.group 0 3), .int .i64 (within d.frm 0 355), .int .i64 (within d.dst 0 355), .int .i64 (within d.ballot (-1) 1073741824), .int .i64 (within d.slot 0 1073741824), .int .i64 (within d.client 0 255), .int .i64 (within d.seq 0 1073741824), .slice Ac b'.length cc, .slice Al l'.length cl]) (ret_cellB (p := 2) (ty := 26) rfl _ rfl b3 Try.underlying26 size_msg) rfl ⟨_, rfl, ⟨kd, _, _, _, _, _, _, _, b', l'⟩, ⟨hkd, ⟨i1, i1'⟩, ⟨i2, i2'⟩, ⟨i3, i3'⟩, ⟨i4, i4'⟩, ⟨i5, i5'⟩, ⟨i6, i6'⟩, ⟨i7, i7'⟩, by dsimp only; omega, by dsimp only; rw [HLK.out]; omega, hok⟩, ⟨_, _, rfl, ?_, ?_⟩, ?_⟩
        · exact (HS.out.chg (r2.then_ c3 fun k hk h => by have : k = w.heap.size + 1 := h; omega) fun b hb => ⟨hK b hb, id⟩).mono fun b hb => .inl hb
        · refine (own.chg c3 (fun b hb e => by have := (own.lt hb).1; have : b = w.heap.size + 1 := e; omega) (fun b hb => ⟨hKW b hb, fun e => by have := hK b hb; have : b = w.heap.size + 1 := e; omega⟩)).toSl (fun b hb => .inl hb) fun b hb => .inr ?_
          have := own.lt hb
          have := c3.size
          exact ⟨by omega, by omega⟩
        · exact r2.then_ c3 fun k hk h => by have : k = w.heap.size + 1 := h; omega

end Go.Proofs.Ythfeipnbhecjdaa
