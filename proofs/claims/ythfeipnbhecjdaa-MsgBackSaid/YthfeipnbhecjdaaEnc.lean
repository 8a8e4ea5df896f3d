/- The contract of msg.Encode. -/
import Derived.Test.YthfeipnbhecjdaaMsg
set_option linter.unusedVariables false
set_option linter.unusedSimpArgs false
namespace Go.Proofs.Ythfeipnbhecjdaa
open Go.RowKit

def encVote (x : Vote) : List Int := be x.slot 4 ++ be (x.ballot + 1) 4 ++ be x.v.length 4 ++ x.v
def encVotes : List Vote → List Int
  | [] => []
  | x :: l => encVote x ++ encVotes l
def encNums : List Int → List Int
  | [] => []
  | n :: l => be n 4 ++ encNums l
def encHead (m : Msg) : List Int := [m.kind, m.group] ++ encNums [m.frm, m.dst, m.ballot + 1, m.slot] ++ [m.client] ++ be m.seq 4 ++ be m.b.length 4 ++ m.b ++ [(m.l.length : Int)]
def encMsg (m : Msg) : List Int := encHead m ++ encVotes m.l
theorem encVotes_snoc (l : List Vote) (x : Vote) : encVotes (l ++ [x]) = encVotes l ++ encVote x := by
  induction l with
  | nil => simp [encVotes]
  | cons y l ih => simp [encVotes, ih]
theorem encNums_snoc (l : List Int) (x : Int) : encNums (l ++ [x]) = encNums l ++ be x 4 := by
  induction l with
  | nil => simp [encNums]
  | cons y l ih => simp [encNums, ih]
theorem encNums_length (l : List Int) : (encNums l).length = 4 * l.length := by
  induction l with
  | nil => rfl
  | cons y l ih => simp [encNums, be_length, ih]; omega
theorem encVote_length (x : Vote) (h : VoteOk x) : (encVote x).length ≤ 1048588 := by
  have := h.2.2.2.2
  simp [encVote, be_length]; omega
theorem encVotes_length (l : List Vote) (h : ∀ x ∈ l, VoteOk x) : (encVotes l).length ≤ 1048588 * l.length := by
  induction l with
  | nil => simp [encVotes]
  | cons y l ih =>
    have h1 := encVote_length y (h y (by simp))
    have h2 := ih fun x hx => h x (by simp [hx])
    simp [encVotes]; omega

/-- The box of m, and that nothing that was there has turned. -/
structure EncAt (w wi : World) (cs : List Value) : Prop where
  box : Blk wi w.heap.size 26 cs.toArray
  chg : Chg (Ge w.heap.size) w wi
theorem EncAt.start (w : World) (cs : List Value) : EncAt w (w.alloc (.cells cs.toArray 26)) cs := ⟨Blk.new w _ _, (Chg.refl _ w).alloc _⟩
theorem EncAt.step {w w1 w2 : World} {cs : List Value} {lo : Nat} (h : EncAt w w1 cs) (hc : Chg (Ge lo) w1 w2) (hlo : w.heap.size ≤ lo) (hk : KeepB w1 w2) : EncAt w w2 cs :=
  ⟨hk _ _ _ h.box (by decide) (by decide), h.chg.then_ hc fun k _ hk => Nat.le_trans hlo hk⟩
theorem EncAt.grow {w w1 w2 : World} {cs : List Value} (h : EncAt w w1 cs) (hc : Chg Non w1 w2) : EncAt w w2 cs := ⟨h.box.chg hc id, h.chg.grow hc⟩
theorem EncAt.cell {w w1 : World} {cs : List Value} (h : EncAt w w1 cs) : ∀ j, w1.cell? ⟨w.heap.size, j, none⟩ = cs.toArray[j]? := fun j => h.box.cell j

set_option maxRecDepth 100000 in
set_option maxHeartbeats 3200000 in
theorem Encode_yes (K : Nat → Prop) (cs : List Value) (m : Msg) (w : World) (h : MsgAt w K cs m) (hK : ∀ b, K b → b < w.heap.size) (hm : MsgOk m) :
    Calls Try.prog 5 #[.agg cs.toArray] w fun e w' => ∃ v', e = .returned (.tuple #[v', .int .i64 0]) ∧ SlT tB w' (Fresh w w') v' (encMsg m) ∧ Chg Non w w' := by
  have i0 := EncAt.start w cs
  have hcall := MRight_yes K cs m (w.alloc (.cells cs.toArray 26)) (h.chg ((Chg.refl Non w).alloc _) fun b hb => ⟨hK b hb, id⟩) (fun b hb => by have := hK b hb; simp; omega) hm
  obtain ⟨bv, lv, rfl, hb, hl⟩ := h
  obtain ⟨A, cap, rfl, hb1, hb2⟩ := hb.shape
  obtain ⟨A', cap', rfl, hl1, hl2⟩ := hl.shape
  obtain ⟨⟨a1, a1'⟩, ⟨a2, a2'⟩, ⟨a3, a3'⟩, ⟨a4, a4'⟩, ⟨a5, a5'⟩, ⟨a6, a6'⟩, ⟨a7, a7'⟩, ⟨a8, a8'⟩, a9, a10, hv⟩ := hm
  have HV := Lib.hid hv
  have HC := Lib.hid hcall
  clear hcall hv
  go_enter Try.func5, Try.ntmps5
  go_wp2_with fail
  refine HC.out.mono ?_
  rintro e w1 ⟨rfl, hc1⟩
  have i1 := i0.grow hc1
  clear HC hc1 i0
  go_wp2_with fail
  refine (New_any w1).mono ?_
  rintro e w2 ⟨rfl, hw2, hc2, _⟩
  have i2 := i1.grow hc2
  have hlo : w.heap.size ≤ w1.heap.size := i1.chg.size
  obtain ⟨lo, hLo⟩ : ∃ lo, lo = w1.heap.size := ⟨_, rfl⟩
  rw [← hLo] at hw2 hlo ⊢
  clear hc2 i1 hLo
  have x2 := i2.cell
  go_wp2_with fail
  refine (Byte_any lo lo [] m.kind w2 hw2 (fits_u8 ⟨by omega, by omega⟩) (by simp)).mono ?_
  rintro e w3 ⟨rfl, hw3, hc3, hk3⟩
  have i3 := i2.step hc3 hlo hk3
  have x3 := i3.cell
  clear hc3 hk3 i2 x2 hw2
  go_wp2_with fail
  refine (Byte_any lo lo [m.kind] m.group w3 hw3 (fits_u8 ⟨by omega, by omega⟩) (by simp)).mono ?_
  rintro e w4 ⟨rfl, hw4, hc4, hk4⟩
  have i4 := i3.step hc4 hlo hk4
  have x4 := i4.cell
  clear hc4 hk4 i3 x3 hw3
  go_wp2_with fail
  obtain ⟨gi, hGi⟩ : ∃ gi, gi = w4.heap.size := ⟨_, rfl⟩
  have hgi0 : lo ≤ gi := by rw [hGi]; have := hw4.lt; omega
  have b5 : Blk (w4.alloc (.cells #[.int .i64 m.frm, .int .i64 m.dst, .int .i64 (m.ballot + 1), .int .i64 m.slot] 3)) gi 3 #[.int .i64 m.frm, .int .i64 m.dst, .int .i64 (m.ballot + 1), .int .i64 m.slot] := by rw [hGi]; exact Blk.new _ _ _
  have hw5 := hw4.chg ((Chg.refl Non w4).alloc (.cells #[.int .i64 m.frm, .int .i64 m.dst, .int .i64 (m.ballot + 1), .int .i64 m.slot] 3)) (fun _ _ h => h)
  have i5 := i4.grow ((Chg.refl Non w4).alloc (.cells #[.int .i64 m.frm, .int .i64 m.dst, .int .i64 (m.ballot + 1), .int .i64 m.slot] 3))
  rw [← hGi]
  clear hGi hw4 i4 x4
  go_loopw [6, 34] (fun _ i wr => ∃ k : Nat, k ≤ 4 ∧ i = .int .i64 k ∧ Wr wr lo lo ([m.kind, m.group] ++ encNums ([m.frm, m.dst, m.ballot + 1, m.slot].take k)) ∧ EncAt w wr [.int .i64 m.kind, .int .i64 m.group, .int .i64 m.frm, .int .i64 m.dst, .int .i64 m.ballot, .int .i64 m.slot, .int .i64 m.client, .int .i64 m.seq, .slice A m.b.length cap, .slice A' m.l.length cap'] ∧ Blk wr gi 3 #[.int .i64 m.frm, .int .i64 m.dst, .int .i64 (m.ballot + 1), .int .i64 m.slot]) (fun _ i _ => 4 - (intOf i).toNat)
  case atStart => exact ⟨0, by omega, rfl, hw5, i5, b5⟩
  case round =>
    clear hw5 i5 b5
    obtain ⟨k, hk, rfl, hwr, ir, br⟩ := hrel
    by_cases hlt : k < 4
    · have hb5 := br.cell
      have c4 : k = 0 ∨ k = 1 ∨ k = 2 ∨ k = 3 := by omega
      have BR := Lib.hid br
      clear br
      rcases c4 with rfl | rfl | rfl | rfl
      all_goals
        go_wp2_with fail
        refine (WNum_any lo lo _ _ wr hwr ⟨by omega, by omega⟩ (by simp [encNums, be_length])).mono ?_
        rintro e wq ⟨rfl, hwq, hcq, hkq⟩
        have iq := ir.step hcq hlo hkq
        have bq := hkq _ _ _ BR.out (by decide) (by decide)
        clear hcq hkq ir hb5 hwr
        go_wp2
        go_roundw
      all_goals try (case measure => simp [intOf])
      all_goals first
        | exact ⟨1, by omega, rfl, by simpa [encNums] using hwq, iq, bq⟩
        | exact ⟨2, by omega, rfl, by simpa [encNums] using hwq, iq, bq⟩
        | exact ⟨3, by omega, rfl, by simpa [encNums] using hwq, iq, bq⟩
        | exact ⟨4, by omega, rfl, by simpa [encNums] using hwq, iq, bq⟩
    · have : k = 4 := by omega
      subst this
      clear br
      obtain ⟨l6, hL6⟩ : ∃ l6, l6 = [m.kind, m.group] ++ encNums [m.frm, m.dst, m.ballot + 1, m.slot] := ⟨_, rfl⟩
      have e6 : l6.length = 18 := by rw [hL6]; simp [encNums, be_length]
      have hw6 : Wr wr lo lo l6 := by rw [hL6]; exact hwr
      have H6 := Lib.hid hL6
      have x6 := ir.cell
      clear hL6 hwr
      go_wp2_with fail
      refine (Byte_any lo lo l6 m.client wr hw6 (fits_u8 ⟨by omega, by omega⟩) (by omega)).mono ?_
      rintro e w7 ⟨rfl, hw7, hc7, hk7⟩
      have i7 := ir.step hc7 hlo hk7
      have x7 := i7.cell
      clear hc7 hk7 x6 hw6 ir
      go_wp2_with fail
      refine (WNum_any lo lo _ m.seq w7 hw7 ⟨by omega, by omega⟩ (by simp; omega)).mono ?_
      rintro e w8 ⟨rfl, hw8, hc8, hk8⟩
      have i8 := i7.step hc8 hlo hk8
      have x8 := i8.cell
      have hb8 := hb.chg i8.chg (fun b hb => ⟨hK b hb, fun h => by have := hK b hb; have : w.heap.size ≤ b := h; omega⟩)
      clear hc8 hk8 x7 hw7 i7
      go_wp2_with fail
      refine (WText_any lo lo _ K (.slice A m.b.length cap) m.b w8 hw8 hb8 (fun q hq => by have := hK q hq; omega) a9 (by simp [be_length]; omega)).mono ?_
      rintro e w9 ⟨rfl, hw9, hc9, hk9⟩
      have i9 := i8.step hc9 hlo hk9
      have x9 := i9.cell
      clear hc9 hk9 x8 hw8 i8 hb8
      go_wp2_with fail
      refine (Byte_any lo lo _ m.l.length w9 hw9 (fits_u8 ⟨by omega, by omega⟩) (by simp [be_length]; omega)).mono ?_
      rintro e wa ⟨rfl, hwa, hca, hka⟩
      have ia := i9.step hca hlo hka
      have xa := ia.cell
      clear hca hka x9 hw9 i9
      go_wp2_with fail
      obtain ⟨la, hLa⟩ : ∃ la, la = encHead m := ⟨_, rfl⟩
      have hwa' : Wr wa lo lo la := by rw [hLa, encHead, ← H6.out]; exact hwa
      have ea : la.length ≤ 1048604 := by rw [hLa]; simp [encHead, encNums, be_length]; omega
      have HA := Lib.hid hLa
      clear hLa hwa xa e6 H6 l6
      go_loopw [8, 66] (fun _ i wr => ∃ k : Nat, k ≤ m.l.length ∧ i = .int .i64 k ∧ Wr wr lo lo (la ++ encVotes (m.l.take k)) ∧ Chg (Ge w.heap.size) w wr) (fun _ i _ => m.l.length - (intOf i).toNat)
      case atStart => exact ⟨0, by omega, rfl, by simpa [encVotes] using hwa', ia.chg⟩
      case round =>
        clear hwa' ia
        obtain ⟨k, hk, rfl, hwr, hcr⟩ := hrel
        obtain ⟨lk, hLk⟩ : ∃ lk, lk = la ++ encVotes (m.l.take k) := ⟨_, rfl⟩
        have ek : lk.length ≤ 17826012 := by
          have := encVotes_length (m.l.take k) fun x hx => HV.out x (List.mem_of_mem_take hx)
          have : (m.l.take k).length ≤ 16 := by simp; omega
          rw [hLk, List.length_append]; omega
        rw [← hLk] at hwr
        have HK := Lib.hid hLk
        clear hLk
        by_cases hlt : k < m.l.length
        · have hlr := hl.chg hcr (fun b hb => ⟨hK b hb, fun h => by have := hK b hb; have : w.heap.size ≤ b := h; omega⟩)
          obtain ⟨bb, off, cv, rfl, hbb, hr, hcell⟩ := hlr.get hlt
          have hv := HV.out _ (List.getElem_mem hlt)
          have hsnoc : encVotes (m.l.take (k + 1)) = encVotes (m.l.take k) ++ encVote m.l[k] := by rw [List.take_add_one, List.getElem?_eq_getElem hlt, Option.toList_some, encVotes_snoc]
          have HS := Lib.hid hsnoc
          clear hsnoc
          obtain ⟨x, hx⟩ : ∃ x, x = m.l[k] := ⟨_, rfl⟩
          rw [← hx] at hr hv HS
          have HX := Lib.hid hx
          clear hx
          obtain ⟨bv, rfl, f1, f2, hbv⟩ := hr
          obtain ⟨Av, cv, rfl, _, _⟩ := hbv.shape
          obtain ⟨v1, v2, v3, v4, v5⟩ := hv
          have c0 := hcell 0 _ rfl
          have c1 := hcell 1 _ rfl
          have c2 := hcell 2 _ rfl
          simp [tVote] at c0 c1 c2
          have bx : Blk (wr.alloc (.cells #[.int .i64 x.slot, .int .i64 x.ballot, .slice Av x.v.length cv] 36)) wr.heap.size 36 #[.int .i64 x.slot, .int .i64 x.ballot, .slice Av x.v.length cv] := Blk.new _ _ _
          have hwx := hwr.chg ((Chg.refl Non wr).alloc (.cells #[.int .i64 x.slot, .int .i64 x.ballot, .slice Av x.v.length cv] 36)) (fun _ _ h => h)
          have hcx := hcr.alloc (.cells #[.int .i64 x.slot, .int .i64 x.ballot, .slice Av x.v.length cv] 36)
          have BX := Lib.hid bx
          clear bx
          go_wp2_with fail
          refine (WNum_any lo lo lk x.slot _ hwx ⟨by omega, by omega⟩ (by omega)).mono ?_
          rintro e y1 ⟨rfl, hy1, hcy1, hky1⟩
          have by1 := hky1 _ _ _ BX.out (by decide) (by decide)
          have xy1 := by1.cell
          have BY := Lib.hid by1
          have cy1 := hcx.then_ hcy1 (fun k _ h => Nat.le_trans hlo h)
          have dy1 := ((Chg.refl (Ge lo) wr).alloc (.cells #[.int .i64 x.slot, .int .i64 x.ballot, .slice Av x.v.length cv] 36)).trans hcy1
          clear by1 hky1 hcy1 hwx hcx
          go_wp2_with fail
          refine (WNum_any lo lo _ (x.ballot + 1) y1 hy1 ⟨by omega, by omega⟩ (by simp [be_length]; omega)).mono ?_
          rintro e y2 ⟨rfl, hy2, hcy2, hky2⟩
          have by2 := hky2 _ _ _ BY.out (by decide) (by decide)
          have xy2 := by2.cell
          have cy2 := cy1.then_ hcy2 (fun k _ h => Nat.le_trans hlo h)
          have hbv2 := hbv.chg (dy1.trans hcy2) (fun b hb => ⟨by have := hK b hb; have := hcr.size; omega, fun h => by have := hK b hb; have : lo ≤ b := h; omega⟩)
          clear by2 hky2 hcy2 hy1 xy1 cy1 dy1
          go_wp2_with fail
          refine (WText_any lo lo _ K (.slice Av x.v.length cv) x.v y2 hy2 hbv2 (fun q hq => by have := hK q hq; omega) v5 (by simp [be_length]; omega)).mono ?_
          rintro e y3 ⟨rfl, hy3, hcy3, hky3⟩
          have cy3 := cy2.then_ hcy3 (fun k _ h => Nat.le_trans hlo h)
          clear hky3 hcy3 hy2 xy2 cy2 hbv2
          go_wp2_with fail
          go_roundw
          case rel =>
            refine ⟨k + 1, by omega, by go_num, ?_, cy3⟩
            rw [HS.out, encVote, ← List.append_assoc, ← HK.out]
            simpa [List.append_assoc] using hy3
          case measure => simp [intOf]; omega
        · go_wp2_with fail
          have : k = m.l.length := by omega
          subst this
          refine (Done_any lo lo lk wr hwr (by omega)).mono ?_
          rintro e y ⟨v', rfl, hs, hc⟩
          go_wp2
          go_ret2
          refine ⟨v', rfl, ?_, ?_⟩
          · rw [encMsg, ← HA.out]
            have := HK.out
            rw [List.take_length] at this
            rw [← this]
            exact hs.mono fun b hb => ⟨Nat.le_trans hcr.size hb.1, hb.2⟩
          · exact (hcr.grow hc).mono fun k hk h => absurd (show w.heap.size ≤ k from h) (by omega)

end Go.Proofs.Ythfeipnbhecjdaa
