/- The law's walk: a message that may be comes back, and its copy stands alone. -/
import Derived.Test.YthfeipnbhecjdaaBump
set_option linter.unusedVariables false
set_option linter.unusedSimpArgs false
namespace Go.Proofs.Ythfeipnbhecjdaa
open Go.RowKit

set_option maxRecDepth 100000 in
set_option maxHeartbeats 3200000 in
theorem MsgBack_yes (K : Nat → Prop) (cs : List Value) (d : Msg) (w : World) (h : MsgAt w K cs d) (hK : ∀ b, K b → b < w.heap.size) (hd : DrawFits d) :
    Calls Try.prog 3 #[.agg cs.toArray] w fun e w' => e = .returned (.bool true) ∧ Chg Non w w' := by
  obtain ⟨bv, lv, rfl, hb, hl⟩ := h
  obtain ⟨A, cap, rfl, _, _⟩ := hb.shape
  obtain ⟨A', cap', rfl, _, _⟩ := hl.shape
  have hmade : ∀ o, Calls Try.prog 4 _ (w.alloc o) _ := fun o => made_any K _ d (w.alloc o) ((show MsgAt w K _ d from ⟨_, _, rfl, hb, hl⟩).chg ((Chg.refl Non w).alloc o) (fun b hb => ⟨hK b hb, id⟩)) (fun b hb => by have := hK b hb; simp; omega) hd
  have HM := Lib.hid hmade
  clear hmade
  go_enter Try.func3, Try.ntmps3
  go_wp2_with fail
  refine (HM.out _).mono ?_
  rintro e w1 ⟨cs1, m, rfl, hok, hm1, hc1⟩
  have hsz1 := hc1.size
  simp at hsz1
  have hcw1 : Chg Non w w1 := ((Chg.refl Non w).alloc _).trans hc1
  have hK1 : ∀ b, Or2 K (Fresh (w.alloc (.cells #[.int .i64 d.kind, .int .i64 d.group, .int .i64 d.frm, .int .i64 d.dst, .int .i64 d.ballot, .int .i64 d.slot, .int .i64 d.client, .int .i64 d.seq, .slice A d.b.length cap, .slice A' d.l.length cap'] 25)) w1) b → b < w1.heap.size := by
    intro b hb
    rcases hb with hb | hb
    · have := hK b hb; omega
    · exact hb.2
  obtain ⟨K1, hKK⟩ : ∃ K1, K1 = Or2 K (Fresh (w.alloc (.cells #[.int .i64 d.kind, .int .i64 d.group, .int .i64 d.frm, .int .i64 d.dst, .int .i64 d.ballot, .int .i64 d.slot, .int .i64 d.client, .int .i64 d.seq, .slice A d.b.length cap, .slice A' d.l.length cap'] 25)) w1) := ⟨_, rfl⟩
  rw [← hKK] at hm1 hK1
  clear hKK hc1 HM
  obtain ⟨bv1, lv1, rfl, hb1, hl1⟩ := hm1
  obtain ⟨A1, k1, rfl, _, _⟩ := hb1.shape
  obtain ⟨L1, k1', rfl, _, _⟩ := hl1.shape
  obtain ⟨w2, hw2⟩ : ∃ w2, w2 = w1.alloc (.cells #[.int .i64 m.kind, .int .i64 m.group, .int .i64 m.frm, .int .i64 m.dst, .int .i64 m.ballot, .int .i64 m.slot, .int .i64 m.client, .int .i64 m.seq, .slice A1 m.b.length k1, .slice L1 m.l.length k1'] 26) := ⟨_, rfl⟩
  have b32 : Blk w2 w1.heap.size 26 #[.int .i64 m.kind, .int .i64 m.group, .int .i64 m.frm, .int .i64 m.dst, .int .i64 m.ballot, .int .i64 m.slot, .int .i64 m.client, .int .i64 m.seq, .slice A1 m.b.length k1, .slice L1 m.l.length k1'] := by rw [hw2]; exact Blk.new _ _ _
  have hc2 : Chg Non w1 w2 := by rw [hw2]; exact (Chg.refl Non w1).alloc _
  have hsz2 : w2.heap.size = w1.heap.size + 1 := by rw [hw2]; simp
  have hm2 : MsgAt w2 K1 [.int .i64 m.kind, .int .i64 m.group, .int .i64 m.frm, .int .i64 m.dst, .int .i64 m.ballot, .int .i64 m.slot, .int .i64 m.client, .int .i64 m.seq, .slice A1 m.b.length k1, .slice L1 m.l.length k1'] m := (show MsgAt w1 K1 _ m from ⟨_, _, rfl, hb1, hl1⟩).chg hc2 (fun b hb => ⟨hK1 b hb, id⟩)
  have henc := Encode_yes K1 _ m w2 hm2 (fun b hb => by have := hK1 b hb; omega) hok
  have HENC := Lib.hid henc
  have HW2 := Lib.hid hw2
  have H2 := Lib.hid (And.intro b32 (And.intro hsz2 (And.intro hm2 (hcw1.trans hc2))))
  clear henc hw2 b32 hc2 hsz2 hm2 hb1 hl1 hcw1
  go_wp2_with fail
  rw [← HW2.out]
  clear HW2
  refine HENC.out.mono ?_
  rintro e w3 ⟨v3, rfl, hs3, hc3⟩
  obtain ⟨A3, k3, rfl, _, _⟩ := hs3.shape
  clear HENC
  go_wp2_with fail
  refine (Decode_any _ _ m w3 hs3 (fun b hb => hb.2) hok).mono ?_
  rintro e w4 ⟨cs4, rfl, hm4, hc4⟩
  obtain ⟨bv4, lv4, rfl, hb4, hl4⟩ := hm4
  obtain ⟨A4, k4, rfl, _, _⟩ := hb4.shape
  obtain ⟨L4, k4', rfl, _, _⟩ := hl4.shape
  obtain ⟨w5, hw5⟩ : ∃ w5, w5 = w4.alloc (.cells #[.int .i64 m.kind, .int .i64 m.group, .int .i64 m.frm, .int .i64 m.dst, .int .i64 m.ballot, .int .i64 m.slot, .int .i64 m.client, .int .i64 m.seq, .slice A4 m.b.length k4, .slice L4 m.l.length k4'] 26) := ⟨_, rfl⟩
  have b65 : Blk w5 w4.heap.size 26 #[.int .i64 m.kind, .int .i64 m.group, .int .i64 m.frm, .int .i64 m.dst, .int .i64 m.ballot, .int .i64 m.slot, .int .i64 m.client, .int .i64 m.seq, .slice A4 m.b.length k4, .slice L4 m.l.length k4'] := by rw [hw5]; exact Blk.new _ _ _
  have hc5 : Chg Non w4 w5 := by rw [hw5]; exact (Chg.refl Non w4).alloc _
  have hsz5 : w5.heap.size = w4.heap.size + 1 := by rw [hw5]; simp
  obtain ⟨b32, hsz2, hm2, hcw2⟩ := H2.out
  have hc25 : Chg Non w2 w5 := (hc3.trans hc4).trans hc5
  have hm65 : MsgAt w5 (Fresh w3 w4) [.int .i64 m.kind, .int .i64 m.group, .int .i64 m.frm, .int .i64 m.dst, .int .i64 m.ballot, .int .i64 m.slot, .int .i64 m.client, .int .i64 m.seq, .slice A4 m.b.length k4, .slice L4 m.l.length k4'] m := (show MsgAt w4 (Fresh w3 w4) _ m from ⟨_, _, rfl, hb4, hl4⟩).chg hc5 (fun b hb => ⟨hb.2, id⟩)
  have hm35 := hm2.chg hc25 (fun b hb => ⟨by have := hK1 b hb; omega, id⟩)
  have b35 := b32.chg hc25 id
  have hcw5 := hcw2.trans hc25
  have hz4 : w2.heap.size ≤ w4.heap.size := (hc3.trans hc4).size
  have hcopy := MCopy_any K1 _ m w5 hm35 (fun b hb => by have := hK1 b hb; omega) hok
  have HC := Lib.hid hcopy
  have HW5 := Lib.hid hw5
  have H5 := Lib.hid (And.intro hsz5 (And.intro hm35 (And.intro hm65 (And.intro hcw5 (And.intro hz4 hsz2)))))
  have B35 := Lib.hid b35
  have B65 := Lib.hid b65
  clear hcopy hw5 b65 hc5 hsz5 hm35 hm65 hcw5 b35 hz4 hsz2 hm2 hcw2 hc25 hc3 hc4 b32 H2 hb4 hl4
  go_upto_region 4 with fail
  rw [← HW5.out]
  clear HW5
  go_wp2_with (refine wpList_loadB rfl 26 (.tmp 3) rfl w1.heap.size rfl B35.out Try.underlying26 size_msg ?_)
  refine HC.out.mono ?_
  rintro e w6 ⟨cs6, rfl, ho6, hc6⟩
  have hat6 := ho6.at_
  obtain ⟨bv6, lv6, KL, rfl, hob, hol, hkl⟩ := ho6
  obtain ⟨A6, k6, rfl, _, _⟩ := hob.shape
  obtain ⟨L6, k6', rfl, _, _⟩ := hol.shape
  clear HC
  obtain ⟨w7, hw7⟩ : ∃ w7, w7 = w6.alloc (.cells #[.int .i64 m.kind, .int .i64 m.group, .int .i64 m.frm, .int .i64 m.dst, .int .i64 m.ballot, .int .i64 m.slot, .int .i64 m.client, .int .i64 m.seq, .slice A6 m.b.length k6, .slice L6 m.l.length k6'] 26) := ⟨_, rfl⟩
  have b87 : Blk w7 w6.heap.size 26 #[.int .i64 m.kind, .int .i64 m.group, .int .i64 m.frm, .int .i64 m.dst, .int .i64 m.ballot, .int .i64 m.slot, .int .i64 m.client, .int .i64 m.seq, .slice A6 m.b.length k6, .slice L6 m.l.length k6'] := by rw [hw7]; exact Blk.new _ _ _
  have hc7 : Chg Non w6 w7 := by rw [hw7]; exact (Chg.refl Non w6).alloc _
  have hsz7 : w7.heap.size = w6.heap.size + 1 := by rw [hw7]; simp
  obtain ⟨hsz5, hm35, hm65, hcw5, hz4, hsz2⟩ := H5.out
  have hc57 : Chg Non w5 w7 := hc6.trans hc7
  have hm37 := hm35.chg hc57 (fun b hb => ⟨by have := hK1 b hb; omega, id⟩)
  have hm67 := hm65.chg hc57 (fun b hb => ⟨by have := hb.2; omega, id⟩)
  have hm87 := hat6.chg hc7 (fun b hb => ⟨hb.2, id⟩)
  have b37 := B35.out.chg hc57 id
  have b67 := B65.out.chg hc57 id
  have hcw7 := hcw5.trans hc57
  have hrb := (ByteRow.of_own hob (Nat.le_refl _) (Nat.le_refl _))
  have hrv := (VoteRow.of_own hol (Nat.le_refl _) (Nat.le_refl _) (fun b hb => (hkl b hb).1))
  have hz6 := hc6.size
  have x3 := b37.cell
  have x6 := b67.cell
  have x8 := b87.cell
  have HW7 := Lib.hid hw7
  clear hw7
  go_upto_region 5 with fail
  rw [← HW7.out]
  clear HW7
  go_wp2_with fail
  refine (RSame_yes K1 (Fresh w3 w4) _ _ m w7 hm37 hm67 (fun b hb => by have := hK1 b hb; omega) (fun b hb => by have := hb.2; omega)).mono ?_
  rintro e w8 ⟨rfl, hc8⟩
  have hm38 := hm37.chg hc8 (fun b hb => ⟨by have := hK1 b hb; omega, id⟩)
  have hm88 := hm87.chg hc8 (fun b hb => ⟨by have := hb.2; omega, id⟩)
  have hz8 := hc8.size
  replace x3 := (b37.chg hc8 id).cell
  replace x8 := (b87.chg hc8 id).cell
  clear x6
  go_wp2_with fail
  refine (RSame_yes K1 (In w5.heap.size w6.heap.size) _ _ m w8 hm38 hm88 (fun b hb => by have := hK1 b hb; omega) (fun b hb => by have := hb.2; omega)).mono ?_
  rintro e w9 ⟨rfl, hc9⟩
  have hc79 := hc8.trans hc9
  have b39 := b37.chg hc79 id
  have b69 := b67.chg hc79 id
  have b89 := b87.chg hc79 id
  have hm39 := hm37.chg hc79 (fun b hb => ⟨by have := hK1 b hb; omega, id⟩)
  have hm69 := hm67.chg hc79 (fun b hb => ⟨by have := hb.2; omega, id⟩)
  have hrb9 := hrb.chg (hc7.trans hc79) (fun _ _ _ => id)
  have hrv9 := hrv.chg (hc7.trans hc79) (fun _ _ _ => id)
  have hcw9 := hcw7.trans hc79
  have hz9 := hc79.size
  clear hm37 hm67 hm87 b37 b67 b87 x3 x8 hrb hrv hcw7 hc79 hc8 hc9 hm38 hm88 hc7 hc57 hcw5 hm35 hm65 H5 hat6 hob hol hkl B35 B65 hs3
  obtain ⟨lo, hLo⟩ : ∃ lo, lo = w5.heap.size := ⟨_, rfl⟩
  obtain ⟨hi, hHi⟩ : ∃ hi, hi = w6.heap.size := ⟨_, rfl⟩
  rw [← hLo] at hrb9 hrv9 hsz5 hz6
  rw [← hHi] at hrb9 hrv9 hsz7 b89 hz6 ⊢
  clear hc6 hLo hHi
  have H9 := Lib.hid (And.intro b39 (And.intro b69 (And.intro b89 (And.intro hm39 (And.intro hm69 hcw9)))))
  clear b39 b69 b89 hm39 hm69 hcw9
  go_wp2_with fail
  go_loopw [9] (fun i wr => ∃ k : Nat, k ≤ m.b.length ∧ i = .int .i64 k ∧ Chg (In lo hi) w9 wr ∧ ByteRow wr lo hi (.slice A6 m.b.length k6) m.b.length ∧ VoteRow wr lo hi (.slice L6 m.l.length k6') m.l.length) (fun i _ => m.b.length - (intOf i).toNat)
  case atStart => exact ⟨0, by omega, rfl, Chg.refl _ _, hrb9, hrv9⟩
  case round =>
    clear hrb9 hrv9
    obtain ⟨k, hk, rfl, hcr, hrb, hrv⟩ := hrel
    have b8r := H9.out.2.2.1.chg hcr (fun h => by have := h.2; omega)
    have x8 := b8r.cell
    by_cases hlt : k < m.b.length
    · obtain ⟨g, cur, x, rfl, hg1, hg2, hgb, c0⟩ := hrb.get hlt
      have f0 := hgb.frozen k
      have hk1 : (k : Int) < (m.b.length : Int) := by omega
      have HR := Lib.hid (And.intro hcr (And.intro hrb (And.intro hrv (And.intro hg1 (And.intro hg2 hgb)))))
      clear hcr hrb hrv hg1 hg2 hgb b8r
      go_wp2_with fail
      go_roundw
      case rel =>
        obtain ⟨hcr, hrb, hrv, hg1, hg2, hgb⟩ := HR.out
        have hbump : ∀ y, Bump lo hi wr (wr.setCell ⟨g, k, none⟩ (.int .u8 y)) := fun y => ⟨g, k, _, _, cur, hg1, hg2, hgb, rfl, .inl ⟨rfl, y, rfl⟩⟩
        exact ⟨k + 1, by omega, by go_num, hcr.trans (hbump _).chg, hrb.bump (hbump _), hrv.bump (hbump _)⟩
      case measure => simp [intOf]; omega
    · have hk2 : ¬ (k : Int) < (m.b.length : Int) := by omega
      have HR := Lib.hid (And.intro hcr (And.intro hrb hrv))
      clear hcr hrb hrv b8r
      go_wp2_with fail
      clear x8
      go_loopw [10, 11] (fun i _ wr => ∃ k : Nat, k ≤ m.l.length ∧ i = .int .i64 k ∧ Chg (In lo hi) w9 wr ∧ VoteRow wr lo hi (.slice L6 m.l.length k6') m.l.length) (fun i _ _ => m.l.length - (intOf i).toNat)
      case atStart => exact ⟨0, by omega, rfl, HR.out.1, HR.out.2.2⟩
      case round =>
        obtain ⟨j, hj, rfl, hcr, hrv⟩ := hrel
        have b8r := H9.out.2.2.1.chg hcr (fun h => by have := h.2; omega)
        have x8 := b8r.cell
        by_cases hltj : j < m.l.length
        · obtain ⟨g, cur, x, bv, nb, rfl, hg1, hg2, hgb, c0, c2, hrb⟩ := hrv.get hltj
          obtain ⟨Ab, kb, rfl, hnb, hkb⟩ := hrb.shape
          have f0 := hgb.frozen (j * 3)
          have hj1 : (j : Int) < (m.l.length : Int) := by omega
          have hbump : ∀ y, Bump lo hi wr (wr.setCell ⟨g, j * 3, none⟩ (.int .i64 y)) := fun y => ⟨g, _, _, _, cur, hg1, hg2, hgb, rfl, .inr ⟨rfl, by omega, y, rfl⟩⟩
          have hgy := fun y => hgb.set_ (j * 3) (.int .i64 y)
          have hc2 : ∀ y, (cur.setIfInBounds (j * 3) (.int .i64 y))[j * 3 + 2]? = some (.slice Ab nb kb) := fun y => by
            rw [Array.getElem?_setIfInBounds_ne (by omega), ← hgb.cell]; exact c2
          have HR := Lib.hid (And.intro hcr (And.intro hrv (And.intro hrb (And.intro hbump (And.intro hgy hc2)))))
          clear hcr hrv hrb hbump hgy hc2 hgb b8r
          go_wp2_with fail
          obtain ⟨hcr, hrv, hrb, hbump, hgy, hc2⟩ := HR.out
          replace hcr := hcr.trans (hbump (wrap64 (x + 1))).chg
          replace hrv := hrv.bump (hbump (wrap64 (x + 1)))
          replace hrb := hrb.bump (hbump (wrap64 (x + 1)))
          replace hgy := hgy (wrap64 (x + 1))
          replace hc2 := hc2 (wrap64 (x + 1))
          clear hbump HR c0 c2 f0 x8
          go_loopw [11] (fun i wr => ∃ k : Nat, k ≤ nb ∧ i = .int .i64 k ∧ Chg (In lo hi) w9 wr ∧ VoteRow wr lo hi (.slice (some ⟨g, 0, none⟩) m.l.length k6') m.l.length ∧ ByteRow wr lo hi (.slice Ab nb kb) nb ∧ ∃ cur, Blk wr g 36 cur ∧ cur[j * 3 + 2]? = some (.slice Ab nb kb)) (fun i _ => nb - (intOf i).toNat)
          case atStart => exact ⟨0, by omega, rfl, hcr, hrv, hrb, _, hgy, hc2⟩
          case round =>
            clear hcr hrv hrb hgy hc2
            obtain ⟨k2, hk2', rfl, hcr, hrv, hrb, cur2, hgy, hc2⟩ := hrel
            have b8r := H9.out.2.2.1.chg hcr (fun h => by have := h.2; omega)
            have x8 := b8r.cell
            have c2 := (hgy.cell (j * 3 + 2)).trans hc2
            by_cases hlt2 : k2 < nb
            · obtain ⟨g', cur', x', rfl, hg1', hg2', hgb', c0⟩ := hrb.get hlt2
              have f0 := hgb'.frozen k2
              have hne := Blk.ne_ hgy hgb' (by decide)
              have hkk : (k2 : Int) < (nb : Int) := by omega
              have hbump : ∀ y, Bump lo hi wr (wr.setCell ⟨g', k2, none⟩ (.int .u8 y)) := fun y => ⟨g', _, _, _, cur', hg1', hg2', hgb', rfl, .inl ⟨rfl, y, rfl⟩⟩
              have hgy' := fun y => hgy.far (p := ⟨g', k2, none⟩) hne (.int .u8 y)
              have HR := Lib.hid (And.intro hcr (And.intro hrv (And.intro hrb (And.intro hbump (And.intro hgy' hc2)))))
              clear hcr hrv hrb hbump hgy' hc2 hgb' hgy b8r
              go_wp2_with fail
              go_roundw
              case rel =>
                obtain ⟨hcr, hrv, hrb, hbump, hgy, hc2⟩ := HR.out
                exact ⟨k2 + 1, by omega, by go_num, hcr.trans (hbump _).chg, hrv.bump (hbump _), hrb.bump (hbump _), _, hgy _, hc2⟩
              case measure => simp [intOf]; omega
            · have hkk : ¬ (k2 : Int) < (nb : Int) := by omega
              have HR := Lib.hid (And.intro hcr hrv)
              clear hcr hrv hrb hgy hc2 b8r
              go_wp2_with fail
              go_roundw
              case rel => exact ⟨j + 1, by omega, by go_num, HR.out.1, HR.out.2⟩
              case measure => simp [intOf]; omega
        · have hj1 : ¬ (j : Int) < (m.l.length : Int) := by omega
          obtain ⟨b39, b69, b89, hm39, hm69, hcw9⟩ := H9.out
          have hn1 : ∀ b, b < lo → ¬ In lo hi b := fun b hb h => by have := h.1; omega
          have b3r := b39.chg hcr (hn1 _ (by omega))
          have b6r := b69.chg hcr (hn1 _ (by omega))
          have hm3r := hm39.chg hcr (fun b hb => ⟨by have := hK1 b hb; omega, hn1 _ (by have := hK1 b hb; omega)⟩)
          have hm6r := hm69.chg hcr (fun b hb => ⟨by have := hb.2; omega, hn1 _ (by have := hb.2; omega)⟩)
          have hcwr : Chg Non w wr := hcw9.then_ hcr (fun b hb h => by have := h.1; omega)
          have hzr := hcr.size
          have x3 := b3r.cell
          have x6 := b6r.cell
          have hsame := RSame_yes K1 (Fresh w3 w4) _ _ m wr hm3r hm6r (fun b hb => by have := hK1 b hb; omega) (fun b hb => by have := hb.2; omega)
          have HS := Lib.hid hsame
          have HC := Lib.hid hcwr
          clear hsame hcwr b39 b69 b89 hm39 hm69 hcw9 b3r b6r hm3r hm6r hcr hrv hn1 H9 b8r
          go_wp2_with fail
          refine HS.out.mono ?_
          rintro e wx ⟨rfl, hcx⟩
          go_wp2_with fail
          refine (known_yes wx).mono ?_
          rintro e wy ⟨rfl, hcy⟩
          go_wp2_with fail
          go_ret
          exact ⟨rfl, (HC.out.trans hcx).trans hcy⟩
end Go.Proofs.Ythfeipnbhecjdaa
