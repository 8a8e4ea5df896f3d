/- The law's play: true at any draws. -/
import Derived.Test.YtebdaoihajjgmaaTtk
set_option linter.unusedVariables false
set_option linter.unusedSimpArgs false
namespace Go.Proofs.Ytebdaoihajjgmaa
open Go.RowKit

set_option maxHeartbeats 800000 in
theorem play1_any (K : Nat → Prop) (rg gp : Nat) (l : List Tab) (v : Value) (w : World) (hr : Rd w K rg (encTable l)) (hb : Blk w gp 30 #[v]) (hne : gp ≠ rg) (hKp : ¬ K gp) (h16 : l.length ≤ 16) (hok : ∀ x ∈ l, pRight x.span = true ∧ pNum x = true) (hm : mCode l = 0) :
    Calls Try.prog 48 #[.pointer (some ⟨rg, 0, none⟩), .pointer (some ⟨gp, 0, none⟩)] w fun e w2 => e = .returned (.tuple #[]) ∧ Rd w2 K rg [] ∧ Chg (Or2 (Is rg) (Is gp)) w w2 ∧
      ∃ gt KT, Blk w2 gp 30 #[.pointer (some ⟨gt, 0, none⟩)] ∧ Tbl w2 KT gt (chunk l) ∧ w.heap.size ≤ gt ∧ ∀ b, KT b → w.heap.size ≤ b := by
  have ht := TTake_any K rg l w hr h16 hok hm
  have hlt := hb.lt
  have H := Lib.hid (And.intro ht hb)
  clear ht hb hr hok hm
  go_enter Try.func48, Try.ntmps48
  go_wp2_with fail
  with_reducible refine H.out.1.mono ?_
  rintro e w1 ⟨gt, KT, rfl, hT, hr1, hc1, hg, hKT⟩
  have b1 := H.out.2.chg hc1 hne
  have x1 := b1.cell
  have y1 := b1.frozen
  have b2 : Blk (w1.setCell ⟨gp, 0, none⟩ (.pointer (some ⟨gt, 0, none⟩))) gp 30 #[.pointer (some ⟨gt, 0, none⟩)] := by simpa using b1.set_ 0 (.pointer (some ⟨gt, 0, none⟩))
  have hst := Chg.at_ w1 gp 0 (.pointer (some ⟨gt, 0, none⟩))
  have hT2 := hT.chg hst (show ¬ (gt = gp) by omega) (fun b hb e => by have := hKT b hb; have : b = gp := e; omega)
  have hr2 := hr1.chg hst (show ¬ (rg = gp) by omega) (fun b hb e => hKp (by have : b = gp := e; rw [← this]; exact hb))
  have hc2 : Chg (Or2 (Is rg) (Is gp)) w (w1.setCell ⟨gp, 0, none⟩ (.pointer (some ⟨gt, 0, none⟩))) := (hc1.mono fun _ _ h => .inl h).then_ hst fun _ _ h => .inr h
  have H2 := Lib.hid (And.intro b2 (And.intro hT2 (And.intro hr2 (And.intro hc2 hKT))))
  clear b1 b2 hst hT2 hr2 hc2 hT hr1 hc1 hKT
  go_wp2_with fail
  go_end0
  exact ⟨rfl, H2.out.2.2.1, H2.out.2.2.2.1, gt, KT, H2.out.1, H2.out.2.1, hg, H2.out.2.2.2.2⟩

/-- A put, as the document's and as the table's. -/
theorem put_both {w w' : World} {g : Nat} {tl more : List Tab} {e : Ending} (hcov : Cov tl) (hnum : tl.all pNum = true) (h16 : tl.length ≤ 16) (h : PutPost w g (chunk tl) more e w') : e = .returned (.int .i64 (dCode tl more)) ∧ Chg (Is g) w w' ∧ ∃ K' tl', tl' = (if dCode tl more = 0 then dOut more tl false else tl) ∧ Cov tl' ∧ tl'.all pNum = true ∧ tl'.length ≤ 16 ∧ mCode tl' = 0 ∧ Tbl w' K' g (chunk tl') := by
  obtain ⟨rfl, hc, K', hT⟩ := h
  rw [chunk_flat] at hT
  obtain ⟨h1, h2⟩ := doc_put (more := more) hcov hnum
  rw [chunk_flat]
  refine ⟨by rw [h1], hc, K', _, rfl, ?_⟩
  rw [← h1] at hT
  by_cases h0 : dCode tl more = 0
  · rw [if_pos h0] at hT ⊢
    rw [h2 h0]
    have hm : mCode (putList tl more) = 0 := by
      rw [h1] at h0
      unfold putCode at h0
      split at h0
      · cases h0
      · exact h0
    obtain ⟨m1, m2, m3⟩ := mCode_cov hm
    exact ⟨m1, m2, m3, hm, hT⟩
  · rw [if_neg h0] at hT ⊢
    refine ⟨hcov, hnum, h16, ?_, hT⟩
    have hs : sCover (tl.map (·.span)) = true := (sCover_iff tl).2 hcov
    have ha : tl.any (fun x => !pNum x) = false := by
      rw [List.any_eq_false]
      intro x hx
      simp [List.all_eq_true.1 hnum x hx]
    simp [mCode, hs, ha]
    omega
def PlayI (w wr : World) (g : Nat) (mv : Value) (tl : List Tab) : Prop :=
  TabsAt wr (fun b => b ≠ g ∧ b < wr.heap.size) mv tl ∧ Cov tl ∧ tl.all pNum = true ∧ tl.length ≤ 16 ∧ mCode tl = 0 ∧ (∃ KT, Tbl wr KT g (chunk tl)) ∧ Chg Non w wr
theorem PlayI.grow {w wr W : World} {g : Nat} {mv : Value} {tl : List Tab} (h : PlayI w wr g mv tl) (hc : Chg Non wr W) : PlayI w W g mv tl := by
  obtain ⟨h1, h2, h3, h4, h5, ⟨KT, h6⟩, h7⟩ := h
  exact ⟨(h1.chg hc fun b hb => ⟨hb.2, id⟩).mono fun b hb => ⟨hb.1, Nat.lt_of_lt_of_le hb.2 hc.size⟩, h2, h3, h4, h5, ⟨KT, h6.grow hc⟩, h7.trans hc⟩
theorem PlayI.tells {w wr : World} {g : Nat} {mv : Value} {tl : List Tab} (h : PlayI w wr g mv tl) (n : ByteArray) : Calls Try.prog 12 #[.pointer (some ⟨g, 0, none⟩), mv, .string n] wr fun e w' => e = .returned (.bool true) ∧ Chg Non wr w' := by
  obtain ⟨h1, h2, h3, h4, h5, ⟨KT, h6⟩, h7⟩ := h
  exact tells_yes KT _ g mv tl n wr h6 h1 (fun b hb => hb.2) h2 (by omega)
theorem PlayI.copy {w wr : World} {g : Nat} {mv : Value} {tl : List Tab} (h : PlayI w wr g mv tl) : Calls Try.prog 42 #[.pointer (some ⟨g, 0, none⟩)] wr fun e w' => ∃ g' KC, e = .returned (.pointer (some ⟨g', 0, none⟩)) ∧ Tbl w' KC g' (chunk tl) ∧ Chg Non wr w' := by
  obtain ⟨h1, h2, h3, h4, h5, ⟨KT, h6⟩, h7⟩ := h
  refine (TCopy_any KT g (chunk tl) wr h6 (by rw [chunk_flat]; omega)).mono ?_
  rintro e w' ⟨g', _, rfl, hT, hc⟩
  rw [chunk_flat] at hT
  exact ⟨g', _, rfl, hT, hc⟩
theorem PlayI.same {w wr : World} {g : Nat} {mv : Value} {tl : List Tab} (h : PlayI w wr g mv tl) {KC : Nat → Prop} {g' : Nat} (hC : Tbl wr KC g' (chunk tl)) : Calls Try.prog 43 #[.pointer (some ⟨g', 0, none⟩), .pointer (some ⟨g, 0, none⟩)] wr fun e w' => e = .returned (.bool true) ∧ Chg Non wr w' := by
  obtain ⟨h1, h2, h3, h4, h5, ⟨KT, h6⟩, h7⟩ := h
  have := TSame_any KC KT g' g (chunk tl) (chunk tl) wr hC h6 (by rw [chunk_flat]; omega) (by rw [chunk_flat]; omega)
  rwa [chunk_flat, tEqL_self] at this

set_option maxRecDepth 100000 in
set_option maxHeartbeats 6400000 in
theorem play_any (K : Nat → Prop) (dv : Value) (ds : List Drw) (w : World) (hd : SlT tDrw w K dv ds) (hK : ∀ b, K b → b < w.heap.size) :
    Calls Try.prog 24 #[dv] w fun e w' => e = .returned (.bool true) ∧ Chg Non w w' := by
  obtain ⟨A, cap, rfl, h1, h2⟩ := hd.shape
  obtain ⟨w1, hw1⟩ : ∃ w1, w1 = w.alloc (.cells #[.string ⟨#[]⟩, .string ⟨#[]⟩, .int .i64 1, .int .i64 1] 28) := ⟨_, rfl⟩
  have hb1 : Blk w1 w.heap.size 28 #[.string ⟨#[]⟩, .string ⟨#[]⟩, .int .i64 1, .int .i64 1] := by rw [hw1]; exact Blk.new _ _ _
  have hc1 : Chg Non w w1 := by rw [hw1]; exact (Chg.refl Non w).alloc _
  have ht1 : TabsAt w1 (Is w.heap.size) (.slice (some ⟨w.heap.size, 0, none⟩) 1 1) [tab1] := TabsAt.of_blk hb1 rfl tabOk1 (by simp [maxLen])
  have hn1 := New_t_any _ _ [tab1] w1 ht1 (fun b hb => by rw [show b = w.heap.size from hb]; exact hb1.lt) (by simp)
  have H1 := Lib.hid (And.intro hw1 (And.intro hc1 hn1))
  have HD := Lib.hid (And.intro hd hK)
  clear hw1 hb1 hc1 ht1 hn1 hd
  go_enter Try.func24, Try.ntmps24
  go_wp2_with fail
  rw [← H1.out.1]
  refine H1.out.2.2.mono ?_
  rintro e w2 hpost
  obtain ⟨hc2, g, hg, rfl, hT⟩ := madeYes hpost knw1
  clear hpost
  have H2 := Lib.hid (And.intro (H1.out.2.1.trans hc2) (And.intro hT (Nat.le_trans H1.out.2.1.size hg)))
  clear hc2 hg hT
  obtain ⟨w3, hw3⟩ : ∃ w3, w3 = w2.alloc (.cells #[.string ⟨#[]⟩, .string ⟨#[]⟩, .int .i64 1, .int .i64 1] 28) := ⟨_, rfl⟩
  have hb3 : Blk w3 w2.heap.size 28 #[.string ⟨#[]⟩, .string ⟨#[]⟩, .int .i64 1, .int .i64 1] := by rw [hw3]; exact Blk.new _ _ _
  have hc3 : Chg Non w2 w3 := by rw [hw3]; exact (Chg.refl Non w2).alloc _
  have hgl : g < w2.heap.size := by
    obtain ⟨_, hb, _⟩ := H2.out.2.1
    exact hb.lt
  have hp3 : PlayI w w3 g (.slice (some ⟨w2.heap.size, 0, none⟩) 1 1) [tab1] :=
    ⟨(TabsAt.of_blk (l := [tab1]) hb3 rfl tabOk1 (by simp [maxLen])).mono fun b hb => ⟨by have : b = w2.heap.size := hb; omega, by rw [show b = w2.heap.size from hb]; exact hb3.lt⟩, (mCode_cov knw1).1, (mCode_cov knw1).2.1, by simp, knw1, ⟨_, H2.out.2.1.grow hc3⟩, H2.out.1.trans hc3⟩
  have H3 := Lib.hid (And.intro hw3 hp3)
  clear hw3 hb3 hc3 hp3
  go_upto_block 0 with fail
  go_cut [5] (fun mv wc => ∃ tl, PlayI w wc g mv tl)
  case first =>
    go_wp2_with fail
    rw [← H3.out.1]
    go_loopw [5, 6] (fun mv i wr => ∃ (k : Nat) (tl : List Tab), k ≤ 40 ∧ k ≤ ds.length ∧ i = .int .i64 k ∧ PlayI w wr g mv tl) (fun _ i _ => 40 - (intOf i).toNat)
    case atStart => exact ⟨0, [tab1], by omega, Nat.zero_le _, rfl, H3.out.2⟩
    case round =>
      obtain ⟨k, tl, hk40, hk, rfl, hP⟩ := hrel
      by_cases hlt : k < ds.length
      · by_cases hlt40 : k < 40
        · obtain ⟨hm, hcov, hnum, h16, hmc, ⟨KT, hT⟩, hc⟩ := hP
          obtain ⟨b, off, cs, rfl, hbK, ⟨rv, rfl, ⟨f1, f2, f3, f4⟩, hraw⟩, hcell⟩ := (HD.out.1.chg hc fun b hb => ⟨HD.out.2 b hb, id⟩).get hlt
          obtain ⟨Ar, cr, rfl, _, _⟩ := hraw.shape
          have c0 := hcell 0 _ rfl
          have c1 := hcell 1 _ rfl
          have c2 := hcell 2 _ rfl
          have c3 := hcell 3 _ rfl
          have c4 := hcell 4 _ rfl
          simp only [show tDrw.size = 5 from rfl, Nat.add_zero] at c0 c1 c2 c3 c4
          obtain ⟨d, hd⟩ : ∃ d, d = ds[k] := ⟨_, rfl⟩
          rw [← hd] at f1 f2 f3 f4 hraw c0 c1 c2 c3 c4
          obtain ⟨kind, di, at_, gr, raw⟩ := d
          dsimp only at f1 f2 f3 f4 hraw c0 c1 c2 c3 c4
          have hne := hcov.ne
          have hKw : ∀ b, K b → b < wr.heap.size := fun b hb => Nat.lt_of_lt_of_le (HD.out.2 b hb) hc.size
          obtain ⟨Am, cm, rfl, _, _⟩ := hm.shape
          have hask := asked_any _ K _ _ tl raw kind di at_ gr ((k : Int) + 2) wr hm hraw (fun b hb => hb.2) hKw ⟨by omega, by omega⟩ f1 f2 f3 f4 (fits_i64 (by omega))
          have hgw : g < wr.heap.size := by
            obtain ⟨_, hb, _⟩ := hT
            exact hb.lt
          have HX := Lib.hid (And.intro hm (And.intro hcov (And.intro hnum (And.intro hT (And.intro hc (And.intro hask (And.intro c2 (And.intro f3 hbK))))))))
          clear hm hcov hnum hT hc hask hraw hcell f1 f2 f3 f4 hd hKw
          go_wp2_with fail
          clear c0 c1 c2 c3 c4
          with_reducible refine HX.out.2.2.2.2.2.1.mono ?_
          rintro e w4 ⟨mv4, more, rfl, hmore, hm4, hc4⟩
          obtain ⟨A4, c4, rfl, _, _⟩ := hmore.shape
          have hlp := lput_any _ _ _ _ tl more w4 (HX.out.1.chg hc4 fun b hb => ⟨hb.2, id⟩) hmore (fun b hb => Nat.lt_of_lt_of_le hb.2 hc4.size) (fun b hb => hb) (by omega) (by omega)
          have H4 := Lib.hid (And.intro hlp (And.intro hmore hc4))
          clear hlp hmore hc4
          go_wp2_with fail
          with_reducible refine H4.out.1.mono ?_
          rintro e w5 ⟨nv, rfl, hn5, hc5⟩
          obtain ⟨tl6, htl6⟩ : ∃ tl6, tl6 = (if dCode tl more = 0 then dOut more tl false else tl) := ⟨_, rfl⟩
          rw [← htl6] at hn5
          obtain ⟨An, cn, rfl, _, _⟩ := hn5.shape
          have hput := Put_any KT _ g (chunk tl) _ more w5 (HX.out.2.2.2.1.grow (H4.out.2.2.trans hc5)) (H4.out.2.1.chg hc5 fun b hb => ⟨hb, id⟩) (fun b hb => Nat.lt_of_lt_of_le hb hc5.size) (by rw [chunk_flat]; omega) (by omega)
          have H5 := Lib.hid (And.intro hput (And.intro hn5 (And.intro hc5 htl6)))
          clear hput hn5 hc5 htl6
          go_wp2_with fail
          with_reducible refine H5.out.1.mono ?_
          rintro e w6 hpost
          obtain ⟨rfl, hc6, K6, tl6', htl6', hcov6, hnum6, h166, hmc6, hT6⟩ := put_both HX.out.2.1 HX.out.2.2.1 h16 hpost
          obtain rfl : tl6 = tl6' := H5.out.2.2.2.trans htl6'.symm
          clear hpost htl6'
          have hwr4 : wr.heap.size ≤ w4.heap.size := H4.out.2.2.size
          have hcw6 : Chg Non w w6 := (((HX.out.2.2.2.2.1.trans H4.out.2.2).trans H5.out.2.2.1)).then_ hc6 (fun b hb h => by have : b = g := h; have := H2.out.2.2; omega)
          have hP6 : PlayI w w6 g (.slice An tl6.length cn) tl6 := ⟨(H5.out.2.1.chg hc6 fun b hb => ⟨by
              rcases hb with hb | hb
              · exact Nat.lt_of_lt_of_le hb.2 (H4.out.2.2.trans H5.out.2.2.1).size
              · exact hb.2, fun e => by
              have e' : b = g := e
              rcases hb with hb | hb
              · exact hb.1 e'
              · have := hb.1; omega⟩).mono fun b hb => by
              rcases hb with hb | hb
              · exact ⟨hb.1, Nat.lt_of_lt_of_le hb.2 (Nat.le_trans (H4.out.2.2.trans H5.out.2.2.1).size hc6.size)⟩
              · exact ⟨by have := hb.1; omega, Nat.lt_of_lt_of_le hb.2 hc6.size⟩, hcov6, hnum6, h166, hmc6, ⟨K6, hT6⟩, hcw6⟩
          have e2 := ((H4.out.2.2.trans H5.out.2.2.1).cellv HX.out.2.2.2.2.2.2.1 id)
          have e6 : w6.cell? ⟨b, off + k * 5 + 2, none⟩ = some (.int .i64 at_) := hc6.cellv e2 (fun e => by
            have e' : b = g := e
            have h1 := HD.out.2 b HX.out.2.2.2.2.2.2.2.2
            have h2 := H2.out.2.2
            omega)
          have H6 := Lib.hid (And.intro hP6 (Row_any at_ w6 HX.out.2.2.2.2.2.2.2.1))
          clear hc6 hcov6 hnum6 h166 hmc6 hT6 hcw6 hP6 e2
          go_wp2_with fail
          clear e6
          with_reducible refine H6.out.2.mono ?_
          rintro e w7 ⟨s, rfl, hs, hc7⟩
          have H7 := Lib.hid (H6.out.1.grow hc7)
          clear hs hc7
          go_wp2_with fail
          with_reducible refine (H7.out.tells s).mono ?_
          rintro e w8 ⟨rfl, hc8⟩
          have H8 := Lib.hid (H7.out.grow hc8)
          clear hc8
          go_wp2_with fail
          with_reducible refine (H8.out.tells _).mono ?_
          rintro e w9 ⟨rfl, hc9⟩
          have H9 := Lib.hid (H8.out.grow hc9)
          clear hc9
          go_wp2_with fail
          with_reducible refine H9.out.copy.mono ?_
          rintro e w10 ⟨g', KC, rfl, hTC, hc10⟩
          have H10 := Lib.hid (And.intro (H9.out.grow hc10) hTC)
          clear hc10 hTC
          go_wp2_with fail
          with_reducible refine (H10.out.1.same H10.out.2).mono ?_
          rintro e w11 ⟨rfl, hc11⟩
          have H11 := Lib.hid (H10.out.1.grow hc11)
          clear hc11
          go_wp2_with fail
          go_roundw
          case rel => exact ⟨k + 1, tl6, by omega, by omega, by go_num, H11.out⟩
          case measure => simp [intOf]; omega
        · obtain ⟨Am, cm, rfl, _, _⟩ := hP.1.shape
          have HZ := Lib.hid hP
          clear hP
          go_wp2_with fail
          go_meet
          exact ⟨tl, HZ.out⟩
      · obtain ⟨Am, cm, rfl, _, _⟩ := hP.1.shape
        have HZ := Lib.hid hP
        clear hP
        go_wp2_with fail
        go_meet
        exact ⟨tl, HZ.out⟩
  case rest =>
    obtain ⟨tl, hP⟩ := hcut
    obtain ⟨Am, cm, rfl, _, _⟩ := hP.1.shape
    have hmk : ∀ (fn : Fn) (first cap : Array Value) (w : World), (Instr.makeFunc fn first cap).run Try.prog w = .ok (.func fn first cap) w := fun _ _ _ _ => rfl
    have HP := Lib.hid hP
    have h16 := hP.2.2.2.1
    have hok : ∀ x ∈ tl, pRight x.span = true ∧ pNum x = true := fun x hx => ⟨hP.2.1.right x hx, List.all_eq_true.1 hP.2.2.1 x hx⟩
    have HOK := Lib.hid hok
    clear hP hok
    go_wp2_with fail
    with_reducible refine (New_any wc).mono ?_
    rintro e wa ⟨rfl, hwa, hca, hza⟩
    obtain ⟨KT0, hT0⟩ := HP.out.2.2.2.2.2.1
    have htw := TWrite_any KT0 g wc.heap.size wc.heap.size tl [] wa (hT0.grow hca) h16 (fun x hx => wtab_of (HOK.out x hx).1 (HOK.out x hx).2) hwa (by simp)
    have HA := Lib.hid (And.intro htw hca)
    clear htw hwa hca hza hT0
    go_wp2_with fail
    with_reducible refine HA.out.1.mono ?_
    rintro e wb ⟨rfl, hwb, hcb, _⟩
    simp only [List.nil_append] at hwb
    have hcbn : Chg Non wc wb := HA.out.2.then_ hcb (fun q hq e => by have : wc.heap.size ≤ q := e; omega)
    have HSZ := Lib.hid hcbn.size
    obtain ⟨wx, hwx⟩ : ∃ wx, wx = wb.alloc (.cells #[.pointer none] 30) := ⟨_, rfl⟩
    have hbx : Blk wx wb.heap.size 30 #[.pointer none] := by rw [hwx]; exact Blk.new _ _ _
    have hcx : Chg Non wb wx := by rw [hwx]; exact (Chg.refl Non wb).alloc _
    have hdone := Done_any wc.heap.size wc.heap.size (encTable tl) wx (hwb.grow hcx) (by
      have := encTabs_length tl fun x hx => wtab_of (HOK.out x hx).1 (HOK.out x hx).2
      simp [encTable]; omega)
    have HB := Lib.hid (And.intro hwx (And.intro hbx (And.intro (hcbn.trans hcx) (And.intro hdone hcx))))
    clear hwb hcb hcbn hwx hbx hcx hdone
    go_upto_region 23 with fail
    rw [← HB.out.1]
    go_wp2_with fail
    with_reducible refine HB.out.2.2.2.1.mono ?_
    rintro e wd ⟨bv, rfl, hbs, hcd⟩
    have hbd := HB.out.2.1.chg hcd id
    have hgp : wb.heap.size < wx.heap.size := HB.out.2.1.lt
    have hwxd : wx.heap.size ≤ wd.heap.size := hcd.size
    have hread := Read_any (Fresh wx wd) (Or2 (Is (wd.heap.size + 1)) (Is wb.heap.size)) bv (encTable tl) ⟨wb.heap.size, 0, none⟩ wd hbs (fun b hb => hb.2)
      (fun w2 => ∃ gt KT, Blk w2 wb.heap.size 30 #[.pointer (some ⟨gt, 0, none⟩)] ∧ Tbl w2 KT gt (chunk tl) ∧ wd.heap.size + 3 ≤ gt ∧ ∀ b, KT b → wd.heap.size + 3 ≤ b)
      (fun w1 hrd hc hz => by
        refine (play1_any (Fresh wx wd) (wd.heap.size + 1) wb.heap.size tl _ w1 hrd (hbd.chg hc id) (by omega) (fun h => by have := h.1; omega) h16 HOK.out HP.out.2.2.2.2.1).mono ?_
        rintro e w2 ⟨rfl, r1, r2, gt, KT, r3, r4, r5, r6⟩
        exact ⟨rfl, r1, r2, gt, KT, r3, r4, by omega, fun b hb => by have := r6 b hb; omega⟩)
      (fun b hb1 hb2 hb3 h => by
        rcases h with h | h
        · exact hb3 h
        · have : b = wb.heap.size := h
          omega)
    obtain ⟨Ab, cb, rfl, _, _⟩ := hbs.shape
    have HD2 := Lib.hid (And.intro hread (And.intro hcd hwxd))
    clear hread hcd hbs hbd
    go_wp2_with fail
    with_reducible refine HD2.out.1.mono ?_
    rintro e we ⟨rfl, w2, ⟨gt, KT, hbx, hTt, hgt, hKT⟩, hcA, hcB⟩
    have hbe := hbx.chg hcB (show ¬ (wb.heap.size = wd.heap.size) by omega)
    have hTe := hTt.chg hcB (show ¬ (gt = wd.heap.size) by omega) (fun b hb e => by have := hKT b hb; have : b = wd.heap.size := e; omega)
    have hce : Chg Non wc we := (((HB.out.2.2.1.trans HD2.out.2.1).then_ hcA (fun q hq e => by
        have hsz : wc.heap.size ≤ wb.heap.size := HSZ.out
        rcases e with (e | e) | e
        · have : q = wd.heap.size + 1 := e
          omega
        · have : q = wb.heap.size := e
          omega
        · have : q = wd.heap.size + 1 := e
          omega)).then_ hcB (fun q hq e => by
        have hsz : wc.heap.size ≤ wb.heap.size := HSZ.out
        have : q = wd.heap.size := e
        omega))
    have hPe := HP.out.grow hce
    have x0 := hbe.cell 0
    have x1 : we.cell? ⟨wb.heap.size, 0, none⟩ = some (.pointer (some ⟨gt, 0, none⟩)) := x0
    have HE := Lib.hid (And.intro hPe (And.intro hTe (And.intro hbe (hPe.same hTe))))
    clear x0 hbe hTe hce hPe hcA hcB hbx hTt
    go_wp2_with fail
    clear x1
    with_reducible refine HE.out.2.2.2.mono ?_
    rintro e wf ⟨rfl, hcf⟩
    have x2 : wf.cell? ⟨wb.heap.size, 0, none⟩ = some (.pointer (some ⟨gt, 0, none⟩)) := (HE.out.2.2.1.chg hcf id).cell 0
    have hPf := HE.out.1.grow hcf
    have hte := tells_yes KT _ gt _ tl { data := #[109] } wf (HE.out.2.1.grow hcf) hPf.1 (fun b hb => hb.2) hPf.2.1 (by omega)
    have HF := Lib.hid (And.intro hPf hte)
    clear hPf hte hcf
    go_wp2_with fail
    clear x2
    with_reducible refine HF.out.2.mono ?_
    rintro e wg ⟨rfl, hcg⟩
    have HG := Lib.hid (HF.out.1.2.2.2.2.2.2.trans hcg)
    clear hcg
    go_wp2_with fail
    go_ret
    exact ⟨rfl, HG.out⟩
end Go.Proofs.Ytebdaoihajjgmaa
