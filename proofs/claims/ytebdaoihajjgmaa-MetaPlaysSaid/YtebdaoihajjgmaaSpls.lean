/- The law MetaSplits: true at every input. -/
import Derived.Test.YtebdaoihajjgmaaAsk
set_option linter.unusedVariables false
set_option linter.unusedSimpArgs false
namespace Go.Proofs.Ytebdaoihajjgmaa
open Go.RowKit

structure Drw where
  kind : Int
  i : Int
  at_ : Int
  group : Int
  raw : List Tab
def tDrw : Ty Drw where
  size := 5
  rep w K cs x := ∃ rv, cs = [.int .i64 x.kind, .int .i64 x.i, .int .i64 x.at_, .int .i64 x.group, rv] ∧ (Fits .i64 x.kind ∧ Fits .i64 x.i ∧ Fits .i64 x.at_ ∧ Fits .i64 x.group) ∧ SlT tTab w K rv x.raw
  len := by rintro w K cs x ⟨v, rfl, _⟩; rfl
  one := by
    rintro w K cs x ⟨v, rfl, _, h⟩ u hu
    obtain ⟨A, cap, rfl, _⟩ := h.shape
    simp at hu
    rcases hu with rfl | rfl | rfl | rfl | rfl <;> rfl
  keep := by rintro w w' K K' cs x ⟨v, rfl, hf, h⟩ hk; exact ⟨v, rfl, hf, h.keep hk⟩

/-- What a table of tablets that cover all answers of a name. -/
structure NameF (wi : World) (g : Nat) (tl : List Tab) (n : ByteArray) (x b : Tab) (ok : Bool) (q4 j4 : Nat) (p : List Tab) : Prop where
  find : ∀ W, Chg Non wi W → Calls Try.prog 17 #[.pointer (some ⟨g, 0, none⟩), .string n] W fun e w' => e = .returned x.v ∧ Chg Non W w'
  bef : ∀ W, Chg Non wi W → Calls Try.prog 18 #[.pointer (some ⟨g, 0, none⟩), .string n] W fun e w' => e = .returned (.tuple #[b.v, .bool ok]) ∧ Chg Non W w'
  metas : ∀ W, Chg Non wi W → Calls Try.prog 19 #[.pointer (some ⟨g, 0, none⟩)] W fun e w' => ∃ v', e = .returned v' ∧ SlT (tSl tTab) w' (In W.heap.size w'.heap.size) v' (chunk tl) ∧ Chg Non W w'
  mta : ∀ W, Chg Non wi W → Calls Try.prog 20 #[.pointer (some ⟨g, 0, none⟩), .string n] W fun e w' => e = .returned (.int .i64 q4) ∧ Chg Non W w'
  has : pHas x.span n = true
  okLo : ok = !sE x.span.lo
  link : ok = true → b.span.hi.toList = x.span.lo.toList
  lt : q4 < (chunk tl).length
  got : (chunk tl)[q4] = p
  len : p.length ≤ 4
  jlt : j4 < p.length
  key : ∀ i (h : i < p.length), tEq p[i] x = decide (i = j4)
theorem name_any {K : Nat → Prop} {wi : World} {g : Nat} {tl : List Tab} (hcov : Cov tl) (h16 : tl.length ≤ 16) (hT : Tbl wi K g (chunk tl)) (n : ByteArray) : ∃ x b ok q4 j4 p, NameF wi g tl n x b ok q4 j4 p := by
  obtain ⟨q, hat⟩ := hcov.at_ n
  have hlt := hat.lt
  have hx : pHas tl[q].span n = true := by rw [hat.has q hlt]; simp
  have hkey : ∀ i (h : i < ((chunk tl)[q / 4]'hat.mlt).length), tEq ((chunk tl)[q / 4]'hat.mlt)[i] tl[q] = decide (i = q % 4) := by
    intro i h
    obtain ⟨h4, e⟩ := chunk_at tl (q / 4) i hat.mlt h
    have hl4 := (chunk_len tl _ (List.getElem_mem hat.mlt)).2
    rw [e, hat.eqs _ h4, decide_eq_decide]
    omega
  have h64 : tl.length ≤ 64 := by omega
  have h4 := (chunk_len tl _ (List.getElem_mem hat.mlt)).2
  rcases Nat.eq_zero_or_pos q with h0 | h0
  · refine ⟨tl[q], zeroTab, false, q / 4, q % 4, _, fun W hW => Find_at (hT.grow hW) h64 hat, fun W hW => ?_, fun W hW => Metas_at (hT.grow hW) h64, fun W hW => Meta_at (hT.grow hW) h64 hat, hx, ?_, fun h => (nomatch h), hat.mlt, rfl, h4, hat.jlt, hkey⟩
    · refine (Before_at (hT.grow hW) h64 hat).mono ?_
      rintro e w' ⟨⟨_, rfl⟩ | ⟨y, _, h, _⟩, hc⟩
      · exact ⟨rfl, hc⟩
      · omega
    · subst h0
      simp [sE, hcov.first]
  · have hl := hcov.link (q - 1) (by omega)
    simp only [show q - 1 + 1 = q by omega] at hl
    refine ⟨tl[q], tl[q - 1], true, q / 4, q % 4, _, fun W hW => Find_at (hT.grow hW) h64 hat, fun W hW => ?_, fun W hW => Metas_at (hT.grow hW) h64, fun W hW => Meta_at (hT.grow hW) h64 hat, hx, ?_, fun _ => hl.1, hat.mlt, rfl, h4, hat.jlt, hkey⟩
    · refine (Before_at (hT.grow hW) h64 hat).mono ?_
      rintro e w' ⟨⟨h, _⟩ | ⟨y, hy, h, rfl⟩, hc⟩
      · omega
      · rw [List.getElem?_eq_getElem (by omega)] at hy
        injection hy with hy
        subst hy
        exact ⟨rfl, hc⟩
    · simp [sE, hl.2]
/-- After a put, whatever is put. -/
theorem put_cov {w w' : World} {g : Nat} {tl more : List Tab} {e : Ending} (hcov : Cov tl) (h16 : tl.length ≤ 16) (h : PutPost w g (chunk tl) more e w') : (∃ v, e = .returned v) ∧ Chg (Is g) w w' ∧ ∃ K' tl', Cov tl' ∧ tl'.length ≤ 16 ∧ Tbl w' K' g (chunk tl') := by
  obtain ⟨rfl, hc, K', hT⟩ := h
  rw [chunk_flat] at hT
  refine ⟨⟨_, rfl⟩, hc, K', ?_⟩
  by_cases h0 : putCode tl more = 0
  · rw [if_pos h0] at hT
    have hm : mCode (putList tl more) = 0 := by
      unfold putCode at h0
      split at h0
      · cases h0
      · exact h0
    obtain ⟨h1, _, h2⟩ := mCode_cov hm
    exact ⟨_, h1, h2, hT⟩
  · rw [if_neg h0] at hT
    exact ⟨tl, hcov, h16, hT⟩

set_option maxRecDepth 100000 in
set_option maxHeartbeats 6400000 in
theorem MetaSplits_yes (K : Nat → Prop) (dv nv : Value) (ds : List Drw) (ns : List ByteArray) (w : World) (hd : SlT tDrw w K dv ds) (hn : SlT tStr w K nv ns) (hK : ∀ b, K b → b < w.heap.size) :
    Calls Try.prog 4 #[dv, nv] w fun e w' => e = .returned (.bool true) ∧ Chg Non w w' := by
  obtain ⟨A, cap, rfl, h1, h2⟩ := hd.shape
  obtain ⟨An, cn, rfl, h3, h4⟩ := hn.shape
  obtain ⟨w1, hw1⟩ : ∃ w1, w1 = w.alloc (.cells #[.string ⟨#[]⟩, .string ⟨#[]⟩, .int .i64 1, .int .i64 1] 28) := ⟨_, rfl⟩
  have hb1 : Blk w1 w.heap.size 28 #[.string ⟨#[]⟩, .string ⟨#[]⟩, .int .i64 1, .int .i64 1] := by rw [hw1]; exact Blk.new _ _ _
  have hc1 : Chg Non w w1 := by rw [hw1]; exact (Chg.refl Non w).alloc _
  have ht1 : TabsAt w1 (Is w.heap.size) (.slice (some ⟨w.heap.size, 0, none⟩) 1 1) [tab1] := TabsAt.of_blk hb1 rfl tabOk1 (by simp [maxLen])
  have hn1 := New_t_any _ _ [tab1] w1 ht1 (fun b hb => by rw [show b = w.heap.size from hb]; exact hb1.lt) (by simp)
  have H1 := Lib.hid (And.intro hw1 (And.intro hc1 hn1))
  have HD := Lib.hid (And.intro hd (And.intro hn hK))
  clear hw1 hb1 hc1 ht1 hn1 hd hn
  go_enter Try.func4, Try.ntmps4
  go_wp2_with fail
  rw [← H1.out.1]
  refine H1.out.2.2.mono ?_
  rintro e w2 hpost
  obtain ⟨hc2, g, hg, rfl, hT⟩ := madeYes hpost knw1
  clear hpost
  have H2 := Lib.hid (And.intro (H1.out.2.1.trans hc2) (And.intro hT (Nat.le_trans H1.out.2.1.size hg)))
  clear hc2 hg hT
  go_wp2_with fail
  go_loopw [7] (fun i wr => ∃ k : Nat, k ≤ 25 ∧ k ≤ ds.length ∧ i = .int .i64 k ∧ Chg Non w wr ∧ ∃ KT tl, Cov tl ∧ tl.length ≤ 16 ∧ Tbl wr KT g (chunk tl)) (fun i _ => 25 - (intOf i).toNat)
  case atStart =>
    exact ⟨0, by omega, Nat.zero_le _, rfl, H2.out.1, _, _, (mCode_cov knw1).1, by simp, H2.out.2.1⟩
  case round =>
    obtain ⟨k, hk25, hk, rfl, hc, KT, tl, hcov, h16, hT⟩ := hrel
    by_cases hlt : k < ds.length
    · by_cases hlt25 : k < 25
      · obtain ⟨b, off, cs, rfl, hbK, ⟨rv, rfl, ⟨f1, f2, f3, f4⟩, hraw⟩, hcell⟩ := (HD.out.1.chg hc fun b hb => ⟨HD.out.2.2 b hb, id⟩).get hlt
        obtain ⟨Ar, cr, rfl, _, _⟩ := hraw.shape
        have c0 := hcell 0 _ rfl
        have c1 := hcell 1 _ rfl
        have c2 := hcell 2 _ rfl
        have c3 := hcell 3 _ rfl
        have c4 := hcell 4 _ rfl
        simp only [show tDrw.size = 5 from rfl, Nat.add_zero] at c0 c1 c2 c3 c4
        obtain ⟨d, hd⟩ : ∃ d, d = ds[k] := ⟨_, rfl⟩
        rw [← hd] at f1 f2 f3 f4 hraw c0 c1 c2 c3 c4
        obtain ⟨kind, di, at_, gr, raw⟩ := d
        dsimp only at f1 f2 f3 f4 hraw c0 c1 c2 c3 c4
        have hne := hcov.ne
        have HX := Lib.hid (And.intro hc (And.intro hT (And.intro hcov (And.intro hraw (And.intro (And.intro c0 (And.intro c1 (And.intro c2 (And.intro c3 c4)))) (And.intro (All_at hT (by omega)) (And.intro (And.intro f1 (And.intro f2 (And.intro f3 f4))) hbK)))))))
        clear hc hT hcov hraw c0 c1 c2 c3 c4 hcell f1 f2 f3 f4 hd
        go_wp2_with fail
        refine HX.out.2.2.2.2.2.1.mono ?_
        rintro e w3 ⟨av, rfl, ha, hc3⟩
        obtain ⟨Aa, ca, rfl, _, _⟩ := ha.shape
        have e0 := hc3.cellv HX.out.2.2.2.2.1.1 id
        have e1 := hc3.cellv HX.out.2.2.2.2.1.2.1 id
        have e2 := hc3.cellv HX.out.2.2.2.2.1.2.2.1 id
        have e3 := hc3.cellv HX.out.2.2.2.2.1.2.2.2.1 id
        have e4 := hc3.cellv HX.out.2.2.2.2.1.2.2.2.2 id
        have hKw : ∀ b, K b → b < wr.heap.size := fun b hb => Nat.lt_of_lt_of_le (HD.out.2.2 b hb) HX.out.1.size
        have hask := asked_any _ K _ _ tl raw kind di at_ gr ((k : Int) + 2) w3 ha (HX.out.2.2.2.1.chg hc3 fun b hb => ⟨hKw b hb, id⟩) (fun b hb => hb.2) (fun b hb => Nat.lt_of_lt_of_le (hKw b hb) hc3.size) ⟨by omega, by omega⟩ HX.out.2.2.2.2.2.2.1.1 HX.out.2.2.2.2.2.2.1.2.1 HX.out.2.2.2.2.2.2.1.2.2.1 HX.out.2.2.2.2.2.2.1.2.2.2 (fits_i64 (by omega))
        have hl0 : ¬ (tl.length : Int) = 0 := by omega
        have H3 := Lib.hid (And.intro hask hc3)
        clear hask hc3 ha hKw
        go_wp2_with fail
        clear e0 e1 e2 e3 e4
        refine H3.out.1.mono ?_
        rintro e w4 ⟨mv, more, rfl, hm, hm4, hc4⟩
        obtain ⟨Am, cm, rfl, _, _⟩ := hm.shape
        have hc34 := H3.out.2.trans hc4
        have hput := Put_any KT _ g (chunk tl) _ more w4 (HX.out.2.1.grow hc34) hm (fun b hb => hb) (by rw [chunk_flat]; omega) (by omega)
        have H4 := Lib.hid (And.intro hput (HX.out.1.trans hc34))
        clear hput hc34 hc4 hm
        go_wp2_with fail
        refine H4.out.1.mono ?_
        rintro e w5 hpost
        obtain ⟨⟨pv, rfl⟩, hc5, K5, tl5, hcov5, h165, hT5⟩ := put_cov HX.out.2.2.1 h16 hpost
        clear hpost
        have hcw5 : Chg Non w w5 := H4.out.2.then_ hc5 (fun b hb h => by have : b = g := h; have := H2.out.2.2; omega)
        have H5 := Lib.hid (And.intro hcw5 (And.intro hcov5 hT5))
        clear hc5 hcw5 hcov5 hT5
        go_wp2_with fail
        go_loopw [9] (fun i wr => ∃ k2 : Nat, k2 ≤ 4 ∧ k2 ≤ ns.length ∧ i = .int .i64 k2 ∧ Chg Non w5 wr) (fun i _ => 4 - (intOf i).toNat)
        case atStart => exact ⟨0, by omega, Nat.zero_le _, rfl, Chg.refl _ _⟩
        case round =>
          obtain ⟨k2, hk4, hk2, rfl, hc⟩ := hrel
          by_cases hltn : k2 < ns.length
          · by_cases hlt4 : k2 < 4
            · obtain ⟨nb, no, cs0, rfl, hnK, ⟨rfl, _⟩, hcell⟩ := (HD.out.2.1.chg H5.out.1 fun b hb => ⟨HD.out.2.2 b hb, id⟩).get hltn
              have c0 := hcell 0 _ rfl
              simp only [show tStr.size = 1 from rfl, Nat.mul_one, Nat.add_zero] at c0
              obtain ⟨n, hn⟩ : ∃ n, n = ns[k2] := ⟨_, rfl⟩
              rw [← hn] at c0
              obtain ⟨x, bt, ok, q4, j4, p, hF⟩ := name_any H5.out.2.1 h165 H5.out.2.2 n
              have hfind := hF.find wr hc
              have hlt1 := hF.lt
              have hlen1 := hF.len
              have hjlt1 := hF.jlt
              have HF := Lib.hid hF
              have HN := Lib.hid (And.intro c0 hc)
              have e0 := hc.cellv c0 id
              obtain ⟨⟨xlo, xhi⟩, xg, xn⟩ := x
              obtain ⟨⟨blo, bhi⟩, bg, bn⟩ := bt
              simp only [Tab.v] at hfind
              have HFI := Lib.hid hfind
              clear hn hcell c0 hF hc hfind
              go_wp2_with fail
              clear e0
              with_reducible refine HFI.out.mono ?_
              rintro e w6 ⟨rfl, hc6⟩
              have H6 := Lib.hid (HN.out.2.trans hc6)
              clear hc6
              go_wp2_with (refine wpList_storeB rfl 28 (.tmp 10) (.tmp 69) rfl w6.heap.size _ rfl rfl (Blk.new _ _ _) rfl (by kernel_rfl) (by simp [Value.oneCell']) ?_)
              intro w8 hb8 hc8 hz8
              have hk8 : Chg Non w5 w8 := (H6.out.alloc _).then_ hc8 (fun b hb h => by have : b = w6.heap.size := h; have := H6.out.size; omega)
              have e0 := hk8.cellv HN.out.1 id
              have hbef := HF.out.bef w8 hk8
              simp only [Tab.v] at hbef
              have H8 := Lib.hid (And.intro hb8 (And.intro hk8 hbef))
              clear hb8 hc8 hz8 hk8 hbef
              go_wp2_with fail
              clear e0
              with_reducible refine H8.out.2.2.mono ?_
              rintro e w9 ⟨rfl, hc9⟩
              have H9 := Lib.hid hc9
              clear hc9
              go_wp2_with (refine wpList_storeB rfl 28 (.tmp 11) (.tmp 77) rfl w9.heap.size _ rfl rfl (Blk.new _ _ _) rfl (by kernel_rfl) (by simp [Value.oneCell']) ?_)
              intro w10 hb10 hc10 hz10
              have hk10 : Chg Non w5 w10 := ((H8.out.2.1.trans H9.out).alloc _).then_ hc10 (fun b hb h => by have : b = w9.heap.size := h; have := (H8.out.2.1.trans H9.out).size; omega)
              have bx10 : Blk w10 w6.heap.size 28 #[.string xlo, .string xhi, .int .i64 xg, .int .i64 xn] := ((H8.out.1.chg H9.out id).alloc _).chg hc10 (show ¬ (w6.heap.size = w9.heap.size) by have := H8.out.1.lt; have := H9.out.size; omega)
              have hmet := HF.out.metas w10 hk10
              have H10 := Lib.hid (And.intro hb10 (And.intro bx10 (And.intro hk10 hmet)))
              clear hb10 hc10 hz10 hk10 bx10 hmet
              obtain ⟨cs, hcs⟩ : ∃ cs, cs = chunk tl5 := ⟨_, rfl⟩
              go_wp2_with fail
              with_reducible refine H10.out.2.2.2.mono ?_
              rintro e w11 ⟨mv, rfl, hm, hc11⟩
              rw [← hcs] at hm hlt1
              have hgot : cs[q4] = p := by subst hcs; exact HF.out.got
              obtain ⟨Am, cm, rfl, _, _⟩ := hm.shape
              have hk11 := H10.out.2.2.1.trans hc11
              have e0 := hk11.cellv HN.out.1 id
              have hmta := HF.out.mta w11 hk11
              have H11 := Lib.hid (And.intro hm (And.intro hk11 (And.intro hc11 hmta)))
              have HCS := Lib.hid (And.intro hcs hgot)
              clear hm hk11 hc11 hmta hcs hgot
              go_wp2_with fail
              clear e0
              with_reducible refine H11.out.2.2.2.mono ?_
              rintro e w12 ⟨rfl, hc12⟩
              have hk12 := H11.out.2.1.trans hc12
              have b12x := (H10.out.2.1.chg H11.out.2.2.1 id).chg hc12 id
              have b12b := (H10.out.1.chg H11.out.2.2.1 id).chg hc12 id
              have hm12 := H11.out.1.chg hc12 fun b hb => ⟨hb.2, id⟩
              have hz12 : w11.heap.size ≤ w12.heap.size := hc12.size
              have H12 := Lib.hid (And.intro hk12 (And.intro b12x (And.intro b12b (And.intro hm12 hz12))))
              clear hc12 hk12 b12x b12b hm12 hz12
              have hq4 : (q4 : Int) < (cs.length : Int) := by omega
              have hq0 : (0 : Int) ≤ (q4 : Int) := by omega
              go_upto_region 18 with fail
              go_cut [124] (fun v wc => v = .bool false ∧ Chg Non w12 wc)
              case first =>
                have hh := fun W => R7Has_any ⟨xlo, xhi⟩ n W
                rw [show pHas ⟨xlo, xhi⟩ n = true from HF.out.has] at hh
                have HH := Lib.hid hh
                clear hh
                have hq1 : ¬ (q4 : Int) < 0 := by omega
                have hq2 : ¬ (cs.length : Int) ≤ (q4 : Int) := by omega
                have hq3 : decide ((q4 : Int) < 0) = false := decide_eq_false hq1
                have g0 : w12.drew.cell? ⟨w6.heap.size, 0, none⟩ = some (.string xlo) := H12.out.2.1.drew.cell 0
                have g1 : w12.drew.cell? ⟨w6.heap.size, 1, none⟩ = some (.string xhi) := H12.out.2.1.drew.cell 1
                have g2 : w12.drew.cell? _ = some _ := H12.out.1.drew.cellv HN.out.1 id
                have e0 := FamC.cells (K := Non) g0 id
                have e1 := FamC.cells (K := Non) g1 id
                have e2 := FamC.cells (K := Non) g2 id
                clear g0 g1 g2
                have hok := HF.out.okLo
                have hlk := HF.out.link
                dsimp only at hok hlk
                cases ok
                · have hlo : xlo.toList = [] := by simpa [sE] using hok
                  clear hok hlk
                  refine wp_region_mix (Non) [([0, 1, 2, 3, 4, 5], 6)] [7, 8, 9, 10, 11, 12, 13, 14, 15, 16, 17, 18, 19, 20, 21, 22, 23, 24, 25, 26, 27, 28, 29, 30, 31, 32, 33, 34, 35, 36, 37] (by kernel_rfl) (by kernel_rfl) (by kernel_rfl) (by kernel_rfl) (fun _ _ _ _ h => h) ?_
                  refine wpMix_cons rfl ?_
                  simp only [List.filterMap_cons, List.filterMap_nil, List.getElem?_toArray, List.getElem?_cons_zero, List.getElem?_cons_succ]
                  change wpQuiet _ _ _ _ (_ :: _ :: _ :: _ :: _ :: _ :: []) _
                  repeat (go_big_quiet_step (fail))
                  refine wpQuiet_nil ?_
                  refine wpMix_act rfl (by kernel_rfl) (fun K1 hK1 => ?_)
                  go_simp
                  refine (HH.out _).mono ?_
                  rintro e w13 ⟨rfl, hc13⟩
                  refine hK1 _ _ ⟨hc13, ?_⟩
                  have HG := Lib.hid ((show Chg Non w12 w12.drew from (Chg.refl Non w12).drew).trans hc13)
                  clear e0 e1 e2 hc13
                  clear hK1 K1
                  refine wpMix_nil rfl ?_
                  simp only [List.filterMap_cons, List.filterMap_nil, List.getElem?_toArray, List.getElem?_cons_zero, List.getElem?_cons_succ]
                  change wpQuiet _ _ _ _ (_ :: _ :: _ :: _ :: _ :: _ :: _ :: _ :: _ :: _ :: _ :: _ :: _ :: _ :: _ :: _ :: _ :: _ :: _ :: _ :: _ :: _ :: _ :: _ :: _ :: _ :: _ :: _ :: _ :: _ :: _ :: []) _
                  have e3 := FamC.cells (K := Non) (show w13.cell? ⟨w6.heap.size, 0, none⟩ = some (.string xlo) from (H12.out.2.1.chg HG.out id).cell 0) id
                  have e4 := FamC.cells (K := Non) (show w13.cell? ⟨w9.heap.size, 1, none⟩ = some (.string bhi) from (H12.out.2.2.1.chg HG.out id).cell 1) id
                  repeat (go_big_quiet_step (fail))
                  refine wpQuiet_nil ?_
                  go_wp2_with fail
                  go_meet
                  exact ⟨rfl, HG.out⟩
                · have hlo : ¬ xlo.toList = [] := by simpa [sE] using hok
                  have hlo2 : xlo.toList.isEmpty = false := by simpa using hlo
                  have hlk2 := hlk rfl
                  clear hok hlk
                  refine wp_region_mix (Non) [([0, 1, 2, 3, 4, 5], 6)] [7, 8, 9, 10, 11, 12, 13, 14, 15, 16, 17, 18, 19, 20, 21, 22, 23, 24, 25, 26, 27, 28, 29, 30, 31, 32, 33, 34, 35, 36, 37] (by kernel_rfl) (by kernel_rfl) (by kernel_rfl) (by kernel_rfl) (fun _ _ _ _ h => h) ?_
                  refine wpMix_cons rfl ?_
                  simp only [List.filterMap_cons, List.filterMap_nil, List.getElem?_toArray, List.getElem?_cons_zero, List.getElem?_cons_succ]
                  change wpQuiet _ _ _ _ (_ :: _ :: _ :: _ :: _ :: _ :: []) _
                  repeat (go_big_quiet_step (fail))
                  refine wpQuiet_nil ?_
                  refine wpMix_act rfl (by kernel_rfl) (fun K1 hK1 => ?_)
                  go_simp
                  refine (HH.out _).mono ?_
                  rintro e w13 ⟨rfl, hc13⟩
                  refine hK1 _ _ ⟨hc13, ?_⟩
                  have HG := Lib.hid ((show Chg Non w12 w12.drew from (Chg.refl Non w12).drew).trans hc13)
                  clear e0 e1 e2 hc13
                  clear hK1 K1
                  refine wpMix_nil rfl ?_
                  simp only [List.filterMap_cons, List.filterMap_nil, List.getElem?_toArray, List.getElem?_cons_zero, List.getElem?_cons_succ]
                  change wpQuiet _ _ _ _ (_ :: _ :: _ :: _ :: _ :: _ :: _ :: _ :: _ :: _ :: _ :: _ :: _ :: _ :: _ :: _ :: _ :: _ :: _ :: _ :: _ :: _ :: _ :: _ :: _ :: _ :: _ :: _ :: _ :: _ :: _ :: []) _
                  have e3 := FamC.cells (K := Non) (show w13.cell? ⟨w6.heap.size, 0, none⟩ = some (.string xlo) from (H12.out.2.1.chg HG.out id).cell 0) id
                  have e4 := FamC.cells (K := Non) (show w13.cell? ⟨w9.heap.size, 1, none⟩ = some (.string bhi) from (H12.out.2.2.1.chg HG.out id).cell 1) id
                  repeat (go_big_quiet_step (fail))
                  refine wpQuiet_nil ?_
                  go_wp2_with fail
                  go_meet
                  exact ⟨rfl, HG.out⟩
              case rest =>
                obtain ⟨rfl, hc13⟩ := hcut
                have H13 := Lib.hid hc13
                clear hc13
                have hjp : j4 < p.length := hjlt1
                go_wp2_with fail
                go_loopw [15, 16] (fun f i wr => ∃ (j : Nat) (ff : Bool), j ≤ p.length ∧ i = .int .i64 j ∧ f = .bool ff ∧ Chg Non w12 wr ∧ Hid (ff = decide (j4 < j))) (fun _ i _ => p.length - (intOf i).toNat)
                case atStart => exact ⟨0, false, Nat.zero_le _, rfl, rfl, H13.out, Lib.hid (by simp)⟩
                case round =>
                  obtain ⟨j, ff, hj3, rfl, rfl, hc, hff⟩ := hrel
                  have hmr := H12.out.2.2.2.1.chg hc fun b hb => ⟨Nat.lt_of_lt_of_le hb.2 H12.out.2.2.2.2, id⟩
                  obtain ⟨b4, o4, A4, c4, rfl, hb4, hp4, _, _, m0⟩ := row_cells hmr hlt1
                  rw [HCS.out.2] at m0 hp4
                  by_cases hlt3 : j < p.length
                  · obtain ⟨b5, o5, rfl, _, _, d0, d1, d2, d3⟩ := tab_cells hp4 hlt3
                    have hbx := H12.out.2.1.chg hc id
                    have y0 : wr.cell? ⟨w6.heap.size, 0, none⟩ = some (.string xlo) := hbx.cell 0
                    have y1 : wr.cell? ⟨w6.heap.size, 1, none⟩ = some (.string xhi) := hbx.cell 1
                    have y2 : wr.cell? ⟨w6.heap.size, 2, none⟩ = some (.int .i64 xg) := hbx.cell 2
                    have y3 : wr.cell? ⟨w6.heap.size, 3, none⟩ = some (.int .i64 xn) := hbx.cell 3
                    have hr := fun W => run_eql_tab W p[j] ⟨⟨xlo, xhi⟩, xg, xn⟩
                    simp only [HF.out.key j hlt3] at hr
                    generalize p[j] = y at *
                    obtain ⟨⟨lo, hi⟩, gr', gn⟩ := y
                    dsimp only at d0 d1 d2 d3
                    simp only [Tab.v] at hr
                    have t4 : (j : Int) < (p.length : Int) := by omega
                    clear hmr hp4 hbx
                    cases ff
                    · by_cases hje : j = j4
                      · simp only [hje, decide_true] at hr
                        have HJ := Lib.hid hje
                        clear hje
                        go_upto_region 24 with fail
                        go_quiet (fail)
                        go_wp2_with fail
                        go_roundw
                        case rel => exact ⟨j + 1, true, by omega, by go_num, rfl, hc.drewN _, Lib.hid (by rw [HJ.out]; simp)⟩
                        case measure => simp [intOf]; omega
                      · simp only [hje, decide_false] at hr
                        have HJ := Lib.hid hje
                        clear hje
                        go_upto_region 24 with fail
                        go_quiet (fail)
                        go_wp2_with fail
                        go_roundw
                        case rel =>
                          refine ⟨j + 1, false, by omega, by go_num, rfl, hc.drewN _, Lib.hid ?_⟩
                          have h1 := hff.out
                          have h2 := HJ.out
                          simp at h1 ⊢
                          omega
                        case measure => simp [intOf]; omega
                    · clear hr
                      go_upto_region 24 with fail
                      go_quiet (fail)
                      go_wp2_with fail
                      go_roundw
                      case rel =>
                        refine ⟨j + 1, true, by omega, by go_num, rfl, hc.drewN _, Lib.hid ?_⟩
                        have h1 := hff.out
                        simp at h1 ⊢
                        omega
                      case measure => simp [intOf]; omega
                  · have hj4 : j = p.length := by omega
                    subst hj4
                    have hft : ff = true := by rw [hff.out]; simpa using hjp
                    subst hft
                    have HZ := Lib.hid (H12.out.1.trans hc)
                    clear hmr hp4 hc
                    go_wp2_with fail
                    go_roundw
                    case rel => exact ⟨k2 + 1, by omega, by omega, by go_num, HZ.out⟩
                    case measure => simp [intOf]; omega
            · have HZ := Lib.hid hc
              clear hc
              go_wp2_with fail
              go_roundw
              case rel => exact ⟨k + 1, by omega, by omega, by go_num, H5.out.1.trans HZ.out, K5, tl5, H5.out.2.1, h165, H5.out.2.2.grow HZ.out⟩
              case measure => simp [intOf]; omega
          · have HZ := Lib.hid hc
            clear hc
            go_wp2_with fail
            go_roundw
            case rel => exact ⟨k + 1, by omega, by omega, by go_num, H5.out.1.trans HZ.out, K5, tl5, H5.out.2.1, h165, H5.out.2.2.grow HZ.out⟩
            case measure => simp [intOf]; omega
      · have HZ := Lib.hid hc
        clear hc hT hcov
        go_wp2_with fail
        refine (known_yes wr).mono ?_
        rintro e w13 ⟨rfl, hc13⟩
        have H13 := Lib.hid (HZ.out.trans hc13)
        clear hc13
        go_wp2_with fail
        go_ret
        exact ⟨rfl, H13.out⟩
    · have HZ := Lib.hid hc
      clear hc hT hcov
      go_wp2_with fail
      refine (known_yes wr).mono ?_
      rintro e w13 ⟨rfl, hc13⟩
      have H13 := Lib.hid (HZ.out.trans hc13)
      clear hc13
      go_wp2_with fail
      go_ret
      exact ⟨rfl, H13.out⟩
end Go.Proofs.Ytebdaoihajjgmaa
