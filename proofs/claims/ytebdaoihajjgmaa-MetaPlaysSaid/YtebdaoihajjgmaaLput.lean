/- The law's put: what the document says. -/
import Derived.Test.YtebdaoihajjgmaaSpls
import Derived.Test.YtebdaoihajjgmaaDoc
set_option linter.unusedVariables false
set_option linter.unusedSimpArgs false
namespace Go.Proofs.Ytebdaoihajjgmaa
open Go.RowKit

/-- At one that is not asked for. -/
theorem wpMix_pass {P : Program} {ops : Array Oper} {Q : Exit → Act → World → Prop} {t : Tmp} {i : Nat} {o : Oper} {K : Act → World → Prop} {a : Act} {w : World} (ho : ops[i]? = some o) (hw : Region.wanted o (yielded ops a.tmps) = false) (hd : o.dst = some t) (h : K (a.put (some t) undef) w) : wpOp P ops Q i K a w :=
  wpMix_skip ho hw (by rw [hd]; exact h)
/-- What the law's put answers. -/
def LputPost (K : Nat → Prop) (l more : List Tab) (w : World) (e : Ending) (w' : World) : Prop :=
  ∃ v', e = .returned (.tuple #[v', .int .i64 (dCode l more)]) ∧ TabsAt w' (fun b => K b ∨ (w.heap.size ≤ b ∧ b < w'.heap.size)) v' (if dCode l more = 0 then dOut more l false else l) ∧ Chg Non w w'
theorem LputPost.keep {l more : List Tab} {w w' : World} {K : Nat → Prop} {lv : Value} {c : Int} (hl : TabsAt w K lv l) (hK : ∀ b, K b → b < w.heap.size) (hc : Chg Non w w') (h : dCode l more = c) (h0 : c ≠ 0) : LputPost K l more w (.returned (.tuple #[lv, .int .i64 c])) w' := by
  subst h
  exact ⟨lv, rfl, by rw [if_neg h0]; exact (hl.chg hc fun b hb => ⟨hK b hb, id⟩).mono fun b hb => .inl hb, hc⟩
theorem dMeets_take (more : List Tab) (x : Tab) (j : Nat) (h : j < more.length) : ((more.take (j + 1)).any fun y => pMeet x.span y.span) = ((more.take j).any (fun y => pMeet x.span y.span) || pMeet x.span more[j].span) := by
  rw [List.take_succ_eq_append_getElem h, List.any_append]
  simp
theorem dOut_cons (more l : List Tab) (k : Nat) (h : k < l.length) (d : Bool) : dOut more (l.drop k) d = if dMeets more l[k] then (if d then dOut more (l.drop (k + 1)) true else more ++ dOut more (l.drop (k + 1)) true) else l[k] :: dOut more (l.drop (k + 1)) d := by
  rw [List.drop_eq_getElem_cons h, dOut]

set_option maxRecDepth 100000 in
set_option maxHeartbeats 6400000 in
theorem lput_any (K K2 : Nat → Prop) (lv mv : Value) (l more : List Tab) (w : World) (hl : TabsAt w K lv l) (hm : TabsAt w K2 mv more) (hK : ∀ b, K b → b < w.heap.size) (hK2 : ∀ b, K2 b → b < w.heap.size) (h64 : l.length ≤ 64) (hm64 : more.length ≤ 64) :
    Calls Try.prog 41 #[lv, mv] w (LputPost K l more w) := by
  obtain ⟨A, cap, rfl, h1, h2⟩ := hl.shape
  obtain ⟨Am, cm, rfl, h3, h4⟩ := hm.shape
  have HL := Lib.hid (And.intro hl (And.intro hm (And.intro hK hK2)))
  clear hl hm
  go_enter Try.func41, Try.ntmps41
  go_wp2_with fail
  go_loopw [6] (fun i wr => ∃ k : Nat, k ≤ more.length ∧ i = .int .i64 k ∧ Chg Non w wr ∧ Hid (∀ j, j < k → dOk more j = true)) (fun i _ => more.length - (intOf i).toNat)
  case atStart => exact ⟨0, Nat.zero_le _, rfl, Chg.refl _ _, Lib.hid fun j hj => absurd hj (by omega)⟩
  case round =>
    obtain ⟨k, hk, rfl, hc, hok⟩ := hrel
    by_cases hlt : k < more.length
    · have hlt' : (k : Int) < (more.length : Int) := by omega
      have hk0 : (0 : Int) ≤ (k : Int) := by omega
      go_upto_region 4 with fail
      go_cut [54] (fun v wc => v = .bool (!dOk more k) ∧ Chg Non wr wc)
      case first =>
        have hmr := HL.out.2.1.chg hc fun b hb => ⟨hK2 b hb, id⟩
        obtain ⟨bb, off, rfl, hbb, _, d0, d1, _, _⟩ := tab_cells hmr hlt
        have hdk := dOk_iff more k hlt
        obtain ⟨x, hx⟩ : ∃ x, x = more[k] := ⟨_, rfl⟩
        rw [← hx] at d0 d1
        simp only [← hx] at hdk
        obtain ⟨⟨xlo, xhi⟩, xg, xn⟩ := x
        dsimp only at d0 d1 hdk
        have hrr := fun W => R7Right_any ⟨xlo, xhi⟩ W
        have e0 := FamC.cells (K := Non) (show wr.drew.cell? _ = some _ from (Chg.refl Non wr).drew.cellv d0 id) id
        have e1 := FamC.cells (K := Non) (show wr.drew.cell? _ = some _ from (Chg.refl Non wr).drew.cellv d1 id) id
        have E0 := Lib.hid d0
        cases hr : pRight ⟨xlo, xhi⟩
        · have hq : dOk more k = false := by
            rw [Bool.eq_false_iff]
            intro h
            have := (hdk.1 h).1
            rw [hr] at this; cases this
          rw [hr] at hrr
          have HR := Lib.hid hrr
          have HQ := Lib.hid hq
          clear hrr hr hq hdk hx hmr d0 d1 hbb
          refine wp_region_mix (Non) [([0, 1, 2, 3, 4], 5)] [6, 7, 8, 9, 10, 11, 12, 13, 14, 15, 16, 17, 18, 19, 20, 21, 22, 23, 24, 25, 26, 27, 28, 29, 30, 31, 32, 33, 34, 35, 36] (by kernel_rfl) (by kernel_rfl) (by kernel_rfl) (by kernel_rfl) (fun _ _ _ _ h => h) ?_
          refine wpMix_cons rfl ?_
          simp only [List.filterMap_cons, List.filterMap_nil, List.getElem?_toArray, List.getElem?_cons_zero, List.getElem?_cons_succ]
          change wpQuiet _ _ _ _ (_ :: _ :: _ :: _ :: _ :: []) _
          repeat (go_big_quiet_step (fail))
          refine wpQuiet_nil ?_
          refine wpMix_act rfl (by kernel_rfl) (fun K1 hK1 => ?_)
          go_simp
          refine (HR.out _).mono ?_
          rintro e w13 ⟨rfl, hc13⟩
          refine hK1 _ _ ⟨hc13, ?_⟩
          have HG := Lib.hid ((show Chg Non wr wr.drew from (Chg.refl Non wr).drew).trans hc13)
          clear e0 e1 hc13
          clear hK1 K1
          refine wpMix_nil rfl ?_
          simp only [List.filterMap_cons, List.filterMap_nil, List.getElem?_toArray, List.getElem?_cons_zero, List.getElem?_cons_succ]
          change wpQuiet _ _ _ _ (_ :: _ :: _ :: _ :: _ :: _ :: _ :: _ :: _ :: _ :: _ :: _ :: _ :: _ :: _ :: _ :: _ :: _ :: _ :: _ :: _ :: _ :: _ :: _ :: _ :: _ :: _ :: _ :: _ :: _ :: _ :: []) _
          repeat (go_big_quiet_step (fail))
          refine wpQuiet_nil ?_
          go_wp2_with fail
          go_meet
          exact ⟨by rw [HQ.out]; rfl, HG.out⟩
        · rw [hr] at hrr
          have HR := Lib.hid hrr
          rcases Nat.eq_zero_or_pos k with hz | hz
          · have hq : dOk more k = true := hdk.2 ⟨hr, fun j hj => by omega⟩
            have HQ := Lib.hid hq
            have hg : decide (0 < k) = false := decide_eq_false (by omega)
            have hg2 : ¬ 0 < k := by omega
            clear hrr hr hq hdk hx hmr d0 d1 hbb hz
            refine wp_region_mix (Non) [([0, 1, 2, 3, 4], 5)] [6, 7, 8, 9, 10, 11, 12, 13, 14, 15, 16, 17, 18, 19, 20, 21, 22, 23, 24, 25, 26, 27, 28, 29, 30, 31, 32, 33, 34, 35, 36] (by kernel_rfl) (by kernel_rfl) (by kernel_rfl) (by kernel_rfl) (fun _ _ _ _ h => h) ?_
            refine wpMix_cons rfl ?_
            simp only [List.filterMap_cons, List.filterMap_nil, List.getElem?_toArray, List.getElem?_cons_zero, List.getElem?_cons_succ]
            change wpQuiet _ _ _ _ (_ :: _ :: _ :: _ :: _ :: []) _
            repeat (go_big_quiet_step (fail))
            refine wpQuiet_nil ?_
            refine wpMix_act rfl (by kernel_rfl) (fun K1 hK1 => ?_)
            go_simp
            refine (HR.out _).mono ?_
            rintro e w13 ⟨rfl, hc13⟩
            refine hK1 _ _ ⟨hc13, ?_⟩
            have HG := Lib.hid ((show Chg Non wr wr.drew from (Chg.refl Non wr).drew).trans hc13)
            clear e0 e1 hc13
            clear hK1 K1
            refine wpMix_nil rfl ?_
            simp only [List.filterMap_cons, List.filterMap_nil, List.getElem?_toArray, List.getElem?_cons_zero, List.getElem?_cons_succ]
            change wpQuiet _ _ _ _ (_ :: _ :: _ :: _ :: _ :: _ :: _ :: _ :: _ :: _ :: _ :: _ :: _ :: _ :: _ :: _ :: _ :: _ :: _ :: _ :: _ :: _ :: _ :: _ :: _ :: _ :: _ :: _ :: _ :: _ :: _ :: []) _
            repeat (go_big_quiet_step (fail))
            refine wpQuiet_nil ?_
            go_wp2_with fail
            go_meet
            exact ⟨by rw [HQ.out]; rfl, HG.out⟩
          · obtain ⟨j, hj⟩ : ∃ j, k = j + 1 := ⟨k - 1, by omega⟩
            have hjl : j < more.length := by omega
            obtain ⟨b5, off5, eA, _, _, _, y1, _, _⟩ := tab_cells hmr hjl
            obtain ⟨rfl, rfl⟩ : bb = b5 ∧ off = off5 := by injection eA with eA; injection eA with e1 e2; exact ⟨e1, e2⟩
            have hq0 : dOk more k = true ↔ (more[j].span.hi.toList ≠ [] ∧ more[j].span.hi.toList = xlo.toList) := by
              rw [hdk]
              constructor
              · rintro ⟨_, h⟩
                exact h j (by omega)
              · intro h
                refine ⟨hr, fun j' hj' => ?_⟩
                obtain rfl : j' = j := by omega
                exact h
            generalize more[j].span.hi = yhi at *
            have hg : decide (0 < k) = true := decide_eq_true (by omega)
            have hg2 : 0 < k := by omega
            have hki : (k : Int) - 1 = (j : Int) := by omega
            have hj0 : (0 : Int) ≤ (j : Int) := by omega
            have hj1 : (j : Int) < (more.length : Int) := by omega
            have E5 := Lib.hid y1
            clear hrr hr hdk hx hmr d0 d1 hbb hz y1 eA hj
            rcases Classical.em (yhi.toList = []) with hy | hy
            · have hq : dOk more k = false := by
                rw [Bool.eq_false_iff]
                intro h
                exact (hq0.1 h).1 hy
              have HQ := Lib.hid hq
              clear hq hq0
              refine wp_region_mix (Non) [([0, 1, 2, 3, 4], 5)] [6, 7, 8, 9, 10, 11, 12, 13, 14, 15, 16, 17, 18, 19, 20, 21, 22, 23, 24, 25, 26, 27, 28, 29, 30, 31, 32, 33, 34, 35, 36] (by kernel_rfl) (by kernel_rfl) (by kernel_rfl) (by kernel_rfl) (fun _ _ _ _ h => h) ?_
              refine wpMix_cons rfl ?_
              simp only [List.filterMap_cons, List.filterMap_nil, List.getElem?_toArray, List.getElem?_cons_zero, List.getElem?_cons_succ]
              change wpQuiet _ _ _ _ (_ :: _ :: _ :: _ :: _ :: []) _
              repeat (go_big_quiet_step (fail))
              refine wpQuiet_nil ?_
              refine wpMix_act rfl (by kernel_rfl) (fun K1 hK1 => ?_)
              go_simp
              refine (HR.out _).mono ?_
              rintro e w13 ⟨rfl, hc13⟩
              refine hK1 _ _ ⟨hc13, ?_⟩
              have HG := Lib.hid ((show Chg Non wr wr.drew from (Chg.refl Non wr).drew).trans hc13)
              clear e0 e1 hc13
              clear hK1 K1
              refine wpMix_nil rfl ?_
              simp only [List.filterMap_cons, List.filterMap_nil, List.getElem?_toArray, List.getElem?_cons_zero, List.getElem?_cons_succ]
              change wpQuiet _ _ _ _ (_ :: _ :: _ :: _ :: _ :: _ :: _ :: _ :: _ :: _ :: _ :: _ :: _ :: _ :: _ :: _ :: _ :: _ :: _ :: _ :: _ :: _ :: _ :: _ :: _ :: _ :: _ :: _ :: _ :: _ :: _ :: []) _
              have e2 := FamC.cells (K := Non) (show w13.cell? _ = some _ from HG.out.cellv E0.out id) id
              have e5 := FamC.cells (K := Non) (show w13.cell? _ = some _ from HG.out.cellv E5.out id) id
              repeat (go_big_quiet_step (fail))
              refine wpQuiet_nil ?_
              go_wp2_with fail
              go_meet
              exact ⟨by rw [HQ.out]; rfl, HG.out⟩
            · have hy2 : yhi.toList.isEmpty = false := by simpa using hy
              rcases Classical.em (yhi.toList = xlo.toList) with hyx | hyx
              · have hq : dOk more k = true := hq0.2 ⟨hy, hyx⟩
                have hx2 : xlo.toList.isEmpty = false := by rw [← hyx]; exact hy2
                have HQ := Lib.hid hq
                clear hq hq0
                refine wp_region_mix (Non) [([0, 1, 2, 3, 4], 5)] [6, 7, 8, 9, 10, 11, 12, 13, 14, 15, 16, 17, 18, 19, 20, 21, 22, 23, 24, 25, 26, 27, 28, 29, 30, 31, 32, 33, 34, 35, 36] (by kernel_rfl) (by kernel_rfl) (by kernel_rfl) (by kernel_rfl) (fun _ _ _ _ h => h) ?_
                refine wpMix_cons rfl ?_
                simp only [List.filterMap_cons, List.filterMap_nil, List.getElem?_toArray, List.getElem?_cons_zero, List.getElem?_cons_succ]
                change wpQuiet _ _ _ _ (_ :: _ :: _ :: _ :: _ :: []) _
                repeat (go_big_quiet_step (fail))
                refine wpQuiet_nil ?_
                refine wpMix_act rfl (by kernel_rfl) (fun K1 hK1 => ?_)
                go_simp
                refine (HR.out _).mono ?_
                rintro e w13 ⟨rfl, hc13⟩
                refine hK1 _ _ ⟨hc13, ?_⟩
                have HG := Lib.hid ((show Chg Non wr wr.drew from (Chg.refl Non wr).drew).trans hc13)
                clear e0 e1 hc13
                clear hK1 K1
                refine wpMix_nil rfl ?_
                simp only [List.filterMap_cons, List.filterMap_nil, List.getElem?_toArray, List.getElem?_cons_zero, List.getElem?_cons_succ]
                change wpQuiet _ _ _ _ (_ :: _ :: _ :: _ :: _ :: _ :: _ :: _ :: _ :: _ :: _ :: _ :: _ :: _ :: _ :: _ :: _ :: _ :: _ :: _ :: _ :: _ :: _ :: _ :: _ :: _ :: _ :: _ :: _ :: _ :: _ :: []) _
                have e2 := FamC.cells (K := Non) (show w13.cell? _ = some _ from HG.out.cellv E0.out id) id
                have e5 := FamC.cells (K := Non) (show w13.cell? _ = some _ from HG.out.cellv E5.out id) id
                repeat (go_big_quiet_step (fail))
                refine wpQuiet_nil ?_
                go_wp2_with fail
                go_meet
                exact ⟨by rw [HQ.out]; rfl, HG.out⟩
              · have hq : dOk more k = false := by
                  rw [Bool.eq_false_iff]
                  intro h
                  exact hyx (hq0.1 h).2
                have hx3 : (yhi.toList == xlo.toList) = false := beq_eq_false_iff_ne.2 hyx
                have HQ := Lib.hid hq
                clear hq hq0
                refine wp_region_mix (Non) [([0, 1, 2, 3, 4], 5)] [6, 7, 8, 9, 10, 11, 12, 13, 14, 15, 16, 17, 18, 19, 20, 21, 22, 23, 24, 25, 26, 27, 28, 29, 30, 31, 32, 33, 34, 35, 36] (by kernel_rfl) (by kernel_rfl) (by kernel_rfl) (by kernel_rfl) (fun _ _ _ _ h => h) ?_
                refine wpMix_cons rfl ?_
                simp only [List.filterMap_cons, List.filterMap_nil, List.getElem?_toArray, List.getElem?_cons_zero, List.getElem?_cons_succ]
                change wpQuiet _ _ _ _ (_ :: _ :: _ :: _ :: _ :: []) _
                repeat (go_big_quiet_step (fail))
                refine wpQuiet_nil ?_
                refine wpMix_act rfl (by kernel_rfl) (fun K1 hK1 => ?_)
                go_simp
                refine (HR.out _).mono ?_
                rintro e w13 ⟨rfl, hc13⟩
                refine hK1 _ _ ⟨hc13, ?_⟩
                have HG := Lib.hid ((show Chg Non wr wr.drew from (Chg.refl Non wr).drew).trans hc13)
                clear e0 e1 hc13
                clear hK1 K1
                refine wpMix_nil rfl ?_
                simp only [List.filterMap_cons, List.filterMap_nil, List.getElem?_toArray, List.getElem?_cons_zero, List.getElem?_cons_succ]
                change wpQuiet _ _ _ _ (_ :: _ :: _ :: _ :: _ :: _ :: _ :: _ :: _ :: _ :: _ :: _ :: _ :: _ :: _ :: _ :: _ :: _ :: _ :: _ :: _ :: _ :: _ :: _ :: _ :: _ :: _ :: _ :: _ :: _ :: _ :: []) _
                have e2 := FamC.cells (K := Non) (show w13.cell? _ = some _ from HG.out.cellv E0.out id) id
                have e5 := FamC.cells (K := Non) (show w13.cell? _ = some _ from HG.out.cellv E5.out id) id
                repeat (go_big_quiet_step (fail))
                refine wpQuiet_nil ?_
                go_wp2_with fail
                go_meet
                exact ⟨by rw [HQ.out]; rfl, HG.out⟩
      case rest =>
        obtain ⟨rfl, hc1⟩ := hcut
        have hcw := hc.trans hc1
        obtain ⟨q, hq⟩ : ∃ q, q = dOk more k := ⟨_, rfl⟩
        rw [← hq]
        have HQ := Lib.hid (And.intro hq (And.intro hok.out hcw))
        clear hq hcw hc1 hc hok
        cases q
        · have hd : dCode l more = 1 := by
            have : dLinks more = false := by
              rw [Bool.eq_false_iff]
              intro h
              have := (dLinks_iff more).1 h k hlt
              rw [← HQ.out.1] at this; cases this
            simp [dCode, this]
          have HD := Lib.hid hd
          clear hd
          go_wp2_with fail
          go_ret2
          exact LputPost.keep HL.out.1 hK HQ.out.2.2 HD.out (by decide)
        · go_wp2_with fail
          go_roundw
          case rel =>
            refine ⟨k + 1, by omega, by go_num, HQ.out.2.2, Lib.hid fun j hj => ?_⟩
            rcases Nat.lt_or_ge j k with h | h
            · exact HQ.out.2.1 j h
            · obtain rfl : j = k := by omega
              exact HQ.out.1.symm
          case measure => simp [intOf]; omega
    · have hkn : k = more.length := by omega
      subst hkn
      have hd : dLinks more = true := (dLinks_iff more).2 hok.out
      have HD := Lib.hid (And.intro hd hc)
      clear hd hc hok hlt
      by_cases hmn : more.length = 0
      · have hdc : dCode l more = 1 := by
          obtain rfl : more = [] := List.eq_nil_of_length_eq_zero hmn
          simp [dCode, HD.out.1]
        have HDC := Lib.hid hdc
        have hmn' : (more.length : Int) = 0 := by omega
        clear hdc
        go_wp2_with fail
        go_ret2
        exact LputPost.keep HL.out.1 hK HD.out.2 HDC.out (by decide)
      · have hmn' : ¬ (more.length : Int) = 0 := by omega
        have hmn2 : ((more.length : Int) == 0) = false := beq_eq_false_iff_ne.2 hmn'
        have hmr := HL.out.2.1.chg HD.out.2 fun b hb => ⟨hK2 b hb, id⟩
        have hlr := lright_any _ _ more wr hmr (fun b hb => Nat.lt_of_lt_of_le (hK2 b hb) HD.out.2.size)
        obtain ⟨q, hq⟩ : ∃ q, q = more.all pNum := ⟨_, rfl⟩
        rw [← hq] at hlr
        have HR := Lib.hid (And.intro hlr hq)
        clear hlr hq hmr
        go_wp2_with fail
        with_reducible refine HR.out.1.mono ?_
        rintro e w1 ⟨rfl, hc1⟩
        have HC1 := Lib.hid (HD.out.2.trans hc1)
        clear hc1
        cases q
        · have hdc : dCode l more = 1 := by
            simp [dCode, HD.out.1, ← HR.out.2]
          have HDC := Lib.hid hdc
          clear hdc
          go_wp2_with fail
          go_ret2
          exact LputPost.keep HL.out.1 hK HC1.out HDC.out (by decide)
        · have hdc : dCode l more = if !pCover ((dOut more l false).map (·.span)) then 1 else if 16 < (dOut more l false).length then 13 else 0 := by
            have : more.isEmpty = false := by cases more; simp at hmn; rfl
            simp [dCode, HD.out.1, ← HR.out.2, this]
          have HDC := Lib.hid hdc
          clear hdc
          go_wp2_with fail
          go_loopw [7, 8, 9] (fun ov dv i wr => ∃ (k : Nat) (d : Bool) (ol : List Tab), k ≤ l.length ∧ i = .int .i64 k ∧ dv = .bool d ∧ Chg Non w wr ∧ Own wr w.heap.size 28 tTab Non ov ol ∧ Hid (ol ++ dOut more (l.drop k) d = dOut more l false) ∧ (d = false → ol.length ≤ k) ∧ ol.length ≤ k + 64) (fun _ _ i _ => l.length - (intOf i).toNat)
          case atStart => exact ⟨0, false, [], Nat.zero_le _, rfl, rfl, HC1.out, Own.nil_, Lib.hid rfl, by simp, by simp⟩
          case round =>
            obtain ⟨k, d, ol, hk, rfl, rfl, hc, own, hol, hlen0, hlen⟩ := hrel
            obtain ⟨wo, hwo⟩ : ∃ wo, wo = wr := ⟨_, rfl⟩
            subst hwo
            obtain ⟨Ao, co, rfl, _, _⟩ := own.shape
            by_cases hlt : k < l.length
            · have hlt2 : (k : Int) < (l.length : Int) := by omega
              have hk0 : (0 : Int) ≤ (k : Int) := by omega
              have hdc := dOut_cons more l k hlt d
              have hlr := HL.out.1.chg hc fun b hb => ⟨hK b hb, id⟩
              obtain ⟨bb, off, rfl, hbb, ⟨f1, f2, f3, f4⟩, d0, d1, d2, d3⟩ := tab_cells hlr hlt
              obtain ⟨x, hx⟩ : ∃ x, x = l[k] := ⟨_, rfl⟩
              rw [← hx] at hdc d0 d1 d2 d3 f1 f2 f3 f4
              obtain ⟨⟨xlo, xhi⟩, xg, xn⟩ := x
              dsimp only at d0 d1 d2 d3 f1 f2 f3 f4
              have HX := Lib.hid (And.intro own (And.intro hc (And.intro hol.out (And.intro hdc (And.intro (And.intro d0 (And.intro d1 (And.intro d2 d3))) (And.intro f1 (And.intro f2 (And.intro f3 f4))))))))
              clear own hc hol hdc d0 d1 d2 d3 f1 f2 f3 f4 hlr hx hbb
              go_wp2_with fail
              go_loopw [10, 11] (fun m i wr => ∃ (j : Nat) (mf : Bool), j ≤ more.length ∧ i = .int .i64 j ∧ m = .bool mf ∧ Chg Non wo wr ∧ Hid (mf = (more.take j).any fun y => pMeet ⟨xlo, xhi⟩ y.span)) (fun _ i _ => more.length - (intOf i).toNat)
              case atStart => exact ⟨0, false, Nat.zero_le _, rfl, rfl, Chg.refl _ _, Lib.hid (by simp)⟩
              case round =>
                obtain ⟨j, mf, hj, rfl, rfl, hc2, hmf⟩ := hrel
                by_cases hjl : j < more.length
                · have hjl2 : (j : Int) < (more.length : Int) := by omega
                  have hj0 : (0 : Int) ≤ (j : Int) := by omega
                  have htk := dMeets_take more ⟨⟨xlo, xhi⟩, xg, xn⟩ j hjl
                  dsimp only at htk
                  cases mf
                  · have hmr := HL.out.2.1.chg (HX.out.2.1.trans hc2) fun b hb => ⟨hK2 b hb, id⟩
                    obtain ⟨b5, off5, rfl, _, _, y0, y1, _, _⟩ := tab_cells hmr hjl
                    obtain ⟨y, hy⟩ : ∃ y, y = more[j] := ⟨_, rfl⟩
                    rw [← hy] at y0 y1 htk
                    obtain ⟨⟨ylo, yhi⟩, yg, yn⟩ := y
                    dsimp only at y0 y1 htk
                    have hmt := fun W => R7Meet_any ⟨xlo, xhi⟩ ⟨ylo, yhi⟩ W
                    obtain ⟨q, hq⟩ : ∃ q, q = pMeet ⟨xlo, xhi⟩ ⟨ylo, yhi⟩ := ⟨_, rfl⟩
                    rw [← hq] at htk
                    simp only [← hq] at hmt
                    have e0 := FamC.cells (K := Non) (show wr.drew.cell? _ = some _ from (hc2.drew).cellv HX.out.2.2.2.2.1.1 id) id
                    have e1 := FamC.cells (K := Non) (show wr.drew.cell? _ = some _ from (hc2.drew).cellv HX.out.2.2.2.2.1.2.1 id) id
                    have e2 := FamC.cells (K := Non) (show wr.drew.cell? _ = some _ from (Chg.refl Non wr).drew.cellv y0 id) id
                    have e3 := FamC.cells (K := Non) (show wr.drew.cell? _ = some _ from (Chg.refl Non wr).drew.cellv y1 id) id
                    have HR := Lib.hid hmt
                    have HT := Lib.hid htk
                    clear hmr hmt y0 y1 hy hq htk
                    go_upto_region 17 with fail
                    refine wp_region_mix (Non) [([0, 1, 2, 3, 4, 5, 6, 7, 8, 9, 10, 11], 12)] [13, 14] (by kernel_rfl) (by kernel_rfl) (by kernel_rfl) (by kernel_rfl) (fun _ _ _ _ h => h) ?_
                    refine wpMix_cons rfl ?_
                    simp only [List.filterMap_cons, List.filterMap_nil, List.getElem?_toArray, List.getElem?_cons_zero, List.getElem?_cons_succ]
                    change wpQuiet _ _ _ _ (_ :: _ :: _ :: _ :: _ :: _ :: _ :: _ :: _ :: _ :: _ :: _ :: []) _
                    repeat (go_big_quiet_step (fail))
                    refine wpQuiet_nil ?_
                    refine wpMix_act rfl (by kernel_rfl) (fun K1 hK1 => ?_)
                    go_simp
                    refine (HR.out _).mono ?_
                    rintro e w13 ⟨rfl, hc13⟩
                    refine hK1 _ _ ⟨hc13, ?_⟩
                    have HG := Lib.hid ((show Chg Non wr wr.drew from (Chg.refl Non wr).drew).trans hc13)
                    clear e0 e1 e2 e3 hc13
                    clear hK1 K1
                    refine wpMix_nil rfl ?_
                    simp only [List.filterMap_cons, List.filterMap_nil, List.getElem?_toArray, List.getElem?_cons_zero, List.getElem?_cons_succ]
                    change wpQuiet _ _ _ _ (_ :: _ :: []) _
                    repeat (go_big_quiet_step (fail))
                    refine wpQuiet_nil ?_
                    have HZ := Lib.hid (hc2.trans HG.out)
                    clear hc2
                    go_wp2_with fail
                    go_roundw
                    case rel => exact ⟨j + 1, q, by omega, by go_num, rfl, HZ.out, Lib.hid (by rw [HT.out, ← hmf.out]; simp)⟩
                    case measure => simp [intOf]; omega
                  · have HT := Lib.hid htk
                    clear htk
                    go_upto_region 17 with fail
                    refine wp_region_mix (Non) [([0, 1, 2, 3, 4, 5, 6, 7, 8, 9, 10, 11], 12)] [13, 14] (by kernel_rfl) (by kernel_rfl) (by kernel_rfl) (by kernel_rfl) (fun _ _ _ _ h => h) ?_
                    refine wpMix_cons rfl ?_
                    simp only [List.filterMap_cons, List.filterMap_nil, List.getElem?_toArray, List.getElem?_cons_zero, List.getElem?_cons_succ]
                    change wpQuiet _ _ _ _ (_ :: _ :: _ :: _ :: _ :: _ :: _ :: _ :: _ :: _ :: _ :: _ :: []) _
                    repeat (go_big_quiet_step (fail))
                    refine wpQuiet_nil ?_
                    refine wpMix_pass (t := 89) rfl (by kernel_rfl) rfl ?_
                    refine ⟨Chg.refl _ _, ?_⟩
                    simp only [Act.put, List.setIfInBounds_toArray, List.set_cons_zero, List.set_cons_succ]
                    refine wpMix_nil rfl ?_
                    simp only [List.filterMap_cons, List.filterMap_nil, List.getElem?_toArray, List.getElem?_cons_zero, List.getElem?_cons_succ]
                    change wpQuiet _ _ _ _ (_ :: _ :: []) _
                    repeat (go_big_quiet_step (fail))
                    refine wpQuiet_nil ?_
                    go_wp2_with fail
                    go_roundw
                    case rel => exact ⟨j + 1, true, by omega, by go_num, rfl, hc2.drew, Lib.hid (by rw [HT.out, ← hmf.out]; simp)⟩
                    case measure => simp [intOf]; omega
                · have hjn : j = more.length := by omega
                  subst hjn
                  have hmd : mf = dMeets more ⟨⟨xlo, xhi⟩, xg, xn⟩ := by rw [hmf.out, List.take_length]; rfl
                  have hdc := HX.out.2.2.2.1
                  rw [← hmd] at hdc
                  have hol := HX.out.2.2.1
                  rw [hdc] at hol
                  have ownr := HX.out.1.chg hc2 (fun _ _ h => h) (fun _ h => h.elim)
                  have hcw := HX.out.2.1.trans hc2
                  have hrw : ∀ b, Row (.slice Ao ol.length co) b → w.heap.size ≤ b := fun b hb => (ownr.lt hb).1
                  have g0 := hc2.cellv HX.out.2.2.2.2.1.1 id
                  have g1 := hc2.cellv HX.out.2.2.2.2.1.2.1 id
                  have g2 := hc2.cellv HX.out.2.2.2.2.1.2.2.1 id
                  have g3 := hc2.cellv HX.out.2.2.2.2.1.2.2.2 id
                  have HO := Lib.hid (And.intro hol (And.intro hrw hcw))
                  clear hmd hdc hol hmf hc2
                  cases mf
                  · obtain ⟨w4, hw4⟩ : ∃ w4, w4 = wr.alloc (.cells #[.string xlo, .string xhi, .int .i64 xg, .int .i64 xn] 28) := ⟨_, rfl⟩
                    have hc4 : Chg Non wr w4 := by rw [hw4]; exact (Chg.refl Non wr).alloc _
                    have hb4 : Blk w4 wr.heap.size 28 #[.string xlo, .string xhi, .int .i64 xg, .int .i64 xn] := by rw [hw4]; exact Blk.new _ _ _
                    have own4 := ownr.chg hc4 (fun _ _ h => h) (fun _ h => h.elim)
                    have hz4 : w.heap.size ≤ w4.heap.size := (HO.out.2.2.trans hc4).size
                    have hrep : tTab.rep w4 Non [.string xlo, .string xhi, .int .i64 xg, .int .i64 xn] ⟨⟨xlo, xhi⟩, xg, xn⟩ := ⟨rfl, ⟨HX.out.2.2.2.2.2.2.2.1, HX.out.2.2.2.2.2.2.2.2⟩, HX.out.2.2.2.2.2.1, HX.out.2.2.2.2.2.2.1⟩
                    have H4 := Lib.hid (And.intro hw4 (And.intro own4 (And.intro hb4 (And.intro hz4 (And.intro hrep (HO.out.2.2.trans hc4))))))
                    clear hw4 own4 hb4 hz4 hrep hc4 ownr hcw hrw
                    go_wp2_with (at_builtin; rw [← H4.out.1]; refine wpList_push tTab Non rfl (.tmp 93) (.tmp 98) 22 rfl w.heap.size 28 _ 48 Try.underlying22 info_tab rfl (by decide) (by decide) _ ol _ [_, _, _, _] wr.heap.size (0, 0) rfl rfl H4.out.2.1 H4.out.2.2.1 H4.out.2.2.2.2.1 (fun _ h => h.elim) (by omega) H4.out.2.2.2.1 ?_)
                    intro A6 c6 w6 own6 hc6 hat
                    have hc7 : Chg Non w w6 := H4.out.2.2.2.2.2.then_ hc6 (fun b hb h => by have := HO.out.2.1 b h; omega)
                    have H7 := Lib.hid (And.intro own6 hc7)
                    clear own6 hc6 hat hc7 g0 g1 g2 g3
                    go_wp2_with fail
                    go_roundw
                    case rel => exact ⟨k + 1, d, ol ++ [⟨⟨xlo, xhi⟩, xg, xn⟩], by omega, by go_num, rfl, H7.out.2, by simpa using H7.out.1, Lib.hid (by rw [← HO.out.1]; simp), fun h => (by have := hlen0 h; simp; omega), by simp; omega⟩
                    case measure => simp [intOf]; omega
                  · cases d
                    · have hl0 := hlen0 rfl
                      have hsrc := HL.out.2.1.chg hcw fun b hb => ⟨hK2 b hb, id⟩
                      have H4 := Lib.hid (And.intro ownr (And.intro hsrc (And.intro hcw.size hcw)))
                      clear ownr hcw hrw hsrc g0 g1 g2 g3
                      go_wp2_with (at_builtin; refine wpList_pushes_flat tTab tTab_flat K2 rfl (.tmp 102) (.tmp 103) 22 rfl w.heap.size 28 _ 48 Try.underlying22 info_tab rfl (by decide) (by decide) _ ol _ more rfl rfl H4.out.1 H4.out.2.1 (by omega) H4.out.2.2.1 ?_)
                      intro A6 c6 w6 own6 hc6 hat
                      have hc7 : Chg Non w w6 := H4.out.2.2.2.then_ hc6 (fun b hb h => by have := HO.out.2.1 b h; omega)
                      have H7 := Lib.hid (And.intro own6 hc7)
                      clear own6 hc6 hat hc7
                      go_wp2_with fail
                      go_roundw
                      case rel => exact ⟨k + 1, true, ol ++ more, by omega, by go_num, rfl, H7.out.2, by simpa using H7.out.1, Lib.hid (by rw [← HO.out.1]; simp), fun h => (nomatch h), by simp; omega⟩
                      case measure => simp [intOf]; omega
                    · have H7 := Lib.hid (And.intro ownr hcw)
                      clear ownr hcw hrw g0 g1 g2 g3
                      go_wp2_with fail
                      go_roundw
                      case rel => exact ⟨k + 1, true, ol, by omega, by go_num, rfl, H7.out.2, H7.out.1, Lib.hid (by rw [← HO.out.1]; simp), fun h => (nomatch h), by omega⟩
                      case measure => simp [intOf]; omega
            · have hkn : k = l.length := by omega
              subst hkn
              have hol2 : dOut more l false = ol := by
                have := hol.out
                rw [List.drop_length] at this
                simpa [dOut] using this.symm
              have hs := own.toSl (K' := In w.heap.size wo.heap.size) (fun _ h => h.elim) (fun b hb => own.lt hb)
              have hsp := lspans_any _ _ ol wo hs (fun b hb => hb.2) (by omega)
              have hdc := HDC.out
              rw [hol2] at hdc
              have HS := Lib.hid (And.intro hsp (And.intro hs (And.intro hol2 (And.intro hdc hc))))
              clear hsp hs hol2 hdc hol hc own hlt
              go_wp2_with fail
              with_reducible refine HS.out.1.mono ?_
              rintro e w14 ⟨sv, rfl, hs14, hc14⟩
              have hcover := R7Cover_any _ sv _ w14 hs14 (fun b hb => hb.2)
              obtain ⟨sl, hsl⟩ : ∃ sl, sl = ol.map (·.span) := ⟨_, rfl⟩
              rw [← hsl] at hs14 hcover
              obtain ⟨q, hq⟩ : ∃ q, q = pCover sl := ⟨_, rfl⟩
              rw [← hq] at hcover
              obtain ⟨As, cs, rfl, _, _⟩ := hs14.shape
              have H14 := Lib.hid (And.intro hcover (And.intro (HS.out.2.2.2.2.trans hc14) (And.intro (And.intro hsl hq) hc14)))
              clear hcover hc14 hs14 hsl hq
              go_wp2_with fail
              with_reducible refine H14.out.1.mono ?_
              rintro e w15 ⟨rfl, hc15⟩
              have H15 := Lib.hid (And.intro (H14.out.2.1.trans hc15) (H14.out.2.2.2.trans hc15))
              clear hc15
              cases q
              · have hd1 : dCode l more = 1 := by
                  rw [HS.out.2.2.2.1, ← H14.out.2.2.1.1, ← H14.out.2.2.1.2]
                  rfl
                have HD1 := Lib.hid hd1
                clear hd1
                go_wp2_with fail
                go_ret2
                exact LputPost.keep HL.out.1 hK H15.out.1 HD1.out (by decide)
              · by_cases h16 : 16 < ol.length
                · have hd1 : dCode l more = 13 := by
                    rw [HS.out.2.2.2.1, ← H14.out.2.2.1.1, ← H14.out.2.2.1.2, if_pos h16]
                    rfl
                  have HD1 := Lib.hid hd1
                  have h16' : (16 : Int) < (ol.length : Int) := by omega
                  clear hd1
                  go_wp2_with fail
                  go_ret2
                  exact LputPost.keep HL.out.1 hK H15.out.1 HD1.out (by decide)
                · have hd1 : dCode l more = 0 := by
                    rw [HS.out.2.2.2.1, ← H14.out.2.2.1.1, ← H14.out.2.2.1.2, if_neg h16]
                    rfl
                  have HD1 := Lib.hid hd1
                  have h16' : ¬ (16 : Int) < (ol.length : Int) := by omega
                  clear hd1
                  go_wp2_with fail
                  go_ret2
                  exact ⟨.slice Ao ol.length co, ret_val (by rw [HD1.out]; rfl), by rw [if_pos HD1.out, HS.out.2.2.1]; exact (HS.out.2.1.chg H15.out.2 fun b hb => ⟨hb.2, id⟩).mono fun b hb => .inr ⟨hb.1, Nat.lt_of_lt_of_le hb.2 H15.out.2.size⟩, H15.out.1⟩
end Go.Proofs.Ytebdaoihajjgmaa
