/- The law's 'tells': true of a table and its list. -/
import Derived.Test.YtebdaoihajjgmaaPln
import Derived.Test.YtebdaoihajjgmaaMix
set_option linter.unusedVariables false
set_option linter.unusedSimpArgs false
namespace Go.Proofs.Ytebdaoihajjgmaa
open Go.RowKit

theorem tEqL_self : ∀ (l : List Tab), tEqL l l = true
  | [] => rfl
  | x :: l => by simp [tEqL, tEq_self, tEqL_self l]

set_option maxRecDepth 100000 in
set_option maxHeartbeats 6400000 in
theorem tells_yes (K K2 : Nat → Prop) (g : Nat) (mv : Value) (l : List Tab) (n : ByteArray) (w : World) (hT : Tbl w K g (chunk l)) (hl : TabsAt w K2 mv l) (hK2 : ∀ b, K2 b → b < w.heap.size) (hcov : Cov l) (h64 : l.length ≤ 64) :
    Calls Try.prog 12 #[.pointer (some ⟨g, 0, none⟩), mv, .string n] w fun e w' => e = .returned (.bool true) ∧ Chg Non w w' := by
  obtain ⟨A, cap, rfl, h1, h2⟩ := hl.shape
  obtain ⟨k, hat⟩ := hcov.at_ n
  have hfl := chunk_flat l
  have hcl := chunk_length l
  have hpl := chunk_len l
  have hne := hcov.ne
  have hcl1 : (chunk l).length ≤ 1048576 := by omega
  have hp1 : ∀ p ∈ chunk l, 1 ≤ p.length := fun p hp => (hpl p hp).1
  have hp2 : ∀ p ∈ chunk l, p.length ≤ 1048576 := fun p hp => by have := (hpl p hp).2; omega
  have hfn : (chunk l).flatten.length ≤ 1048576 := by rw [hfl]; omega
  have cAll := fun W (hc : Chg Non w W) => All_any K g (chunk l) W (hT.grow hc) hfn
  have cLen := fun W (hc : Chg Non w W) => Len_any K g (chunk l) W (hT.grow hc) hfn
  have cFind := fun W (hc : Chg Non w W) => Find_any K g (chunk l) n W (hT.grow hc) hcl1 hp1 hp2 (k / 4) (k % 4) hat.mlt hat.jlt hat.mtab hat.jidx
  have cBef := fun W (hc : Chg Non w W) => Before_any K g (chunk l) n W (hT.grow hc) hcl1 hp1 hp2 hfn (k / 4) (k % 4) hat.mlt hat.jlt hat.mtab hat.jidx k (by rw [hat.got, hfl]; exact hat.idx) (by rw [hfl]; exact Nat.le_of_lt hat.lt)
  have cMet := fun W (hc : Chg Non w W) => Metas_any K g (chunk l) W (hT.grow hc) hcl1 hp2
  have cRoot := fun W (hc : Chg Non w W) => Root_any K g (chunk l) W (hT.grow hc) hcl1 hp1
  have cMeta := fun W (hc : Chg Non w W) => Meta_any K g (chunk l) n W (hT.grow hc) hcl1 hp1
  simp only [hfl, hat.got, hat.mtab] at cAll cLen cFind cBef cMeta
  have hklt := hat.lt
  obtain ⟨x, hx⟩ : ∃ x, x = l[k] := ⟨_, rfl⟩
  simp only [← hx] at cFind
  obtain ⟨q4, hq4e⟩ : ∃ q4, q4 = k / 4 := ⟨_, rfl⟩
  simp only [← hq4e] at cMeta
  have HQ4 := Lib.hid hq4e
  clear hq4e
  obtain ⟨⟨xlo, xhi⟩, xg, xn⟩ := x
  simp only [Tab.v] at cFind
  have HALL := Lib.hid (And.intro cAll (And.intro cLen (And.intro cFind (And.intro cBef (And.intro cMet (And.intro cRoot cMeta))))))
  have HAT := Lib.hid (And.intro hat (And.intro hfl (And.intro hcl hpl)))
  clear cAll cLen cFind cBef cMet cRoot cMeta hfl hcl hpl hcl1 hp1 hp2 hfn hT
  obtain ⟨bb, off, rfl, _, _, c0, c1, c2, c3⟩ := tab_cells hl hklt
  rw [← hx] at c0 c1 c2 c3
  dsimp only at c0 c1 c2 c3
  have HX := Lib.hid hx
  clear hx
  go_enter Try.func12, Try.ntmps12
  go_wp2_with fail
  go_loopw [7, 8] (fun a i wr => ∃ j : Nat, j ≤ l.length ∧ i = .int .i64 j ∧ Chg Non w wr ∧ ∃ acc : Nat, a = .int .i64 acc ∧ Hid (acc = if k < j then k else 0)) (fun _ i _ => l.length - (intOf i).toNat)
  case atStart => exact ⟨0, Nat.zero_le _, rfl, Chg.refl _ _, 0, rfl, Lib.hid (by rw [if_neg (by omega)])⟩
  case round =>
    obtain ⟨j, hj, rfl, hc, acc, rfl, hacc⟩ := hrel
    by_cases hlt : j < l.length
    · obtain ⟨b2, o2, e, _, _, d0, d1, _, _⟩ := tab_cells (hl.chg hc fun b hb => ⟨hK2 b hb, id⟩) hlt
      injection e with e
      injection e with e e'
      subst e e'
      have hcall := fun W => R7Has_any l[j].span n W
      simp only [HAT.out.1.has j hlt] at hcall
      obtain ⟨s, hs⟩ : ∃ s, s = l[j].span := ⟨_, rfl⟩
      rw [← hs] at d0 d1
      simp only [← hs] at hcall
      obtain ⟨slo, shi⟩ := s
      clear hs
      by_cases hjk : j = k
      · subst hjk
        simp only [decide_true] at hcall
        have HC := Lib.hid hcall
        clear hcall
        go_wp2_with (go_at_call 21; refine (HC.out _).mono ?_; rintro e w' ⟨rfl, hc'⟩)
        go_roundw
        case rel => exact ⟨j + 1, by omega, by go_num, hc.trans hc', j, rfl, Lib.hid (by rw [if_pos (by omega)])⟩
        case measure => simp [intOf]; omega
      · simp only [hjk, decide_false] at hcall
        have HC := Lib.hid hcall
        clear hcall
        go_wp2_with (go_at_call 21; refine (HC.out _).mono ?_; rintro e w' ⟨rfl, hc'⟩)
        go_roundw
        case rel =>
          refine ⟨j + 1, by omega, by go_num, hc.trans hc', acc, rfl, Lib.hid ?_⟩
          rw [hacc.out]
          by_cases h : k < j
          · rw [if_pos h, if_pos (by omega)]
          · rw [if_neg h, if_neg (by omega)]
        case measure => simp [intOf]; omega
    · have hacc' : acc = k := by rw [hacc.out, if_pos (by omega)]
      subst hacc'
      have hjl : j = l.length := by omega
      subst hjl
      clear hacc
      have hbef := HALL.out.2.2.2.1 wr hc
      have HB := Lib.hid (And.intro hbef hc)
      clear hbef hc
      go_wp2_with fail
      refine HB.out.1.mono ?_
      rintro e w1 ⟨hans, hc1⟩
      have hans' : ∃ (b : Tab) (ok : Bool), e = .returned (.tuple #[b.v, .bool ok]) ∧ ((ok = true ∧ 0 < acc ∧ l[acc - 1]? = some b) ∨ (ok = false ∧ acc = 0 ∧ b = zeroTab)) := by
        rcases hans with ⟨h0, rfl⟩ | ⟨y, hy, h0, rfl⟩
        · exact ⟨_, _, rfl, .inr ⟨rfl, h0, rfl⟩⟩
        · exact ⟨_, _, rfl, .inl ⟨rfl, h0, hy⟩⟩
      obtain ⟨b, ok, rfl, hbk⟩ := hans'
      clear hans
      obtain ⟨⟨blo, bhi⟩, bg, bn⟩ := b
      have hcw1 := HB.out.2.trans hc1
      obtain ⟨w8, hw8⟩ : ∃ w8, w8 = w1.alloc (.cells #[.string blo, .string bhi, .int .i64 bg, .int .i64 bn] 28) := ⟨_, rfl⟩
      have hc8 : Chg Non w w8 := by rw [hw8]; exact hcw1.alloc _
      have hb8 : Blk w8 w1.heap.size 28 #[.string blo, .string bhi, .int .i64 bg, .int .i64 bn] := by rw [hw8]; exact Blk.new _ _ _
      have HB2 := Lib.hid (And.intro hc8 (And.intro hb8 (And.intro hw8 hbk)))
      clear hc1 hcw1 hw8 hc8 hb8 hbk
      go_upto_region 8 with fail
      rw [← HB2.out.2.2.1]
      have HB8 := Lib.hid (And.intro HB2.out.1 HB2.out.2.1)
      go_cut [86] (fun t wc => t = .bool false ∧ Chg Non w wc)
      case first =>
        rcases HB2.out.2.2.2 with ⟨rfl, h0, hy⟩ | ⟨rfl, h0, hb⟩
        · obtain ⟨b3, o3, e, _, _, y0, y1, y2, y3⟩ := tab_cells hl (k := acc - 1) (by omega)
          injection e with e
          injection e with e e'
          subst e e'
          rw [List.getElem?_eq_getElem (by omega)] at hy
          injection hy with hy
          rw [hy] at y0 y1 y2 y3
          dsimp only at y0 y1 y2 y3
          clear hy HB2
          have t1 : (0 : Int) < (acc : Int) := by omega
          have t2 : (acc : Int) - 1 = ((acc - 1 : Nat) : Int) := by omega
          have t3 : ((acc - 1 : Nat) : Int) < (l.length : Int) := by omega
          have t4 : (acc : Int) < (l.length : Int) := by omega
          have t5 : (0 : Int) ≤ ((acc - 1 : Nat) : Int) := by omega
          refine wp_region_mix (Non) [([0, 2], 1), ([], 3), ([4, 5, 6, 8, 9], 7), ([10, 11, 12, 13, 14, 16, 17, 18, 19], 15)] [20, 21, 22, 23, 24, 25, 26, 27, 28, 29, 30, 31, 32, 33, 34, 35, 36, 37, 38, 39, 40, 41, 42, 43, 44, 45, 46, 47, 48] (by kernel_rfl) (by kernel_rfl) (by kernel_rfl) (by kernel_rfl) (fun _ _ _ _ h => h) ?_
          refine wpMix_cons rfl ?_
          simp only [List.filterMap_cons, List.filterMap_nil, List.getElem?_toArray, List.getElem?_cons_zero, List.getElem?_cons_succ]
          change wpQuiet _ _ _ _ (_ :: _ :: []) _
          repeat (go_big_quiet_step (fail))
          refine wpQuiet_nil ?_
          refine wpMix_act rfl (by kernel_rfl) (fun K1 hK1 => ?_)
          go_simp
          have k0 : Chg Non w8 w8.drew := (Chg.refl Non w8).drew
          refine (HALL.out.1 _ (HB8.out.1.trans k0)).mono ?_
          rintro e w9 ⟨av, rfl, ha, hca⟩
          obtain ⟨Aa, ca, rfl, _, _⟩ := ha.shape
          have H1 := Lib.hid (And.intro (k0.trans hca) (And.intro ha hca))
          refine hK1 _ _ ⟨hca, ?_⟩
          clear k0 ha hca
          clear hK1 K1
          refine wpMix_cons rfl ?_
          simp only [List.filterMap_cons, List.filterMap_nil, List.getElem?_toArray, List.getElem?_cons_zero, List.getElem?_cons_succ]
          refine wpQuiet_nil ?_
          refine wpMix_act rfl (by kernel_rfl) (fun K1 hK1 => ?_)
          go_simp
          have k1 := H1.out.1
          have k1w := HB8.out.1.trans k1
          have hsame := TBSame_any _ K2 _ _ l l w9 H1.out.2.1 (hl.chg k1w fun b hb => ⟨hK2 b hb, id⟩) (fun b hb => hb.2) (fun b hb => Nat.lt_of_lt_of_le (hK2 b hb) k1w.size)
          rw [tEqL_self] at hsame
          refine hsame.mono ?_
          rintro e w10 ⟨rfl, hc10⟩
          have H3 := Lib.hid (k1.trans hc10)
          refine hK1 _ _ ⟨hc10, ?_⟩
          clear k1 k1w hsame hc10
          clear hK1 K1
          refine wpMix_cons rfl ?_
          simp only [List.filterMap_cons, List.filterMap_nil, List.getElem?_toArray, List.getElem?_cons_zero, List.getElem?_cons_succ]
          change wpQuiet _ _ _ _ (_ :: _ :: _ :: _ :: _ :: []) _
          repeat (go_big_quiet_step (fail))
          refine wpQuiet_nil ?_
          refine wpMix_act rfl (by kernel_rfl) (fun K1 hK1 => ?_)
          go_simp
          have k2 := H3.out
          refine (HALL.out.2.1 _ (HB8.out.1.trans k2)).mono ?_
          rintro e w11 ⟨rfl, hc11⟩
          have H7 := Lib.hid (k2.trans hc11)
          refine hK1 _ _ ⟨hc11, ?_⟩
          clear k2 hc11
          clear hK1 K1
          refine wpMix_cons rfl ?_
          simp only [List.filterMap_cons, List.filterMap_nil, List.getElem?_toArray, List.getElem?_cons_zero, List.getElem?_cons_succ]
          change wpQuiet _ _ _ _ (_ :: _ :: _ :: _ :: _ :: _ :: _ :: _ :: _ :: []) _
          have f0 := FamC.cells (K := Non) ((HB8.out.1.trans H7.out).cellv c0 id) id
          have f1 := FamC.cells (K := Non) ((HB8.out.1.trans H7.out).cellv c1 id) id
          have f2 := FamC.cells (K := Non) ((HB8.out.1.trans H7.out).cellv c2 id) id
          have f3 := FamC.cells (K := Non) ((HB8.out.1.trans H7.out).cellv c3 id) id
          repeat (go_big_quiet_step (fail))
          refine wpQuiet_nil ?_
          refine wpMix_act rfl (by kernel_rfl) (fun K1 hK1 => ?_)
          clear f0 f1 f2 f3
          go_simp
          have k3 := H7.out
          refine (HALL.out.2.2.1 _ (HB8.out.1.trans k3)).mono ?_
          rintro e w12 ⟨rfl, hc12⟩
          have H15 := Lib.hid (k3.trans hc12)
          refine hK1 _ _ ⟨hc12, ?_⟩
          clear k3 hc12
          clear hK1 K1
          refine wpMix_nil rfl ?_
          simp only [List.filterMap_cons, List.filterMap_nil, List.getElem?_toArray, List.getElem?_cons_zero, List.getElem?_cons_succ]
          change wpQuiet _ _ _ _ (_ :: _ :: _ :: _ :: _ :: _ :: _ :: _ :: _ :: _ :: _ :: _ :: _ :: _ :: _ :: _ :: _ :: _ :: _ :: _ :: _ :: _ :: _ :: _ :: _ :: _ :: _ :: _ :: _ :: []) _
          have e0 := FamC.cells (K := Non) (w := w12) (p := ⟨w1.heap.size, 0, none⟩) (v := _) (by rw [(HB8.out.2.chg H15.out id).cell]; rfl) id
          have e1 := FamC.cells (K := Non) (w := w12) (p := ⟨w1.heap.size, 1, none⟩) (v := _) (by rw [(HB8.out.2.chg H15.out id).cell]; rfl) id
          have e2 := FamC.cells (K := Non) (w := w12) (p := ⟨w1.heap.size, 2, none⟩) (v := _) (by rw [(HB8.out.2.chg H15.out id).cell]; rfl) id
          have e3 := FamC.cells (K := Non) (w := w12) (p := ⟨w1.heap.size, 3, none⟩) (v := _) (by rw [(HB8.out.2.chg H15.out id).cell]; rfl) id
          have d0 := FamC.cells (K := Non) ((HB8.out.1.trans H15.out).cellv y0 id) id
          have d1 := FamC.cells (K := Non) ((HB8.out.1.trans H15.out).cellv y1 id) id
          have d2 := FamC.cells (K := Non) ((HB8.out.1.trans H15.out).cellv y2 id) id
          have d3 := FamC.cells (K := Non) ((HB8.out.1.trans H15.out).cellv y3 id) id
          repeat (go_big_quiet_step (fail))
          refine wpQuiet_nil ?_
          go_wp2_with fail
          go_meet
          exact ⟨rfl, HB8.out.1.trans H15.out⟩
        · subst h0
          injection hb with hb1 hb2 hb3
          injection hb1 with hb1 hb4
          subst hb1 hb2 hb3 hb4
          clear HB2
          simp only [Nat.zero_mul, Nat.add_zero] at c0 c1 c2 c3
          refine wp_region_mix (Non) [([0, 2], 1), ([], 3), ([4, 5, 6, 8, 9], 7), ([10, 11, 12, 13, 14, 16, 17, 18, 19], 15)] [20, 21, 22, 23, 24, 25, 26, 27, 28, 29, 30, 31, 32, 33, 34, 35, 36, 37, 38, 39, 40, 41, 42, 43, 44, 45, 46, 47, 48] (by kernel_rfl) (by kernel_rfl) (by kernel_rfl) (by kernel_rfl) (fun _ _ _ _ h => h) ?_
          refine wpMix_cons rfl ?_
          simp only [List.filterMap_cons, List.filterMap_nil, List.getElem?_toArray, List.getElem?_cons_zero, List.getElem?_cons_succ]
          change wpQuiet _ _ _ _ (_ :: _ :: []) _
          repeat (go_big_quiet_step (fail))
          refine wpQuiet_nil ?_
          refine wpMix_act rfl (by kernel_rfl) (fun K1 hK1 => ?_)
          go_simp
          have k0 : Chg Non w8 w8.drew := (Chg.refl Non w8).drew
          refine (HALL.out.1 _ (HB8.out.1.trans k0)).mono ?_
          rintro e w9 ⟨av, rfl, ha, hca⟩
          obtain ⟨Aa, ca, rfl, _, _⟩ := ha.shape
          have H1 := Lib.hid (And.intro (k0.trans hca) (And.intro ha hca))
          refine hK1 _ _ ⟨hca, ?_⟩
          clear k0 ha hca
          clear hK1 K1
          refine wpMix_cons rfl ?_
          simp only [List.filterMap_cons, List.filterMap_nil, List.getElem?_toArray, List.getElem?_cons_zero, List.getElem?_cons_succ]
          refine wpQuiet_nil ?_
          refine wpMix_act rfl (by kernel_rfl) (fun K1 hK1 => ?_)
          go_simp
          have k1 := H1.out.1
          have k1w := HB8.out.1.trans k1
          have hsame := TBSame_any _ K2 _ _ l l w9 H1.out.2.1 (hl.chg k1w fun b hb => ⟨hK2 b hb, id⟩) (fun b hb => hb.2) (fun b hb => Nat.lt_of_lt_of_le (hK2 b hb) k1w.size)
          rw [tEqL_self] at hsame
          refine hsame.mono ?_
          rintro e w10 ⟨rfl, hc10⟩
          have H3 := Lib.hid (k1.trans hc10)
          refine hK1 _ _ ⟨hc10, ?_⟩
          clear k1 k1w hsame hc10
          clear hK1 K1
          refine wpMix_cons rfl ?_
          simp only [List.filterMap_cons, List.filterMap_nil, List.getElem?_toArray, List.getElem?_cons_zero, List.getElem?_cons_succ]
          change wpQuiet _ _ _ _ (_ :: _ :: _ :: _ :: _ :: []) _
          repeat (go_big_quiet_step (fail))
          refine wpQuiet_nil ?_
          refine wpMix_act rfl (by kernel_rfl) (fun K1 hK1 => ?_)
          go_simp
          have k2 := H3.out
          refine (HALL.out.2.1 _ (HB8.out.1.trans k2)).mono ?_
          rintro e w11 ⟨rfl, hc11⟩
          have H7 := Lib.hid (k2.trans hc11)
          refine hK1 _ _ ⟨hc11, ?_⟩
          clear k2 hc11
          clear hK1 K1
          refine wpMix_cons rfl ?_
          simp only [List.filterMap_cons, List.filterMap_nil, List.getElem?_toArray, List.getElem?_cons_zero, List.getElem?_cons_succ]
          change wpQuiet _ _ _ _ (_ :: _ :: _ :: _ :: _ :: _ :: _ :: _ :: _ :: []) _
          have f0 := FamC.cells (K := Non) ((HB8.out.1.trans H7.out).cellv c0 id) id
          have f1 := FamC.cells (K := Non) ((HB8.out.1.trans H7.out).cellv c1 id) id
          have f2 := FamC.cells (K := Non) ((HB8.out.1.trans H7.out).cellv c2 id) id
          have f3 := FamC.cells (K := Non) ((HB8.out.1.trans H7.out).cellv c3 id) id
          repeat (go_big_quiet_step (fail))
          refine wpQuiet_nil ?_
          refine wpMix_act rfl (by kernel_rfl) (fun K1 hK1 => ?_)
          clear f0 f1 f2 f3
          go_simp
          have k3 := H7.out
          refine (HALL.out.2.2.1 _ (HB8.out.1.trans k3)).mono ?_
          rintro e w12 ⟨rfl, hc12⟩
          have H15 := Lib.hid (k3.trans hc12)
          refine hK1 _ _ ⟨hc12, ?_⟩
          clear k3 hc12
          clear hK1 K1
          refine wpMix_nil rfl ?_
          simp only [List.filterMap_cons, List.filterMap_nil, List.getElem?_toArray, List.getElem?_cons_zero, List.getElem?_cons_succ]
          change wpQuiet _ _ _ _ (_ :: _ :: _ :: _ :: _ :: _ :: _ :: _ :: _ :: _ :: _ :: _ :: _ :: _ :: _ :: _ :: _ :: _ :: _ :: _ :: _ :: _ :: _ :: _ :: _ :: _ :: _ :: _ :: _ :: []) _
          have e0 := FamC.cells (K := Non) (w := w12) (p := ⟨w1.heap.size, 0, none⟩) (v := _) (by rw [(HB8.out.2.chg H15.out id).cell]; rfl) id
          have e1 := FamC.cells (K := Non) (w := w12) (p := ⟨w1.heap.size, 1, none⟩) (v := _) (by rw [(HB8.out.2.chg H15.out id).cell]; rfl) id
          have e2 := FamC.cells (K := Non) (w := w12) (p := ⟨w1.heap.size, 2, none⟩) (v := _) (by rw [(HB8.out.2.chg H15.out id).cell]; rfl) id
          have e3 := FamC.cells (K := Non) (w := w12) (p := ⟨w1.heap.size, 3, none⟩) (v := _) (by rw [(HB8.out.2.chg H15.out id).cell]; rfl) id
          repeat (go_big_quiet_step (fail))
          refine wpQuiet_nil ?_
          go_wp2_with fail
          go_meet
          exact ⟨rfl, HB8.out.1.trans H15.out⟩
      case rest =>
        obtain ⟨rfl, hc9⟩ := hcut
        go_wp2_with fail
        refine (HALL.out.2.2.2.2.1 wc hc9).mono ?_
        rintro e w10 ⟨mv, rfl, hmv, hc10⟩
        have hcw10 := hc9.trans hc10
        obtain ⟨cs, hcs⟩ : ∃ cs, cs = chunk l := ⟨_, rfl⟩
        rw [← hcs] at hmv
        obtain ⟨Am, cm, rfl, _, _⟩ := hmv.shape
        have HCS := Lib.hid hcs
        clear hcs
        have HM := Lib.hid (And.intro hmv hcw10)
        clear hmv hcw10 hc10 hc9 c0 c1 c2 c3
        go_wp2_with fail
        refine (HALL.out.2.2.2.2.2.1 w10 HM.out.2).mono ?_
        rintro e w11 ⟨rv, rfl, hrv, hc11⟩
        have hcw11 := HM.out.2.trans hc11
        obtain ⟨rl, hrl⟩ : ∃ rl, rl = (chunk l).map rootOf := ⟨_, rfl⟩
        rw [← HCS.out] at hrl
        rw [← HCS.out, ← hrl] at hrv
        have hrll : rl.length = cs.length := by rw [hrl, List.length_map]
        obtain ⟨Ar, cr, rfl, _, _⟩ := hrv.shape
        have hmv11 := HM.out.1.chg hc11 fun b hb => ⟨hb.2, id⟩
        have hcl : cs.length = (l.length + 3) / 4 := by rw [HCS.out]; exact HAT.out.2.2.1
        have hcs16 : cs.length ≤ 64 := by omega
        have HR := Lib.hid (And.intro hrv (And.intro hcw11 (And.intro hmv11 (And.intro hrl (And.intro HCS.out (And.intro hrll (And.intro hcl hc11.size)))))))
        have hlen : ((cs.length : Int) != (rl.length : Int)) = false := by rw [hrll]; simp
        have hpl : ∀ p ∈ cs, 1 ≤ p.length ∧ p.length ≤ 4 := by rw [HCS.out]; exact HAT.out.2.2.2
        have HPL := Lib.hid hpl
        clear hrv hcw11 hmv11 hrl hrll hcl hc11 hpl
        go_wp2_with fail
        go_loopw [13, 14] (fun av i wr => ∃ j : Nat, j ≤ cs.length ∧ i = .int .i64 j ∧ Chg Non w11 wr ∧ Own wr w11.heap.size 28 tTab Non av (cs.take j).flatten) (fun _ i _ => cs.length - (intOf i).toNat)
        case atStart => exact ⟨0, Nat.zero_le _, rfl, Chg.refl _ _, Own.nil_⟩
        case round =>
          obtain ⟨j, hj, rfl, hc, own⟩ := hrel
          by_cases hlt2 : j < cs.length
          · have hmr := HR.out.2.2.1.chg hc fun b hb => ⟨Nat.lt_of_lt_of_le hb.2 HR.out.2.2.2.2.2.2.2, id⟩
            have hrr := HR.out.1.chg hc fun b hb => ⟨hb.2, id⟩
            obtain ⟨b4, o4, A4, c4, rfl, hb4, hp4, _, _, m0⟩ := row_cells hmr hlt2
            obtain ⟨p1, p2⟩ := HPL.out cs[j] (List.getElem_mem _)
            obtain ⟨b5, o5, rfl, _, _, d0, _, _, _⟩ := tab_cells hp4 (k := 0) (by omega)
            have hltr : j < rl.length := by rw [HR.out.2.2.2.2.2.1]; exact hlt2
            obtain ⟨b6, o6, rs, rfl, _, ⟨rfl, _⟩, hrc⟩ := hrr.get hltr
            have r0 := hrc 0 _ rfl
            simp only [tStr, Nat.mul_one, Nat.add_zero] at r0
            have hrj : rl[j] = cs[j][0].span.lo := by
              have e1 : rl[j]? = some (rootOf cs[j]) := by rw [HR.out.2.2.2.1, List.getElem?_map, List.getElem?_eq_getElem hlt2]; rfl
              rw [List.getElem?_eq_getElem hltr] at e1
              injection e1 with e1
              rw [e1, rootOf_get _ (by omega)]
            rw [hrj] at r0
            have hft := flat_take cs j hlt2
            have hfl := flat_le cs (j + 1)
            have hfc : cs.flatten.length ≤ 64 := by rw [HCS.out, HAT.out.2.1]; exact h64
            rw [hft, List.length_append] at hfl
            obtain ⟨s, hs⟩ : ∃ s, s = cs[j][0].span.lo := ⟨_, rfl⟩
            rw [← hs] at r0 d0
            obtain ⟨p, hp⟩ : ∃ p, p = cs[j] := ⟨_, rfl⟩
            obtain ⟨lk, hlk⟩ : ∃ lk, lk = (cs.take j).flatten := ⟨_, rfl⟩
            rw [← hp] at m0 hp4 p1 p2 hft hfl
            rw [← hlk] at own hft hfl
            have hle : lk.length + p.length ≤ 64 := by omega
            obtain ⟨Al, cl, rfl, _, _⟩ := own.shape
            simp only [Nat.zero_mul, Nat.add_zero] at d0
            have t1 : (1 : Int) ≤ (p.length : Int) := by omega
            have t2 : (p.length : Int) ≤ 4 := by omega
            have t3 : (j : Int) < (cs.length : Int) := by omega
            have t4 : (j : Int) < (rl.length : Int) := by omega
            have t5 : 0 < p.length := by omega
            have HO := Lib.hid (And.intro own (And.intro hp4 (And.intro hft (And.intro hc (fun b hb => own.lt (k := b) hb)))))
            have hzc := hc.size
            clear hmr hrr hrc hrj hfl hfc hs hp hlk own hp4 hft hc
            go_upto_region 17 with fail
            go_quiet (fail)
            clear d0 r0
            have HQ := Lib.hid (And.intro (HO.out.1.chg ((Chg.refl Non wr).drewN nq) (fun _ _ h => h) (fun _ h => h.elim)) (HO.out.2.1.chg ((Chg.refl Non wr).drewN nq) (fun b hb => ⟨Nat.lt_of_lt_of_le hb.2 (Nat.le_trans HR.out.2.2.2.2.2.2.2 hzc), id⟩)))
            go_wp2_with (at_builtin; refine wpList_pushes_flat tTab tTab_flat _ rfl (.tmp 131) (.tmp 135) 22 rfl w11.heap.size 28 _ 48 Try.underlying22 info_tab rfl (by decide) (by decide) _ lk _ p rfl rfl HQ.out.1 HQ.out.2 (by omega) (by exact hzc) ?_)
            intro A6 c6 w16 own6 hc6 hat6
            have hc7 : Chg Non w11 w16 := (HO.out.2.2.2.1.drewN nq).then_ hc6 (fun b hb h => by have := (HO.out.2.2.2.2 b h).1; omega)
            have H7 := Lib.hid (And.intro own6 hc7)
            clear own6 hc6 hat6 hc7
            go_wp2_with fail
            go_roundw
            case rel => exact ⟨j + 1, by omega, by go_num, H7.out.2, by rw [HO.out.2.2.1]; exact H7.out.1⟩
            case measure => simp [intOf]; omega
          · have hj2 : j = cs.length := by omega
            subst hj2
            rw [List.take_length, HCS.out, HAT.out.2.1] at own
            have hcw := HR.out.2.1.trans hc
            have hmet := HALL.out.2.2.2.2.2.2 wr hcw
            obtain ⟨Al, cl, rfl, _, _⟩ := own.shape
            have HO := Lib.hid (And.intro hmet (And.intro own hcw))
            have HC2 := Lib.hid hc
            clear hmet own hcw hc
            go_wp2_with fail
            refine HO.out.1.mono ?_
            rintro e w12 ⟨rfl, hc12⟩
            have hcw12 := HO.out.2.2.trans hc12
            have hsame := TBSame_any _ K2 _ _ l l w12 ((HO.out.2.1.toSl (K' := fun b => b < wr.heap.size) (fun _ h => h.elim) (fun b hb => (HO.out.2.1.lt hb).2)).chg hc12 fun b hb => ⟨hb, id⟩) (hl.chg hcw12 fun b hb => ⟨hK2 b hb, id⟩) (fun b hb => Nat.lt_of_lt_of_le hb hc12.size) (fun b hb => Nat.lt_of_lt_of_le (hK2 b hb) hcw12.size)
            rw [tEqL_self] at hsame
            have hq4 : (q4 : Int) < (cs.length : Int) := by have := hat.mlt; rw [← HCS.out] at this; have := HQ4.out; omega
            have hq0 : (0 : Int) ≤ (q4 : Int) := by omega
            have HS := Lib.hid (And.intro hsame (And.intro HQ4.out (And.intro hcw12 ((HC2.out).trans hc12))))
            clear hsame hcw12 hc12
            go_wp2_with fail
            refine HS.out.1.mono ?_
            rintro e w13 ⟨rfl, hc13⟩
            have hml : q4 < cs.length := by omega
            obtain ⟨p, hp⟩ : ∃ p, p = cs[q4] := ⟨_, rfl⟩
            have hp64 : p.length ≤ 4 := by rw [hp]; exact (HPL.out _ (List.getElem_mem _)).2
            have hkey : ∀ (i : Nat) (h : i < p.length), tEq p[i] l[acc] = decide (i = acc % 4) := by
              intro i h
              subst hp
              have hml' : q4 < (chunk l).length := by rw [← HCS.out]; exact hml
              have e0 : cs[q4] = (chunk l)[q4] := by congr 1
              obtain ⟨h4, e⟩ := chunk_at l q4 i hml' (by rw [← e0]; exact h)
              have e1 : cs[q4][i] = (chunk l)[q4][i]'(by rw [← e0]; exact h) := by congr 1
              rw [e1, e, hat.eqs _ h4]
              have := HS.out.2.1
              rw [decide_eq_decide]
              omega
            have hlt4 : acc % 4 < p.length := by
              have e0 : p = (chunk l)[acc / 4]'hat.mlt := by rw [hp]; congr 1
              rw [e0]; exact hat.jlt
            have HP := Lib.hid (And.intro hp (And.intro hkey hlt4))
            have hcw13 := HS.out.2.2.1.trans hc13
            have hc1113 := HS.out.2.2.2.trans hc13
            have H13 := Lib.hid (And.intro hcw13 hc1113)
            clear hp hkey hlt4 hc13 hcw13 hc1113
            go_wp2_with fail
            go_loopw [16, 17] (fun f i wr => ∃ (j : Nat) (ff : Bool), j ≤ p.length ∧ i = .int .i64 j ∧ f = .bool ff ∧ Chg Non w13 wr ∧ Hid (ff = decide (acc % 4 < j))) (fun _ i _ => p.length - (intOf i).toNat)
            case atStart => exact ⟨0, false, Nat.zero_le _, rfl, rfl, Chg.refl _ _, Lib.hid (by simp)⟩
            case round =>
              obtain ⟨j, ff, hj3, rfl, rfl, hc, hff⟩ := hrel
              have hc11r := H13.out.2.trans hc
              have hmr := HR.out.2.2.1.chg hc11r fun b hb => ⟨Nat.lt_of_lt_of_le hb.2 HR.out.2.2.2.2.2.2.2, id⟩
              obtain ⟨b4, o4, A4, c4, rfl, hb4, hp4, _, _, m0⟩ := row_cells hmr hml
              rw [← HP.out.1] at m0 hp4
              have t3 : (q4 : Int) < (cs.length : Int) := by omega
              by_cases hlt3 : j < p.length
              · obtain ⟨b5, o5, rfl, _, _, d0, d1, d2, d3⟩ := tab_cells hp4 hlt3
                have hcr := H13.out.1.trans hc
                obtain ⟨b7, o7, e, _, _, y0, y1, y2, y3⟩ := tab_cells (hl.chg hcr fun b hb => ⟨hK2 b hb, id⟩) hklt
                injection e with e
                injection e with e e'
                subst e e'
                have hr := fun W => run_eql_tab W p[j] l[acc]
                simp only [HP.out.2.1 j hlt3] at hr
                rw [← HX.out] at y0 y1 y2 y3
                simp only [← HX.out] at hr
                generalize p[j] = y at *
                obtain ⟨⟨lo, hi⟩, gr, gn⟩ := y
                dsimp only at d0 d1 d2 d3 y0 y1 y2 y3
                simp only [Tab.v] at hr
                have t4 : (j : Int) < (p.length : Int) := by omega
                have t6 : (acc : Int) < (l.length : Int) := by omega
                clear hmr hp4 hcr hc11r
                cases ff
                · by_cases hje : j = acc % 4
                  · simp only [hje, decide_true] at hr
                    have HJ := Lib.hid hje
                    clear hje
                    go_upto_region 27 with fail
                    go_quiet (fail)
                    go_wp2_with fail
                    go_roundw
                    case rel => exact ⟨j + 1, true, by omega, by go_num, rfl, hc.drewN _, Lib.hid (by rw [HJ.out]; simp)⟩
                    case measure => simp [intOf]; omega
                  · simp only [hje, decide_false] at hr
                    have HJ := Lib.hid hje
                    clear hje
                    go_upto_region 27 with fail
                    go_quiet (fail)
                    go_wp2_with fail
                    go_roundw
                    case rel =>
                      refine ⟨j + 1, false, by omega, by go_num, rfl, hc.drewN _, Lib.hid ?_⟩
                      have h1 := hff.out
                      have h2 := HJ.out
                      simp at h1 ⊢
                      omega
                    case measure => simp [intOf]; omega
                · clear hr
                  go_upto_region 27 with fail
                  go_quiet (fail)
                  go_wp2_with fail
                  go_roundw
                  case rel =>
                    refine ⟨j + 1, true, by omega, by go_num, rfl, hc.drewN _, Lib.hid ?_⟩
                    have h1 := hff.out
                    simp at h1 ⊢
                    omega
                  case measure => simp [intOf]; omega
              · have hj4 : j = p.length := by omega
                subst hj4
                have hft : ff = true := by rw [hff.out]; have := HP.out.2.2; simpa using this
                subst hft
                have HF := Lib.hid (H13.out.1.trans hc)
                clear hmr hp4 hc11r hc
                go_wp2_with fail
                go_ret
                exact ⟨rfl, HF.out⟩
end Go.Proofs.Ytebdaoihajjgmaa
