/- A table read from octets. -/
import Derived.Test.YtebdaoihajjgmaaRtb
set_option linter.unusedVariables false
set_option linter.unusedSimpArgs false
namespace Go.Proofs.Ytebdaoihajjgmaa
open Go.RowKit

theorem encTabs_drop (l : List Tab) (k : Nat) (h : k < l.length) : encTabs (l.drop k) = encSpan l[k].span ++ (l[k].group :: (be l[k].gen 4 ++ encTabs (l.drop (k + 1)))) := by
  rw [List.drop_eq_getElem_cons h, encTabs, encTab]
  simp
theorem Rd.below {w : World} {K : Nat → Prop} {g : Nat} {l : List Int} (h : Rd w K g l) : ∀ b, K b → b < w.heap.size := by obtain ⟨_, _, _, _, x⟩ := h; exact x
set_option maxRecDepth 100000 in
set_option maxHeartbeats 3200000 in
theorem TTake_any (K : Nat → Prop) (g : Nat) (l : List Tab) (w : World) (h : Rd w K g (encTable l)) (h16 : l.length ≤ 16) (hok : ∀ x ∈ l, pRight x.span = true ∧ pNum x = true) (hm : mCode l = 0) :
    Calls Try.prog 49 #[.pointer (some ⟨g, 0, none⟩)] w fun e w' => ∃ gt KT, e = .returned (.pointer (some ⟨gt, 0, none⟩)) ∧ Tbl w' KT gt (chunk l) ∧ Rd w' K g [] ∧ Chg (Is g) w w' ∧ w.heap.size ≤ gt ∧ (∀ b, KT b → w.heap.size ≤ b) := by
  have hgl := h.lt
  have HK := Lib.hid h.below
  have hby := RByte_any K g (encTabs l) (l.length : Int) w (by simpa [encTable] using h) ⟨by omega, by omega⟩
  have H := Lib.hid (And.intro hby hm)
  clear hby hm h
  go_enter Try.func49, Try.ntmps49
  go_wp2_with fail
  with_reducible refine H.out.1.mono ?_
  rintro e w1 ⟨rfl, hr1, hc1⟩
  have H1 := Lib.hid (And.intro hr1 hc1)
  clear hr1 hc1
  go_wp2_with fail
  go_loopw [3, 4] (fun lv n wr => ∃ (k m : Nat), k + m = l.length ∧ n = .int .u8 m ∧ Own wr w.heap.size 28 tTab Non lv (l.take k) ∧ Hid (Rd wr K g (encTabs (l.drop k))) ∧ Chg (Is g) w wr) (fun _ n _ => (intOf n).toNat)
  case atStart => exact ⟨0, l.length, by omega, rfl, Own.nil_, Lib.hid H1.out.1, H1.out.2⟩
  case round =>
    obtain ⟨k, m, hkm, rfl, own, hrd, hc⟩ := hrel
    by_cases hm0 : 0 < m
    · have hlt : k < l.length := by omega
      have hrd' := hrd.out
      rw [encTabs_drop l k hlt] at hrd'
      obtain ⟨hpr, hpn⟩ := hok l[k] (List.getElem_mem _)
      have hwt := wtab_of hpr hpn
      have hsn : l.take (k + 1) = l.take k ++ [l[k]] := List.take_succ_eq_append_getElem hlt
      obtain ⟨x, hx⟩ : ∃ x, x = l[k] := ⟨_, rfl⟩
      rw [← hx] at hrd' hpr hwt hsn
      obtain ⟨⟨slo, shi⟩, gr, gn⟩ := x
      obtain ⟨z1, z2, z3, z4⟩ := hwt
      dsimp only at hrd' hpr z1 z2 z3 z4
      obtain ⟨lk, hlk⟩ : ∃ lk, lk = l.take k := ⟨_, rfl⟩
      have hll : lk.length ≤ 16 := by rw [hlk, List.length_take]; omega
      rw [← hlk] at own hsn
      obtain ⟨Al, cl, rfl, _, _⟩ := own.shape
      have hst := STake_any K g _ ⟨slo, shi⟩ wr hrd' hpr
      have hcv1 : IntKind.i64.wrap gr = gr := by simp [IntKind.wrap, IntKind.bits, IntKind.signed]; omega
      have hcv2 : IntKind.i64.wrap gn = gn := by simp [IntKind.wrap, IntKind.bits, IntKind.signed]; omega
      have hzw : w.heap.size ≤ wr.heap.size := hc.size
      have hm0' : (0 : Int) < (m : Int) := by omega
      have HR := Lib.hid (And.intro own (And.intro hst (And.intro hc hsn)))
      clear own hst hc hsn hrd hrd' hpr hpn hx hlk
      go_wp2_with fail
      with_reducible refine HR.out.2.1.mono ?_
      rintro e w2 ⟨rfl, hr2, hc2⟩
      have H2 := Lib.hid (And.intro hr2 hc2)
      have hz2 : wr.heap.size ≤ w2.heap.size := hc2.size
      clear hr2 hc2
      go_wp2_with (refine wpList_storeB rfl 28 (.tmp 5) (.tmp 16) rfl w2.heap.size _ rfl rfl (Blk.new _ _ _) rfl (by kernel_rfl) (by simp [Value.oneCell']) ?_)
      intro w3 hb3 hc3 hz3
      have hg3 : Chg Non w2 w3 := ((Chg.refl Non w2).alloc _).then_ hc3 (fun q hq e => by have : q = w2.heap.size := e; omega)
      have hrb := RByte_any K g _ gr w3 (H2.out.1.chg hg3 id fun _ _ x => x) z3
      have H3 := Lib.hid (And.intro hb3 (And.intro hg3 hrb))
      clear hb3 hc3 hz3 hg3 hrb
      go_wp2_with fail
      with_reducible refine H3.out.2.2.mono ?_
      rintro e w4 ⟨rfl, hr4, hc4⟩
      have hb4 := H3.out.1.chg hc4 (show ¬ (w2.heap.size = g) by omega)
      have x4 := hb4.cell
      have y4 := hb4.frozen
      have hb5 : Blk (w4.setCell ⟨w2.heap.size, 2, none⟩ (.int .i64 gr)) w2.heap.size 28 #[.string slo, .string shi, .int .i64 gr, .int .i64 0] := by simpa using hb4.set_ 2 (.int .i64 gr)
      have hr5 : Rd (w4.setCell ⟨w2.heap.size, 2, none⟩ (.int .i64 gr)) K g (be gn 4 ++ encTabs (l.drop (k + 1))) := hr4.chg (Chg.at_ w4 w2.heap.size 2 _) (show ¬ (g = w2.heap.size) by omega) fun b hb e => by
        have h1 := HK.out b hb
        have : b = w2.heap.size := e
        omega
      have hrn := RNum_any K g _ gn _ hr5 ⟨by omega, by omega⟩
      have H4 := Lib.hid (And.intro hb5 (And.intro hc4 hrn))
      clear hr4 hc4 hb4 hb5 hr5 hrn
      go_wp2_with fail
      clear x4 y4
      with_reducible refine H4.out.2.2.mono ?_
      rintro e w5 ⟨rfl, hr6, hc6⟩
      have hb6 := H4.out.1.chg hc6 (show ¬ (w2.heap.size = g) by omega)
      have x6 := hb6.cell
      have y6 := hb6.frozen
      have hb7 : Blk (w5.setCell ⟨w2.heap.size, 3, none⟩ (.int .i64 gn)) w2.heap.size 28 #[.string slo, .string shi, .int .i64 gr, .int .i64 gn] := by simpa using hb6.set_ 3 (.int .i64 gn)
      have x7 := hb7.cell
      have hr7 : Rd (w5.setCell ⟨w2.heap.size, 3, none⟩ (.int .i64 gn)) K g (encTabs (l.drop (k + 1))) := hr6.chg (Chg.at_ w5 w2.heap.size 3 _) (show ¬ (g = w2.heap.size) by omega) fun b hb e => by
        have h1 := HK.out b hb
        have : b = w2.heap.size := e
        omega
      have hc7 : Chg (Is g) wr (w5.setCell ⟨w2.heap.size, 3, none⟩ (.int .i64 gn)) := (((((H2.out.2.trans H3.out.2.1.any).trans H4.out.2.1).setNew (p := ⟨w2.heap.size, 2, none⟩) hz2 (.int .i64 gr)).trans hc6).setNew (p := ⟨w2.heap.size, 3, none⟩) hz2 (.int .i64 gn))
      obtain ⟨w8, hw8⟩ : ∃ w8, w8 = (w5.setCell ⟨w2.heap.size, 3, none⟩ (.int .i64 gn)).alloc (.cells #[.string slo, .string shi, .int .i64 gr, .int .i64 gn] 28) := ⟨_, rfl⟩
      have hc8 : Chg (Is g) wr w8 := by rw [hw8]; exact hc7.alloc _
      have hb8 : Blk w8 w5.heap.size 28 #[.string slo, .string shi, .int .i64 gr, .int .i64 gn] := by rw [hw8]; exact Blk.newAt (by simp [World.setCell]) _ _
      have own8 := HR.out.1.chg hc8 (fun b hb e => by have h1 := (HR.out.1.lt hb).1; have : b = g := e; omega) (fun _ h => h.elim)
      have hz8 : w.heap.size ≤ w8.heap.size := Nat.le_trans hzw hc8.size
      have hr8 : Rd w8 K g (encTabs (l.drop (k + 1))) := by rw [hw8]; exact hr7.chg ((Chg.refl Non _).alloc _) id fun _ _ x => x
      have hrep : tTab.rep w8 Non [.string slo, .string shi, .int .i64 gr, .int .i64 gn] ⟨⟨slo, shi⟩, gr, gn⟩ := ⟨rfl, ⟨by unfold maxLen; dsimp only; omega, by unfold maxLen; dsimp only; omega⟩, fits_i64 (by dsimp only; omega), fits_i64 (by dsimp only; omega)⟩
      have H8 := Lib.hid (And.intro hw8 (And.intro own8 (And.intro hb8 (And.intro hz8 (And.intro hrep (And.intro hr8 hc8))))))
      clear hw8 own8 hb8 hz8 hrep hr8 hc8 hc7 hr7 hb7 hb6 hr6 hc6
      go_wp2_with (at_builtin; rw [← H8.out.1]; refine wpList_push tTab Non rfl (.tmp 25) (.tmp 27) 22 rfl w.heap.size 28 _ 48 Try.underlying22 info_tab rfl (by decide) (by decide) _ lk _ [_, _, _, _] w5.heap.size (0, 0) rfl rfl H8.out.2.1 H8.out.2.2.1 H8.out.2.2.2.2.1 (fun _ h => h.elim) (by omega) H8.out.2.2.2.1 ?_)
      intro A9 c9 w9 own9 hc9 hat
      have hrow : ∀ b, Row (.slice Al lk.length cl) b → w.heap.size ≤ b := fun b hb => (H8.out.2.1.lt hb).1
      have hr9 := H8.out.2.2.2.2.2.1.chg hc9 (fun e => by have := hrow g e; omega) fun b hb e => by have h1 := HK.out b hb; have := hrow b e; omega
      have hcw9 := (HR.out.2.2.1.trans H8.out.2.2.2.2.2.2).then_ hc9 (fun b hb e => by have := hrow b e; omega)
      have H9 := Lib.hid (And.intro own9 (And.intro hr9 hcw9))
      clear own9 hc9 hat hrow hr9 hcw9 x6 y6 x7
      go_wp2_with fail
      go_roundw
      case rel => exact ⟨k + 1, m - 1, by omega, by go_num, by rw [HR.out.2.2.2]; simpa using H9.out.1, Lib.hid H9.out.2.1, H9.out.2.2⟩
      case measure => simp [intOf]; omega
    · have hm00 : m = 0 := by omega
      subst hm00
      have hkn : k = l.length := by omega
      subst hkn
      have hrd' := hrd.out
      rw [List.drop_length] at hrd'
      rw [List.take_length] at own
      have hs := own.toSl (K' := fun b => b < wr.heap.size) (fun _ h => h.elim) (fun b hb => (own.lt hb).2)
      have hmade := made_any _ _ l wr hs (fun b hb => hb) (by omega)
      obtain ⟨Al, cl, rfl, _, _⟩ := own.shape
      have HZ := Lib.hid (And.intro hmade (And.intro hrd' hc))
      clear hmade hrd hrd' hc hs own
      go_wp2_with fail
      with_reducible refine HZ.out.1.mono ?_
      rintro e w2 hpost
      obtain ⟨hc2, gt, hg2, rfl, hT⟩ := madeYes hpost H.out.2
      clear hpost
      have hz := HZ.out.2.2.size
      have HT := Lib.hid (And.intro hT (And.intro (HZ.out.2.1.chg hc2 id fun _ _ x => x) (HZ.out.2.2.grow hc2)))
      clear hT hc2
      go_wp2_with fail
      go_ret
      exact ⟨gt, _, rfl, HT.out.1, HT.out.2.1, HT.out.2.2, by omega, fun b hb => by have : gt + 1 ≤ b := hb.1; omega⟩
end Go.Proofs.Ytebdaoihajjgmaa
