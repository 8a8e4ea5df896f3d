/- Spans that cover all names: the document's answer and the program's. -/
import Derived.Test.YtebdaoihajjgmaaRws
import Derived.Test.YtebdaoihajjgmaaFam
import Derived.Deep.DeepCutAuto
import Derived.Deep.CutBlock
set_option linter.unusedVariables false
set_option linter.unusedSimpArgs false
namespace Go.Proofs.Ytebdaoihajjgmaa
open Go.RowKit

abbrev SpansAt (w : World) (K : Nat → Prop) (v : Value) (l : List Span) : Prop := SlT tSpan w K v l
theorem span_cells {w : World} {K : Nat → Prop} {A : Option Addr} {n cap : Nat} {l : List Span} (h : SpansAt w K (.slice A n cap) l) {k : Nat} (hk : k < l.length) :
    ∃ b off, A = some ⟨b, off, none⟩ ∧ K b ∧ (l[k].lo.size ≤ maxLen ∧ l[k].hi.size ≤ maxLen) ∧
      w.cell? ⟨b, off + k * 2, none⟩ = some (.string l[k].lo) ∧ w.cell? ⟨b, off + k * 2 + 1, none⟩ = some (.string l[k].hi) := by
  obtain ⟨b, off, cs, hA, hb, hr, hc⟩ := h.get hk
  obtain ⟨rfl, h1, h2⟩ := hr
  exact ⟨b, off, hA, hb, ⟨h1, h2⟩, hc 0 _ rfl, hc 1 _ rfl⟩

/-- Each begins where the one ahead ends, from lo on; the last alone has no end. -/
def covFrom (lo : ByteArray) : List Span → Bool
  | [] => true
  | s :: r => pRight s && decide (s.lo.toList = lo.toList) && (sE s.hi == r.isEmpty) && covFrom s.hi r
def pCover (l : List Span) : Bool := covFrom { data := #[] } l && decide (0 < l.length)

theorem cov_bool (b : Bool) (k n : Nat) : (!b == ((k : Int) + 1 == (n : Int))) = !(b == decide (k + 1 = n)) := by
  have : ((k : Int) + 1 == (n : Int)) = decide (k + 1 = n) := by
    rw [Bool.eq_iff_iff]
    simp
    omega
  rw [this]
set_option maxHeartbeats 1600000 in
theorem R7Cover_any (K : Nat → Prop) (v : Value) (l : List Span) (w : World) (h : SpansAt w K v l) (hK : ∀ b, K b → b < w.heap.size) :
    Calls Try.prog 9 #[v] w fun e w' => e = .returned (.bool (pCover l)) ∧ Chg Non w w' := by
  obtain ⟨A, cap, rfl, h1, h2⟩ := h.shape
  go_enter Try.func9, Try.ntmps9
  go_wp2_with fail
  go_loopw [3, 4] (fun s i wr => ∃ (k : Nat) (lo : ByteArray), k ≤ l.length ∧ s = .string lo ∧ i = .int .i64 k ∧ Chg Non w wr ∧ Hid (covFrom { data := #[] } l = covFrom lo (l.drop k))) (fun _ i _ => l.length - (intOf i).toNat)
  case atStart => exact ⟨0, _, Nat.zero_le _, rfl, rfl, Chg.refl _ _, Lib.hid rfl⟩
  case round =>
    obtain ⟨k, lo, hk, rfl, rfl, hc, hcov⟩ := hrel
    by_cases hlt : k < l.length
    · have h' := h.chg hc fun b hb => ⟨hK b hb, id⟩
      obtain ⟨bb, off, rfl, hbb, ⟨_, _⟩, c0, c1⟩ := span_cells h' hlt
      have ht : covFrom lo (l.drop k) = (pRight l[k] && decide (l[k].lo.toList = lo.toList) && (sE l[k].hi == (l.drop (k + 1)).isEmpty) && covFrom l[k].hi (l.drop (k + 1))) := by rw [List.drop_eq_getElem_cons hlt, covFrom]
      have he : (l.drop (k + 1)).isEmpty = decide (k + 1 = l.length) := by
        rw [Bool.eq_iff_iff]
        simp
        omega
      rw [he] at ht
      obtain ⟨x, hx⟩ : ∃ x, x = l[k] := ⟨_, rfl⟩
      rw [← hx] at ht c0 c1
      have hr := fun W => R7Right_any x W
      cases hp : pRight x
      · rw [hp] at ht
        simp only [hp] at hr
        have HR := Lib.hid hr
        have HT := Lib.hid ht
        clear hr ht hp he h' hx
        go_wp2_with (go_at_call 27; refine (HR.out _).mono ?_; rintro e w1 ⟨rfl, hc1⟩)
        go_ret
        exact ⟨ret_bool (by rw [pCover, hcov.out, HT.out]; simp), hc.trans hc1⟩
      · rw [hp] at ht
        simp only [hp] at hr
        have HR := Lib.hid hr
        have HT := Lib.hid ht
        clear hr ht hp he h' hx
        go_wp2_with (go_at_call 27; refine (HR.out _).mono ?_; rintro e w1 ⟨rfl, hc1⟩; replace c0 := hc1.cellv c0 id; replace c1 := hc1.cellv c1 id)
        all_goals first
          | (go_ret
             rename_i e1
             refine ⟨ret_bool ?_, hc.trans hc1⟩
             rw [pCover, hcov.out, HT.out]
             first
               | (simp [e1]; done)
               | (rw [cov_bool] at e1
                  simp at e1
                  simp [e1]))
          | (rename_i e1 e2
             rw [cov_bool] at e2
             simp at e2
             refine ⟨⟨k + 1, x.hi, by omega, rfl, by go_num, hc.trans hc1, Lib.hid ?_⟩, ?_⟩
             · rw [hcov.out, HT.out]
               simp [e1, e2]
             · simp [intOf]; omega)
    · have hk' : k = l.length := by omega
      subst hk'
      go_wp2_with fail
      go_ret
      exact ⟨ret_bool (by rw [pCover, hcov.out, List.drop_length]; simp [covFrom]), hc⟩

/-- Each may be and, but for the first, begins where the one ahead ends, which has an end. -/
def chain : Option ByteArray → List Span → Bool
  | _, [] => true
  | none, s :: r => pRight s && chain (some s.hi) r
  | some hi, s :: r => pRight s && (!sE s.lo && decide (hi.toList = s.lo.toList)) && chain (some s.hi) r
/-- The program's own answer. -/
def sCover (l : List Span) : Bool := match l with
  | [] => false
  | s :: r => sE s.lo && sE (((s :: r)[r.length]'(by simp)).hi) && chain none (s :: r)
def prev (l : List Span) (k : Nat) : Option ByteArray := if k = 0 then none else (l[k - 1]?).map (·.hi)

set_option maxRecDepth 100000 in
set_option maxHeartbeats 1600000 in
theorem SCover_any (K : Nat → Prop) (v : Value) (l : List Span) (w : World) (h : SpansAt w K v l) (hK : ∀ b, K b → b < w.heap.size) :
    Calls Try.prog 52 #[v] w fun e w' => e = .returned (.bool (sCover l)) ∧ Chg Non w w' := by
  obtain ⟨A, cap, rfl, h1, h2⟩ := h.shape
  by_cases h0 : l.length = 0
  · have e0 : l = [] := List.eq_nil_of_length_eq_zero h0
    subst e0
    go_enter Try.func52, Try.ntmps52
    go_wp2
    go_ret
    exact ⟨rfl, Chg.refl _ _⟩
  · have hl0 : 0 < l.length := by omega
    obtain ⟨bb, off, rfl, hbb, _, c0, c1⟩ := span_cells h hl0
    obtain ⟨bb', off', e, _, _, d0, d1⟩ := span_cells h (k := l.length - 1) (by omega)
    injection e with e
    injection e with e e'
    subst e e'
    have hsc : sCover l = (sE l[0].lo && sE (l[l.length - 1]).hi && chain none l) := by
      cases l with
      | nil => simp at hl0
      | cons s r => rfl
    obtain ⟨n, hn⟩ : ∃ n, n + 1 = l.length := ⟨l.length - 1, by omega⟩
    have hn' : l.length - 1 = n := by omega
    simp only [hn'] at d0 d1 hsc
    have hi1 : (0 : Int) < (l.length : Int) := by omega
    have hi2 : (l.length : Int) - 1 = (n : Int) := by omega
    have hi3 : (n : Int) < (l.length : Int) := by omega
    obtain ⟨s0, e0⟩ : ∃ s, s = l[0] := ⟨_, rfl⟩
    obtain ⟨sn, en⟩ : ∃ s, s = l[n] := ⟨_, rfl⟩
    rw [← e0] at c0 c1 hsc
    rw [← en] at d0 d1 hsc
    clear e0 en
    have HSC := Lib.hid hsc
    clear hsc hn hn' h0 d0 c1
    simp only [Nat.zero_mul, Nat.add_zero] at c0
    have hne : ¬ l = [] := by rintro rfl; simp at hl0
    have hnz : ((l.length : Int) == 0) = false := by rw [beq_eq_false_iff_ne]; omega
    by_cases q0 : s0.lo.toList = []
    · by_cases q1 : sn.hi.toList = []
      · go_enter Try.func52, Try.ntmps52
        go_wp2_with fail
        have hsc : sCover l = chain none l := by rw [HSC.out]; simp [q0, q1]
        have HSC := Lib.hid hsc
        clear hsc q0 q1 c0 d1 hi1 hi2 hi3 hne hnz
        go_loopw [27] (fun i wr => ∃ k : Nat, k ≤ l.length ∧ i = .int .i64 k ∧ Chg Non w wr ∧ Hid (sCover l = chain (prev l k) (l.drop k))) (fun i _ => l.length - (intOf i).toNat)
        case atStart => exact ⟨0, Nat.zero_le _, rfl, Chg.refl _ _, Lib.hid HSC.out⟩
        case round =>
          clear HSC
          obtain ⟨k, hk, rfl, hc, hch⟩ := hrel
          by_cases hlt : k < l.length
          · have h' := h.chg hc fun b hb => ⟨hK b hb, id⟩
            obtain ⟨bb2, off2, e, _, _, c0, c1⟩ := span_cells h' hlt
            injection e with e
            injection e with e e'
            subst e e'
            have hr := fun W => SRight_any l[k] W
            have hdr : l.drop k = l[k] :: l.drop (k + 1) := List.drop_eq_getElem_cons hlt
            have hnx : prev l (k + 1) = some l[k].hi := by simp [prev, hlt]
            obtain ⟨x, hx⟩ : ∃ x, x = l[k] := ⟨_, rfl⟩
            rw [← hx] at c0 c1 hr hdr hnx
            obtain ⟨W0, hW0⟩ : ∃ W0, W0 = wr.alloc (.cells #[.string x.lo, .string x.hi] 26) := ⟨_, rfl⟩
            have hcW : Chg Non wr W0 := by rw [hW0]; exact (Chg.refl Non wr).alloc _
            have hbW : Blk W0 wr.heap.size 26 #[.string x.lo, .string x.hi] := by rw [hW0]; exact Blk.new _ _ _
            have HW0 := Lib.hid hW0
            have HB := Lib.hid hbW
            have HCW := Lib.hid hcW
            have hcw0 := hc.trans hcW
            obtain ⟨b, hb⟩ : ∃ b, b = pRight x := ⟨_, rfl⟩
            rw [← hb] at hr
            have HR := Lib.hid hr
            have HD := Lib.hid (And.intro hdr (And.intro hnx (And.intro hch hb)))
            have x0 := Fam.cells (w := W0) (p := ⟨wr.heap.size, 0, none⟩) (v := .string x.lo) (by rw [hbW.cell]; rfl)
            have x1 := Fam.cells (w := W0) (p := ⟨wr.heap.size, 1, none⟩) (v := .string x.hi) (by rw [hbW.cell]; rfl)
            have HX := Lib.hid (And.intro x0 x1)
            clear x0 x1
            have hpos : k = 0 ∨ ∃ (j : Nat) (hj : j < l.length), k = j + 1 ∧ wr.cell? ⟨bb, off + j * 2 + 1, none⟩ = some (.string l[j].hi) := by
              rcases Nat.eq_zero_or_pos k with hk0 | hk0
              · exact .inl hk0
              · have hj : k - 1 < l.length := by omega
                obtain ⟨b3, o3, e, _, _, _, p1⟩ := span_cells h' hj
                injection e with e
                injection e with e e'
                subst e e'
                exact .inr ⟨k - 1, hj, by omega, p1⟩
            clear hbW hr hdr hnx hch h' hx hcW hW0 hb
            cases b
            · go_upto_region 6 with fail
              rw [← HW0.out]
              clear HW0 c0 c1
              obtain ⟨x0, x1⟩ := HX.out
              refine wp_region_fam (by kernel_rfl) (by kernel_rfl) ?_
              repeat (go_big_quiet_step ((go_at_call 56; refine Fam.back (HR.out _))))
              refine wpQuiet_nil ?_
              intro _ hw'
              obtain ⟨i, rfl⟩ := hw'
              have hci := hcw0.trans i.h
              have HI := Lib.hid hci
              clear hci x0 x1
              go_wp2_with fail
              go_ret
              refine ⟨ret_bool ?_, HI.out⟩
              rw [HD.out.2.2.1.out, HD.out.1]
              have hx := HD.out.2.2.2
              cases prev l k <;> simp [chain, ← hx]
            · rcases hpos with rfl | ⟨j, hj, rfl, p1⟩
              · simp only [Nat.zero_mul, Nat.add_zero] at c0 c1
                go_upto_region 6 with fail
                rw [← HW0.out]
                clear HW0 c0 c1
                obtain ⟨x0, x1⟩ := HX.out
                refine wp_region_fam (by kernel_rfl) (by kernel_rfl) ?_
                repeat (go_big_quiet_step ((go_at_call 56; refine Fam.back (HR.out _))))
                refine wpQuiet_nil ?_
                intro _ hw'
                obtain ⟨i, rfl⟩ := hw'
                have hci := hcw0.trans i.h
                have HI := Lib.hid hci
                clear hci x0 x1
                go_wp2_with fail
                go_roundw
                case rel =>
                  refine ⟨1, by omega, by go_num, HI.out, Lib.hid ?_⟩
                  rw [HD.out.2.2.1.out, HD.out.1, HD.out.2.1]
                  simp [chain, prev, ← HD.out.2.2.2]
                case measure => simp [intOf]; omega
              · have t1 : ¬ (j : Int) + 1 ≤ 0 := by omega
                have t2 : ((j : Int) + 1 - 1) = (j : Int) := by omega
                have y1 := Fam.cells (w := W0) (HCW.out.cellv p1 id)
                have hpv : prev l (j + 1) = some l[j].hi := by simp [prev, hj]
                have hji : (j : Int) < (l.length : Int) := by omega
                obtain ⟨ph, hph⟩ : ∃ s, s = l[j].hi := ⟨_, rfl⟩
                rw [← hph] at p1 y1 hpv
                have HP := Lib.hid hpv
                clear hpv hph p1
                by_cases q0 : x.lo.toList = []
                · have q0' : x.lo.toList.isEmpty = true := by simp [q0]
                  go_upto_region 6 with fail
                  rw [← HW0.out]
                  clear HW0 c0 c1
                  obtain ⟨x0, x1⟩ := HX.out
                  refine wp_region_fam (by kernel_rfl) (by kernel_rfl) ?_
                  repeat (go_big_quiet_step ((go_at_call 56; refine Fam.back (HR.out _))))
                  refine wpQuiet_nil ?_
                  intro _ hw'
                  obtain ⟨i, rfl⟩ := hw'
                  have hci := hcw0.trans i.h
                  have HI := Lib.hid hci
                  clear hci x0 x1
                  go_wp2_with fail
                  go_ret
                  refine ⟨ret_bool ?_, HI.out⟩
                  rw [HD.out.2.2.1.out, HD.out.1, HP.out]
                  simp [chain, q0]
                · have q0' : x.lo.toList.isEmpty = false := by simpa using q0
                  by_cases q1 : ph.toList = x.lo.toList
                  · have q1' : (ph.toList == x.lo.toList) = true := by simp [q1]
                    go_upto_region 6 with fail
                    rw [← HW0.out]
                    clear HW0 c0 c1
                    obtain ⟨x0, x1⟩ := HX.out
                    refine wp_region_fam (by kernel_rfl) (by kernel_rfl) ?_
                    repeat (go_big_quiet_step ((go_at_call 56; refine Fam.back (HR.out _))))
                    refine wpQuiet_nil ?_
                    intro _ hw'
                    obtain ⟨i, rfl⟩ := hw'
                    have hci := hcw0.trans i.h
                    have HI := Lib.hid hci
                    clear hci x0 x1
                    go_wp2_with fail
                    go_roundw
                    case rel =>
                      refine ⟨j + 1 + 1, by omega, by go_num, HI.out, Lib.hid ?_⟩
                      rw [HD.out.2.2.1.out, HD.out.1, HP.out, HD.out.2.1]
                      simp [chain, ← HD.out.2.2.2, q0, q1]
                    case measure => simp [intOf]; omega
                  · have q1' : (ph.toList == x.lo.toList) = false := by simp [q1]
                    go_upto_region 6 with fail
                    rw [← HW0.out]
                    clear HW0 c0 c1
                    obtain ⟨x0, x1⟩ := HX.out
                    refine wp_region_fam (by kernel_rfl) (by kernel_rfl) ?_
                    repeat (go_big_quiet_step ((go_at_call 56; refine Fam.back (HR.out _))))
                    refine wpQuiet_nil ?_
                    intro _ hw'
                    obtain ⟨i, rfl⟩ := hw'
                    have hci := hcw0.trans i.h
                    have HI := Lib.hid hci
                    clear hci x0 x1
                    go_wp2_with fail
                    go_ret
                    refine ⟨ret_bool ?_, HI.out⟩
                    rw [HD.out.2.2.1.out, HD.out.1, HP.out]
                    simp [chain, q1]
          · have hk' : k = l.length := by omega
            subst hk'
            go_wp2_with fail
            go_ret
            exact ⟨ret_bool (by rw [hch.out, List.drop_length]; cases prev l l.length <;> simp [chain]), hc⟩
      · have q2 : sn.hi.toList.isEmpty = false := by simpa using q1
        go_enter Try.func52, Try.ntmps52
        go_wp2_with fail
        go_ret
        exact ⟨ret_bool (by rw [HSC.out]; simp [q1]), Chg.refl _ _⟩
    · go_enter Try.func52, Try.ntmps52
      go_wp2_with fail
      go_ret
      exact ⟨ret_bool (by rw [HSC.out]; simp [q0]), Chg.refl _ _⟩
end Go.Proofs.Ytebdaoihajjgmaa
