/- The contract of the law's known: two runs on messages with nothing in them. -/
import Derived.Test.YthfeipnbhecjdaaMad
set_option linter.unusedVariables false
set_option linter.unusedSimpArgs false
namespace Go.Proofs.Ythfeipnbhecjdaa
open Go.RowKit

theorem Client_3 (w : World) : Calls Try.prog 22 #[.int .i64 3] w fun e w' => e = .returned (.int .i64 103) ∧ w = w' := by
  go_enter Try.func22, Try.ntmps22
  go_wp2
  go_ret
  exact ⟨rfl, rfl⟩

set_option maxRecDepth 100000 in
set_option maxHeartbeats 1600000 in
theorem MRight_zero (w : World) :
    Calls Try.prog 12 #[.agg zeroMsg.toArray] w fun e w' => e = .returned (.bool false) ∧ Chg Non w w' := by
  have hcon := fun W => ConVote_none (fun _ => False) (.slice none 0 0) [] W SlT.nil_ (fun _ h => h.elim) (by simp)
  have HC := Lib.hid hcon
  clear hcon
  unfold zeroMsg
  go_enter Try.func12, Try.ntmps12
  go_wp2_with (go_at_call 23; first | (refine (in_yes _ _ _ _ ⟨by omega, by omega⟩).mono ?_; rintro e w' ⟨rfl, rfl⟩) | (refine (in_no _ _ _ _ (by omega)).mono ?_; rintro e w' ⟨rfl, rfl⟩))
  refine (HC.out _).mono ?_
  rintro e w1 ⟨rfl, hc⟩
  obtain ⟨hcl, hf⟩ := (fun {W w1 : World} (h : Chg Non W w1) => (⟨fun p hp => h.cell hp id, fun p hp => h.frozen hp id⟩ : (∀ p : Addr, p.block < W.heap.size → w1.cell? p = W.cell? p) ∧ (∀ p : Addr, p.block < W.heap.size → w1.frozen? p = W.frozen? p))) hc
  go_wp2_with fail
  go_ret
  exact ⟨rfl, ((Chg.refl Non w).alloc _).trans hc⟩

set_option maxRecDepth 100000 in
theorem Encode_zero (w : World) :
    Calls Try.prog 5 #[.agg zeroMsg.toArray] w fun e w' => e = .returned (.tuple #[.slice none 0 0, .int .i64 1]) ∧ Chg Non w w' := by
  have hcall := fun W => MRight_zero W
  have HC := Lib.hid hcall
  clear hcall
  unfold zeroMsg at *
  go_enter Try.func5, Try.ntmps5
  go_wp2_with fail
  refine (HC.out _).mono ?_
  rintro e w1 ⟨rfl, hc1⟩
  go_wp2_with fail
  go_ret2
  exact ⟨rfl, ((Chg.refl Non w).alloc _).trans hc1⟩

set_option maxRecDepth 100000 in
set_option maxHeartbeats 1600000 in
theorem known_yes (w : World) : Calls Try.prog 9 #[] w fun e w' => e = .returned (.bool true) ∧ Chg Non w w' := by
  obtain ⟨m, hm⟩ : ∃ m : Msg, m = ⟨3, 0, 0, 0, 5, 0, 0, 0, [], []⟩ := ⟨_, rfl⟩
  have hok : MsgOk m := by rw [hm]; constructor <;> simp
  have he := fun W => Encode_yes (fun _ => False) [.int .i64 3, .int .i64 0, .int .i64 0, .int .i64 0, .int .i64 5, .int .i64 0, .int .i64 0, .int .i64 0, .slice none 0 0, .slice none 0 0] m W (by rw [hm]; exact ⟨_, _, rfl, SlT.nil_, SlT.nil_⟩) (fun _ h => h.elim) hok
  have hz := Encode_zero
  have HE := Lib.hid (And.intro he hz)
  have HM := Lib.hid hm
  clear he hz hm
  unfold zeroMsg at HE
  go_enter Try.func9, Try.ntmps9
  go_wp2_with fail
  refine (HE.out.1 _).mono ?_
  rintro e w1 ⟨v1, rfl, hs1, hc1⟩
  obtain ⟨A, cap, rfl, _, _⟩ := hs1.shape
  go_wp2_with fail
  refine (Decode_any _ _ m w1 hs1 (fun b hb => hb.2) hok).mono ?_
  rintro e w2 ⟨cs, rfl, hm2, hc2⟩
  obtain ⟨bv, lv, rfl, hb2, hl2⟩ := hm2
  obtain ⟨_, _, rfl, _, _⟩ := hb2.shape
  obtain ⟨_, _, rfl, _, _⟩ := hl2.shape
  rw [show m.ballot = 5 by rw [HM.out]]
  go_wp2_with fail
  refine (HE.out.2 _).mono ?_
  rintro e w3 ⟨rfl, hc3⟩
  have hcl : ∀ j, w3.cell? ⟨w2.heap.size, j, none⟩ = _ := fun j => hc3.cell (p := ⟨w2.heap.size, j, none⟩) (by simp) id
  simp only [World.cell?_alloc_new] at hcl
  have hcw : Chg Non w w3 := ((hc1.trans hc2).alloc _).trans hc3
  clear hc1 hc2 hc3
  have HCW := Lib.hid hcw
  clear hcw
  go_wp2_with fail
  refine (Client_3 _).mono ?_
  rintro e w4 ⟨rfl, rfl⟩
  go_wp2_with fail
  go_ret
  exact ⟨rfl, HCW.out⟩
end Go.Proofs.Ythfeipnbhecjdaa
