/- Messages: how they lie in memory; contracts of msg.in, vote, Right. -/
import Derived.Test.YthfeipnbhecjdaaOctRead
set_option linter.unusedVariables false
set_option linter.unusedSimpArgs false
namespace Go.Proofs.Ythfeipnbhecjdaa
open Go.RowKit

structure Vote where
  slot : Int
  ballot : Int
  v : List Int
structure Msg where
  kind : Int
  group : Int
  frm : Int
  dst : Int
  ballot : Int
  slot : Int
  client : Int
  seq : Int
  b : List Int
  l : List Vote

def tVote : Ty Vote where
  size := 3
  rep w K cs x := ∃ bv, cs = [.int .i64 x.slot, .int .i64 x.ballot, bv] ∧ Fits .i64 x.slot ∧ Fits .i64 x.ballot ∧ SlT tB w K bv x.v
  len := by rintro w K cs x ⟨bv, rfl, _⟩; rfl
  one := by
    rintro w K cs x ⟨bv, rfl, _, _, h⟩ u hu
    obtain ⟨A, cap, rfl, _⟩ := h.shape
    simp at hu
    rcases hu with rfl | rfl | rfl <;> rfl
  keep := by rintro w w' K K' cs x ⟨bv, rfl, h1, h2, h⟩ hk; exact ⟨bv, rfl, h1, h2, h.keep hk⟩

/-- A message as a value: ten cells. -/
def MsgAt (w : World) (K : Nat → Prop) (cs : List Value) (m : Msg) : Prop :=
  ∃ bv lv, cs = [.int .i64 m.kind, .int .i64 m.group, .int .i64 m.frm, .int .i64 m.dst, .int .i64 m.ballot, .int .i64 m.slot, .int .i64 m.client, .int .i64 m.seq, bv, lv] ∧
    SlT tB w K bv m.b ∧ SlT tVote w K lv m.l
theorem MsgAt.chg {w w' : World} {K C : Nat → Prop} {cs : List Value} {m : Msg} (h : MsgAt w K cs m) (hc : Chg C w w') (hk : ∀ b, K b → b < w.heap.size ∧ ¬ C b) : MsgAt w' K cs m := by
  obtain ⟨bv, lv, e, h1, h2⟩ := h
  exact ⟨bv, lv, e, h1.chg hc hk, h2.chg hc hk⟩
theorem MsgAt.mono {w : World} {K K' : Nat → Prop} {cs : List Value} {m : Msg} (h : MsgAt w K cs m) (hk : ∀ b, K b → K' b) : MsgAt w K' cs m := by
  obtain ⟨bv, lv, e, h1, h2⟩ := h
  exact ⟨bv, lv, e, h1.mono hk, h2.mono hk⟩

/-- May a vote be? -/
def VoteOk (x : Vote) : Prop := 0 ≤ x.slot ∧ x.slot ≤ 1073741824 ∧ -1 ≤ x.ballot ∧ x.ballot ≤ 1073741824 ∧ x.v.length ≤ 1048576
/-- May a message be? -/
structure MsgOk (m : Msg) : Prop where
  kind : 1 ≤ m.kind ∧ m.kind ≤ 9
  group : 0 ≤ m.group ∧ m.group ≤ 3
  frm : 0 ≤ m.frm ∧ m.frm ≤ 355
  dst : 0 ≤ m.dst ∧ m.dst ≤ 355
  ballot : -1 ≤ m.ballot ∧ m.ballot ≤ 1073741824
  slot : 0 ≤ m.slot ∧ m.slot ≤ 1073741824
  client : 0 ≤ m.client ∧ m.client ≤ 255
  seq : 0 ≤ m.seq ∧ m.seq ≤ 1073741824
  b : m.b.length ≤ 1048576
  l : m.l.length ≤ 16
  votes : ∀ x ∈ m.l, VoteOk x

theorem in_yes (n lo hi : Int) (w : World) (h : lo ≤ n ∧ n ≤ hi) : Calls Try.prog 23 #[.int .i64 n, .int .i64 lo, .int .i64 hi] w fun e w' => e = .returned (.bool true) ∧ w = w' := by
  obtain ⟨h1, h2⟩ := h
  go_enter Try.func23, Try.ntmps23
  go_wp2
  go_ret
  exact ⟨rfl, rfl⟩
theorem in_no (n lo hi : Int) (w : World) (h : n < lo) : Calls Try.prog 23 #[.int .i64 n, .int .i64 lo, .int .i64 hi] w fun e w' => e = .returned (.bool false) ∧ w = w' := by
  have : ¬ lo ≤ n := by omega
  go_enter Try.func23, Try.ntmps23
  go_wp2
  go_ret
  exact ⟨rfl, rfl⟩

theorem vote_yes (K : Nat → Prop) (cs : List Value) (x : Vote) (w : World) (h : tVote.rep w K cs x) (hx : VoteOk x) :
    Calls Try.prog 26 #[.agg cs.toArray] w fun e w' => e = .returned (.bool true) ∧ Chg Non w w' := by
  obtain ⟨bv, rfl, _, _, h⟩ := h
  obtain ⟨A, cap, rfl, _⟩ := h.shape
  obtain ⟨a1, a2, a3, a4, a5⟩ := hx
  have a6 : (x.v.length : Int) ≤ 1048576 := by omega
  go_enter Try.func26, Try.ntmps26
  go_wp2_with (go_at_call 23; refine (in_yes _ _ _ _ ⟨by omega, by omega⟩).mono ?_; rintro e w' ⟨rfl, rfl⟩)
  go_ret
  exact ⟨rfl, (Chg.refl Non w).alloc _⟩

theorem Right1_yes (K : Nat → Prop) (cs : List Value) (x : Vote) (w : World) (h : tVote.rep w K cs x) (hK : ∀ b, K b → b < w.heap.size) (hx : VoteOk x) :
    Calls Try.prog 25 #[.agg cs.toArray] w fun e w' => e = .returned (.bool false) ∧ Chg Non w w' := by
  have h' := tVote.keep (K' := K) h fun b hb => ⟨hb, Below.heap_alloc w (.cells cs.toArray 36) b (hK b hb)⟩
  have hv := vote_yes K cs x _ h' hx
  have HV := Lib.hid hv
  clear hv h'
  obtain ⟨bv, rfl, _, _, h⟩ := h
  go_enter Try.func25, Try.ntmps25
  go_wp2_with (go_at_call 26; refine HV.out.mono ?_; rintro e w' ⟨rfl, hc⟩)
  go_ret
  exact ⟨rfl, ((Chg.refl Non w).alloc _).trans hc⟩

set_option maxHeartbeats 800000 in
theorem IdxVote_none (F : Nat) (K : Nat → Prop) (v : Value) (l : List Vote) (w : World) (h : SlT tVote w K v l) (hK : ∀ b, K b → b < w.heap.size)
    (hp : ∀ W cs x, x ∈ l → tVote.rep W K cs x → (∀ b, K b → b < W.heap.size) → Calls Try.prog 25 #[.agg cs.toArray] W fun e W' => e = .returned (.bool false) ∧ Chg Non W W') :
    Calls Try.prog 33 #[v, .func (.func 25) #[] #[]] w fun e w' => e = .returned (.int .i64 (-1)) ∧ Chg Non w w' := by
  obtain ⟨A, cap, rfl, h1, h2⟩ := h.shape
  have HP := Lib.hid hp
  clear hp
  go_enter Try.func33, Try.ntmps33
  go_wp2_with fail
  go_loopw [8] (fun i wr => ∃ k : Nat, k ≤ l.length ∧ i = .int .i64 k ∧ Chg Non w wr) (fun i _ => l.length - (intOf i).toNat)
  case atStart => exact ⟨0, Nat.zero_le _, rfl, Chg.refl _ _⟩
  case round =>
    obtain ⟨k, hk, rfl, hc⟩ := hrel
    by_cases hlt : k < l.length
    · have h' := h.chg hc fun b hb => ⟨hK b hb, id⟩
      obtain ⟨bb, off, cs, rfl, hbb, hr, hcell⟩ := h'.get hlt
      have hcall := HP.out wr cs l[k] (List.getElem_mem _) hr (fun b hb => Nat.lt_of_lt_of_le (hK b hb) hc.size)
      have HC := Lib.hid hcall
      clear hcall
      obtain ⟨bv, rfl, _, _, _⟩ := hr
      have c0 := hcell 0 _ rfl
      have c1 := hcell 1 _ rfl
      have c2 := hcell 2 _ rfl
      simp [tVote] at c0 c1 c2
      go_wp2_with (go_at_call 25; refine HC.out.mono ?_; rintro e w' ⟨rfl, hc'⟩)
      go_roundw
      case rel => exact ⟨k + 1, by omega, by go_num, hc.trans hc'⟩
      case measure => simp [intOf]; omega
    · go_wp2
      go_ret
      exact ⟨rfl, hc⟩

theorem ConVote_none (K : Nat → Prop) (v : Value) (l : List Vote) (w : World) (h : SlT tVote w K v l) (hK : ∀ b, K b → b < w.heap.size) (hl : ∀ x ∈ l, VoteOk x) :
    Calls Try.prog 24 #[v, .func (.func 25) #[] #[]] w fun e w' => e = .returned (.bool false) ∧ Chg Non w w' := by
  have hi := IdxVote_none 25 K v l w h hK fun W cs x hx hr hK => Right1_yes K cs x W hr hK (hl x hx)
  have HI := Lib.hid hi
  clear hi
  go_enter Try.func24, Try.ntmps24
  go_wp2_with (go_at_call 33; refine HI.out.mono ?_; rintro e w' ⟨rfl, hc⟩)
  go_ret
  exact ⟨rfl, hc⟩

set_option maxRecDepth 100000 in
set_option maxHeartbeats 1600000 in
theorem MRight_yes (K : Nat → Prop) (cs : List Value) (m : Msg) (w : World) (h : MsgAt w K cs m) (hK : ∀ b, K b → b < w.heap.size) (hm : MsgOk m) :
    Calls Try.prog 12 #[.agg cs.toArray] w fun e w' => e = .returned (.bool true) ∧ Chg Non w w' := by
  obtain ⟨bv, lv, rfl, hb, hl⟩ := h
  obtain ⟨A, cap, rfl, _⟩ := hb.shape
  obtain ⟨A', cap', rfl, _⟩ := hl.shape
  obtain ⟨⟨a1, a1'⟩, ⟨a2, a2'⟩, ⟨a3, a3'⟩, ⟨a4, a4'⟩, ⟨a5, a5'⟩, ⟨a6, a6'⟩, ⟨a7, a7'⟩, ⟨a8, a8'⟩, a9, a10, hv⟩ := hm
  have hcon := fun W h1 h2 => ConVote_none K (.slice A' m.l.length cap') m.l W h1 h2 hv
  have HC := Lib.hid hcon
  have a9' : (m.b.length : Int) ≤ 1048576 := by omega
  have a10' : (m.l.length : Int) ≤ 16 := by omega
  clear hcon hv
  go_enter Try.func12, Try.ntmps12
  have hl1 := fun o => hl.chg ((Chg.refl Non w).alloc o) (fun b hb => ⟨hK b hb, id⟩)
  have hK1 : ∀ o, ∀ b, K b → b < (w.alloc o).heap.size := fun o b hb => by have := hK b hb; simp; omega
  have HL := Lib.hid (And.intro hl1 hK1)
  clear hl1 hK1
  go_wp2_with (go_at_call 23; refine (in_yes _ _ _ _ ⟨by omega, by omega⟩).mono ?_; rintro e w' ⟨rfl, rfl⟩)
  refine (HC.out _ (HL.out.1 _) (HL.out.2 _)).mono ?_
  rintro e w1 ⟨rfl, hc⟩
  obtain ⟨hcl, hf⟩ := (fun {W w1 : World} (h : Chg Non W w1) => (⟨fun p hp => h.cell hp id, fun p hp => h.frozen hp id⟩ : (∀ p : Addr, p.block < W.heap.size → w1.cell? p = W.cell? p) ∧ (∀ p : Addr, p.block < W.heap.size → w1.frozen? p = W.frozen? p))) hc
  go_wp2_with fail
  go_ret
  exact ⟨rfl, ((Chg.refl Non w).alloc _).trans hc⟩

end Go.Proofs.Ythfeipnbhecjdaa
