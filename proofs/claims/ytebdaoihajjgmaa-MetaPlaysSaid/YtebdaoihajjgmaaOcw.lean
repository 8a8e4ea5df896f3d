/- The octet writer once more: what of the memory a writing leaves as it was. -/
import Derived.Test.YtebdaoihajjgmaaOct
set_option linter.unusedVariables false
set_option linter.unusedSimpArgs false
namespace Go.Proofs.Ytebdaoihajjgmaa
open Go.RowKit

/-- Of the blocks that there were, only the writer's and its row's change. -/
def WrS (g : Nat) (w w' : World) : Prop := ∀ v, Blk w g 93 #[v] → ∃ v', Blk w' g 93 #[v'] ∧ (v'.ownBlock = v.ownBlock ∨ ∀ b, v'.ownBlock = some b → w.heap.size ≤ b) ∧ Chg (fun k => k = g ∨ v.ownBlock = some k) w w'
theorem WrS.trans {g : Nat} {a b c : World} (h : WrS g a b) (h' : WrS g b c) : WrS g a c := by
  intro v hv
  obtain ⟨v1, h1, h2, h3⟩ := h v hv
  obtain ⟨v2, h4, h5, h6⟩ := h' v1 h1
  refine ⟨v2, h4, ?_, h3.then_ h6 fun k hk hk2 => ?_⟩
  · rcases h5 with h5 | h5
    · rw [h5]; exact h2
    · exact .inr fun b hb => Nat.le_trans h3.size (h5 b hb)
  · rcases hk2 with hk2 | hk2
    · exact .inl hk2
    · rcases h2 with h2 | h2
      · exact .inr (by rw [← h2]; exact hk2)
      · have := h2 k hk2; omega
theorem WrS.of_grow {g : Nat} {w w' : World} (h : Chg Non w w') : WrS g w w' := fun v hv => ⟨v, hv.chg h id, .inl rfl, h.any⟩
def KeepS (g : Nat) (w w' : World) : Prop := KeepB w w' ∧ WrS g w w'
theorem KeepS.refl (g : Nat) (w : World) : KeepS g w w := ⟨KeepB.refl _, WrS.of_grow (Chg.refl _ _)⟩
theorem KeepS.trans {g : Nat} {a b c : World} (h : KeepS g a b) (h' : KeepS g b c) : KeepS g a c := ⟨h.1.trans h'.1, h.2.trans h'.2⟩
theorem KeepS.of_grow {g : Nat} {w w' : World} (h : Chg Non w w') : KeepS g w w' := ⟨KeepB.of_grow h, WrS.of_grow h⟩
theorem Wr.putS {w w1 : World} {lo g : Nat} {l l' : List Int} {v v1 : Value} (h : lo ≤ g) (hb : Blk w g 93 #[v]) (ho : Own w lo 5 tB Non v l)
    (ho1 : Own w1 lo 5 tB Non v1 l') (hg : Chg (Row v) w w1) (hat : v1.ownBlock = v.ownBlock ∨ ∀ b, v1.ownBlock = some b → w.heap.size ≤ b) :
    Wr (w1.setCell ⟨g, 0, none⟩ v1) lo g l' ∧ (Chg (Ge lo) w (w1.setCell ⟨g, 0, none⟩ v1) ∧ KeepS g w (w1.setCell ⟨g, 0, none⟩ v1)) ∧ w1.cell? ⟨g, 0, none⟩ = some v ∧ w1.frozen? ⟨g, 0, none⟩ = false := by
  obtain ⟨p1, ⟨p2, p3⟩, p4, p5⟩ := Wr.put h hb ho ho1 hg
  have hb1 : Blk w1 g 93 #[v] := hb.chg hg (Wr.ne hb ho)
  refine ⟨p1, ⟨p2, p3, fun u hu => ?_⟩, p4, p5⟩
  obtain rfl : u = v := by
    have h1 := hu.cell 0
    have h2 := hb.cell 0
    rw [h1] at h2
    simpa using h2
  exact ⟨v1, by simpa using hb1.set_ 0 v1, hat, (hg.mono fun k _ hk => .inr hk).set (fun _ => .inl rfl) v1⟩

set_option maxHeartbeats 800000 in
theorem ByteS_any (lo g : Nat) (l : List Int) (c : Int) (w : World) (h : Wr w lo g l) (hc : Fits .u8 c) (hl : l.length + 1 ≤ 140737488355328) :
    Calls Try.prog 59 #[.pointer (some ⟨g, 0, none⟩), .int .u8 c] w fun e w' => e = .returned (.tuple #[]) ∧ Wr w' lo g (l ++ [c]) ∧ Chg (Ge lo) w w' ∧ KeepS g w w' := by
  obtain ⟨hg, v, hb, ho⟩ := h
  obtain ⟨A, cp, rfl, _, _⟩ := ho.shape
  have h0 : w.cell? ⟨g, 0, none⟩ = some (.slice A l.length cp) := by simpa using hb.cell 0
  have hlt := hb.lt
  have hbn : Blk (w.alloc (.cells #[.int .u8 c] 5)) w.heap.size 5 #[.int .u8 c] := Blk.new w _ _
  have HB := Lib.hid hb
  have HN := Lib.hid hbn
  have HC := Lib.hid hc
  have ho' : Own (w.alloc (.cells #[.int .u8 c] 5)) lo 5 tB Non (.slice A l.length cp) l := ho.chg ((Chg.refl Non w).alloc _) (fun _ _ h => h) (fun _ h => h.elim)
  clear hb hbn hc
  go_enter Try.func59, Try.ntmps59
  go_wp2_with (at_builtin; refine wpList_push tB Non rfl (.tmp 8) (.tmp 10) 84 rfl lo 5 (.int .u8 0) 1 Try.underlying84 info_u8 rfl (by decide) (by decide) _ l c [.int .u8 c] w.heap.size (0, 0) rfl rfl ho' HN.out ⟨rfl, HC.out⟩ (fun _ h => h.elim) (by omega) (by simp; omega) ?_)
  intro A1 c1 w1 ho1 hg1 hat
  obtain ⟨h1, h2, h3, h4⟩ := Wr.putS hg HB.out ho ho1 (((Chg.refl (Row (.slice A l.length cp)) w).alloc _).trans hg1) (hat.imp id fun e b hb => by rw [e] at hb; injection hb with hb; (try simp at hb); omega)
  have H2 := Lib.hid h2
  clear h2
  go_wp2
  go_end0
  exact ⟨rfl, h1, H2.out⟩

set_option maxHeartbeats 800000 in
theorem layS_any (lo g : Nat) (l : List Int) (n : Int) (size : Nat) (w : World) (h : Wr w lo g l) (hn : 0 ≤ n ∧ n < 18446744073709551616) (hs : size ≤ 8) (hl : l.length + size ≤ 140737488355328) :
    Calls Try.prog 70 #[.pointer (some ⟨g, 0, none⟩), .int .u64 n, .int .i64 size] w fun e w' => e = .returned (.tuple #[]) ∧ Wr w' lo g (l ++ be n size) ∧ Chg (Ge lo) w w' ∧ KeepS g w w' := by
  go_enter Try.func70, Try.ntmps70
  go_wp2
  go_loopw [6] (fun k wr => ∃ j : Nat, j ≤ size ∧ k = .int .i64 ((j : Int) - 1) ∧ Wr wr lo g (l ++ beHead n size j) ∧ Chg (Ge lo) w wr ∧ KeepS g w wr) (fun k _ => (intOf k + 1).toNat)
  case atStart => exact ⟨size, by omega, rfl, by simpa [beHead] using h, Chg.refl _ _, KeepS.refl _ _⟩
  case round =>
    obtain ⟨j, hj, rfl, hw, hbel, hkb⟩ := hrel
    have HK := Lib.hid hkb
    clear hkb
    by_cases hlt : 0 < j
    · obtain ⟨l', hl'⟩ : ∃ l', l' = l ++ beHead n size j := ⟨_, rfl⟩
      have hlen : l'.length + 1 ≤ 140737488355328 := by
        have := beHead_length n size j
        rw [hl', List.length_append]; omega
      rw [← hl'] at hw
      have HL := Lib.hid hl'
      clear hl'
      obtain ⟨hg, v, hb, ho⟩ := hw
      obtain ⟨A, cp, rfl, _, _⟩ := ho.shape
      have h0 : wr.cell? ⟨g, 0, none⟩ = some (.slice A l'.length cp) := by simpa using hb.cell 0
      have HB := Lib.hid hb
      have hlt' := hb.lt
      clear hb
      have : (0:Int) ≤ (j:Int) - 1 := by omega
      have hm8 : IntKind.i64.wrap (8 * ((j:Int) - 1)) = 8 * ((j:Int) - 1) := by simp [IntKind.wrap, IntKind.bits, IntKind.signed]; omega
      have hf : Fits .u8 (IntKind.u8.wrap (n / 2 ^ (8 * ((j : Int) - 1)).toNat)) := Go.wf_wrap _ _
      have HF := Lib.hid hf
      have ho' : ∀ o, Own (wr.alloc o).drew lo 5 tB Non (.slice A l'.length cp) l' := fun o => ho.chg (((Chg.refl Non wr).alloc o).drew) (fun _ _ h => h) (fun _ h => h.elim)
      have HO := Lib.hid ho'
      clear hf ho'
      go_wp2_with fail
      go_region_law ((refine step_push tB Non (by rfl) _ _ _ (by rfl) lo 5 (.int .u8 0) 1 Try.underlying84 info_u8 rfl (by decide) (by decide) _ l' _ [_] wr.heap.size (0, 0) (by rfl) (by rfl) (HO.out _) (heap_alloc_new wr _) ⟨rfl, HF.out⟩ (fun _ h => h.elim) (by omega) (by simp; omega) ?_; intro A1 c1 w1 ho1 hg1 hat; obtain ⟨p1, p2, k0, k1⟩ := Wr.putS hg HB.out ho ho1 ((((Chg.refl (Row (.slice A l'.length cp)) wr).alloc _).drew).trans hg1) (hat.imp id fun e b hb => by rw [e] at hb; injection hb with hb; simp at hb; omega); have P2 := Lib.hid p2; clear p2))
      all_goals
        clear hm8
        go_wp2
        go_roundw
        case rel =>
          refine ⟨j - 1, by omega, ?_, ?_, hbel.trans P2.out.1, HK.out.trans P2.out.2⟩
          · congr 1; omega
          · rw [beHead_snoc n size j hlt hj, ← List.append_assoc, ← HL.out, ← shr_byte n j hlt]; exact p1
        case measure => simp [intOf]; omega
    · have : j = 0 := by omega
      subst this
      go_wp2
      go_end0
      rw [beHead_zero] at hw
      exact ⟨rfl, hw, hbel, HK.out⟩

theorem WNumS_any (lo g : Nat) (l : List Int) (n : Int) (w : World) (h : Wr w lo g l) (hn : 0 ≤ n ∧ n < 4294967296) (hl : l.length + 4 ≤ 140737488355328) :
    Calls Try.prog 61 #[.pointer (some ⟨g, 0, none⟩), .int .u32 n] w fun e w' => e = .returned (.tuple #[]) ∧ Wr w' lo g (l ++ be n 4) ∧ Chg (Ge lo) w w' ∧ KeepS g w w' := by
  have hcv : IntKind.u64.wrap n = n := by simp [IntKind.wrap, IntKind.bits, IntKind.signed]; omega
  go_enter Try.func61, Try.ntmps61
  go_wp2_with fail
  refine (layS_any lo g l n 4 w h (by omega) (by decide) hl).mono ?_
  rintro e w' ⟨rfl, h1, h2⟩
  have H2 := Lib.hid h2
  clear h2
  go_wp2
  go_end0
  exact ⟨rfl, h1, H2.out⟩

set_option maxHeartbeats 800000 in
theorem WTextS_any (lo g : Nat) (l : List Int) (K : Nat → Prop) (bv : Value) (b : List Int) (w : World) (h : Wr w lo g l) (hb : SlT tB w K bv b) (hK : ∀ q, K q → q < w.heap.size ∧ q ≠ g ∧ ∀ v, Blk w g 93 #[v] → v.ownBlock ≠ some q) (hm : b.length ≤ 1048576) (hl : l.length + 4 + b.length ≤ 140737488355328) :
    Calls Try.prog 69 #[.pointer (some ⟨g, 0, none⟩), bv] w fun e w' => e = .returned (.bool true) ∧ Wr w' lo g (l ++ be b.length 4 ++ b) ∧ Chg (Ge lo) w w' ∧ KeepS g w w' := by
  obtain ⟨A, cap, rfl, h1, h2⟩ := hb.shape
  have hgt : ¬ (1048576 : Int) < (b.length : Int) := by omega
  have hcv : IntKind.u32.wrap (b.length : Int) = b.length := by simp [IntKind.wrap, IntKind.bits, IntKind.signed]; omega
  go_enter Try.func69, Try.ntmps69
  go_wp2_with fail
  refine (WNumS_any lo g l b.length w h (by omega) (by omega)).mono ?_
  rintro e w1 ⟨rfl, hw1, hc1, hk1⟩
  have HK1 := Lib.hid hk1
  clear hk1
  have hb1 : SlT tB w1 K (.slice A b.length cap) b := by
    obtain ⟨_, v0, hv0, _⟩ := h
    obtain ⟨v1, _, _, hcS⟩ := HK1.out.2 v0 hv0
    exact hb.chg hcS fun q hq => ⟨(hK q hq).1, fun x => x.elim (hK q hq).2.1 ((hK q hq).2.2 v0 hv0)⟩
  obtain ⟨l', hl'⟩ : ∃ l', l' = l ++ be b.length 4 := ⟨_, rfl⟩
  have hlen : l'.length + b.length ≤ 140737488355328 := by rw [hl', List.length_append, be_length]; omega
  rw [← hl'] at hw1
  have HL := Lib.hid hl'
  clear hl' hb
  obtain ⟨hg, v, hbk, ho⟩ := hw1
  obtain ⟨A', cp, rfl, _, _⟩ := ho.shape
  have h0 : w1.cell? ⟨g, 0, none⟩ = some (.slice A' l'.length cp) := by simpa using hbk.cell 0
  have hlt := hbk.lt
  have HB := Lib.hid hbk
  clear hbk
  go_wp2_with (at_builtin; refine wpList_pushes_flat tB tInt_flat K rfl (.tmp 17) (.tmp 18) 84 rfl lo 5 (.int .u8 0) 1 Try.underlying84 info_u8 rfl (by decide) (by decide) _ l' _ b rfl rfl ho hb1 (by omega) (by omega) ?_)
  intro A1 c1 w2 ho1 hg1 hat
  obtain ⟨p1, p2, k0, k1⟩ := Wr.putS hg HB.out ho ho1 hg1 (hat.imp id fun e b hb => by rw [e] at hb; injection hb with hb; omega)
  have P2 := Lib.hid p2
  clear p2
  go_wp2
  go_ret
  exact ⟨rfl, by rw [← HL.out]; exact p1, hc1.trans P2.out.1, HK1.out.trans P2.out.2⟩

end Go.Proofs.Ytebdaoihajjgmaa
