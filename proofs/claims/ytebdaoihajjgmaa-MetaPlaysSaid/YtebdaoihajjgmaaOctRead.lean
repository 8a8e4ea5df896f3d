/- The contract of octet.Read, where all goes well: the reader's function takes all bytes and doesn't panic. -/
import Derived.Test.YtebdaoihajjgmaaOct
import Derived.Defers
import Derived.Recover
set_option linter.unusedVariables false
set_option linter.unusedSimpArgs false
namespace Go.Proofs.Ytebdaoihajjgmaa
open Go.RowKit

theorem Read1_idle (p q : Addr) (w : World) :
    CallsD Try.prog 62 #[.pointer (some p), .pointer (some q)] .returning w fun e u' w' => e = .returned (.tuple #[]) ∧ u' = .returning ∧ w' = w := by
  refine callsD_of_wpS Try.func62 rfl fun c₀ cs hu => ?_
  apply wpS_seq
  apply wpS_region
  simp [wpOpsS, go_sem, recoverD, hu, Try.ntmps62, Exit.thenS]
  refine wpS_of_wp ?_
  go_wp2
  cases c₀
  simp_all [bodyPostS, results, Try.results62]

theorem Read_any (K C : Nat → Prop) (bv : Value) (l : List Int) (p : Addr) (w : World) (hs : SlT tB w K bv l) (hK : ∀ b, K b → b < w.heap.size) (R : World → Prop)
    (hf : ∀ w1, Rd w1 K (w.heap.size + 1) l → Chg Non w w1 → w1.heap.size = w.heap.size + 3 →
      Calls Try.prog 48 #[.pointer (some ⟨w.heap.size + 1, 0, none⟩), .pointer (some p)] w1 fun e w2 => e = .returned (.tuple #[]) ∧ Rd w2 K (w.heap.size + 1) [] ∧ Chg C w1 w2 ∧ R w2)
    (hC : ∀ b, w.heap.size ≤ b → b < w.heap.size + 3 → b ≠ w.heap.size + 1 → ¬ C b) :
    Calls Try.prog 46 #[bv, .func (.func 48) #[] #[.pointer (some p)]] w fun e w' => e = .returned (.bool true) ∧ ∃ w2, R w2 ∧ Chg (Or2 C (Is (w.heap.size + 1))) w w2 ∧ Chg (Is w.heap.size) w2 w' := by
  obtain ⟨A, cap, rfl, h1, h2⟩ := hs.shape
  have hmf : ∀ (fn : Fn) (first cap : Array Value) (w : World), (Instr.makeFunc fn first cap).run Try.prog w = .ok (.func fn first cap) w := fun _ _ _ _ => rfl
  go_enter_defers Try.func46, Try.ntmps46
  have hfn : ∀ (w : World), (binOp .eql 88 (.func (.func 48) #[] #[.pointer (some p)]) .nilFunc).run Try.prog w = .ok (.bool false) w := fun _ => by kernel_rfl
  go_wp2_with fail
  have b0 : ∀ o1 o2, Blk (((w.alloc (.cells #[.bool false] 4)).alloc o1).alloc o2) w.heap.size 4 #[.bool false] := fun o1 o2 => ((Blk.new w _ _).alloc o1).alloc o2
  have b1 : ∀ o1 o2, Blk (((w.alloc o1).alloc (.cells #[.slice A l.length cap] 98)).alloc o2) (w.heap.size + 1) 98 #[.slice A l.length cap] := fun o1 o2 => (Blk.newAt (by simp) _ _).alloc o2
  have b2 : ∀ o1 o2 (v : Value), Blk (((w.alloc o1).alloc o2).alloc (.cells #[v] 86)) (w.heap.size + 2) 86 #[v] := fun o1 o2 v => Blk.newAt (by simp) _ _
  have c0 : ∀ o1 o2 o3, Chg Non w (((w.alloc o1).alloc o2).alloc o3) := fun o1 o2 o3 => (((Chg.refl Non w).alloc o1).alloc o2).alloc o3
  refine (hf _ ⟨_, b1 _ _, hs.chg (c0 _ _ _) (fun b hb => ⟨hK b hb, id⟩), fun h => absurd (hK _ h) (by omega), fun b hb => Nat.lt_of_lt_of_le (hK b hb) (c0 _ _ _).size⟩ (c0 _ _ _) (by simp)).mono ?_
  rintro e w2 ⟨rfl, hr, hc, hR⟩
  have n0 : ¬ C w.heap.size := hC _ (by omega) (by omega) (by omega)
  have n2 : ¬ C (w.heap.size + 2) := hC _ (by omega) (by omega) (by omega)
  have d0 := (b0 _ _).chg hc n0
  have d2 := (b2 _ _ _).chg hc n2
  obtain ⟨v, d1, hs1, _, _⟩ := hr
  obtain ⟨A1, cap1, rfl, _, _⟩ := hs1.shape
  have e1 : w2.cell? ⟨w.heap.size + 1, 0, none⟩ = some (.slice A1 0 cap1) := by simpa using d1.cell 0
  have e2 : w2.cell? ⟨w.heap.size + 1 + 1, 0, none⟩ = some (.pointer (some ⟨w.heap.size + 1, 0, none⟩)) := by simpa using d2.cell 0
  have e0 : w2.cell? ⟨w.heap.size, 0, none⟩ = some (.bool false) := by simpa using d0.cell 0
  have f0 := d0.frozen 0
  have C0 := Lib.hid (c0 (.cells #[.bool false] 4) (.cells #[.slice A l.length cap] 98) (.cells #[.pointer (some ⟨w.heap.size + 1, 0, none⟩)] 86))
  have D0 := Lib.hid d0
  clear b0 b1 b2 c0 d0 d1 d2 n0 n2
  go_wp2_with fail
  refine leaves_cons (f := 62) (args := #[.pointer (some ⟨w.heap.size + 1 + 1, 0, none⟩), .pointer (some ⟨w.heap.size, 0, none⟩)]) (by simp) (by simp [go_sem]) ?_
  refine (Read1_idle _ _ _).mono ?_
  rintro e u' w'' ⟨rfl, rfl, rfl⟩
  have hres : (w2.setCell ⟨w.heap.size, 0, none⟩ (.bool true)).cell? ⟨w.heap.size, 0, none⟩ = some (.bool true) := by simpa using (D0.out.set_ 0 (.bool true)).cell 0
  simp [Leaves, settle, results, Try.results46, go_sem, hres]
  refine ⟨w2, hR, ?_, Chg.at_ _ _ _ _⟩
  exact C0.out.any.then_ hc fun k _ h => .inl h

end Go.Proofs.Ytebdaoihajjgmaa
