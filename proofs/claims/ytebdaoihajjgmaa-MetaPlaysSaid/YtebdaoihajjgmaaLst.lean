/- What the library's functions on slices do with tablets: Clone, Grow, Concat, Equal, Index; Book's Same. -/
import Derived.Test.YtebdaoihajjgmaaRws
import Derived.Test.YtebdaoihajjgmaaFam
import Derived.Lib.AppendZeros
import Derived.Deep.DeepCutAuto
import Derived.Deep.CutBlock
set_option linter.unusedVariables false
set_option linter.unusedSimpArgs false
namespace Go.Proofs.Ytebdaoihajjgmaa
open Go.RowKit

theorem Chg.fresh {w w' : World} : ∀ b, In w.heap.size w'.heap.size b → b < w'.heap.size := fun _ h => h.2

/-! ### Clone -/
set_option maxHeartbeats 800000 in
theorem CloneT_own (K : Nat → Prop) (v : Value) (l : List Tab) (w : World) (h : SlT tTab w K v l) (hK : ∀ b, K b → b < w.heap.size) (hl : l.length ≤ 1048576) :
    Calls Try.prog 40 #[v] w fun e w' => ∃ v', e = .returned v' ∧ Own w' w.heap.size 28 tTab Non v' l ∧ Chg Non w w' := by
  obtain ⟨A, cap, rfl, h1, h2, h0⟩ := h.shape0
  rcases A with _ | ad
  · have hn : l = [] := List.eq_nil_of_length_eq_zero (by have := h0 rfl; omega)
    subst hn
    have hc := h0 rfl
    subst hc
    go_enter Try.func40, Try.ntmps40
    have hr := fun w : World => Lib.run_eql_slice_nil (P := Try.prog) w 22 28 none 0 0 0 0 Try.underlying22
    go_wp2
    go_ret
    exact ⟨_, rfl, Own.nil_, Chg.refl _ _⟩
  · have hsrc : SlT tTab (w.alloc (.cells #[] 28)) K (.slice (some ad) l.length cap) l := h.chg ((Chg.refl Non w).alloc _) fun b hb => ⟨hK b hb, id⟩
    have hown : Own (w.alloc (.cells #[] 28)) w.heap.size 28 tTab Non (.slice (some ⟨w.heap.size, 0, none⟩) 0 0) [] := Own.lit0 (Blk.new w _ _) (Nat.le_refl _) id
    go_enter Try.func40, Try.ntmps40
    have hr := fun w : World => Lib.run_eql_slice_nil (P := Try.prog) w 22 28 (some ad) l.length cap 0 0 Try.underlying22
    go_wp2_with (at_builtin; refine wpList_pushes_flat tTab tTab_flat K rfl (.tmp 5) (.tmp 6) 22 rfl w.heap.size 28 _ 48 Try.underlying22 info_tab rfl (by decide) (by decide) _ _ _ l rfl rfl hown hsrc (by simp; omega) (by simp) ?_)
    intro A c w1 hown1 hc hat
    try simp only [List.length_nil, Nat.zero_add, List.nil_append] at hown1 hc hat
    go_wp2
    go_ret
    refine ⟨_, rfl, hown1, ?_⟩
    refine ((Chg.refl Non w).alloc _).then_ hc fun k hk hr => ?_
    have : w.heap.size = k := by simpa [Row, Value.ownBlock] using hr
    omega
theorem CloneT_any (K : Nat → Prop) (v : Value) (l : List Tab) (w : World) (h : SlT tTab w K v l) (hK : ∀ b, K b → b < w.heap.size) (hl : l.length ≤ 1048576) :
    Calls Try.prog 40 #[v] w fun e w' => ∃ v', e = .returned v' ∧ SlT tTab w' (In w.heap.size w'.heap.size) v' l ∧ Chg Non w w' :=
  (CloneT_own K v l w h hK hl).mono fun e w' ⟨v', h1, h2, h3⟩ => ⟨v', h1, h2.toSl (fun _ h => h.elim) fun b hb => h2.lt hb, h3⟩

/-! ### Grow of nil -/
set_option maxHeartbeats 800000 in
theorem GrowT_any (n : Nat) (w : World) (hn : n ≤ 1048576) :
    Calls Try.prog 55 #[.slice none 0 0, .int .i64 n] w fun e w' => ∃ v', e = .returned v' ∧ Own w' w.heap.size 28 tTab Non v' [] ∧ Chg Non w w' := by
  rcases Nat.eq_zero_or_pos n with h0 | h0
  · subst h0
    go_enter Try.func55, Try.ntmps55
    go_wp2_with fail
    go_ret
    exact ⟨_, rfl, Own.nil_, Chg.refl _ _⟩
  · obtain ⟨i0, hi, hz0, hz1, hz2⟩ := info_parts info_tab
    have hr := fun W : World => Lib.run_append_nil_zeros (P := Try.prog) W 22 3 22 28 i0 _ .i64 .i64 Try.underlying22 Try.underlying3 hi hz0 n h0 (by omega) (by omega) (by rw [hz2]; omega)
    have hge := fun W : World => grownCap_ge W n 0 28
    have hcm := fun W : World => grownCap_le_maxLen W n 0 28 (by unfold maxLen; omega)
    have HR := Lib.hid (And.intro hr (And.intro hge hcm))
    have hi1 : (0 : Int) < (n : Int) := by omega
    clear hr hge hcm hi hz0 hz1 hz2
    go_enter Try.func55, Try.ntmps55
    go_wp2_with (at_builtin; refine Lib.wpList_append_run _ rfl (.tmp 20) (.tmp 21) 22 3 rfl _ _ rfl rfl _ _ (HR.out.1 _) ?_)
    go_ret
    have h1 := HR.out.2.1 w
    have h2 := HR.out.2.2 w
    refine ⟨_, rfl, ⟨[], World.ownsRow_made w.drew _ _ (Nat.le_refl _) h2 ?_, rfl, fun _ _ h => h⟩, ((Chg.refl Non w).alloc _).drew⟩
    rw [Array.size_append, size_zeroCells, size_zeroCells]
    show n * 4 + (grownCap w n 0 28 - n) * 4 = grownCap w n 0 28 * 4
    omega

/-! ### Concat -/
theorem flat_take {α : Type} (ls : List (List α)) (k : Nat) (hk : k < ls.length) : (ls.take (k + 1)).flatten = (ls.take k).flatten ++ ls[k] := by
  rw [List.take_succ_eq_append_getElem hk, List.flatten_append]; simp
theorem flat_le {α : Type} (ls : List (List α)) (k : Nat) : (ls.take k).flatten.length ≤ ls.flatten.length := by
  conv => rhs; rw [← List.take_append_drop k ls, List.flatten_append, List.length_append]
  omega
theorem row_cells {w : World} {K : Nat → Prop} {A : Option Addr} {n cap : Nat} {ls : List (List Tab)} (h : SlT (tSl tTab) w K (.slice A n cap) ls) {k : Nat} (hk : k < ls.length) :
    ∃ b off A' c', A = some ⟨b, off, none⟩ ∧ K b ∧ SlT tTab w K (.slice A' ls[k].length c') ls[k] ∧ ls[k].length ≤ c' ∧ c' ≤ 9223372036854775807 ∧ w.cell? ⟨b, off + k, none⟩ = some (.slice A' ls[k].length c') := by
  obtain ⟨b, off, cs, hA, hb, ⟨v, rfl, hv⟩, hc⟩ := h.get hk
  obtain ⟨A', c', rfl, h1, h2⟩ := hv.shape
  have := hc 0 _ rfl
  simp only [tSl, Nat.mul_one, Nat.add_zero] at this
  exact ⟨b, off, A', c', hA, hb, hv, h1, h2, this⟩

set_option maxHeartbeats 1600000 in
theorem Concat_own (K : Nat → Prop) (v : Value) (ls : List (List Tab)) (w : World) (h : SlT (tSl tTab) w K v ls) (hK : ∀ b, K b → b < w.heap.size) (hl : ls.flatten.length ≤ 1048576) :
    Calls Try.prog 30 #[v] w fun e w' => ∃ v', e = .returned v' ∧ Own w' w.heap.size 28 tTab Non v' ls.flatten ∧ Chg Non w w' := by
  obtain ⟨A, cap, rfl, h1, h2⟩ := h.shape
  go_enter Try.func30, Try.ntmps30
  go_wp2_with fail
  go_loop [3, 5, 11] (fun n _ i => ∃ k : Nat, k ≤ ls.length ∧ i = .int .i64 k ∧ n = .int .i64 ((ls.take k).flatten.length : Nat)) (fun _ _ i => ls.length - (intOf i).toNat)
  case atStart => exact ⟨0, Nat.zero_le _, rfl, rfl⟩
  case round =>
    obtain ⟨k, hk, rfl, rfl⟩ := hrel
    have hb1 := flat_le ls k
    by_cases hlt : k < ls.length
    · obtain ⟨b, off, A', c', rfl, hb, hs, g1, g2, c0⟩ := row_cells h hlt
      have hb2 := flat_le ls (k + 1)
      have he := congrArg List.length (flat_take ls k hlt)
      rw [List.length_append] at he
      obtain ⟨m, hm⟩ : ∃ m, m = (ls.take k).flatten.length := ⟨_, rfl⟩
      obtain ⟨m', hm'⟩ : ∃ m', m' = (ls.take (k + 1)).flatten.length := ⟨_, rfl⟩
      rw [← hm] at hb1 he ⊢
      rw [← hm'] at hb2 he
      obtain ⟨q, hq⟩ : ∃ q, q = ls[k].length := ⟨_, rfl⟩
      rw [← hq] at he c0 g1 hs
      have hq2 : q ≤ 1048576 := by omega
      have hm2 : m ≤ 1048576 := by omega
      have hs2 : ¬ ((m : Int) + (q : Int) < 0) := by omega
      have HE := Lib.hid (And.intro he hm')
      clear he hm hm' hq hs h
      go_wp2_with fail
      go_round
      case rel => exact ⟨k + 1, by omega, by go_num, by rw [← HE.out.2, HE.out.1]; go_num⟩
      case measure => simp [intOf]; omega
    · have : k = ls.length := by omega
      subst this
      rw [List.take_length]
      obtain ⟨m, hm⟩ : ∃ m, m = ls.flatten.length := ⟨_, rfl⟩
      rw [← hm] at hl ⊢
      have HM := Lib.hid hm
      clear hm hb1
      go_wp2_with fail
      refine (GrowT_any m w hl).mono ?_
      rintro e w1 ⟨v', rfl, ho, hc⟩
      have HO := Lib.hid (And.intro ho hc)
      clear ho hc
      go_wp2_with fail
      go_loopw [6, 8, 27] (fun lv _ i wr => ∃ k : Nat, k ≤ ls.length ∧ i = .int .i64 k ∧ Chg Non w wr ∧ Own wr w.heap.size 28 tTab Non lv (ls.take k).flatten) (fun _ _ i _ => ls.length - (intOf i).toNat)
      case atStart => exact ⟨0, Nat.zero_le _, rfl, HO.out.2, HO.out.1⟩
      case round =>
        obtain ⟨k, hk, rfl, hc, own⟩ := hrel
        by_cases hlt : k < ls.length
        · have h' : SlT (tSl tTab) wr K (.slice A ls.length cap) ls := h.chg hc fun b hb => ⟨hK b hb, id⟩
          obtain ⟨b, off, A', c', rfl, hb, hs, g1, g2, c0⟩ := row_cells h' hlt
          have hb2 := flat_le ls (k + 1)
          have he := flat_take ls k hlt
          rw [HM.out] at hl
          rw [he, List.length_append] at hb2
          obtain ⟨q, hq⟩ : ∃ q, q = ls[k] := ⟨_, rfl⟩
          obtain ⟨lk, hlk⟩ : ∃ lk, lk = (ls.take k).flatten := ⟨_, rfl⟩
          rw [← hq] at he c0 g1 hs hb2
          rw [← hlk] at he own hb2
          have hle : lk.length + q.length ≤ 1048576 := by omega
          obtain ⟨Al, cl, rfl, _, _⟩ := own.shape
          have HE := Lib.hid (And.intro he (And.intro hs own))
          have hrw : ∀ b, Row (.slice Al lk.length cl) b → w.heap.size ≤ b := fun b hb => (own.lt hb).1
          have HC := Lib.hid (And.intro hc hrw)
          have hsz := hc.size
          clear he hlk hq hs h' hrw hc hb2 own
          go_wp2_with (at_builtin; refine wpList_pushes_flat tTab tTab_flat K rfl (.tmp 31) (.tmp 32) 22 rfl w.heap.size 28 _ 48 Try.underlying22 info_tab rfl (by decide) (by decide) _ lk _ q rfl rfl HE.out.2.2 HE.out.2.1 (by omega) (by omega) ?_)
          intro A6 c6 w6 own6 hc6 hat
          have hc7 : Chg Non w w6 := HC.out.1.then_ hc6 (fun b hb h => by have := HC.out.2 b h; omega)
          have H7 := Lib.hid (And.intro own6 hc7)
          clear own6 hc6 hat hc7
          go_wp2_with fail
          go_roundw
          case rel => exact ⟨k + 1, by omega, by go_num, H7.out.2, by rw [HE.out.1]; exact H7.out.1⟩
          case measure => simp [intOf]; omega
        · have hk' : k = ls.length := by omega
          subst hk'
          rw [List.take_length] at own
          obtain ⟨lk, hlk⟩ : ∃ lk, lk = ls.flatten := ⟨_, rfl⟩
          rw [← hlk] at own
          obtain ⟨Al, cl, rfl, _, _⟩ := own.shape
          have HL := Lib.hid hlk
          clear hlk
          go_wp2_with fail
          go_ret
          exact ⟨_, rfl, by rw [← HL.out]; exact own, hc⟩
theorem Concat_any (K : Nat → Prop) (v : Value) (ls : List (List Tab)) (w : World) (h : SlT (tSl tTab) w K v ls) (hK : ∀ b, K b → b < w.heap.size) (hl : ls.flatten.length ≤ 1048576) :
    Calls Try.prog 30 #[v] w fun e w' => ∃ v', e = .returned v' ∧ SlT tTab w' (In w.heap.size w'.heap.size) v' ls.flatten ∧ Chg Non w w' :=
  (Concat_own K v ls w h hK hl).mono fun e w' ⟨v', h1, h2, h3⟩ => ⟨v', h1, h2.toSl (fun _ h => h.elim) fun b hb => h2.lt hb, h3⟩

/-! ### Are they the same? -/
def tEq (a b : Tab) : Bool := a.span.lo.toList == b.span.lo.toList && (a.span.hi.toList == b.span.hi.toList && (a.group == b.group && a.gen == b.gen))
def tEqL : List Tab → List Tab → Bool
  | [], [] => true
  | a :: x, b :: y => tEq a b && tEqL x y
  | _, _ => false
theorem run_neq_tab (w : World) (a b : Tab) : (binOp .neq 28 a.v b.v).run Try.prog w = .ok (.bool (!tEq a b)) w := by
  obtain ⟨⟨lo, hi⟩, g, n⟩ := a
  obtain ⟨⟨lo', hi'⟩, g', n'⟩ := b
  unfold tEq
  dsimp only
  go_simp
  by_cases h1 : lo.toList = lo'.toList <;> by_cases h2 : hi.toList = hi'.toList <;> by_cases h3 : g = g' <;> by_cases h4 : n = n' <;> simp [h1, h2, h3, h4]
theorem run_eql_tab (w : World) (a b : Tab) : (binOp .eql 28 a.v b.v).run Try.prog w = .ok (.bool (tEq a b)) w := by
  obtain ⟨⟨lo, hi⟩, g, n⟩ := a
  obtain ⟨⟨lo', hi'⟩, g', n'⟩ := b
  unfold tEq
  dsimp only
  go_simp
  by_cases h1 : lo.toList = lo'.toList <;> by_cases h2 : hi.toList = hi'.toList <;> by_cases h3 : g = g' <;> by_cases h4 : n = n' <;> simp [h1, h2, h3, h4]

theorem tEqL_len : ∀ {a b : List Tab}, tEqL a b = true → a.length = b.length
  | [], [], _ => rfl
  | _ :: x, _ :: y, h => by simp only [tEqL, Bool.and_eq_true] at h; simp [tEqL_len h.2]
  | [], _ :: _, h => by cases h
  | _ :: _, [], h => by cases h
theorem tEqL_drop {a b : List Tab} {k : Nat} (h1 : k < a.length) (h2 : k < b.length) : tEqL (a.drop k) (b.drop k) = (tEq a[k] b[k] && tEqL (a.drop (k + 1)) (b.drop (k + 1))) := by
  rw [List.drop_eq_getElem_cons h1, List.drop_eq_getElem_cons h2, tEqL]
set_option maxHeartbeats 1600000 in
theorem TEqual_any (K K' : Nat → Prop) (v v' : Value) (l l' : List Tab) (w : World) (h : TabsAt w K v l) (h' : TabsAt w K' v' l') (hK : ∀ b, K b → b < w.heap.size) (hK' : ∀ b, K' b → b < w.heap.size) :
    Calls Try.prog 58 #[v, v'] w fun e w' => e = .returned (.bool (tEqL l l')) ∧ Chg Non w w' := by
  obtain ⟨A, cap, rfl, h1, h2⟩ := h.shape
  obtain ⟨A', cap', rfl, h1', h2'⟩ := h'.shape
  by_cases hn : l.length = l'.length
  · have hn' : ((l.length : Int) != (l'.length : Int)) = false := by simp; omega
    have HN := Lib.hid hn
    clear hn
    go_enter Try.func58, Try.ntmps58
    go_wp2_with fail
    clear hn'
    go_loopw [5, 13] (fun _ i wr => ∃ k : Nat, k ≤ l.length ∧ i = .int .i64 k ∧ Chg Non w wr ∧ Hid (tEqL l l' = tEqL (l.drop k) (l'.drop k))) (fun _ i _ => l.length - (intOf i).toNat)
    case atStart => exact ⟨0, Nat.zero_le _, rfl, Chg.refl _ _, Lib.hid rfl⟩
    case round =>
      obtain ⟨k, hk, rfl, hc, heq⟩ := hrel
      by_cases hlt : k < l.length
      · have hlt' : k < l'.length := by have := HN.out; omega
        have g := h.chg hc fun b hb => ⟨hK b hb, id⟩
        have g' := h'.chg hc fun b hb => ⟨hK' b hb, id⟩
        obtain ⟨bb, off, rfl, _, _, c0, c1, c2, c3⟩ := tab_cells g hlt
        obtain ⟨bb', off', rfl, _, _, d0, d1, d2, d3⟩ := tab_cells g' hlt'
        have hd := tEqL_drop hlt hlt'
        have hr := fun W => run_neq_tab W l[k] l'[k]
        have HR := Lib.hid (And.intro hd hr)
        generalize l[k] = x at *
        generalize l'[k] = y at *
        obtain ⟨⟨lo, hi⟩, gr, gn⟩ := x
        obtain ⟨⟨lo', hi'⟩, gr', gn'⟩ := y
        dsimp only at *
        clear hd hr g g'
        have t1 : (k : Int) < (l.length : Int) := by omega
        have t2 : (k : Int) < (l'.length : Int) := by omega
        have t3 : (0 : Int) ≤ (k : Int) := by omega
        have hrun := HR.out.2
        generalize tEq ⟨⟨lo, hi⟩, gr, gn⟩ ⟨⟨lo', hi'⟩, gr', gn'⟩ = q at *
        cases q
        · go_upto_region 6 with fail
          go_quiet (fail)
          go_wp2_with fail
          go_ret
          exact ⟨ret_bool (by rw [heq.out, HR.out.1]; rfl), hc.drewN _⟩
        · go_upto_region 6 with fail
          go_quiet (fail)
          go_wp2_with fail
          go_roundw
          case rel => exact ⟨k + 1, by omega, by go_num, hc.drewN _, Lib.hid (by rw [heq.out, HR.out.1]; rfl)⟩
          case measure => simp [intOf]; omega
      · have hk' : k = l.length := by omega
        have hf : tEqL l l' = true := by rw [heq.out, List.drop_of_length_le (by omega), List.drop_of_length_le (by have := HN.out; omega)]; rfl
        have HF := Lib.hid hf
        clear heq hf
        go_wp2_with fail
        go_ret
        exact ⟨ret_bool (by rw [HF.out]), hc⟩
  · have hf : tEqL l l' = false := by
      rw [Bool.eq_false_iff]; intro h; exact hn (tEqL_len h)
    have hn' : ((l.length : Int) != (l'.length : Int)) = true := by rw [bne_iff_ne]; omega
    rw [hf]
    clear hf hn
    go_enter Try.func58, Try.ntmps58
    go_wp2_with fail
    go_ret
    exact ⟨rfl, Chg.refl _ _⟩
set_option maxHeartbeats 1600000 in
theorem TBSame_any (K K' : Nat → Prop) (v v' : Value) (l l' : List Tab) (w : World) (h : TabsAt w K v l) (h' : TabsAt w K' v' l') (hK : ∀ b, K b → b < w.heap.size) (hK' : ∀ b, K' b → b < w.heap.size) :
    Calls Try.prog 28 #[v, v'] w fun e w' => e = .returned (.bool (tEqL l l')) ∧ Chg Non w w' := by
  obtain ⟨A, cap, rfl, h1, h2⟩ := h.shape
  obtain ⟨A', cap', rfl, h1', h2'⟩ := h'.shape
  by_cases hn : l.length = l'.length
  · have hn' : ((l.length : Int) != (l'.length : Int)) = false := by simp; omega
    have HN := Lib.hid hn
    clear hn
    go_enter Try.func28, Try.ntmps28
    go_wp2_with fail
    clear hn'
    go_loopw [5] (fun i wr => ∃ k : Nat, k ≤ l.length ∧ i = .int .i64 k ∧ Chg Non w wr ∧ Hid (tEqL l l' = tEqL (l.drop k) (l'.drop k))) (fun i _ => l.length - (intOf i).toNat)
    case atStart => exact ⟨0, Nat.zero_le _, rfl, Chg.refl _ _, Lib.hid rfl⟩
    case round =>
      obtain ⟨k, hk, rfl, hc, heq⟩ := hrel
      by_cases hlt : k < l.length
      · have hlt' : k < l'.length := by have := HN.out; omega
        have g := h.chg hc fun b hb => ⟨hK b hb, id⟩
        have g' := h'.chg hc fun b hb => ⟨hK' b hb, id⟩
        obtain ⟨bb, off, rfl, _, _, c0, c1, c2, c3⟩ := tab_cells g hlt
        obtain ⟨bb', off', rfl, _, _, d0, d1, d2, d3⟩ := tab_cells g' hlt'
        have hd := tEqL_drop hlt hlt'
        have hr := fun W => run_neq_tab W l[k] l'[k]
        have HR := Lib.hid (And.intro hd hr)
        generalize l[k] = x at *
        generalize l'[k] = y at *
        obtain ⟨⟨lo, hi⟩, gr, gn⟩ := x
        obtain ⟨⟨lo', hi'⟩, gr', gn'⟩ := y
        dsimp only at *
        clear hd hr g g'
        have t1 : (k : Int) < (l.length : Int) := by omega
        have t2 : (k : Int) < (l'.length : Int) := by omega
        have t3 : (0 : Int) ≤ (k : Int) := by omega
        have hrun := HR.out.2
        generalize tEq ⟨⟨lo, hi⟩, gr, gn⟩ ⟨⟨lo', hi'⟩, gr', gn'⟩ = q at *
        cases q
        · go_upto_region 6 with fail
          go_quiet (fail)
          go_wp2_with fail
          go_ret
          exact ⟨ret_bool (by rw [heq.out, HR.out.1]; rfl), hc.drewN _⟩
        · go_upto_region 6 with fail
          go_quiet (fail)
          go_wp2_with fail
          go_roundw
          case rel => exact ⟨k + 1, by omega, by go_num, hc.drewN _, Lib.hid (by rw [heq.out, HR.out.1]; rfl)⟩
          case measure => simp [intOf]; omega
      · have hk' : k = l.length := by omega
        have hf : tEqL l l' = true := by rw [heq.out, List.drop_of_length_le (by omega), List.drop_of_length_le (by have := HN.out; omega)]; rfl
        have HF := Lib.hid hf
        clear heq hf
        go_wp2_with fail
        go_ret
        exact ⟨ret_bool (by rw [HF.out]), hc⟩
  · have hf : tEqL l l' = false := by
      rw [Bool.eq_false_iff]; intro h; exact hn (tEqL_len h)
    have hn' : ((l.length : Int) != (l'.length : Int)) = true := by rw [bne_iff_ne]; omega
    rw [hf]
    clear hf hn
    go_enter Try.func28, Try.ntmps28
    go_wp2_with fail
    go_ret
    exact ⟨rfl, Chg.refl _ _⟩

set_option maxHeartbeats 1600000 in
theorem TIndex_any (K : Nat → Prop) (v : Value) (l : List Tab) (x : Tab) (w : World) (h : TabsAt w K v l) (hK : ∀ b, K b → b < w.heap.size) :
    Calls Try.prog 39 #[v, x.v] w fun e w' => e = .returned (.int .i64 (idx (fun y => tEq x y) l 0)) ∧ Chg Non w w' := by
  obtain ⟨A, cap, rfl, h1, h2⟩ := h.shape
  obtain ⟨⟨xlo, xhi⟩, xg, xn⟩ := x
  have hb0 : Blk (w.alloc (.cells #[.string xlo, .string xhi, .int .i64 xg, .int .i64 xn] 28)) w.heap.size 28 #[.string xlo, .string xhi, .int .i64 xg, .int .i64 xn] := Blk.new _ _ _
  obtain ⟨W0, hW0⟩ : ∃ W0, W0 = w.alloc (.cells #[.string xlo, .string xhi, .int .i64 xg, .int .i64 xn] 28) := ⟨_, rfl⟩
  have hc0 : Chg Non w W0 := by rw [hW0]; exact (Chg.refl Non w).alloc _
  rw [← hW0] at hb0
  have HB := Lib.hid (And.intro hb0 (And.intro hc0 hW0))
  clear hb0 hc0 hW0
  go_enter Try.func39, Try.ntmps39
  go_wp2_with fail
  rw [← HB.out.2.2]
  go_loopw [5, 8] (fun _ i wr => ∃ k : Nat, k ≤ l.length ∧ i = .int .i64 k ∧ Chg Non W0 wr ∧ Hid (idx (fun y => tEq ⟨⟨xlo, xhi⟩, xg, xn⟩ y) l 0 = idx (fun y => tEq ⟨⟨xlo, xhi⟩, xg, xn⟩ y) (l.drop k) k)) (fun _ i _ => l.length - (intOf i).toNat)
  case atStart => exact ⟨0, Nat.zero_le _, rfl, Chg.refl _ _, Lib.hid rfl⟩
  case round =>
    obtain ⟨k, hk, rfl, hc, heq⟩ := hrel
    by_cases hlt : k < l.length
    · have hcw := HB.out.2.1.trans hc
      have g := h.chg hcw fun b hb => ⟨hK b hb, id⟩
      obtain ⟨bb, off, rfl, _, _, c0, c1, c2, c3⟩ := tab_cells g hlt
      have x0 := (HB.out.1.chg hc id).cell 0
      have x1 := (HB.out.1.chg hc id).cell 1
      have x2 := (HB.out.1.chg hc id).cell 2
      have x3 := (HB.out.1.chg hc id).cell 3
      simp only [List.getElem?_toArray, List.getElem?_cons_zero, List.getElem?_cons_succ] at x0 x1 x2 x3
      have hd : idx (fun y => tEq ⟨⟨xlo, xhi⟩, xg, xn⟩ y) (l.drop k) k = if tEq ⟨⟨xlo, xhi⟩, xg, xn⟩ l[k] then (k : Int) else idx (fun y => tEq ⟨⟨xlo, xhi⟩, xg, xn⟩ y) (l.drop (k + 1)) (k + 1) := by rw [List.drop_eq_getElem_cons hlt, idx]
      have hr := fun W => run_eql_tab W ⟨⟨xlo, xhi⟩, xg, xn⟩ l[k]
      have HR := Lib.hid (And.intro hd (And.intro hr hcw))
      clear hd hr g
      generalize l[k] = y at *
      obtain ⟨⟨lo', hi'⟩, gr', gn'⟩ := y
      dsimp only at *
      have t1 : (k : Int) < (l.length : Int) := by omega
      have t3 : (0 : Int) ≤ (k : Int) := by omega
      have hrun := HR.out.2.1
      generalize tEq ⟨⟨xlo, xhi⟩, xg, xn⟩ ⟨⟨lo', hi'⟩, gr', gn'⟩ = q at *
      cases q
      · go_upto_region 4 with fail
        go_quiet (fail)
        go_wp2_with fail
        go_roundw
        case rel => exact ⟨k + 1, by omega, by go_num, hc.drewN _, Lib.hid (by rw [heq.out, HR.out.1]; rfl)⟩
        case measure => simp [intOf]; omega
      · go_upto_region 4 with fail
        go_quiet (fail)
        go_wp2_with fail
        go_ret
        exact ⟨ret_int (by rw [heq.out, HR.out.1]; rfl), HR.out.2.2.drewN _⟩
    · have hk' : k = l.length := by omega
      have hf : idx (fun y => tEq ⟨⟨xlo, xhi⟩, xg, xn⟩ y) l 0 = -1 := by rw [heq.out, List.drop_of_length_le (by omega)]; rfl
      have HF := Lib.hid (And.intro hf (HB.out.2.1.trans hc))
      clear heq hf
      go_wp2_with fail
      go_ret
      exact ⟨ret_int (by rw [HF.out.1]), HF.out.2⟩
end Go.Proofs.Ytebdaoihajjgmaa
