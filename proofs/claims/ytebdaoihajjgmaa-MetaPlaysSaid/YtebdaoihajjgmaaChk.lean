/- slices.Chunk of tablets, and meta.lay: a table out of a list. -/
import Derived.RangeFuncNested
import Derived.RangeFuncBound
import Derived.RangeFuncCalls
import Derived.RangeFuncLeaves
import Derived.Shelf.Abstract
import Derived.OwnWalkIn
import Derived.TacticsInMore
import Derived.LoopNIn
import Derived.LoopIn
import Derived.Test.YtebdaoihajjgmaaLst
import Derived.Test.YtebdaoihajjgmaaInr
set_option linter.unusedVariables false
set_option linter.unusedSimpArgs false
namespace Go.Proofs.Ytebdaoihajjgmaa
open Go.RowKit Go.Shelf
attribute [local go_sem] Oper.semAt_some

/-- By fours. -/
def chunk {α : Type} : List α → List (List α)
  | [] => []
  | [a] => [[a]]
  | [a, b] => [[a, b]]
  | [a, b, c] => [[a, b, c]]
  | a :: b :: c :: d :: r => [a, b, c, d] :: chunk r
theorem chunk_step {α : Type} : ∀ (l : List α), l ≠ [] → chunk l = l.take 4 :: chunk (l.drop 4)
  | [], h => absurd rfl h
  | [a], _ => by simp [chunk]
  | [a, b], _ => by simp [chunk]
  | [a, b, c], _ => by simp [chunk]
  | a :: b :: c :: d :: r, _ => by simp [chunk]
theorem chunk_flat {α : Type} : ∀ (l : List α), (chunk l).flatten = l
  | [] => rfl
  | [a] => rfl
  | [a, b] => rfl
  | [a, b, c] => rfl
  | a :: b :: c :: d :: r => by simp [chunk, chunk_flat r]
theorem chunk_len {α : Type} : ∀ (l : List α), ∀ p ∈ chunk l, 1 ≤ p.length ∧ p.length ≤ 4
  | [] => by simp [chunk]
  | [a] => by simp [chunk]
  | [a, b] => by simp [chunk]
  | [a, b, c] => by simp [chunk]
  | a :: b :: c :: d :: r => by
    intro p hp
    rcases List.mem_cons.1 hp with rfl | hp
    · simp
    · exact chunk_len r p hp

theorem SlT.recap {α : Type} {T : Ty α} {w : World} {K : Nat → Prop} {A : Option Addr} {n cap c : Nat} {l : List α} (h : SlT T w K (.slice A n cap) l) (h1 : n ≤ c) (h2 : c ≤ cap) : SlT T w K (.slice A n c) l := by
  obtain ⟨xs, ⟨a1, A', cap', e, b1, b2, b3, b4⟩, h4⟩ := h
  injection e with e1 e2 e3
  subst e1 e2 e3
  exact ⟨xs, ⟨a1, A, c, rfl, h1, by omega, fun h => by have := b3 h; omega, b4⟩, h4⟩
/-- A part: where it lies, what it reads as. -/
structure Part (w : World) (K : Nat → Prop) where
  v : Value
  l : List Tab
  h : SlT tTab w K v l
  hl : l.length ≤ 4

theorem Chunk_any (A : Option Addr) (n cap : Nat) (w : World) : Calls Try.prog 68 #[.slice A n cap, .int .i64 4] w fun e w' =>
    e = .returned (.func (.func 73) #[] #[.pointer (some ⟨w.heap.size, 0, none⟩), .pointer (some ⟨w.heap.size + 1, 0, none⟩)]) ∧ w' = (w.alloc (.cells #[.slice A n cap] 22)).alloc (.cells #[.int .i64 4] 3) := by
  go_enter Try.func68, Try.ntmps68
  go_wp2
  go_ret
  exact ⟨rfl, rfl⟩

/-- These two blocks are as they were. -/
structure Kp2 (a b : Nat) (W W' : World) : Prop where
  x : W'.heap[a]? = W.heap[a]?
  y : W'.heap[b]? = W.heap[b]?
theorem Kp2.refl (a b : Nat) (W : World) : Kp2 a b W W := ⟨rfl, rfl⟩
theorem Kp2.trans {a b : Nat} {A B C : World} (h : Kp2 a b A B) (k : Kp2 a b B C) : Kp2 a b A C := ⟨k.x.trans h.x, k.y.trans h.y⟩

set_option maxRecDepth 100000 in
set_option maxHeartbeats 2000000 in
theorem Chunk1_in (m q Bs Bn cap : Nat) (A : Option Addr) (l : List Tab) (w0 : World) (K : Nat → Prop) (J Jx : List (Part w0 K) → World → Prop) (hA : SlT tTab w0 K (.slice A l.length cap) l) (hn : l.length ≤ 1048576)
    (hY : ∀ pre x W, J pre W → pre.length < l.length + 1 → YieldAt Fence.wide (m - 1) Try.prog q #[x.v] W fun e W' =>
      (e = .returned (.bool true) ∧ J (pre ++ [x]) W' ∧ Kp2 Bs Bn W W') ∨ (e = .returned (.bool false) ∧ Jx (pre ++ [x]) W'))
    (hJd : ∀ pre W n, J pre W → J pre (World.drewN W n))
    (W : World) (c0 : W.cell? ⟨Bs, 0, none⟩ = some (.slice A l.length cap)) (c1 : W.cell? ⟨Bn, 0, none⟩ = some (.int .i64 4)) (h0 : J [] W) :
    CallsIn Fence.wide m Try.prog 73 #[.func (.yield q) #[] #[], .pointer (some ⟨Bs, 0, none⟩), .pointer (some ⟨Bn, 0, none⟩)] W fun e W' => (∃ v, e = .returned v) ∧
      ((∃ ys, ys.map Part.l = chunk l ∧ J ys W') ∨ (∃ pre, True ∧ Jx pre W')) := by
  obtain ⟨A', cap', e, g1, g2⟩ := hA.shape
  injection e with e1 e2 e3
  subst e1 e3
  clear e2
  refine callsIn_of_wp Try.func73 rfl trivial ?_ rfl
  simp only [Try.ntmps73, List.size_toArray, List.length_cons, List.length_nil, Nat.reduceAdd, Nat.reduceSub, Array.replicate_succ, Array.replicate_zero, List.push_toArray, List.append_toArray, List.nil_append, List.cons_append]
  gi_wp2
  gi_loopw [4, 5] (fun i _ wr => ∃ (j : Nat) (pre : List (Part w0 K)), j ≤ l.length + 4 ∧ i = .int .i64 j ∧ J pre wr ∧ pre.length ≤ j ∧ Kp2 Bs Bn W wr ∧ Hid (pre.map Part.l ++ chunk (l.drop j) = chunk l))
    (fun i _ _ => l.length - (intOf i).toNat)
  case atStart => exact ⟨0, [], by omega, rfl, h0, Nat.le_refl _, Kp2.refl _ _ _, Lib.hid rfl⟩
  case round =>
    obtain ⟨j, pre, hj, rfl, hJ, hpre, hbel, hch⟩ := hrel
    have k0 : wr.cell? ⟨Bs, 0, none⟩ = some (.slice A l.length cap) := (World.cell?_of_block (w := W) hbel.x).trans c0
    have k1 : wr.cell? ⟨Bn, 0, none⟩ = some (.int .i64 4) := (World.cell?_of_block (w := W) hbel.y).trans c1
    by_cases hlt : j < l.length
    · obtain ⟨b, off, cs, rfl, hb, _, _⟩ := hA.get hlt
      have hne : l.drop j ≠ [] := by
        intro h; have := congrArg List.length h; simp at this; omega
      have hcs := chunk_step _ hne
      obtain ⟨e, he⟩ : ∃ e, e = min 4 (l.length - j) := ⟨_, rfl⟩
      have he1 : 1 ≤ e ∧ e ≤ 4 ∧ j + e ≤ l.length := by omega
      have hcut := hA.cut (i := j) (j := j + e) (by omega) he1.2.2
      rw [if_neg (by omega), show j + e - j = e by omega] at hcut
      simp only [Option.map_some, add_lit'] at hcut
      have hpart : (l.take (j + e)).drop j = (l.drop j).take 4 := by
        rw [List.drop_take, show j + e - j = e by omega]
        rcases Nat.le_total 4 (l.length - j) with h | h
        · rw [he, Nat.min_eq_left h]
        · rw [he, Nat.min_eq_right h, List.take_of_length_le (by simp), List.take_of_length_le (by simp; omega)]
      have hdrop : l.drop (j + 4) = (l.drop j).drop 4 := by rw [List.drop_drop]
      have hrec : SlT tTab w0 K (.slice (some ⟨b, off + j * 4, none⟩) e e) ((l.take (j + e)).drop j) := hcut.recap (c := e) (Nat.le_refl _) (by omega)
      obtain ⟨p, hpv, hpl⟩ : ∃ p : Part w0 K, p.v = .slice (some ⟨b, off + j * 4, none⟩) e e ∧ p.l = (l.drop j).take 4 := ⟨⟨_, _, hrec, by rw [hpart, List.length_take]; omega⟩, rfl, hpart⟩
      have H := Lib.hid (And.intro hcs (And.intro hdrop (And.intro hpv hpl)))
      have t1 : (j : Int) < (l.length : Int) := by omega
      have hmn : IntKind.i64.wrap ((j : Int) + 4) = (j : Int) + 4 := by simp [IntKind.wrap, IntKind.bits, IntKind.signed]; omega
      clear hcs hpart hdrop hcut hne hrec hpv hpl
      by_cases h4 : 4 ≤ l.length - j
      · have e4 : e = 4 := by omega
        subst e4
        have t2 : (4 : Int) < (l.length : Int) - (j : Int) ∨ (4 : Int) = (l.length : Int) - (j : Int) := by omega
        clear he hmn
        gi_wp2
        refine wpIn_wide.2 ?_
        go_quiet (fail)
        have hyy := hY pre p (wr.drewN nq) (hJd _ _ _ hJ) (by omega)
        rw [H.out.2.2.1] at hyy
        obtain ⟨fn, tmps, assign, body, hy, hR⟩ := hyy
        have hbd : Kp2 Bs Bn wr (wr.drewN nq) := ⟨rfl, rfl⟩
        gi_wp2
        refine ⟨fun h => (by cases h), hR.mono ?_⟩
        rintro e W3 (⟨rfl, hJ3, hk3⟩ | ⟨rfl, hJx3⟩)
        · have z1 : W3.cell? ⟨Bn, 0, none⟩ = some (.int .i64 4) := (World.cell?_of_block (w := wr.drewN nq) hk3.y).trans k1
          gi_wp2
          go_roundw
          case rel =>
            refine ⟨j + 4, _, by omega, by go_num, hJ3, by simp; omega, hbel.trans (hbd.trans hk3), Lib.hid ?_⟩
            rw [← hch.out, H.out.1, H.out.2.1]
            simp [H.out.2.2.2]
          case measure => simp [intOf]; omega
        · gi_wp2
          refine bodyPost_ret (results_none rfl _ _ _) rfl ?_
          exact ⟨⟨_, rfl⟩, .inr ⟨_, trivial, hJx3⟩⟩
      · have e4 : e = l.length - j := by omega
        subst e4
        clear he
        have t2 : l.length - j < 4 := by omega
        gi_wp2
        refine wpIn_wide.2 ?_
        go_quiet (fail)
        have hyy := hY pre p (wr.drewN nq) (hJd _ _ _ hJ) (by omega)
        rw [H.out.2.2.1] at hyy
        obtain ⟨fn, tmps, assign, body, hy, hR⟩ := hyy
        have hbd : Kp2 Bs Bn wr (wr.drewN nq) := ⟨rfl, rfl⟩
        gi_wp2
        refine ⟨fun h => (by cases h), hR.mono ?_⟩
        rintro e W3 (⟨rfl, hJ3, hk3⟩ | ⟨rfl, hJx3⟩)
        · have z1 : W3.cell? ⟨Bn, 0, none⟩ = some (.int .i64 4) := (World.cell?_of_block (w := wr.drewN nq) hk3.y).trans k1
          gi_wp2
          go_roundw
          case rel =>
            refine ⟨j + 4, _, by omega, by go_num, hJ3, by simp; omega, hbel.trans (hbd.trans hk3), Lib.hid ?_⟩
            rw [← hch.out, H.out.1, H.out.2.1]
            simp [H.out.2.2.2]
          case measure => simp [intOf]; omega
        · gi_wp2
          refine bodyPost_ret (results_none rfl _ _ _) rfl ?_
          exact ⟨⟨_, rfl⟩, .inr ⟨_, trivial, hJx3⟩⟩
    · have hnil : l.drop j = [] := List.drop_of_length_le (by omega)
      gi_wp2
      go_end0
      refine ⟨⟨_, rfl⟩, .inl ⟨pre, ?_, hJ⟩⟩
      have := hch.out
      rw [hnil] at this
      simpa [chunk] using this

/-! ### meta.lay -/
/-- A table at block g whose meta tablets read as ms; they lie in blocks of K. -/
def Tbl (w : World) (K : Nat → Prop) (g : Nat) (ms : List (List Tab)) : Prop := ∃ v, Blk w g 66 #[v] ∧ SlT (tSl tTab) w K v ms ∧ ¬ K g ∧ ∀ b, K b → b < w.heap.size
theorem Tbl.chg {w w' : World} {K C : Nat → Prop} {g : Nat} {ms : List (List Tab)} (h : Tbl w K g ms) (hc : Chg C w w') (hg : ¬ C g) (hk : ∀ b, K b → ¬ C b) : Tbl w' K g ms := by
  obtain ⟨v, h1, h2, h3, h4⟩ := h
  exact ⟨v, h1.chg hc hg, h2.chg hc fun b hb => ⟨h4 b hb, hk b hb⟩, h3, fun b hb => Nat.lt_of_lt_of_le (h4 b hb) hc.size⟩
theorem Tbl.grow {w w' : World} {K : Nat → Prop} {g : Nat} {ms : List (List Tab)} (h : Tbl w K g ms) (hc : Chg Non w w') : Tbl w' K g ms := h.chg hc id fun _ _ => id
theorem info_tabs : (Try.prog.info? 22).map (fun i => (i.zero, i.size, i.bytes)) = some (some (.slice none 0 0), 1, 24) := by kernel_rfl

theorem Own.blk {α : Type} {T : Ty α} {w : World} {lo : Nat} {e : TypeId} {K : Nat → Prop} {v : Value} {l : List α} (h : Own w lo e T K v l) {b : Nat} (hb : v.ownBlock = some b) : ∃ cs, Blk w b e cs := by
  obtain ⟨xs, h1, _⟩ := h
  rcases h1.2 with ⟨rfl, _⟩ | ⟨g, cap, cur, rfl, _, hh, _⟩
  · cases hb
  · injection hb with hb
    exact ⟨cur, by rw [← hb]; exact hh⟩
theorem blk_cells {w : World} {b : Nat} {e : TypeId} {cs : Array Value} (h : Blk w b e cs) : ∃ o : Obj, w.heap[b]? = some o ∧ o.isCells = true := ⟨_, h, rfl⟩
/-- What lay's loop keeps. -/
def LayI (w : World) (ms : List (List Tab)) (W : World) : Prop := ∃ mv KL, Chg Non w W ∧ Blk W w.heap.size 66 #[mv] ∧ Blk W (w.heap.size + 1) 30 #[.pointer (some ⟨w.heap.size, 0, none⟩)] ∧
  Own W (w.heap.size + 4) 22 (tSl tTab) KL mv ms ∧ (∀ b, KL b → w.heap.size + 4 ≤ b ∧ ∃ cs, Blk W b 28 cs) ∧ w.heap.size + 4 ≤ W.heap.size
theorem LayI.turn {w W W' : World} {ms : List (List Tab)} {row : Option Nat} (h : LayI w ms W) (hg : W.grownBy W' row) (hr : ∀ r, row = some r → w.heap.size + 4 ≤ r ∧ ∃ o : Obj, W.heap[r]? = some o ∧ o.isCells = false) : LayI w ms W' := by
  obtain ⟨mv, KL, h1, h2, h3, h4, h5, h6⟩ := h
  have hne : ∀ b e cs, Blk W b e cs → some b ≠ row := by
    intro b e cs hb he
    obtain ⟨_, o, ho, hc⟩ := hr b he.symm
    rw [hb] at ho
    cases ho
    cases hc
  have hC : Chg (fun k => row = some k) W W' := (Chg.refl _ W).grown hg fun _ _ h => h
  refine ⟨mv, KL, h1.then_ hC (fun k hk e => by have := (hr k e).1; omega), h2.grown hg (hne _ _ _ h2), h3.grown hg (hne _ _ _ h3), ?_, fun b hb => ⟨(h5 b hb).1, ?_⟩, Nat.le_trans h6 hg.size⟩
  · refine h4.chg hC (fun b hb e => ?_) (fun b hb => ?_)
    · obtain ⟨cs, hcs⟩ := h4.blk hb
      exact hne _ _ _ hcs e.symm
    · obtain ⟨_, cs, hcs⟩ := h5 b hb
      exact ⟨hcs.lt, fun e => hne _ _ _ hcs e.symm⟩
  · obtain ⟨_, cs, hcs⟩ := h5 b hb
    exact ⟨cs, hcs.grown hg (hne _ _ _ hcs)⟩
theorem keepsFrom_chg {B : Nat} {K : Nat → Prop} {W W' : World} (h : Chg K W W') (hK : ∀ k, K k → ∃ e cs, Blk W k e cs) : KeepsFrom B W W' :=
  ⟨h.size, fun k o _ hk ho => (h.block k (Array.getElem?_eq_some_iff.1 hk).1 fun hk' => by
    obtain ⟨e, cs, hb⟩ := hK k hk'
    rw [hb] at hk
    cases hk
    cases ho).trans hk⟩

set_option maxRecDepth 100000 in
set_option maxHeartbeats 2000000 in
theorem lay_any (K : Nat → Prop) (v : Value) (l : List Tab) (w : World) (h : TabsAt w K v l) (hK : ∀ b, K b → b < w.heap.size) (hn : l.length ≤ 1048576) :
    Calls Try.prog 54 #[v] w fun e w' => e = .returned (.pointer (some ⟨w.heap.size, 0, none⟩)) ∧ Tbl w' (In (w.heap.size + 1) w'.heap.size) w.heap.size (chunk l) ∧ Chg Non w w' := by
  obtain ⟨A, cap, rfl, h1, h2⟩ := h.shape
  refine (callsIn_wide (n := 3)).1 ?_
  refine callsIn_of_wp_marks Try.func54 rfl trivial ?_ rfl
  simp only [Try.ntmps54, List.size_toArray, List.length_cons, List.length_nil, Nat.reduceAdd, Nat.reduceSub, Array.replicate_succ, Array.replicate_zero, List.push_toArray, List.append_toArray, List.nil_append, List.cons_append]
  gi_wp2_with fail
  refine ⟨trivial, (callsIn_wide.2 (Chunk_any A l.length cap _)).mono ?_⟩
  rintro e w' ⟨rfl, rfl⟩
  obtain ⟨W0, hW0⟩ : ∃ W0, W0 = (((w.alloc (.cells #[.slice none 0 0] 66)).alloc (.cells #[.pointer (some ⟨w.heap.size, 0, none⟩)] 30)).alloc (.cells #[.slice A l.length cap] 22)).alloc (.cells #[.int .i64 4] 3) := ⟨_, rfl⟩
  have hz : W0.heap.size = w.heap.size + 4 := by rw [hW0]; simp
  have hcW : Chg Non w W0 := by rw [hW0]; exact ((((Chg.refl Non w).alloc _).alloc _).alloc _).alloc _
  have b0 : Blk W0 w.heap.size 66 #[.slice none 0 0] := by rw [hW0]; exact (((Blk.new _ _ _).alloc _).alloc _).alloc _
  have b1 : Blk W0 (w.heap.size + 1) 30 #[.pointer (some ⟨w.heap.size, 0, none⟩)] := by rw [hW0]; exact ((Blk.newAt (by simp) _ _).alloc _).alloc _
  have b2 : Blk W0 (w.heap.size + 2) 22 #[.slice A l.length cap] := by rw [hW0]; exact (Blk.newAt (by simp) _ _).alloc _
  have b3 : Blk W0 (w.heap.size + 3) 3 #[.int .i64 4] := by rw [hW0]; exact Blk.newAt (by simp) _ _
  gi_wp2_with fail
  rw [← hW0]
  have HW := Lib.hid hW0
  clear hW0
  refine wpIn_rangeFunc_ownG (α := Part w K) (gf := 73) (lb := #[.pointer (some ⟨w.heap.size + 1 + 1, 0, none⟩), .pointer (some ⟨w.heap.size + 1 + 1 + 1, 0, none⟩)]) (encs := fun x => #[x.v]) (Kp := Kp2 (w.heap.size + 2) (w.heap.size + 3)) (S := fun ys => ys.map Part.l = chunk l) (Sp := fun _ => True) (N := l.length + 1) (w0 := W0)
    rfl (by omega) rfl trivial (enters_of Try.func73 (by kernel_rfl) rfl) ?seq (fun h k => h.trans k) ?kb (Below.refl _ _) (fun _ => rfl) (fun pre W => LayI w (pre.map Part.l) W) (fun _ _ _ => False) ?hI (fun _ _ _ _ _ h _ _ => h) ?h0
    (fun x => { tmps := #[.slice A l.length cap, undef, .pointer none, .pointer (some ⟨w.heap.size + 1, 0, none⟩), x.v, .agg #[.slice none 0 0], .pointer (some ⟨w.heap.size, 0, none⟩), .slice A l.length cap, .func (.func 73) #[] #[.pointer (some ⟨w.heap.size + 1 + 1, 0, none⟩), .pointer (some ⟨w.heap.size + 1 + 1 + 1, 0, none⟩)], x.v, undef, undef, undef, undef, undef, undef, undef, undef, undef, undef, undef, undef], defers := [] }) ?assign ?body ?done ?stop
  case seq =>
    intro q J Jx W hW hJ hJx hY h0
    refine Chunk1_in _ q (w.heap.size + 2) (w.heap.size + 3) cap A l w K J Jx h hn hY (fun pre W n hj => hJ _ _ _ none hj ⟨rfl, rfl, rfl, Nat.le_refl _, fun _ _ _ => rfl⟩ (fun r e => by cases e)) W ?_ ?_ h0
    · rw [World.cell?_of_block (w := W0) (hW.block _ (by rw [hz]; show w.heap.size + 2 < _; omega)), b2.cell]; rfl
    · rw [World.cell?_of_block (w := W0) (hW.block _ (by rw [hz]; show w.heap.size + 3 < _; omega)), b3.cell]; rfl
  case kb =>
    intro W q o o' hq _ _ _
    exact ⟨World.putObj_heap_other (by omega), World.putObj_heap_other (by omega)⟩
  case hI =>
    intro s W W' row hs hg hr
    exact hs.turn hg fun r e => ⟨by have := (hr r e).1; omega, (hr r e).2⟩
  case h0 => exact ⟨_, Non, hcW, b0, b1, Own.nil_, fun _ h => h.elim, by omega⟩
  case assign =>
    intro q x W K1 hK
    gi_wp2
    exact hK
  case body =>
    rintro q pre x W ⟨mv, KL, hc, hb0, hb1, own, hKL, hsz⟩ hlen
    obtain ⟨ms, hms⟩ : ∃ ms, ms = pre.map Part.l := ⟨_, rfl⟩
    rw [← hms] at own
    have hml : ms.length ≤ 1048576 := by rw [hms, List.length_map]; omega
    obtain ⟨A', c', rfl, _, _⟩ := own.shape
    have hx := x.h
    have hx4 := x.hl
    obtain ⟨xv, hxv⟩ : ∃ xv, xv = x.v := ⟨_, rfl⟩
    obtain ⟨xl, hxl⟩ : ∃ xl, xl = x.l := ⟨_, rfl⟩
    rw [← hxl] at hx4
    rw [← hxv, ← hxl] at hx
    rw [← hxv]
    obtain ⟨Ax, cx, rfl, _, _⟩ := hx.shape
    have HXL := Lib.hid hxl
    have m0 : W.cell? ⟨w.heap.size, 0, none⟩ = some (.slice A' ms.length c') := by rw [hb0.cell]; rfl
    have m1 : W.cell? ⟨w.heap.size + 1, 0, none⟩ = some (.pointer (some ⟨w.heap.size, 0, none⟩)) := by rw [hb1.cell]; rfl
    have hrw : ∀ b, Row (.slice A' ms.length c') b → w.heap.size + 4 ≤ b ∧ b < W.heap.size := fun b hb => own.lt hb
    have f0 := FamC.cells (K := Row (.slice A' ms.length c')) m0 (fun h => by have : w.heap.size + 4 ≤ w.heap.size := (hrw _ h).1; omega)
    have f1 := FamC.cells (K := Row (.slice A' ms.length c')) m1 (fun h => by have : w.heap.size + 4 ≤ w.heap.size + 1 := (hrw _ h).1; omega)
    have HO := Lib.hid (And.intro own (And.intro hKL (And.intro hc (And.intro hb0 (And.intro hb1 (And.intro hrw hms))))))
    have hxl5 : xl.length ≤ 1048576 := by omega
    have hxW := hx.chg hc fun b hb => ⟨hK b hb, id⟩
    clear own hKL hc hb0 hb1 hrw hms m0 m1 hx4 hxv hxl b0 b1 b2 b3 hz hcW HW
    gi_wp2_with fail
    refine wpIn_region_hq (l := q) [0, 1, 2, 3, 4, 5] [6, 7, 8, 9, 10, 11] (S := fun W' => ∃ i : FamC (Row (.slice A' ms.length c')) W, W' = i.w') (by kernel_rfl) (by kernel_rfl) (by kernel_rfl) (by kernel_rfl) (by kernel_rfl) (by kernel_rfl) (by kernel_rfl) (fun _ _ _ _ h => h) (fun ⟨_, _, h⟩ => h) ⟨⟨W.drew, (Chg.refl _ W).drew⟩, rfl⟩ ?_
    simp only [List.filterMap_cons, List.filterMap_nil, List.getElem?_toArray, List.getElem?_cons_zero, List.getElem?_cons_succ]
    change wpQuiet _ _ _ _ (_ :: _ :: _ :: _ :: _ :: _ :: []) _
    repeat (go_big_quiet_step (fail))
    refine wpQuiet_nil ?_
    clear f0 f1
    refine wpTail.early rfl rfl (fun K1 hK1 => ?_)
    go_simp
    refine (CloneT_own K _ xl _ (hxW.chg ((Chg.refl Non W).drew) fun b hb => ⟨by have := hK b hb; have := HO.out.2.2.1.size; omega, id⟩) (fun b hb => by have := hK b hb; have := HO.out.2.2.1.size; show b < W.heap.size; omega) hxl5).mono ?_
    rintro e w1 ⟨xv', rfl, ho1, hc1⟩
    obtain ⟨Ay, cy, rfl, _, _⟩ := ho1.shape
    have hc1' : Chg Non W w1 := ((Chg.refl Non W).drew).trans hc1
    refine hK1 _ _ ⟨⟨w1, hc1'.any⟩, rfl⟩ ?_
    clear hK1 K1
    refine wpTail.early rfl rfl (fun K1 hK1 => ?_)
    go_simp
    refine hK1 _ _ ⟨⟨_, (hc1'.any).alloc _⟩, rfl⟩ ?_
    clear hK1 K1
    obtain ⟨w2, hw2⟩ : ∃ w2, w2 = w1.alloc (.cells #[.slice Ay xl.length cy] 22) := ⟨_, rfl⟩
    have hb2 : Blk w2 w1.heap.size 22 #[.slice Ay xl.length cy] := by rw [hw2]; exact Blk.new _ _ _
    have hcw2 : Chg Non w1 w2 := by rw [hw2]; exact (Chg.refl Non w1).alloc _
    rw [← hw2]
    clear hw2
    obtain ⟨own, hKL, hcW, hb0, hb1, hrw, hms⟩ := HO.out
    have hc2 := hc1'.trans hcw2
    have hKz : ∀ b, KL b → b < W.heap.size := fun b hb => by obtain ⟨_, cs, hcs⟩ := hKL b hb; exact hcs.lt
    have hlo1 : ∀ b, Row (.slice Ay xl.length cy) b → W.heap.size ≤ b ∧ b < w1.heap.size := fun b hb => ho1.lt hb
    have own2 : Own w2 (w.heap.size + 4) 22 (tSl tTab) (Or2 KL (Row (.slice Ay xl.length cy))) (.slice A' ms.length c') ms := (own.chg hc2 (fun _ _ h => h) (fun b hb => ⟨hKz b hb, id⟩)).more (fun _ h => .inl h) (fun b hb h => by
      rcases h with h | h
      · obtain ⟨_, _, h3⟩ := own
        exact h3.2 b hb h
      · have := (hlo1 b h).1; have := (hrw b hb).2; omega)
    have hpart : (tSl tTab).rep w2 (Or2 KL (Row (.slice Ay xl.length cy))) [.slice Ay xl.length cy] xl := ⟨_, rfl, ((ho1.toSl (K' := Row (.slice Ay xl.length cy)) (fun _ h => h.elim) (fun b hb => hb)).chg hcw2 (fun b hb => ⟨(hlo1 b hb).2, id⟩)).mono (fun _ h => .inr h)⟩
    have hz1 := hc1'.size
    have hz2 := hcw2.size
    have hK2 : ∀ b, Or2 KL (Row (.slice Ay xl.length cy)) b → b < w2.heap.size := fun b hb => by
      rcases hb with hb | hb
      · have := hKz b hb; omega
      · have := (hlo1 b hb).2; omega
    refine wpTail.early rfl rfl (fun K1 hK1 => ?_)
    refine wp_push (tSl tTab) (Or2 KL (Row (.slice Ay xl.length cy))) (.tmp 14) (.tmp 17) 29 rfl (w.heap.size + 4) 22 _ 24 Try.underlying29 info_tabs rfl (by decide) (by decide) _ ms xl [_] w1.heap.size (0, 0) rfl rfl own2 hb2 hpart hK2 (by omega) (by omega) ?_
    intro A3 c3 w3 own3 hc3 hat
    have hc3' : Chg (Row (.slice A' ms.length c')) W w3 := hc2.any.trans hc3
    refine hK1 _ _ ⟨⟨w3, hc3'⟩, rfl⟩ ?_
    clear hK1 K1
    have g0 : Blk w3 w.heap.size 66 #[.slice A' ms.length c'] := hb0.chg hc3' (fun h => by have := (hrw _ h).1; omega)
    have g1 : Blk w3 (w.heap.size + 1) 30 #[.pointer (some ⟨w.heap.size, 0, none⟩)] := hb1.chg hc3' (fun h => by have := (hrw _ h).1; omega)
    have m0 : w3.cell? ⟨w.heap.size, 0, none⟩ = some (.slice A' ms.length c') := by rw [g0.cell]; rfl
    have m2 := g0.frozen 0
    have hcw3 : Chg Non w w3 := hcW.then_ hc3' (fun b hb h => by have := (hrw b h).1; omega)
    have hz3 := hc3.size
    have H := Lib.hid (And.intro hcw3 (And.intro hc3' (And.intro g0 (And.intro g1 (And.intro own3 (And.intro hc3 (And.intro hKL (And.intro hlo1 (And.intro hrw (And.intro hms (And.intro ho1 (And.intro hcw2 (And.intro hc1' (And.intro hc2 (And.intro hK2 (And.intro hz1 (And.intro hz2 hz3)))))))))))))))))
    clear hcw3 hc3' g0 g1 own3 hc3 hKL hlo1 hrw hms hcW hb0 hb1 own own2 hpart ho1 hcw2 hc1 hc1' hc2 hb2 hK2 hz1 hz2 hz3 hKz
    refine wpTail.early rfl rfl (fun K1 hK1 => ?_)
    go_simp
    refine hK1 _ _ ⟨⟨w3, H.out.2.1⟩, rfl⟩ ?_
    clear hK1 K1
    refine wpTail.early rfl rfl (fun K1 hK1 => ?_)
    go_simp
    refine hK1 _ _ ⟨⟨w3, H.out.2.1⟩, rfl⟩ ?_
    clear hK1 K1
    refine wpTail.late rfl (by kernel_rfl) rfl (fun K1 hK1 => ?_)
    go_simp
    refine hK1 _ _ ?_
    clear hK1 K1
    refine wpTail.nil ?_
    show KeepsFrom _ _ _ ∧ Kp2 _ _ _ _ ∧ LayI _ _ _
    obtain ⟨hcw3, hc3', g0, g1, own3, hc3, hKL, hlo1, hrw, hms, ho1, hcw2, hc1', hc2, hK2, hz1, hz2, hz3⟩ := H.out
    obtain ⟨w4, hw4⟩ : ∃ w4, w4 = w3.setCell ⟨w.heap.size, 0, none⟩ (.slice A3 (ms.length + 1) c3) := ⟨_, rfl⟩
    have hset : Chg (Is w.heap.size) w3 w4 := by rw [hw4]; exact Chg.at_ _ _ _ _
    have g0' : Blk w4 w.heap.size 66 #[.slice A3 (ms.length + 1) c3] := by rw [hw4]; simpa using g0.set_ 0 (.slice A3 (ms.length + 1) c3)
    rw [← hw4]
    clear hw4
    have hall : Chg (Or2 (Row (.slice A' ms.length c')) (Is w.heap.size)) W w4 := (hc3'.mono (fun _ _ h => .inl h)).then_ hset (fun _ _ h => .inr h)
    have hb0 : Blk W w.heap.size 66 #[.slice A' ms.length c'] := HO.out.2.2.2.1
    refine ⟨keepsFrom_chg hall ?_, ⟨?_, ?_⟩, ?_⟩
    · rintro k (hk | hk)
      · obtain ⟨cs, hcs⟩ := (HO.out.1).blk hk
        exact ⟨_, cs, hcs⟩
      · rw [show k = w.heap.size from hk]
        exact ⟨_, _, hb0⟩
    · refine hall.block _ (by omega) ?_
      rintro (h | h)
      · have := (hrw _ h).1; omega
      · have : w.heap.size + 2 = w.heap.size := h; omega
    · refine hall.block _ (by omega) ?_
      rintro (h | h)
      · have := (hrw _ h).1; omega
      · have : w.heap.size + 3 = w.heap.size := h; omega
    · have e : (pre ++ [x]).map Part.l = ms ++ [xl] := by rw [List.map_append, hms, HXL.out]; rfl
      rw [e]
      have hl3 : ∀ b, (Value.slice A3 (ms.length + 1) c3).ownBlock = some b → w.heap.size + 4 ≤ b ∧ b < w3.heap.size := fun b hb => own3.lt hb
      refine ⟨_, Or2 KL (Row (.slice Ay xl.length cy)), (hcw3.then_ hset (fun k hk e => by have : k = w.heap.size := e; omega)), g0', g1.chg hset (fun h => by have : w.heap.size + 1 = w.heap.size := h; omega), own3.chg hset (fun b hb e => by have : b = w.heap.size := e; have := (hl3 b hb).1; omega) (fun b hb => ⟨by have := hK2 b hb; omega, fun e => ?_⟩), fun b hb => ?_, by have := hset.size; omega⟩
      · have e' : b = w.heap.size := e
        rcases hb with hb | hb
        · have := (hKL b hb).1; omega
        · have := (hlo1 b hb).1; omega
      · rcases hb with hb | hb
        · obtain ⟨h1, cs, hcs⟩ := hKL b hb
          refine ⟨h1, cs, hcs.chg hall ?_⟩
          rintro (h | h)
          · obtain ⟨_, _, h3⟩ := HO.out.1
            exact h3.2 b h hb
          · have : b = w.heap.size := h; omega
        · obtain ⟨cs, hcs⟩ := ho1.blk hb
          have h1 := (hlo1 b hb)
          refine ⟨by omega, cs, ((hcs.chg hcw2 id).chg hc3 ?_).chg hset ?_⟩
          · intro h
            have := (hrw b h).2; omega
          · intro h
            have : b = w.heap.size := h; omega
  case done =>
    rintro D ys W hD hS ⟨mv, KL, hc, hb0, hb1, own, hKL, hsz⟩ hKD
    rw [hS] at own
    have m1 : W.cell? ⟨w.heap.size + 1, 0, none⟩ = some (.pointer (some ⟨w.heap.size, 0, none⟩)) := by rw [hb1.cell]; rfl
    have HO := Lib.hid (And.intro own (And.intro hKL (And.intro hc (And.intro hb0 (And.intro hb1 hsz)))))
    clear own hKL hc hb0 hb1 b0 b1 b2 b3 hcW HW
    gi_wp2
    refine ⟨by simp, .inl ⟨_, _, rfl, run_takeDeferred hKD, ?_⟩⟩
    refine ⟨_, results_tmp rfl _ _ _, rfl, ?_⟩
    obtain ⟨own, hKL, hc, hb0, hb1, hsz⟩ := HO.out
    have hDW : D < W.heap.size := (Array.getElem?_eq_some_iff.1 hKD).1
    have hg := grownBy_putObj' W D (.deferred none)
    have hC : Chg (fun k => some D = some k) W (W.putObj D (.deferred none)) := (Chg.refl _ W).grown hg fun _ _ h => h
    have hne : ∀ b e cs, Blk W b e cs → D ≠ b := by
      rintro b e cs hb rfl
      rw [hb] at hKD
      cases hKD
    refine ⟨⟨mv, hb0.chg hC (fun h => ?_), ?_, fun h => ?_, fun b hb => hb.2⟩, ?_⟩
    · injection h with h
      exact hne _ _ _ hb0 h
    · refine (own.toSl (K' := Or2 KL (Row mv)) (fun b hb => .inl hb) (fun b hb => .inr hb)).keep fun b hb => ?_
      have hcs : ∃ e cs, Blk W b e cs ∧ w.heap.size + 1 ≤ b := by
        rcases hb with hb | hb
        · obtain ⟨h1, cs, hcs⟩ := hKL b hb
          exact ⟨_, cs, hcs, by omega⟩
        · obtain ⟨cs, hcs⟩ := own.blk hb
          exact ⟨_, cs, hcs, by have := (own.lt hb).1; omega⟩
      obtain ⟨e, cs, hcs, h1⟩ := hcs
      have := hcs.lt
      exact ⟨⟨h1, by have := hC.size; omega⟩, hC.block b hcs.lt (fun h => by injection h with h; exact hne _ _ _ hcs h)⟩
    · exact absurd h.1 (by omega)
    · exact hc.then_ hC (fun k hk e => by injection e with e; omega)
  case stop =>
    rintro D c pre W hD _ h _
    exact h.elim
end Go.Proofs.Ytebdaoihajjgmaa
