/- The methods of a table that only read: All, Len, Metas, Root, Meta, Find, Before. -/
import Derived.Test.YtebdaoihajjgmaaChk
import Derived.Test.YtebdaoihajjgmaaCov
set_option linter.unusedVariables false
set_option linter.unusedSimpArgs false
namespace Go.Proofs.Ytebdaoihajjgmaa
open Go.RowKit

theorem All_any (K : Nat → Prop) (g : Nat) (ms : List (List Tab)) (w : World) (h : Tbl w K g ms) (hl : ms.flatten.length ≤ 1048576) :
    Calls Try.prog 14 #[.pointer (some ⟨g, 0, none⟩)] w fun e w' => ∃ v', e = .returned v' ∧ TabsAt w' (In w.heap.size w'.heap.size) v' ms.flatten ∧ Chg Non w w' := by
  obtain ⟨v, hb, hs, hg, hK⟩ := h
  have m0 : w.cell? ⟨g, 0, none⟩ = some v := by rw [hb.cell]; rfl
  obtain ⟨A, cap, rfl, _, _⟩ := hs.shape
  clear hb
  go_enter Try.func14, Try.ntmps14
  go_wp2_with fail
  refine (Concat_any K _ ms w hs hK hl).mono ?_
  rintro e w1 ⟨v', rfl, h1, h2⟩
  go_wp2
  go_ret
  exact ⟨_, rfl, h1, h2⟩
theorem Len_any (K : Nat → Prop) (g : Nat) (ms : List (List Tab)) (w : World) (h : Tbl w K g ms) (hl : ms.flatten.length ≤ 1048576) :
    Calls Try.prog 23 #[.pointer (some ⟨g, 0, none⟩)] w fun e w' => e = .returned (.int .i64 ms.flatten.length) ∧ Chg Non w w' := by
  go_enter Try.func23, Try.ntmps23
  go_wp2_with fail
  refine (All_any K g ms w h hl).mono ?_
  rintro e w1 ⟨v', rfl, h1, h2⟩
  obtain ⟨l, hl⟩ : ∃ l, l = ms.flatten := ⟨_, rfl⟩
  rw [← hl] at h1
  obtain ⟨A, cap, rfl, _, _⟩ := h1.shape
  have HL := Lib.hid hl
  clear hl
  go_wp2
  go_ret
  exact ⟨ret_int (by rw [HL.out]), h2⟩

set_option maxHeartbeats 1600000 in
theorem Metas_any (K : Nat → Prop) (g : Nat) (ms : List (List Tab)) (w : World) (h : Tbl w K g ms) (hn : ms.length ≤ 1048576) (hl : ∀ p ∈ ms, p.length ≤ 1048576) :
    Calls Try.prog 19 #[.pointer (some ⟨g, 0, none⟩)] w fun e w' => ∃ v', e = .returned v' ∧ SlT (tSl tTab) w' (In w.heap.size w'.heap.size) v' ms ∧ Chg Non w w' := by
  obtain ⟨v, hb, hs, hg, hK⟩ := h
  have m0 : w.cell? ⟨g, 0, none⟩ = some v := by rw [hb.cell]; rfl
  obtain ⟨A, cap, rfl, _, _⟩ := hs.shape
  clear hb
  go_enter Try.func19, Try.ntmps19
  go_wp2_with fail
  go_loopw [3, 5, 11] (fun lv _ i wr => ∃ (k : Nat) (KL : Nat → Prop), k ≤ ms.length ∧ i = .int .i64 k ∧ Chg Non w wr ∧ Own wr w.heap.size 22 (tSl tTab) KL lv (ms.take k) ∧ (∀ b, KL b → w.heap.size ≤ b ∧ b < wr.heap.size)) (fun _ _ i _ => ms.length - (intOf i).toNat)
  case atStart => exact ⟨0, Non, Nat.zero_le _, rfl, Chg.refl _ _, Own.nil_, fun _ h => h.elim⟩
  case round =>
    obtain ⟨k, KL, hk, rfl, hc, own, hKL⟩ := hrel
    by_cases hlt : k < ms.length
    · have h' : SlT (tSl tTab) wr K (.slice A ms.length cap) ms := hs.chg hc fun b hb => ⟨hK b hb, id⟩
      obtain ⟨b, off, A', c', rfl, hb, hp, g1, g2, c0⟩ := row_cells h' hlt
      have he : ms.take (k + 1) = ms.take k ++ [ms[k]] := List.take_succ_eq_append_getElem hlt
      have hpl := hl ms[k] (List.getElem_mem _)
      obtain ⟨q, hq⟩ : ∃ q, q = ms[k] := ⟨_, rfl⟩
      obtain ⟨lk, hlk⟩ : ∃ lk, lk = ms.take k := ⟨_, rfl⟩
      have hll : lk.length ≤ 1048576 := by rw [hlk, List.length_take]; omega
      rw [← hq] at he c0 g1 hp hpl
      rw [← hlk] at he own
      obtain ⟨Al, cl, rfl, _, _⟩ := own.shape
      have hrw : ∀ b, Row (.slice Al lk.length cl) b → w.heap.size ≤ b ∧ b < wr.heap.size := fun b hb => own.lt hb
      have HO := Lib.hid (And.intro he (And.intro own (And.intro hc (And.intro hKL hrw))))
      have hKr : ∀ b, K b → b < wr.heap.size := fun b hb => Nat.lt_of_lt_of_le (hK b hb) hc.size
      clear he hq hlk own hc hKL hrw h'
      go_wp2_with fail
      refine (CloneT_own K _ q wr hp hKr hpl).mono ?_
      rintro e w1 ⟨xv', rfl, ho1, hc1⟩
      obtain ⟨Ay, cy, rfl, _, _⟩ := ho1.shape
      obtain ⟨he, own, hc, hKL, hrw⟩ := HO.out
      have hlo1 : ∀ b, Row (.slice Ay q.length cy) b → wr.heap.size ≤ b ∧ b < w1.heap.size := fun b hb => ho1.lt hb
      obtain ⟨w2, hw2⟩ : ∃ w2, w2 = w1.alloc (.cells #[.slice Ay q.length cy] 22) := ⟨_, rfl⟩
      have hb2 : Blk w2 w1.heap.size 22 #[.slice Ay q.length cy] := by rw [hw2]; exact Blk.new _ _ _
      have hcw2 : Chg Non w1 w2 := by rw [hw2]; exact (Chg.refl Non w1).alloc _
      have hc2 := hc1.trans hcw2
      have own2 : Own w2 w.heap.size 22 (tSl tTab) (Or2 KL (Row (.slice Ay q.length cy))) (.slice Al lk.length cl) lk := (own.chg hc2 (fun _ _ h => h) (fun b hb => ⟨(hKL b hb).2, id⟩)).more (fun _ h => .inl h) (fun b hb h => by
        rcases h with h | h
        · obtain ⟨_, _, h3⟩ := own
          exact h3.2 b hb h
        · have := (hlo1 b h).1; have := (hrw b hb).2; omega)
      have hpart : (tSl tTab).rep w2 (Or2 KL (Row (.slice Ay q.length cy))) [.slice Ay q.length cy] q := ⟨_, rfl, ((ho1.toSl (K' := Row (.slice Ay q.length cy)) (fun _ h => h.elim) (fun b hb => hb)).chg hcw2 (fun b hb => ⟨(hlo1 b hb).2, id⟩)).mono (fun _ h => .inr h)⟩
      have hz0 := hc.size
      have hz1 := hc1.size
      have hz2 := hcw2.size
      have hK2 : ∀ b, Or2 KL (Row (.slice Ay q.length cy)) b → b < w2.heap.size := fun b hb => by
        rcases hb with hb | hb
        · have := (hKL b hb).2; omega
        · have := (hlo1 b hb).2; omega
      have hz : w.heap.size ≤ w2.heap.size := by omega
      have HW2 := Lib.hid (And.intro hw2 (And.intro own2 (And.intro hb2 (And.intro hpart (And.intro hK2 hz)))))
      have HC := Lib.hid (And.intro hc2 (And.intro hlo1 (And.intro hz1 hz2)))
      clear hw2 own2 hb2 hpart hK2 hz hc2 hlo1 hz1 hz2 hc1 hcw2 ho1 own hc hKL hrw he
      go_wp2_with (at_builtin; rw [← HW2.out.1]; refine wpList_push (tSl tTab) (Or2 KL (Row (.slice Ay q.length cy))) rfl (.tmp 15) (.tmp 18) 29 rfl w.heap.size 22 _ 24 Try.underlying29 info_tabs rfl (by decide) (by decide) _ lk q [_] w1.heap.size (0, 0) rfl rfl HW2.out.2.1 HW2.out.2.2.1 HW2.out.2.2.2.1 HW2.out.2.2.2.2.1 (by omega) HW2.out.2.2.2.2.2 ?_)
      intro A3 c3 w3 own3 hc3 hat
      have hcw3 : Chg Non w w3 := (HO.out.2.2.1.trans HC.out.1).then_ hc3 (fun b hb h => by have := (HO.out.2.2.2.2 b h).1; omega)
      have H3 := Lib.hid (And.intro own3 (And.intro hcw3 hc3.size))
      clear own3 hcw3 hc3 hat
      go_wp2_with fail
      go_roundw
      case rel =>
        refine ⟨k + 1, Or2 KL (Row (.slice Ay q.length cy)), by omega, by go_num, H3.out.2.1, by rw [HO.out.1]; exact H3.out.1, fun b hb => ?_⟩
        have := HC.out.2.2.1
        have := HC.out.2.2.2
        have := H3.out.2.2
        have := HW2.out.2.2.2.2.1 b hb
        refine ⟨?_, by omega⟩
        rcases hb with hb | hb
        · exact (HO.out.2.2.2.1 b hb).1
        · have := (HC.out.2.1 b hb).1; omega
      case measure => simp [intOf]; omega
    · have hk' : k = ms.length := by omega
      subst hk'
      rw [List.take_length] at own
      obtain ⟨Al, cl, rfl, _, _⟩ := own.shape
      go_wp2_with fail
      go_ret
      exact ⟨_, rfl, own.toSl (fun b hb => hKL b hb) (fun b hb => own.lt hb), hc⟩

theorem info_str : (Try.prog.info? 9).map (fun i => (i.zero, i.size, i.bytes)) = some (some (.string { data := #[] }), 1, 16) := by kernel_rfl
/-- Where a meta tablet begins. -/
def rootOf : List Tab → ByteArray
  | [] => { data := #[] }
  | x :: _ => x.span.lo
theorem rootOf_get (p : List Tab) (h : 0 < p.length) : rootOf p = p[0].span.lo := by
  cases p with
  | nil => simp at h
  | cons x r => rfl
set_option maxHeartbeats 1600000 in
theorem Root_any (K : Nat → Prop) (g : Nat) (ms : List (List Tab)) (w : World) (h : Tbl w K g ms) (hn : ms.length ≤ 1048576) (hl : ∀ p ∈ ms, 1 ≤ p.length) :
    Calls Try.prog 29 #[.pointer (some ⟨g, 0, none⟩)] w fun e w' => ∃ v', e = .returned v' ∧ SlT tStr w' (In w.heap.size w'.heap.size) v' (ms.map rootOf) ∧ Chg Non w w' := by
  obtain ⟨v, hb, hs, hg, hK⟩ := h
  have m0 : w.cell? ⟨g, 0, none⟩ = some v := by rw [hb.cell]; rfl
  obtain ⟨A, cap, rfl, _, _⟩ := hs.shape
  clear hb
  go_enter Try.func29, Try.ntmps29
  go_wp2_with fail
  go_loopw [3, 5, 11] (fun lv _ i wr => ∃ k : Nat, k ≤ ms.length ∧ i = .int .i64 k ∧ Chg Non w wr ∧ Own wr w.heap.size 9 tStr Non lv ((ms.take k).map rootOf)) (fun _ _ i _ => ms.length - (intOf i).toNat)
  case atStart => exact ⟨0, Nat.zero_le _, rfl, Chg.refl _ _, Own.nil_⟩
  case round =>
    obtain ⟨k, hk, rfl, hc, own⟩ := hrel
    by_cases hlt : k < ms.length
    · have h' : SlT (tSl tTab) wr K (.slice A ms.length cap) ms := hs.chg hc fun b hb => ⟨hK b hb, id⟩
      obtain ⟨b, off, A', c', rfl, hb, hp, g1, g2, c0⟩ := row_cells h' hlt
      have hpl := hl ms[k] (List.getElem_mem _)
      obtain ⟨bb, off', rfl, _, ⟨_, _, hs1, _⟩, d0, _, _, _⟩ := tab_cells hp (k := 0) (by omega)
      have he : (ms.take (k + 1)).map rootOf = (ms.take k).map rootOf ++ [ms[k][0].span.lo] := by rw [List.take_succ_eq_append_getElem hlt, List.map_append, ← rootOf_get _ (by omega)]; rfl
      obtain ⟨q, hq⟩ : ∃ q, q = ms[k].length := ⟨_, rfl⟩
      obtain ⟨s, hs'⟩ : ∃ s, s = ms[k][0].span.lo := ⟨_, rfl⟩
      obtain ⟨lk, hlk⟩ : ∃ lk, lk = (ms.take k).map rootOf := ⟨_, rfl⟩
      have hll : lk.length ≤ 1048576 := by rw [hlk, List.length_map, List.length_take]; omega
      rw [← hs'] at he d0 hs1
      rw [← hq] at c0 hpl
      rw [← hlk] at he own
      simp only [Nat.zero_mul, Nat.add_zero] at d0
      obtain ⟨Al, cl, rfl, _, _⟩ := own.shape
      have hq0 : (0 : Int) < (q : Int) := by omega
      have hc2 := (Chg.refl Non wr).alloc (.cells #[.string s] 9)
      have own2 := own.chg hc2 (fun _ _ h => h) (fun _ h => h.elim)
      have hb2 : Blk (wr.alloc (.cells #[.string s] 9)) wr.heap.size 9 #[.string s] := Blk.new _ _ _
      have hrw : ∀ b, Row (.slice Al lk.length cl) b → w.heap.size ≤ b := fun b hb => (own.lt hb).1
      have hz : w.heap.size ≤ (wr.alloc (.cells #[.string s] 9)).heap.size := by have := hc.size; simp; omega
      have HO := Lib.hid (And.intro he (And.intro own2 (And.intro hb2 (And.intro hrw (And.intro (hc.trans hc2) (And.intro hs1 hz))))))
      clear he hq hs' hlk own own2 hb2 hrw hz hc hc2 h' hp hs1
      go_wp2_with (at_builtin; refine wpList_push tStr Non rfl (.tmp 15) (.tmp 21) 42 rfl w.heap.size 9 _ 16 Try.underlying42 info_str rfl (by decide) (by decide) _ lk s [_] wr.heap.size (0, 0) rfl rfl HO.out.2.1 HO.out.2.2.1 ⟨rfl, HO.out.2.2.2.2.2.1⟩ (fun _ h => h.elim) (by omega) HO.out.2.2.2.2.2.2 ?_)
      intro A3 c3 w3 own3 hc3 hat
      have hcw3 : Chg Non w w3 := (HO.out.2.2.2.2.1).then_ hc3 (fun b hb h => by have := HO.out.2.2.2.1 b h; omega)
      have H3 := Lib.hid (And.intro own3 hcw3)
      clear own3 hcw3 hc3 hat
      go_wp2_with fail
      go_roundw
      case rel => exact ⟨k + 1, by omega, by go_num, H3.out.2, by rw [HO.out.1]; exact H3.out.1⟩
      case measure => simp [intOf]; omega
    · have hk' : k = ms.length := by omega
      subst hk'
      rw [List.take_length] at own
      obtain ⟨lk, hlk⟩ : ∃ lk, lk = ms.map rootOf := ⟨_, rfl⟩
      rw [← hlk] at own
      obtain ⟨Al, cl, rfl, _, _⟩ := own.shape
      have HL := Lib.hid hlk
      clear hlk
      go_wp2_with fail
      go_ret
      exact ⟨_, rfl, by rw [← HL.out]; exact own.toSl (fun _ h => h.elim) (fun b hb => own.lt hb), hc⟩

/-- The last of those that begin at a name or ahead of it; else the first. -/
def lastLe (n : ByteArray) : List ByteArray → Nat → Nat → Nat
  | [], _, acc => acc
  | lo :: r, k, acc => lastLe n r (k + 1) (if sLt n lo then acc else k)
theorem lastLe_lt (n : ByteArray) : ∀ (l : List ByteArray) (k acc m : Nat), acc ≤ m → k + l.length ≤ m + 1 → lastLe n l k acc ≤ m
  | [], _, _, _, h, _ => h
  | lo :: r, k, acc, m, h, h' => by
    simp only [List.length_cons] at h'
    refine lastLe_lt n r (k + 1) _ m ?_ (by omega)
    split <;> omega
set_option maxHeartbeats 1600000 in
theorem Meta_any (K : Nat → Prop) (g : Nat) (ms : List (List Tab)) (n : ByteArray) (w : World) (h : Tbl w K g ms) (hn : ms.length ≤ 1048576) (hl : ∀ p ∈ ms, 1 ≤ p.length) :
    Calls Try.prog 20 #[.pointer (some ⟨g, 0, none⟩), .string n] w fun e w' => e = .returned (.int .i64 (lastLe n (ms.map rootOf) 0 0)) ∧ Chg Non w w' := by
  go_enter Try.func20, Try.ntmps20
  go_wp2_with fail
  refine (Root_any K g ms w h hn hl).mono ?_
  rintro e w1 ⟨v', rfl, hs, hc1⟩
  obtain ⟨l, hl'⟩ : ∃ l, l = ms.map rootOf := ⟨_, rfl⟩
  have hll : l.length ≤ 1048576 := by rw [hl', List.length_map]; exact hn
  rw [← hl'] at hs
  obtain ⟨A, cap, rfl, _, _⟩ := hs.shape
  have HL := Lib.hid hl'
  clear hl' h hl
  go_wp2_with fail
  go_loopw [5, 6, 7, 11] (fun a _ _ i wr => ∃ k acc : Nat, k ≤ l.length ∧ i = .int .i64 k ∧ a = .int .i64 acc ∧ wr = w1 ∧ Hid (lastLe n l 0 0 = lastLe n (l.drop k) k acc)) (fun _ _ _ i _ => l.length - (intOf i).toNat)
  case atStart => exact ⟨0, 0, Nat.zero_le _, rfl, rfl, rfl, Lib.hid rfl⟩
  case round =>
    obtain ⟨k, acc, hk, rfl, rfl, rfl, hle⟩ := hrel
    by_cases hlt : k < l.length
    · obtain ⟨b, off, cs, rfl, hb, ⟨rfl, hf⟩, hcell⟩ := hs.get hlt
      have c0 := hcell 0 _ rfl
      simp only [tStr, Nat.mul_one, Nat.add_zero] at c0
      have hd : lastLe n (l.drop k) k acc = lastLe n (l.drop (k + 1)) (k + 1) (if sLt n l[k] then acc else k) := by rw [List.drop_eq_getElem_cons hlt, lastLe]
      have HD := Lib.hid hd
      clear hd
      generalize l[k] = s at *
      go_wp2_with fail
      · rename_i e1
        have hx : sLt n s = false := by
          rcases e1 with e | e
          · exact sLt_asymm e
          · show Op.bytesLess _ _ = false
            rw [beq_iff_eq.1 e]; exact sLt_irrefl _
        refine ⟨⟨k + 1, k, by omega, by go_num, rfl, trivial, Lib.hid ?_⟩, by simp [intOf]; omega⟩
        rw [hle.out, HD.out, hx]; rfl
      · rename_i e1
        have hx : sLt n s = true := by
          rcases sLt_tri n.toList s.toList with e | e | e
          · exact e
          · rw [e] at e1; simp at e1
          · rw [e] at e1; cases e1.1
        refine ⟨⟨k + 1, acc, by omega, by go_num, rfl, trivial, Lib.hid ?_⟩, by simp [intOf]; omega⟩
        rw [hle.out, HD.out, hx]; rfl
    · have hk' : k = l.length := by omega
      subst hk'
      go_wp2_with fail
      go_ret
      exact ⟨ret_int (by rw [← HL.out, hle.out, List.drop_length]; rfl), hc1⟩

/-! ### Find -/
theorem Find1_any (x : Tab) (n : ByteArray) (p : Nat) (w : World) (hp : w.cell? ⟨p, 0, none⟩ = some (.string n)) : Calls Try.prog 37 #[x.v, .pointer (some ⟨p, 0, none⟩)] w fun e w' => e = .returned (.bool (pHas x.span n)) ∧ Chg Non w w' := by
  obtain ⟨⟨lo, hi⟩, gr, gn⟩ := x
  have hc : ∀ W, Calls Try.prog 38 #[(⟨lo, hi⟩ : Span).v, .string n] W fun e w' => e = .returned (.bool (pHas ⟨lo, hi⟩ n)) ∧ Chg Non W w' := fun W => SHas_any ⟨lo, hi⟩ n W
  have HC := Lib.hid hc
  clear hc
  have hp' := fun o => ((Chg.refl Non w).alloc o).cellv hp id
  have hc' := fun o => (Chg.refl Non w).alloc o
  have HC' := Lib.hid hc'
  clear hc'
  dsimp only
  generalize pHas ⟨lo, hi⟩ n = q at HC ⊢
  go_enter Try.func37, Try.ntmps37
  go_wp2_with fail
  refine (HC.out _).mono ?_
  rintro e w1 ⟨rfl, hc⟩
  go_wp2_with fail
  go_ret
  exact ⟨rfl, (HC'.out _).trans hc⟩

theorem size_tab : (Try.prog.info? 28).map (·.size) = some 4 := by kernel_rfl
def zeroTab : Tab := ⟨⟨{ data := #[] }, { data := #[] }⟩, 0, 0⟩
/-- A table's meta tablet. -/
theorem meta_at {w : World} {K : Nat → Prop} {A : Option Addr} {n cap : Nat} {ms : List (List Tab)} (h : SlT (tSl tTab) w K (.slice A n cap) ms) {i : Nat} (hi : i < ms.length) :
    ∃ b off A' c', A = some ⟨b, off, none⟩ ∧ K b ∧ SlT tTab w K (.slice A' ms[i].length c') ms[i] ∧ w.cell? ⟨b, off + i, none⟩ = some (.slice A' ms[i].length c') := by
  obtain ⟨b, off, A', c', hA, hb, hp, _, _, hc⟩ := row_cells h hi
  exact ⟨b, off, A', c', hA, hb, hp, hc⟩
set_option maxHeartbeats 3200000 in
theorem Find_any (K : Nat → Prop) (g : Nat) (ms : List (List Tab)) (n : ByteArray) (w : World) (h : Tbl w K g ms) (hn : ms.length ≤ 1048576) (hl : ∀ p ∈ ms, 1 ≤ p.length) (hl2 : ∀ p ∈ ms, p.length ≤ 1048576) (i j : Nat) (hi : i < ms.length) (hj : j < ms[i].length)
    (ei : lastLe n (ms.map rootOf) 0 0 = i) (ej : idx (fun x => pHas x.span n) ms[i] 0 = (j : Nat)) :
    Calls Try.prog 17 #[.pointer (some ⟨g, 0, none⟩), .string n] w fun e w' => e = .returned ms[i][j].v ∧ Chg Non w w' := by
  obtain ⟨v, hb, hs, hg, hK⟩ := id h
  have m0 : w.cell? ⟨g, 0, none⟩ = some v := by rw [hb.cell]; rfl
  obtain ⟨A, cap, rfl, _, _⟩ := hs.shape
  obtain ⟨W0, hW0⟩ : ∃ W0, W0 = (w.alloc (.cells #[.string n] 9)).alloc (.cells #[.string { data := #[] }, .string { data := #[] }, .int .i64 0, .int .i64 0] 28) := ⟨_, rfl⟩
  have hcW : Chg Non w W0 := by rw [hW0]; exact ((Chg.refl Non w).alloc _).alloc _
  have bn : Blk W0 w.heap.size 9 #[.string n] := by rw [hW0]; exact (Blk.new _ _ _).alloc _
  have br : Blk W0 (w.heap.size + 1) 28 #[.string { data := #[] }, .string { data := #[] }, .int .i64 0, .int .i64 0] := by rw [hW0]; exact Blk.newAt (by simp) _ _
  have f0 := Fam.cells (hcW.cellv m0 id)
  have f1 := Fam.cells (w := W0) (p := ⟨w.heap.size, 0, none⟩) (v := .string n) (by rw [bn.cell]; rfl)
  obtain ⟨b, off, A', c', rfl, hbb, hp, c0⟩ := meta_at hs hi
  have f2 := Fam.cells (hcW.cellv c0 id)
  have hcall : ∀ q : Fam W0, Calls Try.prog 20 #[.pointer (some ⟨g, 0, none⟩), .string n] q.w' fun e w' => e = .returned (.int .i64 i) ∧ Chg Non q.w' w' := fun q => by
    have := Meta_any K g ms n q.w' (h.grow (hcW.trans q.h)) hn hl
    rwa [ei] at this
  have HC := Lib.hid hcall
  have HW := Lib.hid hW0
  have HB := Lib.hid (And.intro hcW (And.intro bn (And.intro br ej)))
  have HP := Lib.hid hp
  have t1 : (i : Int) < (ms.length : Int) := by omega
  have t2 : (0 : Int) ≤ (i : Int) := by omega
  have t3 : (j : Int) < (ms[i].length : Int) := by omega
  have hK2 := hl2 ms[i] (List.getElem_mem _)
  clear hcall hW0 hcW bn br m0 c0 hb ei ej hp
  go_enter Try.func17, Try.ntmps17
  go_upto_region 1 with fail
  rw [← HW.out]
  refine wp_region_fam (by kernel_rfl) (by kernel_rfl) ?_
  repeat (go_big_quiet_step ((go_at_call 20; refine Fam.back (HC.out _))))
  refine wpQuiet_nil ?_
  intro _ hw'
  obtain ⟨q, rfl⟩ := hw'
  clear f0 f1 f2
  have hcq := HB.out.1.trans q.h
  have hpq := HP.out.chg hcq fun b hb => ⟨hK b hb, id⟩
  have hKq : ∀ b, K b → b < q.w'.heap.size := fun b hb => Nat.lt_of_lt_of_le (hK b hb) hcq.size
  have bnq := HB.out.2.1.chg q.h id
  have hidx := IdxF_Find1 (fun x => pHas x.span n) K _ ms[i] ⟨w.heap.size, 0, none⟩ q.w' hpq hKq (fun W x _ _ _ hW => Find1_any x n w.heap.size W (by rw [(bnq.chg hW id).cell]; rfl))
  rw [HB.out.2.2.2] at hidx
  have HI := Lib.hid hidx
  have HQ := Lib.hid (And.intro hcq (And.intro hpq hKq))
  clear hidx hcq hpq hKq bnq
  go_wp2_with fail
  refine HI.out.mono ?_
  rintro e w2 ⟨rfl, hc2⟩
  have hp2 := HQ.out.2.1.chg hc2 fun b hb => ⟨HQ.out.2.2 b hb, id⟩
  have br2 := (HB.out.2.2.1.chg q.h id).chg hc2 id
  have hcw2 := HQ.out.1.trans hc2
  obtain ⟨b3, off3, rfl, _, _, d0, d1, d2, d3⟩ := tab_cells hp2 hj
  obtain ⟨x, hx⟩ : ∃ x, x = ms[i][j] := ⟨_, rfl⟩
  rw [← hx] at d0 d1 d2 d3
  obtain ⟨⟨lo, hi'⟩, gr, gn⟩ := x
  dsimp only at d0 d1 d2 d3
  have H2 := Lib.hid (And.intro br2 (And.intro hcw2 hx))
  clear hp2 br2 hcw2 hc2 hx
  go_wp2_with (refine wpList_storeB rfl 28 (.tmp 4) (.tmp 22) rfl (w.heap.size + 1) _ rfl rfl H2.out.1 rfl (by kernel_rfl) (by simp [Value.oneCell']) ?_)
  intro w3 hb3 hc3 hz3
  have H3 := Lib.hid (And.intro hb3 hc3)
  clear hb3 hc3 hz3
  go_wp2_with fail
  refine bodyPost_ret (v := .agg #[.string lo, .string hi', .int .i64 gr, .int .i64 gn]) (ret_cellB (p := 4) (ty := 28) rfl _ rfl H3.out.1 Try.underlying28 size_tab) rfl ⟨ret_val (by rw [← H2.out.2.2]), H2.out.2.1.then_ H3.out.2 (fun k hk e => by have : k = w.heap.size + 1 := e; omega)⟩

/-! ### Before -/
/-- What Before answers: of the list, and the place of the tablet that has the name. -/
def BefAns (l : List Tab) (k : Nat) (e : Ending) : Prop := (k = 0 ∧ e = .returned (.tuple #[zeroTab.v, .bool false])) ∨ ∃ y, l[k - 1]? = some y ∧ 0 < k ∧ e = .returned (.tuple #[y.v, .bool true])
set_option maxHeartbeats 3200000 in
theorem Before_any (K : Nat → Prop) (g : Nat) (ms : List (List Tab)) (n : ByteArray) (w : World) (h : Tbl w K g ms) (hn : ms.length ≤ 1048576) (hl : ∀ p ∈ ms, 1 ≤ p.length) (hl2 : ∀ p ∈ ms, p.length ≤ 1048576) (hf : ms.flatten.length ≤ 1048576) (i j : Nat) (hi : i < ms.length) (hj : j < ms[i].length)
    (ei : lastLe n (ms.map rootOf) 0 0 = i) (ej : idx (fun x => pHas x.span n) ms[i] 0 = (j : Nat)) (k : Nat) (ek : idx (fun y => tEq ms[i][j] y) ms.flatten 0 = (k : Nat)) (hk : k ≤ ms.flatten.length) :
    Calls Try.prog 18 #[.pointer (some ⟨g, 0, none⟩), .string n] w fun e w' => BefAns ms.flatten k e ∧ Chg Non w w' := by
  have hc0 := (Chg.refl Non w).alloc (.cells #[.string { data := #[] }, .string { data := #[] }, .int .i64 0, .int .i64 0] 28)
  have b0 : Blk (w.alloc (.cells #[.string { data := #[] }, .string { data := #[] }, .int .i64 0, .int .i64 0] 28)) w.heap.size 28 #[.string { data := #[] }, .string { data := #[] }, .int .i64 0, .int .i64 0] := Blk.new _ _ _
  have hfind := fun W (hc : Chg Non w W) => Find_any K g ms n W (h.grow hc) hn hl hl2 i j hi hj ei ej
  obtain ⟨x, hx⟩ : ∃ x, x = ms[i][j] := ⟨_, rfl⟩
  obtain ⟨l, hl'⟩ : ∃ l, l = ms.flatten := ⟨_, rfl⟩
  have hall := fun W (hc : Chg Non w W) => All_any K g ms W (h.grow hc) hf
  simp only [← hx] at hfind ek
  simp only [← hl'] at hall ek hk ⊢
  have hf' : l.length ≤ 1048576 := by rw [hl']; exact hf
  have H0 := Lib.hid (And.intro hc0 (And.intro b0 (And.intro hfind (And.intro hall ek))))
  clear hc0 b0 ei ej ek hfind hall hx hl' h hf hl hl2 hn
  obtain ⟨⟨xlo, xhi⟩, xg, xn⟩ := x
  go_enter Try.func18, Try.ntmps18
  go_wp2_with fail
  refine (H0.out.2.2.2.1 _ H0.out.1).mono ?_
  rintro e w1 ⟨lv, rfl, hs1, hc1⟩
  have hcw1 := H0.out.1.trans hc1
  obtain ⟨A, cap, rfl, _, _⟩ := hs1.shape
  have HX := Lib.hid (And.intro hs1 (And.intro hcw1 hc1))
  clear hc1 hcw1 hs1
  go_wp2_with fail
  refine (H0.out.2.2.1 w1 HX.out.2.1).mono ?_
  rintro e w2 ⟨rfl, hc2⟩
  have hs2 := HX.out.1.chg hc2 fun b hb => ⟨hb.2, id⟩
  have hKz : ∀ b, In ((w.alloc (.cells #[.string { data := #[] }, .string { data := #[] }, .int .i64 0, .int .i64 0] 28)).heap.size) w1.heap.size b → b < w2.heap.size := fun b hb => Nat.lt_of_lt_of_le hb.2 hc2.size
  have hi1 := TIndex_any _ _ l ⟨⟨xlo, xhi⟩, xg, xn⟩ w2 hs2 hKz
  rw [H0.out.2.2.2.2] at hi1
  have H2 := Lib.hid (And.intro hs2 (And.intro (HX.out.2.1.trans hc2) (And.intro ((H0.out.2.1.chg HX.out.2.2 id).chg hc2 id) (And.intro hi1 hKz))))
  clear hs2 hi1 hc2 hKz
  go_wp2_with fail
  refine H2.out.2.2.2.1.mono ?_
  rintro e w3 ⟨rfl, hc3⟩
  have hs3 := H2.out.1.chg hc3 fun b hb => ⟨H2.out.2.2.2.2 b hb, id⟩
  have hb3 := H2.out.2.2.1.chg hc3 id
  have H3 := Lib.hid (And.intro hs3 (And.intro hb3 (H2.out.2.1.trans hc3)))
  clear hs3 hb3 hc3
  by_cases hk0 : k = 0
  · subst hk0
    go_wp2_with (refine wpList_storeB rfl 28 (.tmp 4) (.tmp 17) rfl w.heap.size _ rfl rfl H3.out.2.1 rfl (by kernel_rfl) (by simp [Value.oneCell']) ?_)
    intro w4 hb4 hc4 hz4
    have H4 := Lib.hid (And.intro hb4 hc4)
    clear hb4 hc4 hz4
    go_wp2_with fail
    refine bodyPost_ret (v := .tuple #[.agg #[.string { data := #[] }, .string { data := #[] }, .int .i64 0, .int .i64 0], .bool false]) (ret_cellB2 (p := 4) (q := 5) (ty := 28) rfl _ rfl H4.out.1 Try.underlying28 size_tab) rfl ⟨.inl ⟨rfl, rfl⟩, H3.out.2.2.then_ H4.out.2 (fun k hk e => by have : k = w.heap.size := e; omega)⟩
  · have hk1 : k - 1 < l.length := by omega
    have hkz : ((k : Int) == 0) = false := by rw [beq_eq_false_iff_ne]; omega
    have hks : (k : Int) - 1 = ((k - 1 : Nat) : Int) := by omega
    obtain ⟨b3, off3, rfl, _, _, d0, d1, d2, d3⟩ := tab_cells H3.out.1 hk1
    obtain ⟨y, hy⟩ : ∃ y, y = l[k - 1] := ⟨_, rfl⟩
    rw [← hy] at d0 d1 d2 d3
    obtain ⟨⟨lo, hi'⟩, gr, gn⟩ := y
    dsimp only at d0 d1 d2 d3
    have HY := Lib.hid (And.intro hy (And.intro (List.getElem?_eq_getElem hk1) hk0))
    have t1 : (0 : Int) ≤ ((k - 1 : Nat) : Int) := by omega
    have t2 : ((k - 1 : Nat) : Int) < (l.length : Int) := by omega
    clear hy hk0
    go_wp2_with (refine wpList_storeB rfl 28 (.tmp 4) (.tmp 22) rfl w.heap.size _ rfl rfl H3.out.2.1 rfl (by kernel_rfl) (by simp [Value.oneCell']) ?_)
    intro w4 hb4 hc4 hz4
    have H4 := Lib.hid (And.intro hb4 hc4)
    clear hb4 hc4 hz4
    go_wp2_with fail
    refine bodyPost_ret (v := .tuple #[.agg #[.string lo, .string hi', .int .i64 gr, .int .i64 gn], .bool true]) (ret_cellB2 (p := 4) (q := 5) (ty := 28) rfl _ rfl H4.out.1 Try.underlying28 size_tab) rfl ⟨.inr ⟨⟨⟨lo, hi'⟩, gr, gn⟩, by rw [HY.out.1]; exact HY.out.2.1, by have := HY.out.2.2; omega, rfl⟩, H3.out.2.2.then_ H4.out.2 (fun k hk e => by have : k = w.heap.size := e; omega)⟩
end Go.Proofs.Ytebdaoihajjgmaa
