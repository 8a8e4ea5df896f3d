/- Within, Row: names. -/
import Derived.Test.YtebdaoihajjgmaaTel
set_option linter.unusedVariables false
set_option linter.unusedSimpArgs false
namespace Go.Proofs.Ytebdaoihajjgmaa
open Go.RowKit

def within (n lo hi : Int) : Int := if lo ≤ n ∧ n ≤ hi then n else lo + (if n.tmod (hi - lo + 1) < 0 then n.tmod (hi - lo + 1) + (hi - lo + 1) else n.tmod (hi - lo + 1))
theorem tmod_bounds (n m : Int) (hm : 0 < m) : -m < n.tmod m ∧ n.tmod m < m := by
  refine ⟨?_, Int.tmod_lt_of_pos n hm⟩
  rcases Int.lt_or_le n 0 with h | h
  · have h1 := Int.tmod_lt_of_pos (-n) hm
    rw [Int.neg_tmod] at h1
    omega
  · have := Int.tmod_nonneg m h
    omega
theorem within_range (n lo hi : Int) (h : lo ≤ hi) : lo ≤ within n lo hi ∧ within n lo hi ≤ hi := by
  obtain ⟨h1, h2⟩ := tmod_bounds n (hi - lo + 1) (by omega)
  unfold within
  split
  · omega
  · split <;> omega

theorem Within_any (n lo hi : Int) (w : World) (hn : Fits .i64 n) (h1 : lo ≤ hi) (h2 : -1073741824 ≤ lo) (h3 : hi ≤ 1073741824) :
    Calls Try.prog 34 #[.int .i64 n, .int .i64 lo, .int .i64 hi] w fun e w' => e = .returned (.int .i64 (within n lo hi)) ∧ w' = w := by
  have hb := hn.i64
  obtain ⟨m2, m1⟩ := tmod_bounds n (hi - lo + 1) (by omega)
  clear hn
  go_enter Try.func34, Try.ntmps34
  go_wp2
  all_goals
    go_ret
    refine ⟨ret_int ?_, rfl⟩
    unfold within
    first
      | rw [if_pos ⟨by omega, by omega⟩]
      | (rw [if_neg (by omega), if_pos (by omega)]; omega)
      | rw [if_neg (by omega), if_neg (by omega)]

/-- Names: what Row answers. -/
def rowNames : List ByteArray := [⟨#[97]⟩, ⟨#[98]⟩, ⟨#[109]⟩, ⟨#[110]⟩, ⟨#[122]⟩, ⟨#[109, 97]⟩, ⟨#[122, 122]⟩, ⟨#[48]⟩]
theorem pick_any (n : Int) (g : Nat) (w : World) (hn : Fits .i64 n) (hb : Blk w g 9 (rowNames.map Value.string).toArray) :
    Calls Try.prog 25 #[.slice (some ⟨g, 0, none⟩) 8 8, .int .i64 n] w fun e w' => ∃ s : ByteArray, e = .returned (.string s) ∧ s.size ≤ 16 ∧ Chg Non w w' := by
  have hr := within_range n 0 1048576 (by decide)
  have hc := fun W => Within_any n 0 1048576 W hn (by decide) (by decide) (by decide)
  generalize within n 0 1048576 = v at *
  obtain ⟨k, rfl⟩ := Int.eq_ofNat_of_zero_le hr.1
  have hcell := hb.cell (k % 8)
  have hlt : k % 8 < rowNames.length := by simp [rowNames]; omega
  rw [List.getElem?_toArray, List.getElem?_map, List.getElem?_eq_getElem hlt, Option.map_some] at hcell
  have hsz : rowNames[k % 8].size ≤ 16 := by
    have : ∀ s ∈ rowNames, s.size ≤ 16 := by decide
    exact this _ (List.getElem_mem _)
  generalize rowNames[k % 8] = s at *
  have HC := Lib.hid (And.intro hc hsz)
  have hk8 : (k : Int) % 8 < 8 := by omega
  have hk0 : (0 : Int) ≤ (k : Int) % 8 := by omega
  clear hc hb hsz hlt
  go_enter Try.func25, Try.ntmps25
  go_wp2_with (go_at_call 34; refine (HC.out.1 _).mono ?_; rintro e w' ⟨rfl, rfl⟩)
  go_ret
  exact ⟨s, rfl, HC.out.2, Chg.refl _ _⟩
theorem Row_any (n : Int) (w : World) (hn : Fits .i64 n) : Calls Try.prog 7 #[.int .i64 n] w fun e w' => ∃ s : ByteArray, e = .returned (.string s) ∧ s.size ≤ 16 ∧ Chg Non w w' := by
  have hb : Blk (w.alloc (.cells (rowNames.map Value.string).toArray 9)) w.heap.size 9 (rowNames.map Value.string).toArray := Blk.new _ _ _
  have HB := Lib.hid (And.intro (pick_any n w.heap.size _ hn hb) ((Chg.refl Non w).alloc (.cells (rowNames.map Value.string).toArray 9)))
  clear hb
  simp only [rowNames, List.map_cons, List.map_nil] at HB
  go_enter Try.func7, Try.ntmps7
  go_wp2_with fail
  refine HB.out.1.mono ?_
  rintro e w1 ⟨s, rfl, hs, hc⟩
  have H := Lib.hid (And.intro hs (HB.out.2.trans hc))
  clear hs hc
  go_wp2_with fail
  go_ret
  exact ⟨s, rfl, H.out.1, H.out.2⟩

/-! ### Tablets in a block -/
def tabCells (x : Tab) : List Value := [.string x.span.lo, .string x.span.hi, .int .i64 x.group, .int .i64 x.gen]
def TabOk (x : Tab) : Prop := (x.span.lo.size ≤ maxLen ∧ x.span.hi.size ≤ maxLen) ∧ Fits .i64 x.group ∧ Fits .i64 x.gen
theorem reps_tabs {w : World} {K : Nat → Prop} : ∀ (l : List Tab), (∀ x ∈ l, TabOk x) → Reps tTab w K (l.flatMap tabCells) l
  | [], _ => rfl
  | x :: l, h => ⟨tabCells x, l.flatMap tabCells, rfl, ⟨rfl, h x (by simp)⟩, reps_tabs l fun y hy => h y (by simp [hy])⟩
theorem TabsAt.of_blk {w : World} {g : Nat} {l : List Tab} {cs : Array Value} (hb : Blk w g 28 cs) (hcs : cs.toList = l.flatMap tabCells) (h : ∀ x ∈ l, TabOk x) (hn : l.length ≤ maxLen) : TabsAt w (Is g) (.slice (some ⟨g, 0, none⟩) l.length l.length) l :=
  ⟨l.flatMap tabCells, ⟨(reps_tabs (w := w) (K := Is g) l h).len, _, l.length, rfl, Nat.le_refl _, hn, fun h => (nomatch h), fun _ => ⟨g, 0, rfl, rfl, fun j u hu => by
    rw [Nat.zero_add, hb.cell, ← Array.getElem?_toList, hcs]; exact hu⟩⟩, reps_tabs l h⟩

/-! ### A table of tablets that cover all: its methods -/
section
variable {K : Nat → Prop} {g : Nat} {l : List Tab} {n : ByteArray} {w : World} (hT : Tbl w K g (chunk l)) (h64 : l.length ≤ 64)
include hT h64
theorem All_at : Calls Try.prog 14 #[.pointer (some ⟨g, 0, none⟩)] w fun e w' => ∃ v', e = .returned v' ∧ TabsAt w' (In w.heap.size w'.heap.size) v' l ∧ Chg Non w w' := by
  have := All_any K g (chunk l) w hT (by rw [chunk_flat]; omega)
  rwa [chunk_flat] at this
theorem Len_at : Calls Try.prog 23 #[.pointer (some ⟨g, 0, none⟩)] w fun e w' => e = .returned (.int .i64 l.length) ∧ Chg Non w w' := by
  have := Len_any K g (chunk l) w hT (by rw [chunk_flat]; omega)
  rwa [chunk_flat] at this
theorem Find_at {k : Nat} (hat : At l n k) : Calls Try.prog 17 #[.pointer (some ⟨g, 0, none⟩), .string n] w fun e w' => e = .returned (l[k]'hat.lt).v ∧ Chg Non w w' := by
  have hcl := chunk_length l
  have := Find_any K g (chunk l) n w hT (by omega) (fun p hp => (chunk_len l p hp).1) (fun p hp => by have := (chunk_len l p hp).2; omega) (k / 4) (k % 4) hat.mlt hat.jlt hat.mtab hat.jidx
  rwa [hat.got] at this
theorem Before_at {k : Nat} (hat : At l n k) : Calls Try.prog 18 #[.pointer (some ⟨g, 0, none⟩), .string n] w fun e w' => BefAns l k e ∧ Chg Non w w' := by
  have hcl := chunk_length l
  have hlt := hat.lt
  have := Before_any K g (chunk l) n w hT (by omega) (fun p hp => (chunk_len l p hp).1) (fun p hp => by have := (chunk_len l p hp).2; omega) (by rw [chunk_flat]; omega) (k / 4) (k % 4) hat.mlt hat.jlt hat.mtab hat.jidx k (by rw [hat.got, chunk_flat]; exact hat.idx) (by rw [chunk_flat]; omega)
  rwa [chunk_flat] at this
theorem Metas_at : Calls Try.prog 19 #[.pointer (some ⟨g, 0, none⟩)] w fun e w' => ∃ v', e = .returned v' ∧ SlT (tSl tTab) w' (In w.heap.size w'.heap.size) v' (chunk l) ∧ Chg Non w w' := by
  have hcl := chunk_length l
  exact Metas_any K g (chunk l) w hT (by omega) (fun p hp => by have := (chunk_len l p hp).2; omega)
theorem Meta_at {k : Nat} (hat : At l n k) : Calls Try.prog 20 #[.pointer (some ⟨g, 0, none⟩), .string n] w fun e w' => e = .returned (.int .i64 (k / 4 : Nat)) ∧ Chg Non w w' := by
  have hcl := chunk_length l
  have := Meta_any K g (chunk l) n w hT (by omega) (fun p hp => (chunk_len l p hp).1)
  rwa [hat.mtab] at this
end

/-! ### Chapter 11's run -/
theorem bsize (a : Array UInt8) : ByteArray.size ⟨a⟩ = a.size := rfl
def tab1 : Tab := ⟨⟨⟨#[]⟩, ⟨#[]⟩⟩, 1, 1⟩
def tabX : Tab := ⟨⟨⟨#[]⟩, ⟨#[109]⟩⟩, 1, 2⟩
def tabY : Tab := ⟨⟨⟨#[109]⟩, ⟨#[]⟩⟩, 2, 3⟩
theorem knw1 : mCode [tab1] = 0 := by simp [mCode, tab1, pNum, sCover, chain, pRight, sE, sLt, ByteArray.toList_eq, bsize]
theorem knw2 : mCode [] = 1 := by simp [mCode, sCover]
theorem knw3 : putList [tab1] [tabX, tabY] = [tabX, tabY] := by simp [putList, isHead, isTail, meets, sMeetB, sMax, tab1, tabX, tabY, pHas, pRight, sE, sLt, ByteArray.toList_eq, bsize, Op.bytesLess]
theorem knw4 : mCode [tabX, tabY] = 0 := by simp [mCode, tabX, tabY, pNum, sCover, chain, pRight, sE, sLt, ByteArray.toList_eq, bsize, Op.bytesLess]
theorem knw5 : putCode [tab1] [tabX, tabY] = 0 := by
  unfold putCode
  rw [knw3, knw4]
  simp [links, tabX, tabY, sE, ByteArray.toList_eq]
theorem mCode_cov {l : List Tab} (h : mCode l = 0) : Cov l ∧ l.all pNum = true ∧ l.length ≤ 16 := by
  unfold mCode at h
  split at h
  · cases h
  · rename_i h1
    split at h
    · cases h
    · rename_i h2
      simp only [Bool.or_eq_true, Bool.not_eq_true', not_or, Bool.not_eq_false] at h1
      refine ⟨(sCover_iff l).1 h1.2, ?_, by omega⟩
      simpa using h1.1
theorem tabOk1 : ∀ x ∈ [tab1], TabOk x := by
  intro x hx
  simp at hx; subst hx
  exact ⟨⟨by simp [tab1, bsize, maxLen], by simp [tab1, bsize, maxLen]⟩, fits_i64 (by decide), fits_i64 (by decide)⟩
theorem tabOk2 : ∀ x ∈ [tabX, tabY], TabOk x := by
  intro x hx
  simp at hx
  rcases hx with rfl | rfl
  · exact ⟨⟨by simp [tabX, bsize, maxLen], by simp [tabX, bsize, maxLen]⟩, fits_i64 (by decide), fits_i64 (by decide)⟩
  · exact ⟨⟨by simp [tabY, bsize, maxLen], by simp [tabY, bsize, maxLen]⟩, fits_i64 (by decide), fits_i64 (by decide)⟩

theorem madeYes {l : List Tab} {w w' : World} {e : Ending} (h : MadePost l w e w') (hm : mCode l = 0) : Chg Non w w' ∧ ∃ g, w.heap.size ≤ g ∧ e = .returned (.tuple #[.pointer (some ⟨g, 0, none⟩), .int .i64 0]) ∧ Tbl w' (In (g + 1) w'.heap.size) g (chunk l) := by
  obtain ⟨hc, ⟨h1, _⟩ | ⟨_, h2⟩⟩ := h
  · exact absurd hm h1
  · exact ⟨hc, h2⟩
theorem madeNo {l : List Tab} {w w' : World} {e : Ending} (h : MadePost l w e w') (hm : mCode l ≠ 0) : Chg Non w w' ∧ e = .returned (.tuple #[.pointer none, .int .i64 (mCode l)]) := by
  obtain ⟨hc, ⟨_, h1⟩ | ⟨h2, _⟩⟩ := h
  · exact ⟨hc, h1⟩
  · exact absurd h2 hm
set_option maxRecDepth 100000 in
set_option maxHeartbeats 3200000 in
theorem known_yes (w : World) : Calls Try.prog 13 #[] w fun e w' => e = .returned (.bool true) ∧ Chg Non w w' := by
  obtain ⟨w1, hw1⟩ : ∃ w1, w1 = w.alloc (.cells #[.string ⟨#[]⟩, .string ⟨#[]⟩, .int .i64 1, .int .i64 1] 28) := ⟨_, rfl⟩
  have hb1 : Blk w1 w.heap.size 28 #[.string ⟨#[]⟩, .string ⟨#[]⟩, .int .i64 1, .int .i64 1] := by rw [hw1]; exact Blk.new _ _ _
  have hc1 : Chg Non w w1 := by rw [hw1]; exact (Chg.refl Non w).alloc _
  have ht1 : TabsAt w1 (Is w.heap.size) (.slice (some ⟨w.heap.size, 0, none⟩) 1 1) [tab1] := TabsAt.of_blk hb1 rfl tabOk1 (by simp [maxLen])
  have hn1 := New_t_any _ _ [tab1] w1 ht1 (fun b hb => by rw [show b = w.heap.size from hb]; exact hb1.lt) (by simp)
  have H1 := Lib.hid (And.intro hw1 (And.intro hc1 hn1))
  clear hw1 hb1 hc1 ht1 hn1
  go_enter Try.func13, Try.ntmps13
  go_wp2_with fail
  rw [← H1.out.1]
  refine H1.out.2.2.mono ?_
  rintro e w2 hpost
  obtain ⟨hc2, g, hg, rfl, hT⟩ := madeYes hpost knw1
  clear hpost
  have hn2 := New_t_any Non (.slice none 0 0) [] w2 SlT.nil_ (fun _ h => h.elim) (by simp)
  have H2 := Lib.hid (And.intro (H1.out.2.1.trans hc2) (And.intro hT (And.intro hn2 (Nat.le_trans H1.out.2.1.size hg))))
  clear hc2 hg hT hn2
  go_wp2_with fail
  refine H2.out.2.2.1.mono ?_
  rintro e w3 hpost
  obtain ⟨hc3, rfl⟩ := madeNo hpost (by rw [knw2]; decide)
  clear hpost
  rw [knw2]
  obtain ⟨w4, hw4⟩ : ∃ w4, w4 = w3.alloc (.cells #[.string ⟨#[]⟩, .string ⟨#[109]⟩, .int .i64 1, .int .i64 2, .string ⟨#[109]⟩, .string ⟨#[]⟩, .int .i64 2, .int .i64 3] 28) := ⟨_, rfl⟩
  have hb4 : Blk w4 w3.heap.size 28 #[.string ⟨#[]⟩, .string ⟨#[109]⟩, .int .i64 1, .int .i64 2, .string ⟨#[109]⟩, .string ⟨#[]⟩, .int .i64 2, .int .i64 3] := by rw [hw4]; exact Blk.new _ _ _
  have hc4 : Chg Non w3 w4 := by rw [hw4]; exact (Chg.refl Non w3).alloc _
  have ht4 : TabsAt w4 (Is w3.heap.size) (.slice (some ⟨w3.heap.size, 0, none⟩) 2 2) [tabX, tabY] := TabsAt.of_blk hb4 rfl tabOk2 (by simp [maxLen])
  have hT4 := H2.out.2.1.grow (hc3.trans hc4)
  have hg4 := H2.out.2.2.2
  have hp := Put_any _ _ g _ _ [tabX, tabY] w4 hT4 ht4 (fun b hb => by rw [show b = w3.heap.size from hb]; exact hb4.lt) (by rw [chunk_flat]; simp) (by simp)
  have H4 := Lib.hid (And.intro hw4 (And.intro hp (And.intro ((H2.out.1.trans hc3).trans hc4) hg4)))
  clear hw4 hb4 hc4 ht4 hT4 hp hc3 hg4
  go_wp2_with fail
  rw [← H4.out.1]
  refine H4.out.2.1.mono ?_
  rintro e w5 ⟨he, hc5, K', hT5⟩
  rw [chunk_flat, knw5] at he
  rw [chunk_flat, knw5, knw3, if_pos rfl] at hT5
  subst he
  have hcov := (mCode_cov knw4).1
  obtain ⟨k, hat⟩ := hcov.at_ ⟨#[122]⟩
  have hk : k = 1 := by
    have h1 := hat.has 1 (by decide)
    have h2 : pHas ([tabX, tabY][1]).span ⟨#[122]⟩ = true := by simp [pHas, tabY, sE, sLt, ByteArray.toList_eq, Op.bytesLess]
    rw [h2] at h1
    simp at h1
    omega
  subst hk
  have hlen := Len_at hT5 (by decide)
  have hfind := fun W (hc : Chg Non w5 W) => Find_at (hT5.grow hc) (by decide) hat
  have H5 := Lib.hid (And.intro hlen (And.intro hfind (H4.out.2.2.1.then_ hc5 (fun b hb h => by have : b = g := h; have := H4.out.2.2.2; omega))))
  clear hlen hfind hc5 hT5 hcov
  go_wp2_with fail
  refine H5.out.1.mono ?_
  rintro e w6 ⟨rfl, hc6⟩
  have H6 := Lib.hid hc6
  clear hc6
  go_wp2_with fail
  refine (H5.out.2.1 w6 H6.out).mono ?_
  rintro e w7 ⟨rfl, hc7⟩
  have H7 := Lib.hid ((H5.out.2.2.trans H6.out).trans hc7)
  clear hc7
  have hv : ([tabX, tabY][1]'hat.lt).v = .agg #[.string ⟨#[109]⟩, .string ⟨#[]⟩, .int .i64 2, .int .i64 3] := rfl
  rw [hv]
  clear hv
  have hfld : ∀ W, (Instr.field 28 (.agg #[.string ⟨#[109]⟩, .string ⟨#[]⟩, .int .i64 2, .int .i64 3]) 1).run Try.prog W = .ok (.int .i64 2) W := fun _ => by kernel_rfl
  go_wp2_with fail
  go_ret
  exact ⟨rfl, H7.out⟩
end Go.Proofs.Ytebdaoihajjgmaa
