/- Rows of tablets: what the library's functions on slices answer; spans, right, cover. -/
import Derived.Test.YtebdaoihajjgmaaTab
import Derived.Deep.QuietTactic
set_option linter.unusedVariables false
set_option linter.unusedSimpArgs false
namespace Go.Proofs.Ytebdaoihajjgmaa
open Go.RowKit

/-- The first that is so, from k on. -/
def idx {α : Type} (q : α → Bool) : List α → Nat → Int
  | [], _ => -1
  | x :: r, k => if q x then (k : Int) else idx q r (k + 1)
theorem idx_any {α : Type} (q : α → Bool) : ∀ (l : List α) (k : Nat), decide (0 ≤ idx q l k) = l.any q
  | [], _ => by simp [idx]
  | x :: r, k => by
    rw [idx, List.any_cons]
    split
    · rename_i h; simp [h]
    · rename_i h
      rw [idx_any q r (k + 1)]
      simp [h]
theorem idx_lt {α : Type} (q : α → Bool) : ∀ (l : List α) (k : Nat), idx q l k ≤ (k + l.length : Nat) ∧ -1 ≤ idx q l k
  | [], _ => by simp [idx]
  | x :: r, k => by
    rw [idx]
    split
    · simp; omega
    · have := idx_lt q r (k + 1)
      simp only [List.length_cons]
      omega
abbrev TabsAt (w : World) (K : Nat → Prop) (v : Value) (l : List Tab) : Prop := SlT tTab w K v l
theorem tab_cells {w : World} {K : Nat → Prop} {A : Option Addr} {n cap : Nat} {l : List Tab} (h : TabsAt w K (.slice A n cap) l) {k : Nat} (hk : k < l.length) :
    ∃ b off, A = some ⟨b, off, none⟩ ∧ K b ∧ (Fits .i64 l[k].group ∧ Fits .i64 l[k].gen ∧ l[k].span.lo.size ≤ maxLen ∧ l[k].span.hi.size ≤ maxLen) ∧
      w.cell? ⟨b, off + k * 4, none⟩ = some (.string l[k].span.lo) ∧ w.cell? ⟨b, off + k * 4 + 1, none⟩ = some (.string l[k].span.hi) ∧ w.cell? ⟨b, off + k * 4 + 2, none⟩ = some (.int .i64 l[k].group) ∧ w.cell? ⟨b, off + k * 4 + 3, none⟩ = some (.int .i64 l[k].gen) := by
  obtain ⟨b, off, cs, hA, hb, hr, hc⟩ := h.get hk
  obtain ⟨rfl, h1, h2, h3⟩ := hr
  exact ⟨b, off, hA, hb, ⟨h2, h3, h1.1, h1.2⟩, hc 0 _ rfl, hc 1 _ rfl, hc 2 _ rfl, hc 3 _ rfl⟩

set_option maxHeartbeats 800000 in
theorem IdxF_made1 (q : Tab → Bool) (K : Nat → Prop) (v : Value) (l : List Tab) (w : World) (h : TabsAt w K v l) (hK : ∀ b, K b → b < w.heap.size)
    (hp : ∀ W x, x ∈ l → Fits .i64 x.group → Fits .i64 x.gen → Chg Non w W → Calls Try.prog 50 #[x.v] W fun e W' => e = .returned (.bool (q x)) ∧ Chg Non W W') :
    Calls Try.prog 36 #[v, .func (.func 50) #[] #[]] w fun e w' => e = .returned (.int .i64 (idx q l 0)) ∧ Chg Non w w' := by
  obtain ⟨A, cap, rfl, h1, h2⟩ := h.shape
  have HP := Lib.hid hp
  clear hp
  go_enter Try.func36, Try.ntmps36
  go_wp2_with fail
  go_loopw [8] (fun i wr => ∃ k : Nat, k ≤ l.length ∧ i = .int .i64 k ∧ Chg Non w wr ∧ Hid (idx q l 0 = idx q (l.drop k) k)) (fun i _ => l.length - (intOf i).toNat)
  case atStart => exact ⟨0, Nat.zero_le _, rfl, Chg.refl _ _, Lib.hid rfl⟩
  case round =>
    obtain ⟨k, hk, rfl, hc, hidx⟩ := hrel
    by_cases hlt : k < l.length
    · have h' := h.chg hc fun b hb => ⟨hK b hb, id⟩
      obtain ⟨bb, off, rfl, _, ⟨f1, f2, _, _⟩, c0, c1, c2, c3⟩ := tab_cells h' hlt
      have hcall := HP.out wr l[k] (List.getElem_mem _) f1 f2 hc
      have hd : idx q (l.drop k) k = if q l[k] then (k : Int) else idx q (l.drop (k + 1)) (k + 1) := by rw [List.drop_eq_getElem_cons hlt, idx]
      have HD := Lib.hid hd
      clear hd h' f1 f2
      cases hq : q l[k]
      · rw [hq] at hcall
        have HC := Lib.hid hcall
        have HQ := Lib.hid hq
        clear hcall hq
        go_wp2_with (go_at_call 50; refine HC.out.mono ?_; rintro e w' ⟨rfl, hc'⟩)
        go_roundw
        case rel => exact ⟨k + 1, by omega, by go_num, hc.trans hc', Lib.hid (by rw [hidx.out, HD.out, HQ.out]; rfl)⟩
        case measure => simp [intOf]; omega
      · rw [hq] at hcall
        have HC := Lib.hid hcall
        have HQ := Lib.hid hq
        clear hcall hq
        go_wp2_with (go_at_call 50; refine HC.out.mono ?_; rintro e w' ⟨rfl, hc'⟩)
        go_ret
        exact ⟨ret_int (by rw [hidx.out, HD.out, HQ.out]; rfl), hc.trans hc'⟩
    · have : k = l.length := by omega
      go_wp2
      go_ret
      exact ⟨ret_int (by rw [hidx.out, this, List.drop_length]; rfl), hc⟩
theorem ConF_made1 (q : Tab → Bool) (K : Nat → Prop) (v : Value) (l : List Tab) (w : World) (h : TabsAt w K v l) (hK : ∀ b, K b → b < w.heap.size)
    (hp : ∀ W x, x ∈ l → Fits .i64 x.group → Fits .i64 x.gen → Chg Non w W → Calls Try.prog 50 #[x.v] W fun e W' => e = .returned (.bool (q x)) ∧ Chg Non W W') :
    Calls Try.prog 31 #[v, .func (.func 50) #[] #[]] w fun e w' => e = .returned (.bool (l.any q)) ∧ Chg Non w w' := by
  have hi := IdxF_made1 q K v l w h hK hp
  have HI := Lib.hid hi
  have ha := idx_any q l 0
  generalize idx q l 0 = i at HI ha
  generalize l.any q = b at ha ⊢
  clear hi
  go_enter Try.func31, Try.ntmps31
  go_wp2_with (go_at_call 36; refine HI.out.mono ?_; rintro e w' ⟨rfl, hc⟩)
  go_ret
  exact ⟨ret_bool (by first | exact ha | rfl), hc⟩

set_option maxHeartbeats 800000 in
theorem IdxF_Put1 (q : Tab → Bool) (K : Nat → Prop) (v : Value) (l : List Tab) (p : Addr) (w : World) (h : TabsAt w K v l) (hK : ∀ b, K b → b < w.heap.size)
    (hp : ∀ W x, x ∈ l → Fits .i64 x.group → Fits .i64 x.gen → Chg Non w W → Calls Try.prog 32 #[x.v, .pointer (some p)] W fun e W' => e = .returned (.bool (q x)) ∧ Chg Non W W') :
    Calls Try.prog 36 #[v, .func (.func 32) #[] #[.pointer (some p)]] w fun e w' => e = .returned (.int .i64 (idx q l 0)) ∧ Chg Non w w' := by
  obtain ⟨A, cap, rfl, h1, h2⟩ := h.shape
  have HP := Lib.hid hp
  clear hp
  go_enter Try.func36, Try.ntmps36
  go_wp2_with fail
  go_loopw [8] (fun i wr => ∃ k : Nat, k ≤ l.length ∧ i = .int .i64 k ∧ Chg Non w wr ∧ Hid (idx q l 0 = idx q (l.drop k) k)) (fun i _ => l.length - (intOf i).toNat)
  case atStart => exact ⟨0, Nat.zero_le _, rfl, Chg.refl _ _, Lib.hid rfl⟩
  case round =>
    obtain ⟨k, hk, rfl, hc, hidx⟩ := hrel
    by_cases hlt : k < l.length
    · have h' := h.chg hc fun b hb => ⟨hK b hb, id⟩
      obtain ⟨bb, off, rfl, _, ⟨f1, f2, _, _⟩, c0, c1, c2, c3⟩ := tab_cells h' hlt
      have hcall := HP.out wr l[k] (List.getElem_mem _) f1 f2 hc
      have hd : idx q (l.drop k) k = if q l[k] then (k : Int) else idx q (l.drop (k + 1)) (k + 1) := by rw [List.drop_eq_getElem_cons hlt, idx]
      have HD := Lib.hid hd
      clear hd h' f1 f2
      cases hq : q l[k]
      · rw [hq] at hcall
        have HC := Lib.hid hcall
        have HQ := Lib.hid hq
        clear hcall hq
        go_wp2_with (go_at_call 32; refine HC.out.mono ?_; rintro e w' ⟨rfl, hc'⟩)
        go_roundw
        case rel => exact ⟨k + 1, by omega, by go_num, hc.trans hc', Lib.hid (by rw [hidx.out, HD.out, HQ.out]; rfl)⟩
        case measure => simp [intOf]; omega
      · rw [hq] at hcall
        have HC := Lib.hid hcall
        have HQ := Lib.hid hq
        clear hcall hq
        go_wp2_with (go_at_call 32; refine HC.out.mono ?_; rintro e w' ⟨rfl, hc'⟩)
        go_ret
        exact ⟨ret_int (by rw [hidx.out, HD.out, HQ.out]; rfl), hc.trans hc'⟩
    · have : k = l.length := by omega
      go_wp2
      go_ret
      exact ⟨ret_int (by rw [hidx.out, this, List.drop_length]; rfl), hc⟩
theorem ConF_Put1 (q : Tab → Bool) (K : Nat → Prop) (v : Value) (l : List Tab) (p : Addr) (w : World) (h : TabsAt w K v l) (hK : ∀ b, K b → b < w.heap.size)
    (hp : ∀ W x, x ∈ l → Fits .i64 x.group → Fits .i64 x.gen → Chg Non w W → Calls Try.prog 32 #[x.v, .pointer (some p)] W fun e W' => e = .returned (.bool (q x)) ∧ Chg Non W W') :
    Calls Try.prog 31 #[v, .func (.func 32) #[] #[.pointer (some p)]] w fun e w' => e = .returned (.bool (l.any q)) ∧ Chg Non w w' := by
  have hi := IdxF_Put1 q K v l p w h hK hp
  have HI := Lib.hid hi
  have ha := idx_any q l 0
  generalize idx q l 0 = i at HI ha
  generalize l.any q = b at ha ⊢
  clear hi
  go_enter Try.func31, Try.ntmps31
  go_wp2_with (go_at_call 36; refine HI.out.mono ?_; rintro e w' ⟨rfl, hc⟩)
  go_ret
  exact ⟨ret_bool (by first | exact ha | rfl), hc⟩

set_option maxHeartbeats 800000 in
theorem IdxF_Find1 (q : Tab → Bool) (K : Nat → Prop) (v : Value) (l : List Tab) (p : Addr) (w : World) (h : TabsAt w K v l) (hK : ∀ b, K b → b < w.heap.size)
    (hp : ∀ W x, x ∈ l → Fits .i64 x.group → Fits .i64 x.gen → Chg Non w W → Calls Try.prog 37 #[x.v, .pointer (some p)] W fun e W' => e = .returned (.bool (q x)) ∧ Chg Non W W') :
    Calls Try.prog 36 #[v, .func (.func 37) #[] #[.pointer (some p)]] w fun e w' => e = .returned (.int .i64 (idx q l 0)) ∧ Chg Non w w' := by
  obtain ⟨A, cap, rfl, h1, h2⟩ := h.shape
  have HP := Lib.hid hp
  clear hp
  go_enter Try.func36, Try.ntmps36
  go_wp2_with fail
  go_loopw [8] (fun i wr => ∃ k : Nat, k ≤ l.length ∧ i = .int .i64 k ∧ Chg Non w wr ∧ Hid (idx q l 0 = idx q (l.drop k) k)) (fun i _ => l.length - (intOf i).toNat)
  case atStart => exact ⟨0, Nat.zero_le _, rfl, Chg.refl _ _, Lib.hid rfl⟩
  case round =>
    obtain ⟨k, hk, rfl, hc, hidx⟩ := hrel
    by_cases hlt : k < l.length
    · have h' := h.chg hc fun b hb => ⟨hK b hb, id⟩
      obtain ⟨bb, off, rfl, _, ⟨f1, f2, _, _⟩, c0, c1, c2, c3⟩ := tab_cells h' hlt
      have hcall := HP.out wr l[k] (List.getElem_mem _) f1 f2 hc
      have hd : idx q (l.drop k) k = if q l[k] then (k : Int) else idx q (l.drop (k + 1)) (k + 1) := by rw [List.drop_eq_getElem_cons hlt, idx]
      have HD := Lib.hid hd
      clear hd h' f1 f2
      cases hq : q l[k]
      · rw [hq] at hcall
        have HC := Lib.hid hcall
        have HQ := Lib.hid hq
        clear hcall hq
        go_wp2_with (go_at_call 37; refine HC.out.mono ?_; rintro e w' ⟨rfl, hc'⟩)
        go_roundw
        case rel => exact ⟨k + 1, by omega, by go_num, hc.trans hc', Lib.hid (by rw [hidx.out, HD.out, HQ.out]; rfl)⟩
        case measure => simp [intOf]; omega
      · rw [hq] at hcall
        have HC := Lib.hid hcall
        have HQ := Lib.hid hq
        clear hcall hq
        go_wp2_with (go_at_call 37; refine HC.out.mono ?_; rintro e w' ⟨rfl, hc'⟩)
        go_ret
        exact ⟨ret_int (by rw [hidx.out, HD.out, HQ.out]; rfl), hc.trans hc'⟩
    · have : k = l.length := by omega
      go_wp2
      go_ret
      exact ⟨ret_int (by rw [hidx.out, this, List.drop_length]; rfl), hc⟩
theorem ConF_Find1 (q : Tab → Bool) (K : Nat → Prop) (v : Value) (l : List Tab) (p : Addr) (w : World) (h : TabsAt w K v l) (hK : ∀ b, K b → b < w.heap.size)
    (hp : ∀ W x, x ∈ l → Fits .i64 x.group → Fits .i64 x.gen → Chg Non w W → Calls Try.prog 37 #[x.v, .pointer (some p)] W fun e W' => e = .returned (.bool (q x)) ∧ Chg Non W W') :
    Calls Try.prog 31 #[v, .func (.func 37) #[] #[.pointer (some p)]] w fun e w' => e = .returned (.bool (l.any q)) ∧ Chg Non w w' := by
  have hi := IdxF_Find1 q K v l p w h hK hp
  have HI := Lib.hid hi
  have ha := idx_any q l 0
  generalize idx q l 0 = i at HI ha
  generalize l.any q = b at ha ⊢
  clear hi
  go_enter Try.func31, Try.ntmps31
  go_wp2_with (go_at_call 36; refine HI.out.mono ?_; rintro e w' ⟨rfl, hc⟩)
  go_ret
  exact ⟨ret_bool (by first | exact ha | rfl), hc⟩

theorem info_span : (Try.prog.info? 26).map (fun i => (i.zero, i.size, i.bytes)) = some (some (.agg #[.string { data := #[] }, .string { data := #[] }]), 2, 32) := by kernel_rfl
theorem info_tab : (Try.prog.info? 28).map (fun i => (i.zero, i.size, i.bytes)) = some (some (.agg #[.string { data := #[] }, .string { data := #[] }, .int .i64 0, .int .i64 0]), 4, 48) := by kernel_rfl

set_option maxHeartbeats 1600000 in
theorem lspans_any (K : Nat → Prop) (v : Value) (l : List Tab) (w : World) (h : TabsAt w K v l) (hK : ∀ b, K b → b < w.heap.size) (hn : l.length ≤ 1048576) :
    Calls Try.prog 10 #[v] w fun e w' => ∃ v', e = .returned v' ∧ SlT tSpan w' (In w.heap.size w'.heap.size) v' (l.map (·.span)) ∧ Chg Non w w' := by
  obtain ⟨A, cap, rfl, h1, h2⟩ := h.shape
  go_enter Try.func10, Try.ntmps10
  go_wp2_with fail
  go_loopw [3, 4] (fun lv i wr => ∃ k : Nat, k ≤ l.length ∧ i = .int .i64 k ∧ Chg Non w wr ∧ Own wr w.heap.size 26 tSpan Non lv ((l.take k).map (·.span))) (fun _ i _ => l.length - (intOf i).toNat)
  case atStart => exact ⟨0, Nat.zero_le _, rfl, Chg.refl _ _, Own.nil_⟩
  case round =>
    obtain ⟨k, hk, rfl, hc, own⟩ := hrel
    by_cases hlt : k < l.length
    · have h' := h.chg hc fun b hb => ⟨hK b hb, id⟩
      obtain ⟨bb, off, rfl, _, ⟨_, _, g1, g2⟩, c0, c1, c2, c3⟩ := tab_cells h' hlt
      have ht : (l.take (k + 1)).map (·.span) = (l.take k).map (·.span) ++ [l[k].span] := by rw [List.take_succ_eq_append_getElem hlt, List.map_append]; rfl
      obtain ⟨lk, hlk⟩ : ∃ lk, lk = (l.take k).map (·.span) := ⟨_, rfl⟩
      rw [← hlk] at own ht
      have hln : lk.length = k := by rw [hlk]; simp; omega
      obtain ⟨Al, cl, rfl, _, _⟩ := own.shape
      obtain ⟨s, hs⟩ : ∃ s, s = l[k].span := ⟨_, rfl⟩
      rw [← hs] at ht c0 c1 g1 g2
      have HT := Lib.hid ht
      have HN := Lib.hid hln
      have hn2 : lk.length ≤ 1048576 := by omega
      have own1 := own.chg ((Chg.refl Non wr).alloc (.cells #[.string s.lo, .string s.hi] 26)) (fun _ _ h => h) (fun _ h => h.elim)
      have b1 : Blk (wr.alloc (.cells #[.string s.lo, .string s.hi] 26)) wr.heap.size 26 #[.string s.lo, .string s.hi] := Blk.new _ _ _
      have hrw : ∀ b, Row (.slice Al lk.length cl) b → w.heap.size ≤ b := fun b hb => (own.lt hb).1
      have hz : (wr.alloc (.cells #[.string s.lo, .string s.hi] 26)).heap.size = wr.heap.size + 1 := by simp
      have HO := Lib.hid (And.intro own1 (And.intro b1 (And.intro hrw (And.intro hc hz))))
      have hsz := hc.size
      clear hlk ht hln own own1 b1 hrw hc hz hs h' c2 c3
      go_wp2_with (at_builtin; refine wpList_push tSpan Non rfl (.tmp 11) (.tmp 17) 35 rfl w.heap.size 26 _ 32 Try.underlying35 info_span rfl (by decide) (by decide) _ lk s [_, _] wr.heap.size (0, 0) rfl rfl HO.out.1 HO.out.2.1 ⟨rfl, g1, g2⟩ (fun _ h => h.elim) (by omega) (by rw [HO.out.2.2.2.2]; omega) ?_)
      intro A6 c6 w6 own6 hc6 hat
      have hc7 : Chg Non w w6 := (HO.out.2.2.2.1.alloc _).then_ hc6 (fun b hb h => by have := HO.out.2.2.1 b h; omega)
      have H7 := Lib.hid (And.intro own6 hc7)
      clear own6 hc6 hat hc7
      go_wp2_with fail
      go_roundw
      case rel => exact ⟨k + 1, by omega, by go_num, H7.out.2, by rw [HT.out]; exact H7.out.1⟩
      case measure => simp [intOf]; omega
    · have hk' : k = l.length := by omega
      subst hk'
      rw [List.take_length] at own
      obtain ⟨Al, cl, rfl, _, _⟩ := own.shape
      go_wp2_with fail
      go_ret
      exact ⟨_, rfl, own.toSl (fun _ h => h.elim) (fun b hb => own.lt hb), hc⟩

set_option maxHeartbeats 1600000 in
theorem tspans_any (K : Nat → Prop) (v : Value) (l : List Tab) (w : World) (h : TabsAt w K v l) (hK : ∀ b, K b → b < w.heap.size) (hn : l.length ≤ 1048576) :
    Calls Try.prog 53 #[v] w fun e w' => ∃ v', e = .returned v' ∧ SlT tSpan w' (In w.heap.size w'.heap.size) v' (l.map (·.span)) ∧ Chg Non w w' := by
  obtain ⟨A, cap, rfl, h1, h2⟩ := h.shape
  go_enter Try.func53, Try.ntmps53
  go_wp2_with fail
  go_loopw [3, 8] (fun lv i wr => ∃ k : Nat, k ≤ l.length ∧ i = .int .i64 k ∧ Chg Non w wr ∧ Own wr w.heap.size 26 tSpan Non lv ((l.take k).map (·.span))) (fun _ i _ => l.length - (intOf i).toNat)
  case atStart => exact ⟨0, Nat.zero_le _, rfl, Chg.refl _ _, Own.nil_⟩
  case round =>
    obtain ⟨k, hk, rfl, hc, own⟩ := hrel
    by_cases hlt : k < l.length
    · have h' := h.chg hc fun b hb => ⟨hK b hb, id⟩
      obtain ⟨bb, off, rfl, _, ⟨_, _, g1, g2⟩, c0, c1, c2, c3⟩ := tab_cells h' hlt
      have ht : (l.take (k + 1)).map (·.span) = (l.take k).map (·.span) ++ [l[k].span] := by rw [List.take_succ_eq_append_getElem hlt, List.map_append]; rfl
      obtain ⟨lk, hlk⟩ : ∃ lk, lk = (l.take k).map (·.span) := ⟨_, rfl⟩
      rw [← hlk] at own ht
      have hln : lk.length = k := by rw [hlk]; simp; omega
      obtain ⟨Al, cl, rfl, _, _⟩ := own.shape
      obtain ⟨x, hx⟩ : ∃ x, x = l[k] := ⟨_, rfl⟩
      rw [← hx] at ht c0 c1 c2 c3 g1 g2
      obtain ⟨s, gr, gn⟩ := x
      dsimp only at ht c0 c1 c2 c3 g1 g2
      have HT := Lib.hid ht
      have HN := Lib.hid hln
      have hn2 : lk.length ≤ 1048576 := by omega
      have hcc := ((Chg.refl Non wr).alloc (.cells #[.string s.lo, .string s.hi, .int .i64 gr, .int .i64 gn] 28)).alloc (.cells #[.string s.lo, .string s.hi] 26)
      have own1 := own.chg hcc (fun _ _ h => h) (fun _ h => h.elim)
      have b1 : Blk ((wr.alloc (.cells #[.string s.lo, .string s.hi, .int .i64 gr, .int .i64 gn] 28)).alloc (.cells #[.string s.lo, .string s.hi] 26)) (wr.heap.size + 1) 26 #[.string s.lo, .string s.hi] := Blk.newAt (by simp) _ _
      have hrw : ∀ b, Row (.slice Al lk.length cl) b → w.heap.size ≤ b := fun b hb => (own.lt hb).1
      have hz : ((wr.alloc (.cells #[.string s.lo, .string s.hi, .int .i64 gr, .int .i64 gn] 28)).alloc (.cells #[.string s.lo, .string s.hi] 26)).heap.size = wr.heap.size + 2 := by simp
      have HO := Lib.hid (And.intro own1 (And.intro b1 (And.intro hrw (And.intro (hc.trans hcc) hz))))
      have hsz := hc.size
      clear hlk ht hln own own1 b1 hrw hc hz hx h' hcc
      go_wp2_with (at_builtin; refine wpList_push tSpan Non rfl (.tmp 12) (.tmp 15) 35 rfl w.heap.size 26 _ 32 Try.underlying35 info_span rfl (by decide) (by decide) _ lk s [_, _] (wr.heap.size + 1) (0, 0) rfl rfl HO.out.1 HO.out.2.1 ⟨rfl, g1, g2⟩ (fun _ h => h.elim) (by omega) (by rw [HO.out.2.2.2.2]; omega) ?_)
      intro A6 c6 w6 own6 hc6 hat
      have hc7 : Chg Non w w6 := HO.out.2.2.2.1.then_ hc6 (fun b hb h => by have := HO.out.2.2.1 b h; omega)
      have H7 := Lib.hid (And.intro own6 hc7)
      clear own6 hc6 hat hc7
      go_wp2_with fail
      go_roundw
      case rel => exact ⟨k + 1, by omega, by go_num, H7.out.2, by rw [HT.out]; exact H7.out.1⟩
      case measure => simp [intOf]; omega
    · have hk' : k = l.length := by omega
      subst hk'
      rw [List.take_length] at own
      obtain ⟨Al, cl, rfl, _, _⟩ := own.shape
      go_wp2_with fail
      go_ret
      exact ⟨_, rfl, own.toSl (fun _ h => h.elim) (fun b hb => own.lt hb), hc⟩

set_option maxHeartbeats 1600000 in
theorem lright_any (K : Nat → Prop) (v : Value) (l : List Tab) (w : World) (h : TabsAt w K v l) (hK : ∀ b, K b → b < w.heap.size) :
    Calls Try.prog 11 #[v] w fun e w' => e = .returned (.bool (l.all pNum)) ∧ Chg Non w w' := by
  obtain ⟨A, cap, rfl, h1, h2⟩ := h.shape
  go_enter Try.func11, Try.ntmps11
  go_wp2_with fail
  go_loopw [3] (fun i wr => ∃ k : Nat, k ≤ l.length ∧ i = .int .i64 k ∧ Chg Non w wr ∧ Hid (l.all pNum = (l.drop k).all pNum)) (fun i _ => l.length - (intOf i).toNat)
  case atStart => exact ⟨0, Nat.zero_le _, rfl, Chg.refl _ _, Lib.hid rfl⟩
  case round =>
    obtain ⟨k, hk, rfl, hc, hall⟩ := hrel
    by_cases hlt : k < l.length
    · have h' := h.chg hc fun b hb => ⟨hK b hb, id⟩
      obtain ⟨bb, off, rfl, _, ⟨f1, f2, _, _⟩, c0, c1, c2, c3⟩ := tab_cells h' hlt
      have ht : (l.drop k).all pNum = (pNum l[k] && (l.drop (k + 1)).all pNum) := by rw [List.drop_eq_getElem_cons hlt, List.all_cons]
      have hp : pNum l[k] = (decide (0 ≤ l[k].group) && decide (l[k].group ≤ 255) && decide (1 ≤ l[k].gen) && decide (l[k].gen ≤ 1073741824)) := rfl
      have b1 := f1.i64
      have b2 := f2.i64
      generalize l[k] = x at *
      obtain ⟨s, gr, gn⟩ := x
      dsimp only at hp c0 c1 c2 c3 b1 b2
      have HT := Lib.hid (And.intro ht hp)
      clear ht hp h' f1 f2
      have hq : (0 ≤ gr ∧ gr ≤ 255 ∧ 1 ≤ gn ∧ gn ≤ 1073741824) ∨ gr < 0 ∨ (¬ gr < 0 ∧ 255 < gr) ∨ (¬ gr < 0 ∧ ¬ 255 < gr ∧ gn < 1) ∨ (¬ gr < 0 ∧ ¬ 255 < gr ∧ ¬ gn < 1 ∧ 1073741824 < gn) := by omega
      rcases hq with ⟨q1, q2, q3, q4⟩ | q1 | ⟨q1, q2⟩ | ⟨q1, q2, q3⟩ | ⟨q1, q2, q3, q4⟩
      · go_wp2_with fail
        go_roundw
        case rel => exact ⟨k + 1, by omega, by go_num, hc, Lib.hid (by rw [hall.out, HT.out.1, HT.out.2]; simp [q1, q2, q3, q4])⟩
        case measure => simp [intOf]; omega
      all_goals
        go_wp2_with fail
        go_ret
        refine ⟨ret_bool ?_, hc⟩
        rw [hall.out, HT.out.1, HT.out.2]
        simp
        omega
    · have hk' : k = l.length := by omega
      subst hk'
      go_wp2_with fail
      go_ret
      exact ⟨ret_bool (by rw [hall.out, List.drop_length]; rfl), hc⟩

end Go.Proofs.Ytebdaoihajjgmaa
