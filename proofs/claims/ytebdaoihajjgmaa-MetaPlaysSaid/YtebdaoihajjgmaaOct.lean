/- Contracts of package octet: what the writer's and the reader's calls do. -/
import Derived.Test.YtebdaoihajjgmaaRows
import Derived.Test.YtebdaoihajjgmaaBase
import Derived.Deep.LoopGhost
import Derived.BigQuiet
import Derived.Deep.RegionLaw
import Derived.Deep.DrawnRows
set_option linter.unusedVariables false
set_option linter.unusedSimpArgs false
namespace Go.Proofs.Ytebdaoihajjgmaa
open Go.RowKit

theorem info_u8 : (Try.prog.info? 5).map (fun i => (i.zero, i.size, i.bytes)) = some (some (.int .u8 0), 1, 1) := by kernel_rfl
theorem size_u8 : (Try.prog.info? 5).map (·.size) = some 1 := by kernel_rfl

/-- A new place: a block that was not there. -/
def Fresh (w w' : World) : Nat → Prop := In w.heap.size w'.heap.size

/-! ### slices.Clone of bytes -/
set_option maxHeartbeats 800000 in
theorem CloneB_own (K : Nat → Prop) (v : Value) (l : List Int) (w : World) (h : SlT tB w K v l) (hK : ∀ b, K b → b < w.heap.size) (hl : l.length ≤ 140737488355328) :
    Calls Try.prog 63 #[v] w fun e w' => ∃ v', e = .returned v' ∧ Own w' w.heap.size 5 tB Non v' l ∧ Chg Non w w' := by
  obtain ⟨A, cap, rfl, h1, h2, h0⟩ := h.shape0
  rcases A with _ | ad
  · have hn : l = [] := List.eq_nil_of_length_eq_zero (by have := h0 rfl; omega)
    subst hn
    have hc := h0 rfl
    subst hc
    go_enter Try.func63, Try.ntmps63
    have hr := fun w : World => Lib.run_eql_slice_nil (P := Try.prog) w 84 5 none 0 0 0 0 Try.underlying84
    go_wp2
    go_ret
    exact ⟨_, rfl, Own.nil_, Chg.refl _ _⟩
  · have hsrc : SlT tB (w.alloc (.cells #[] 5)) K (.slice (some ad) l.length cap) l := h.chg ((Chg.refl Non w).alloc _) fun b hb => ⟨hK b hb, id⟩
    have hown : Own (w.alloc (.cells #[] 5)) w.heap.size 5 tB Non (.slice (some ⟨w.heap.size, 0, none⟩) 0 0) [] := Own.lit0 (Blk.new w _ _) (Nat.le_refl _) id
    go_enter Try.func63, Try.ntmps63
    have hr := fun w : World => Lib.run_eql_slice_nil (P := Try.prog) w 84 5 (some ad) l.length cap 0 0 Try.underlying84
    go_wp2_with (at_builtin; refine wpList_pushes_flat tB tInt_flat K rfl (.tmp 5) (.tmp 6) 84 rfl w.heap.size 5 (.int .u8 0) 1 Try.underlying84 info_u8 rfl (by decide) (by decide) _ _ _ l rfl rfl hown hsrc (by simpa using hl) (by simp) ?_)
    intro A c w1 hown1 hc hat
    try simp only [List.length_nil, Nat.zero_add, List.nil_append] at hown1 hc hat
    go_wp2
    go_ret
    refine ⟨_, rfl, hown1, ?_⟩
    refine ((Chg.refl Non w).alloc _).then_ hc fun k hk hr => ?_
    have : w.heap.size = k := by simpa [Row, Value.ownBlock] using hr
    omega
theorem CloneB_any (K : Nat → Prop) (v : Value) (l : List Int) (w : World) (h : SlT tB w K v l) (hK : ∀ b, K b → b < w.heap.size) (hl : l.length ≤ 140737488355328) :
    Calls Try.prog 63 #[v] w fun e w' => ∃ v', e = .returned v' ∧ SlT tB w' (Fresh w w') v' l ∧ Chg Non w w' :=
  (CloneB_own K v l w h hK hl).mono fun e w' ⟨v', h1, h2, h3⟩ => ⟨v', h1, h2.toSl (fun _ h => h.elim) fun b hb => h2.lt hb, h3⟩

/-! ### The writer -/
/-- A writer at block g that has written l; its blocks from lo on. -/
def Wr (w : World) (lo g : Nat) (l : List Int) : Prop := lo ≤ g ∧ ∃ v, Blk w g 93 #[v] ∧ Own w lo 5 tB Non v l
theorem Wr.lt {w : World} {lo g : Nat} {l : List Int} (h : Wr w lo g l) : lo ≤ g ∧ g < w.heap.size := by
  obtain ⟨h1, v, h2, _⟩ := h
  exact ⟨h1, h2.lt⟩
theorem Wr.chg {w w' : World} {lo g : Nat} {l : List Int} {K : Nat → Prop} (h : Wr w lo g l) (hc : Chg K w w') (hk : ∀ b, lo ≤ b → ¬ K b) : Wr w' lo g l := by
  obtain ⟨h1, v, h2, h3⟩ := h
  exact ⟨h1, v, h2.chg hc (hk g h1), h3.chg hc (fun b hb => hk b (h3.lt hb).1) (fun _ h => h.elim)⟩
theorem Wr.ne {w : World} {lo g : Nat} {l : List Int} {v : Value} (h2 : Blk w g 93 #[v]) (h3 : Own w lo 5 tB Non v l) : v.ownBlock ≠ some g := by
  obtain ⟨xs, h4, _⟩ := h3
  exact own_blk_ne h4 h2 (by decide)
/-- Blocks of other kinds than the writer's are as they were. -/
def KeepB (w w' : World) : Prop := ∀ k t cs, Blk w k t cs → t ≠ 93 → t ≠ 5 → Blk w' k t cs
theorem KeepB.refl (w : World) : KeepB w w := fun _ _ _ h _ _ => h
theorem KeepB.trans {a b c : World} (h : KeepB a b) (h' : KeepB b c) : KeepB a c := fun k t cs hb h1 h2 => h' k t cs (h k t cs hb h1 h2) h1 h2
theorem KeepB.of_grow {w w' : World} (h : Chg Non w w') : KeepB w w' := fun _ _ _ hb _ _ => hb.chg h id
/-- The row written on, and stored back. -/
theorem Wr.put {w w1 : World} {lo g : Nat} {l l' : List Int} {v v1 : Value} (h : lo ≤ g) (hb : Blk w g 93 #[v]) (ho : Own w lo 5 tB Non v l)
    (ho1 : Own w1 lo 5 tB Non v1 l') (hg : Chg (Row v) w w1) :
    Wr (w1.setCell ⟨g, 0, none⟩ v1) lo g l' ∧ (Chg (Ge lo) w (w1.setCell ⟨g, 0, none⟩ v1) ∧ KeepB w (w1.setCell ⟨g, 0, none⟩ v1)) ∧ w1.cell? ⟨g, 0, none⟩ = some v ∧ w1.frozen? ⟨g, 0, none⟩ = false := by
  have hb1 : Blk w1 g 93 #[v] := hb.chg hg (Wr.ne hb ho)
  refine ⟨⟨h, v1, by simpa using hb1.set_ 0 v1, ?_⟩, ⟨?_, ?_⟩, by simpa using hb1.cell 0, hb1.frozen 0⟩
  · have hb2 : Blk (w1.setCell ⟨g, 0, none⟩ v1) g 93 #[v1] := by simpa using hb1.set_ 0 v1
    have hne : v1.ownBlock ≠ some g := by
      obtain ⟨xs, h4, _⟩ := ho1
      exact own_blk_ne h4 hb1 (by decide)
    exact ho1.chg (Chg.at_ w1 g 0 v1) (fun b hb' e => hne (by rw [hb', show b = g from e])) (fun _ h => h.elim)
  · exact (hg.mono fun k _ hk => (ho.lt hk).1).set (fun _ => h) v1
  · intro k t cs hk h1 h2
    have hk1 : Blk w1 k t cs := hk.chg hg fun hr => by
      obtain ⟨xs, h4, _⟩ := ho
      exact own_blk_ne h4 hk (fun e => h2 e.symm) hr
    exact hk1.far (p := ⟨g, 0, none⟩) (hk1.ne_ hb1 h1) v1
/-- The writer's bytes, as the row that they lie in. -/
theorem Wr.bytes {w : World} {lo g : Nat} {l : List Int} (h : Wr w lo g l) : ∃ v, Blk w g 93 #[v] ∧ SlT tB w (In lo w.heap.size) v l := by
  obtain ⟨h1, v, h2, h3⟩ := h
  exact ⟨v, h2, h3.toSl (fun _ h => h.elim) fun b hb => h3.lt hb⟩

theorem New_any (w : World) : Calls Try.prog 44 #[] w fun e w' => e = .returned (.pointer (some ⟨w.heap.size, 0, none⟩)) ∧ Wr w' w.heap.size w.heap.size [] ∧ Chg Non w w' ∧ w'.heap.size = w.heap.size + 1 := by
  go_enter Try.func44, Try.ntmps44
  go_wp2
  go_ret
  refine ⟨rfl, ⟨Nat.le_refl _, _, Blk.new w _ _, Own.nil_⟩, (Chg.refl Non w).alloc _, by simp⟩

set_option maxHeartbeats 800000 in
theorem Byte_any (lo g : Nat) (l : List Int) (c : Int) (w : World) (h : Wr w lo g l) (hc : Fits .u8 c) (hl : l.length + 1 ≤ 140737488355328) :
    Calls Try.prog 59 #[.pointer (some ⟨g, 0, none⟩), .int .u8 c] w fun e w' => e = .returned (.tuple #[]) ∧ Wr w' lo g (l ++ [c]) ∧ Chg (Ge lo) w w' ∧ KeepB w w' := by
  obtain ⟨hg, v, hb, ho⟩ := h
  obtain ⟨A, cp, rfl, _, _⟩ := ho.shape
  have h0 : w.cell? ⟨g, 0, none⟩ = some (.slice A l.length cp) := by simpa using hb.cell 0
  have hlt := hb.lt
  have hbn : Blk (w.alloc (.cells #[.int .u8 c] 5)) w.heap.size 5 #[.int .u8 c] := Blk.new w _ _
  have HB := Lib.hid hb
  have HN := Lib.hid hbn
  have HC := Lib.hid hc
  have ho' : Own (w.alloc (.cells #[.int .u8 c] 5)) lo 5 tB Non (.slice A l.length cp) l := ho.chg ((Chg.refl Non w).alloc _) (fun _ _ h => h) (fun _ h => h.elim)
  clear hb hbn hc
  go_enter Try.func59, Try.ntmps59
  go_wp2_with (at_builtin; refine wpList_push tB Non rfl (.tmp 8) (.tmp 10) 84 rfl lo 5 (.int .u8 0) 1 Try.underlying84 info_u8 rfl (by decide) (by decide) _ l c [.int .u8 c] w.heap.size (0, 0) rfl rfl ho' HN.out ⟨rfl, HC.out⟩ (fun _ h => h.elim) (by omega) (by simp; omega) ?_)
  intro A1 c1 w1 ho1 hg1 _
  obtain ⟨h1, h2, h3, h4⟩ := Wr.put hg HB.out ho ho1 (((Chg.refl (Row (.slice A l.length cp)) w).alloc _).trans hg1)
  have H2 := Lib.hid h2
  clear h2
  go_wp2
  go_end0
  exact ⟨rfl, h1, H2.out⟩

/-- The bytes of n, from the (j-1)-th to the 0-th. -/
def be (n : Int) : Nat → List Int
  | 0 => []
  | j + 1 => (n / 256 ^ j) % 256 :: be n j
def beHead (n : Int) (size j : Nat) : List Int := (be n size).take (size - j)
theorem shr_byte (n : Int) (j : Nat) (h0 : 0 < j) : IntKind.u8.wrap (n / 2 ^ (8 * ((j : Int) - 1)).toNat) = n / 256 ^ (j - 1) % 256 := by
  have e1 : (8 * ((j:Int) - 1)).toNat = 8 * (j - 1) := by omega
  rw [e1, Int.pow_mul]
  simp [IntKind.wrap, IntKind.bits, IntKind.signed]
theorem be_length (n : Int) (j : Nat) : (be n j).length = j := by induction j <;> simp [be, *]
theorem be_drop (n : Int) (size : Nat) : ∀ j, j ≤ size → (be n size).drop (size - j) = be n j := by
  induction size with
  | zero => intro j hj; simp at hj; subst hj; simp [be]
  | succ s ih =>
    intro j hj
    rcases Nat.lt_or_ge s j with h | h
    · have : j = s + 1 := by omega
      subst this; simp
    · have e : s + 1 - j = (s - j) + 1 := by omega
      rw [e, be, List.drop_succ_cons]; exact ih j h
theorem beHead_snoc (n : Int) (size j : Nat) (h0 : 0 < j) (hj : j ≤ size) : beHead n size (j - 1) = beHead n size j ++ [n / 256 ^ (j - 1) % 256] := by
  unfold beHead
  have e : size - (j - 1) = (size - j) + 1 := by omega
  rw [e, List.take_add_one]
  have hd := be_drop n size j hj
  have : (be n size)[size - j]? = some (n / 256 ^ (j - 1) % 256) := by
    have h1 : ((be n size).drop (size - j))[0]? = (be n size)[size - j]? := by simp
    rw [← h1, hd]
    obtain ⟨k, rfl⟩ : ∃ k, j = k + 1 := ⟨j - 1, by omega⟩
    simp [be]
  rw [this]; rfl
theorem beHead_zero (n : Int) (size : Nat) : beHead n size 0 = be n size := by simp [beHead, be_length, List.take_of_length_le]
theorem beHead_length (n : Int) (size j : Nat) : (beHead n size j).length ≤ size - j := by simp [beHead]; omega

set_option maxHeartbeats 800000 in
theorem wlay_any (lo g : Nat) (l : List Int) (n : Int) (size : Nat) (w : World) (h : Wr w lo g l) (hn : 0 ≤ n ∧ n < 18446744073709551616) (hs : size ≤ 8) (hl : l.length + size ≤ 140737488355328) :
    Calls Try.prog 70 #[.pointer (some ⟨g, 0, none⟩), .int .u64 n, .int .i64 size] w fun e w' => e = .returned (.tuple #[]) ∧ Wr w' lo g (l ++ be n size) ∧ Chg (Ge lo) w w' ∧ KeepB w w' := by
  go_enter Try.func70, Try.ntmps70
  go_wp2
  go_loopw [6] (fun k wr => ∃ j : Nat, j ≤ size ∧ k = .int .i64 ((j : Int) - 1) ∧ Wr wr lo g (l ++ beHead n size j) ∧ Chg (Ge lo) w wr ∧ KeepB w wr) (fun k _ => (intOf k + 1).toNat)
  case atStart => exact ⟨size, by omega, rfl, by simpa [beHead] using h, Chg.refl _ _, KeepB.refl _⟩
  case round =>
    obtain ⟨j, hj, rfl, hw, hbel, hkb⟩ := hrel
    have HK := Lib.hid hkb
    clear hkb
    by_cases hlt : 0 < j
    · obtain ⟨l', hl'⟩ : ∃ l', l' = l ++ beHead n size j := ⟨_, rfl⟩
      have hlen : l'.length + 1 ≤ 140737488355328 := by
        have := beHead_length n size j
        rw [hl', List.length_append]; omega
      rw [← hl'] at hw
      have HL := Lib.hid hl'
      clear hl'
      obtain ⟨hg, v, hb, ho⟩ := hw
      obtain ⟨A, cp, rfl, _, _⟩ := ho.shape
      have h0 : wr.cell? ⟨g, 0, none⟩ = some (.slice A l'.length cp) := by simpa using hb.cell 0
      have HB := Lib.hid hb
      have hlt' := hb.lt
      clear hb
      have : (0:Int) ≤ (j:Int) - 1 := by omega
      have hm8 : IntKind.i64.wrap (8 * ((j:Int) - 1)) = 8 * ((j:Int) - 1) := by simp [IntKind.wrap, IntKind.bits, IntKind.signed]; omega
      have hf : Fits .u8 (IntKind.u8.wrap (n / 2 ^ (8 * ((j : Int) - 1)).toNat)) := Go.wf_wrap _ _
      have HF := Lib.hid hf
      have ho' : ∀ o, Own (wr.alloc o).drew lo 5 tB Non (.slice A l'.length cp) l' := fun o => ho.chg (((Chg.refl Non wr).alloc o).drew) (fun _ _ h => h) (fun _ h => h.elim)
      have HO := Lib.hid ho'
      clear hf ho'
      go_wp2_with fail
      go_region_law ((refine step_push tB Non (by rfl) _ _ _ (by rfl) lo 5 (.int .u8 0) 1 Try.underlying84 info_u8 rfl (by decide) (by decide) _ l' _ [_] wr.heap.size (0, 0) (by rfl) (by rfl) (HO.out _) (heap_alloc_new wr _) ⟨rfl, HF.out⟩ (fun _ h => h.elim) (by omega) (by simp; omega) ?_; intro A1 c1 w1 ho1 hg1 hat; obtain ⟨p1, p2, k0, k1⟩ := Wr.put hg HB.out ho ho1 ((((Chg.refl (Row (.slice A l'.length cp)) wr).alloc _).drew).trans hg1); have P2 := Lib.hid p2; clear p2))
      all_goals
        clear hm8
        go_wp2
        go_roundw
        case rel =>
          refine ⟨j - 1, by omega, ?_, ?_, hbel.trans P2.out.1, HK.out.trans P2.out.2⟩
          · congr 1; omega
          · rw [beHead_snoc n size j hlt hj, ← List.append_assoc, ← HL.out, ← shr_byte n j hlt]; exact p1
        case measure => simp [intOf]; omega
    · have : j = 0 := by omega
      subst this
      go_wp2
      go_end0
      rw [beHead_zero] at hw
      exact ⟨rfl, hw, hbel, HK.out⟩

theorem WNum_any (lo g : Nat) (l : List Int) (n : Int) (w : World) (h : Wr w lo g l) (hn : 0 ≤ n ∧ n < 4294967296) (hl : l.length + 4 ≤ 140737488355328) :
    Calls Try.prog 61 #[.pointer (some ⟨g, 0, none⟩), .int .u32 n] w fun e w' => e = .returned (.tuple #[]) ∧ Wr w' lo g (l ++ be n 4) ∧ Chg (Ge lo) w w' ∧ KeepB w w' := by
  have hcv : IntKind.u64.wrap n = n := by simp [IntKind.wrap, IntKind.bits, IntKind.signed]; omega
  go_enter Try.func61, Try.ntmps61
  go_wp2_with fail
  refine (wlay_any lo g l n 4 w h (by omega) (by decide) hl).mono ?_
  rintro e w' ⟨rfl, h1, h2⟩
  have H2 := Lib.hid h2
  clear h2
  go_wp2
  go_end0
  exact ⟨rfl, h1, H2.out⟩

set_option maxHeartbeats 800000 in
theorem WText_any (lo g : Nat) (l : List Int) (K : Nat → Prop) (bv : Value) (b : List Int) (w : World) (h : Wr w lo g l) (hb : SlT tB w K bv b) (hK : ∀ q, K q → q < lo) (hm : b.length ≤ 1048576) (hl : l.length + 4 + b.length ≤ 140737488355328) :
    Calls Try.prog 69 #[.pointer (some ⟨g, 0, none⟩), bv] w fun e w' => e = .returned (.bool true) ∧ Wr w' lo g (l ++ be b.length 4 ++ b) ∧ Chg (Ge lo) w w' ∧ KeepB w w' := by
  obtain ⟨A, cap, rfl, h1, h2⟩ := hb.shape
  have hgt : ¬ (1048576 : Int) < (b.length : Int) := by omega
  have hcv : IntKind.u32.wrap (b.length : Int) = b.length := by simp [IntKind.wrap, IntKind.bits, IntKind.signed]; omega
  go_enter Try.func69, Try.ntmps69
  go_wp2_with fail
  refine (WNum_any lo g l b.length w h (by omega) (by omega)).mono ?_
  rintro e w1 ⟨rfl, hw1, hc1, hk1⟩
  have HK1 := Lib.hid hk1
  clear hk1
  have hb1 : SlT tB w1 K (.slice A b.length cap) b := hb.chg hc1 fun q hq => ⟨by have := hK q hq; have := h.lt; omega, fun x => by have := hK q hq; have : lo ≤ q := x; omega⟩
  obtain ⟨l', hl'⟩ : ∃ l', l' = l ++ be b.length 4 := ⟨_, rfl⟩
  have hlen : l'.length + b.length ≤ 140737488355328 := by rw [hl', List.length_append, be_length]; omega
  rw [← hl'] at hw1
  have HL := Lib.hid hl'
  clear hl' hb
  obtain ⟨hg, v, hbk, ho⟩ := hw1
  obtain ⟨A', cp, rfl, _, _⟩ := ho.shape
  have h0 : w1.cell? ⟨g, 0, none⟩ = some (.slice A' l'.length cp) := by simpa using hbk.cell 0
  have hlt := hbk.lt
  have HB := Lib.hid hbk
  clear hbk
  go_wp2_with (at_builtin; refine wpList_pushes_flat tB tInt_flat K rfl (.tmp 17) (.tmp 18) 84 rfl lo 5 (.int .u8 0) 1 Try.underlying84 info_u8 rfl (by decide) (by decide) _ l' _ b rfl rfl ho hb1 (by omega) (by omega) ?_)
  intro A1 c1 w2 ho1 hg1 _
  obtain ⟨p1, p2, k0, k1⟩ := Wr.put hg HB.out ho ho1 hg1
  have P2 := Lib.hid p2
  clear p2
  go_wp2
  go_ret
  exact ⟨rfl, by rw [← HL.out]; exact p1, hc1.trans P2.out.1, HK1.out.trans P2.out.2⟩

theorem Done_any (lo g : Nat) (l : List Int) (w : World) (h : Wr w lo g l) (hl : l.length ≤ 140737488355328) :
    Calls Try.prog 47 #[.pointer (some ⟨g, 0, none⟩)] w fun e w' => ∃ v', e = .returned v' ∧ SlT tB w' (Fresh w w') v' l ∧ Chg Non w w' := by
  obtain ⟨v, hb, hs⟩ := h.bytes
  have h0 : w.cell? ⟨g, 0, none⟩ = some v := by simpa using hb.cell 0
  obtain ⟨A, cap, rfl, _⟩ := hs.shape
  clear hb
  go_enter Try.func47, Try.ntmps47
  go_wp2_with fail
  refine (CloneB_any _ _ l w hs (fun b hb => hb.2) hl).mono ?_
  rintro e w1 ⟨v', rfl, h1, h2⟩
  go_wp2
  go_ret
  exact ⟨v', rfl, h1, h2⟩

/-! ### The reader -/
/-- A reader at block g that has l left, which lies in blocks of K. -/
def Rd (w : World) (K : Nat → Prop) (g : Nat) (l : List Int) : Prop := ∃ v, Blk w g 98 #[v] ∧ SlT tB w K v l ∧ ¬ K g ∧ ∀ b, K b → b < w.heap.size
theorem Rd.chg {w w' : World} {K C : Nat → Prop} {g : Nat} {l : List Int} (h : Rd w K g l) (hc : Chg C w w') (hg : ¬ C g) (hk : ∀ b, K b → ¬ C b) : Rd w' K g l := by
  obtain ⟨v, h1, h2, h3, h4⟩ := h
  exact ⟨v, h1.chg hc hg, h2.chg hc fun b hb => ⟨h4 b hb, hk b hb⟩, h3, fun b hb => Nat.lt_of_lt_of_le (h4 b hb) hc.size⟩
theorem Rd.lt {w : World} {K : Nat → Prop} {g : Nat} {l : List Int} (h : Rd w K g l) : g < w.heap.size := by
  obtain ⟨v, h1, _⟩ := h
  exact h1.lt

set_option maxHeartbeats 800000 in
theorem rtake_any (K : Nat → Prop) (g : Nat) (l : List Int) (n : Nat) (w : World) (h : Rd w K g l) (hn : n ≤ l.length) (hm : n ≤ 140737488355328) :
    Calls Try.prog 74 #[.pointer (some ⟨g, 0, none⟩), .int .i64 n] w fun e w' => ∃ v', e = .returned v' ∧ SlT tB w' (Fresh w w') v' (l.take n) ∧ Rd w' K g (l.drop n) ∧ Chg (Is g) w w' := by
  obtain ⟨v, hb, hs, hg, hK⟩ := h
  obtain ⟨A, cap, rfl, h1, h2⟩ := hs.shape
  have h0 : w.cell? ⟨g, 0, none⟩ = some (.slice A l.length cap) := by simpa using hb.cell 0
  have hgt : ¬ (l.length : Int) < (n : Int) := by omega
  have HB := Lib.hid hb
  clear hb
  go_enter Try.func74, Try.ntmps74
  go_wp2_with (refine wpList_cut tB rfl 84 (.tmp 18) none (some (.tmp 19)) rfl Try.underlying84 size_u8 rfl hs 0 n (.inl ⟨rfl, rfl⟩) (.inr ⟨_, rfl⟩) (Nat.zero_le _) hn ?_)
  intro A1 c1 hs1
  try simp only [Nat.sub_zero, List.drop_zero] at hs1
  try simp only [Nat.sub_zero]
  go_wp2_with fail
  refine (CloneB_any K _ (l.take n) w hs1 hK (by simp; omega)).mono ?_
  rintro e w1 ⟨v', rfl, hs2, hc⟩
  have hb1 : Blk w1 g 98 #[.slice A l.length cap] := HB.out.chg hc id
  have k0 : w1.cell? ⟨g, 0, none⟩ = some (.slice A l.length cap) := by simpa using hb1.cell 0
  have k1 := hb1.frozen 0
  have hs3 : SlT tB w1 K (.slice A l.length cap) l := hs.chg hc fun b hb => ⟨hK b hb, id⟩
  have HB1 := Lib.hid hb1
  clear hb1
  go_wp2_with (refine wpList_cut tB rfl 84 (.tmp 26) (some (.tmp 27)) none rfl Try.underlying84 size_u8 rfl hs3 n l.length (.inr ⟨_, rfl⟩) (.inl ⟨rfl, rfl⟩) hn (Nat.le_refl _) ?_)
  intro A2 c2 hs4
  try simp only [List.take_length] at hs4
  go_wp2
  go_ret
  have hset := Chg.at_ w1 g 0 (.slice A2 (l.length - n) c2)
  have hb2 : Blk (w1.setCell ⟨g, 0, none⟩ (.slice A2 (l.length - n) c2)) g 98 #[.slice A2 (l.length - n) c2] := by simpa using HB1.out.set_ 0 (.slice A2 (l.length - n) c2)
  have hgw := HB.out.lt
  refine ⟨v', rfl, ?_, ⟨_, hb2, hs4.chg hset fun b hb => ⟨Nat.lt_of_lt_of_le (hK b hb) hc.size, fun e => hg (by rw [← show b = g from e]; exact hb)⟩, hg, fun b hb => Nat.lt_of_lt_of_le (hK b hb) (Nat.le_trans hc.size hset.size)⟩, hc.any.trans hset⟩
  refine hs2.keep fun b hb => ⟨⟨hb.1, Nat.lt_of_lt_of_le hb.2 hset.size⟩, hset.block b hb.2 fun e => ?_⟩
  have : b = g := e
  have := hb.1
  omega

/-- The number that bytes are. -/
def val (l : List Int) : Int := l.foldl (fun n c => n * 256 + c) 0
theorem val_snoc (l : List Int) (c : Int) : val (l ++ [c]) = val l * 256 + c := by simp [val]
theorem be_snoc (n : Int) (j : Nat) : be n (j + 1) = be (n / 256) j ++ [n % 256] := by
  induction j with
  | zero => simp [be]
  | succ j ih =>
    rw [be, ih, be, List.cons_append]
    congr 1
    rw [Int.pow_succ, Int.mul_comm, Int.ediv_ediv_of_nonneg (by decide)]
theorem val_be (n : Int) (j : Nat) (h0 : 0 ≤ n) (h : n < 256 ^ j) : val (be n j) = n := by
  induction j generalizing n with
  | zero => simp at h; have : n = 0 := by omega
            subst this; rfl
  | succ j ih =>
    rw [be_snoc, val_snoc, ih (n / 256) (by omega) (by rw [Int.pow_succ] at h; omega)]
    omega
theorem val_from (l : List Int) (h : ∀ c ∈ l, 0 ≤ c ∧ c ≤ 255) : ∀ n : Int, 0 ≤ n → 0 ≤ l.foldl (fun n c => n * 256 + c) n ∧ l.foldl (fun n c => n * 256 + c) n < (n + 1) * 256 ^ l.length := by
  induction l with
  | nil => intro n hn; simp; omega
  | cons c l ih =>
    intro n hn
    have hc := h c (by simp)
    obtain ⟨h1, h2⟩ := ih (fun c hc => h c (by simp [hc])) (n * 256 + c) (by omega)
    refine ⟨h1, Int.lt_of_lt_of_le h2 ?_⟩
    rw [List.length_cons, Int.pow_succ, Int.mul_comm (256 ^ l.length) 256, ← Int.mul_assoc]
    exact Int.mul_le_mul_of_nonneg_right (by omega) (Int.le_of_lt (Int.pow_pos (by decide)))
theorem val_bound (l : List Int) (h : ∀ c ∈ l, 0 ≤ c ∧ c ≤ 255) : 0 ≤ val l ∧ val l < 256 ^ l.length := by
  have := val_from l h 0 (by decide)
  simpa [val] using this
theorem val_bound7 (l : List Int) (h : ∀ c ∈ l, 0 ≤ c ∧ c ≤ 255) (hl : l.length ≤ 7) : 0 ≤ val l ∧ val l < 72057594037927936 := by
  obtain ⟨h1, h2⟩ := val_bound l h
  refine ⟨h1, Int.lt_of_lt_of_le h2 ?_⟩
  have : l.length = 0 ∨ l.length = 1 ∨ l.length = 2 ∨ l.length = 3 ∨ l.length = 4 ∨ l.length = 5 ∨ l.length = 6 ∨ l.length = 7 := by omega
  rcases this with h | h | h | h | h | h | h | h <;> rw [h] <;> decide
theorem wraps_u64' (n : Int) (h0 : 0 ≤ n) (h : n < 2 ^ 64) : IntKind.u64.wrap n = n := by simp [IntKind.wrap, IntKind.bits, IntKind.signed]; omega
theorem or_step (v c : Int) (h0 : 0 ≤ v) (h1 : v < 72057594037927936) (h2 : 0 ≤ c) (h3 : c ≤ 255) : bits .or .u64 (IntKind.u64.wrap (v * 256)) c = v * 256 + c := by
  have e1 : IntKind.u64.wrap (v * 256) = v * 256 := by simp [IntKind.wrap, IntKind.bits, IntKind.signed]; omega
  rw [e1]
  exact bits_join .u64 64 (by decide) wraps_u64' 8 _ _ (by omega) (by omega) (by omega) (by omega) (by omega) (by omega)

set_option maxHeartbeats 800000 in
theorem number_any (K : Nat → Prop) (g : Nat) (l b : List Int) (w : World) (h : Rd w K g (b ++ l)) (hb : ∀ c ∈ b, 0 ≤ c ∧ c ≤ 255) (hs : b.length ≤ 8) :
    Calls Try.prog 71 #[.pointer (some ⟨g, 0, none⟩), .int .i64 b.length] w fun e w' => e = .returned (.int .u64 (val b)) ∧ Rd w' K g l ∧ Chg (Is g) w w' := by
  go_enter Try.func71, Try.ntmps71
  go_wp2_with fail
  refine (rtake_any K g (b ++ l) b.length w h (by simp) (by omega)).mono ?_
  rintro e w1 ⟨v', rfl, hs1, hr1, hc⟩
  simp only [List.take_left, List.drop_left] at hs1 hr1
  obtain ⟨A, cap, rfl, h1, h2⟩ := hs1.shape
  go_wp2_with fail
  go_loop [5, 12] (fun n i => ∃ k : Nat, k ≤ b.length ∧ i = .int .i64 k ∧ n = .int .u64 (val (b.take k))) (fun _ i => b.length - (intOf i).toNat)
  case atStart => exact ⟨0, Nat.zero_le _, rfl, rfl⟩
  case round =>
    obtain ⟨k, hk, rfl, rfl⟩ := hrel
    by_cases hlt : k < b.length
    · obtain ⟨bb, off, cs, rfl, hbb, ⟨rfl, hf⟩, hcell⟩ := hs1.get hlt
      have hc0 := hcell 0 _ rfl
      simp [tInt] at hc0
      have hvb := val_bound7 (b.take k) (fun c hc => hb c (List.mem_of_mem_take hc)) (by simp; omega)
      have hbk := hb b[k] (List.getElem_mem _)
      have hor := or_step (val (b.take k)) b[k] hvb.1 hvb.2 hbk.1 hbk.2
      have HO := Lib.hid hor
      clear hor hvb
      go_wp2
      go_round
      case rel =>
        refine ⟨k + 1, by omega, by go_num, ?_⟩
        rw [HO.out, List.take_add_one, List.getElem?_eq_getElem hlt, Option.toList_some, val_snoc]
      case measure => simp [intOf]; omega
    · go_wp2
      go_ret
      have : k = b.length := by omega
      subst this
      exact ⟨ret_int (by rw [List.take_length]), hr1, hc⟩

theorem RByte_any (K : Nat → Prop) (g : Nat) (l : List Int) (c : Int) (w : World) (h : Rd w K g (c :: l)) (hb : 0 ≤ c ∧ c ≤ 255) :
    Calls Try.prog 64 #[.pointer (some ⟨g, 0, none⟩)] w fun e w' => e = .returned (.int .u8 c) ∧ Rd w' K g l ∧ Chg (Is g) w w' := by
  have hcv : IntKind.u8.wrap c = c := by simp [IntKind.wrap, IntKind.bits, IntKind.signed]; omega
  go_enter Try.func64, Try.ntmps64
  go_wp2_with fail
  refine (number_any K g l [c] w h (by simp; exact hb) (by simp)).mono ?_
  rintro e w1 ⟨rfl, hr1, hc⟩
  have hv : val [c] = c := by simp [val]
  go_wp2
  go_ret
  exact ⟨rfl, hr1, hc⟩

theorem be_range (n : Int) (j : Nat) : ∀ c ∈ be n j, 0 ≤ c ∧ c ≤ 255 := by
  induction j with
  | zero => simp [be]
  | succ j ih =>
    intro c hc
    rcases List.mem_cons.1 hc with rfl | hc
    · omega
    · exact ih c hc

theorem RNum_any (K : Nat → Prop) (g : Nat) (l : List Int) (n : Int) (w : World) (h : Rd w K g (be n 4 ++ l)) (hn : 0 ≤ n ∧ n < 4294967296) :
    Calls Try.prog 66 #[.pointer (some ⟨g, 0, none⟩)] w fun e w' => e = .returned (.int .u32 n) ∧ Rd w' K g l ∧ Chg (Is g) w w' := by
  have hcv : IntKind.u32.wrap n = n := by simp [IntKind.wrap, IntKind.bits, IntKind.signed]; omega
  go_enter Try.func66, Try.ntmps66
  go_wp2_with fail
  refine (number_any K g l (be n 4) w h (be_range n 4) (by simp [be_length])).mono ?_
  rw [val_be n 4 hn.1 (by simpa using hn.2)]
  rintro e w1 ⟨rfl, hr1, hc⟩
  go_wp2
  go_ret
  exact ⟨rfl, hr1, hc⟩

set_option maxHeartbeats 800000 in
theorem RText_any (K : Nat → Prop) (g : Nat) (l b : List Int) (most : Int) (w : World) (h : Rd w K g (be b.length 4 ++ (b ++ l))) (hm : b.length ≤ 1048576) (h0 : 0 ≤ most) (h1 : b.length ≤ most) :
    Calls Try.prog 72 #[.pointer (some ⟨g, 0, none⟩), .int .i64 most] w fun e w' => ∃ v', e = .returned v' ∧ SlT tB w' (Fresh w w') v' b ∧ Rd w' K g l ∧ Chg (Is g) w w' := by
  have hcv : IntKind.i64.wrap (b.length : Int) = b.length := by simp [IntKind.wrap, IntKind.bits, IntKind.signed]; omega
  have t1 : ¬ (1048576 : Int) < (b.length : Int) := by omega
  have t2 : ¬ most < (b.length : Int) := by omega
  have t3 : ¬ most < 0 := by omega
  go_enter Try.func72, Try.ntmps72
  go_wp2_with fail
  refine (RNum_any K g (b ++ l) b.length w h (by omega)).mono ?_
  rintro e w1 ⟨rfl, hr1, hc1⟩
  go_wp2_with fail
  refine (rtake_any K g (b ++ l) b.length w1 hr1 (by simp) (by omega)).mono ?_
  rintro e w2 ⟨v', rfl, hs2, hr2, hc2⟩
  simp only [List.take_left, List.drop_left] at hs2 hr2
  go_wp2
  go_ret
  exact ⟨v', rfl, hs2.mono fun q hq => ⟨Nat.le_trans hc1.size hq.1, hq.2⟩, hr2, hc1.trans hc2⟩

end Go.Proofs.Ytebdaoihajjgmaa
