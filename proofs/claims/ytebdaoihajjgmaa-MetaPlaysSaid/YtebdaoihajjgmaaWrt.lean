/- Tables written as octets. -/
import Derived.Test.YtebdaoihajjgmaaLput
import Derived.Test.YtebdaoihajjgmaaOcw
import Derived.Lib.ConvBytes
set_option linter.unusedVariables false
set_option linter.unusedSimpArgs false
namespace Go.Proofs.Ytebdaoihajjgmaa
open Go.RowKit

/-- A string's bytes. -/
def numsOf (s : ByteArray) : List Int := s.data.toList.map fun b => (b.toNat : Int)
theorem numsOf_length (s : ByteArray) : (numsOf s).length = s.size := by simp [numsOf]
theorem numsOf_range (s : ByteArray) : ∀ c ∈ numsOf s, 0 ≤ c ∧ c ≤ 255 := by
  intro c hc
  simp only [numsOf, List.mem_map] at hc
  obtain ⟨b, _, rfl⟩ := hc
  have := b.toNat_lt
  omega
theorem strOf_numsOf (s : ByteArray) : strOfNums (numsOf s) = s := by
  have : (strOfNums (numsOf s)).data = s.data := by
    apply Array.ext'
    rw [strOfNums_data]
    simp [numsOf, Function.comp_def]
  exact ByteArray.ext this
theorem reps_bytes {w : World} {K : Nat → Prop} : ∀ (l : List Int), (∀ c ∈ l, Fits .u8 c) → Reps tB w K (l.map (Value.int .u8)) l
  | [], _ => rfl
  | x :: l, h => ⟨[.int .u8 x], l.map (Value.int .u8), rfl, ⟨rfl, h x (by simp)⟩, reps_bytes l fun y hy => h y (by simp [hy])⟩
theorem bytesWorld_chg (w : World) (e : TypeId) (s : ByteArray) : Chg Non w (Lib.bytesWorld w e s) :=
  ⟨rfl, rfl, rfl, by rw [Lib.bytesWorld_size]; omega, fun k hk _ => Lib.bytesWorld_at_old w e s k hk⟩
theorem bytesWorld_sl (w : World) (s : ByteArray) (hs : s.size ≤ maxLen) : SlT tB (Lib.bytesWorld w 5 s) (Is w.heap.size) (.slice (some ⟨w.heap.size, 0, none⟩) (numsOf s).length (grownCap w s.size 0 5)) (numsOf s) := by
  have hl := numsOf_length s
  refine ⟨(numsOf s).map (Value.int .u8), ⟨by rw [List.length_map]; simp [tB, tInt], _, _, rfl, by rw [hl]; exact grownCap_ge _ _ _ _, grownCap_le_maxLen _ _ _ _ hs, fun h => (nomatch h), fun _ => ⟨_, _, rfl, rfl, fun j u hu => ?_⟩⟩, reps_bytes _ fun c hc => fits_u8 (numsOf_range s c hc)⟩
  rw [List.getElem?_map] at hu
  obtain ⟨c, hc, rfl⟩ := Option.map_eq_some_iff.1 hu
  have hj : j < s.size := by
    have := (List.getElem?_eq_some_iff.1 hc).1
    omega
  rw [Nat.zero_add, Lib.bytesWorld_cell w _ s j hj]
  simp only [numsOf, List.getElem?_map] at hc
  obtain ⟨b, hb, rfl⟩ := Option.map_eq_some_iff.1 hc
  rw [List.getD_eq_getElem?_getD, hb]
  rfl
theorem conv_bytes (W : World) (s : ByteArray) : (convert 9 84 (.string s)).run Try.prog W = .ok (.slice (some ⟨W.heap.size, 0, none⟩) s.size (grownCap W s.size 0 5)) (Lib.bytesWorld W 5 s) :=
  Lib.run_convert_string_bytes W _ _ _ s Try.underlying9 Try.underlying84 Try.underlying5

def encStr (s : ByteArray) : List Int := be s.size 4 ++ numsOf s
def encSpan (s : Span) : List Int := encStr s.lo ++ encStr s.hi
theorem encStr_length (s : ByteArray) : (encStr s).length = 4 + s.size := by simp [encStr, be_length, numsOf_length]
/-- A string written behind its length. -/
theorem WStr_any (lo g : Nat) (l : List Int) (s : ByteArray) (w : World) (h : Wr w lo g l) (hs : s.size ≤ 1024) (hl : l.length ≤ 1048576) :
    Calls Try.prog 69 #[.pointer (some ⟨g, 0, none⟩), .slice (some ⟨w.heap.size, 0, none⟩) s.size (grownCap w s.size 0 5)] (Lib.bytesWorld w 5 s) fun e w' => e = .returned (.bool true) ∧ Wr w' lo g (l ++ encStr s) ∧ Chg (Ge lo) w w' ∧ KeepS g w w' := by
  have hn := numsOf_length s
  have hc := bytesWorld_chg w 5 s
  have hsl := bytesWorld_sl w s (by unfold maxLen; omega)
  obtain ⟨hg, v, hb, ho⟩ := h
  have h' : Wr (Lib.bytesWorld w 5 s) lo g l := ⟨hg, v, hb.chg hc id, ho.chg hc (fun _ _ x => x) (fun _ x => x.elim)⟩
  have hlt : g < w.heap.size := hb.lt
  have := WTextS_any lo g l (Is w.heap.size) _ (numsOf s) _ h' hsl (fun q hq => by
    obtain rfl : q = w.heap.size := hq
    refine ⟨by rw [Lib.bytesWorld_size]; omega, by omega, fun u hu e => ?_⟩
    have hu' : u = v := by
      have h1 := hu.cell 0
      have h2 := (hb.chg hc id).cell 0
      rw [h1] at h2
      simpa using h2
    subst hu'
    have := (ho.lt e).2
    omega) (by omega) (by omega)
  rw [hn] at this
  refine this.mono ?_
  rintro e w' ⟨rfl, h1, h2, h3⟩
  exact ⟨rfl, by rw [encStr, ← List.append_assoc]; exact h1, hc.any.trans h2, (KeepS.of_grow hc).trans h3⟩
set_option maxHeartbeats 800000 in
theorem SWrite_any (lo g : Nat) (l : List Int) (s : Span) (w : World) (h : Wr w lo g l) (h1 : s.lo.size ≤ 1024) (h2 : s.hi.size ≤ 1024) (hl : l.length ≤ 1000000) :
    Calls Try.prog 60 #[.pointer (some ⟨g, 0, none⟩), s.v] w fun e w' => e = .returned (.tuple #[]) ∧ Wr w' lo g (l ++ encSpan s) ∧ Chg (Ge lo) w w' ∧ KeepS g w w' := by
  obtain ⟨slo, shi⟩ := s
  have hlog : lo ≤ w.heap.size := Nat.le_of_lt (Nat.lt_of_le_of_lt h.lt.1 h.lt.2)
  obtain ⟨w0, hw0⟩ : ∃ w0, w0 = w.alloc (.cells #[.string slo, .string shi] 26) := ⟨_, rfl⟩
  have b0 : Blk w0 w.heap.size 26 #[.string slo, .string shi] := by rw [hw0]; exact Blk.new _ _ _
  have c0 : Chg Non w w0 := by rw [hw0]; exact (Chg.refl Non w).alloc _
  have hw : Wr w0 lo g l := by
    obtain ⟨hg, v, hb, ho⟩ := h
    exact ⟨hg, v, hb.chg c0 id, ho.chg c0 (fun _ _ x => x) (fun _ x => x.elim)⟩
  have hcv := conv_bytes
  have x0 := b0.cell
  have hwr := WStr_any lo g l slo w0 hw h1 (by omega)
  have H := Lib.hid (And.intro hw0 (And.intro b0 (And.intro c0 (And.intro hwr (And.intro h1 h2)))))
  dsimp only at h1 h2
  clear hw0 b0 c0 hw hwr h
  go_enter Try.func60, Try.ntmps60
  go_upto_region 1 with fail
  rw [← H.out.1]
  go_wp2_with fail
  with_reducible refine H.out.2.2.2.1.mono ?_
  rintro e w1 ⟨rfl, hw1, hc1, hk1⟩
  have b1 := hk1.1 _ _ _ H.out.2.1 (by decide) (by decide)
  replace x0 := b1.cell
  have hwr := WStr_any lo g _ shi w1 hw1 h2 (by rw [List.length_append, encStr_length]; omega)
  have H1 := Lib.hid (And.intro hwr (And.intro hc1 hk1))
  clear hw1 hc1 hk1 b1 hwr
  go_wp2_with fail
  with_reducible refine H1.out.1.mono ?_
  rintro e w2 ⟨rfl, hw2, hc2, hk2⟩
  have H2 := Lib.hid (And.intro hw2 (And.intro ((H.out.2.2.1.any.trans H1.out.2.1).trans hc2) (((KeepS.of_grow H.out.2.2.1).trans H1.out.2.2).trans hk2)))
  clear hw2 hc2 hk2
  go_wp2_with fail
  go_end0
  exact ⟨rfl, by rw [encSpan, ← List.append_assoc]; exact H2.out.1, H2.out.2.1, H2.out.2.2⟩
end Go.Proofs.Ytebdaoihajjgmaa
