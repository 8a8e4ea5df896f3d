/- A table written as octets. -/
import Derived.Test.YtebdaoihajjgmaaWrt
set_option linter.unusedVariables false
set_option linter.unusedSimpArgs false
namespace Go.Proofs.Ytebdaoihajjgmaa
open Go.RowKit

def encTab (x : Tab) : List Int := encSpan x.span ++ [x.group] ++ be x.gen 4
def encTabs : List Tab → List Int
  | [] => []
  | x :: l => encTab x ++ encTabs l
def encTable (l : List Tab) : List Int := [(l.length : Int)] ++ encTabs l
theorem encTabs_snoc (l : List Tab) (x : Tab) : encTabs (l ++ [x]) = encTabs l ++ encTab x := by
  induction l with
  | nil => simp [encTabs]
  | cons y l ih => simp [encTabs, ih]
/-- What may be written. -/
structure WTab (x : Tab) : Prop where
  lo : x.span.lo.size ≤ 16
  hi : x.span.hi.size ≤ 16
  group : 0 ≤ x.group ∧ x.group ≤ 255
  gen : 1 ≤ x.gen ∧ x.gen ≤ 1073741824
theorem wtab_of {x : Tab} (h1 : pRight x.span = true) (h2 : pNum x = true) : WTab x := by
  simp only [pRight, pNum, Bool.and_eq_true, decide_eq_true_eq] at h1 h2
  exact ⟨by omega, by omega, ⟨by omega, by omega⟩, ⟨by omega, by omega⟩⟩
theorem encTab_length {x : Tab} (h : WTab x) : (encTab x).length ≤ 45 := by
  have h1 := h.lo
  have h2 := h.hi
  simp [encTab, encSpan, encStr_length, be_length]
  omega
theorem encTabs_length : ∀ (l : List Tab), (∀ x ∈ l, WTab x) → (encTabs l).length ≤ 45 * l.length
  | [], _ => by simp [encTabs]
  | x :: l, h => by
    have h1 := encTab_length (h x (by simp))
    have h2 := encTabs_length l fun y hy => h y (by simp [hy])
    simp [encTabs]
    omega
theorem Wr.grow {w w' : World} {lo g : Nat} {l : List Int} (h : Wr w lo g l) (hc : Chg Non w w') : Wr w' lo g l := by
  obtain ⟨hg, v, hb, ho⟩ := h
  exact ⟨hg, v, hb.chg hc id, ho.chg hc (fun _ _ x => x) (fun _ x => x.elim)⟩

set_option maxRecDepth 100000 in
set_option maxHeartbeats 3200000 in
theorem TWrite_any (K : Nat → Prop) (gt lo g : Nat) (l : List Tab) (b : List Int) (w : World) (hT : Tbl w K gt (chunk l)) (h16 : l.length ≤ 16) (hok : ∀ x ∈ l, WTab x) (h : Wr w lo g b) (hb : b.length ≤ 1000) :
    Calls Try.prog 45 #[.pointer (some ⟨gt, 0, none⟩), .pointer (some ⟨g, 0, none⟩)] w fun e w' => e = .returned (.tuple #[]) ∧ Wr w' lo g (b ++ encTable l) ∧ Chg (Ge lo) w w' ∧ KeepS g w w' := by
  have hall := All_at hT (by omega)
  have HA := Lib.hid (And.intro hall h)
  have hglt : lo ≤ g ∧ g < w.heap.size := h.lt
  clear hall hT h
  go_enter Try.func45, Try.ntmps45
  go_wp2_with fail
  with_reducible refine HA.out.1.mono ?_
  rintro e w1 ⟨av, rfl, ha, hc1⟩
  obtain ⟨Aa, ca, rfl, _, _⟩ := ha.shape
  have hw1 := HA.out.2.grow hc1
  have hcv0 : IntKind.u8.wrap (l.length : Int) = l.length := by simp [IntKind.wrap, IntKind.bits, IntKind.signed]; omega
  have hby := ByteS_any lo g b (l.length : Int) w1 hw1 (fits_u8 ⟨by omega, by omega⟩) (by omega)
  obtain ⟨hg, v0, hb0, ho0⟩ := HA.out.2
  have hrow : ∀ q, v0.ownBlock = some q → q < w.heap.size := fun q hq => (ho0.lt hq).2
  have hb1 := hb0.chg hc1 id
  have HX := Lib.hid (And.intro ha (And.intro hc1 (And.intro hby (And.intro hrow hb1))))
  clear ha hc1 hw1 hby hb0 ho0 hrow hb1 hg
  go_wp2_with fail
  with_reducible refine HX.out.2.2.1.mono ?_
  rintro e w2 ⟨rfl, hw2, hc2, hk2⟩
  have H2 := Lib.hid (And.intro hw2 (And.intro hc2 hk2))
  clear hw2 hc2 hk2
  go_wp2_with fail
  go_loopw [16] (fun i wr => ∃ k : Nat, k ≤ l.length ∧ i = .int .i64 k ∧ Wr wr lo g (b ++ [(l.length : Int)] ++ encTabs (l.take k)) ∧ Chg (Ge lo) w1 wr ∧ Hid (KeepS g w1 wr)) (fun i _ => l.length - (intOf i).toNat)
  case atStart => exact ⟨0, Nat.zero_le _, rfl, by simpa [encTabs] using H2.out.1, H2.out.2.1, Lib.hid H2.out.2.2⟩
  case round =>
    obtain ⟨k, hk, rfl, hw, hc, hks⟩ := hrel
    by_cases hlt : k < l.length
    · obtain ⟨v1, _, _, hcS⟩ := hks.out.2 _ HX.out.2.2.2.2
      have hs := HX.out.1.chg hcS fun q hq => ⟨hq.2, fun x => x.elim (fun e => by have := hq.1; omega) fun e => by have := HX.out.2.2.2.1 q e; have := hq.1; omega⟩
      obtain ⟨bb, off, rfl, hbb, _, d0, d1, d2, d3⟩ := tab_cells hs hlt
      have hwt := hok l[k] (List.getElem_mem _)
      have hsn : encTabs (l.take (k + 1)) = encTabs (l.take k) ++ encTab l[k] := by rw [List.take_succ_eq_append_getElem hlt, encTabs_snoc]
      have hle := encTabs_length (l.take k) fun y hy => hok y (List.mem_of_mem_take hy)
      obtain ⟨pre, hpre⟩ : ∃ pre, pre = b ++ [(l.length : Int)] ++ encTabs (l.take k) := ⟨_, rfl⟩
      have hpl : pre.length ≤ 2000 := by
        rw [hpre]
        simp only [List.length_append, List.length_cons, List.length_nil]
        simp only [List.length_take] at hle
        omega
      rw [← hpre] at hw
      obtain ⟨x, hx⟩ : ∃ x, x = l[k] := ⟨_, rfl⟩
      rw [← hx] at d0 d1 d2 d3 hwt hsn
      obtain ⟨⟨slo, shi⟩, gr, gn⟩ := x
      obtain ⟨z1, z2, z3, z4⟩ := hwt
      dsimp only at d0 d1 d2 d3 z1 z2 z3 z4
      have hcv1 : IntKind.u8.wrap gr = gr := by simp [IntKind.wrap, IntKind.bits, IntKind.signed]; omega
      have hcv2 : IntKind.u32.wrap gn = gn := by simp [IntKind.wrap, IntKind.bits, IntKind.signed]; omega
      have HR := Lib.hid (And.intro hw (And.intro hc (And.intro hks.out (And.intro hsn hpre))))
      clear hw hc hks hsn hpre hx hs hcS hbb hle
      go_wp2_with (refine wpList_storeB rfl 28 (.tmp 6) (.tmp 19) rfl wr.heap.size _ rfl rfl (Blk.new _ _ _) rfl (by kernel_rfl) (by simp [Value.oneCell']) ?_)
      intro w4 hb4 hc4 hz4
      have hg4 : Chg Non wr w4 := ((Chg.refl Non wr).alloc _).then_ hc4 (fun q hq e => by have : q = wr.heap.size := e; omega)
      have hsw := SWrite_any lo g pre ⟨slo, shi⟩ w4 (HR.out.1.grow hg4) (by dsimp only; omega) (by dsimp only; omega) (by omega)
      have x4 := hb4.cell
      have H4 := Lib.hid (And.intro hb4 (And.intro hg4 hsw))
      clear hb4 hc4 hz4 hg4 hsw d0 d1 d2 d3
      go_wp2_with fail
      clear x4
      with_reducible refine H4.out.2.2.mono ?_
      rintro e w5 ⟨rfl, hw5, hc5, hk5⟩
      have b5 := hk5.1 _ _ _ H4.out.1 (by decide) (by decide)
      have x5 := b5.cell
      have hby5 := ByteS_any lo g _ gr w5 hw5 (fits_u8 z3) (by rw [List.length_append]; simp only [encSpan, List.length_append, encStr_length]; omega)
      have H5 := Lib.hid (And.intro b5 (And.intro hby5 (And.intro hc5 hk5)))
      clear hw5 hc5 hk5 b5 hby5
      go_wp2_with fail
      clear x5
      with_reducible refine H5.out.2.1.mono ?_
      rintro e w6 ⟨rfl, hw6, hc6, hk6⟩
      have b6 := hk6.1 _ _ _ H5.out.1 (by decide) (by decide)
      have x6 := b6.cell
      have hby6 := WNumS_any lo g _ gn w6 hw6 ⟨by omega, by omega⟩ (by simp only [List.length_append, encSpan, encStr_length, List.length_cons, List.length_nil]; omega)
      have H6 := Lib.hid (And.intro hby6 (And.intro hc6 hk6))
      clear hw6 hc6 hk6 b6 hby6
      go_wp2_with fail
      clear x6
      with_reducible refine H6.out.1.mono ?_
      rintro e w7 ⟨rfl, hw7, hc7, hk7⟩
      have H7 := Lib.hid (And.intro hw7 (And.intro ((((HR.out.2.1.trans H4.out.2.1.any).trans H5.out.2.2.1).trans H6.out.2.1).trans hc7) ((((HR.out.2.2.1.trans (KeepS.of_grow H4.out.2.1)).trans H5.out.2.2.2).trans H6.out.2.2).trans hk7)))
      clear hw7 hc7 hk7
      go_wp2_with fail
      go_roundw
      case rel =>
        refine ⟨k + 1, by omega, by go_num, ?_, H7.out.2.1, Lib.hid H7.out.2.2⟩
        rw [HR.out.2.2.2.1]
        have := H7.out.1
        rw [HR.out.2.2.2.2] at this
        simpa [encTab, List.append_assoc] using this
      case measure => simp [intOf]; omega
    · have hkn : k = l.length := by omega
      subst hkn
      rw [List.take_length] at hw
      have HZ := Lib.hid (And.intro hw (And.intro hc hks.out))
      clear hw hc hks
      go_wp2_with fail
      go_end0
      exact ⟨rfl, by simpa [encTable, List.append_assoc] using HZ.out.1, HX.out.2.1.any.trans HZ.out.2.1, (KeepS.of_grow HX.out.2.1).trans HZ.out.2.2⟩
end Go.Proofs.Ytebdaoihajjgmaa
