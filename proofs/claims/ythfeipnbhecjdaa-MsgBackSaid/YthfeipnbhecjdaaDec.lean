/- The contracts of msg.take and msg.Decode, at what msg.Encode has written; of msg.Encode at the empty message. -/
import Derived.Test.YthfeipnbhecjdaaEnc
set_option linter.unusedVariables false
set_option linter.unusedSimpArgs false
namespace Go.Proofs.Ythfeipnbhecjdaa
open Go.RowKit

theorem info_vote : (Try.prog.info? 36).map (fun i => (i.zero, i.size, i.bytes)) = some (some (.agg #[.int .i64 0, .int .i64 0, .slice none 0 0]), 3, 40) := by kernel_rfl

theorem size_msg : (Try.prog.info? 26).map (·.size) = some 10 := by kernel_rfl

def zeroMsg : List Value := [.int .i64 0, .int .i64 0, .int .i64 0, .int .i64 0, .int .i64 0, .int .i64 0, .int .i64 0, .int .i64 0, .slice none 0 0, .slice none 0 0]

/-- On the way: the reader, the box of the result, the box of m. -/
structure DecAt (w wi : World) (K : Nat → Prop) (g : Nat) (rest : List Int) (g1 : Nat) (cs : List Value) : Prop where
  rd : Rd wi K g rest
  res : Blk wi w.heap.size 26 zeroMsg.toArray
  box : Blk wi g1 26 cs.toArray
  chg : Chg (Is g) w wi
  hg : g < w.heap.size
  hg1 : w.heap.size < g1
  hK : ∀ b, K b → b < w.heap.size
section
variable {w w1 w2 : World} {K : Nat → Prop} {g g1 : Nat} {rest rest' : List Int} {cs : List Value}
theorem DecAt.call (h : DecAt w w1 K g rest g1 cs) (hr : Rd w2 K g rest') (hc : Chg (Is g) w1 w2) : DecAt w w2 K g rest' g1 cs :=
  ⟨hr, h.res.chg hc (fun e => by have := h.hg; have : w.heap.size = g := e; omega), h.box.chg hc (fun e => by have := h.hg; have := h.hg1; have : g1 = g := e; omega), h.chg.trans hc, h.hg, h.hg1, h.hK⟩
theorem DecAt.set (h : DecAt w w1 K g rest g1 cs) (j : Nat) (v : Value) : DecAt w (w1.setCell ⟨g1, j, none⟩ v) K g rest g1 (cs.set j v) := by
  have hc := Chg.at_ w1 g1 j v
  have := h.hg; have := h.hg1
  refine ⟨h.rd.chg hc (fun e => by have : g = g1 := e; omega) (fun b hb e => by have := h.hK b hb; have : b = g1 := e; omega), h.res.chg hc (fun e => by have : w.heap.size = g1 := e; omega), ?_, h.chg.setNew (by show w.heap.size ≤ g1; omega) v, h.hg, h.hg1, h.hK⟩
  simpa using h.box.set_ j v
theorem DecAt.alloc (h : DecAt w w1 K g rest g1 cs) (o : Obj) : DecAt w (w1.alloc o) K g rest g1 cs :=
  ⟨h.rd.chg ((Chg.refl Non w1).alloc o) id fun _ _ x => x, h.res.alloc o, h.box.alloc o, h.chg.alloc o, h.hg, h.hg1, h.hK⟩
theorem DecAt.far {C : Nat → Prop} (h : DecAt w w1 K g rest g1 cs) (hc : Chg C w1 w2) (hC : ∀ b, b ≤ g1 → ¬ C b) : DecAt w w2 K g rest g1 cs := by
  have := h.hg; have := h.hg1
  exact ⟨h.rd.chg hc (hC g (by omega)) (fun b hb => hC b (by have := h.hK b hb; omega)), h.res.chg hc (hC _ (by omega)), h.box.chg hc (hC _ (Nat.le_refl _)), h.chg.then_ hc (fun k hk hk' => absurd hk' (hC k (by omega))), h.hg, h.hg1, h.hK⟩
theorem DecAt.cell (h : DecAt w w1 K g rest g1 cs) : (∀ j, w1.cell? ⟨g1, j, none⟩ = cs.toArray[j]?) ∧ ∀ j, w1.frozen? ⟨g1, j, none⟩ = false := ⟨fun j => h.box.cell j, fun j => h.box.frozen j⟩
end

set_option maxRecDepth 100000 in
set_option maxHeartbeats 3200000 in
theorem mtake_any (K : Nat → Prop) (g : Nat) (m : Msg) (w : World) (h : Rd w K g (encMsg m)) (hm : MsgOk m) :
    Calls Try.prog 20 #[.pointer (some ⟨g, 0, none⟩)] w fun e w' => ∃ cs, e = .returned (.agg cs.toArray) ∧ MsgAt w' (Fresh w w') cs m ∧ Rd w' K g [] ∧ Chg (Is g) w w' := by
  have hgl := h.lt
  have hK : ∀ b, K b → b < w.heap.size := by obtain ⟨_, _, _, _, x⟩ := h; exact x
  have h0 : Rd (w.alloc (.cells zeroMsg.toArray 26)) K g (m.kind :: m.group :: (be m.frm 4 ++ (be m.dst 4 ++ (be (m.ballot + 1) 4 ++ (be m.slot 4 ++ (m.client :: (be m.seq 4 ++ (be m.b.length 4 ++ (m.b ++ ((m.l.length : Int) :: encVotes m.l))))))))))  := by
    have := h.chg ((Chg.refl Non w).alloc (.cells zeroMsg.toArray 26)) id fun _ _ x => x
    simpa [encMsg, encHead, encNums] using this
  have b0 : Blk (w.alloc (.cells zeroMsg.toArray 26)) w.heap.size 26 zeroMsg.toArray := Blk.new _ _ _
  have B0 := Lib.hid b0
  clear b0
  obtain ⟨⟨a1, a1'⟩, ⟨a2, a2'⟩, ⟨a3, a3'⟩, ⟨a4, a4'⟩, ⟨a5, a5'⟩, ⟨a6, a6'⟩, ⟨a7, a7'⟩, ⟨a8, a8'⟩, a9, a10, hv⟩ := hm
  have HV := Lib.hid hv
  clear hv
  unfold zeroMsg at h0
  go_enter Try.func20, Try.ntmps20
  go_wp2_with fail
  refine (RByte_any K g _ m.kind _ h0 ⟨by omega, by omega⟩).mono ?_
  rintro e w1 ⟨rfl, hr1, hc1⟩
  go_wp2_with fail
  refine (RByte_any K g _ m.group _ hr1 ⟨by omega, by omega⟩).mono ?_
  rintro e w2 ⟨rfl, hr2, hc2⟩
  go_wp2_with fail
  obtain ⟨g1, hG1⟩ : ∃ g1, g1 = w2.heap.size := ⟨_, rfl⟩
  have hc12 := (((Chg.refl (Is g) w).alloc (.cells zeroMsg.toArray 26)).trans hc1).trans hc2
  have d2 : DecAt w (w2.alloc (.cells [.int .i64 m.kind, .int .i64 m.group, .int .i64 0, .int .i64 0, .int .i64 0, .int .i64 0, .int .i64 0, .int .i64 0, .slice none 0 0, .slice none 0 0].toArray 26)) K g _ g1 [.int .i64 m.kind, .int .i64 m.group, .int .i64 0, .int .i64 0, .int .i64 0, .int .i64 0, .int .i64 0, .int .i64 0, .slice none 0 0, .slice none 0 0] :=
    ⟨hr2.chg ((Chg.refl Non w2).alloc _) id fun _ _ x => x, ((B0.out.chg hc1 (fun e => by have : w.heap.size = g := e; omega)).chg hc2 (fun e => by have : w.heap.size = g := e; omega)).alloc _, by rw [hG1]; exact Blk.new _ _ _, hc12.alloc _, hgl, by rw [hG1]; have := ((Chg.refl (Is g) _).trans hc1 |>.trans hc2).size; simp at this; omega, hK⟩
  rw [← hG1]
  clear hr1 hc1 hr2 hc2 hc12 h0 B0 hG1
  refine (RNum_any K g _ m.frm _ d2.rd ⟨by omega, by omega⟩).mono ?_
  rintro e w3 ⟨rfl, hr3, hc3⟩
  have d3 := d2.call hr3 hc3
  go_wp2_with fail
  refine (RNum_any K g _ m.dst _ d3.rd ⟨by omega, by omega⟩).mono ?_
  rintro e w4 ⟨rfl, hr4, hc4⟩
  have d4 := d3.call hr4 hc4
  have d4' := (d4.set 2 (.int .i64 m.frm)).set 3 (.int .i64 m.dst)
  simp only [List.set] at d4'
  obtain ⟨x4, z4⟩ := d4.cell
  clear d2 d3 hr3 hc3 hr4 hc4
  go_wp2_with fail
  refine (RNum_any K g _ (m.ballot + 1) _ d4'.rd ⟨by omega, by omega⟩).mono ?_
  rintro e w5 ⟨rfl, hr5, hc5⟩
  have d5 := d4'.call hr5 hc5
  clear x4 z4 d4 hr5 hc5
  go_wp2_with fail
  refine (RNum_any K g _ m.slot _ d5.rd ⟨by omega, by omega⟩).mono ?_
  rintro e w6 ⟨rfl, hr6, hc6⟩
  have d6 := d5.call hr6 hc6
  have d6' := (d6.set 4 (.int .i64 m.ballot)).set 5 (.int .i64 m.slot)
  simp only [List.set] at d6'
  obtain ⟨x6, z6⟩ := d6.cell
  clear d4' d5 hr6 hc6
  go_wp2_with fail
  refine (RByte_any K g _ m.client _ d6'.rd ⟨by omega, by omega⟩).mono ?_
  rintro e w7 ⟨rfl, hr7, hc7⟩
  have d7 := d6'.call hr7 hc7
  clear x6 z6 d6 hr7 hc7
  go_wp2_with fail
  refine (RNum_any K g _ m.seq _ d7.rd ⟨by omega, by omega⟩).mono ?_
  rintro e w8 ⟨rfl, hr8, hc8⟩
  have d8 := d7.call hr8 hc8
  have d8' := (d8.set 6 (.int .i64 m.client)).set 7 (.int .i64 m.seq)
  simp only [List.set] at d8'
  obtain ⟨x8, z8⟩ := d8.cell
  clear d6' d7 hr8 hc8
  go_wp2_with fail
  refine (RText_any K g _ m.b 1048576 _ d8'.rd a9 (by omega) (by omega)).mono ?_
  rintro e w9 ⟨bv, rfl, hb9, hr9, hc9⟩
  have d9 := d8'.call hr9 hc9
  have hn9 : g1 < w8.heap.size := d8.box.lt
  obtain ⟨n9, hN9⟩ : ∃ n9, n9 = w9.heap.size := ⟨_, rfl⟩
  have hb9' : SlT tB w9 (In (g1 + 1) n9) bv m.b := hb9.mono fun b hb => by have h1 := hb.1; have h2 := hb.2; simp [World.setCell] at h1; exact ⟨by omega, by omega⟩
  have hn9' : n9 ≤ w9.heap.size := by omega
  obtain ⟨Ab, cb, rfl, _, _⟩ := hb9'.shape
  obtain ⟨x9, z9⟩ := d9.cell
  have d9' := d9.set 8 (.slice Ab m.b.length cb)
  simp only [List.set] at d9'
  have hb9s := hb9'.chg (Chg.at_ w9 g1 8 (.slice Ab m.b.length cb)) (fun b hb => ⟨by have := hb.2; omega, fun e => by have := hb.1; have : b = g1 := e; omega⟩)
  have hg1n : g1 < w9.heap.size := d9.box.lt
  clear x8 z8 d8 d8' hr9 hc9 hb9 hb9' hn9 hN9
  go_wp2_with fail
  refine (RByte_any K g _ m.l.length _ d9'.rd ⟨by omega, by omega⟩).mono ?_
  rintro e wa ⟨rfl, hra, hca⟩
  have da := d9'.call hra hca
  have hgg := d9'.hg
  have hgg1 := d9'.hg1
  have hba := hb9s.chg hca (fun b hb => ⟨by have := hb.2; simp [World.setCell]; omega, fun e => by have := hb.1; have : b = g := e; omega⟩)
  obtain ⟨lo, hLo⟩ : ∃ lo, lo = wa.heap.size := ⟨_, rfl⟩
  have hlo9 : n9 ≤ lo := by have := hca.size; simp [World.setCell] at this; omega
  have hlog : g1 < lo := by have := hca.size; simp [World.setCell] at this; omega
  have hloa : lo ≤ wa.heap.size := by omega
  clear d9' x9 z9 d9 hra hca hb9s hn9' hg1n hLo
  go_wp2_with fail
  go_loopw [4, 5] (fun i _ wr => ∃ k : Nat, k ≤ m.l.length ∧ i = .int .u8 ((m.l.length : Int) - k) ∧ lo ≤ wr.heap.size ∧ SlT tB wr (In (g1 + 1) n9) (.slice Ab m.b.length cb) m.b ∧
    ∃ lv KL, DecAt w wr K g (encVotes (m.l.drop k)) g1 [.int .i64 m.kind, .int .i64 m.group, .int .i64 m.frm, .int .i64 m.dst, .int .i64 m.ballot, .int .i64 m.slot, .int .i64 m.client, .int .i64 m.seq, .slice Ab m.b.length cb, lv] ∧
      Own wr lo 36 tVote KL lv (m.l.take k) ∧ ∀ b, KL b → lo ≤ b ∧ b < wr.heap.size) (fun i _ _ => (intOf i).toNat)
  case atStart => exact ⟨0, by omega, by simp, hloa, hba, _, Non, da, Own.nil_, fun _ h => h.elim⟩
  case round =>
    clear hba hloa da
    obtain ⟨k, hk, rfl, hlor, hbr, lv, KL, dr, own, hKL⟩ := hrel
    by_cases hlt : k < m.l.length
    · have hv := HV.out _ (List.getElem_mem hlt)
      have hdrop : encVotes (m.l.drop k) = encVote m.l[k] ++ encVotes (m.l.drop (k + 1)) := by rw [← List.getElem_cons_drop hlt]; rfl
      have htake : m.l.take (k + 1) = m.l.take k ++ [m.l[k]] := by rw [List.take_add_one, List.getElem?_eq_getElem hlt, Option.toList_some]
      rw [hdrop] at dr
      obtain ⟨x, hx⟩ : ∃ x, x = m.l[k] := ⟨_, rfl⟩
      rw [← hx] at dr htake hv
      have HT := Lib.hid htake
      clear hx htake hdrop
      simp only [encVote, List.append_assoc] at dr
      obtain ⟨v1, v2, v3, v4, v5⟩ := hv
      have hlen : (m.l.take k).length = k := by simp; omega
      obtain ⟨lk, hLk⟩ : ∃ lk, lk = m.l.take k := ⟨_, rfl⟩
      rw [← hLk] at own hlen HT
      clear hLk
      obtain ⟨Al, cl, rfl, _, _⟩ := own.shape
      have hrow : ∀ b, (Value.slice Al lk.length cl).ownBlock = some b → lo ≤ b ∧ b < wr.heap.size := fun b hb => own.lt hb
      have HR := Lib.hid hrow
      clear hrow
      go_wp2_with fail
      refine (RNum_any K g _ x.slot wr dr.rd ⟨by omega, by omega⟩).mono ?_
      rintro e y1 ⟨rfl, hr1, hc1⟩
      have e1 := dr.call hr1 hc1
      clear hr1
      go_wp2_with fail
      refine (RNum_any K g _ (x.ballot + 1) y1 e1.rd ⟨by omega, by omega⟩).mono ?_
      rintro e y2 ⟨rfl, hr2, hc2⟩
      have e2 := e1.call hr2 hc2
      have hc2' := hc1.trans hc2
      clear hr2 hc1 hc2 e1 dr
      obtain ⟨gv, hGv⟩ : ∃ gv, gv = y2.heap.size := ⟨_, rfl⟩
      have e2' := e2.alloc (.cells #[.int .i64 x.slot, .int .i64 x.ballot, .slice none 0 0] 36)
      have bv2 : Blk (y2.alloc (.cells #[.int .i64 x.slot, .int .i64 x.ballot, .slice none 0 0] 36)) gv 36 #[.int .i64 x.slot, .int .i64 x.ballot, .slice none 0 0] := by rw [hGv]; exact Blk.new _ _ _
      have hgv : wr.heap.size ≤ gv := by rw [hGv]; exact hc2'.size
      have hca2 := hc2'.alloc (.cells #[.int .i64 x.slot, .int .i64 x.ballot, .slice none 0 0] 36)
      have hsz2 : (y2.alloc (.cells #[.int .i64 x.slot, .int .i64 x.ballot, .slice none 0 0] 36)).heap.size = gv + 1 := by rw [hGv]; simp
      have HB2 := Lib.hid bv2
      have HZ2 := Lib.hid hsz2
      clear bv2 hsz2
      go_wp2_with fail
      rw [← hGv]
      refine (RText_any K g _ x.v 1048576 _ e2'.rd v5 (by omega) (by omega)).mono ?_
      rintro e y3 ⟨xv, rfl, hs3, hr3, hc3⟩
      have e3 := e2'.call hr3 hc3
      have bv3 := HB2.out.chg hc3 (fun e => by have : gv = g := e; omega)
      have hs3' : SlT tB y3 (In (gv + 1) y3.heap.size) xv x.v := hs3.mono fun b hb => by have h1 := hb.1; have h2 := hb.2; rw [HZ2.out] at h1; exact ⟨h1, h2⟩
      have hc3' := hca2.trans hc3
      obtain ⟨Ax, cx, rfl, _, _⟩ := hs3'.shape
      clear hs3 hr3 e2' e2 hca2 hc2' HB2 HZ2 hGv
      have hgv3 : gv < y3.heap.size := bv3.lt
      obtain ⟨x3, z3⟩ := e3.cell
      have hne1 : ¬ gv = g1 := by omega
      have hne2 : ¬ g1 = gv := by omega
      have xv3 := bv3.cell
      have zv3 := bv3.frozen
      have bv4 := bv3.set_ 2 (.slice Ax x.v.length cx)
      have e4 : DecAt w (y3.setCell ⟨gv, 2, none⟩ (.slice Ax x.v.length cx)) K g (encVotes (m.l.drop (k + 1))) g1 _ :=
        ⟨e3.rd.chg (Chg.at_ y3 gv 2 _) (fun e => by have : g = gv := e; omega) (fun b hb e => by have := hK b hb; have : b = gv := e; omega), e3.res.chg (Chg.at_ y3 gv 2 _) (fun e => by have : w.heap.size = gv := e; omega), e3.box.chg (Chg.at_ y3 gv 2 _) (fun e => by have : g1 = gv := e; omega), e3.chg.setNew (by show w.heap.size ≤ gv; omega) _, e3.hg, e3.hg1, e3.hK⟩
      have hc4 : Chg (Is g) wr (y3.setCell ⟨gv, 2, none⟩ (.slice Ax x.v.length cx)) := hc3'.setNew hgv _
      have hs4 := hs3'.chg (Chg.at_ y3 gv 2 (.slice Ax x.v.length cx)) (fun b hb => ⟨hb.2, fun e => by have := hb.1; have : b = gv := e; omega⟩)
      have hbr4 := hbr.chg hc4 (fun b hb => ⟨by have := hb.2; omega, fun e => by have := hb.1; have : b = g := e; omega⟩)
      have own4 : Own (y3.setCell ⟨gv, 2, none⟩ (.slice Ax x.v.length cx)) lo 36 tVote (Or2 KL (In (gv + 1) y3.heap.size)) (.slice Al lk.length cl) lk := by
        refine (own.chg hc4 (fun b hb e => by have := (own.lt hb).1; have : b = g := e; omega) (fun b hb => ⟨(hKL b hb).2, fun e => by have := (hKL b hb).1; have : b = g := e; omega⟩)).more (fun b hb => .inl hb) fun b hb h => ?_
        rcases h with h | h
        · obtain ⟨_, _, _, h3⟩ := own
          exact h3 b hb h
        · have := (own.lt hb).2; have := h.1; omega
      clear hc3' hs3' hbr own e3 hc3
      have bn : ∀ v : Value, Blk ((y3.setCell ⟨gv, 2, none⟩ v).alloc (.cells #[.int .i64 x.slot, .int .i64 x.ballot, v] 36)) y3.heap.size 36 #[.int .i64 x.slot, .int .i64 x.ballot, v] := fun v => Blk.newAt (by simp [World.setCell]) _ _
      have hsz4 : (y3.setCell ⟨gv, 2, none⟩ (.slice Ax x.v.length cx)).heap.size = y3.heap.size := by simp [World.setCell]
      have own5 := own4.chg ((Chg.refl Non _).alloc (.cells #[.int .i64 x.slot, .int .i64 x.ballot, .slice Ax x.v.length cx] 36)) (fun _ _ h => h) (fun b hb => ⟨by rw [hsz4]; rcases hb with hb | hb; have := (hKL b hb).2; omega; exact hb.2, id⟩)
      have hs5 := (hs4.chg ((Chg.refl Non _).alloc (.cells #[.int .i64 x.slot, .int .i64 x.ballot, .slice Ax x.v.length cx] 36)) (fun b hb => ⟨by rw [hsz4]; exact hb.2, id⟩)).mono (K' := Or2 KL (In (gv + 1) y3.heap.size)) fun b hb => .inr hb
      have hsz5 : ((y3.setCell ⟨gv, 2, none⟩ (.slice Ax x.v.length cx)).alloc (.cells #[.int .i64 x.slot, .int .i64 x.ballot, .slice Ax x.v.length cx] 36)).heap.size = y3.heap.size + 1 := by simp [World.setCell]
      have e5 := e4.alloc (.cells #[.int .i64 x.slot, .int .i64 x.ballot, .slice Ax x.v.length cx] 36)
      have hbr5 := hbr4.chg ((Chg.refl Non _).alloc (.cells #[.int .i64 x.slot, .int .i64 x.ballot, .slice Ax x.v.length cx] 36)) (fun b hb => ⟨by rw [hsz4]; have := hb.2; omega, id⟩)
      have H5 := Lib.hid hsz5
      have H4 := Lib.hid hsz4
      have HLN := Lib.hid hlen
      have HBN := Lib.hid bn
      clear bv4 bv3 bn own4 hs4 hbr4 e4 hsz5 hsz4 hlen
      have hlk : lk.length ≤ 16 := by rw [HLN.out]; omega
      have hKK : ∀ b, Or2 KL (In (gv + 1) y3.heap.size) b → lo ≤ b ∧ b < y3.heap.size := by
        intro b hb
        rcases hb with hb | hb
        · have := hKL b hb; omega
        · have := hb.1; have := hb.2; omega
      go_wp2_with (at_builtin; refine wpList_push tVote (Or2 KL (In (gv + 1) y3.heap.size)) rfl (.tmp 59) (.tmp 61) 23 rfl lo 36 _ 40 Try.underlying23 info_vote rfl (by decide) (by decide) _ lk x [_, _, _] y3.heap.size (0, 0) rfl rfl own5 (HBN.out _) ⟨_, rfl, fits_i64 ⟨by omega, by omega⟩, fits_i64 ⟨by omega, by omega⟩, hs5⟩ (fun b hb => by rw [H5.out]; have := (hKK b hb).2; omega) (by omega) (by rw [H5.out]; omega) ?_)
      intro A6 c6 w6 own6 hc6 hat
      have hC6 : ∀ b, b ≤ g1 → ¬ Row (.slice Al lk.length cl) b := fun b hb h => by have := (HR.out b h).1; omega
      have e6 := e5.far hc6 hC6
      have hbr6 := hbr5.chg hc6 (fun b hb => ⟨by rw [H5.out]; have := hb.2; omega, fun h => by have := (HR.out b h).1; have := hb.2; omega⟩)
      have hsz6 := hc6.size
      rw [H5.out] at hsz6
      obtain ⟨x6, z6⟩ := e6.cell
      have e7 := e6.set 9 (.slice A6 (lk.length + 1) c6)
      simp only [List.set] at e7
      have hbr7 := hbr6.chg (Chg.at_ w6 g1 9 (.slice A6 (lk.length + 1) c6)) (fun b hb => ⟨by have := hb.2; omega, fun e => by have := hb.1; have : b = g1 := e; omega⟩)
      have own7 := own6.chg (Chg.at_ w6 g1 9 (.slice A6 (lk.length + 1) c6)) (fun b hb e => by have := (own6.lt hb).1; have : b = g1 := e; omega) (fun b hb => ⟨by have := (hKK b hb).2; omega, fun e => by have := (hKK b hb).1; have : b = g1 := e; omega⟩)
      have hsz7 : (w6.setCell ⟨g1, 9, none⟩ (.slice A6 (lk.length + 1) c6)).heap.size = w6.heap.size := by simp [World.setCell]
      have H7 := Lib.hid hsz7
      clear hc6 hC6 e5 e6 hbr5 hbr6 own5 own6 hs5 x3 z3 hsz7 hat
      go_wp2_with fail
      go_roundw
      case rel =>
        refine ⟨k + 1, by omega, ?_, by rw [H7.out]; omega, hbr7, _, _, e7, by rw [HT.out]; exact own7, fun b hb => ⟨(hKK b hb).1, by rw [H7.out]; have := (hKK b hb).2; omega⟩⟩
        congr 1; omega
      case measure => simp [intOf]; omega
    · have : k = m.l.length := by omega
      subst this
      rw [List.take_length] at own
      obtain ⟨xr, zr⟩ := dr.cell
      have hr0 := dr.res.cell
      have hz0 := dr.res.frozen
      have hmsg : MsgAt wr (In (w.heap.size + 1) wr.heap.size) [.int .i64 m.kind, .int .i64 m.group, .int .i64 m.frm, .int .i64 m.dst, .int .i64 m.ballot, .int .i64 m.slot, .int .i64 m.client, .int .i64 m.seq, .slice Ab m.b.length cb, lv] m := by
        refine ⟨_, _, rfl, hbr.mono fun b hb => ⟨by have := hb.1; omega, by have := hb.2; omega⟩, ?_⟩
        exact own.toSl (K' := In (w.heap.size + 1) wr.heap.size) (fun b hb => ⟨by have := (hKL b hb).1; omega, (hKL b hb).2⟩) (fun b hb => ⟨by have := (own.lt hb).1; omega, (own.lt hb).2⟩)
      have hok : MsgOk m := ⟨⟨a1, a1'⟩, ⟨a2, a2'⟩, ⟨a3, a3'⟩, ⟨a4, a4'⟩, ⟨a5, a5'⟩, ⟨a6, a6'⟩, ⟨a7, a7'⟩, ⟨a8, a8'⟩, a9, a10, HV.out⟩
      have hRt := MRight_yes _ _ m wr hmsg (fun b hb => hb.2) hok
      have HRt := Lib.hid hRt
      clear hRt
      obtain ⟨Al, cl, hlv, _, _⟩ := own.shape
      subst hlv
      go_wp2_with fail
      with_reducible refine HRt.out.mono ?_
      rintro e w5 ⟨rfl, hc5⟩
      have d5 : DecAt w w5 K g _ g1 _ := dr.far hc5 (fun _ _ h => h)
      obtain ⟨x5, z5⟩ := d5.cell
      have hmsg5 := hmsg.chg hc5 (fun b hb => ⟨hb.2, id⟩)
      obtain ⟨Bs, hBs⟩ : ∃ Bs, Bs = wr.heap.size := ⟨_, rfl⟩
      have hs5 : Bs ≤ w5.heap.size := by rw [hBs]; exact hc5.size
      rw [← hBs] at hmsg5
      have D5 := Lib.hid d5
      clear xr zr hr0 hz0 hmsg dr hbr own HRt d5 hBs
      go_wp2_with (refine wpList_storeB rfl 26 (.tmp 2) (.tmp 69) rfl w.heap.size _ rfl rfl D5.out.res (by simp [zeroMsg]) size_msg (by obtain ⟨Ax, cx, hx, _⟩ := hmsg5.choose_spec.choose_spec.2.1.shape; simp [Value.oneCell']) ?_)
      intro w6 b6 c6 z6
      go_wp2_with fail
      refine bodyPost_ret (v := .agg #[.int .i64 m.kind, .int .i64 m.group, .int .i64 m.frm, .int .i64 m.dst, .int .i64 m.ballot, .int .i64 m.slot, .int .i64 m.client, .int .i64 m.seq, .slice Ab m.b.length cb, .slice Al m.l.length cl]) (ret_cellB (p := 2) (ty := 26) rfl _ rfl b6 Try.underlying26 size_msg) rfl ⟨_, rfl, (hmsg5.chg c6 fun b hb => ⟨by have := hb.2; omega, fun e => by have := hb.1; have : b = w.heap.size := e; omega⟩).mono fun b hb => ⟨by have := hb.1; omega, by rw [z6]; have := hb.2; omega⟩, ?_, ?_⟩
      · have := D5.out.rd
        rw [List.drop_length] at this
        exact this.chg c6 (fun e => by have : g = w.heap.size := e; omega) (fun b hb e => by have := hK b hb; have : b = w.heap.size := e; omega)
      · exact D5.out.chg.then_ c6 (fun k hk e => by have : k = w.heap.size := e; omega)

theorem MsgAt.one {w : World} {K : Nat → Prop} {cs : List Value} {m : Msg} (h : MsgAt w K cs m) : ∀ v ∈ cs, v.oneCell' = true := by
  obtain ⟨bv, lv, rfl, h1, h2⟩ := h
  obtain ⟨_, _, rfl, _⟩ := h1.shape
  obtain ⟨_, _, rfl, _⟩ := h2.shape
  simp [Value.oneCell']
theorem MsgAt.len {w : World} {K : Nat → Prop} {cs : List Value} {m : Msg} (h : MsgAt w K cs m) : cs.length = 10 := by
  obtain ⟨bv, lv, rfl, h1, h2⟩ := h
  rfl

theorem Decode1_any (K : Nat → Prop) (g gm : Nat) (m : Msg) (w : World) (old : Array Value) (h : Rd w K g (encMsg m)) (hm : MsgOk m) (hb : Blk w gm 26 old) (ho : old.size = 10) (hne : gm ≠ g) (hKm : ¬ K gm) :
    Calls Try.prog 19 #[.pointer (some ⟨g, 0, none⟩), .pointer (some ⟨gm, 0, none⟩)] w fun e w' => e = .returned (.tuple #[]) ∧ Rd w' K g [] ∧ Chg (Or2 (Is g) (Is gm)) w w' ∧ ∃ cs, Blk w' gm 26 cs.toArray ∧ MsgAt w' (Fresh w w') cs m := by
  have hgl := h.lt
  go_enter Try.func19, Try.ntmps19
  go_wp2_with fail
  refine (mtake_any K g m w h hm).mono ?_
  rintro e w1 ⟨cs, rfl, hm1, hr1, hc1⟩
  have hb1 := hb.chg hc1 hne
  have hg1 := hb.lt
  have hsz := hc1.size
  go_wp2_with (refine wpList_storeB rfl 26 (.tmp 1) (.tmp 4) rfl gm _ rfl rfl hb1 (by rw [ho]; simp [hm1.len]) (by rw [size_msg]; simp [hm1.len]) (by simpa using hm1.one) ?_)
  intro w2 b2 c2 z2
  go_wp2_with fail
  go_end0
  refine ⟨rfl, hr1.chg c2 (fun e => hne e.symm) (fun b hb e => hKm (by rw [← show b = gm from e]; exact hb)), (hc1.mono fun k _ h => .inl h).then_ c2 fun k _ h => .inr h, cs, b2, ?_⟩
  refine (hm1.chg c2 fun b hb => ⟨hb.2, fun e => ?_⟩).mono fun b hb => ⟨hb.1, by rw [z2]; exact hb.2⟩
  have : b = gm := e
  have := hb.1
  omega

theorem Decode_any (K : Nat → Prop) (bv : Value) (m : Msg) (w : World) (hs : SlT tB w K bv (encMsg m)) (hK : ∀ b, K b → b < w.heap.size) (hm : MsgOk m) :
    Calls Try.prog 6 #[bv] w fun e w' => ∃ cs, e = .returned (.tuple #[.agg cs.toArray, .int .i64 0]) ∧ MsgAt w' (Fresh w w') cs m ∧ Chg Non w w' := by
  obtain ⟨A, cap, rfl, _, _⟩ := hs.shape
  have hmf : ∀ (fn : Fn) (first cap : Array Value) (w : World), (Instr.makeFunc fn first cap).run Try.prog w = .ok (.func fn first cap) w := fun _ _ _ _ => rfl
  have hs2 := hs.chg (((Chg.refl Non w).alloc (.cells zeroMsg.toArray 26)).alloc (.cells zeroMsg.toArray 26)) (fun b hb => ⟨hK b hb, id⟩)
  have b0 : Blk ((w.alloc (.cells zeroMsg.toArray 26)).alloc (.cells zeroMsg.toArray 26)) w.heap.size 26 zeroMsg.toArray := (Blk.new _ _ _).alloc _
  have b1 : Blk ((w.alloc (.cells zeroMsg.toArray 26)).alloc (.cells zeroMsg.toArray 26)) (w.heap.size + 1) 26 zeroMsg.toArray := Blk.newAt (by simp) _ _
  have hz : ((w.alloc (.cells zeroMsg.toArray 26)).alloc (.cells zeroMsg.toArray 26)).heap.size = w.heap.size + 2 := by simp
  have c0 := ((Chg.refl Non w).alloc (.cells zeroMsg.toArray 26)).alloc (.cells zeroMsg.toArray 26)
  have H := Lib.hid (And.intro b0 (And.intro b1 (And.intro hz c0)))
  have hcall := Read_any K (Or2 (Is (w.heap.size + 3)) (Is (w.heap.size + 1))) (.slice A (encMsg m).length cap) (encMsg m) ⟨w.heap.size + 1, 0, none⟩ _ hs2 (fun b hb => by rw [hz]; have := hK b hb; omega)
    (fun w2 => ∃ cs, Blk w2 (w.heap.size + 1) 26 cs.toArray ∧ MsgAt w2 (In (w.heap.size + 4) w2.heap.size) cs m)
    (fun w1 hr hc hsz => by
      rw [hz] at hr hsz ⊢
      refine (Decode1_any K _ (w.heap.size + 1) m w1 _ hr hm (b1.chg hc id) (by simp [zeroMsg]) (by omega) (fun h => by have := hK _ h; omega)).mono ?_
      rintro e w2 ⟨rfl, h1, h2, cs, h3, h4⟩
      exact ⟨rfl, h1, h2, cs, h3, h4.mono fun b hb => ⟨by have := hb.1; omega, hb.2⟩⟩)
    (fun b h1 h2 h3 h => by
      rw [hz] at h1 h2 h3
      rcases h with h | h
      · exact h3 h
      · have : b = w.heap.size + 1 := h; omega)
  have HC := Lib.hid hcall
  clear hcall b0 b1 hz c0 hs2
  unfold zeroMsg at HC H
  go_enter Try.func6, Try.ntmps6
  go_wp2_with fail
  refine HC.out.mono ?_
  rintro e w1 ⟨rfl, w2, ⟨cs, hb2, hm2⟩, hc12, hc2⟩
  obtain ⟨b0, b1, hz, c0⟩ := H.out
  rw [hz] at hc12 hc2
  have hn : ∀ b, b < w.heap.size + 4 → b ≠ w.heap.size + 1 → b ≠ w.heap.size + 3 → ¬ Or2 (Or2 (Is (w.heap.size + 3)) (Is (w.heap.size + 1))) (Is (w.heap.size + 2 + 1)) b := by
    intro b h1 h2 h3 h
    rcases h with (h | h) | h
    · exact h3 h
    · exact h2 h
    · exact h3 h
  have hb1 := hb2.chg hc2 (fun e => by have : w.heap.size + 1 = w.heap.size + 2 := e; omega)
  have hr1 := (b0.chg hc12 (hn _ (by omega) (by omega) (by omega))).chg hc2 (fun e => by have : w.heap.size = w.heap.size + 2 := e; omega)
  have hm1 : MsgAt w1 (In (w.heap.size + 4) w2.heap.size) cs m := hm2.chg hc2 (fun b hb => ⟨hb.2, fun e => by have := hb.1; have : b = w.heap.size + 2 := e; omega⟩)
  have hsz := hc2.size
  have hcw : Chg Non w w1 := (c0.then_ hc12 (fun k hk h => absurd h (hn k (by omega) (by omega) (by omega)))).then_ hc2 (fun k hk h => by have : k = w.heap.size + 2 := h; omega)
  have HCW := Lib.hid hcw
  have HM := Lib.hid hm1
  have HB := Lib.hid hb1
  have HR := Lib.hid hr1
  clear hb2 hm2 hc12 hc2 b0 b1 hz c0 hn hcw hm1 hb1 hr1 H HC
  go_wp2_with (first | (refine wpList_loadB rfl 26 (.tmp 4) rfl (w.heap.size + 1) rfl HB.out Try.underlying26 (by rw [size_msg]; simp [HM.out.len]) ?_) | (refine wpList_storeB rfl 26 (.tmp 2) (.tmp 10) rfl w.heap.size _ rfl rfl HR.out (by simp [HM.out.len]) (by rw [size_msg]; simp [HM.out.len]) (by simpa using HM.out.one) ?_; intro w3 b3 c3 z3))
  refine bodyPost_ret (v := .tuple #[.agg cs.toArray, .int .i64 0]) (ret_cellB2 (p := 2) (q := 3) (ty := 26) rfl _ rfl b3 Try.underlying26 (by rw [size_msg]; simp [HM.out.len])) rfl ⟨_, rfl, ?_, ?_⟩
  · refine (HM.out.chg c3 fun b hb => ⟨by have := hb.2; omega, fun e => ?_⟩).mono fun b hb => ⟨by have := hb.1; omega, by rw [z3]; have := hb.2; omega⟩
    have : b = w.heap.size := e
    have := hb.1
    omega
  · exact HCW.out.then_ c3 fun k hk h => by have : k = w.heap.size := h; omega

end Go.Proofs.Ythfeipnbhecjdaa
