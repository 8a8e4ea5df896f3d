/- A region that draws its order, whose operations only read and whose callees leave what there was: one walk in the text's order, in a family of worlds. -/
import Derived.Test.YtebdaoihajjgmaaBase
import Derived.BigQuiet
set_option linter.unusedVariables false
namespace Go.Proofs.Ytebdaoihajjgmaa
open Go.RowKit

/-- A world in which all that w had is as it was. -/
structure Fam (w : World) where
  w' : World
  h : Chg Non w w'
instance (w : World) : Nonempty (Fam w) := ⟨⟨w, Chg.refl Non w⟩⟩
theorem Fam.cells {w : World} {p : Addr} {v : Value} (hc : w.cell? p = some v) : ∀ i : Fam w, i.w'.cell? p = some v := fun i => i.h.cellv hc id
theorem Fam.back {w : World} {P : Program} {f : FuncId} {args : Array Value} {v : Value} {i : Fam w}
    (h : Calls P f args i.w' fun e w' => e = .returned v ∧ Chg Non i.w' w') : Calls P f args i.w' fun e w'' => e = .returned v ∧ ∃ j : Fam w, w'' = j.w' :=
  h.mono fun _ w1 ⟨he, hm⟩ => ⟨he, ⟨w1, i.h.trans hm⟩, rfl⟩
theorem Fam.same {w : World} {P : Program} {f : FuncId} {args : Array Value} {v : Value} {i : Fam w}
    (h : Calls P f args i.w' fun e w' => e = .returned v ∧ w' = i.w') : Calls P f args i.w' fun e w'' => e = .returned v ∧ ∃ j : Fam w, w'' = j.w' :=
  h.mono fun _ w1 ⟨he, hm⟩ => ⟨he, i, hm⟩
theorem wp_region_fam {P : Program} {a : Act} {id : Nat} {Q : Exit → Act → World → Prop} {w : World} {l : List Oper} (hm : P.follows .mixedOrders = true) (hB : Region.lexB .any l.toArray = true)
    (h : wpQuiet P l.toArray (fun w' => ∃ i : Fam w, w' = i.w') (fun a' => ∀ w', (∃ i : Fam w, w' = i.w') → Q .normal a' w') l a) : (Code.region id l.toArray true).wp P Q a w :=
  wp_region_quiet (C := fun w' => ∃ i : Fam w, w' = i.w') hm hB ⟨⟨w.drew, (Chg.refl Non w).drew⟩, rfl⟩ (by simpa using h)
end Go.Proofs.Ytebdaoihajjgmaa
