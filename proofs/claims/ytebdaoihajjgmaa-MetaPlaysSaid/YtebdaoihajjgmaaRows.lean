/-
  No cell of these rows narrows 'for every input' (looked for: loops, veiled, ifaces, maps, wideKeys, modest, calm, conditions, laid).
  DERIVED. THE GIVEN ROWS OF THIS SEAT. 4 by the template 'for every input the law returns true; each argument reads behind the call as it read before'; 0 by the template 'total and deterministic' (their statements: YtebdaoihajjgmaaTotals.lean).
  GIVEN WITH THE SEED: the statements are not yours to turn. If you find one false, say at which input.
  Laid BY PROGRAM, IN A SANDBOX (cutbox-rows.mjs): the forced cells as the released guide's own fill.sh prints them over the translation 0731203be7cc0712… (all of the seat's roots in one cut). By AI agents, Wed Nov 11 2026. No macro, syntax, notation, axiom, sorry.
-/
import Derived.Test.YtebdaoihajjgmaaChecked
import GoSem.Claim
import GoSem.ClaimJoined
import GoSem.ClaimMapViews
import Derived.JoinedTies
import Derived.KernelRfl
namespace Go.Proofs.Ytebdaoihajjgmaa
/- THE CELL 'sum', in the pinned program and in every row, IS THE sha256 OF THE DUMP (.gsa) THAT YtebdaoihajjgmaaProg.lean LOADS. Nothing in Lean hashes anything: it is a label: what it is worth is what the hold of that sum in a sandbox is worth. -/
noncomputable def Try.pinned : Pinned := { name := "ytebdaoihajjgmaa", sum := "0731203be7cc0712af86911fc75f27c91c0bed4469d3b96a80026af82ed8890a", checked := Try.checked }
namespace Rows
def none {H : Type} : Left H := { results := [], args := [] }

/-- 'wardmotelaw11.MetaNews': WHATEVER THE INPUT: true; the input reads as it did. -/
def metaNewsSpec : ChangeSpec := { name := "metaNews", fn := fun _ => fun
  | [d1, d2] => { results := [.lit (.bool true)], args := [d1, d2] }
  | _ => none }
def metaNewsRow : OpenClaim := { program := "ytebdaoihajjgmaa", sum := "0731203be7cc0712af86911fc75f27c91c0bed4469d3b96a80026af82ed8890a", func := "wardmote/wardmotelaw11.MetaNews", spec := "metaNews", unfollowed := true, recurses := true, apart := false }
def MetaNewsSaid : Prop := metaNewsRow.holds Try.pinned (OpenSpec.ofChange metaNewsSpec)

/-- ITS FALSE NEIGHBOUR: 'it returns false'. Refute it at one input. -/
def metaNewsWrong : ChangeSpec := { name := "metaNews", fn := fun _ => fun
  | [d1, d2] => { results := [.lit (.bool false)], args := [d1, d2] }
  | _ => none }
def MetaNewsWrongFalsely : Prop := metaNewsRow.holds Try.pinned (OpenSpec.ofChange metaNewsWrong)

/-- 'wardmotelaw11.MetaSplits': WHATEVER THE INPUT: true; the input reads as it did. -/
def metaSplitsSpec : ChangeSpec := { name := "metaSplits", fn := fun _ => fun
  | [d1, d2] => { results := [.lit (.bool true)], args := [d1, d2] }
  | _ => none }
def metaSplitsRow : OpenClaim := { program := "ytebdaoihajjgmaa", sum := "0731203be7cc0712af86911fc75f27c91c0bed4469d3b96a80026af82ed8890a", func := "wardmote/wardmotelaw11.MetaSplits", spec := "metaSplits", unfollowed := true, recurses := true, apart := false }
def MetaSplitsSaid : Prop := metaSplitsRow.holds Try.pinned (OpenSpec.ofChange metaSplitsSpec)

/-- ITS FALSE NEIGHBOUR: 'it returns false'. Refute it at one input. -/
def metaSplitsWrong : ChangeSpec := { name := "metaSplits", fn := fun _ => fun
  | [d1, d2] => { results := [.lit (.bool false)], args := [d1, d2] }
  | _ => none }
def MetaSplitsWrongFalsely : Prop := metaSplitsRow.holds Try.pinned (OpenSpec.ofChange metaSplitsWrong)

/-- 'wardmotelaw11.MetaNumbers': WHATEVER THE INPUT: true; the input reads as it did. -/
def metaNumbersSpec : ChangeSpec := { name := "metaNumbers", fn := fun _ => fun
  | [] => { results := [.lit (.bool true)], args := [] }
  | _ => none }
def metaNumbersRow : OpenClaim := { program := "ytebdaoihajjgmaa", sum := "0731203be7cc0712af86911fc75f27c91c0bed4469d3b96a80026af82ed8890a", func := "wardmote/wardmotelaw11.MetaNumbers", spec := "metaNumbers", unfollowed := true, recurses := true, apart := false }
def MetaNumbersSaid : Prop := metaNumbersRow.holds Try.pinned (OpenSpec.ofChange metaNumbersSpec)

/-- ITS FALSE NEIGHBOUR: 'it returns false'. Refute it at one input. -/
def metaNumbersWrong : ChangeSpec := { name := "metaNumbers", fn := fun _ => fun
  | [] => { results := [.lit (.bool false)], args := [] }
  | _ => none }
def MetaNumbersWrongFalsely : Prop := metaNumbersRow.holds Try.pinned (OpenSpec.ofChange metaNumbersWrong)

/-- 'wardmotelaw11.MetaPlays': WHATEVER THE INPUT: true; the input reads as it did. -/
def metaPlaysSpec : ChangeSpec := { name := "metaPlays", fn := fun _ => fun
  | [d] => { results := [.lit (.bool true)], args := [d] }
  | _ => none }
def metaPlaysRow : OpenClaim := { program := "ytebdaoihajjgmaa", sum := "0731203be7cc0712af86911fc75f27c91c0bed4469d3b96a80026af82ed8890a", func := "wardmote/wardmotelaw11.MetaPlays", spec := "metaPlays", unfollowed := true, recurses := true, apart := false }
def MetaPlaysSaid : Prop := metaPlaysRow.holds Try.pinned (OpenSpec.ofChange metaPlaysSpec)

/-- ITS FALSE NEIGHBOUR: 'it returns false'. Refute it at one input. -/
def metaPlaysWrong : ChangeSpec := { name := "metaPlays", fn := fun _ => fun
  | [d] => { results := [.lit (.bool false)], args := [d] }
  | _ => none }
def MetaPlaysWrongFalsely : Prop := metaPlaysRow.holds Try.pinned (OpenSpec.ofChange metaPlaysWrong)

/- THE SECOND FORM. 'bulk': how many values and letters a reading holds, each counted each time it is reached (what is shared counts as often as it is met; a slice's spare places count too). A statement '..UptoSaid' is the law's where the arguments, and the package variables that the reading takes, are together of bulk at most 1048576: NARROWER than '..Said'. Prove '..Said' where nothing that the law and all that it calls make is longer than what came in: it says more and counts as full. Else prove '..UptoSaid'. A law counts once. -/
mutual
def uptoBulk {H : Type} : DataW H → Nat
  | .lit (.string bytes) => bytes.length + 1
  | .lit _ => 1
  | .nil => 1
  | .ptr d => uptoBulk d + 1
  | .slice elems spare => uptoBulkAll elems + uptoBulkAll spare + 1
  | .agg parts => uptoBulkAll parts + 1
  | .iface _ d => uptoBulk d + 1
  | .map entries => uptoBulkEntries entries + 1
  | .held _ => 1
def uptoBulkAll {H : Type} : List (DataW H) → Nat
  | [] => 0
  | d :: r => uptoBulk d + uptoBulkAll r
def uptoBulkEntries {H : Type} : List (Lit × DataW H) → Nat
  | [] => 0
  | x :: r => uptoBulkEntry x + uptoBulkEntries r
def uptoBulkEntry {H : Type} : Lit × DataW H → Nat
  | (.string bytes, d) => bytes.length + uptoBulk d + 1
  | (_, d) => uptoBulk d + 1
 end
def uptoSmall : (H : Type) → List (DataW H) → Bool := fun _ ds => decide (uptoBulkAll ds ≤ 1048576)
def OpenSpec.upto (s : _root_.Go.ChangeSpec) : _root_.Go.OpenSpec := { _root_.Go.OpenSpec.ofChange s with cond := some uptoSmall }

/-- 'wardmotelaw11.MetaNews', WHERE WHAT IT READS IS OF BULK AT MOST 1048576: true; the input reads as it did. -/
def metaNewsUptoRow : OpenClaim := { program := "ytebdaoihajjgmaa", sum := "0731203be7cc0712af86911fc75f27c91c0bed4469d3b96a80026af82ed8890a", func := "wardmote/wardmotelaw11.MetaNews", spec := "metaNews", unfollowed := true, recurses := true, apart := false, narrowed := true }
def MetaNewsUptoSaid : Prop := metaNewsUptoRow.holds Try.pinned (OpenSpec.upto metaNewsSpec)

/-- 'wardmotelaw11.MetaSplits', WHERE WHAT IT READS IS OF BULK AT MOST 1048576: true; the input reads as it did. -/
def metaSplitsUptoRow : OpenClaim := { program := "ytebdaoihajjgmaa", sum := "0731203be7cc0712af86911fc75f27c91c0bed4469d3b96a80026af82ed8890a", func := "wardmote/wardmotelaw11.MetaSplits", spec := "metaSplits", unfollowed := true, recurses := true, apart := false, narrowed := true }
def MetaSplitsUptoSaid : Prop := metaSplitsUptoRow.holds Try.pinned (OpenSpec.upto metaSplitsSpec)

/-- 'wardmotelaw11.MetaNumbers', WHERE WHAT IT READS IS OF BULK AT MOST 1048576: true; the input reads as it did. -/
def metaNumbersUptoRow : OpenClaim := { program := "ytebdaoihajjgmaa", sum := "0731203be7cc0712af86911fc75f27c91c0bed4469d3b96a80026af82ed8890a", func := "wardmote/wardmotelaw11.MetaNumbers", spec := "metaNumbers", unfollowed := true, recurses := true, apart := false, narrowed := true }
def MetaNumbersUptoSaid : Prop := metaNumbersUptoRow.holds Try.pinned (OpenSpec.upto metaNumbersSpec)

/-- 'wardmotelaw11.MetaPlays', WHERE WHAT IT READS IS OF BULK AT MOST 1048576: true; the input reads as it did. -/
def metaPlaysUptoRow : OpenClaim := { program := "ytebdaoihajjgmaa", sum := "0731203be7cc0712af86911fc75f27c91c0bed4469d3b96a80026af82ed8890a", func := "wardmote/wardmotelaw11.MetaPlays", spec := "metaPlays", unfollowed := true, recurses := true, apart := false, narrowed := true }
def MetaPlaysUptoSaid : Prop := metaPlaysUptoRow.holds Try.pinned (OpenSpec.upto metaPlaysSpec)

end Rows
end Go.Proofs.Ytebdaoihajjgmaa
