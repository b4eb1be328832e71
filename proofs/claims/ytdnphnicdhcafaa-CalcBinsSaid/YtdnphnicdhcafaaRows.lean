/-
  No cell of these rows narrows 'for every input' (looked for: loops, veiled, ifaces, maps, wideKeys, modest, calm, conditions, laid).
  DERIVED. THE GIVEN ROWS OF THIS SEAT. 9 by the template 'for every input the law returns true; each argument reads behind the call as it read before'; 0 by the template 'total and deterministic' (their statements: YtdnphnicdhcafaaTotals.lean).
  GIVEN WITH THE SEED: the statements are not yours to turn. If you find one false, say at which input.
  Laid BY PROGRAM, IN A SANDBOX (cutbox-rows.mjs): the forced cells as the released guide's own fill.sh prints them over the translation 4921041eec2e999b… (all of the seat's roots in one cut). By AI agents, Wed Nov 11 2026. No macro, syntax, notation, axiom, sorry.
-/
import Derived.Test.YtdnphnicdhcafaaChecked
import GoSem.Claim
import GoSem.ClaimJoined
import GoSem.ClaimMapViews
import Derived.JoinedTies
import Derived.KernelRfl
namespace Go.Proofs.Ytdnphnicdhcafaa
/- THE CELL 'sum', in the pinned program and in every row, IS THE sha256 OF THE DUMP (.gsa) THAT YtdnphnicdhcafaaProg.lean LOADS. Nothing in Lean hashes anything: it is a label: what it is worth is what the hold of that sum in a sandbox is worth. -/
noncomputable def Try.pinned : Pinned := { name := "ytdnphnicdhcafaa", sum := "4921041eec2e999bda8f0d267f87eca9961ff03e46f39c6ff14ad1c37c26daca", checked := Try.checked }
namespace Rows
def none {H : Type} : Left H := { results := [], args := [] }

/-- 'spinnakerlaw28.CalcBins': WHATEVER THE INPUT: true; the input reads as it did. -/
def calcBinsSpec : ChangeSpec := { name := "calcBins", fn := fun _ => fun
  | [d1, d2, d3] => { results := [.lit (.bool true)], args := [d1, d2, d3] }
  | _ => none }
def calcBinsRow : OpenClaim := { program := "ytdnphnicdhcafaa", sum := "4921041eec2e999bda8f0d267f87eca9961ff03e46f39c6ff14ad1c37c26daca", func := "spinnaker/spinnakerlaw28.CalcBins", spec := "calcBins", unfollowed := true, recurses := true, apart := false }
def CalcBinsSaid : Prop := calcBinsRow.holds Try.pinned (OpenSpec.ofChange calcBinsSpec)

/-- ITS FALSE NEIGHBOUR: 'it returns false'. Refute it at one input. -/
def calcBinsWrong : ChangeSpec := { name := "calcBins", fn := fun _ => fun
  | [d1, d2, d3] => { results := [.lit (.bool false)], args := [d1, d2, d3] }
  | _ => none }
def CalcBinsWrongFalsely : Prop := calcBinsRow.holds Try.pinned (OpenSpec.ofChange calcBinsWrong)

/-- 'spinnakerlaw28.CalcRmws': WHATEVER THE INPUT: true; the input reads as it did. -/
def calcRmwsSpec : ChangeSpec := { name := "calcRmws", fn := fun _ => fun
  | [d1, d2, d3] => { results := [.lit (.bool true)], args := [d1, d2, d3] }
  | _ => none }
def calcRmwsRow : OpenClaim := { program := "ytdnphnicdhcafaa", sum := "4921041eec2e999bda8f0d267f87eca9961ff03e46f39c6ff14ad1c37c26daca", func := "spinnaker/spinnakerlaw28.CalcRmws", spec := "calcRmws", unfollowed := true, recurses := true, apart := false }
def CalcRmwsSaid : Prop := calcRmwsRow.holds Try.pinned (OpenSpec.ofChange calcRmwsSpec)

/-- ITS FALSE NEIGHBOUR: 'it returns false'. Refute it at one input. -/
def calcRmwsWrong : ChangeSpec := { name := "calcRmws", fn := fun _ => fun
  | [d1, d2, d3] => { results := [.lit (.bool false)], args := [d1, d2, d3] }
  | _ => none }
def CalcRmwsWrongFalsely : Prop := calcRmwsRow.holds Try.pinned (OpenSpec.ofChange calcRmwsWrong)

/-- 'spinnakerlaw28.CalcNothing': WHATEVER THE INPUT: true; the input reads as it did. -/
def calcNothingSpec : ChangeSpec := { name := "calcNothing", fn := fun _ => fun
  | [d] => { results := [.lit (.bool true)], args := [d] }
  | _ => none }
def calcNothingRow : OpenClaim := { program := "ytdnphnicdhcafaa", sum := "4921041eec2e999bda8f0d267f87eca9961ff03e46f39c6ff14ad1c37c26daca", func := "spinnaker/spinnakerlaw28.CalcNothing", spec := "calcNothing", unfollowed := true, recurses := true, apart := false }
def CalcNothingSaid : Prop := calcNothingRow.holds Try.pinned (OpenSpec.ofChange calcNothingSpec)

/-- ITS FALSE NEIGHBOUR: 'it returns false'. Refute it at one input. -/
def calcNothingWrong : ChangeSpec := { name := "calcNothing", fn := fun _ => fun
  | [d] => { results := [.lit (.bool false)], args := [d] }
  | _ => none }
def CalcNothingWrongFalsely : Prop := calcNothingRow.holds Try.pinned (OpenSpec.ofChange calcNothingWrong)

/-- 'spinnakerlaw29.ViewJoins': WHATEVER THE INPUT: true; the input reads as it did. -/
def viewJoinsSpec : ChangeSpec := { name := "viewJoins", fn := fun _ => fun
  | [d1, d2, d3] => { results := [.lit (.bool true)], args := [d1, d2, d3] }
  | _ => none }
def viewJoinsRow : OpenClaim := { program := "ytdnphnicdhcafaa", sum := "4921041eec2e999bda8f0d267f87eca9961ff03e46f39c6ff14ad1c37c26daca", func := "spinnaker/spinnakerlaw29.ViewJoins", spec := "viewJoins", apart := false }
def ViewJoinsSaid : Prop := viewJoinsRow.holds Try.pinned (OpenSpec.ofChange viewJoinsSpec)

/-- ITS FALSE NEIGHBOUR: 'it returns false'. Refute it at one input. -/
def viewJoinsWrong : ChangeSpec := { name := "viewJoins", fn := fun _ => fun
  | [d1, d2, d3] => { results := [.lit (.bool false)], args := [d1, d2, d3] }
  | _ => none }
def ViewJoinsWrongFalsely : Prop := viewJoinsRow.holds Try.pinned (OpenSpec.ofChange viewJoinsWrong)

/-- 'spinnakerlaw29.ViewLeast': WHATEVER THE INPUT: true; the input reads as it did. -/
def viewLeastSpec : ChangeSpec := { name := "viewLeast", fn := fun _ => fun
  | [d1, d2, d3] => { results := [.lit (.bool true)], args := [d1, d2, d3] }
  | _ => none }
def viewLeastRow : OpenClaim := { program := "ytdnphnicdhcafaa", sum := "4921041eec2e999bda8f0d267f87eca9961ff03e46f39c6ff14ad1c37c26daca", func := "spinnaker/spinnakerlaw29.ViewLeast", spec := "viewLeast", apart := false }
def ViewLeastSaid : Prop := viewLeastRow.holds Try.pinned (OpenSpec.ofChange viewLeastSpec)

/-- ITS FALSE NEIGHBOUR: 'it returns false'. Refute it at one input. -/
def viewLeastWrong : ChangeSpec := { name := "viewLeast", fn := fun _ => fun
  | [d1, d2, d3] => { results := [.lit (.bool false)], args := [d1, d2, d3] }
  | _ => none }
def ViewLeastWrongFalsely : Prop := viewLeastRow.holds Try.pinned (OpenSpec.ofChange viewLeastWrong)

/-- 'spinnakerlaw29.ViewChanges': WHATEVER THE INPUT: true; the input reads as it did. -/
def viewChangesSpec : ChangeSpec := { name := "viewChanges", fn := fun _ => fun
  | [d1, d2, d3] => { results := [.lit (.bool true)], args := [d1, d2, d3] }
  | _ => none }
def viewChangesRow : OpenClaim := { program := "ytdnphnicdhcafaa", sum := "4921041eec2e999bda8f0d267f87eca9961ff03e46f39c6ff14ad1c37c26daca", func := "spinnaker/spinnakerlaw29.ViewChanges", spec := "viewChanges", unfollowed := true, recurses := true, apart := false }
def ViewChangesSaid : Prop := viewChangesRow.holds Try.pinned (OpenSpec.ofChange viewChangesSpec)

/-- ITS FALSE NEIGHBOUR: 'it returns false'. Refute it at one input. -/
def viewChangesWrong : ChangeSpec := { name := "viewChanges", fn := fun _ => fun
  | [d1, d2, d3] => { results := [.lit (.bool false)], args := [d1, d2, d3] }
  | _ => none }
def ViewChangesWrongFalsely : Prop := viewChangesRow.holds Try.pinned (OpenSpec.ofChange viewChangesWrong)

/-- 'spinnakerlaw30.BufferAsks': WHATEVER THE INPUT: true; the input reads as it did. -/
def bufferAsksSpec : ChangeSpec := { name := "bufferAsks", fn := fun _ => fun
  | [d1, d2, d3] => { results := [.lit (.bool true)], args := [d1, d2, d3] }
  | _ => none }
def bufferAsksRow : OpenClaim := { program := "ytdnphnicdhcafaa", sum := "4921041eec2e999bda8f0d267f87eca9961ff03e46f39c6ff14ad1c37c26daca", func := "spinnaker/spinnakerlaw30.BufferAsks", spec := "bufferAsks", unfollowed := true, recurses := true, apart := false }
def BufferAsksSaid : Prop := bufferAsksRow.holds Try.pinned (OpenSpec.ofChange bufferAsksSpec)

/-- ITS FALSE NEIGHBOUR: 'it returns false'. Refute it at one input. -/
def bufferAsksWrong : ChangeSpec := { name := "bufferAsks", fn := fun _ => fun
  | [d1, d2, d3] => { results := [.lit (.bool false)], args := [d1, d2, d3] }
  | _ => none }
def BufferAsksWrongFalsely : Prop := bufferAsksRow.holds Try.pinned (OpenSpec.ofChange bufferAsksWrong)

/-- 'spinnakerlaw30.BufferCommits': WHATEVER THE INPUT: true; the input reads as it did. -/
def bufferCommitsSpec : ChangeSpec := { name := "bufferCommits", fn := fun _ => fun
  | [d1, d2, d3] => { results := [.lit (.bool true)], args := [d1, d2, d3] }
  | _ => none }
def bufferCommitsRow : OpenClaim := { program := "ytdnphnicdhcafaa", sum := "4921041eec2e999bda8f0d267f87eca9961ff03e46f39c6ff14ad1c37c26daca", func := "spinnaker/spinnakerlaw30.BufferCommits", spec := "bufferCommits", unfollowed := true, recurses := true, apart := false }
def BufferCommitsSaid : Prop := bufferCommitsRow.holds Try.pinned (OpenSpec.ofChange bufferCommitsSpec)

/-- ITS FALSE NEIGHBOUR: 'it returns false'. Refute it at one input. -/
def bufferCommitsWrong : ChangeSpec := { name := "bufferCommits", fn := fun _ => fun
  | [d1, d2, d3] => { results := [.lit (.bool false)], args := [d1, d2, d3] }
  | _ => none }
def BufferCommitsWrongFalsely : Prop := bufferCommitsRow.holds Try.pinned (OpenSpec.ofChange bufferCommitsWrong)

/-- 'spinnakerlaw30.BufferGoes': WHATEVER THE INPUT: true; the input reads as it did. -/
def bufferGoesSpec : ChangeSpec := { name := "bufferGoes", fn := fun _ => fun
  | [d] => { results := [.lit (.bool true)], args := [d] }
  | _ => none }
def bufferGoesRow : OpenClaim := { program := "ytdnphnicdhcafaa", sum := "4921041eec2e999bda8f0d267f87eca9961ff03e46f39c6ff14ad1c37c26daca", func := "spinnaker/spinnakerlaw30.BufferGoes", spec := "bufferGoes", unfollowed := true, recurses := true, apart := false }
def BufferGoesSaid : Prop := bufferGoesRow.holds Try.pinned (OpenSpec.ofChange bufferGoesSpec)

/-- ITS FALSE NEIGHBOUR: 'it returns false'. Refute it at one input. -/
def bufferGoesWrong : ChangeSpec := { name := "bufferGoes", fn := fun _ => fun
  | [d] => { results := [.lit (.bool false)], args := [d] }
  | _ => none }
def BufferGoesWrongFalsely : Prop := bufferGoesRow.holds Try.pinned (OpenSpec.ofChange bufferGoesWrong)

/- THE SECOND FORM. 'bulk': how many values and letters a reading holds, each counted each time it is reached (what is shared counts as often as it is met; a slice's spare places count too). A statement '..UptoSaid' is the law's where the arguments, and the package variables that the reading takes, are together of bulk at most 1048576: NARROWER than '..Said'. Prove '..Said' where nothing that the law and all that it calls make is longer than what came in: it says more and counts as full. Else prove '..UptoSaid'. A law counts once. -/
mutual
def uptoBulk {H : Type} : DataW H → Nat
  | .lit (.string bytes) => bytes.length + 1
  | .lit _ => 1
  | .nil => 1
  | .ptr d => uptoBulk d + 1
  | .slice elems spare => uptoBulkAll elems + uptoBulkAll spare + 1
  | .agg parts => uptoBulkAll parts + 1
  | .iface _ d => uptoBulk d + 1
  | .map entries => uptoBulkEntries entries + 1
  | .held _ => 1
def uptoBulkAll {H : Type} : List (DataW H) → Nat
  | [] => 0
  | d :: r => uptoBulk d + uptoBulkAll r
def uptoBulkEntries {H : Type} : List (Lit × DataW H) → Nat
  | [] => 0
  | x :: r => uptoBulkEntry x + uptoBulkEntries r
def uptoBulkEntry {H : Type} : Lit × DataW H → Nat
  | (.string bytes, d) => bytes.length + uptoBulk d + 1
  | (_, d) => uptoBulk d + 1
 end
def uptoSmall : (H : Type) → List (DataW H) → Bool := fun _ ds => decide (uptoBulkAll ds ≤ 1048576)
def OpenSpec.upto (s : _root_.Go.ChangeSpec) : _root_.Go.OpenSpec := { _root_.Go.OpenSpec.ofChange s with cond := some uptoSmall }

/-- 'spinnakerlaw28.CalcBins', WHERE WHAT IT READS IS OF BULK AT MOST 1048576: true; the input reads as it did. -/
def calcBinsUptoRow : OpenClaim := { program := "ytdnphnicdhcafaa", sum := "4921041eec2e999bda8f0d267f87eca9961ff03e46f39c6ff14ad1c37c26daca", func := "spinnaker/spinnakerlaw28.CalcBins", spec := "calcBins", unfollowed := true, recurses := true, apart := false, narrowed := true }
def CalcBinsUptoSaid : Prop := calcBinsUptoRow.holds Try.pinned (OpenSpec.upto calcBinsSpec)

/-- 'spinnakerlaw28.CalcRmws', WHERE WHAT IT READS IS OF BULK AT MOST 1048576: true; the input reads as it did. -/
def calcRmwsUptoRow : OpenClaim := { program := "ytdnphnicdhcafaa", sum := "4921041eec2e999bda8f0d267f87eca9961ff03e46f39c6ff14ad1c37c26daca", func := "spinnaker/spinnakerlaw28.CalcRmws", spec := "calcRmws", unfollowed := true, recurses := true, apart := false, narrowed := true }
def CalcRmwsUptoSaid : Prop := calcRmwsUptoRow.holds Try.pinned (OpenSpec.upto calcRmwsSpec)

/-- 'spinnakerlaw28.CalcNothing', WHERE WHAT IT READS IS OF BULK AT MOST 1048576: true; the input reads as it did. -/
def calcNothingUptoRow : OpenClaim := { program := "ytdnphnicdhcafaa", sum := "4921041eec2e999bda8f0d267f87eca9961ff03e46f39c6ff14ad1c37c26daca", func := "spinnaker/spinnakerlaw28.CalcNothing", spec := "calcNothing", unfollowed := true, recurses := true, apart := false, narrowed := true }
def CalcNothingUptoSaid : Prop := calcNothingUptoRow.holds Try.pinned (OpenSpec.upto calcNothingSpec)

/-- 'spinnakerlaw29.ViewJoins', WHERE WHAT IT READS IS OF BULK AT MOST 1048576: true; the input reads as it did. -/
def viewJoinsUptoRow : OpenClaim := { program := "ytdnphnicdhcafaa", sum := "4921041eec2e999bda8f0d267f87eca9961ff03e46f39c6ff14ad1c37c26daca", func := "spinnaker/spinnakerlaw29.ViewJoins", spec := "viewJoins", apart := false, narrowed := true }
def ViewJoinsUptoSaid : Prop := viewJoinsUptoRow.holds Try.pinned (OpenSpec.upto viewJoinsSpec)

/-- 'spinnakerlaw29.ViewLeast', WHERE WHAT IT READS IS OF BULK AT MOST 1048576: true; the input reads as it did. -/
def viewLeastUptoRow : OpenClaim := { program := "ytdnphnicdhcafaa", sum := "4921041eec2e999bda8f0d267f87eca9961ff03e46f39c6ff14ad1c37c26daca", func := "spinnaker/spinnakerlaw29.ViewLeast", spec := "viewLeast", apart := false, narrowed := true }
def ViewLeastUptoSaid : Prop := viewLeastUptoRow.holds Try.pinned (OpenSpec.upto viewLeastSpec)

/-- 'spinnakerlaw29.ViewChanges', WHERE WHAT IT READS IS OF BULK AT MOST 1048576: true; the input reads as it did. -/
def viewChangesUptoRow : OpenClaim := { program := "ytdnphnicdhcafaa", sum := "4921041eec2e999bda8f0d267f87eca9961ff03e46f39c6ff14ad1c37c26daca", func := "spinnaker/spinnakerlaw29.ViewChanges", spec := "viewChanges", unfollowed := true, recurses := true, apart := false, narrowed := true }
def ViewChangesUptoSaid : Prop := viewChangesUptoRow.holds Try.pinned (OpenSpec.upto viewChangesSpec)

/-- 'spinnakerlaw30.BufferAsks', WHERE WHAT IT READS IS OF BULK AT MOST 1048576: true; the input reads as it did. -/
def bufferAsksUptoRow : OpenClaim := { program := "ytdnphnicdhcafaa", sum := "4921041eec2e999bda8f0d267f87eca9961ff03e46f39c6ff14ad1c37c26daca", func := "spinnaker/spinnakerlaw30.BufferAsks", spec := "bufferAsks", unfollowed := true, recurses := true, apart := false, narrowed := true }
def BufferAsksUptoSaid : Prop := bufferAsksUptoRow.holds Try.pinned (OpenSpec.upto bufferAsksSpec)

/-- 'spinnakerlaw30.BufferCommits', WHERE WHAT IT READS IS OF BULK AT MOST 1048576: true; the input reads as it did. -/
def bufferCommitsUptoRow : OpenClaim := { program := "ytdnphnicdhcafaa", sum := "4921041eec2e999bda8f0d267f87eca9961ff03e46f39c6ff14ad1c37c26daca", func := "spinnaker/spinnakerlaw30.BufferCommits", spec := "bufferCommits", unfollowed := true, recurses := true, apart := false, narrowed := true }
def BufferCommitsUptoSaid : Prop := bufferCommitsUptoRow.holds Try.pinned (OpenSpec.upto bufferCommitsSpec)

/-- 'spinnakerlaw30.BufferGoes', WHERE WHAT IT READS IS OF BULK AT MOST 1048576: true; the input reads as it did. -/
def bufferGoesUptoRow : OpenClaim := { program := "ytdnphnicdhcafaa", sum := "4921041eec2e999bda8f0d267f87eca9961ff03e46f39c6ff14ad1c37c26daca", func := "spinnaker/spinnakerlaw30.BufferGoes", spec := "bufferGoes", unfollowed := true, recurses := true, apart := false, narrowed := true }
def BufferGoesUptoSaid : Prop := bufferGoesUptoRow.holds Try.pinned (OpenSpec.upto bufferGoesSpec)

end Rows
end Go.Proofs.Ytdnphnicdhcafaa
