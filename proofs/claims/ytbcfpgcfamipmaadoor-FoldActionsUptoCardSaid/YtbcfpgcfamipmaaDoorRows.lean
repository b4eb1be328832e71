/-
  NARROWER THAN 'FOR EVERY INPUT', by the rows' own cells (each row's printed sentence says how): FoldThreads: laid · FoldActions: laid · DeadActions: laid · DeadLives: laid · DeadCleans: laid.
  DERIVED. THE GIVEN ROWS OF THIS SEAT. 5 by the template 'for every input the law returns true; each argument reads behind the call as it read before'; 0 by the template 'total and deterministic' (their statements: YtbcfpgcfamipmaaDoorTotals.lean).
  GIVEN WITH THE SEED: the statements are not yours to turn. If you find one false, say at which input.
  Laid BY PROGRAM, IN A SANDBOX (cutbox-rows.mjs): the forced cells as the released guide's own fill.sh prints them over the translation ae34fe31c538adec… (all of the seat's roots in one cut). By AI agents, Wed Nov 11 2026. No macro, syntax, notation, axiom, sorry.
-/
import Derived.Test.YtbcfpgcfamipmaaDoorChecked
import GoSem.Claim
import GoSem.ClaimJoined
import GoSem.ClaimMapViews
import Derived.JoinedTies
import Derived.KernelRfl
namespace Go.Proofs.YtbcfpgcfamipmaaDoor
/- THE CELL 'sum', in the pinned program and in every row, IS THE sha256 OF THE DUMP (.gsa) THAT YtbcfpgcfamipmaaDoorProg.lean LOADS. Nothing in Lean hashes anything: it is a label: what it is worth is what the hold of that sum in a sandbox is worth. -/
noncomputable def Tryd.pinned : Pinned := { name := "ytbcfpgcfamipmaadoor", sum := "ae34fe31c538adec81119b07ff5d8e6fa178a3174531e8b710def01e3723a02c", checked := Tryd.checked }
namespace Rows
def none {H : Type} : Left H := { results := [], args := [] }

/- WHAT THE LISTED PACKAGE-LEVEL VARIABLES READ AS WHEN THE CALL BEGINS. Each datum BY PROGRAM (the guide's laid-datum.mjs) off the statement by which the dump's own 'gosem.cut.vars' lays the variable. In a bare row this is a premise. The card (YtbcfpgcfamipmaaDoorCards.lean) ties it to the program's text. -/
def laid_spinnaker_ir_ops {H : Type} : DataW H := .agg [.agg [.lit (.string []), .lit (.int .i64 0)], .agg [.lit (.string [99, 111, 110, 115, 116]), .lit (.int .i64 17)], .agg [.lit (.string [99, 111, 112, 121]), .lit (.int .i64 3)], .agg [.lit (.string [98, 105, 110]), .lit (.int .i64 39)], .agg [.lit (.string [103, 101, 116]), .lit (.int .i64 67)], .agg [.lit (.string [112, 117, 116]), .lit (.int .i64 70)], .agg [.lit (.string [108, 111, 97, 100]), .lit (.int .i64 897)], .agg [.lit (.string [115, 116, 111, 114, 101]), .lit (.int .i64 898)], .agg [.lit (.string [114, 109, 119]), .lit (.int .i64 907)], .agg [.lit (.string [99, 97, 115]), .lit (.int .i64 903)], .agg [.lit (.string [102, 101, 110, 99, 101]), .lit (.int .i64 256)], .agg [.lit (.string [112, 114, 105, 110, 116]), .lit (.int .i64 514)]]

/-- 'spinnakerlaw34.FoldThreads': WHATEVER THE INPUT: true; the input reads as it did. -/
def foldThreadsSpec : ChangeSpec := { name := "foldThreads", fn := fun _ => fun
  | [d] => { results := [.lit (.bool true)], args := [d] }
  | _ => none }
def foldThreadsRow : OpenClaim := { program := "ytbcfpgcfamipmaadoor", sum := "ae34fe31c538adec81119b07ff5d8e6fa178a3174531e8b710def01e3723a02c", func := "spinnaker/spinnakerlaw34.FoldThreads", spec := "foldThreads", unfollowed := true, recurses := true, named := ["spinnaker/ir.ops"], apart := false, laid := [("spinnaker/ir.ops", laid_spinnaker_ir_ops)] }
def FoldThreadsSaid : Prop := foldThreadsRow.holds Tryd.pinned (OpenSpec.ofChange foldThreadsSpec)

/-- ITS FALSE NEIGHBOUR: 'it returns false'. Refute it at one input. -/
def foldThreadsWrong : ChangeSpec := { name := "foldThreads", fn := fun _ => fun
  | [d] => { results := [.lit (.bool false)], args := [d] }
  | _ => none }
def FoldThreadsWrongFalsely : Prop := foldThreadsRow.holds Tryd.pinned (OpenSpec.ofChange foldThreadsWrong)

/-- 'spinnakerlaw34.FoldActions': WHATEVER THE INPUT: true; the input reads as it did. -/
def foldActionsSpec : ChangeSpec := { name := "foldActions", fn := fun _ => fun
  | [d] => { results := [.lit (.bool true)], args := [d] }
  | _ => none }
def foldActionsRow : OpenClaim := { program := "ytbcfpgcfamipmaadoor", sum := "ae34fe31c538adec81119b07ff5d8e6fa178a3174531e8b710def01e3723a02c", func := "spinnaker/spinnakerlaw34.FoldActions", spec := "foldActions", unfollowed := true, recurses := true, named := ["spinnaker/ir.ops"], apart := false, laid := [("spinnaker/ir.ops", laid_spinnaker_ir_ops)] }
def FoldActionsSaid : Prop := foldActionsRow.holds Tryd.pinned (OpenSpec.ofChange foldActionsSpec)

/-- ITS FALSE NEIGHBOUR: 'it returns false'. Refute it at one input. -/
def foldActionsWrong : ChangeSpec := { name := "foldActions", fn := fun _ => fun
  | [d] => { results := [.lit (.bool false)], args := [d] }
  | _ => none }
def FoldActionsWrongFalsely : Prop := foldActionsRow.holds Tryd.pinned (OpenSpec.ofChange foldActionsWrong)

/-- 'spinnakerlaw35.DeadActions': WHATEVER THE INPUT: true; the input reads as it did. -/
def deadActionsSpec : ChangeSpec := { name := "deadActions", fn := fun _ => fun
  | [d] => { results := [.lit (.bool true)], args := [d] }
  | _ => none }
def deadActionsRow : OpenClaim := { program := "ytbcfpgcfamipmaadoor", sum := "ae34fe31c538adec81119b07ff5d8e6fa178a3174531e8b710def01e3723a02c", func := "spinnaker/spinnakerlaw35.DeadActions", spec := "deadActions", unfollowed := true, recurses := true, named := ["spinnaker/ir.ops"], apart := false, laid := [("spinnaker/ir.ops", laid_spinnaker_ir_ops)] }
def DeadActionsSaid : Prop := deadActionsRow.holds Tryd.pinned (OpenSpec.ofChange deadActionsSpec)

/-- ITS FALSE NEIGHBOUR: 'it returns false'. Refute it at one input. -/
def deadActionsWrong : ChangeSpec := { name := "deadActions", fn := fun _ => fun
  | [d] => { results := [.lit (.bool false)], args := [d] }
  | _ => none }
def DeadActionsWrongFalsely : Prop := deadActionsRow.holds Tryd.pinned (OpenSpec.ofChange deadActionsWrong)

/-- 'spinnakerlaw35.DeadLives': WHATEVER THE INPUT: true; the input reads as it did. -/
def deadLivesSpec : ChangeSpec := { name := "deadLives", fn := fun _ => fun
  | [d] => { results := [.lit (.bool true)], args := [d] }
  | _ => none }
def deadLivesRow : OpenClaim := { program := "ytbcfpgcfamipmaadoor", sum := "ae34fe31c538adec81119b07ff5d8e6fa178a3174531e8b710def01e3723a02c", func := "spinnaker/spinnakerlaw35.DeadLives", spec := "deadLives", unfollowed := true, recurses := true, named := ["spinnaker/ir.ops"], apart := false, laid := [("spinnaker/ir.ops", laid_spinnaker_ir_ops)] }
def DeadLivesSaid : Prop := deadLivesRow.holds Tryd.pinned (OpenSpec.ofChange deadLivesSpec)

/-- ITS FALSE NEIGHBOUR: 'it returns false'. Refute it at one input. -/
def deadLivesWrong : ChangeSpec := { name := "deadLives", fn := fun _ => fun
  | [d] => { results := [.lit (.bool false)], args := [d] }
  | _ => none }
def DeadLivesWrongFalsely : Prop := deadLivesRow.holds Tryd.pinned (OpenSpec.ofChange deadLivesWrong)

/-- 'spinnakerlaw35.DeadCleans': WHATEVER THE INPUT: true; the input reads as it did. -/
def deadCleansSpec : ChangeSpec := { name := "deadCleans", fn := fun _ => fun
  | [d] => { results := [.lit (.bool true)], args := [d] }
  | _ => none }
def deadCleansRow : OpenClaim := { program := "ytbcfpgcfamipmaadoor", sum := "ae34fe31c538adec81119b07ff5d8e6fa178a3174531e8b710def01e3723a02c", func := "spinnaker/spinnakerlaw35.DeadCleans", spec := "deadCleans", unfollowed := true, recurses := true, named := ["spinnaker/ir.ops"], apart := false, laid := [("spinnaker/ir.ops", laid_spinnaker_ir_ops)] }
def DeadCleansSaid : Prop := deadCleansRow.holds Tryd.pinned (OpenSpec.ofChange deadCleansSpec)

/-- ITS FALSE NEIGHBOUR: 'it returns false'. Refute it at one input. -/
def deadCleansWrong : ChangeSpec := { name := "deadCleans", fn := fun _ => fun
  | [d] => { results := [.lit (.bool false)], args := [d] }
  | _ => none }
def DeadCleansWrongFalsely : Prop := deadCleansRow.holds Tryd.pinned (OpenSpec.ofChange deadCleansWrong)

/- THE SECOND FORM. 'bulk': how many values and letters a reading holds, each counted each time it is reached (what is shared counts as often as it is met; a slice's spare places count too). A statement '..UptoSaid' is the law's where the arguments, and the package variables that the reading takes, are together of bulk at most 1048576: NARROWER than '..Said'. Prove '..Said' where nothing that the law and all that it calls make is longer than what came in: it says more and counts as full. Else prove '..UptoSaid'. A law counts once. -/
mutual
def uptoBulk {H : Type} : DataW H → Nat
  | .lit (.string bytes) => bytes.length + 1
  | .lit _ => 1
  | .nil => 1
  | .ptr d => uptoBulk d + 1
  | .slice elems spare => uptoBulkAll elems + uptoBulkAll spare + 1
  | .agg parts => uptoBulkAll parts + 1
  | .iface _ d => uptoBulk d + 1
  | .map entries => uptoBulkEntries entries + 1
  | .held _ => 1
def uptoBulkAll {H : Type} : List (DataW H) → Nat
  | [] => 0
  | d :: r => uptoBulk d + uptoBulkAll r
def uptoBulkEntries {H : Type} : List (Lit × DataW H) → Nat
  | [] => 0
  | x :: r => uptoBulkEntry x + uptoBulkEntries r
def uptoBulkEntry {H : Type} : Lit × DataW H → Nat
  | (.string bytes, d) => bytes.length + uptoBulk d + 1
  | (_, d) => uptoBulk d + 1
 end
def uptoSmall : (H : Type) → List (DataW H) → Bool := fun _ ds => decide (uptoBulkAll ds ≤ 1048576)
def OpenSpec.upto (s : _root_.Go.ChangeSpec) : _root_.Go.OpenSpec := { _root_.Go.OpenSpec.ofChange s with cond := some uptoSmall }

/-- 'spinnakerlaw34.FoldThreads', WHERE WHAT IT READS IS OF BULK AT MOST 1048576: true; the input reads as it did. -/
def foldThreadsUptoRow : OpenClaim := { program := "ytbcfpgcfamipmaadoor", sum := "ae34fe31c538adec81119b07ff5d8e6fa178a3174531e8b710def01e3723a02c", func := "spinnaker/spinnakerlaw34.FoldThreads", spec := "foldThreads", unfollowed := true, recurses := true, named := ["spinnaker/ir.ops"], apart := false, laid := [("spinnaker/ir.ops", laid_spinnaker_ir_ops)], narrowed := true }
def FoldThreadsUptoSaid : Prop := foldThreadsUptoRow.holds Tryd.pinned (OpenSpec.upto foldThreadsSpec)

/-- 'spinnakerlaw34.FoldActions', WHERE WHAT IT READS IS OF BULK AT MOST 1048576: true; the input reads as it did. -/
def foldActionsUptoRow : OpenClaim := { program := "ytbcfpgcfamipmaadoor", sum := "ae34fe31c538adec81119b07ff5d8e6fa178a3174531e8b710def01e3723a02c", func := "spinnaker/spinnakerlaw34.FoldActions", spec := "foldActions", unfollowed := true, recurses := true, named := ["spinnaker/ir.ops"], apart := false, laid := [("spinnaker/ir.ops", laid_spinnaker_ir_ops)], narrowed := true }
def FoldActionsUptoSaid : Prop := foldActionsUptoRow.holds Tryd.pinned (OpenSpec.upto foldActionsSpec)

/-- 'spinnakerlaw35.DeadActions', WHERE WHAT IT READS IS OF BULK AT MOST 1048576: true; the input reads as it did. -/
def deadActionsUptoRow : OpenClaim := { program := "ytbcfpgcfamipmaadoor", sum := "ae34fe31c538adec81119b07ff5d8e6fa178a3174531e8b710def01e3723a02c", func := "spinnaker/spinnakerlaw35.DeadActions", spec := "deadActions", unfollowed := true, recurses := true, named := ["spinnaker/ir.ops"], apart := false, laid := [("spinnaker/ir.ops", laid_spinnaker_ir_ops)], narrowed := true }
def DeadActionsUptoSaid : Prop := deadActionsUptoRow.holds Tryd.pinned (OpenSpec.upto deadActionsSpec)

/-- 'spinnakerlaw35.DeadLives', WHERE WHAT IT READS IS OF BULK AT MOST 1048576: true; the input reads as it did. -/
def deadLivesUptoRow : OpenClaim := { program := "ytbcfpgcfamipmaadoor", sum := "ae34fe31c538adec81119b07ff5d8e6fa178a3174531e8b710def01e3723a02c", func := "spinnaker/spinnakerlaw35.DeadLives", spec := "deadLives", unfollowed := true, recurses := true, named := ["spinnaker/ir.ops"], apart := false, laid := [("spinnaker/ir.ops", laid_spinnaker_ir_ops)], narrowed := true }
def DeadLivesUptoSaid : Prop := deadLivesUptoRow.holds Tryd.pinned (OpenSpec.upto deadLivesSpec)

/-- 'spinnakerlaw35.DeadCleans', WHERE WHAT IT READS IS OF BULK AT MOST 1048576: true; the input reads as it did. -/
def deadCleansUptoRow : OpenClaim := { program := "ytbcfpgcfamipmaadoor", sum := "ae34fe31c538adec81119b07ff5d8e6fa178a3174531e8b710def01e3723a02c", func := "spinnaker/spinnakerlaw35.DeadCleans", spec := "deadCleans", unfollowed := true, recurses := true, named := ["spinnaker/ir.ops"], apart := false, laid := [("spinnaker/ir.ops", laid_spinnaker_ir_ops)], narrowed := true }
def DeadCleansUptoSaid : Prop := deadCleansUptoRow.holds Tryd.pinned (OpenSpec.upto deadCleansSpec)

end Rows
end Go.Proofs.YtbcfpgcfamipmaaDoor
