/-
  NARROWER THAN 'FOR EVERY INPUT', by the rows' own cells (each row's printed sentence says how): ReloadThreads: laid · ReloadActions: laid · ReloadBlocks: laid · FlowReaches: laid · FlowOrders: laid · FlowLoops: laid.
  DERIVED. THE GIVEN ROWS OF THIS SEAT. 6 by the template 'for every input the law returns true; each argument reads behind the call as it read before'; 0 by the template 'total and deterministic' (their statements: YtgenmfbidpmneaaDoorTotals.lean).
  GIVEN WITH THE SEED: the statements are not yours to turn. If you find one false, say at which input.
  Laid BY PROGRAM, IN A SANDBOX (cutbox-rows.mjs): the forced cells as the released guide's own fill.sh prints them over the translation cf0dce2c246880cc… (all of the seat's roots in one cut). By AI agents, Wed Nov 11 2026. No macro, syntax, notation, axiom, sorry.
-/
import Derived.Test.YtgenmfbidpmneaaDoorChecked
import GoSem.Claim
import GoSem.ClaimJoined
import GoSem.ClaimMapViews
import Derived.JoinedTies
import Derived.KernelRfl
namespace Go.Proofs.YtgenmfbidpmneaaDoor
/- THE CELL 'sum', in the pinned program and in every row, IS THE sha256 OF THE DUMP (.gsa) THAT YtgenmfbidpmneaaDoorProg.lean LOADS. Nothing in Lean hashes anything: it is a label: what it is worth is what the hold of that sum in a sandbox is worth. -/
noncomputable def Tryd.pinned : Pinned := { name := "ytgenmfbidpmneaadoor", sum := "cf0dce2c246880cce626d42529858ca3a067b82371864f1d258670a479f2b725", checked := Tryd.checked }
namespace Rows
def none {H : Type} : Left H := { results := [], args := [] }

/- WHAT THE LISTED PACKAGE-LEVEL VARIABLES READ AS WHEN THE CALL BEGINS. Each datum BY PROGRAM (the guide's laid-datum.mjs) off the statement by which the dump's own 'gosem.cut.vars' lays the variable. In a bare row this is a premise. The card (YtgenmfbidpmneaaDoorCards.lean) ties it to the program's text. -/
def laid_spinnaker_ir_ops {H : Type} : DataW H := .agg [.agg [.lit (.string []), .lit (.int .i64 0)], .agg [.lit (.string [99, 111, 110, 115, 116]), .lit (.int .i64 17)], .agg [.lit (.string [99, 111, 112, 121]), .lit (.int .i64 3)], .agg [.lit (.string [98, 105, 110]), .lit (.int .i64 39)], .agg [.lit (.string [103, 101, 116]), .lit (.int .i64 67)], .agg [.lit (.string [112, 117, 116]), .lit (.int .i64 70)], .agg [.lit (.string [108, 111, 97, 100]), .lit (.int .i64 897)], .agg [.lit (.string [115, 116, 111, 114, 101]), .lit (.int .i64 898)], .agg [.lit (.string [114, 109, 119]), .lit (.int .i64 907)], .agg [.lit (.string [99, 97, 115]), .lit (.int .i64 903)], .agg [.lit (.string [102, 101, 110, 99, 101]), .lit (.int .i64 256)], .agg [.lit (.string [112, 114, 105, 110, 116]), .lit (.int .i64 514)]]

/-- 'spinnakerlaw37.ReloadThreads': WHATEVER THE INPUT: true; the input reads as it did. -/
def reloadThreadsSpec : ChangeSpec := { name := "reloadThreads", fn := fun _ => fun
  | [d] => { results := [.lit (.bool true)], args := [d] }
  | _ => none }
def reloadThreadsRow : OpenClaim := { program := "ytgenmfbidpmneaadoor", sum := "cf0dce2c246880cce626d42529858ca3a067b82371864f1d258670a479f2b725", func := "spinnaker/spinnakerlaw37.ReloadThreads", spec := "reloadThreads", unfollowed := true, recurses := true, named := ["spinnaker/ir.ops"], apart := false, laid := [("spinnaker/ir.ops", laid_spinnaker_ir_ops)] }
def ReloadThreadsSaid : Prop := reloadThreadsRow.holds Tryd.pinned (OpenSpec.ofChange reloadThreadsSpec)

/-- ITS FALSE NEIGHBOUR: 'it returns false'. Refute it at one input. -/
def reloadThreadsWrong : ChangeSpec := { name := "reloadThreads", fn := fun _ => fun
  | [d] => { results := [.lit (.bool false)], args := [d] }
  | _ => none }
def ReloadThreadsWrongFalsely : Prop := reloadThreadsRow.holds Tryd.pinned (OpenSpec.ofChange reloadThreadsWrong)

/-- 'spinnakerlaw37.ReloadActions': WHATEVER THE INPUT: true; the input reads as it did. -/
def reloadActionsSpec : ChangeSpec := { name := "reloadActions", fn := fun _ => fun
  | [d] => { results := [.lit (.bool true)], args := [d] }
  | _ => none }
def reloadActionsRow : OpenClaim := { program := "ytgenmfbidpmneaadoor", sum := "cf0dce2c246880cce626d42529858ca3a067b82371864f1d258670a479f2b725", func := "spinnaker/spinnakerlaw37.ReloadActions", spec := "reloadActions", unfollowed := true, recurses := true, named := ["spinnaker/ir.ops"], apart := false, laid := [("spinnaker/ir.ops", laid_spinnaker_ir_ops)] }
def ReloadActionsSaid : Prop := reloadActionsRow.holds Tryd.pinned (OpenSpec.ofChange reloadActionsSpec)

/-- ITS FALSE NEIGHBOUR: 'it returns false'. Refute it at one input. -/
def reloadActionsWrong : ChangeSpec := { name := "reloadActions", fn := fun _ => fun
  | [d] => { results := [.lit (.bool false)], args := [d] }
  | _ => none }
def ReloadActionsWrongFalsely : Prop := reloadActionsRow.holds Tryd.pinned (OpenSpec.ofChange reloadActionsWrong)

/-- 'spinnakerlaw37.ReloadBlocks': WHATEVER THE INPUT: true; the input reads as it did. -/
def reloadBlocksSpec : ChangeSpec := { name := "reloadBlocks", fn := fun _ => fun
  | [d1, d2] => { results := [.lit (.bool true)], args := [d1, d2] }
  | _ => none }
def reloadBlocksRow : OpenClaim := { program := "ytgenmfbidpmneaadoor", sum := "cf0dce2c246880cce626d42529858ca3a067b82371864f1d258670a479f2b725", func := "spinnaker/spinnakerlaw37.ReloadBlocks", spec := "reloadBlocks", unfollowed := true, recurses := true, named := ["spinnaker/ir.ops"], apart := false, laid := [("spinnaker/ir.ops", laid_spinnaker_ir_ops)] }
def ReloadBlocksSaid : Prop := reloadBlocksRow.holds Tryd.pinned (OpenSpec.ofChange reloadBlocksSpec)

/-- ITS FALSE NEIGHBOUR: 'it returns false'. Refute it at one input. -/
def reloadBlocksWrong : ChangeSpec := { name := "reloadBlocks", fn := fun _ => fun
  | [d1, d2] => { results := [.lit (.bool false)], args := [d1, d2] }
  | _ => none }
def ReloadBlocksWrongFalsely : Prop := reloadBlocksRow.holds Tryd.pinned (OpenSpec.ofChange reloadBlocksWrong)

/-- 'spinnakerlaw33.FlowReaches': WHATEVER THE INPUT: true; the input reads as it did. -/
def flowReachesSpec : ChangeSpec := { name := "flowReaches", fn := fun _ => fun
  | [d1, d2, d3] => { results := [.lit (.bool true)], args := [d1, d2, d3] }
  | _ => none }
def flowReachesRow : OpenClaim := { program := "ytgenmfbidpmneaadoor", sum := "cf0dce2c246880cce626d42529858ca3a067b82371864f1d258670a479f2b725", func := "spinnaker/spinnakerlaw33.FlowReaches", spec := "flowReaches", unfollowed := true, recurses := true, named := ["spinnaker/ir.ops"], apart := false, laid := [("spinnaker/ir.ops", laid_spinnaker_ir_ops)] }
def FlowReachesSaid : Prop := flowReachesRow.holds Tryd.pinned (OpenSpec.ofChange flowReachesSpec)

/-- ITS FALSE NEIGHBOUR: 'it returns false'. Refute it at one input. -/
def flowReachesWrong : ChangeSpec := { name := "flowReaches", fn := fun _ => fun
  | [d1, d2, d3] => { results := [.lit (.bool false)], args := [d1, d2, d3] }
  | _ => none }
def FlowReachesWrongFalsely : Prop := flowReachesRow.holds Tryd.pinned (OpenSpec.ofChange flowReachesWrong)

/-- 'spinnakerlaw33.FlowOrders': WHATEVER THE INPUT: true; the input reads as it did. -/
def flowOrdersSpec : ChangeSpec := { name := "flowOrders", fn := fun _ => fun
  | [d] => { results := [.lit (.bool true)], args := [d] }
  | _ => none }
def flowOrdersRow : OpenClaim := { program := "ytgenmfbidpmneaadoor", sum := "cf0dce2c246880cce626d42529858ca3a067b82371864f1d258670a479f2b725", func := "spinnaker/spinnakerlaw33.FlowOrders", spec := "flowOrders", unfollowed := true, recurses := true, named := ["spinnaker/ir.ops"], apart := false, laid := [("spinnaker/ir.ops", laid_spinnaker_ir_ops)] }
def FlowOrdersSaid : Prop := flowOrdersRow.holds Tryd.pinned (OpenSpec.ofChange flowOrdersSpec)

/-- ITS FALSE NEIGHBOUR: 'it returns false'. Refute it at one input. -/
def flowOrdersWrong : ChangeSpec := { name := "flowOrders", fn := fun _ => fun
  | [d] => { results := [.lit (.bool false)], args := [d] }
  | _ => none }
def FlowOrdersWrongFalsely : Prop := flowOrdersRow.holds Tryd.pinned (OpenSpec.ofChange flowOrdersWrong)

/-- 'spinnakerlaw33.FlowLoops': WHATEVER THE INPUT: true; the input reads as it did. -/
def flowLoopsSpec : ChangeSpec := { name := "flowLoops", fn := fun _ => fun
  | [d] => { results := [.lit (.bool true)], args := [d] }
  | _ => none }
def flowLoopsRow : OpenClaim := { program := "ytgenmfbidpmneaadoor", sum := "cf0dce2c246880cce626d42529858ca3a067b82371864f1d258670a479f2b725", func := "spinnaker/spinnakerlaw33.FlowLoops", spec := "flowLoops", unfollowed := true, recurses := true, named := ["spinnaker/ir.ops"], apart := false, laid := [("spinnaker/ir.ops", laid_spinnaker_ir_ops)] }
def FlowLoopsSaid : Prop := flowLoopsRow.holds Tryd.pinned (OpenSpec.ofChange flowLoopsSpec)

/-- ITS FALSE NEIGHBOUR: 'it returns false'. Refute it at one input. -/
def flowLoopsWrong : ChangeSpec := { name := "flowLoops", fn := fun _ => fun
  | [d] => { results := [.lit (.bool false)], args := [d] }
  | _ => none }
def FlowLoopsWrongFalsely : Prop := flowLoopsRow.holds Tryd.pinned (OpenSpec.ofChange flowLoopsWrong)

/- THE SECOND FORM. 'bulk': how many values and letters a reading holds, each counted each time it is reached (what is shared counts as often as it is met; a slice's spare places count too). A statement '..UptoSaid' is the law's where the arguments, and the package variables that the reading takes, are together of bulk at most 1048576: NARROWER than '..Said'. Prove '..Said' where nothing that the law and all that it calls make is longer than what came in: it says more and counts as full. Else prove '..UptoSaid'. A law counts once. -/
mutual
def uptoBulk {H : Type} : DataW H → Nat
  | .lit (.string bytes) => bytes.length + 1
  | .lit _ => 1
  | .nil => 1
  | .ptr d => uptoBulk d + 1
  | .slice elems spare => uptoBulkAll elems + uptoBulkAll spare + 1
  | .agg parts => uptoBulkAll parts + 1
  | .iface _ d => uptoBulk d + 1
  | .map entries => uptoBulkEntries entries + 1
  | .held _ => 1
def uptoBulkAll {H : Type} : List (DataW H) → Nat
  | [] => 0
  | d :: r => uptoBulk d + uptoBulkAll r
def uptoBulkEntries {H : Type} : List (Lit × DataW H) → Nat
  | [] => 0
  | x :: r => uptoBulkEntry x + uptoBulkEntries r
def uptoBulkEntry {H : Type} : Lit × DataW H → Nat
  | (.string bytes, d) => bytes.length + uptoBulk d + 1
  | (_, d) => uptoBulk d + 1
 end
def uptoSmall : (H : Type) → List (DataW H) → Bool := fun _ ds => decide (uptoBulkAll ds ≤ 1048576)
def OpenSpec.upto (s : _root_.Go.ChangeSpec) : _root_.Go.OpenSpec := { _root_.Go.OpenSpec.ofChange s with cond := some uptoSmall }

/-- 'spinnakerlaw37.ReloadThreads', WHERE WHAT IT READS IS OF BULK AT MOST 1048576: true; the input reads as it did. -/
def reloadThreadsUptoRow : OpenClaim := { program := "ytgenmfbidpmneaadoor", sum := "cf0dce2c246880cce626d42529858ca3a067b82371864f1d258670a479f2b725", func := "spinnaker/spinnakerlaw37.ReloadThreads", spec := "reloadThreads", unfollowed := true, recurses := true, named := ["spinnaker/ir.ops"], apart := false, laid := [("spinnaker/ir.ops", laid_spinnaker_ir_ops)], narrowed := true }
def ReloadThreadsUptoSaid : Prop := reloadThreadsUptoRow.holds Tryd.pinned (OpenSpec.upto reloadThreadsSpec)

/-- 'spinnakerlaw37.ReloadActions', WHERE WHAT IT READS IS OF BULK AT MOST 1048576: true; the input reads as it did. -/
def reloadActionsUptoRow : OpenClaim := { program := "ytgenmfbidpmneaadoor", sum := "cf0dce2c246880cce626d42529858ca3a067b82371864f1d258670a479f2b725", func := "spinnaker/spinnakerlaw37.ReloadActions", spec := "reloadActions", unfollowed := true, recurses := true, named := ["spinnaker/ir.ops"], apart := false, laid := [("spinnaker/ir.ops", laid_spinnaker_ir_ops)], narrowed := true }
def ReloadActionsUptoSaid : Prop := reloadActionsUptoRow.holds Tryd.pinned (OpenSpec.upto reloadActionsSpec)

/-- 'spinnakerlaw37.ReloadBlocks', WHERE WHAT IT READS IS OF BULK AT MOST 1048576: true; the input reads as it did. -/
def reloadBlocksUptoRow : OpenClaim := { program := "ytgenmfbidpmneaadoor", sum := "cf0dce2c246880cce626d42529858ca3a067b82371864f1d258670a479f2b725", func := "spinnaker/spinnakerlaw37.ReloadBlocks", spec := "reloadBlocks", unfollowed := true, recurses := true, named := ["spinnaker/ir.ops"], apart := false, laid := [("spinnaker/ir.ops", laid_spinnaker_ir_ops)], narrowed := true }
def ReloadBlocksUptoSaid : Prop := reloadBlocksUptoRow.holds Tryd.pinned (OpenSpec.upto reloadBlocksSpec)

/-- 'spinnakerlaw33.FlowReaches', WHERE WHAT IT READS IS OF BULK AT MOST 1048576: true; the input reads as it did. -/
def flowReachesUptoRow : OpenClaim := { program := "ytgenmfbidpmneaadoor", sum := "cf0dce2c246880cce626d42529858ca3a067b82371864f1d258670a479f2b725", func := "spinnaker/spinnakerlaw33.FlowReaches", spec := "flowReaches", unfollowed := true, recurses := true, named := ["spinnaker/ir.ops"], apart := false, laid := [("spinnaker/ir.ops", laid_spinnaker_ir_ops)], narrowed := true }
def FlowReachesUptoSaid : Prop := flowReachesUptoRow.holds Tryd.pinned (OpenSpec.upto flowReachesSpec)

/-- 'spinnakerlaw33.FlowOrders', WHERE WHAT IT READS IS OF BULK AT MOST 1048576: true; the input reads as it did. -/
def flowOrdersUptoRow : OpenClaim := { program := "ytgenmfbidpmneaadoor", sum := "cf0dce2c246880cce626d42529858ca3a067b82371864f1d258670a479f2b725", func := "spinnaker/spinnakerlaw33.FlowOrders", spec := "flowOrders", unfollowed := true, recurses := true, named := ["spinnaker/ir.ops"], apart := false, laid := [("spinnaker/ir.ops", laid_spinnaker_ir_ops)], narrowed := true }
def FlowOrdersUptoSaid : Prop := flowOrdersUptoRow.holds Tryd.pinned (OpenSpec.upto flowOrdersSpec)

/-- 'spinnakerlaw33.FlowLoops', WHERE WHAT IT READS IS OF BULK AT MOST 1048576: true; the input reads as it did. -/
def flowLoopsUptoRow : OpenClaim := { program := "ytgenmfbidpmneaadoor", sum := "cf0dce2c246880cce626d42529858ca3a067b82371864f1d258670a479f2b725", func := "spinnaker/spinnakerlaw33.FlowLoops", spec := "flowLoops", unfollowed := true, recurses := true, named := ["spinnaker/ir.ops"], apart := false, laid := [("spinnaker/ir.ops", laid_spinnaker_ir_ops)], narrowed := true }
def FlowLoopsUptoSaid : Prop := flowLoopsUptoRow.holds Tryd.pinned (OpenSpec.upto flowLoopsSpec)

end Rows
end Go.Proofs.YtgenmfbidpmneaaDoor
