/-
  DERIVED. GIVEN WITH THE SEED: THE CARDS: each row of YtgenmfbidpmneaaDoorRows.lean that lists a variable, with what it lists TIED to the program's text (the seventh form; the later family's looks); each row that meets fmt, with fmt's text TOLD by the authors' own Lean function (tested against real Go, not proved from fmt's source: count such statements apart). THE CARD IS WHAT COUNTS. Prove the row's statement (the work); the ties are given (YtgenmfbidpmneaaDoorTie.lean); close each card by the builder's one call (the guide's Derived/Test/ToyasCard.lean, 'card_holds'). Laid BY PROGRAM, IN A SANDBOX (cutbox-door.mjs). By AI agents, Wed Nov 11 2026. No macro, syntax, notation, axiom, sorry.
-/
import Derived.Test.YtgenmfbidpmneaaDoorRows
import GoSem.ClaimSeven
namespace Go.Proofs.YtgenmfbidpmneaaDoor
namespace Rows

/-- THE TIED CARD OF 'spinnakerlaw37.ReloadThreads'. -/
def reloadThreadsCard : Claim7 := { stood := { row := reloadThreadsRow, standIns := [], harness := (true, "3d9d13bc48d8d118ec694f890aec2c7c100eeb83648c1ddcde071d6ca873666b"), looks := false }, kinds := [], alts := [], laidByText := true, laidKinds := [.data], laidTests := true, laidLooks := .later }
def ReloadThreadsCardSaid : Prop := Claim7.holds Tryd.pinned (.plain (OpenSpec.ofChange reloadThreadsSpec)) reloadThreadsCard

/-- THE TIED CARD OF 'spinnakerlaw37.ReloadActions'. -/
def reloadActionsCard : Claim7 := { stood := { row := reloadActionsRow, standIns := [], harness := (true, "3d9d13bc48d8d118ec694f890aec2c7c100eeb83648c1ddcde071d6ca873666b"), looks := false }, kinds := [], alts := [], laidByText := true, laidKinds := [.data], laidTests := true, laidLooks := .later }
def ReloadActionsCardSaid : Prop := Claim7.holds Tryd.pinned (.plain (OpenSpec.ofChange reloadActionsSpec)) reloadActionsCard

/-- THE TIED CARD OF 'spinnakerlaw37.ReloadBlocks'. -/
def reloadBlocksCard : Claim7 := { stood := { row := reloadBlocksRow, standIns := [], harness := (true, "3d9d13bc48d8d118ec694f890aec2c7c100eeb83648c1ddcde071d6ca873666b"), looks := false }, kinds := [], alts := [], laidByText := true, laidKinds := [.data], laidTests := true, laidLooks := .later }
def ReloadBlocksCardSaid : Prop := Claim7.holds Tryd.pinned (.plain (OpenSpec.ofChange reloadBlocksSpec)) reloadBlocksCard

/-- THE TIED CARD OF 'spinnakerlaw33.FlowReaches'. -/
def flowReachesCard : Claim7 := { stood := { row := flowReachesRow, standIns := [], harness := (true, "3d9d13bc48d8d118ec694f890aec2c7c100eeb83648c1ddcde071d6ca873666b"), looks := false }, kinds := [], alts := [], laidByText := true, laidKinds := [.data], laidTests := true, laidLooks := .later }
def FlowReachesCardSaid : Prop := Claim7.holds Tryd.pinned (.plain (OpenSpec.ofChange flowReachesSpec)) flowReachesCard

/-- THE TIED CARD OF 'spinnakerlaw33.FlowOrders'. -/
def flowOrdersCard : Claim7 := { stood := { row := flowOrdersRow, standIns := [], harness := (true, "3d9d13bc48d8d118ec694f890aec2c7c100eeb83648c1ddcde071d6ca873666b"), looks := false }, kinds := [], alts := [], laidByText := true, laidKinds := [.data], laidTests := true, laidLooks := .later }
def FlowOrdersCardSaid : Prop := Claim7.holds Tryd.pinned (.plain (OpenSpec.ofChange flowOrdersSpec)) flowOrdersCard

/-- THE TIED CARD OF 'spinnakerlaw33.FlowLoops'. -/
def flowLoopsCard : Claim7 := { stood := { row := flowLoopsRow, standIns := [], harness := (true, "3d9d13bc48d8d118ec694f890aec2c7c100eeb83648c1ddcde071d6ca873666b"), looks := false }, kinds := [], alts := [], laidByText := true, laidKinds := [.data], laidTests := true, laidLooks := .later }
def FlowLoopsCardSaid : Prop := Claim7.holds Tryd.pinned (.plain (OpenSpec.ofChange flowLoopsSpec)) flowLoopsCard

/-- THE SECOND FORM's CARD OF 'spinnakerlaw37.ReloadThreads'. -/
def reloadThreadsUptoCard : Claim7 := { stood := { row := reloadThreadsUptoRow, standIns := [], harness := (true, "3d9d13bc48d8d118ec694f890aec2c7c100eeb83648c1ddcde071d6ca873666b"), looks := false }, kinds := [], alts := [], laidByText := true, laidKinds := [.data], laidTests := true, laidLooks := .later }
def ReloadThreadsUptoCardSaid : Prop := Claim7.holds Tryd.pinned (.plain (OpenSpec.upto reloadThreadsSpec)) reloadThreadsUptoCard

/-- THE SECOND FORM's CARD OF 'spinnakerlaw37.ReloadActions'. -/
def reloadActionsUptoCard : Claim7 := { stood := { row := reloadActionsUptoRow, standIns := [], harness := (true, "3d9d13bc48d8d118ec694f890aec2c7c100eeb83648c1ddcde071d6ca873666b"), looks := false }, kinds := [], alts := [], laidByText := true, laidKinds := [.data], laidTests := true, laidLooks := .later }
def ReloadActionsUptoCardSaid : Prop := Claim7.holds Tryd.pinned (.plain (OpenSpec.upto reloadActionsSpec)) reloadActionsUptoCard

/-- THE SECOND FORM's CARD OF 'spinnakerlaw37.ReloadBlocks'. -/
def reloadBlocksUptoCard : Claim7 := { stood := { row := reloadBlocksUptoRow, standIns := [], harness := (true, "3d9d13bc48d8d118ec694f890aec2c7c100eeb83648c1ddcde071d6ca873666b"), looks := false }, kinds := [], alts := [], laidByText := true, laidKinds := [.data], laidTests := true, laidLooks := .later }
def ReloadBlocksUptoCardSaid : Prop := Claim7.holds Tryd.pinned (.plain (OpenSpec.upto reloadBlocksSpec)) reloadBlocksUptoCard

/-- THE SECOND FORM's CARD OF 'spinnakerlaw33.FlowReaches'. -/
def flowReachesUptoCard : Claim7 := { stood := { row := flowReachesUptoRow, standIns := [], harness := (true, "3d9d13bc48d8d118ec694f890aec2c7c100eeb83648c1ddcde071d6ca873666b"), looks := false }, kinds := [], alts := [], laidByText := true, laidKinds := [.data], laidTests := true, laidLooks := .later }
def FlowReachesUptoCardSaid : Prop := Claim7.holds Tryd.pinned (.plain (OpenSpec.upto flowReachesSpec)) flowReachesUptoCard

/-- THE SECOND FORM's CARD OF 'spinnakerlaw33.FlowOrders'. -/
def flowOrdersUptoCard : Claim7 := { stood := { row := flowOrdersUptoRow, standIns := [], harness := (true, "3d9d13bc48d8d118ec694f890aec2c7c100eeb83648c1ddcde071d6ca873666b"), looks := false }, kinds := [], alts := [], laidByText := true, laidKinds := [.data], laidTests := true, laidLooks := .later }
def FlowOrdersUptoCardSaid : Prop := Claim7.holds Tryd.pinned (.plain (OpenSpec.upto flowOrdersSpec)) flowOrdersUptoCard

/-- THE SECOND FORM's CARD OF 'spinnakerlaw33.FlowLoops'. -/
def flowLoopsUptoCard : Claim7 := { stood := { row := flowLoopsUptoRow, standIns := [], harness := (true, "3d9d13bc48d8d118ec694f890aec2c7c100eeb83648c1ddcde071d6ca873666b"), looks := false }, kinds := [], alts := [], laidByText := true, laidKinds := [.data], laidTests := true, laidLooks := .later }
def FlowLoopsUptoCardSaid : Prop := Claim7.holds Tryd.pinned (.plain (OpenSpec.upto flowLoopsSpec)) flowLoopsUptoCard
end Rows
end Go.Proofs.YtgenmfbidpmneaaDoor
