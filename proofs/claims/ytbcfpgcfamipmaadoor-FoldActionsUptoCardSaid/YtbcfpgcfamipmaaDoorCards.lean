/-
  DERIVED. GIVEN WITH THE SEED: THE CARDS: each row of YtbcfpgcfamipmaaDoorRows.lean that lists a variable, with what it lists TIED to the program's text (the seventh form; the later family's looks); each row that meets fmt, with fmt's text TOLD by the authors' own Lean function (tested against real Go, not proved from fmt's source: count such statements apart). THE CARD IS WHAT COUNTS. Prove the row's statement (the work); the ties are given (YtbcfpgcfamipmaaDoorTie.lean); close each card by the builder's one call (the guide's Derived/Test/ToyasCard.lean, 'card_holds'). Laid BY PROGRAM, IN A SANDBOX (cutbox-door.mjs). By AI agents, Wed Nov 11 2026. No macro, syntax, notation, axiom, sorry.
-/
import Derived.Test.YtbcfpgcfamipmaaDoorRows
import GoSem.ClaimSeven
namespace Go.Proofs.YtbcfpgcfamipmaaDoor
namespace Rows

/-- THE TIED CARD OF 'spinnakerlaw34.FoldThreads'. -/
def foldThreadsCard : Claim7 := { stood := { row := foldThreadsRow, standIns := [], harness := (true, "83b0950c518f09b768914f974966cc13262215647db3e94153e40e90e5ec3aac"), looks := false }, kinds := [], alts := [], laidByText := true, laidKinds := [.data], laidTests := true, laidLooks := .later }
def FoldThreadsCardSaid : Prop := Claim7.holds Tryd.pinned (.plain (OpenSpec.ofChange foldThreadsSpec)) foldThreadsCard

/-- THE TIED CARD OF 'spinnakerlaw34.FoldActions'. -/
def foldActionsCard : Claim7 := { stood := { row := foldActionsRow, standIns := [], harness := (true, "83b0950c518f09b768914f974966cc13262215647db3e94153e40e90e5ec3aac"), looks := false }, kinds := [], alts := [], laidByText := true, laidKinds := [.data], laidTests := true, laidLooks := .later }
def FoldActionsCardSaid : Prop := Claim7.holds Tryd.pinned (.plain (OpenSpec.ofChange foldActionsSpec)) foldActionsCard

/-- THE TIED CARD OF 'spinnakerlaw35.DeadActions'. -/
def deadActionsCard : Claim7 := { stood := { row := deadActionsRow, standIns := [], harness := (true, "83b0950c518f09b768914f974966cc13262215647db3e94153e40e90e5ec3aac"), looks := false }, kinds := [], alts := [], laidByText := true, laidKinds := [.data], laidTests := true, laidLooks := .later }
def DeadActionsCardSaid : Prop := Claim7.holds Tryd.pinned (.plain (OpenSpec.ofChange deadActionsSpec)) deadActionsCard

/-- THE TIED CARD OF 'spinnakerlaw35.DeadLives'. -/
def deadLivesCard : Claim7 := { stood := { row := deadLivesRow, standIns := [], harness := (true, "83b0950c518f09b768914f974966cc13262215647db3e94153e40e90e5ec3aac"), looks := false }, kinds := [], alts := [], laidByText := true, laidKinds := [.data], laidTests := true, laidLooks := .later }
def DeadLivesCardSaid : Prop := Claim7.holds Tryd.pinned (.plain (OpenSpec.ofChange deadLivesSpec)) deadLivesCard

/-- THE TIED CARD OF 'spinnakerlaw35.DeadCleans'. -/
def deadCleansCard : Claim7 := { stood := { row := deadCleansRow, standIns := [], harness := (true, "83b0950c518f09b768914f974966cc13262215647db3e94153e40e90e5ec3aac"), looks := false }, kinds := [], alts := [], laidByText := true, laidKinds := [.data], laidTests := true, laidLooks := .later }
def DeadCleansCardSaid : Prop := Claim7.holds Tryd.pinned (.plain (OpenSpec.ofChange deadCleansSpec)) deadCleansCard

/-- THE SECOND FORM's CARD OF 'spinnakerlaw34.FoldThreads'. -/
def foldThreadsUptoCard : Claim7 := { stood := { row := foldThreadsUptoRow, standIns := [], harness := (true, "83b0950c518f09b768914f974966cc13262215647db3e94153e40e90e5ec3aac"), looks := false }, kinds := [], alts := [], laidByText := true, laidKinds := [.data], laidTests := true, laidLooks := .later }
def FoldThreadsUptoCardSaid : Prop := Claim7.holds Tryd.pinned (.plain (OpenSpec.upto foldThreadsSpec)) foldThreadsUptoCard

/-- THE SECOND FORM's CARD OF 'spinnakerlaw34.FoldActions'. -/
def foldActionsUptoCard : Claim7 := { stood := { row := foldActionsUptoRow, standIns := [], harness := (true, "83b0950c518f09b768914f974966cc13262215647db3e94153e40e90e5ec3aac"), looks := false }, kinds := [], alts := [], laidByText := true, laidKinds := [.data], laidTests := true, laidLooks := .later }
def FoldActionsUptoCardSaid : Prop := Claim7.holds Tryd.pinned (.plain (OpenSpec.upto foldActionsSpec)) foldActionsUptoCard

/-- THE SECOND FORM's CARD OF 'spinnakerlaw35.DeadActions'. -/
def deadActionsUptoCard : Claim7 := { stood := { row := deadActionsUptoRow, standIns := [], harness := (true, "83b0950c518f09b768914f974966cc13262215647db3e94153e40e90e5ec3aac"), looks := false }, kinds := [], alts := [], laidByText := true, laidKinds := [.data], laidTests := true, laidLooks := .later }
def DeadActionsUptoCardSaid : Prop := Claim7.holds Tryd.pinned (.plain (OpenSpec.upto deadActionsSpec)) deadActionsUptoCard

/-- THE SECOND FORM's CARD OF 'spinnakerlaw35.DeadLives'. -/
def deadLivesUptoCard : Claim7 := { stood := { row := deadLivesUptoRow, standIns := [], harness := (true, "83b0950c518f09b768914f974966cc13262215647db3e94153e40e90e5ec3aac"), looks := false }, kinds := [], alts := [], laidByText := true, laidKinds := [.data], laidTests := true, laidLooks := .later }
def DeadLivesUptoCardSaid : Prop := Claim7.holds Tryd.pinned (.plain (OpenSpec.upto deadLivesSpec)) deadLivesUptoCard

/-- THE SECOND FORM's CARD OF 'spinnakerlaw35.DeadCleans'. -/
def deadCleansUptoCard : Claim7 := { stood := { row := deadCleansUptoRow, standIns := [], harness := (true, "83b0950c518f09b768914f974966cc13262215647db3e94153e40e90e5ec3aac"), looks := false }, kinds := [], alts := [], laidByText := true, laidKinds := [.data], laidTests := true, laidLooks := .later }
def DeadCleansUptoCardSaid : Prop := Claim7.holds Tryd.pinned (.plain (OpenSpec.upto deadCleansSpec)) deadCleansUptoCard
end Rows
end Go.Proofs.YtbcfpgcfamipmaaDoor
