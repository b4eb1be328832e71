/-
  DERIVED. GIVEN WITH THE SEED: THE CARDS: each row of YtoieemaheadjdaaDoorRows.lean that lists a variable, with what it lists TIED to the program's text (the seventh form; the later family's looks); each row that meets fmt, with fmt's text TOLD by the authors' own Lean function (tested against real Go, not proved from fmt's source: count such statements apart). THE CARD IS WHAT COUNTS. Prove the row's statement (the work); the ties are given (YtoieemaheadjdaaDoorTie.lean); close each card by the builder's one call (the guide's Derived/Test/ToyasCard.lean, 'card_holds'). Laid BY PROGRAM, IN A SANDBOX (cutbox-door.mjs). By AI agents, Wed Nov 11 2026. No macro, syntax, notation, axiom, sorry.
-/
import Derived.Test.YtoieemaheadjdaaDoorRows
import GoSem.ClaimSeven
namespace Go.Proofs.YtoieemaheadjdaaDoor
namespace Rows

/-- THE TIED CARD OF 'spinnakerlaw14.RelPairs'. -/
def relPairsCard : Claim7 := { stood := { row := relPairsRow, standIns := [], harness := (true, "2990ab34c82fffee98508b29357c79bd1f0d15752ab790f6128b47de573ee05b"), looks := false }, kinds := [], alts := [], laidByText := true, laidKinds := [.data], laidTests := true, laidLooks := .later }
def RelPairsCardSaid : Prop := Claim7.holds Tryd.pinned (.plain (OpenSpec.ofChange relPairsSpec)) relPairsCard

/-- THE TIED CARD OF 'spinnakerlaw14.RelJoins'. -/
def relJoinsCard : Claim7 := { stood := { row := relJoinsRow, standIns := [], harness := (true, "2990ab34c82fffee98508b29357c79bd1f0d15752ab790f6128b47de573ee05b"), looks := false }, kinds := [], alts := [], laidByText := true, laidKinds := [.data], laidTests := true, laidLooks := .later }
def RelJoinsCardSaid : Prop := Claim7.holds Tryd.pinned (.plain (OpenSpec.ofChange relJoinsSpec)) relJoinsCard

/-- THE TIED CARD OF 'spinnakerlaw14.RelOrders'. -/
def relOrdersCard : Claim7 := { stood := { row := relOrdersRow, standIns := [], harness := (true, "2990ab34c82fffee98508b29357c79bd1f0d15752ab790f6128b47de573ee05b"), looks := false }, kinds := [], alts := [], laidByText := true, laidKinds := [.data], laidTests := true, laidLooks := .later }
def RelOrdersCardSaid : Prop := Claim7.holds Tryd.pinned (.plain (OpenSpec.ofChange relOrdersSpec)) relOrdersCard

/-- THE TIED CARD OF 'spinnakerlaw14.RelCloses'. -/
def relClosesCard : Claim7 := { stood := { row := relClosesRow, standIns := [], harness := (true, "2990ab34c82fffee98508b29357c79bd1f0d15752ab790f6128b47de573ee05b"), looks := false }, kinds := [], alts := [], laidByText := true, laidKinds := [.data], laidTests := true, laidLooks := .later }
def RelClosesCardSaid : Prop := Claim7.holds Tryd.pinned (.plain (OpenSpec.ofChange relClosesSpec)) relClosesCard

/-- THE TIED CARD OF 'spinnakerlaw14.RelNobody'. -/
def relNobodyCard : Claim7 := { stood := { row := relNobodyRow, standIns := [], harness := (true, "2990ab34c82fffee98508b29357c79bd1f0d15752ab790f6128b47de573ee05b"), looks := false }, kinds := [], alts := [], laidByText := true, laidKinds := [.data], laidTests := true, laidLooks := .later }
def RelNobodyCardSaid : Prop := Claim7.holds Tryd.pinned (.plain (OpenSpec.ofChange relNobodySpec)) relNobodyCard

/-- THE TIED CARD OF 'spinnakerlaw16.PpoRules'. -/
def ppoRulesCard : Claim7 := { stood := { row := ppoRulesRow, standIns := [], harness := (true, "2990ab34c82fffee98508b29357c79bd1f0d15752ab790f6128b47de573ee05b"), looks := false }, kinds := [], alts := [], laidByText := true, laidKinds := [.widerDeep], laidTests := true, laidLooks := .later }
def PpoRulesCardSaid : Prop := Claim7.holds Tryd.pinned (.plain (OpenSpec.ofChange ppoRulesSpec)) ppoRulesCard

/-- THE TIED CARD OF 'spinnakerlaw16.PpoAll'. -/
def ppoAllCard : Claim7 := { stood := { row := ppoAllRow, standIns := [], harness := (true, "2990ab34c82fffee98508b29357c79bd1f0d15752ab790f6128b47de573ee05b"), looks := false }, kinds := [], alts := [], laidByText := true, laidKinds := [.widerDeep], laidTests := true, laidLooks := .later }
def PpoAllCardSaid : Prop := Claim7.holds Tryd.pinned (.plain (OpenSpec.ofChange ppoAllSpec)) ppoAllCard

/-- THE TIED CARD OF 'spinnakerlaw16.PpoStrong'. -/
def ppoStrongCard : Claim7 := { stood := { row := ppoStrongRow, standIns := [], harness := (true, "2990ab34c82fffee98508b29357c79bd1f0d15752ab790f6128b47de573ee05b"), looks := false }, kinds := [], alts := [], laidByText := true, laidKinds := [.widerDeep], laidTests := true, laidLooks := .later }
def PpoStrongCardSaid : Prop := Claim7.holds Tryd.pinned (.plain (OpenSpec.ofChange ppoStrongSpec)) ppoStrongCard

/-- THE SECOND FORM's CARD OF 'spinnakerlaw14.RelPairs'. -/
def relPairsUptoCard : Claim7 := { stood := { row := relPairsUptoRow, standIns := [], harness := (true, "2990ab34c82fffee98508b29357c79bd1f0d15752ab790f6128b47de573ee05b"), looks := false }, kinds := [], alts := [], laidByText := true, laidKinds := [.data], laidTests := true, laidLooks := .later }
def RelPairsUptoCardSaid : Prop := Claim7.holds Tryd.pinned (.plain (OpenSpec.upto relPairsSpec)) relPairsUptoCard

/-- THE SECOND FORM's CARD OF 'spinnakerlaw14.RelJoins'. -/
def relJoinsUptoCard : Claim7 := { stood := { row := relJoinsUptoRow, standIns := [], harness := (true, "2990ab34c82fffee98508b29357c79bd1f0d15752ab790f6128b47de573ee05b"), looks := false }, kinds := [], alts := [], laidByText := true, laidKinds := [.data], laidTests := true, laidLooks := .later }
def RelJoinsUptoCardSaid : Prop := Claim7.holds Tryd.pinned (.plain (OpenSpec.upto relJoinsSpec)) relJoinsUptoCard

/-- THE SECOND FORM's CARD OF 'spinnakerlaw14.RelOrders'. -/
def relOrdersUptoCard : Claim7 := { stood := { row := relOrdersUptoRow, standIns := [], harness := (true, "2990ab34c82fffee98508b29357c79bd1f0d15752ab790f6128b47de573ee05b"), looks := false }, kinds := [], alts := [], laidByText := true, laidKinds := [.data], laidTests := true, laidLooks := .later }
def RelOrdersUptoCardSaid : Prop := Claim7.holds Tryd.pinned (.plain (OpenSpec.upto relOrdersSpec)) relOrdersUptoCard

/-- THE SECOND FORM's CARD OF 'spinnakerlaw14.RelCloses'. -/
def relClosesUptoCard : Claim7 := { stood := { row := relClosesUptoRow, standIns := [], harness := (true, "2990ab34c82fffee98508b29357c79bd1f0d15752ab790f6128b47de573ee05b"), looks := false }, kinds := [], alts := [], laidByText := true, laidKinds := [.data], laidTests := true, laidLooks := .later }
def RelClosesUptoCardSaid : Prop := Claim7.holds Tryd.pinned (.plain (OpenSpec.upto relClosesSpec)) relClosesUptoCard

/-- THE SECOND FORM's CARD OF 'spinnakerlaw14.RelNobody'. -/
def relNobodyUptoCard : Claim7 := { stood := { row := relNobodyUptoRow, standIns := [], harness := (true, "2990ab34c82fffee98508b29357c79bd1f0d15752ab790f6128b47de573ee05b"), looks := false }, kinds := [], alts := [], laidByText := true, laidKinds := [.data], laidTests := true, laidLooks := .later }
def RelNobodyUptoCardSaid : Prop := Claim7.holds Tryd.pinned (.plain (OpenSpec.upto relNobodySpec)) relNobodyUptoCard

/-- THE SECOND FORM's CARD OF 'spinnakerlaw16.PpoRules'. -/
def ppoRulesUptoCard : Claim7 := { stood := { row := ppoRulesUptoRow, standIns := [], harness := (true, "2990ab34c82fffee98508b29357c79bd1f0d15752ab790f6128b47de573ee05b"), looks := false }, kinds := [], alts := [], laidByText := true, laidKinds := [.widerDeep], laidTests := true, laidLooks := .later }
def PpoRulesUptoCardSaid : Prop := Claim7.holds Tryd.pinned (.plain (OpenSpec.upto ppoRulesSpec)) ppoRulesUptoCard

/-- THE SECOND FORM's CARD OF 'spinnakerlaw16.PpoAll'. -/
def ppoAllUptoCard : Claim7 := { stood := { row := ppoAllUptoRow, standIns := [], harness := (true, "2990ab34c82fffee98508b29357c79bd1f0d15752ab790f6128b47de573ee05b"), looks := false }, kinds := [], alts := [], laidByText := true, laidKinds := [.widerDeep], laidTests := true, laidLooks := .later }
def PpoAllUptoCardSaid : Prop := Claim7.holds Tryd.pinned (.plain (OpenSpec.upto ppoAllSpec)) ppoAllUptoCard

/-- THE SECOND FORM's CARD OF 'spinnakerlaw16.PpoStrong'. -/
def ppoStrongUptoCard : Claim7 := { stood := { row := ppoStrongUptoRow, standIns := [], harness := (true, "2990ab34c82fffee98508b29357c79bd1f0d15752ab790f6128b47de573ee05b"), looks := false }, kinds := [], alts := [], laidByText := true, laidKinds := [.widerDeep], laidTests := true, laidLooks := .later }
def PpoStrongUptoCardSaid : Prop := Claim7.holds Tryd.pinned (.plain (OpenSpec.upto ppoStrongSpec)) ppoStrongUptoCard
end Rows
end Go.Proofs.YtoieemaheadjdaaDoor
