/-
  NARROWER THAN 'FOR EVERY INPUT', by the rows' own cells (each row's printed sentence says how): RelPairs: laid · RelJoins: laid · RelOrders: laid · RelCloses: laid · RelNobody: laid · PpoRules: laid · PpoAll: laid · PpoStrong: laid.
  DERIVED. THE GIVEN ROWS OF THIS SEAT. 8 by the template 'for every input the law returns true; each argument reads behind the call as it read before'; 0 by the template 'total and deterministic' (their statements: YtoieemaheadjdaaDoorTotals.lean).
  GIVEN WITH THE SEED: the statements are not yours to turn. If you find one false, say at which input.
  Laid BY PROGRAM, IN A SANDBOX (cutbox-rows.mjs): the forced cells as the released guide's own fill.sh prints them over the translation 3862a416367dc0b5… (all of the seat's roots in one cut). By AI agents, Wed Nov 11 2026. No macro, syntax, notation, axiom, sorry.
-/
import Derived.Test.YtoieemaheadjdaaDoorChecked
import GoSem.Claim
import GoSem.ClaimJoined
import GoSem.ClaimMapViews
import Derived.JoinedTies
import Derived.KernelRfl
namespace Go.Proofs.YtoieemaheadjdaaDoor
/- THE CELL 'sum', in the pinned program and in every row, IS THE sha256 OF THE DUMP (.gsa) THAT YtoieemaheadjdaaDoorProg.lean LOADS. Nothing in Lean hashes anything: it is a label: what it is worth is what the hold of that sum in a sandbox is worth. -/
noncomputable def Tryd.pinned : Pinned := { name := "ytoieemaheadjdaadoor", sum := "3862a416367dc0b5c4337ae294c1034175af8d0d8281edf0938c7cdb9c99e403", checked := Tryd.checked }
namespace Rows
def none {H : Type} : Left H := { results := [], args := [] }

/- WHAT THE LISTED PACKAGE-LEVEL VARIABLES READ AS WHEN THE CALL BEGINS. Each datum BY PROGRAM (the guide's laid-datum.mjs) off the statement by which the dump's own 'gosem.cut.vars' lays the variable. In a bare row this is a premise. The card (YtoieemaheadjdaaDoorCards.lean) ties it to the program's text. -/
def laid_math_bits_deBruijn64tab {H : Type} : DataW H := .agg [.lit (.int .u8 0), .lit (.int .u8 1), .lit (.int .u8 56), .lit (.int .u8 2), .lit (.int .u8 57), .lit (.int .u8 49), .lit (.int .u8 28), .lit (.int .u8 3), .lit (.int .u8 61), .lit (.int .u8 58), .lit (.int .u8 42), .lit (.int .u8 50), .lit (.int .u8 38), .lit (.int .u8 29), .lit (.int .u8 17), .lit (.int .u8 4), .lit (.int .u8 62), .lit (.int .u8 47), .lit (.int .u8 59), .lit (.int .u8 36), .lit (.int .u8 45), .lit (.int .u8 43), .lit (.int .u8 51), .lit (.int .u8 22), .lit (.int .u8 53), .lit (.int .u8 39), .lit (.int .u8 33), .lit (.int .u8 30), .lit (.int .u8 24), .lit (.int .u8 18), .lit (.int .u8 12), .lit (.int .u8 5), .lit (.int .u8 63), .lit (.int .u8 55), .lit (.int .u8 48), .lit (.int .u8 27), .lit (.int .u8 60), .lit (.int .u8 41), .lit (.int .u8 37), .lit (.int .u8 16), .lit (.int .u8 46), .lit (.int .u8 35), .lit (.int .u8 44), .lit (.int .u8 21), .lit (.int .u8 52), .lit (.int .u8 32), .lit (.int .u8 23), .lit (.int .u8 11), .lit (.int .u8 54), .lit (.int .u8 26), .lit (.int .u8 40), .lit (.int .u8 15), .lit (.int .u8 34), .lit (.int .u8 20), .lit (.int .u8 31), .lit (.int .u8 10), .lit (.int .u8 25), .lit (.int .u8 14), .lit (.int .u8 19), .lit (.int .u8 9), .lit (.int .u8 13), .lit (.int .u8 8), .lit (.int .u8 7), .lit (.int .u8 6)]
def laid_spinnaker_isa_names {H : Type} : DataW H := .agg [.lit (.string []), .lit (.string [108, 117, 105]), .lit (.string [97, 117, 105, 112, 99]), .lit (.string [106, 97, 108]), .lit (.string [106, 97, 108, 114]), .lit (.string [98, 101, 113]), .lit (.string [98, 110, 101]), .lit (.string [98, 108, 116]), .lit (.string [98, 103, 101]), .lit (.string [98, 108, 116, 117]), .lit (.string [98, 103, 101, 117]), .lit (.string [108, 98]), .lit (.string [108, 104]), .lit (.string [108, 119]), .lit (.string [108, 100]), .lit (.string [108, 98, 117]), .lit (.string [108, 104, 117]), .lit (.string [108, 119, 117]), .lit (.string [115, 98]), .lit (.string [115, 104]), .lit (.string [115, 119]), .lit (.string [115, 100]), .lit (.string [97, 100, 100, 105]), .lit (.string [115, 108, 116, 105]), .lit (.string [115, 108, 116, 105, 117]), .lit (.string [120, 111, 114, 105]), .lit (.string [111, 114, 105]), .lit (.string [97, 110, 100, 105]), .lit (.string [115, 108, 108, 105]), .lit (.string [115, 114, 108, 105]), .lit (.string [115, 114, 97, 105]), .lit (.string [97, 100, 100, 105, 119]), .lit (.string [115, 108, 108, 105, 119]), .lit (.string [115, 114, 108, 105, 119]), .lit (.string [115, 114, 97, 105, 119]), .lit (.string [97, 100, 100]), .lit (.string [115, 117, 98]), .lit (.string [115, 108, 108]), .lit (.string [115, 108, 116]), .lit (.string [115, 108, 116, 117]), .lit (.string [120, 111, 114]), .lit (.string [115, 114, 108]), .lit (.string [115, 114, 97]), .lit (.string [111, 114]), .lit (.string [97, 110, 100]), .lit (.string [97, 100, 100, 119]), .lit (.string [115, 117, 98, 119]), .lit (.string [115, 108, 108, 119]), .lit (.string [115, 114, 108, 119]), .lit (.string [115, 114, 97, 119]), .lit (.string [109, 117, 108]), .lit (.string [109, 117, 108, 104]), .lit (.string [109, 117, 108, 104, 115, 117]), .lit (.string [109, 117, 108, 104, 117]), .lit (.string [100, 105, 118]), .lit (.string [100, 105, 118, 117]), .lit (.string [114, 101, 109]), .lit (.string [114, 101, 109, 117]), .lit (.string [109, 117, 108, 119]), .lit (.string [100, 105, 118, 119]), .lit (.string [100, 105, 118, 117, 119]), .lit (.string [114, 101, 109, 119]), .lit (.string [114, 101, 109, 117, 119]), .lit (.string [102, 101, 110, 99, 101]), .lit (.string [101, 99, 97, 108, 108]), .lit (.string [101, 98, 114, 101, 97, 107]), .lit (.string [108, 114, 46, 119]), .lit (.string [115, 99, 46, 119]), .lit (.string [97, 109, 111, 115, 119, 97, 112, 46, 119]), .lit (.string [97, 109, 111, 97, 100, 100, 46, 119]), .lit (.string [97, 109, 111, 120, 111, 114, 46, 119]), .lit (.string [97, 109, 111, 97, 110, 100, 46, 119]), .lit (.string [97, 109, 111, 111, 114, 46, 119]), .lit (.string [97, 109, 111, 109, 105, 110, 46, 119]), .lit (.string [97, 109, 111, 109, 97, 120, 46, 119]), .lit (.string [97, 109, 111, 109, 105, 110, 117, 46, 119]), .lit (.string [97, 109, 111, 109, 97, 120, 117, 46, 119]), .lit (.string [108, 114, 46, 100]), .lit (.string [115, 99, 46, 100]), .lit (.string [97, 109, 111, 115, 119, 97, 112, 46, 100]), .lit (.string [97, 109, 111, 97, 100, 100, 46, 100]), .lit (.string [97, 109, 111, 120, 111, 114, 46, 100]), .lit (.string [97, 109, 111, 97, 110, 100, 46, 100]), .lit (.string [97, 109, 111, 111, 114, 46, 100]), .lit (.string [97, 109, 111, 109, 105, 110, 46, 100]), .lit (.string [97, 109, 111, 109, 97, 120, 46, 100]), .lit (.string [97, 109, 111, 109, 105, 110, 117, 46, 100]), .lit (.string [97, 109, 111, 109, 97, 120, 117, 46, 100])]

/-- 'spinnakerlaw14.RelPairs': WHATEVER THE INPUT: true; the input reads as it did. -/
def relPairsSpec : ChangeSpec := { name := "relPairs", fn := fun _ => fun
  | [d1, d2, d3] => { results := [.lit (.bool true)], args := [d1, d2, d3] }
  | _ => none }
def relPairsRow : OpenClaim := { program := "ytoieemaheadjdaadoor", sum := "3862a416367dc0b5c4337ae294c1034175af8d0d8281edf0938c7cdb9c99e403", func := "spinnaker/spinnakerlaw14.RelPairs", spec := "relPairs", unfollowed := true, recurses := true, named := ["math/bits.deBruijn64tab"], apart := false, laid := [("math/bits.deBruijn64tab", laid_math_bits_deBruijn64tab)] }
def RelPairsSaid : Prop := relPairsRow.holds Tryd.pinned (OpenSpec.ofChange relPairsSpec)

/-- ITS FALSE NEIGHBOUR: 'it returns false'. Refute it at one input. -/
def relPairsWrong : ChangeSpec := { name := "relPairs", fn := fun _ => fun
  | [d1, d2, d3] => { results := [.lit (.bool false)], args := [d1, d2, d3] }
  | _ => none }
def RelPairsWrongFalsely : Prop := relPairsRow.holds Tryd.pinned (OpenSpec.ofChange relPairsWrong)

/-- 'spinnakerlaw14.RelJoins': WHATEVER THE INPUT: true; the input reads as it did. -/
def relJoinsSpec : ChangeSpec := { name := "relJoins", fn := fun _ => fun
  | [d1, d2, d3] => { results := [.lit (.bool true)], args := [d1, d2, d3] }
  | _ => none }
def relJoinsRow : OpenClaim := { program := "ytoieemaheadjdaadoor", sum := "3862a416367dc0b5c4337ae294c1034175af8d0d8281edf0938c7cdb9c99e403", func := "spinnaker/spinnakerlaw14.RelJoins", spec := "relJoins", unfollowed := true, recurses := true, named := ["math/bits.deBruijn64tab"], apart := false, laid := [("math/bits.deBruijn64tab", laid_math_bits_deBruijn64tab)] }
def RelJoinsSaid : Prop := relJoinsRow.holds Tryd.pinned (OpenSpec.ofChange relJoinsSpec)

/-- ITS FALSE NEIGHBOUR: 'it returns false'. Refute it at one input. -/
def relJoinsWrong : ChangeSpec := { name := "relJoins", fn := fun _ => fun
  | [d1, d2, d3] => { results := [.lit (.bool false)], args := [d1, d2, d3] }
  | _ => none }
def RelJoinsWrongFalsely : Prop := relJoinsRow.holds Tryd.pinned (OpenSpec.ofChange relJoinsWrong)

/-- 'spinnakerlaw14.RelOrders': WHATEVER THE INPUT: true; the input reads as it did. -/
def relOrdersSpec : ChangeSpec := { name := "relOrders", fn := fun _ => fun
  | [d1, d2] => { results := [.lit (.bool true)], args := [d1, d2] }
  | _ => none }
def relOrdersRow : OpenClaim := { program := "ytoieemaheadjdaadoor", sum := "3862a416367dc0b5c4337ae294c1034175af8d0d8281edf0938c7cdb9c99e403", func := "spinnaker/spinnakerlaw14.RelOrders", spec := "relOrders", unfollowed := true, recurses := true, named := ["math/bits.deBruijn64tab"], apart := false, laid := [("math/bits.deBruijn64tab", laid_math_bits_deBruijn64tab)] }
def RelOrdersSaid : Prop := relOrdersRow.holds Tryd.pinned (OpenSpec.ofChange relOrdersSpec)

/-- ITS FALSE NEIGHBOUR: 'it returns false'. Refute it at one input. -/
def relOrdersWrong : ChangeSpec := { name := "relOrders", fn := fun _ => fun
  | [d1, d2] => { results := [.lit (.bool false)], args := [d1, d2] }
  | _ => none }
def RelOrdersWrongFalsely : Prop := relOrdersRow.holds Tryd.pinned (OpenSpec.ofChange relOrdersWrong)

/-- 'spinnakerlaw14.RelCloses': WHATEVER THE INPUT: true; the input reads as it did. -/
def relClosesSpec : ChangeSpec := { name := "relCloses", fn := fun _ => fun
  | [d1, d2] => { results := [.lit (.bool true)], args := [d1, d2] }
  | _ => none }
def relClosesRow : OpenClaim := { program := "ytoieemaheadjdaadoor", sum := "3862a416367dc0b5c4337ae294c1034175af8d0d8281edf0938c7cdb9c99e403", func := "spinnaker/spinnakerlaw14.RelCloses", spec := "relCloses", unfollowed := true, recurses := true, named := ["math/bits.deBruijn64tab"], apart := false, laid := [("math/bits.deBruijn64tab", laid_math_bits_deBruijn64tab)] }
def RelClosesSaid : Prop := relClosesRow.holds Tryd.pinned (OpenSpec.ofChange relClosesSpec)

/-- ITS FALSE NEIGHBOUR: 'it returns false'. Refute it at one input. -/
def relClosesWrong : ChangeSpec := { name := "relCloses", fn := fun _ => fun
  | [d1, d2] => { results := [.lit (.bool false)], args := [d1, d2] }
  | _ => none }
def RelClosesWrongFalsely : Prop := relClosesRow.holds Tryd.pinned (OpenSpec.ofChange relClosesWrong)

/-- 'spinnakerlaw14.RelNobody': WHATEVER THE INPUT: true; the input reads as it did. -/
def relNobodySpec : ChangeSpec := { name := "relNobody", fn := fun _ => fun
  | [d] => { results := [.lit (.bool true)], args := [d] }
  | _ => none }
def relNobodyRow : OpenClaim := { program := "ytoieemaheadjdaadoor", sum := "3862a416367dc0b5c4337ae294c1034175af8d0d8281edf0938c7cdb9c99e403", func := "spinnaker/spinnakerlaw14.RelNobody", spec := "relNobody", unfollowed := true, recurses := true, named := ["math/bits.deBruijn64tab"], apart := false, laid := [("math/bits.deBruijn64tab", laid_math_bits_deBruijn64tab)] }
def RelNobodySaid : Prop := relNobodyRow.holds Tryd.pinned (OpenSpec.ofChange relNobodySpec)

/-- ITS FALSE NEIGHBOUR: 'it returns false'. Refute it at one input. -/
def relNobodyWrong : ChangeSpec := { name := "relNobody", fn := fun _ => fun
  | [d] => { results := [.lit (.bool false)], args := [d] }
  | _ => none }
def RelNobodyWrongFalsely : Prop := relNobodyRow.holds Tryd.pinned (OpenSpec.ofChange relNobodyWrong)

/-- 'spinnakerlaw16.PpoRules': WHATEVER THE INPUT: true; the input reads as it did. -/
def ppoRulesSpec : ChangeSpec := { name := "ppoRules", fn := fun _ => fun
  | [d1, d2, d3] => { results := [.lit (.bool true)], args := [d1, d2, d3] }
  | _ => none }
def ppoRulesRow : OpenClaim := { program := "ytoieemaheadjdaadoor", sum := "3862a416367dc0b5c4337ae294c1034175af8d0d8281edf0938c7cdb9c99e403", func := "spinnaker/spinnakerlaw16.PpoRules", spec := "ppoRules", unfollowed := true, recurses := true, named := ["spinnaker/isa.names"], apart := false, laid := [("spinnaker/isa.names", laid_spinnaker_isa_names)] }
def PpoRulesSaid : Prop := ppoRulesRow.holds Tryd.pinned (OpenSpec.ofChange ppoRulesSpec)

/-- ITS FALSE NEIGHBOUR: 'it returns false'. Refute it at one input. -/
def ppoRulesWrong : ChangeSpec := { name := "ppoRules", fn := fun _ => fun
  | [d1, d2, d3] => { results := [.lit (.bool false)], args := [d1, d2, d3] }
  | _ => none }
def PpoRulesWrongFalsely : Prop := ppoRulesRow.holds Tryd.pinned (OpenSpec.ofChange ppoRulesWrong)

/-- 'spinnakerlaw16.PpoAll': WHATEVER THE INPUT: true; the input reads as it did. -/
def ppoAllSpec : ChangeSpec := { name := "ppoAll", fn := fun _ => fun
  | [d1, d2] => { results := [.lit (.bool true)], args := [d1, d2] }
  | _ => none }
def ppoAllRow : OpenClaim := { program := "ytoieemaheadjdaadoor", sum := "3862a416367dc0b5c4337ae294c1034175af8d0d8281edf0938c7cdb9c99e403", func := "spinnaker/spinnakerlaw16.PpoAll", spec := "ppoAll", unfollowed := true, recurses := true, named := ["spinnaker/isa.names"], apart := false, laid := [("spinnaker/isa.names", laid_spinnaker_isa_names)] }
def PpoAllSaid : Prop := ppoAllRow.holds Tryd.pinned (OpenSpec.ofChange ppoAllSpec)

/-- ITS FALSE NEIGHBOUR: 'it returns false'. Refute it at one input. -/
def ppoAllWrong : ChangeSpec := { name := "ppoAll", fn := fun _ => fun
  | [d1, d2] => { results := [.lit (.bool false)], args := [d1, d2] }
  | _ => none }
def PpoAllWrongFalsely : Prop := ppoAllRow.holds Tryd.pinned (OpenSpec.ofChange ppoAllWrong)

/-- 'spinnakerlaw16.PpoStrong': WHATEVER THE INPUT: true; the input reads as it did. -/
def ppoStrongSpec : ChangeSpec := { name := "ppoStrong", fn := fun _ => fun
  | [d1, d2] => { results := [.lit (.bool true)], args := [d1, d2] }
  | _ => none }
def ppoStrongRow : OpenClaim := { program := "ytoieemaheadjdaadoor", sum := "3862a416367dc0b5c4337ae294c1034175af8d0d8281edf0938c7cdb9c99e403", func := "spinnaker/spinnakerlaw16.PpoStrong", spec := "ppoStrong", unfollowed := true, recurses := true, named := ["spinnaker/isa.names"], apart := false, laid := [("spinnaker/isa.names", laid_spinnaker_isa_names)] }
def PpoStrongSaid : Prop := ppoStrongRow.holds Tryd.pinned (OpenSpec.ofChange ppoStrongSpec)

/-- ITS FALSE NEIGHBOUR: 'it returns false'. Refute it at one input. -/
def ppoStrongWrong : ChangeSpec := { name := "ppoStrong", fn := fun _ => fun
  | [d1, d2] => { results := [.lit (.bool false)], args := [d1, d2] }
  | _ => none }
def PpoStrongWrongFalsely : Prop := ppoStrongRow.holds Tryd.pinned (OpenSpec.ofChange ppoStrongWrong)

/- THE SECOND FORM. 'bulk': how many values and letters a reading holds, each counted each time it is reached (what is shared counts as often as it is met; a slice's spare places count too). A statement '..UptoSaid' is the law's where the arguments, and the package variables that the reading takes, are together of bulk at most 1048576: NARROWER than '..Said'. Prove '..Said' where nothing that the law and all that it calls make is longer than what came in: it says more and counts as full. Else prove '..UptoSaid'. A law counts once. -/
mutual
def uptoBulk {H : Type} : DataW H → Nat
  | .lit (.string bytes) => bytes.length + 1
  | .lit _ => 1
  | .nil => 1
  | .ptr d => uptoBulk d + 1
  | .slice elems spare => uptoBulkAll elems + uptoBulkAll spare + 1
  | .agg parts => uptoBulkAll parts + 1
  | .iface _ d => uptoBulk d + 1
  | .map entries => uptoBulkEntries entries + 1
  | .held _ => 1
def uptoBulkAll {H : Type} : List (DataW H) → Nat
  | [] => 0
  | d :: r => uptoBulk d + uptoBulkAll r
def uptoBulkEntries {H : Type} : List (Lit × DataW H) → Nat
  | [] => 0
  | x :: r => uptoBulkEntry x + uptoBulkEntries r
def uptoBulkEntry {H : Type} : Lit × DataW H → Nat
  | (.string bytes, d) => bytes.length + uptoBulk d + 1
  | (_, d) => uptoBulk d + 1
 end
def uptoSmall : (H : Type) → List (DataW H) → Bool := fun _ ds => decide (uptoBulkAll ds ≤ 1048576)
def OpenSpec.upto (s : _root_.Go.ChangeSpec) : _root_.Go.OpenSpec := { _root_.Go.OpenSpec.ofChange s with cond := some uptoSmall }

/-- 'spinnakerlaw14.RelPairs', WHERE WHAT IT READS IS OF BULK AT MOST 1048576: true; the input reads as it did. -/
def relPairsUptoRow : OpenClaim := { program := "ytoieemaheadjdaadoor", sum := "3862a416367dc0b5c4337ae294c1034175af8d0d8281edf0938c7cdb9c99e403", func := "spinnaker/spinnakerlaw14.RelPairs", spec := "relPairs", unfollowed := true, recurses := true, named := ["math/bits.deBruijn64tab"], apart := false, laid := [("math/bits.deBruijn64tab", laid_math_bits_deBruijn64tab)], narrowed := true }
def RelPairsUptoSaid : Prop := relPairsUptoRow.holds Tryd.pinned (OpenSpec.upto relPairsSpec)

/-- 'spinnakerlaw14.RelJoins', WHERE WHAT IT READS IS OF BULK AT MOST 1048576: true; the input reads as it did. -/
def relJoinsUptoRow : OpenClaim := { program := "ytoieemaheadjdaadoor", sum := "3862a416367dc0b5c4337ae294c1034175af8d0d8281edf0938c7cdb9c99e403", func := "spinnaker/spinnakerlaw14.RelJoins", spec := "relJoins", unfollowed := true, recurses := true, named := ["math/bits.deBruijn64tab"], apart := false, laid := [("math/bits.deBruijn64tab", laid_math_bits_deBruijn64tab)], narrowed := true }
def RelJoinsUptoSaid : Prop := relJoinsUptoRow.holds Tryd.pinned (OpenSpec.upto relJoinsSpec)

/-- 'spinnakerlaw14.RelOrders', WHERE WHAT IT READS IS OF BULK AT MOST 1048576: true; the input reads as it did. -/
def relOrdersUptoRow : OpenClaim := { program := "ytoieemaheadjdaadoor", sum := "3862a416367dc0b5c4337ae294c1034175af8d0d8281edf0938c7cdb9c99e403", func := "spinnaker/spinnakerlaw14.RelOrders", spec := "relOrders", unfollowed := true, recurses := true, named := ["math/bits.deBruijn64tab"], apart := false, laid := [("math/bits.deBruijn64tab", laid_math_bits_deBruijn64tab)], narrowed := true }
def RelOrdersUptoSaid : Prop := relOrdersUptoRow.holds Tryd.pinned (OpenSpec.upto relOrdersSpec)

/-- 'spinnakerlaw14.RelCloses', WHERE WHAT IT READS IS OF BULK AT MOST 1048576: true; the input reads as it did. -/
def relClosesUptoRow : OpenClaim := { program := "ytoieemaheadjdaadoor", sum := "3862a416367dc0b5c4337ae294c1034175af8d0d8281edf0938c7cdb9c99e403", func := "spinnaker/spinnakerlaw14.RelCloses", spec := "relCloses", unfollowed := true, recurses := true, named := ["math/bits.deBruijn64tab"], apart := false, laid := [("math/bits.deBruijn64tab", laid_math_bits_deBruijn64tab)], narrowed := true }
def RelClosesUptoSaid : Prop := relClosesUptoRow.holds Tryd.pinned (OpenSpec.upto relClosesSpec)

/-- 'spinnakerlaw14.RelNobody', WHERE WHAT IT READS IS OF BULK AT MOST 1048576: true; the input reads as it did. -/
def relNobodyUptoRow : OpenClaim := { program := "ytoieemaheadjdaadoor", sum := "3862a416367dc0b5c4337ae294c1034175af8d0d8281edf0938c7cdb9c99e403", func := "spinnaker/spinnakerlaw14.RelNobody", spec := "relNobody", unfollowed := true, recurses := true, named := ["math/bits.deBruijn64tab"], apart := false, laid := [("math/bits.deBruijn64tab", laid_math_bits_deBruijn64tab)], narrowed := true }
def RelNobodyUptoSaid : Prop := relNobodyUptoRow.holds Tryd.pinned (OpenSpec.upto relNobodySpec)

/-- 'spinnakerlaw16.PpoRules', WHERE WHAT IT READS IS OF BULK AT MOST 1048576: true; the input reads as it did. -/
def ppoRulesUptoRow : OpenClaim := { program := "ytoieemaheadjdaadoor", sum := "3862a416367dc0b5c4337ae294c1034175af8d0d8281edf0938c7cdb9c99e403", func := "spinnaker/spinnakerlaw16.PpoRules", spec := "ppoRules", unfollowed := true, recurses := true, named := ["spinnaker/isa.names"], apart := false, laid := [("spinnaker/isa.names", laid_spinnaker_isa_names)], narrowed := true }
def PpoRulesUptoSaid : Prop := ppoRulesUptoRow.holds Tryd.pinned (OpenSpec.upto ppoRulesSpec)

/-- 'spinnakerlaw16.PpoAll', WHERE WHAT IT READS IS OF BULK AT MOST 1048576: true; the input reads as it did. -/
def ppoAllUptoRow : OpenClaim := { program := "ytoieemaheadjdaadoor", sum := "3862a416367dc0b5c4337ae294c1034175af8d0d8281edf0938c7cdb9c99e403", func := "spinnaker/spinnakerlaw16.PpoAll", spec := "ppoAll", unfollowed := true, recurses := true, named := ["spinnaker/isa.names"], apart := false, laid := [("spinnaker/isa.names", laid_spinnaker_isa_names)], narrowed := true }
def PpoAllUptoSaid : Prop := ppoAllUptoRow.holds Tryd.pinned (OpenSpec.upto ppoAllSpec)

/-- 'spinnakerlaw16.PpoStrong', WHERE WHAT IT READS IS OF BULK AT MOST 1048576: true; the input reads as it did. -/
def ppoStrongUptoRow : OpenClaim := { program := "ytoieemaheadjdaadoor", sum := "3862a416367dc0b5c4337ae294c1034175af8d0d8281edf0938c7cdb9c99e403", func := "spinnaker/spinnakerlaw16.PpoStrong", spec := "ppoStrong", unfollowed := true, recurses := true, named := ["spinnaker/isa.names"], apart := false, laid := [("spinnaker/isa.names", laid_spinnaker_isa_names)], narrowed := true }
def PpoStrongUptoSaid : Prop := ppoStrongUptoRow.holds Tryd.pinned (OpenSpec.upto ppoStrongSpec)

end Rows
end Go.Proofs.YtoieemaheadjdaaDoor
