/- What came in, opened: a list of pairs, a pair; the table. Written by an AI agent in this seat's session; checked by Lean alone. No axiom, no sorry. -/
import Derived.Test.YtoieemaheadjdaaDoorCards
import Derived.Test.YtoieemaheadjdaaDoorTie
import Derived.WalkKit
import Derived.ProofKit
import Derived.OpenShut
import Derived.ShutString
import Derived.ChangeOld
import Derived.Below
import Derived.SizedLaws
import Derived.WideShapes
import Derived.LaidMore
import Derived.Deep.DeepHandedRow
import Derived.Lib.LaidTab
import Derived.Test.YtoieemaheadjdaaDoorRbv
import Derived.Test.YtoieemaheadjdaaDoorOpenB
namespace Go.Proofs.YtoieemaheadjdaaDoor.PRel
open Go.RowKit Go.Proofs.YtoieemaheadjdaaDoorW.PrintWords Go.Proofs.YtoieemaheadjdaaDoorW.PrintLast Go.Proofs.YtoieemaheadjdaaDoorW.PrintMore Go.Proofs.YtoieemaheadjdaaDoor.PRelOrders
set_option linter.unusedVariables false
set_option linter.unusedSimpArgs false
open Go.ChangeShapes Go.WideShapes Go.ChangeAt Go.Proofs.YtoieemaheadjdaaDoor.OpenB
def kP : Kd (Int × Int) := Kd.pair (Kd.int .i64) (Kd.int .i64)
set_option maxRecDepth 10000 in
theorem opens_pair : Opens Tryd.prog 23 kP (fun x => (Lit.int .i64 x.1).wf = true ∧ (Lit.int .i64 x.2).wf = true) (fun _ => 1) := by
  intro H enc W base spare held fuel cs y hy
  obtain ⟨xs, m, _, hy1, hl, hxl, hf⟩ := DataW.trod_array Tryd.underlying23 hy
  have hc3 : Tryd.prog.cellsOf 3 = 1 := by kernel_rfl
  have hc23 : Tryd.prog.cellsOf 23 = 2 := by kernel_rfl
  rw [hc23] at hl
  have h0 := hf 0 (by omega)
  have h1 := hf 1 (by omega)
  rw [hc3, List.getElem?_eq_getElem (by omega)] at h0 h1
  obtain ⟨x, hx, hwx, _⟩ := opens_int Tryd.underlying3 H enc W base spare held m _ _ h0
  obtain ⟨z, hz, hwz, _⟩ := opens_int Tryd.underlying3 H enc W base spare held m _ _ h1
  refine ⟨(x, z), ⟨_, _, ?_, hx, hz⟩, ⟨hwx, hwz⟩, one_le _⟩
  obtain ⟨a, b, rfl⟩ : ∃ a b, cs = [a, b] := by
    match cs, hl with
    | [a, b], _ => exact ⟨a, b, rfl⟩
  rfl
theorem op_22 : Opens Tryd.prog 22 (Kd.slice 23 kP) (okSl fun x => (Lit.int .i64 x.1).wf = true ∧ (Lit.int .i64 x.2).wf = true) (wtSl fun _ => 1) := opens_slice Tryd.underlying22 (show Tryd.prog.cellsOf 23 = kP.sz by kernel_rfl) opens_pair
/-- Pairs that came in are seen. -/
theorem sees_of {W : World} {A : Option Addr} {c : Nat} {l : List (Int × Int)} (hC : kP.C W A l.length l) (hc : l.length ≤ c) (hm : l.length ≤ maxLen) : PSees W (.slice A l.length c) l := by
  refine ⟨by unfold maxLen at hm; omega, A, c, rfl, hc, fun i x hi => ?_⟩
  have hlt := (List.getElem?_eq_some_iff.1 hi).1
  obtain ⟨ad, rfl, hcs⟩ := hC.2.2 (by omega)
  obtain ⟨cs, hl, ⟨c0, c1, rfl, h0, h1⟩, hcell⟩ := hcs i x hi
  obtain ⟨n0, rfl, _⟩ := h0
  have h1' : c1 = [.int .i64 x.2] := h1
  subst h1'
  have e0 := hcell 0 _ rfl
  have e1 := hcell 1 _ rfl
  exact ⟨ad, rfl, e0, e1⟩
theorem tabLaid {W : World} (h : laidMetH Tryd.prog Rows.relPairsRow.laid W) : TabLaid W := by
  have h' : laidMet Tryd.prog [("math/bits.deBruijn64tab", Rows.laid_math_bits_deBruijn64tab)] W := h
  have ht := Lib.tabIs_of_head (P := Tryd.prog) (W := W) (name := "math/bits.deBruijn64tab") (k := .u8) (zs := Lib.deBruijn64tab.map fun (n : Nat) => (n : Int)) (rest := []) (g := 0) (t := 119) (e := 5) (n := 64) (by kernel_rfl) (by kernel_rfl) Tryd.underlying119 (by kernel_rfl) (by kernel_rfl) (by kernel_rfl) h'
  intro j hj
  have hl : Lib.deBruijn64tab.length = 64 := by decide +kernel
  refine (World.var?_cell (show Tryd.prog.globalNamed "math/bits.deBruijn64tab" = some 0 by kernel_rfl) ht j).trans ?_
  simp [List.getElem?_eq_getElem (show j < Lib.deBruijn64tab.length by omega), List.getD]
theorem okWide_array {P : Program} {w : World} {r : Reach} {base : Nat} {t e : TypeId} {n : Nat} {v : Value} (ht : P.underlying t = some (.array n e)) (h : Value.okWide P w r base t v) : ∃ cs, v = .agg cs ∧ cs.size = P.cellsOf t := by
  simp only [Value.okWide, ht] at h
  obtain ⟨cs, h1, h2, _⟩ := h
  exact ⟨cs, h1, h2⟩
/-- A pair that came in. -/
theorem pair_in {H : Type} {enc : TypeId × Value → H} {W : World} {base : Nat} {spare : Nat → Bool} {held : Bool} {cs : Array Value} {D : DataW H} {ps : List MemPlace} (h : DataW.Trod enc Tryd.prog W base spare held 23 (.agg cs) D ps) : ∃ x : Int × Int, cs = #[.int .i64 x.1, .int .i64 x.2] := by
  obtain ⟨x, ⟨c0, c1, hc, h0, h1⟩, _, _⟩ := struct_in opens_pair h
  have h0' : c0 = [.int .i64 x.1] := h0
  have h1' : c1 = [.int .i64 x.2] := h1
  subst h0' h1'
  exact ⟨x, Array.toList_inj.1 hc⟩
theorem own : ownKnob Tryd.prog.godebug = none := by kernel_rfl
theorem laidOut : laidOutB Tryd.prog = true := by kernel_rfl
noncomputable def laidWorld (os : Os) : World := World.doorLaid Tryd.prog 400 os
end Go.Proofs.YtoieemaheadjdaaDoor.PRel
