/- The things of a row, told one after the other: the iterator of a row. Written by an AI agent in this seat's session; checked by Lean alone. No axiom, no sorry. -/
import Derived.Test.YtoieemaheadjdaaDoorRelP
import Derived.RangeFuncNested
import Derived.RangeFuncLeaves
import Derived.Shelf.Abstract
import Derived.Shelf.RegionOpen
import Derived.WalkKit
import Derived.OwnWalkIn
import Derived.TacticsInMore
import Derived.LoopNIn
import Derived.LoopIn
import Derived.Lib.TrailingZeros
import Derived.Test.YtoieemaheadjdaaDoorRbd
namespace Go.Proofs.YtoieemaheadjdaaDoor.PRel
open Go.RowKit Go.Proofs.YtoieemaheadjdaaDoorW.PrintWords Go.Proofs.YtoieemaheadjdaaDoorW.PrintLast Go.Proofs.YtoieemaheadjdaaDoorW.PrintMore Go.Proofs.YtoieemaheadjdaaDoor.PRelOrders
set_option linter.unusedVariables false
set_option linter.unusedSimpArgs false
attribute [local go_sem] Oper.semAt_some
/-- The table of the lowest bits is laid. -/
def TabLaid (w : World) : Prop := ∀ j : Nat, j < 64 → w.cell? ⟨0, j, none⟩ = some (.int .u8 ((Lib.deBruijn64tab.getD j 0 : Nat) : Int))
theorem TabLaid.lt {w : World} (h : TabLaid w) : 0 < w.heap.size := World.block_lt_of_cell? w _ (h 0 (by omega))
theorem TabLaid.below {n : Nat} {w w' : World} (h : TabLaid w) (hn : 0 < n) (hb : Below n w w') : TabLaid w' := fun j hj => (hb.cell (p := ⟨0, j, none⟩) hn).trans (h j hj)
theorem tz_keys (x a : Nat) (hx : x < 18446744073709551616) (hlow : x &&& (18446744073709551616 - x) = a) (hx0 : x ≠ 0) :
    ∃ y z u : Int, IntKind.u64.wrap (-(x : Int)) = y ∧ bits BinOp.and IntKind.u64 (x : Int) y = z ∧ IntKind.u64.wrap (z * 285870213051353865) = u ∧ u / 288230376151711744 = ((a * 285870213051353865 % 18446744073709551616 / 288230376151711744 : Nat) : Int) := by
  have e1 : IntKind.u64.wrap (-(x : Int)) = ((18446744073709551616 - x : Nat) : Int) := by rw [IntKind.wrap_u64]; omega
  refine ⟨_, _, _, e1, rfl, rfl, ?_⟩
  rw [bits_and_u64_nat x _ hx (by omega), hlow, IntKind.wrap_u64]
  omega
set_option maxRecDepth 100000 in
theorem tz_core (x : Nat) (y z u : Int) (k idx : Nat) (w : World) (h0 : ((x : Int) == 0) = false) (h1 : IntKind.u64.wrap (-(x : Int)) = y) (h2 : bits BinOp.and IntKind.u64 (x : Int) y = z) (h3 : IntKind.u64.wrap (z * 285870213051353865) = u) (h4 : u / 288230376151711744 = (idx : Int)) (hi : (idx : Int) < 64)
    (hc : w.cell? ⟨0, idx, none⟩ = some (.int .u8 (k : Int))) (hk : k < 64) : Calls Tryd.prog 60 #[.int .u64 (x : Int)] w fun e w' => e = .returned (.int .i64 (k : Int)) ∧ w' = w := by
  go_enter Tryd.func60, Tryd.ntmps60
  go_upto_region 3 with (fail)
  go_wp2_with (first | simp only [h1] | simp only [h2] | simp only [h3] | simp only [h4])
  go_ret
  exact ⟨rfl, rfl⟩
theorem tz_walk (x : Nat) (hx : x < 18446744073709551616) (hx0 : x ≠ 0) (w : World) (hG : TabLaid w) :
    Calls Tryd.prog 60 #[.int .u64 (x : Int)] w fun e w' => e = .returned (.int .i64 ((Lib.ctz 64 x : Nat) : Int)) ∧ w' = w := by
  obtain ⟨hlow, hk⟩ := Lib.lowest_bit 64 x hx0 hx
  obtain ⟨hi, htab⟩ := Lib.deBruijn64_at _ hk
  have hcell := hG _ hi
  rw [htab] at hcell
  obtain ⟨y, z, u, h1, h2, h3, h4⟩ := tz_keys x _ hx hlow hx0
  exact tz_core x y z u _ _ w (beq_eq_false_iff_ne.mpr (by omega)) h1 h2 h3 h4 (by omega) hcell hk
/-- w.all(): the row is boxed; the function value captures the box. -/
theorem all_walk (F : Fence) (n : Nat) (hF : F.fn 47) (hro : F.round = none) (a : Option Addr) (len cap : Nat) (w : World) :
    CallsIn F n Tryd.prog 47 #[.slice a len cap] w fun e w' => e = .returned (.func (.func 59) #[] #[.pointer (some ⟨w.heap.size, 0, none⟩)]) ∧ w' = w.alloc (.cells #[.slice a len cap] 77) := by
  refine callsIn_of_wp Tryd.func47 rfl hF ?_ hro
  simp only [Tryd.ntmps47, List.size_toArray, List.length_cons, List.length_nil, Nat.reduceAdd, Nat.reduceSub, Array.replicate_succ, Array.replicate_zero, List.push_toArray, List.append_toArray, List.nil_append, List.cons_append]
  gi_wp2
  go_ret
  exact ⟨rfl, rfl⟩
end Go.Proofs.YtoieemaheadjdaaDoor.PRel
