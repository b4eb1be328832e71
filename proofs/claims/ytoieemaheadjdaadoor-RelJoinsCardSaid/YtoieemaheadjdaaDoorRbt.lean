/- The rounds' own test of a relation of three things. Written by an AI agent in this seat's session; checked by Lean alone. No axiom, no sorry. -/
import Derived.Test.YtoieemaheadjdaaDoorRelP
import Derived.WalkKit
import Derived.Test.YtoieemaheadjdaaDoorRbs
namespace Go.Proofs.YtoieemaheadjdaaDoor.PRel
open Go.RowKit Go.Proofs.YtoieemaheadjdaaDoorW.PrintWords Go.Proofs.YtoieemaheadjdaaDoorW.PrintLast Go.Proofs.YtoieemaheadjdaaDoorW.PrintMore Go.Proofs.YtoieemaheadjdaaDoor.PRelOrders
set_option linter.unusedVariables false
set_option linter.unusedSimpArgs false
attribute [local go_sem] Oper.semAt_some
def awT1 : List (List Bool) := addR 3 (tab0 3) 0 1
def awT2 : List (List Bool) := addR 3 awT1 1 2
def awC : List (List Bool) := wAll 3 awT2 3
theorem aw_new (w : World) : Calls Tryd.prog 12 #[.int .i64 3] w fun e w' => ∃ p, e = .returned (.pointer (some ⟨p, 0, none⟩)) ∧ RelV w' w.heap.size w'.heap.size (some ⟨p, 0, none⟩) 3 (tab0 3) ∧ Below w.heap.size w w' :=
  (new_walk 3 w).mono fun e w' ⟨p, h1, h2, h3⟩ => ⟨p, h1, .inr ⟨p, rfl, h2⟩, h3⟩
theorem aw_add1 {lo hi : Nat} {pv : Option Addr} (w : World) (hR : RelV w lo hi pv 3 (tab0 3)) : Calls Tryd.prog 33 #[.pointer pv, .int .i64 0, .int .i64 1] w fun e w' => e = .returned (.bool true) ∧ RelV w' lo hi pv 3 awT1 ∧ Only lo hi w w' :=
  (add_walk 0 1 w hR).mono fun e w' ⟨h1, h2, h3⟩ => ⟨h1.trans (by rw [show (mayB 3 0 && mayB 3 1) = true by decide]), h2, h3⟩
theorem aw_add2 {lo hi : Nat} {pv : Option Addr} (w : World) (hR : RelV w lo hi pv 3 awT1) : Calls Tryd.prog 33 #[.pointer pv, .int .i64 1, .int .i64 2] w fun e w' => e = .returned (.bool true) ∧ RelV w' lo hi pv 3 awT2 ∧ Only lo hi w w' :=
  (add_walk 1 2 w hR).mono fun e w' ⟨h1, h2, h3⟩ => ⟨h1.trans (by rw [show (mayB 3 1 && mayB 3 2) = true by decide]), h2, h3⟩
theorem aw_close {lo hi : Nat} {pv : Option Addr} (w : World) (hR : RelV w lo hi pv 3 awT2) (hhi : hi ≤ w.heap.size) (hG : TabLaid w) : Calls Tryd.prog 30 #[.pointer pv] w fun e w' => ∃ p h, e = .returned (.pointer (some ⟨p, 0, none⟩)) ∧ RelV w' w.heap.size h (some ⟨p, 0, none⟩) 3 awC ∧ Below w.heap.size w w' :=
  (closure_walk w hR hhi hG).mono fun e w' ⟨p, h, h1, h2, _, h3⟩ => ⟨p, h, h1, .inr ⟨p, rfl, h2⟩, h3⟩
theorem aw_has1 {lo hi : Nat} {pv : Option Addr} (w : World) (hR : RelV w lo hi pv 3 awC) : Calls Tryd.prog 19 #[.pointer pv, .int .i64 0, .int .i64 2] w fun e w' => e = .returned (.bool true) ∧ w' = w :=
  (has_walk 0 2 w hR).mono fun e w' ⟨h1, h2⟩ => ⟨h1.trans (by rw [show (mayB 3 0 && (mayB 3 2 && atB awC 0 2)) = true by decide]), h2⟩
theorem aw_has2 {lo hi : Nat} {pv : Option Addr} (w : World) (hR : RelV w lo hi pv 3 awT2) : Calls Tryd.prog 19 #[.pointer pv, .int .i64 0, .int .i64 2] w fun e w' => e = .returned (.bool false) ∧ w' = w :=
  (has_walk 0 2 w hR).mono fun e w' ⟨h1, h2⟩ => ⟨h1.trans (by rw [show (mayB 3 0 && (mayB 3 2 && atB awT2 0 2)) = false by decide]), h2⟩
attribute [irreducible] awT1 awT2 awC
set_option maxRecDepth 100000 in
set_option maxHeartbeats 400000 in
theorem awake_walk (w : World) (hG : TabLaid w) :
    Calls Tryd.prog 14 #[] w fun e w' => e = .returned (.bool true) ∧ Below w.heap.size w w' := by
  have HG := Aside0.mk hG
  clear hG
  go_enter Tryd.func14, Tryd.ntmps14
  go_upto_region 2 with (go_at_call 12; refine (aw_new _).mono ?_; rintro e w1 ⟨p, rfl, hr, hb⟩; have HR := Aside0.mk hr; have HB := Aside0.mk hb; clear hr hb; generalize hh : w1.heap.size = h1 at HR; have HH := Aside0.mk hh; clear hh)
  go_wp2_with (first
    | (go_at_call 33; with_reducible refine (aw_add1 _ HR.out).mono ?_; rintro e w2 ⟨rfl, hr2, ho2⟩; have HR2 := Aside0.mk hr2; have HO2 := Aside0.mk ho2; clear hr2 ho2)
    | (go_at_call 33; with_reducible refine (aw_add2 _ HR2.out).mono ?_; rintro e w3 ⟨rfl, hr3, ho3⟩; have HR3 := Aside0.mk hr3; have HO3 := Aside0.mk ho3; clear hr3 ho3))
  have hs3 : h1 ≤ w3.heap.size := by (rw [← HH.out]; exact Nat.le_trans HO2.out.size HO3.out.size)
  have hb3 : Below w.heap.size w w3 := HO3.out.below (HO2.out.below HB.out (Nat.le_refl _) HB.out.size) (Nat.le_refl _) (Nat.le_trans HB.out.size HO2.out.size)
  have HS3 := Aside0.mk hs3
  have HB3 := Aside0.mk hb3
  clear hs3 hb3
  go_wp2_with (first
    | (go_at_call 30; refine (aw_close _ HR3.out HS3.out (HG.out.below HG.out.lt HB3.out)).mono ?_; rintro e w4 ⟨q, h4, rfl, hr4, hb4⟩; have HR4 := Aside0.mk hr4; have HB4 := Aside0.mk hb4; clear hr4 hb4)
    | (go_at_call 19; with_reducible refine (aw_has1 _ HR4.out).mono ?_; rintro e w5 ⟨rfl, hw5⟩; subst hw5)
    | (go_at_call 19; with_reducible refine (aw_has2 _ (HR3.out.grow HB4.out)).mono ?_; rintro e w5 ⟨rfl, hw5⟩; subst hw5))
  go_ret
  exact ⟨rfl, below_then HB3.out HB3.out.size HB4.out⟩
end Go.Proofs.YtoieemaheadjdaaDoor.PRel
