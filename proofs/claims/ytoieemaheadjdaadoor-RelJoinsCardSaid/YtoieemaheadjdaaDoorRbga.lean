/- RelJoins: what the document's loops lay out is what Union, Turned and After are told as. Written by an AI agent in this seat's session; checked by Lean alone. No axiom, no sorry. -/
import Derived.Test.YtoieemaheadjdaaDoorRelP
import Derived.Test.YtoieemaheadjdaaDoorRbk
namespace Go.Proofs.YtoieemaheadjdaaDoor.PRel
open Go.RowKit Go.Proofs.YtoieemaheadjdaaDoorW.PrintWords Go.Proofs.YtoieemaheadjdaaDoorW.PrintLast Go.Proofs.YtoieemaheadjdaaDoorW.PrintMore Go.Proofs.YtoieemaheadjdaaDoor.PRelOrders
set_option linter.unusedVariables false
set_option linter.unusedSimpArgs false
/-- A table as far as the loops over a and b have come. -/
def Upto (N : Nat) (P : Nat → Nat → Bool) (a b : Nat) (U : List (List Bool)) : Prop := Shape N U ∧ ∀ x y, x < N → y < N → at2 U x y = (P x y && decide (x < a ∨ x = a ∧ y < b))
/-- And within one place. -/
def Part (N : Nat) (P : Nat → Nat → Bool) (a b : Nat) (r : Bool) (U : List (List Bool)) : Prop := Shape N U ∧ ∀ x y, x < N → y < N → at2 U x y = ((P x y && decide (x < a ∨ x = a ∧ y < b)) || (r && decide (x = a ∧ y = b)))
theorem upto_new (N : Nat) (P : Nat → Nat → Bool) : Upto N P 0 0 (tab0 N) := ⟨shape_tab0 N, fun x y _ _ => by rw [at2_tab0, decide_eq_false (by omega), Bool.and_false]⟩
theorem upto_part {N : Nat} {P : Nat → Nat → Bool} {a b : Nat} {U : List (List Bool)} (h : Upto N P a b U) : Part N P a b false U := ⟨h.1, fun x y hx hy => by rw [h.2 x y hx hy, Bool.false_and, Bool.or_false]⟩
theorem part_add {N : Nat} {P : Nat → Nat → Bool} {a b : Nat} {r : Bool} {U : List (List Bool)} (h : Part N P a b r U) : Part N P a b true (addR N U (a : Int) (b : Int)) := by
  refine ⟨shape_add h.1 a b, fun x y hx hy => ?_⟩
  rw [at2_add h.1, h.2 x y hx hy]
  by_cases hq : x = a ∧ y = b
  · rw [decide_eq_true (show (x, y) = (a, b) ∧ x < N ∧ y < N from ⟨by rw [hq.1, hq.2], hx, hy⟩), decide_eq_true hq, Bool.or_true, Bool.true_and, Bool.or_true]
  · rw [decide_eq_false (show ¬ ((x, y) = (a, b) ∧ x < N ∧ y < N) from fun e => hq (Prod.mk.inj e.1)), decide_eq_false hq, Bool.or_false, Bool.and_false, Bool.and_false]
theorem part_end {N : Nat} {P : Nat → Nat → Bool} {a b : Nat} {r : Bool} {U : List (List Bool)} (h : Part N P a b r U) (e : r = P a b) : Upto N P a (b + 1) U := by
  refine ⟨h.1, fun x y hx hy => ?_⟩
  rw [h.2 x y hx hy]
  by_cases hq : x = a ∧ y = b
  · obtain ⟨rfl, rfl⟩ := hq
    rw [decide_eq_false (show ¬ (x < x ∨ x = x ∧ y < y) by omega), decide_eq_true (show x = x ∧ y = y from ⟨rfl, rfl⟩), decide_eq_true (show x < x ∨ x = x ∧ y < y + 1 by omega), e]
    simp
  · rw [decide_eq_false hq, Bool.and_false, Bool.or_false]
    congr 1
    by_cases h2 : x < a ∨ x = a ∧ y < b
    · rw [decide_eq_true h2, decide_eq_true (by omega)]
    · rw [decide_eq_false h2, decide_eq_false (by omega)]
theorem upto_row {N : Nat} {P : Nat → Nat → Bool} {a : Nat} {U : List (List Bool)} (h : Upto N P a N U) : Upto N P (a + 1) 0 U := by
  refine ⟨h.1, fun x y hx hy => ?_⟩
  rw [h.2 x y hx hy]
  congr 1
  by_cases h2 : x ≤ a
  · rw [decide_eq_true (by omega), decide_eq_true (by omega)]
  · rw [decide_eq_false (by omega), decide_eq_false (by omega)]
theorem upto_done {N : Nat} {P : Nat → Nat → Bool} {U : List (List Bool)} (h : Upto N P N 0 U) (x y : Nat) (hx : x < N) (hy : y < N) : at2 U x y = P x y := by
  rw [h.2 x y hx hy, decide_eq_true (by omega), Bool.and_true]
theorem has_at {M : Nat} {T : List (List Bool)} (h : Shape M T) (x y : Nat) : (mayB M (x : Int) && (mayB M (y : Int) && atB T (x : Int) (y : Int))) = at2 T x y := by
  rw [atB_nat]
  cases e : at2 T x y with
  | false => rw [Bool.and_false, Bool.and_false]
  | true =>
    obtain ⟨h1, h2⟩ := at2_lt h e
    rw [show mayB M (x : Int) = true by unfold mayB; simp [h1], show mayB M (y : Int) = true by unfold mayB; simp [h2]]
    rfl
/-- The union, turned, and over both. -/
def uniP (T1 T2 : List (List Bool)) (x y : Nat) : Bool := at2 T1 x y || at2 T2 x y
def turnP (T1 : List (List Bool)) (x y : Nat) : Bool := at2 T1 y x
def overP (T1 T2 : List (List Bool)) (x y n : Nat) : Bool := (List.range n).any fun c => at2 T1 x c && at2 T2 c y
theorem overP_zero (T1 T2 : List (List Bool)) (x y : Nat) : overP T1 T2 x y 0 = false := rfl
theorem overP_succ (T1 T2 : List (List Bool)) (x y n : Nat) : overP T1 T2 x y (n + 1) = (overP T1 T2 x y n || (at2 T1 x n && at2 T2 n y)) := by
  unfold overP
  rw [List.range_succ, List.any_append]
  simp
theorem uni_eq {N M : Nat} {T1 T2 U : List (List Bool)} (h1 : Shape N T1) (h2 : Shape M T2) (h : Upto N (uniP T1 T2) N 0 U) : addAll N (pairsL N T1 :: [pairsL M T2]).flatten (tab0 N) = U := by
  refine addAll_eq h.1 fun x y hx hy => ?_
  rw [upto_done h x y hx hy, uniP, Bool.or_eq_true, ← mem_pairs h1, ← mem_pairs h2]
  simp
theorem turn_eq {N : Nat} {T1 U : List (List Bool)} (h1 : Shape N T1) (h : Upto N (turnP T1) N 0 U) : turnedT N T1 = U := by
  unfold turnedT
  refine addAll_eq h.1 fun x y hx hy => ?_
  rw [upto_done h x y hx hy, turnP, ← mem_pairs h1, List.mem_map]
  constructor
  · intro hm
    exact ⟨(y, x), hm, rfl⟩
  · rintro ⟨⟨p, q⟩, hm, e⟩
    unfold swapP at e
    obtain ⟨e1, e2⟩ := Prod.mk.inj e
    simp only at e1 e2
    subst e1 e2
    exact hm
theorem over_eq {N : Nat} {T1 T2 U : List (List Bool)} (h1 : Shape N T1) (h : Upto N (fun x y => overP T1 T2 x y N) N 0 U) : afterT N T1 T2 = U := by
  unfold afterT
  refine addAll_eq h.1 fun x y hx hy => ?_
  rw [upto_done h x y hx hy]
  unfold overP
  rw [List.any_eq_true, List.mem_flatMap]
  constructor
  · rintro ⟨c, hc, hcc⟩
    rw [Bool.and_eq_true] at hcc
    exact ⟨(x, c), (mem_pairs h1 x c).2 hcc.1, List.mem_map.2 ⟨y, mem_trues.2 hcc.2, rfl⟩⟩
  · rintro ⟨⟨p, c⟩, hm, hm2⟩
    obtain ⟨d, hd, e⟩ := List.mem_map.1 hm2
    obtain ⟨e1, e2⟩ := Prod.mk.inj e
    simp only at e1
    subst e1 e2
    have := (mem_pairs h1 p c).1 hm
    exact ⟨c, List.mem_range.2 (at2_lt h1 this).2, by rw [Bool.and_eq_true]; exact ⟨this, mem_trues.1 hd⟩⟩
end Go.Proofs.YtoieemaheadjdaaDoor.PRel
