/- RelNobody: the relation of nobody. Written by an AI agent in this seat's session; checked by Lean alone. No axiom, no sorry. -/
import Derived.Test.YtoieemaheadjdaaDoorRelP
import Derived.WalkKit
import Derived.OwnWalk
import Derived.Test.YtoieemaheadjdaaDoorRbbb
import Derived.Test.YtoieemaheadjdaaDoorRbv
namespace Go.Proofs.YtoieemaheadjdaaDoor.PRel
open Go.RowKit Go.Proofs.YtoieemaheadjdaaDoorW.PrintWords Go.Proofs.YtoieemaheadjdaaDoorW.PrintLast Go.Proofs.YtoieemaheadjdaaDoorW.PrintMore Go.Proofs.YtoieemaheadjdaaDoor.PRelOrders
set_option linter.unusedVariables false
set_option linter.unusedSimpArgs false
attribute [local go_sem] Oper.semAt_some
theorem nil_rel (w : World) : RelV w 0 0 none 0 [] := .inl ⟨rfl, rfl, rfl⟩
theorem row_empty {W : World} {base : Nat} {v : Value} {ps : List (Nat × Nat)} (h : PRow W base v ps) (e : ps = []) : ∃ A c, v = .slice A 0 c := by
  subst e
  obtain ⟨_, ⟨rfl, _⟩ | ⟨g, cap, cur, rfl, _⟩⟩ := h
  · exact ⟨none, 0, rfl⟩
  · exact ⟨_, cap, rfl⟩
theorem irow_empty {W : World} {base : Nat} {v : Value} (h : IRow W base v []) : ∃ A c, v = .slice A 0 c := by
  obtain ⟨_, ⟨rfl, _⟩ | ⟨g, cap, cur, rfl, _⟩⟩ := h
  · exact ⟨none, 0, rfl⟩
  · exact ⟨_, cap, rfl⟩
theorem ord_nil (w : World) (hG : TabLaid w) : Calls Tryd.prog 26 #[.pointer none] w fun e w' => ∃ A c, e = .returned (.tuple #[.slice A 0 c, .bool true]) ∧ Below w.heap.size w w' := by
  refine (order_walk w (nil_rel w) (Nat.zero_le _) hG).mono ?_
  rintro e w' ⟨v, he, hi, hb⟩
  obtain ⟨A, c, rfl⟩ := irow_empty (show IRow w' w.heap.size v [] from hi)
  exact ⟨A, c, he, hb⟩
theorem acy_nil (w : World) (hG : TabLaid w) : Calls Tryd.prog 32 #[.pointer none] w fun e w' => e = .returned (.bool true) ∧ Below w.heap.size w w' := acyclic_walk w (nil_rel w) (Nat.zero_le _) hG
theorem len_nil (w : World) : Calls Tryd.prog 13 #[.pointer none] w fun e w' => e = .returned (.int .i64 0) ∧ w' = w := len_walk w (nil_rel w)
theorem add_nil (w : World) : Calls Tryd.prog 33 #[.pointer none, .int .i64 0, .int .i64 0] w fun e w' => e = .returned (.bool false) ∧ Below w.heap.size w w' := by
  refine (add_walk 0 0 w (nil_rel w)).mono ?_
  rintro e w' ⟨h1, _, ho⟩
  exact ⟨h1.trans (by rw [show (mayB 0 0 && mayB 0 0) = false by decide]), ho.os, ho.tape, ho.output, ho.size, fun k hk => ho.block k hk (by omega)⟩
theorem has_nil (w : World) : Calls Tryd.prog 19 #[.pointer none, .int .i64 0, .int .i64 0] w fun e w' => e = .returned (.bool false) ∧ w' = w := by
  refine (has_walk 0 0 w (nil_rel w)).mono ?_
  rintro e w' ⟨h1, h2⟩
  exact ⟨h1.trans (by rw [show mayB 0 0 = false by decide]; rfl), h2⟩
theorem pairs_empty {lo hi N : Nat} {pv : Option Addr} {At : List (List Bool)} (w : World) (hR : RelV w lo hi pv N At) (hhi : hi ≤ w.heap.size) (hG : TabLaid w) (h : pairsL N At = []) :
    Calls Tryd.prog 17 #[.pointer pv] w fun e w' => ∃ A c, e = .returned (.slice A 0 c) ∧ Below w.heap.size w w' := by
  refine (pairsL_walk w hR hhi hG).mono ?_
  rintro e w' ⟨v, rfl, hp, hb⟩
  obtain ⟨A, c, rfl⟩ := row_empty hp h
  exact ⟨A, c, rfl, hb⟩
theorem union_rn {lo hi N p : Nat} {At : List (List Bool)} (ad : Addr) (w : World) (hR : RelW w lo hi p N At) (hhi : hi ≤ w.heap.size) (hG : TabLaid w) (hc : w.cell? ad = some (.pointer none)) :
    Calls Tryd.prog 23 #[.pointer (some ⟨p, 0, none⟩), .slice (some ad) 1 1] w fun e w' => ∃ q h, e = .returned (.pointer (some ⟨q, 0, none⟩)) ∧ RelW w' w.heap.size h q N At ∧ h ≤ w'.heap.size ∧ Below w.heap.size w w' := by
  have hS := (show RelV w lo hi (some ⟨p, 0, none⟩) N At from .inr ⟨p, rfl, hR⟩).shape.1
  have := union_walk (some ad) 1 1 [none] [[]] w (.inr ⟨p, rfl, hR⟩) hhi hG (.inr ⟨ad, none, [], rfl, rfl, rfl, rfl, rfl, hc, 0, 0, 0, [], nil_rel w, Nat.zero_le _, rfl⟩)
  rwa [show (pairsL N At :: [[]]).flatten = pairsL N At by simp, addAll_pairs hS] at this
theorem pairs_tab0 (N : Nat) : pairsL N (tab0 N) = [] := by
  refine List.eq_nil_iff_forall_not_mem.2 fun x hx => ?_
  have := (mem_pairs (shape_tab0 N) x.1 x.2).1 hx
  rw [at2_tab0] at this
  cases this
theorem after_rn {lo hi N p : Nat} {At : List (List Bool)} (w : World) (hR : RelW w lo hi p N At) (hhi : hi ≤ w.heap.size) (hG : TabLaid w) :
    Calls Tryd.prog 25 #[.pointer (some ⟨p, 0, none⟩), .pointer none] w fun e w' => ∃ q h, e = .returned (.pointer (some ⟨q, 0, none⟩)) ∧ RelW w' w.heap.size h q N (tab0 N) ∧ h ≤ w'.heap.size ∧ Below w.heap.size w w' := by
  have := after_walk w (.inr ⟨p, rfl, hR⟩) hhi (nil_rel w) (Nat.zero_le _) hG
  rwa [show afterT N At [] = tab0 N by
    unfold afterT
    rw [show (pairsL N At).flatMap (overL []) = [] by
      rw [List.flatMap_eq_nil_iff]
      intro x _
      rfl]
    rfl] at this
theorem union_nr {lo hi N p : Nat} {At : List (List Bool)} (ad : Addr) (w : World) (hR : RelW w lo hi p N At) (hhi : hi ≤ w.heap.size) (hG : TabLaid w) (hc : w.cell? ad = some (.pointer (some ⟨p, 0, none⟩))) :
    Calls Tryd.prog 23 #[.pointer none, .slice (some ad) 1 1] w fun e w' => ∃ q h T, e = .returned (.pointer (some ⟨q, 0, none⟩)) ∧ RelW w' w.heap.size h q 0 T ∧ h ≤ w'.heap.size ∧ Below w.heap.size w w' := by
  refine (union_walk (some ad) 1 1 [some ⟨p, 0, none⟩] [pairsL N At] w (nil_rel w) (Nat.zero_le _) hG (.inr ⟨ad, _, _, rfl, rfl, rfl, rfl, rfl, hc, lo, hi, N, At, .inr ⟨p, rfl, hR⟩, hhi, rfl⟩)).mono ?_
  rintro e w' ⟨q, h, h1, h2, h3⟩
  exact ⟨q, h, _, h1, h2, h3⟩
theorem pairs_zero (T : List (List Bool)) : pairsL 0 T = [] := rfl
end Go.Proofs.YtoieemaheadjdaaDoor.PRel
