/- Few things; a new reference relation of fewer than no things; what a row of pairs reads as. Written by an AI agent in this seat's session; checked by Lean alone. No axiom, no sorry. -/
import Derived.Test.YtoieemaheadjdaaDoorRelP
import Derived.WalkKit
import Derived.Test.YtoieemaheadjdaaDoorRbr
namespace Go.Proofs.YtoieemaheadjdaaDoor.PRel
open Go.RowKit Go.Proofs.YtoieemaheadjdaaDoorW.PrintWords Go.Proofs.YtoieemaheadjdaaDoorW.PrintLast Go.Proofs.YtoieemaheadjdaaDoorW.PrintMore Go.Proofs.YtoieemaheadjdaaDoor.PRelOrders
set_option linter.unusedVariables false
set_option linter.unusedSimpArgs false
attribute [local go_sem] Oper.semAt_some
theorem few_walk {v : Value} {l : List (Int × Int)} (n : Int) (w : World) (hv : PSees w v l) :
    Calls Tryd.prog 11 #[.int .i64 n, v] w fun e w' => e = .returned (.bool (decide (n ≤ 80) && decide (l.length ≤ 300))) ∧ w' = w := by
  obtain ⟨_, A, c, rfl, _, _⟩ := hv
  go_enter Tryd.func11, Tryd.ntmps11
  by_cases h1 : n ≤ 80
  · by_cases h2 : l.length ≤ 300
    · have h2z : (l.length : Int) ≤ 300 := by omega
      go_wp2_with (fail)
      go_ret
      exact ⟨by simp [h1, h2], rfl⟩
    · have h2z : ¬ (l.length : Int) ≤ 300 := by omega
      go_wp2_with (fail)
      go_ret
      exact ⟨by simp [h1, h2], rfl⟩
  · go_wp2_with (fail)
    go_ret
    exact ⟨by simp; intro h; omega, rfl⟩
set_option maxRecDepth 100000 in
set_option maxHeartbeats 4000000 in
theorem rnew_neg (n : Int) (hn : n < 0) (w : World) :
    Calls Tryd.prog 21 #[.int .i64 n] w fun e w' => ∃ p : Nat, e = .returned (.pointer (some ⟨p, 0, none⟩)) ∧ RefIs w' w.heap.size w'.heap.size p 0 [] ∧ Below w.heap.size w w' := by
  have hu := Tryd.underlying39
  have HB := Aside0.mk (Below.refl w.heap.size w)
  go_enter Tryd.func21, Tryd.ntmps21
  go_upto_region 6 with (first | ((with_reducible refine gate_dst (N := 11) rfl ?_); refine box_event ?hg (N := 11) ?hd (cs := #[.int .i64 0, .slice none 0 0]) (t := 39) ?hr ?_; (case hd => rfl); (case hg => rfl); (case hr => first | (go_simp; done) | (go_simp; rfl)); intro p hp wb hbox hb; have BKp := Aside0.mk hbox; have GP := Aside0.mk (show w.heap.size ≤ p by rw [hp]; exact below_size (by repeat (first | (with_reducible first | exact HB.out | apply below_alloc | apply pw_below_drewN | apply below_drew1) | exact HB.out))); have n0_ := Aside0.mk (below_step (by repeat (first | (with_reducible first | exact HB.out | apply below_alloc | apply pw_below_drewN | apply below_drew1) | exact HB.out)) hb); clear HB; have HB := n0_; clear n0_ hb hbox hp))
  go_wp2_with (fail)
  go_loopg [4] 0 (fun gg v4 wr => v4 = .int .i64 0 ∧ wr = wb)
  case atStart => exact ⟨rfl, rfl⟩
  case round =>
    obtain ⟨rfl, hwr⟩ := hrel
    subst hwr
    go_wp2_with (fail)
    go_ret
    exact ⟨p, rfl, ⟨_, BKp.out, Kd.S_nil _ _ _ _ _, ⟨GP.out, (Array.getElem?_eq_some_iff.1 BKp.out).1⟩, rfl, by omega, by simp⟩, HB.out⟩
/-- A new reference relation of at most 512 things. -/
theorem rnew_all (n : Int) (hn : n ≤ 512) (w : World) :
    Calls Tryd.prog 21 #[.int .i64 n] w fun e w' => ∃ p : Nat, e = .returned (.pointer (some ⟨p, 0, none⟩)) ∧ RefIs w' w.heap.size w'.heap.size p (clampN n) (tab0 (clampN n)) ∧ Below w.heap.size w w' := by
  by_cases h : n < 0
  · have hc : clampN n = 0 := by unfold clampN; rw [if_pos h]; rfl
    rw [hc]
    exact rnew_neg n h w
  · obtain ⟨N, rfl⟩ : ∃ N : Nat, n = (N : Int) := ⟨n.toNat, by omega⟩
    rw [clamp_id (by omega)]
    exact rnew_walk N (by omega) w
def castP (ps : List (Nat × Nat)) : List (Int × Int) := ps.map fun q => ((q.1 : Int), (q.2 : Int))
theorem cells2_get : ∀ (ps : List (Nat × Nat)) (i : Nat) (x : Int × Int), (castP ps)[i]? = some x → (cells2 ps)[i * 2]? = some (.int .i64 x.1) ∧ (cells2 ps)[i * 2 + 1]? = some (.int .i64 x.2)
  | [], i, x, h => by simp [castP] at h
  | q :: ps, 0, x, h => by
    simp [castP] at h
    subst h
    exact ⟨rfl, rfl⟩
  | q :: ps, i + 1, x, h => by
    have h' : (castP ps)[i]? = some x := by simpa [castP] using h
    obtain ⟨h1, h2⟩ := cells2_get ps i x h'
    constructor
    · rw [show (i + 1) * 2 = i * 2 + 1 + 1 by omega]
      exact h1
    · rw [show (i + 1) * 2 + 1 = (i * 2 + 1) + 1 + 1 by omega]
      exact h2
theorem castP_len (ps : List (Nat × Nat)) : (castP ps).length = ps.length := by unfold castP; simp
theorem PRow.sees {W : World} {base : Nat} {v : Value} {ps : List (Nat × Nat)} (h : PRow W base v ps) : PSees W v (castP ps) := by
  obtain ⟨hl, ⟨rfl, h0⟩ | ⟨g, cap, cur, rfl, hb, hc, hn, hm, hs, ht⟩⟩ := h
  · obtain rfl : ps = [] := List.length_eq_zero_iff.1 h0
    exact ⟨by simp [castP], none, 0, rfl, by simp [castP], fun i x hx => by simp [castP] at hx⟩
  · refine ⟨by rw [castP_len]; unfold maxLen at hm; omega, some ⟨g, 0, none⟩, cap, by rw [castP_len], by rw [castP_len]; exact hn, fun i x hx => ⟨_, rfl, ?_⟩⟩
    have hi : i < ps.length := by have := (List.getElem?_eq_some_iff.1 hx).1; rwa [castP_len] at this
    obtain ⟨h1, h2⟩ := cells2_get ps i x hx
    have hcell : ∀ j u, (cells2 ps)[j]? = some u → W.cell? ((⟨g, 0, none⟩ : Addr).add j) = some u := fun j u hj => by
      rw [add_at, Nat.zero_add]
      refine (blk_cell hc j).trans ?_
      rw [← ht, List.getElem?_take] at hj
      split at hj
      · rw [← hj]; simp
      · cases hj
    exact ⟨hcell _ _ h1, hcell _ _ h2⟩
end Go.Proofs.YtoieemaheadjdaaDoor.PRel
