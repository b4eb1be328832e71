/- A pair put into a relation. Written by an AI agent in this seat's session; checked by Lean alone. No axiom, no sorry. -/
import Derived.Test.YtoieemaheadjdaaDoorRelP
import Derived.RegionTactic
import Derived.ChangeAlike
import Derived.BigRegion
import Derived.BigQuiet
import Derived.Deep.QuietTactic
import Derived.Test.YtoieemaheadjdaaDoorRbb
namespace Go.Proofs.YtoieemaheadjdaaDoor.PRel
open Go.RowKit Go.Proofs.YtoieemaheadjdaaDoorW.PrintWords Go.Proofs.YtoieemaheadjdaaDoorW.PrintLast Go.Proofs.YtoieemaheadjdaaDoorW.PrintMore Go.Proofs.YtoieemaheadjdaaDoor.PRelOrders
set_option linter.unusedVariables false
set_option linter.unusedSimpArgs false
theorem or_bit (x j : Nat) (hx : x < 18446744073709551616) (hj : j < 64) : Go.bits .or .u64 (x : Int) (IntKind.u64.wrap (2 ^ j)) = ((x ||| 2 ^ j : Nat) : Int) := by
  have h2 : 2 ^ j < 18446744073709551616 := Nat.lt_of_lt_of_le (Nat.pow_lt_pow_right (by omega) hj) (by decide)
  have e1 : IntKind.u64.wrap (2 ^ j) = ((2 ^ j : Nat) : Int) := by
    rw [IntKind.wrap_u64, show (2 : Int) ^ j = ((2 ^ j : Nat) : Int) by simp]; clear hj; generalize 2 ^ j = q at h2 ⊢; omega
  rw [e1, bits_or_u64_nat _ _ hx h2]
set_option maxRecDepth 100000 in
theorem rowadd_walk (x i m c gi : Nat) (w : World) (hi : i / 64 < m) (hx : x < 18446744073709551616) (hc : w.cell? ⟨gi, i / 64, none⟩ = some (.int .u64 (x : Int))) (hf : w.frozen? ⟨gi, i / 64, none⟩ = false) (hi2 : i < 4611686018427387904) :
    Calls Tryd.prog 50 #[.slice (some ⟨gi, 0, none⟩) m c, .int .i64 (i : Int)] w fun e w' => e = .returned (.tuple #[]) ∧ w' = (w.setCell ⟨gi, i / 64, none⟩ (.int .u64 ((x ||| 2 ^ (i % 64) : Nat) : Int))).drew := by
  have e1 : wrap64 (Int.tdiv (i : Int) 64) = ((i / 64 : Nat) : Int) := by
    rw [Int.tdiv_eq_ediv_of_nonneg (by omega)]; unfold wrap64; omega
  have e2 : Int.tmod (i : Int) 64 = ((i % 64 : Nat) : Int) := by
    rw [Int.tmod_eq_emod_of_nonneg (by omega)]; omega
  have hi3 : ((i / 64 : Nat) : Int) < (m : Int) := by omega
  have hor := or_bit x (i % 64) hx (Nat.mod_lt _ (by omega))
  go_enter Tryd.func50, Tryd.ntmps50
  go_wp2
  go_region
  go_end0
  exact ⟨rfl, rfl⟩
theorem Only.drewn {lo hi : Nat} {a b : World} (h : Only lo hi a b) : Only lo hi a b.drew := h.trans (.of_below (below_drew1 (Below.refl _ _)))
theorem RelW.drew {w : World} {lo hi p N : Nat} {At : List (List Bool)} (h : RelW w lo hi p N At) : RelW w.drew lo hi p N At := h.grow (below_drew1 (Below.refl _ _))
/-- A word put in its place. -/
theorem relw_put {w : World} {lo hi p N : Nat} {At : List (List Bool)} (h : RelW w lo hi p N At) {a b : Nat} (ha : a < N) (hb : b < N) :
    ∃ (ad : Addr) (cap gi ci m z : Nat), w.cell? ⟨p, 0, none⟩ = some (.slice (some ad) N cap) ∧ w.cell? (ad.add a) = some (.slice (some ⟨gi, 0, none⟩) m ci) ∧ b / 64 < m ∧ z < 18446744073709551616 ∧ w.cell? ⟨gi, b / 64, none⟩ = some (.int .u64 (z : Int)) ∧ w.frozen? ⟨gi, b / 64, none⟩ = false ∧
      RelW (w.setCell ⟨gi, b / 64, none⟩ (.int .u64 ((z ||| 2 ^ (b % 64) : Nat) : Int))) lo hi p N (setB At (a : Int) (b : Int)) ∧ Only lo hi w (w.setCell ⟨gi, b / 64, none⟩ (.int .u64 ((z ||| 2 ^ (b % 64) : Nat) : Int))) := by
  obtain ⟨v, wss, h1, h2, h3, hN, h5, hsh, hW⟩ := h
  obtain ⟨A, cap, hv⟩ := Kd.S_slice h2
  rw [hN] at hv
  subst hv
  obtain ⟨g, cp, e, _⟩ := Kd.S_form h2 (by omega)
  injection e with e _ _
  subst e
  obtain ⟨oki, c, hcl, hM, hcc, hoki, hback⟩ := Kd.S_borrow h2 [] (a : Int) (by omega) (by omega)
  obtain ⟨u, rfl, hur⟩ := hM
  rw [Int.toNat_natCast] at hur hcc hback
  have hw := hW a ha
  have hrow := hsh.row a ha
  have hbl := words_len hw (show b < (At.getD a []).length by omega)
  have hrng := hw.rng _ hbl
  obtain ⟨gi, ci, rfl, hgb, hgl, cells, hcells⟩ := Kd.R_form hur (by omega)
  have hgi := hur.1 gi (by simp [Value.ownBlock])
  have hfz := blk_frozen hcells (b / 64)
  have hP := Kd.R_putg hur ((b / 64 : Nat) : Int) ((((wss.getD a []).getD (b / 64) 0).toNat ||| 2 ^ (b % 64) : Nat) : Int)
  rw [Int.toNat_natCast] at hP
  have hg := hP.2
  have hS := hback hP.2 (fun k e => by injection e with e; subst e; exact hgi) (Kd.M_row hP.1)
  have hc1 := hcc 0 _ rfl
  have hbx := blk_grown h1 hg (fun e => by injection e with e; subst e; rw [h1] at hcells; injection hcells with hcells; injection hcells with _ hcells; exact absurd hcells (by decide))
  have hcb : w.cell? ⟨gi, b / 64, none⟩ = some (.int .u64 (((wss.getD a []).getD (b / 64) 0).toNat : Int)) := by
    obtain ⟨ai, e2, hc3⟩ := Kd.at_int (Kd.R_reads' hur).2.2 ((b / 64 : Nat) : Int) (by omega) (by omega)
    injection e2 with e2
    subst e2
    rw [add_at, Nat.zero_add, Int.toNat_natCast] at hc3
    rw [hc3]
    simp only [rd, Int.toNat_natCast]
    rw [Int.toNat_of_nonneg hrng.1]
  have hk := hoki gi hgi
  refine ⟨_, cap, gi, ci, (wss.getD a []).length, ((wss.getD a []).getD (b / 64) 0).toNat, (blk_cell h1 0).trans rfl, ?_, hbl, by omega, hcb, hfz, ⟨_, _, hbx, hS, h3, by rw [List.length_set]; exact hN, h5, shape_set hsh b ha, fun x hx => ?_⟩, .set w ?_ _⟩
  · simpa [Kd.slice] using hc1
  · rw [set_row hsh b ha x, getD_set_nat _ _ _ _ _ (by omega)]
    split
    · exact words_set hw (by omega)
    · exact hW x hx
  · exact ⟨hgb, hk.1⟩
set_option maxRecDepth 100000 in
set_option maxHeartbeats 1000000 in
theorem add_walk {lo hi N : Nat} {pv : Option Addr} {At : List (List Bool)} (a b : Int) (w : World) (hR : RelV w lo hi pv N At) :
    Calls Tryd.prog 33 #[.pointer pv, .int .i64 a, .int .i64 b] w fun e w' => e = .returned (.bool (mayB N a && mayB N b)) ∧ RelV w' lo hi pv N (addR N At a b) ∧ Only lo hi w w' := by
  have hu := Tryd.underlying75
  have HR := Aside0.mk hR
  have hs := hR.shape
  clear hR
  go_enter Tryd.func33, Tryd.ntmps33
  go_upto_region 1 with (fail)
  go_upto_region 2 with (fail)
  refine (may_walk a _ HR.out).mono ?_; rintro e w1 ⟨rfl, hw_⟩; subst w1
  cases ha : mayB N a with
  | false =>
    go_wp2_with (fail)
    go_ret
    exact ⟨by rw [ha]; rfl, by rw [show addR N At a b = At by simp [addR, ha]]; exact HR.out, .refl _ _ _⟩
  | true =>
    go_upto_region 2 with (fail)
    refine (may_walk b _ HR.out).mono ?_; rintro e w1 ⟨rfl, hw_⟩; subst w1
    cases hb : mayB N b with
    | false =>
      go_wp2_with (fail)
      go_ret
      exact ⟨by rw [ha, hb]; rfl, by rw [show addR N At a b = At by simp [addR, ha, hb]]; exact HR.out, .refl _ _ _⟩
    | true =>
      obtain ⟨x, rfl⟩ : ∃ x : Nat, a = (x : Int) := ⟨a.toNat, by have := may_iff ha; omega⟩
      obtain ⟨y, rfl⟩ : ∃ y : Nat, b = (y : Int) := ⟨b.toNat, by have := may_iff hb; omega⟩
      have hx : x < N := by have := may_iff ha; omega
      have hy : y < N := by have := may_iff hb; omega
      rcases HR.out with ⟨_, rfl, _⟩ | ⟨p, rfl, hp⟩
      · omega
      obtain ⟨ad, cap, gi, ci, m, z, hc0, hc1, hm, hz, hcb, hfz, hR2, hO2⟩ := relw_put hp hx hy
      have hadd : addR N At (x : Int) (y : Int) = setB At (x : Int) (y : Int) := by simp [addR, ha, hb]
      have HX := Aside0.mk (And.intro hR2 (And.intro hO2 hadd))
      have hxN : (x : Int) < (N : Int) := by omega
      have HC := Aside0.mk (rowadd_walk z y m ci gi w hm hz hcb hfz (by have := hs.2; omega))
      clear hs hcb hfz hR2 hO2 hadd
      go_wp2_with (first | (refine (HC.out).mono ?_; rintro e w1 ⟨rfl, hw_⟩; subst w1))
      go_ret
      exact ⟨by rw [ha, hb]; rfl, by rw [HX.out.2.2]; exact .inr ⟨p, rfl, HX.out.1.drew⟩, HX.out.2.1.drewn⟩
end Go.Proofs.YtoieemaheadjdaaDoor.PRel
