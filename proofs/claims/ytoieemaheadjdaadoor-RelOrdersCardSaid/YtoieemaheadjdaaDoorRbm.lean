/- A row joined with another one, or with itself. Written by an AI agent in this seat's session; checked by Lean alone. No axiom, no sorry. -/
import Derived.Test.YtoieemaheadjdaaDoorRelP
import Derived.WalkKit
import Derived.Test.YtoieemaheadjdaaDoorRbk
namespace Go.Proofs.YtoieemaheadjdaaDoor.PRel
open Go.RowKit Go.Proofs.YtoieemaheadjdaaDoorW.PrintWords Go.Proofs.YtoieemaheadjdaaDoorW.PrintLast Go.Proofs.YtoieemaheadjdaaDoorW.PrintMore Go.Proofs.YtoieemaheadjdaaDoor.PRelOrders
set_option linter.unusedVariables false
set_option linter.unusedSimpArgs false
def mixW (ws xs : List Int) (j : Nat) : List Int := (orW ws xs).take j ++ ws.drop j
theorem mixW_len {ws xs : List Int} {j : Nat} (hj : j ≤ ws.length) : (mixW ws xs j).length = ws.length := by unfold mixW orW; simp; omega
theorem mixW_get {ws xs : List Int} {j : Nat} (hj : j < ws.length) : (mixW ws xs j).getD j 0 = ws.getD j 0 := by
  unfold mixW
  have h : ((orW ws xs).take j).length = j := by unfold orW; simp; omega
  rw [List.getD_eq_getElem?_getD, List.getElem?_append_right (by omega), h, Nat.sub_self, List.getElem?_drop, Nat.add_zero, ← List.getD_eq_getElem?_getD]
theorem mixW_set {ws xs : List Int} {j : Nat} (hj : j < ws.length) : (mixW ws xs j).set j (((ws.getD j 0).toNat ||| (xs.getD j 0).toNat : Nat) : Int) = mixW ws xs (j + 1) := by
  have hL : (orW ws xs).length = ws.length := by simp [orW]
  have h : ((orW ws xs).take j).length = j := by rw [List.length_take]; omega
  unfold mixW
  rw [List.set_append_right _ _ (by omega), h, Nat.sub_self, List.drop_eq_getElem_cons hj, List.set_cons_zero, List.take_succ_eq_append_getElem (by omega), List.append_assoc]
  congr 1
  rw [List.singleton_append]
  congr 1
  have := orW_getD (xs := xs) hj
  rw [List.getD_eq_getElem?_getD, List.getElem?_eq_getElem (by omega)] at this
  exact this.symm
theorem mixW_zero (ws xs : List Int) : mixW ws xs 0 = ws := by simp [mixW]
theorem mixW_full (ws xs : List Int) : mixW ws xs ws.length = orW ws xs := by
  have hL : (orW ws xs).length = ws.length := by simp [orW]
  unfold mixW
  rw [List.drop_length, List.append_nil, List.take_of_length_le (by omega)]
theorem or_words {a b : Nat} (ha : a < 18446744073709551616) (hb : b < 18446744073709551616) : Go.bits .or .u64 (a : Int) (b : Int) = ((a ||| b : Nat) : Int) := bits_or_u64_nat _ _ ha hb
attribute [local go_sem] max2_int min2_int max_two min_two
set_option maxRecDepth 100000 in
set_option maxHeartbeats 4000000 in
theorem join_walk {lo : Nat} {ok : Nat → Prop} (g c h c2 : Nat) (ws xs : List Int) (w : World) (hm : ws.length ≤ 8) (hR : (Kd.int .u64).R 101 w lo ok (.slice (some ⟨g, 0, none⟩) ws.length c) ws) (hl : xs.length = ws.length) (hx : ∀ j, j < ws.length → w.cell? ⟨h, j, none⟩ = some (.int .u64 (xs.getD j 0)))
    (hrw : ∀ j, j < ws.length → 0 ≤ ws.getD j 0 ∧ ws.getD j 0 < 18446744073709551616) (hrx : ∀ j, j < ws.length → 0 ≤ xs.getD j 0 ∧ xs.getD j 0 < 18446744073709551616) :
    Calls Tryd.prog 49 #[.slice (some ⟨g, 0, none⟩) ws.length c, .slice (some ⟨h, 0, none⟩) ws.length c2] w fun e w' => e = .returned (.tuple #[]) ∧ (Kd.int .u64).R 101 w' lo ok (.slice (some ⟨g, 0, none⟩) ws.length c) (orW ws xs) ∧ Only g (g + 1) w w' := by
  obtain ⟨m, hmm⟩ : ∃ m, ws.length = m := ⟨_, rfl⟩
  have hmin : (if (m : Int) < (m : Int) then (m : Int) else (m : Int)) = (m : Int) := by split <;> rfl
  rw [hmm] at hR hl hx hrw hrx hm ⊢
  have HR := Aside0.mk hR
  have HX := Aside0.mk hx
  have HW := Aside0.mk (And.intro hrw hrx)
  have HM := Aside0.mk (And.intro hmm hl)
  clear hR hx hrw hrx hmm hl
  go_enter Tryd.func49, Tryd.ntmps49
  go_upto_region 1 with (simp only [hmin])
  go_loopg [4, 10] m (fun gg v4 v10 wr => ∃ (j : Nat), j ≤ m ∧ m - j ≤ gg ∧ v10 = .int .i64 (j : Int) ∧ Aside0 ((Kd.int .u64).R 101 wr lo ok (.slice (some ⟨g, 0, none⟩) m c) (mixW ws xs j)) ∧ Aside0 (Only g (g + 1) w wr))
  case atStart => exact ⟨0, Nat.zero_le _, by omega, rfl, by rw [mixW_zero]; exact HR, ⟨.refl _ _ _⟩⟩
  case round =>
    obtain ⟨j, hj, hgg, rfl, HQ, HO⟩ := hrel
    by_cases hlt : j < m
    · have hltz : (j : Int) < (m : Int) := by omega
      have hjl : j < ws.length := by rw [HM.out.1]; exact hlt
      have hml : (mixW ws xs j).length = m := by rw [mixW_len (by omega), HM.out.1]
      obtain ⟨a, ha⟩ : ∃ a : Nat, ws.getD j 0 = (a : Int) := ⟨(ws.getD j 0).toNat, by have := HW.out.1 j hlt; omega⟩
      obtain ⟨b, hb⟩ : ∃ b : Nat, xs.getD j 0 = (b : Int) := ⟨(xs.getD j 0).toNat, by have := HW.out.2 j hlt; omega⟩
      have hal : a < 18446744073709551616 := by have := HW.out.1 j hlt; omega
      have hbl : b < 18446744073709551616 := by have := HW.out.2 j hlt; omega
      have hor := or_words hal hbl
      have hcg : wr.cell? ⟨g, j, none⟩ = some (.int .u64 (a : Int)) := by
        obtain ⟨ad, e2, hc3⟩ := Kd.at_int (Kd.R_reads' HQ.out).2.2 (j : Int) (by omega) (by omega)
        injection e2 with e2
        subst e2
        rw [Int.toNat_natCast, add_at, Nat.zero_add] at hc3
        rw [hc3]
        simp only [rd, Int.toNat_natCast]
        rw [mixW_get hjl, ha]
      have hfg : wr.frozen? ⟨g, j, none⟩ = false := by
        obtain ⟨g', cap', ev, _, _, cells, hcl⟩ := Kd.R_form HQ.out (by omega)
        injection ev with ev _ _
        injection ev with ev
        injection ev with ev _ _
        subst ev
        exact blk_frozen hcl j
      have hch : wr.cell? ⟨h, j, none⟩ = some (.int .u64 (b : Int)) := by
        by_cases e : h = g
        · subst e
          have h1 := HX.out j hlt
          obtain ⟨ad, e2, hc3⟩ := Kd.at_int (Kd.R_reads' HR.out).2.2 (j : Int) (by omega) (by have := HM.out.1; omega)
          injection e2 with e2
          subst e2
          rw [Int.toNat_natCast, add_at, Nat.zero_add, h1] at hc3
          rw [hcg, ← ha, ← hb]
          injection hc3 with hc3
          rw [hc3]
          simp [rd]
        · have := HO.out.cell (HX.out j hlt) (by show ¬ (g ≤ h ∧ h < g + 1); omega)
          rw [this, hb]
      have hput := Kd.R_putg HQ.out (j : Int) ((a ||| b : Nat) : Int)
      rw [Int.toNat_natCast] at hput
      have hmx : (mixW ws xs j).set j ((a ||| b : Nat) : Int) = mixW ws xs (j + 1) := by rw [← mixW_set hjl, ha, hb, Int.toNat_natCast, Int.toNat_natCast]
      have HP := Aside0.mk (And.intro hput.1 hmx)
      clear hput hmx ha hb hal hbl hml hjl
      go_upto_region 3 with (fail)
      refine start_ (n := 11) (S := fun w' => w'.cell? ⟨g, j, none⟩ = some (.int .u64 (a : Int)) ∧ w'.cell? ⟨h, j, none⟩ = some (.int .u64 (b : Int))) (ds := [10]) (fm_ 11 0) (by kernel_rfl) rfl rfl ⟨hcg, hch⟩ (fun hHeld => ?_)
      refine fP (i := 0) (N := some 13) (fm_ 11 1) ?_
      refine fP (i := 1) (N := some 14) (fm_ 11 3) ?_
      refine fP (i := 2) (N := some 15) (fm_ 11 7) ?_
      refine fT1 (i := 3) (N := some 16) (fm_ 11 15) ?_
      refine fP (i := 4) (N := some 17) (fm_ 11 31) ?_
      refine fP (i := 5) (N := some 18) (fm_ 11 63) ?_
      refine fP (i := 6) (N := some 19) (fm_ 11 127) ?_
      refine fT1 (i := 7) (N := some 20) (fm_ 11 255) ?_
      refine fP (i := 8) (N := some 21) (fm_ 11 511) ?_
      refine fP (i := 9) (N := some 22) (fm_ 11 1023) ?_
      refine last_ (i := 10) (N := none) (fm_ 11 2047) rfl rfl (by kernel_rfl) (by decide) (fun K hK => ?_)
      refine skip_ (w1 := ?_) (by rfl) rfl ?_ ?_
      rotate_left
      · go_simp
        rfl
      refine hK.out _ _ ?_
      clear hK K
      refine done_ (by kernel_rfl) ?_
      have hR2 : (Kd.int .u64).R 101 (wr.setCell ⟨g, j, none⟩ (.int .u64 ((a ||| b : Nat) : Int))) lo ok (.slice (some ⟨g, 0, none⟩) m c) (mixW ws xs (j + 1)) := by
        have := HP.out.1
        rw [HP.out.2] at this
        exact this
      have hO2 := HO.out.trans (Only.set wr (p := ⟨g, j, none⟩) (lo := g) (hi := g + 1) (by show g ≤ g ∧ g < g + 1; omega) (.int .u64 ((a ||| b : Nat) : Int)))
      have HQ2 := Aside0.mk (And.intro (Kd.R_drew hR2) hO2.drewn)
      clear hR2 hO2 HP HQ HO hcg hch hfg hHeld hor
      go_wp2_with (fail)
      go_roundg (m - (j + 1))
      case measure => omega
      case rel => exact ⟨j + 1, by omega, by omega, by first | rfl | (simp; done), ⟨HQ2.out.1⟩, ⟨HQ2.out.2⟩⟩
    · obtain rfl : j = m := by omega
      have hR2 := HQ.out
      rw [← HM.out.1, mixW_full] at hR2
      rw [HM.out.1] at hR2
      go_wp2_with (fail)
      go_end0
      exact ⟨rfl, hR2, HO.out⟩
end Go.Proofs.YtoieemaheadjdaaDoor.PRel
