/- RelNobody walked. Written by an AI agent in this seat's session; checked by Lean alone. No axiom, no sorry. -/
import Derived.Test.YtoieemaheadjdaaDoorRelP
import Derived.WalkKit
import Derived.OwnWalk
import Derived.Test.YtoieemaheadjdaaDoorRbfa
namespace Go.Proofs.YtoieemaheadjdaaDoor.PRel
open Go.RowKit Go.Proofs.YtoieemaheadjdaaDoorW.PrintWords Go.Proofs.YtoieemaheadjdaaDoorW.PrintLast Go.Proofs.YtoieemaheadjdaaDoorW.PrintMore Go.Proofs.YtoieemaheadjdaaDoor.PRelOrders
set_option linter.unusedVariables false
set_option linter.unusedSimpArgs false
attribute [local go_sem] Oper.semAt_some
set_option maxRecDepth 100000 in
set_option maxHeartbeats 1000000 in
theorem relNobody_walk {v : Value} {l : List (Int × Int)} (w : World) (hv : PSees w v l) (hG : TabLaid w) :
    Calls Tryd.prog 7 #[v] w fun e w' => e = .returned (.bool true) ∧ Below w.heap.size w w' := by
  have HV := Aside0.mk hv
  have HG := Aside0.mk hG
  clear hv hG
  go_enter Tryd.func7, Tryd.ntmps7
  by_cases hf : (0 : Int) ≤ 80 ∧ l.length ≤ 300
  · have hfb := fewB hf
    have HF := Aside0.mk (And.intro hf hfb)
    clear hfb hf
    go_upto_region 6 with (first
      | (go_at_call 11; refine (few_walk 0 _ HV.out).mono ?_; rintro e wf ⟨he, hwf⟩; subst wf; rw [HF.out.2] at he; subst he)
      | (go_at_call 15; refine (both_walk 9 (by decide) _ HV.out).mono ?_; rintro e wb ⟨p, q, h1, h2, rfl, hB, hbb⟩; have HBB := Aside0.mk (And.intro hB (And.intro hbb (HG.out.below HG.out.lt hbb))); clear hB hbb)
      | (go_at_call 26; refine (ord_nil _ HBB.out.2.2).mono ?_; rintro e wo ⟨oA, oc, rfl, hbo⟩; have HBO := Aside0.mk (And.intro hbo (HBB.out.2.2.below HBB.out.2.2.lt hbo)); clear hbo))
    go_upto_region 8 with (first
      | (go_at_call 14; refine (awake_walk _ HBO.out.2).mono ?_; rintro e wa ⟨rfl, hba⟩; have HBA := Aside0.mk (And.intro hba (HBO.out.2.below HBO.out.2.lt hba)); clear hba)
      | (go_at_call 13; refine (len_nil _).mono ?_; rintro e wl ⟨rfl, hwl⟩; subst wl)
      | (go_at_call 33; refine (add_nil _).mono ?_; rintro e wd ⟨rfl, hbd⟩; have HBD := Aside0.mk (And.intro hbd (HBA.out.2.below HBA.out.2.lt hbd)); clear hbd)
      | (go_at_call 19; refine (has_nil _).mono ?_; rintro e wh ⟨rfl, hwh⟩; subst wh)
      | (go_at_call 17; refine (pairs_empty _ (nil_rel _) (Nat.zero_le _) HBD.out.2 rfl).mono ?_; rintro e wp ⟨pA, pc, rfl, hbp⟩; have HBP := Aside0.mk (And.intro hbp (HBD.out.2.below HBD.out.2.lt hbp)); clear hbp)
      | (go_at_call 32; refine (acy_nil _ HBP.out.2).mono ?_; rintro e wq ⟨rfl, hbq⟩; have HBQ := Aside0.mk (And.intro hbq (HBP.out.2.below HBP.out.2.lt hbq)); clear hbq))
    have hb1 : Below w.heap.size w wq := below_then (below_then (below_then (below_then (below_then HBB.out.2.1 HBB.out.2.1.size HBO.out.1) (Nat.le_trans HBB.out.2.1.size HBO.out.1.size) HBA.out.1) (Nat.le_trans (Nat.le_trans HBB.out.2.1.size HBO.out.1.size) HBA.out.1.size) HBD.out.1) (Nat.le_trans (Nat.le_trans (Nat.le_trans HBB.out.2.1.size HBO.out.1.size) HBA.out.1.size) HBD.out.1.size) HBP.out.1) (Nat.le_trans (Nat.le_trans (Nat.le_trans (Nat.le_trans HBB.out.2.1.size HBO.out.1.size) HBA.out.1.size) HBD.out.1.size) HBP.out.1.size) HBQ.out.1
    have hD : Both wq w.heap.size h1 h2 p q (clampN 9) (addI (clampN 9) l (tab0 (clampN 9))) := ⟨((((HBB.out.1.1.grow HBO.out.1).grow HBA.out.1).grow HBD.out.1).grow HBP.out.1).grow HBQ.out.1, ((((HBB.out.1.2.1.grow HBO.out.1).grow HBA.out.1).grow HBD.out.1).grow HBP.out.1).grow HBQ.out.1, HBB.out.1.2.2.1, Nat.le_trans HBB.out.1.2.2.2 (Nat.le_trans HBO.out.1.size (Nat.le_trans HBA.out.1.size (Nat.le_trans HBD.out.1.size (Nat.le_trans HBP.out.1.size HBQ.out.1.size))))⟩
    generalize addI (clampN 9) l (tab0 (clampN 9)) = T at hD HBB
    generalize clampN 9 = N at hD HBB
    have HD := Aside0.mk (And.intro hD (And.intro hb1 HBQ.out.2))
    clear hD hb1 HBB HBO HBA HBD HBP HBQ
    go_wp2_with (first
      | (go_at_call 23; refine (union_rn ⟨_, 0, none⟩ _ (HD.out.1.1.grow (below_alloc (Below.refl _ _) _)) (Nat.le_trans (Nat.le_trans HD.out.1.2.2.1 HD.out.1.2.2.2) (below_alloc (Below.refl _ _) _).size) (HD.out.2.2.below HD.out.2.2.lt (below_alloc (Below.refl _ _) _)) ((blk_cell (World.alloc_heap_new _ _) 0).trans rfl)).mono ?_; rintro e w1 ⟨u, h3, rfl, hu, hh3, hb1⟩; have H1 := Aside0.mk (And.intro hu (And.intro hh3 (below_then (below_alloc (Below.refl _ _) _) (below_alloc (Below.refl _ _) _).size hb1))); clear hu hh3 hb1))
    have HG1 := Aside0.mk (HD.out.2.2.below HD.out.2.2.lt H1.out.2.2)
    go_wp2_with (first
      | (go_at_call 17; refine (pairsL_walk _ (.inr ⟨u, rfl, H1.out.1⟩) H1.out.2.1 HG1.out).mono ?_; rintro e w2 ⟨v1, rfl, hp1, hb2⟩; have H2 := Aside0.mk (And.intro hp1.sees (And.intro hb2 (HG1.out.below HG1.out.lt hb2))); clear hp1 hb2)
      | (go_at_call 18; refine (rpairs_walk _ ((HD.out.1.2.1.grow H1.out.2.2).grow H2.out.2.1) (Nat.le_trans HD.out.1.2.2.2 (Nat.le_trans H1.out.2.2.size H2.out.2.1.size))).mono ?_; rintro e w3 ⟨v2, rfl, hp2, hb3⟩; have H3 := Aside0.mk (And.intro hp2.sees (And.intro hb3 (H2.out.2.2.below H2.out.2.2.lt hb3))); clear hp2 hb3)
      | (go_at_call 16; refine (same_walk _ (H2.out.1.below H3.out.2.1) H3.out.1).mono ?_; rintro e w4 ⟨he, hb4⟩; rw [beq_self_eq_true] at he; subst he; have H4 := Aside0.mk (And.intro hb4 (H3.out.2.2.below H3.out.2.2.lt hb4)); clear hb4))
    have hb4 : Below wq.heap.size wq w4 := below_then (below_then (below_then H1.out.2.2 H1.out.2.2.size H2.out.2.1) (Nat.le_trans H1.out.2.2.size H2.out.2.1.size) H3.out.2.1) (Nat.le_trans H1.out.2.2.size (Nat.le_trans H2.out.2.1.size H3.out.2.1.size)) H4.out.1
    have hD : Both w4 w.heap.size h1 h2 p q N T := ⟨HD.out.1.1.grow hb4, HD.out.1.2.1.grow hb4, HD.out.1.2.2.1, Nat.le_trans HD.out.1.2.2.2 hb4.size⟩
    have HE := Aside0.mk (And.intro hD (And.intro (below_then HD.out.2.1 HD.out.2.1.size hb4) H4.out.2))
    clear hD hb4 H1 H2 H3 H4 HD HG1
    go_wp2_with (first
      | (go_at_call 25; refine (after_rn _ HE.out.1.1 (Nat.le_trans HE.out.1.2.2.1 HE.out.1.2.2.2) HE.out.2.2).mono ?_; rintro e w5 ⟨u5, h5, rfl, hu, hh5, hb5⟩; have H5 := Aside0.mk (And.intro hu (And.intro hh5 (And.intro hb5 (HE.out.2.2.below HE.out.2.2.lt hb5)))); clear hu hh5 hb5)
      | (go_at_call 17; refine (pairs_empty _ (.inr ⟨u5, rfl, H5.out.1⟩) H5.out.2.1 H5.out.2.2.2 (pairs_tab0 _)).mono ?_; rintro e w6 ⟨A6, c6, rfl, hb6⟩; have H6 := Aside0.mk (And.intro hb6 (H5.out.2.2.2.below H5.out.2.2.2.lt hb6)); clear hb6))
    have hb6 : Below w4.heap.size w4 w6 := below_then H5.out.2.2.1 H5.out.2.2.1.size H6.out.1
    have hD : Both w6 w.heap.size h1 h2 p q N T := ⟨HE.out.1.1.grow hb6, HE.out.1.2.1.grow hb6, HE.out.1.2.2.1, Nat.le_trans HE.out.1.2.2.2 hb6.size⟩
    have HF2 := Aside0.mk (And.intro hD (And.intro (below_then HE.out.2.1 HE.out.2.1.size hb6) H6.out.2))
    clear hD hb6 HE H5 H6
    go_wp2_with (first
      | (go_at_call 23; refine (union_nr ⟨_, 0, none⟩ _ (HF2.out.1.1.grow (below_alloc (Below.refl _ _) _)) (Nat.le_trans (Nat.le_trans HF2.out.1.2.2.1 HF2.out.1.2.2.2) (below_alloc (Below.refl _ _) _).size) (HF2.out.2.2.below HF2.out.2.2.lt (below_alloc (Below.refl _ _) _)) ((blk_cell (World.alloc_heap_new _ _) 0).trans rfl)).mono ?_; rintro e w7 ⟨u7, h7, T7, rfl, hu, hh7, hb7⟩; have H7 := Aside0.mk (And.intro hu (And.intro hh7 (below_then (below_alloc (Below.refl _ _) _) (below_alloc (Below.refl _ _) _).size hb7))); clear hu hh7 hb7)
      | (go_at_call 17; refine (pairs_empty _ (.inr ⟨u7, rfl, H7.out.1⟩) H7.out.2.1 (HF2.out.2.2.below HF2.out.2.2.lt H7.out.2.2) (pairs_zero _)).mono ?_; rintro e w8 ⟨A8, c8, rfl, hb8⟩; have H8 := Aside0.mk hb8; clear hb8))
    go_ret
    exact ⟨by simp, below_then (below_then HF2.out.2.1 HF2.out.2.1.size H7.out.2.2) (Nat.le_trans HF2.out.2.1.size H7.out.2.2.size) H8.out⟩
  · have hfb := fewN hf
    have HF := Aside0.mk (And.intro hf hfb)
    clear hfb hf
    go_wp2_with (first
      | (go_at_call 11; refine (few_walk 0 _ HV.out).mono ?_; rintro e wf ⟨he, hwf⟩; subst wf; rw [HF.out.2] at he; subst he)
      | (go_at_call 14; refine (awake_walk _ HG.out).mono ?_; rintro e wa ⟨rfl, hba⟩; have HBA := Aside0.mk hba; clear hba))
    go_ret
    exact ⟨rfl, HBA.out⟩
end Go.Proofs.YtoieemaheadjdaaDoor.PRel
