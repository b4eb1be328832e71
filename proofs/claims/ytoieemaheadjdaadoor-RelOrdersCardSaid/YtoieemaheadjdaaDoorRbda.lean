/- RelCloses walked. Written by an AI agent in this seat's session; checked by Lean alone. No axiom, no sorry. -/
import Derived.Test.YtoieemaheadjdaaDoorRelP
import Derived.WalkKit
import Derived.OwnWalk
import Derived.Test.YtoieemaheadjdaaDoorRbbb
import Derived.Test.YtoieemaheadjdaaDoorRbv
namespace Go.Proofs.YtoieemaheadjdaaDoor.PRel
open Go.RowKit Go.Proofs.YtoieemaheadjdaaDoorW.PrintWords Go.Proofs.YtoieemaheadjdaaDoorW.PrintLast Go.Proofs.YtoieemaheadjdaaDoorW.PrintMore Go.Proofs.YtoieemaheadjdaaDoor.PRelOrders
set_option linter.unusedVariables false
set_option linter.unusedSimpArgs false
attribute [local go_sem] Oper.semAt_some
theorem acy_loop {N : Nat} {T : List (List Bool)} (hS : Shape N T) : (orderF N T).isSome = !loopB N T := by
  have h := loop_iff hS
  cases e : loopB N T with
  | true =>
    cases o : orderF N T with
    | none => rfl
    | some l => exact absurd ⟨l, o⟩ (h.1 e)
  | false =>
    cases o : orderF N T with
    | some l => rfl
    | none => rw [h.2 (by rintro ⟨l, hl⟩; rw [o] at hl; cases hl)] at e; cases e
set_option maxRecDepth 100000 in
set_option maxHeartbeats 1000000 in
theorem relCloses_walk {v : Value} {l : List (Int × Int)} (n : Int) (w : World) (hv : PSees w v l) (hG : TabLaid w) :
    Calls Tryd.prog 6 #[.int .i64 n, v] w fun e w' => e = .returned (.bool true) ∧ Below w.heap.size w w' := by
  have HV := Aside0.mk hv
  have HG := Aside0.mk hG
  clear hv hG
  go_enter Tryd.func6, Tryd.ntmps6
  by_cases hf : n ≤ 80 ∧ l.length ≤ 300
  · have hfb := fewB hf
    have HF := Aside0.mk (And.intro hf hfb)
    clear hfb hf
    go_upto_region 6 with (first
      | (go_at_call 11; refine (few_walk n _ HV.out).mono ?_; rintro e wf ⟨he, hwf⟩; subst wf; rw [HF.out.2] at he; subst he)
      | (go_at_call 15; refine (both_walk n HF.out.1.1 _ HV.out).mono ?_; rintro e wb ⟨p, q, h1, h2, rfl, hB, hbb⟩; have HBB := Aside0.mk (And.intro hB hbb); clear hB hbb)
      | (go_at_call 14; refine (awake_walk _ (HG.out.below HG.out.lt HBB.out.2)).mono ?_; rintro e wa ⟨rfl, hba⟩; have HBA := Aside0.mk hba; clear hba))
    have hWa : Below w.heap.size w wa := below_then HBB.out.2 HBB.out.2.size HBA.out
    have hD : Both wa w.heap.size h1 h2 p q (clampN n) (addI (clampN n) l (tab0 (clampN n))) := ⟨HBB.out.1.1.grow HBA.out, HBB.out.1.2.1.grow HBA.out, HBB.out.1.2.2.1, Nat.le_trans HBB.out.1.2.2.2 HBA.out.size⟩
    generalize addI (clampN n) l (tab0 (clampN n)) = T at hD HBB
    generalize clampN n = N at hD HBB
    have HD := Aside0.mk (And.intro hD (And.intro hWa (HG.out.below HG.out.lt hWa)))
    clear hD hWa HBB HBA
    go_wp2_with (first
      | (go_at_call 30; refine (closure_walk _ (.inr ⟨p, rfl, HD.out.1.1⟩) (Nat.le_trans HD.out.1.2.2.1 HD.out.1.2.2.2) HD.out.2.2).mono ?_; rintro e w1 ⟨c, h3, rfl, hc, hh3, hb1⟩; have H1 := Aside0.mk (And.intro hc (And.intro hh3 (And.intro hb1 (HD.out.2.2.below HD.out.2.2.lt hb1)))); clear hc hh3 hb1)
      | (go_at_call 17; refine (pairsL_walk _ (.inr ⟨c, rfl, H1.out.1⟩) H1.out.2.1 H1.out.2.2.2).mono ?_; rintro e w2 ⟨v1, rfl, hp1, hb2⟩; have H2 := Aside0.mk (And.intro hp1.sees hb2); clear hp1 hb2)
      | (go_at_call 31; refine (rleads_walk _ ((HD.out.1.2.1.grow H1.out.2.2.1).grow H2.out.2)).mono ?_; rintro e w3 ⟨c2, rfl, hc2, hb3⟩; have H3 := Aside0.mk (And.intro hc2 hb3); clear hc2 hb3)
      | (go_at_call 18; refine (rpairs_walk _ H3.out.1 (Nat.le_refl _)).mono ?_; rintro e w4 ⟨v2, rfl, hp2, hb4⟩; have H4 := Aside0.mk (And.intro hp2.sees hb4); clear hp2 hb4))
    have hB4 : Below wa.heap.size wa w4 := below_then (below_then (below_then H1.out.2.2.1 H1.out.2.2.1.size H2.out.2) (Nat.le_trans H1.out.2.2.1.size H2.out.2.size) H3.out.2) (Nat.le_trans (Nat.le_trans H1.out.2.2.1.size H2.out.2.size) H3.out.2.size) H4.out.2
    have HB4 := Aside0.mk hB4
    clear hB4
    go_wp2_with (first
      | (go_at_call 16; refine (same_walk _ ((H2.out.1.below H3.out.2).below H4.out.2) H4.out.1).mono ?_; rintro e w5 ⟨he, hb5⟩; rw [beq_self_eq_true] at he; subst he; have H5 := Aside0.mk (below_then HB4.out HB4.out.size hb5); clear hb5)
      | (go_at_call 32; refine (acyclic_walk _ (.inr ⟨p, rfl, HD.out.1.1.grow H5.out⟩) (Nat.le_trans (Nat.le_trans HD.out.1.2.2.1 HD.out.1.2.2.2) H5.out.size) (HD.out.2.2.below HD.out.2.2.lt H5.out)).mono ?_; rintro e w6 ⟨he, hb6⟩; rw [acy_loop HD.out.1.2.1.shape.1] at he; subst he; have H6 := Aside0.mk (below_then H5.out H5.out.size hb6); clear hb6)
      | (go_at_call 27; refine (rrounds_walk _ (HD.out.1.2.1.grow H6.out)).mono ?_; rintro e w7 ⟨rfl, hb7⟩; have H7 := Aside0.mk (below_then H6.out H6.out.size hb7); clear hb7))
    go_ret
    exact ⟨by simp, below_then HD.out.2.1 HD.out.2.1.size H7.out⟩
  · have hfb := fewN hf
    have HF := Aside0.mk (And.intro hf hfb)
    clear hfb hf
    go_wp2_with (first
      | (go_at_call 11; refine (few_walk n _ HV.out).mono ?_; rintro e wf ⟨he, hwf⟩; subst wf; rw [HF.out.2] at he; subst he)
      | (go_at_call 14; refine (awake_walk _ HG.out).mono ?_; rintro e wa ⟨rfl, hba⟩; have HBA := Aside0.mk hba; clear hba))
    go_ret
    exact ⟨rfl, HBA.out⟩
end Go.Proofs.YtoieemaheadjdaaDoor.PRel
