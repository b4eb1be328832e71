/- The pairs of both relations are one list. Written by an AI agent in this seat's session; checked by Lean alone. No axiom, no sorry. -/
import Derived.Test.YtoieemaheadjdaaDoorRelP
import Derived.WalkKit
import Derived.BigQuiet
import Derived.OwnWalk
import Derived.Test.YtoieemaheadjdaaDoorRbu
namespace Go.Proofs.YtoieemaheadjdaaDoor.PRel
open Go.RowKit Go.Proofs.YtoieemaheadjdaaDoorW.PrintWords Go.Proofs.YtoieemaheadjdaaDoorW.PrintLast Go.Proofs.YtoieemaheadjdaaDoorW.PrintMore Go.Proofs.YtoieemaheadjdaaDoor.PRelOrders
set_option linter.unusedVariables false
set_option linter.unusedSimpArgs false
attribute [local go_sem] Oper.semAt_some
theorem fewB {n : Int} {l : List (Int × Int)} (h : n ≤ 80 ∧ l.length ≤ 300) : (decide (n ≤ 80) && decide (l.length ≤ 300)) = true := by rw [decide_eq_true h.1, decide_eq_true h.2]; rfl
theorem fewN {n : Int} {l : List (Int × Int)} (h : ¬ (n ≤ 80 ∧ l.length ≤ 300)) : (decide (n ≤ 80) && decide (l.length ≤ 300)) = false := by
  by_cases h1 : n ≤ 80
  · rw [decide_eq_false (show ¬ l.length ≤ 300 from fun h2 => h ⟨h1, h2⟩), Bool.and_false]
  · rw [decide_eq_false h1, Bool.false_and]
set_option maxRecDepth 100000 in
set_option maxHeartbeats 1000000 in
theorem relPairs_walk {v : Value} {l : List (Int × Int)} (n x y : Int) (w : World) (hv : PSees w v l) (hG : TabLaid w) :
    Calls Tryd.prog 3 #[.int .i64 n, v, .agg #[.int .i64 x, .int .i64 y]] w fun e w' => e = .returned (.bool true) ∧ Below w.heap.size w w' := by
  have hb0 : Below w.heap.size w (w.alloc (.cells #[.int .i64 x, .int .i64 y] 23)) := below_alloc (Below.refl _ _) _
  have hx0 : (w.alloc (.cells #[.int .i64 x, .int .i64 y] 23)).heap[w.heap.size]? = some (.cells #[.int .i64 x, .int .i64 y] 23 (0, 0)) := World.alloc_heap_new w _
  have HV := Aside0.mk (hv.below hb0)
  have HG := Aside0.mk (hG.below hG.lt hb0)
  have HB := Aside0.mk (And.intro hb0 hx0)
  clear hb0 hx0 hv hG
  go_enter Tryd.func3, Tryd.ntmps3
  go_upto_region 1 with (fail)
  generalize w.alloc (.cells #[.int .i64 x, .int .i64 y] 23) = W at HV HG HB ⊢
  by_cases hf : n ≤ 80 ∧ l.length ≤ 300
  · have hfb := fewB hf
    have HF := Aside0.mk (And.intro hf hfb)
    clear hfb hf
    go_upto_region 7 with (first
      | (go_at_call 11; refine (few_walk n _ HV.out).mono ?_; rintro e wf ⟨he, hwf⟩; subst wf; rw [HF.out.2] at he; subst he)
      | (go_at_call 15; refine (both_walk n HF.out.1.1 _ HV.out).mono ?_; rintro e wb ⟨p, q, h1, h2, rfl, hB, hbb⟩; have HBB := Aside0.mk (And.intro hB hbb); clear hB hbb)
      | (go_at_call 14; refine (awake_walk _ (HG.out.below HG.out.lt HBB.out.2)).mono ?_; rintro e wa ⟨rfl, hba⟩; have HBA := Aside0.mk hba; clear hba))
    have hWa : Below W.heap.size W wa := below_then HBB.out.2 HBB.out.2.size HBA.out
    have hD : Both wa W.heap.size h1 h2 p q (clampN n) (addI (clampN n) l (tab0 (clampN n))) := ⟨HBB.out.1.1.grow HBA.out, HBB.out.1.2.1.grow HBA.out, HBB.out.1.2.2.1, Nat.le_trans HBB.out.1.2.2.2 HBA.out.size⟩
    generalize addI (clampN n) l (tab0 (clampN n)) = T at hD HBB
    generalize clampN n = N at hD HBB
    have HD0 := Aside0.mk (And.intro hD hWa)
    clear hD hWa HBB HBA
    have hbw : w.heap.size < W.heap.size := (Array.getElem?_eq_some_iff.1 HB.out.2).1
    have HD : Aside0 (Both wa.drew W.heap.size h1 h2 p q N T ∧ Below W.heap.size W wa.drew) := ⟨⟨HD0.out.1.1.grow (below_drew1 (Below.refl _ _)), HD0.out.1.2.1.grow (below_drew1 (Below.refl _ _)), HD0.out.1.2.2.1, HD0.out.1.2.2.2⟩, below_drew1 HD0.out.2⟩
    have hx2 : wa.drew.heap[w.heap.size]? = some (.cells #[.int .i64 x, .int .i64 y] 23 (0, 0)) := (HD.out.2.block _ hbw).trans HB.out.2
    have HG2 := Aside0.mk (HG.out.below HG.out.lt HD.out.2)
    have HBX := Aside0.mk (Array.getElem?_eq_some_iff.1 hx2).1
    have f1 : wa.drew.cell? ⟨w.heap.size, 0, none⟩ = some (.int .i64 x) := (blk_cell hx2 0).trans rfl
    have f2 : wa.drew.cell? ⟨w.heap.size, 1, none⟩ = some (.int .i64 y) := (blk_cell hx2 1).trans rfl
    clear hx2 hbw HD0
    refine start_ (n := 21) (S := fun w' => w'.cell? ⟨w.heap.size, 0, none⟩ = some (.int .i64 x) ∧ w'.cell? ⟨w.heap.size, 1, none⟩ = some (.int .i64 y)) (ds := [17]) (fm_ 21 0) (by kernel_rfl) rfl rfl ⟨f1, f2⟩ (fun hHeld => ?_)
    clear f1 f2
    generalize wa.drew = wd at HD HG2 HBX hHeld ⊢
    refine fP (i := 0) (N := some 46) (fm_ 21 1) ?_
    refine fP (i := 2) (N := some 48) (fm_ 21 5) ?_
    refine one_ (i := 1) (N := some 47) (fm_ 21 7) rfl rfl (by kernel_rfl) (by decide) (fun K hK => ?_)
    refine goes_ Tryd.func17 (by kernel_rfl) rfl #[.pointer (some ⟨p, 0, none⟩)] (by rfl) rfl rfl (by simp [Act.eval]) ?_
    refine (pairsL_walk _ (.inr ⟨p, rfl, HD.out.1.1⟩) (Nat.le_trans HD.out.1.2.2.1 HD.out.1.2.2.2) HG2.out).mono ?_
    rintro e w1 ⟨v1, rfl, hp1, hb1⟩
    refine ⟨_, rfl, ?_⟩
    have H1 := Aside0.mk (And.intro hp1.sees hb1)
    clear hp1 hb1
    refine hK.out _ _ ⟨(H1.out.2.cell HBX.out).trans hHeld.1, (H1.out.2.cell HBX.out).trans hHeld.2⟩ (fun hHeld => ?_)
    clear hK K
    refine norm_ (a' := ?_) ?_ ?_
    rotate_left
    · show Act.put _ (some 47) _ = _
      go_frame <;> try simp only [i64_w, i32_w]
      rfl
    refine one_ (i := 3) (N := some 49) (fm_ 21 15) rfl rfl (by kernel_rfl) (by decide) (fun K hK => ?_)
    refine goes_ Tryd.func18 (by kernel_rfl) rfl #[.pointer (some ⟨q, 0, none⟩)] (by rfl) rfl rfl (by simp [Act.eval]) ?_
    refine (rpairs_walk _ (HD.out.1.2.1.grow H1.out.2) (Nat.le_trans HD.out.1.2.2.2 H1.out.2.size)).mono ?_
    rintro e w2 ⟨v2, rfl, hp2, hb2⟩
    refine ⟨_, rfl, ?_⟩
    have H2 := Aside0.mk (And.intro hp2.sees hb2)
    clear hp2 hb2
    have hlt2 := Nat.lt_of_lt_of_le HBX.out H1.out.2.size
    have HLT2 := Aside0.mk hlt2
    clear hlt2
    refine hK.out _ _ ⟨(H2.out.2.cell HLT2.out).trans hHeld.1, (H2.out.2.cell HLT2.out).trans hHeld.2⟩ (fun hHeld => ?_)
    clear hK K
    refine norm_ (a' := ?_) ?_ ?_
    rotate_left
    · show Act.put _ (some 49) _ = _
      go_frame <;> try simp only [i64_w, i32_w]
      rfl
    refine one_ (i := 4) (N := some 50) (fm_ 21 31) rfl rfl (by kernel_rfl) (by decide) (fun K hK => ?_)
    refine goes_ Tryd.func16 (by kernel_rfl) rfl #[v1, v2] (by rfl) rfl rfl (by simp [Act.eval]) ?_
    refine (same_walk _ (H1.out.1.below H2.out.2) H2.out.1).mono ?_
    rintro e w3 ⟨he, hb3⟩
    rw [beq_self_eq_true] at he
    subst he
    refine ⟨_, rfl, ?_⟩
    have H3 := Aside0.mk (below_then (below_then H1.out.2 H1.out.2.size H2.out.2) (Nat.le_trans H1.out.2.size H2.out.2.size) hb3)
    have HB3 := Aside0.mk hb3
    clear hb3
    have hlt3 := Nat.lt_of_lt_of_le HLT2.out H2.out.2.size
    refine hK.out _ _ ⟨(HB3.out.cell hlt3).trans hHeld.1, (HB3.out.cell hlt3).trans hHeld.2⟩ (fun hHeld => ?_)
    clear hlt3
    clear hK K
    refine norm_ (a' := ?_) ?_ ?_
    rotate_left
    · show Act.put _ (some 50) _ = _
      go_frame <;> try simp only [i64_w, i32_w]
      rfl
    refine fP (i := 5) (N := some 51) (fm_ 21 63) ?_
    refine fP (i := 6) (N := some 52) (fm_ 21 127) ?_
    refine fP (i := 7) (N := some 53) (fm_ 21 255) ?_
    refine fT1 (i := 8) (N := some 54) (fm_ 21 511) ?_
    refine fP (i := 9) (N := some 55) (fm_ 21 1023) ?_
    refine fT1 (i := 10) (N := some 56) (fm_ 21 2047) ?_
    refine fP (i := 12) (N := some 58) (fm_ 21 6143) ?_
    refine fP (i := 13) (N := some 59) (fm_ 21 14335) ?_
    refine fT1 (i := 14) (N := some 60) (fm_ 21 30719) ?_
    refine fP (i := 15) (N := some 61) (fm_ 21 63487) ?_
    refine fT1 (i := 16) (N := some 62) (fm_ 21 129023) ?_
    refine one_ (i := 11) (N := some 57) (fm_ 21 131071) rfl rfl (by kernel_rfl) (by decide) (fun K hK => ?_)
    refine goes_ Tryd.func19 (by kernel_rfl) rfl #[.pointer (some ⟨p, 0, none⟩), .int .i64 x, .int .i64 y] (by rfl) rfl rfl (by simp [Act.eval]) ?_
    refine (has_walk x y _ (.inr ⟨p, rfl, HD.out.1.1.grow H3.out⟩)).mono ?_
    rintro e w4 ⟨rfl, hw4⟩
    subst w4
    refine ⟨_, rfl, ?_⟩
    refine hK.out _ _ hHeld (fun hHeld => ?_)
    clear hK K
    refine norm_ (a' := ?_) ?_ ?_
    rotate_left
    · show Act.put _ (some 57) _ = _
      go_frame <;> try simp only [i64_w, i32_w]
      rfl
    refine last_ (i := 17) (N := some 63) (fm_ 21 262143) rfl rfl (by kernel_rfl) (by decide) (fun K hK => ?_)
    refine goes_ Tryd.func20 (by kernel_rfl) rfl #[.pointer (some ⟨q, 0, none⟩), .int .i64 x, .int .i64 y] (by rfl) rfl rfl (by simp [Act.eval]) ?_
    refine (rhas_walk x y _ (HD.out.1.2.1.grow H3.out)).mono ?_
    rintro e w4 ⟨rfl, hw4⟩
    subst w4
    refine ⟨_, rfl, ?_⟩
    refine hK.out _ _ ?_
    clear hK K
    refine norm_ (a' := ?_) ?_ ?_
    rotate_left
    · show Act.put _ (some 63) _ = _
      go_frame <;> try simp only [i64_w, i32_w]
      rfl
    generalize (mayB N x && (mayB N y && atB T x y)) = bb
    refine fP (i := 18) (N := some 64) (fm_ 21 524287) ?_
    refine fP (i := 19) (N := some 65) (fm_ 21 1048575) ?_
    refine fP (i := 20) (N := some 6) (fm_ 21 2097151) ?_
    refine done_ (by kernel_rfl) ?_
    have HE : Aside0 (Below w.heap.size w w3) := ⟨below_then HB.out.1 HB.out.1.size (below_then HD.out.2 HD.out.2.size H3.out)⟩
    clear H1 H2 H3 HB3 hHeld HLT2
    go_wp2_with (fail)
    go_ret
    exact ⟨by first | rfl | simp, HE.out⟩
  · have hfb := fewN hf
    have HF := Aside0.mk (And.intro hf hfb)
    clear hfb hf
    go_upto_region 3 with (first
      | (go_at_call 11; refine (few_walk n _ HV.out).mono ?_; rintro e wf ⟨he, hwf⟩; subst wf; rw [HF.out.2] at he; subst he)
      | (go_at_call 12; refine (new_walk n _).mono ?_; rintro e w1 ⟨p, rfl, hr, hb⟩; have HR := Aside0.mk hr; have HB1 := Aside0.mk hb; clear hr hb))
    by_cases h80 : n ≤ 80
    · go_wp2_with (first
        | (go_at_call 14; refine (awake_walk _ (HG.out.below HG.out.lt HB1.out)).mono ?_; rintro e wa ⟨rfl, hba⟩; have HBA := Aside0.mk hba; clear hba))
      go_ret
      exact ⟨rfl, below_then HB.out.1 HB.out.1.size (below_then HB1.out HB1.out.size HBA.out)⟩
    · have hcl : (clampN n : Int) = if n ≤ 512 then n else 512 := by unfold clampN; split <;> (try split) <;> (try split) <;> omega
      have h80z : ¬ n ≤ 80 := h80
      by_cases h512 : n ≤ 512
      · rw [if_pos h512] at hcl
        have HC := Aside0.mk hcl
        clear hcl
        go_wp2_with (first
          | (go_at_call 13; refine (len_walk _ (.inr ⟨p, rfl, HR.out⟩)).mono ?_; rintro e wl ⟨he, hwl⟩; subst wl; rw [HC.out] at he; subst he)
          | (go_at_call 14; refine (awake_walk _ (HG.out.below HG.out.lt HB1.out)).mono ?_; rintro e wa ⟨rfl, hba⟩; have HBA := Aside0.mk hba; clear hba))
        go_ret
        exact ⟨rfl, below_then HB.out.1 HB.out.1.size (below_then HB1.out HB1.out.size HBA.out)⟩
      · rw [if_neg h512] at hcl
        have HC := Aside0.mk hcl
        clear hcl
        go_wp2_with (first
          | (go_at_call 13; refine (len_walk _ (.inr ⟨p, rfl, HR.out⟩)).mono ?_; rintro e wl ⟨he, hwl⟩; subst wl; rw [HC.out] at he; subst he)
          | (go_at_call 14; refine (awake_walk _ (HG.out.below HG.out.lt HB1.out)).mono ?_; rintro e wa ⟨rfl, hba⟩; have HBA := Aside0.mk hba; clear hba))
        go_ret
        exact ⟨rfl, below_then HB.out.1 HB.out.1.size (below_then HB1.out HB1.out.size HBA.out)⟩
end Go.Proofs.YtoieemaheadjdaaDoor.PRel
