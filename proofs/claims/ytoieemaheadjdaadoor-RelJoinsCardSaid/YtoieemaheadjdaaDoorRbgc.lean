/- RelJoins walked. Written by an AI agent in this seat's session; checked by Lean alone. No axiom, no sorry. -/
import Derived.Test.YtoieemaheadjdaaDoorRelP
import Derived.WalkKit
import Derived.BigQuiet
import Derived.OwnWalk
import Derived.Test.YtoieemaheadjdaaDoorRbgb
import Derived.Test.YtoieemaheadjdaaDoorRbv
namespace Go.Proofs.YtoieemaheadjdaaDoor.PRel
open Go.RowKit Go.Proofs.YtoieemaheadjdaaDoorW.PrintWords Go.Proofs.YtoieemaheadjdaaDoorW.PrintLast Go.Proofs.YtoieemaheadjdaaDoorW.PrintMore Go.Proofs.YtoieemaheadjdaaDoor.PRelOrders
set_option linter.unusedVariables false
set_option linter.unusedSimpArgs false
attribute [local go_sem] Oper.semAt_some
structure Fin (c : JC) (w : World) : Prop where
  b1 : Both w c.lo c.h1 c.h2 c.p c.q c.N c.T1
  b2 : Both w c.lo2 c.g1 c.g2 c.p2 c.q2 c.M c.T2
  u1 : RefIs w c.k1 c.k2 c.pu c.N (addAll c.N (pairsL c.N c.T1 :: [pairsL c.M c.T2]).flatten (tab0 c.N))
  u2 : RefIs w c.k2 c.k3 c.pt c.N (turnedT c.N c.T1)
  u3 : RefIs w c.k3 c.k4 c.pa c.N (afterT c.N c.T1 c.T2)
  l : c.h2 ≤ w.heap.size ∧ c.g2 ≤ w.heap.size ∧ c.k2 ≤ w.heap.size ∧ c.k3 ≤ w.heap.size ∧ c.k4 ≤ w.heap.size ∧ c.lo ≤ w.heap.size
  bel : Below c.lo c.w0 w
  tab : TabLaid w
theorem J.fin {c : JC} {w : World} (h : J c w c.N 0 false false false) (ht : TabLaid w) : Fin c w := by
  obtain ⟨a1, a2, a3, a4, a5, a6, a7⟩ := h.done
  exact ⟨a1, a2, a3, a4, a5, a6, a7, ht⟩
theorem Fin.grow {c : JC} {w w' : World} (h : Fin c w) (hb : Below w.heap.size w w') : Fin c w' := by
  have l := h.l
  have s : w.heap.size ≤ w'.heap.size := hb.size
  exact ⟨both_grow h.b1 hb, both_grow h.b2 hb, h.u1.grow hb, h.u2.grow hb, h.u3.grow hb, ⟨by omega, by omega, by omega, by omega, by omega, by omega⟩, below_then h.bel l.2.2.2.2.2 hb, h.tab.below h.tab.lt hb⟩
theorem pairsR_walk {lo hi N p : Nat} {At : List (List Bool)} (w : World) (hR : RelW w lo hi p N At) (hhi : hi ≤ w.heap.size) (hG : TabLaid w) :
    Calls Tryd.prog 17 #[.pointer (some ⟨p, 0, none⟩)] w fun e w' => ∃ v, e = .returned v ∧ PSees w' v (castP (pairsL N At)) ∧ Below w.heap.size w w' := by
  refine (pairsL_walk w (.inr ⟨p, rfl, hR⟩) hhi hG).mono ?_
  rintro e w' ⟨v, he, hp, hb⟩
  exact ⟨v, he, hp.sees, hb⟩
theorem RelJ.lt {w : World} {lo h1 h2 p q N : Nat} {T : List (List Bool)} (h : Both w lo h1 h2 p q N T) : h1 ≤ w.heap.size := Nat.le_trans h.2.2.1 h.2.2.2
set_option maxRecDepth 100000 in
set_option maxHeartbeats 20000000 in
theorem relJoins_walk {v1 v2 : Value} {l m : List (Int × Int)} (x y : Int) (w : World) (hv1 : PSees w v1 l) (hv2 : PSees w v2 m) (hG : TabLaid w) :
    Calls Tryd.prog 4 #[.agg #[.int .i64 x, .int .i64 y], v1, v2] w fun e w' => e = .returned (.bool true) ∧ Below w.heap.size w w' := by
  have hb0 : Below w.heap.size w (w.alloc (.cells #[.int .i64 x, .int .i64 y] 23)) := below_alloc (Below.refl _ _) _
  have hx0 : (w.alloc (.cells #[.int .i64 x, .int .i64 y] 23)).heap[w.heap.size]? = some (.cells #[.int .i64 x, .int .i64 y] 23 (0, 0)) := World.alloc_heap_new w _
  have HV1 := Aside0.mk (hv1.below hb0)
  have HV2 := Aside0.mk (hv2.below hb0)
  have HG := Aside0.mk (hG.below hG.lt hb0)
  have HB := Aside0.mk (And.intro hb0 hx0)
  clear hb0 hx0 hv1 hv2 hG
  go_enter Tryd.func4, Tryd.ntmps4
  go_upto_region 1 with (fail)
  generalize w.alloc (.cells #[.int .i64 x, .int .i64 y] 23) = W at HV1 HV2 HG HB ⊢
  have hbw : w.heap.size < W.heap.size := (Array.getElem?_eq_some_iff.1 HB.out.2).1
  have HBW := Aside0.mk hbw
  clear hbw
  have f1 : W.cell? ⟨w.heap.size, 0, none⟩ = some (.int .i64 x) := (blk_cell HB.out.2 0).trans rfl
  have f2 : W.cell? ⟨w.heap.size, 1, none⟩ = some (.int .i64 y) := (blk_cell HB.out.2 1).trans rfl
  by_cases hf : x ≤ 80 ∧ l.length ≤ 300
  case neg =>
    have hfb := fewN hf
    have HF := Aside0.mk (And.intro hf hfb)
    clear hfb hf
    go_wp2_with (first
      | (go_at_call 11; refine (few_walk x _ HV1.out).mono ?_; rintro e wf ⟨he, hwf⟩; subst wf; rw [HF.out.2] at he; subst he)
      | (go_at_call 14; refine (awake_walk _ HG.out).mono ?_; rintro e wa ⟨rfl, hba⟩; have HBA := Aside0.mk hba; clear hba))
    go_ret
    exact ⟨rfl, below_then HB.out.1 HB.out.1.size HBA.out⟩
  have hfb := fewB hf
  have HF := Aside0.mk (And.intro hf hfb)
  clear hfb hf
  by_cases hf2 : y ≤ 80 ∧ m.length ≤ 300
  case neg =>
    have hfb := fewN hf2
    have HF2 := Aside0.mk (And.intro hf2 hfb)
    clear hfb hf2
    go_wp2_with (first
      | (go_at_call 11; with_reducible refine (few_walk x _ HV1.out).mono ?_; rintro e wf ⟨he, hwf⟩; subst wf; rw [HF.out.2] at he; subst he)
      | (go_at_call 11; with_reducible refine (few_walk y _ HV2.out).mono ?_; rintro e wf ⟨he, hwf⟩; subst wf; rw [HF2.out.2] at he; subst he)
      | (go_at_call 14; refine (awake_walk _ HG.out).mono ?_; rintro e wa ⟨rfl, hba⟩; have HBA := Aside0.mk hba; clear hba))
    go_ret
    exact ⟨rfl, below_then HB.out.1 HB.out.1.size HBA.out⟩
  have hfb := fewB hf2
  have HF2 := Aside0.mk (And.intro hf2 hfb)
  clear hfb hf2
  go_upto_region 3 with (first
    | (go_at_call 11; with_reducible refine (few_walk x _ HV1.out).mono ?_; rintro e wf ⟨he, hwf⟩; subst wf; rw [HF.out.2] at he; subst he)
    | (go_at_call 11; with_reducible refine (few_walk y _ HV2.out).mono ?_; rintro e wf ⟨he, hwf⟩; subst wf; rw [HF2.out.2] at he; subst he))
  go_upto_region 4 with (go_at_call 15; refine (both_walk x HF.out.1.1 _ HV1.out).mono ?_; rintro e wb ⟨p, q, h1, h2, rfl, hB, hbb⟩; have HBB := Aside0.mk (And.intro hB (And.intro hbb (HG.out.below HG.out.lt hbb))); clear hB hbb)
  have f3 : wb.cell? ⟨w.heap.size, 1, none⟩ = some (.int .i64 y) := (HBB.out.2.1.cell HBW.out).trans f2
  clear f1 f2
  go_upto_region 7 with (first
    | (go_at_call 15; refine (both_walk y HF2.out.1.1 _ (HV2.out.below HBB.out.2.1)).mono ?_; rintro e wc ⟨p2, q2, g1, g2, rfl, hB, hbb⟩; have HBC := Aside0.mk (And.intro hB (And.intro hbb (HBB.out.2.2.below HBB.out.2.2.lt hbb))); clear hB hbb)
    | (go_at_call 14; refine (awake_walk _ HBC.out.2.2).mono ?_; rintro e wa ⟨rfl, hba⟩; have HBA := Aside0.mk (And.intro hba (HBC.out.2.2.below HBC.out.2.2.lt hba)); clear hba))
  clear f3
  have hbA : Below wc.heap.size wc wa.drew := below_drew1 HBA.out.1
  have hD : Both wa.drew W.heap.size h1 h2 p q (clampN x) (addI (clampN x) l (tab0 (clampN x))) ∧ Both wa.drew wb.heap.size g1 g2 p2 q2 (clampN y) (addI (clampN y) m (tab0 (clampN y))) ∧ Below W.heap.size W wa.drew ∧ TabLaid wa.drew ∧ clampN x ≤ 512 :=
    ⟨both_grow (both_grow HBB.out.1 HBC.out.2.1) hbA, both_grow HBC.out.1 hbA, below_then (below_then HBB.out.2.1 HBB.out.2.1.size HBC.out.2.1) (Nat.le_trans HBB.out.2.1.size HBC.out.2.1.size) hbA, HBC.out.2.2.below HBC.out.2.2.lt hbA, HBB.out.1.2.1.shape.2⟩
  clear hbA HBA HBC HBB
  generalize addI (clampN x) l (tab0 (clampN x)) = T1 at hD
  generalize clampN x = N at hD
  generalize addI (clampN y) m (tab0 (clampN y)) = T2 at hD
  generalize clampN y = M at hD
  have f1 : wa.drew.cell? ⟨q, 0, none⟩ = some (.int .i64 (N : Int)) := by
    obtain ⟨v, h1, _⟩ := hD.1.2.1
    exact (blk_cell h1 0).trans rfl
  have HD := Aside0.mk hD
  clear hD
  refine start_ (n := 18) (S := fun w' => w'.cell? ⟨q, 0, none⟩ = some (.int .i64 (N : Int))) (ds := [14]) (fm_ 18 0) (by kernel_rfl) rfl rfl f1 (fun hHeld => ?_)
  clear f1
  generalize wa.drew = wd at HD hHeld ⊢
  refine fP (i := 0) (N := some 58) (fm_ 18 1) ?_
  refine fP (i := 1) (N := some 59) (fm_ 18 3) ?_
  refine fP (i := 2) (N := some 60) (fm_ 18 7) ?_
  refine fT1 (i := 3) (N := some 61) (fm_ 18 15) ?_
  refine fP (i := 5) (N := some 63) (fm_ 18 47) ?_
  refine fP (i := 6) (N := some 64) (fm_ 18 111) ?_
  refine fP (i := 7) (N := some 65) (fm_ 18 239) ?_
  refine fT1 (i := 8) (N := some 66) (fm_ 18 495) ?_
  refine fP (i := 10) (N := some 68) (fm_ 18 1519) ?_
  refine fP (i := 11) (N := some 69) (fm_ 18 3567) ?_
  refine fP (i := 12) (N := some 70) (fm_ 18 7663) ?_
  refine fT1 (i := 13) (N := some 71) (fm_ 18 15855) ?_
  refine one_ (i := 4) (N := some 62) (fm_ 18 15871) rfl rfl (by kernel_rfl) (by decide) (fun K hK => ?_)
  refine goes_ Tryd.func21 (by kernel_rfl) rfl #[.int .i64 (N : Int)] (by rfl) rfl rfl (by simp [Act.eval]) ?_
  refine (rnew_walk N HD.out.2.2.2.2 _).mono ?_
  rintro e w1 ⟨pu, rfl, hx, hb⟩
  refine ⟨_, rfl, ?_⟩
  have HX0 := Aside0.mk (And.intro hx hb)
  have hcc := hb.cell (World.block_lt_of_cell? _ _ hHeld)
  clear hx hb
  refine hK.out _ _ (hcc.trans hHeld) (fun hHeld => ?_)
  clear hcc
  clear hK K
  refine norm_ (a' := ?_) ?_ ?_
  rotate_left
  · show Act.put _ (some 62) _ = _
    go_frame <;> try simp only [i64_w, i32_w]
    rfl
  refine one_ (i := 9) (N := some 67) (fm_ 18 16383) rfl rfl (by kernel_rfl) (by decide) (fun K hK => ?_)
  refine goes_ Tryd.func21 (by kernel_rfl) rfl #[.int .i64 (N : Int)] (by rfl) rfl rfl (by simp [Act.eval]) ?_
  refine (rnew_walk N HD.out.2.2.2.2 _).mono ?_
  rintro e w2 ⟨pt, rfl, hx, hb⟩
  refine ⟨_, rfl, ?_⟩
  have HX1 := Aside0.mk (And.intro hx hb)
  have hcc := hb.cell (World.block_lt_of_cell? _ _ hHeld)
  clear hx hb
  refine hK.out _ _ (hcc.trans hHeld) (fun hHeld => ?_)
  clear hcc
  clear hK K
  refine norm_ (a' := ?_) ?_ ?_
  rotate_left
  · show Act.put _ (some 67) _ = _
    go_frame <;> try simp only [i64_w, i32_w]
    rfl
  refine last_ (i := 14) (N := some 72) (fm_ 18 32767) rfl rfl (by kernel_rfl) (by decide) (fun K hK => ?_)
  refine goes_ Tryd.func21 (by kernel_rfl) rfl #[.int .i64 (N : Int)] (by rfl) rfl rfl (by simp [Act.eval]) ?_
  refine (rnew_walk N HD.out.2.2.2.2 _).mono ?_
  rintro e w3 ⟨pa, rfl, hx, hb⟩
  refine ⟨_, rfl, ?_⟩
  have HX2 := Aside0.mk (And.intro hx hb)
  have hcc := hb.cell (World.block_lt_of_cell? _ _ hHeld)
  clear hx hb
  refine hK.out _ _ ?_
  clear hcc
  clear hK K
  refine norm_ (a' := ?_) ?_ ?_
  rotate_left
  · show Act.put _ (some 72) _ = _
    go_frame <;> try simp only [i64_w, i32_w]
    rfl
  refine fP (i := 15) (N := some 13) (fm_ 18 65535) ?_
  refine fP (i := 16) (N := some 14) (fm_ 18 131071) ?_
  refine fP (i := 17) (N := some 15) (fm_ 18 262143) ?_
  refine done_ (by kernel_rfl) ?_
  obtain ⟨c, rfl, rfl, rfl, rfl, rfl, rfl, rfl, rfl, rfl, rfl, rfl, HK, HJ⟩ : ∃ c : JC, p = c.p ∧ q = c.q ∧ N = c.N ∧ T1 = c.T1 ∧ p2 = c.p2 ∧ q2 = c.q2 ∧ M = c.M ∧ T2 = c.T2 ∧ pu = c.pu ∧ pt = c.pt ∧ pa = c.pa ∧ Aside0 (c.w0 = W ∧ c.lo = W.heap.size) ∧ Aside0 (J c w3 0 0 false false false) := by
    have s1 : wd.heap.size ≤ w1.heap.size := HX0.out.2.size
    have s2 : w1.heap.size ≤ w2.heap.size := HX1.out.2.size
    have s3 : w2.heap.size ≤ w3.heap.size := HX2.out.2.size
    refine ⟨⟨W, W.heap.size, p, q, h1, h2, N, T1, wb.heap.size, p2, q2, g1, g2, M, T2, pu, pt, pa, wd.heap.size, w1.heap.size, w2.heap.size, w3.heap.size⟩, rfl, rfl, rfl, rfl, rfl, rfl, rfl, rfl, rfl, rfl, rfl, ⟨rfl, rfl⟩, ⟨tab0 N, tab0 N, tab0 N, ?_⟩⟩
    exact ⟨both_grow (both_grow (both_grow HD.out.1 HX0.out.2) HX1.out.2) HX2.out.2, both_grow (both_grow (both_grow HD.out.2.1 HX0.out.2) HX1.out.2) HX2.out.2, (HX0.out.1.grow HX1.out.2).grow HX2.out.2, HX1.out.1.grow HX2.out.2, HX2.out.1, upto_part (upto_new _ _), upto_part (upto_new _ _), upto_part (upto_new _ _), ⟨HD.out.1.2.2.2, HD.out.2.1.2.2.2, s1, s2, s3, Nat.le_refl _, HD.out.2.2.1.size⟩, below_then (below_then (below_then HD.out.2.2.1 HD.out.2.2.1.size HX0.out.2) (Nat.le_trans HD.out.2.2.1.size s1) HX1.out.2) (Nat.le_trans HD.out.2.2.1.size (Nat.le_trans s1 s2)) HX2.out.2⟩
  clear HX0 HX1 HX2 HD
  have hN5 := HJ.out.small
  go_wp2_with (fail)
  go_loopg [16] c.N (fun gg v16 wr => ∃ (a : Nat), a ≤ c.N ∧ c.N - a ≤ gg ∧ v16 = .int .i64 (a : Int) ∧ Aside0 (J c wr a 0 false false false))
  case atStart => exact ⟨0, Nat.zero_le _, by omega, rfl, HJ⟩
  case round =>
    clear HJ
    obtain ⟨a, ha, hgg, rfl, HJ⟩ := hrel
    have hc0 := HJ.out.num
    by_cases hlt : a < c.N
    · have hltz : (a : Int) < (c.N : Int) := by omega
      have hpa : (0 : Int) ≤ (a : Int) := by omega
      go_wp2_with (fail)
      clear hc0
      go_loopg [17] c.N (fun gg v17 wr => ∃ (b : Nat), b ≤ c.N ∧ c.N - b ≤ gg ∧ v17 = .int .i64 (b : Int) ∧ Aside0 (J c wr a b false false false))
      case atStart => exact ⟨0, Nat.zero_le _, by omega, rfl, HJ⟩
      case round =>
        clear HJ
        obtain ⟨b, hb, hgb, rfl, HJ⟩ := hrel
        have hc0 := HJ.out.num
        by_cases hlt2 : b < c.N
        · have hltz2 : (b : Int) < (c.N : Int) := by omega
          have hpb : (0 : Int) ≤ (b : Int) := by omega
          go_upto_region 14 with (fail)
          obtain ⟨ad, cap, ai, ci, e1, e2, e3⟩ := HJ.out.read hlt hlt2
          cases hab : at2 c.T1 a b <;> cases hh : at2 c.T2 a b <;> cases hba : at2 c.T1 b a
          all_goals
            rw [hab] at e3
            go_upto_region 16 with (first
              | (go_at_call 20; refine (HJ.out.has a b).mono ?_; rintro e wh ⟨he, hwh⟩; subst wh; rw [hh] at he; subst he)
              | (go_at_call 22; refine (HJ.out.add1 hlt hlt2).mono ?_; rintro e w1 ⟨rfl, hj⟩; have HN := Aside0.mk hj; clear hj HJ; have HJ := HN; clear HN))
            clear e1 e2 e3
            obtain ⟨ad, cap, ai, ci, e1, e2, e3⟩ := HJ.out.read hlt2 hlt
            rw [hba] at e3
            go_upto_region 18 with (go_at_call 22; refine (HJ.out.add2 hlt hlt2).mono ?_; rintro e w1 ⟨rfl, hj⟩; have HN := Aside0.mk hj; clear hj HJ; have HJ := HN; clear HN)
            clear e1 e2 e3
            have HN := Aside0.mk (HJ.out.conv (s1 := uniP c.T1 c.T2 a b) (s2 := turnP c.T1 a b) (s3 := overP c.T1 c.T2 a b 0) (by simp [uniP, hab, hh]) (by simp [turnP, hba]) rfl)
            clear HJ
            have HJ := HN
            clear HN hab hba hh hc0
            go_wp2_with (fail)
            go_loopg [18] c.N (fun gg v18 wr => ∃ (d : Nat), d ≤ c.N ∧ c.N - d ≤ gg ∧ v18 = .int .i64 (d : Int) ∧ Aside0 (J c wr a b (uniP c.T1 c.T2 a b) (turnP c.T1 a b) (overP c.T1 c.T2 a b d)))
            case atStart => exact ⟨0, Nat.zero_le _, by omega, rfl, HJ⟩
            case round =>
              clear HJ
              obtain ⟨d, hd, hgd, rfl, HJ⟩ := hrel
              have hc0 := HJ.out.num
              by_cases hlt3 : d < c.N
              · have hltz3 : (d : Int) < (c.N : Int) := by omega
                have hpd : (0 : Int) ≤ (d : Int) := by omega
                go_upto_region 21 with (fail)
                obtain ⟨ad, cap, ai, ci, e1, e2, e3⟩ := HJ.out.read hlt hlt3
                cases hac : at2 c.T1 a d <;> cases hdb : at2 c.T2 d b
                all_goals
                  rw [hac] at e3
                  go_wp2_with (first
                    | (go_at_call 20; refine (HJ.out.has d b).mono ?_; rintro e wh ⟨he, hwh⟩; subst wh; rw [hdb] at he; subst he)
                    | (go_at_call 22; refine (HJ.out.add3 hlt hlt2).mono ?_; rintro e w1 ⟨rfl, hj⟩; have HN := Aside0.mk hj; clear hj HJ; have HJ := HN; clear HN))
                  go_roundg (c.N - (d + 1))
                  case measure => omega
                  case rel => exact ⟨d + 1, by omega, by omega, by first | rfl | (simp; done) | rw [show wrap64 ((d : Int) + 1) = ((d + 1 : Nat) : Int) by unfold wrap64; omega], ⟨HJ.out.conv rfl rfl (by rw [overP_succ, hac, hdb]; simp)⟩⟩
              · have hltz3 : ¬ (d : Int) < (c.N : Int) := by omega
                have hdn : d = c.N := by omega
                go_wp2_with (fail)
                go_roundg (c.N - (b + 1))
                case measure => omega
                case rel => exact ⟨b + 1, by omega, by omega, by first | rfl | (simp; done) | rw [show wrap64 ((b : Int) + 1) = ((b + 1 : Nat) : Int) by unfold wrap64; omega], ⟨HJ.out.next rfl rfl (by rw [hdn])⟩⟩
        · have hltz2 : ¬ (b : Int) < (c.N : Int) := by omega
          have hbn : b = c.N := by omega
          go_wp2_with (fail)
          go_roundg (c.N - (a + 1))
          case measure => omega
          case rel => exact ⟨a + 1, by omega, by omega, by first | rfl | (simp; done) | rw [show wrap64 ((a : Int) + 1) = ((a + 1 : Nat) : Int) by unfold wrap64; omega], ⟨J.row (by rw [hbn] at HJ; exact HJ.out)⟩⟩
    · have hltz : ¬ (a : Int) < (c.N : Int) := by omega
      have han : a = c.N := by omega
      go_upto_region 23 with (fail)
      have hB0 : Below W.heap.size W wr := by
        have hj := HJ.out
        rw [han] at hj
        have := hj.done.2.2.2.2.2.2
        rw [HK.out.1, HK.out.2] at this
        exact this
      have HF := Aside0.mk (J.fin (by rw [han] at HJ; exact HJ.out) (HG.out.below HG.out.lt hB0))
      clear HJ hB0 hc0 hN5
      go_wp2_with (first
        | (go_at_call 23; refine (union_walk (some ⟨_, 0, none⟩) 1 1 [some ⟨c.p2, 0, none⟩] [pairsL c.M c.T2] _ (.inr ⟨c.p, rfl, HF.out.b1.1.grow (below_alloc (Below.refl _ _) _)⟩) (Nat.le_trans (RelJ.lt HF.out.b1) (below_alloc (Below.refl _ _) _).size) (HF.out.tab.below HF.out.tab.lt (below_alloc (Below.refl _ _) _)) (.inr ⟨_, _, _, rfl, rfl, rfl, rfl, rfl, (blk_cell (World.alloc_heap_new _ _) 0).trans rfl, _, _, _, _, .inr ⟨c.p2, rfl, HF.out.b2.1.grow (below_alloc (Below.refl _ _) _)⟩, Nat.le_trans (RelJ.lt HF.out.b2) (below_alloc (Below.refl _ _) _).size, rfl⟩)).mono ?_; rintro e wb1 ⟨u, h3, rfl, hu, hh3, hb1⟩; have H1 := Aside0.mk (And.intro hu (And.intro hh3 (below_then (below_alloc (Below.refl _ _) _) (below_alloc (Below.refl _ _) _).size hb1))); clear hu hh3 hb1)
        | (go_at_call 17; with_reducible refine (pairsR_walk _ H1.out.1 H1.out.2.1 (HF.out.tab.below HF.out.tab.lt H1.out.2.2)).mono ?_; rintro e wb2 ⟨v1, rfl, hp1, hb2⟩; have H2 := Aside0.mk (And.intro hp1 hb2); clear hp1 hb2)
        | (go_at_call 18; refine (rpairs_walk _ ((HF.out.grow H1.out.2.2).grow H2.out.2).u1 ((HF.out.grow H1.out.2.2).grow H2.out.2).l.2.2.1).mono ?_; rintro e wb3 ⟨v2, rfl, hp2, hb3⟩; have H3 := Aside0.mk (And.intro hp2.sees hb3); clear hp2 hb3)
        | (go_at_call 16; refine (same_walk _ (H2.out.1.below H3.out.2) H3.out.1).mono ?_; rintro e wb4 ⟨he, hb4⟩; rw [beq_self_eq_true] at he; subst he; have H4 := Aside0.mk hb4; clear hb4))
      have HN := Aside0.mk ((((HF.out.grow H1.out.2.2).grow H2.out.2).grow H3.out.2).grow H4.out)
      clear HF H1 H2 H3 H4
      have HF := HN
      clear HN
      go_wp2_with (first
        | (go_at_call 24; refine (turned_walk _ (.inr ⟨c.p, rfl, HF.out.b1.1⟩) (RelJ.lt HF.out.b1) HF.out.tab).mono ?_; rintro e wb1 ⟨u, h3, rfl, hu, hh3, hb1⟩; have H1 := Aside0.mk (And.intro hu (And.intro hh3 hb1)); clear hu hh3 hb1)
        | (go_at_call 17; with_reducible refine (pairsR_walk _ H1.out.1 H1.out.2.1 (HF.out.tab.below HF.out.tab.lt H1.out.2.2)).mono ?_; rintro e wb2 ⟨v1, rfl, hp1, hb2⟩; have H2 := Aside0.mk (And.intro hp1 hb2); clear hp1 hb2)
        | (go_at_call 18; refine (rpairs_walk _ ((HF.out.grow H1.out.2.2).grow H2.out.2).u2 ((HF.out.grow H1.out.2.2).grow H2.out.2).l.2.2.2.1).mono ?_; rintro e wb3 ⟨v2, rfl, hp2, hb3⟩; have H3 := Aside0.mk (And.intro hp2.sees hb3); clear hp2 hb3)
        | (go_at_call 16; refine (same_walk _ (H2.out.1.below H3.out.2) H3.out.1).mono ?_; rintro e wb4 ⟨he, hb4⟩; rw [beq_self_eq_true] at he; subst he; have H4 := Aside0.mk hb4; clear hb4))
      have HN := Aside0.mk ((((HF.out.grow H1.out.2.2).grow H2.out.2).grow H3.out.2).grow H4.out)
      clear HF H1 H2 H3 H4
      have HF := HN
      clear HN
      go_wp2_with (first
        | (go_at_call 25; refine (after_walk _ (.inr ⟨c.p, rfl, HF.out.b1.1⟩) (RelJ.lt HF.out.b1) (.inr ⟨c.p2, rfl, HF.out.b2.1⟩) (RelJ.lt HF.out.b2) HF.out.tab).mono ?_; rintro e wb1 ⟨u, h3, rfl, hu, hh3, hb1⟩; have H1 := Aside0.mk (And.intro hu (And.intro hh3 hb1)); clear hu hh3 hb1)
        | (go_at_call 17; with_reducible refine (pairsR_walk _ H1.out.1 H1.out.2.1 (HF.out.tab.below HF.out.tab.lt H1.out.2.2)).mono ?_; rintro e wb2 ⟨v1, rfl, hp1, hb2⟩; have H2 := Aside0.mk (And.intro hp1 hb2); clear hp1 hb2)
        | (go_at_call 18; refine (rpairs_walk _ ((HF.out.grow H1.out.2.2).grow H2.out.2).u3 ((HF.out.grow H1.out.2.2).grow H2.out.2).l.2.2.2.2.1).mono ?_; rintro e wb3 ⟨v2, rfl, hp2, hb3⟩; have H3 := Aside0.mk (And.intro hp2.sees hb3); clear hp2 hb3)
        | (go_at_call 16; refine (same_walk _ (H2.out.1.below H3.out.2) H3.out.1).mono ?_; rintro e wb4 ⟨he, hb4⟩; rw [beq_self_eq_true] at he; subst he; have H4 := Aside0.mk hb4; clear hb4))
      have HN := Aside0.mk ((((HF.out.grow H1.out.2.2).grow H2.out.2).grow H3.out.2).grow H4.out)
      clear HF H1 H2 H3 H4
      have HF := HN
      clear HN
      go_wp2_with (first
        | (go_at_call 17; refine (pairsL_walk _ (.inr ⟨c.p, rfl, HF.out.b1.1⟩) (RelJ.lt HF.out.b1) HF.out.tab).mono ?_; rintro e wb2 ⟨v1, rfl, hp1, hb2⟩; have H2 := Aside0.mk (And.intro hp1.sees hb2); clear hp1 hb2)
        | (go_at_call 18; refine (rpairs_walk _ (HF.out.grow H2.out.2).b1.2.1 (HF.out.grow H2.out.2).l.1).mono ?_; rintro e wb3 ⟨v2, rfl, hp2, hb3⟩; have H3 := Aside0.mk (And.intro hp2.sees hb3); clear hp2 hb3)
        | (go_at_call 16; refine (same_walk _ (H2.out.1.below H3.out.2) H3.out.1).mono ?_; rintro e wb4 ⟨he, hb4⟩; rw [beq_self_eq_true] at he; subst he; have H4 := Aside0.mk hb4; clear hb4))
      have HN := Aside0.mk (((HF.out.grow H2.out.2).grow H3.out.2).grow H4.out)
      clear HF H2 H3 H4
      go_ret
      have hb9 := HN.out.bel
      rw [HK.out.1, HK.out.2] at hb9
      exact ⟨by simp, below_then HB.out.1 HB.out.1.size hb9⟩
end Go.Proofs.YtoieemaheadjdaaDoor.PRel
