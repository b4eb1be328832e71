/- The document's relation: its memory, and what reads and writes one pair. Written by an AI agent in this seat's session; checked by Lean alone. No axiom, no sorry. -/
import Derived.Test.YtoieemaheadjdaaDoorRelP
import Derived.WalkKit
import Derived.Test.YtoieemaheadjdaaDoorRbn
namespace Go.Proofs.YtoieemaheadjdaaDoor.PRel
open Go.RowKit Go.Proofs.YtoieemaheadjdaaDoorW.PrintWords Go.Proofs.YtoieemaheadjdaaDoorW.PrintLast Go.Proofs.YtoieemaheadjdaaDoorW.PrintMore Go.Proofs.YtoieemaheadjdaaDoor.PRelOrders
set_option linter.unusedVariables false
set_option linter.unusedSimpArgs false
theorem info_sb : (Tryd.prog.info? 40).map (fun i => (i.zero, i.size, i.bytes)) = some (some (.slice none 0 0), 1, 24) := by kernel_rfl
/-- The document's relation: a struct of how many things there are, and a table of truths; all of it between two marks. -/
def RefIs (w : World) (base hi p N : Nat) (At : List (List Bool)) : Prop := ∃ v, w.heap[p]? = some (.cells #[.int .i64 (N : Int), v] 39 (0, 0)) ∧ Kd.S (Kd.slice 4 Kd.bool) 40 w base (fun k => k < hi) v At ∧ (base ≤ p ∧ p < hi) ∧ At.length = N ∧ N ≤ 512 ∧ ∀ r ∈ At, r.length = N
theorem RefIs.keep {w w1 : World} {lo hi p N : Nat} {At : List (List Bool)} (h : RefIs w lo hi p N At) (hk : ∀ k, lo ≤ k → k < hi → k < w.heap.size → w1.heap[k]? = w.heap[k]?) : RefIs w1 lo hi p N At := by
  obtain ⟨v, h1, h2, h3, h4⟩ := h
  exact ⟨v, (hk p h3.1 h3.2 (Array.getElem?_eq_some_iff.1 h1).1).trans h1, Kd.S_mono (Kd.S_move (Kd.S_bound h2) (fun k hk' => hk k hk'.2.1 hk'.1 hk'.2.2.1)) (fun _ hk' => hk'.1), h3, h4⟩
theorem RefIs.grow {w w1 : World} {lo hi p N : Nat} {At : List (List Bool)} (h : RefIs w lo hi p N At) (hb : Below w.heap.size w w1) : RefIs w1 lo hi p N At := h.keep fun k _ _ hk => hb.block k hk
theorem RefIs.below {w w1 : World} {lo hi p N n : Nat} {At : List (List Bool)} (h : RefIs w lo hi p N At) (hb : Below n w w1) (hn : hi ≤ n) : RefIs w1 lo hi p N At := h.keep fun k _ hk _ => hb.block k (by omega)
theorem RefIs.only {w w1 : World} {lo hi lo' hi' p N : Nat} {At : List (List Bool)} (h : RefIs w lo hi p N At) (ho : Only lo' hi' w w1) (hn : hi ≤ lo' ∨ hi' ≤ lo) : RefIs w1 lo hi p N At := h.keep fun k h1 h2 h3 => ho.block k h3 (by omega)
theorem RefIs.shape {w : World} {lo hi p N : Nat} {At : List (List Bool)} (h : RefIs w lo hi p N At) : Shape N At ∧ N ≤ 512 := by
  obtain ⟨v, _, _, _, h4, h5, h6⟩ := h
  exact ⟨⟨h4, fun a ha => by rw [List.getD_eq_getElem?_getD, List.getElem?_eq_getElem (by omega), Option.getD_some]; exact h6 _ (List.getElem_mem _)⟩, h5⟩
set_option maxRecDepth 100000 in
theorem rmay_walk {base hi p N : Nat} {At : List (List Bool)} (i : Int) (w : World) (hR : RefIs w base hi p N At) :
    Calls Tryd.prog 46 #[.pointer (some ⟨p, 0, none⟩), .int .i64 i] w fun e w' => e = .returned (.bool (mayB N i)) ∧ w' = w := by
  have hu := Tryd.underlying39
  obtain ⟨v, hb, _, _⟩ := hR
  have hc0 : w.cell? ⟨p, 0, none⟩ = some (.int .i64 (N : Int)) := (blk_cell hb 0).trans rfl
  by_cases h0 : 0 ≤ i
  · go_enter Tryd.func46, Tryd.ntmps46
    go_wp2
    go_ret
    exact ⟨by simp [mayB, h0], rfl⟩
  · have hm : mayB N i = false := by unfold mayB; rw [decide_eq_false h0]; rfl
    go_enter Tryd.func46, Tryd.ntmps46
    go_wp2
    go_ret
    exact ⟨by first | rfl | rw [hm], rfl⟩
/-- Where a truth stands. -/
theorem ref_read {w : World} {base hi p N : Nat} {At : List (List Bool)} (h : RefIs w base hi p N At) {a b : Int} (ha : 0 ≤ a ∧ a < (N : Int)) (hb : 0 ≤ b ∧ b < (N : Int)) :
    ∃ (ad : Addr) (cap : Nat) (ai : Addr) (ci : Nat), w.cell? ⟨p, 0, none⟩ = some (.int .i64 (N : Int)) ∧ w.cell? ⟨p, 1, none⟩ = some (.slice (some ad) N cap) ∧ w.cell? (ad.add a.toNat) = some (.slice (some ai) N ci) ∧ w.cell? (ai.add b.toNat) = some (.bool (atB At a b)) := by
  obtain ⟨v, h1, h2, _, hN, _, hrow⟩ := h
  obtain ⟨A, cap, hv⟩ := Kd.S_slice h2
  rw [hN] at hv
  subst hv
  obtain ⟨g, cp, e, _⟩ := Kd.S_form h2 (by omega)
  injection e with e _ _
  subst e
  obtain ⟨c, hcl, hM, hcc⟩ := Kd.S_get h2 [] a ha.1 ha.2
  obtain ⟨u, rfl, hu⟩ := hM
  have hlen : (At.getD a.toNat []).length = N := by
    rw [List.getD_eq_getElem?_getD, List.getElem?_eq_getElem (by omega), Option.getD_some]
    exact hrow _ (List.getElem_mem _)
  obtain ⟨Ai, ci, hv2⟩ := Kd.R_slice hu
  rw [hlen] at hv2
  subst hv2
  obtain ⟨ai, e2, hc3⟩ := Kd.at_bool (Kd.R_reads' hu).2.2 b hb.1 (by omega)
  subst e2
  refine ⟨_, cap, ai, ci, (blk_cell h1 0).trans rfl, (blk_cell h1 1).trans rfl, ?_, ?_⟩
  · have := hcc 0 _ rfl
    simpa [Kd.slice] using this
  · rw [hc3]
    simp [atB, rdOf]
set_option maxRecDepth 100000 in
set_option maxHeartbeats 4000000 in
theorem rhas_walk {base hi p N : Nat} {At : List (List Bool)} (a b : Int) (w : World) (hR : RefIs w base hi p N At) :
    Calls Tryd.prog 20 #[.pointer (some ⟨p, 0, none⟩), .int .i64 a, .int .i64 b] w fun e w' => e = .returned (.bool (mayB N a && (mayB N b && atB At a b))) ∧ w' = w := by
  have hu := Tryd.underlying39
  have HR := Aside0.mk hR
  clear hR
  go_enter Tryd.func20, Tryd.ntmps20
  go_upto_region 1 with (fail)
  go_upto_region 2 with (fail)
  refine (rmay_walk a _ HR.out).mono ?_; rintro e w1 ⟨rfl, hw_⟩; subst w1
  cases ha : mayB N a with
  | false =>
    go_wp2_with (fail)
    go_ret
    exact ⟨by rw [ha]; rfl, rfl⟩
  | true =>
    go_upto_region 2 with (fail)
    refine (rmay_walk b _ HR.out).mono ?_; rintro e w1 ⟨rfl, hw_⟩; subst w1
    cases hb : mayB N b with
    | false =>
      go_wp2_with (fail)
      go_ret
      exact ⟨by rw [ha, hb]; rfl, rfl⟩
    | true =>
      have pa := (may_iff ha).1
      have qa := (may_iff ha).2
      have pb := (may_iff hb).1
      have qb := (may_iff hb).2
      obtain ⟨ad, cap, ai, ci, hc0, hc1, hc2, hc3⟩ := ref_read HR.out (may_iff ha) (may_iff hb)
      go_wp2_with (fail)
      go_ret
      exact ⟨by rw [ha, hb]; rfl, rfl⟩

/-- A truth put in its place. -/
theorem ref_put {w : World} {base hi p N : Nat} {At : List (List Bool)} (h : RefIs w base hi p N At) {a b : Int} (ha : 0 ≤ a ∧ a < (N : Int)) (hb : 0 ≤ b ∧ b < (N : Int)) :
    ∃ (g cap gi ci : Nat), w.cell? ⟨p, 1, none⟩ = some (.slice (some ⟨g, 0, none⟩) N cap) ∧ w.cell? ⟨g, a.toNat, none⟩ = some (.slice (some ⟨gi, 0, none⟩) N ci) ∧ w.cell? ⟨gi, b.toNat, none⟩ = some (.bool (atB At a b)) ∧ w.frozen? ⟨gi, b.toNat, none⟩ = false ∧ RefIs (w.setCell ⟨gi, b.toNat, none⟩ (.bool true)) base hi p N (setB At a b) ∧ Only base hi w (w.setCell ⟨gi, b.toNat, none⟩ (.bool true)) := by
  obtain ⟨v, h1, h2, h3, hN, h5, hrow⟩ := h
  obtain ⟨A, cap, hv⟩ := Kd.S_slice h2
  rw [hN] at hv
  subst hv
  obtain ⟨g, cp, e, _⟩ := Kd.S_form h2 (by omega)
  injection e with e _ _
  subst e
  obtain ⟨oki, c, hcl, hM, hcc, hoki, hback⟩ := Kd.S_borrow h2 [] a ha.1 (by omega)
  obtain ⟨u, rfl, hur⟩ := hM
  have hlen : (At.getD a.toNat []).length = N := by
    rw [List.getD_eq_getElem?_getD, List.getElem?_eq_getElem (by omega), Option.getD_some]
    exact hrow _ (List.getElem_mem _)
  obtain ⟨gi, ci, ei, hgb, hgl, cells, hcells⟩ := Kd.R_form hur (by omega)
  rw [hlen] at ei
  subst ei
  have hfz := blk_frozen hcells b.toNat
  have hP := Kd.R_putg hur b true
  have hg := hP.2
  have hS := hback hP.2 (fun k e => by injection e with e; subst e; exact hur.1 _ (by simp [Value.ownBlock])) (Kd.M_row hP.1)
  have hc1 := hcc 0 _ rfl
  have hbx := blk_grown h1 hg (fun e => by injection e with e; subst e; rw [h1] at hcells; injection hcells with hcells; injection hcells with _ hcells; exact absurd hcells (by decide))
  have hcb : w.cell? ⟨gi, b.toNat, none⟩ = some (.bool (atB At a b)) := by
    obtain ⟨ai, e2, hc3⟩ := Kd.at_bool (Kd.R_reads' hur).2.2 b hb.1 (by omega)
    injection e2 with e2
    subst e2
    rw [add_at, Nat.zero_add] at hc3
    rw [hc3]
    simp [atB, rdOf]
  refine ⟨g, cap, gi, ci, (blk_cell h1 1).trans rfl, ?_, hcb, hfz, ⟨_, hbx, hS, h3, by unfold setB; rw [List.length_set]; exact hN, h5, fun r hr => ?_⟩, .set w ⟨hgb, (hoki gi (hur.1 gi (by simp [Value.ownBlock]))).1⟩ _⟩
  · rw [add_at, Nat.zero_add] at hc1
    simpa [Kd.slice] using hc1
  · unfold setB at hr
    rcases List.mem_or_eq_of_mem_set hr with hr | rfl
    · exact hrow r hr
    · rw [List.length_set]; exact hlen
set_option maxRecDepth 100000 in
set_option maxHeartbeats 4000000 in
theorem radd_walk {base hi p N : Nat} {At : List (List Bool)} (a b : Int) (w : World) (hR : RefIs w base hi p N At) :
    Calls Tryd.prog 22 #[.pointer (some ⟨p, 0, none⟩), .int .i64 a, .int .i64 b] w fun e w' => e = .returned (.bool (mayB N a && mayB N b)) ∧ RefIs w' base hi p N (addR N At a b) ∧ Only base hi w w' := by
  have hu := Tryd.underlying39
  have HR := Aside0.mk hR
  clear hR
  go_enter Tryd.func22, Tryd.ntmps22
  go_upto_region 1 with (fail)
  go_upto_region 2 with (fail)
  refine (rmay_walk a _ HR.out).mono ?_; rintro e w1 ⟨rfl, hw_⟩; subst w1
  cases ha : mayB N a with
  | false =>
    go_wp2_with (fail)
    go_ret
    exact ⟨by rw [ha]; rfl, by rw [show addR N At a b = At by simp [addR, ha]]; exact HR.out, .refl _ _ _⟩
  | true =>
    go_upto_region 2 with (fail)
    refine (rmay_walk b _ HR.out).mono ?_; rintro e w1 ⟨rfl, hw_⟩; subst w1
    cases hb : mayB N b with
    | false =>
      go_wp2_with (fail)
      go_ret
      exact ⟨by rw [ha, hb]; rfl, by rw [show addR N At a b = At by simp [addR, ha, hb]]; exact HR.out, .refl _ _ _⟩
    | true =>
      have pa := (may_iff ha).1
      have qa := (may_iff ha).2
      have pb := (may_iff hb).1
      have qb := (may_iff hb).2
      obtain ⟨g, cap, gi, ci, hc0, hc1, hcb, hfz, hR2, hT2⟩ := ref_put HR.out (may_iff ha) (may_iff hb)
      have hadd : addR N At a b = setB At a b := by simp [addR, ha, hb]
      have HR2 := Aside0.mk hR2
      have HT2 := Aside0.mk hT2
      have HA := Aside0.mk hadd
      clear hR2 hT2 hadd
      go_wp2_with (fail)
      go_ret
      exact ⟨by rw [ha, hb]; rfl, by rw [HA.out]; exact HR2.out, HT2.out⟩
set_option maxRecDepth 100000 in
set_option maxHeartbeats 4000000 in
theorem rnew_walk (N : Nat) (hN : N ≤ 512) (w : World) :
    Calls Tryd.prog 21 #[.int .i64 (N : Int)] w fun e w' => ∃ p : Nat, e = .returned (.pointer (some ⟨p, 0, none⟩)) ∧ RefIs w' w.heap.size w'.heap.size p N (List.replicate N (List.replicate N false)) ∧ Below w.heap.size w w' := by
  have hu := Tryd.underlying39
  have HB := Aside0.mk (Below.refl w.heap.size w)
  have hlo : ¬ ((N : Int) < 0) := by omega
  have hhi : ¬ ((N : Int) > 512) := by omega
  go_enter Tryd.func21, Tryd.ntmps21
  go_upto_region 6 with (first | ((with_reducible refine gate_dst (N := 11) rfl ?_); refine box_event ?hg (N := 11) ?hd (cs := #[.int .i64 (N : Int), .slice none 0 0]) (t := 39) ?hr ?_; (case hd => rfl); (case hg => rfl); (case hr => first | (go_simp; done) | (go_simp; rfl)); intro p hp wb hbox hb; have BKp := Aside0.mk hbox; have GP := Aside0.mk (show w.heap.size ≤ p by rw [hp]; exact below_size (by repeat (first | (with_reducible first | exact HB.out | apply below_alloc | apply pw_below_drewN | apply below_drew1) | exact HB.out))); have n0_ := Aside0.mk (below_step (by repeat (first | (with_reducible first | exact HB.out | apply below_alloc | apply pw_below_drewN | apply below_drew1) | exact HB.out)) hb); clear HB; have HB := n0_; clear n0_ hb hbox hp))
  go_wp2_with (fail)
  go_loopg [4] N (fun gg v4 wr => ∃ (j : Nat) (v : Value), j ≤ N ∧ N - j ≤ gg ∧ v4 = .int .i64 (j : Int) ∧ Aside0 (wr.heap[p]? = some (.cells #[.int .i64 (N : Int), v] 39 (0, 0))) ∧ Aside0 (Kd.S (Kd.slice 4 Kd.bool) 40 wr w.heap.size (fun _ => True) v (List.replicate j (List.replicate N false))) ∧ Aside0 (Below w.heap.size w wr))
  case atStart => exact ⟨0, _, Nat.zero_le _, by omega, rfl, BKp, ⟨Kd.S_nil _ _ _ _ _⟩, HB⟩
  case round =>
    clear BKp HB
    obtain ⟨j, v, hj, hgg, rfl, BKp, HS, HB⟩ := hrel
    by_cases hlt : j < N
    · have hltz : (j : Int) < (N : Int) := by omega
      go_upto_region 9 with (fail)
      obtain ⟨Av, cv, ev⟩ := Kd.S_slice HS.out
      subst ev
      have hdrew := below_drew1 (Below.refl wr.heap.size wr)
      have n0_ := Aside0.mk (below_step HB.out hdrew); have n1_ := Aside0.mk (blk_below BKp.out hdrew); have n2_ := Aside0.mk (Kd.S_below HS.out hdrew); clear HB BKp HS; have HB := n0_; have BKp := n1_; have HS := n2_; clear n0_ n1_ n2_
      clear hdrew
      rw [List.length_replicate] at HS BKp
      refine start_ (n := 12) (S := fun w' => w'.cell? ⟨p, 1, none⟩ = some (.slice Av j cv)) (ds := [8, 11]) (fm_ 12 0) (by kernel_rfl) rfl rfl ((blk_cell BKp.out 1).trans rfl) (fun hHeld => ?_)
      generalize wr.drew = wd at HB BKp HS hHeld ⊢
      refine fP (i := 0) (N := some 17) (fm_ 12 1) ?_
      refine fP (i := 1) (N := some 18) (fm_ 12 3) ?_
      refine fP (i := 2) (N := some 19) (fm_ 12 7) ?_
      refine fP (i := 3) (N := some 20) (fm_ 12 15) ?_
      refine fP (i := 5) (N := some 22) (fm_ 12 47) ?_
      refine fT1 (i := 4) (N := some 21) (fm_ 12 63) ?_
      refine one_ (i := 6) (N := some 23) (fm_ 12 127) rfl rfl (by kernel_rfl) (by decide) (fun K hK => ?_)
      refine Kd.R_make_step Kd.bool (w0 := w) w.heap.size 4 rfl (N := 23) rfl 40 _ _ rfl (N : Int) rfl rfl Tryd.underlying40 (.bool false) 1 info4 rfl (by decide) (by omega) false (ok := fun k => wd.heap.size ≤ k) (okp := fun k => wd.heap.size ≤ k) rfl (fun _ hk => hk) (Nat.le_refl _) (by omega) (by omega) HB.out (below_size HB.out) ?_
      intro vr wm hrow hb hg hnew
      have HS2 := Kd.S_mono (Kd.S_bound HS.out) (ok' := fun k => True ∧ ¬ (wd.heap.size ≤ k)) (fun k hk => ⟨trivial, fun h2 => Nat.not_le.2 hk.2.2.1 h2⟩)
      have hlv : ∀ k, (Value.slice Av j cv).ownBlock = some k → k < wd.heap.size := fun k hk => Kd.S_lt HS.out k hk
      have n0_ := Aside0.mk hb
      have n1_ := Aside0.mk (blk_grown BKp.out hg (by simp))
      have n2_ := Aside0.mk (Kd.S_grown HS2 hg (fun _ _ e => by cases e))
      clear HB BKp HS HS2 hnew hHeld
      have HB := n0_
      have BKp := n1_
      have HS := n2_
      have HRW := Aside0.mk hrow
      have HLV := Aside0.mk hlv
      have HSZ := Aside0.mk hg.size
      clear n0_ n1_ n2_ hb hg hrow hlv
      obtain ⟨Ar, cr, er⟩ := Kd.R_slice HRW.out
      subst er
      refine hK.out _ _ ((blk_cell BKp.out 1).trans rfl) (fun hHeld => ?_)
      clear hK K
      refine norm_ (a' := ?_) ?_ ?_
      rotate_left
      · show Act.put _ (some 23) _ = _
        go_frame <;> try simp only [i64_w, i32_w]
        rfl
      refine one_ (i := 7) (N := some 24) (fm_ 12 255) rfl rfl (by kernel_rfl) (by decide) (fun K hK => ?_)
      refine value_ (w1 := ?_) (v := ?_) (by rfl) rfl ?_ ?_
      rotate_left 2
      · go_simp
        constructor
        · rfl
        · rfl
      refine hK.out _ _ ((blk_cell (blk_alloc BKp.out _) 1).trans rfl) (fun hHeld => ?_)
      clear hK K
      refine norm_ (a' := ?_) ?_ ?_
      rotate_left
      · show Act.put _ (some 24) _ = _
        go_frame <;> try simp only [i64_w, i32_w]
        rfl
      refine last_ (i := 8) (N := some 25) (fm_ 12 511) rfl rfl (by kernel_rfl) (by decide) (fun K hK => ?_)
      refine Kd.S_append_step (Kd.slice 4 Kd.bool) (w0 := w) w.heap.size rfl (.tmp 21) (.tmp 24) 37 40 (.slice none 0 0) 24 rfl Tryd.underlying37 info_sb rfl (by decide) (by omega) (.slice Av j cv) (List.replicate j (List.replicate N false)) (List.replicate N false) [.slice Ar N cr] (fun _ => True) (fun k => wd.heap.size ≤ k) rfl rfl ?aP (fun k hk => ⟨trivial, fun e => Nat.not_le.2 (HLV.out k e.symm) hk⟩) (fun _ _ => trivial) ?aO ?aB ?aS ?aL ?_
      case aP => rw [List.length_replicate] at HRW; exact Kd.M_row HRW.out
      case aO => exact HS.out
      case aB => exact HB.out
      case aS => exact below_size HB.out
      case aL => rw [List.length_replicate]; omega
      intro v1 w3 ho2 hb2 hg2 hat
      have n0_ := Aside0.mk hb2
      have n1_ := Aside0.mk (blk_grown BKp.out hg2 (Kd.S_ne HS.out BKp.out (by decide)))
      have n2_ := Aside0.mk ho2
      clear HB BKp HS HRW HLV HSZ hHeld
      have HB := n0_
      have BKp := n1_
      have HS := n2_
      clear n0_ n1_ n2_ hb2 hg2 hat ho2
      rw [show List.replicate j (List.replicate N false) ++ [List.replicate N false] = List.replicate (j + 1) (List.replicate N false) from (List.replicate_succ' ..).symm] at HS
      obtain ⟨Av1, cv1, ev⟩ := Kd.S_slice HS.out
      subst ev
      rw [List.length_replicate] at HS ⊢
      refine hK.out _ _ ?_
      clear hK K
      refine norm_ (a' := ?_) ?_ ?_
      rotate_left
      · show Act.put _ (some 25) _ = _
        go_frame <;> try simp only [i64_w, i32_w]
        rfl
      refine fP (i := 9) (N := some 26) (fm_ 12 1023) ?_
      refine fP (i := 10) (N := some 27) (fm_ 12 2047) ?_
      refine last_ (i := 11) (N := none) (fm_ 12 4095) rfl rfl (by kernel_rfl) (by decide) (fun K hK => ?_)
      have hs := (blk_cell BKp.out 1).trans rfl
      have hfs := blk_frozen BKp.out 1
      refine skip_ (w1 := ?_) (by rfl) rfl ?_ ?_
      rotate_left
      · go_simp
        rfl
      refine hK.out _ _ ?_
      clear hK K hs hfs
      refine done_ (by kernel_rfl) ?_
      have n0_ := Aside0.mk (below_set (j := 1) (v := (.slice Av1 (j + 1) cv1)) HB.out GP.out); have n1_ := Aside0.mk (Kd.S_set HS.out BKp.out (by decide) 1 (.slice Av1 (j + 1) cv1)); have n2_ := Aside0.mk (blk_put (cs' := #[.int .i64 (N : Int), (.slice Av1 (j + 1) cv1)]) BKp.out 1 (.slice Av1 (j + 1) cv1) rfl); clear HB HS BKp; have HB := n0_; have HS := n1_; have BKp := n2_; clear n0_ n1_ n2_
      try go_wp2_with (fail)
      go_roundg (N - (j + 1))
      case measure => omega
      case rel => exact ⟨j + 1, _, by omega, by omega, by first | rfl | rw [show wrap64 ((j : Int) + 1) = ((j + 1 : Nat) : Int) by unfold wrap64; omega], BKp, HS, HB⟩
    · have hltz : ¬ (j : Int) < (N : Int) := by omega
      have hjn : j = N := by omega
      subst hjn
      go_wp2_with (fail)
      go_ret
      exact ⟨p, rfl, ⟨v, BKp.out, Kd.S_mono (Kd.S_bound HS.out) (fun k hk => hk.2.2.1), ⟨GP.out, blk_lt BKp.out⟩, by simp, hN, fun r hr => by rw [List.eq_of_mem_replicate hr]; simp⟩, HB.out⟩
end Go.Proofs.YtoieemaheadjdaaDoor.PRel
