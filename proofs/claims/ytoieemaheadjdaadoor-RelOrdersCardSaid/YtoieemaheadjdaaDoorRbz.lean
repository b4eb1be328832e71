/- The document's Leads and Rounds (after this session's own parts for Flow). Written by an AI agent in this seat's session; checked by Lean alone. No axiom, no sorry. -/
import Derived.Test.YtoieemaheadjdaaDoorRelP
import Derived.Test.YtoieemaheadjdaaDoorEvalM
import Derived.WalkKit
import Derived.Test.YtoieemaheadjdaaDoorRbo
namespace Go.Proofs.YtoieemaheadjdaaDoor.PRel
open Go.RowKit Go.Proofs.YtoieemaheadjdaaDoorW.PrintWords Go.Proofs.YtoieemaheadjdaaDoorW.PrintLast Go.Proofs.YtoieemaheadjdaaDoorW.PrintMore Go.Proofs.YtoieemaheadjdaaDoor.PRelOrders
set_option linter.unusedVariables false
set_option linter.unusedSimpArgs false
attribute [local go_sem] Oper.semAt_some
namespace Lds
def fml_ : Nat → Nat → List Bool
  | 0, _ => []
  | n + 1, b => (b % 2 == 1) :: fml_ n (b / 2)
def fm_ (n b : Nat) : Array Bool := ⟨fml_ n b⟩
theorem fP {P : Program} {ops : Array Oper} {Q : Exit → Act → World → Prop} {md : Region.Mode} {S : World → Prop} {ds : List Nat} {i : Nat} {N : Option Tmp} {oi : Oper} {v : Value} {fuel : Nat} {l : Array Bool} {a : Act} {w : World} {a' : Act} (l' : Array Bool) (h : wpAnyLast P md ops Q S ds fuel l' a' w) (hi : ops[i]? = some oi := by rfl) (hN : oi.dst = N := by rfl) (hc : anyB md ops l l' i = true := by kernel_rfl) (hQ : ∀ c a w, Q (.panic c) (a.put oi.dst v) w → Q (.panic c) a w := by exact fun _ _ _ h => h) (hy : Yields P ops oi v a := by (refine Or.inl ⟨by rfl, ?_⟩; intro w'; go_simp; with_reducible rfl)) (ha : a.put N v = a' := by (simp only [Act.put, List.setIfInBounds_toArray, List.set_cons_zero, List.set_cons_succ, i64_w, i32_w]; rfl)) : wpAnyLast P md ops Q S ds (fuel + 1) l a w := pure_ l' hi hN hc hQ hy ha h
theorem fT1 {P : Program} {ops : Array Oper} {Q : Exit → Act → World → Prop} {md : Region.Mode} {S : World → Prop} {ds : List Nat} {i : Nat} {N : Option Tmp} {oi : Oper} {v : Value} {fuel : Nat} {l : Array Bool} {a : Act} {w : World} {a' : Act} (l' : Array Bool) (h : wpAnyLast P md ops Q S ds fuel l' a' w) (hS : S w := by exact hHeld) (hi : ops[i]? = some oi := by rfl) (hN : oi.dst = N := by rfl) (hc : takeB md ops ds l l' i = true := by kernel_rfl) (hQ : ∀ c a w, Q (.panic c) (a.put oi.dst v) w → Q (.panic c) a w := by exact fun _ _ _ h => h) (hy : YieldsIf P ops S oi v a := by (refine Or.inl ⟨by rfl, ?_⟩; rintro w' s0; go_simp; with_reducible rfl)) (ha : a.put N v = a' := by (simp only [Act.put, List.setIfInBounds_toArray, List.set_cons_zero, List.set_cons_succ, i64_w, i32_w]; rfl)) : wpAnyLast P md ops Q S ds (fuel + 1) l a w := take_ l' hi hN hc hQ hy hS ha h
theorem info_sb : (Tryd.prog.info? 40).map (fun i => (i.zero, i.size, i.bytes)) = some (some (.slice none 0 0), 1, 24) := by kernel_rfl
/-- The document's relation: a struct of how many things there are, and a table of truths. -/
def RelIs (w : World) (base p N : Nat) (At : List (List Bool)) : Prop := ∃ v, w.heap[p]? = some (.cells #[.int .i64 (N : Int), v] 39 (0, 0)) ∧ Kd.S (Kd.slice 4 Kd.bool) 40 w base (fun _ => True) v At ∧ base ≤ p ∧ At.length = N ∧ N ≤ 512 ∧ ∀ r ∈ At, r.length = N
theorem RelIs.below {w w1 : World} {base p N : Nat} {At : List (List Bool)} (h : RelIs w base p N At) (hb : Below w.heap.size w w1) : RelIs w1 base p N At := by
  obtain ⟨v, h1, h2, h3⟩ := h
  exact ⟨v, blk_below h1 hb, Kd.S_below h2 hb, h3⟩
theorem RelIs.lower {w : World} {base base' p N : Nat} {At : List (List Bool)} (h : RelIs w base p N At) (hb : base' ≤ base) : RelIs w base' p N At := by
  obtain ⟨v, h1, h2, h3, h4⟩ := h
  exact ⟨v, h1, Kd.S_lower h2 hb, Nat.le_trans hb h3, h4⟩
/-- A row of whole numbers has been written. -/
theorem RelIs.over {w w1 : World} {base p N : Nat} {At : List (List Bool)} (h : RelIs w base p N At) {v : Value} (hty : ∀ k, v.ownBlock = some k → ∃ cells, w.heap[k]? = some (.cells cells 3 (0, 0))) (hg : w.grownBy w1 v.ownBlock) : RelIs w1 base p N At := by
  obtain ⟨u, h1, h2, h3⟩ := h
  refine ⟨u, blk_grown h1 hg (fun e => ?_), Kd.S_over' h2 hty (by decide) hg, h3⟩
  obtain ⟨cells, hc⟩ := hty p e.symm
  rw [h1] at hc
  injection hc with hc
  injection hc with _ hc
  exact absurd hc (by decide)
set_option maxRecDepth 100000 in
theorem may_walk {base p N : Nat} {At : List (List Bool)} (i : Int) (w : World) (hR : RelIs w base p N At) :
    Calls Tryd.prog 46 #[.pointer (some ⟨p, 0, none⟩), .int .i64 i] w fun e w' => e = .returned (.bool (mayB N i)) ∧ w' = w := by
  have hu := Tryd.underlying39
  obtain ⟨v, hb, _, _⟩ := hR
  have hc0 : w.cell? ⟨p, 0, none⟩ = some (.int .i64 (N : Int)) := (blk_cell hb 0).trans rfl
  by_cases h0 : 0 ≤ i
  · go_enter Tryd.func46, Tryd.ntmps46
    go_wp2
    go_ret
    exact ⟨by simp [mayB, h0], rfl⟩
  · have hm : mayB N i = false := by unfold mayB; rw [decide_eq_false h0]; rfl
    go_enter Tryd.func46, Tryd.ntmps46
    go_wp2
    go_ret
    exact ⟨by first | rfl | rw [hm], rfl⟩
theorem may_iff {N : Nat} {i : Int} (h : mayB N i = true) : 0 ≤ i ∧ i < (N : Int) := by simpa [mayB] using h
/-- Where a truth stands. -/
theorem rel_read {w : World} {base p N : Nat} {At : List (List Bool)} (h : RelIs w base p N At) {a b : Int} (ha : 0 ≤ a ∧ a < (N : Int)) (hb : 0 ≤ b ∧ b < (N : Int)) :
    ∃ (ad : Addr) (cap : Nat) (ai : Addr) (ci : Nat), w.cell? ⟨p, 0, none⟩ = some (.int .i64 (N : Int)) ∧ w.cell? ⟨p, 1, none⟩ = some (.slice (some ad) N cap) ∧ w.cell? (ad.add a.toNat) = some (.slice (some ai) N ci) ∧ w.cell? (ai.add b.toNat) = some (.bool (atB At a b)) := by
  obtain ⟨v, h1, h2, _, hN, _, hrow⟩ := h
  obtain ⟨A, cap, hv⟩ := Kd.S_slice h2
  rw [hN] at hv
  subst hv
  obtain ⟨g, cp, e, _⟩ := Kd.S_form h2 (by omega)
  injection e with e _ _
  subst e
  obtain ⟨c, hcl, hM, hcc⟩ := Kd.S_get h2 [] a ha.1 ha.2
  obtain ⟨u, rfl, hu⟩ := hM
  have hlen : (At.getD a.toNat []).length = N := by
    rw [List.getD_eq_getElem?_getD, List.getElem?_eq_getElem (by omega), Option.getD_some]
    exact hrow _ (List.getElem_mem _)
  obtain ⟨Ai, ci, hv2⟩ := Kd.R_slice hu
  rw [hlen] at hv2
  subst hv2
  obtain ⟨ai, e2, hc3⟩ := Kd.at_bool (Kd.R_reads' hu).2.2 b hb.1 (by omega)
  subst e2
  refine ⟨_, cap, ai, ci, (blk_cell h1 0).trans rfl, (blk_cell h1 1).trans rfl, ?_, ?_⟩
  · have := hcc 0 _ rfl
    simpa [Kd.slice] using this
  · rw [hc3]
    simp [atB, rdOf]
set_option maxRecDepth 100000 in
set_option maxHeartbeats 4000000 in
theorem has_walk {base p N : Nat} {At : List (List Bool)} (a b : Int) (w : World) (hR : RelIs w base p N At) :
    Calls Tryd.prog 20 #[.pointer (some ⟨p, 0, none⟩), .int .i64 a, .int .i64 b] w fun e w' => e = .returned (.bool (mayB N a && (mayB N b && atB At a b))) ∧ w' = w := by
  have hu := Tryd.underlying39
  have HR := Aside0.mk hR
  clear hR
  go_enter Tryd.func20, Tryd.ntmps20
  go_upto_region 1 with (fail)
  go_upto_region 2 with (fail)
  refine (may_walk a _ HR.out).mono ?_; rintro e w1 ⟨rfl, hw_⟩; subst w1
  cases ha : mayB N a with
  | false =>
    go_wp2_with (fail)
    go_ret
    exact ⟨by rw [ha]; rfl, rfl⟩
  | true =>
    go_upto_region 2 with (fail)
    refine (may_walk b _ HR.out).mono ?_; rintro e w1 ⟨rfl, hw_⟩; subst w1
    cases hb : mayB N b with
    | false =>
      go_wp2_with (fail)
      go_ret
      exact ⟨by rw [ha, hb]; rfl, rfl⟩
    | true =>
      have pa := (may_iff ha).1
      have qa := (may_iff ha).2
      have pb := (may_iff hb).1
      have qb := (may_iff hb).2
      obtain ⟨ad, cap, ai, ci, hc0, hc1, hc2, hc3⟩ := rel_read HR.out (may_iff ha) (may_iff hb)
      go_wp2_with (fail)
      go_ret
      exact ⟨by rw [ha, hb]; rfl, rfl⟩

/-- Nothing that was there has turned but, it may be, one row of truths from base on. -/
def Turned (base : Nat) (w w' : World) : Prop := ∃ row : Option Nat, w.grownBy w' row ∧ ∀ k, row = some k → base ≤ k ∧ ∃ cells, w.heap[k]? = some (.cells cells 4 (0, 0))
theorem Turned.of {base : Nat} {w w' : World} (h : Below w.heap.size w w') : Turned base w w' := ⟨none, Eval.grown_of_below h, fun k e => by cases e⟩
theorem Turned.below {base n : Nat} {w0 w w' : World} (h : Turned base w w') (hb : Below n w0 w) (hn : n ≤ base) (hs : n ≤ w.heap.size) : Below n w0 w' := by
  obtain ⟨row, hg, hr⟩ := h
  exact ⟨hg.os.trans hb.os, hg.tape.trans hb.tape, hg.output.trans hb.output, Nat.le_trans hb.size hg.size, fun i hi => (hg.block i (Nat.lt_of_lt_of_le hi hs) (fun e => by have := (hr i e.symm).1; omega)).trans (hb.block i hi)⟩
/-- A row of another type stays. -/
theorem Turned.row {α : Type} {d : Kd α} {base b0 e : Nat} {ok : Nat → Prop} {w w' : World} {v : Value} {xs : List α} (h : Turned base w w') (hR : d.R e w b0 ok v xs) (ht : ∀ q, q ∈ e :: d.E → q ≠ 4) : d.R e w' b0 ok v xs := by
  obtain ⟨row, hg, hr⟩ := h
  cases row with
  | none => exact Kd.R_grown hR hg (fun _ _ e => by cases e)
  | some k => exact Kd.R_over' (v := .slice (some ⟨k, 0, none⟩) 1 1) hR (fun j hj => by
      have : k = j := by simpa [Value.ownBlock] using hj
      subst this
      exact (hr k rfl).2) ht (by simpa [Value.ownBlock] using hg)
theorem Turned.blk {base g t : Nat} {cs : Array Value} {w w' : World} (h : Turned base w w') (hb : w.heap[g]? = some (.cells cs t (0, 0))) (ht : t ≠ 4) : w'.heap[g]? = some (.cells cs t (0, 0)) := by
  obtain ⟨row, hg, hr⟩ := h
  refine blk_grown hb hg (fun e => ?_)
  obtain ⟨_, cells, hc⟩ := hr g e.symm
  rw [hb] at hc
  injection hc with hc
  injection hc with _ hc
  exact ht hc
/-- A truth put in its place. -/
theorem rel_put {w : World} {base p N : Nat} {At : List (List Bool)} (h : RelIs w base p N At) {a b : Int} (ha : 0 ≤ a ∧ a < (N : Int)) (hb : 0 ≤ b ∧ b < (N : Int)) :
    ∃ (g cap gi ci : Nat), w.cell? ⟨p, 1, none⟩ = some (.slice (some ⟨g, 0, none⟩) N cap) ∧ w.cell? ⟨g, a.toNat, none⟩ = some (.slice (some ⟨gi, 0, none⟩) N ci) ∧ w.cell? ⟨gi, b.toNat, none⟩ = some (.bool (atB At a b)) ∧ w.frozen? ⟨gi, b.toNat, none⟩ = false ∧ RelIs (w.setCell ⟨gi, b.toNat, none⟩ (.bool true)) base p N (setB At a b) ∧ Turned base w (w.setCell ⟨gi, b.toNat, none⟩ (.bool true)) := by
  obtain ⟨v, h1, h2, h3, hN, h5, hrow⟩ := h
  obtain ⟨A, cap, hv⟩ := Kd.S_slice h2
  rw [hN] at hv
  subst hv
  obtain ⟨g, cp, e, _⟩ := Kd.S_form h2 (by omega)
  injection e with e _ _
  subst e
  obtain ⟨oki, c, hcl, hM, hcc, hoki, hback⟩ := Kd.S_borrow h2 [] a ha.1 (by omega)
  obtain ⟨u, rfl, hur⟩ := hM
  have hlen : (At.getD a.toNat []).length = N := by
    rw [List.getD_eq_getElem?_getD, List.getElem?_eq_getElem (by omega), Option.getD_some]
    exact hrow _ (List.getElem_mem _)
  obtain ⟨gi, ci, ei, hgb, hgl, cells, hcells⟩ := Kd.R_form hur (by omega)
  rw [hlen] at ei
  subst ei
  have hfz := blk_frozen hcells b.toNat
  have hP := Kd.R_putg hur b true
  have hg := hP.2
  have hS := hback hP.2 (fun k e => by injection e with e; subst e; exact hur.1 _ (by simp [Value.ownBlock])) (Kd.M_row hP.1)
  have hc1 := hcc 0 _ rfl
  have hbx := blk_grown h1 hg (fun e => by injection e with e; subst e; rw [h1] at hcells; injection hcells with hcells; injection hcells with _ hcells; exact absurd hcells (by decide))
  have hcb : w.cell? ⟨gi, b.toNat, none⟩ = some (.bool (atB At a b)) := by
    obtain ⟨ai, e2, hc3⟩ := Kd.at_bool (Kd.R_reads' hur).2.2 b hb.1 (by omega)
    injection e2 with e2
    subst e2
    rw [add_at, Nat.zero_add] at hc3
    rw [hc3]
    simp [atB, rdOf]
  refine ⟨g, cap, gi, ci, (blk_cell h1 1).trans rfl, ?_, hcb, hfz, ⟨_, hbx, hS, h3, by unfold setB; rw [List.length_set]; exact hN, h5, fun r hr => ?_⟩, some gi, hg, fun k e => by injection e with e; subst e; exact ⟨hgb, cells, hcells⟩⟩
  · rw [add_at, Nat.zero_add] at hc1
    simpa [Kd.slice] using hc1
  · unfold setB at hr
    rcases List.mem_or_eq_of_mem_set hr with hr | rfl
    · exact hrow r hr
    · rw [List.length_set]; exact hlen
set_option maxRecDepth 100000 in
set_option maxHeartbeats 4000000 in
theorem add_walk {base p N : Nat} {At : List (List Bool)} (a b : Int) (w : World) (hR : RelIs w base p N At) :
    Calls Tryd.prog 22 #[.pointer (some ⟨p, 0, none⟩), .int .i64 a, .int .i64 b] w fun e w' => e = .returned (.bool (mayB N a && mayB N b)) ∧ RelIs w' base p N (addR N At a b) ∧ Turned base w w' := by
  have hu := Tryd.underlying39
  have HR := Aside0.mk hR
  clear hR
  go_enter Tryd.func22, Tryd.ntmps22
  go_upto_region 1 with (fail)
  go_upto_region 2 with (fail)
  refine (may_walk a _ HR.out).mono ?_; rintro e w1 ⟨rfl, hw_⟩; subst w1
  cases ha : mayB N a with
  | false =>
    go_wp2_with (fail)
    go_ret
    exact ⟨by rw [ha]; rfl, by rw [show addR N At a b = At by simp [addR, ha]]; exact HR.out, Turned.of (Below.refl _ _)⟩
  | true =>
    go_upto_region 2 with (fail)
    refine (may_walk b _ HR.out).mono ?_; rintro e w1 ⟨rfl, hw_⟩; subst w1
    cases hb : mayB N b with
    | false =>
      go_wp2_with (fail)
      go_ret
      exact ⟨by rw [ha, hb]; rfl, by rw [show addR N At a b = At by simp [addR, ha, hb]]; exact HR.out, Turned.of (Below.refl _ _)⟩
    | true =>
      have pa := (may_iff ha).1
      have qa := (may_iff ha).2
      have pb := (may_iff hb).1
      have qb := (may_iff hb).2
      obtain ⟨g, cap, gi, ci, hc0, hc1, hcb, hfz, hR2, hT2⟩ := rel_put HR.out (may_iff ha) (may_iff hb)
      have hadd : addR N At a b = setB At a b := by simp [addR, ha, hb]
      have HR2 := Aside0.mk hR2
      have HT2 := Aside0.mk hT2
      have HA := Aside0.mk hadd
      clear hR2 hT2 hadd
      go_wp2_with (fail)
      go_ret
      exact ⟨by rw [ha, hb]; rfl, by rw [HA.out]; exact HR2.out, HT2.out⟩
set_option maxRecDepth 100000 in
set_option maxHeartbeats 4000000 in
theorem new_walk (N : Nat) (hN : N ≤ 512) (w : World) :
    Calls Tryd.prog 21 #[.int .i64 (N : Int)] w fun e w' => ∃ p : Nat, e = .returned (.pointer (some ⟨p, 0, none⟩)) ∧ RelIs w' w.heap.size p N (List.replicate N (List.replicate N false)) ∧ Below w.heap.size w w' := by
  have hu := Tryd.underlying39
  have HB := Aside0.mk (Below.refl w.heap.size w)
  have hlo : ¬ ((N : Int) < 0) := by omega
  have hhi : ¬ ((N : Int) > 512) := by omega
  go_enter Tryd.func21, Tryd.ntmps21
  go_upto_region 6 with (first | ((with_reducible refine gate_dst (N := 11) rfl ?_); refine box_event ?hg (N := 11) ?hd (cs := #[.int .i64 (N : Int), .slice none 0 0]) (t := 39) ?hr ?_; (case hd => rfl); (case hg => rfl); (case hr => first | (go_simp; done) | (go_simp; rfl)); intro p hp wb hbox hb; have BKp := Aside0.mk hbox; have GP := Aside0.mk (show w.heap.size ≤ p by rw [hp]; exact below_size (by repeat (first | (with_reducible first | exact HB.out | apply below_alloc | apply pw_below_drewN | apply below_drew1) | exact HB.out))); have n0_ := Aside0.mk (below_step (by repeat (first | (with_reducible first | exact HB.out | apply below_alloc | apply pw_below_drewN | apply below_drew1) | exact HB.out)) hb); clear HB; have HB := n0_; clear n0_ hb hbox hp))
  go_wp2_with (fail)
  go_loopg [4] N (fun gg v4 wr => ∃ (j : Nat) (v : Value), j ≤ N ∧ N - j ≤ gg ∧ v4 = .int .i64 (j : Int) ∧ Aside0 (wr.heap[p]? = some (.cells #[.int .i64 (N : Int), v] 39 (0, 0))) ∧ Aside0 (Kd.S (Kd.slice 4 Kd.bool) 40 wr w.heap.size (fun _ => True) v (List.replicate j (List.replicate N false))) ∧ Aside0 (Below w.heap.size w wr))
  case atStart => exact ⟨0, _, Nat.zero_le _, by omega, rfl, BKp, ⟨Kd.S_nil _ _ _ _ _⟩, HB⟩
  case round =>
    clear BKp HB
    obtain ⟨j, v, hj, hgg, rfl, BKp, HS, HB⟩ := hrel
    by_cases hlt : j < N
    · have hltz : (j : Int) < (N : Int) := by omega
      go_upto_region 9 with (fail)
      obtain ⟨Av, cv, ev⟩ := Kd.S_slice HS.out
      subst ev
      have hdrew := below_drew1 (Below.refl wr.heap.size wr)
      have n0_ := Aside0.mk (below_step HB.out hdrew); have n1_ := Aside0.mk (blk_below BKp.out hdrew); have n2_ := Aside0.mk (Kd.S_below HS.out hdrew); clear HB BKp HS; have HB := n0_; have BKp := n1_; have HS := n2_; clear n0_ n1_ n2_
      clear hdrew
      rw [List.length_replicate] at HS BKp
      refine start_ (n := 12) (S := fun w' => w'.cell? ⟨p, 1, none⟩ = some (.slice Av j cv)) (ds := [8, 11]) (fm_ 12 0) (by kernel_rfl) rfl rfl ((blk_cell BKp.out 1).trans rfl) (fun hHeld => ?_)
      generalize wr.drew = wd at HB BKp HS hHeld ⊢
      refine fP (i := 0) (N := some 17) (fm_ 12 1) ?_
      refine fP (i := 1) (N := some 18) (fm_ 12 3) ?_
      refine fP (i := 2) (N := some 19) (fm_ 12 7) ?_
      refine fP (i := 3) (N := some 20) (fm_ 12 15) ?_
      refine fP (i := 5) (N := some 22) (fm_ 12 47) ?_
      refine fT1 (i := 4) (N := some 21) (fm_ 12 63) ?_
      refine one_ (i := 6) (N := some 23) (fm_ 12 127) rfl rfl (by kernel_rfl) (by decide) (fun K hK => ?_)
      refine Kd.R_make_step Kd.bool (w0 := w) w.heap.size 4 rfl (N := 23) rfl 40 _ _ rfl (N : Int) rfl rfl Tryd.underlying40 (.bool false) 1 info4 rfl (by decide) (by omega) false (ok := fun k => wd.heap.size ≤ k) (okp := fun k => wd.heap.size ≤ k) rfl (fun _ hk => hk) (Nat.le_refl _) (by omega) (by omega) HB.out (below_size HB.out) ?_
      intro vr wm hrow hb hg hnew
      have HS2 := Kd.S_mono (Kd.S_bound HS.out) (ok' := fun k => True ∧ ¬ (wd.heap.size ≤ k)) (fun k hk => ⟨trivial, fun h2 => Nat.not_le.2 hk.2.2.1 h2⟩)
      have hlv : ∀ k, (Value.slice Av j cv).ownBlock = some k → k < wd.heap.size := fun k hk => Kd.S_lt HS.out k hk
      have n0_ := Aside0.mk hb
      have n1_ := Aside0.mk (blk_grown BKp.out hg (by simp))
      have n2_ := Aside0.mk (Kd.S_grown HS2 hg (fun _ _ e => by cases e))
      clear HB BKp HS HS2 hnew hHeld
      have HB := n0_
      have BKp := n1_
      have HS := n2_
      have HRW := Aside0.mk hrow
      have HLV := Aside0.mk hlv
      have HSZ := Aside0.mk hg.size
      clear n0_ n1_ n2_ hb hg hrow hlv
      obtain ⟨Ar, cr, er⟩ := Kd.R_slice HRW.out
      subst er
      refine hK.out _ _ ((blk_cell BKp.out 1).trans rfl) (fun hHeld => ?_)
      clear hK K
      refine norm_ (a' := ?_) ?_ ?_
      rotate_left
      · show Act.put _ (some 23) _ = _
        go_frame <;> try simp only [i64_w, i32_w]
        rfl
      refine one_ (i := 7) (N := some 24) (fm_ 12 255) rfl rfl (by kernel_rfl) (by decide) (fun K hK => ?_)
      refine value_ (w1 := ?_) (v := ?_) (by rfl) rfl ?_ ?_
      rotate_left 2
      · go_simp
        constructor
        · rfl
        · rfl
      refine hK.out _ _ ((blk_cell (blk_alloc BKp.out _) 1).trans rfl) (fun hHeld => ?_)
      clear hK K
      refine norm_ (a' := ?_) ?_ ?_
      rotate_left
      · show Act.put _ (some 24) _ = _
        go_frame <;> try simp only [i64_w, i32_w]
        rfl
      refine last_ (i := 8) (N := some 25) (fm_ 12 511) rfl rfl (by kernel_rfl) (by decide) (fun K hK => ?_)
      refine Kd.S_append_step (Kd.slice 4 Kd.bool) (w0 := w) w.heap.size rfl (.tmp 21) (.tmp 24) 37 40 (.slice none 0 0) 24 rfl Tryd.underlying37 info_sb rfl (by decide) (by omega) (.slice Av j cv) (List.replicate j (List.replicate N false)) (List.replicate N false) [.slice Ar N cr] (fun _ => True) (fun k => wd.heap.size ≤ k) rfl rfl ?aP (fun k hk => ⟨trivial, fun e => Nat.not_le.2 (HLV.out k e.symm) hk⟩) (fun _ _ => trivial) ?aO ?aB ?aS ?aL ?_
      case aP => rw [List.length_replicate] at HRW; exact Kd.M_row HRW.out
      case aO => exact HS.out
      case aB => exact HB.out
      case aS => exact below_size HB.out
      case aL => rw [List.length_replicate]; omega
      intro v1 w3 ho2 hb2 hg2 hat
      have n0_ := Aside0.mk hb2
      have n1_ := Aside0.mk (blk_grown BKp.out hg2 (Kd.S_ne HS.out BKp.out (by decide)))
      have n2_ := Aside0.mk ho2
      clear HB BKp HS HRW HLV HSZ hHeld
      have HB := n0_
      have BKp := n1_
      have HS := n2_
      clear n0_ n1_ n2_ hb2 hg2 hat ho2
      rw [show List.replicate j (List.replicate N false) ++ [List.replicate N false] = List.replicate (j + 1) (List.replicate N false) from (List.replicate_succ' ..).symm] at HS
      obtain ⟨Av1, cv1, ev⟩ := Kd.S_slice HS.out
      subst ev
      rw [List.length_replicate] at HS ⊢
      refine hK.out _ _ ?_
      clear hK K
      refine norm_ (a' := ?_) ?_ ?_
      rotate_left
      · show Act.put _ (some 25) _ = _
        go_frame <;> try simp only [i64_w, i32_w]
        rfl
      refine fP (i := 9) (N := some 26) (fm_ 12 1023) ?_
      refine fP (i := 10) (N := some 27) (fm_ 12 2047) ?_
      refine last_ (i := 11) (N := none) (fm_ 12 4095) rfl rfl (by kernel_rfl) (by decide) (fun K hK => ?_)
      have hs := (blk_cell BKp.out 1).trans rfl
      have hfs := blk_frozen BKp.out 1
      refine skip_ (w1 := ?_) (by rfl) rfl ?_ ?_
      rotate_left
      · go_simp
        rfl
      refine hK.out _ _ ?_
      clear hK K hs hfs
      refine done_ (by kernel_rfl) ?_
      have n0_ := Aside0.mk (below_set (j := 1) (v := (.slice Av1 (j + 1) cv1)) HB.out GP.out); have n1_ := Aside0.mk (Kd.S_set HS.out BKp.out (by decide) 1 (.slice Av1 (j + 1) cv1)); have n2_ := Aside0.mk (blk_put (cs' := #[.int .i64 (N : Int), (.slice Av1 (j + 1) cv1)]) BKp.out 1 (.slice Av1 (j + 1) cv1) rfl); clear HB HS BKp; have HB := n0_; have HS := n1_; have BKp := n2_; clear n0_ n1_ n2_
      try go_wp2_with (fail)
      go_roundg (N - (j + 1))
      case measure => omega
      case rel => exact ⟨j + 1, _, by omega, by omega, by first | rfl | rw [show wrap64 ((j : Int) + 1) = ((j + 1 : Nat) : Int) by unfold wrap64; omega], BKp, HS, HB⟩
    · have hltz : ¬ (j : Int) < (N : Int) := by omega
      have hjn : j = N := by omega
      subst hjn
      go_wp2_with (fail)
      go_ret
      exact ⟨p, rfl, ⟨v, BKp.out, HS.out, GP.out, by simp, hN, fun r hr => by rw [List.eq_of_mem_replicate hr]; simp⟩, HB.out⟩
/-- What was made is none of the relation's. -/
theorem RelIs.fresh {w w1 : World} {base p N : Nat} {At : List (List Bool)} (h : RelIs w base p N At) (hg : w.grownBy w1 none) : RelIs w1 base p N At := by
  obtain ⟨v, h1, h2, h3⟩ := h
  exact ⟨v, blk_grown h1 hg (by simp), Kd.S_grown h2 hg (fun _ _ e => by cases e), h3⟩
/-- A thing's row gone through: what is new, and what is left to do. -/
def rowL (At : List (List Bool)) (a x : Int) : Nat → Nat → List (List Bool) → List Int → List (List Bool) × List Int
  | 0, _, out, todo => (out, todo)
  | d + 1, b, out, todo => if (atB At x (b : Int) && !atB out a (b : Int)) = true then rowL At a x d (b + 1) (setB out a (b : Int)) (todo ++ [(b : Int)]) else rowL At a x d (b + 1) out todo
/-- All that a thing leads to. -/
def workL (At : List (List Bool)) (N : Nat) (a : Int) : Nat → List (List Bool) → List Int → Option (List (List Bool))
  | 0, _, _ => none
  | _ + 1, out, [] => some out
  | k + 1, out, x :: rest => if 0 ≤ x ∧ x < (N : Int) ∧ rest.length ≤ 4294967296 then workL At N a k (rowL At a x N 0 out rest).1 (rowL At a x N 0 out rest).2 else none
def leadL (At : List (List Bool)) (N k : Nat) : Nat → Nat → List (List Bool) → Option (List (List Bool))
  | 0, _, out => some out
  | d + 1, a, out => (workL At N (a : Int) k out [(a : Int)]).bind fun out' => leadL At N k d (a + 1) out'
def leadsF (k N : Nat) (At : List (List Bool)) : Option (List (List Bool)) := leadL At N k N 0 (List.replicate N (List.replicate N false))
theorem Turned.rowQ {α : Type} {d : Kd α} {base b0 e : Nat} {ok : Nat → Prop} {w w' : World} {v : Value} {xs : List α} (h : Turned base w w') (hR : d.Q e w b0 ok v xs) (ht : ∀ q, q ∈ e :: d.E → q ≠ 4) : d.Q e w' b0 ok v xs := by
  obtain ⟨row, hg, hr⟩ := h
  refine Kd.Q_mono (Kd.Q_move (Kd.Q_bound hR) (fun k hk => hg.block k hk.2.2.1 (fun he => ?_))) (fun _ hk => hk.1)
  obtain ⟨_, _, _, q, hq, cells, hc⟩ := hk
  obtain ⟨_, cells', hc'⟩ := hr k he.symm
  rw [hc] at hc'
  injection hc' with hc'
  injection hc' with _ hc'
  exact ht q hq hc'
theorem Q_typed {α : Type} {d : Kd α} {e base : Nat} {ok : Nat → Prop} {w : World} {v : Value} {xs : List α} (h : d.Q e w base ok v xs) : ∀ k, v.ownBlock = some k → ∃ cells, w.heap[k]? = some (.cells cells e (0, 0)) := by
  obtain ⟨h0, inner, ho, hr⟩ := h
  intro k hk
  obtain ⟨_, cells, hc⟩ := q_typed ho k hk
  exact ⟨cells, hc⟩
set_option maxRecDepth 100000 in
set_option maxHeartbeats 8000000 in
theorem leads_walk {base p N : Nat} {At : List (List Bool)} (k : Nat) (r : List (List Bool)) (w : World) (hR : RelIs w base p N At) (h : leadsF k N At = some r) :
    Calls Tryd.prog 31 #[.pointer (some ⟨p, 0, none⟩)] w fun e w' => ∃ q : Nat, e = .returned (.pointer (some ⟨q, 0, none⟩)) ∧ RelIs w' w.heap.size q N r ∧ Below w.heap.size w w' := by
  have hu := Tryd.underlying39
  have HN : Aside0 (N ≤ 512) := ⟨by obtain ⟨_, _, _, _, _, h5, _⟩ := hR; exact h5⟩
  have HR := Aside0.mk hR
  have HB := Aside0.mk (Below.refl w.heap.size w)
  have HL := Aside0.mk h
  have hc0 : w.cell? ⟨p, 0, none⟩ = some (.int .i64 (N : Int)) := by obtain ⟨v, h1, _⟩ := hR; exact (blk_cell h1 0).trans rfl
  clear hR h
  go_enter Tryd.func31, Tryd.ntmps31
  go_wp2_with (first | (go_at_call 21; refine (new_walk N HN.out _).mono ?_; rintro e w1 ⟨q, rfl, hq, hb_⟩; have HQ := Aside0.mk (RelIs.lower hq (below_size HB.out)); have n0_ := Aside0.mk (below_step HB.out hb_); clear HB hq hb_; have HB := n0_; clear n0_))
  clear hc0
  go_loopg [4] N (fun gg v4 wr => ∃ (a : Nat) (out : List (List Bool)), a ≤ N ∧ N - a ≤ gg ∧ v4 = .int .i64 (a : Int) ∧ Aside0 (leadL At N k (N - a) a out = some r) ∧ Aside0 (RelIs wr w.heap.size q N out) ∧ Aside0 (Below w.heap.size w wr))
  case atStart => exact ⟨0, _, Nat.zero_le _, by omega, rfl, HL, HQ, HB⟩
  case round =>
    clear HL HQ HB
    obtain ⟨a, out, haN, hgg, rfl, HL, HQ, HB⟩ := hrel
    have hc0 : wr.cell? ⟨p, 0, none⟩ = some (.int .i64 (N : Int)) := by obtain ⟨v, h1, _⟩ := HR.out.below HB.out; exact (blk_cell h1 0).trans rfl
    by_cases hlt : a < N
    · have hltz : (a : Int) < (N : Int) := by omega
      have hl := HL.out
      rw [show N - a = (N - (a + 1)) + 1 by omega, leadL] at hl
      obtain ⟨out1, hwork, hl⟩ := Option.bind_eq_some_iff.1 hl
      have HL := Aside0.mk hl
      have HW := Aside0.mk hwork
      clear hl hwork
      have hN5 := HN.out
      go_wp2_with (first | ((with_reducible refine gate_dst (N := 22) rfl ?_); refine Kd.R_lit (Kd.int .i64) (w0 := w) w.heap.size 3 rfl (N := 22) rfl (xs := [(a : Int)]) (inner := [.int .i64 (a : Int)]) (ok := fun _ => True) (okp := fun _ => True) ?hr ?hp (fun _ hk => hk) trivial HB.out (below_size HB.out) (by simp) ?_; (case hr => first | (go_simp; done) | (go_simp; rfl)); (case hp => exact Reps.one (show (Kd.int .i64).M _ _ _ (a : Int) [.int .i64 (a : Int)] from rfl) (Reps.none _ _)); intro v2 w2 ho hb hg hnew; have HO := Aside0.mk (Kd.Q_of_R ho); have n0_ := Aside0.mk (HQ.out.fresh hg); have n1_ := Aside0.mk hb; clear HQ HB hnew hg hb ho; have HQ := n0_; have HB := n1_; clear n0_ n1_))
      go_loopg [5] k (fun kq v5 wr => ∃ (out : List (List Bool)) (todo : List Int), Aside0 (workL At N (a : Int) kq out todo = some out1) ∧ Aside0 ((Kd.int .i64).Q 3 wr w.heap.size (fun _ => True) v5 todo) ∧ Aside0 (RelIs wr w.heap.size q N out) ∧ Aside0 (Below w.heap.size w wr))
      case atStart => exact ⟨_, _, HW, HO, HQ, HB⟩
      case round =>
        clear HW HO HQ HB
        obtain ⟨out, todo, HW, HO, HQ, HB⟩ := hrel
        cases gk with
        | zero => exact absurd HW.out (by simp [workL])
        | succ k1 =>
          obtain ⟨At5, ct5, et, hcap5⟩ := Kd.Q_slice HO.out
          subst et
          cases todo with
          | nil =>
            have hw := HW.out
            simp only [workL] at hw
            injection hw with hw
            subst hw
            go_wp2_with (fail)
            go_roundg (N - (a + 1))
            case measure => omega
            case rel => exact ⟨a + 1, out, by omega, by omega, by first | rfl | rw [show wrap64 ((a : Int) + 1) = ((a + 1 : Nat) : Int) by unfold wrap64; omega], HL, HQ, HB⟩
          | cons x rest =>
            have hw := HW.out
            rw [workL] at hw
            by_cases hx : 0 ≤ x ∧ x < (N : Int) ∧ rest.length ≤ 4294967296
            · rw [if_pos hx] at hw
              have HW := Aside0.mk hw
              clear hw
              obtain ⟨ad5, ead, hcell⟩ := Kd.at_int (Kd.Q_reads' HO.out).2.2 0 (by decide) (by simp)
              cases ead
              have HD := Aside0.mk (show (Kd.int .i64).Q 3 wr w.heap.size (fun _ => True) (.slice (if ct5 = 1 then some ad5 else some (⟨ad5.block, ad5.off + 1, none⟩ : Addr)) rest.length (ct5 - 1)) rest from Kd.Q_drop HO.out (show 1 ≤ (x :: rest).length by simp))
              rw [show rd (x :: rest) 0 = x from rfl, show ((0 : Int)).toNat = 0 from rfl, Addr.add_zero'] at hcell
              simp only [List.length_cons] at hcap5
              have hlen : ((x :: rest).length : Int) > 0 := by simp
              have hrl := hx.2.2
              go_upto_region 9 with (fail)
              clear hcell HO
              generalize (Value.slice (if ct5 = 1 then some ad5 else some (⟨ad5.block, ad5.off + 1, none⟩ : Addr)) rest.length (ct5 - 1)) = v5 at HD ⊢
              obtain ⟨pf, hpf⟩ : ∃ pf, Aside0 (rowL At (a : Int) x N 0 out rest = pf) := ⟨_, ⟨rfl⟩⟩
              rw [hpf.out] at HW
              go_wp2_with (fail)
              go_loopg [5, 7] N (fun gg v5 v7 wr => ∃ (b : Nat) (out2 : List (List Bool)) (todo2 : List Int), b ≤ N ∧ N - b ≤ gg ∧ v7 = .int .i64 (b : Int) ∧ Aside0 (rowL At (a : Int) x (N - b) b out2 todo2 = pf) ∧ Aside0 (todo2.length ≤ 4294967296 + b) ∧ Aside0 ((Kd.int .i64).Q 3 wr w.heap.size (fun _ => True) v5 todo2) ∧ Aside0 (RelIs wr w.heap.size q N out2) ∧ Aside0 (Below w.heap.size w wr))
              case atStart => exact ⟨0, out, rest, Nat.zero_le _, by omega, rfl, hpf, ⟨by omega⟩, HD, HQ, HB⟩
              case round =>
                clear hpf HD HQ HB hc0
                obtain ⟨b, out2, todo2, hbN, hgb, rfl, HP, HTL, HO, HQ, HB⟩ := hrel
                have hc0 : wr.cell? ⟨p, 0, none⟩ = some (.int .i64 (N : Int)) := by obtain ⟨v, h1, _⟩ := HR.out.below HB.out; exact (blk_cell h1 0).trans rfl
                by_cases hbl : b < N
                · have hblz : (b : Int) < (N : Int) := by omega
                  have hpp := HP.out
                  rw [show N - b = (N - (b + 1)) + 1 by omega, rowL] at hpp
                  have px := hx.1
                  have qx := hx.2.1
                  have pb : (0 : Int) ≤ (b : Int) := by omega
                  have paz : (0 : Int) ≤ (a : Int) := by omega
                  obtain ⟨ad, cap, ai, ci, _, hr1, hr2, hr3⟩ := rel_read (HR.out.below HB.out) (a := x) (b := (b : Int)) ⟨hx.1, hx.2.1⟩ ⟨pb, hblz⟩
                  obtain ⟨ad2, cap2, ai2, ci2, _, ho1, ho2, ho3⟩ := rel_read HQ.out (a := (a : Int)) (b := (b : Int)) ⟨paz, hltz⟩ ⟨pb, hblz⟩
                  rw [Int.toNat_natCast] at hr3 ho2 ho3
                  cases e1 : atB At x (b : Int) with
                  | false =>
                    rw [e1] at hpp hr3
                    rw [if_neg (by simp)] at hpp
                    have HP := Aside0.mk hpp
                    clear hpp
                    go_wp2_with (fail)
                    go_roundg (N - (b + 1))
                    case measure => omega
                    case rel => exact ⟨b + 1, out2, todo2, by omega, by omega, by first | rfl | rw [show wrap64 ((b : Int) + 1) = ((b + 1 : Nat) : Int) by unfold wrap64; omega], HP, ⟨by have := HTL.out; omega⟩, HO, HQ, HB⟩
                  | true =>
                    rw [e1] at hpp hr3
                    cases e2 : atB out2 (a : Int) (b : Int) with
                    | true =>
                      rw [e2] at hpp ho3
                      rw [if_neg (by simp)] at hpp
                      have HP := Aside0.mk hpp
                      clear hpp
                      go_wp2_with (fail)
                      go_roundg (N - (b + 1))
                      case measure => omega
                      case rel => exact ⟨b + 1, out2, todo2, by omega, by omega, by first | rfl | rw [show wrap64 ((b : Int) + 1) = ((b + 1 : Nat) : Int) by unfold wrap64; omega], HP, ⟨by have := HTL.out; omega⟩, HO, HQ, HB⟩
                    | false =>
                      rw [e2] at hpp ho3
                      rw [if_pos (by simp)] at hpp
                      have HP := Aside0.mk hpp
                      clear hpp
                      go_upto_region 13 with (fail)
                      clear hr1 hr2 hr3 ho1 ho2 ho3
                      obtain ⟨g3, cap3, gi3, ci3, hp0, hp1, hpb, hpz, hR2, hT2⟩ := rel_put HQ.out (a := (a : Int)) (b := (b : Int)) ⟨paz, hltz⟩ ⟨pb, hblz⟩
                      rw [Int.toNat_natCast] at hp1 hpb hpz hR2 hT2
                      have HR2 := Aside0.mk hR2
                      have HT2 := Aside0.mk hT2
                      clear hR2 hT2
                      go_upto_region 14 with (fail)
                      clear hp0 hp1 hpb hpz hc0
                      have n0_ := Aside0.mk (HT2.out.rowQ HO.out (by decide))
                      have n1_ := Aside0.mk (HT2.out.below HB.out (Nat.le_refl _) (below_size HB.out))
                      clear HO HB HQ HT2
                      have HO := n0_
                      have HB := n1_
                      have HQ := HR2
                      clear n0_ n1_ HR2
                      generalize wr.setCell ⟨gi3, b, none⟩ (.bool true) = ws at HO HB HQ ⊢
                      obtain ⟨A6, c6, e6, _⟩ := Kd.Q_slice HO.out
                      subst e6
                      go_wp2_with (first | ((with_reducible refine gate_builtin (b := .append) (xs := #[.tmp 71, .tmp 73]) rfl ?_); at_builtin; refine Kd.Q_append (Kd.int .i64) (w0 := w) w.heap.size rfl (.tmp 71) (.tmp 73) 45 3 (.int .i64 0) 8 rfl Tryd.underlying45 info3 rfl (by decide) (by omega) (.slice A6 todo2.length c6) todo2 (b : Int) [.int .i64 (b : Int)] (fun _ => True) (fun _ => False) rfl rfl rfl (fun _ hk => hk.elim) (fun _ _ => trivial) HO.out HB.out (below_size HB.out) (by have := HTL.out; omega) ?_; intro v6 w6 ho6 hb6 hg6 hat6; have n0_ := Aside0.mk (HQ.out.over (Q_typed HO.out) hg6); have n1_ := Aside0.mk ho6; have n2_ := Aside0.mk hb6; clear HQ HO HB ho6 hb6 hg6 hat6; have HQ := n0_; have HO := n1_; have HB := n2_; clear n0_ n1_ n2_))
                      go_roundg (N - (b + 1))
                      case measure => omega
                      case rel => exact ⟨b + 1, setB out2 (a : Int) (b : Int), todo2 ++ [(b : Int)], by omega, by omega, by first | rfl | rw [show wrap64 ((b : Int) + 1) = ((b + 1 : Nat) : Int) by unfold wrap64; omega], HP, ⟨by rw [List.length_append]; have := HTL.out; simp only [List.length_singleton]; omega⟩, HO, HQ, HB⟩
                · have hblz : ¬ (b : Int) < (N : Int) := by omega
                  have hpp := HP.out
                  rw [show N - b = 0 by omega, rowL] at hpp
                  subst hpp
                  go_wp2_with (fail)
                  go_roundg k1
                  case measure => omega
                  case rel => exact ⟨out2, todo2, HW, HO, HQ, HB⟩
            · rw [if_neg hx] at hw
              cases hw
    · have hltz : ¬ (a : Int) < (N : Int) := by omega
      have hl := HL.out
      rw [show N - a = 0 by omega, leadL] at hl
      injection hl with hl
      subst hl
      go_wp2_with (fail)
      go_ret
      exact ⟨q, rfl, HQ.out, HB.out⟩
/-- Does a table lead from something to itself? -/
def rndL (c : List (List Bool)) : Nat → Nat → Bool
  | 0, _ => false
  | d + 1, a => atB c (a : Int) (a : Int) || rndL c d (a + 1)
def roundsF (k N : Nat) (At : List (List Bool)) : Option Bool := (leadsF k N At).bind fun c => some (rndL c N 0)
set_option maxRecDepth 100000 in
set_option maxHeartbeats 4000000 in
theorem rounds_walk {base p N : Nat} {At : List (List Bool)} (k : Nat) (r : Bool) (w : World) (hR : RelIs w base p N At) (h : roundsF k N At = some r) :
    Calls Tryd.prog 27 #[.pointer (some ⟨p, 0, none⟩)] w fun e w' => e = .returned (.bool r) ∧ Below w.heap.size w w' := by
  have hu := Tryd.underlying39
  unfold roundsF at h
  obtain ⟨c, hc, h⟩ := Option.bind_eq_some_iff.1 h
  injection h with h
  have HN : Aside0 (N ≤ 512) := ⟨by obtain ⟨_, _, _, _, _, h5, _⟩ := hR; exact h5⟩
  have HR := Aside0.mk hR
  have HL := Aside0.mk hc
  have HX := Aside0.mk h
  clear hR hc h
  go_enter Tryd.func27, Tryd.ntmps27
  go_wp2_with (first | (go_at_call 31; refine (leads_walk k _ _ HR.out HL.out).mono ?_; rintro e ws ⟨q, rfl, hq, hb_⟩; have HQ := Aside0.mk hq; have HB := Aside0.mk hb_; clear hq hb_))
  go_loopg [4] N (fun gg v4 wr => ∃ (a : Nat), a ≤ N ∧ N - a ≤ gg ∧ v4 = .int .i64 (a : Int) ∧ Aside0 (rndL c (N - a) a = r) ∧ wr = ws)
  case atStart => exact ⟨0, Nat.zero_le _, by omega, rfl, HX, rfl⟩
  case round =>
    clear HX
    obtain ⟨a, haN, hgg, rfl, HX, hwr⟩ := hrel
    subst hwr
    have hc0 : wr.cell? ⟨p, 0, none⟩ = some (.int .i64 (N : Int)) := by obtain ⟨v, h1, _⟩ := HR.out.below HB.out; exact (blk_cell h1 0).trans rfl
    by_cases hlt : a < N
    · have hltz : (a : Int) < (N : Int) := by omega
      have hp0 : (0 : Int) ≤ (a : Int) := by omega
      obtain ⟨ad, cap, ai, ci, _, hc1, hc2, hc3⟩ := rel_read HQ.out (a := (a : Int)) (b := (a : Int)) ⟨hp0, hltz⟩ ⟨hp0, hltz⟩
      rw [Int.toNat_natCast] at hc2 hc3
      have hx := HX.out
      rw [show N - a = (N - (a + 1)) + 1 by omega, rndL] at hx
      cases hat : atB c (a : Int) (a : Int) with
      | true =>
        rw [hat] at hx hc3
        rw [Bool.true_or] at hx
        subst hx
        clear hat
        go_wp2_with (fail)
        go_ret
        exact ⟨rfl, HB.out⟩
      | false =>
        rw [hat] at hx hc3
        rw [Bool.false_or] at hx
        have HX := Aside0.mk hx
        clear hat hx
        go_wp2_with (fail)
        go_roundg (N - (a + 1))
        case measure => omega
        case rel => exact ⟨a + 1, by omega, by omega, by first | rfl | rw [show wrap64 ((a : Int) + 1) = ((a + 1 : Nat) : Int) by unfold wrap64; have hq_ := HN.out; omega], HX, rfl⟩
    · have hltz : ¬ (a : Int) < (N : Int) := by omega
      have hx := HX.out
      rw [show N - a = 0 by omega, rndL] at hx
      subst hx
      go_wp2_with (fail)
      go_ret
      exact ⟨rfl, HB.out⟩
end Lds
end Go.Proofs.YtoieemaheadjdaaDoor.PRel
