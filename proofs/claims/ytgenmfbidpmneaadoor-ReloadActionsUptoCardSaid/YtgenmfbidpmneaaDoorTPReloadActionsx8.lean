-- printed by a program of this session (wip/mp.py: the kit's printer, patched, over the session's own templates); checked by Lean alone
import Derived.Test.YtgenmfbidpmneaaDoorTPReloadActionsx0
import Derived.Test.YtgenmfbidpmneaaDoorTPReloadActionsx3
import Derived.Test.YtgenmfbidpmneaaDoorTPReloadActionsx6
import Derived.Test.YtgenmfbidpmneaaDoorTPReloadActionsx7
namespace Go.Proofs.YtgenmfbidpmneaaDoor.PReloadActions
open Go.RowKit Go.Proofs.YtgenmfbidpmneaaDoorW.PrintWords Go.Proofs.YtgenmfbidpmneaaDoorW.PrintLast Go.Proofs.YtgenmfbidpmneaaDoorW.PrintMore
attribute [local go_sem] max2_int min2_int max_two min_two max_three min_three max_four min_four   -- for this text's walks alone
set_option linter.unusedVariables false
set_option linter.unusedSimpArgs false

/-! ### reload_Reuse: function 12 -/
def reload_Reuse.l0 : Nat → List (S36) → Int → Int → Int → List Int → List (S36) → Option (Int × List Int × (List (S36)))
  | 0, _, _, _, _, _, _ => none
  | k + 1, x17, x18, x19, x131000, x131001, x131002 => if x19 < x18 then (if 0 ≤ x19 then (if x19 < (x17.length : Int) then ((reload_block.f ((rd_T36 x17 x19).f0) ((rd_T36 x17 x19).f1.f0) ((rd_T36 x17 x19).f1.f1) ((rd_T36 x17 x19).f1.f2) ((rd_T36 x17 x19).f1.f3)).bind fun bt133 => (if x131002.length < 2513169434916 then (reload_Reuse.l0 k x17 x18 (wrap64 (x19 + 1)) x131000 x131001 (x131002 ++ [(⟨bt133.1, (⟨bt133.2.1, bt133.2.2.1, bt133.2.2.2.1, bt133.2.2.2.2⟩ : S34)⟩ : S36)])) else (none))) else (none)) else (none)) else (some (x131000, x131001, x131002))
def reload_Reuse.f (k : Nat) (a0_0 : Int) (l0_1 : List Int) (l0_2 : List (S36)) : Option (Int × List Int × (List (S36))) := (ir_Right.f a0_0 l0_1 l0_2 200).bind fun t126 => (if t126 = true then ((slices_Clone_int_int.f l0_1).bind fun t127 => (reload_Reuse.l0 k l0_2 (l0_2.length : Int) 0 a0_0 t127 ([] : List (S36)))) else (none))
theorem reload_Reuse.mono_l : ∀ k, (∀ y0 y1 y2 y3 y4 y5, LeO (reload_Reuse.l0 k y0 y1 y2 y3 y4 y5) (reload_Reuse.l0 (k + 1) y0 y1 y2 y3 y4 y5))
  | 0 => fun _ _ _ _ _ _ r h => by simp [reload_Reuse.l0] at h
  | k + 1 => by
    have ih0 := reload_Reuse.mono_l k
    · intro y0 y1 y2 y3 y4 y5
      unfold reload_Reuse.l0
      repeat' first
 | (with_reducible exact ih0 _ _ _ _ _ _)
 | (with_reducible exact LeO.refl _)
 | (with_reducible exact LeO.none _)
 | (with_reducible refine LeO.ite ?_ ?_)
 | (with_reducible refine LeO.bind ?_ (fun _ => ?_))
theorem reload_Reuse.mono : ∀ a0 a1 a2 k, LeO (reload_Reuse.f k a0 a1 a2) (reload_Reuse.f (k + 1) a0 a1 a2) := by
  intro a0 a1 a2 k
  have ih0 := reload_Reuse.mono_l k
  unfold reload_Reuse.f
  repeat' first
 | (with_reducible exact ih0 _ _ _ _ _ _)
 | (with_reducible exact LeO.refl _)
 | (with_reducible exact LeO.none _)
 | (with_reducible refine LeO.ite ?_ ?_)
 | (with_reducible refine LeO.bind ?_ (fun _ => ?_))
def reload_Reuse.T3 : Bool × List (List Nat × List Nat) := (true, [([], []), ([0], [0]), ([], []), ([2], [2]), ([3], [3]), ([1, 4], [1, 4]), ([], []), ([6, 5, 4, 0, 1, 2, 3, 4, 5, 6], [5, 6])])
def reload_Reuse.B3 : List Nat := [0, 1, 0, 4, 12, 31, 0, 127]
theorem reload_Reuse.tab3 : rtab .any (opsOf Tryd.f12 3) = reload_Reuse.T3 := by kernel_rfl
theorem reload_Reuse.bits3 : waitsOk reload_Reuse.T3.2 reload_Reuse.B3 = true := by kernel_rfl
def reload_Reuse.T7 : Bool × List (List Nat × List Nat) := (true, [([], []), ([0], [0]), ([], []), ([2], [2]), ([3], [3]), ([1, 4, 3], [1, 4]), ([0, 1, 2, 3, 4, 5], []), ([6, 5, 5, 0, 1, 2, 3, 4, 5], [5, 6])])
def reload_Reuse.B7 : List Nat := [0, 1, 0, 4, 12, 31, 63, 127]
theorem reload_Reuse.tab7 : rtab .any (opsOf Tryd.f12 7) = reload_Reuse.T7 := by kernel_rfl
theorem reload_Reuse.bits7 : waitsOk reload_Reuse.T7.2 reload_Reuse.B7 = true := by kernel_rfl
theorem z12_0 {p : Prop} (h : p := by (with_reducible repeat (first | refine blk_drewN ?_ _ | refine blk_drew ?_ | refine blk_alloc ?_ _)); exact BK124.out) : p := h
theorem z12_1 {p : Prop} (h : p := by repeat (first | (with_reducible first | exact HB.out | apply below_alloc | apply pw_below_drewN | apply below_drew1 | refine below_set ?_ GE124.out | refine below_set ?_ GE125.out) | exact HB.out)) : p := h
theorem z12_2 {p : Prop} (h : p := by (with_reducible repeat (first | refine blk_drewN ?_ _ | refine blk_drew ?_ | refine blk_alloc ?_ _)); exact BK125.out) : p := h
theorem z12_3 {p : Prop} (h : p := by repeat (first | (with_reducible first | exact HB.out | apply below_alloc | apply pw_below_drewN | apply below_drew1 | refine below_set ?_ GE124.out | refine below_set ?_ GE125.out | refine below_set ?_ GE130.out) | exact HB.out)) : p := h
theorem z12_4 {p : Prop} (h : p := by repeat (first | (with_reducible first | exact HB.out | apply below_alloc | apply pw_below_drewN | apply below_drew1 | refine below_set ?_ GE124.out | refine below_set ?_ GE125.out | refine below_set ?_ GE130.out | refine below_set ?_ GE132.out) | exact HB.out)) : p := h
theorem z12_5 {p : Prop} (h : p := by (with_reducible repeat (first | refine blk_drewN ?_ _ | refine blk_drew ?_ | refine blk_alloc ?_ _)); exact BK130.out) : p := h
theorem z12_6 {p : Prop} (h : p := by (try simp only [List.map_toArray, List.map_cons, List.map_nil]); first | done | rfl | (simp only [List.length_drop, List.length_take]; rfl)) : p := h
theorem z12_7 {p : Prop} (h : p := by (with_reducible repeat (first | refine blk_drewN ?_ _ | refine blk_drew ?_ | refine blk_alloc ?_ _)); exact BK132.out) : p := h
set_option maxHeartbeats 8000000 in
set_option maxRecDepth 100000 in
theorem reload_Reuse.calls (k : Nat) (a0_0 : Int) (A0_1 : Option Addr) (c0_1 : Nat) (l0_1 : List Int) (A0_2 : Option Addr) (c0_2 : Nat) (l0_2 : List (S36)) (r1 : Int) (r2 : List Int) (r3 : List (S36)) (w : World) (hr0_1 : Kd.C (Kd.int .i64) w A0_1 l0_1.length l0_1) (hc0_1 : l0_1.length ≤ c0_1) (hr0_2 : Kd.C k36 w A0_2 l0_2.length l0_2) (hc0_2 : l0_2.length ≤ c0_2) (hG : OpsLaid w) (h : reload_Reuse.f k a0_0 l0_1 l0_2 = some (r1, r2, r3)) :
  Calls Tryd.prog 12 #[.agg #[.int .i64 a0_0, .slice A0_1 l0_1.length c0_1, .slice A0_2 l0_2.length c0_2]] w fun e w' => ∃ v1_ v2_ : Value, e = .returned (.agg #[.int .i64 r1, v1_, v2_]) ∧ Kd.R (Kd.int .i64) 3 w' w.heap.size (fun _ => True) v1_ r2 ∧ Kd.S k36 36 w' w.heap.size (fun _ => True) v2_ r3 ∧ Below w.heap.size w w' := by
 have hu25 := Tryd.underlying25
 have hu36 := Tryd.underlying36
 have HG := Aside0.mk hG
 clear hG
 have HR0_1 := Aside0.mk hr0_1
 have HC0_1 := Aside0.mk hc0_1
 clear hr0_1 hc0_1
 have HR0_2 := Aside0.mk hr0_2
 have HC0_2 := Aside0.mk hc0_2
 clear hr0_2 hc0_2
 have HB := Aside0.mk (Below.refl w.heap.size w)
 have H : ((ir_Right.f a0_0 l0_1 l0_2 200).bind fun t126 => (if t126 = true then ((slices_Clone_int_int.f l0_1).bind fun t127 => (reload_Reuse.l0 k l0_2 (l0_2.length : Int) 0 a0_0 t127 ([] : List (S36)))) else (none))) = some (r1, r2, r3) := h
 clear h
 replace H := Option.bind_eq_some_iff.mp H
 obtain ⟨t126, A20, H⟩ := H
 replace H : (if t126 = true then ((slices_Clone_int_int.f l0_1).bind fun t127 => (reload_Reuse.l0 k l0_2 (l0_2.length : Int) 0 a0_0 t127 ([] : List (S36)))) else (none)) = some (r1, r2, r3) := H
 have A2 := Aside0.mk A20
 clear A20
 by_cases c3 : t126 = true
 ·subst c3
  have H1 : ((slices_Clone_int_int.f l0_1).bind fun t127 => (reload_Reuse.l0 k l0_2 (l0_2.length : Int) 0 a0_0 t127 ([] : List (S36)))) = some (r1, r2, r3) := by rw [if_pos rfl] at H; exact H
  clear H
  have H := H1
  clear H1
  replace H := Option.bind_eq_some_iff.mp H
  obtain ⟨t127, A40, H⟩ := H
  replace H : (reload_Reuse.l0 k l0_2 (l0_2.length : Int) 0 a0_0 t127 ([] : List (S36))) = some (r1, r2, r3) := H
  have A4 := Aside0.mk A40
  clear A40
  have H' := Aside0.mk H
  clear H
  go_enter Tryd.func12, Tryd.ntmps12
  try go_wp2_with (first | ((with_reducible refine gate_dst (N := 1) rfl ?_); refine box_event ?hg (N := 1) ?hd (cs := #[.int .i64 a0_0, .slice A0_1 l0_1.length c0_1, .slice A0_2 l0_2.length c0_2]) (t := 25) ?hr ?_; (case hd => rfl); (case hg => rfl); (case hr => first | (go_simp; done) | (go_simp; rfl)); intro gb124 hg w5 hbox hb; have n0_ := Aside0.mk (below_step (by repeat (first | (with_reducible first | exact HB.out | apply below_alloc | apply pw_below_drewN | apply below_drew1) | exact HB.out)) hb); have n1_ := Aside0.mk (hbox); have n2_ := Aside0.mk ((by rw [hg]; exact (below_size (by repeat (first | (with_reducible first | exact HB.out | apply below_alloc | apply pw_below_drewN | apply below_drew1) | exact HB.out))) : w.heap.size ≤ gb124)); have n3_ := n2_; clear HB; have HB := n0_; have BK124 := n1_; have GW124 := n2_; have GE124 := n3_; clear n0_ n1_ n2_ n3_; clear hb hbox hg) | ((with_reducible refine gate_dst (N := 2) rfl ?_); refine box_event ?hg (N := 2) ?hd (cs := #[.int .i64 0, .slice none 0 0, .slice none 0 0]) (t := 25) ?hr ?_; (case hd => rfl); (case hg => rfl); (case hr => first | (go_simp; done) | (go_simp; rfl)); intro gb125 hg w6 hbox hb; have n0_ := Aside0.mk (blk_below (g := gb124) (o := .cells #[.int .i64 a0_0, .slice A0_1 l0_1.length c0_1, .slice A0_2 l0_2.length c0_2] 25 (0, 0)) z12_0 hb); have n1_ := Aside0.mk (below_step (by repeat (first | (with_reducible first | exact HB.out | apply below_alloc | apply pw_below_drewN | apply below_drew1 | refine below_set ?_ GE124.out) | exact HB.out)) hb); have n2_ := Aside0.mk (hbox); have n3_ := Aside0.mk ((by rw [hg]; exact (below_size (by repeat (first | (with_reducible first | exact HB.out | apply below_alloc | apply pw_below_drewN | apply below_drew1 | refine below_set ?_ GE124.out) | exact HB.out))) : w.heap.size ≤ gb125)); have n4_ := n3_; have n5_ := Aside0.mk ((by rw [hg]; exact Nat.ne_of_lt (blk_lt (g := gb124) (o := .cells #[.int .i64 a0_0, .slice A0_1 l0_1.length c0_1, .slice A0_2 l0_2.length c0_2] 25 (0, 0)) z12_0) : gb124 ≠ gb125)); have n6_ := Aside0.mk (Ne.symm n5_.out); clear BK124; clear HB; have BK124 := n0_; have HB := n1_; have BK125 := n2_; have GW125 := n3_; have GE125 := n4_; have NB124_125 := n5_; have NB125_124 := n6_; clear n0_ n1_ n2_ n3_ n4_ n5_ n6_; clear hb hbox hg; have hnb7 := NB124_125.out; have hnc7 := NB125_124.out; have hcz8_0 : w6.cell? ⟨gb124, 0, none⟩ = some (.int .i64 a0_0) := (blk_cell BK124.out 0).trans rfl; have hcz8_1 : w6.cell? ⟨gb124, 1, none⟩ = some (.slice A0_1 l0_1.length c0_1) := (blk_cell BK124.out 1).trans rfl; have hcz8_2 : w6.cell? ⟨gb124, 2, none⟩ = some (.slice A0_2 l0_2.length c0_2) := (blk_cell BK124.out 2).trans rfl; have hfz8_0 := blk_frozen BK124.out 0; have hfz8_1 := blk_frozen BK124.out 1; have hfz8_2 := blk_frozen BK124.out 2) | ((with_reducible refine gate_callee (f := 35) rfl ?_); refine goesL_ (some 7) rfl rfl Tryd.func35 (by kernel_rfl) rfl #[.agg #[.int .i64 a0_0, .slice A0_1 l0_1.length c0_1, .slice A0_2 l0_2.length c0_2], .int .i64 200] rfl z12_6 ?_; (with_reducible refine (ir_Right.calls a0_0 _ _ l0_1 _ _ l0_2 200 true _ ?side1 ?side2 ?side3 ?side4 ?side5 A2.out).mono ?_); (case side1 => repeat (first | exact (Kd.C_below HR0_1.out HB.out) | (with_reducible refine Kd.C_alloc ?_ _) | (with_reducible refine Kd.C_drewN ?_ _) | (with_reducible refine Kd.C_drew ?_))); (case side2 => exact HC0_1.out); (case side3 => repeat (first | exact (Kd.C_below HR0_2.out HB.out) | (with_reducible refine Kd.C_alloc ?_ _) | (with_reducible refine Kd.C_drewN ?_ _) | (with_reducible refine Kd.C_drew ?_))); (case side4 => exact HC0_2.out); (case side5 => first | exact HG.out | ((repeat (first | exact (OpsLaid.below HG.out (Nat.le_refl _) HB.out) | exact HG.out | (with_reducible refine OpsLaid.alloc ?_ _) | (with_reducible refine OpsLaid.drewN ?_ _) | (with_reducible refine OpsLaid.drew ?_))); done) | exact OpsLaid.below HG.out (Nat.le_refl _) z12_1); rintro e w9 ⟨rfl, hb⟩; refine ⟨_, rfl, ?_⟩; have n0_ := Aside0.mk (blk_below (g := gb124) (o := .cells #[.int .i64 a0_0, .slice A0_1 l0_1.length c0_1, .slice A0_2 l0_2.length c0_2] 25 (0, 0)) z12_0 hb); have n1_ := Aside0.mk (blk_below (g := gb125) (o := .cells #[.int .i64 0, .slice none 0 0, .slice none 0 0] 25 (0, 0)) z12_2 hb); have n2_ := Aside0.mk (below_step z12_1 hb); clear BK124; clear BK125; clear HB; have BK124 := n0_; have BK125 := n1_; have HB := n2_; clear n0_ n1_ n2_; (try clear hb); (try clear hb2); (try clear hk); (try clear hi)))
  have n0_ := Aside0.mk (blk_drew BK124.out)
  have n1_ := Aside0.mk (blk_drew BK125.out)
  have n2_ := Aside0.mk (below_drew1 HB.out)
  clear BK124
  clear BK125
  clear HB
  have BK124 := n0_
  have BK125 := n1_
  have HB := n2_
  clear n0_ n1_ n2_
  refine start_ (n := 8) (S := fun w' => w'.cell? ⟨gb124, 0, none⟩ = some (.int .i64 a0_0) ∧ w'.cell? ⟨gb124, 1, none⟩ = some (.slice A0_1 l0_1.length c0_1) ∧ w'.cell? ⟨gb124, 2, none⟩ = some (.slice A0_2 l0_2.length c0_2)) (ds := []) (mk_ 8 0) (by kernel_rfl) rfl rfl ⟨(blk_cell BK124.out 0).trans rfl, (blk_cell BK124.out 1).trans rfl, (blk_cell BK124.out 2).trans rfl⟩ (fun hHeld => ?_); refine with_tabW reload_Reuse.tab3 reload_Reuse.bits3 (fun HT_ HW_ => ?_)
  generalize w9.drew = w10 at BK124 BK125 HB hHeld ⊢
  refine pI (i := 0) (N := some 10) (mk_ 8 1) ?_
  refine pI (i := 2) (N := some 12) (mk_ 8 5) ?_
  refine tI3 (i := 1) (N := some 11) (mk_ 8 7) ?_
  refine tI3 (i := 3) (N := some 13) (mk_ 8 15) ?_
  refine join_ (σ := Value × Nat) 1 (mk_ 8 127) (fun s_ => [(14, s_.1), (3, .pointer (some ⟨s_.2, 0, none⟩)), (15, .agg #[.int .i64 a0_0, s_.1, .slice none 0 0])]) (fun s_ w' => (w'.cell? ⟨gb124, 0, none⟩ = some (.int .i64 a0_0) ∧ w'.cell? ⟨gb124, 1, none⟩ = some (.slice A0_1 l0_1.length c0_1) ∧ w'.cell? ⟨gb124, 2, none⟩ = some (.slice A0_2 l0_2.length c0_2)) ∧ (Kd.R (Kd.int .i64) 3 w' w.heap.size (fun _ => True) s_.1 t127) ∧ (w'.heap[gb124]? = some (.cells #[.int .i64 a0_0, .slice A0_1 l0_1.length c0_1, .slice A0_2 l0_2.length c0_2] 25 (0, 0))) ∧ (w'.heap[gb125]? = some (.cells #[.int .i64 0, .slice none 0 0, .slice none 0 0] 25 (0, 0))) ∧ (w'.heap[s_.2]? = some (.cells #[.int .i64 0, .slice none 0 0, .slice none 0 0] 25 (0, 0))) ∧ (w.heap.size ≤ s_.2) ∧ (w.heap.size ≤ s_.2) ∧ (gb124 ≠ s_.2) ∧ (s_.2 ≠ gb124) ∧ (gb125 ≠ s_.2) ∧ (s_.2 ≠ gb125) ∧ (Below w.heap.size w w')) ?_ ?_
  rotate_left
  ·intro hCont
   refine two_ (i := 4) (j := 6) (Ni := some 14) (Nj := some 3) (mk_ 8 31) (mk_ 8 79) rfl rfl rfl rfl (two_of HT_.out (by kernel_rfl)) (by decide) (by decide) (fun K hK => ?_) (fun K hK => ?_)
   ·skip
    refine goes_ Tryd.func36 (by kernel_rfl) rfl #[.slice A0_1 l0_1.length c0_1] (by rfl) rfl rfl z12_6 ?_
    with_reducible refine (slices_Clone_int_int.calls _ _ l0_1 t127 _ ?side1 ?side2 A4.out).mono ?_
    (case side1 => repeat (first | exact (Kd.C_below HR0_1.out HB.out) | (with_reducible refine Kd.C_alloc ?_ _) | (with_reducible refine Kd.C_drewN ?_ _) | (with_reducible refine Kd.C_drew ?_)))
    (case side2 => exact HC0_1.out)
    rintro e w11 ⟨v128, rfl, ho0, hb⟩
    refine ⟨_, rfl, ?_⟩
    have n0_ := Aside0.mk (Kd.R_lower ho0 (below_size z12_1))
    have n1_ := Aside0.mk (blk_below (g := gb124) (o := .cells #[.int .i64 a0_0, .slice A0_1 l0_1.length c0_1, .slice A0_2 l0_2.length c0_2] 25 (0, 0)) z12_0 hb)
    have n2_ := Aside0.mk (blk_below (g := gb125) (o := .cells #[.int .i64 0, .slice none 0 0, .slice none 0 0] 25 (0, 0)) z12_2 hb)
    have n3_ := Aside0.mk (below_step z12_1 hb)
    clear BK124
    clear BK125
    clear HB
    have HO129 := n0_
    have BK124 := n1_
    have BK125 := n2_
    have HB := n3_
    clear n0_ n1_ n2_ n3_
    (try clear hb)
    (try clear hb2)
    (try clear hk)
    (try clear hi)
    (try clear ho0)
    obtain ⟨Ao12, co12, eo12⟩ := Kd.R_slice HO129.out
    (first | subst eo12 | (injection eo12 with f1_ f2_ f3_; have f4_ := f1_.symm; have f5_ := f3_.symm; clear f1_ f2_ f3_; subst f4_; subst f5_))
    refine hK.out _ _ ⟨(blk_cell BK124.out 0).trans rfl, (blk_cell BK124.out 1).trans rfl, (blk_cell BK124.out 2).trans rfl⟩ (fun hHeld => ?_)
    clear hK K
    refine norm_ (a' := ?_) ?_ ?_
    rotate_left
    ·show Act.put _ (some 14) _ = _
     go_frame <;> try simp only [i64_w, i32_w]
     rfl
    refine pI (i := 5) (N := some 15) (mk_ 8 63) ?_
    refine one_ (i := 6) (N := some 3) (mk_ 8 127) rfl rfl (one_of HT_.out (by kernel_rfl)) (by decide) (fun K hK => ?_)
    refine box_step ?hg (N := 3) ?hd (cs := #[.int .i64 0, .slice none 0 0, .slice none 0 0]) (t := 25) ?hr ?_; (case hd => rfl); (case hg => rfl); (case hr => first | (go_simp; done) | (go_simp; rfl))
    intro gb130 hg w13 hbox hb
    have n0_ := Aside0.mk (Kd.R_below (by (with_reducible repeat (first | apply Kd.R_alloc | apply Kd.R_drewN | apply Kd.R_drew)); exact HO129.out) hb)
    have n1_ := Aside0.mk (blk_below (g := gb124) (o := .cells #[.int .i64 a0_0, .slice A0_1 l0_1.length c0_1, .slice A0_2 l0_2.length c0_2] 25 (0, 0)) z12_0 hb)
    have n2_ := Aside0.mk (blk_below (g := gb125) (o := .cells #[.int .i64 0, .slice none 0 0, .slice none 0 0] 25 (0, 0)) z12_2 hb)
    have n3_ := Aside0.mk (below_step z12_1 hb)
    have n4_ := Aside0.mk (hbox)
    have n5_ := Aside0.mk ((by rw [hg]; exact (below_size z12_1) : w.heap.size ≤ gb130))
    have n6_ := Aside0.mk ((by rw [hg]; exact (below_size z12_1) : w.heap.size ≤ gb130))
    have n7_ := Aside0.mk ((by rw [hg]; exact Nat.ne_of_lt (blk_lt (g := gb124) (o := .cells #[.int .i64 a0_0, .slice A0_1 l0_1.length c0_1, .slice A0_2 l0_2.length c0_2] 25 (0, 0)) z12_0) : gb124 ≠ gb130))
    have n8_ := Aside0.mk ((by rw [hg]; exact Nat.ne_of_gt (blk_lt (g := gb124) (o := .cells #[.int .i64 a0_0, .slice A0_1 l0_1.length c0_1, .slice A0_2 l0_2.length c0_2] 25 (0, 0)) z12_0) : gb130 ≠ gb124))
    have n9_ := Aside0.mk ((by rw [hg]; exact Nat.ne_of_lt (blk_lt (g := gb125) (o := .cells #[.int .i64 0, .slice none 0 0, .slice none 0 0] 25 (0, 0)) z12_2) : gb125 ≠ gb130))
    have n10_ := Aside0.mk ((by rw [hg]; exact Nat.ne_of_gt (blk_lt (g := gb125) (o := .cells #[.int .i64 0, .slice none 0 0, .slice none 0 0] 25 (0, 0)) z12_2) : gb130 ≠ gb125))
    clear HO129
    clear BK124
    clear BK125
    clear HB
    have HO129 := n0_
    have BK124 := n1_
    have BK125 := n2_
    have HB := n3_
    have BK130 := n4_
    have GW130 := n5_
    have GE130 := n6_
    have NB124_130 := n7_
    have NB130_124 := n8_
    have NB125_130 := n9_
    have NB130_125 := n10_
    clear n0_ n1_ n2_ n3_ n4_ n5_ n6_ n7_ n8_ n9_ n10_
    clear hb hbox hg
    refine hK.out _ _ ⟨(blk_cell BK124.out 0).trans rfl, (blk_cell BK124.out 1).trans rfl, (blk_cell BK124.out 2).trans rfl⟩ (fun hHeld => ?_)
    clear hK K
    refine norm_ (a' := ?_) ?_ ?_
    rotate_left
    ·show Act.put _ (some 3) _ = _
     go_frame <;> try simp only [i64_w, i32_w]
     rfl
    exact norm_ (by simp only [putAll, Act.put, List.setIfInBounds_toArray, List.set_cons_zero, List.set_cons_succ]) (hCont (.slice Ao12 t127.length co12, gb130) _ ⟨hHeld, (by (with_reducible repeat (first | apply Kd.R_alloc | apply Kd.R_drewN | apply Kd.R_drew)); exact HO129.out), z12_0, z12_2, z12_5, GW130.out, GE130.out, NB124_130.out, NB130_124.out, NB125_130.out, NB130_125.out, z12_3⟩)
   ·skip
    refine box_step ?hg (N := 3) ?hd (cs := #[.int .i64 0, .slice none 0 0, .slice none 0 0]) (t := 25) ?hr ?_; (case hd => rfl); (case hg => rfl); (case hr => first | (go_simp; done) | (go_simp; rfl))
    intro gb130 hg w11 hbox hb
    have n0_ := Aside0.mk (blk_below (g := gb124) (o := .cells #[.int .i64 a0_0, .slice A0_1 l0_1.length c0_1, .slice A0_2 l0_2.length c0_2] 25 (0, 0)) z12_0 hb)
    have n1_ := Aside0.mk (blk_below (g := gb125) (o := .cells #[.int .i64 0, .slice none 0 0, .slice none 0 0] 25 (0, 0)) z12_2 hb)
    have n2_ := Aside0.mk (below_step z12_1 hb)
    have n3_ := Aside0.mk (hbox)
    have n4_ := Aside0.mk ((by rw [hg]; exact (below_size z12_1) : w.heap.size ≤ gb130))
    have n5_ := Aside0.mk ((by rw [hg]; exact (below_size z12_1) : w.heap.size ≤ gb130))
    have n6_ := Aside0.mk ((by rw [hg]; exact Nat.ne_of_lt (blk_lt (g := gb124) (o := .cells #[.int .i64 a0_0, .slice A0_1 l0_1.length c0_1, .slice A0_2 l0_2.length c0_2] 25 (0, 0)) z12_0) : gb124 ≠ gb130))
    have n7_ := Aside0.mk ((by rw [hg]; exact Nat.ne_of_gt (blk_lt (g := gb124) (o := .cells #[.int .i64 a0_0, .slice A0_1 l0_1.length c0_1, .slice A0_2 l0_2.length c0_2] 25 (0, 0)) z12_0) : gb130 ≠ gb124))
    have n8_ := Aside0.mk ((by rw [hg]; exact Nat.ne_of_lt (blk_lt (g := gb125) (o := .cells #[.int .i64 0, .slice none 0 0, .slice none 0 0] 25 (0, 0)) z12_2) : gb125 ≠ gb130))
    have n9_ := Aside0.mk ((by rw [hg]; exact Nat.ne_of_gt (blk_lt (g := gb125) (o := .cells #[.int .i64 0, .slice none 0 0, .slice none 0 0] 25 (0, 0)) z12_2) : gb130 ≠ gb125))
    clear BK124
    clear BK125
    clear HB
    have BK124 := n0_
    have BK125 := n1_
    have HB := n2_
    have BK130 := n3_
    have GW130 := n4_
    have GE130 := n5_
    have NB124_130 := n6_
    have NB130_124 := n7_
    have NB125_130 := n8_
    have NB130_125 := n9_
    clear n0_ n1_ n2_ n3_ n4_ n5_ n6_ n7_ n8_ n9_
    clear hb hbox hg
    refine hK.out _ _ ⟨(blk_cell BK124.out 0).trans rfl, (blk_cell BK124.out 1).trans rfl, (blk_cell BK124.out 2).trans rfl⟩ (fun hHeld => ?_)
    clear hK K
    refine norm_ (a' := ?_) ?_ ?_
    rotate_left
    ·show Act.put _ (some 3) _ = _
     go_frame <;> try simp only [i64_w, i32_w]
     rfl
    refine one_ (i := 4) (N := some 14) (mk_ 8 95) rfl rfl (one_of HT_.out (by kernel_rfl)) (by decide) (fun K hK => ?_)
    refine goes_ Tryd.func36 (by kernel_rfl) rfl #[.slice A0_1 l0_1.length c0_1] (by rfl) rfl rfl z12_6 ?_
    with_reducible refine (slices_Clone_int_int.calls _ _ l0_1 t127 _ ?side1 ?side2 A4.out).mono ?_
    (case side1 => repeat (first | exact (Kd.C_below HR0_1.out HB.out) | (with_reducible refine Kd.C_alloc ?_ _) | (with_reducible refine Kd.C_drewN ?_ _) | (with_reducible refine Kd.C_drew ?_)))
    (case side2 => exact HC0_1.out)
    rintro e w12 ⟨v128, rfl, ho0, hb⟩
    refine ⟨_, rfl, ?_⟩
    have n0_ := Aside0.mk (Kd.R_lower ho0 (below_size z12_3))
    have n1_ := Aside0.mk (blk_below (g := gb124) (o := .cells #[.int .i64 a0_0, .slice A0_1 l0_1.length c0_1, .slice A0_2 l0_2.length c0_2] 25 (0, 0)) z12_0 hb)
    have n2_ := Aside0.mk (blk_below (g := gb125) (o := .cells #[.int .i64 0, .slice none 0 0, .slice none 0 0] 25 (0, 0)) z12_2 hb)
    have n3_ := Aside0.mk (blk_below (g := gb130) (o := .cells #[.int .i64 0, .slice none 0 0, .slice none 0 0] 25 (0, 0)) z12_5 hb)
    have n4_ := Aside0.mk (below_step z12_3 hb)
    clear BK124
    clear BK125
    clear BK130
    clear HB
    have HO129 := n0_
    have BK124 := n1_
    have BK125 := n2_
    have BK130 := n3_
    have HB := n4_
    clear n0_ n1_ n2_ n3_ n4_
    (try clear hb)
    (try clear hb2)
    (try clear hk)
    (try clear hi)
    (try clear ho0)
    obtain ⟨Ao13, co13, eo13⟩ := Kd.R_slice HO129.out
    (first | subst eo13 | (injection eo13 with f1_ f2_ f3_; have f4_ := f1_.symm; have f5_ := f3_.symm; clear f1_ f2_ f3_; subst f4_; subst f5_))
    refine hK.out _ _ ⟨(blk_cell BK124.out 0).trans rfl, (blk_cell BK124.out 1).trans rfl, (blk_cell BK124.out 2).trans rfl⟩ (fun hHeld => ?_)
    clear hK K
    refine norm_ (a' := ?_) ?_ ?_
    rotate_left
    ·show Act.put _ (some 14) _ = _
     go_frame <;> try simp only [i64_w, i32_w]
     rfl
    refine pI (i := 5) (N := some 15) (mk_ 8 127) ?_
    exact norm_ (by simp only [putAll, Act.put, List.setIfInBounds_toArray, List.set_cons_zero, List.set_cons_succ]) (hCont (.slice Ao13 t127.length co13, gb130) _ ⟨hHeld, (by (with_reducible repeat (first | apply Kd.R_alloc | apply Kd.R_drewN | apply Kd.R_drew)); exact HO129.out), z12_0, z12_2, z12_5, GW130.out, GE130.out, NB124_130.out, NB130_124.out, NB125_130.out, NB130_125.out, z12_3⟩)
  rintro ⟨v128, gb130⟩ w14 ⟨hS_, h0_, h1_, h2_, h3_, h4_, h5_, h6_, h7_, h8_, h9_, h10_⟩
  have n0_ : Aside0 (Kd.R (Kd.int .i64) 3 w14 w.heap.size (fun _ => True) v128 t127) := ⟨h0_⟩
  have n1_ : Aside0 (w14.heap[gb124]? = some (.cells #[.int .i64 a0_0, .slice A0_1 l0_1.length c0_1, .slice A0_2 l0_2.length c0_2] 25 (0, 0))) := ⟨h1_⟩
  have n2_ : Aside0 (w14.heap[gb125]? = some (.cells #[.int .i64 0, .slice none 0 0, .slice none 0 0] 25 (0, 0))) := ⟨h2_⟩
  have n3_ : Aside0 (w14.heap[gb130]? = some (.cells #[.int .i64 0, .slice none 0 0, .slice none 0 0] 25 (0, 0))) := ⟨h3_⟩
  have n4_ : Aside0 (w.heap.size ≤ gb130) := ⟨h4_⟩
  have n5_ : Aside0 (w.heap.size ≤ gb130) := ⟨h5_⟩
  have n6_ : Aside0 (gb124 ≠ gb130) := ⟨h6_⟩
  have n7_ : Aside0 (gb130 ≠ gb124) := ⟨h7_⟩
  have n8_ : Aside0 (gb125 ≠ gb130) := ⟨h8_⟩
  have n9_ : Aside0 (gb130 ≠ gb125) := ⟨h9_⟩
  have n10_ : Aside0 (Below w.heap.size w w14) := ⟨h10_⟩
  clear BK124
  clear BK125
  clear HB
  clear h0_ h1_ h2_ h3_ h4_ h5_ h6_ h7_ h8_ h9_ h10_
  have HO129 := n0_
  have BK124 := n1_
  have BK125 := n2_
  have BK130 := n3_
  have GW130 := n4_
  have GE130 := n5_
  have NB124_130 := n6_
  have NB130_124 := n7_
  have NB125_130 := n8_
  have NB130_125 := n9_
  have HB := n10_
  clear n0_ n1_ n2_ n3_ n4_ n5_ n6_ n7_ n8_ n9_ n10_
  have hHeld : w14.cell? ⟨gb124, 0, none⟩ = some (.int .i64 a0_0) ∧ w14.cell? ⟨gb124, 1, none⟩ = some (.slice A0_1 l0_1.length c0_1) ∧ w14.cell? ⟨gb124, 2, none⟩ = some (.slice A0_2 l0_2.length c0_2) := hS_
  obtain ⟨Ao15, co15, eo15⟩ := Kd.R_slice HO129.out
  (first | subst eo15 | (injection eo15 with f1_ f2_ f3_; have f4_ := f1_.symm; have f5_ := f3_.symm; clear f1_ f2_ f3_; subst f4_; subst f5_))
  refine norm_ (a' := ?_) ?_ ?_
  rotate_left
  ·simp only [putAll, Act.put, List.setIfInBounds_toArray, List.set_cons_zero, List.set_cons_succ]
   rfl
  refine one_ (i := 7) (N := none) (mk_ 8 255) rfl rfl (one_of HT_.out (by kernel_rfl)) (by decide) (fun K hK => ?_)
  have hs16 : w14.cell? ⟨gb130, 0, none⟩ = some (.int .i64 0) := (blk_cell BK130.out 0).trans rfl
  have hfs16 := blk_frozen BK130.out 0
  have hns16_0 := NB124_130.out
  have hns16_1 := NB125_130.out
  have hms16_0 := NB130_124.out
  have hms16_1 := NB130_125.out
  have hs17 : w14.cell? ⟨gb130, 1, none⟩ = some (.slice none 0 0) := (blk_cell BK130.out 1).trans rfl
  have hfs17 := blk_frozen BK130.out 1
  have hns17_0 := NB124_130.out
  have hns17_1 := NB125_130.out
  have hms17_0 := NB130_124.out
  have hms17_1 := NB130_125.out
  have hs18 : w14.cell? ⟨gb130, 2, none⟩ = some (.slice none 0 0) := (blk_cell BK130.out 2).trans rfl
  have hfs18 := blk_frozen BK130.out 2
  have hns18_0 := NB124_130.out
  have hns18_1 := NB125_130.out
  have hms18_0 := NB130_124.out
  have hms18_1 := NB130_125.out
  refine skip_ (w1 := ?_) (by rfl) rfl ?_ ?_
  rotate_left
  ·go_simp
   rfl
  refine hK.out _ _ ⟨(cF NB124_130.out ((cF NB124_130.out ((cF NB124_130.out (hHeld.1)))))), (cF NB124_130.out ((cF NB124_130.out ((cF NB124_130.out (hHeld.2.1)))))), (cF NB124_130.out ((cF NB124_130.out ((cF NB124_130.out (hHeld.2.2))))))⟩ (fun hHeld => ?_)
  clear hK K
  refine done_ (done_of HT_.out (by kernel_rfl)) ?_
  have hnb19 := NB124_130.out
  have hnc19 := NB130_124.out
  obtain ⟨hcz20_0, hcz20_1, hcz20_2⟩ := bC3 BK124.out
  obtain ⟨hfz20_0, hfz20_1, hfz20_2⟩ := bF3 BK124.out
  try go_wp2
  go_loopg [19] k (fun kq v19 w' => ∃ (x19_1 : Int) (x131002_1 : List (S36)) (u131002 : Value), v19 = .int .i64 x19_1 ∧ Aside0 (reload_Reuse.l0 kq l0_2 (l0_2.length : Int) x19_1 a0_0 t127 x131002_1 = some (r1, r2, r3)) ∧ Aside0 (kq ≤ k) ∧ Aside0 (Kd.R (Kd.int .i64) 3 w' w.heap.size (fun _ => True) (.slice Ao15 t127.length co15) t127) ∧ Aside0 (Kd.S k36 36 w' w.heap.size (fun _ => True) u131002 x131002_1) ∧ Aside0 (w'.heap[gb124]? = some (.cells #[.int .i64 a0_0, (.slice A0_1 l0_1.length c0_1), (.slice A0_2 l0_2.length c0_2)] 25 (0, 0))) ∧ Aside0 (w'.heap[gb125]? = some (.cells #[.int .i64 0, (.slice none 0 0), (.slice none 0 0)] 25 (0, 0))) ∧ Aside0 (w'.heap[gb130]? = some (.cells #[.int .i64 a0_0, (.slice Ao15 t127.length co15), u131002] 25 (0, 0))) ∧ Aside0 (Below w.heap.size w w'))
  case atStart => exact ⟨(0), (([] : List (S36))), (.slice none 0 0), (by first | rfl | (simp; done) | (simp [*]; done)), H', ⟨Nat.le_refl _⟩, ⟨by (with_reducible repeat (first | apply Kd.R_alloc | apply Kd.R_drewN | apply Kd.R_drew)); exact Kd.R_mono (Kd.R_far (Kd.R_far (Kd.R_far (Kd.R_types HO129.out BK130.out (by decide)) (fun _ hk => hk.2) (.int .i64 a0_0)) (fun _ hk => hk.2) (.slice Ao15 t127.length co15)) (fun _ hk => hk.2) (.slice none 0 0)) (fun _ hk => trivial)⟩, ⟨by first | exact Kd.S_nil _ _ _ _ _ | exact Kd.N_nil _ _ _ _ _ | exact Kd.V_nil _ _ _ _ _ | exact Kd.Q_nil _ _ _ _ _ | exact Kd.R_nil _ _ _ _ _⟩, ⟨by (with_reducible repeat (first | refine blk_drewN ?_ _ | refine blk_drew ?_ | refine blk_alloc ?_ _)); refine blk_far ?_ NB124_130.out _; (with_reducible repeat (first | refine blk_drewN ?_ _ | refine blk_drew ?_ | refine blk_alloc ?_ _)); refine blk_far ?_ NB124_130.out _; (with_reducible repeat (first | refine blk_drewN ?_ _ | refine blk_drew ?_ | refine blk_alloc ?_ _)); refine blk_far ?_ NB124_130.out _; (with_reducible repeat (first | refine blk_drewN ?_ _ | refine blk_drew ?_ | refine blk_alloc ?_ _)); exact BK124.out⟩, ⟨by (with_reducible repeat (first | refine blk_drewN ?_ _ | refine blk_drew ?_ | refine blk_alloc ?_ _)); refine blk_far ?_ NB125_130.out _; (with_reducible repeat (first | refine blk_drewN ?_ _ | refine blk_drew ?_ | refine blk_alloc ?_ _)); refine blk_far ?_ NB125_130.out _; (with_reducible repeat (first | refine blk_drewN ?_ _ | refine blk_drew ?_ | refine blk_alloc ?_ _)); refine blk_far ?_ NB125_130.out _; (with_reducible repeat (first | refine blk_drewN ?_ _ | refine blk_drew ?_ | refine blk_alloc ?_ _)); exact BK125.out⟩, ⟨by (with_reducible repeat (first | refine blk_drewN ?_ _ | refine blk_drew ?_ | refine blk_alloc ?_ _)); refine blk_put (cs := #[.int .i64 a0_0, .slice Ao15 t127.length co15, .slice none 0 0]) ?_ 2 _ rfl; (with_reducible repeat (first | refine blk_drewN ?_ _ | refine blk_drew ?_ | refine blk_alloc ?_ _)); refine blk_put (cs := #[.int .i64 a0_0, .slice none 0 0, .slice none 0 0]) ?_ 1 _ rfl; (with_reducible repeat (first | refine blk_drewN ?_ _ | refine blk_drew ?_ | refine blk_alloc ?_ _)); refine blk_put (cs := #[.int .i64 0, .slice none 0 0, .slice none 0 0]) ?_ 0 _ rfl; (with_reducible repeat (first | refine blk_drewN ?_ _ | refine blk_drew ?_ | refine blk_alloc ?_ _)); exact BK130.out⟩, ⟨by repeat (first | (with_reducible first | exact HB.out | apply below_alloc | apply pw_below_drewN | apply below_drew1 | refine below_set ?_ GE124.out | refine below_set ?_ GE125.out | refine below_set ?_ GE130.out) | exact HB.out)⟩⟩
  case round =>
   clear H'
   try clear c3
   try clear hcz20_0
   try clear hcz20_1
   try clear hcz20_2
   try clear hcz8_0
   try clear hcz8_1
   try clear hcz8_2
   try clear hfz20_0
   try clear hfz20_1
   try clear hfz20_2
   try clear hfz8_0
   try clear hfz8_1
   try clear hfz8_2
   obtain ⟨x19_1, x131002_1, u131002, rfl, HA, HK1, HO_131001, HO_131002, BK124, BK125, BK130, HB⟩ := hrel
   cases gk with
   | zero => exact absurd HA.out (by simp [reload_Reuse.l0])
   | succ k1 =>
    have H := HA.out
    clear HA
    simp only [reload_Reuse.l0] at H
    by_cases c21 : x19_1 < (l0_2.length : Int)
    ·rw [if_pos c21] at H
     have c21b0 : decide (x19_1 < (l0_2.length : Int)) = true := decide_eq_true c21
     clear c21
     by_cases c22 : 0 ≤ x19_1
     ·rw [if_pos c22] at H
      have c22b0 : decide (0 ≤ x19_1) = true := decide_eq_true c22
      clear c22
      by_cases c23 : x19_1 < (l0_2.length : Int)
      ·rw [if_pos c23] at H
       have c23b0 : decide (x19_1 < (l0_2.length : Int)) = true := decide_eq_true c23
       clear c23
       replace H := Option.bind_eq_some_iff.mp H
       obtain ⟨⟨t133, t136, t137, t138, t139⟩, A240, H⟩ := H
       replace H : (if x131002_1.length < 2513169434916 then (reload_Reuse.l0 k1 l0_2 (l0_2.length : Int) (wrap64 (x19_1 + 1)) a0_0 t127 (x131002_1 ++ [(⟨t133, (⟨t136, t137, t138, t139⟩ : S34)⟩ : S36)])) else (none)) = some (r1, r2, r3) := H
       have A24 := Aside0.mk A240
       clear A240
       by_cases c25 : x131002_1.length < 2513169434916
       ·rw [if_pos c25] at H
        have LMc25 := Aside0.mk c25
        clear c25
        obtain ⟨y140, hy140⟩ : ∃ y_ : List (S36), y_ = (x131002_1 ++ [(⟨t133, (⟨t136, t137, t138, t139⟩ : S34)⟩ : S36)]) := ⟨_, rfl⟩
        replace H : (reload_Reuse.l0 k1 l0_2 (l0_2.length : Int) (wrap64 (x19_1 + 1)) a0_0 t127 y140) = some (r1, r2, r3) := by first | (rw [hy140]; with_reducible exact H) | (have H2_ := (Option.bind_some _ _).symm.trans H; rw [hy140]; with_reducible exact H2_) | (have H2_ := (Option.bind_some _ _).symm.trans H; with_reducible exact H2_) | with_reducible exact H | (rw [hy140]; exact H) | exact H
        have Ny140 := Aside0.mk hy140
        clear hy140
        have H' := Aside0.mk H
        clear H
        have p131 : 0 ≤ (x19_1 : Int) := of_decide_eq_true (by first | (with_reducible assumption) | assumption)
        have q131 : x19_1 < (l0_2.length : Int) := of_decide_eq_true (by first | (with_reducible assumption) | assumption)
        obtain ⟨ad131, A131_0, c131_0, e131, hx131_0, hx131_1, hx131_2, hx131_3, hx131_4, hl131_0, hi131_0⟩ := at_T36 HR0_2.out x19_1 p131 q131
        cases e131
        replace hx131_0 := (HB.out.cell (World.block_lt_of_cell? w _ hx131_0)).trans hx131_0
        replace hx131_1 := (HB.out.cell (World.block_lt_of_cell? w _ hx131_1)).trans hx131_1
        replace hx131_2 := (HB.out.cell (World.block_lt_of_cell? w _ hx131_2)).trans hx131_2
        replace hx131_3 := (HB.out.cell (World.block_lt_of_cell? w _ hx131_3)).trans hx131_3
        replace hx131_4 := (HB.out.cell (World.block_lt_of_cell? w _ hx131_4)).trans hx131_4
        have HR131_0 := Aside0.mk hi131_0
        have HC131_0 := Aside0.mk hl131_0
        clear hi131_0 hl131_0
        replace p131 := eq_true p131
        replace q131 := eq_true q131
        try go_wp2_with (first | ((with_reducible refine gate_dst (N := 5) rfl ?_); refine box_event ?hg (N := 5) ?hd (cs := #[.slice none 0 0, .int .i64 0, .int .i64 0, .int .i64 0, .int .i64 0]) (t := 36) ?hr ?_; (case hd => rfl); (case hg => rfl); (case hr => first | (go_simp; done) | (go_simp; rfl)); intro gb132 hg w26 hbox hb; have n0_ := Aside0.mk (Kd.R_below (by (with_reducible repeat (first | apply Kd.R_alloc | apply Kd.R_drewN | apply Kd.R_drew)); exact HO_131001.out) hb); have n1_ := Aside0.mk (Kd.S_below (Kd.S_elderB (by (with_reducible repeat (first | apply Kd.S_alloc | apply Kd.S_drewN | apply Kd.S_drew)); exact HO_131002.out) gb132 (Nat.le_of_eq hg.symm)) hb); have n2_ := Aside0.mk (blk_below (g := gb124) (o := .cells #[.int .i64 a0_0, .slice A0_1 l0_1.length c0_1, .slice (some ad131) l0_2.length c0_2] 25 (0, 0)) z12_0 hb); have n3_ := Aside0.mk (blk_below (g := gb125) (o := .cells #[.int .i64 0, .slice none 0 0, .slice none 0 0] 25 (0, 0)) z12_2 hb); have n4_ := Aside0.mk (blk_below (g := gb130) (o := .cells #[.int .i64 a0_0, .slice Ao15 t127.length co15, u131002] 25 (0, 0)) z12_5 hb); have n5_ := Aside0.mk (below_step z12_3 hb); have n6_ := Aside0.mk (hbox); have n7_ := Aside0.mk ((by rw [hg]; exact (below_size z12_3) : w.heap.size ≤ gb132)); have n8_ := n7_; have n9_ := Aside0.mk ((by rw [hg]; exact Nat.ne_of_lt (blk_lt (g := gb124) (o := .cells #[.int .i64 a0_0, .slice A0_1 l0_1.length c0_1, .slice (some ad131) l0_2.length c0_2] 25 (0, 0)) z12_0) : gb124 ≠ gb132)); have n10_ := Aside0.mk (Ne.symm n9_.out); have n11_ := Aside0.mk ((by rw [hg]; exact Nat.ne_of_lt (blk_lt (g := gb125) (o := .cells #[.int .i64 0, .slice none 0 0, .slice none 0 0] 25 (0, 0)) z12_2) : gb125 ≠ gb132)); have n12_ := Aside0.mk (Ne.symm n11_.out); have n13_ := Aside0.mk ((by rw [hg]; exact Nat.ne_of_lt (blk_lt (g := gb130) (o := .cells #[.int .i64 a0_0, .slice Ao15 t127.length co15, u131002] 25 (0, 0)) z12_5) : gb130 ≠ gb132)); have n14_ := Aside0.mk (Ne.symm n13_.out); clear HO_131001; clear HO_131002; clear BK124; clear BK125; clear BK130; clear HB; have HO_131001 := n0_; have HO_131002 := n1_; have BK124 := n2_; have BK125 := n3_; have BK130 := n4_; have HB := n5_; have BK132 := n6_; have GW132 := n7_; have GE132 := n8_; have NB124_132 := n9_; have NB132_124 := n10_; have NB125_132 := n11_; have NB132_125 := n12_; have NB130_132 := n13_; have NB132_130 := n14_; clear n0_ n1_ n2_ n3_ n4_ n5_ n6_ n7_ n8_ n9_ n10_ n11_ n12_ n13_ n14_; clear hb hbox hg; have hnb27 := NB132_124.out; have hnc27 := NB124_132.out; have hnb28 := NB132_125.out; have hnc28 := NB125_132.out; have hnb29 := NB132_130.out; have hnc29 := NB130_132.out; have hcz30_0 : w26.cell? ⟨gb132, 0, none⟩ = some (.slice none 0 0) := (blk_cell BK132.out 0).trans rfl; have hcz30_1 : w26.cell? ⟨gb132, 1, none⟩ = some (.int .i64 0) := (blk_cell BK132.out 1).trans rfl; have hcz30_2 : w26.cell? ⟨gb132, 2, none⟩ = some (.int .i64 0) := (blk_cell BK132.out 2).trans rfl; have hcz30_3 : w26.cell? ⟨gb132, 3, none⟩ = some (.int .i64 0) := (blk_cell BK132.out 3).trans rfl; have hcz30_4 : w26.cell? ⟨gb132, 4, none⟩ = some (.int .i64 0) := (blk_cell BK132.out 4).trans rfl; have hfz30_0 := blk_frozen BK132.out 0; have hfz30_1 := blk_frozen BK132.out 1; have hfz30_2 := blk_frozen BK132.out 2; have hfz30_3 := blk_frozen BK132.out 3; have hfz30_4 := blk_frozen BK132.out 4))
        have n0_ : Aside0 (Kd.R (Kd.int .i64) 3 (((((w26.setCell ⟨gb132, 0, none⟩ (.slice A131_0 ((rd_T36 l0_2 x19_1).f0).length c131_0)).setCell ⟨gb132, 1, none⟩ (.int .i64 ((rd_T36 l0_2 x19_1).f1.f0))).setCell ⟨gb132, 2, none⟩ (.int .i64 ((rd_T36 l0_2 x19_1).f1.f1))).setCell ⟨gb132, 3, none⟩ (.int .i64 ((rd_T36 l0_2 x19_1).f1.f2))).setCell ⟨gb132, 4, none⟩ (.int .i64 ((rd_T36 l0_2 x19_1).f1.f3))) w.heap.size (fun _ => True) (.slice Ao15 t127.length co15) t127) := ⟨by (with_reducible repeat (first | apply Kd.R_alloc | apply Kd.R_drewN | apply Kd.R_drew)); exact Kd.R_mono (Kd.R_far (Kd.R_far (Kd.R_far (Kd.R_far (Kd.R_far (Kd.R_types HO_131001.out BK132.out (by decide)) (fun _ hk => hk.2) (.slice A131_0 ((rd_T36 l0_2 x19_1).f0).length c131_0)) (fun _ hk => hk.2) (.int .i64 ((rd_T36 l0_2 x19_1).f1.f0))) (fun _ hk => hk.2) (.int .i64 ((rd_T36 l0_2 x19_1).f1.f1))) (fun _ hk => hk.2) (.int .i64 ((rd_T36 l0_2 x19_1).f1.f2))) (fun _ hk => hk.2) (.int .i64 ((rd_T36 l0_2 x19_1).f1.f3))) (fun _ hk => trivial)⟩
        have n1_ : Aside0 (Kd.S k36 36 (((((w26.setCell ⟨gb132, 0, none⟩ (.slice A131_0 ((rd_T36 l0_2 x19_1).f0).length c131_0)).setCell ⟨gb132, 1, none⟩ (.int .i64 ((rd_T36 l0_2 x19_1).f1.f0))).setCell ⟨gb132, 2, none⟩ (.int .i64 ((rd_T36 l0_2 x19_1).f1.f1))).setCell ⟨gb132, 3, none⟩ (.int .i64 ((rd_T36 l0_2 x19_1).f1.f2))).setCell ⟨gb132, 4, none⟩ (.int .i64 ((rd_T36 l0_2 x19_1).f1.f3))) w.heap.size (fun k_ => k_ ≠ gb132) u131002 x131002_1) := ⟨by (with_reducible repeat (first | apply Kd.S_alloc | apply Kd.S_drewN | apply Kd.S_drew)); exact Kd.S_mono (Kd.S_far (p := ⟨gb132, 4, none⟩) (Kd.S_far (p := ⟨gb132, 3, none⟩) (Kd.S_far (p := ⟨gb132, 2, none⟩) (Kd.S_far (p := ⟨gb132, 1, none⟩) (Kd.S_far (p := ⟨gb132, 0, none⟩) (Kd.S_mono HO_131002.out (fun k_ hk => (⟨hk, hk.2⟩ : _ ∧ k_ ≠ gb132))) (fun _ hk => hk.2) (.slice A131_0 ((rd_T36 l0_2 x19_1).f0).length c131_0)) (fun _ hk => hk.2) (.int .i64 ((rd_T36 l0_2 x19_1).f1.f0))) (fun _ hk => hk.2) (.int .i64 ((rd_T36 l0_2 x19_1).f1.f1))) (fun _ hk => hk.2) (.int .i64 ((rd_T36 l0_2 x19_1).f1.f2))) (fun _ hk => hk.2) (.int .i64 ((rd_T36 l0_2 x19_1).f1.f3))) (fun _ hk => hk.1.2)⟩
        have n2_ : Aside0 ((((((w26.setCell ⟨gb132, 0, none⟩ (.slice A131_0 ((rd_T36 l0_2 x19_1).f0).length c131_0)).setCell ⟨gb132, 1, none⟩ (.int .i64 ((rd_T36 l0_2 x19_1).f1.f0))).setCell ⟨gb132, 2, none⟩ (.int .i64 ((rd_T36 l0_2 x19_1).f1.f1))).setCell ⟨gb132, 3, none⟩ (.int .i64 ((rd_T36 l0_2 x19_1).f1.f2))).setCell ⟨gb132, 4, none⟩ (.int .i64 ((rd_T36 l0_2 x19_1).f1.f3))).heap[gb124]? = some (.cells #[.int .i64 a0_0, .slice A0_1 l0_1.length c0_1, .slice (some ad131) l0_2.length c0_2] 25 (0, 0))) := ⟨by (with_reducible repeat (first | refine blk_drewN ?_ _ | refine blk_drew ?_ | refine blk_alloc ?_ _)); refine blk_far ?_ NB124_132.out _; (with_reducible repeat (first | refine blk_drewN ?_ _ | refine blk_drew ?_ | refine blk_alloc ?_ _)); refine blk_far ?_ NB124_132.out _; (with_reducible repeat (first | refine blk_drewN ?_ _ | refine blk_drew ?_ | refine blk_alloc ?_ _)); refine blk_far ?_ NB124_132.out _; (with_reducible repeat (first | refine blk_drewN ?_ _ | refine blk_drew ?_ | refine blk_alloc ?_ _)); refine blk_far ?_ NB124_132.out _; (with_reducible repeat (first | refine blk_drewN ?_ _ | refine blk_drew ?_ | refine blk_alloc ?_ _)); refine blk_far ?_ NB124_132.out _; (with_reducible repeat (first | refine blk_drewN ?_ _ | refine blk_drew ?_ | refine blk_alloc ?_ _)); exact BK124.out⟩
        have n3_ : Aside0 ((((((w26.setCell ⟨gb132, 0, none⟩ (.slice A131_0 ((rd_T36 l0_2 x19_1).f0).length c131_0)).setCell ⟨gb132, 1, none⟩ (.int .i64 ((rd_T36 l0_2 x19_1).f1.f0))).setCell ⟨gb132, 2, none⟩ (.int .i64 ((rd_T36 l0_2 x19_1).f1.f1))).setCell ⟨gb132, 3, none⟩ (.int .i64 ((rd_T36 l0_2 x19_1).f1.f2))).setCell ⟨gb132, 4, none⟩ (.int .i64 ((rd_T36 l0_2 x19_1).f1.f3))).heap[gb125]? = some (.cells #[.int .i64 0, .slice none 0 0, .slice none 0 0] 25 (0, 0))) := ⟨by (with_reducible repeat (first | refine blk_drewN ?_ _ | refine blk_drew ?_ | refine blk_alloc ?_ _)); refine blk_far ?_ NB125_132.out _; (with_reducible repeat (first | refine blk_drewN ?_ _ | refine blk_drew ?_ | refine blk_alloc ?_ _)); refine blk_far ?_ NB125_132.out _; (with_reducible repeat (first | refine blk_drewN ?_ _ | refine blk_drew ?_ | refine blk_alloc ?_ _)); refine blk_far ?_ NB125_132.out _; (with_reducible repeat (first | refine blk_drewN ?_ _ | refine blk_drew ?_ | refine blk_alloc ?_ _)); refine blk_far ?_ NB125_132.out _; (with_reducible repeat (first | refine blk_drewN ?_ _ | refine blk_drew ?_ | refine blk_alloc ?_ _)); refine blk_far ?_ NB125_132.out _; (with_reducible repeat (first | refine blk_drewN ?_ _ | refine blk_drew ?_ | refine blk_alloc ?_ _)); exact BK125.out⟩
        have n4_ : Aside0 ((((((w26.setCell ⟨gb132, 0, none⟩ (.slice A131_0 ((rd_T36 l0_2 x19_1).f0).length c131_0)).setCell ⟨gb132, 1, none⟩ (.int .i64 ((rd_T36 l0_2 x19_1).f1.f0))).setCell ⟨gb132, 2, none⟩ (.int .i64 ((rd_T36 l0_2 x19_1).f1.f1))).setCell ⟨gb132, 3, none⟩ (.int .i64 ((rd_T36 l0_2 x19_1).f1.f2))).setCell ⟨gb132, 4, none⟩ (.int .i64 ((rd_T36 l0_2 x19_1).f1.f3))).heap[gb130]? = some (.cells #[.int .i64 a0_0, .slice Ao15 t127.length co15, u131002] 25 (0, 0))) := ⟨by (with_reducible repeat (first | refine blk_drewN ?_ _ | refine blk_drew ?_ | refine blk_alloc ?_ _)); refine blk_far ?_ NB130_132.out _; (with_reducible repeat (first | refine blk_drewN ?_ _ | refine blk_drew ?_ | refine blk_alloc ?_ _)); refine blk_far ?_ NB130_132.out _; (with_reducible repeat (first | refine blk_drewN ?_ _ | refine blk_drew ?_ | refine blk_alloc ?_ _)); refine blk_far ?_ NB130_132.out _; (with_reducible repeat (first | refine blk_drewN ?_ _ | refine blk_drew ?_ | refine blk_alloc ?_ _)); refine blk_far ?_ NB130_132.out _; (with_reducible repeat (first | refine blk_drewN ?_ _ | refine blk_drew ?_ | refine blk_alloc ?_ _)); refine blk_far ?_ NB130_132.out _; (with_reducible repeat (first | refine blk_drewN ?_ _ | refine blk_drew ?_ | refine blk_alloc ?_ _)); exact BK130.out⟩
        have n5_ : Aside0 ((((((w26.setCell ⟨gb132, 0, none⟩ (.slice A131_0 ((rd_T36 l0_2 x19_1).f0).length c131_0)).setCell ⟨gb132, 1, none⟩ (.int .i64 ((rd_T36 l0_2 x19_1).f1.f0))).setCell ⟨gb132, 2, none⟩ (.int .i64 ((rd_T36 l0_2 x19_1).f1.f1))).setCell ⟨gb132, 3, none⟩ (.int .i64 ((rd_T36 l0_2 x19_1).f1.f2))).setCell ⟨gb132, 4, none⟩ (.int .i64 ((rd_T36 l0_2 x19_1).f1.f3))).heap[gb132]? = some (.cells #[.slice A131_0 ((rd_T36 l0_2 x19_1).f0).length c131_0, .int .i64 ((rd_T36 l0_2 x19_1).f1.f0), .int .i64 ((rd_T36 l0_2 x19_1).f1.f1), .int .i64 ((rd_T36 l0_2 x19_1).f1.f2), .int .i64 ((rd_T36 l0_2 x19_1).f1.f3)] 36 (0, 0))) := ⟨by (with_reducible repeat (first | refine blk_drewN ?_ _ | refine blk_drew ?_ | refine blk_alloc ?_ _)); refine blk_put (cs := #[.slice A131_0 ((rd_T36 l0_2 x19_1).f0).length c131_0, .int .i64 ((rd_T36 l0_2 x19_1).f1.f0), .int .i64 ((rd_T36 l0_2 x19_1).f1.f1), .int .i64 ((rd_T36 l0_2 x19_1).f1.f2), .int .i64 0]) ?_ 4 _ rfl; (with_reducible repeat (first | refine blk_drewN ?_ _ | refine blk_drew ?_ | refine blk_alloc ?_ _)); refine blk_put (cs := #[.slice A131_0 ((rd_T36 l0_2 x19_1).f0).length c131_0, .int .i64 ((rd_T36 l0_2 x19_1).f1.f0), .int .i64 ((rd_T36 l0_2 x19_1).f1.f1), .int .i64 0, .int .i64 0]) ?_ 3 _ rfl; (with_reducible repeat (first | refine blk_drewN ?_ _ | refine blk_drew ?_ | refine blk_alloc ?_ _)); refine blk_put (cs := #[.slice A131_0 ((rd_T36 l0_2 x19_1).f0).length c131_0, .int .i64 ((rd_T36 l0_2 x19_1).f1.f0), .int .i64 0, .int .i64 0, .int .i64 0]) ?_ 2 _ rfl; (with_reducible repeat (first | refine blk_drewN ?_ _ | refine blk_drew ?_ | refine blk_alloc ?_ _)); refine blk_put (cs := #[.slice A131_0 ((rd_T36 l0_2 x19_1).f0).length c131_0, .int .i64 0, .int .i64 0, .int .i64 0, .int .i64 0]) ?_ 1 _ rfl; (with_reducible repeat (first | refine blk_drewN ?_ _ | refine blk_drew ?_ | refine blk_alloc ?_ _)); refine blk_put (cs := #[.slice none 0 0, .int .i64 0, .int .i64 0, .int .i64 0, .int .i64 0]) ?_ 0 _ rfl; (with_reducible repeat (first | refine blk_drewN ?_ _ | refine blk_drew ?_ | refine blk_alloc ?_ _)); exact BK132.out⟩
        have n6_ : Aside0 (Below w.heap.size w (((((w26.setCell ⟨gb132, 0, none⟩ (.slice A131_0 ((rd_T36 l0_2 x19_1).f0).length c131_0)).setCell ⟨gb132, 1, none⟩ (.int .i64 ((rd_T36 l0_2 x19_1).f1.f0))).setCell ⟨gb132, 2, none⟩ (.int .i64 ((rd_T36 l0_2 x19_1).f1.f1))).setCell ⟨gb132, 3, none⟩ (.int .i64 ((rd_T36 l0_2 x19_1).f1.f2))).setCell ⟨gb132, 4, none⟩ (.int .i64 ((rd_T36 l0_2 x19_1).f1.f3)))) := ⟨by repeat (first | (with_reducible first | exact HB.out | apply below_alloc | apply pw_below_drewN | apply below_drew1 | refine below_set ?_ GE124.out | refine below_set ?_ GE125.out | refine below_set ?_ GE130.out | refine below_set ?_ GE132.out) | exact HB.out)⟩
        (try clear HO_131001)
        (try clear HO_131002)
        (try clear BK124)
        (try clear BK125)
        (try clear BK130)
        (try clear BK132)
        (try clear HB)
        generalize (((((w26.setCell ⟨gb132, 0, none⟩ (.slice A131_0 ((rd_T36 l0_2 x19_1).f0).length c131_0)).setCell ⟨gb132, 1, none⟩ (.int .i64 ((rd_T36 l0_2 x19_1).f1.f0))).setCell ⟨gb132, 2, none⟩ (.int .i64 ((rd_T36 l0_2 x19_1).f1.f1))).setCell ⟨gb132, 3, none⟩ (.int .i64 ((rd_T36 l0_2 x19_1).f1.f2))).setCell ⟨gb132, 4, none⟩ (.int .i64 ((rd_T36 l0_2 x19_1).f1.f3))) = w31 at n0_ n1_ n2_ n3_ n4_ n5_ n6_ ⊢
        have HO_131001 := n0_
        have HO_131002 := n1_
        have BK124 := n2_
        have BK125 := n3_
        have BK130 := n4_
        have BK132 := n5_
        have HB := n6_
        clear n0_ n1_ n2_ n3_ n4_ n5_ n6_
        have n0_ := Aside0.mk (Kd.R_drew HO_131001.out)
        have n1_ := Aside0.mk (Kd.S_drew HO_131002.out)
        have n2_ := Aside0.mk (blk_drew BK124.out)
        have n3_ := Aside0.mk (blk_drew BK125.out)
        have n4_ := Aside0.mk (blk_drew BK130.out)
        have n5_ := Aside0.mk (blk_drew BK132.out)
        have n6_ := Aside0.mk (below_drew1 HB.out)
        clear HO_131001
        clear HO_131002
        clear BK124
        clear BK125
        clear BK130
        clear BK132
        clear HB
        have HO_131001 := n0_
        have HO_131002 := n1_
        have BK124 := n2_
        have BK125 := n3_
        have BK130 := n4_
        have BK132 := n5_
        have HB := n6_
        clear n0_ n1_ n2_ n3_ n4_ n5_ n6_
        refine start_ (n := 8) (S := fun w' => w'.cell? ⟨gb130, 0, none⟩ = some (.int .i64 a0_0) ∧ w'.cell? ⟨gb130, 1, none⟩ = some (.slice Ao15 t127.length co15) ∧ w'.cell? ⟨gb130, 2, none⟩ = some (u131002) ∧ w'.cell? ⟨gb132, 0, none⟩ = some (.slice A131_0 ((rd_T36 l0_2 x19_1).f0).length c131_0) ∧ w'.cell? ⟨gb132, 1, none⟩ = some (.int .i64 ((rd_T36 l0_2 x19_1).f1.f0)) ∧ w'.cell? ⟨gb132, 2, none⟩ = some (.int .i64 ((rd_T36 l0_2 x19_1).f1.f1)) ∧ w'.cell? ⟨gb132, 3, none⟩ = some (.int .i64 ((rd_T36 l0_2 x19_1).f1.f2)) ∧ w'.cell? ⟨gb132, 4, none⟩ = some (.int .i64 ((rd_T36 l0_2 x19_1).f1.f3))) (ds := [7]) (mk_ 8 0) (by kernel_rfl) rfl rfl ⟨(blk_cell BK130.out 0).trans rfl, (blk_cell BK130.out 1).trans rfl, (blk_cell BK130.out 2).trans rfl, (blk_cell BK132.out 0).trans rfl, (blk_cell BK132.out 1).trans rfl, (blk_cell BK132.out 2).trans rfl, (blk_cell BK132.out 3).trans rfl, (blk_cell BK132.out 4).trans rfl⟩ (fun hHeld => ?_); refine with_tabW reload_Reuse.tab7 reload_Reuse.bits7 (fun HT_ HW_ => ?_)
        generalize w31.drew = w32 at HO_131001 HO_131002 BK124 BK125 BK130 BK132 HB hHeld ⊢
        refine pI (i := 0) (N := some 23) (mk_ 8 1) ?_
        refine tI8 (i := 1) (N := some 24) (mk_ 8 3) ?_
        refine tI8 (i := 2) (N := some 25) (mk_ 8 7) ?_
        refine one_ (i := 3) (N := some 26) (mk_ 8 15) rfl rfl (one_of HT_.out (by kernel_rfl)) (by decide) (fun K hK => ?_)
        refine goes_ Tryd.func37 (by kernel_rfl) rfl #[.agg #[.slice A131_0 ((rd_T36 l0_2 x19_1).f0).length c131_0, .int .i64 ((rd_T36 l0_2 x19_1).f1.f0), .int .i64 ((rd_T36 l0_2 x19_1).f1.f1), .int .i64 ((rd_T36 l0_2 x19_1).f1.f2), .int .i64 ((rd_T36 l0_2 x19_1).f1.f3)]] (by rfl) rfl rfl z12_6 ?_
        with_reducible refine (reload_block.calls _ _ ((rd_T36 l0_2 x19_1).f0) ((rd_T36 l0_2 x19_1).f1.f0) ((rd_T36 l0_2 x19_1).f1.f1) ((rd_T36 l0_2 x19_1).f1.f2) ((rd_T36 l0_2 x19_1).f1.f3) t133 t136 t137 t138 t139 _ ?side1 ?side2 ?side3 A24.out).mono ?_
        (case side1 => repeat (first | exact (Kd.C_below HR131_0.out HB.out) | (with_reducible refine Kd.C_alloc ?_ _) | (with_reducible refine Kd.C_drewN ?_ _) | (with_reducible refine Kd.C_drew ?_)))
        (case side2 => exact HC131_0.out)
        (case side3 => first | exact HG.out | ((repeat (first | exact (OpsLaid.below HG.out (Nat.le_refl _) HB.out) | exact HG.out | (with_reducible refine OpsLaid.alloc ?_ _) | (with_reducible refine OpsLaid.drewN ?_ _) | (with_reducible refine OpsLaid.drew ?_))); done) | exact OpsLaid.below HG.out (Nat.le_refl _) z12_4)
        rintro e w33 ⟨v134, rfl, ho0, hb⟩
        refine ⟨_, rfl, ?_⟩
        have n0_ := Aside0.mk (Kd.R_below (by (with_reducible repeat (first | apply Kd.R_alloc | apply Kd.R_drewN | apply Kd.R_drew)); exact HO_131001.out) hb)
        have n1_ := Aside0.mk (Kd.S_elder' (by (with_reducible repeat (first | apply Kd.S_alloc | apply Kd.S_drewN | apply Kd.S_drew)); exact HO_131002.out) (Kd.R_base ho0) hb)
        have n2_ := Aside0.mk (Kd.R_lower ho0 (below_size z12_4))
        have n3_ := Aside0.mk (blk_below (g := gb124) (o := .cells #[.int .i64 a0_0, .slice A0_1 l0_1.length c0_1, .slice (some ad131) l0_2.length c0_2] 25 (0, 0)) z12_0 hb)
        have n4_ := Aside0.mk (blk_below (g := gb125) (o := .cells #[.int .i64 0, .slice none 0 0, .slice none 0 0] 25 (0, 0)) z12_2 hb)
        have n5_ := Aside0.mk (blk_below (g := gb130) (o := .cells #[.int .i64 a0_0, .slice Ao15 t127.length co15, u131002] 25 (0, 0)) z12_5 hb)
        have n6_ := Aside0.mk (blk_below (g := gb132) (o := .cells #[.slice A131_0 ((rd_T36 l0_2 x19_1).f0).length c131_0, .int .i64 ((rd_T36 l0_2 x19_1).f1.f0), .int .i64 ((rd_T36 l0_2 x19_1).f1.f1), .int .i64 ((rd_T36 l0_2 x19_1).f1.f2), .int .i64 ((rd_T36 l0_2 x19_1).f1.f3)] 36 (0, 0)) z12_7 hb)
        have n7_ := Aside0.mk (below_step z12_4 hb)
        clear HO_131001
        clear HO_131002
        clear BK124
        clear BK125
        clear BK130
        clear BK132
        clear HB
        have HO_131001 := n0_
        have HO_131002 := n1_
        have HO135 := n2_
        have BK124 := n3_
        have BK125 := n4_
        have BK130 := n5_
        have BK132 := n6_
        have HB := n7_
        clear n0_ n1_ n2_ n3_ n4_ n5_ n6_ n7_
        (try clear hb)
        (try clear hb2)
        (try clear hk)
        (try clear hi)
        (try clear ho0)
        obtain ⟨Ao35, co35, eo35⟩ := Kd.R_slice HO135.out
        (first | subst eo35 | (injection eo35 with f1_ f2_ f3_; have f4_ := f1_.symm; have f5_ := f3_.symm; clear f1_ f2_ f3_; subst f4_; subst f5_))
        refine hK.out _ _ ⟨(blk_cell BK130.out 0).trans rfl, (blk_cell BK130.out 1).trans rfl, (blk_cell BK130.out 2).trans rfl, (blk_cell BK132.out 0).trans rfl, (blk_cell BK132.out 1).trans rfl, (blk_cell BK132.out 2).trans rfl, (blk_cell BK132.out 3).trans rfl, (blk_cell BK132.out 4).trans rfl⟩ (fun hHeld => ?_)
        clear hK K
        refine norm_ (a' := ?_) ?_ ?_
        rotate_left
        ·show Act.put _ (some 26) _ = _
         go_frame <;> try simp only [i64_w, i32_w]
         rfl
        refine one_ (i := 4) (N := some 27) (mk_ 8 31) rfl rfl (one_of HT_.out (by kernel_rfl)) (by decide) (fun K hK => ?_)
        refine value_ (w1 := ?_) (v := ?_) (by rfl) rfl ?_ ?_
        rotate_left 2
        ·go_simp
         constructor
         ·rfl
         ·rfl
        refine hK.out _ _ ⟨(blk_cell (blk_alloc BK130.out _) 0).trans rfl, (blk_cell (blk_alloc BK130.out _) 1).trans rfl, (blk_cell (blk_alloc BK130.out _) 2).trans rfl, (blk_cell (blk_alloc BK132.out _) 0).trans rfl, (blk_cell (blk_alloc BK132.out _) 1).trans rfl, (blk_cell (blk_alloc BK132.out _) 2).trans rfl, (blk_cell (blk_alloc BK132.out _) 3).trans rfl, (blk_cell (blk_alloc BK132.out _) 4).trans rfl⟩ (fun hHeld => ?_)
        clear hK K
        refine norm_ (a' := ?_) ?_ ?_
        rotate_left
        ·show Act.put _ (some 27) _ = _
         go_frame <;> try simp only [i64_w, i32_w]
         rfl
        refine one_ (i := 5) (N := some 28) (mk_ 8 63) rfl rfl (one_of HT_.out (by kernel_rfl)) (by decide) (fun K hK => ?_)
        refine Kd.S_append_step k36 (w0 := w) w.heap.size (by rfl) (.tmp 24) (.tmp 27) 23 36 (.agg #[(.slice none 0 0), (.int .i64 0), (.int .i64 0), (.int .i64 0), (.int .i64 0)]) 56 rfl Tryd.underlying23 info36 rfl (by decide) (by omega) u131002 x131002_1 (⟨t133, (⟨t136, t137, t138, t139⟩ : S34)⟩ : S36) [.slice Ao35 t133.length co35, .int .i64 t136, .int .i64 t137, .int .i64 t138, .int .i64 t139] (fun k_ => k_ ≠ gb132) (fun k_ => some k_ = (.slice Ao35 t133.length co35 : Value).ownBlock) rfl rfl ?aP (fun k_ hk_ => ((Kd.R_mono (ok' := fun k_ => ((fun k_ => k_ ≠ gb132)) k_ ∧ some k_ ≠ (u131002 : Value).ownBlock) (Kd.R_types (Kd.R_apart' (HO135.out) (Kd.S_typed HO_131002.out) (by decide)) BK132.out (by decide)) (fun k_ hk => ⟨hk.2, hk.1.2⟩))).1 k_ hk_.symm) ?aF ?aO ?aB ?aS ?aL ?_
        (case aP => exact k36_mkM _ _ _ (⟨t133, (⟨t136, t137, t138, t139⟩ : S34)⟩ : S36) (Kd.R_mono (Kd.R_tight rfl (Kd.R_mono (ok' := fun k_ => ((fun k_ => k_ ≠ gb132)) k_ ∧ some k_ ≠ (u131002 : Value).ownBlock) (Kd.R_types (Kd.R_apart' (HO135.out) (Kd.S_typed HO_131002.out) (by decide)) BK132.out (by decide)) (fun k_ hk => ⟨hk.2, hk.1.2⟩))) (fun _ h_ => h_)))
        (case aB => exact z12_4)
        (case aF => exact (fun k_ hk => Kd.freshB (g := gb132) (o := .cells #[.slice A131_0 ((rd_T36 l0_2 x19_1).f0).length c131_0, .int .i64 ((rd_T36 l0_2 x19_1).f1.f0), .int .i64 ((rd_T36 l0_2 x19_1).f1.f1), .int .i64 ((rd_T36 l0_2 x19_1).f1.f2), .int .i64 ((rd_T36 l0_2 x19_1).f1.f3)] 36 (0, 0)) z12_7 k_ hk))
        (case aO => exact (by (with_reducible repeat (first | apply Kd.S_alloc | apply Kd.S_drewN | apply Kd.S_drew)); exact Kd.S_mono HO_131002.out (fun k_ hk => ⟨hk.1, fun e_ => hk.2 e_⟩)))
        (case aS => exact (below_size z12_4))
        (case aL => have := LMc25.out; omega)
        intro v141 w34 ho hb hg hat
        rw [← Ny140.out] at ho
        have n0_ := Aside0.mk (Kd.R_over' (by (with_reducible repeat (first | apply Kd.R_alloc | apply Kd.R_drewN | apply Kd.R_drew)); exact HO_131001.out) (Kd.S_typed (by (with_reducible repeat (first | apply Kd.S_alloc | apply Kd.S_drewN | apply Kd.S_drew)); exact HO_131002.out)) (by decide) hg)
        have n1_ := Aside0.mk (blk_grown (g := gb124) (o := .cells #[.int .i64 a0_0, .slice A0_1 l0_1.length c0_1, .slice (some ad131) l0_2.length c0_2] 25 (0, 0)) z12_0 hg (Kd.S_ne HO_131002.out BK124.out (by decide)))
        have n2_ := Aside0.mk (blk_grown (g := gb125) (o := .cells #[.int .i64 0, .slice none 0 0, .slice none 0 0] 25 (0, 0)) z12_2 hg (Kd.S_ne HO_131002.out BK125.out (by decide)))
        have n3_ := Aside0.mk (blk_grown (g := gb130) (o := .cells #[.int .i64 a0_0, .slice Ao15 t127.length co15, u131002] 25 (0, 0)) z12_5 hg (Kd.S_ne HO_131002.out BK130.out (by decide)))
        have n4_ := Aside0.mk (blk_grown (g := gb132) (o := .cells #[.slice A131_0 ((rd_T36 l0_2 x19_1).f0).length c131_0, .int .i64 ((rd_T36 l0_2 x19_1).f1.f0), .int .i64 ((rd_T36 l0_2 x19_1).f1.f1), .int .i64 ((rd_T36 l0_2 x19_1).f1.f2), .int .i64 ((rd_T36 l0_2 x19_1).f1.f3)] 36 (0, 0)) z12_7 hg (Kd.S_away HO_131002.out (fun _ hk => hk.1)))
        have n5_ := Aside0.mk (hb)
        have n6_ := Aside0.mk (ho)
        clear HO_131001
        clear BK124
        clear BK125
        clear BK130
        clear BK132
        clear HB
        clear HO_131002
        clear HO135
        have HO_131001 := n0_
        have BK124 := n1_
        have BK125 := n2_
        have BK130 := n3_
        have BK132 := n4_
        have HB := n5_
        have HO142 := n6_
        clear n0_ n1_ n2_ n3_ n4_ n5_ n6_
        clear ho hb hg hat
        obtain ⟨Ao36, co36, eo36⟩ := Kd.S_slice HO142.out
        (first | subst eo36 | (injection eo36 with f1_ f2_ f3_; have f4_ := f1_.symm; have f5_ := f3_.symm; clear f1_ f2_ f3_; subst f4_; subst f5_))
        refine hK.out _ _ ⟨(blk_cell BK130.out 0).trans rfl, (blk_cell BK130.out 1).trans rfl, (blk_cell BK130.out 2).trans rfl, (blk_cell BK132.out 0).trans rfl, (blk_cell BK132.out 1).trans rfl, (blk_cell BK132.out 2).trans rfl, (blk_cell BK132.out 3).trans rfl, (blk_cell BK132.out 4).trans rfl⟩ (fun hHeld => ?_)
        clear hK K
        refine norm_ (a' := ?_) ?_ ?_
        rotate_left
        ·show Act.put _ (some 28) _ = _
         go_frame <;> try simp only [i64_w, i32_w]
         rfl
        refine pI (i := 6) (N := some 29) (mk_ 8 127) ?_
        refine last_ (i := 7) (N := none) (mk_ 8 255) rfl rfl (one_of HT_.out (by kernel_rfl)) (by decide) (fun K hK => ?_)
        have hs37 : w34.cell? ⟨gb130, 2, none⟩ = some (u131002) := (blk_cell BK130.out 2).trans rfl
        have hfs37 := blk_frozen BK130.out 2
        have hns37_0 := NB124_130.out
        have hns37_1 := NB125_130.out
        have hns37_3 := NB132_130.out
        have hms37_0 := NB130_124.out
        have hms37_1 := NB130_125.out
        have hms37_3 := NB130_132.out
        refine skip_ (w1 := ?_) (by rfl) rfl ?_ ?_
        rotate_left
        ·go_simp
         rfl
        refine hK.out _ _ ?_
        clear hK K
        refine done_ (done_of HT_.out (by kernel_rfl)) ?_
        try go_wp2
        go_roundg k1
        case measure => have := HK1.out; omega
        case rel => exact ⟨(wrap64 (x19_1 + 1)), (y140), (.slice Ao36 y140.length co36), (by first | rfl | (simp; done) | (simp [*]; done)), H', ⟨by have := HK1.out; omega⟩, ⟨by (with_reducible repeat (first | apply Kd.R_alloc | apply Kd.R_drewN | apply Kd.R_drew)); exact Kd.R_mono (Kd.R_far (Kd.R_types HO_131001.out BK130.out (by decide)) (fun _ hk => hk.2) (.slice Ao36 y140.length co36)) (fun _ hk => trivial)⟩, ⟨by (with_reducible repeat (first | apply Kd.S_alloc | apply Kd.S_drewN | apply Kd.S_drew)); exact Kd.S_mono (Kd.S_far (p := ⟨gb130, 2, none⟩) (Kd.S_types HO142.out BK130.out (by decide)) (fun _ hk => hk.2) (.slice Ao36 y140.length co36)) (fun _ hk => trivial)⟩, ⟨by (with_reducible repeat (first | refine blk_drewN ?_ _ | refine blk_drew ?_ | refine blk_alloc ?_ _)); refine blk_far ?_ NB124_130.out _; (with_reducible repeat (first | refine blk_drewN ?_ _ | refine blk_drew ?_ | refine blk_alloc ?_ _)); exact BK124.out⟩, ⟨by (with_reducible repeat (first | refine blk_drewN ?_ _ | refine blk_drew ?_ | refine blk_alloc ?_ _)); refine blk_far ?_ NB125_130.out _; (with_reducible repeat (first | refine blk_drewN ?_ _ | refine blk_drew ?_ | refine blk_alloc ?_ _)); exact BK125.out⟩, ⟨by (with_reducible repeat (first | refine blk_drewN ?_ _ | refine blk_drew ?_ | refine blk_alloc ?_ _)); refine blk_put (cs := #[.int .i64 a0_0, .slice Ao15 t127.length co15, u131002]) ?_ 2 _ rfl; (with_reducible repeat (first | refine blk_drewN ?_ _ | refine blk_drew ?_ | refine blk_alloc ?_ _)); exact BK130.out⟩, ⟨by repeat (first | (with_reducible first | exact HB.out | apply below_alloc | apply pw_below_drewN | apply below_drew1 | refine below_set ?_ GE124.out | refine below_set ?_ GE125.out | refine below_set ?_ GE130.out | refine below_set ?_ GE132.out) | exact HB.out)⟩⟩
       ·rw [if_neg c25] at H
        exact absurd H (by simp)
      ·rw [if_neg c23] at H
       exact absurd H (by simp)
     ·rw [if_neg c22] at H
      exact absurd H (by simp)
    ·rw [if_neg c21] at H
     have c21b0 : decide (x19_1 < (l0_2.length : Int)) = false := decide_eq_false c21
     clear c21
     simp only [Option.some.injEq, Prod.mk.injEq] at H
     obtain ⟨rfl, rfl, rfl⟩ := H
     have hnb38 := NB130_124.out
     have hnc38 := NB124_130.out
     have hnb39 := NB130_125.out
     have hnc39 := NB125_130.out
     obtain ⟨hcz40_0, hcz40_1, hcz40_2⟩ := bC3 BK130.out
     obtain ⟨hfz40_0, hfz40_1, hfz40_2⟩ := bF3 BK130.out
     have hnb41 := NB125_124.out
     have hnc41 := NB124_125.out
     obtain ⟨hcz42_0, hcz42_1, hcz42_2⟩ := bC3 BK125.out
     obtain ⟨hfz42_0, hfz42_1, hfz42_2⟩ := bF3 BK125.out
     obtain ⟨Ao43, co43, eo43⟩ := Kd.S_slice HO_131002.out
     subst eo43
     go_wp2
     refine bodyPost_ret (results_cell_row rfl _ _ gb125 25 #[.int .i64 a0_0, .slice Ao15 t127.length co15, .slice Ao43 x131002_1.length co43] (0, 0) _ rfl (by (with_reducible repeat (first | refine blk_drewN ?_ _ | refine blk_drew ?_ | refine blk_alloc ?_ _)); refine blk_put (cs := #[.int .i64 a0_0, .slice Ao15 t127.length co15, .slice none 0 0]) ?_ 2 _ rfl; (with_reducible repeat (first | refine blk_drewN ?_ _ | refine blk_drew ?_ | refine blk_alloc ?_ _)); refine blk_put (cs := #[.int .i64 a0_0, .slice none 0 0, .slice none 0 0]) ?_ 1 _ rfl; (with_reducible repeat (first | refine blk_drewN ?_ _ | refine blk_drew ?_ | refine blk_alloc ?_ _)); refine blk_put (cs := #[.int .i64 0, .slice none 0 0, .slice none 0 0]) ?_ 0 _ rfl; (with_reducible repeat (first | refine blk_drewN ?_ _ | refine blk_drew ?_ | refine blk_alloc ?_ _)); exact BK125.out) Tryd.underlying25 rfl (by kernel_rfl)) rfl ?_
     exact ⟨_, _, by first | rfl | (simp [errW_none, errW_some] <;> rfl) | (simp [*, errW_none, errW_some] <;> rfl), by (with_reducible repeat (first | apply Kd.R_alloc | apply Kd.R_drewN | apply Kd.R_drew)); exact Kd.R_mono (Kd.R_far (Kd.R_far (Kd.R_far (Kd.R_types HO_131001.out BK125.out (by decide)) (fun _ hk => hk.2) (.int .i64 a0_0)) (fun _ hk => hk.2) (.slice Ao15 t127.length co15)) (fun _ hk => hk.2) (.slice Ao43 x131002_1.length co43)) (fun _ hk => trivial), by (with_reducible repeat (first | apply Kd.S_alloc | apply Kd.S_drewN | apply Kd.S_drew)); exact Kd.S_mono (Kd.S_far (p := ⟨gb125, 2, none⟩) (Kd.S_far (p := ⟨gb125, 1, none⟩) (Kd.S_far (p := ⟨gb125, 0, none⟩) (Kd.S_types HO_131002.out BK125.out (by decide)) (fun _ hk => hk.2) (.int .i64 a0_0)) (fun _ hk => hk.2) (.slice Ao15 t127.length co15)) (fun _ hk => hk.2) (.slice Ao43 x131002_1.length co43)) (fun _ hk => trivial), by repeat (first | (with_reducible first | exact HB.out | apply below_alloc | apply pw_below_drewN | apply below_drew1 | refine below_set ?_ GE124.out | refine below_set ?_ GE125.out | refine below_set ?_ GE130.out) | exact HB.out)⟩
 ·replace c3 := Bool.eq_false_iff.mpr c3
  subst c3
  have H1 : (none) = some (r1, r2, r3) := by rw [if_neg (show ¬ (false = true) by decide)] at H; exact H
  clear H
  have H := H1
  clear H1
  exact absurd H (by simp)

/-! ### given: reload_Gone.lean -/
-- GIVEN spinnaker/reload.Gone rounds=0 making=1
-- NEEDS spinnaker/reload.Reuse
-- NEEDS spinnaker/ir.Right
-- NEEDS spinnaker/reload.block
-- NEEDS slices.Clone[[]int,int]
-- REG []api.Ins
-- REG []int
-- INFO int
-- IMPORT Derived.Test.YtgenmfbidpmneaaDoorEvalM
theorem g_cells3 {w : World} {g : Nat} {t : TypeId} {x0 x1 x2 : Value} (h : w.heap[g]? = some (.cells #[x0, x1, x2] t (0, 0))) : w.cell? ⟨g, 0, none⟩ = some x0 ∧ w.cell? ⟨g, 1, none⟩ = some x1 ∧ w.cell? ⟨g, 2, none⟩ = some x2 := ⟨(blk_cell h 0).trans rfl, (blk_cell h 1).trans rfl, (blk_cell h 2).trans rfl⟩
theorem g_cells5 {w : World} {g : Nat} {t : TypeId} {x0 x1 x2 x3 x4 : Value} (h : w.heap[g]? = some (.cells #[x0, x1, x2, x3, x4] t (0, 0))) : w.cell? ⟨g, 0, none⟩ = some x0 ∧ w.cell? ⟨g, 1, none⟩ = some x1 ∧ w.cell? ⟨g, 2, none⟩ = some x2 ∧ w.cell? ⟨g, 3, none⟩ = some x3 ∧ w.cell? ⟨g, 4, none⟩ = some x4 := ⟨(blk_cell h 0).trans rfl, (blk_cell h 1).trans rfl, (blk_cell h 2).trans rfl, (blk_cell h 3).trans rfl, (blk_cell h 4).trans rfl⟩
theorem g_cells8 {w : World} {g : Nat} {t : TypeId} {x0 x1 x2 x3 x4 x5 x6 x7 : Value} (h : w.heap[g]? = some (.cells #[x0, x1, x2, x3, x4, x5, x6, x7] t (0, 0))) : w.cell? ⟨g, 0, none⟩ = some x0 ∧ w.cell? ⟨g, 1, none⟩ = some x1 ∧ w.cell? ⟨g, 2, none⟩ = some x2 ∧ w.cell? ⟨g, 3, none⟩ = some x3 ∧ w.cell? ⟨g, 4, none⟩ = some x4 ∧ w.cell? ⟨g, 5, none⟩ = some x5 ∧ w.cell? ⟨g, 6, none⟩ = some x6 ∧ w.cell? ⟨g, 7, none⟩ = some x7 := ⟨(blk_cell h 0).trans rfl, (blk_cell h 1).trans rfl, (blk_cell h 2).trans rfl, (blk_cell h 3).trans rfl, (blk_cell h 4).trans rfl, (blk_cell h 5).trans rfl, (blk_cell h 6).trans rfl, (blk_cell h 7).trans rfl⟩
theorem g_alloc {ops : Array Oper} {rest : List Oper} {o : Oper} {a : Act} {Q : Exit → Act → World → Prop} {W : World} {t : TypeId} {zs : Array Value} (hg : o.guard = none) (hop : o.op = .alloc t)
    (hz : (Instr.alloc t true (.tuple #[])).run Tryd.prog W = .ok (.pointer (some ⟨W.heap.size, 0, none⟩)) (W.alloc (.cells zs t (0, 0))))
    (h : ∀ b, b = W.heap.size → ∀ w1, w1.heap[b]? = some (.cells zs t (0, 0)) → Below W.heap.size W w1 → wpList Tryd.prog ops Q rest (a.put o.dst (.pointer (some ⟨b, 0, none⟩))) w1) : wpList Tryd.prog ops Q (o :: rest) a W :=
  Kd.event_run hg (by simp only [execOp, hop]; simp [hz, Result.andThen]) (h _ rfl _ (blk_new W _) (below_alloc (Below.refl _ _) _))
theorem g_store {ops : Array Oper} {rest : List Oper} {o : Oper} {a : Act} {Q : Exit → Act → World → Prop} {W : World} {t : TypeId} {x v : Operand} {g : Nat} {old cs : Array Value} (hg : o.guard = none) (hop : o.op = .store t x v) (hN : o.dst = none) (hx : a.eval x = .pointer (some ⟨g, 0, none⟩)) (hv : a.eval v = .agg cs)
    (hb : W.heap[g]? = some (.cells old t (0, 0))) (hi : (Tryd.prog.info? t).map (·.size) = some cs.size) (ho : old.size = cs.size) (h1 : cs.all (·.oneCell') = true)
    (h : ∀ w1, w1.heap[g]? = some (.cells cs t (0, 0)) → W.grownBy w1 (some g) → wpList Tryd.prog ops Q rest a w1) : wpList Tryd.prog ops Q (o :: rest) a W := by
  refine wpList_plain hg fun K hK => ?_
  have hrow := run_storeVar_row (P := Tryd.prog) W g t t old cs hb hi ho h1
  have hrun : (execOp a.eval o).run Tryd.prog W = .ok .skip (W.setRow g cs) := by
    simp [execOp, hop, hx, hv, Instr.storeAt, Instr.sureAddr, hrow, Result.andThen]
  unfold Oper.wp
  rw [hrun]
  show K (a.put o.dst undef) _
  rw [hN]
  exact hK _ _ (h _ (setRow_heap W g old cs t (0, 0) hb) ⟨rfl, rfl, rfl, by simp, fun i _ hi2 => setRow_other W g i cs (fun e => hi2 (by rw [e]))⟩)
theorem g_below {n g : Nat} {w W W1 : World} (h : Below n w W) (hg : W.grownBy W1 (some g)) (hn : n ≤ g) (hs : n ≤ W.heap.size) : Below n w W1 :=
  ⟨hg.os.trans h.os, hg.tape.trans h.tape, hg.output.trans h.output, Nat.le_trans h.size hg.size, fun i hi => (hg.block i (Nat.lt_of_lt_of_le hi hs) (fun e => by injection e with e; omega)).trans (h.block i hi)⟩
theorem g_eq (d : Nat) (w : World) (x0 y0 : Int) (x1 y1 : Int) (x2 y2 : Int) (x3 y3 : Int) (x4 y4 : Int) (x5 y5 : Int) (x6 y6 : Int) (x7 y7 : Int) :
    (Op.equalIn (d + 2) 38 (.agg #[.int .i64 x0, .int .i64 x1, .int .i64 x2, .int .i64 x3, .int .i64 x4, .int .i64 x5, .int .i64 x6, .int .i64 x7]) (.agg #[.int .i64 y0, .int .i64 y1, .int .i64 y2, .int .i64 y3, .int .i64 y4, .int .i64 y5, .int .i64 y6, .int .i64 y7])).run Tryd.prog w = .ok (x0 == y0 && (x1 == y1 && (x2 == y2 && (x3 == y3 && (x4 == y4 && (x5 == y5 && (x6 == y6 && (x7 == y7)))))))) w := by
  refine eqA_of Tryd.underlying38 (by kernel_rfl) ?_
  refine eqf_cons (by rfl) (by go_simp; rfl) (by go_simp; rfl) (by go_simp) ?_
  refine eqf_cons (by rfl) (by go_simp; rfl) (by go_simp; rfl) (by go_simp) ?_
  refine eqf_cons (by rfl) (by go_simp; rfl) (by go_simp; rfl) (by go_simp) ?_
  refine eqf_cons (by rfl) (by go_simp; rfl) (by go_simp; rfl) (by go_simp) ?_
  refine eqf_cons (by rfl) (by go_simp; rfl) (by go_simp; rfl) (by go_simp) ?_
  refine eqf_cons (by rfl) (by go_simp; rfl) (by go_simp; rfl) (by go_simp) ?_
  refine eqf_cons (by rfl) (by go_simp; rfl) (by go_simp; rfl) (by go_simp) ?_
  exact eqf_last (by rfl) (by go_simp; rfl) (by go_simp; rfl) (by go_simp)
attribute [local go_sem high] g_eq
theorem g_field (w : World) (q : Int) (A B : Option Addr) (n c m d : Nat) : (Instr.field 25 (.agg #[.int .i64 q, .slice A n c, .slice B m d]) 2).run Tryd.prog w = .ok (.slice B m d) w := by kernel_rfl
attribute [local go_sem high] g_field
/-- Are two instructions one? -/
def insEq (u v : S38) : Bool := (u.f0 == v.f0 && (u.f1 == v.f1 && (u.f2 == v.f2 && (u.f3 == v.f3 && (u.f4 == v.f4 && (u.f5 == v.f5 && (u.f6 == v.f6 && (u.f7 == v.f7))))))))
theorem insEq_iff (u v : S38) : insEq u v = true ↔ u = v := by
  cases u; cases v
  simp [insEq, S38.mk.injEq]
/-- The numbers of the instructions that are others. -/
def goneB : List S38 → List S38 → List Int
  | i :: r, u :: s => cond (insEq u i) (goneB r s) (u.f7 :: goneB r s)
  | _, _ => []
def goneL : List S36 → List S36 → List Int
  | x :: r, y :: s => goneB x.f0 y.f0 ++ goneL r s
  | _, _ => []
theorem g_drop {α : Type} (l : List α) (z : α) (i : Nat) (h : i < l.length) : l.drop i = l.getD i z :: l.drop (i + 1) := by
  rw [List.drop_eq_getElem_cons h]
  simp [h]
/-- Do some blocks fit others? -/
def fits (X l : List S36) : Prop := X.length ≤ l.length ∧ X.length ≤ 4000 ∧ ∀ j, j < X.length → (X.getD j z36).f0.length ≤ (l.getD j z36).f0.length ∧ (X.getD j z36).f0.length ≤ 4294967296
set_option maxRecDepth 100000 in
set_option maxHeartbeats 8000000 in
theorem gone_walk (v : Int) (A1 : Option Addr) (c1 : Nat) (l1 : List Int) (A2 : Option Addr) (c2 : Nat) (l2 X : List (S36)) (w : World) (hr2 : Kd.C k36 w A2 l2.length l2) (hf : fits X l2)
    (hX : ∀ W, Below w.heap.size w W → Calls Tryd.prog 12 #[.agg #[.int .i64 v, .slice A1 l1.length c1, .slice A2 l2.length c2]] W fun e w' => ∃ (q1 : Int) (A3 : Option Addr) (n3 c3 : Nat) (AX : Option Addr) (cX : Nat), e = .returned (.agg #[.int .i64 q1, .slice A3 n3 c3, .slice AX X.length cX]) ∧ Kd.C k36 w' AX X.length X ∧ Below W.heap.size W w') :
    Calls Tryd.prog 13 #[.agg #[.int .i64 v, .slice A1 l1.length c1, .slice A2 l2.length c2]] w fun e w' => ∃ v0_ : Value, e = .returned (v0_) ∧ Kd.R (Kd.int .i64) 3 w' w.heap.size (fun _ => True) v0_ (goneL X l2) ∧ Below w.heap.size w w' := by
  have hu25 := Tryd.underlying25
  have hu38 := Tryd.underlying38
  have hu34 := Tryd.underlying34
  have hu36 := Tryd.underlying36
  obtain ⟨r, hr⟩ : ∃ r, Aside0 (goneL X l2 = r) := ⟨_, ⟨rfl⟩⟩
  rw [hr.out]
  have HR2 := Aside0.mk hr2
  have HFT := Aside0.mk hf
  have HX := Aside0.mk hX
  clear hr2 hf hX
  have HB := Aside0.mk (Below.refl w.heap.size w)
  go_enter Tryd.func13, Tryd.ntmps13
  go_upto_region 2 with (first | ((with_reducible refine gate_dst (N := 1) rfl ?_); refine box_event ?hg (N := 1) ?hd (cs := #[.int .i64 v, .slice A1 l1.length c1, .slice A2 l2.length c2]) (t := 25) ?hr ?_; (case hd => rfl); (case hg => rfl); (case hr => first | (go_simp; done) | (go_simp; rfl)); intro gb hg wb hbox hb; have n0_ := Aside0.mk (below_step (by repeat (first | (with_reducible first | exact HB.out | apply below_alloc | apply pw_below_drewN | apply below_drew1) | exact HB.out)) hb); have BKgb := Aside0.mk hbox; clear HB; have HB := n0_; clear n0_ hb hbox hg))
  obtain ⟨hb0, hb1, hb2⟩ := g_cells3 BKgb.out
  go_wp2_with (first | (go_at_call 12; refine (HX.out _ HB.out).mono ?_; rintro e w1 ⟨q1, A3, n3, c3, AX, cX, rfl, hrow, hb⟩; have n0_ := Aside0.mk (below_step HB.out hb); have n1_ := Aside0.mk (blk_below BKgb.out hb); have HXR := Aside0.mk hrow; have H21 := Aside0.mk (Kd.C_below HR2.out n0_.out); clear HB BKgb hb hrow HR2; have HB0 := n0_; have BKgb := n1_; clear n0_ n1_))
  clear hb0 hb1 hb2 HX
  have HB := Aside0.mk (Below.refl w1.heap.size w1)
  go_loopg [3, 13] X.length (fun gg v3 v13 wr => ∃ (j : Nat) (ids : List Int), j ≤ X.length ∧ X.length - j ≤ gg ∧ v13 = .int .i64 (j : Int) ∧ Aside0 (ids ++ goneL (X.drop j) (l2.drop j) = r) ∧ Aside0 (ids.length ≤ j * 4294967296) ∧ Aside0 (Kd.R (Kd.int .i64) 3 wr w1.heap.size (fun _ => True) v3 ids) ∧ Aside0 (Below w1.heap.size w1 wr))
  case atStart => exact ⟨0, [], Nat.zero_le _, by omega, rfl, ⟨by simpa using hr.out⟩, ⟨Nat.zero_le _⟩, ⟨Kd.R_nil _ _ _ _ _⟩, HB⟩
  case round =>
    clear HB hr
    obtain ⟨j, ids, hj, hgg, rfl, HS, HN, HO, HB⟩ := hrel
    obtain ⟨Av, cv, ev⟩ := Kd.R_slice HO.out
    subst ev
    by_cases hlt : j < X.length
    · have hltz : (j : Int) < (X.length : Int) := by omega
      have hlt2 : (j : Int) < (l2.length : Int) := by have := HFT.out.1; omega
      have HFB := Aside0.mk (HFT.out.2.2 j hlt)
      obtain ⟨adx, Ax, cx, rfl, hx0, hx1, hx2, hx3, hx4, hxl, hxi⟩ := at_T36 HXR.out (j : Int) (by omega) hltz
      obtain ⟨ady, Ay, cy, rfl, hz0, hz1, hz2, hz3, hz4, hzl, hzi⟩ := at_T36 H21.out (j : Int) (by omega) hlt2
      rw [show rd_T36 X (j : Int) = X.getD j z36 by simp [rd_T36]] at hx0 hx1 hx2 hx3 hx4 hxl hxi
      rw [show rd_T36 l2 (j : Int) = l2.getD j z36 by simp [rd_T36]] at hz0 hz1 hz2 hz3 hz4 hzl hzi
      have hd1 := g_drop X z36 j hlt
      have hd2 := g_drop l2 z36 j (by omega)
      have hs := HS.out
      rw [hd1, hd2, goneL] at hs
      clear HS hd1 hd2
      generalize X.getD j z36 = x at hx0 hx1 hx2 hx3 hx4 hxl hxi hs HFB
      generalize l2.getD j z36 = y at hz0 hz1 hz2 hz3 hz4 hzl hzi hs HFB
      rw [Int.toNat_natCast] at hx0 hx1 hx2 hx3 hx4 hz0
      have HS := Aside0.mk hs
      have HXI := Aside0.mk hxi
      have HZI := Aside0.mk hzi
      have HZ0 := Aside0.mk hz0
      clear hs hxi hzi hz0 hz1 hz2 hz3 hz4 hxl hzl
      replace hx0 := (HB.out.cell (World.block_lt_of_cell? w1 _ hx0)).trans hx0
      replace hx1 := (HB.out.cell (World.block_lt_of_cell? w1 _ hx1)).trans hx1
      replace hx2 := (HB.out.cell (World.block_lt_of_cell? w1 _ hx2)).trans hx2
      replace hx3 := (HB.out.cell (World.block_lt_of_cell? w1 _ hx3)).trans hx3
      replace hx4 := (HB.out.cell (World.block_lt_of_cell? w1 _ hx4)).trans hx4
      go_upto_region 5 with (first | ((with_reducible refine gate_dst (N := 5) rfl ?_); refine g_alloc rfl (t := 36) (zs := #[.slice none 0 0, .int .i64 0, .int .i64 0, .int .i64 0, .int .i64 0]) rfl (by kernel_rfl) ?_; intro gx hgx wb hnew hb; have BKgx := Aside0.mk hnew; have Ggx := Aside0.mk (show w1.heap.size ≤ gx by rw [hgx]; exact below_size (by repeat (first | (with_reducible first | exact HB.out | apply below_alloc | apply pw_below_drewN | apply below_drew1) | exact HB.out))); have NOgx := Aside0.mk (show some gx ≠ (Value.slice Av ids.length cv).ownBlock by rw [hgx]; exact Kd.fresh' (Kd.R_lt HO.out) _ (Nat.le_refl _)); have n0_ := Aside0.mk (below_step (by repeat (first | (with_reducible first | exact HB.out | apply below_alloc | apply pw_below_drewN | apply below_drew1) | exact HB.out)) hb); have n1_ := Aside0.mk (Kd.R_below HO.out hb); clear HB HO; have HB := n0_; have HO := n1_; clear n0_ n1_; clear hnew hgx hb) | ((with_reducible refine gate_store (t := 36) (p := 5) rfl ?_); refine g_store rfl (t := 36) rfl rfl rfl rfl BKgx.out (by kernel_rfl) rfl (by first | (simp; done) | (simp [Value.oneCell']; done) | (simp; rfl)) ?_; intro wb hnew hgr; have n0_ := Aside0.mk (g_below HB.out hgr Ggx.out HB.out.size); have n1_ := Aside0.mk (Kd.R_grown1 HO.out rfl hgr NOgx.out); have n2_ := Aside0.mk (hnew); clear HB HO BKgx; have HB := n0_; have HO := n1_; have BKgx := n2_; clear n0_ n1_ n2_; clear hnew hgr))
      clear hx0 hx1 hx2 hx3 hx4
      obtain ⟨hb0, hb1, hb2, hb3, hb4⟩ := g_cells5 BKgx.out
      go_wp2
      clear hb0 hb1 hb2 hb3 hb4 BKgx NOgx Ggx
      go_loopg [3, 21] x.f0.length (fun gg v3 v21 wr => ∃ (m : Nat) (ids' : List Int), m ≤ x.f0.length ∧ x.f0.length - m ≤ gg ∧ v21 = .int .i64 (m : Int) ∧ Aside0 (ids' ++ (goneB (x.f0.drop m) (y.f0.drop m) ++ goneL (X.drop (j + 1)) (l2.drop (j + 1))) = r) ∧ Aside0 (ids'.length ≤ j * 4294967296 + m) ∧ Aside0 (Kd.R (Kd.int .i64) 3 wr w1.heap.size (fun _ => True) v3 ids') ∧ Aside0 (Below w1.heap.size w1 wr))
      case atStart => exact ⟨0, ids, Nat.zero_le _, by omega, rfl, ⟨by simpa using HS.out⟩, ⟨Nat.le_trans HN.out (Nat.le_add_right _ _)⟩, HO, HB⟩
      case round =>
        clear HB HS HN HO
        obtain ⟨m, ids', hm, hgm, rfl, HS, HN, HO, HB⟩ := hrel
        clear Av cv
        obtain ⟨Av, cv, ev⟩ := Kd.R_slice HO.out
        subst ev
        by_cases hlm : m < x.f0.length
        · have hlmz : (m : Int) < (x.f0.length : Int) := by omega
          have hlm2 : (m : Int) < (y.f0.length : Int) := by have := HFB.out.1; omega
          obtain ⟨adi, rfl, hy0, hy1, hy2, hy3, hy4, hy5, hy6, hy7⟩ := at_T38 HXI.out (m : Int) (by omega) hlmz
          obtain ⟨adu, rfl, hu0, hu1, hu2, hu3, hu4, hu5, hu6, hu7⟩ := at_T38 HZI.out (m : Int) (by omega) hlm2
          rw [show rd_T38 x.f0 (m : Int) = x.f0.getD m z38 by simp [rd_T38]] at hy0 hy1 hy2 hy3 hy4 hy5 hy6 hy7
          rw [show rd_T38 y.f0 (m : Int) = y.f0.getD m z38 by simp [rd_T38]] at hu0 hu1 hu2 hu3 hu4 hu5 hu6 hu7
          have hd1 := g_drop x.f0 z38 m hlm
          have hd2 := g_drop y.f0 z38 m (by omega)
          have hs := HS.out
          rw [hd1, hd2, goneB] at hs
          clear HS hd1 hd2
          generalize x.f0.getD m z38 = i at hy0 hy1 hy2 hy3 hy4 hy5 hy6 hy7 hs
          generalize y.f0.getD m z38 = u at hu0 hu1 hu2 hu3 hu4 hu5 hu6 hu7 hs
          rw [Int.toNat_natCast] at hy0 hy1 hy2 hy3 hy4 hy5 hy6 hy7 hu0 hu1 hu2 hu3 hu4 hu5 hu6 hu7
          have HS := Aside0.mk hs
          clear hs
          replace hy0 := (HB.out.cell (World.block_lt_of_cell? w1 _ hy0)).trans hy0
          replace hy1 := (HB.out.cell (World.block_lt_of_cell? w1 _ hy1)).trans hy1
          replace hy2 := (HB.out.cell (World.block_lt_of_cell? w1 _ hy2)).trans hy2
          replace hy3 := (HB.out.cell (World.block_lt_of_cell? w1 _ hy3)).trans hy3
          replace hy4 := (HB.out.cell (World.block_lt_of_cell? w1 _ hy4)).trans hy4
          replace hy5 := (HB.out.cell (World.block_lt_of_cell? w1 _ hy5)).trans hy5
          replace hy6 := (HB.out.cell (World.block_lt_of_cell? w1 _ hy6)).trans hy6
          replace hy7 := (HB.out.cell (World.block_lt_of_cell? w1 _ hy7)).trans hy7
          have HU0 := Aside0.mk hu0
          have HU1 := Aside0.mk hu1
          have HU2 := Aside0.mk hu2
          have HU3 := Aside0.mk hu3
          have HU4 := Aside0.mk hu4
          have HU5 := Aside0.mk hu5
          have HU6 := Aside0.mk hu6
          have HU7 := Aside0.mk hu7
          clear hu0 hu1 hu2 hu3 hu4 hu5 hu6 hu7
          go_upto_region 8 with (first | ((with_reducible refine gate_dst (N := 7) rfl ?_); refine g_alloc rfl (t := 38) (zs := #[.int .i64 0, .int .i64 0, .int .i64 0, .int .i64 0, .int .i64 0, .int .i64 0, .int .i64 0, .int .i64 0]) rfl (by kernel_rfl) ?_; intro g7 hg7 wb hnew hb; have BKg7 := Aside0.mk hnew; have Gg7 := Aside0.mk (show w1.heap.size ≤ g7 by rw [hg7]; exact below_size (by repeat (first | (with_reducible first | exact HB.out | apply below_alloc | apply pw_below_drewN | apply below_drew1) | exact HB.out))); have NOg7 := Aside0.mk (show some g7 ≠ (Value.slice Av ids'.length cv).ownBlock by rw [hg7]; exact Kd.fresh' (Kd.R_lt HO.out) _ (Nat.le_refl _)); have n0_ := Aside0.mk (below_step (by repeat (first | (with_reducible first | exact HB.out | apply below_alloc | apply pw_below_drewN | apply below_drew1) | exact HB.out)) hb); have n1_ := Aside0.mk (Kd.R_below HO.out hb); clear HB HO; have HB := n0_; have HO := n1_; clear n0_ n1_; clear hnew hg7 hb) | ((with_reducible refine gate_store (t := 38) (p := 7) rfl ?_); refine g_store rfl (t := 38) rfl rfl rfl rfl BKg7.out (by kernel_rfl) rfl (by first | (simp; done) | (simp [Value.oneCell']; done) | (simp; rfl)) ?_; intro wb hnew hgr; have n0_ := Aside0.mk (g_below HB.out hgr Gg7.out HB.out.size); have n1_ := Aside0.mk (Kd.R_grown1 HO.out rfl hgr NOg7.out); have n2_ := Aside0.mk (hnew); clear HB HO BKg7; have HB := n0_; have HO := n1_; have BKg7 := n2_; clear n0_ n1_ n2_; clear hnew hgr))
          clear hy0 hy1 hy2 hy3 hy4 hy5 hy6 hy7
          obtain ⟨ht0, ht1, ht2⟩ := g_cells3 (blk_below BKgb.out HB.out)
          have hz0 := (HB.out.cell (World.block_lt_of_cell? w1 _ HZ0.out)).trans HZ0.out
          have hu0 := (HB.out.cell (World.block_lt_of_cell? w1 _ HU0.out)).trans HU0.out
          have hu1 := (HB.out.cell (World.block_lt_of_cell? w1 _ HU1.out)).trans HU1.out
          have hu2 := (HB.out.cell (World.block_lt_of_cell? w1 _ HU2.out)).trans HU2.out
          have hu3 := (HB.out.cell (World.block_lt_of_cell? w1 _ HU3.out)).trans HU3.out
          have hu4 := (HB.out.cell (World.block_lt_of_cell? w1 _ HU4.out)).trans HU4.out
          have hu5 := (HB.out.cell (World.block_lt_of_cell? w1 _ HU5.out)).trans HU5.out
          have hu6 := (HB.out.cell (World.block_lt_of_cell? w1 _ HU6.out)).trans HU6.out
          have hu7 := (HB.out.cell (World.block_lt_of_cell? w1 _ HU7.out)).trans HU7.out
          go_upto_region 9 with (first | ((with_reducible refine gate_dst (N := 8) rfl ?_); refine g_alloc rfl (t := 38) (zs := #[.int .i64 0, .int .i64 0, .int .i64 0, .int .i64 0, .int .i64 0, .int .i64 0, .int .i64 0, .int .i64 0]) rfl (by kernel_rfl) ?_; intro g8 hg8 wb hnew hb; have BKg8 := Aside0.mk hnew; have Gg8 := Aside0.mk (show w1.heap.size ≤ g8 by rw [hg8]; exact below_size (by repeat (first | (with_reducible first | exact HB.out | apply below_alloc | apply pw_below_drewN | apply below_drew1) | exact HB.out))); have NOg8 := Aside0.mk (show some g8 ≠ (Value.slice Av ids'.length cv).ownBlock by rw [hg8]; exact Kd.fresh' (Kd.R_lt HO.out) _ (Nat.le_refl _)); have NEg8g7 := Aside0.mk (show g8 ≠ g7 by rw [hg8]; exact Nat.ne_of_gt (blk_lt BKg7.out)); have n0_ := Aside0.mk (below_step (by repeat (first | (with_reducible first | exact HB.out | apply below_alloc | apply pw_below_drewN | apply below_drew1) | exact HB.out)) hb); have n1_ := Aside0.mk (blk_below BKg7.out hb); have n2_ := Aside0.mk (Kd.R_below HO.out hb); clear HB BKg7 HO; have HB := n0_; have BKg7 := n1_; have HO := n2_; clear n0_ n1_ n2_; clear hnew hg8 hb) | ((with_reducible refine gate_store (t := 38) (p := 8) rfl ?_); refine g_store rfl (t := 38) rfl rfl rfl rfl BKg8.out (by kernel_rfl) rfl (by first | (simp; done) | (simp [Value.oneCell']; done) | (simp; rfl)) ?_; intro wb hnew hgr; have n0_ := Aside0.mk (g_below HB.out hgr Gg8.out HB.out.size); have n1_ := Aside0.mk (blk_grown BKg7.out hgr (fun e => by injection e with e; exact NEg8g7.out e.symm)); have n2_ := Aside0.mk (Kd.R_grown1 HO.out rfl hgr NOg8.out); have n3_ := Aside0.mk (hnew); clear HB BKg7 HO BKg8; have HB := n0_; have BKg7 := n1_; have HO := n2_; have BKg8 := n3_; clear n0_ n1_ n2_ n3_; clear hnew hgr))
          clear ht0 ht1 ht2 hz0 hu0 hu1 hu2 hu3 hu4 hu5 hu6 hu7 HU0 HU1 HU2 HU3 HU4 HU5 HU6 HU7
          obtain ⟨hi0, hi1, hi2, hi3, hi4, hi5, hi6, hi7⟩ := g_cells8 BKg7.out
          obtain ⟨hv0, hv1, hv2, hv3, hv4, hv5, hv6, hv7⟩ := g_cells8 BKg8.out
          have hs := HS.out
          clear HS
          unfold insEq at hs
          cases hE : (u.f0 == i.f0 && (u.f1 == i.f1 && (u.f2 == i.f2 && (u.f3 == i.f3 && (u.f4 == i.f4 && (u.f5 == i.f5 && (u.f6 == i.f6 && (u.f7 == i.f7)))))))) with
          | true =>
            rw [hE] at hs
            have HS := Aside0.mk hs
            clear hs
            go_wp2
            go_roundg (x.f0.length - (m + 1))
            case measure => omega
            case rel => exact ⟨m + 1, ids', by omega, by omega, by rw [show wrap64 ((m : Int) + 1) = ((m + 1 : Nat) : Int) by unfold wrap64; have := HFB.out.2; omega], HS, ⟨Nat.le_succ_of_le HN.out⟩, HO, HB⟩
          | false =>
            rw [hE] at hs
            have HS : Aside0 ((ids' ++ [u.f7]) ++ (goneB (x.f0.drop (m + 1)) (y.f0.drop (m + 1)) ++ goneL (X.drop (j + 1)) (l2.drop (j + 1))) = r) := ⟨by rw [← hs]; simp⟩
            clear hs
            go_wp2_with (first | ((with_reducible refine gate_builtin (b := .append) (xs := #[.tmp 38, .tmp 41]) rfl ?_); (try (refine gate_guard (by rfl) ?_; dsimp only)); at_builtin; refine Kd.R_append (Kd.int .i64) (w0 := w1) w1.heap.size rfl (.tmp 38) (.tmp 41) 22 3 (.int .i64 0) 8 rfl Tryd.underlying22 info3 rfl (by decide) (by omega) (.slice Av ids'.length cv) ids' u.f7 [.int .i64 u.f7] (fun _ => True) (fun _ => False) rfl rfl ?aP (fun _ hk => hk.elim) ?aF ?aO ?aB ?aS ?aL ?_; (case aP => exact rfl); (case aB => exact HB.out); (case aF => exact (fun _ _ => trivial)); (case aO => exact HO.out); (case aS => exact (below_size HB.out)); (case aL => have h1 := HN.out; have h2 := HFB.out; have h3 := HFT.out.2.1; have h5 : j * 4294967296 ≤ 3999 * 4294967296 := Nat.mul_le_mul_right _ (by omega); omega); intro v42 wb ho hb hg hat; have n2_ := Aside0.mk hb; have n3_ := Aside0.mk ho; clear HB HO BKg7 BKg8; have HB := n2_; have HO := n3_; clear n2_ n3_ ho hb hg hat))
            go_roundg (x.f0.length - (m + 1))
            case measure => omega
            case rel => exact ⟨m + 1, ids' ++ [u.f7], by omega, by omega, by rw [show wrap64 ((m : Int) + 1) = ((m + 1 : Nat) : Int) by unfold wrap64; have := HFB.out.2; omega], HS, ⟨by rw [List.length_append]; exact Nat.succ_le_succ HN.out⟩, HO, HB⟩
        · have hm2 : m = x.f0.length := by omega
          have hlmz : ¬ (m : Int) < (x.f0.length : Int) := by omega
          have hs := HS.out
          rw [hm2, List.drop_length, show ∀ s, goneB [] s = [] from fun _ => rfl, List.nil_append] at hs
          clear HS
          have HS := Aside0.mk hs
          clear hs
          go_wp2
          go_roundg (X.length - (j + 1))
          case measure => omega
          case rel => exact ⟨j + 1, ids', by omega, by omega, by rw [show wrap64 ((j : Int) + 1) = ((j + 1 : Nat) : Int) by unfold wrap64; have := HFT.out.2.1; omega], HS, ⟨by have h1 := HN.out; have h2 := HFB.out.2; rw [Nat.succ_mul]; omega⟩, HO, HB⟩
    · have hj2 : j = X.length := by omega
      have hltz : ¬ (j : Int) < (X.length : Int) := by omega
      have hs := HS.out
      rw [hj2, List.drop_length, show ∀ s, goneL [] s = [] from fun _ => rfl, List.append_nil] at hs
      subst hs
      clear HS
      go_wp2
      go_ret
      exact ⟨_, rfl, Kd.R_lower HO.out (below_size HB0.out), below_step HB0.out HB.out⟩
set_option maxRecDepth 100000 in
/-- A thread that isn't right is handed back as it came. -/
theorem reuse_not (v : Int) (A1 : Option Addr) (c1 : Nat) (l1 : List Int) (A2 : Option Addr) (c2 : Nat) (l2 : List (S36)) (w : World) (hr1 : Kd.C (Kd.int .i64) w A1 l1.length l1) (hc1 : l1.length ≤ c1) (hr2 : Kd.C k36 w A2 l2.length l2) (hc2 : l2.length ≤ c2) (hG : OpsLaid w) (hf : ir_Right.f v l1 l2 200 = some false) :
    Calls Tryd.prog 12 #[.agg #[.int .i64 v, .slice A1 l1.length c1, .slice A2 l2.length c2]] w fun e w' => e = .returned (.agg #[.int .i64 v, .slice A1 l1.length c1, .slice A2 l2.length c2]) ∧ Below w.heap.size w w' := by
  have hu25 := Tryd.underlying25
  have HR1 := Aside0.mk hr1
  have HC1 := Aside0.mk hc1
  have HR2 := Aside0.mk hr2
  have HC2 := Aside0.mk hc2
  have HG := Aside0.mk hG
  have HRT := Aside0.mk hf
  clear hr1 hc1 hr2 hc2 hG hf
  have HB := Aside0.mk (Below.refl w.heap.size w)
  go_enter Tryd.func12, Tryd.ntmps12
  go_upto_region 1 with (first | ((with_reducible refine gate_dst (N := 1) rfl ?_); refine box_event ?hg (N := 1) ?hd (cs := #[.int .i64 v, .slice A1 l1.length c1, .slice A2 l2.length c2]) (t := 25) ?hr ?_; (case hd => rfl); (case hg => rfl); (case hr => first | (go_simp; done) | (go_simp; rfl)); intro gb hg wb hbox hb; have n0_ := Aside0.mk (below_step (by repeat (first | (with_reducible first | exact HB.out | apply below_alloc | apply pw_below_drewN | apply below_drew1) | exact HB.out)) hb); have BKgb := Aside0.mk hbox; clear HB; have HB := n0_; clear n0_ hb hbox hg) | ((with_reducible refine gate_dst (N := 2) rfl ?_); refine g_alloc rfl (t := 25) (zs := #[.int .i64 0, .slice none 0 0, .slice none 0 0]) rfl (by kernel_rfl) ?_; intro gr hgr wb hnew hb; have BKgr := Aside0.mk hnew; have Ggr := Aside0.mk (show w.heap.size ≤ gr by rw [hgr]; exact below_size (by repeat (first | (with_reducible first | exact HB.out | apply below_alloc | apply pw_below_drewN | apply below_drew1) | exact HB.out))); have NEgrgb := Aside0.mk (show gr ≠ gb by rw [hgr]; exact Nat.ne_of_gt (blk_lt BKgb.out)); have n0_ := Aside0.mk (below_step (by repeat (first | (with_reducible first | exact HB.out | apply below_alloc | apply pw_below_drewN | apply below_drew1) | exact HB.out)) hb); have n1_ := Aside0.mk (blk_below BKgb.out hb); clear HB BKgb; have HB := n0_; have BKgb := n1_; clear n0_ n1_; clear hnew hgr hb))
  obtain ⟨hb0, hb1, hb2⟩ := g_cells3 BKgb.out
  go_wp2_with (first | (go_at_call 35; refine (ir_Right.calls _ _ _ l1 _ _ l2 _ _ _ (Kd.C_below HR1.out HB.out) HC1.out (Kd.C_below HR2.out HB.out) HC2.out (HG.out.below (Nat.le_refl _) HB.out) HRT.out).mono ?_; rintro e wb ⟨rfl, hb⟩; have n0_ := Aside0.mk (below_step (by repeat (first | (with_reducible first | exact HB.out | apply below_alloc | apply pw_below_drewN | apply below_drew1) | exact HB.out)) hb); have n1_ := Aside0.mk (blk_below BKgb.out hb); have n2_ := Aside0.mk (blk_below BKgr.out hb); clear HB BKgb BKgr; have HB := n0_; have BKgb := n1_; have BKgr := n2_; clear n0_ n1_ n2_; clear hb0 hb1 hb2; clear hb; obtain ⟨hb0, hb1, hb2⟩ := g_cells3 BKgb.out) | ((with_reducible refine gate_store (t := 25) (p := 2) rfl ?_); refine g_store rfl (t := 25) rfl rfl rfl rfl BKgr.out (by kernel_rfl) rfl (by first | (simp; done) | (simp [Value.oneCell']; done) | (simp; rfl)) ?_; intro wb hnew hgr; have n0_ := Aside0.mk (g_below HB.out hgr Ggr.out HB.out.size); have n1_ := Aside0.mk (hnew); clear HB BKgr; have HB := n0_; have BKgr := n1_; clear n0_ n1_; clear hnew hgr))
  refine bodyPost_ret (results_cell_row rfl _ _ gr 25 #[.int .i64 v, .slice A1 l1.length c1, .slice A2 l2.length c2] (0, 0) _ rfl BKgr.out Tryd.underlying25 rfl (by kernel_rfl)) rfl ?_
  exact ⟨rfl, HB.out⟩
/-- What becomes of a block. -/
def reB (b : S36) : S36 := ⟨stL (fun _ => none) b.f0, b.f1⟩
/-- Are its sizes and its numbers such as Go holds? -/
def okT (l1 : List Int) (l2 : List S36) : Prop := l1.length < 17592186044416 ∧ l2.length ≤ 4000 ∧ okIds l2 ∧ ∀ b ∈ l2, okB b.f0
instance (l1 : List Int) (l2 : List S36) : Decidable (okT l1 l2) := by unfold okT; exact inferInstance
theorem reuse_l0 (l : List S36) (v : Int) (k : List Int) (h4 : l.length ≤ 4000) (hb : ∀ b ∈ l, okB b.f0) : ∀ (d j : Nat) (acc : List S36), j + d = l.length → acc.length = j → reload_Reuse.l0 (d + 1) l (l.length : Int) (j : Int) v k acc = some (v, k, acc ++ (l.drop j).map reB) := by
  intro d
  induction d with
  | zero =>
    intro j acc hj ha
    have hj2 : j = l.length := by omega
    subst hj2
    rw [reload_Reuse.l0, if_neg (by omega), List.drop_length]
    simp
  | succ d ih =>
    intro j acc hj ha
    have hlt : j < l.length := by omega
    rw [reload_Reuse.l0, if_pos (by omega), if_pos (by omega), if_pos (by omega), show rd_T36 l (j : Int) = l.getD j z36 by simp [rd_T36]]
    have hok : okB (l.getD j z36).f0 := hb _ (by simp [hlt])
    rw [reload_block.f, if_pos hok, Option.bind_some, if_pos (by omega), show wrap64 ((j : Int) + 1) = ((j + 1 : Nat) : Int) by unfold wrap64; omega]
    refine (ih (j + 1) _ (by omega) (by simp [ha])).trans ?_
    rw [g_drop l z36 j hlt]
    simp [reB]
theorem reuse_f (v : Int) (k : List Int) (l : List S36) (h : okT k l) (hr : rightB v k l 200 = true) : reload_Reuse.f (l.length + 1) v k l = some (v, k, l.map reB) := by
  rw [reload_Reuse.f, ir_Right.f, if_pos h.2.2.1, Option.bind_some, hr, if_pos rfl, slices_Clone_int_int.f, if_pos h.1, Option.bind_some]
  exact reuse_l0 l v k h.2.1 h.2.2.2 l.length 0 [] (by omega) rfl
theorem stL_len : ∀ (l : List S38) (g : Int → Option Int), (stL g l).length = l.length
  | [], _ => rfl
  | i :: r, g => by simp [stL, stL_len r]
theorem fits_re (l : List S36) (h4 : l.length ≤ 4000) (hb : ∀ b ∈ l, okB b.f0) : fits (l.map reB) l := by
  refine ⟨by simp, by simpa using h4, fun j hj => ?_⟩
  rw [List.length_map] at hj
  have e : ((l.map reB).getD j z36).f0.length = (l.getD j z36).f0.length := by simp [hj, reB, stL_len]
  rw [e]
  exact ⟨Nat.le_refl _, (hb _ (by simp [hj])).1⟩
theorem fits_self (l : List S36) (h4 : l.length ≤ 4000) (hb : ∀ b ∈ l, okB b.f0) : fits l l :=
  ⟨Nat.le_refl _, h4, fun j hj => ⟨Nat.le_refl _, (hb _ (by simp [hj])).1⟩⟩
theorem goneB_self : ∀ l : List S38, goneB l l = []
  | [] => rfl
  | i :: r => by rw [goneB, (insEq_iff i i).2 rfl, goneB_self r]; rfl
theorem goneL_self : ∀ l : List S36, goneL l l = []
  | [] => rfl
  | b :: r => by rw [goneL, goneB_self, goneL_self r]; rfl
def reload_Gone.f (v : Int) (k : List Int) (l : List (S36)) : Option (List Int) := if okT k l then some (cond (rightB v k l 200) (goneL (l.map reB) l) []) else none
theorem reload_Gone.calls (a0_0 : Int) (A0_1 : Option Addr) (c0_1 : Nat) (l0_1 : List Int) (A0_2 : Option Addr) (c0_2 : Nat) (l0_2 : List (S36)) (r : List Int) (w : World) (hr0_1 : Kd.C (Kd.int .i64) w A0_1 l0_1.length l0_1) (hc0_1 : l0_1.length ≤ c0_1) (hr0_2 : Kd.C k36 w A0_2 l0_2.length l0_2) (hc0_2 : l0_2.length ≤ c0_2) (hG : OpsLaid w) (h : reload_Gone.f a0_0 l0_1 l0_2 = some r) :
    Calls Tryd.prog 13 #[.agg #[.int .i64 a0_0, .slice A0_1 l0_1.length c0_1, .slice A0_2 l0_2.length c0_2]] w fun e w' => ∃ v0_ : Value, e = .returned (v0_) ∧ Kd.R (Kd.int .i64) 3 w' w.heap.size (fun _ => True) v0_ r ∧ Below w.heap.size w w' := by
  have hok : okT l0_1 l0_2 := by
    unfold reload_Gone.f at h
    by_cases e : okT l0_1 l0_2
    · exact e
    · rw [if_neg e] at h; cases h
  unfold reload_Gone.f at h
  rw [if_pos hok] at h
  injection h with h
  cases hrt : rightB a0_0 l0_1 l0_2 200 with
  | true =>
    rw [hrt] at h
    subst h
    refine gone_walk a0_0 A0_1 c0_1 l0_1 A0_2 c0_2 l0_2 (l0_2.map reB) w hr0_2 (fits_re l0_2 hok.2.1 hok.2.2.2) (fun W hW => ?_)
    refine (reload_Reuse.calls _ _ _ _ l0_1 _ _ l0_2 _ _ _ W (Kd.C_below hr0_1 hW) hc0_1 (Kd.C_below hr0_2 hW) hc0_2 (hG.below (Nat.le_refl _) hW) (reuse_f _ _ _ hok hrt)).mono ?_
    rintro e w' ⟨v1, v2, rfl, h1, h2, hb⟩
    obtain ⟨A3, c3, rfl⟩ := Kd.R_slice h1
    obtain ⟨AX, cX, rfl, _, hc⟩ := Kd.S_reads h2
    exact ⟨_, _, _, _, _, _, rfl, hc, hb⟩
  | false =>
    rw [hrt] at h
    subst h
    have key := gone_walk a0_0 A0_1 c0_1 l0_1 A0_2 c0_2 l0_2 l0_2 w hr0_2 (fits_self l0_2 hok.2.1 hok.2.2.2) (fun W hW => by
      refine (reuse_not a0_0 _ _ l0_1 _ _ l0_2 W (Kd.C_below hr0_1 hW) hc0_1 (Kd.C_below hr0_2 hW) hc0_2 (hG.below (Nat.le_refl _) hW) (by rw [ir_Right.f, if_pos hok.2.2.1, hrt])).mono ?_
      rintro e w' ⟨rfl, hb⟩
      exact ⟨_, _, _, _, _, _, rfl, Kd.C_below (Kd.C_below hr0_2 hW) hb, hb⟩)
    rw [goneL_self] at key
    exact key


end Go.Proofs.YtgenmfbidpmneaaDoor.PReloadActions
