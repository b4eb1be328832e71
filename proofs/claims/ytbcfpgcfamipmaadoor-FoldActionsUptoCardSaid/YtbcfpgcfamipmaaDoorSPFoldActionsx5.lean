-- printed by a program of this session (wip/mp.py: the kit's printer, patched, over the session's own templates); checked by Lean alone
import Derived.Test.YtbcfpgcfamipmaaDoorSPFoldActionsx0
import Derived.Test.YtbcfpgcfamipmaaDoorSPFoldActionsx1
import Derived.Test.YtbcfpgcfamipmaaDoorSPFoldActionsx3
namespace Go.Proofs.YtbcfpgcfamipmaaDoor.PFoldActions
open Go.RowKit Go.Proofs.YtbcfpgcfamipmaaDoorW.PrintWords Go.Proofs.YtbcfpgcfamipmaaDoorW.PrintLast Go.Proofs.YtbcfpgcfamipmaaDoorW.PrintMore
attribute [local go_sem] max2_int min2_int max_two min_two max_three min_three max_four min_four   -- for this text's walks alone
set_option linter.unusedVariables false
set_option linter.unusedSimpArgs false

attribute [local go_sem high] eqA34
/-! ### ir_ends: function 46 -/
def ir_ends.f (a0_0 : Int) (a0_1 : Int) (a0_2 : Int) (a0_3 : Int) (a1_0 : Int) (l1_1 : List Int) (l1_2 : List (S36)) : Option (Bool) := if a0_0 = 1 then ((ir_within.f true a0_2 (l1_2.length : Int)).bind fun t117 => (if t117 = true then (if a0_1 = 0 then (some (a0_3 == 0)) else (some false)) else (some false))) else (if a0_0 = 2 then ((ir_within.f true a0_2 (l1_2.length : Int)).bind fun t118 => (if t118 = true then ((ir_within.f true a0_3 (l1_2.length : Int)).bind fun t119 => (if t119 = true then ((ir_within.f true a0_1 a1_0).bind fun t120 => (some t120)) else (some false))) else (some false))) else (if a0_0 = 3 then (some (a0_0 == 3 && (a0_1 == 0 && (a0_2 == 0 && (a0_3 == 0))))) else (some false)))
theorem z46_0 {p : Prop} (h : p := by repeat (first | (with_reducible first | exact HB.out | apply below_alloc | apply pw_below_drewN | apply below_drew1 | refine below_set ?_ GE115.out) | exact HB.out)) : p := h
theorem z46_1 {p : Prop} (h : p := by repeat (first | (with_reducible first | exact HB.out | apply below_alloc | apply pw_below_drewN | apply below_drew1) | exact HB.out)) : p := h
theorem z46_2 {p : Prop} (h : p := by (with_reducible repeat (first | refine blk_drewN ?_ _ | refine blk_drew ?_ | refine blk_alloc ?_ _)); exact BK115.out) : p := h
theorem z46_3 {p : Prop} (h : p := by (try simp only [List.map_toArray, List.map_cons, List.map_nil]); first | done | rfl | (simp only [List.length_drop, List.length_take]; rfl)) : p := h
set_option maxHeartbeats 8000000 in
set_option maxRecDepth 100000 in
theorem ir_ends.calls (a0_0 : Int) (a0_1 : Int) (a0_2 : Int) (a0_3 : Int) (a1_0 : Int) (A1_1 : Option Addr) (c1_1 : Nat) (l1_1 : List Int) (A1_2 : Option Addr) (c1_2 : Nat) (l1_2 : List (S36)) (r : Bool) (w : World) (hr1_1 : Kd.C (Kd.int .i64) w A1_1 l1_1.length l1_1) (hc1_1 : l1_1.length ≤ c1_1) (hr1_2 : Kd.C k36 w A1_2 l1_2.length l1_2) (hc1_2 : l1_2.length ≤ c1_2) (h : ir_ends.f a0_0 a0_1 a0_2 a0_3 a1_0 l1_1 l1_2 = some r) :
  Calls Tryd.prog 46 #[.agg #[.int .i64 a0_0, .int .i64 a0_1, .int .i64 a0_2, .int .i64 a0_3], .agg #[.int .i64 a1_0, .slice A1_1 l1_1.length c1_1, .slice A1_2 l1_2.length c1_2]] w fun e w' => e = .returned (.bool r) ∧ Below w.heap.size w w' := by
 have hu34 := Tryd.underlying34; have hu25 := Tryd.underlying25; have HR1_1 := Aside0.mk hr1_1; have HC1_1 := Aside0.mk hc1_1; clear hr1_1 hc1_1; have HR1_2 := Aside0.mk hr1_2; have HC1_2 := Aside0.mk hc1_2; clear hr1_2 hc1_2; have HB := Aside0.mk (Below.refl w.heap.size w); have H : (if a0_0 = 1 then ((ir_within.f true a0_2 (l1_2.length : Int)).bind fun t117 => (if t117 = true then (if a0_1 = 0 then (some (a0_3 == 0)) else (some false)) else (some false))) else (if a0_0 = 2 then ((ir_within.f true a0_2 (l1_2.length : Int)).bind fun t118 => (if t118 = true then ((ir_within.f true a0_3 (l1_2.length : Int)).bind fun t119 => (if t119 = true then ((ir_within.f true a0_1 a1_0).bind fun t120 => (some t120)) else (some false))) else (some false))) else (if a0_0 = 3 then (some (a0_0 == 3 && (a0_1 == 0 && (a0_2 == 0 && (a0_3 == 0))))) else (some false)))) = some r := h; clear h
 by_cases c3 : a0_0 = 1
 ·rw [if_pos c3] at H
  have c3b0 : (a0_0 == 1) = true := beq_iff_eq.mpr c3; have c3b1 : (a0_0 != 1) = false := bne_eq_false_iff_eq.mpr c3; clear c3; replace H := Option.bind_eq_some_iff.mp H; obtain ⟨t117, A40, H⟩ := H; replace H : (if t117 = true then (if a0_1 = 0 then (some (a0_3 == 0)) else (some false)) else (some false)) = some r := H; have A4 := Aside0.mk A40; clear A40
  by_cases c5 : t117 = true
  ·subst c5
   have H1 : (if a0_1 = 0 then (some (a0_3 == 0)) else (some false)) = some r := by rw [if_pos rfl] at H; exact H
   clear H; have H := H1; clear H1
   by_cases c6 : a0_1 = 0
   ·rw [if_pos c6] at H
    have c6b0 : (a0_1 == 0) = true := beq_iff_eq.mpr c6; have c6b1 : (a0_1 != 0) = false := bne_eq_false_iff_eq.mpr c6; clear c6; obtain rfl := Option.some.inj H
    go_enter Tryd.func46, Tryd.ntmps46
    go_wp2_with (first | ((with_reducible refine gate_dst (N := 2) rfl ?_); refine box_event ?hg (N := 2) ?hd (cs := #[.int .i64 a0_0, .int .i64 a0_1, .int .i64 a0_2, .int .i64 a0_3]) (t := 34) ?hr ?_; (case hd => rfl); (case hg => rfl); (case hr => first | (go_simp; done) | (go_simp; rfl)); intro gb115 hg w7 hbox hb; have n0_ := Aside0.mk (below_step z46_1 hb); have n1_ := Aside0.mk (hbox); have n2_ := Aside0.mk ((by rw [hg]; exact (below_size z46_1) : w.heap.size ≤ gb115)); have n3_ := n2_; clear HB; revert n0_ n1_ n2_ n3_; intro HB BK115 GW115 GE115; clear hb hbox hg) | ((with_reducible refine gate_dst (N := 3) rfl ?_); refine box_event ?hg (N := 3) ?hd (cs := #[.int .i64 a1_0, .slice A1_1 l1_1.length c1_1, .slice A1_2 l1_2.length c1_2]) (t := 25) ?hr ?_; (case hd => rfl); (case hg => rfl); (case hr => first | (go_simp; done) | (go_simp; rfl)); intro gb116 hg w8 hbox hb; have n0_ := Aside0.mk (blk_below (g := gb115) (o := .cells #[.int .i64 a0_0, .int .i64 a0_1, .int .i64 a0_2, .int .i64 a0_3] 34 (0, 0)) z46_2 hb); have n1_ := Aside0.mk (below_step z46_0 hb); have n2_ := Aside0.mk (hbox); have n3_ := Aside0.mk ((by rw [hg]; exact (below_size z46_0) : w.heap.size ≤ gb116)); have n4_ := n3_; have n5_ := Aside0.mk ((by rw [hg]; exact Nat.ne_of_lt (blk_lt (g := gb115) (o := .cells #[.int .i64 a0_0, .int .i64 a0_1, .int .i64 a0_2, .int .i64 a0_3] 34 (0, 0)) z46_2) : gb115 ≠ gb116)); have n6_ := Aside0.mk (Ne.symm n5_.out); clear BK115 HB; revert n0_ n1_ n2_ n3_ n4_ n5_ n6_; intro BK115 HB BK116 GW116 GE116 NB115_116 NB116_115; clear hb hbox hg; have hnb9 := NB116_115.out; have hnc9 := NB115_116.out; have hcz10_0 : w8.cell? ⟨gb116, 0, none⟩ = some (.int .i64 a1_0) := (blk_cell BK116.out 0).trans rfl; have hcz10_1 : w8.cell? ⟨gb116, 1, none⟩ = some (.slice A1_1 l1_1.length c1_1) := (blk_cell BK116.out 1).trans rfl; have hcz10_2 : w8.cell? ⟨gb116, 2, none⟩ = some (.slice A1_2 l1_2.length c1_2) := (blk_cell BK116.out 2).trans rfl; have hfz10_0 := blk_frozen BK116.out 0; have hfz10_1 := blk_frozen BK116.out 1; have hfz10_2 := blk_frozen BK116.out 2; have hcz11_0 : w8.cell? ⟨gb115, 0, none⟩ = some (.int .i64 a0_0) := (blk_cell BK115.out 0).trans rfl; have hcz11_1 : w8.cell? ⟨gb115, 1, none⟩ = some (.int .i64 a0_1) := (blk_cell BK115.out 1).trans rfl; have hcz11_2 : w8.cell? ⟨gb115, 2, none⟩ = some (.int .i64 a0_2) := (blk_cell BK115.out 2).trans rfl; have hcz11_3 : w8.cell? ⟨gb115, 3, none⟩ = some (.int .i64 a0_3) := (blk_cell BK115.out 3).trans rfl; have hfz11_0 := blk_frozen BK115.out 0; have hfz11_1 := blk_frozen BK115.out 1; have hfz11_2 := blk_frozen BK115.out 2; have hfz11_3 := blk_frozen BK115.out 3) | ((with_reducible refine gate_callee (f := 72) rfl ?_); refine goesL_ (some 16) rfl rfl Tryd.func72 (by kernel_rfl) rfl #[.bool true, .int .i64 a0_2, .int .i64 (l1_2.length : Int)] rfl z46_3 ?_; (with_reducible refine (ir_within.calls true a0_2 (l1_2.length : Int) true _ A4.out).mono ?_); rintro e w' ⟨rfl, ⟨nd, rfl⟩⟩; refine ⟨_, rfl, ?_⟩))
    go_ret
    exact ⟨by first | rfl | (simp [errW_none, errW_some] <;> rfl) | (simp [*, errW_none, errW_some] <;> rfl), by repeat (first | (with_reducible first | exact HB.out | apply below_alloc | apply pw_below_drewN | apply below_drew1 | refine below_set ?_ GE115.out | refine below_set ?_ GE116.out) | exact HB.out)⟩
   ·rw [if_neg c6] at H
    have c6b0 : (a0_1 == 0) = false := beq_eq_false_iff_ne.mpr c6; have c6b1 : (a0_1 != 0) = true := bne_iff_ne.mpr c6; obtain rfl := Option.some.inj H
    go_enter Tryd.func46, Tryd.ntmps46
    go_wp2_with (first | ((with_reducible refine gate_dst (N := 2) rfl ?_); refine box_event ?hg (N := 2) ?hd (cs := #[.int .i64 a0_0, .int .i64 a0_1, .int .i64 a0_2, .int .i64 a0_3]) (t := 34) ?hr ?_; (case hd => rfl); (case hg => rfl); (case hr => first | (go_simp; done) | (go_simp; rfl)); intro gb115 hg w12 hbox hb; have n0_ := Aside0.mk (below_step z46_1 hb); have n1_ := Aside0.mk (hbox); have n2_ := Aside0.mk ((by rw [hg]; exact (below_size z46_1) : w.heap.size ≤ gb115)); have n3_ := n2_; clear HB; revert n0_ n1_ n2_ n3_; intro HB BK115 GW115 GE115; clear hb hbox hg) | ((with_reducible refine gate_dst (N := 3) rfl ?_); refine box_event ?hg (N := 3) ?hd (cs := #[.int .i64 a1_0, .slice A1_1 l1_1.length c1_1, .slice A1_2 l1_2.length c1_2]) (t := 25) ?hr ?_; (case hd => rfl); (case hg => rfl); (case hr => first | (go_simp; done) | (go_simp; rfl)); intro gb116 hg w13 hbox hb; have n0_ := Aside0.mk (blk_below (g := gb115) (o := .cells #[.int .i64 a0_0, .int .i64 a0_1, .int .i64 a0_2, .int .i64 a0_3] 34 (0, 0)) z46_2 hb); have n1_ := Aside0.mk (below_step z46_0 hb); have n2_ := Aside0.mk (hbox); have n3_ := Aside0.mk ((by rw [hg]; exact (below_size z46_0) : w.heap.size ≤ gb116)); have n4_ := n3_; have n5_ := Aside0.mk ((by rw [hg]; exact Nat.ne_of_lt (blk_lt (g := gb115) (o := .cells #[.int .i64 a0_0, .int .i64 a0_1, .int .i64 a0_2, .int .i64 a0_3] 34 (0, 0)) z46_2) : gb115 ≠ gb116)); have n6_ := Aside0.mk (Ne.symm n5_.out); clear BK115 HB; revert n0_ n1_ n2_ n3_ n4_ n5_ n6_; intro BK115 HB BK116 GW116 GE116 NB115_116 NB116_115; clear hb hbox hg; have hnb14 := NB116_115.out; have hnc14 := NB115_116.out; have hcz15_0 : w13.cell? ⟨gb116, 0, none⟩ = some (.int .i64 a1_0) := (blk_cell BK116.out 0).trans rfl; have hcz15_1 : w13.cell? ⟨gb116, 1, none⟩ = some (.slice A1_1 l1_1.length c1_1) := (blk_cell BK116.out 1).trans rfl; have hcz15_2 : w13.cell? ⟨gb116, 2, none⟩ = some (.slice A1_2 l1_2.length c1_2) := (blk_cell BK116.out 2).trans rfl; have hfz15_0 := blk_frozen BK116.out 0; have hfz15_1 := blk_frozen BK116.out 1; have hfz15_2 := blk_frozen BK116.out 2; have hcz16_0 : w13.cell? ⟨gb115, 0, none⟩ = some (.int .i64 a0_0) := (blk_cell BK115.out 0).trans rfl; have hcz16_1 : w13.cell? ⟨gb115, 1, none⟩ = some (.int .i64 a0_1) := (blk_cell BK115.out 1).trans rfl; have hcz16_2 : w13.cell? ⟨gb115, 2, none⟩ = some (.int .i64 a0_2) := (blk_cell BK115.out 2).trans rfl; have hcz16_3 : w13.cell? ⟨gb115, 3, none⟩ = some (.int .i64 a0_3) := (blk_cell BK115.out 3).trans rfl; have hfz16_0 := blk_frozen BK115.out 0; have hfz16_1 := blk_frozen BK115.out 1; have hfz16_2 := blk_frozen BK115.out 2; have hfz16_3 := blk_frozen BK115.out 3) | ((with_reducible refine gate_callee (f := 72) rfl ?_); refine goesL_ (some 16) rfl rfl Tryd.func72 (by kernel_rfl) rfl #[.bool true, .int .i64 a0_2, .int .i64 (l1_2.length : Int)] rfl z46_3 ?_; (with_reducible refine (ir_within.calls true a0_2 (l1_2.length : Int) true _ A4.out).mono ?_); rintro e w' ⟨rfl, ⟨nd, rfl⟩⟩; refine ⟨_, rfl, ?_⟩))
    go_ret
    exact ⟨by first | rfl | (simp [errW_none, errW_some] <;> rfl) | (simp [*, errW_none, errW_some] <;> rfl), by repeat (first | (with_reducible first | exact HB.out | apply below_alloc | apply pw_below_drewN | apply below_drew1 | refine below_set ?_ GE115.out | refine below_set ?_ GE116.out) | exact HB.out)⟩
  ·replace c5 := Bool.eq_false_iff.mpr c5
   subst c5
   have H1 : (some false) = some r := by rw [if_neg (show ¬ (false = true) by decide)] at H; exact H
   clear H; have H := H1; clear H1; obtain rfl := Option.some.inj H
   go_enter Tryd.func46, Tryd.ntmps46
   go_wp2_with (first | ((with_reducible refine gate_dst (N := 2) rfl ?_); refine box_event ?hg (N := 2) ?hd (cs := #[.int .i64 a0_0, .int .i64 a0_1, .int .i64 a0_2, .int .i64 a0_3]) (t := 34) ?hr ?_; (case hd => rfl); (case hg => rfl); (case hr => first | (go_simp; done) | (go_simp; rfl)); intro gb115 hg w17 hbox hb; have n0_ := Aside0.mk (below_step z46_1 hb); have n1_ := Aside0.mk (hbox); have n2_ := Aside0.mk ((by rw [hg]; exact (below_size z46_1) : w.heap.size ≤ gb115)); have n3_ := n2_; clear HB; revert n0_ n1_ n2_ n3_; intro HB BK115 GW115 GE115; clear hb hbox hg) | ((with_reducible refine gate_dst (N := 3) rfl ?_); refine box_event ?hg (N := 3) ?hd (cs := #[.int .i64 a1_0, .slice A1_1 l1_1.length c1_1, .slice A1_2 l1_2.length c1_2]) (t := 25) ?hr ?_; (case hd => rfl); (case hg => rfl); (case hr => first | (go_simp; done) | (go_simp; rfl)); intro gb116 hg w18 hbox hb; have n0_ := Aside0.mk (blk_below (g := gb115) (o := .cells #[.int .i64 a0_0, .int .i64 a0_1, .int .i64 a0_2, .int .i64 a0_3] 34 (0, 0)) z46_2 hb); have n1_ := Aside0.mk (below_step z46_0 hb); have n2_ := Aside0.mk (hbox); have n3_ := Aside0.mk ((by rw [hg]; exact (below_size z46_0) : w.heap.size ≤ gb116)); have n4_ := n3_; have n5_ := Aside0.mk ((by rw [hg]; exact Nat.ne_of_lt (blk_lt (g := gb115) (o := .cells #[.int .i64 a0_0, .int .i64 a0_1, .int .i64 a0_2, .int .i64 a0_3] 34 (0, 0)) z46_2) : gb115 ≠ gb116)); have n6_ := Aside0.mk (Ne.symm n5_.out); clear BK115 HB; revert n0_ n1_ n2_ n3_ n4_ n5_ n6_; intro BK115 HB BK116 GW116 GE116 NB115_116 NB116_115; clear hb hbox hg; have hnb19 := NB116_115.out; have hnc19 := NB115_116.out; have hcz20_0 : w18.cell? ⟨gb116, 0, none⟩ = some (.int .i64 a1_0) := (blk_cell BK116.out 0).trans rfl; have hcz20_1 : w18.cell? ⟨gb116, 1, none⟩ = some (.slice A1_1 l1_1.length c1_1) := (blk_cell BK116.out 1).trans rfl; have hcz20_2 : w18.cell? ⟨gb116, 2, none⟩ = some (.slice A1_2 l1_2.length c1_2) := (blk_cell BK116.out 2).trans rfl; have hfz20_0 := blk_frozen BK116.out 0; have hfz20_1 := blk_frozen BK116.out 1; have hfz20_2 := blk_frozen BK116.out 2; have hcz21_0 : w18.cell? ⟨gb115, 0, none⟩ = some (.int .i64 a0_0) := (blk_cell BK115.out 0).trans rfl; have hcz21_1 : w18.cell? ⟨gb115, 1, none⟩ = some (.int .i64 a0_1) := (blk_cell BK115.out 1).trans rfl; have hcz21_2 : w18.cell? ⟨gb115, 2, none⟩ = some (.int .i64 a0_2) := (blk_cell BK115.out 2).trans rfl; have hcz21_3 : w18.cell? ⟨gb115, 3, none⟩ = some (.int .i64 a0_3) := (blk_cell BK115.out 3).trans rfl; have hfz21_0 := blk_frozen BK115.out 0; have hfz21_1 := blk_frozen BK115.out 1; have hfz21_2 := blk_frozen BK115.out 2; have hfz21_3 := blk_frozen BK115.out 3) | ((with_reducible refine gate_callee (f := 72) rfl ?_); refine goesL_ (some 16) rfl rfl Tryd.func72 (by kernel_rfl) rfl #[.bool true, .int .i64 a0_2, .int .i64 (l1_2.length : Int)] rfl z46_3 ?_; (with_reducible refine (ir_within.calls true a0_2 (l1_2.length : Int) false _ A4.out).mono ?_); rintro e w' ⟨rfl, ⟨nd, rfl⟩⟩; refine ⟨_, rfl, ?_⟩))
   go_ret
   exact ⟨by first | rfl | (simp [errW_none, errW_some] <;> rfl) | (simp [*, errW_none, errW_some] <;> rfl), by repeat (first | (with_reducible first | exact HB.out | apply below_alloc | apply pw_below_drewN | apply below_drew1 | refine below_set ?_ GE115.out | refine below_set ?_ GE116.out) | exact HB.out)⟩
 ·rw [if_neg c3] at H
  have c3b0 : (a0_0 == 1) = false := beq_eq_false_iff_ne.mpr c3; have c3b1 : (a0_0 != 1) = true := bne_iff_ne.mpr c3
  by_cases c22 : a0_0 = 2
  ·rw [if_pos c22] at H
   have c22b0 : (a0_0 == 2) = true := beq_iff_eq.mpr c22; have c22b1 : (a0_0 != 2) = false := bne_eq_false_iff_eq.mpr c22; clear c22; replace H := Option.bind_eq_some_iff.mp H; obtain ⟨t118, A230, H⟩ := H; replace H : (if t118 = true then ((ir_within.f true a0_3 (l1_2.length : Int)).bind fun t119 => (if t119 = true then ((ir_within.f true a0_1 a1_0).bind fun t120 => (some t120)) else (some false))) else (some false)) = some r := H; have A23 := Aside0.mk A230; clear A230
   by_cases c24 : t118 = true
   ·subst c24
    have H1 : ((ir_within.f true a0_3 (l1_2.length : Int)).bind fun t119 => (if t119 = true then ((ir_within.f true a0_1 a1_0).bind fun t120 => (some t120)) else (some false))) = some r := by rw [if_pos rfl] at H; exact H
    clear H; have H := H1; clear H1; replace H := Option.bind_eq_some_iff.mp H; obtain ⟨t119, A250, H⟩ := H; replace H : (if t119 = true then ((ir_within.f true a0_1 a1_0).bind fun t120 => (some t120)) else (some false)) = some r := H; have A25 := Aside0.mk A250; clear A250
    by_cases c26 : t119 = true
    ·subst c26
     have H1 : ((ir_within.f true a0_1 a1_0).bind fun t120 => (some t120)) = some r := by rw [if_pos rfl] at H; exact H
     clear H; have H := H1; clear H1; replace H := Option.bind_eq_some_iff.mp H; obtain ⟨t120, A270, H⟩ := H; replace H : (some t120) = some r := H; have A27 := Aside0.mk A270; clear A270; obtain rfl := Option.some.inj H
     go_enter Tryd.func46, Tryd.ntmps46
     go_wp2_with (first | ((with_reducible refine gate_dst (N := 2) rfl ?_); refine box_event ?hg (N := 2) ?hd (cs := #[.int .i64 a0_0, .int .i64 a0_1, .int .i64 a0_2, .int .i64 a0_3]) (t := 34) ?hr ?_; (case hd => rfl); (case hg => rfl); (case hr => first | (go_simp; done) | (go_simp; rfl)); intro gb115 hg w28 hbox hb; have n0_ := Aside0.mk (below_step z46_1 hb); have n1_ := Aside0.mk (hbox); have n2_ := Aside0.mk ((by rw [hg]; exact (below_size z46_1) : w.heap.size ≤ gb115)); have n3_ := n2_; clear HB; revert n0_ n1_ n2_ n3_; intro HB BK115 GW115 GE115; clear hb hbox hg) | ((with_reducible refine gate_dst (N := 3) rfl ?_); refine box_event ?hg (N := 3) ?hd (cs := #[.int .i64 a1_0, .slice A1_1 l1_1.length c1_1, .slice A1_2 l1_2.length c1_2]) (t := 25) ?hr ?_; (case hd => rfl); (case hg => rfl); (case hr => first | (go_simp; done) | (go_simp; rfl)); intro gb116 hg w29 hbox hb; have n0_ := Aside0.mk (blk_below (g := gb115) (o := .cells #[.int .i64 a0_0, .int .i64 a0_1, .int .i64 a0_2, .int .i64 a0_3] 34 (0, 0)) z46_2 hb); have n1_ := Aside0.mk (below_step z46_0 hb); have n2_ := Aside0.mk (hbox); have n3_ := Aside0.mk ((by rw [hg]; exact (below_size z46_0) : w.heap.size ≤ gb116)); have n4_ := n3_; have n5_ := Aside0.mk ((by rw [hg]; exact Nat.ne_of_lt (blk_lt (g := gb115) (o := .cells #[.int .i64 a0_0, .int .i64 a0_1, .int .i64 a0_2, .int .i64 a0_3] 34 (0, 0)) z46_2) : gb115 ≠ gb116)); have n6_ := Aside0.mk (Ne.symm n5_.out); clear BK115 HB; revert n0_ n1_ n2_ n3_ n4_ n5_ n6_; intro BK115 HB BK116 GW116 GE116 NB115_116 NB116_115; clear hb hbox hg; have hnb30 := NB116_115.out; have hnc30 := NB115_116.out; have hcz31_0 : w29.cell? ⟨gb116, 0, none⟩ = some (.int .i64 a1_0) := (blk_cell BK116.out 0).trans rfl; have hcz31_1 : w29.cell? ⟨gb116, 1, none⟩ = some (.slice A1_1 l1_1.length c1_1) := (blk_cell BK116.out 1).trans rfl; have hcz31_2 : w29.cell? ⟨gb116, 2, none⟩ = some (.slice A1_2 l1_2.length c1_2) := (blk_cell BK116.out 2).trans rfl; have hfz31_0 := blk_frozen BK116.out 0; have hfz31_1 := blk_frozen BK116.out 1; have hfz31_2 := blk_frozen BK116.out 2; have hcz32_0 : w29.cell? ⟨gb115, 0, none⟩ = some (.int .i64 a0_0) := (blk_cell BK115.out 0).trans rfl; have hcz32_1 : w29.cell? ⟨gb115, 1, none⟩ = some (.int .i64 a0_1) := (blk_cell BK115.out 1).trans rfl; have hcz32_2 : w29.cell? ⟨gb115, 2, none⟩ = some (.int .i64 a0_2) := (blk_cell BK115.out 2).trans rfl; have hcz32_3 : w29.cell? ⟨gb115, 3, none⟩ = some (.int .i64 a0_3) := (blk_cell BK115.out 3).trans rfl; have hfz32_0 := blk_frozen BK115.out 0; have hfz32_1 := blk_frozen BK115.out 1; have hfz32_2 := blk_frozen BK115.out 2; have hfz32_3 := blk_frozen BK115.out 3) | ((with_reducible refine gate_callee (f := 72) rfl ?_); refine goesL_ (some 32) rfl rfl Tryd.func72 (by kernel_rfl) rfl #[.bool true, .int .i64 a0_2, .int .i64 (l1_2.length : Int)] rfl z46_3 ?_; (with_reducible refine (ir_within.calls true a0_2 (l1_2.length : Int) true _ A23.out).mono ?_); rintro e w' ⟨rfl, ⟨nd, rfl⟩⟩; refine ⟨_, rfl, ?_⟩) | (go_at_call 72; (with_reducible refine (ir_within.calls true a0_3 (l1_2.length : Int) true _ A25.out).mono ?_); rintro e w' ⟨rfl, ⟨nd, rfl⟩⟩) | (go_at_call 72; (with_reducible refine (ir_within.calls true a0_1 a1_0 t120 _ A27.out).mono ?_); rintro e w' ⟨rfl, ⟨nd, rfl⟩⟩))
     go_ret
     exact ⟨by first | rfl | (simp [errW_none, errW_some] <;> rfl) | (simp [*, errW_none, errW_some] <;> rfl), by repeat (first | (with_reducible first | exact HB.out | apply below_alloc | apply pw_below_drewN | apply below_drew1 | refine below_set ?_ GE115.out | refine below_set ?_ GE116.out) | exact HB.out)⟩
    ·replace c26 := Bool.eq_false_iff.mpr c26
     subst c26
     have H1 : (some false) = some r := by rw [if_neg (show ¬ (false = true) by decide)] at H; exact H
     clear H; have H := H1; clear H1; obtain rfl := Option.some.inj H
     go_enter Tryd.func46, Tryd.ntmps46
     go_wp2_with (first | ((with_reducible refine gate_dst (N := 2) rfl ?_); refine box_event ?hg (N := 2) ?hd (cs := #[.int .i64 a0_0, .int .i64 a0_1, .int .i64 a0_2, .int .i64 a0_3]) (t := 34) ?hr ?_; (case hd => rfl); (case hg => rfl); (case hr => first | (go_simp; done) | (go_simp; rfl)); intro gb115 hg w33 hbox hb; have n0_ := Aside0.mk (below_step z46_1 hb); have n1_ := Aside0.mk (hbox); have n2_ := Aside0.mk ((by rw [hg]; exact (below_size z46_1) : w.heap.size ≤ gb115)); have n3_ := n2_; clear HB; revert n0_ n1_ n2_ n3_; intro HB BK115 GW115 GE115; clear hb hbox hg) | ((with_reducible refine gate_dst (N := 3) rfl ?_); refine box_event ?hg (N := 3) ?hd (cs := #[.int .i64 a1_0, .slice A1_1 l1_1.length c1_1, .slice A1_2 l1_2.length c1_2]) (t := 25) ?hr ?_; (case hd => rfl); (case hg => rfl); (case hr => first | (go_simp; done) | (go_simp; rfl)); intro gb116 hg w34 hbox hb; have n0_ := Aside0.mk (blk_below (g := gb115) (o := .cells #[.int .i64 a0_0, .int .i64 a0_1, .int .i64 a0_2, .int .i64 a0_3] 34 (0, 0)) z46_2 hb); have n1_ := Aside0.mk (below_step z46_0 hb); have n2_ := Aside0.mk (hbox); have n3_ := Aside0.mk ((by rw [hg]; exact (below_size z46_0) : w.heap.size ≤ gb116)); have n4_ := n3_; have n5_ := Aside0.mk ((by rw [hg]; exact Nat.ne_of_lt (blk_lt (g := gb115) (o := .cells #[.int .i64 a0_0, .int .i64 a0_1, .int .i64 a0_2, .int .i64 a0_3] 34 (0, 0)) z46_2) : gb115 ≠ gb116)); have n6_ := Aside0.mk (Ne.symm n5_.out); clear BK115 HB; revert n0_ n1_ n2_ n3_ n4_ n5_ n6_; intro BK115 HB BK116 GW116 GE116 NB115_116 NB116_115; clear hb hbox hg; have hnb35 := NB116_115.out; have hnc35 := NB115_116.out; have hcz36_0 : w34.cell? ⟨gb116, 0, none⟩ = some (.int .i64 a1_0) := (blk_cell BK116.out 0).trans rfl; have hcz36_1 : w34.cell? ⟨gb116, 1, none⟩ = some (.slice A1_1 l1_1.length c1_1) := (blk_cell BK116.out 1).trans rfl; have hcz36_2 : w34.cell? ⟨gb116, 2, none⟩ = some (.slice A1_2 l1_2.length c1_2) := (blk_cell BK116.out 2).trans rfl; have hfz36_0 := blk_frozen BK116.out 0; have hfz36_1 := blk_frozen BK116.out 1; have hfz36_2 := blk_frozen BK116.out 2; have hcz37_0 : w34.cell? ⟨gb115, 0, none⟩ = some (.int .i64 a0_0) := (blk_cell BK115.out 0).trans rfl; have hcz37_1 : w34.cell? ⟨gb115, 1, none⟩ = some (.int .i64 a0_1) := (blk_cell BK115.out 1).trans rfl; have hcz37_2 : w34.cell? ⟨gb115, 2, none⟩ = some (.int .i64 a0_2) := (blk_cell BK115.out 2).trans rfl; have hcz37_3 : w34.cell? ⟨gb115, 3, none⟩ = some (.int .i64 a0_3) := (blk_cell BK115.out 3).trans rfl; have hfz37_0 := blk_frozen BK115.out 0; have hfz37_1 := blk_frozen BK115.out 1; have hfz37_2 := blk_frozen BK115.out 2; have hfz37_3 := blk_frozen BK115.out 3) | ((with_reducible refine gate_callee (f := 72) rfl ?_); refine goesL_ (some 32) rfl rfl Tryd.func72 (by kernel_rfl) rfl #[.bool true, .int .i64 a0_2, .int .i64 (l1_2.length : Int)] rfl z46_3 ?_; (with_reducible refine (ir_within.calls true a0_2 (l1_2.length : Int) true _ A23.out).mono ?_); rintro e w' ⟨rfl, ⟨nd, rfl⟩⟩; refine ⟨_, rfl, ?_⟩) | (go_at_call 72; (with_reducible refine (ir_within.calls true a0_3 (l1_2.length : Int) false _ A25.out).mono ?_); rintro e w' ⟨rfl, ⟨nd, rfl⟩⟩))
     go_ret
     exact ⟨by first | rfl | (simp [errW_none, errW_some] <;> rfl) | (simp [*, errW_none, errW_some] <;> rfl), by repeat (first | (with_reducible first | exact HB.out | apply below_alloc | apply pw_below_drewN | apply below_drew1 | refine below_set ?_ GE115.out | refine below_set ?_ GE116.out) | exact HB.out)⟩
   ·replace c24 := Bool.eq_false_iff.mpr c24
    subst c24
    have H1 : (some false) = some r := by rw [if_neg (show ¬ (false = true) by decide)] at H; exact H
    clear H; have H := H1; clear H1; obtain rfl := Option.some.inj H
    go_enter Tryd.func46, Tryd.ntmps46
    go_wp2_with (first | ((with_reducible refine gate_dst (N := 2) rfl ?_); refine box_event ?hg (N := 2) ?hd (cs := #[.int .i64 a0_0, .int .i64 a0_1, .int .i64 a0_2, .int .i64 a0_3]) (t := 34) ?hr ?_; (case hd => rfl); (case hg => rfl); (case hr => first | (go_simp; done) | (go_simp; rfl)); intro gb115 hg w38 hbox hb; have n0_ := Aside0.mk (below_step z46_1 hb); have n1_ := Aside0.mk (hbox); have n2_ := Aside0.mk ((by rw [hg]; exact (below_size z46_1) : w.heap.size ≤ gb115)); have n3_ := n2_; clear HB; revert n0_ n1_ n2_ n3_; intro HB BK115 GW115 GE115; clear hb hbox hg) | ((with_reducible refine gate_dst (N := 3) rfl ?_); refine box_event ?hg (N := 3) ?hd (cs := #[.int .i64 a1_0, .slice A1_1 l1_1.length c1_1, .slice A1_2 l1_2.length c1_2]) (t := 25) ?hr ?_; (case hd => rfl); (case hg => rfl); (case hr => first | (go_simp; done) | (go_simp; rfl)); intro gb116 hg w39 hbox hb; have n0_ := Aside0.mk (blk_below (g := gb115) (o := .cells #[.int .i64 a0_0, .int .i64 a0_1, .int .i64 a0_2, .int .i64 a0_3] 34 (0, 0)) z46_2 hb); have n1_ := Aside0.mk (below_step z46_0 hb); have n2_ := Aside0.mk (hbox); have n3_ := Aside0.mk ((by rw [hg]; exact (below_size z46_0) : w.heap.size ≤ gb116)); have n4_ := n3_; have n5_ := Aside0.mk ((by rw [hg]; exact Nat.ne_of_lt (blk_lt (g := gb115) (o := .cells #[.int .i64 a0_0, .int .i64 a0_1, .int .i64 a0_2, .int .i64 a0_3] 34 (0, 0)) z46_2) : gb115 ≠ gb116)); have n6_ := Aside0.mk (Ne.symm n5_.out); clear BK115 HB; revert n0_ n1_ n2_ n3_ n4_ n5_ n6_; intro BK115 HB BK116 GW116 GE116 NB115_116 NB116_115; clear hb hbox hg; have hnb40 := NB116_115.out; have hnc40 := NB115_116.out; have hcz41_0 : w39.cell? ⟨gb116, 0, none⟩ = some (.int .i64 a1_0) := (blk_cell BK116.out 0).trans rfl; have hcz41_1 : w39.cell? ⟨gb116, 1, none⟩ = some (.slice A1_1 l1_1.length c1_1) := (blk_cell BK116.out 1).trans rfl; have hcz41_2 : w39.cell? ⟨gb116, 2, none⟩ = some (.slice A1_2 l1_2.length c1_2) := (blk_cell BK116.out 2).trans rfl; have hfz41_0 := blk_frozen BK116.out 0; have hfz41_1 := blk_frozen BK116.out 1; have hfz41_2 := blk_frozen BK116.out 2; have hcz42_0 : w39.cell? ⟨gb115, 0, none⟩ = some (.int .i64 a0_0) := (blk_cell BK115.out 0).trans rfl; have hcz42_1 : w39.cell? ⟨gb115, 1, none⟩ = some (.int .i64 a0_1) := (blk_cell BK115.out 1).trans rfl; have hcz42_2 : w39.cell? ⟨gb115, 2, none⟩ = some (.int .i64 a0_2) := (blk_cell BK115.out 2).trans rfl; have hcz42_3 : w39.cell? ⟨gb115, 3, none⟩ = some (.int .i64 a0_3) := (blk_cell BK115.out 3).trans rfl; have hfz42_0 := blk_frozen BK115.out 0; have hfz42_1 := blk_frozen BK115.out 1; have hfz42_2 := blk_frozen BK115.out 2; have hfz42_3 := blk_frozen BK115.out 3) | ((with_reducible refine gate_callee (f := 72) rfl ?_); refine goesL_ (some 32) rfl rfl Tryd.func72 (by kernel_rfl) rfl #[.bool true, .int .i64 a0_2, .int .i64 (l1_2.length : Int)] rfl z46_3 ?_; (with_reducible refine (ir_within.calls true a0_2 (l1_2.length : Int) false _ A23.out).mono ?_); rintro e w' ⟨rfl, ⟨nd, rfl⟩⟩; refine ⟨_, rfl, ?_⟩))
    go_ret
    exact ⟨by first | rfl | (simp [errW_none, errW_some] <;> rfl) | (simp [*, errW_none, errW_some] <;> rfl), by repeat (first | (with_reducible first | exact HB.out | apply below_alloc | apply pw_below_drewN | apply below_drew1 | refine below_set ?_ GE115.out | refine below_set ?_ GE116.out) | exact HB.out)⟩
  ·rw [if_neg c22] at H
   have c22b0 : (a0_0 == 2) = false := beq_eq_false_iff_ne.mpr c22; have c22b1 : (a0_0 != 2) = true := bne_iff_ne.mpr c22
   by_cases c43 : a0_0 = 3
   ·rw [if_pos c43] at H
    have c43b0 : (a0_0 == 3) = true := beq_iff_eq.mpr c43; have c43b1 : (a0_0 != 3) = false := bne_eq_false_iff_eq.mpr c43; clear c43; obtain rfl := Option.some.inj H
    go_enter Tryd.func46, Tryd.ntmps46
    go_wp2_with (first | ((with_reducible refine gate_dst (N := 2) rfl ?_); refine box_event ?hg (N := 2) ?hd (cs := #[.int .i64 a0_0, .int .i64 a0_1, .int .i64 a0_2, .int .i64 a0_3]) (t := 34) ?hr ?_; (case hd => rfl); (case hg => rfl); (case hr => first | (go_simp; done) | (go_simp; rfl)); intro gb115 hg w44 hbox hb; have n0_ := Aside0.mk (below_step z46_1 hb); have n1_ := Aside0.mk (hbox); have n2_ := Aside0.mk ((by rw [hg]; exact (below_size z46_1) : w.heap.size ≤ gb115)); have n3_ := n2_; clear HB; revert n0_ n1_ n2_ n3_; intro HB BK115 GW115 GE115; clear hb hbox hg) | ((with_reducible refine gate_dst (N := 3) rfl ?_); refine box_event ?hg (N := 3) ?hd (cs := #[.int .i64 a1_0, .slice A1_1 l1_1.length c1_1, .slice A1_2 l1_2.length c1_2]) (t := 25) ?hr ?_; (case hd => rfl); (case hg => rfl); (case hr => first | (go_simp; done) | (go_simp; rfl)); intro gb116 hg w45 hbox hb; have n0_ := Aside0.mk (blk_below (g := gb115) (o := .cells #[.int .i64 a0_0, .int .i64 a0_1, .int .i64 a0_2, .int .i64 a0_3] 34 (0, 0)) z46_2 hb); have n1_ := Aside0.mk (below_step z46_0 hb); have n2_ := Aside0.mk (hbox); have n3_ := Aside0.mk ((by rw [hg]; exact (below_size z46_0) : w.heap.size ≤ gb116)); have n4_ := n3_; have n5_ := Aside0.mk ((by rw [hg]; exact Nat.ne_of_lt (blk_lt (g := gb115) (o := .cells #[.int .i64 a0_0, .int .i64 a0_1, .int .i64 a0_2, .int .i64 a0_3] 34 (0, 0)) z46_2) : gb115 ≠ gb116)); have n6_ := Aside0.mk (Ne.symm n5_.out); clear BK115 HB; revert n0_ n1_ n2_ n3_ n4_ n5_ n6_; intro BK115 HB BK116 GW116 GE116 NB115_116 NB116_115; clear hb hbox hg; have hnb46 := NB116_115.out; have hnc46 := NB115_116.out; have hcz47_0 : w45.cell? ⟨gb116, 0, none⟩ = some (.int .i64 a1_0) := (blk_cell BK116.out 0).trans rfl; have hcz47_1 : w45.cell? ⟨gb116, 1, none⟩ = some (.slice A1_1 l1_1.length c1_1) := (blk_cell BK116.out 1).trans rfl; have hcz47_2 : w45.cell? ⟨gb116, 2, none⟩ = some (.slice A1_2 l1_2.length c1_2) := (blk_cell BK116.out 2).trans rfl; have hfz47_0 := blk_frozen BK116.out 0; have hfz47_1 := blk_frozen BK116.out 1; have hfz47_2 := blk_frozen BK116.out 2; have hcz48_0 : w45.cell? ⟨gb115, 0, none⟩ = some (.int .i64 a0_0) := (blk_cell BK115.out 0).trans rfl; have hcz48_1 : w45.cell? ⟨gb115, 1, none⟩ = some (.int .i64 a0_1) := (blk_cell BK115.out 1).trans rfl; have hcz48_2 : w45.cell? ⟨gb115, 2, none⟩ = some (.int .i64 a0_2) := (blk_cell BK115.out 2).trans rfl; have hcz48_3 : w45.cell? ⟨gb115, 3, none⟩ = some (.int .i64 a0_3) := (blk_cell BK115.out 3).trans rfl; have hfz48_0 := blk_frozen BK115.out 0; have hfz48_1 := blk_frozen BK115.out 1; have hfz48_2 := blk_frozen BK115.out 2; have hfz48_3 := blk_frozen BK115.out 3))
    go_ret
    exact ⟨by first | rfl | (simp [errW_none, errW_some] <;> rfl) | (simp [*, errW_none, errW_some] <;> rfl), by repeat (first | (with_reducible first | exact HB.out | apply below_alloc | apply pw_below_drewN | apply below_drew1 | refine below_set ?_ GE115.out | refine below_set ?_ GE116.out) | exact HB.out)⟩
   ·rw [if_neg c43] at H
    have c43b0 : (a0_0 == 3) = false := beq_eq_false_iff_ne.mpr c43; have c43b1 : (a0_0 != 3) = true := bne_iff_ne.mpr c43; obtain rfl := Option.some.inj H
    go_enter Tryd.func46, Tryd.ntmps46
    go_wp2_with (first | ((with_reducible refine gate_dst (N := 2) rfl ?_); refine box_event ?hg (N := 2) ?hd (cs := #[.int .i64 a0_0, .int .i64 a0_1, .int .i64 a0_2, .int .i64 a0_3]) (t := 34) ?hr ?_; (case hd => rfl); (case hg => rfl); (case hr => first | (go_simp; done) | (go_simp; rfl)); intro gb115 hg w49 hbox hb; have n0_ := Aside0.mk (below_step z46_1 hb); have n1_ := Aside0.mk (hbox); have n2_ := Aside0.mk ((by rw [hg]; exact (below_size z46_1) : w.heap.size ≤ gb115)); have n3_ := n2_; clear HB; revert n0_ n1_ n2_ n3_; intro HB BK115 GW115 GE115; clear hb hbox hg) | ((with_reducible refine gate_dst (N := 3) rfl ?_); refine box_event ?hg (N := 3) ?hd (cs := #[.int .i64 a1_0, .slice A1_1 l1_1.length c1_1, .slice A1_2 l1_2.length c1_2]) (t := 25) ?hr ?_; (case hd => rfl); (case hg => rfl); (case hr => first | (go_simp; done) | (go_simp; rfl)); intro gb116 hg w50 hbox hb; have n0_ := Aside0.mk (blk_below (g := gb115) (o := .cells #[.int .i64 a0_0, .int .i64 a0_1, .int .i64 a0_2, .int .i64 a0_3] 34 (0, 0)) z46_2 hb); have n1_ := Aside0.mk (below_step z46_0 hb); have n2_ := Aside0.mk (hbox); have n3_ := Aside0.mk ((by rw [hg]; exact (below_size z46_0) : w.heap.size ≤ gb116)); have n4_ := n3_; have n5_ := Aside0.mk ((by rw [hg]; exact Nat.ne_of_lt (blk_lt (g := gb115) (o := .cells #[.int .i64 a0_0, .int .i64 a0_1, .int .i64 a0_2, .int .i64 a0_3] 34 (0, 0)) z46_2) : gb115 ≠ gb116)); have n6_ := Aside0.mk (Ne.symm n5_.out); clear BK115 HB; revert n0_ n1_ n2_ n3_ n4_ n5_ n6_; intro BK115 HB BK116 GW116 GE116 NB115_116 NB116_115; clear hb hbox hg; have hnb51 := NB116_115.out; have hnc51 := NB115_116.out; have hcz52_0 : w50.cell? ⟨gb116, 0, none⟩ = some (.int .i64 a1_0) := (blk_cell BK116.out 0).trans rfl; have hcz52_1 : w50.cell? ⟨gb116, 1, none⟩ = some (.slice A1_1 l1_1.length c1_1) := (blk_cell BK116.out 1).trans rfl; have hcz52_2 : w50.cell? ⟨gb116, 2, none⟩ = some (.slice A1_2 l1_2.length c1_2) := (blk_cell BK116.out 2).trans rfl; have hfz52_0 := blk_frozen BK116.out 0; have hfz52_1 := blk_frozen BK116.out 1; have hfz52_2 := blk_frozen BK116.out 2; have hcz53_0 : w50.cell? ⟨gb115, 0, none⟩ = some (.int .i64 a0_0) := (blk_cell BK115.out 0).trans rfl; have hcz53_1 : w50.cell? ⟨gb115, 1, none⟩ = some (.int .i64 a0_1) := (blk_cell BK115.out 1).trans rfl; have hcz53_2 : w50.cell? ⟨gb115, 2, none⟩ = some (.int .i64 a0_2) := (blk_cell BK115.out 2).trans rfl; have hcz53_3 : w50.cell? ⟨gb115, 3, none⟩ = some (.int .i64 a0_3) := (blk_cell BK115.out 3).trans rfl; have hfz53_0 := blk_frozen BK115.out 0; have hfz53_1 := blk_frozen BK115.out 1; have hfz53_2 := blk_frozen BK115.out 2; have hfz53_3 := blk_frozen BK115.out 3))
    go_ret
    exact ⟨by first | rfl | (simp [errW_none, errW_some] <;> rfl) | (simp [*, errW_none, errW_some] <;> rfl), by repeat (first | (with_reducible first | exact HB.out | apply below_alloc | apply pw_below_drewN | apply below_drew1 | refine below_set ?_ GE115.out | refine below_set ?_ GE116.out) | exact HB.out)⟩

/-! ### given: ir_Right.lean -/
-- GIVEN spinnaker/ir.Right rounds=0 making=1
-- NEEDS spinnaker/ir.right
-- NEEDS spinnaker/ir.ends
-- REG []int
-- REG []api.Block
-- INFO int
-- IMPORT Derived.Test.YtbcfpgcfamipmaaDoorEvalM
-- IMPORT Derived.Shelf.Abstract
/-- The first place at which p holds; -1: none. -/
def ixr_int (p : Int → Bool) (l : List Int) : Int := if l.findIdx p < l.length then (l.findIdx p : Int) else -1
theorem ixr_int_hit (p : Int → Bool) (l : List Int) (k : Nat) (hk : k < l.length) (h1 : p (l.getD k 0) = true) (h0 : ∀ j, j < k → p (l.getD j 0) = false) : ixr_int p l = (k : Int) := by
  have e : l.findIdx p = k := by
    refine (List.findIdx_eq hk).2 ⟨by simpa [hk] using h1, fun j hj => ?_⟩
    have := h0 j hj
    have hj2 : j < l.length := by omega
    simpa [hj2] using this
  unfold ixr_int
  rw [e, if_pos hk]
theorem ixr_int_miss (p : Int → Bool) (l : List Int) (h0 : ∀ j, j < l.length → p (l.getD j 0) = false) : ixr_int p l = -1 := by
  have e : l.findIdx p = l.length := by
    refine List.findIdx_eq_length.2 fun x hx => ?_
    obtain ⟨j, hj, rfl⟩ := List.getElem_of_mem hx
    have := h0 j hj
    simpa [hj] using this
  unfold ixr_int
  rw [e, if_neg (by omega)]
theorem ixr_int_any (p : Int → Bool) (l : List Int) : decide (0 ≤ ixr_int p l) = l.any p := by
  unfold ixr_int
  by_cases e : l.findIdx p < l.length
  · rw [if_pos e]
    have h2 : l.any p = true := by rw [List.any_eq_true]; exact ⟨l[l.findIdx p], List.getElem_mem e, List.findIdx_getElem⟩
    rw [h2]
    simp
  · rw [if_neg e]
    have h2 : l.any p = false := by
      rw [List.any_eq_false]
      intro x hx hp
      exact e (List.findIdx_lt_length.2 ⟨x, hx, hp⟩)
    rw [h2]
    rfl
theorem ixr_int.ret {a b : Int} (h : a = b) : Ending.returned (.int .i64 a) = .returned (.int .i64 b) := by rw [h]
set_option maxHeartbeats 2000000 in
theorem ixr_int.index (p : Int → Bool) (g : Nat) (lb : Array Value) (eg : ∀ args w, (callFunc g args).run Tryd.prog w = .ok (.enter g args) w) (A0 : Option Addr) (c0 : Nat) (l0 : List Int) (w : World) (hr0 : Kd.C (Kd.int .i64) w A0 l0.length l0)
    (hp : ∀ (x : Int) (W : World), Below w.heap.size w W → Calls Tryd.prog g (#[.int .i64 x] ++ lb) W fun e w' => e = .returned (.bool (p x)) ∧ Below W.heap.size W w') :
    Calls Tryd.prog 70 #[.slice A0 l0.length c0, .func (.func g) #[] lb] w fun e w' => e = .returned (.int .i64 (ixr_int p l0)) ∧ Below w.heap.size w w' := by
  have HR0 := Aside0.mk hr0
  have HP := Aside0.mk hp
  have HM : l0.length ≤ 9223372036854775807 := hr0.2.1
  clear hr0 hp
  go_enter Tryd.func70, Tryd.ntmps70
  go_wp2
  go_loopg [5, 8] l0.length (fun gg _ s8 wr => ∃ kk : Nat, kk ≤ l0.length ∧ l0.length - kk ≤ gg ∧ s8 = .int .i64 kk ∧ Aside0 (Below w.heap.size w wr) ∧ Aside0 (∀ j, j < kk → p (l0.getD j 0) = false))
  case atStart => exact ⟨0, Nat.zero_le _, by omega, rfl, ⟨Below.refl _ _⟩, ⟨fun j hj => absurd hj (Nat.not_lt_zero _)⟩⟩
  case round =>
    obtain ⟨kk, hkk, hg, rfl, HB, HA⟩ := hrel
    by_cases hlt : kk < l0.length
    · have hltz : (kk : Int) < (l0.length : Int) := by omega
      obtain ⟨ad, rfl, hx⟩ := Kd.at_int HR0.out (kk : Int) (by omega) hltz
      replace hx := (HB.out.cell (World.block_lt_of_cell? w _ hx)).trans hx
      rw [Int.toNat_natCast] at hx
      have hrd : rd l0 (kk : Int) = l0.getD kk 0 := by simp [rd]
      rw [hrd] at hx
      clear hrd
      obtain ⟨y, hy⟩ : ∃ y, Aside0 (l0.getD kk 0 = y) := ⟨_, ⟨rfl⟩⟩
      rw [hy.out] at hx
      have hcall := HP.out y wr HB.out
      cases hq : p y with
      | true =>
        rw [hq] at hcall
        have HQ := Aside0.mk hq
        clear hq
        have HC := Aside0.mk hcall
        clear hcall
        go_wp2_with (fail)
        refine HC.out.mono ?_
        rintro e w' ⟨rfl, hb⟩
        have n1_ := Aside0.mk (below_step HB.out hb)
        clear hb HB
        have HB := n1_
        clear n1_ HC hx
        go_wp2_with (fail)
        go_ret
        exact ⟨ixr_int.ret (ixr_int_hit p l0 kk hlt (by rw [hy.out]; exact HQ.out) HA.out).symm, HB.out⟩
      | false =>
        rw [hq] at hcall
        have HQ := Aside0.mk hq
        clear hq
        have HC := Aside0.mk hcall
        clear hcall
        go_wp2_with (fail)
        refine HC.out.mono ?_
        rintro e w' ⟨rfl, hb⟩
        have n1_ := Aside0.mk (below_step HB.out hb)
        clear hb HB
        have HB := n1_
        clear n1_ HC hx
        go_wp2_with (fail)
        go_roundg (l0.length - (kk + 1))
        case measure => omega
        case rel =>
          refine ⟨kk + 1, by omega, by omega, by go_num, HB, ⟨fun j hj => ?_⟩⟩
          by_cases e : j = kk
          · subst e
            rw [hy.out]; exact HQ.out
          · exact HA.out j (by omega)
    · have hltz : ¬ (kk : Int) < (l0.length : Int) := by omega
      have hk : kk = l0.length := by omega
      have HK := Aside0.mk hk
      clear hk
      go_wp2
      go_ret
      exact ⟨ixr_int.ret (ixr_int_miss p l0 (fun j hj => HA.out j (by rw [HK.out]; exact hj))).symm, HB.out⟩
set_option maxHeartbeats 2000000 in
theorem ixr_int.contains (p : Int → Bool) (g : Nat) (lb : Array Value) (eg : ∀ args w, (callFunc g args).run Tryd.prog w = .ok (.enter g args) w) (A0 : Option Addr) (c0 : Nat) (l0 : List Int) (w : World) (hr0 : Kd.C (Kd.int .i64) w A0 l0.length l0)
    (hp : ∀ (x : Int) (W : World), Below w.heap.size w W → Calls Tryd.prog g (#[.int .i64 x] ++ lb) W fun e w' => e = .returned (.bool (p x)) ∧ Below W.heap.size W w') :
    Calls Tryd.prog 43 #[.slice A0 l0.length c0, .func (.func g) #[] lb] w fun e w' => e = .returned (.bool (l0.any p)) ∧ Below w.heap.size w w' := by
  have HC := Aside0.mk (ixr_int.index p g lb eg A0 c0 l0 w hr0 hp)
  rw [← ixr_int_any p l0]
  clear hr0 hp
  obtain ⟨n, hn⟩ : ∃ n, Aside0 (ixr_int p l0 = n) := ⟨_, ⟨rfl⟩⟩
  rw [hn.out] at HC ⊢
  go_enter Tryd.func43, Tryd.ntmps43
  go_wp2_with (go_at_call 70; refine HC.out.mono ?_; rintro e w' ⟨rfl, hb⟩; have HB := Aside0.mk hb; clear hb HC)
  go_ret
  exact ⟨rfl, HB.out⟩
/-- Is a size out of its bounds? -/
def badN (n : Int) : Bool := decide (n < 1) || decide (250 < n)
theorem badN.below (x : Int) (W : World) : Calls Tryd.prog 44 (#[.int .i64 x] ++ #[]) W fun e w' => e = .returned (.bool (badN x)) ∧ Below W.heap.size W w' := by
  show Calls Tryd.prog 44 #[.int .i64 x] W _
  unfold badN
  by_cases c : x < 1
  · have cb : decide (x < 1) = true := decide_eq_true c
    clear c
    go_enter Tryd.func44, Tryd.ntmps44
    go_wp2
    go_ret
    exact ⟨by simp [cb], Below.refl _ _⟩
  · have cb : decide (x < 1) = false := decide_eq_false c
    clear c
    go_enter Tryd.func44, Tryd.ntmps44
    go_wp2
    go_ret
    exact ⟨by simp [cb], Below.refl _ _⟩
def insOf (i : S38) (v c : Int) (k k2 : Nat) : Bool := insB i.f0 i.f1 i.f2 i.f3 i.f4 i.f5 i.f6 i.f7 v c k k2
/-- What is known of the ids behind some instructions; none: one is not right. -/
def goI (v c : Int) (k k2 : Nat) : (Int → Option Int) → List S38 → Option (Int → Option Int)
  | g, [] => some g
  | g, i :: r => cond (insOf i v c k k2) (cond (decide (0 < i.f7)) (cond (decide (0 < (g i.f7).getD 0)) none (goI v c k k2 (fun y => if y = i.f7 then some 1 else g y) r)) (goI v c k k2 (fun y => if y = i.f7 then some 1 else g y) r)) none
def endOf (e : S34) (v : Int) (k : List Int) (k2 : List S36) : Bool := (ir_ends.f e.f0 e.f1 e.f2 e.f3 v k k2).getD false
def goB (v c : Int) (k : List Int) (k2 : List S36) : (Int → Option Int) → List S36 → Bool
  | _, [] => true
  | g, b :: r => match goI v c k.length k2.length g b.f0 with
    | some g' => cond (endOf b.f1 v k k2) (goB v c k k2 g' r) false
    | none => false
/-- Is a thread right? -/
def rightB (v : Int) (k : List Int) (k2 : List S36) (c : Int) : Bool :=
  !(decide (v < 0) || decide (200 < v) || decide (k2.length < 1) || decide (4000 < k2.length)) && (!k.any badN && goB v c k k2 (fun _ => none) k2)
/-- Are its ids whole numbers of Go, and its blocks not too long? -/
def okIds (k2 : List S36) : Prop := k2.length ≤ 4611686018427387904 ∧ ∀ b ∈ k2, b.f0.length ≤ 4294967296 ∧ ∀ i ∈ b.f0, (Lit.int .i64 i.f7).wf = true
instance (k2 : List S36) : Decidable (okIds k2) := by unfold okIds; exact inferInstance
def ir_Right.f (v : Int) (k : List Int) (k2 : List S36) (c : Int) : Option Bool := if okIds k2 then some (rightB v k k2 c) else none
theorem cells3 {w : World} {g : Nat} {t : TypeId} {x0 x1 x2 : Value} (h : w.heap[g]? = some (.cells #[x0, x1, x2] t (0, 0))) : w.cell? ⟨g, 0, none⟩ = some x0 ∧ w.cell? ⟨g, 1, none⟩ = some x1 ∧ w.cell? ⟨g, 2, none⟩ = some x2 := ⟨(blk_cell h 0).trans rfl, (blk_cell h 1).trans rfl, (blk_cell h 2).trans rfl⟩
theorem cells5 {w : World} {g : Nat} {t : TypeId} {x0 x1 x2 x3 x4 : Value} (h : w.heap[g]? = some (.cells #[x0, x1, x2, x3, x4] t (0, 0))) : w.cell? ⟨g, 0, none⟩ = some x0 ∧ w.cell? ⟨g, 1, none⟩ = some x1 ∧ w.cell? ⟨g, 2, none⟩ = some x2 ∧ w.cell? ⟨g, 3, none⟩ = some x3 ∧ w.cell? ⟨g, 4, none⟩ = some x4 := ⟨(blk_cell h 0).trans rfl, (blk_cell h 1).trans rfl, (blk_cell h 2).trans rfl, (blk_cell h 3).trans rfl, (blk_cell h 4).trans rfl⟩
theorem cells8 {w : World} {g : Nat} {t : TypeId} {x0 x1 x2 x3 x4 x5 x6 x7 : Value} (h : w.heap[g]? = some (.cells #[x0, x1, x2, x3, x4, x5, x6, x7] t (0, 0))) : w.cell? ⟨g, 0, none⟩ = some x0 ∧ w.cell? ⟨g, 1, none⟩ = some x1 ∧ w.cell? ⟨g, 2, none⟩ = some x2 ∧ w.cell? ⟨g, 3, none⟩ = some x3 ∧ w.cell? ⟨g, 4, none⟩ = some x4 ∧ w.cell? ⟨g, 5, none⟩ = some x5 ∧ w.cell? ⟨g, 6, none⟩ = some x6 ∧ w.cell? ⟨g, 7, none⟩ = some x7 := ⟨(blk_cell h 0).trans rfl, (blk_cell h 1).trans rfl, (blk_cell h 2).trans rfl, (blk_cell h 3).trans rfl, (blk_cell h 4).trans rfl, (blk_cell h 5).trans rfl, (blk_cell h 6).trans rfl, (blk_cell h 7).trans rfl⟩
theorem make_map {ops : Array Oper} {rest : List Oper} {o : Oper} {a : Act} {Q : Exit → Act → World → Prop} {W : World} {m : TypeId} (hg : o.guard = none) (hop : o.op = .makeMap m none)
    (h : ∀ b, b = W.heap.size → ∀ w1, Eval.MapIs Tryd.prog 3 w1 b 0 (fun _ => none) → Below W.heap.size W w1 → wpList Tryd.prog ops Q rest (a.put o.dst (.map (some b))) w1) : wpList Tryd.prog ops Q (o :: rest) a W :=
  Kd.event_run hg (by simp [execOp, hop, run_makeMap, Result.andThen]) (h _ rfl _ (Eval.MapIs.made _ _ _) (below_alloc (Below.refl _ _) _))
theorem alloc_ev {ops : Array Oper} {rest : List Oper} {o : Oper} {a : Act} {Q : Exit → Act → World → Prop} {W : World} {t : TypeId} {zs : Array Value} (hg : o.guard = none) (hop : o.op = .alloc t)
    (hz : (Instr.alloc t true (.tuple #[])).run Tryd.prog W = .ok (.pointer (some ⟨W.heap.size, 0, none⟩)) (W.alloc (.cells zs t (0, 0))))
    (h : ∀ b, b = W.heap.size → ∀ w1, w1.heap[b]? = some (.cells zs t (0, 0)) → Below W.heap.size W w1 → wpList Tryd.prog ops Q rest (a.put o.dst (.pointer (some ⟨b, 0, none⟩))) w1) : wpList Tryd.prog ops Q (o :: rest) a W :=
  Kd.event_run hg (by simp only [execOp, hop]; simp [hz, Result.andThen]) (h _ rfl _ (blk_new W _) (below_alloc (Below.refl _ _) _))
theorem store_ev {ops : Array Oper} {rest : List Oper} {o : Oper} {a : Act} {Q : Exit → Act → World → Prop} {W : World} {t : TypeId} {x v : Operand} {g : Nat} {old cs : Array Value} (hg : o.guard = none) (hop : o.op = .store t x v) (hN : o.dst = none) (hx : a.eval x = .pointer (some ⟨g, 0, none⟩)) (hv : a.eval v = .agg cs)
    (hb : W.heap[g]? = some (.cells old t (0, 0))) (hi : (Tryd.prog.info? t).map (·.size) = some cs.size) (ho : old.size = cs.size) (h1 : cs.all (·.oneCell') = true)
    (h : ∀ w1, w1.heap[g]? = some (.cells cs t (0, 0)) → W.grownBy w1 (some g) → wpList Tryd.prog ops Q rest a w1) : wpList Tryd.prog ops Q (o :: rest) a W := by
  refine wpList_plain hg fun K hK => ?_
  have hrow := run_storeVar_row (P := Tryd.prog) W g t t old cs hb hi ho h1
  have hrun : (execOp a.eval o).run Tryd.prog W = .ok .skip (W.setRow g cs) := by
    simp [execOp, hop, hx, hv, Instr.storeAt, Instr.sureAddr, hrow, Result.andThen]
  unfold Oper.wp
  rw [hrun]
  show K (a.put o.dst undef) _
  rw [hN]
  exact hK _ _ (h _ (setRow_heap W g old cs t (0, 0) hb) ⟨rfl, rfl, rfl, by simp, fun i _ hi2 => setRow_other W g i cs (fun e => hi2 (by rw [e]))⟩)
theorem below_grown {n g : Nat} {w W W1 : World} (h : Below n w W) (hg : W.grownBy W1 (some g)) (hn : n ≤ g) (hs : n ≤ W.heap.size) : Below n w W1 :=
  ⟨hg.os.trans h.os, hg.tape.trans h.tape, hg.output.trans h.output, Nat.le_trans h.size hg.size, fun i hi => (hg.block i (Nat.lt_of_lt_of_le hi hs) (fun e => by injection e with e; omega)).trans (h.block i hi)⟩
/-- What comes of the rest of a block. -/
def goX (v c : Int) (k : List Int) (k2 : List S36) (e : S34) (rest : List S36) (g : Int → Option Int) (l : List S38) : Bool :=
  match goI v c k.length k2.length g l with
  | some g' => cond (endOf e v k k2) (goB v c k k2 g' rest) false
  | none => false
theorem goB_cons (v c : Int) (k : List Int) (k2 : List S36) (g : Int → Option Int) (b : S36) (r : List S36) : goB v c k k2 g (b :: r) = goX v c k k2 b.f1 r g b.f0 := rfl
theorem goX_nil (v c : Int) (k : List Int) (k2 : List S36) (e : S34) (r : List S36) (g : Int → Option Int) : goX v c k k2 e r g [] = cond (endOf e v k k2) (goB v c k k2 g r) false := rfl
theorem goX_bad {v c : Int} {k : List Int} {k2 : List S36} {e : S34} {rest : List S36} {g : Int → Option Int} {i : S38} {l : List S38} (h : insOf i v c k.length k2.length = false) : goX v c k k2 e rest g (i :: l) = false := by
  simp [goX, goI, h]
theorem goX_seen {v c : Int} {k : List Int} {k2 : List S36} {e : S34} {rest : List S36} {g : Int → Option Int} {i : S38} {l : List S38} (h : insOf i v c k.length k2.length = true) (h1 : 0 < i.f7) (h2 : 0 < (g i.f7).getD 0) : goX v c k k2 e rest g (i :: l) = false := by
  simp [goX, goI, h, h1, h2]
theorem goX_new {v c : Int} {k : List Int} {k2 : List S36} {e : S34} {rest : List S36} {g : Int → Option Int} {i : S38} {l : List S38} (h : insOf i v c k.length k2.length = true) (h1 : 0 < i.f7 → ¬ 0 < (g i.f7).getD 0) : goX v c k k2 e rest g (i :: l) = goX v c k k2 e rest (fun y => if y = i.f7 then some 1 else g y) l := by
  unfold goX
  simp only [goI, h, cond_true]
  by_cases h2 : 0 < i.f7
  · rw [decide_eq_true h2, decide_eq_false (h1 h2)]; rfl
  · rw [decide_eq_false h2]; rfl
theorem getD_drop_ {α : Type} (l : List α) (z : α) (i : Nat) (h : i < l.length) : l.drop i = l.getD i z :: l.drop (i + 1) := by
  rw [List.drop_eq_getElem_cons h]
  simp [h]
theorem ends_some (e0 e1 e2 e3 v : Int) (k : List Int) (k2 : List S36) : ir_ends.f e0 e1 e2 e3 v k k2 = some ((ir_ends.f e0 e1 e2 e3 v k k2).getD false) := by
  unfold ir_ends.f
  simp only [within_some, Option.bind_some]
  repeat' split
  all_goals rfl
theorem right_early {v : Int} {k : List Int} {k2 : List S36} {c : Int} (h : v < 0 ∨ 200 < v ∨ (k2.length : Int) < 1 ∨ 4000 < (k2.length : Int)) : rightB v k k2 c = false := by
  unfold rightB
  rcases h with h | h | h | h
  · simp [h]
  · simp [h]
  · have : k2.length < 1 := by omega
    simp [this]
  · have : 4000 < k2.length := by omega
    simp [this]
theorem right_late {v : Int} {k : List Int} {k2 : List S36} {c : Int} (h1 : ¬ v < 0) (h2 : ¬ 200 < v) (h3 : ¬ (k2.length : Int) < 1) (h4 : ¬ 4000 < (k2.length : Int)) : rightB v k k2 c = (!k.any badN && goB v c k k2 (fun _ => none) k2) := by
  unfold rightB
  have e3 : ¬ k2.length < 1 := by omega
  have e4 : ¬ 4000 < k2.length := by omega
  simp [h1, h2, e3, e4]
set_option maxRecDepth 100000 in
set_option maxHeartbeats 8000000 in
theorem ir_Right.calls (a0_0 : Int) (A0_1 : Option Addr) (c0_1 : Nat) (l0_1 : List Int) (A0_2 : Option Addr) (c0_2 : Nat) (l0_2 : List (S36)) (a1 : Int) (r : Bool) (w : World) (hr0_1 : Kd.C (Kd.int .i64) w A0_1 l0_1.length l0_1) (hc0_1 : l0_1.length ≤ c0_1) (hr0_2 : Kd.C k36 w A0_2 l0_2.length l0_2) (hc0_2 : l0_2.length ≤ c0_2) (hG : OpsLaid w) (h : ir_Right.f a0_0 l0_1 l0_2 a1 = some r) :
    Calls Tryd.prog 27 #[.agg #[.int .i64 a0_0, .slice A0_1 l0_1.length c0_1, .slice A0_2 l0_2.length c0_2], .int .i64 a1] w fun e w' => e = .returned (.bool r) ∧ Below w.heap.size w w' := by
  have hok : okIds l0_2 := by
    unfold ir_Right.f at h
    by_cases e : okIds l0_2
    · exact e
    · rw [if_neg e] at h; cases h
  unfold ir_Right.f at h
  rw [if_pos hok] at h
  injection h with h
  have hu25 := Tryd.underlying25
  have hu38 := Tryd.underlying38
  have hu34 := Tryd.underlying34
  have hu36 := Tryd.underlying36
  have HOK := Aside0.mk hok
  clear hok
  have HR0_1 := Aside0.mk hr0_1
  have HC0_1 := Aside0.mk hc0_1
  clear hr0_1 hc0_1
  have HR0_2 := Aside0.mk hr0_2
  have HC0_2 := Aside0.mk hc0_2
  clear hr0_2 hc0_2
  have HG := Aside0.mk hG
  clear hG
  have HB := Aside0.mk (Below.refl w.heap.size w)
  go_enter Tryd.func27, Tryd.ntmps27
  go_upto_region 1 with (first | ((with_reducible refine gate_dst (N := 2) rfl ?_); refine box_event ?hg (N := 2) ?hd (cs := #[.int .i64 a0_0, .slice A0_1 l0_1.length c0_1, .slice A0_2 l0_2.length c0_2]) (t := 25) ?hr ?_; (case hd => rfl); (case hg => rfl); (case hr => first | (go_simp; done) | (go_simp; rfl)); intro gt hg wb hbox hb; have n0_ := Aside0.mk (below_step (by repeat (first | (with_reducible first | exact HB.out | apply below_alloc | apply pw_below_drewN | apply below_drew1) | exact HB.out)) hb); have BKgt := Aside0.mk hbox; clear HB; have HB := n0_; clear n0_ hb hbox hg))
  obtain ⟨ht0, ht1, ht2⟩ := cells3 BKgt.out
  by_cases c1 : a0_0 < 0
  · have c1b : decide (a0_0 < 0) = true := decide_eq_true c1
    obtain rfl := (right_early (k := l0_1) (k2 := l0_2) (c := a1) (v := a0_0) (.inl c1)).symm.trans h
    clear c1 h
    go_wp2
    go_ret
    exact ⟨rfl, HB.out⟩
  have c1b : decide (a0_0 < 0) = false := decide_eq_false c1
  by_cases c2 : 200 < a0_0
  · have c2b : decide (200 < a0_0) = true := decide_eq_true c2
    obtain rfl := (right_early (k := l0_1) (k2 := l0_2) (c := a1) (v := a0_0) (.inr (.inl c2))).symm.trans h
    clear c2 h
    go_wp2
    go_ret
    exact ⟨rfl, HB.out⟩
  have c2b : decide (200 < a0_0) = false := decide_eq_false c2
  by_cases c3 : (l0_2.length : Int) < 1
  · have c3b : decide ((l0_2.length : Int) < 1) = true := decide_eq_true c3
    obtain rfl := (right_early (k := l0_1) (k2 := l0_2) (c := a1) (v := a0_0) (.inr (.inr (.inl c3)))).symm.trans h
    clear c3 h
    go_wp2
    go_ret
    exact ⟨rfl, HB.out⟩
  have c3b : decide ((l0_2.length : Int) < 1) = false := decide_eq_false c3
  by_cases c4 : 4000 < (l0_2.length : Int)
  · have c4b : decide (4000 < (l0_2.length : Int)) = true := decide_eq_true c4
    obtain rfl := (right_early (k := l0_1) (k2 := l0_2) (c := a1) (v := a0_0) (.inr (.inr (.inr c4)))).symm.trans h
    clear c4 h
    go_wp2
    go_ret
    exact ⟨rfl, HB.out⟩
  have c4b : decide (4000 < (l0_2.length : Int)) = false := decide_eq_false c4
  rw [right_late c1 c2 c3 c4] at h
  have H4 := Aside0.mk (show l0_2.length ≤ 4000 by omega)
  clear c1 c2 c3 c4
  have eg : ∀ args w, (callFunc 44 args).run Tryd.prog w = .ok (.enter 44 args) w := enters_of Tryd.func44 (by kernel_rfl) rfl
  have HX := Aside0.mk fun (W : World) (hC : Kd.C (Kd.int .i64) W A0_1 l0_1.length l0_1) => ixr_int.contains badN 44 #[] eg A0_1 c0_1 l0_1 W hC (fun x W' _ => badN.below x W')
  clear eg
  by_cases cx : l0_1.any badN = true
  · rw [cx] at h HX
    have h2 : false = r := by simpa using h
    subst h2
    clear h cx
    go_wp2_with (first | (go_at_call 43; refine (HX.out _ (Kd.C_below HR0_1.out HB.out)).mono ?_; rintro e w' ⟨rfl, hb⟩; have n0_ := Aside0.mk (below_step HB.out hb); have n1_ := Aside0.mk (blk_below BKgt.out hb); clear HB BKgt hb; revert n0_ n1_; intro HB BKgt))
    go_ret
    exact ⟨rfl, HB.out⟩
  replace cx := Bool.eq_false_iff.mpr cx
  rw [cx] at h HX
  have h2 : goB a0_0 a1 l0_1 l0_2 (fun _ => none) l0_2 = r := by simpa using h
  clear h cx
  have HH := Aside0.mk h2
  clear h2
  go_upto_region 5 with (first | (go_at_call 43; refine (HX.out _ (Kd.C_below HR0_1.out HB.out)).mono ?_; rintro e w' ⟨rfl, hb⟩; have n0_ := Aside0.mk (below_step HB.out hb); have n1_ := Aside0.mk (blk_below BKgt.out hb); clear HB BKgt hb; revert n0_ n1_; intro HB BKgt))
  clear HX ht0 ht1 ht2 c1b c2b c3b c4b
  go_upto_region 6 with (first | ((with_reducible refine gate_dst (N := 33) rfl ?_); refine make_map rfl (m := 70) rfl ?_; intro bm hbm wm hmm hb; have n0_ := Aside0.mk (below_step (by repeat (first | (with_reducible first | exact HB.out | apply below_alloc | apply pw_below_drewN | apply below_drew1) | exact HB.out)) hb); have n1_ := Aside0.mk (blk_below BKgt.out hb); have HM := Aside0.mk hmm; have HW := Aside0.mk (show w.heap.size ≤ bm by rw [hbm]; exact below_size (by repeat (first | (with_reducible first | exact HB.out | apply below_alloc | apply pw_below_drewN | apply below_drew1) | exact HB.out))); have NE0 := Aside0.mk (show bm ≠ gt by rw [hbm]; exact Nat.ne_of_gt (blk_lt BKgt.out)); clear HB BKgt hb hmm hbm; revert n0_ n1_; intro HB BKgt))
  obtain ⟨ht0, ht1, ht2⟩ := cells3 BKgt.out
  go_wp2
  clear ht0 ht1 ht2
  go_loopg [37] l0_2.length (fun gg v37 wr => ∃ (k n : Nat) (g : Int → Option Int), k ≤ l0_2.length ∧ l0_2.length - k ≤ gg ∧ v37 = .int .i64 (k : Int) ∧ Aside0 (goB a0_0 a1 l0_1 l0_2 g (l0_2.drop k) = r) ∧ Aside0 (n ≤ k * 4294967296) ∧ Aside0 (Eval.MapIs Tryd.prog 3 wr bm n g) ∧ Aside0 (wr.heap[gt]? = some (.cells #[.int .i64 a0_0, .slice A0_1 l0_1.length c0_1, .slice A0_2 l0_2.length c0_2] 25 (0, 0))) ∧ Aside0 (Below w.heap.size w wr))
  case atStart => exact ⟨0, 0, _, Nat.zero_le _, by omega, rfl, ⟨by simpa using HH.out⟩, ⟨Nat.zero_le _⟩, HM, BKgt, HB⟩
  case round =>
    clear HH HM BKgt HB
    obtain ⟨k, n, g, hk, hgg, rfl, HH, HN, HM, BKgt, HB⟩ := hrel
    by_cases hlt : k < l0_2.length
    · have hltz : (k : Int) < (l0_2.length : Int) := by omega
      obtain ⟨ad, A, c, rfl, hx0, hx1, hx2, hx3, hx4, hl, hi⟩ := at_T36 HR0_2.out (k : Int) (by omega) hltz
      rw [show rd_T36 l0_2 (k : Int) = l0_2.getD k z36 by simp [rd_T36]] at hx0 hx1 hx2 hx3 hx4 hl hi
      have hmem : l0_2.getD k z36 ∈ l0_2 := by simp [hlt]
      have hids := HOK.out.2 _ hmem
      have hdrop := getD_drop_ l0_2 z36 k hlt
      have HH2 := HH.out
      rw [hdrop, goB_cons] at HH2
      clear HH hdrop hmem
      generalize l0_2.getD k z36 = bk at hx0 hx1 hx2 hx3 hx4 hl hi hids HH2
      have HH := Aside0.mk HH2
      have HI := Aside0.mk hi
      have HL := Aside0.mk hl
      have HID := Aside0.mk hids
      clear HH2 hi hl hids
      rw [Int.toNat_natCast] at hx0 hx1 hx2 hx3 hx4
      replace hx0 := (HB.out.cell (World.block_lt_of_cell? w _ hx0)).trans hx0
      replace hx1 := (HB.out.cell (World.block_lt_of_cell? w _ hx1)).trans hx1
      replace hx2 := (HB.out.cell (World.block_lt_of_cell? w _ hx2)).trans hx2
      replace hx3 := (HB.out.cell (World.block_lt_of_cell? w _ hx3)).trans hx3
      replace hx4 := (HB.out.cell (World.block_lt_of_cell? w _ hx4)).trans hx4
      go_upto_region 9 with (first | ((with_reducible refine gate_dst (N := 7) rfl ?_); refine alloc_ev rfl (t := 36) (zs := #[.slice none 0 0, .int .i64 0, .int .i64 0, .int .i64 0, .int .i64 0]) rfl (by kernel_rfl) ?_; intro gb hgb wb hnew hb; have n0_ := Aside0.mk (below_step (by repeat (first | (with_reducible first | exact HB.out | apply below_alloc | apply pw_below_drewN | apply below_drew1) | exact HB.out)) hb); have n1_ := Aside0.mk (blk_below BKgt.out hb); have n2_ := Aside0.mk (HM.out.kept (Eval.grown_of_below hb) (by simp)); have BKgb := Aside0.mk hnew; have GB := Aside0.mk (show w.heap.size ≤ gb by rw [hgb]; exact below_size (by repeat (first | (with_reducible first | exact HB.out | apply below_alloc | apply pw_below_drewN | apply below_drew1) | exact HB.out))); have NE1 := Aside0.mk (show gb ≠ gt by rw [hgb]; exact Nat.ne_of_gt (blk_lt BKgt.out)); have NE2 := Aside0.mk (show bm ≠ gb by rw [hgb]; exact Nat.ne_of_lt HM.out.lt); clear HB BKgt HM hb hnew hgb; revert n0_ n1_ n2_; intro HB BKgt HM) | ((with_reducible refine gate_store (t := 36) (p := 7) rfl ?_); refine store_ev rfl (t := 36) rfl rfl rfl rfl BKgb.out (by kernel_rfl) rfl (by first | (simp; done) | (simp [Value.oneCell']; done) | (simp; rfl)) ?_; intro wb hnew hgr; have n0_ := Aside0.mk (below_grown HB.out hgr GB.out HB.out.size); have n1_ := Aside0.mk (blk_grown BKgt.out hgr (fun e => by injection e with e; exact NE1.out e.symm)); have n2_ := Aside0.mk (HM.out.kept hgr (fun e => by injection e with e; exact NE2.out e)); have n3_ := Aside0.mk hnew; clear HB BKgt HM BKgb hnew hgr; revert n0_ n1_ n2_ n3_; intro HB BKgt HM BKgb))
      clear hx0 hx1 hx2 hx3 hx4
      obtain ⟨hb0, hb1, hb2, hb3, hb4⟩ := cells5 BKgb.out
      go_wp2
      clear hb0 hb1 hb2 hb3 hb4
      go_loopg [44] bk.f0.length (fun gg v44 wr => ∃ (j n' : Nat) (g' : Int → Option Int), j ≤ bk.f0.length ∧ bk.f0.length - j ≤ gg ∧ v44 = .int .i64 (j : Int) ∧ Aside0 (goX a0_0 a1 l0_1 l0_2 bk.f1 (l0_2.drop (k + 1)) g' (bk.f0.drop j) = r) ∧ Aside0 (n' ≤ k * 4294967296 + j) ∧ Aside0 (Eval.MapIs Tryd.prog 3 wr bm n' g') ∧ Aside0 (wr.heap[gt]? = some (.cells #[.int .i64 a0_0, .slice A0_1 l0_1.length c0_1, .slice (some ad) l0_2.length c0_2] 25 (0, 0))) ∧ Aside0 (wr.heap[gb]? = some (.cells #[.slice A bk.f0.length c, .int .i64 bk.f1.f0, .int .i64 bk.f1.f1, .int .i64 bk.f1.f2, .int .i64 bk.f1.f3] 36 (0, 0))) ∧ Aside0 (Below w.heap.size w wr))
      case atStart => exact ⟨0, n, g, Nat.zero_le _, by omega, rfl, ⟨by simpa using HH.out⟩, ⟨Nat.le_trans HN.out (Nat.le_add_right _ _)⟩, HM, BKgt, BKgb, HB⟩
      case round =>
        clear HH HN HM BKgt BKgb HB
        obtain ⟨j, n', g', hj, hgj, rfl, HH, HN, HM, BKgt, BKgb, HB⟩ := hrel
        by_cases hlj : j < bk.f0.length
        · have hljz : (j : Int) < (bk.f0.length : Int) := by omega
          obtain ⟨ad2, rfl, hy0, hy1, hy2, hy3, hy4, hy5, hy6, hy7⟩ := at_T38 HI.out (j : Int) (by omega) hljz
          rw [show rd_T38 bk.f0 (j : Int) = bk.f0.getD j z38 by simp [rd_T38]] at hy0 hy1 hy2 hy3 hy4 hy5 hy6 hy7
          have hmem : bk.f0.getD j z38 ∈ bk.f0 := by simp [hlj]
          have hwf := HID.out.2 _ hmem
          have hdrop := getD_drop_ bk.f0 z38 j hlj
          have HH2 := HH.out
          rw [hdrop] at HH2
          clear HH hdrop hmem
          generalize bk.f0.getD j z38 = i at hy0 hy1 hy2 hy3 hy4 hy5 hy6 hy7 hwf HH2
          rw [Int.toNat_natCast] at hy0 hy1 hy2 hy3 hy4 hy5 hy6 hy7
          replace hy0 := (HB.out.cell (World.block_lt_of_cell? w _ hy0)).trans hy0
          replace hy1 := (HB.out.cell (World.block_lt_of_cell? w _ hy1)).trans hy1
          replace hy2 := (HB.out.cell (World.block_lt_of_cell? w _ hy2)).trans hy2
          replace hy3 := (HB.out.cell (World.block_lt_of_cell? w _ hy3)).trans hy3
          replace hy4 := (HB.out.cell (World.block_lt_of_cell? w _ hy4)).trans hy4
          replace hy5 := (HB.out.cell (World.block_lt_of_cell? w _ hy5)).trans hy5
          replace hy6 := (HB.out.cell (World.block_lt_of_cell? w _ hy6)).trans hy6
          replace hy7 := (HB.out.cell (World.block_lt_of_cell? w _ hy7)).trans hy7
          have hroom : n' < maxLen := by have h1 := HN.out; have h2 := H4.out; have h3 := HID.out.1; have : k * 4294967296 ≤ 4000 * 4294967296 := Nat.mul_le_mul_right _ (by omega); unfold maxLen; omega
          go_upto_region 12 with (first | ((with_reducible refine gate_dst (N := 9) rfl ?_); refine alloc_ev rfl (t := 38) (zs := #[.int .i64 0, .int .i64 0, .int .i64 0, .int .i64 0, .int .i64 0, .int .i64 0, .int .i64 0, .int .i64 0]) rfl (by kernel_rfl) ?_; intro gi hgi wb hnew hb; have BKgi := Aside0.mk hnew; have GI := Aside0.mk (show w.heap.size ≤ gi by rw [hgi]; exact below_size (by repeat (first | (with_reducible first | exact HB.out | apply below_alloc | apply pw_below_drewN | apply below_drew1) | exact HB.out))); have NE3 := Aside0.mk (show gi ≠ gt by rw [hgi]; exact Nat.ne_of_gt (blk_lt BKgt.out)); have NE4 := Aside0.mk (show gi ≠ gb by rw [hgi]; exact Nat.ne_of_gt (blk_lt BKgb.out)); have NE5 := Aside0.mk (show bm ≠ gi by rw [hgi]; exact Nat.ne_of_lt HM.out.lt); have n0_ := Aside0.mk (below_step (by repeat (first | (with_reducible first | exact HB.out | apply below_alloc | apply pw_below_drewN | apply below_drew1) | exact HB.out)) hb); have n1_ := Aside0.mk (blk_below BKgt.out hb); have n2_ := Aside0.mk (blk_below BKgb.out hb); have n9_ := Aside0.mk (HM.out.kept (Eval.grown_of_below hb) (by simp)); clear HB HM BKgt BKgb hb; have HB := n0_; have HM := n9_; have BKgt := n1_; have BKgb := n2_; clear n0_ n9_ n1_ n2_; clear hnew hgi) | ((with_reducible refine gate_store (t := 38) (p := 9) rfl ?_); refine store_ev rfl (t := 38) rfl rfl rfl rfl BKgi.out (by kernel_rfl) rfl (by first | (simp; done) | (simp [Value.oneCell']; done) | (simp; rfl)) ?_; intro wb hnew hgr; have n9_ := Aside0.mk (HM.out.kept hgr (fun e => by injection e with e; exact NE5.out e)); have n8_ := Aside0.mk hnew; have n0_ := Aside0.mk (below_grown HB.out hgr GI.out HB.out.size); have n1_ := Aside0.mk (blk_grown BKgt.out hgr (fun e => by injection e with e; exact NE3.out e.symm)); have n2_ := Aside0.mk (blk_grown BKgb.out hgr (fun e => by injection e with e; exact NE4.out e.symm)); clear HB BKgt BKgb; have HB := n0_; have BKgt := n1_; have BKgb := n2_; clear n0_ n1_ n2_ hgr; clear HM BKgi hnew; have HM := n9_; have BKgi := n8_; clear n9_ n8_))
          clear hy0 hy1 hy2 hy3 hy4 hy5 hy6 hy7
          obtain ⟨ht0, ht1, ht2⟩ := cells3 BKgt.out
          obtain ⟨hi0, hi1, hi2, hi3, hi4, hi5, hi6, hi7⟩ := cells8 BKgi.out
          cases hri : insB i.f0 i.f1 i.f2 i.f3 i.f4 i.f5 i.f6 i.f7 a0_0 a1 l0_1.length l0_2.length with
          | false =>
            obtain rfl := (goX_bad hri).symm.trans HH2
            clear HH2
            go_upto_if 64 with (first | (go_at_call 45; refine (ir_right.calls _ _ _ _ _ _ _ _ _ _ _ l0_1 _ _ l0_2 _ _ _ (Kd.C_below HR0_1.out HB.out) HC0_1.out (Kd.C_below HR0_2.out HB.out) HC0_2.out (HG.out.below (Nat.le_refl _) HB.out) rfl).mono ?_; rintro e wb ⟨rfl, hb⟩; have n0_ := Aside0.mk (below_step (by repeat (first | (with_reducible first | exact HB.out | apply below_alloc | apply pw_below_drewN | apply below_drew1) | exact HB.out)) hb); have n1_ := Aside0.mk (blk_below BKgt.out hb); have n2_ := Aside0.mk (blk_below BKgb.out hb); have n3_ := Aside0.mk (blk_below BKgi.out hb); have n9_ := Aside0.mk (HM.out.kept (Eval.grown_of_below hb) (by simp)); clear HB HM BKgt BKgb BKgi hb; have HB := n0_; have HM := n9_; have BKgt := n1_; have BKgb := n2_; have BKgi := n3_; clear n0_ n9_ n1_ n2_ n3_; clear hi0 hi1 hi2 hi3 hi4 hi5 hi6 hi7; obtain ⟨hi0, hi1, hi2, hi3, hi4, hi5, hi6, hi7⟩ := cells8 BKgi.out))
            clear HG HR0_1 HR0_2 HC0_1 HC0_2 HOK H4 HI HL HID HN BKgt BKgb BKgi HM HW NE0 NE1 NE2 NE3 NE4 NE5 GB GI ht0 ht1 ht2 hi0 hi1 hi2 hi3 hi4 hi5 hi6 hi7
            go_wp2
            go_ret
            exact ⟨rfl, HB.out⟩
          | true =>
            by_cases c7 : 0 < i.f7
            · have c7b : decide (0 < i.f7) = true := decide_eq_true c7
              by_cases c8 : 0 < (g' i.f7).getD 0
              · have c8b : decide (0 < (g' i.f7).getD 0) = true := decide_eq_true c8
                obtain rfl := (goX_seen hri c7 c8).symm.trans HH2
                clear HH2 c7 c8
                go_upto_if 64 with (first | (go_at_call 45; refine (ir_right.calls _ _ _ _ _ _ _ _ _ _ _ l0_1 _ _ l0_2 _ _ _ (Kd.C_below HR0_1.out HB.out) HC0_1.out (Kd.C_below HR0_2.out HB.out) HC0_2.out (HG.out.below (Nat.le_refl _) HB.out) rfl).mono ?_; rintro e wb ⟨rfl, hb⟩; have n0_ := Aside0.mk (below_step (by repeat (first | (with_reducible first | exact HB.out | apply below_alloc | apply pw_below_drewN | apply below_drew1) | exact HB.out)) hb); have n1_ := Aside0.mk (blk_below BKgt.out hb); have n2_ := Aside0.mk (blk_below BKgb.out hb); have n3_ := Aside0.mk (blk_below BKgi.out hb); have n9_ := Aside0.mk (HM.out.kept (Eval.grown_of_below hb) (by simp)); clear HB HM BKgt BKgb BKgi hb; have HB := n0_; have HM := n9_; have BKgt := n1_; have BKgb := n2_; have BKgi := n3_; clear n0_ n9_ n1_ n2_ n3_; clear hi0 hi1 hi2 hi3 hi4 hi5 hi6 hi7; obtain ⟨hi0, hi1, hi2, hi3, hi4, hi5, hi6, hi7⟩ := cells8 BKgi.out) | (at_lookup; (try (refine gate_guard (by rfl) ?_; dsimp only)); refine Eval.wp_look1 _ Tryd.underlying3 Tryd.underlying70 (fun W => by kernel_rfl) rfl _ _ rfl rfl rfl hwf HM.out ?_))
                clear HG HR0_1 HR0_2 HC0_1 HC0_2 HOK H4 HI HL HID HN BKgt BKgb BKgi HM HW NE0 NE1 NE2 NE3 NE4 NE5 GB GI ht0 ht1 ht2 hi0 hi1 hi2 hi3 hi4 hi5 hi6 hi7
                go_wp2
                go_ret
                exact ⟨rfl, HB.out⟩
              · have c8b : decide (0 < (g' i.f7).getD 0) = false := decide_eq_false c8
                rw [goX_new hri (fun _ => c8)] at HH2
                have HH := Aside0.mk HH2
                clear HH2 c7 c8
                go_upto_if 64 with (first | (go_at_call 45; refine (ir_right.calls _ _ _ _ _ _ _ _ _ _ _ l0_1 _ _ l0_2 _ _ _ (Kd.C_below HR0_1.out HB.out) HC0_1.out (Kd.C_below HR0_2.out HB.out) HC0_2.out (HG.out.below (Nat.le_refl _) HB.out) rfl).mono ?_; rintro e wb ⟨rfl, hb⟩; have n0_ := Aside0.mk (below_step (by repeat (first | (with_reducible first | exact HB.out | apply below_alloc | apply pw_below_drewN | apply below_drew1) | exact HB.out)) hb); have n1_ := Aside0.mk (blk_below BKgt.out hb); have n2_ := Aside0.mk (blk_below BKgb.out hb); have n3_ := Aside0.mk (blk_below BKgi.out hb); have n9_ := Aside0.mk (HM.out.kept (Eval.grown_of_below hb) (by simp)); clear HB HM BKgt BKgb BKgi hb; have HB := n0_; have HM := n9_; have BKgt := n1_; have BKgb := n2_; have BKgi := n3_; clear n0_ n9_ n1_ n2_ n3_; clear hi0 hi1 hi2 hi3 hi4 hi5 hi6 hi7; obtain ⟨hi0, hi1, hi2, hi3, hi4, hi5, hi6, hi7⟩ := cells8 BKgi.out) | (at_lookup; (try (refine gate_guard (by rfl) ?_; dsimp only)); refine Eval.wp_look1 _ Tryd.underlying3 Tryd.underlying70 (fun W => by kernel_rfl) rfl _ _ rfl rfl rfl hwf HM.out ?_))
                obtain ⟨hi0, hi1, hi2, hi3, hi4, hi5, hi6, hi7⟩ := cells8 BKgi.out
                go_wp2_with (first | (at_mapUpdate; refine Eval.wp_put _ Tryd.underlying3 Tryd.underlying70 rfl _ _ _ rfl rfl rfl rfl hwf (by decide) hroom HM.out ?_; intro wb hm hgr; have n9_ := Aside0.mk hm; have n0_ := Aside0.mk (below_grown HB.out hgr HW.out HB.out.size); have n1_ := Aside0.mk (blk_grown BKgt.out hgr (fun e => by injection e with e; exact NE0.out e.symm)); have n2_ := Aside0.mk (blk_grown BKgb.out hgr (fun e => by injection e with e; exact NE2.out e.symm)); have n3_ := Aside0.mk (blk_grown BKgi.out hgr (fun e => by injection e with e; exact NE5.out e.symm)); clear HB BKgt BKgb BKgi; have HB := n0_; have BKgt := n1_; have BKgb := n2_; have BKgi := n3_; clear n0_ n1_ n2_ n3_ hgr; clear HM hm; revert n9_; intro HM))
                go_roundg (bk.f0.length - (j + 1))
                case measure => omega
                case rel => exact ⟨j + 1, n' + 1, _, by omega, by omega, by rw [show wrap64 ((j : Int) + 1) = ((j + 1 : Nat) : Int) by unfold wrap64; have := HID.out.1; omega], HH, ⟨Nat.succ_le_succ HN.out⟩, HM, BKgt, BKgb, HB⟩
            · have c7b : decide (0 < i.f7) = false := decide_eq_false c7
              rw [goX_new hri (fun h0 => absurd h0 c7)] at HH2
              have HH := Aside0.mk HH2
              clear HH2 c7
              go_upto_if 64 with (first | (go_at_call 45; refine (ir_right.calls _ _ _ _ _ _ _ _ _ _ _ l0_1 _ _ l0_2 _ _ _ (Kd.C_below HR0_1.out HB.out) HC0_1.out (Kd.C_below HR0_2.out HB.out) HC0_2.out (HG.out.below (Nat.le_refl _) HB.out) rfl).mono ?_; rintro e wb ⟨rfl, hb⟩; have n0_ := Aside0.mk (below_step (by repeat (first | (with_reducible first | exact HB.out | apply below_alloc | apply pw_below_drewN | apply below_drew1) | exact HB.out)) hb); have n1_ := Aside0.mk (blk_below BKgt.out hb); have n2_ := Aside0.mk (blk_below BKgb.out hb); have n3_ := Aside0.mk (blk_below BKgi.out hb); have n9_ := Aside0.mk (HM.out.kept (Eval.grown_of_below hb) (by simp)); clear HB HM BKgt BKgb BKgi hb; have HB := n0_; have HM := n9_; have BKgt := n1_; have BKgb := n2_; have BKgi := n3_; clear n0_ n9_ n1_ n2_ n3_; clear hi0 hi1 hi2 hi3 hi4 hi5 hi6 hi7; obtain ⟨hi0, hi1, hi2, hi3, hi4, hi5, hi6, hi7⟩ := cells8 BKgi.out))
              obtain ⟨hi0, hi1, hi2, hi3, hi4, hi5, hi6, hi7⟩ := cells8 BKgi.out
              go_wp2_with (first | (at_mapUpdate; refine Eval.wp_put _ Tryd.underlying3 Tryd.underlying70 rfl _ _ _ rfl rfl rfl rfl hwf (by decide) hroom HM.out ?_; intro wb hm hgr; have n9_ := Aside0.mk hm; have n0_ := Aside0.mk (below_grown HB.out hgr HW.out HB.out.size); have n1_ := Aside0.mk (blk_grown BKgt.out hgr (fun e => by injection e with e; exact NE0.out e.symm)); have n2_ := Aside0.mk (blk_grown BKgb.out hgr (fun e => by injection e with e; exact NE2.out e.symm)); have n3_ := Aside0.mk (blk_grown BKgi.out hgr (fun e => by injection e with e; exact NE5.out e.symm)); clear HB BKgt BKgb BKgi; have HB := n0_; have BKgt := n1_; have BKgb := n2_; have BKgi := n3_; clear n0_ n1_ n2_ n3_ hgr; clear HM hm; revert n9_; intro HM))
              go_roundg (bk.f0.length - (j + 1))
              case measure => omega
              case rel => exact ⟨j + 1, n' + 1, _, by omega, by omega, by rw [show wrap64 ((j : Int) + 1) = ((j + 1 : Nat) : Int) by unfold wrap64; have := HID.out.1; omega], HH, ⟨Nat.succ_le_succ HN.out⟩, HM, BKgt, BKgb, HB⟩
        · have hj2 : j = bk.f0.length := by omega
          have HH2 := HH.out
          rw [hj2, List.drop_length, goX_nil] at HH2
          have hljz : ¬ (j : Int) < (bk.f0.length : Int) := by omega
          obtain ⟨ht0, ht1, ht2⟩ := cells3 BKgt.out
          obtain ⟨hb0, hb1, hb2, hb3, hb4⟩ := cells5 BKgb.out
          clear HH hlj
          cases hen : endOf bk.f1 a0_0 l0_1 l0_2 with
          | false =>
            rw [hen] at HH2
            obtain rfl : false = r := HH2
            have hen2 : (ir_ends.f bk.f1.f0 bk.f1.f1 bk.f1.f2 bk.f1.f3 a0_0 l0_1 l0_2).getD false = false := hen
            clear hen
            go_upto_if 73 with (first | (go_at_call 46; refine (ir_ends.calls _ _ _ _ _ _ _ l0_1 _ _ l0_2 _ _ (Kd.C_below HR0_1.out HB.out) HC0_1.out (Kd.C_below HR0_2.out HB.out) HC0_2.out (ends_some _ _ _ _ _ _ _)).mono ?_; rintro e wb ⟨rfl, hb⟩; have n0_ := Aside0.mk (below_step (by repeat (first | (with_reducible first | exact HB.out | apply below_alloc | apply pw_below_drewN | apply below_drew1) | exact HB.out)) hb); have n1_ := Aside0.mk (blk_below BKgt.out hb); have n2_ := Aside0.mk (blk_below BKgb.out hb); have n9_ := Aside0.mk (HM.out.kept (Eval.grown_of_below hb) (by simp)); clear HB HM BKgt BKgb hb; have HB := n0_; have HM := n9_; have BKgt := n1_; have BKgb := n2_; clear n0_ n9_ n1_ n2_))
            go_wp2
            go_ret
            exact ⟨rfl, HB.out⟩
          | true =>
            rw [hen] at HH2
            have HH : Aside0 (goB a0_0 a1 l0_1 l0_2 g' (l0_2.drop (k + 1)) = r) := ⟨HH2⟩
            have hen2 : (ir_ends.f bk.f1.f0 bk.f1.f1 bk.f1.f2 bk.f1.f3 a0_0 l0_1 l0_2).getD false = true := hen
            clear HH2 hen
            go_upto_if 73 with (first | (go_at_call 46; refine (ir_ends.calls _ _ _ _ _ _ _ l0_1 _ _ l0_2 _ _ (Kd.C_below HR0_1.out HB.out) HC0_1.out (Kd.C_below HR0_2.out HB.out) HC0_2.out (ends_some _ _ _ _ _ _ _)).mono ?_; rintro e wb ⟨rfl, hb⟩; have n0_ := Aside0.mk (below_step (by repeat (first | (with_reducible first | exact HB.out | apply below_alloc | apply pw_below_drewN | apply below_drew1) | exact HB.out)) hb); have n1_ := Aside0.mk (blk_below BKgt.out hb); have n2_ := Aside0.mk (blk_below BKgb.out hb); have n9_ := Aside0.mk (HM.out.kept (Eval.grown_of_below hb) (by simp)); clear HB HM BKgt BKgb hb; have HB := n0_; have HM := n9_; have BKgt := n1_; have BKgb := n2_; clear n0_ n9_ n1_ n2_))
            go_wp2
            go_roundg (l0_2.length - (k + 1))
            case measure => omega
            case rel =>
              refine ⟨k + 1, n', g', by omega, by omega, by rw [show wrap64 ((k : Int) + 1) = ((k + 1 : Nat) : Int) by unfold wrap64; have := H4.out; omega], HH, ⟨?_⟩, HM, BKgt, HB⟩
              have h1 := HN.out
              have h2 := HID.out.1
              rw [Nat.succ_mul]
              omega
    · have hk2 : k = l0_2.length := by omega
      have HH2 := HH.out
      rw [hk2, List.drop_length] at HH2
      have hltz : ¬ (k : Int) < (l0_2.length : Int) := by omega
      obtain rfl : true = r := HH2
      clear HH
      go_wp2
      go_ret
      exact ⟨rfl, HB.out⟩


/-! ### given: slices_Clone_int.lean -/
-- GIVEN slices.Clone[[]int,int] rounds=0 making=1
-- INFO int
-- IMPORT Derived.Lib.SliceRun
def slices_Clone_int_int.f (l0 : List Int) : Option (List Int) := if l0.length < 17592186044416 then some l0 else none
set_option maxHeartbeats 8000000 in
theorem slices_Clone_int_int.calls (A0 : Option Addr) (c0 : Nat) (l0 : List Int) (r : List Int) (w : World) (hr0 : Kd.C (Kd.int .i64) w A0 l0.length l0) (hc0 : l0.length ≤ c0) (h : slices_Clone_int_int.f l0 = some r) :
    Calls Tryd.prog 28 #[.slice A0 l0.length c0] w fun e w' => ∃ v0_ : Value, e = .returned (v0_) ∧ Kd.R (Kd.int .i64) 3 w' w.heap.size (fun _ => True) v0_ r ∧ Below w.heap.size w w' := by
  have hl : l0.length < 17592186044416 := by
    unfold slices_Clone_int_int.f at h
    by_cases e : l0.length < 17592186044416
    · exact e
    · rw [if_neg e] at h; cases h
  obtain rfl : l0 = r := by
    unfold slices_Clone_int_int.f at h
    rw [if_pos hl] at h
    injection h
  clear h
  have HL := Aside0.mk hl
  clear hl
  cases A0 with
  | none =>
    have hn : l0 = [] := by
      cases l0 with
      | nil => rfl
      | cons x l => obtain ⟨ad, e, _⟩ := Kd.at_int hr0 0 (by omega) (by simp); cases e
    subst hn
    clear hr0
    have hq := fun w : World => Lib.run_eql_slice_nil (P := Tryd.prog) w 22 3 none 0 c0 0 0 Tryd.underlying22
    go_enter Tryd.func28, Tryd.ntmps28
    go_wp2
    go_ret
    exact ⟨_, rfl, Kd.R_nil _ _ _ _ _, Below.refl _ _⟩
  | some a0 =>
    have HR0 := Aside0.mk hr0
    clear hr0
    have HB := Aside0.mk (Below.refl w.heap.size w)
    have hq := fun w : World => Lib.run_eql_slice_nil (P := Tryd.prog) w 22 3 (some a0) l0.length c0 0 0 Tryd.underlying22
    go_enter Tryd.func28, Tryd.ntmps28
    go_wp2_with (first | ((with_reducible refine gate_dst (N := 5) rfl ?_); refine Kd.R_lit (Kd.int .i64) _ 3 ?hg (N := 5) ?hd (xs := ([] : List Int)) (inner := []) (ok := fun _ => True) (okp := fun _ => True) ?hr ?hp (fun _ hk => hk) trivial (Below.refl _ _) (Nat.le_refl _) (by simp) ?_; (case hd => rfl); (case hg => rfl); (case hr => first | (go_simp; done) | (go_simp; rfl)); (case hp => exact (Reps.none _ _)); intro v1 w1 ho1 hb hg_ hnew_; clear hg_ hnew_; have n0_ := Aside0.mk ho1; have n1_ := Aside0.mk hb; clear HB hb ho1; revert n0_ n1_; intro HO1 HB) | ((with_reducible refine gate_builtin (b := .append) (xs := #[.tmp 5, .tmp 6]) rfl ?_); at_builtin; refine Kd.R_append_rows (Kd.int .i64) (w0 := w) w.heap.size rfl (.tmp 5) (.tmp 6) 22 3 (.int .i64 0) 8 rfl Tryd.underlying22 info3 rfl (by decide) (by omega) v1 [] l0 _ _ _ (fun _ => True) (fun _ => False) rfl rfl ?aO ?aR (fun _ _ h => h) (fun _ h => h.elim) ?aF ?aB ?aS ?aL ?_; (case aR => repeat (first | exact (Kd.C_below HR0.out HB.out) | (with_reducible refine Kd.C_alloc ?_ _) | (with_reducible refine Kd.C_drewN ?_ _) | (with_reducible refine Kd.C_drew ?_))); (case aB => exact HB.out); (case aF => exact (fun _ _ => trivial)); (case aO => exact HO1.out); (case aS => exact below_size HB.out); (case aL => have := HL.out; simp; omega); intro v2 w2 ho hb hg hat; have n0_ := Aside0.mk (hb); have n1_ := Aside0.mk (ho); clear HB HO1; revert n0_ n1_; intro HB HO2; clear ho hb hg hat; obtain ⟨Ao2, co2, eo2⟩ := Kd.R_slice HO2.out; subst eo2))
    go_ret
    exact ⟨_, rfl, HO2.out, HB.out⟩


/-! ### calc_Fails: function 91 -/
def calc_Fails.f (a0 : Int) (a1 : Int) : Option (Bool) := if a0 = 4 then (some (a1 == 0)) else (if a0 = 5 then (some (a1 == 0)) else (some false))
set_option maxHeartbeats 8000000 in
set_option maxRecDepth 100000 in
theorem calc_Fails.calls (a0 : Int) (a1 : Int) (r : Bool) (w : World) (h : calc_Fails.f a0 a1 = some r) :
    Calls Tryd.prog 91 #[.int .i64 a0, .int .i64 a1] w fun e w' => e = .returned (.bool r) ∧ Drawn0 w w' := by
  have H : (if a0 = 4 then (some (a1 == 0)) else (if a0 = 5 then (some (a1 == 0)) else (some false))) = some r := h
  clear h
  by_cases c3 : a0 = 4
  · rw [if_pos c3] at H
    have c3b0 : (a0 == 4) = true := beq_iff_eq.mpr c3
    have c3b1 : (a0 != 4) = false := bne_eq_false_iff_eq.mpr c3
    clear c3
    obtain rfl := Option.some.inj H
    go_enter Tryd.func91, Tryd.ntmps91
    go_wp2
    go_ret
    exact ⟨by first | rfl | (simp; done) | (simp [*]; done), by repeat (first | exact Drawn0.refl _ | apply Drawn0.step)⟩
  · rw [if_neg c3] at H
    have c3b0 : (a0 == 4) = false := beq_eq_false_iff_ne.mpr c3
    have c3b1 : (a0 != 4) = true := bne_iff_ne.mpr c3
    by_cases c4 : a0 = 5
    · rw [if_pos c4] at H
      have c4b0 : (a0 == 5) = true := beq_iff_eq.mpr c4
      have c4b1 : (a0 != 5) = false := bne_eq_false_iff_eq.mpr c4
      clear c4
      obtain rfl := Option.some.inj H
      go_enter Tryd.func91, Tryd.ntmps91
      go_wp2
      go_ret
      exact ⟨by first | rfl | (simp; done) | (simp [*]; done), by repeat (first | exact Drawn0.refl _ | apply Drawn0.step)⟩
    · rw [if_neg c4] at H
      have c4b0 : (a0 == 5) = false := beq_eq_false_iff_ne.mpr c4
      have c4b1 : (a0 != 5) = true := bne_iff_ne.mpr c4
      obtain rfl := Option.some.inj H
      go_enter Tryd.func91, Tryd.ntmps91
      go_wp2
      go_ret
      exact ⟨by first | rfl | (simp; done) | (simp [*]; done), by repeat (first | exact Drawn0.refl _ | apply Drawn0.step)⟩

/-! ### calc_parts: function 92 -/
def calc_parts.f (a0 : Int) (a1 : Int) : Option (Int × Int) := if a1 = (-1) then (some (wrap64 (-a0), 0)) else (if a1 = 0 then (none) else (some (wrap64 (Int.tdiv a0 a1), Int.tmod a0 a1)))
set_option maxHeartbeats 8000000 in
set_option maxRecDepth 100000 in
theorem calc_parts.calls (a0 : Int) (a1 : Int) (r1 : Int) (r2 : Int) (w : World) (h : calc_parts.f a0 a1 = some (r1, r2)) :
    Calls Tryd.prog 92 #[.int .i64 a0, .int .i64 a1] w fun e w' => e = .returned (.tuple #[.int .i64 r1, .int .i64 r2]) ∧ Drawn0 w w' := by
  have H : (if a1 = (-1) then (some (wrap64 (-a0), 0)) else (if a1 = 0 then (none) else (some (wrap64 (Int.tdiv a0 a1), Int.tmod a0 a1)))) = some (r1, r2) := h
  clear h
  by_cases c3 : a1 = (-1)
  · rw [if_pos c3] at H
    have c3b0 : (a1 == (-1)) = true := beq_iff_eq.mpr c3
    have c3b1 : (a1 != (-1)) = false := bne_eq_false_iff_eq.mpr c3
    clear c3
    simp only [Option.some.injEq, Prod.mk.injEq] at H
    obtain ⟨rfl, rfl⟩ := H
    go_enter Tryd.func92, Tryd.ntmps92
    go_wp2
    repeat (go_quiet (fail); try go_wp2)
    go_ret2
    exact ⟨by first | rfl | (simp; done) | (simp [*]; done), by repeat (first | exact Drawn0.refl _ | apply Drawn0.step)⟩
  · rw [if_neg c3] at H
    have c3b0 : (a1 == (-1)) = false := beq_eq_false_iff_ne.mpr c3
    have c3b1 : (a1 != (-1)) = true := bne_iff_ne.mpr c3
    by_cases c4 : a1 = 0
    · rw [if_pos c4] at H
      exact absurd H (by simp)
    · rw [if_neg c4] at H
      have c4b0 : (a1 == 0) = false := beq_eq_false_iff_ne.mpr c4
      have c4b1 : (a1 != 0) = true := bne_iff_ne.mpr c4
      simp only [Option.some.injEq, Prod.mk.injEq] at H
      obtain ⟨rfl, rfl⟩ := H
      go_enter Tryd.func92, Tryd.ntmps92
      go_wp2
      repeat (go_quiet (fail); try go_wp2)
      go_ret2
      exact ⟨by first | rfl | (simp; done) | (simp [*]; done), by repeat (first | exact Drawn0.refl _ | apply Drawn0.step)⟩

/-! ### given: calc_compares.lean -/
-- GIVEN spinnaker/calc.compares rounds=0 making=0
def calc_compares.f (a0 : Int) (a1 : Int) (a2 : Int) : Option (Int × Bool) :=
  if a0 = 11 then some (if a1 < a2 then 1 else 0, true)
  else if a0 = 12 then some (if a1 ≤ a2 then 1 else 0, true)
  else if a0 = 13 then some (if a1 = a2 then 1 else 0, true)
  else if a0 = 14 then some (if a1 = a2 then 0 else 1, true)
  else some (0, false)
theorem calc_compares.truth (b : Bool) (n : Int) (hn : Aside0 (n = if b then 1 else 0)) (w : World) : Calls Tryd.prog 105 #[.bool b] w fun e w' => e = .returned (.int .i64 n) ∧ w = w' := by
  cases b
  all_goals
    have h := hn.out
    simp at h
    subst h
    clear hn
    go_enter Tryd.func105, Tryd.ntmps105
    go_wp2
    go_ret
    exact ⟨rfl, rfl⟩
theorem calc_compares.is (b : Bool) (n : Int) (hn : Aside0 (n = if b then 1 else 0)) (w : World) : Calls Tryd.prog 104 #[.bool b] w fun e w' => e = .returned (.tuple #[.int .i64 n, .bool true]) ∧ w = w' := by
  go_enter Tryd.func104, Tryd.ntmps104
  go_wp2_with ((with_reducible refine (calc_compares.truth _ n hn _).mono ?_); rintro e w' ⟨rfl, rfl⟩)
  go_ret2
  exact ⟨rfl, rfl⟩
set_option maxHeartbeats 2000000 in
theorem calc_compares.calls (a0 : Int) (a1 : Int) (a2 : Int) (r1 : Int) (r2 : Bool) (w : World) (h : calc_compares.f a0 a1 a2 = some (r1, r2)) :
    Calls Tryd.prog 93 #[.int .i64 a0, .int .i64 a1, .int .i64 a2] w fun e w' => e = .returned (.tuple #[.int .i64 r1, .bool r2]) ∧ Drawn0 w w' := by
  unfold calc_compares.f at h
  by_cases c11 : a0 = 11
  · subst c11
    obtain ⟨n, hn⟩ : ∃ n : Int, Aside0 (n = if (decide (a1 < a2)) then 1 else 0) := ⟨_, ⟨rfl⟩⟩
    obtain ⟨rfl, rfl⟩ : r1 = n ∧ r2 = true := by
      rw [hn.out]
      simp at h
      obtain ⟨h1, h2⟩ := h
      subst h1 h2
      refine ⟨?_, rfl⟩
      by_cases e : a1 < a2 <;> simp [e]
    clear h
    go_enter Tryd.func93, Tryd.ntmps93
    go_wp2_with ((with_reducible refine (calc_compares.is _ r1 hn _).mono ?_); rintro e w' ⟨rfl, rfl⟩)
    go_ret2
    exact ⟨rfl, Drawn0.refl _⟩
  have d11 : (a0 == 11) = false := beq_eq_false_iff_ne.2 c11
  by_cases c12 : a0 = 12
  · subst c12
    obtain ⟨n, hn⟩ : ∃ n : Int, Aside0 (n = if (decide (a1 ≤ a2)) then 1 else 0) := ⟨_, ⟨rfl⟩⟩
    obtain ⟨rfl, rfl⟩ : r1 = n ∧ r2 = true := by
      rw [hn.out]
      simp at h
      obtain ⟨h1, h2⟩ := h
      subst h1 h2
      refine ⟨?_, rfl⟩
      by_cases e : a1 ≤ a2 <;> simp [e]
    clear h
    go_enter Tryd.func93, Tryd.ntmps93
    go_wp2_with ((with_reducible refine (calc_compares.is _ r1 hn _).mono ?_); rintro e w' ⟨rfl, rfl⟩)
    go_ret2
    exact ⟨rfl, Drawn0.refl _⟩
  have d12 : (a0 == 12) = false := beq_eq_false_iff_ne.2 c12
  by_cases c13 : a0 = 13
  · subst c13
    obtain ⟨n, hn⟩ : ∃ n : Int, Aside0 (n = if (a1 == a2) then 1 else 0) := ⟨_, ⟨rfl⟩⟩
    obtain ⟨rfl, rfl⟩ : r1 = n ∧ r2 = true := by
      rw [hn.out]
      simp at h
      obtain ⟨h1, h2⟩ := h
      subst h1 h2
      refine ⟨?_, rfl⟩
      by_cases e : a1 = a2 <;> simp [e]
    clear h
    go_enter Tryd.func93, Tryd.ntmps93
    go_wp2_with ((with_reducible refine (calc_compares.is _ r1 hn _).mono ?_); rintro e w' ⟨rfl, rfl⟩)
    go_ret2
    exact ⟨rfl, Drawn0.refl _⟩
  have d13 : (a0 == 13) = false := beq_eq_false_iff_ne.2 c13
  by_cases c14 : a0 = 14
  · subst c14
    obtain ⟨n, hn⟩ : ∃ n : Int, Aside0 (n = if (a1 != a2) then 1 else 0) := ⟨_, ⟨rfl⟩⟩
    obtain ⟨rfl, rfl⟩ : r1 = n ∧ r2 = true := by
      rw [hn.out]
      simp at h
      obtain ⟨h1, h2⟩ := h
      subst h1 h2
      refine ⟨?_, rfl⟩
      by_cases e : a1 = a2 <;> simp [e]
    clear h
    go_enter Tryd.func93, Tryd.ntmps93
    go_wp2_with ((with_reducible refine (calc_compares.is _ r1 hn _).mono ?_); rintro e w' ⟨rfl, rfl⟩)
    go_ret2
    exact ⟨rfl, Drawn0.refl _⟩
  have d14 : (a0 == 14) = false := beq_eq_false_iff_ne.2 c14
  rw [if_neg c11, if_neg c12, if_neg c13, if_neg c14] at h
  obtain ⟨rfl, rfl⟩ : r1 = 0 ∧ r2 = false := by simpa [eq_comm] using h
  clear h c11 c12 c13 c14
  go_enter Tryd.func93, Tryd.ntmps93
  go_wp2
  go_ret2
  exact ⟨rfl, Drawn0.refl _⟩


/-! ### calc_Bin: function 76 -/
def calc_Bin.f (a0 : Int) (a1 : Int) (a2 : Int) : Option (Int × Bool) := (calc_Fails.f a0 a2).bind fun t121 => (if t121 = true then (some (0, false)) else (if a0 = 1 then (some (wrap64 (a1 + a2), true)) else (if a0 = 2 then (some (wrap64 (a1 - a2), true)) else (if a0 = 3 then (some (wrap64 (a1 * a2), true)) else (if a0 = 4 then ((calc_parts.f a1 a2).bind fun bt122 => (some (bt122.1, true))) else (if a0 = 5 then ((calc_parts.f a1 a2).bind fun bt124 => (some (bt124.2, true))) else (if a0 = 6 then (some (Go.bits .and .i64 a1 a2, true)) else (if a0 = 7 then (some (Go.bits .or .i64 a1 a2, true)) else (if a0 = 8 then (some (Go.bits .xor .i64 a1 a2, true)) else (if a0 = 9 then (if 0 ≤ (Go.bits .and .u64 (IntKind.u64.wrap (a2)) 63) then (some (shl .i64 a1 (Go.bits .and .u64 (IntKind.u64.wrap (a2)) 63), true)) else (none)) else (if a0 = 10 then (if 0 ≤ (Go.bits .and .u64 (IntKind.u64.wrap (a2)) 63) then (some (shr .i64 a1 (Go.bits .and .u64 (IntKind.u64.wrap (a2)) 63), true)) else (none)) else ((calc_compares.f a0 a1 a2).bind fun bt126 => (some (bt126.1, bt126.2))))))))))))))
theorem z76_0 {p : Prop} (h : p := by (try simp only [List.map_toArray, List.map_cons, List.map_nil]); first | done | rfl | (simp only [List.length_drop, List.length_take]; rfl)) : p := h
set_option maxHeartbeats 8000000 in
set_option maxRecDepth 100000 in
theorem calc_Bin.calls (a0 : Int) (a1 : Int) (a2 : Int) (r1 : Int) (r2 : Bool) (w : World) (h : calc_Bin.f a0 a1 a2 = some (r1, r2)) :
  Calls Tryd.prog 76 #[.int .i64 a0, .int .i64 a1, .int .i64 a2] w fun e w' => e = .returned (.tuple #[.int .i64 r1, .bool r2]) ∧ Drawn0 w w' := by
 have H : ((calc_Fails.f a0 a2).bind fun t121 => (if t121 = true then (some (0, false)) else (if a0 = 1 then (some (wrap64 (a1 + a2), true)) else (if a0 = 2 then (some (wrap64 (a1 - a2), true)) else (if a0 = 3 then (some (wrap64 (a1 * a2), true)) else (if a0 = 4 then ((calc_parts.f a1 a2).bind fun bt122 => (some (bt122.1, true))) else (if a0 = 5 then ((calc_parts.f a1 a2).bind fun bt124 => (some (bt124.2, true))) else (if a0 = 6 then (some (Go.bits .and .i64 a1 a2, true)) else (if a0 = 7 then (some (Go.bits .or .i64 a1 a2, true)) else (if a0 = 8 then (some (Go.bits .xor .i64 a1 a2, true)) else (if a0 = 9 then (if 0 ≤ (Go.bits .and .u64 (IntKind.u64.wrap (a2)) 63) then (some (shl .i64 a1 (Go.bits .and .u64 (IntKind.u64.wrap (a2)) 63), true)) else (none)) else (if a0 = 10 then (if 0 ≤ (Go.bits .and .u64 (IntKind.u64.wrap (a2)) 63) then (some (shr .i64 a1 (Go.bits .and .u64 (IntKind.u64.wrap (a2)) 63), true)) else (none)) else ((calc_compares.f a0 a1 a2).bind fun bt126 => (some (bt126.1, bt126.2))))))))))))))) = some (r1, r2) := h; clear h; replace H := Option.bind_eq_some_iff.mp H; obtain ⟨t121, A40, H⟩ := H; replace H : (if t121 = true then (some (0, false)) else (if a0 = 1 then (some (wrap64 (a1 + a2), true)) else (if a0 = 2 then (some (wrap64 (a1 - a2), true)) else (if a0 = 3 then (some (wrap64 (a1 * a2), true)) else (if a0 = 4 then ((calc_parts.f a1 a2).bind fun bt122 => (some (bt122.1, true))) else (if a0 = 5 then ((calc_parts.f a1 a2).bind fun bt124 => (some (bt124.2, true))) else (if a0 = 6 then (some (Go.bits .and .i64 a1 a2, true)) else (if a0 = 7 then (some (Go.bits .or .i64 a1 a2, true)) else (if a0 = 8 then (some (Go.bits .xor .i64 a1 a2, true)) else (if a0 = 9 then (if 0 ≤ (Go.bits .and .u64 (IntKind.u64.wrap (a2)) 63) then (some (shl .i64 a1 (Go.bits .and .u64 (IntKind.u64.wrap (a2)) 63), true)) else (none)) else (if a0 = 10 then (if 0 ≤ (Go.bits .and .u64 (IntKind.u64.wrap (a2)) 63) then (some (shr .i64 a1 (Go.bits .and .u64 (IntKind.u64.wrap (a2)) 63), true)) else (none)) else ((calc_compares.f a0 a1 a2).bind fun bt126 => (some (bt126.1, bt126.2)))))))))))))) = some (r1, r2) := H; have A4 := Aside0.mk A40; clear A40
 by_cases c5 : t121 = true
 ·subst c5
  have H1 : (some (0, false)) = some (r1, r2) := by rw [if_pos rfl] at H; exact H
  clear H; have H := H1; clear H1; simp only [Option.some.injEq, Prod.mk.injEq] at H; obtain ⟨rfl, rfl⟩ := H
  go_enter Tryd.func76, Tryd.ntmps76
  go_wp2_with (first | ((with_reducible refine gate_callee (f := 91) rfl ?_); refine goesL_ (some 15) rfl rfl Tryd.func91 (by kernel_rfl) rfl #[.int .i64 a0, .int .i64 a2] rfl z76_0 ?_; (with_reducible refine (calc_Fails.calls a0 a2 true _ A4.out).mono ?_); rintro e w' ⟨rfl, ⟨nd, rfl⟩⟩; refine ⟨_, rfl, ?_⟩))
  go_ret2
  exact ⟨by first | rfl | (simp; done) | (simp [*]; done), by repeat (first | exact Drawn0.refl _ | apply Drawn0.step)⟩
 ·replace c5 := Bool.eq_false_iff.mpr c5
  subst c5
  have H1 : (if a0 = 1 then (some (wrap64 (a1 + a2), true)) else (if a0 = 2 then (some (wrap64 (a1 - a2), true)) else (if a0 = 3 then (some (wrap64 (a1 * a2), true)) else (if a0 = 4 then ((calc_parts.f a1 a2).bind fun bt122 => (some (bt122.1, true))) else (if a0 = 5 then ((calc_parts.f a1 a2).bind fun bt124 => (some (bt124.2, true))) else (if a0 = 6 then (some (Go.bits .and .i64 a1 a2, true)) else (if a0 = 7 then (some (Go.bits .or .i64 a1 a2, true)) else (if a0 = 8 then (some (Go.bits .xor .i64 a1 a2, true)) else (if a0 = 9 then (if 0 ≤ (Go.bits .and .u64 (IntKind.u64.wrap (a2)) 63) then (some (shl .i64 a1 (Go.bits .and .u64 (IntKind.u64.wrap (a2)) 63), true)) else (none)) else (if a0 = 10 then (if 0 ≤ (Go.bits .and .u64 (IntKind.u64.wrap (a2)) 63) then (some (shr .i64 a1 (Go.bits .and .u64 (IntKind.u64.wrap (a2)) 63), true)) else (none)) else ((calc_compares.f a0 a1 a2).bind fun bt126 => (some (bt126.1, bt126.2))))))))))))) = some (r1, r2) := by rw [if_neg (show ¬ (false = true) by decide)] at H; exact H
  clear H; have H := H1; clear H1
  by_cases c6 : a0 = 1
  ·rw [if_pos c6] at H
   have c6b0 : (a0 == 1) = true := beq_iff_eq.mpr c6; have c6b1 : (a0 != 1) = false := bne_eq_false_iff_eq.mpr c6; clear c6; simp only [Option.some.injEq, Prod.mk.injEq] at H; obtain ⟨rfl, rfl⟩ := H
   go_enter Tryd.func76, Tryd.ntmps76
   go_wp2_with (first | ((with_reducible refine gate_callee (f := 91) rfl ?_); refine goesL_ (some 15) rfl rfl Tryd.func91 (by kernel_rfl) rfl #[.int .i64 a0, .int .i64 a2] rfl z76_0 ?_; (with_reducible refine (calc_Fails.calls a0 a2 false _ A4.out).mono ?_); rintro e w' ⟨rfl, ⟨nd, rfl⟩⟩; refine ⟨_, rfl, ?_⟩))
   go_ret2
   exact ⟨by first | rfl | (simp; done) | (simp [*]; done), by repeat (first | exact Drawn0.refl _ | apply Drawn0.step)⟩
  ·rw [if_neg c6] at H
   have c6b0 : (a0 == 1) = false := beq_eq_false_iff_ne.mpr c6; have c6b1 : (a0 != 1) = true := bne_iff_ne.mpr c6
   by_cases c7 : a0 = 2
   ·rw [if_pos c7] at H
    have c7b0 : (a0 == 2) = true := beq_iff_eq.mpr c7; have c7b1 : (a0 != 2) = false := bne_eq_false_iff_eq.mpr c7; clear c7; simp only [Option.some.injEq, Prod.mk.injEq] at H; obtain ⟨rfl, rfl⟩ := H
    go_enter Tryd.func76, Tryd.ntmps76
    go_wp2_with (first | ((with_reducible refine gate_callee (f := 91) rfl ?_); refine goesL_ (some 15) rfl rfl Tryd.func91 (by kernel_rfl) rfl #[.int .i64 a0, .int .i64 a2] rfl z76_0 ?_; (with_reducible refine (calc_Fails.calls a0 a2 false _ A4.out).mono ?_); rintro e w' ⟨rfl, ⟨nd, rfl⟩⟩; refine ⟨_, rfl, ?_⟩))
    go_ret2
    exact ⟨by first | rfl | (simp; done) | (simp [*]; done), by repeat (first | exact Drawn0.refl _ | apply Drawn0.step)⟩
   ·rw [if_neg c7] at H
    have c7b0 : (a0 == 2) = false := beq_eq_false_iff_ne.mpr c7; have c7b1 : (a0 != 2) = true := bne_iff_ne.mpr c7
    by_cases c8 : a0 = 3
    ·rw [if_pos c8] at H
     have c8b0 : (a0 == 3) = true := beq_iff_eq.mpr c8; have c8b1 : (a0 != 3) = false := bne_eq_false_iff_eq.mpr c8; clear c8; simp only [Option.some.injEq, Prod.mk.injEq] at H; obtain ⟨rfl, rfl⟩ := H
     go_enter Tryd.func76, Tryd.ntmps76
     go_wp2_with (first | ((with_reducible refine gate_callee (f := 91) rfl ?_); refine goesL_ (some 15) rfl rfl Tryd.func91 (by kernel_rfl) rfl #[.int .i64 a0, .int .i64 a2] rfl z76_0 ?_; (with_reducible refine (calc_Fails.calls a0 a2 false _ A4.out).mono ?_); rintro e w' ⟨rfl, ⟨nd, rfl⟩⟩; refine ⟨_, rfl, ?_⟩))
     go_ret2
     exact ⟨by first | rfl | (simp; done) | (simp [*]; done), by repeat (first | exact Drawn0.refl _ | apply Drawn0.step)⟩
    ·rw [if_neg c8] at H
     have c8b0 : (a0 == 3) = false := beq_eq_false_iff_ne.mpr c8; have c8b1 : (a0 != 3) = true := bne_iff_ne.mpr c8
     by_cases c9 : a0 = 4
     ·rw [if_pos c9] at H
      have c9b0 : (a0 == 4) = true := beq_iff_eq.mpr c9; have c9b1 : (a0 != 4) = false := bne_eq_false_iff_eq.mpr c9; clear c9; replace H := Option.bind_eq_some_iff.mp H; obtain ⟨⟨t122, t123⟩, A100, H⟩ := H; replace H : (some (t122, true)) = some (r1, r2) := H; have A10 := Aside0.mk A100; clear A100; simp only [Option.some.injEq, Prod.mk.injEq] at H; obtain ⟨rfl, rfl⟩ := H
      go_enter Tryd.func76, Tryd.ntmps76
      go_wp2_with (first | ((with_reducible refine gate_callee (f := 91) rfl ?_); refine goesL_ (some 15) rfl rfl Tryd.func91 (by kernel_rfl) rfl #[.int .i64 a0, .int .i64 a2] rfl z76_0 ?_; (with_reducible refine (calc_Fails.calls a0 a2 false _ A4.out).mono ?_); rintro e w' ⟨rfl, ⟨nd, rfl⟩⟩; refine ⟨_, rfl, ?_⟩) | ((with_reducible refine gate_callee (f := 92) rfl ?_); refine goesL_ (some 40) rfl rfl Tryd.func92 (by kernel_rfl) rfl #[.int .i64 a1, .int .i64 a2] rfl z76_0 ?_; (with_reducible refine (calc_parts.calls a1 a2 t122 t123 _ A10.out).mono ?_); rintro e w' ⟨rfl, ⟨nd, rfl⟩⟩; refine ⟨_, rfl, ?_⟩))
      go_ret2
      exact ⟨by first | rfl | (simp; done) | (simp [*]; done), by repeat (first | exact Drawn0.refl _ | apply Drawn0.step)⟩
     ·rw [if_neg c9] at H
      have c9b0 : (a0 == 4) = false := beq_eq_false_iff_ne.mpr c9; have c9b1 : (a0 != 4) = true := bne_iff_ne.mpr c9
      by_cases c11 : a0 = 5
      ·rw [if_pos c11] at H
       have c11b0 : (a0 == 5) = true := beq_iff_eq.mpr c11; have c11b1 : (a0 != 5) = false := bne_eq_false_iff_eq.mpr c11; clear c11; replace H := Option.bind_eq_some_iff.mp H; obtain ⟨⟨t124, t125⟩, A120, H⟩ := H; replace H : (some (t125, true)) = some (r1, r2) := H; have A12 := Aside0.mk A120; clear A120; simp only [Option.some.injEq, Prod.mk.injEq] at H; obtain ⟨rfl, rfl⟩ := H
       go_enter Tryd.func76, Tryd.ntmps76
       go_wp2_with (first | ((with_reducible refine gate_callee (f := 91) rfl ?_); refine goesL_ (some 15) rfl rfl Tryd.func91 (by kernel_rfl) rfl #[.int .i64 a0, .int .i64 a2] rfl z76_0 ?_; (with_reducible refine (calc_Fails.calls a0 a2 false _ A4.out).mono ?_); rintro e w' ⟨rfl, ⟨nd, rfl⟩⟩; refine ⟨_, rfl, ?_⟩) | ((with_reducible refine gate_callee (f := 92) rfl ?_); refine goesL_ (some 49) rfl rfl Tryd.func92 (by kernel_rfl) rfl #[.int .i64 a1, .int .i64 a2] rfl z76_0 ?_; (with_reducible refine (calc_parts.calls a1 a2 t124 t125 _ A12.out).mono ?_); rintro e w' ⟨rfl, ⟨nd, rfl⟩⟩; refine ⟨_, rfl, ?_⟩))
       go_ret2
       exact ⟨by first | rfl | (simp; done) | (simp [*]; done), by repeat (first | exact Drawn0.refl _ | apply Drawn0.step)⟩
      ·rw [if_neg c11] at H
       have c11b0 : (a0 == 5) = false := beq_eq_false_iff_ne.mpr c11; have c11b1 : (a0 != 5) = true := bne_iff_ne.mpr c11
       by_cases c13 : a0 = 6
       ·rw [if_pos c13] at H
        have c13b0 : (a0 == 6) = true := beq_iff_eq.mpr c13; have c13b1 : (a0 != 6) = false := bne_eq_false_iff_eq.mpr c13; clear c13; simp only [Option.some.injEq, Prod.mk.injEq] at H; obtain ⟨rfl, rfl⟩ := H
        go_enter Tryd.func76, Tryd.ntmps76
        go_wp2_with (first | ((with_reducible refine gate_callee (f := 91) rfl ?_); refine goesL_ (some 15) rfl rfl Tryd.func91 (by kernel_rfl) rfl #[.int .i64 a0, .int .i64 a2] rfl z76_0 ?_; (with_reducible refine (calc_Fails.calls a0 a2 false _ A4.out).mono ?_); rintro e w' ⟨rfl, ⟨nd, rfl⟩⟩; refine ⟨_, rfl, ?_⟩))
        go_ret2
        exact ⟨by first | rfl | (simp; done) | (simp [*]; done), by repeat (first | exact Drawn0.refl _ | apply Drawn0.step)⟩
       ·rw [if_neg c13] at H
        have c13b0 : (a0 == 6) = false := beq_eq_false_iff_ne.mpr c13; have c13b1 : (a0 != 6) = true := bne_iff_ne.mpr c13
        by_cases c14 : a0 = 7
        ·rw [if_pos c14] at H
         have c14b0 : (a0 == 7) = true := beq_iff_eq.mpr c14; have c14b1 : (a0 != 7) = false := bne_eq_false_iff_eq.mpr c14; clear c14; simp only [Option.some.injEq, Prod.mk.injEq] at H; obtain ⟨rfl, rfl⟩ := H
         go_enter Tryd.func76, Tryd.ntmps76
         go_wp2_with (first | ((with_reducible refine gate_callee (f := 91) rfl ?_); refine goesL_ (some 15) rfl rfl Tryd.func91 (by kernel_rfl) rfl #[.int .i64 a0, .int .i64 a2] rfl z76_0 ?_; (with_reducible refine (calc_Fails.calls a0 a2 false _ A4.out).mono ?_); rintro e w' ⟨rfl, ⟨nd, rfl⟩⟩; refine ⟨_, rfl, ?_⟩))
         go_ret2
         exact ⟨by first | rfl | (simp; done) | (simp [*]; done), by repeat (first | exact Drawn0.refl _ | apply Drawn0.step)⟩
        ·rw [if_neg c14] at H
         have c14b0 : (a0 == 7) = false := beq_eq_false_iff_ne.mpr c14; have c14b1 : (a0 != 7) = true := bne_iff_ne.mpr c14
         by_cases c15 : a0 = 8
         ·rw [if_pos c15] at H
          have c15b0 : (a0 == 8) = true := beq_iff_eq.mpr c15; have c15b1 : (a0 != 8) = false := bne_eq_false_iff_eq.mpr c15; clear c15; simp only [Option.some.injEq, Prod.mk.injEq] at H; obtain ⟨rfl, rfl⟩ := H
          go_enter Tryd.func76, Tryd.ntmps76
          go_wp2_with (first | ((with_reducible refine gate_callee (f := 91) rfl ?_); refine goesL_ (some 15) rfl rfl Tryd.func91 (by kernel_rfl) rfl #[.int .i64 a0, .int .i64 a2] rfl z76_0 ?_; (with_reducible refine (calc_Fails.calls a0 a2 false _ A4.out).mono ?_); rintro e w' ⟨rfl, ⟨nd, rfl⟩⟩; refine ⟨_, rfl, ?_⟩))
          go_ret2
          exact ⟨by first | rfl | (simp; done) | (simp [*]; done), by repeat (first | exact Drawn0.refl _ | apply Drawn0.step)⟩
         ·rw [if_neg c15] at H
          have c15b0 : (a0 == 8) = false := beq_eq_false_iff_ne.mpr c15; have c15b1 : (a0 != 8) = true := bne_iff_ne.mpr c15
          by_cases c16 : a0 = 9
          ·rw [if_pos c16] at H
           have c16b0 : (a0 == 9) = true := beq_iff_eq.mpr c16; have c16b1 : (a0 != 9) = false := bne_eq_false_iff_eq.mpr c16; clear c16; obtain ⟨ji17, hji17⟩ : ∃ j_ : Int, (Go.bits .and .u64 (IntKind.u64.wrap (a2)) 63) = j_ := ⟨_, rfl⟩
           replace H : (if 0 ≤ (ji17) then (some (shl .i64 a1 (ji17), true)) else (none)) = some (r1, r2) := by first | (rw [hji17] at H; exact H) | (simp only [hji17] at H ⊢; exact H)
           (try rw [hji17] at A4)
           by_cases c18 : 0 ≤ (ji17)
           ·rw [if_pos c18] at H
            have c18b0 := eq_true c18; have c18b1 : decide (0 ≤ (ji17)) = true := decide_eq_true c18; clear c18; obtain ⟨ji19, hji19⟩ : ∃ j_ : Int, (shl .i64 a1 (ji17)) = j_ := ⟨_, rfl⟩
            replace H : (some (ji19, true)) = some (r1, r2) := by first | (rw [hji19] at H; exact H) | (simp only [hji19] at H ⊢; exact H)
            (try rw [hji19] at A4); have hji19_ : (IntKind.i64.wrap (a1 * 2 ^ min (ji17).toNat 64)) = ji19 := hji19; have hji19z : (ji17) ≤ 64 → (IntKind.i64.wrap (a1 * 2 ^ (ji17).toNat)) = ji19 := shl_small hji19; have hji19y : (wrap64 (a1 * 2 ^ min (ji17).toNat 64)) = ji19 := (i64_w _).symm.trans hji19_
            have hji19x : (ji17) ≤ 64 → (wrap64 (a1 * 2 ^ (ji17).toNat)) = ji19 := fun h_ => (i64_w _).symm.trans (hji19z h_)
            simp only [Option.some.injEq, Prod.mk.injEq] at H; obtain ⟨rfl, rfl⟩ := H
            go_enter Tryd.func76, Tryd.ntmps76
            go_wp2_with (first | ((with_reducible refine gate_callee (f := 91) rfl ?_); refine goesL_ (some 15) rfl rfl Tryd.func91 (by kernel_rfl) rfl #[.int .i64 a0, .int .i64 a2] rfl z76_0 ?_; (with_reducible refine (calc_Fails.calls a0 a2 false _ A4.out).mono ?_); rintro e w' ⟨rfl, ⟨nd, rfl⟩⟩; refine ⟨_, rfl, ?_⟩))
            go_ret2
            exact ⟨by first | rfl | (simp; done) | (simp only [← hji17, ← hji19] <;> (first | rfl | simp)) | (simp [*]; done), by repeat (first | exact Drawn0.refl _ | apply Drawn0.step)⟩
           ·rw [if_neg c18] at H
            exact absurd H (by simp)
          ·rw [if_neg c16] at H
           have c16b0 : (a0 == 9) = false := beq_eq_false_iff_ne.mpr c16; have c16b1 : (a0 != 9) = true := bne_iff_ne.mpr c16
           by_cases c20 : a0 = 10
           ·rw [if_pos c20] at H
            have c20b0 : (a0 == 10) = true := beq_iff_eq.mpr c20; have c20b1 : (a0 != 10) = false := bne_eq_false_iff_eq.mpr c20; clear c20; obtain ⟨ji21, hji21⟩ : ∃ j_ : Int, (Go.bits .and .u64 (IntKind.u64.wrap (a2)) 63) = j_ := ⟨_, rfl⟩
            replace H : (if 0 ≤ (ji21) then (some (shr .i64 a1 (ji21), true)) else (none)) = some (r1, r2) := by first | (rw [hji21] at H; exact H) | (simp only [hji21] at H ⊢; exact H)
            (try rw [hji21] at A4)
            by_cases c22 : 0 ≤ (ji21)
            ·rw [if_pos c22] at H
             have c22b0 := eq_true c22; have c22b1 : decide (0 ≤ (ji21)) = true := decide_eq_true c22; clear c22; obtain ⟨ji23, hji23⟩ : ∃ j_ : Int, (shr .i64 a1 (ji21)) = j_ := ⟨_, rfl⟩
             replace H : (some (ji23, true)) = some (r1, r2) := by first | (rw [hji23] at H; exact H) | (simp only [hji23] at H ⊢; exact H)
             (try rw [hji23] at A4); have hji23_ : (a1 / 2 ^ min (ji21).toNat 64) = ji23 := hji23; have hji23z : (ji21) ≤ 64 → (a1 / 2 ^ (ji21).toNat) = ji23 := shr_small hji23; simp only [Option.some.injEq, Prod.mk.injEq] at H; obtain ⟨rfl, rfl⟩ := H
             go_enter Tryd.func76, Tryd.ntmps76
             go_wp2_with (first | ((with_reducible refine gate_callee (f := 91) rfl ?_); refine goesL_ (some 15) rfl rfl Tryd.func91 (by kernel_rfl) rfl #[.int .i64 a0, .int .i64 a2] rfl z76_0 ?_; (with_reducible refine (calc_Fails.calls a0 a2 false _ A4.out).mono ?_); rintro e w' ⟨rfl, ⟨nd, rfl⟩⟩; refine ⟨_, rfl, ?_⟩))
             go_ret2
             exact ⟨by first | rfl | (simp; done) | (simp only [← hji21, ← hji23] <;> (first | rfl | simp)) | (simp [*]; done), by repeat (first | exact Drawn0.refl _ | apply Drawn0.step)⟩
            ·rw [if_neg c22] at H
             exact absurd H (by simp)
           ·rw [if_neg c20] at H
            have c20b0 : (a0 == 10) = false := beq_eq_false_iff_ne.mpr c20; have c20b1 : (a0 != 10) = true := bne_iff_ne.mpr c20; replace H := Option.bind_eq_some_iff.mp H; obtain ⟨⟨t126, t127⟩, A240, H⟩ := H; replace H : (some (t126, t127)) = some (r1, r2) := H; have A24 := Aside0.mk A240; clear A240; simp only [Option.some.injEq, Prod.mk.injEq] at H; obtain ⟨rfl, rfl⟩ := H
            go_enter Tryd.func76, Tryd.ntmps76
            go_wp2_with (first | ((with_reducible refine gate_callee (f := 91) rfl ?_); refine goesL_ (some 15) rfl rfl Tryd.func91 (by kernel_rfl) rfl #[.int .i64 a0, .int .i64 a2] rfl z76_0 ?_; (with_reducible refine (calc_Fails.calls a0 a2 false _ A4.out).mono ?_); rintro e w' ⟨rfl, ⟨nd, rfl⟩⟩; refine ⟨_, rfl, ?_⟩) | ((with_reducible refine gate_callee (f := 93) rfl ?_); refine goesL_ (some 81) rfl rfl Tryd.func93 (by kernel_rfl) rfl #[.int .i64 a0, .int .i64 a1, .int .i64 a2] rfl z76_0 ?_; (with_reducible refine (calc_compares.calls a0 a1 a2 t126 t127 _ A24.out).mono ?_); rintro e w' ⟨rfl, ⟨nd, rfl⟩⟩; refine ⟨_, rfl, ?_⟩))
            go_ret2
            exact ⟨by first | rfl | (simp; done) | (simp [*]; done), by repeat (first | exact Drawn0.refl _ | apply Drawn0.step)⟩

end Go.Proofs.YtbcfpgcfamipmaaDoor.PFoldActions
