-- printed by a program of this session (wip/mp.py: the kit's printer, patched, over the session's own templates); checked by Lean alone
import Derived.Test.YtgenmfbidpmneaaDoorOPFlowOrdersx0
import Derived.Test.YtgenmfbidpmneaaDoorOPFlowOrdersx2
import Derived.Test.YtgenmfbidpmneaaDoorOPFlowOrdersx3
import Derived.Test.YtgenmfbidpmneaaDoorOPFlowOrdersx4
import Derived.Test.YtgenmfbidpmneaaDoorOPFlowOrdersx5
import Derived.Test.YtgenmfbidpmneaaDoorOPFlowOrdersx7
import Derived.Test.YtgenmfbidpmneaaDoorOPFlowOrdersx8
namespace Go.Proofs.YtgenmfbidpmneaaDoor.PFlowOrders
open Go.RowKit Go.Proofs.YtgenmfbidpmneaaDoorW.PrintWords Go.Proofs.YtgenmfbidpmneaaDoorW.PrintLast Go.Proofs.YtgenmfbidpmneaaDoorW.PrintMore
attribute [local go_sem] max2_int min2_int max_two min_two max_three min_three max_four min_four   -- for this text's walks alone
set_option linter.unusedVariables false
set_option linter.unusedSimpArgs false

/-! ### spinnakerref33_left: function 47 -/
mutual
def spinnakerref33_left.l0 : Nat → Int → List Bool → List Int → List Int → Int → Int → List Int → List (S36) → Option (List Int × List Bool)
  | 0, _, _, _, _, _, _, _, _ => none
  | k + 1, x1, x2, x3, x9, x10, x245000, x245001, x245002 => if x10 < (x9.length : Int) then (if 0 ≤ x10 then (if 0 ≤ (rd x9 x10) then (if (rd x9 x10) < (x2.length : Int) then (if (rdOf false x2 (rd x9 x10) = true) then (spinnakerref33_left.l0 k x1 x2 x3 x9 (wrap64 (x10 + 1)) x245000 x245001 x245002) else ((spinnakerref33_left.f k x245000 x245001 x245002 (rd x9 x10) x2 x3).bind fun bt253 => (spinnakerref33_left.l0 k x1 bt253.2 bt253.1 x9 (wrap64 (x10 + 1)) x245000 x245001 x245002))) else (none)) else (none)) else (none)) else (if x3.length < 17592186044416 then (some ((x3 ++ [x1]), x2)) else (none))
def spinnakerref33_left.f : Nat → Int → List Int → List (S36) → Int → List Bool → List Int → Option (List Int × List Bool)
  | 0, _, _, _, _, _, _ => none
  | k + 1, a0_0, l0_1, l0_2, a1, l2, l3 => if 0 ≤ a1 then (if a1 < (l2.length : Int) then (if a1 < (l0_2.length : Int) then ((spinnakerref26_Next.f ((rd_T36 l0_2 a1).f1.f0) ((rd_T36 l0_2 a1).f1.f1) ((rd_T36 l0_2 a1).f1.f2) ((rd_T36 l0_2 a1).f1.f3)).bind fun t247 => (spinnakerref33_left.l0 k a1 (l2.set (a1 : Int).toNat true) l3 t247 0 a0_0 l0_1 l0_2)) else (none)) else (none)) else (none)
end
theorem spinnakerref33_left.mono_l : ∀ k, (∀ y0 y1 y2 y3 y4 y5, LeO (spinnakerref33_left.f k y0 y1 y2 y3 y4 y5) (spinnakerref33_left.f (k + 1) y0 y1 y2 y3 y4 y5)) ∧ (∀ y0 y1 y2 y3 y4 y5 y6 y7, LeO (spinnakerref33_left.l0 k y0 y1 y2 y3 y4 y5 y6 y7) (spinnakerref33_left.l0 (k + 1) y0 y1 y2 y3 y4 y5 y6 y7))
  | 0 => ⟨fun _ _ _ _ _ _ r h => by simp [spinnakerref33_left.f] at h, fun _ _ _ _ _ _ _ _ r h => by simp [spinnakerref33_left.l0] at h⟩
  | k + 1 => by
    obtain ⟨ih0, ih1⟩ := spinnakerref33_left.mono_l k; refine ⟨?_, ?_⟩
    · intro y0 y1 y2 y3 y4 y5
      unfold spinnakerref33_left.f
      repeat' first
 | (with_reducible exact ih0 _ _ _ _ _ _)
 | (with_reducible exact ih1 _ _ _ _ _ _ _ _)
 | (with_reducible exact LeO.refl _)
 | (with_reducible exact LeO.none _)
 | (with_reducible refine LeO.ite ?_ ?_)
 | (with_reducible refine LeO.bind ?_ (fun _ => ?_))
    · intro y0 y1 y2 y3 y4 y5 y6 y7
      unfold spinnakerref33_left.l0
      repeat' first
 | (with_reducible exact ih0 _ _ _ _ _ _)
 | (with_reducible exact ih1 _ _ _ _ _ _ _ _)
 | (with_reducible exact LeO.refl _)
 | (with_reducible exact LeO.none _)
 | (with_reducible refine LeO.ite ?_ ?_)
 | (with_reducible refine LeO.bind ?_ (fun _ => ?_))
theorem spinnakerref33_left.mono : ∀ a0 a1 a2 a3 a4 a5 k, LeO (spinnakerref33_left.f k a0 a1 a2 a3 a4 a5) (spinnakerref33_left.f (k + 1) a0 a1 a2 a3 a4 a5) := by
  intro a0 a1 a2 a3 a4 a5 k; obtain ⟨ih0, ih1⟩ := spinnakerref33_left.mono_l k; exact ih0 a0 a1 a2 a3 a4 a5
def spinnakerref33_left.T7 : Bool × List (List Nat × List Nat) := (true, [([], []), ([], []), ([], []), ([1, 2], [1, 2]), ([3], [3]), ([], []), ([], []), ([0, 4, 5, 6], [0, 4, 5, 6]), ([7, 7, 0, 1, 2, 3, 4, 5, 6, 7], [6, 7])])
def spinnakerref33_left.B7 : List Nat := [0, 0, 0, 6, 14, 0, 0, 127, 255]
theorem spinnakerref33_left.tab7 : rtab .any (opsOf Tryd.f47 7) = spinnakerref33_left.T7 := by kernel_rfl
theorem spinnakerref33_left.bits7 : waitsOk spinnakerref33_left.T7.2 spinnakerref33_left.B7 = true := by kernel_rfl
theorem z47_0 {p : Prop} (h : p := by repeat (first | (with_reducible first | exact HK.out | apply Kept.alloc | apply Kept.drewN | apply Kept.drew | refine Kept.setCell ?_ (.inr GW244.out) _) | exact HK.out)) : p := h
theorem z47_1 {p : Prop} (h : p := by repeat (first | (with_reducible first | exact HB.out | apply below_alloc | apply pw_below_drewN | apply below_drew1 | refine below_set ?_ GE244.out) | exact HB.out)) : p := h
theorem z47_2 {p : Prop} (h : p := by first | (with_reducible assumption) | assumption) : p := h
theorem z47_3 {p : Prop} (h : p := by first | exact HK.out.1 | exact (show Kept w _ (fun k_ => P2_ k_ ∨ P3_ k_) from by repeat (first | (with_reducible first | exact HK.out | apply Kept.alloc | apply Kept.drewN | apply Kept.drew | refine Kept.setCell ?_ (.inr GW244.out) _) | exact HK.out)).1) : p := h
theorem z47_4 {p : Prop} (h : p := by (with_reducible repeat (first | refine blk_drewN ?_ _ | refine blk_drew ?_ | refine blk_alloc ?_ _)); exact BK244.out) : p := h
theorem z47_5 {p : Prop} (h : p := by (with_reducible repeat (first | apply Kd.R_alloc | apply Kd.R_drewN | apply Kd.R_drew)); exact HO3.out) : p := h
set_option maxHeartbeats 8000000 in
set_option maxRecDepth 100000 in
theorem spinnakerref33_left.calls (k : Nat) : ∀ (a0_0 : Int) (A0_1 : Option Addr) (c0_1 : Nat) (l0_1 : List Int) (A0_2 : Option Addr) (c0_2 : Nat) (l0_2 : List (S36)) (a1 : Int) (P2_ : Nat → Prop) (u9000_ : Value) (l2 : List Bool) (P3_ : Nat → Prop) (u9001_ : Value) (l3 : List Int) (r1 : List Int) (r2 : List Bool) (w0 w : World) (hB : Below w0.heap.size w0 w) (hr0_1 : ∀ W_, Kept w W_ (fun k_ => P2_ k_ ∨ P3_ k_) → Kd.C (Kd.int .i64) W_ A0_1 l0_1.length l0_1) (hc0_1 : l0_1.length ≤ c0_1) (hr0_2 : ∀ W_, Kept w W_ (fun k_ => P2_ k_ ∨ P3_ k_) → Kd.C k36 W_ A0_2 l0_2.length l0_2) (hc0_2 : l0_2.length ≤ c0_2) (ho2 : Kd.R Kd.bool 4 w w0.heap.size P2_ u9000_ l2) (ho3 : Kd.R (Kd.int .i64) 3 w w0.heap.size P3_ u9001_ l3) (h : spinnakerref33_left.f k a0_0 l0_1 l0_2 a1 l2 l3 = some (r1, r2)),
  Calls Tryd.prog 47 #[.agg #[.int .i64 a0_0, .slice A0_1 l0_1.length c0_1, .slice A0_2 l0_2.length c0_2], .int .i64 a1, u9000_, u9001_] w fun e w' => ∃ v0_ : Value, e = .returned (v0_) ∧ Kd.R (Kd.int .i64) 3 w' w0.heap.size (fun k_ => ((P2_ k_ ∨ P3_ k_) ∨ w.heap.size ≤ k_)) v0_ r1 ∧ Kd.R Kd.bool 4 w' w0.heap.size (fun k_ => ((P2_ k_ ∨ P3_ k_) ∨ w.heap.size ≤ k_)) u9000_ r2 ∧ Below w0.heap.size w0 w' ∧ Kept w w' (fun k_ => P2_ k_ ∨ P3_ k_) := by
 induction k using Nat.strongRecOn with
 | _ k ih =>
 intro a0_0 A0_1 c0_1 l0_1 A0_2 c0_2 l0_2 a1 P2_ u9000_ l2 P3_ u9001_ l3 r1 r2 w0 w hB hr0_1 hc0_1 hr0_2 hc0_2 ho2 ho3 h
 cases k with
 | zero => exact absurd h (by simp [spinnakerref33_left.f])
 | succ k =>
 simp only [spinnakerref33_left.f] at h; have hu25 := Tryd.underlying25; have hu34 := Tryd.underlying34; have HR0_1 := Aside0.mk hr0_1; have HC0_1 := Aside0.mk hc0_1; clear hr0_1 hc0_1; have HR0_2 := Aside0.mk hr0_2; have HC0_2 := Aside0.mk hc0_2; clear hr0_2 hc0_2; have HO2 := Aside0.mk (show Kd.R Kd.bool 4 w w0.heap.size (fun k_ => ((P2_ k_ ∨ P3_ k_) ∨ w.heap.size ≤ k_)) u9000_ l2 from Kd.R_mono ho2 (fun k_ hk => (.inl (.inl hk)))); have HO3 := Aside0.mk (show Kd.R (Kd.int .i64) 3 w w0.heap.size (fun k_ => ((P2_ k_ ∨ P3_ k_) ∨ w.heap.size ≤ k_)) u9001_ l3 from Kd.R_mono ho3 (fun k_ hk => (.inl (.inr hk)))); have HK := Aside0.mk (Kept.refl w (fun k_ => P2_ k_ ∨ P3_ k_)); have HW0 := Aside0.mk hB.size; have HB := Aside0.mk hB; clear hB; have H : (if 0 ≤ a1 then (if a1 < (l2.length : Int) then (if a1 < (l0_2.length : Int) then ((spinnakerref26_Next.f ((rd_T36 l0_2 a1).f1.f0) ((rd_T36 l0_2 a1).f1.f1) ((rd_T36 l0_2 a1).f1.f2) ((rd_T36 l0_2 a1).f1.f3)).bind fun t247 => (spinnakerref33_left.l0 k a1 (l2.set (a1 : Int).toNat true) l3 t247 0 a0_0 l0_1 l0_2)) else (none)) else (none)) else (none)) = some (r1, r2) := h; clear h
 by_cases c5 : 0 ≤ a1
 ·rw [if_pos c5] at H
  have c5b0 : decide (0 ≤ a1) = true := decide_eq_true c5; clear c5
  by_cases c6 : a1 < (l2.length : Int)
  ·rw [if_pos c6] at H
   have c6b0 : decide (a1 < (l2.length : Int)) = true := decide_eq_true c6; clear c6; obtain ⟨y245, hy245⟩ : ∃ y_ : List Bool, y_ = (l2.set (a1 : Int).toNat true) := ⟨_, rfl⟩
   replace H : (if a1 < (l0_2.length : Int) then ((spinnakerref26_Next.f ((rd_T36 l0_2 a1).f1.f0) ((rd_T36 l0_2 a1).f1.f1) ((rd_T36 l0_2 a1).f1.f2) ((rd_T36 l0_2 a1).f1.f3)).bind fun t247 => (spinnakerref33_left.l0 k a1 y245 l3 t247 0 a0_0 l0_1 l0_2)) else (none)) = some (r1, r2) := by first | (rw [hy245]; with_reducible exact H) | (have H2_ := (Option.bind_some _ _).symm.trans H; rw [hy245]; with_reducible exact H2_) | (have H2_ := (Option.bind_some _ _).symm.trans H; with_reducible exact H2_) | with_reducible exact H | (rw [hy245]; exact H) | exact H
   have Ny245 := Aside0.mk hy245; clear hy245
   by_cases c8 : a1 < (l0_2.length : Int)
   ·rw [if_pos c8] at H
    have c8b0 : decide (a1 < (l0_2.length : Int)) = true := decide_eq_true c8; clear c8; replace H := Option.bind_eq_some_iff.mp H; obtain ⟨t247, A90, H⟩ := H; replace H : (spinnakerref33_left.l0 k a1 y245 l3 t247 0 a0_0 l0_1 l0_2) = some (r1, r2) := H; have A9 := Aside0.mk A90; clear A90; have H' := Aside0.mk H; clear H
    go_enter Tryd.func47, Tryd.ntmps47
    go_wp2_with (first | ((with_reducible refine gate_dst (N := 4) rfl ?_); refine box_event ?hg (N := 4) ?hd (cs := #[.int .i64 a0_0, .slice A0_1 l0_1.length c0_1, .slice A0_2 l0_2.length c0_2]) (t := 25) ?hr ?_; (case hd => rfl); (case hg => rfl); (case hr => first | (go_simp; done) | (go_simp; rfl)); intro gb244 hg w10 hbox hb; have n0_ := Aside0.mk (Kd.R_below (by (with_reducible repeat (first | apply Kd.R_alloc | apply Kd.R_drewN | apply Kd.R_drew)); exact HO2.out) hb); have n1_ := Aside0.mk (Kd.R_below z47_5 hb); have n2_ := Aside0.mk (Kept.below (S := (fun k_ => P2_ k_ ∨ P3_ k_)) (by repeat (first | (with_reducible first | exact HK.out | apply Kept.alloc | apply Kept.drewN | apply Kept.drew) | exact HK.out)) hb); have n3_ := Aside0.mk (below_step (by repeat (first | (with_reducible first | exact HB.out | apply below_alloc | apply pw_below_drewN | apply below_drew1) | exact HB.out)) hb); have n4_ := Aside0.mk (hbox); have n5_ := Aside0.mk ((by rw [hg]; exact (by first | exact HK.out.1 | exact (show Kept w _ (fun k_ => P2_ k_ ∨ P3_ k_) from by repeat (first | (with_reducible first | exact HK.out | apply Kept.alloc | apply Kept.drewN | apply Kept.drew) | exact HK.out)).1) : w.heap.size ≤ gb244)); have n6_ := Aside0.mk ((by rw [hg]; exact (below_size (by repeat (first | (with_reducible first | exact HB.out | apply below_alloc | apply pw_below_drewN | apply below_drew1) | exact HB.out))) : w0.heap.size ≤ gb244)); clear HO2 HO3 HK HB; revert n0_ n1_ n2_ n3_ n4_ n5_ n6_; intro HO2 HO3 HK HB BK244 GW244 GE244; clear hb hbox hg; have p7 : 0 ≤ (a1 : Int) := of_decide_eq_true z47_2; have q7 : (a1 : Int) < ((l2.length : Int) : Int) := of_decide_eq_true z47_2; obtain ⟨go7, co7, eo7, gb7, gl7, cl7, HG7⟩ := Kd.R_form HO2.out (by omega); (first | cases eo7 | (injection eo7 with ea_ en_ ec_; (first | subst ea_ | (injection ea_ with ea_; subst ea_)); subst ec_; clear en_)); have GB7 := Aside0.mk gb7; have GG7 := Aside0.mk HG7; clear gb7 gl7 HG7; have HMgo7 := Aside0.mk (show ((P2_ go7 ∨ P3_ go7) ∨ w.heap.size ≤ go7) from (HO2.out.1 _ rfl)); obtain ⟨hx7_0, hf7_0⟩ := Kd.R_celln false HO2.out (a1 : Int) p7 q7; replace p7 := eq_true p7; replace q7 := eq_true q7; obtain ⟨hy11_, hz11_⟩ := Kd.R_celln false HO2.out (a1 : Int) (of_decide_eq_true z47_2) (of_decide_eq_true z47_2); have HP11 := Kd.R_putg HO2.out (a1 : Int) true) | ((with_reducible refine gate_store (t := 4) (p := 13) rfl ?_); refine store_event (t := 4) (p := 13) (v := ?vo_w12) (w1 := (w10.setCell ⟨go7, (a1 : Int).toNat, none⟩ (.bool true))) ?hg ?ho ?hn ?hr ?_; (case ho => rfl); (case hg => rfl); (case hn => rfl); (case hr => first | (go_simp; done) | (go_simp; rfl)); intro w12 hw; have hg : w10.grownBy w12 (some go7) := (by rw [hw]; exact HP11.2); have hp_ : Kd.R Kd.bool 4 w12 w0.heap.size (fun k_ => ((P2_ k_ ∨ P3_ k_) ∨ w.heap.size ≤ k_)) (.slice (some ⟨go7, 0, none⟩) l2.length co7) y245 := (by rw [hw, Ny245.out]; exact HP11.1); clear HP11; have n0_ := Aside0.mk (hp_); have n1_ := Aside0.mk (Kd.R_over' (v := (.slice (some ⟨go7, 0, none⟩) l2.length co7)) z47_5 (Kd.R_typed HO2.out) (by decide) hg); have n2_ := Aside0.mk (blk_grown (g := gb244) (o := .cells #[.int .i64 a0_0, .slice A0_1 l0_1.length c0_1, .slice A0_2 l0_2.length c0_2] 25 (0, 0)) z47_4 hg (Kd.R_ne HO2.out BK244.out (by decide))); have n3_ := Aside0.mk ((by rw [hw]; exact below_set (HB.out) GB7.out : Below w0.heap.size w0 w12)); have n4_ := Aside0.mk (Kept.of_grown (S := (fun k_ => P2_ k_ ∨ P3_ k_)) hg z47_0 (fun k_ e_ => (HO2.out.1 k_ e_))); clear HO2 HO3 BK244 HB HK; revert n0_ n1_ n2_ n3_ n4_; intro HO2 HO3 BK244 HB HK; clear hg hw hp_; have hcz13_0 : w12.cell? ⟨gb244, 0, none⟩ = some (.int .i64 a0_0) := (blk_cell BK244.out 0).trans rfl; have hcz13_1 : w12.cell? ⟨gb244, 1, none⟩ = some (.slice A0_1 l0_1.length c0_1) := (blk_cell BK244.out 1).trans rfl; have hcz13_2 : w12.cell? ⟨gb244, 2, none⟩ = some (.slice A0_2 l0_2.length c0_2) := (blk_cell BK244.out 2).trans rfl; have hfz13_0 := blk_frozen BK244.out 0; have hfz13_1 := blk_frozen BK244.out 1; have hfz13_2 := blk_frozen BK244.out 2; have p246 : 0 ≤ (a1 : Int) := of_decide_eq_true z47_2; have q246 : a1 < (l0_2.length : Int) := of_decide_eq_true z47_2; obtain ⟨ad246, A246_0, c246_0, e246, hx246_0, hx246_1, hx246_2, hx246_3, hx246_4, hl246_0, hi246_0⟩ := at_T36 (Kd.C_kept_now HR0_2.out HK.out) a1 p246 q246; cases e246; have HR246_0 := Aside0.mk hi246_0; have HC246_0 := Aside0.mk hl246_0; clear hi246_0 hl246_0; replace p246 := eq_true p246; replace q246 := eq_true q246) | ((with_reducible refine gate_callee (f := 49) rfl ?_); refine goesL_ (some 20) rfl rfl Tryd.func49 (by kernel_rfl) rfl #[.agg #[.int .i64 ((rd_T36 l0_2 a1).f1.f0), .int .i64 ((rd_T36 l0_2 a1).f1.f1), .int .i64 ((rd_T36 l0_2 a1).f1.f2), .int .i64 ((rd_T36 l0_2 a1).f1.f3)]] rfl (by (try simp only [List.map_toArray, List.map_cons, List.map_nil]); first | done | rfl | (simp only [List.length_drop, List.length_take]; rfl)) ?_; (with_reducible refine (spinnakerref26_Next.calls ((rd_T36 l0_2 a1).f1.f0) ((rd_T36 l0_2 a1).f1.f1) ((rd_T36 l0_2 a1).f1.f2) ((rd_T36 l0_2 a1).f1.f3) t247 _ A9.out).mono ?_); rintro e w14 ⟨v248, rfl, ho0, hb⟩; refine ⟨_, rfl, ?_⟩; have n0_ := Aside0.mk (Kd.R_below (by (with_reducible repeat (first | apply Kd.R_alloc | apply Kd.R_drewN | apply Kd.R_drew)); exact HO2.out) hb); have n1_ := Aside0.mk (Kd.R_elder' z47_5 (Kd.R_base ho0) hb); have n2_ := Aside0.mk (Kd.R_lower (Kd.R_new' (Kd.R_newM (M := fun k_ => ((P2_ k_ ∨ P3_ k_) ∨ w.heap.size ≤ k_)) ho0 z47_3 (fun k_ h_ => .inr h_)) (Kd.R_lt z47_5)) (below_size z47_1)); have n3_ := Aside0.mk (blk_below (g := gb244) (o := .cells #[.int .i64 a0_0, .slice A0_1 l0_1.length c0_1, .slice (some ad246) l0_2.length c0_2] 25 (0, 0)) z47_4 hb); have n4_ := Aside0.mk (Kd.C_below (by repeat (first | (with_reducible exact HR246_0.out) | (with_reducible refine Kd.C_alloc ?_ _) | (with_reducible refine Kd.C_drewN ?_ _) | (with_reducible refine Kd.C_drew ?_) | exact HR246_0.out)) hb); have n5_ := Aside0.mk (Kept.below (S := (fun k_ => P2_ k_ ∨ P3_ k_)) z47_0 hb); have n6_ := Aside0.mk (below_step z47_1 hb); clear HO2 HO3 BK244 HR246_0 HK HB; revert n0_ n1_ n2_ n3_ n4_ n5_ n6_; intro HO2 HO3 HO249 BK244 HR246_0 HK HB; (try clear hb); (try clear hb2); (try clear hk); (try clear hi); (try clear ho0)))
    go_loopg [3, 10] k (fun kq v3 v10 w' => ∃ (x2_1 : List Bool) (x3_1 : List Int) (x10_1 : Int), v10 = .int .i64 x10_1 ∧ Aside0 (spinnakerref33_left.l0 kq a1 x2_1 x3_1 t247 x10_1 a0_0 l0_1 l0_2 = some (r1, r2)) ∧ Aside0 (kq ≤ k) ∧ Aside0 (Kd.R Kd.bool 4 w' w0.heap.size (fun k_ => ((P2_ k_ ∨ P3_ k_) ∨ w.heap.size ≤ k_)) (.slice (some ⟨go7, 0, none⟩) l2.length co7) x2_1) ∧ Aside0 (Kd.R (Kd.int .i64) 3 w' w0.heap.size (fun k_ => ((P2_ k_ ∨ P3_ k_) ∨ w.heap.size ≤ k_) ∧ some k_ ≠ (v248 : Value).ownBlock) v3 x3_1) ∧ Aside0 (Kd.R (Kd.int .i64) 3 w' w0.heap.size (fun k_ => ((P2_ k_ ∨ P3_ k_) ∨ w.heap.size ≤ k_) ∧ some k_ ≠ (v3 : Value).ownBlock) v248 t247) ∧ Aside0 (w'.heap[gb244]? = some (.cells #[.int .i64 a0_0, (.slice A0_1 l0_1.length c0_1), (.slice (some ad246) l0_2.length c0_2)] 25 (0, 0))) ∧ Aside0 (Kept w w' (fun k_ => P2_ k_ ∨ P3_ k_)) ∧ Aside0 (Below w0.heap.size w0 w'))
    case atStart => exact ⟨(y245), (l3), (0), (by first | rfl | (simp; done) | (simp [*]; done)), H', ⟨Nat.le_refl _⟩, ⟨(by (with_reducible repeat (first | apply Kd.R_alloc | apply Kd.R_drewN | apply Kd.R_drew)); exact HO2.out)⟩, ⟨z47_5⟩, ⟨(by (with_reducible repeat (first | apply Kd.R_alloc | apply Kd.R_drewN | apply Kd.R_drew)); exact Kd.R_mono HO249.out (fun _ hk => ⟨hk.1.1, hk.2⟩))⟩, ⟨z47_4⟩, ⟨z47_0⟩, ⟨z47_1⟩⟩
    case round =>
     clear H'
     try clear c5
     try clear c5b0
     try clear c6
     try clear c6b0
     try clear p7
     try clear q7
     try clear c8
     try clear c8b0
     try clear hcz13_0
     try clear hcz13_1
     try clear hcz13_2
     try clear hfz13_0
     try clear hfz13_1
     try clear hfz13_2
     try clear hx246_0
     try clear hx246_1
     try clear hx246_2
     try clear hx246_3
     try clear hx246_4
     try clear hx7_0
     try clear p246
     try clear p7
     try clear q246
     try clear q7
     obtain ⟨x2_1, x3_1, x10_1, rfl, HA, HK1, HO_2, HO_3, HO_9, BK244, HK, HB⟩ := hrel; have hl2_1 := (Kd.R_reads' HO_2.out).1; rw [hl2_1] at HO_2; (try simp only [hl2_1]); (try simp only [hl2_1] at BK244); (try simp only [hl2_1] at HO_3); (try simp only [hl2_1] at HO_9)
     cases gk with
     | zero => exact absurd HA.out (by simp [spinnakerref33_left.l0])
     | succ k1 =>
      have H := HA.out; clear HA; simp only [spinnakerref33_left.l0] at H
      by_cases c15 : x10_1 < (t247.length : Int)
      ·rw [if_pos c15] at H
       have c15b0 : decide (x10_1 < (t247.length : Int)) = true := decide_eq_true c15; clear c15
       by_cases c16 : 0 ≤ x10_1
       ·rw [if_pos c16] at H
        have c16b0 : decide (0 ≤ x10_1) = true := decide_eq_true c16; clear c16
        by_cases c17 : 0 ≤ (rd t247 x10_1)
        ·rw [if_pos c17] at H
         have c17b0 : decide (0 ≤ (rd t247 x10_1)) = true := decide_eq_true c17; clear c17
         by_cases c18 : (rd t247 x10_1) < (x2_1.length : Int)
         ·rw [if_pos c18] at H
          have c18b0 : decide ((rd t247 x10_1) < (x2_1.length : Int)) = true := decide_eq_true c18; clear c18; obtain ⟨bq19, hbq19⟩ : ∃ b_ : Bool, b_ = (rdOf false x2_1 (rd t247 x10_1)) := ⟨_, rfl⟩
          replace H : (if (bq19 = true) then (spinnakerref33_left.l0 k1 a1 x2_1 x3_1 t247 (wrap64 (x10_1 + 1)) a0_0 l0_1 l0_2) else ((spinnakerref33_left.f k1 a0_0 l0_1 l0_2 (rd t247 x10_1) x2_1 x3_1).bind fun bt253 => (spinnakerref33_left.l0 k1 a1 bt253.2 bt253.1 t247 (wrap64 (x10_1 + 1)) a0_0 l0_1 l0_2))) = some (r1, r2) := by rw [← hbq19] at H; exact H
          have Nbq19 := Aside0.mk hbq19; clear hbq19
          by_cases c20 : (bq19 = true)
          ·subst c20
           have H1 : (spinnakerref33_left.l0 k1 a1 x2_1 x3_1 t247 (wrap64 (x10_1 + 1)) a0_0 l0_1 l0_2) = some (r1, r2) := by rw [if_pos rfl] at H; exact H
           clear H; have H := H1; clear H1; have H' := Aside0.mk H; clear H; obtain ⟨Ao21, co21, eo21⟩ := Kd.R_slice HO_9.out; subst eo21; have p250 : 0 ≤ (x10_1 : Int) := of_decide_eq_true z47_2; have q250 : x10_1 < (t247.length : Int) := of_decide_eq_true z47_2; obtain ⟨ad250, e250, hx250_0⟩ := Kd.at_int (Kd.R_reads' HO_9.out).2.2 x10_1 p250 q250
           cases e250
           replace p250 := eq_true p250; replace q250 := eq_true q250; have p251 : 0 ≤ ((rd t247 x10_1) : Int) := of_decide_eq_true z47_2; have q251 : (rd t247 x10_1) < (x2_1.length : Int) := of_decide_eq_true z47_2; obtain ⟨ad251, e251, hx251_0⟩ := Kd.at_bool (Kd.R_reads' HO_2.out).2.2 (rd t247 x10_1) p251 q251; (try rw [← Nbq19.out] at hx251_0); obtain rfl : (⟨go7, 0, none⟩ : Addr) = ad251 := (by injection e251); (first | simp only [add_plain] at hx251_0 | simp only [add_at] at hx251_0 | simp only [Addr.add, Nat.zero_add] at hx251_0 | skip); replace p251 := eq_true p251; replace q251 := eq_true q251
           go_wp2
           (try simp only [← hl2_1])
           go_roundg k1
           case measure => have := HK1.out; omega
           case rel => exact ⟨(x2_1), (x3_1), (wrap64 (x10_1 + 1)), (by first | rfl | (simp; done) | (simp [*]; done)), H', ⟨(by have := HK1.out; omega)⟩, ⟨(by (try simp only [hl2_1]); (with_reducible repeat (first | apply Kd.R_alloc | apply Kd.R_drewN | apply Kd.R_drew)); exact HO_2.out)⟩, ⟨(by (try simp only [hl2_1]); (with_reducible repeat (first | apply Kd.R_alloc | apply Kd.R_drewN | apply Kd.R_drew)); exact HO_3.out)⟩, ⟨(by (try simp only [hl2_1]); (with_reducible repeat (first | apply Kd.R_alloc | apply Kd.R_drewN | apply Kd.R_drew)); exact HO_9.out)⟩, ⟨(by (try simp only [hl2_1]); (with_reducible repeat (first | refine blk_drewN ?_ _ | refine blk_drew ?_ | refine blk_alloc ?_ _)); exact BK244.out)⟩, ⟨z47_0⟩, ⟨z47_1⟩⟩
          ·replace c20 := Bool.eq_false_iff.mpr c20
           subst c20
           have H1 : ((spinnakerref33_left.f k1 a0_0 l0_1 l0_2 (rd t247 x10_1) x2_1 x3_1).bind fun bt253 => (spinnakerref33_left.l0 k1 a1 bt253.2 bt253.1 t247 (wrap64 (x10_1 + 1)) a0_0 l0_1 l0_2)) = some (r1, r2) := by rw [if_neg (show ¬ (false = true) by decide)] at H; exact H
           clear H; have H := H1; clear H1; replace H := Option.bind_eq_some_iff.mp H; obtain ⟨⟨t253, t256⟩, A220, H⟩ := H; replace H : (spinnakerref33_left.l0 k1 a1 t256 t253 t247 (wrap64 (x10_1 + 1)) a0_0 l0_1 l0_2) = some (r1, r2) := H; have A22 := Aside0.mk A220; clear A220; have H' := Aside0.mk H; clear H; obtain ⟨Ao23, co23, eo23⟩ := Kd.R_slice HO_9.out; subst eo23; have p250 : 0 ≤ (x10_1 : Int) := of_decide_eq_true z47_2; have q250 : x10_1 < (t247.length : Int) := of_decide_eq_true z47_2; obtain ⟨ad250, e250, hx250_0⟩ := Kd.at_int (Kd.R_reads' HO_9.out).2.2 x10_1 p250 q250
           cases e250
           replace p250 := eq_true p250; replace q250 := eq_true q250; have p251 : 0 ≤ ((rd t247 x10_1) : Int) := of_decide_eq_true z47_2; have q251 : (rd t247 x10_1) < (x2_1.length : Int) := of_decide_eq_true z47_2; obtain ⟨ad251, e251, hx251_0⟩ := Kd.at_bool (Kd.R_reads' HO_2.out).2.2 (rd t247 x10_1) p251 q251; (try rw [← Nbq19.out] at hx251_0); obtain rfl : (⟨go7, 0, none⟩ : Addr) = ad251 := (by injection e251); (first | simp only [add_plain] at hx251_0 | simp only [add_at] at hx251_0 | simp only [Addr.add, Nat.zero_add] at hx251_0 | skip); replace p251 := eq_true p251; replace q251 := eq_true q251
           try go_wp2
           have n0_ := Aside0.mk (Kd.R_drew HO_2.out); have n1_ := Aside0.mk (Kd.R_drew HO_3.out); have n2_ := Aside0.mk (Kd.R_drew HO_9.out); have n3_ := Aside0.mk (blk_drew BK244.out); have n4_ := Aside0.mk (Kept.drew HK.out); have n5_ := Aside0.mk (below_drew1 HB.out); clear HO_2 HO_3 HO_9 BK244 HK HB; revert n0_ n1_ n2_ n3_ n4_ n5_; intro HO_2 HO_3 HO_9 BK244 HK HB; have p252 : 0 ≤ (x10_1 : Int) := of_decide_eq_true z47_2; have q252 : x10_1 < (t247.length : Int) := of_decide_eq_true z47_2; obtain ⟨ad252, e252, hx252_0⟩ := Kd.at_int (Kd.R_reads' HO_9.out).2.2 x10_1 p252 q252; obtain rfl : ad250 = ad252 := (by injection e252); replace p252 := eq_true p252; replace q252 := eq_true q252; obtain ⟨Ao25, co25, eo25⟩ := Kd.R_slice HO_3.out; (first | subst eo25 | (injection eo25 with f1_ f2_ f3_; have f4_ := f1_.symm; have f5_ := f3_.symm; clear f1_ f2_ f3_; subst f4_; subst f5_)); refine start_ (n := 9) (S := fun w' => w'.cell? ⟨gb244, 0, none⟩ = some (.int .i64 a0_0) ∧ w'.cell? ⟨gb244, 1, none⟩ = some (.slice A0_1 l0_1.length c0_1) ∧ w'.cell? ⟨gb244, 2, none⟩ = some (.slice (some ad246) l0_2.length c0_2) ∧ w'.cell? (ad250.add (x10_1).toNat) = some (.int .i64 (rd t247 x10_1))) (ds := []) (mk_ 9 0) (by kernel_rfl) rfl rfl ⟨(blk_cell BK244.out 0).trans rfl, (blk_cell BK244.out 1).trans rfl, (blk_cell BK244.out 2).trans rfl, hx252_0⟩ (fun hHeld => ?_); refine with_tabW spinnakerref33_left.tab7 spinnakerref33_left.bits7 (fun HT_ HW_ => ?_); generalize wr.drew = w24 at HO_2 HO_3 HO_9 BK244 HK HB hx252_0 hHeld ⊢; refine pI (i := 1) (N := some 36) (mk_ 9 2) ?_; refine pI (i := 2) (N := some 37) (mk_ 9 6) ?_; refine pI (i := 3) (N := some 38) (mk_ 9 14) ?_; refine pI (i := 5) (N := some 40) (mk_ 9 46) ?_; refine pI (i := 6) (N := some 41) (mk_ 9 110) ?_; refine tI4 (i := 0) (N := some 35) (mk_ 9 111) ?_; refine tI4 (i := 4) (N := some 39) (mk_ 9 127) ?_; refine one_ (i := 7) (N := some 42) (mk_ 9 255) rfl rfl (one_of HT_.out (by kernel_rfl)) (by decide) (fun K hK => ?_); refine goes_ Tryd.func47 (by kernel_rfl) rfl #[.agg #[.int .i64 a0_0, .slice A0_1 l0_1.length c0_1, .slice (some ad246) l0_2.length c0_2], .int .i64 (rd t247 x10_1), .slice (some ⟨go7, 0, none⟩) x2_1.length co7, .slice Ao25 x3_1.length co25] (by rfl) rfl rfl (by (try simp only [List.map_toArray, List.map_cons, List.map_nil]); first | done | rfl | (simp only [List.length_drop, List.length_take]; rfl)) ?_
           with_reducible refine (ih k1 (by have := HK1.out; omega) a0_0 _ _ l0_1 _ _ l0_2 (rd t247 x10_1) (fun k_ => some k_ = (.slice (some ⟨go7, 0, none⟩) x2_1.length co7 : Value).ownBlock) (.slice (some ⟨go7, 0, none⟩) x2_1.length co7) x2_1 (fun k_ => some k_ = (.slice Ao25 x3_1.length co25 : Value).ownBlock) (.slice Ao25 x3_1.length co25) x3_1 t253 t256 w0 _ ?side1 ?side2 ?side3 ?side4 ?side5 ?side6 ?side7 A22.out).mono ?_
           (case side1 => repeat (first | (with_reducible first | exact HB.out | apply below_alloc | apply pw_below_drewN | apply below_drew1 | refine below_set ?_ GE244.out) | exact HB.out)); (case side2 => exact Kd.C_kept_call HR0_1.out z47_0 (fun k_ hs_ => Or.elim hs_ (fun e_ => (fun e_ => (HO_2.out.1 k_ e_.symm)) e_) (fun e_ => (fun e_ => (HO_3.out.1 k_ e_.symm).1) e_))); (case side3 => exact HC0_1.out); (case side4 => exact Kd.C_kept_call HR0_2.out z47_0 (fun k_ hs_ => Or.elim hs_ (fun e_ => (fun e_ => (HO_2.out.1 k_ e_.symm)) e_) (fun e_ => (fun e_ => (HO_3.out.1 k_ e_.symm).1) e_))); (case side5 => exact HC0_2.out); (case side6 => exact Kd.R_tight rfl HO_2.out); (case side7 => exact Kd.R_tight rfl HO_3.out); rintro e w26 ⟨v254, rfl, ho0, hy0, hb, hkp⟩; have HS3_ := cell_kept (hHeld.2.2.2) hkp (by first | (rw [add_block]; exact (fun hs_ => Or.elim hs_ (fun e_ => ((((Kd.R_apart' HO_9.out (Kd.R_typed HO_2.out) (by decide))).1 _ rfl).2) e_) (fun e_ => ((((Kd.R_apart' HO_9.out (Kd.R_typed HO_2.out) (by decide))).1 _ rfl).1.2) e_))) | (show ¬ _; simp only [add_block]; exact (fun hs_ => Or.elim hs_ (fun e_ => ((((Kd.R_apart' HO_9.out (Kd.R_typed HO_2.out) (by decide))).1 _ rfl).2) e_) (fun e_ => ((((Kd.R_apart' HO_9.out (Kd.R_typed HO_2.out) (by decide))).1 _ rfl).1.2) e_))) | exact (fun hs_ => Or.elim hs_ (fun e_ => ((((Kd.R_apart' HO_9.out (Kd.R_typed HO_2.out) (by decide))).1 _ rfl).2) e_) (fun e_ => ((((Kd.R_apart' HO_9.out (Kd.R_typed HO_2.out) (by decide))).1 _ rfl).1.2) e_))); refine ⟨_, rfl, ?_⟩; have n0_ := Aside0.mk (Kd.R_reok rfl hy0 (fun k_ e_ => HO_2.out.1 k_ e_)); have n1_ := Aside0.mk (Kd.R_mono (ok' := fun k_ => ((P2_ k_ ∨ P3_ k_) ∨ w.heap.size ≤ k_) ∧ some k_ ≠ (v254 : Value).ownBlock) (Kd.R_keptB ((Kd.R_apart' HO_9.out (Kd.R_typed HO_2.out) (by decide))) hkp (fun k_ hk_ hs_ => Or.elim hs_ (fun e_ => (hk_.2) e_) (fun e_ => (hk_.1.2) e_))) (fun k_ hk_ => ⟨hk_.1.1.1, fun e_ => Or.elim (ho0.1 k_ e_.symm) (fun hs_ => hk_.2.1 hs_) (fun hn_ => Nat.not_le.2 hk_.2.2 hn_)⟩)); have n2_ := Aside0.mk (blk_kept z47_4 hkp (fun hs_ => Or.elim hs_ (fun e_ => (fun e_ => (Kd.R_ne HO_2.out BK244.out (by decide)) e_) e_) (fun e_ => (fun e_ => (Kd.R_ne HO_3.out BK244.out (by decide)) e_) e_))); have n3_ := Aside0.mk (Kd.R_mono (ok' := fun k_ => ((P2_ k_ ∨ P3_ k_) ∨ w.heap.size ≤ k_) ∧ some k_ ≠ (.slice (some ad250) t247.length co23 : Value).ownBlock) ho0 (fun k_ hk_ => ⟨Or.elim hk_ (fun hs_ => Or.elim hs_ (fun hs_ => (HO_2.out.1 k_ (hs_).symm)) (fun hs_ => (HO_3.out.1 k_ (hs_).symm).1)) (fun hn_ => (.inr (Nat.le_trans z47_3 hn_))), Or.elim hk_ (fun hs_ => Or.elim hs_ (fun hs_ => fun e_ => ((((Kd.R_apart' HO_9.out (Kd.R_typed HO_2.out) (by decide))).1 k_ e_.symm).2) hs_) (fun hs_ => fun e_ => ((((Kd.R_apart' HO_9.out (Kd.R_typed HO_2.out) (by decide))).1 k_ e_.symm).1.2) hs_)) (fun hn_ => (Kd.fresh' (Kd.R_lt (by (with_reducible repeat (first | apply Kd.R_alloc | apply Kd.R_drewN | apply Kd.R_drew)); exact HO_9.out)) k_ hn_))⟩)); have n4_ := Aside0.mk (Kept.then_ (S := (fun k_ => P2_ k_ ∨ P3_ k_)) z47_0 hkp (fun k_ hs_ => Or.elim hs_ (fun e_ => (fun e_ => (HO_2.out.1 k_ e_.symm)) e_) (fun e_ => (fun e_ => (HO_3.out.1 k_ e_.symm).1) e_))); have n5_ := Aside0.mk (hb); clear HO_2 HO_9 BK244 HK HB HO_3; revert n0_ n1_ n2_ n3_ n4_ n5_; intro HO_2 HO_9 BK244 HO255 HK HB; (try clear hb); (try clear hkp); (try clear ho0); (try clear hy0); refine hK.out _ _ ⟨(blk_cell BK244.out 0).trans rfl, (blk_cell BK244.out 1).trans rfl, (blk_cell BK244.out 2).trans rfl, HS3_⟩ (fun hHeld => ?_); clear hK K; refine nP (N := some 42) ?_; refine pI (i := 8) (N := some 3) (mk_ 9 511) ?_; refine done_ (done_of HT_.out (by kernel_rfl)) ?_
           try go_wp2
           (try simp only [← hl2_1])
           go_roundg k1
           case measure => have := HK1.out; omega
           case rel => exact ⟨(t256), (t253), (wrap64 (x10_1 + 1)), (by first | rfl | (simp; done) | (simp [*]; done)), H', ⟨(by have := HK1.out; omega)⟩, ⟨(by (try simp only [hl2_1]); (with_reducible repeat (first | apply Kd.R_alloc | apply Kd.R_drewN | apply Kd.R_drew)); exact HO_2.out)⟩, ⟨(by (try simp only [hl2_1]); (with_reducible repeat (first | apply Kd.R_alloc | apply Kd.R_drewN | apply Kd.R_drew)); exact HO255.out)⟩, ⟨(by (try simp only [hl2_1]); (with_reducible repeat (first | apply Kd.R_alloc | apply Kd.R_drewN | apply Kd.R_drew)); exact HO_9.out)⟩, ⟨(by (try simp only [hl2_1]); (with_reducible repeat (first | refine blk_drewN ?_ _ | refine blk_drew ?_ | refine blk_alloc ?_ _)); exact BK244.out)⟩, ⟨z47_0⟩, ⟨z47_1⟩⟩
         ·rw [if_neg c18] at H
          exact absurd H (by simp)
        ·rw [if_neg c17] at H
         exact absurd H (by simp)
       ·rw [if_neg c16] at H
        exact absurd H (by simp)
      ·rw [if_neg c15] at H
       have c15b0 : decide (x10_1 < (t247.length : Int)) = false := decide_eq_false c15; clear c15
       by_cases c27 : x3_1.length < 17592186044416
       ·rw [if_pos c27] at H
        have LMc27 := Aside0.mk c27; clear c27; obtain ⟨y257, hy257⟩ : ∃ y_ : List Int, y_ = (x3_1 ++ [a1]) := ⟨_, rfl⟩
        replace H : (some (y257, x2_1)) = some (r1, r2) := by first | (rw [hy257]; with_reducible exact H) | (have H2_ := (Option.bind_some _ _).symm.trans H; rw [hy257]; with_reducible exact H2_) | (have H2_ := (Option.bind_some _ _).symm.trans H; with_reducible exact H2_) | with_reducible exact H | (rw [hy257]; exact H) | exact H
        have Ny257 := Aside0.mk hy257; clear hy257; simp only [Option.some.injEq, Prod.mk.injEq] at H; obtain ⟨rfl, rfl⟩ := H; obtain ⟨Ao28, co28, eo28⟩ := Kd.R_slice HO_9.out; subst eo28
        go_wp2_with (first | ((with_reducible refine gate_builtin (b := .append) (xs := #[.tmp 43, .tmp 45]) rfl ?_); at_builtin; refine Kd.R_append (Kd.int .i64) (w0 := w0) w0.heap.size rfl (.tmp 43) (.tmp 45) 22 3 (.int .i64 0) 8 rfl Tryd.underlying22 info3 rfl (by decide) (by omega) u3 x3_1 a1 [.int .i64 a1] (fun k_ => ((P2_ k_ ∨ P3_ k_) ∨ w.heap.size ≤ k_) ∧ some k_ ≠ (.slice Ao28 t247.length co28 : Value).ownBlock) (fun _ => False) rfl rfl ?aP (fun _ hk => hk.elim) ?aF ?aO ?aB ?aS ?aL ?_; (case aP => exact rfl); (case aB => exact z47_1); (case aF => exact (fun k_ hk => ⟨(.inr (Nat.le_trans z47_3 hk)), Kd.fresh' (Kd.R_lt (by (with_reducible repeat (first | apply Kd.R_alloc | apply Kd.R_drewN | apply Kd.R_drew)); exact HO_9.out)) k_ hk⟩)); (case aO => exact (by (with_reducible repeat (first | apply Kd.R_alloc | apply Kd.R_drewN | apply Kd.R_drew)); exact HO_3.out)); (case aS => exact (below_size z47_1)); (case aL => have := LMc27.out; omega); intro v258 w29 ho hb hg hat; rw [← Ny257.out] at ho; have n0_ := Aside0.mk (Kd.R_over' (by (with_reducible repeat (first | apply Kd.R_alloc | apply Kd.R_drewN | apply Kd.R_drew)); exact HO_2.out) (Kd.R_typed (by (with_reducible repeat (first | apply Kd.R_alloc | apply Kd.R_drewN | apply Kd.R_drew)); exact HO_3.out)) (by decide) hg); have n1_ := Aside0.mk (Kd.R_after (ok := (fun k_ => ((P2_ k_ ∨ P3_ k_) ∨ w.heap.size ≤ k_))) (by (with_reducible repeat (first | apply Kd.R_alloc | apply Kd.R_drewN | apply Kd.R_drew)); exact HO_9.out) hg hat); have n2_ := Aside0.mk (blk_grown (g := gb244) (o := .cells #[.int .i64 a0_0, .slice A0_1 l0_1.length c0_1, .slice (some ad246) l0_2.length c0_2] 25 (0, 0)) z47_4 hg (Kd.R_ne HO_3.out BK244.out (by decide))); have n3_ := Aside0.mk (hb); have n4_ := Aside0.mk (Kept.of_grown (S := (fun k_ => P2_ k_ ∨ P3_ k_)) hg z47_0 (fun k_ e_ => (HO_3.out.1 k_ e_).1)); have n5_ := Aside0.mk (ho); clear HO_2 HO_9 BK244 HB HK HO_3; revert n0_ n1_ n2_ n3_ n4_ n5_; intro HO_2 HO_9 BK244 HB HK HO259; clear ho hb hg hat))
        go_ret
        exact ⟨_, by first | rfl | (simp [errW_none, errW_some] <;> rfl) | (simp [*, errW_none, errW_some] <;> rfl), by (with_reducible repeat (first | apply Kd.R_alloc | apply Kd.R_drewN | apply Kd.R_drew)); exact Kd.R_mono HO259.out (fun _ hk => hk.1), (by first | exact (by (with_reducible repeat (first | apply Kd.R_alloc | apply Kd.R_drewN | apply Kd.R_drew)); exact HO_2.out) | (simp only [hl2_1]; exact (by (with_reducible repeat (first | apply Kd.R_alloc | apply Kd.R_drewN | apply Kd.R_drew)); exact HO_2.out))), by repeat (first | (with_reducible first | exact HB.out | apply below_alloc | apply pw_below_drewN | apply below_drew1 | refine below_set ?_ GE244.out) | exact HB.out), by repeat (first | (with_reducible first | exact HK.out | apply Kept.alloc | apply Kept.drewN | apply Kept.drew | refine Kept.setCell ?_ (.inr GW244.out) _) | exact HK.out)⟩
       ·rw [if_neg c27] at H
        exact absurd H (by simp)
   ·rw [if_neg c8] at H
    exact absurd H (by simp)
  ·rw [if_neg c6] at H
   exact absurd H (by simp)
 ·rw [if_neg c5] at H
  exact absurd H (by simp)

/-! ### spinnakerref33_Order: function 27 -/
def spinnakerref33_Order.l0 : Nat → List Int → List Int → Int → Option (List Int)
  | 0, _, _, _ => none
  | k + 1, x3, x4, x5 => if x5 ≥ 0 then (if 0 ≤ x5 then (if x5 < (x3.length : Int) then (if x4.length < 17592186044416 then (spinnakerref33_Order.l0 k x3 (x4 ++ [rd x3 x5]) (wrap64 (x5 - 1))) else (none)) else (none)) else (none)) else (some x4)
def spinnakerref33_Order.f (k : Nat) (a0_0 : Int) (l0_1 : List Int) (l0_2 : List (S36)) : Option (List Int) := if 0 ≤ (l0_2.length : Int) then (if ((l0_2.length : Int) : Int).toNat ≤ 281474976710656 then ((spinnakerref33_left.f k a0_0 l0_1 l0_2 0 (List.replicate ((l0_2.length : Int) : Int).toNat false) ([] : List Int)).bind fun bt264 => (spinnakerref33_Order.l0 k bt264.1 ([] : List Int) (wrap64 ((bt264.1.length : Int) - 1)))) else (none)) else (none)
theorem spinnakerref33_Order.mono_l : ∀ k, (∀ y0 y1 y2, LeO (spinnakerref33_Order.l0 k y0 y1 y2) (spinnakerref33_Order.l0 (k + 1) y0 y1 y2))
  | 0 => fun _ _ _ r h => by simp [spinnakerref33_Order.l0] at h
  | k + 1 => by
    have ih0 := spinnakerref33_Order.mono_l k
    · intro y0 y1 y2
      unfold spinnakerref33_Order.l0
      repeat' first
 | (with_reducible exact ih0 _ _ _)
 | (with_reducible exact spinnakerref33_left.mono _ _ _ _ _ _ _)
 | (with_reducible exact LeO.refl _)
 | (with_reducible exact LeO.none _)
 | (with_reducible refine LeO.ite ?_ ?_)
 | (with_reducible refine LeO.bind ?_ (fun _ => ?_))
theorem spinnakerref33_Order.mono : ∀ a0 a1 a2 k, LeO (spinnakerref33_Order.f k a0 a1 a2) (spinnakerref33_Order.f (k + 1) a0 a1 a2) := by
  intro a0 a1 a2 k
  have ih0 := spinnakerref33_Order.mono_l k
  unfold spinnakerref33_Order.f
  repeat' first
 | (with_reducible exact ih0 _ _ _)
 | (with_reducible exact spinnakerref33_left.mono _ _ _ _ _ _ _)
 | (with_reducible exact LeO.refl _)
 | (with_reducible exact LeO.none _)
 | (with_reducible refine LeO.ite ?_ ?_)
 | (with_reducible refine LeO.bind ?_ (fun _ => ?_))
theorem z27_0 {p : Prop} (h : p := by repeat (first | (with_reducible first | exact HB.out | apply below_alloc | apply pw_below_drewN | apply below_drew1 | refine below_set ?_ GE260.out) | exact HB.out)) : p := h
theorem z27_1 {p : Prop} (h : p := by (with_reducible repeat (first | refine blk_drewN ?_ _ | refine blk_drew ?_ | refine blk_alloc ?_ _)); exact BK260.out) : p := h
set_option maxHeartbeats 8000000 in
set_option maxRecDepth 100000 in
theorem spinnakerref33_Order.calls (k : Nat) (a0_0 : Int) (A0_1 : Option Addr) (c0_1 : Nat) (l0_1 : List Int) (A0_2 : Option Addr) (c0_2 : Nat) (l0_2 : List (S36)) (r : List Int) (w : World) (hr0_1 : Kd.C (Kd.int .i64) w A0_1 l0_1.length l0_1) (hc0_1 : l0_1.length ≤ c0_1) (hr0_2 : Kd.C k36 w A0_2 l0_2.length l0_2) (hc0_2 : l0_2.length ≤ c0_2) (h : spinnakerref33_Order.f k a0_0 l0_1 l0_2 = some r) :
  Calls Tryd.prog 27 #[.agg #[.int .i64 a0_0, .slice A0_1 l0_1.length c0_1, .slice A0_2 l0_2.length c0_2]] w fun e w' => ∃ v0_ : Value, e = .returned (v0_) ∧ Kd.R (Kd.int .i64) 3 w' w.heap.size (fun _ => True) v0_ r ∧ Below w.heap.size w w' := by
 have hu25 := Tryd.underlying25
 have HR0_1 := Aside0.mk hr0_1
 have HC0_1 := Aside0.mk hc0_1
 clear hr0_1 hc0_1
 have HR0_2 := Aside0.mk hr0_2
 have HC0_2 := Aside0.mk hc0_2
 clear hr0_2 hc0_2
 have HB := Aside0.mk (Below.refl w.heap.size w)
 have H : (if 0 ≤ (l0_2.length : Int) then (if ((l0_2.length : Int) : Int).toNat ≤ 281474976710656 then ((spinnakerref33_left.f k a0_0 l0_1 l0_2 0 (List.replicate ((l0_2.length : Int) : Int).toNat false) ([] : List Int)).bind fun bt264 => (spinnakerref33_Order.l0 k bt264.1 ([] : List Int) (wrap64 ((bt264.1.length : Int) - 1)))) else (none)) else (none)) = some r := h
 clear h
 by_cases c2 : 0 ≤ (l0_2.length : Int)
 ·rw [if_pos c2] at H
  have c2b0 := eq_true c2
  have c2b1 : decide (0 ≤ (l0_2.length : Int)) = true := decide_eq_true c2
  clear c2
  by_cases c3 : ((l0_2.length : Int) : Int).toNat ≤ 281474976710656
  ·rw [if_pos c3] at H
   have c3b0 := eq_true c3
   have c3b1 : decide (((l0_2.length : Int) : Int).toNat ≤ 281474976710656) = true := decide_eq_true c3
   clear c3
   obtain ⟨y261, hy261⟩ : ∃ y_ : List Bool, y_ = (List.replicate ((l0_2.length : Int) : Int).toNat false) := ⟨_, rfl⟩
   replace H : ((spinnakerref33_left.f k a0_0 l0_1 l0_2 0 y261 ([] : List Int)).bind fun bt264 => (spinnakerref33_Order.l0 k bt264.1 ([] : List Int) (wrap64 ((bt264.1.length : Int) - 1)))) = some r := by first | (rw [hy261]; with_reducible exact H) | (have H2_ := (Option.bind_some _ _).symm.trans H; rw [hy261]; with_reducible exact H2_) | (have H2_ := (Option.bind_some _ _).symm.trans H; with_reducible exact H2_) | with_reducible exact H | (rw [hy261]; exact H) | exact H
   have Ny261 := Aside0.mk hy261
   clear hy261
   replace H := Option.bind_eq_some_iff.mp H
   obtain ⟨⟨t264, t267⟩, A40, H⟩ := H
   replace H : (spinnakerref33_Order.l0 k t264 ([] : List Int) (wrap64 ((t264.length : Int) - 1))) = some r := H
   have A4 := Aside0.mk A40
   clear A40
   have H' := Aside0.mk H
   clear H
   go_enter Tryd.func27, Tryd.ntmps27
   try go_wp2_with (first | ((with_reducible refine gate_dst (N := 1) rfl ?_); refine box_event ?hg (N := 1) ?hd (cs := #[.int .i64 a0_0, .slice A0_1 l0_1.length c0_1, .slice A0_2 l0_2.length c0_2]) (t := 25) ?hr ?_; (case hd => rfl); (case hg => rfl); (case hr => first | (go_simp; done) | (go_simp; rfl)); intro gb260 hg w5 hbox hb; have n0_ := Aside0.mk (below_step (by repeat (first | (with_reducible first | exact HB.out | apply below_alloc | apply pw_below_drewN | apply below_drew1) | exact HB.out)) hb); have n1_ := Aside0.mk (hbox); have n2_ := Aside0.mk ((by rw [hg]; exact (below_size (by repeat (first | (with_reducible first | exact HB.out | apply below_alloc | apply pw_below_drewN | apply below_drew1) | exact HB.out))) : w.heap.size ≤ gb260)); have n3_ := n2_; clear HB; have HB := n0_; have BK260 := n1_; have GW260 := n2_; have GE260 := n3_; clear n0_ n1_ n2_ n3_; clear hb hbox hg))
   have n0_ := Aside0.mk (blk_drew BK260.out)
   have n1_ := Aside0.mk (below_drew1 HB.out)
   clear BK260
   clear HB
   have BK260 := n0_
   have HB := n1_
   clear n0_ n1_
   refine start_ (n := 7) (S := fun w' => w'.cell? ⟨gb260, 0, none⟩ = some (.int .i64 a0_0) ∧ w'.cell? ⟨gb260, 1, none⟩ = some (.slice A0_1 l0_1.length c0_1) ∧ w'.cell? ⟨gb260, 2, none⟩ = some (.slice A0_2 l0_2.length c0_2)) (ds := []) (mk_ 7 0) (by kernel_rfl) rfl rfl ⟨(blk_cell BK260.out 0).trans rfl, (blk_cell BK260.out 1).trans rfl, (blk_cell BK260.out 2).trans rfl⟩ (fun hHeld => ?_)
   generalize w5.drew = w6 at BK260 HB hHeld ⊢
   refine pure_ (i := 1) (N := some 7) (v := ?_) (a' := ?_) (mk_ 7 2) rfl rfl (by kernel_rfl) (fun _ _ _ h => h) (Or.inl ⟨by rfl, ?_⟩) ?_ ?_
   rotate_left
   ·intro w'
    go_simp
    with_reducible rfl
   rotate_left
   ·go_frame <;> try simp only [i64_w, i32_w]
    rfl
   refine take_ (i := 0) (N := some 6) (v := ?_) (a' := ?_) (mk_ 7 3) rfl rfl (by kernel_rfl) (fun _ _ _ h => h) (Or.inl ⟨by rfl, ?_⟩) hHeld ?_ ?_
   rotate_left
   ·rintro w' ⟨s0, s1, s2⟩
    go_simp
    with_reducible rfl
   rotate_left
   ·go_frame <;> try simp only [i64_w, i32_w]
    rfl
   refine take_ (i := 2) (N := some 8) (v := ?_) (a' := ?_) (mk_ 7 7) rfl rfl (by kernel_rfl) (fun _ _ _ h => h) (Or.inl ⟨by rfl, ?_⟩) hHeld ?_ ?_
   rotate_left
   ·rintro w' ⟨s0, s1, s2⟩
    go_simp
    with_reducible rfl
   rotate_left
   ·go_frame <;> try simp only [i64_w, i32_w]
    rfl
   refine pure_ (i := 3) (N := some 9) (v := ?_) (a' := ?_) (mk_ 7 15) rfl rfl (by kernel_rfl) (fun _ _ _ h => h) (Or.inl ⟨by rfl, ?_⟩) ?_ ?_
   rotate_left
   ·intro w'
    go_simp
    with_reducible rfl
   rotate_left
   ·go_frame <;> try simp only [i64_w, i32_w]
    rfl
   refine one_ (i := 4) (N := some 10) (mk_ 7 31) rfl rfl (by kernel_rfl) (by decide) (fun K hK => ?_)
   refine Kd.R_make_step Kd.bool _ 4 (by rfl) (N := 10) rfl 40 _ _ rfl (l0_2.length : Int) rfl rfl Tryd.underlying40 (.bool false) 1 info4 rfl (by decide) (by omega) false (ok := fun _ => True) (okp := fun _ => True) rfl (fun _ hk => hk) trivial (of_decide_eq_true (by first | (with_reducible assumption) | assumption)) (Nat.le_trans (Nat.mul_le_mul_right _ (of_decide_eq_true (by first | (with_reducible assumption) | assumption) : (l0_2.length : Int).toNat ≤ 281474976710656)) (by omega)) (Below.refl _ _) (Nat.le_refl _) ?_
   intro v262 w7 ho8 hb hg_ hnew_
   clear hg_ hnew_
   (first | rw [← Ny261.out] at ho8 | (simp only [Int.reduceToNat] at ho8; rw [← Ny261.out] at ho8))
   have n0_ := Aside0.mk (Kd.R_lower ho8 (below_size z27_0))
   have n1_ := Aside0.mk (blk_below (g := gb260) (o := .cells #[.int .i64 a0_0, .slice A0_1 l0_1.length c0_1, .slice A0_2 l0_2.length c0_2] 25 (0, 0)) z27_1 hb)
   have n2_ := Aside0.mk (below_step z27_0 hb)
   clear BK260
   clear HB
   have HO263 := n0_
   have BK260 := n1_
   have HB := n2_
   clear n0_ n1_ n2_
   clear hb ho8
   obtain ⟨Ao9, co9, eo9⟩ := Kd.R_slice HO263.out
   (first | subst eo9 | (injection eo9 with f1_ f2_ f3_; have f4_ := f1_.symm; have f5_ := f3_.symm; clear f1_ f2_ f3_; subst f4_; subst f5_))
   refine hK.out _ _ ⟨(blk_cell BK260.out 0).trans rfl, (blk_cell BK260.out 1).trans rfl, (blk_cell BK260.out 2).trans rfl⟩ (fun hHeld => ?_)
   clear hK K
   refine norm_ (a' := ?_) ?_ ?_
   rotate_left
   ·show Act.put _ (some 10) _ = _
    go_frame <;> try simp only [i64_w, i32_w]
    rfl
   refine one_ (i := 5) (N := some 11) (mk_ 7 63) rfl rfl (by kernel_rfl) (by decide) (fun K hK => ?_)
   refine goes_ Tryd.func47 (by kernel_rfl) rfl #[.agg #[.int .i64 a0_0, .slice A0_1 l0_1.length c0_1, .slice A0_2 l0_2.length c0_2], .int .i64 0, .slice Ao9 y261.length co9, .slice none 0 0] (by rfl) rfl rfl (by (try simp only [List.map_toArray, List.map_cons, List.map_nil]); first | done | rfl | (simp only [List.length_drop, List.length_take]; rfl)) ?_
   refine (spinnakerref33_left.calls k a0_0 _ _ l0_1 _ _ l0_2 0 (fun k_ => some k_ = (.slice Ao9 y261.length co9 : Value).ownBlock) (.slice Ao9 y261.length co9) y261 (fun k_ => some k_ = (.slice none 0 0 : Value).ownBlock) (.slice none 0 0) ([] : List Int) t264 t267 w _ ?side1 ?side2 ?side3 ?side4 ?side5 ?side6 ?side7 A4.out).mono ?_
   (case side1 => repeat (first | (with_reducible first | exact HB.out | apply below_alloc | apply pw_below_drewN | apply below_drew1 | refine below_set ?_ GE260.out) | exact HB.out))
   (case side2 => exact Kd.C_kept_came (Kd.heap_int .i64) HR0_1.out z27_0 (fun k_ hs_ => Or.elim hs_ (fun e_ => (fun e_ => Kd.R_base HO263.out k_ e_.symm) e_) (fun e_ => (fun e_ => by simp [Value.ownBlock] at e_) e_)))
   (case side3 => exact HC0_1.out)
   (case side4 => exact Kd.C_kept_came k36_heap HR0_2.out z27_0 (fun k_ hs_ => Or.elim hs_ (fun e_ => (fun e_ => Kd.R_base HO263.out k_ e_.symm) e_) (fun e_ => (fun e_ => by simp [Value.ownBlock] at e_) e_)))
   (case side5 => exact HC0_2.out)
   (case side6 => exact Kd.R_tight rfl HO263.out)
   (case side7 => exact Kd.R_nil _ _ _ _ _)
   rintro e w10 ⟨v265, rfl, ho0, hy0, hb, hkp⟩
   refine ⟨_, rfl, ?_⟩
   have n0_ := Aside0.mk (blk_kept z27_1 hkp (fun hs_ => Or.elim hs_ (fun e_ => (fun e_ => (Kd.R_ne HO263.out BK260.out (by decide)) e_) e_) (fun e_ => (fun e_ => by simp [Value.ownBlock] at e_) e_)))
   have n1_ := Aside0.mk (Kd.R_reok rfl hy0 (fun k_ e_ => HO263.out.1 k_ e_))
   have n2_ := Aside0.mk (Kd.R_mono (ok' := fun k_ => True) ho0 (fun k_ hk_ => trivial))
   have n3_ := Aside0.mk (hb)
   clear BK260
   clear HO263
   clear HB
   have BK260 := n0_
   have HO263 := n1_
   have HO266 := n2_
   have HB := n3_
   clear n0_ n1_ n2_ n3_
   (try clear hb)
   (try clear hkp)
   (try clear ho0)
   (try clear hy0)
   refine hK.out _ _ ⟨(blk_cell BK260.out 0).trans rfl, (blk_cell BK260.out 1).trans rfl, (blk_cell BK260.out 2).trans rfl⟩ (fun hHeld => ?_)
   clear hK K
   refine norm_ (a' := ?_) ?_ ?_
   rotate_left
   ·show Act.put _ (some 11) _ = _
    go_frame <;> try simp only [i64_w, i32_w]
    rfl
   refine pure_ (i := 6) (N := some 3) (v := ?_) (a' := ?_) (mk_ 7 127) rfl rfl (by kernel_rfl) (fun _ _ _ h => h) (Or.inl ⟨by rfl, ?_⟩) ?_ ?_
   rotate_left
   ·intro w'
    go_simp
    with_reducible rfl
   rotate_left
   ·go_frame <;> try simp only [i64_w, i32_w]
    rfl
   refine done_ (by kernel_rfl) ?_
   obtain ⟨Ao11, co11, eo11⟩ := Kd.R_slice HO266.out
   subst eo11
   try go_wp2
   go_loopg [4, 5] k (fun kq v4 v5 w' => ∃ (x4_1 : List Int) (x5_1 : Int), v5 = .int .i64 x5_1 ∧ Aside0 (spinnakerref33_Order.l0 kq t264 x4_1 x5_1 = some r) ∧ Aside0 (kq ≤ k) ∧ Aside0 (Kd.R (Kd.int .i64) 3 w' w.heap.size (fun k_ => some k_ ≠ (v4 : Value).ownBlock) (.slice Ao11 t264.length co11) t264) ∧ Aside0 (Kd.R (Kd.int .i64) 3 w' w.heap.size (fun k_ => some k_ ≠ ((.slice Ao11 t264.length co11) : Value).ownBlock) v4 x4_1) ∧ Aside0 (w'.heap[gb260]? = some (.cells #[.int .i64 a0_0, (.slice A0_1 l0_1.length c0_1), (.slice A0_2 l0_2.length c0_2)] 25 (0, 0))) ∧ Aside0 (Below w.heap.size w w'))
   case atStart => exact ⟨(([] : List Int)), (wrap64 ((t264.length : Int) - 1)), (by first | rfl | (simp; done) | (simp [*]; done)), H', ⟨Nat.le_refl _⟩, ⟨(by (with_reducible repeat (first | apply Kd.R_alloc | apply Kd.R_drewN | apply Kd.R_drew)); exact Kd.R_mono HO266.out (fun _ hk => (by simp [Value.ownBlock])))⟩, ⟨(by first | exact Kd.R_nil _ _ _ _ _ | exact Kd.N_nil _ _ _ _ _ | exact Kd.V_nil _ _ _ _ _ | exact Kd.Q_nil _ _ _ _ _ | exact Kd.S_nil _ _ _ _ _)⟩, ⟨z27_1⟩, ⟨z27_0⟩⟩
   case round =>
    clear H'
    try clear c2
    try clear c2b0
    try clear c2b1
    try clear c3
    try clear c3b0
    try clear c3b1
    obtain ⟨x4_1, x5_1, rfl, HA, HK1, HO_3, HO_4, BK260, HB⟩ := hrel
    cases gk with
    | zero => exact absurd HA.out (by simp [spinnakerref33_Order.l0])
    | succ k1 =>
     have H := HA.out
     clear HA
     simp only [spinnakerref33_Order.l0] at H
     by_cases c12 : x5_1 ≥ 0
     ·rw [if_pos c12] at H
      have c12b0 : decide (0 ≤ x5_1) = true := decide_eq_true c12
      clear c12
      by_cases c13 : 0 ≤ x5_1
      ·rw [if_pos c13] at H
       have c13b0 : decide (0 ≤ x5_1) = true := decide_eq_true c13
       clear c13
       by_cases c14 : x5_1 < (t264.length : Int)
       ·rw [if_pos c14] at H
        have c14b0 : decide (x5_1 < (t264.length : Int)) = true := decide_eq_true c14
        clear c14
        by_cases c15 : x4_1.length < 17592186044416
        ·rw [if_pos c15] at H
         have LMc15 := Aside0.mk c15
         clear c15
         obtain ⟨y269, hy269⟩ : ∃ y_ : List Int, y_ = (x4_1 ++ [rd t264 x5_1]) := ⟨_, rfl⟩
         replace H : (spinnakerref33_Order.l0 k1 t264 y269 (wrap64 (x5_1 - 1))) = some r := by first | (rw [hy269]; with_reducible exact H) | (have H2_ := (Option.bind_some _ _).symm.trans H; rw [hy269]; with_reducible exact H2_) | (have H2_ := (Option.bind_some _ _).symm.trans H; with_reducible exact H2_) | with_reducible exact H | (rw [hy269]; exact H) | exact H
         have Ny269 := Aside0.mk hy269
         clear hy269
         have H' := Aside0.mk H
         clear H
         have p268 : 0 ≤ (x5_1 : Int) := of_decide_eq_true (by first | (with_reducible assumption) | assumption)
         have q268 : x5_1 < (t264.length : Int) := of_decide_eq_true (by first | (with_reducible assumption) | assumption)
         obtain ⟨ad268, e268, hx268_0⟩ := Kd.at_int (Kd.R_reads' HO_3.out).2.2 x5_1 p268 q268
         cases e268
         replace p268 := eq_true p268
         replace q268 := eq_true q268
         go_wp2_with (first | ((with_reducible refine gate_builtin (b := .append) (xs := #[.tmp 19, .tmp 24]) rfl ?_); at_builtin; refine Kd.R_append (Kd.int .i64) (w0 := w) w.heap.size rfl (.tmp 19) (.tmp 24) 22 3 (.int .i64 0) 8 rfl Tryd.underlying22 info3 rfl (by decide) (by omega) u4 x4_1 (rd t264 x5_1) [.int .i64 (rd t264 x5_1)] (fun k_ => some k_ ≠ (.slice (some ad268) t264.length co11 : Value).ownBlock) (fun _ => False) rfl rfl ?aP (fun _ hk => hk.elim) ?aF ?aO ?aB ?aS ?aL ?_; (case aP => exact rfl); (case aB => exact z27_0); (case aF => exact (fun k_ hk => Kd.fresh' (Kd.R_lt (by (with_reducible repeat (first | apply Kd.R_alloc | apply Kd.R_drewN | apply Kd.R_drew)); exact HO_3.out)) k_ hk)); (case aO => exact (by (with_reducible repeat (first | apply Kd.R_alloc | apply Kd.R_drewN | apply Kd.R_drew)); exact HO_4.out)); (case aS => exact (below_size z27_0)); (case aL => have := LMc15.out; omega); intro v270 w16 ho hb hg hat; rw [← Ny269.out] at ho; have n0_ := Aside0.mk (Kd.R_after (ok := (fun _ => True)) (by (with_reducible repeat (first | apply Kd.R_alloc | apply Kd.R_drewN | apply Kd.R_drew)); exact Kd.R_mono HO_3.out (fun _ hk => ⟨trivial, hk⟩)) hg hat); have n1_ := Aside0.mk (blk_grown (g := gb260) (o := .cells #[.int .i64 a0_0, .slice A0_1 l0_1.length c0_1, .slice A0_2 l0_2.length c0_2] 25 (0, 0)) z27_1 hg (Kd.R_ne HO_4.out BK260.out (by decide))); have n2_ := Aside0.mk (hb); have n3_ := Aside0.mk (ho); clear HO_3; clear BK260; clear HB; clear HO_4; have HO_3 := n0_; have BK260 := n1_; have HB := n2_; have HO271 := n3_; clear n0_ n1_ n2_ n3_; clear ho hb hg hat))
         go_roundg k1
         case measure => have := HK1.out; omega
         case rel => exact ⟨(y269), (wrap64 (x5_1 - 1)), (by first | rfl | (simp; done) | (simp [*]; done)), H', ⟨(by have := HK1.out; omega)⟩, ⟨(by (with_reducible repeat (first | apply Kd.R_alloc | apply Kd.R_drewN | apply Kd.R_drew)); exact Kd.R_mono HO_3.out (fun _ hk => hk.2))⟩, ⟨(by (with_reducible repeat (first | apply Kd.R_alloc | apply Kd.R_drewN | apply Kd.R_drew)); exact HO271.out)⟩, ⟨z27_1⟩, ⟨z27_0⟩⟩
        ·rw [if_neg c15] at H
         exact absurd H (by simp)
       ·rw [if_neg c14] at H
        exact absurd H (by simp)
      ·rw [if_neg c13] at H
       exact absurd H (by simp)
     ·rw [if_neg c12] at H
      have c12b0 : decide (0 ≤ x5_1) = false := decide_eq_false c12
      clear c12
      obtain rfl := Option.some.inj H
      go_wp2
      go_ret
      exact ⟨_, by first | rfl | (simp [errW_none, errW_some] <;> rfl) | (simp [*, errW_none, errW_some] <;> rfl), by (with_reducible repeat (first | apply Kd.R_alloc | apply Kd.R_drewN | apply Kd.R_drew)); exact Kd.R_mono HO_4.out (fun _ hk => trivial), by repeat (first | (with_reducible first | exact HB.out | apply below_alloc | apply pw_below_drewN | apply below_drew1 | refine below_set ?_ GE260.out) | exact HB.out)⟩
  ·rw [if_neg c3] at H
   exact absurd H (by simp)
 ·rw [if_neg c2] at H
  exact absurd H (by simp)

/-! ### given: flow_orders.lean -/
-- GIVEN spinnaker/spinnakerlaw33.FlowOrders rounds=1 making=1
-- NEEDS spinnaker/spinnakerlaw33.right
-- NEEDS spinnaker/spinnakerlaw33.wrong
-- NEEDS spinnaker/spinnakerlaw33.awake
-- NEEDS spinnaker/flow.Order
-- NEEDS spinnaker/spinnakerref33.Order
-- NEEDS spinnaker/spinnakerref01.Ints
-- NEEDS spinnaker/spinnakerref33.Reached
-- NEEDS spinnaker/flow.Loops
-- REG []int
-- REG []bool
-- INFO int
-- IMPORT Derived.Test.YtgenmfbidpmneaaDoorEvalM
/-- Does a table lead from something to itself? -/
def rndL (c : List (List Bool)) : Nat → Nat → Bool
  | 0, _ => false
  | d + 1, a => atB c (a : Int) (a : Int) || rndL c d (a + 1)
def roundsF (k N : Nat) (At : List (List Bool)) : Option Bool := (leadsF k N At).bind fun c => some (rndL c N 0)
theorem roundsF_mono (k N : Nat) (At : List (List Bool)) : LeO (roundsF k N At) (roundsF (k + 1) N At) := LeO.bind (leadsF_mono k N At) fun _ => LeO.refl _
set_option maxRecDepth 100000 in
set_option maxHeartbeats 4000000 in
theorem rounds_walk {base p N : Nat} {At : List (List Bool)} (k : Nat) (r : Bool) (w : World) (hR : RelIs w base p N At) (h : roundsF k N At = some r) :
    Calls Tryd.prog 29 #[.pointer (some ⟨p, 0, none⟩)] w fun e w' => e = .returned (.bool r) ∧ Below w.heap.size w w' := by
  have hu := Tryd.underlying76
  unfold roundsF at h
  obtain ⟨c, hc, h⟩ := Option.bind_eq_some_iff.1 h
  injection h with h
  have HN : Aside0 (N ≤ 512) := ⟨by obtain ⟨_, _, _, _, _, h5, _⟩ := hR; exact h5⟩
  have HR := Aside0.mk hR
  have HL := Aside0.mk hc
  have HX := Aside0.mk h
  clear hR hc h
  go_enter Tryd.func29, Tryd.ntmps29
  go_wp2_with (first | (go_at_call 42; refine (leads_walk k _ _ HR.out HL.out).mono ?_; rintro e ws ⟨q, rfl, hq, hb_⟩; have HQ := Aside0.mk hq; have HB := Aside0.mk hb_; clear hq hb_))
  go_loopg [4] N (fun gg v4 wr => ∃ (a : Nat), a ≤ N ∧ N - a ≤ gg ∧ v4 = .int .i64 (a : Int) ∧ Aside0 (rndL c (N - a) a = r) ∧ wr = ws)
  case atStart => exact ⟨0, Nat.zero_le _, by omega, rfl, HX, rfl⟩
  case round =>
    clear HX
    obtain ⟨a, haN, hgg, rfl, HX, hwr⟩ := hrel
    subst hwr
    have hc0 : wr.cell? ⟨p, 0, none⟩ = some (.int .i64 (N : Int)) := by obtain ⟨v, h1, _⟩ := HR.out.below HB.out; exact (blk_cell h1 0).trans rfl
    by_cases hlt : a < N
    · have hltz : (a : Int) < (N : Int) := by omega
      have hp0 : (0 : Int) ≤ (a : Int) := by omega
      obtain ⟨ad, cap, ai, ci, _, hc1, hc2, hc3⟩ := rel_read HQ.out (a := (a : Int)) (b := (a : Int)) ⟨hp0, hltz⟩ ⟨hp0, hltz⟩
      rw [Int.toNat_natCast] at hc2 hc3
      have hx := HX.out
      rw [show N - a = (N - (a + 1)) + 1 by omega, rndL] at hx
      cases hat : atB c (a : Int) (a : Int) with
      | true =>
        rw [hat] at hx hc3
        rw [Bool.true_or] at hx
        subst hx
        clear hat
        go_wp2_with (fail)
        go_ret
        exact ⟨rfl, HB.out⟩
      | false =>
        rw [hat] at hx hc3
        rw [Bool.false_or] at hx
        have HX := Aside0.mk hx
        clear hat hx
        go_wp2_with (fail)
        go_roundg (N - (a + 1))
        case measure => omega
        case rel => exact ⟨a + 1, by omega, by omega, by first | rfl | rw [show wrap64 ((a : Int) + 1) = ((a + 1 : Nat) : Int) by unfold wrap64; have hq_ := HN.out; omega], HX, rfl⟩
    · have hltz : ¬ (a : Int) < (N : Int) := by omega
      have hx := HX.out
      rw [show N - a = 0 by omega, rndL] at hx
      subst hx
      go_wp2_with (fail)
      go_ret
      exact ⟨rfl, HB.out⟩
/-- Does no block of a row lead to one that stands ahead of it, or to itself? -/
def ordD (N : Nat) (e : List (List Bool)) (l : List Int) : Nat → Nat → Bool
  | 0, _ => true
  | d + 1, i => (l.take (i + 1)).all (fun y => !hasP N e (l.getD i 0) y) && ordD N e l d (i + 1)
def spinnakerlaw33_FlowOrders.f (k : Nat) (v : Int) (l1 : List Int) (l2 : List S36) : Option Bool := (spinnakerlaw33_right.f v l1 l2).bind fun t => if t = true then (flow_Order.f k v l1 l2).bind fun l => (spinnakerref33_Order.f k v l1 l2).bind fun m => (spinnakerref01_Ints.f k l m).bind fun s => if s = true then (edgesF (-1) l2).bind fun e => (roundsF k l2.length e).bind fun c => if c = true then spinnakerlaw33_awake.f k else if l.length ≤ 1000 then (if ordD l2.length e l l.length 0 = true then spinnakerlaw33_awake.f k else some false) else none else some false
  else (spinnakerlaw33_wrong.f k v l1 l2).bind fun u => if u = true then spinnakerlaw33_awake.f k else some false
theorem spinnakerlaw33_FlowOrders.mono : ∀ a0 a1 a2 k, LeO (spinnakerlaw33_FlowOrders.f k a0 a1 a2) (spinnakerlaw33_FlowOrders.f (k + 1) a0 a1 a2) := by
  intro a0 a1 a2 k
  exact LeO.bind (LeO.refl _) fun _ => LeO.ite (LeO.bind (flow_Order.mono _ _ _ k) fun _ => LeO.bind (spinnakerref33_Order.mono _ _ _ k) fun _ => LeO.bind (spinnakerref01_Ints.mono _ _ k) fun _ => LeO.ite (LeO.bind (LeO.refl _) fun _ => LeO.bind (roundsF_mono k _ _) fun _ => LeO.ite (spinnakerlaw33_awake.mono k) (LeO.ite (LeO.ite (spinnakerlaw33_awake.mono k) (LeO.refl _)) (LeO.refl _))) (LeO.refl _)) (LeO.bind (spinnakerlaw33_wrong.mono _ _ _ k) fun _ => LeO.ite (spinnakerlaw33_awake.mono k) (LeO.refl _))
set_option maxRecDepth 100000 in
set_option maxHeartbeats 16000000 in
theorem spinnakerlaw33_FlowOrders.calls (k : Nat) (v : Int) (A1 : Option Addr) (c1 : Nat) (l1 : List Int) (A2 : Option Addr) (c2 : Nat) (l2 : List (S36)) (r : Bool) (w : World) (hr1 : Kd.C (Kd.int .i64) w A1 l1.length l1) (hc1 : l1.length ≤ c1) (hr2 : Kd.C k36 w A2 l2.length l2) (hc2 : l2.length ≤ c2) (hG : OpsLaid w) (h : spinnakerlaw33_FlowOrders.f k v l1 l2 = some r) :
    Calls Tryd.prog 7 #[.agg #[.int .i64 v, .slice A1 l1.length c1, .slice A2 l2.length c2]] w fun e w' => e = .returned (.bool r) ∧ Below w.heap.size w w' := by
  have hu := Tryd.underlying25
  unfold spinnakerlaw33_FlowOrders.f at h
  obtain ⟨t, hri, h⟩ := Option.bind_eq_some_iff.1 h
  have HRI := Aside0.mk hri
  have HR1 := Aside0.mk hr1
  have HC1 := Aside0.mk hc1
  have HR2 := Aside0.mk hr2
  have HC2 := Aside0.mk hc2
  have HG := Aside0.mk hG
  have HB := Aside0.mk (Below.refl w.heap.size w)
  clear hr1 hc1 hr2 hc2 hG hri
  cases t with
  | false =>
    rw [if_neg (by decide)] at h
    obtain ⟨u, hwr, h⟩ := Option.bind_eq_some_iff.1 h
    have HWR := Aside0.mk hwr
    clear hwr
    cases u with
    | false =>
      rw [if_neg (by decide)] at h
      injection h with h
      subst h
      generalize ht : false = t at HRI
      generalize hu_ : false = u at HWR
      go_enter Tryd.func7, Tryd.ntmps7
      go_upto_region 1 with (first | ((with_reducible refine gate_dst (N := 1) rfl ?_); refine box_event ?hg (N := 1) ?hd (cs := #[.int .i64 v, .slice A1 l1.length c1, .slice A2 l2.length c2]) (t := 25) ?hr ?_; (case hd => rfl); (case hg => rfl); (case hr => first | (go_simp; done) | (go_simp; rfl)); intro gb hg wb hbox hb; have GE0 := Aside0.mk (show w.heap.size ≤ gb by rw [hg]; exact below_size (by repeat (first | (with_reducible first | exact HB.out | apply below_alloc | apply pw_below_drewN | apply below_drew1) | exact HB.out))); have n0_ := Aside0.mk (below_step (by repeat (first | (with_reducible first | exact HB.out | apply below_alloc | apply pw_below_drewN | apply below_drew1) | exact HB.out)) hb); have BKgb := Aside0.mk hbox; clear HB; have HB := n0_; clear n0_ hb hbox hg))
      obtain ⟨hb0, hb1, hb2⟩ := fl_cells3 BKgb.out
      subst ht
      subst hu_
      go_wp2_with (first | (go_at_call 17; refine (spinnakerlaw33_right.calls v A1 c1 l1 A2 c2 l2 false _ (Kd.C_below HR1.out HB.out) HC1.out (Kd.C_below HR2.out HB.out) HC2.out HRI.out).mono ?_; rintro e w1 ⟨rfl, hb⟩; have n0_ := Aside0.mk (below_step HB.out hb); have n1_ := Aside0.mk (blk_below BKgb.out hb); clear HB BKgb; revert n0_ n1_; intro HB BKgb; clear hb hb0 hb1 hb2; obtain ⟨hb0, hb1, hb2⟩ := fl_cells3 BKgb.out) | (go_at_call 18; refine (spinnakerlaw33_wrong.calls k v A1 c1 l1 A2 c2 l2 false _ (Kd.C_below HR1.out HB.out) HC1.out (Kd.C_below HR2.out HB.out) HC2.out (HG.out.below (Nat.le_refl _) HB.out) HWR.out).mono ?_; rintro e w1 ⟨rfl, hb⟩; have n0_ := Aside0.mk (below_step HB.out hb); have n1_ := Aside0.mk (blk_below BKgb.out hb); clear HB BKgb; revert n0_ n1_; intro HB BKgb; clear hb hb0 hb1 hb2; obtain ⟨hb0, hb1, hb2⟩ := fl_cells3 BKgb.out))
      go_ret
      exact ⟨rfl, HB.out⟩
    | true =>
      rw [if_pos rfl] at h
      have HAW := Aside0.mk h
      clear h
      go_enter Tryd.func7, Tryd.ntmps7
      go_upto_region 1 with (first | ((with_reducible refine gate_dst (N := 1) rfl ?_); refine box_event ?hg (N := 1) ?hd (cs := #[.int .i64 v, .slice A1 l1.length c1, .slice A2 l2.length c2]) (t := 25) ?hr ?_; (case hd => rfl); (case hg => rfl); (case hr => first | (go_simp; done) | (go_simp; rfl)); intro gb hg wb hbox hb; have GE0 := Aside0.mk (show w.heap.size ≤ gb by rw [hg]; exact below_size (by repeat (first | (with_reducible first | exact HB.out | apply below_alloc | apply pw_below_drewN | apply below_drew1) | exact HB.out))); have n0_ := Aside0.mk (below_step (by repeat (first | (with_reducible first | exact HB.out | apply below_alloc | apply pw_below_drewN | apply below_drew1) | exact HB.out)) hb); have BKgb := Aside0.mk hbox; clear HB; have HB := n0_; clear n0_ hb hbox hg))
      obtain ⟨hb0, hb1, hb2⟩ := fl_cells3 BKgb.out
      go_wp2_with (first | (go_at_call 17; refine (spinnakerlaw33_right.calls v A1 c1 l1 A2 c2 l2 false _ (Kd.C_below HR1.out HB.out) HC1.out (Kd.C_below HR2.out HB.out) HC2.out HRI.out).mono ?_; rintro e w1 ⟨rfl, hb⟩; have n0_ := Aside0.mk (below_step HB.out hb); have n1_ := Aside0.mk (blk_below BKgb.out hb); clear HB BKgb; revert n0_ n1_; intro HB BKgb; clear hb hb0 hb1 hb2; obtain ⟨hb0, hb1, hb2⟩ := fl_cells3 BKgb.out) | (go_at_call 18; refine (spinnakerlaw33_wrong.calls k v A1 c1 l1 A2 c2 l2 true _ (Kd.C_below HR1.out HB.out) HC1.out (Kd.C_below HR2.out HB.out) HC2.out (HG.out.below (Nat.le_refl _) HB.out) HWR.out).mono ?_; rintro e w1 ⟨rfl, hb⟩; have n0_ := Aside0.mk (below_step HB.out hb); have n1_ := Aside0.mk (blk_below BKgb.out hb); clear HB BKgb; revert n0_ n1_; intro HB BKgb; clear hb hb0 hb1 hb2; obtain ⟨hb0, hb1, hb2⟩ := fl_cells3 BKgb.out) | (go_at_call 19; refine (spinnakerlaw33_awake.calls k _ _ (HG.out.below (Nat.le_refl _) HB.out) HAW.out).mono ?_; rintro e w1 ⟨rfl, hb⟩; have n0_ := Aside0.mk (below_step HB.out hb); have n1_ := Aside0.mk (blk_below BKgb.out hb); clear HB BKgb; revert n0_ n1_; intro HB BKgb; clear hb hb0 hb1 hb2; obtain ⟨hb0, hb1, hb2⟩ := fl_cells3 BKgb.out))
      go_ret
      exact ⟨rfl, HB.out⟩
  | true =>
    rw [if_pos rfl] at h
    obtain ⟨l, ho1, h⟩ := Option.bind_eq_some_iff.1 h
    obtain ⟨m, ho2, h⟩ := Option.bind_eq_some_iff.1 h
    obtain ⟨s, hin, h⟩ := Option.bind_eq_some_iff.1 h
    have HO1 := Aside0.mk ho1
    have HO2 := Aside0.mk ho2
    have HIN := Aside0.mk hin
    clear ho1 ho2 hin
    go_enter Tryd.func7, Tryd.ntmps7
    go_upto_region 1 with (first | ((with_reducible refine gate_dst (N := 1) rfl ?_); refine box_event ?hg (N := 1) ?hd (cs := #[.int .i64 v, .slice A1 l1.length c1, .slice A2 l2.length c2]) (t := 25) ?hr ?_; (case hd => rfl); (case hg => rfl); (case hr => first | (go_simp; done) | (go_simp; rfl)); intro gb hg wb hbox hb; have GE0 := Aside0.mk (show w.heap.size ≤ gb by rw [hg]; exact below_size (by repeat (first | (with_reducible first | exact HB.out | apply below_alloc | apply pw_below_drewN | apply below_drew1) | exact HB.out))); have n0_ := Aside0.mk (below_step (by repeat (first | (with_reducible first | exact HB.out | apply below_alloc | apply pw_below_drewN | apply below_drew1) | exact HB.out)) hb); have BKgb := Aside0.mk hbox; clear HB; have HB := n0_; clear n0_ hb hbox hg))
    obtain ⟨hb0, hb1, hb2⟩ := fl_cells3 BKgb.out
    cases s with
    | false =>
      rw [if_neg (by decide)] at h
      injection h with h
      subst h
      go_wp2_with (first | (go_at_call 17; refine (spinnakerlaw33_right.calls v A1 c1 l1 A2 c2 l2 true _ (Kd.C_below HR1.out HB.out) HC1.out (Kd.C_below HR2.out HB.out) HC2.out HRI.out).mono ?_; rintro e w1 ⟨rfl, hb⟩; have n0_ := Aside0.mk (below_step HB.out hb); have n1_ := Aside0.mk (blk_below BKgb.out hb); clear HB BKgb; revert n0_ n1_; intro HB BKgb; clear hb hb0 hb1 hb2; obtain ⟨hb0, hb1, hb2⟩ := fl_cells3 BKgb.out) | (go_at_call 26; refine (flow_Order.calls k v A1 c1 l1 A2 c2 l2 l _ (Kd.C_below HR1.out HB.out) HC1.out (Kd.C_below HR2.out HB.out) HC2.out (HG.out.below (Nat.le_refl _) HB.out) HO1.out).mono ?_; rintro e w1 ⟨vo, rfl, ho, hb⟩; obtain ⟨Ao, co, eo⟩ := Kd.R_slice ho; subst eo; have HA := Aside0.mk (Kd.R_reads' ho).2.2; have HAC := Aside0.mk (Kd.R_reads' ho).2.1; clear ho; have n0_ := Aside0.mk (below_step HB.out hb); have n1_ := Aside0.mk (blk_below BKgb.out hb); clear HB BKgb; revert n0_ n1_; intro HB BKgb; clear hb hb0 hb1 hb2; obtain ⟨hb0, hb1, hb2⟩ := fl_cells3 BKgb.out) | (go_at_call 27; refine (spinnakerref33_Order.calls k v A1 c1 l1 A2 c2 l2 m _ (Kd.C_below HR1.out HB.out) HC1.out (Kd.C_below HR2.out HB.out) HC2.out HO2.out).mono ?_; rintro e w1 ⟨vo, rfl, ho, hb⟩; obtain ⟨Am, cm, eo⟩ := Kd.R_slice ho; subst eo; have HM := Aside0.mk (Kd.R_reads' ho).2.2; have HMC := Aside0.mk (Kd.R_reads' ho).2.1; have HA2 := Aside0.mk (Kd.C_below HA.out hb); clear ho HA; have HA := HA2; clear HA2; have n0_ := Aside0.mk (below_step HB.out hb); have n1_ := Aside0.mk (blk_below BKgb.out hb); clear HB BKgb; revert n0_ n1_; intro HB BKgb; clear hb hb0 hb1 hb2; obtain ⟨hb0, hb1, hb2⟩ := fl_cells3 BKgb.out) | (go_at_call 16; refine (spinnakerref01_Ints.calls k _ _ l _ _ m false _ HA.out HAC.out HM.out HMC.out HIN.out).mono ?_; rintro e w1 ⟨rfl, ⟨nd, rfl⟩⟩; have n0_ := Aside0.mk (pw_below_drewN HB.out nd); have n1_ := Aside0.mk (blk_drewN BKgb.out nd); have n2_ := Aside0.mk (Kd.C_drewN HA.out nd); clear HB BKgb HA HM hb0 hb1 hb2; revert n0_ n1_ n2_; intro HB BKgb HA; obtain ⟨hb0, hb1, hb2⟩ := fl_cells3 BKgb.out))
      go_ret
      exact ⟨rfl, HB.out⟩
    | true =>
      rw [if_pos rfl] at h
      obtain ⟨ed, hed, h⟩ := Option.bind_eq_some_iff.1 h
      obtain ⟨c, hro, h⟩ := Option.bind_eq_some_iff.1 h
      have HED := Aside0.mk hed
      have HRO := Aside0.mk hro
      clear hed hro
      cases c with
      | true =>
        rw [if_pos rfl] at h
        have HAW := Aside0.mk h
        clear h
        go_wp2_with (first | (go_at_call 17; refine (spinnakerlaw33_right.calls v A1 c1 l1 A2 c2 l2 true _ (Kd.C_below HR1.out HB.out) HC1.out (Kd.C_below HR2.out HB.out) HC2.out HRI.out).mono ?_; rintro e w1 ⟨rfl, hb⟩; have n0_ := Aside0.mk (below_step HB.out hb); have n1_ := Aside0.mk (blk_below BKgb.out hb); clear HB BKgb; revert n0_ n1_; intro HB BKgb; clear hb hb0 hb1 hb2; obtain ⟨hb0, hb1, hb2⟩ := fl_cells3 BKgb.out) | (go_at_call 26; refine (flow_Order.calls k v A1 c1 l1 A2 c2 l2 l _ (Kd.C_below HR1.out HB.out) HC1.out (Kd.C_below HR2.out HB.out) HC2.out (HG.out.below (Nat.le_refl _) HB.out) HO1.out).mono ?_; rintro e w1 ⟨vo, rfl, ho, hb⟩; obtain ⟨Ao, co, eo⟩ := Kd.R_slice ho; subst eo; have HA := Aside0.mk (Kd.R_reads' ho).2.2; have HAC := Aside0.mk (Kd.R_reads' ho).2.1; clear ho; have n0_ := Aside0.mk (below_step HB.out hb); have n1_ := Aside0.mk (blk_below BKgb.out hb); clear HB BKgb; revert n0_ n1_; intro HB BKgb; clear hb hb0 hb1 hb2; obtain ⟨hb0, hb1, hb2⟩ := fl_cells3 BKgb.out) | (go_at_call 27; refine (spinnakerref33_Order.calls k v A1 c1 l1 A2 c2 l2 m _ (Kd.C_below HR1.out HB.out) HC1.out (Kd.C_below HR2.out HB.out) HC2.out HO2.out).mono ?_; rintro e w1 ⟨vo, rfl, ho, hb⟩; obtain ⟨Am, cm, eo⟩ := Kd.R_slice ho; subst eo; have HM := Aside0.mk (Kd.R_reads' ho).2.2; have HMC := Aside0.mk (Kd.R_reads' ho).2.1; have HA2 := Aside0.mk (Kd.C_below HA.out hb); clear ho HA; have HA := HA2; clear HA2; have n0_ := Aside0.mk (below_step HB.out hb); have n1_ := Aside0.mk (blk_below BKgb.out hb); clear HB BKgb; revert n0_ n1_; intro HB BKgb; clear hb hb0 hb1 hb2; obtain ⟨hb0, hb1, hb2⟩ := fl_cells3 BKgb.out) | (go_at_call 16; refine (spinnakerref01_Ints.calls k _ _ l _ _ m true _ HA.out HAC.out HM.out HMC.out HIN.out).mono ?_; rintro e w1 ⟨rfl, ⟨nd, rfl⟩⟩; have n0_ := Aside0.mk (pw_below_drewN HB.out nd); have n1_ := Aside0.mk (blk_drewN BKgb.out nd); have n2_ := Aside0.mk (Kd.C_drewN HA.out nd); clear HB BKgb HA HM hb0 hb1 hb2; revert n0_ n1_ n2_; intro HB BKgb HA; obtain ⟨hb0, hb1, hb2⟩ := fl_cells3 BKgb.out) | (go_at_call 28; refine (edges_walk v A1 c1 l1 A2 c2 l2 (-1) _ _ (Kd.C_below HR1.out HB.out) HC1.out (Kd.C_below HR2.out HB.out) HC2.out HED.out).mono ?_; rintro e w1 ⟨q, rfl, hq, hb⟩; have HQ := Aside0.mk hq; have HA2 := Aside0.mk (Kd.C_below HA.out hb); clear hq HA; have HA := HA2; clear HA2; have n0_ := Aside0.mk (below_step HB.out hb); have n1_ := Aside0.mk (blk_below BKgb.out hb); clear HB BKgb; revert n0_ n1_; intro HB BKgb; clear hb hb0 hb1 hb2; obtain ⟨hb0, hb1, hb2⟩ := fl_cells3 BKgb.out) | (go_at_call 29; refine (rounds_walk k _ _ HQ.out HRO.out).mono ?_; rintro e ws ⟨rfl, hb⟩; have HA2 := Aside0.mk (Kd.C_below HA.out hb); clear HA HQ; have HA := HA2; clear HA2; have n0_ := Aside0.mk (below_step HB.out hb); have n1_ := Aside0.mk (blk_below BKgb.out hb); clear HB BKgb; revert n0_ n1_; intro HB BKgb; clear hb hb0 hb1 hb2; obtain ⟨hb0, hb1, hb2⟩ := fl_cells3 BKgb.out) | (go_at_call 19; refine (spinnakerlaw33_awake.calls k _ _ (HG.out.below (Nat.le_refl _) HB.out) HAW.out).mono ?_; rintro e w1 ⟨rfl, hb⟩; have n0_ := Aside0.mk (below_step HB.out hb); have n1_ := Aside0.mk (blk_below BKgb.out hb); clear HB BKgb; revert n0_ n1_; intro HB BKgb; clear hb hb0 hb1 hb2; obtain ⟨hb0, hb1, hb2⟩ := fl_cells3 BKgb.out))
        go_ret
        exact ⟨rfl, HB.out⟩
      | false =>
        rw [if_neg (by decide)] at h
        have hll : l.length ≤ 1000 := by
          split at h
          · assumption
          · cases h
        rw [if_pos hll] at h
        have HLL := Aside0.mk hll
        obtain ⟨R, hR⟩ : ∃ R, Aside0 (ordD l2.length ed l l.length 0 = R) := ⟨_, ⟨rfl⟩⟩
        rw [hR.out] at h
        have HF := Aside0.mk h
        clear h hll
        go_wp2_with (first | (go_at_call 17; refine (spinnakerlaw33_right.calls v A1 c1 l1 A2 c2 l2 true _ (Kd.C_below HR1.out HB.out) HC1.out (Kd.C_below HR2.out HB.out) HC2.out HRI.out).mono ?_; rintro e w1 ⟨rfl, hb⟩; have n0_ := Aside0.mk (below_step HB.out hb); have n1_ := Aside0.mk (blk_below BKgb.out hb); clear HB BKgb; revert n0_ n1_; intro HB BKgb; clear hb hb0 hb1 hb2; obtain ⟨hb0, hb1, hb2⟩ := fl_cells3 BKgb.out) | (go_at_call 26; refine (flow_Order.calls k v A1 c1 l1 A2 c2 l2 l _ (Kd.C_below HR1.out HB.out) HC1.out (Kd.C_below HR2.out HB.out) HC2.out (HG.out.below (Nat.le_refl _) HB.out) HO1.out).mono ?_; rintro e w1 ⟨vo, rfl, ho, hb⟩; obtain ⟨Ao, co, eo⟩ := Kd.R_slice ho; subst eo; have HA := Aside0.mk (Kd.R_reads' ho).2.2; have HAC := Aside0.mk (Kd.R_reads' ho).2.1; clear ho; have n0_ := Aside0.mk (below_step HB.out hb); have n1_ := Aside0.mk (blk_below BKgb.out hb); clear HB BKgb; revert n0_ n1_; intro HB BKgb; clear hb hb0 hb1 hb2; obtain ⟨hb0, hb1, hb2⟩ := fl_cells3 BKgb.out) | (go_at_call 27; refine (spinnakerref33_Order.calls k v A1 c1 l1 A2 c2 l2 m _ (Kd.C_below HR1.out HB.out) HC1.out (Kd.C_below HR2.out HB.out) HC2.out HO2.out).mono ?_; rintro e w1 ⟨vo, rfl, ho, hb⟩; obtain ⟨Am, cm, eo⟩ := Kd.R_slice ho; subst eo; have HM := Aside0.mk (Kd.R_reads' ho).2.2; have HMC := Aside0.mk (Kd.R_reads' ho).2.1; have HA2 := Aside0.mk (Kd.C_below HA.out hb); clear ho HA; have HA := HA2; clear HA2; have n0_ := Aside0.mk (below_step HB.out hb); have n1_ := Aside0.mk (blk_below BKgb.out hb); clear HB BKgb; revert n0_ n1_; intro HB BKgb; clear hb hb0 hb1 hb2; obtain ⟨hb0, hb1, hb2⟩ := fl_cells3 BKgb.out) | (go_at_call 16; refine (spinnakerref01_Ints.calls k _ _ l _ _ m true _ HA.out HAC.out HM.out HMC.out HIN.out).mono ?_; rintro e w1 ⟨rfl, ⟨nd, rfl⟩⟩; have n0_ := Aside0.mk (pw_below_drewN HB.out nd); have n1_ := Aside0.mk (blk_drewN BKgb.out nd); have n2_ := Aside0.mk (Kd.C_drewN HA.out nd); clear HB BKgb HA HM hb0 hb1 hb2; revert n0_ n1_ n2_; intro HB BKgb HA; obtain ⟨hb0, hb1, hb2⟩ := fl_cells3 BKgb.out) | (go_at_call 28; refine (edges_walk v A1 c1 l1 A2 c2 l2 (-1) _ _ (Kd.C_below HR1.out HB.out) HC1.out (Kd.C_below HR2.out HB.out) HC2.out HED.out).mono ?_; rintro e w1 ⟨q, rfl, hq, hb⟩; have HQ := Aside0.mk hq; have HA2 := Aside0.mk (Kd.C_below HA.out hb); clear hq HA; have HA := HA2; clear HA2; have n0_ := Aside0.mk (below_step HB.out hb); have n1_ := Aside0.mk (blk_below BKgb.out hb); clear HB BKgb; revert n0_ n1_; intro HB BKgb; clear hb hb0 hb1 hb2; obtain ⟨hb0, hb1, hb2⟩ := fl_cells3 BKgb.out) | (go_at_call 29; refine (rounds_walk k _ _ HQ.out HRO.out).mono ?_; rintro e ws ⟨rfl, hb⟩; have HA2 := Aside0.mk (Kd.C_below HA.out hb); clear HA HQ; have HA := HA2; clear HA2; have n0_ := Aside0.mk (below_step HB.out hb); have n1_ := Aside0.mk (blk_below BKgb.out hb); clear HB BKgb; revert n0_ n1_; intro HB BKgb; clear hb hb0 hb1 hb2; obtain ⟨hb0, hb1, hb2⟩ := fl_cells3 BKgb.out))
        clear hb0 hb1 hb2
        have HS := Aside0.mk (Below.refl ws.heap.size ws)
        go_loopg [4] l.length (fun gg v4 wr => ∃ (i : Nat), i ≤ l.length ∧ l.length - i ≤ gg ∧ v4 = .int .i64 (i : Int) ∧ Aside0 (ordD l2.length ed l (l.length - i) i = R) ∧ Aside0 (Below ws.heap.size ws wr))
        case atStart => exact ⟨0, Nat.zero_le _, by omega, rfl, hR, HS⟩
        case round =>
          clear hR HS
          obtain ⟨i, hiN, hgg, rfl, hR, HS⟩ := hrel
          by_cases hlt : i < l.length
          · have hltz : (i : Int) < (l.length : Int) := by omega
            have hip : (0 : Int) ≤ (i : Int) := by omega
            have hx := hR.out
            rw [show l.length - i = (l.length - (i + 1)) + 1 by omega, ordD] at hx
            obtain ⟨x, hxe⟩ : ∃ x, l.getD i 0 = x := ⟨_, rfl⟩
            rw [hxe] at hx
            have HXE := Aside0.mk hxe
            have HP := Aside0.mk hx
            obtain ⟨ao, eao, _⟩ := Kd.at_int HA.out (i : Int) hip hltz
            clear hx hxe hR
            subst eao
            go_wp2_with (fail)
            go_loopg [5] (i + 1) (fun gj v5 wr => ∃ (j : Nat), j ≤ i + 1 ∧ i + 1 - j ≤ gj ∧ v5 = .int .i64 (j : Int) ∧ Aside0 ((((l.take (i + 1)).drop j).all (fun y => !hasP l2.length ed x y) && ordD l2.length ed l (l.length - (i + 1)) (i + 1)) = R) ∧ Aside0 (Below ws.heap.size ws wr))
            case atStart => exact ⟨0, Nat.zero_le _, by omega, rfl, HP, HS⟩
            case round =>
              clear HP HS
              obtain ⟨j, hjN, hgj, rfl, HP, HS⟩ := hrel
              by_cases hjl : j ≤ i
              · have hjlz : (j : Int) ≤ (i : Int) := by omega
                have hjp : (0 : Int) ≤ (j : Int) := by omega
                have hjll : (j : Int) < (l.length : Int) := by omega
                obtain ⟨y, hye⟩ : ∃ y, l.getD j 0 = y := ⟨_, rfl⟩
                have hp := HP.out
                rw [e_drop (l.take (i + 1)) 0 j (by rw [List.length_take]; omega), List.all_cons, show (l.take (i + 1)).getD j 0 = y by rw [← hye, List.getD_eq_getElem?_getD, List.getElem?_take_of_lt (by omega), List.getD_eq_getElem?_getD]] at hp
                have HYE := Aside0.mk hye
                clear hye
                cases hhx : hasP l2.length ed x y with
                | true =>
                  rw [hhx] at hp
                  have hRf : R = false := by rw [← hp]; rfl
                  have HHX := Aside0.mk hhx
                  have hf := HF.out
                  rw [hRf, if_neg (by decide)] at hf
                  injection hf with hf
                  subst hf
                  clear hp hhx hRf
                  go_upto_region 14 with (fail)
                  have held : ∀ w', Below ws.heap.size ws w' → (w'.cell? ⟨gb, 0, none⟩ = some (.int .i64 v) ∧ w'.cell? ⟨gb, 1, none⟩ = some (.slice A1 l1.length c1) ∧ w'.cell? ⟨gb, 2, none⟩ = some (.slice A2 l2.length c2) ∧ w'.cell? (ao.add i) = some (.int .i64 x) ∧ w'.cell? (ao.add j) = some (.int .i64 y)) := fun w' hw => ⟨(fl_cells3 (blk_below BKgb.out hw)).1, (fl_cells3 (blk_below BKgb.out hw)).2.1, (fl_cells3 (blk_below BKgb.out hw)).2.2, by have h_ := l_int (Kd.C_below HA.out hw) (i : Int) (by omega) (by omega); rw [Int.toNat_natCast, HXE.out] at h_; exact h_, by have h_ := l_int (Kd.C_below HA.out hw) (j : Int) (by omega) (by omega); rw [Int.toNat_natCast, HYE.out] at h_; exact h_⟩
                  have hdrew := below_drew1 (Below.refl wr.heap.size wr)
                  have n0_ := Aside0.mk (below_step HS.out hdrew); clear HS; revert n0_; intro HS
                  clear hdrew
                  refine start_ (n := 11) (S := fun w' => (w'.cell? ⟨gb, 0, none⟩ = some (.int .i64 v) ∧ w'.cell? ⟨gb, 1, none⟩ = some (.slice A1 l1.length c1) ∧ w'.cell? ⟨gb, 2, none⟩ = some (.slice A2 l2.length c2) ∧ w'.cell? (ao.add i) = some (.int .i64 x) ∧ w'.cell? (ao.add j) = some (.int .i64 y))) (ds := []) (fm_ 11 0) (by kernel_rfl) rfl rfl (held _ HS.out) (fun hHeld => ?_)
                  generalize wr.drew = wd at HS hHeld ⊢
                  refine fT5 (i := 0) (N := some 36) (fm_ 11 1) ?_
                  refine fP (i := 2) (N := some 38) (fm_ 11 5) ?_
                  refine fP (i := 3) (N := some 39) (fm_ 11 13) ?_
                  refine fP (i := 4) (N := some 40) (fm_ 11 29) ?_
                  refine fT5 (i := 5) (N := some 41) (fm_ 11 61) ?_
                  refine fP (i := 6) (N := some 42) (fm_ 11 125) ?_
                  refine fP (i := 7) (N := some 43) (fm_ 11 253) ?_
                  refine fP (i := 8) (N := some 44) (fm_ 11 509) ?_
                  refine fT5 (i := 9) (N := some 45) (fm_ 11 1021) ?_
                  refine one_ (i := 1) (N := some 37) (fm_ 11 1023) rfl rfl (by kernel_rfl) (by decide) (fun K hK => ?_)
                  refine goes_ Tryd.func28 (by kernel_rfl) rfl #[.agg #[.int .i64 v, .slice A1 l1.length c1, .slice A2 l2.length c2], .int .i64 (-1)] (by rfl) rfl rfl (by (try simp only [List.map_toArray, List.map_cons, List.map_nil]); first | done | rfl) ?_
                  refine (edges_walk v A1 c1 l1 A2 c2 l2 (-1) _ _ (Kd.C_below HR1.out (below_step HB.out HS.out)) HC1.out (Kd.C_below HR2.out (below_step HB.out HS.out)) HC2.out HED.out).mono ?_
                  rintro e w3 ⟨q, rfl, hq, hb⟩
                  refine ⟨_, rfl, ?_⟩
                  have HQ := Aside0.mk hq
                  have n0_ := Aside0.mk (below_step HS.out hb); clear HS; revert n0_; intro HS
                  clear hb hq
                  refine hK.out _ _ (held _ HS.out) (fun hHeld => ?_)
                  clear hK K
                  refine nP (N := some 37) ?_
                  refine one_ (i := 10) (N := some 46) (fm_ 11 2047) rfl rfl (by kernel_rfl) (by decide) (fun K hK => ?_)
                  refine goes_ Tryd.func30 (by kernel_rfl) rfl #[.pointer (some ⟨q, 0, none⟩), .int .i64 x, .int .i64 y] (by rfl) rfl rfl (by (try simp only [List.map_toArray, List.map_cons, List.map_nil]); first | done | rfl) ?_
                  refine (has_walk x y _ HQ.out).mono ?_
                  rintro e w4 ⟨rfl, hw_⟩
                  subst w4
                  refine ⟨_, rfl, ?_⟩
                  rw [show (mayB l2.length x && (mayB l2.length y && atB ed x y)) = true from HHX.out]
                  refine hK.out _ _ (held _ HS.out) (fun hHeld => ?_)
                  clear hK K
                  refine nP (N := some 46) ?_
                  refine done_ (by kernel_rfl) ?_
                  clear held hHeld
                  go_wp2_with (fail)
                  go_ret
                  exact ⟨rfl, below_step HB.out HS.out⟩
                | false =>
                  rw [hhx] at hp
                  have HP := Aside0.mk (show (((l.take (i + 1)).drop (j + 1)).all (fun y => !hasP l2.length ed x y) && ordD l2.length ed l (l.length - (i + 1)) (i + 1)) = R from hp)
                  have HHX := Aside0.mk hhx
                  clear hp hhx
                  go_upto_region 14 with (fail)
                  have held : ∀ w', Below ws.heap.size ws w' → (w'.cell? ⟨gb, 0, none⟩ = some (.int .i64 v) ∧ w'.cell? ⟨gb, 1, none⟩ = some (.slice A1 l1.length c1) ∧ w'.cell? ⟨gb, 2, none⟩ = some (.slice A2 l2.length c2) ∧ w'.cell? (ao.add i) = some (.int .i64 x) ∧ w'.cell? (ao.add j) = some (.int .i64 y)) := fun w' hw => ⟨(fl_cells3 (blk_below BKgb.out hw)).1, (fl_cells3 (blk_below BKgb.out hw)).2.1, (fl_cells3 (blk_below BKgb.out hw)).2.2, by have h_ := l_int (Kd.C_below HA.out hw) (i : Int) (by omega) (by omega); rw [Int.toNat_natCast, HXE.out] at h_; exact h_, by have h_ := l_int (Kd.C_below HA.out hw) (j : Int) (by omega) (by omega); rw [Int.toNat_natCast, HYE.out] at h_; exact h_⟩
                  have hdrew := below_drew1 (Below.refl wr.heap.size wr)
                  have n0_ := Aside0.mk (below_step HS.out hdrew); clear HS; revert n0_; intro HS
                  clear hdrew
                  refine start_ (n := 11) (S := fun w' => (w'.cell? ⟨gb, 0, none⟩ = some (.int .i64 v) ∧ w'.cell? ⟨gb, 1, none⟩ = some (.slice A1 l1.length c1) ∧ w'.cell? ⟨gb, 2, none⟩ = some (.slice A2 l2.length c2) ∧ w'.cell? (ao.add i) = some (.int .i64 x) ∧ w'.cell? (ao.add j) = some (.int .i64 y))) (ds := []) (fm_ 11 0) (by kernel_rfl) rfl rfl (held _ HS.out) (fun hHeld => ?_)
                  generalize wr.drew = wd at HS hHeld ⊢
                  refine fT5 (i := 0) (N := some 36) (fm_ 11 1) ?_
                  refine fP (i := 2) (N := some 38) (fm_ 11 5) ?_
                  refine fP (i := 3) (N := some 39) (fm_ 11 13) ?_
                  refine fP (i := 4) (N := some 40) (fm_ 11 29) ?_
                  refine fT5 (i := 5) (N := some 41) (fm_ 11 61) ?_
                  refine fP (i := 6) (N := some 42) (fm_ 11 125) ?_
                  refine fP (i := 7) (N := some 43) (fm_ 11 253) ?_
                  refine fP (i := 8) (N := some 44) (fm_ 11 509) ?_
                  refine fT5 (i := 9) (N := some 45) (fm_ 11 1021) ?_
                  refine one_ (i := 1) (N := some 37) (fm_ 11 1023) rfl rfl (by kernel_rfl) (by decide) (fun K hK => ?_)
                  refine goes_ Tryd.func28 (by kernel_rfl) rfl #[.agg #[.int .i64 v, .slice A1 l1.length c1, .slice A2 l2.length c2], .int .i64 (-1)] (by rfl) rfl rfl (by (try simp only [List.map_toArray, List.map_cons, List.map_nil]); first | done | rfl) ?_
                  refine (edges_walk v A1 c1 l1 A2 c2 l2 (-1) _ _ (Kd.C_below HR1.out (below_step HB.out HS.out)) HC1.out (Kd.C_below HR2.out (below_step HB.out HS.out)) HC2.out HED.out).mono ?_
                  rintro e w3 ⟨q, rfl, hq, hb⟩
                  refine ⟨_, rfl, ?_⟩
                  have HQ := Aside0.mk hq
                  have n0_ := Aside0.mk (below_step HS.out hb); clear HS; revert n0_; intro HS
                  clear hb hq
                  refine hK.out _ _ (held _ HS.out) (fun hHeld => ?_)
                  clear hK K
                  refine nP (N := some 37) ?_
                  refine one_ (i := 10) (N := some 46) (fm_ 11 2047) rfl rfl (by kernel_rfl) (by decide) (fun K hK => ?_)
                  refine goes_ Tryd.func30 (by kernel_rfl) rfl #[.pointer (some ⟨q, 0, none⟩), .int .i64 x, .int .i64 y] (by rfl) rfl rfl (by (try simp only [List.map_toArray, List.map_cons, List.map_nil]); first | done | rfl) ?_
                  refine (has_walk x y _ HQ.out).mono ?_
                  rintro e w4 ⟨rfl, hw_⟩
                  subst w4
                  refine ⟨_, rfl, ?_⟩
                  rw [show (mayB l2.length x && (mayB l2.length y && atB ed x y)) = false from HHX.out]
                  refine hK.out _ _ (held _ HS.out) (fun hHeld => ?_)
                  clear hK K
                  refine nP (N := some 46) ?_
                  refine done_ (by kernel_rfl) ?_
                  clear held hHeld
                  go_wp2_with (fail)
                  go_roundg (i + 1 - (j + 1))
                  case measure => omega
                  case rel => exact ⟨j + 1, by omega, by omega, by first | rfl | rw [show wrap64 ((j : Int) + 1) = ((j + 1 : Nat) : Int) by unfold wrap64; have hq_ := HLL.out; omega], HP, HS⟩
              · have hjlz : ¬ (j : Int) ≤ (i : Int) := by omega
                have hp := HP.out
                rw [List.drop_eq_nil_of_le (by rw [List.length_take]; omega), List.all_nil, Bool.true_and] at hp
                have hR := Aside0.mk hp
                clear hp
                go_wp2_with (fail)
                go_roundg (l.length - (i + 1))
                case measure => omega
                case rel => exact ⟨i + 1, by omega, by omega, by first | rfl | rw [show wrap64 ((i : Int) + 1) = ((i + 1 : Nat) : Int) by unfold wrap64; have hq_ := HLL.out; omega], hR, HS⟩
          · have hltz : ¬ (i : Int) < (l.length : Int) := by omega
            have hx := hR.out
            rw [show l.length - i = 0 by omega, ordD] at hx
            have hf := HF.out
            rw [← hx, if_pos rfl] at hf
            have HAW := Aside0.mk hf
            have n0_ := Aside0.mk (below_step HB.out HS.out)
            have n1_ := Aside0.mk (blk_below BKgb.out HS.out)
            clear hf hx HB BKgb
            revert n0_ n1_; intro HB BKgb
            obtain ⟨hb0, hb1, hb2⟩ := fl_cells3 BKgb.out
            go_wp2_with (first | (go_at_call 19; refine (spinnakerlaw33_awake.calls k _ _ (HG.out.below (Nat.le_refl _) HB.out) HAW.out).mono ?_; rintro e w1 ⟨rfl, hb⟩; have n0_ := Aside0.mk (below_step HB.out hb); have n1_ := Aside0.mk (blk_below BKgb.out hb); clear HB BKgb; revert n0_ n1_; intro HB BKgb; clear hb hb0 hb1 hb2; obtain ⟨hb0, hb1, hb2⟩ := fl_cells3 BKgb.out))
            go_ret
            exact ⟨rfl, HB.out⟩




open Go.Proofs.YtgenmfbidpmneaaDoor.OpenB
def ok_S38 (y : S38) : Prop := (fun x_ => (Lit.int .i64 x_).wf = true) y.f0 ∧ (fun x_ => (Lit.int .i64 x_).wf = true) y.f1 ∧ (fun x_ => (Lit.int .i64 x_).wf = true) y.f2 ∧ (fun x_ => (Lit.int .i64 x_).wf = true) y.f3 ∧ (fun x_ => (Lit.int .i64 x_).wf = true) y.f4 ∧ (fun x_ => (Lit.int .i64 x_).wf = true) y.f5 ∧ (fun x_ => (Lit.int .i64 x_).wf = true) y.f6 ∧ (fun x_ => (Lit.int .i64 x_).wf = true) y.f7
def ok_S34 (y : S34) : Prop := (fun x_ => (Lit.int .i64 x_).wf = true) y.f0 ∧ (fun x_ => (Lit.int .i64 x_).wf = true) y.f1 ∧ (fun x_ => (Lit.int .i64 x_).wf = true) y.f2 ∧ (fun x_ => (Lit.int .i64 x_).wf = true) y.f3
def ok_S36 (y : S36) : Prop := (okSl ok_S38) y.f0 ∧ ok_S34 y.f1
def ok_S25 (y : S25) : Prop := (fun x_ => (Lit.int .i64 x_).wf = true) y.f0 ∧ (okSl (fun x_ => (Lit.int .i64 x_).wf = true)) y.f1 ∧ (okSl ok_S36) y.f2
def wt_S38 (y : S38) : Nat := (fun _ => 1) y.f0 + ((fun _ => 1) y.f1 + ((fun _ => 1) y.f2 + ((fun _ => 1) y.f3 + ((fun _ => 1) y.f4 + ((fun _ => 1) y.f5 + ((fun _ => 1) y.f6 + ((fun _ => 1) y.f7)))))))
def wt_S34 (y : S34) : Nat := (fun _ => 1) y.f0 + ((fun _ => 1) y.f1 + ((fun _ => 1) y.f2 + ((fun _ => 1) y.f3)))
def wt_S36 (y : S36) : Nat := (wtSl wt_S38) y.f0 + (wt_S34 y.f1)
def wt_S25 (y : S25) : Nat := (fun _ => 1) y.f0 + ((wtSl (fun _ => 1)) y.f1 + ((wtSl wt_S36) y.f2))
/-- THE ONE PURE STATEMENT of spinnakerlaw33_FlowOrders: yours. -/
def spinnakerlaw33_FlowOrders.Pure : Prop := ∀ (a0_0 : Int) (l0_1 : List Int) (l0_2 : List (S36)), ok_S25 (⟨a0_0, l0_1, l0_2⟩ : S25) → wt_S25 (⟨a0_0, l0_1, l0_2⟩ : S25) ≤ 1048576 → ∃ k, spinnakerlaw33_FlowOrders.f k a0_0 l0_1 l0_2 = some true
theorem spinnakerlaw33_FlowOrders.walk (P : spinnakerlaw33_FlowOrders.Pure) (a0_0 : Int) (A0_1 : Option Addr) (c0_1 : Nat) (l0_1 : List Int) (A0_2 : Option Addr) (c0_2 : Nat) (l0_2 : List (S36)) (w : World) (hr0_1 : Kd.C (Kd.int .i64) w A0_1 l0_1.length l0_1) (hc0_1 : l0_1.length ≤ c0_1) (hr0_2 : Kd.C k36 w A0_2 l0_2.length l0_2) (hc0_2 : l0_2.length ≤ c0_2) (ho0 : ok_S25 (⟨a0_0, l0_1, l0_2⟩ : S25)) (hw0 : wt_S25 (⟨a0_0, l0_1, l0_2⟩ : S25) ≤ 1048576) (hG : OpsLaid w) :
    Calls Tryd.prog 7 #[.agg #[.int .i64 a0_0, .slice A0_1 l0_1.length c0_1, .slice A0_2 l0_2.length c0_2]] w fun e w' => e = .returned (.bool true) ∧ Below w.heap.size w w' := by
  obtain ⟨k, h⟩ := P a0_0 l0_1 l0_2 ho0 hw0
  refine (spinnakerlaw33_FlowOrders.calls k a0_0 _ _ l0_1 _ _ l0_2 true w hr0_1 hc0_1 hr0_2 hc0_2 hG h).mono ?_
  rintro e w' ⟨rfl, hd⟩
  exact ⟨rfl, hd⟩

end Go.Proofs.YtgenmfbidpmneaaDoor.PFlowOrders
