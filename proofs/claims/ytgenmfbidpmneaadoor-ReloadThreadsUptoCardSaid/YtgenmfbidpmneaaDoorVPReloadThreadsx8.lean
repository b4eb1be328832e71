-- printed by a program of this session (wip/mp.py: the kit's printer, patched, over the session's own templates); checked by Lean alone
import Derived.Test.YtgenmfbidpmneaaDoorVPReloadThreadsx0
import Derived.Test.YtgenmfbidpmneaaDoorVPReloadThreadsx3
import Derived.Test.YtgenmfbidpmneaaDoorVPReloadThreadsx5
import Derived.Test.YtgenmfbidpmneaaDoorVPReloadThreadsx6
import Derived.Test.YtgenmfbidpmneaaDoorVPReloadThreadsx7
namespace Go.Proofs.YtgenmfbidpmneaaDoor.PReloadThreads
open Go.RowKit Go.Proofs.YtgenmfbidpmneaaDoorW.PrintWords Go.Proofs.YtgenmfbidpmneaaDoorW.PrintLast Go.Proofs.YtgenmfbidpmneaaDoorW.PrintMore
attribute [local go_sem] max2_int min2_int max_two min_two max_three min_three max_four min_four   -- for this text's walks alone
set_option linter.unusedVariables false
set_option linter.unusedSimpArgs false

/-! ### given: reload_Gone.lean -/
-- GIVEN spinnaker/reload.Gone rounds=0 making=1
-- NEEDS spinnaker/reload.Reuse
-- NEEDS spinnaker/ir.Right
-- NEEDS spinnaker/reload.block
-- NEEDS slices.Clone[[]int,int]
-- REG []api.Ins
-- REG []int
-- INFO int
-- IMPORT Derived.Test.YtgenmfbidpmneaaDoorEvalM
theorem g_cells3 {w : World} {g : Nat} {t : TypeId} {x0 x1 x2 : Value} (h : w.heap[g]? = some (.cells #[x0, x1, x2] t (0, 0))) : w.cell? ⟨g, 0, none⟩ = some x0 ∧ w.cell? ⟨g, 1, none⟩ = some x1 ∧ w.cell? ⟨g, 2, none⟩ = some x2 := ⟨(blk_cell h 0).trans rfl, (blk_cell h 1).trans rfl, (blk_cell h 2).trans rfl⟩
theorem g_cells5 {w : World} {g : Nat} {t : TypeId} {x0 x1 x2 x3 x4 : Value} (h : w.heap[g]? = some (.cells #[x0, x1, x2, x3, x4] t (0, 0))) : w.cell? ⟨g, 0, none⟩ = some x0 ∧ w.cell? ⟨g, 1, none⟩ = some x1 ∧ w.cell? ⟨g, 2, none⟩ = some x2 ∧ w.cell? ⟨g, 3, none⟩ = some x3 ∧ w.cell? ⟨g, 4, none⟩ = some x4 := ⟨(blk_cell h 0).trans rfl, (blk_cell h 1).trans rfl, (blk_cell h 2).trans rfl, (blk_cell h 3).trans rfl, (blk_cell h 4).trans rfl⟩
theorem g_cells8 {w : World} {g : Nat} {t : TypeId} {x0 x1 x2 x3 x4 x5 x6 x7 : Value} (h : w.heap[g]? = some (.cells #[x0, x1, x2, x3, x4, x5, x6, x7] t (0, 0))) : w.cell? ⟨g, 0, none⟩ = some x0 ∧ w.cell? ⟨g, 1, none⟩ = some x1 ∧ w.cell? ⟨g, 2, none⟩ = some x2 ∧ w.cell? ⟨g, 3, none⟩ = some x3 ∧ w.cell? ⟨g, 4, none⟩ = some x4 ∧ w.cell? ⟨g, 5, none⟩ = some x5 ∧ w.cell? ⟨g, 6, none⟩ = some x6 ∧ w.cell? ⟨g, 7, none⟩ = some x7 := ⟨(blk_cell h 0).trans rfl, (blk_cell h 1).trans rfl, (blk_cell h 2).trans rfl, (blk_cell h 3).trans rfl, (blk_cell h 4).trans rfl, (blk_cell h 5).trans rfl, (blk_cell h 6).trans rfl, (blk_cell h 7).trans rfl⟩
theorem g_alloc {ops : Array Oper} {rest : List Oper} {o : Oper} {a : Act} {Q : Exit → Act → World → Prop} {W : World} {t : TypeId} {zs : Array Value} (hg : o.guard = none) (hop : o.op = .alloc t)
    (hz : (Instr.alloc t true (.tuple #[])).run Tryd.prog W = .ok (.pointer (some ⟨W.heap.size, 0, none⟩)) (W.alloc (.cells zs t (0, 0))))
    (h : ∀ b, b = W.heap.size → ∀ w1, w1.heap[b]? = some (.cells zs t (0, 0)) → Below W.heap.size W w1 → wpList Tryd.prog ops Q rest (a.put o.dst (.pointer (some ⟨b, 0, none⟩))) w1) : wpList Tryd.prog ops Q (o :: rest) a W :=
  Kd.event_run hg (by simp only [execOp, hop]; simp [hz, Result.andThen]) (h _ rfl _ (blk_new W _) (below_alloc (Below.refl _ _) _))
theorem g_store {ops : Array Oper} {rest : List Oper} {o : Oper} {a : Act} {Q : Exit → Act → World → Prop} {W : World} {t : TypeId} {x v : Operand} {g : Nat} {old cs : Array Value} (hg : o.guard = none) (hop : o.op = .store t x v) (hN : o.dst = none) (hx : a.eval x = .pointer (some ⟨g, 0, none⟩)) (hv : a.eval v = .agg cs)
    (hb : W.heap[g]? = some (.cells old t (0, 0))) (hi : (Tryd.prog.info? t).map (·.size) = some cs.size) (ho : old.size = cs.size) (h1 : cs.all (·.oneCell') = true)
    (h : ∀ w1, w1.heap[g]? = some (.cells cs t (0, 0)) → W.grownBy w1 (some g) → wpList Tryd.prog ops Q rest a w1) : wpList Tryd.prog ops Q (o :: rest) a W := by
  refine wpList_plain hg fun K hK => ?_
  have hrow := run_storeVar_row (P := Tryd.prog) W g t t old cs hb hi ho h1
  have hrun : (execOp a.eval o).run Tryd.prog W = .ok .skip (W.setRow g cs) := by
    simp [execOp, hop, hx, hv, Instr.storeAt, Instr.sureAddr, hrow, Result.andThen]
  unfold Oper.wp
  rw [hrun]
  show K (a.put o.dst undef) _
  rw [hN]
  exact hK _ _ (h _ (setRow_heap W g old cs t (0, 0) hb) ⟨rfl, rfl, rfl, by simp, fun i _ hi2 => setRow_other W g i cs (fun e => hi2 (by rw [e]))⟩)
theorem g_below {n g : Nat} {w W W1 : World} (h : Below n w W) (hg : W.grownBy W1 (some g)) (hn : n ≤ g) (hs : n ≤ W.heap.size) : Below n w W1 :=
  ⟨hg.os.trans h.os, hg.tape.trans h.tape, hg.output.trans h.output, Nat.le_trans h.size hg.size, fun i hi => (hg.block i (Nat.lt_of_lt_of_le hi hs) (fun e => by injection e with e; omega)).trans (h.block i hi)⟩
theorem g_eq (d : Nat) (w : World) (x0 y0 : Int) (x1 y1 : Int) (x2 y2 : Int) (x3 y3 : Int) (x4 y4 : Int) (x5 y5 : Int) (x6 y6 : Int) (x7 y7 : Int) :
    (Op.equalIn (d + 2) 38 (.agg #[.int .i64 x0, .int .i64 x1, .int .i64 x2, .int .i64 x3, .int .i64 x4, .int .i64 x5, .int .i64 x6, .int .i64 x7]) (.agg #[.int .i64 y0, .int .i64 y1, .int .i64 y2, .int .i64 y3, .int .i64 y4, .int .i64 y5, .int .i64 y6, .int .i64 y7])).run Tryd.prog w = .ok (x0 == y0 && (x1 == y1 && (x2 == y2 && (x3 == y3 && (x4 == y4 && (x5 == y5 && (x6 == y6 && (x7 == y7)))))))) w := by
  refine eqA_of Tryd.underlying38 (by kernel_rfl) ?_
  refine eqf_cons (by rfl) (by go_simp; rfl) (by go_simp; rfl) (by go_simp) ?_
  refine eqf_cons (by rfl) (by go_simp; rfl) (by go_simp; rfl) (by go_simp) ?_
  refine eqf_cons (by rfl) (by go_simp; rfl) (by go_simp; rfl) (by go_simp) ?_
  refine eqf_cons (by rfl) (by go_simp; rfl) (by go_simp; rfl) (by go_simp) ?_
  refine eqf_cons (by rfl) (by go_simp; rfl) (by go_simp; rfl) (by go_simp) ?_
  refine eqf_cons (by rfl) (by go_simp; rfl) (by go_simp; rfl) (by go_simp) ?_
  refine eqf_cons (by rfl) (by go_simp; rfl) (by go_simp; rfl) (by go_simp) ?_
  exact eqf_last (by rfl) (by go_simp; rfl) (by go_simp; rfl) (by go_simp)
attribute [local go_sem high] g_eq
theorem g_field (w : World) (q : Int) (A B : Option Addr) (n c m d : Nat) : (Instr.field 25 (.agg #[.int .i64 q, .slice A n c, .slice B m d]) 2).run Tryd.prog w = .ok (.slice B m d) w := by kernel_rfl
attribute [local go_sem high] g_field
/-- Are two instructions one? -/
def insEq (u v : S38) : Bool := (u.f0 == v.f0 && (u.f1 == v.f1 && (u.f2 == v.f2 && (u.f3 == v.f3 && (u.f4 == v.f4 && (u.f5 == v.f5 && (u.f6 == v.f6 && (u.f7 == v.f7))))))))
theorem insEq_iff (u v : S38) : insEq u v = true ↔ u = v := by
  cases u; cases v
  simp [insEq, S38.mk.injEq]
/-- The numbers of the instructions that are others. -/
def goneB : List S38 → List S38 → List Int
  | i :: r, u :: s => cond (insEq u i) (goneB r s) (u.f7 :: goneB r s)
  | _, _ => []
def goneL : List S36 → List S36 → List Int
  | x :: r, y :: s => goneB x.f0 y.f0 ++ goneL r s
  | _, _ => []
theorem g_drop {α : Type} (l : List α) (z : α) (i : Nat) (h : i < l.length) : l.drop i = l.getD i z :: l.drop (i + 1) := by
  rw [List.drop_eq_getElem_cons h]
  simp [h]
/-- Do some blocks fit others? -/
def fits (X l : List S36) : Prop := X.length ≤ l.length ∧ X.length ≤ 4000 ∧ ∀ j, j < X.length → (X.getD j z36).f0.length ≤ (l.getD j z36).f0.length ∧ (X.getD j z36).f0.length ≤ 4294967296
set_option maxRecDepth 100000 in
set_option maxHeartbeats 8000000 in
theorem gone_walk (v : Int) (A1 : Option Addr) (c1 : Nat) (l1 : List Int) (A2 : Option Addr) (c2 : Nat) (l2 X : List (S36)) (w : World) (hr2 : Kd.C k36 w A2 l2.length l2) (hf : fits X l2)
    (hX : ∀ W, Below w.heap.size w W → Calls Tryd.prog 12 #[.agg #[.int .i64 v, .slice A1 l1.length c1, .slice A2 l2.length c2]] W fun e w' => ∃ (q1 : Int) (A3 : Option Addr) (n3 c3 : Nat) (AX : Option Addr) (cX : Nat), e = .returned (.agg #[.int .i64 q1, .slice A3 n3 c3, .slice AX X.length cX]) ∧ Kd.C k36 w' AX X.length X ∧ Below W.heap.size W w') :
    Calls Tryd.prog 13 #[.agg #[.int .i64 v, .slice A1 l1.length c1, .slice A2 l2.length c2]] w fun e w' => ∃ v0_ : Value, e = .returned (v0_) ∧ Kd.R (Kd.int .i64) 3 w' w.heap.size (fun _ => True) v0_ (goneL X l2) ∧ Below w.heap.size w w' := by
  have hu25 := Tryd.underlying25
  have hu38 := Tryd.underlying38
  have hu34 := Tryd.underlying34
  have hu36 := Tryd.underlying36
  obtain ⟨r, hr⟩ : ∃ r, Aside0 (goneL X l2 = r) := ⟨_, ⟨rfl⟩⟩
  rw [hr.out]
  have HR2 := Aside0.mk hr2
  have HFT := Aside0.mk hf
  have HX := Aside0.mk hX
  clear hr2 hf hX
  have HB := Aside0.mk (Below.refl w.heap.size w)
  go_enter Tryd.func13, Tryd.ntmps13
  go_upto_region 2 with (first | ((with_reducible refine gate_dst (N := 1) rfl ?_); refine box_event ?hg (N := 1) ?hd (cs := #[.int .i64 v, .slice A1 l1.length c1, .slice A2 l2.length c2]) (t := 25) ?hr ?_; (case hd => rfl); (case hg => rfl); (case hr => first | (go_simp; done) | (go_simp; rfl)); intro gb hg wb hbox hb; have n0_ := Aside0.mk (below_step (by repeat (first | (with_reducible first | exact HB.out | apply below_alloc | apply pw_below_drewN | apply below_drew1) | exact HB.out)) hb); have BKgb := Aside0.mk hbox; clear HB; have HB := n0_; clear n0_ hb hbox hg))
  obtain ⟨hb0, hb1, hb2⟩ := g_cells3 BKgb.out
  go_wp2_with (first | (go_at_call 12; refine (HX.out _ HB.out).mono ?_; rintro e w1 ⟨q1, A3, n3, c3, AX, cX, rfl, hrow, hb⟩; have n0_ := Aside0.mk (below_step HB.out hb); have n1_ := Aside0.mk (blk_below BKgb.out hb); have HXR := Aside0.mk hrow; have H21 := Aside0.mk (Kd.C_below HR2.out n0_.out); clear HB BKgb hb hrow HR2; revert n0_ n1_; intro HB0 BKgb))
  clear hb0 hb1 hb2 HX
  have HB := Aside0.mk (Below.refl w1.heap.size w1)
  go_loopg [3, 13] X.length (fun gg v3 v13 wr => ∃ (j : Nat) (ids : List Int), j ≤ X.length ∧ X.length - j ≤ gg ∧ v13 = .int .i64 (j : Int) ∧ Aside0 (ids ++ goneL (X.drop j) (l2.drop j) = r) ∧ Aside0 (ids.length ≤ j * 4294967296) ∧ Aside0 (Kd.R (Kd.int .i64) 3 wr w1.heap.size (fun _ => True) v3 ids) ∧ Aside0 (Below w1.heap.size w1 wr))
  case atStart => exact ⟨0, [], Nat.zero_le _, by omega, rfl, ⟨by simpa using hr.out⟩, ⟨Nat.zero_le _⟩, ⟨Kd.R_nil _ _ _ _ _⟩, HB⟩
  case round =>
    clear HB hr
    obtain ⟨j, ids, hj, hgg, rfl, HS, HN, HO, HB⟩ := hrel
    obtain ⟨Av, cv, ev⟩ := Kd.R_slice HO.out
    subst ev
    by_cases hlt : j < X.length
    · have hltz : (j : Int) < (X.length : Int) := by omega
      have hlt2 : (j : Int) < (l2.length : Int) := by have := HFT.out.1; omega
      have HFB := Aside0.mk (HFT.out.2.2 j hlt)
      obtain ⟨adx, Ax, cx, rfl, hx0, hx1, hx2, hx3, hx4, hxl, hxi⟩ := at_T36 HXR.out (j : Int) (by omega) hltz
      obtain ⟨ady, Ay, cy, rfl, hz0, hz1, hz2, hz3, hz4, hzl, hzi⟩ := at_T36 H21.out (j : Int) (by omega) hlt2
      rw [show rd_T36 X (j : Int) = X.getD j z36 by simp [rd_T36]] at hx0 hx1 hx2 hx3 hx4 hxl hxi
      rw [show rd_T36 l2 (j : Int) = l2.getD j z36 by simp [rd_T36]] at hz0 hz1 hz2 hz3 hz4 hzl hzi
      have hd1 := g_drop X z36 j hlt
      have hd2 := g_drop l2 z36 j (by omega)
      have hs := HS.out
      rw [hd1, hd2, goneL] at hs
      clear HS hd1 hd2
      generalize X.getD j z36 = x at hx0 hx1 hx2 hx3 hx4 hxl hxi hs HFB
      generalize l2.getD j z36 = y at hz0 hz1 hz2 hz3 hz4 hzl hzi hs HFB
      rw [Int.toNat_natCast] at hx0 hx1 hx2 hx3 hx4 hz0
      have HS := Aside0.mk hs
      have HXI := Aside0.mk hxi
      have HZI := Aside0.mk hzi
      have HZ0 := Aside0.mk hz0
      clear hs hxi hzi hz0 hz1 hz2 hz3 hz4 hxl hzl
      replace hx0 := (HB.out.cell (World.block_lt_of_cell? w1 _ hx0)).trans hx0
      replace hx1 := (HB.out.cell (World.block_lt_of_cell? w1 _ hx1)).trans hx1
      replace hx2 := (HB.out.cell (World.block_lt_of_cell? w1 _ hx2)).trans hx2
      replace hx3 := (HB.out.cell (World.block_lt_of_cell? w1 _ hx3)).trans hx3
      replace hx4 := (HB.out.cell (World.block_lt_of_cell? w1 _ hx4)).trans hx4
      go_upto_region 5 with (first | ((with_reducible refine gate_dst (N := 5) rfl ?_); refine g_alloc rfl (t := 36) (zs := #[.slice none 0 0, .int .i64 0, .int .i64 0, .int .i64 0, .int .i64 0]) rfl (by kernel_rfl) ?_; intro gx hgx wb hnew hb; have BKgx := Aside0.mk hnew; have Ggx := Aside0.mk (show w1.heap.size ≤ gx by rw [hgx]; exact below_size (by repeat (first | (with_reducible first | exact HB.out | apply below_alloc | apply pw_below_drewN | apply below_drew1) | exact HB.out))); have NOgx := Aside0.mk (show some gx ≠ (Value.slice Av ids.length cv).ownBlock by rw [hgx]; exact Kd.fresh' (Kd.R_lt HO.out) _ (Nat.le_refl _)); have n0_ := Aside0.mk (below_step (by repeat (first | (with_reducible first | exact HB.out | apply below_alloc | apply pw_below_drewN | apply below_drew1) | exact HB.out)) hb); have n1_ := Aside0.mk (Kd.R_below HO.out hb); clear HB HO; revert n0_ n1_; intro HB HO; clear hnew hgx hb) | ((with_reducible refine gate_store (t := 36) (p := 5) rfl ?_); refine g_store rfl (t := 36) rfl rfl rfl rfl BKgx.out (by kernel_rfl) rfl (by first | (simp; done) | (simp [Value.oneCell']; done) | (simp; rfl)) ?_; intro wb hnew hgr; have n0_ := Aside0.mk (g_below HB.out hgr Ggx.out HB.out.size); have n1_ := Aside0.mk (Kd.R_grown1 HO.out rfl hgr NOgx.out); have n2_ := Aside0.mk (hnew); clear HB HO BKgx; revert n0_ n1_ n2_; intro HB HO BKgx; clear hnew hgr))
      clear hx0 hx1 hx2 hx3 hx4
      obtain ⟨hb0, hb1, hb2, hb3, hb4⟩ := g_cells5 BKgx.out
      go_wp2
      clear hb0 hb1 hb2 hb3 hb4 BKgx NOgx Ggx
      go_loopg [3, 21] x.f0.length (fun gg v3 v21 wr => ∃ (m : Nat) (ids' : List Int), m ≤ x.f0.length ∧ x.f0.length - m ≤ gg ∧ v21 = .int .i64 (m : Int) ∧ Aside0 (ids' ++ (goneB (x.f0.drop m) (y.f0.drop m) ++ goneL (X.drop (j + 1)) (l2.drop (j + 1))) = r) ∧ Aside0 (ids'.length ≤ j * 4294967296 + m) ∧ Aside0 (Kd.R (Kd.int .i64) 3 wr w1.heap.size (fun _ => True) v3 ids') ∧ Aside0 (Below w1.heap.size w1 wr))
      case atStart => exact ⟨0, ids, Nat.zero_le _, by omega, rfl, ⟨by simpa using HS.out⟩, ⟨Nat.le_trans HN.out (Nat.le_add_right _ _)⟩, HO, HB⟩
      case round =>
        clear HB HS HN HO
        obtain ⟨m, ids', hm, hgm, rfl, HS, HN, HO, HB⟩ := hrel
        clear Av cv
        obtain ⟨Av, cv, ev⟩ := Kd.R_slice HO.out
        subst ev
        by_cases hlm : m < x.f0.length
        · have hlmz : (m : Int) < (x.f0.length : Int) := by omega
          have hlm2 : (m : Int) < (y.f0.length : Int) := by have := HFB.out.1; omega
          obtain ⟨adi, rfl, hy0, hy1, hy2, hy3, hy4, hy5, hy6, hy7⟩ := at_T38 HXI.out (m : Int) (by omega) hlmz
          obtain ⟨adu, rfl, hu0, hu1, hu2, hu3, hu4, hu5, hu6, hu7⟩ := at_T38 HZI.out (m : Int) (by omega) hlm2
          rw [show rd_T38 x.f0 (m : Int) = x.f0.getD m z38 by simp [rd_T38]] at hy0 hy1 hy2 hy3 hy4 hy5 hy6 hy7
          rw [show rd_T38 y.f0 (m : Int) = y.f0.getD m z38 by simp [rd_T38]] at hu0 hu1 hu2 hu3 hu4 hu5 hu6 hu7
          have hd1 := g_drop x.f0 z38 m hlm
          have hd2 := g_drop y.f0 z38 m (by omega)
          have hs := HS.out
          rw [hd1, hd2, goneB] at hs
          clear HS hd1 hd2
          generalize x.f0.getD m z38 = i at hy0 hy1 hy2 hy3 hy4 hy5 hy6 hy7 hs
          generalize y.f0.getD m z38 = u at hu0 hu1 hu2 hu3 hu4 hu5 hu6 hu7 hs
          rw [Int.toNat_natCast] at hy0 hy1 hy2 hy3 hy4 hy5 hy6 hy7 hu0 hu1 hu2 hu3 hu4 hu5 hu6 hu7
          have HS := Aside0.mk hs
          clear hs
          replace hy0 := (HB.out.cell (World.block_lt_of_cell? w1 _ hy0)).trans hy0
          replace hy1 := (HB.out.cell (World.block_lt_of_cell? w1 _ hy1)).trans hy1
          replace hy2 := (HB.out.cell (World.block_lt_of_cell? w1 _ hy2)).trans hy2
          replace hy3 := (HB.out.cell (World.block_lt_of_cell? w1 _ hy3)).trans hy3
          replace hy4 := (HB.out.cell (World.block_lt_of_cell? w1 _ hy4)).trans hy4
          replace hy5 := (HB.out.cell (World.block_lt_of_cell? w1 _ hy5)).trans hy5
          replace hy6 := (HB.out.cell (World.block_lt_of_cell? w1 _ hy6)).trans hy6
          replace hy7 := (HB.out.cell (World.block_lt_of_cell? w1 _ hy7)).trans hy7
          have HU0 := Aside0.mk hu0
          have HU1 := Aside0.mk hu1
          have HU2 := Aside0.mk hu2
          have HU3 := Aside0.mk hu3
          have HU4 := Aside0.mk hu4
          have HU5 := Aside0.mk hu5
          have HU6 := Aside0.mk hu6
          have HU7 := Aside0.mk hu7
          clear hu0 hu1 hu2 hu3 hu4 hu5 hu6 hu7
          go_upto_region 8 with (first | ((with_reducible refine gate_dst (N := 7) rfl ?_); refine g_alloc rfl (t := 38) (zs := #[.int .i64 0, .int .i64 0, .int .i64 0, .int .i64 0, .int .i64 0, .int .i64 0, .int .i64 0, .int .i64 0]) rfl (by kernel_rfl) ?_; intro g7 hg7 wb hnew hb; have BKg7 := Aside0.mk hnew; have Gg7 := Aside0.mk (show w1.heap.size ≤ g7 by rw [hg7]; exact below_size (by repeat (first | (with_reducible first | exact HB.out | apply below_alloc | apply pw_below_drewN | apply below_drew1) | exact HB.out))); have NOg7 := Aside0.mk (show some g7 ≠ (Value.slice Av ids'.length cv).ownBlock by rw [hg7]; exact Kd.fresh' (Kd.R_lt HO.out) _ (Nat.le_refl _)); have n0_ := Aside0.mk (below_step (by repeat (first | (with_reducible first | exact HB.out | apply below_alloc | apply pw_below_drewN | apply below_drew1) | exact HB.out)) hb); have n1_ := Aside0.mk (Kd.R_below HO.out hb); clear HB HO; revert n0_ n1_; intro HB HO; clear hnew hg7 hb) | ((with_reducible refine gate_store (t := 38) (p := 7) rfl ?_); refine g_store rfl (t := 38) rfl rfl rfl rfl BKg7.out (by kernel_rfl) rfl (by first | (simp; done) | (simp [Value.oneCell']; done) | (simp; rfl)) ?_; intro wb hnew hgr; have n0_ := Aside0.mk (g_below HB.out hgr Gg7.out HB.out.size); have n1_ := Aside0.mk (Kd.R_grown1 HO.out rfl hgr NOg7.out); have n2_ := Aside0.mk (hnew); clear HB HO BKg7; revert n0_ n1_ n2_; intro HB HO BKg7; clear hnew hgr))
          clear hy0 hy1 hy2 hy3 hy4 hy5 hy6 hy7
          obtain ⟨ht0, ht1, ht2⟩ := g_cells3 (blk_below BKgb.out HB.out)
          have hz0 := (HB.out.cell (World.block_lt_of_cell? w1 _ HZ0.out)).trans HZ0.out
          have hu0 := (HB.out.cell (World.block_lt_of_cell? w1 _ HU0.out)).trans HU0.out
          have hu1 := (HB.out.cell (World.block_lt_of_cell? w1 _ HU1.out)).trans HU1.out
          have hu2 := (HB.out.cell (World.block_lt_of_cell? w1 _ HU2.out)).trans HU2.out
          have hu3 := (HB.out.cell (World.block_lt_of_cell? w1 _ HU3.out)).trans HU3.out
          have hu4 := (HB.out.cell (World.block_lt_of_cell? w1 _ HU4.out)).trans HU4.out
          have hu5 := (HB.out.cell (World.block_lt_of_cell? w1 _ HU5.out)).trans HU5.out
          have hu6 := (HB.out.cell (World.block_lt_of_cell? w1 _ HU6.out)).trans HU6.out
          have hu7 := (HB.out.cell (World.block_lt_of_cell? w1 _ HU7.out)).trans HU7.out
          go_upto_region 9 with (first | ((with_reducible refine gate_dst (N := 8) rfl ?_); refine g_alloc rfl (t := 38) (zs := #[.int .i64 0, .int .i64 0, .int .i64 0, .int .i64 0, .int .i64 0, .int .i64 0, .int .i64 0, .int .i64 0]) rfl (by kernel_rfl) ?_; intro g8 hg8 wb hnew hb; have BKg8 := Aside0.mk hnew; have Gg8 := Aside0.mk (show w1.heap.size ≤ g8 by rw [hg8]; exact below_size (by repeat (first | (with_reducible first | exact HB.out | apply below_alloc | apply pw_below_drewN | apply below_drew1) | exact HB.out))); have NOg8 := Aside0.mk (show some g8 ≠ (Value.slice Av ids'.length cv).ownBlock by rw [hg8]; exact Kd.fresh' (Kd.R_lt HO.out) _ (Nat.le_refl _)); have NEg8g7 := Aside0.mk (show g8 ≠ g7 by rw [hg8]; exact Nat.ne_of_gt (blk_lt BKg7.out)); have n0_ := Aside0.mk (below_step (by repeat (first | (with_reducible first | exact HB.out | apply below_alloc | apply pw_below_drewN | apply below_drew1) | exact HB.out)) hb); have n1_ := Aside0.mk (blk_below BKg7.out hb); have n2_ := Aside0.mk (Kd.R_below HO.out hb); clear HB BKg7 HO; revert n0_ n1_ n2_; intro HB BKg7 HO; clear hnew hg8 hb) | ((with_reducible refine gate_store (t := 38) (p := 8) rfl ?_); refine g_store rfl (t := 38) rfl rfl rfl rfl BKg8.out (by kernel_rfl) rfl (by first | (simp; done) | (simp [Value.oneCell']; done) | (simp; rfl)) ?_; intro wb hnew hgr; have n0_ := Aside0.mk (g_below HB.out hgr Gg8.out HB.out.size); have n1_ := Aside0.mk (blk_grown BKg7.out hgr (fun e => by injection e with e; exact NEg8g7.out e.symm)); have n2_ := Aside0.mk (Kd.R_grown1 HO.out rfl hgr NOg8.out); have n3_ := Aside0.mk (hnew); clear HB BKg7 HO BKg8; revert n0_ n1_ n2_ n3_; intro HB BKg7 HO BKg8; clear hnew hgr))
          clear ht0 ht1 ht2 hz0 hu0 hu1 hu2 hu3 hu4 hu5 hu6 hu7 HU0 HU1 HU2 HU3 HU4 HU5 HU6 HU7
          obtain ⟨hi0, hi1, hi2, hi3, hi4, hi5, hi6, hi7⟩ := g_cells8 BKg7.out
          obtain ⟨hv0, hv1, hv2, hv3, hv4, hv5, hv6, hv7⟩ := g_cells8 BKg8.out
          have hs := HS.out
          clear HS
          unfold insEq at hs
          cases hE : (u.f0 == i.f0 && (u.f1 == i.f1 && (u.f2 == i.f2 && (u.f3 == i.f3 && (u.f4 == i.f4 && (u.f5 == i.f5 && (u.f6 == i.f6 && (u.f7 == i.f7)))))))) with
          | true =>
            rw [hE] at hs
            have HS := Aside0.mk hs
            clear hs
            go_wp2
            go_roundg (x.f0.length - (m + 1))
            case measure => omega
            case rel => exact ⟨m + 1, ids', by omega, by omega, by rw [show wrap64 ((m : Int) + 1) = ((m + 1 : Nat) : Int) by unfold wrap64; have := HFB.out.2; omega], HS, ⟨Nat.le_succ_of_le HN.out⟩, HO, HB⟩
          | false =>
            rw [hE] at hs
            have HS : Aside0 ((ids' ++ [u.f7]) ++ (goneB (x.f0.drop (m + 1)) (y.f0.drop (m + 1)) ++ goneL (X.drop (j + 1)) (l2.drop (j + 1))) = r) := ⟨by rw [← hs]; simp⟩
            clear hs
            go_wp2_with (first | ((with_reducible refine gate_builtin (b := .append) (xs := #[.tmp 38, .tmp 41]) rfl ?_); (try (refine gate_guard (by rfl) ?_; dsimp only)); at_builtin; refine Kd.R_append (Kd.int .i64) (w0 := w1) w1.heap.size rfl (.tmp 38) (.tmp 41) 22 3 (.int .i64 0) 8 rfl Tryd.underlying22 info3 rfl (by decide) (by omega) (.slice Av ids'.length cv) ids' u.f7 [.int .i64 u.f7] (fun _ => True) (fun _ => False) rfl rfl ?aP (fun _ hk => hk.elim) ?aF ?aO ?aB ?aS ?aL ?_; (case aP => exact rfl); (case aB => exact HB.out); (case aF => exact (fun _ _ => trivial)); (case aO => exact HO.out); (case aS => exact (below_size HB.out)); (case aL => have h1 := HN.out; have h2 := HFB.out; have h3 := HFT.out.2.1; have h5 : j * 4294967296 ≤ 3999 * 4294967296 := Nat.mul_le_mul_right _ (by omega); omega); intro v42 wb ho hb hg hat; have n2_ := Aside0.mk hb; have n3_ := Aside0.mk ho; clear HB HO BKg7 BKg8; have HB := n2_; have HO := n3_; clear n2_ n3_ ho hb hg hat))
            go_roundg (x.f0.length - (m + 1))
            case measure => omega
            case rel => exact ⟨m + 1, ids' ++ [u.f7], by omega, by omega, by rw [show wrap64 ((m : Int) + 1) = ((m + 1 : Nat) : Int) by unfold wrap64; have := HFB.out.2; omega], HS, ⟨by rw [List.length_append]; exact Nat.succ_le_succ HN.out⟩, HO, HB⟩
        · have hm2 : m = x.f0.length := by omega
          have hlmz : ¬ (m : Int) < (x.f0.length : Int) := by omega
          have hs := HS.out
          rw [hm2, List.drop_length, show ∀ s, goneB [] s = [] from fun _ => rfl, List.nil_append] at hs
          clear HS
          have HS := Aside0.mk hs
          clear hs
          go_wp2
          go_roundg (X.length - (j + 1))
          case measure => omega
          case rel => exact ⟨j + 1, ids', by omega, by omega, by rw [show wrap64 ((j : Int) + 1) = ((j + 1 : Nat) : Int) by unfold wrap64; have := HFT.out.2.1; omega], HS, ⟨by have h1 := HN.out; have h2 := HFB.out.2; rw [Nat.succ_mul]; omega⟩, HO, HB⟩
    · have hj2 : j = X.length := by omega
      have hltz : ¬ (j : Int) < (X.length : Int) := by omega
      have hs := HS.out
      rw [hj2, List.drop_length, show ∀ s, goneL [] s = [] from fun _ => rfl, List.append_nil] at hs
      subst hs
      clear HS
      go_wp2
      go_ret
      exact ⟨_, rfl, Kd.R_lower HO.out (below_size HB0.out), below_step HB0.out HB.out⟩
/-- What becomes of a block. -/
def reB (b : S36) : S36 := ⟨stL (fun _ => none) b.f0, b.f1⟩
/-- Are its sizes and its numbers such as Go holds? -/
def okT (l1 : List Int) (l2 : List S36) : Prop := l1.length < 17592186044416 ∧ l2.length ≤ 4000 ∧ okIds l2 ∧ ∀ b ∈ l2, okB b.f0
instance (l1 : List Int) (l2 : List S36) : Decidable (okT l1 l2) := by unfold okT; exact inferInstance
theorem reuse_l0 (l : List S36) (v : Int) (k : List Int) (h4 : l.length ≤ 4000) (hb : ∀ b ∈ l, okB b.f0) : ∀ (d j : Nat) (acc : List S36), j + d = l.length → acc.length = j → reload_Reuse.l0 (d + 1) l (l.length : Int) (j : Int) v k acc = some (v, k, acc ++ (l.drop j).map reB) := by
  intro d
  induction d with
  | zero =>
    intro j acc hj ha
    have hj2 : j = l.length := by omega
    subst hj2
    rw [reload_Reuse.l0, if_neg (by omega), List.drop_length]
    simp
  | succ d ih =>
    intro j acc hj ha
    have hlt : j < l.length := by omega
    rw [reload_Reuse.l0, if_pos (by omega), if_pos (by omega), if_pos (by omega), show rd_T36 l (j : Int) = l.getD j z36 by simp [rd_T36]]
    have hok : okB (l.getD j z36).f0 := hb _ (by simp [hlt])
    rw [reload_block.f, if_pos hok, Option.bind_some, if_pos (by omega), show wrap64 ((j : Int) + 1) = ((j + 1 : Nat) : Int) by unfold wrap64; omega]
    refine (ih (j + 1) _ (by omega) (by simp [ha])).trans ?_
    rw [g_drop l z36 j hlt]
    simp [reB]
theorem reuse_f (v : Int) (k : List Int) (l : List S36) (h : okT k l) (hr : rightB v k l 200 = true) : reload_Reuse.f (l.length + 1) v k l = some (v, k, l.map reB) := by
  rw [reload_Reuse.f, ir_Right.f, if_pos h.2.2.1, Option.bind_some, hr, if_pos rfl, slices_Clone_int_int.f, if_pos h.1, Option.bind_some]
  exact reuse_l0 l v k h.2.1 h.2.2.2 l.length 0 [] (by omega) rfl
theorem reuse_nf (v : Int) (k : List Int) (l : List S36) (h : okT k l) (hr : rightB v k l 200 = false) : reload_Reuse.f 0 v k l = some (v, k, l) := by
  rw [reload_Reuse.f, ir_Right.f, if_pos h.2.2.1, Option.bind_some, hr, if_neg (by decide)]
theorem stL_len : ∀ (l : List S38) (g : Int → Option Int), (stL g l).length = l.length
  | [], _ => rfl
  | i :: r, g => by simp [stL, stL_len r]
theorem fits_re (l : List S36) (h4 : l.length ≤ 4000) (hb : ∀ b ∈ l, okB b.f0) : fits (l.map reB) l := by
  refine ⟨by simp, by simpa using h4, fun j hj => ?_⟩
  rw [List.length_map] at hj
  have e : ((l.map reB).getD j z36).f0.length = (l.getD j z36).f0.length := by simp [hj, reB, stL_len]
  rw [e]
  exact ⟨Nat.le_refl _, (hb _ (by simp [hj])).1⟩
theorem fits_self (l : List S36) (h4 : l.length ≤ 4000) (hb : ∀ b ∈ l, okB b.f0) : fits l l :=
  ⟨Nat.le_refl _, h4, fun j hj => ⟨Nat.le_refl _, (hb _ (by simp [hj])).1⟩⟩
theorem goneB_self : ∀ l : List S38, goneB l l = []
  | [] => rfl
  | i :: r => by rw [goneB, (insEq_iff i i).2 rfl, goneB_self r]; rfl
theorem goneL_self : ∀ l : List S36, goneL l l = []
  | [] => rfl
  | b :: r => by rw [goneL, goneB_self, goneL_self r]; rfl
def reload_Gone.f (v : Int) (k : List Int) (l : List (S36)) : Option (List Int) := if okT k l then some (cond (rightB v k l 200) (goneL (l.map reB) l) []) else none
theorem reload_Gone.calls (a0_0 : Int) (A0_1 : Option Addr) (c0_1 : Nat) (l0_1 : List Int) (A0_2 : Option Addr) (c0_2 : Nat) (l0_2 : List (S36)) (r : List Int) (w : World) (hr0_1 : Kd.C (Kd.int .i64) w A0_1 l0_1.length l0_1) (hc0_1 : l0_1.length ≤ c0_1) (hr0_2 : Kd.C k36 w A0_2 l0_2.length l0_2) (hc0_2 : l0_2.length ≤ c0_2) (hG : OpsLaid w) (h : reload_Gone.f a0_0 l0_1 l0_2 = some r) :
    Calls Tryd.prog 13 #[.agg #[.int .i64 a0_0, .slice A0_1 l0_1.length c0_1, .slice A0_2 l0_2.length c0_2]] w fun e w' => ∃ v0_ : Value, e = .returned (v0_) ∧ Kd.R (Kd.int .i64) 3 w' w.heap.size (fun _ => True) v0_ r ∧ Below w.heap.size w w' := by
  have hok : okT l0_1 l0_2 := by
    unfold reload_Gone.f at h
    by_cases e : okT l0_1 l0_2
    · exact e
    · rw [if_neg e] at h; cases h
  unfold reload_Gone.f at h
  rw [if_pos hok] at h
  injection h with h
  cases hrt : rightB a0_0 l0_1 l0_2 200 with
  | true =>
    rw [hrt] at h
    subst h
    refine gone_walk a0_0 A0_1 c0_1 l0_1 A0_2 c0_2 l0_2 (l0_2.map reB) w hr0_2 (fits_re l0_2 hok.2.1 hok.2.2.2) (fun W hW => ?_)
    refine (reload_Reuse.calls _ _ (fun k_ => k_ < W.heap.size) _ _ l0_1 (fun k_ => k_ < W.heap.size) _ _ l0_2 _ _ _ W (Kd.V_mk hc0_1 (Kd.C_F (Kd.heap_int .i64) (Kd.C_below hr0_1 hW))) (Kd.V_mk hc0_2 (Kd.C_F k36_heap (Kd.C_below hr0_2 hW))) (hG.below (Nat.le_refl _) hW) (reuse_f _ _ _ hok hrt)).mono ?_
    rintro e w' ⟨v1, v2, rfl, h1, h2, hb⟩
    obtain ⟨A3, c3, rfl⟩ := Kd.V_slice h1
    obtain ⟨AX, cX, rfl⟩ := Kd.V_slice h2
    exact ⟨_, _, _, _, _, _, rfl, (Kd.V_reads' h2).2.2, hb⟩
  | false =>
    rw [hrt] at h
    subst h
    have key := gone_walk a0_0 A0_1 c0_1 l0_1 A0_2 c0_2 l0_2 l0_2 w hr0_2 (fits_self l0_2 hok.2.1 hok.2.2.2) (fun W hW => by
      refine (reload_Reuse.calls 0 _ (fun k_ => k_ < W.heap.size) _ _ l0_1 (fun k_ => k_ < W.heap.size) _ _ l0_2 _ _ _ W (Kd.V_mk hc0_1 (Kd.C_F (Kd.heap_int .i64) (Kd.C_below hr0_1 hW))) (Kd.V_mk hc0_2 (Kd.C_F k36_heap (Kd.C_below hr0_2 hW))) (hG.below (Nat.le_refl _) hW) (reuse_nf _ _ _ hok hrt)).mono ?_
      rintro e w' ⟨v1, v2, rfl, h1, h2, hb⟩
      obtain ⟨A3, c3, rfl⟩ := Kd.V_slice h1
      obtain ⟨AX, cX, rfl⟩ := Kd.V_slice h2
      exact ⟨_, _, _, _, _, _, rfl, (Kd.V_reads' h2).2.2, hb⟩)
    rw [goneL_self] at key
    exact key


/-! ### spinnakerlaw37_awake: function 14 -/
def spinnakerlaw37_awake.f (k : Nat)  : Option (Bool) := (reload_Gone.f 2 ([] : List Int) (([(⟨(([(⟨6, 0, 0, 0, 0, 0, 0, 1⟩ : S38), (⟨6, 1, 0, 0, 0, 0, 0, 2⟩ : S38)] : List (S38))), (⟨3, 0, 0, 0⟩ : S34)⟩ : S36)] : List (S36)))).bind fun t164 => ((spinnakerref01_Ints.f k t164 (([2] : List Int))).bind fun t170 => (some t170))
theorem spinnakerlaw37_awake.mono : ∀ k, LeO (spinnakerlaw37_awake.f k ) (spinnakerlaw37_awake.f (k + 1) ) := by
  intro  k
  unfold spinnakerlaw37_awake.f
  repeat' first
      | (with_reducible exact spinnakerref01_Ints.mono _ _ _)
      | (with_reducible exact LeO.refl _)
      | (with_reducible exact LeO.none _)
      | (with_reducible refine LeO.ite ?_ ?_)
      | (with_reducible refine LeO.bind ?_ (fun _ => ?_))
      | exact spinnakerref01_Ints.mono _ _ _
      | exact LeO.none _
      | refine LeO.ite ?_ ?_
      | refine LeO.bind ?_ (fun _ => ?_)
set_option maxHeartbeats 8000000 in
set_option maxRecDepth 100000 in
theorem spinnakerlaw37_awake.calls (k : Nat)  (r : Bool) (w : World) (hG : OpsLaid w) (h : spinnakerlaw37_awake.f k  = some r) :
    Calls Tryd.prog 14 #[] w fun e w' => e = .returned (.bool r) ∧ Below w.heap.size w w' := by
  have hu38 := Tryd.underlying38
  have hu34 := Tryd.underlying34
  have hu36 := Tryd.underlying36
  have hu25 := Tryd.underlying25
  have HG := Aside0.mk hG
  clear hG
  have HB := Aside0.mk (Below.refl w.heap.size w)
  have H : ((reload_Gone.f 2 ([] : List Int) (([(⟨(([(⟨6, 0, 0, 0, 0, 0, 0, 1⟩ : S38), (⟨6, 1, 0, 0, 0, 0, 0, 2⟩ : S38)] : List (S38))), (⟨3, 0, 0, 0⟩ : S34)⟩ : S36)] : List (S36)))).bind fun t164 => ((spinnakerref01_Ints.f k t164 (([2] : List Int))).bind fun t170 => (some t170))) = some r := h
  clear h
  obtain ⟨y157, hy157⟩ : ∃ y_ : List (S38), y_ = (([(⟨6, 0, 0, 0, 0, 0, 0, 1⟩ : S38), (⟨6, 1, 0, 0, 0, 0, 0, 2⟩ : S38)] : List (S38))) := ⟨_, rfl⟩
  replace H : ((reload_Gone.f 2 ([] : List Int) (([(⟨y157, (⟨3, 0, 0, 0⟩ : S34)⟩ : S36)] : List (S36)))).bind fun t164 => ((spinnakerref01_Ints.f k t164 (([2] : List Int))).bind fun t170 => (some t170))) = some r := by first | (rw [hy157]; with_reducible exact H) | (have H2_ := (Option.bind_some _ _).symm.trans H; rw [hy157]; with_reducible exact H2_) | (have H2_ := (Option.bind_some _ _).symm.trans H; with_reducible exact H2_) | with_reducible exact H | (rw [hy157]; exact H) | exact H
  have Ny157 := Aside0.mk hy157
  clear hy157
  obtain ⟨y160, hy160⟩ : ∃ y_ : List (S36), y_ = (([(⟨y157, (⟨3, 0, 0, 0⟩ : S34)⟩ : S36)] : List (S36))) := ⟨_, rfl⟩
  replace H : ((reload_Gone.f 2 ([] : List Int) y160).bind fun t164 => ((spinnakerref01_Ints.f k t164 (([2] : List Int))).bind fun t170 => (some t170))) = some r := by first | (rw [hy160]; with_reducible exact H) | (have H2_ := (Option.bind_some _ _).symm.trans H; rw [hy160]; with_reducible exact H2_) | (have H2_ := (Option.bind_some _ _).symm.trans H; with_reducible exact H2_) | with_reducible exact H | (rw [hy160]; exact H) | exact H
  have Ny160 := Aside0.mk hy160
  clear hy160
  replace H := Option.bind_eq_some_iff.mp H
  obtain ⟨t164, A10, H⟩ := H
  replace H : ((spinnakerref01_Ints.f k t164 (([2] : List Int))).bind fun t170 => (some t170)) = some r := H
  have A1 := Aside0.mk A10
  clear A10
  obtain ⟨y167, hy167⟩ : ∃ y_ : List Int, y_ = (([2] : List Int)) := ⟨_, rfl⟩
  replace H : ((spinnakerref01_Ints.f k t164 y167).bind fun t170 => (some t170)) = some r := by first | (rw [hy167]; with_reducible exact H) | (have H2_ := (Option.bind_some _ _).symm.trans H; rw [hy167]; with_reducible exact H2_) | (have H2_ := (Option.bind_some _ _).symm.trans H; with_reducible exact H2_) | with_reducible exact H | (rw [hy167]; exact H) | exact H
  have Ny167 := Aside0.mk hy167
  clear hy167
  replace H := Option.bind_eq_some_iff.mp H
  obtain ⟨t170, A20, H⟩ := H
  replace H : (some t170) = some r := H
  have A2 := Aside0.mk A20
  clear A20
  obtain rfl := Option.some.inj H
  go_enter Tryd.func14, Tryd.ntmps14
  go_wp2_with (first | ((with_reducible refine gate_dst (N := 4) rfl ?_); refine Kd.R_lit k38 _ 38 ?hg (N := 4) ?hd (xs := ([(⟨6, 0, 0, 0, 0, 0, 0, 1⟩ : S38), (⟨6, 1, 0, 0, 0, 0, 0, 2⟩ : S38)] : List (S38))) (inner := [.int .i64 6, .int .i64 0, .int .i64 0, .int .i64 0, .int .i64 0, .int .i64 0, .int .i64 0, .int .i64 1, .int .i64 6, .int .i64 1, .int .i64 0, .int .i64 0, .int .i64 0, .int .i64 0, .int .i64 0, .int .i64 2]) (ok := fun _ => True) (okp := fun _ => True) ?hr ?hp (fun _ hk => hk) trivial (Below.refl _ _) (Nat.le_refl _) (by simp) ?_; (case hd => rfl); (case hg => rfl); (case hr => first | (go_simp; done) | (go_simp; rfl)); (case hp => exact (Reps.c8 (show Kd.M k38 _ _ _ (⟨6, 0, 0, 0, 0, 0, 0, 1⟩ : S38) [.int .i64 6, .int .i64 0, .int .i64 0, .int .i64 0, .int .i64 0, .int .i64 0, .int .i64 0, .int .i64 1] from (k38_mkM _ _ _ (⟨6, 0, 0, 0, 0, 0, 0, 1⟩ : S38) )) (Reps.c8 (show Kd.M k38 _ _ _ (⟨6, 1, 0, 0, 0, 0, 0, 2⟩ : S38) [.int .i64 6, .int .i64 1, .int .i64 0, .int .i64 0, .int .i64 0, .int .i64 0, .int .i64 0, .int .i64 2] from (k38_mkM _ _ _ (⟨6, 1, 0, 0, 0, 0, 0, 2⟩ : S38) )) (Reps.none _ _)))); intro v158 w3 ho4 hb hg_ hnew_; clear hg_ hnew_; (first | rw [← Ny157.out] at ho4 | (simp only [Int.reduceToNat] at ho4; rw [← Ny157.out] at ho4)); have n0_ := Aside0.mk (Kd.R_lower ho4 (below_size (by repeat (first | (with_reducible first | exact HB.out | apply below_alloc | apply pw_below_drewN | apply below_drew1) | exact HB.out)))); have n1_ := Aside0.mk (below_step (by repeat (first | (with_reducible first | exact HB.out | apply below_alloc | apply pw_below_drewN | apply below_drew1) | exact HB.out)) hb); clear HB; have HO159 := n0_; have HB := n1_; clear n0_ n1_; clear hb ho4; obtain ⟨Ao5, co5, eo5⟩ := Kd.R_slice HO159.out; subst eo5) | ((with_reducible refine gate_dst (N := 7) rfl ?_); refine Kd.N_lit k36 _ 36 ?hg (N' := 7) ?hd (xs := ([(⟨y157, (⟨3, 0, 0, 0⟩ : S34)⟩ : S36)] : List (S36))) (inner := [.slice Ao5 y157.length co5, .int .i64 3, .int .i64 0, .int .i64 0, .int .i64 0]) (ok := (fun _ => True)) (okp := (fun _ => True)) ?hr ?hp (fun _ hk => hk) ((show ∀ k_, w3.heap.size ≤ k_ → (fun _ => True) k_ from fun k_ hk => trivial) _ (Nat.le_refl _)) (Below.refl _ _) (Nat.le_refl _) (by simp) ?_; (case hd => rfl); (case hg => rfl); (case hr => first | (go_simp; done) | (go_simp; rfl)); (case hp => exact (Reps.c5 (show Kd.FK k36 _ _ (⟨y157, (⟨3, 0, 0, 0⟩ : S34)⟩ : S36) [.slice Ao5 y157.length co5, .int .i64 3, .int .i64 0, .int .i64 0, .int .i64 0] from (k36_mkF _ _ (⟨y157, (⟨3, 0, 0, 0⟩ : S34)⟩ : S36) (Kd.R_reads' (MB_R (ok' := (fun _ => True)) (HO159.out) (by repeat (first | exact Below.refl _ _ | apply below_alloc | apply pw_below_drewN | apply below_drew1)) (fun k_ hk => trivial))).2.1 (Kd.R_F (MB_R (ok' := (fun _ => True)) (HO159.out) (by repeat (first | exact Below.refl _ _ | apply below_alloc | apply pw_below_drewN | apply below_drew1)) (fun k_ hk => trivial))))) (Reps.none _ _))); intro v161 w6 ho7 hb hg_ hnew_; clear hg_ hnew_; (first | rw [← Ny160.out] at ho7 | (simp only [Int.reduceToNat] at ho7; rw [← Ny160.out] at ho7)); have n0_ := Aside0.mk (Kd.N_lower ho7 (below_size (by repeat (first | (with_reducible first | exact HB.out | apply below_alloc | apply pw_below_drewN | apply below_drew1) | exact HB.out)))); have n1_ := Aside0.mk (below_step (by repeat (first | (with_reducible first | exact HB.out | apply below_alloc | apply pw_below_drewN | apply below_drew1) | exact HB.out)) hb); clear HB; clear HO159; have HO162 := n0_; have HB := n1_; clear n0_ n1_; clear hb ho7; obtain ⟨Ao8, co8, eo8⟩ := Kd.N_slice HO162.out; subst eo8) | ((with_reducible refine gate_dst (N := 1) rfl ?_); refine box_event ?hg (N := 1) ?hd (cs := #[.int .i64 0, .slice none 0 0, .slice none 0 0]) (t := 25) ?hr ?_; (case hd => rfl); (case hg => rfl); (case hr => first | (go_simp; done) | (go_simp; rfl)); intro gb163 hg w9 hbox hb; have n0_ := Aside0.mk (Kd.N_below (Kd.N_elderB (by (with_reducible repeat (first | apply Kd.N_alloc | apply Kd.N_drewN | apply Kd.N_drew)); exact HO162.out) gb163 (Nat.le_of_eq hg.symm)) hb); have n1_ := Aside0.mk (below_step (by repeat (first | (with_reducible first | exact HB.out | apply below_alloc | apply pw_below_drewN | apply below_drew1) | exact HB.out)) hb); have n2_ := Aside0.mk (hbox); have n3_ := Aside0.mk ((by rw [hg]; exact (below_size (by repeat (first | (with_reducible first | exact HB.out | apply below_alloc | apply pw_below_drewN | apply below_drew1) | exact HB.out))) : w.heap.size ≤ gb163)); have n4_ := Aside0.mk ((by rw [hg]; exact (below_size (by repeat (first | (with_reducible first | exact HB.out | apply below_alloc | apply pw_below_drewN | apply below_drew1) | exact HB.out))) : w.heap.size ≤ gb163)); clear HO162; clear HB; have HO162 := n0_; have HB := n1_; have BK163 := n2_; have GW163 := n3_; have GE163 := n4_; clear n0_ n1_ n2_ n3_ n4_; clear hb hbox hg; have hcz10_0 : w9.cell? ⟨gb163, 0, none⟩ = some (.int .i64 0) := (blk_cell BK163.out 0).trans rfl; have hcz10_1 : w9.cell? ⟨gb163, 1, none⟩ = some (.slice none 0 0) := (blk_cell BK163.out 1).trans rfl; have hcz10_2 : w9.cell? ⟨gb163, 2, none⟩ = some (.slice none 0 0) := (blk_cell BK163.out 2).trans rfl; have hfz10_0 := blk_frozen BK163.out 0; have hfz10_1 := blk_frozen BK163.out 1; have hfz10_2 := blk_frozen BK163.out 2) | ((with_reducible refine gate_callee (f := 13) rfl ?_); refine goesL_ (some 10) rfl rfl Tryd.func13 (by kernel_rfl) rfl #[.agg #[.int .i64 2, .slice none 0 0, .slice Ao8 y160.length co8]] rfl (by (try simp only [List.map_toArray, List.map_cons, List.map_nil]); first | done | rfl | (simp only [List.length_drop, List.length_take]; rfl)) ?_; (refine (reload_Gone.calls 2 _ _ ([] : List Int) _ _ y160 t164 _ ?side1 ?side2 ?side3 ?side4 ?side5 A1.out).mono ?_); (case side1 => exact Kd.C_nil _ _); (case side2 => exact Nat.le_refl _); (case side3 => refine (Kd.N_reads' (e := 36) (base := w.heap.size) (ok := fun k_ => (True ∧ k_ ≠ gb163)) (n := y160.length) (c := co8) ?_).2.2; exact (by (with_reducible repeat (first | apply Kd.N_alloc | apply Kd.N_drewN | apply Kd.N_drew)); exact (Kd.N_mono (Kd.N_far (p := ⟨gb163, 2, none⟩) (Kd.N_far (p := ⟨gb163, 1, none⟩) (Kd.N_far (p := ⟨gb163, 0, none⟩) (Kd.N_mono HO162.out (fun k_ hk => (⟨hk, hk.2⟩ : _ ∧ k_ ≠ gb163))) (fun _ hk => hk.2) (.int .i64 2)) (fun _ hk => hk.2) (.slice none 0 0)) (fun _ hk => hk.2) (.slice Ao8 y160.length co8)) (fun _ h_ => h_.1)))); (case side4 => exact (Kd.N_reads' HO162.out).2.1); (case side5 => first | exact HG.out | ((repeat (first | exact (OpsLaid.below HG.out (Nat.le_refl _) HB.out) | exact HG.out | (with_reducible refine OpsLaid.alloc ?_ _) | (with_reducible refine OpsLaid.drewN ?_ _) | (with_reducible refine OpsLaid.drew ?_))); done) | exact OpsLaid.below HG.out (Nat.le_refl _) (by repeat (first | (with_reducible first | exact HB.out | apply below_alloc | apply pw_below_drewN | apply below_drew1 | refine below_set ?_ GE163.out) | exact HB.out))); rintro e w11 ⟨v165, rfl, ho0, hb⟩; refine ⟨_, rfl, ?_⟩; have n0_ := Aside0.mk (Kd.N_elder' (by (with_reducible repeat (first | apply Kd.N_alloc | apply Kd.N_drewN | apply Kd.N_drew)); exact (Kd.N_mono (Kd.N_far (p := ⟨gb163, 2, none⟩) (Kd.N_far (p := ⟨gb163, 1, none⟩) (Kd.N_far (p := ⟨gb163, 0, none⟩) (Kd.N_mono HO162.out (fun k_ hk => (⟨hk, hk.2⟩ : _ ∧ k_ ≠ gb163))) (fun _ hk => hk.2) (.int .i64 2)) (fun _ hk => hk.2) (.slice none 0 0)) (fun _ hk => hk.2) (.slice Ao8 y160.length co8)) (fun _ h_ => h_.1))) (Kd.R_base ho0) hb); have n1_ := Aside0.mk (Kd.R_lower ho0 (below_size (by repeat (first | (with_reducible first | exact HB.out | apply below_alloc | apply pw_below_drewN | apply below_drew1 | refine below_set ?_ GE163.out) | exact HB.out)))); have n2_ := Aside0.mk (blk_below (g := gb163) (o := .cells #[.int .i64 2, .slice none 0 0, .slice Ao8 y160.length co8] 25 (0, 0)) (by (with_reducible repeat (first | refine blk_drewN ?_ _ | refine blk_drew ?_ | refine blk_alloc ?_ _)); refine blk_put (cs := #[.int .i64 2, .slice none 0 0, .slice none 0 0]) ?_ 2 _ rfl; (with_reducible repeat (first | refine blk_drewN ?_ _ | refine blk_drew ?_ | refine blk_alloc ?_ _)); refine blk_put (cs := #[.int .i64 2, .slice none 0 0, .slice none 0 0]) ?_ 1 _ rfl; (with_reducible repeat (first | refine blk_drewN ?_ _ | refine blk_drew ?_ | refine blk_alloc ?_ _)); refine blk_put (cs := #[.int .i64 0, .slice none 0 0, .slice none 0 0]) ?_ 0 _ rfl; (with_reducible repeat (first | refine blk_drewN ?_ _ | refine blk_drew ?_ | refine blk_alloc ?_ _)); exact BK163.out) hb); have n3_ := Aside0.mk (below_step (by repeat (first | (with_reducible first | exact HB.out | apply below_alloc | apply pw_below_drewN | apply below_drew1 | refine below_set ?_ GE163.out) | exact HB.out)) hb); clear HO162; clear BK163; clear HB; have HO162 := n0_; have HO166 := n1_; have BK163 := n2_; have HB := n3_; clear n0_ n1_ n2_ n3_; (try clear hb); (try clear hb2); (try clear hk); (try clear hi); (try clear ho0)) | ((with_reducible refine gate_dst (N := 11) rfl ?_); refine Kd.R_lit (Kd.int .i64) _ 3 ?hg (N := 11) ?hd (xs := ([2] : List Int)) (inner := [.int .i64 2]) (ok := fun _ => True) (okp := fun _ => True) ?hr ?hp (fun _ hk => hk) trivial (Below.refl _ _) (Nat.le_refl _) (by simp) ?_; (case hd => rfl); (case hg => rfl); (case hr => first | (go_simp; done) | (go_simp; rfl)); (case hp => exact (Reps.one (show Kd.M (Kd.int .i64) _ _ _ 2 [.int .i64 2] from rfl) (Reps.none _ _))); intro v168 w12 ho13 hb hg_ hnew_; clear hg_ hnew_; (first | rw [← Ny167.out] at ho13 | (simp only [Int.reduceToNat] at ho13; rw [← Ny167.out] at ho13)); have n0_ := Aside0.mk (Kd.N_elder' (by (with_reducible repeat (first | apply Kd.N_alloc | apply Kd.N_drewN | apply Kd.N_drew)); exact HO162.out) (Kd.R_base ho13) hb); have n1_ := Aside0.mk (Kd.R_elder' (by (with_reducible repeat (first | apply Kd.R_alloc | apply Kd.R_drewN | apply Kd.R_drew)); exact HO166.out) (Kd.R_base ho13) hb); have n2_ := Aside0.mk (Kd.R_lower (Kd.R_new' ho13 (Kd.R_lt (by (with_reducible repeat (first | apply Kd.R_alloc | apply Kd.R_drewN | apply Kd.R_drew)); exact HO166.out))) (below_size (by repeat (first | (with_reducible first | exact HB.out | apply below_alloc | apply pw_below_drewN | apply below_drew1 | refine below_set ?_ GE163.out) | exact HB.out)))); have n3_ := Aside0.mk (blk_below (g := gb163) (o := .cells #[.int .i64 2, .slice none 0 0, .slice Ao8 y160.length co8] 25 (0, 0)) (by (with_reducible repeat (first | refine blk_drewN ?_ _ | refine blk_drew ?_ | refine blk_alloc ?_ _)); exact BK163.out) hb); have n4_ := Aside0.mk (below_step (by repeat (first | (with_reducible first | exact HB.out | apply below_alloc | apply pw_below_drewN | apply below_drew1 | refine below_set ?_ GE163.out) | exact HB.out)) hb); clear HO162; clear HO166; clear BK163; clear HB; have HO162 := n0_; have HO166 := n1_; have HO169 := n2_; have BK163 := n3_; have HB := n4_; clear n0_ n1_ n2_ n3_ n4_; clear hb ho13; obtain ⟨Ao14, co14, eo14⟩ := Kd.R_slice HO166.out; subst eo14; obtain ⟨Ao15, co15, eo15⟩ := Kd.R_slice HO169.out; subst eo15) | ((with_reducible refine gate_callee (f := 16) rfl ?_); refine goesL_ (some 12) rfl rfl Tryd.func16 (by kernel_rfl) rfl #[.slice Ao14 t164.length co14, .slice Ao15 y167.length co15] rfl (by (try simp only [List.map_toArray, List.map_cons, List.map_nil]); first | done | rfl | (simp only [List.length_drop, List.length_take]; rfl)) ?_; (with_reducible refine (spinnakerref01_Ints.calls k _ _ t164 _ _ y167 t170 _ ?side1 ?side2 ?side3 ?side4 A2.out).mono ?_); (case side1 => repeat (first | exact (Kd.R_reads' HO166.out).2.2 | (with_reducible refine Kd.C_alloc ?_ _) | (with_reducible refine Kd.C_drewN ?_ _) | (with_reducible refine Kd.C_drew ?_))); (case side2 => exact (Kd.R_reads' HO166.out).2.1); (case side3 => repeat (first | exact (Kd.R_reads' HO169.out).2.2 | (with_reducible refine Kd.C_alloc ?_ _) | (with_reducible refine Kd.C_drewN ?_ _) | (with_reducible refine Kd.C_drew ?_))); (case side4 => exact (Kd.R_reads' HO169.out).2.1); rintro e w' ⟨rfl, ⟨nd, rfl⟩⟩; refine ⟨_, rfl, ?_⟩))
  go_ret
  exact ⟨by first | rfl | (simp [errW_none, errW_some] <;> rfl) | (simp [*, errW_none, errW_some] <;> rfl), by repeat (first | (with_reducible first | exact HB.out | apply below_alloc | apply pw_below_drewN | apply below_drew1 | refine below_set ?_ GE163.out) | exact HB.out)⟩

/-! ### spinnakerref37_writes: function 63 -/
def spinnakerref37_writes.f (a0_0 : Int) (a0_1 : Int) (a0_2 : Int) (a0_3 : Int) (a0_4 : Int) (a0_5 : Int) (a0_6 : Int) (a0_7 : Int) (a1 : Int) : Option (Bool) := (spinnakerref26_HasD.f a0_0).bind fun t172 => (if t172 = true then (if a0_1 = a1 then (if a0_0 = 2 then (some (!(a0_2 == a1))) else (some (!false))) else (some false)) else (some false))
set_option maxHeartbeats 8000000 in
set_option maxRecDepth 100000 in
theorem spinnakerref37_writes.calls (a0_0 : Int) (a0_1 : Int) (a0_2 : Int) (a0_3 : Int) (a0_4 : Int) (a0_5 : Int) (a0_6 : Int) (a0_7 : Int) (a1 : Int) (r : Bool) (w : World) (h : spinnakerref37_writes.f a0_0 a0_1 a0_2 a0_3 a0_4 a0_5 a0_6 a0_7 a1 = some r) :
    Calls Tryd.prog 63 #[.agg #[.int .i64 a0_0, .int .i64 a0_1, .int .i64 a0_2, .int .i64 a0_3, .int .i64 a0_4, .int .i64 a0_5, .int .i64 a0_6, .int .i64 a0_7], .int .i64 a1] w fun e w' => e = .returned (.bool r) ∧ Below w.heap.size w w' := by
  have hu38 := Tryd.underlying38
  have HB := Aside0.mk (Below.refl w.heap.size w)
  have H : ((spinnakerref26_HasD.f a0_0).bind fun t172 => (if t172 = true then (if a0_1 = a1 then (if a0_0 = 2 then (some (!(a0_2 == a1))) else (some (!false))) else (some false)) else (some false))) = some r := h
  clear h
  replace H := Option.bind_eq_some_iff.mp H
  obtain ⟨t172, A30, H⟩ := H
  replace H : (if t172 = true then (if a0_1 = a1 then (if a0_0 = 2 then (some (!(a0_2 == a1))) else (some (!false))) else (some false)) else (some false)) = some r := H
  have A3 := Aside0.mk A30
  clear A30
  by_cases c4 : t172 = true
  · subst c4
    have H1 : (if a0_1 = a1 then (if a0_0 = 2 then (some (!(a0_2 == a1))) else (some (!false))) else (some false)) = some r := by rw [if_pos rfl] at H; exact H
    clear H
    have H := H1
    clear H1
    by_cases c5 : a0_1 = a1
    · rw [if_pos c5] at H
      have c5b0 : (a0_1 == a1) = true := beq_iff_eq.mpr c5
      have c5b1 : (a0_1 != a1) = false := bne_eq_false_iff_eq.mpr c5
      clear c5
      by_cases c6 : a0_0 = 2
      · rw [if_pos c6] at H
        have c6b0 : (a0_0 == 2) = true := beq_iff_eq.mpr c6
        have c6b1 : (a0_0 != 2) = false := bne_eq_false_iff_eq.mpr c6
        clear c6
        obtain rfl := Option.some.inj H
        go_enter Tryd.func63, Tryd.ntmps63
        go_wp2_with (first | ((with_reducible refine gate_dst (N := 2) rfl ?_); refine box_event ?hg (N := 2) ?hd (cs := #[.int .i64 a0_0, .int .i64 a0_1, .int .i64 a0_2, .int .i64 a0_3, .int .i64 a0_4, .int .i64 a0_5, .int .i64 a0_6, .int .i64 a0_7]) (t := 38) ?hr ?_; (case hd => rfl); (case hg => rfl); (case hr => first | (go_simp; done) | (go_simp; rfl)); intro gb171 hg w7 hbox hb; have n0_ := Aside0.mk (below_step (by repeat (first | (with_reducible first | exact HB.out | apply below_alloc | apply pw_below_drewN | apply below_drew1) | exact HB.out)) hb); have n1_ := Aside0.mk (hbox); have n2_ := Aside0.mk ((by rw [hg]; exact (below_size (by repeat (first | (with_reducible first | exact HB.out | apply below_alloc | apply pw_below_drewN | apply below_drew1) | exact HB.out))) : w.heap.size ≤ gb171)); have n3_ := Aside0.mk ((by rw [hg]; exact (below_size (by repeat (first | (with_reducible first | exact HB.out | apply below_alloc | apply pw_below_drewN | apply below_drew1) | exact HB.out))) : w.heap.size ≤ gb171)); clear HB; have HB := n0_; have BK171 := n1_; have GW171 := n2_; have GE171 := n3_; clear n0_ n1_ n2_ n3_; clear hb hbox hg; have hcz8_0 : w7.cell? ⟨gb171, 0, none⟩ = some (.int .i64 a0_0) := (blk_cell BK171.out 0).trans rfl; have hcz8_1 : w7.cell? ⟨gb171, 1, none⟩ = some (.int .i64 a0_1) := (blk_cell BK171.out 1).trans rfl; have hcz8_2 : w7.cell? ⟨gb171, 2, none⟩ = some (.int .i64 a0_2) := (blk_cell BK171.out 2).trans rfl; have hcz8_3 : w7.cell? ⟨gb171, 3, none⟩ = some (.int .i64 a0_3) := (blk_cell BK171.out 3).trans rfl; have hcz8_4 : w7.cell? ⟨gb171, 4, none⟩ = some (.int .i64 a0_4) := (blk_cell BK171.out 4).trans rfl; have hcz8_5 : w7.cell? ⟨gb171, 5, none⟩ = some (.int .i64 a0_5) := (blk_cell BK171.out 5).trans rfl; have hcz8_6 : w7.cell? ⟨gb171, 6, none⟩ = some (.int .i64 a0_6) := (blk_cell BK171.out 6).trans rfl; have hcz8_7 : w7.cell? ⟨gb171, 7, none⟩ = some (.int .i64 a0_7) := (blk_cell BK171.out 7).trans rfl; have hfz8_0 := blk_frozen BK171.out 0; have hfz8_1 := blk_frozen BK171.out 1; have hfz8_2 := blk_frozen BK171.out 2; have hfz8_3 := blk_frozen BK171.out 3; have hfz8_4 := blk_frozen BK171.out 4; have hfz8_5 := blk_frozen BK171.out 5; have hfz8_6 := blk_frozen BK171.out 6; have hfz8_7 := blk_frozen BK171.out 7) | ((with_reducible refine gate_callee (f := 55) rfl ?_); refine goesL_ (some 7) rfl rfl Tryd.func55 (by kernel_rfl) rfl #[.int .i64 a0_0] rfl (by (try simp only [List.map_toArray, List.map_cons, List.map_nil]); first | done | rfl | (simp only [List.length_drop, List.length_take]; rfl)) ?_; (with_reducible refine (spinnakerref26_HasD.calls a0_0 true _ A3.out).mono ?_); rintro e w' ⟨rfl, ⟨nd, rfl⟩⟩; refine ⟨_, rfl, ?_⟩))
        go_ret
        exact ⟨by first | rfl | (simp [errW_none, errW_some] <;> rfl) | (simp [*, errW_none, errW_some] <;> rfl), by repeat (first | (with_reducible first | exact HB.out | apply below_alloc | apply pw_below_drewN | apply below_drew1 | refine below_set ?_ GE171.out) | exact HB.out)⟩
      · rw [if_neg c6] at H
        have c6b0 : (a0_0 == 2) = false := beq_eq_false_iff_ne.mpr c6
        have c6b1 : (a0_0 != 2) = true := bne_iff_ne.mpr c6
        obtain rfl := Option.some.inj H
        go_enter Tryd.func63, Tryd.ntmps63
        go_wp2_with (first | ((with_reducible refine gate_dst (N := 2) rfl ?_); refine box_event ?hg (N := 2) ?hd (cs := #[.int .i64 a0_0, .int .i64 a0_1, .int .i64 a0_2, .int .i64 a0_3, .int .i64 a0_4, .int .i64 a0_5, .int .i64 a0_6, .int .i64 a0_7]) (t := 38) ?hr ?_; (case hd => rfl); (case hg => rfl); (case hr => first | (go_simp; done) | (go_simp; rfl)); intro gb171 hg w9 hbox hb; have n0_ := Aside0.mk (below_step (by repeat (first | (with_reducible first | exact HB.out | apply below_alloc | apply pw_below_drewN | apply below_drew1) | exact HB.out)) hb); have n1_ := Aside0.mk (hbox); have n2_ := Aside0.mk ((by rw [hg]; exact (below_size (by repeat (first | (with_reducible first | exact HB.out | apply below_alloc | apply pw_below_drewN | apply below_drew1) | exact HB.out))) : w.heap.size ≤ gb171)); have n3_ := Aside0.mk ((by rw [hg]; exact (below_size (by repeat (first | (with_reducible first | exact HB.out | apply below_alloc | apply pw_below_drewN | apply below_drew1) | exact HB.out))) : w.heap.size ≤ gb171)); clear HB; have HB := n0_; have BK171 := n1_; have GW171 := n2_; have GE171 := n3_; clear n0_ n1_ n2_ n3_; clear hb hbox hg; have hcz10_0 : w9.cell? ⟨gb171, 0, none⟩ = some (.int .i64 a0_0) := (blk_cell BK171.out 0).trans rfl; have hcz10_1 : w9.cell? ⟨gb171, 1, none⟩ = some (.int .i64 a0_1) := (blk_cell BK171.out 1).trans rfl; have hcz10_2 : w9.cell? ⟨gb171, 2, none⟩ = some (.int .i64 a0_2) := (blk_cell BK171.out 2).trans rfl; have hcz10_3 : w9.cell? ⟨gb171, 3, none⟩ = some (.int .i64 a0_3) := (blk_cell BK171.out 3).trans rfl; have hcz10_4 : w9.cell? ⟨gb171, 4, none⟩ = some (.int .i64 a0_4) := (blk_cell BK171.out 4).trans rfl; have hcz10_5 : w9.cell? ⟨gb171, 5, none⟩ = some (.int .i64 a0_5) := (blk_cell BK171.out 5).trans rfl; have hcz10_6 : w9.cell? ⟨gb171, 6, none⟩ = some (.int .i64 a0_6) := (blk_cell BK171.out 6).trans rfl; have hcz10_7 : w9.cell? ⟨gb171, 7, none⟩ = some (.int .i64 a0_7) := (blk_cell BK171.out 7).trans rfl; have hfz10_0 := blk_frozen BK171.out 0; have hfz10_1 := blk_frozen BK171.out 1; have hfz10_2 := blk_frozen BK171.out 2; have hfz10_3 := blk_frozen BK171.out 3; have hfz10_4 := blk_frozen BK171.out 4; have hfz10_5 := blk_frozen BK171.out 5; have hfz10_6 := blk_frozen BK171.out 6; have hfz10_7 := blk_frozen BK171.out 7) | ((with_reducible refine gate_callee (f := 55) rfl ?_); refine goesL_ (some 7) rfl rfl Tryd.func55 (by kernel_rfl) rfl #[.int .i64 a0_0] rfl (by (try simp only [List.map_toArray, List.map_cons, List.map_nil]); first | done | rfl | (simp only [List.length_drop, List.length_take]; rfl)) ?_; (with_reducible refine (spinnakerref26_HasD.calls a0_0 true _ A3.out).mono ?_); rintro e w' ⟨rfl, ⟨nd, rfl⟩⟩; refine ⟨_, rfl, ?_⟩))
        go_ret
        exact ⟨by first | rfl | (simp [errW_none, errW_some] <;> rfl) | (simp [*, errW_none, errW_some] <;> rfl), by repeat (first | (with_reducible first | exact HB.out | apply below_alloc | apply pw_below_drewN | apply below_drew1 | refine below_set ?_ GE171.out) | exact HB.out)⟩
    · rw [if_neg c5] at H
      have c5b0 : (a0_1 == a1) = false := beq_eq_false_iff_ne.mpr c5
      have c5b1 : (a0_1 != a1) = true := bne_iff_ne.mpr c5
      obtain rfl := Option.some.inj H
      go_enter Tryd.func63, Tryd.ntmps63
      go_wp2_with (first | ((with_reducible refine gate_dst (N := 2) rfl ?_); refine box_event ?hg (N := 2) ?hd (cs := #[.int .i64 a0_0, .int .i64 a0_1, .int .i64 a0_2, .int .i64 a0_3, .int .i64 a0_4, .int .i64 a0_5, .int .i64 a0_6, .int .i64 a0_7]) (t := 38) ?hr ?_; (case hd => rfl); (case hg => rfl); (case hr => first | (go_simp; done) | (go_simp; rfl)); intro gb171 hg w11 hbox hb; have n0_ := Aside0.mk (below_step (by repeat (first | (with_reducible first | exact HB.out | apply below_alloc | apply pw_below_drewN | apply below_drew1) | exact HB.out)) hb); have n1_ := Aside0.mk (hbox); have n2_ := Aside0.mk ((by rw [hg]; exact (below_size (by repeat (first | (with_reducible first | exact HB.out | apply below_alloc | apply pw_below_drewN | apply below_drew1) | exact HB.out))) : w.heap.size ≤ gb171)); have n3_ := Aside0.mk ((by rw [hg]; exact (below_size (by repeat (first | (with_reducible first | exact HB.out | apply below_alloc | apply pw_below_drewN | apply below_drew1) | exact HB.out))) : w.heap.size ≤ gb171)); clear HB; have HB := n0_; have BK171 := n1_; have GW171 := n2_; have GE171 := n3_; clear n0_ n1_ n2_ n3_; clear hb hbox hg; have hcz12_0 : w11.cell? ⟨gb171, 0, none⟩ = some (.int .i64 a0_0) := (blk_cell BK171.out 0).trans rfl; have hcz12_1 : w11.cell? ⟨gb171, 1, none⟩ = some (.int .i64 a0_1) := (blk_cell BK171.out 1).trans rfl; have hcz12_2 : w11.cell? ⟨gb171, 2, none⟩ = some (.int .i64 a0_2) := (blk_cell BK171.out 2).trans rfl; have hcz12_3 : w11.cell? ⟨gb171, 3, none⟩ = some (.int .i64 a0_3) := (blk_cell BK171.out 3).trans rfl; have hcz12_4 : w11.cell? ⟨gb171, 4, none⟩ = some (.int .i64 a0_4) := (blk_cell BK171.out 4).trans rfl; have hcz12_5 : w11.cell? ⟨gb171, 5, none⟩ = some (.int .i64 a0_5) := (blk_cell BK171.out 5).trans rfl; have hcz12_6 : w11.cell? ⟨gb171, 6, none⟩ = some (.int .i64 a0_6) := (blk_cell BK171.out 6).trans rfl; have hcz12_7 : w11.cell? ⟨gb171, 7, none⟩ = some (.int .i64 a0_7) := (blk_cell BK171.out 7).trans rfl; have hfz12_0 := blk_frozen BK171.out 0; have hfz12_1 := blk_frozen BK171.out 1; have hfz12_2 := blk_frozen BK171.out 2; have hfz12_3 := blk_frozen BK171.out 3; have hfz12_4 := blk_frozen BK171.out 4; have hfz12_5 := blk_frozen BK171.out 5; have hfz12_6 := blk_frozen BK171.out 6; have hfz12_7 := blk_frozen BK171.out 7) | ((with_reducible refine gate_callee (f := 55) rfl ?_); refine goesL_ (some 7) rfl rfl Tryd.func55 (by kernel_rfl) rfl #[.int .i64 a0_0] rfl (by (try simp only [List.map_toArray, List.map_cons, List.map_nil]); first | done | rfl | (simp only [List.length_drop, List.length_take]; rfl)) ?_; (with_reducible refine (spinnakerref26_HasD.calls a0_0 true _ A3.out).mono ?_); rintro e w' ⟨rfl, ⟨nd, rfl⟩⟩; refine ⟨_, rfl, ?_⟩))
      go_ret
      exact ⟨by first | rfl | (simp [errW_none, errW_some] <;> rfl) | (simp [*, errW_none, errW_some] <;> rfl), by repeat (first | (with_reducible first | exact HB.out | apply below_alloc | apply pw_below_drewN | apply below_drew1 | refine below_set ?_ GE171.out) | exact HB.out)⟩
  · replace c4 := Bool.eq_false_iff.mpr c4
    subst c4
    have H1 : (some false) = some r := by rw [if_neg (show ¬ (false = true) by decide)] at H; exact H
    clear H
    have H := H1
    clear H1
    obtain rfl := Option.some.inj H
    go_enter Tryd.func63, Tryd.ntmps63
    go_wp2_with (first | ((with_reducible refine gate_dst (N := 2) rfl ?_); refine box_event ?hg (N := 2) ?hd (cs := #[.int .i64 a0_0, .int .i64 a0_1, .int .i64 a0_2, .int .i64 a0_3, .int .i64 a0_4, .int .i64 a0_5, .int .i64 a0_6, .int .i64 a0_7]) (t := 38) ?hr ?_; (case hd => rfl); (case hg => rfl); (case hr => first | (go_simp; done) | (go_simp; rfl)); intro gb171 hg w13 hbox hb; have n0_ := Aside0.mk (below_step (by repeat (first | (with_reducible first | exact HB.out | apply below_alloc | apply pw_below_drewN | apply below_drew1) | exact HB.out)) hb); have n1_ := Aside0.mk (hbox); have n2_ := Aside0.mk ((by rw [hg]; exact (below_size (by repeat (first | (with_reducible first | exact HB.out | apply below_alloc | apply pw_below_drewN | apply below_drew1) | exact HB.out))) : w.heap.size ≤ gb171)); have n3_ := Aside0.mk ((by rw [hg]; exact (below_size (by repeat (first | (with_reducible first | exact HB.out | apply below_alloc | apply pw_below_drewN | apply below_drew1) | exact HB.out))) : w.heap.size ≤ gb171)); clear HB; have HB := n0_; have BK171 := n1_; have GW171 := n2_; have GE171 := n3_; clear n0_ n1_ n2_ n3_; clear hb hbox hg; have hcz14_0 : w13.cell? ⟨gb171, 0, none⟩ = some (.int .i64 a0_0) := (blk_cell BK171.out 0).trans rfl; have hcz14_1 : w13.cell? ⟨gb171, 1, none⟩ = some (.int .i64 a0_1) := (blk_cell BK171.out 1).trans rfl; have hcz14_2 : w13.cell? ⟨gb171, 2, none⟩ = some (.int .i64 a0_2) := (blk_cell BK171.out 2).trans rfl; have hcz14_3 : w13.cell? ⟨gb171, 3, none⟩ = some (.int .i64 a0_3) := (blk_cell BK171.out 3).trans rfl; have hcz14_4 : w13.cell? ⟨gb171, 4, none⟩ = some (.int .i64 a0_4) := (blk_cell BK171.out 4).trans rfl; have hcz14_5 : w13.cell? ⟨gb171, 5, none⟩ = some (.int .i64 a0_5) := (blk_cell BK171.out 5).trans rfl; have hcz14_6 : w13.cell? ⟨gb171, 6, none⟩ = some (.int .i64 a0_6) := (blk_cell BK171.out 6).trans rfl; have hcz14_7 : w13.cell? ⟨gb171, 7, none⟩ = some (.int .i64 a0_7) := (blk_cell BK171.out 7).trans rfl; have hfz14_0 := blk_frozen BK171.out 0; have hfz14_1 := blk_frozen BK171.out 1; have hfz14_2 := blk_frozen BK171.out 2; have hfz14_3 := blk_frozen BK171.out 3; have hfz14_4 := blk_frozen BK171.out 4; have hfz14_5 := blk_frozen BK171.out 5; have hfz14_6 := blk_frozen BK171.out 6; have hfz14_7 := blk_frozen BK171.out 7) | ((with_reducible refine gate_callee (f := 55) rfl ?_); refine goesL_ (some 7) rfl rfl Tryd.func55 (by kernel_rfl) rfl #[.int .i64 a0_0] rfl (by (try simp only [List.map_toArray, List.map_cons, List.map_nil]); first | done | rfl | (simp only [List.length_drop, List.length_take]; rfl)) ?_; (with_reducible refine (spinnakerref26_HasD.calls a0_0 false _ A3.out).mono ?_); rintro e w' ⟨rfl, ⟨nd, rfl⟩⟩; refine ⟨_, rfl, ?_⟩))
    go_ret
    exact ⟨by first | rfl | (simp [errW_none, errW_some] <;> rfl) | (simp [*, errW_none, errW_some] <;> rfl), by repeat (first | (with_reducible first | exact HB.out | apply below_alloc | apply pw_below_drewN | apply below_drew1 | refine below_set ?_ GE171.out) | exact HB.out)⟩

/-! ### spinnakerref37_Known: function 38 -/
mutual
def spinnakerref37_Known.l0 : Nat → List (S38) → Int → Int → Int → Option (Int)
  | 0, _, _, _, _ => none
  | k + 1, x0, x1, x2, x7 => if x7 ≥ 0 then (if 0 ≤ x7 then (if x7 < (x0.length : Int) then (if ((rd_T38 x0 x7).f0) = 10 then (spinnakerref37_Known.j1 k x0 x1 x2 x7 (((rd_T38 x0 x7).f0) == 6) (((rd_T38 x0 x7).f0) == 7) true ((rd_T38 x0 x7).f0) ((rd_T38 x0 x7).f1) ((rd_T38 x0 x7).f2) ((rd_T38 x0 x7).f3) ((rd_T38 x0 x7).f4) ((rd_T38 x0 x7).f5) ((rd_T38 x0 x7).f6) ((rd_T38 x0 x7).f7)) else (if ((rd_T38 x0 x7).f0) = 8 then (spinnakerref37_Known.j1 k x0 x1 x2 x7 (((rd_T38 x0 x7).f0) == 6) (((rd_T38 x0 x7).f0) == 7) true ((rd_T38 x0 x7).f0) ((rd_T38 x0 x7).f1) ((rd_T38 x0 x7).f2) ((rd_T38 x0 x7).f3) ((rd_T38 x0 x7).f4) ((rd_T38 x0 x7).f5) ((rd_T38 x0 x7).f6) ((rd_T38 x0 x7).f7)) else (if ((rd_T38 x0 x7).f0) = 9 then (spinnakerref37_Known.j1 k x0 x1 x2 x7 (((rd_T38 x0 x7).f0) == 6) (((rd_T38 x0 x7).f0) == 7) true ((rd_T38 x0 x7).f0) ((rd_T38 x0 x7).f1) ((rd_T38 x0 x7).f2) ((rd_T38 x0 x7).f3) ((rd_T38 x0 x7).f4) ((rd_T38 x0 x7).f5) ((rd_T38 x0 x7).f6) ((rd_T38 x0 x7).f7)) else (if ((rd_T38 x0 x7).f0) = 6 then (spinnakerref37_Known.j1 k x0 x1 x2 x7 (((rd_T38 x0 x7).f0) == 6) (((rd_T38 x0 x7).f0) == 7) (((rd_T38 x0 x7).f6) != 0) ((rd_T38 x0 x7).f0) ((rd_T38 x0 x7).f1) ((rd_T38 x0 x7).f2) ((rd_T38 x0 x7).f3) ((rd_T38 x0 x7).f4) ((rd_T38 x0 x7).f5) ((rd_T38 x0 x7).f6) ((rd_T38 x0 x7).f7)) else (if ((rd_T38 x0 x7).f0) = 7 then (spinnakerref37_Known.j1 k x0 x1 x2 x7 (((rd_T38 x0 x7).f0) == 6) (((rd_T38 x0 x7).f0) == 7) (((rd_T38 x0 x7).f6) != 0) ((rd_T38 x0 x7).f0) ((rd_T38 x0 x7).f1) ((rd_T38 x0 x7).f2) ((rd_T38 x0 x7).f3) ((rd_T38 x0 x7).f4) ((rd_T38 x0 x7).f5) ((rd_T38 x0 x7).f6) ((rd_T38 x0 x7).f7)) else (spinnakerref37_Known.j1 k x0 x1 x2 x7 (((rd_T38 x0 x7).f0) == 6) (((rd_T38 x0 x7).f0) == 7) false ((rd_T38 x0 x7).f0) ((rd_T38 x0 x7).f1) ((rd_T38 x0 x7).f2) ((rd_T38 x0 x7).f3) ((rd_T38 x0 x7).f4) ((rd_T38 x0 x7).f5) ((rd_T38 x0 x7).f6) ((rd_T38 x0 x7).f7))))))) else (none)) else (none)) else (some (-1))
def spinnakerref37_Known.j1 : Nat → List (S38) → Int → Int → Int → Bool → Bool → Bool → Int → Int → Int → Int → Int → Int → Int → Int → Option (Int)
  | 0, _, _, _, _, _, _, _, _, _, _, _, _, _, _, _ => none
  | k + 1, x0, x1, x2, x7, x9, x10, x52, x175000, x175001, x175002, x175003, x175004, x175005, x175006, x175007 => if x52 = true then (some (-1)) else (if x9 = true then (spinnakerref37_Known.j2 k x0 x1 x2 x7 x9 (x175005 != x2) x175000 x175001 x175002 x175003 x175004 x175005 x175006 x175007) else (if x10 = true then (spinnakerref37_Known.j2 k x0 x1 x2 x7 x9 (x175005 != x2) x175000 x175001 x175002 x175003 x175004 x175005 x175006 x175007) else (spinnakerref37_Known.j2 k x0 x1 x2 x7 x9 true x175000 x175001 x175002 x175003 x175004 x175005 x175006 x175007)))
def spinnakerref37_Known.j2 : Nat → List (S38) → Int → Int → Int → Bool → Bool → Int → Int → Int → Int → Int → Int → Int → Int → Option (Int)
  | 0, _, _, _, _, _, _, _, _, _, _, _, _, _, _ => none
  | k + 1, x0, x1, x2, x7, x9, x63, x175000, x175001, x175002, x175003, x175004, x175005, x175006, x175007 => if x63 = true then (spinnakerref37_Known.l0 k x0 x1 x2 (wrap64 (x7 - 1))) else (if x9 = true then (spinnakerref37_Known.j3 k x0 x1 x7 x175001) else (spinnakerref37_Known.j3 k x0 x1 x7 x175002))
def spinnakerref37_Known.j3 : Nat → List (S38) → Int → Int → Int → Option (Int)
  | 0, _, _, _, _ => none
  | k + 1, x0, x1, x7, x11 => spinnakerref37_Known.l1 k x0 x1 x11 (wrap64 (x7 + 1))
def spinnakerref37_Known.l1 : Nat → List (S38) → Int → Int → Int → Option (Int)
  | 0, _, _, _, _ => none
  | k + 1, x0, x1, x11, x12 => if x12 < x1 then (if 0 ≤ x12 then (if x12 < (x0.length : Int) then ((spinnakerref37_writes.f ((rd_T38 x0 x12).f0) ((rd_T38 x0 x12).f1) ((rd_T38 x0 x12).f2) ((rd_T38 x0 x12).f3) ((rd_T38 x0 x12).f4) ((rd_T38 x0 x12).f5) ((rd_T38 x0 x12).f6) ((rd_T38 x0 x12).f7) x11).bind fun t176 => (if t176 = true then (some (-1)) else (spinnakerref37_Known.l1 k x0 x1 x11 (wrap64 (x12 + 1))))) else (none)) else (none)) else (some x11)
end
def spinnakerref37_Known.f (k : Nat) (l0 : List (S38)) (a1 : Int) (a2 : Int) : Option (Int) := spinnakerref37_Known.l0 k l0 a1 a2 (wrap64 (a1 - 1))
theorem spinnakerref37_Known.mono_l : ∀ k, (∀ y0 y1 y2 y3, LeO (spinnakerref37_Known.l0 k y0 y1 y2 y3) (spinnakerref37_Known.l0 (k + 1) y0 y1 y2 y3)) ∧ (∀ y0 y1 y2 y3 y4 y5 y6 y7 y8 y9 y10 y11 y12 y13 y14, LeO (spinnakerref37_Known.j1 k y0 y1 y2 y3 y4 y5 y6 y7 y8 y9 y10 y11 y12 y13 y14) (spinnakerref37_Known.j1 (k + 1) y0 y1 y2 y3 y4 y5 y6 y7 y8 y9 y10 y11 y12 y13 y14)) ∧ (∀ y0 y1 y2 y3 y4 y5 y6 y7 y8 y9 y10 y11 y12 y13, LeO (spinnakerref37_Known.j2 k y0 y1 y2 y3 y4 y5 y6 y7 y8 y9 y10 y11 y12 y13) (spinnakerref37_Known.j2 (k + 1) y0 y1 y2 y3 y4 y5 y6 y7 y8 y9 y10 y11 y12 y13)) ∧ (∀ y0 y1 y2 y3, LeO (spinnakerref37_Known.j3 k y0 y1 y2 y3) (spinnakerref37_Known.j3 (k + 1) y0 y1 y2 y3)) ∧ (∀ y0 y1 y2 y3, LeO (spinnakerref37_Known.l1 k y0 y1 y2 y3) (spinnakerref37_Known.l1 (k + 1) y0 y1 y2 y3))
  | 0 => ⟨fun _ _ _ _ r h => by simp [spinnakerref37_Known.l0] at h, fun _ _ _ _ _ _ _ _ _ _ _ _ _ _ _ r h => by simp [spinnakerref37_Known.j1] at h, fun _ _ _ _ _ _ _ _ _ _ _ _ _ _ r h => by simp [spinnakerref37_Known.j2] at h, fun _ _ _ _ r h => by simp [spinnakerref37_Known.j3] at h, fun _ _ _ _ r h => by simp [spinnakerref37_Known.l1] at h⟩
  | k + 1 => by
    obtain ⟨ih0, ih1, ih2, ih3, ih4⟩ := spinnakerref37_Known.mono_l k; refine ⟨?_, ?_, ?_, ?_, ?_⟩
    · intro y0 y1 y2 y3
      unfold spinnakerref37_Known.l0
      repeat' first
 | (with_reducible exact ih0 _ _ _ _)
 | (with_reducible exact ih1 _ _ _ _ _ _ _ _ _ _ _ _ _ _ _)
 | (with_reducible exact ih2 _ _ _ _ _ _ _ _ _ _ _ _ _ _)
 | (with_reducible exact ih3 _ _ _ _)
 | (with_reducible exact ih4 _ _ _ _)
 | (with_reducible exact LeO.refl _)
 | (with_reducible exact LeO.none _)
 | (with_reducible refine LeO.ite ?_ ?_)
 | (with_reducible refine LeO.bind ?_ (fun _ => ?_))
    · intro y0 y1 y2 y3 y4 y5 y6 y7 y8 y9 y10 y11 y12 y13 y14
      unfold spinnakerref37_Known.j1
      repeat' first
 | (with_reducible exact ih0 _ _ _ _)
 | (with_reducible exact ih1 _ _ _ _ _ _ _ _ _ _ _ _ _ _ _)
 | (with_reducible exact ih2 _ _ _ _ _ _ _ _ _ _ _ _ _ _)
 | (with_reducible exact ih3 _ _ _ _)
 | (with_reducible exact ih4 _ _ _ _)
 | (with_reducible exact LeO.refl _)
 | (with_reducible exact LeO.none _)
 | (with_reducible refine LeO.ite ?_ ?_)
 | (with_reducible refine LeO.bind ?_ (fun _ => ?_))
    · intro y0 y1 y2 y3 y4 y5 y6 y7 y8 y9 y10 y11 y12 y13
      unfold spinnakerref37_Known.j2
      repeat' first
 | (with_reducible exact ih0 _ _ _ _)
 | (with_reducible exact ih1 _ _ _ _ _ _ _ _ _ _ _ _ _ _ _)
 | (with_reducible exact ih2 _ _ _ _ _ _ _ _ _ _ _ _ _ _)
 | (with_reducible exact ih3 _ _ _ _)
 | (with_reducible exact ih4 _ _ _ _)
 | (with_reducible exact LeO.refl _)
 | (with_reducible exact LeO.none _)
 | (with_reducible refine LeO.ite ?_ ?_)
 | (with_reducible refine LeO.bind ?_ (fun _ => ?_))
    · intro y0 y1 y2 y3
      unfold spinnakerref37_Known.j3
      repeat' first
 | (with_reducible exact ih0 _ _ _ _)
 | (with_reducible exact ih1 _ _ _ _ _ _ _ _ _ _ _ _ _ _ _)
 | (with_reducible exact ih2 _ _ _ _ _ _ _ _ _ _ _ _ _ _)
 | (with_reducible exact ih3 _ _ _ _)
 | (with_reducible exact ih4 _ _ _ _)
 | (with_reducible exact LeO.refl _)
 | (with_reducible exact LeO.none _)
 | (with_reducible refine LeO.ite ?_ ?_)
 | (with_reducible refine LeO.bind ?_ (fun _ => ?_))
    · intro y0 y1 y2 y3
      unfold spinnakerref37_Known.l1
      repeat' first
 | (with_reducible exact ih0 _ _ _ _)
 | (with_reducible exact ih1 _ _ _ _ _ _ _ _ _ _ _ _ _ _ _)
 | (with_reducible exact ih2 _ _ _ _ _ _ _ _ _ _ _ _ _ _)
 | (with_reducible exact ih3 _ _ _ _)
 | (with_reducible exact ih4 _ _ _ _)
 | (with_reducible exact LeO.refl _)
 | (with_reducible exact LeO.none _)
 | (with_reducible refine LeO.ite ?_ ?_)
 | (with_reducible refine LeO.bind ?_ (fun _ => ?_))
theorem spinnakerref37_Known.mono : ∀ a0 a1 a2 k, LeO (spinnakerref37_Known.f k a0 a1 a2) (spinnakerref37_Known.f (k + 1) a0 a1 a2) := by
  intro a0 a1 a2 k; obtain ⟨ih0, ih1, ih2, ih3, ih4⟩ := spinnakerref37_Known.mono_l k; unfold spinnakerref37_Known.f
  repeat' first
 | (with_reducible exact ih0 _ _ _ _)
 | (with_reducible exact ih1 _ _ _ _ _ _ _ _ _ _ _ _ _ _ _)
 | (with_reducible exact ih2 _ _ _ _ _ _ _ _ _ _ _ _ _ _)
 | (with_reducible exact ih3 _ _ _ _)
 | (with_reducible exact ih4 _ _ _ _)
 | (with_reducible exact LeO.refl _)
 | (with_reducible exact LeO.none _)
 | (with_reducible refine LeO.ite ?_ ?_)
 | (with_reducible refine LeO.bind ?_ (fun _ => ?_))
theorem z38_0 {p : Prop} (h : p := by first | rfl | (simp; done) | (simp [*]; done)) : p := h
theorem z38_1 {p : Prop} (h : p := by first | (with_reducible assumption) | assumption) : p := h
set_option maxHeartbeats 8000000 in
set_option maxRecDepth 100000 in
theorem spinnakerref37_Known.calls (k : Nat) (A0 : Option Addr) (c0 : Nat) (l0 : List (S38)) (a1 : Int) (a2 : Int) (r : Int) (w : World) (hr0 : Kd.C k38 w A0 l0.length l0) (hc0 : l0.length ≤ c0) (h : spinnakerref37_Known.f k l0 a1 a2 = some r) :
  Calls Tryd.prog 38 #[.slice A0 l0.length c0, .int .i64 a1, .int .i64 a2] w fun e w' => e = .returned (.int .i64 r) ∧ Below w.heap.size w w' := by
 have hu38 := Tryd.underlying38; have HR0 := Aside0.mk hr0; have HC0 := Aside0.mk hc0; clear hr0 hc0; have HB := Aside0.mk (Below.refl w.heap.size w); have H : (spinnakerref37_Known.l0 k l0 a1 a2 (wrap64 (a1 - 1))) = some r := h; clear h; have H' := Aside0.mk H; clear H
 go_enter Tryd.func38, Tryd.ntmps38
 go_wp2
 go_loopg [7] k (fun kq v7 w' => ∃ (x7_1 : Int), v7 = .int .i64 x7_1 ∧ Aside0 (spinnakerref37_Known.l0 kq l0 a1 a2 x7_1 = some r) ∧ Aside0 (kq ≤ k) ∧ Aside0 (Below w.heap.size w w'))
 case atStart => exact ⟨(wrap64 (a1 - 1)), z38_0, H', ⟨Nat.le_refl _⟩, ⟨by repeat (first | (with_reducible first | exact HB.out | apply below_alloc | apply pw_below_drewN | apply below_drew1) | exact HB.out)⟩⟩
 case round =>
  clear H'; obtain ⟨x7_1, rfl, HA, HK1, HB⟩ := hrel
  cases gk with
  | zero => exact absurd HA.out (by simp [spinnakerref37_Known.l0])
  | succ k1 =>
   have H := HA.out; clear HA; simp only [spinnakerref37_Known.l0] at H
   by_cases c4 : x7_1 ≥ 0
   ·rw [if_pos c4] at H
    have c4b0 : decide (0 ≤ x7_1) = true := decide_eq_true c4; clear c4
    by_cases c5 : 0 ≤ x7_1
    ·rw [if_pos c5] at H
     have c5b0 : decide (0 ≤ x7_1) = true := decide_eq_true c5; clear c5
     by_cases c6 : x7_1 < (l0.length : Int)
     ·rw [if_pos c6] at H
      have c6b0 : decide (x7_1 < (l0.length : Int)) = true := decide_eq_true c6; clear c6; have HC7 := Aside0.mk H; clear H; have p173 : 0 ≤ (x7_1 : Int) := of_decide_eq_true z38_1; have q173 : x7_1 < (l0.length : Int) := of_decide_eq_true z38_1; obtain ⟨ad173, e173, hx173_0, hx173_1, hx173_2, hx173_3, hx173_4, hx173_5, hx173_6, hx173_7⟩ := at_T38 HR0.out x7_1 p173 q173
      cases e173
      replace hx173_0 := (HB.out.cell (World.block_lt_of_cell? w _ hx173_0)).trans hx173_0; replace hx173_1 := (HB.out.cell (World.block_lt_of_cell? w _ hx173_1)).trans hx173_1; replace hx173_2 := (HB.out.cell (World.block_lt_of_cell? w _ hx173_2)).trans hx173_2; replace hx173_3 := (HB.out.cell (World.block_lt_of_cell? w _ hx173_3)).trans hx173_3; replace hx173_4 := (HB.out.cell (World.block_lt_of_cell? w _ hx173_4)).trans hx173_4; replace hx173_5 := (HB.out.cell (World.block_lt_of_cell? w _ hx173_5)).trans hx173_5; replace hx173_6 := (HB.out.cell (World.block_lt_of_cell? w _ hx173_6)).trans hx173_6; replace hx173_7 := (HB.out.cell (World.block_lt_of_cell? w _ hx173_7)).trans hx173_7; replace p173 := eq_true p173; replace q173 := eq_true q173
      go_upto_region 7 with (first | ((with_reducible refine gate_dst (N := 8) rfl ?_); refine box_event ?hg (N := 8) ?hd (cs := #[.int .i64 0, .int .i64 0, .int .i64 0, .int .i64 0, .int .i64 0, .int .i64 0, .int .i64 0, .int .i64 0]) (t := 38) ?hr ?_; (case hd => rfl); (case hg => rfl); (case hr => first | (go_simp; done) | (go_simp; rfl)); intro gb174 hg w8 hbox hb; have n0_ := Aside0.mk (below_step (by repeat (first | (with_reducible first | exact HB.out | apply below_alloc | apply pw_below_drewN | apply below_drew1) | exact HB.out)) hb); have n1_ := Aside0.mk (hbox); have n2_ := Aside0.mk ((by rw [hg]; exact (below_size (by repeat (first | (with_reducible first | exact HB.out | apply below_alloc | apply pw_below_drewN | apply below_drew1) | exact HB.out))) : w.heap.size ≤ gb174)); have n3_ := n2_; clear HB; revert n0_ n1_ n2_ n3_; intro HB BK174 GW174 GE174; clear hb hbox hg; have hcz9_0 : w8.cell? ⟨gb174, 0, none⟩ = some (.int .i64 0) := (blk_cell BK174.out 0).trans rfl; have hcz9_1 : w8.cell? ⟨gb174, 1, none⟩ = some (.int .i64 0) := (blk_cell BK174.out 1).trans rfl; have hcz9_2 : w8.cell? ⟨gb174, 2, none⟩ = some (.int .i64 0) := (blk_cell BK174.out 2).trans rfl; have hcz9_3 : w8.cell? ⟨gb174, 3, none⟩ = some (.int .i64 0) := (blk_cell BK174.out 3).trans rfl; have hcz9_4 : w8.cell? ⟨gb174, 4, none⟩ = some (.int .i64 0) := (blk_cell BK174.out 4).trans rfl; have hcz9_5 : w8.cell? ⟨gb174, 5, none⟩ = some (.int .i64 0) := (blk_cell BK174.out 5).trans rfl; have hcz9_6 : w8.cell? ⟨gb174, 6, none⟩ = some (.int .i64 0) := (blk_cell BK174.out 6).trans rfl; have hcz9_7 : w8.cell? ⟨gb174, 7, none⟩ = some (.int .i64 0) := (blk_cell BK174.out 7).trans rfl; have hfz9_0 := blk_frozen BK174.out 0; have hfz9_1 := blk_frozen BK174.out 1; have hfz9_2 := blk_frozen BK174.out 2; have hfz9_3 := blk_frozen BK174.out 3; have hfz9_4 := blk_frozen BK174.out 4; have hfz9_5 := blk_frozen BK174.out 5; have hfz9_6 := blk_frozen BK174.out 6; have hfz9_7 := blk_frozen BK174.out 7))
      (try simp only [Act.put, List.setIfInBounds_toArray, List.set_cons_zero, List.set_cons_succ])
      go_cut [9, 10, 52] (fun v9 v10 v52 wc => ∃ (kq : Nat) (x9_6 : Bool) (x10_6 : Bool) (x52_6 : Bool), v9 = .bool x9_6 ∧ v10 = .bool x10_6 ∧ v52 = .bool x52_6 ∧ Aside0 (spinnakerref37_Known.j1 kq l0 a1 a2 x7_1 x9_6 x10_6 x52_6 ((rd_T38 l0 x7_1).f0) ((rd_T38 l0 x7_1).f1) ((rd_T38 l0 x7_1).f2) ((rd_T38 l0 x7_1).f3) ((rd_T38 l0 x7_1).f4) ((rd_T38 l0 x7_1).f5) ((rd_T38 l0 x7_1).f6) ((rd_T38 l0 x7_1).f7) = some r) ∧ Aside0 (kq ≤ k1) ∧ Aside0 (wc.heap[gb174]? = some (.cells #[.int .i64 ((rd_T38 l0 x7_1).f0), .int .i64 ((rd_T38 l0 x7_1).f1), .int .i64 ((rd_T38 l0 x7_1).f2), .int .i64 ((rd_T38 l0 x7_1).f3), .int .i64 ((rd_T38 l0 x7_1).f4), .int .i64 ((rd_T38 l0 x7_1).f5), .int .i64 ((rd_T38 l0 x7_1).f6), .int .i64 ((rd_T38 l0 x7_1).f7)] 38 (0, 0))) ∧ Aside0 (Below w.heap.size w wc))
      case first =>
       have H := HC7.out; clear HC7
       by_cases c10 : ((rd_T38 l0 x7_1).f0) = 10
       ·rw [if_pos c10] at H
        have c10b0 : (((rd_T38 l0 x7_1).f0) == 10) = true := beq_iff_eq.mpr c10; have c10b1 : (((rd_T38 l0 x7_1).f0) != 10) = false := bne_eq_false_iff_eq.mpr c10; clear c10; (first | rw [c10b0] | (simp only [i64_w, i32_w]; rw [c10b0]) | rw [c10b1] | skip); have H' := Aside0.mk H; clear H; obtain ⟨hcz11_0, hcz11_1, hcz11_2, hcz11_3, hcz11_4, hcz11_5, hcz11_6, hcz11_7⟩ := bC8 BK174.out; obtain ⟨hfz11_0, hfz11_1, hfz11_2, hfz11_3, hfz11_4, hfz11_5, hfz11_6, hfz11_7⟩ := bF8 BK174.out
        go_wp2
        go_meet
        case rel => exact ⟨_, ((((rd_T38 l0 x7_1).f0) == 6)), ((((rd_T38 l0 x7_1).f0) == 7)), (true), z38_0, z38_0, z38_0, H', ⟨by have := HK1.out; first | omega | exact Nat.le_refl _⟩, ⟨by (with_reducible repeat (first | refine blk_drewN ?_ _ | refine blk_drew ?_ | refine blk_alloc ?_ _)); refine blk_put (cs := #[.int .i64 ((rd_T38 l0 x7_1).f0), .int .i64 ((rd_T38 l0 x7_1).f1), .int .i64 ((rd_T38 l0 x7_1).f2), .int .i64 ((rd_T38 l0 x7_1).f3), .int .i64 ((rd_T38 l0 x7_1).f4), .int .i64 ((rd_T38 l0 x7_1).f5), .int .i64 ((rd_T38 l0 x7_1).f6), .int .i64 0]) ?_ 7 _ rfl; (with_reducible repeat (first | refine blk_drewN ?_ _ | refine blk_drew ?_ | refine blk_alloc ?_ _)); refine blk_put (cs := #[.int .i64 ((rd_T38 l0 x7_1).f0), .int .i64 ((rd_T38 l0 x7_1).f1), .int .i64 ((rd_T38 l0 x7_1).f2), .int .i64 ((rd_T38 l0 x7_1).f3), .int .i64 ((rd_T38 l0 x7_1).f4), .int .i64 ((rd_T38 l0 x7_1).f5), .int .i64 0, .int .i64 0]) ?_ 6 _ rfl; (with_reducible repeat (first | refine blk_drewN ?_ _ | refine blk_drew ?_ | refine blk_alloc ?_ _)); refine blk_put (cs := #[.int .i64 ((rd_T38 l0 x7_1).f0), .int .i64 ((rd_T38 l0 x7_1).f1), .int .i64 ((rd_T38 l0 x7_1).f2), .int .i64 ((rd_T38 l0 x7_1).f3), .int .i64 ((rd_T38 l0 x7_1).f4), .int .i64 0, .int .i64 0, .int .i64 0]) ?_ 5 _ rfl; (with_reducible repeat (first | refine blk_drewN ?_ _ | refine blk_drew ?_ | refine blk_alloc ?_ _)); refine blk_put (cs := #[.int .i64 ((rd_T38 l0 x7_1).f0), .int .i64 ((rd_T38 l0 x7_1).f1), .int .i64 ((rd_T38 l0 x7_1).f2), .int .i64 ((rd_T38 l0 x7_1).f3), .int .i64 0, .int .i64 0, .int .i64 0, .int .i64 0]) ?_ 4 _ rfl; (with_reducible repeat (first | refine blk_drewN ?_ _ | refine blk_drew ?_ | refine blk_alloc ?_ _)); refine blk_put (cs := #[.int .i64 ((rd_T38 l0 x7_1).f0), .int .i64 ((rd_T38 l0 x7_1).f1), .int .i64 ((rd_T38 l0 x7_1).f2), .int .i64 0, .int .i64 0, .int .i64 0, .int .i64 0, .int .i64 0]) ?_ 3 _ rfl; (with_reducible repeat (first | refine blk_drewN ?_ _ | refine blk_drew ?_ | refine blk_alloc ?_ _)); refine blk_put (cs := #[.int .i64 ((rd_T38 l0 x7_1).f0), .int .i64 ((rd_T38 l0 x7_1).f1), .int .i64 0, .int .i64 0, .int .i64 0, .int .i64 0, .int .i64 0, .int .i64 0]) ?_ 2 _ rfl; (with_reducible repeat (first | refine blk_drewN ?_ _ | refine blk_drew ?_ | refine blk_alloc ?_ _)); refine blk_put (cs := #[.int .i64 ((rd_T38 l0 x7_1).f0), .int .i64 0, .int .i64 0, .int .i64 0, .int .i64 0, .int .i64 0, .int .i64 0, .int .i64 0]) ?_ 1 _ rfl; (with_reducible repeat (first | refine blk_drewN ?_ _ | refine blk_drew ?_ | refine blk_alloc ?_ _)); refine blk_put (cs := #[.int .i64 0, .int .i64 0, .int .i64 0, .int .i64 0, .int .i64 0, .int .i64 0, .int .i64 0, .int .i64 0]) ?_ 0 _ rfl; (with_reducible repeat (first | refine blk_drewN ?_ _ | refine blk_drew ?_ | refine blk_alloc ?_ _)); exact BK174.out⟩, ⟨by repeat (first | (with_reducible first | exact HB.out | apply below_alloc | apply pw_below_drewN | apply below_drew1 | refine below_set ?_ GE174.out) | exact HB.out)⟩⟩
       ·rw [if_neg c10] at H
        have c10b0 : (((rd_T38 l0 x7_1).f0) == 10) = false := beq_eq_false_iff_ne.mpr c10; have c10b1 : (((rd_T38 l0 x7_1).f0) != 10) = true := bne_iff_ne.mpr c10; (first | rw [c10b0] | (simp only [i64_w, i32_w]; rw [c10b0]) | rw [c10b1] | skip)
        by_cases c12 : ((rd_T38 l0 x7_1).f0) = 8
        ·rw [if_pos c12] at H
         have c12b0 : (((rd_T38 l0 x7_1).f0) == 8) = true := beq_iff_eq.mpr c12; have c12b1 : (((rd_T38 l0 x7_1).f0) != 8) = false := bne_eq_false_iff_eq.mpr c12; clear c12; have H' := Aside0.mk H; clear H; obtain ⟨hcz13_0, hcz13_1, hcz13_2, hcz13_3, hcz13_4, hcz13_5, hcz13_6, hcz13_7⟩ := bC8 BK174.out; obtain ⟨hfz13_0, hfz13_1, hfz13_2, hfz13_3, hfz13_4, hfz13_5, hfz13_6, hfz13_7⟩ := bF8 BK174.out
         go_wp2
         go_meet
         case rel => exact ⟨_, ((((rd_T38 l0 x7_1).f0) == 6)), ((((rd_T38 l0 x7_1).f0) == 7)), (true), z38_0, z38_0, z38_0, H', ⟨by have := HK1.out; first | omega | exact Nat.le_refl _⟩, ⟨by (with_reducible repeat (first | refine blk_drewN ?_ _ | refine blk_drew ?_ | refine blk_alloc ?_ _)); refine blk_put (cs := #[.int .i64 ((rd_T38 l0 x7_1).f0), .int .i64 ((rd_T38 l0 x7_1).f1), .int .i64 ((rd_T38 l0 x7_1).f2), .int .i64 ((rd_T38 l0 x7_1).f3), .int .i64 ((rd_T38 l0 x7_1).f4), .int .i64 ((rd_T38 l0 x7_1).f5), .int .i64 ((rd_T38 l0 x7_1).f6), .int .i64 0]) ?_ 7 _ rfl; (with_reducible repeat (first | refine blk_drewN ?_ _ | refine blk_drew ?_ | refine blk_alloc ?_ _)); refine blk_put (cs := #[.int .i64 ((rd_T38 l0 x7_1).f0), .int .i64 ((rd_T38 l0 x7_1).f1), .int .i64 ((rd_T38 l0 x7_1).f2), .int .i64 ((rd_T38 l0 x7_1).f3), .int .i64 ((rd_T38 l0 x7_1).f4), .int .i64 ((rd_T38 l0 x7_1).f5), .int .i64 0, .int .i64 0]) ?_ 6 _ rfl; (with_reducible repeat (first | refine blk_drewN ?_ _ | refine blk_drew ?_ | refine blk_alloc ?_ _)); refine blk_put (cs := #[.int .i64 ((rd_T38 l0 x7_1).f0), .int .i64 ((rd_T38 l0 x7_1).f1), .int .i64 ((rd_T38 l0 x7_1).f2), .int .i64 ((rd_T38 l0 x7_1).f3), .int .i64 ((rd_T38 l0 x7_1).f4), .int .i64 0, .int .i64 0, .int .i64 0]) ?_ 5 _ rfl; (with_reducible repeat (first | refine blk_drewN ?_ _ | refine blk_drew ?_ | refine blk_alloc ?_ _)); refine blk_put (cs := #[.int .i64 ((rd_T38 l0 x7_1).f0), .int .i64 ((rd_T38 l0 x7_1).f1), .int .i64 ((rd_T38 l0 x7_1).f2), .int .i64 ((rd_T38 l0 x7_1).f3), .int .i64 0, .int .i64 0, .int .i64 0, .int .i64 0]) ?_ 4 _ rfl; (with_reducible repeat (first | refine blk_drewN ?_ _ | refine blk_drew ?_ | refine blk_alloc ?_ _)); refine blk_put (cs := #[.int .i64 ((rd_T38 l0 x7_1).f0), .int .i64 ((rd_T38 l0 x7_1).f1), .int .i64 ((rd_T38 l0 x7_1).f2), .int .i64 0, .int .i64 0, .int .i64 0, .int .i64 0, .int .i64 0]) ?_ 3 _ rfl; (with_reducible repeat (first | refine blk_drewN ?_ _ | refine blk_drew ?_ | refine blk_alloc ?_ _)); refine blk_put (cs := #[.int .i64 ((rd_T38 l0 x7_1).f0), .int .i64 ((rd_T38 l0 x7_1).f1), .int .i64 0, .int .i64 0, .int .i64 0, .int .i64 0, .int .i64 0, .int .i64 0]) ?_ 2 _ rfl; (with_reducible repeat (first | refine blk_drewN ?_ _ | refine blk_drew ?_ | refine blk_alloc ?_ _)); refine blk_put (cs := #[.int .i64 ((rd_T38 l0 x7_1).f0), .int .i64 0, .int .i64 0, .int .i64 0, .int .i64 0, .int .i64 0, .int .i64 0, .int .i64 0]) ?_ 1 _ rfl; (with_reducible repeat (first | refine blk_drewN ?_ _ | refine blk_drew ?_ | refine blk_alloc ?_ _)); refine blk_put (cs := #[.int .i64 0, .int .i64 0, .int .i64 0, .int .i64 0, .int .i64 0, .int .i64 0, .int .i64 0, .int .i64 0]) ?_ 0 _ rfl; (with_reducible repeat (first | refine blk_drewN ?_ _ | refine blk_drew ?_ | refine blk_alloc ?_ _)); exact BK174.out⟩, ⟨by repeat (first | (with_reducible first | exact HB.out | apply below_alloc | apply pw_below_drewN | apply below_drew1 | refine below_set ?_ GE174.out) | exact HB.out)⟩⟩
        ·rw [if_neg c12] at H
         have c12b0 : (((rd_T38 l0 x7_1).f0) == 8) = false := beq_eq_false_iff_ne.mpr c12; have c12b1 : (((rd_T38 l0 x7_1).f0) != 8) = true := bne_iff_ne.mpr c12
         by_cases c14 : ((rd_T38 l0 x7_1).f0) = 9
         ·rw [if_pos c14] at H
          have c14b0 : (((rd_T38 l0 x7_1).f0) == 9) = true := beq_iff_eq.mpr c14; have c14b1 : (((rd_T38 l0 x7_1).f0) != 9) = false := bne_eq_false_iff_eq.mpr c14; clear c14; have H' := Aside0.mk H; clear H; obtain ⟨hcz15_0, hcz15_1, hcz15_2, hcz15_3, hcz15_4, hcz15_5, hcz15_6, hcz15_7⟩ := bC8 BK174.out; obtain ⟨hfz15_0, hfz15_1, hfz15_2, hfz15_3, hfz15_4, hfz15_5, hfz15_6, hfz15_7⟩ := bF8 BK174.out
          go_wp2
          go_meet
          case rel => exact ⟨_, ((((rd_T38 l0 x7_1).f0) == 6)), ((((rd_T38 l0 x7_1).f0) == 7)), (true), z38_0, z38_0, z38_0, H', ⟨by have := HK1.out; first | omega | exact Nat.le_refl _⟩, ⟨by (with_reducible repeat (first | refine blk_drewN ?_ _ | refine blk_drew ?_ | refine blk_alloc ?_ _)); refine blk_put (cs := #[.int .i64 ((rd_T38 l0 x7_1).f0), .int .i64 ((rd_T38 l0 x7_1).f1), .int .i64 ((rd_T38 l0 x7_1).f2), .int .i64 ((rd_T38 l0 x7_1).f3), .int .i64 ((rd_T38 l0 x7_1).f4), .int .i64 ((rd_T38 l0 x7_1).f5), .int .i64 ((rd_T38 l0 x7_1).f6), .int .i64 0]) ?_ 7 _ rfl; (with_reducible repeat (first | refine blk_drewN ?_ _ | refine blk_drew ?_ | refine blk_alloc ?_ _)); refine blk_put (cs := #[.int .i64 ((rd_T38 l0 x7_1).f0), .int .i64 ((rd_T38 l0 x7_1).f1), .int .i64 ((rd_T38 l0 x7_1).f2), .int .i64 ((rd_T38 l0 x7_1).f3), .int .i64 ((rd_T38 l0 x7_1).f4), .int .i64 ((rd_T38 l0 x7_1).f5), .int .i64 0, .int .i64 0]) ?_ 6 _ rfl; (with_reducible repeat (first | refine blk_drewN ?_ _ | refine blk_drew ?_ | refine blk_alloc ?_ _)); refine blk_put (cs := #[.int .i64 ((rd_T38 l0 x7_1).f0), .int .i64 ((rd_T38 l0 x7_1).f1), .int .i64 ((rd_T38 l0 x7_1).f2), .int .i64 ((rd_T38 l0 x7_1).f3), .int .i64 ((rd_T38 l0 x7_1).f4), .int .i64 0, .int .i64 0, .int .i64 0]) ?_ 5 _ rfl; (with_reducible repeat (first | refine blk_drewN ?_ _ | refine blk_drew ?_ | refine blk_alloc ?_ _)); refine blk_put (cs := #[.int .i64 ((rd_T38 l0 x7_1).f0), .int .i64 ((rd_T38 l0 x7_1).f1), .int .i64 ((rd_T38 l0 x7_1).f2), .int .i64 ((rd_T38 l0 x7_1).f3), .int .i64 0, .int .i64 0, .int .i64 0, .int .i64 0]) ?_ 4 _ rfl; (with_reducible repeat (first | refine blk_drewN ?_ _ | refine blk_drew ?_ | refine blk_alloc ?_ _)); refine blk_put (cs := #[.int .i64 ((rd_T38 l0 x7_1).f0), .int .i64 ((rd_T38 l0 x7_1).f1), .int .i64 ((rd_T38 l0 x7_1).f2), .int .i64 0, .int .i64 0, .int .i64 0, .int .i64 0, .int .i64 0]) ?_ 3 _ rfl; (with_reducible repeat (first | refine blk_drewN ?_ _ | refine blk_drew ?_ | refine blk_alloc ?_ _)); refine blk_put (cs := #[.int .i64 ((rd_T38 l0 x7_1).f0), .int .i64 ((rd_T38 l0 x7_1).f1), .int .i64 0, .int .i64 0, .int .i64 0, .int .i64 0, .int .i64 0, .int .i64 0]) ?_ 2 _ rfl; (with_reducible repeat (first | refine blk_drewN ?_ _ | refine blk_drew ?_ | refine blk_alloc ?_ _)); refine blk_put (cs := #[.int .i64 ((rd_T38 l0 x7_1).f0), .int .i64 0, .int .i64 0, .int .i64 0, .int .i64 0, .int .i64 0, .int .i64 0, .int .i64 0]) ?_ 1 _ rfl; (with_reducible repeat (first | refine blk_drewN ?_ _ | refine blk_drew ?_ | refine blk_alloc ?_ _)); refine blk_put (cs := #[.int .i64 0, .int .i64 0, .int .i64 0, .int .i64 0, .int .i64 0, .int .i64 0, .int .i64 0, .int .i64 0]) ?_ 0 _ rfl; (with_reducible repeat (first | refine blk_drewN ?_ _ | refine blk_drew ?_ | refine blk_alloc ?_ _)); exact BK174.out⟩, ⟨by repeat (first | (with_reducible first | exact HB.out | apply below_alloc | apply pw_below_drewN | apply below_drew1 | refine below_set ?_ GE174.out) | exact HB.out)⟩⟩
         ·rw [if_neg c14] at H
          have c14b0 : (((rd_T38 l0 x7_1).f0) == 9) = false := beq_eq_false_iff_ne.mpr c14; have c14b1 : (((rd_T38 l0 x7_1).f0) != 9) = true := bne_iff_ne.mpr c14
          by_cases c16 : ((rd_T38 l0 x7_1).f0) = 6
          ·rw [if_pos c16] at H
           have c16b0 : (((rd_T38 l0 x7_1).f0) == 6) = true := beq_iff_eq.mpr c16; have c16b1 : (((rd_T38 l0 x7_1).f0) != 6) = false := bne_eq_false_iff_eq.mpr c16; clear c16; have H' := Aside0.mk H; clear H; obtain ⟨hcz17_0, hcz17_1, hcz17_2, hcz17_3, hcz17_4, hcz17_5, hcz17_6, hcz17_7⟩ := bC8 BK174.out; obtain ⟨hfz17_0, hfz17_1, hfz17_2, hfz17_3, hfz17_4, hfz17_5, hfz17_6, hfz17_7⟩ := bF8 BK174.out
           go_wp2
           go_meet
           case rel => exact ⟨_, ((((rd_T38 l0 x7_1).f0) == 6)), ((((rd_T38 l0 x7_1).f0) == 7)), ((((rd_T38 l0 x7_1).f6) != 0)), z38_0, z38_0, z38_0, H', ⟨by have := HK1.out; first | omega | exact Nat.le_refl _⟩, ⟨by (with_reducible repeat (first | refine blk_drewN ?_ _ | refine blk_drew ?_ | refine blk_alloc ?_ _)); refine blk_put (cs := #[.int .i64 ((rd_T38 l0 x7_1).f0), .int .i64 ((rd_T38 l0 x7_1).f1), .int .i64 ((rd_T38 l0 x7_1).f2), .int .i64 ((rd_T38 l0 x7_1).f3), .int .i64 ((rd_T38 l0 x7_1).f4), .int .i64 ((rd_T38 l0 x7_1).f5), .int .i64 ((rd_T38 l0 x7_1).f6), .int .i64 0]) ?_ 7 _ rfl; (with_reducible repeat (first | refine blk_drewN ?_ _ | refine blk_drew ?_ | refine blk_alloc ?_ _)); refine blk_put (cs := #[.int .i64 ((rd_T38 l0 x7_1).f0), .int .i64 ((rd_T38 l0 x7_1).f1), .int .i64 ((rd_T38 l0 x7_1).f2), .int .i64 ((rd_T38 l0 x7_1).f3), .int .i64 ((rd_T38 l0 x7_1).f4), .int .i64 ((rd_T38 l0 x7_1).f5), .int .i64 0, .int .i64 0]) ?_ 6 _ rfl; (with_reducible repeat (first | refine blk_drewN ?_ _ | refine blk_drew ?_ | refine blk_alloc ?_ _)); refine blk_put (cs := #[.int .i64 ((rd_T38 l0 x7_1).f0), .int .i64 ((rd_T38 l0 x7_1).f1), .int .i64 ((rd_T38 l0 x7_1).f2), .int .i64 ((rd_T38 l0 x7_1).f3), .int .i64 ((rd_T38 l0 x7_1).f4), .int .i64 0, .int .i64 0, .int .i64 0]) ?_ 5 _ rfl; (with_reducible repeat (first | refine blk_drewN ?_ _ | refine blk_drew ?_ | refine blk_alloc ?_ _)); refine blk_put (cs := #[.int .i64 ((rd_T38 l0 x7_1).f0), .int .i64 ((rd_T38 l0 x7_1).f1), .int .i64 ((rd_T38 l0 x7_1).f2), .int .i64 ((rd_T38 l0 x7_1).f3), .int .i64 0, .int .i64 0, .int .i64 0, .int .i64 0]) ?_ 4 _ rfl; (with_reducible repeat (first | refine blk_drewN ?_ _ | refine blk_drew ?_ | refine blk_alloc ?_ _)); refine blk_put (cs := #[.int .i64 ((rd_T38 l0 x7_1).f0), .int .i64 ((rd_T38 l0 x7_1).f1), .int .i64 ((rd_T38 l0 x7_1).f2), .int .i64 0, .int .i64 0, .int .i64 0, .int .i64 0, .int .i64 0]) ?_ 3 _ rfl; (with_reducible repeat (first | refine blk_drewN ?_ _ | refine blk_drew ?_ | refine blk_alloc ?_ _)); refine blk_put (cs := #[.int .i64 ((rd_T38 l0 x7_1).f0), .int .i64 ((rd_T38 l0 x7_1).f1), .int .i64 0, .int .i64 0, .int .i64 0, .int .i64 0, .int .i64 0, .int .i64 0]) ?_ 2 _ rfl; (with_reducible repeat (first | refine blk_drewN ?_ _ | refine blk_drew ?_ | refine blk_alloc ?_ _)); refine blk_put (cs := #[.int .i64 ((rd_T38 l0 x7_1).f0), .int .i64 0, .int .i64 0, .int .i64 0, .int .i64 0, .int .i64 0, .int .i64 0, .int .i64 0]) ?_ 1 _ rfl; (with_reducible repeat (first | refine blk_drewN ?_ _ | refine blk_drew ?_ | refine blk_alloc ?_ _)); refine blk_put (cs := #[.int .i64 0, .int .i64 0, .int .i64 0, .int .i64 0, .int .i64 0, .int .i64 0, .int .i64 0, .int .i64 0]) ?_ 0 _ rfl; (with_reducible repeat (first | refine blk_drewN ?_ _ | refine blk_drew ?_ | refine blk_alloc ?_ _)); exact BK174.out⟩, ⟨by repeat (first | (with_reducible first | exact HB.out | apply below_alloc | apply pw_below_drewN | apply below_drew1 | refine below_set ?_ GE174.out) | exact HB.out)⟩⟩
          ·rw [if_neg c16] at H
           have c16b0 : (((rd_T38 l0 x7_1).f0) == 6) = false := beq_eq_false_iff_ne.mpr c16; have c16b1 : (((rd_T38 l0 x7_1).f0) != 6) = true := bne_iff_ne.mpr c16
           by_cases c18 : ((rd_T38 l0 x7_1).f0) = 7
           ·rw [if_pos c18] at H
            have c18b0 : (((rd_T38 l0 x7_1).f0) == 7) = true := beq_iff_eq.mpr c18; have c18b1 : (((rd_T38 l0 x7_1).f0) != 7) = false := bne_eq_false_iff_eq.mpr c18; clear c18; have H' := Aside0.mk H; clear H; obtain ⟨hcz19_0, hcz19_1, hcz19_2, hcz19_3, hcz19_4, hcz19_5, hcz19_6, hcz19_7⟩ := bC8 BK174.out; obtain ⟨hfz19_0, hfz19_1, hfz19_2, hfz19_3, hfz19_4, hfz19_5, hfz19_6, hfz19_7⟩ := bF8 BK174.out
            go_wp2
            go_meet
            case rel => exact ⟨_, ((((rd_T38 l0 x7_1).f0) == 6)), ((((rd_T38 l0 x7_1).f0) == 7)), ((((rd_T38 l0 x7_1).f6) != 0)), z38_0, z38_0, z38_0, H', ⟨by have := HK1.out; first | omega | exact Nat.le_refl _⟩, ⟨by (with_reducible repeat (first | refine blk_drewN ?_ _ | refine blk_drew ?_ | refine blk_alloc ?_ _)); refine blk_put (cs := #[.int .i64 ((rd_T38 l0 x7_1).f0), .int .i64 ((rd_T38 l0 x7_1).f1), .int .i64 ((rd_T38 l0 x7_1).f2), .int .i64 ((rd_T38 l0 x7_1).f3), .int .i64 ((rd_T38 l0 x7_1).f4), .int .i64 ((rd_T38 l0 x7_1).f5), .int .i64 ((rd_T38 l0 x7_1).f6), .int .i64 0]) ?_ 7 _ rfl; (with_reducible repeat (first | refine blk_drewN ?_ _ | refine blk_drew ?_ | refine blk_alloc ?_ _)); refine blk_put (cs := #[.int .i64 ((rd_T38 l0 x7_1).f0), .int .i64 ((rd_T38 l0 x7_1).f1), .int .i64 ((rd_T38 l0 x7_1).f2), .int .i64 ((rd_T38 l0 x7_1).f3), .int .i64 ((rd_T38 l0 x7_1).f4), .int .i64 ((rd_T38 l0 x7_1).f5), .int .i64 0, .int .i64 0]) ?_ 6 _ rfl; (with_reducible repeat (first | refine blk_drewN ?_ _ | refine blk_drew ?_ | refine blk_alloc ?_ _)); refine blk_put (cs := #[.int .i64 ((rd_T38 l0 x7_1).f0), .int .i64 ((rd_T38 l0 x7_1).f1), .int .i64 ((rd_T38 l0 x7_1).f2), .int .i64 ((rd_T38 l0 x7_1).f3), .int .i64 ((rd_T38 l0 x7_1).f4), .int .i64 0, .int .i64 0, .int .i64 0]) ?_ 5 _ rfl; (with_reducible repeat (first | refine blk_drewN ?_ _ | refine blk_drew ?_ | refine blk_alloc ?_ _)); refine blk_put (cs := #[.int .i64 ((rd_T38 l0 x7_1).f0), .int .i64 ((rd_T38 l0 x7_1).f1), .int .i64 ((rd_T38 l0 x7_1).f2), .int .i64 ((rd_T38 l0 x7_1).f3), .int .i64 0, .int .i64 0, .int .i64 0, .int .i64 0]) ?_ 4 _ rfl; (with_reducible repeat (first | refine blk_drewN ?_ _ | refine blk_drew ?_ | refine blk_alloc ?_ _)); refine blk_put (cs := #[.int .i64 ((rd_T38 l0 x7_1).f0), .int .i64 ((rd_T38 l0 x7_1).f1), .int .i64 ((rd_T38 l0 x7_1).f2), .int .i64 0, .int .i64 0, .int .i64 0, .int .i64 0, .int .i64 0]) ?_ 3 _ rfl; (with_reducible repeat (first | refine blk_drewN ?_ _ | refine blk_drew ?_ | refine blk_alloc ?_ _)); refine blk_put (cs := #[.int .i64 ((rd_T38 l0 x7_1).f0), .int .i64 ((rd_T38 l0 x7_1).f1), .int .i64 0, .int .i64 0, .int .i64 0, .int .i64 0, .int .i64 0, .int .i64 0]) ?_ 2 _ rfl; (with_reducible repeat (first | refine blk_drewN ?_ _ | refine blk_drew ?_ | refine blk_alloc ?_ _)); refine blk_put (cs := #[.int .i64 ((rd_T38 l0 x7_1).f0), .int .i64 0, .int .i64 0, .int .i64 0, .int .i64 0, .int .i64 0, .int .i64 0, .int .i64 0]) ?_ 1 _ rfl; (with_reducible repeat (first | refine blk_drewN ?_ _ | refine blk_drew ?_ | refine blk_alloc ?_ _)); refine blk_put (cs := #[.int .i64 0, .int .i64 0, .int .i64 0, .int .i64 0, .int .i64 0, .int .i64 0, .int .i64 0, .int .i64 0]) ?_ 0 _ rfl; (with_reducible repeat (first | refine blk_drewN ?_ _ | refine blk_drew ?_ | refine blk_alloc ?_ _)); exact BK174.out⟩, ⟨by repeat (first | (with_reducible first | exact HB.out | apply below_alloc | apply pw_below_drewN | apply below_drew1 | refine below_set ?_ GE174.out) | exact HB.out)⟩⟩
           ·rw [if_neg c18] at H
            have c18b0 : (((rd_T38 l0 x7_1).f0) == 7) = false := beq_eq_false_iff_ne.mpr c18; have c18b1 : (((rd_T38 l0 x7_1).f0) != 7) = true := bne_iff_ne.mpr c18; have H' := Aside0.mk H; clear H; obtain ⟨hcz20_0, hcz20_1, hcz20_2, hcz20_3, hcz20_4, hcz20_5, hcz20_6, hcz20_7⟩ := bC8 BK174.out; obtain ⟨hfz20_0, hfz20_1, hfz20_2, hfz20_3, hfz20_4, hfz20_5, hfz20_6, hfz20_7⟩ := bF8 BK174.out
            go_wp2
            go_meet
            case rel => exact ⟨_, ((((rd_T38 l0 x7_1).f0) == 6)), ((((rd_T38 l0 x7_1).f0) == 7)), (false), z38_0, z38_0, z38_0, H', ⟨by have := HK1.out; first | omega | exact Nat.le_refl _⟩, ⟨by (with_reducible repeat (first | refine blk_drewN ?_ _ | refine blk_drew ?_ | refine blk_alloc ?_ _)); refine blk_put (cs := #[.int .i64 ((rd_T38 l0 x7_1).f0), .int .i64 ((rd_T38 l0 x7_1).f1), .int .i64 ((rd_T38 l0 x7_1).f2), .int .i64 ((rd_T38 l0 x7_1).f3), .int .i64 ((rd_T38 l0 x7_1).f4), .int .i64 ((rd_T38 l0 x7_1).f5), .int .i64 ((rd_T38 l0 x7_1).f6), .int .i64 0]) ?_ 7 _ rfl; (with_reducible repeat (first | refine blk_drewN ?_ _ | refine blk_drew ?_ | refine blk_alloc ?_ _)); refine blk_put (cs := #[.int .i64 ((rd_T38 l0 x7_1).f0), .int .i64 ((rd_T38 l0 x7_1).f1), .int .i64 ((rd_T38 l0 x7_1).f2), .int .i64 ((rd_T38 l0 x7_1).f3), .int .i64 ((rd_T38 l0 x7_1).f4), .int .i64 ((rd_T38 l0 x7_1).f5), .int .i64 0, .int .i64 0]) ?_ 6 _ rfl; (with_reducible repeat (first | refine blk_drewN ?_ _ | refine blk_drew ?_ | refine blk_alloc ?_ _)); refine blk_put (cs := #[.int .i64 ((rd_T38 l0 x7_1).f0), .int .i64 ((rd_T38 l0 x7_1).f1), .int .i64 ((rd_T38 l0 x7_1).f2), .int .i64 ((rd_T38 l0 x7_1).f3), .int .i64 ((rd_T38 l0 x7_1).f4), .int .i64 0, .int .i64 0, .int .i64 0]) ?_ 5 _ rfl; (with_reducible repeat (first | refine blk_drewN ?_ _ | refine blk_drew ?_ | refine blk_alloc ?_ _)); refine blk_put (cs := #[.int .i64 ((rd_T38 l0 x7_1).f0), .int .i64 ((rd_T38 l0 x7_1).f1), .int .i64 ((rd_T38 l0 x7_1).f2), .int .i64 ((rd_T38 l0 x7_1).f3), .int .i64 0, .int .i64 0, .int .i64 0, .int .i64 0]) ?_ 4 _ rfl; (with_reducible repeat (first | refine blk_drewN ?_ _ | refine blk_drew ?_ | refine blk_alloc ?_ _)); refine blk_put (cs := #[.int .i64 ((rd_T38 l0 x7_1).f0), .int .i64 ((rd_T38 l0 x7_1).f1), .int .i64 ((rd_T38 l0 x7_1).f2), .int .i64 0, .int .i64 0, .int .i64 0, .int .i64 0, .int .i64 0]) ?_ 3 _ rfl; (with_reducible repeat (first | refine blk_drewN ?_ _ | refine blk_drew ?_ | refine blk_alloc ?_ _)); refine blk_put (cs := #[.int .i64 ((rd_T38 l0 x7_1).f0), .int .i64 ((rd_T38 l0 x7_1).f1), .int .i64 0, .int .i64 0, .int .i64 0, .int .i64 0, .int .i64 0, .int .i64 0]) ?_ 2 _ rfl; (with_reducible repeat (first | refine blk_drewN ?_ _ | refine blk_drew ?_ | refine blk_alloc ?_ _)); refine blk_put (cs := #[.int .i64 ((rd_T38 l0 x7_1).f0), .int .i64 0, .int .i64 0, .int .i64 0, .int .i64 0, .int .i64 0, .int .i64 0, .int .i64 0]) ?_ 1 _ rfl; (with_reducible repeat (first | refine blk_drewN ?_ _ | refine blk_drew ?_ | refine blk_alloc ?_ _)); refine blk_put (cs := #[.int .i64 0, .int .i64 0, .int .i64 0, .int .i64 0, .int .i64 0, .int .i64 0, .int .i64 0, .int .i64 0]) ?_ 0 _ rfl; (with_reducible repeat (first | refine blk_drewN ?_ _ | refine blk_drew ?_ | refine blk_alloc ?_ _)); exact BK174.out⟩, ⟨by repeat (first | (with_reducible first | exact HB.out | apply below_alloc | apply pw_below_drewN | apply below_drew1 | refine below_set ?_ GE174.out) | exact HB.out)⟩⟩
      case rest =>
       clear HC7
       try clear c4
       try clear c4b0
       try clear c5
       try clear c5b0
       try clear c6
       try clear c6b0
       try clear hcz9_0
       try clear hcz9_1
       try clear hcz9_2
       try clear hcz9_3
       try clear hcz9_4
       try clear hcz9_5
       try clear hcz9_6
       try clear hcz9_7
       try clear hfz9_0
       try clear hfz9_1
       try clear hfz9_2
       try clear hfz9_3
       try clear hfz9_4
       try clear hfz9_5
       try clear hfz9_6
       try clear hfz9_7
       try clear hx173_0
       try clear hx173_1
       try clear hx173_2
       try clear hx173_3
       try clear hx173_4
       try clear hx173_5
       try clear hx173_6
       try clear hx173_7
       try clear p173
       try clear q173
       obtain ⟨kq, x9_6, x10_6, x52_6, rfl, rfl, rfl, HA, HJ6, BK174, HB⟩ := hcut
       cases kq with
       | zero => exact absurd HA.out (by simp [spinnakerref37_Known.j1])
       | succ kj6 =>
        have H := HA.out; clear HA; simp only [spinnakerref37_Known.j1] at H
        by_cases c21 : x52_6 = true
        ·subst c21
         have H1 : (some (-1)) = some r := by rw [if_pos rfl] at H; exact H
         clear H; have H := H1; clear H1; obtain rfl := Option.some.inj H
         go_wp2
         go_ret
         exact ⟨by first | rfl | (simp [errW_none, errW_some] <;> rfl) | (simp [*, errW_none, errW_some] <;> rfl), by repeat (first | (with_reducible first | exact HB.out | apply below_alloc | apply pw_below_drewN | apply below_drew1 | refine below_set ?_ GE174.out) | exact HB.out)⟩
        ·replace c21 := Bool.eq_false_iff.mpr c21
         subst c21
         have H1 : (if x9_6 = true then (spinnakerref37_Known.j2 kj6 l0 a1 a2 x7_1 x9_6 (((rd_T38 l0 x7_1).f5) != a2) ((rd_T38 l0 x7_1).f0) ((rd_T38 l0 x7_1).f1) ((rd_T38 l0 x7_1).f2) ((rd_T38 l0 x7_1).f3) ((rd_T38 l0 x7_1).f4) ((rd_T38 l0 x7_1).f5) ((rd_T38 l0 x7_1).f6) ((rd_T38 l0 x7_1).f7)) else (if x10_6 = true then (spinnakerref37_Known.j2 kj6 l0 a1 a2 x7_1 x9_6 (((rd_T38 l0 x7_1).f5) != a2) ((rd_T38 l0 x7_1).f0) ((rd_T38 l0 x7_1).f1) ((rd_T38 l0 x7_1).f2) ((rd_T38 l0 x7_1).f3) ((rd_T38 l0 x7_1).f4) ((rd_T38 l0 x7_1).f5) ((rd_T38 l0 x7_1).f6) ((rd_T38 l0 x7_1).f7)) else (spinnakerref37_Known.j2 kj6 l0 a1 a2 x7_1 x9_6 true ((rd_T38 l0 x7_1).f0) ((rd_T38 l0 x7_1).f1) ((rd_T38 l0 x7_1).f2) ((rd_T38 l0 x7_1).f3) ((rd_T38 l0 x7_1).f4) ((rd_T38 l0 x7_1).f5) ((rd_T38 l0 x7_1).f6) ((rd_T38 l0 x7_1).f7)))) = some r := by rw [if_neg (show ¬ (false = true) by decide)] at H; exact H
         clear H; have H := H1; clear H1; have HC22 := Aside0.mk H; clear H
         go_upto_region 9 with (fail)
         go_cut [63] (fun v63 wc => ∃ (kq : Nat) (x63_21 : Bool), v63 = .bool x63_21 ∧ Aside0 (spinnakerref37_Known.j2 kq l0 a1 a2 x7_1 x9_6 x63_21 ((rd_T38 l0 x7_1).f0) ((rd_T38 l0 x7_1).f1) ((rd_T38 l0 x7_1).f2) ((rd_T38 l0 x7_1).f3) ((rd_T38 l0 x7_1).f4) ((rd_T38 l0 x7_1).f5) ((rd_T38 l0 x7_1).f6) ((rd_T38 l0 x7_1).f7) = some r) ∧ Aside0 (kq ≤ kj6) ∧ Aside0 (wc.heap[gb174]? = some (.cells #[.int .i64 ((rd_T38 l0 x7_1).f0), .int .i64 ((rd_T38 l0 x7_1).f1), .int .i64 ((rd_T38 l0 x7_1).f2), .int .i64 ((rd_T38 l0 x7_1).f3), .int .i64 ((rd_T38 l0 x7_1).f4), .int .i64 ((rd_T38 l0 x7_1).f5), .int .i64 ((rd_T38 l0 x7_1).f6), .int .i64 ((rd_T38 l0 x7_1).f7)] 38 (0, 0))) ∧ Aside0 (Below w.heap.size w wc))
         case first =>
          have H := HC22.out; clear HC22
          by_cases c23 : x9_6 = true
          ·subst c23
           have H1 : (spinnakerref37_Known.j2 kj6 l0 a1 a2 x7_1 true (((rd_T38 l0 x7_1).f5) != a2) ((rd_T38 l0 x7_1).f0) ((rd_T38 l0 x7_1).f1) ((rd_T38 l0 x7_1).f2) ((rd_T38 l0 x7_1).f3) ((rd_T38 l0 x7_1).f4) ((rd_T38 l0 x7_1).f5) ((rd_T38 l0 x7_1).f6) ((rd_T38 l0 x7_1).f7)) = some r := by rw [if_pos rfl] at H; exact H
           clear H; have H := H1; clear H1; have H' := Aside0.mk H; clear H; obtain ⟨hcz24_0, hcz24_1, hcz24_2, hcz24_3, hcz24_4, hcz24_5, hcz24_6, hcz24_7⟩ := bC8 BK174.out; obtain ⟨hfz24_0, hfz24_1, hfz24_2, hfz24_3, hfz24_4, hfz24_5, hfz24_6, hfz24_7⟩ := bF8 BK174.out
           go_wp2
           go_meet
           case rel => exact ⟨_, ((((rd_T38 l0 x7_1).f5) != a2)), z38_0, H', ⟨by have := HK1.out; have := HJ6.out; first | omega | exact Nat.le_refl _⟩, ⟨by (with_reducible repeat (first | refine blk_drewN ?_ _ | refine blk_drew ?_ | refine blk_alloc ?_ _)); exact BK174.out⟩, ⟨by repeat (first | (with_reducible first | exact HB.out | apply below_alloc | apply pw_below_drewN | apply below_drew1 | refine below_set ?_ GE174.out) | exact HB.out)⟩⟩
          ·replace c23 := Bool.eq_false_iff.mpr c23
           subst c23
           have H1 : (if x10_6 = true then (spinnakerref37_Known.j2 kj6 l0 a1 a2 x7_1 false (((rd_T38 l0 x7_1).f5) != a2) ((rd_T38 l0 x7_1).f0) ((rd_T38 l0 x7_1).f1) ((rd_T38 l0 x7_1).f2) ((rd_T38 l0 x7_1).f3) ((rd_T38 l0 x7_1).f4) ((rd_T38 l0 x7_1).f5) ((rd_T38 l0 x7_1).f6) ((rd_T38 l0 x7_1).f7)) else (spinnakerref37_Known.j2 kj6 l0 a1 a2 x7_1 false true ((rd_T38 l0 x7_1).f0) ((rd_T38 l0 x7_1).f1) ((rd_T38 l0 x7_1).f2) ((rd_T38 l0 x7_1).f3) ((rd_T38 l0 x7_1).f4) ((rd_T38 l0 x7_1).f5) ((rd_T38 l0 x7_1).f6) ((rd_T38 l0 x7_1).f7))) = some r := by rw [if_neg (show ¬ (false = true) by decide)] at H; exact H
           clear H; have H := H1; clear H1
           by_cases c25 : x10_6 = true
           ·subst c25
            have H1 : (spinnakerref37_Known.j2 kj6 l0 a1 a2 x7_1 false (((rd_T38 l0 x7_1).f5) != a2) ((rd_T38 l0 x7_1).f0) ((rd_T38 l0 x7_1).f1) ((rd_T38 l0 x7_1).f2) ((rd_T38 l0 x7_1).f3) ((rd_T38 l0 x7_1).f4) ((rd_T38 l0 x7_1).f5) ((rd_T38 l0 x7_1).f6) ((rd_T38 l0 x7_1).f7)) = some r := by rw [if_pos rfl] at H; exact H
            clear H; have H := H1; clear H1; have H' := Aside0.mk H; clear H; obtain ⟨hcz26_0, hcz26_1, hcz26_2, hcz26_3, hcz26_4, hcz26_5, hcz26_6, hcz26_7⟩ := bC8 BK174.out; obtain ⟨hfz26_0, hfz26_1, hfz26_2, hfz26_3, hfz26_4, hfz26_5, hfz26_6, hfz26_7⟩ := bF8 BK174.out
            go_wp2
            go_meet
            case rel => exact ⟨_, ((((rd_T38 l0 x7_1).f5) != a2)), z38_0, H', ⟨by have := HK1.out; have := HJ6.out; first | omega | exact Nat.le_refl _⟩, ⟨by (with_reducible repeat (first | refine blk_drewN ?_ _ | refine blk_drew ?_ | refine blk_alloc ?_ _)); exact BK174.out⟩, ⟨by repeat (first | (with_reducible first | exact HB.out | apply below_alloc | apply pw_below_drewN | apply below_drew1 | refine below_set ?_ GE174.out) | exact HB.out)⟩⟩
           ·replace c25 := Bool.eq_false_iff.mpr c25
            subst c25
            have H1 : (spinnakerref37_Known.j2 kj6 l0 a1 a2 x7_1 false true ((rd_T38 l0 x7_1).f0) ((rd_T38 l0 x7_1).f1) ((rd_T38 l0 x7_1).f2) ((rd_T38 l0 x7_1).f3) ((rd_T38 l0 x7_1).f4) ((rd_T38 l0 x7_1).f5) ((rd_T38 l0 x7_1).f6) ((rd_T38 l0 x7_1).f7)) = some r := by rw [if_neg (show ¬ (false = true) by decide)] at H; exact H
            clear H; have H := H1; clear H1; have H' := Aside0.mk H; clear H
            go_wp2
            go_meet
            case rel => exact ⟨_, (true), z38_0, H', ⟨by have := HK1.out; have := HJ6.out; first | omega | exact Nat.le_refl _⟩, ⟨by (with_reducible repeat (first | refine blk_drewN ?_ _ | refine blk_drew ?_ | refine blk_alloc ?_ _)); exact BK174.out⟩, ⟨by repeat (first | (with_reducible first | exact HB.out | apply below_alloc | apply pw_below_drewN | apply below_drew1 | refine below_set ?_ GE174.out) | exact HB.out)⟩⟩
         case rest =>
          clear HC22
          try clear c4
          try clear c4b0
          try clear c5
          try clear c5b0
          try clear c6
          try clear c6b0
          try clear c21
          try clear hcz9_0
          try clear hcz9_1
          try clear hcz9_2
          try clear hcz9_3
          try clear hcz9_4
          try clear hcz9_5
          try clear hcz9_6
          try clear hcz9_7
          try clear hfz9_0
          try clear hfz9_1
          try clear hfz9_2
          try clear hfz9_3
          try clear hfz9_4
          try clear hfz9_5
          try clear hfz9_6
          try clear hfz9_7
          try clear hx173_0
          try clear hx173_1
          try clear hx173_2
          try clear hx173_3
          try clear hx173_4
          try clear hx173_5
          try clear hx173_6
          try clear hx173_7
          try clear p173
          try clear q173
          obtain ⟨kq, x63_21, rfl, HA, HJ21, BK174, HB⟩ := hcut
          cases kq with
          | zero => exact absurd HA.out (by simp [spinnakerref37_Known.j2])
          | succ kj21 =>
           have H := HA.out; clear HA; simp only [spinnakerref37_Known.j2] at H
           by_cases c27 : x63_21 = true
           ·subst c27
            have H1 : (spinnakerref37_Known.l0 kj21 l0 a1 a2 (wrap64 (x7_1 - 1))) = some r := by rw [if_pos rfl] at H; exact H
            clear H; have H := H1; clear H1; have H' := Aside0.mk H; clear H
            go_wp2
            go_roundg kj21
            case measure => have := HK1.out; have := HJ6.out; have := HJ21.out; omega
            case rel => exact ⟨(wrap64 (x7_1 - 1)), z38_0, H', ⟨by have := HK1.out; have := HJ6.out; have := HJ21.out; omega⟩, ⟨by repeat (first | (with_reducible first | exact HB.out | apply below_alloc | apply pw_below_drewN | apply below_drew1 | refine below_set ?_ GE174.out) | exact HB.out)⟩⟩
           ·replace c27 := Bool.eq_false_iff.mpr c27
            subst c27
            have H1 : (if x9_6 = true then (spinnakerref37_Known.j3 kj21 l0 a1 x7_1 ((rd_T38 l0 x7_1).f1)) else (spinnakerref37_Known.j3 kj21 l0 a1 x7_1 ((rd_T38 l0 x7_1).f2))) = some r := by rw [if_neg (show ¬ (false = true) by decide)] at H; exact H
            clear H; have H := H1; clear H1; have HC28 := Aside0.mk H; clear H; obtain ⟨hcz29_0, hcz29_1, hcz29_2, hcz29_3, hcz29_4, hcz29_5, hcz29_6, hcz29_7⟩ := bC8 BK174.out; obtain ⟨hfz29_0, hfz29_1, hfz29_2, hfz29_3, hfz29_4, hfz29_5, hfz29_6, hfz29_7⟩ := bF8 BK174.out
            go_upto_if 66 with (fail)
            go_cut [11] (fun v11 wc => ∃ (kq : Nat) (x11_27 : Int), v11 = .int .i64 x11_27 ∧ Aside0 (spinnakerref37_Known.j3 kq l0 a1 x7_1 x11_27 = some r) ∧ Aside0 (kq ≤ kj21) ∧ Aside0 (wc.heap[gb174]? = some (.cells #[.int .i64 ((rd_T38 l0 x7_1).f0), .int .i64 ((rd_T38 l0 x7_1).f1), .int .i64 ((rd_T38 l0 x7_1).f2), .int .i64 ((rd_T38 l0 x7_1).f3), .int .i64 ((rd_T38 l0 x7_1).f4), .int .i64 ((rd_T38 l0 x7_1).f5), .int .i64 ((rd_T38 l0 x7_1).f6), .int .i64 ((rd_T38 l0 x7_1).f7)] 38 (0, 0))) ∧ Aside0 (Below w.heap.size w wc))
            case first =>
             have H := HC28.out; clear HC28
             by_cases c30 : x9_6 = true
             ·subst c30
              have H1 : (spinnakerref37_Known.j3 kj21 l0 a1 x7_1 ((rd_T38 l0 x7_1).f1)) = some r := by rw [if_pos rfl] at H; exact H
              clear H; have H := H1; clear H1; have H' := Aside0.mk H; clear H; obtain ⟨hcz31_0, hcz31_1, hcz31_2, hcz31_3, hcz31_4, hcz31_5, hcz31_6, hcz31_7⟩ := bC8 BK174.out; obtain ⟨hfz31_0, hfz31_1, hfz31_2, hfz31_3, hfz31_4, hfz31_5, hfz31_6, hfz31_7⟩ := bF8 BK174.out
              go_wp2
              go_meet
              case rel => exact ⟨_, (((rd_T38 l0 x7_1).f1)), z38_0, H', ⟨by have := HK1.out; have := HJ6.out; have := HJ21.out; first | omega | exact Nat.le_refl _⟩, ⟨by (with_reducible repeat (first | refine blk_drewN ?_ _ | refine blk_drew ?_ | refine blk_alloc ?_ _)); exact BK174.out⟩, ⟨by repeat (first | (with_reducible first | exact HB.out | apply below_alloc | apply pw_below_drewN | apply below_drew1 | refine below_set ?_ GE174.out) | exact HB.out)⟩⟩
             ·replace c30 := Bool.eq_false_iff.mpr c30
              subst c30
              have H1 : (spinnakerref37_Known.j3 kj21 l0 a1 x7_1 ((rd_T38 l0 x7_1).f2)) = some r := by rw [if_neg (show ¬ (false = true) by decide)] at H; exact H
              clear H; have H := H1; clear H1; have H' := Aside0.mk H; clear H
              go_wp2
              go_meet
              case rel => exact ⟨_, (((rd_T38 l0 x7_1).f2)), z38_0, H', ⟨by have := HK1.out; have := HJ6.out; have := HJ21.out; first | omega | exact Nat.le_refl _⟩, ⟨by (with_reducible repeat (first | refine blk_drewN ?_ _ | refine blk_drew ?_ | refine blk_alloc ?_ _)); exact BK174.out⟩, ⟨by repeat (first | (with_reducible first | exact HB.out | apply below_alloc | apply pw_below_drewN | apply below_drew1 | refine below_set ?_ GE174.out) | exact HB.out)⟩⟩
            case rest =>
             clear HC28
             try clear c4
             try clear c4b0
             try clear c5
             try clear c5b0
             try clear c6
             try clear c6b0
             try clear c21
             try clear c27
             try clear hcz29_0
             try clear hcz29_1
             try clear hcz29_2
             try clear hcz29_3
             try clear hcz29_4
             try clear hcz29_5
             try clear hcz29_6
             try clear hcz29_7
             try clear hcz9_0
             try clear hcz9_1
             try clear hcz9_2
             try clear hcz9_3
             try clear hcz9_4
             try clear hcz9_5
             try clear hcz9_6
             try clear hcz9_7
             try clear hfz29_0
             try clear hfz29_1
             try clear hfz29_2
             try clear hfz29_3
             try clear hfz29_4
             try clear hfz29_5
             try clear hfz29_6
             try clear hfz29_7
             try clear hfz9_0
             try clear hfz9_1
             try clear hfz9_2
             try clear hfz9_3
             try clear hfz9_4
             try clear hfz9_5
             try clear hfz9_6
             try clear hfz9_7
             try clear hx173_0
             try clear hx173_1
             try clear hx173_2
             try clear hx173_3
             try clear hx173_4
             try clear hx173_5
             try clear hx173_6
             try clear hx173_7
             try clear p173
             try clear q173
             obtain ⟨kq, x11_27, rfl, HA, HJ27, BK174, HB⟩ := hcut
             cases kq with
             | zero => exact absurd HA.out (by simp [spinnakerref37_Known.j3])
             | succ kj27 =>
              have H := HA.out; clear HA; simp only [spinnakerref37_Known.j3] at H; have H' := Aside0.mk H; clear H
              go_wp2
              go_loopg [12] kj27 (fun kq v12 w' => ∃ (x12_5 : Int), v12 = .int .i64 x12_5 ∧ Aside0 (spinnakerref37_Known.l1 kq l0 a1 x11_27 x12_5 = some r) ∧ Aside0 (kq ≤ kj27) ∧ Aside0 (w'.heap[gb174]? = some (.cells #[.int .i64 ((rd_T38 l0 x7_1).f0), .int .i64 ((rd_T38 l0 x7_1).f1), .int .i64 ((rd_T38 l0 x7_1).f2), .int .i64 ((rd_T38 l0 x7_1).f3), .int .i64 ((rd_T38 l0 x7_1).f4), .int .i64 ((rd_T38 l0 x7_1).f5), .int .i64 ((rd_T38 l0 x7_1).f6), .int .i64 ((rd_T38 l0 x7_1).f7)] 38 (0, 0))) ∧ Aside0 (Below w.heap.size w w'))
              case atStart => exact ⟨(wrap64 (x7_1 + 1)), z38_0, H', ⟨Nat.le_refl _⟩, ⟨by (with_reducible repeat (first | refine blk_drewN ?_ _ | refine blk_drew ?_ | refine blk_alloc ?_ _)); exact BK174.out⟩, ⟨by repeat (first | (with_reducible first | exact HB.out | apply below_alloc | apply pw_below_drewN | apply below_drew1 | refine below_set ?_ GE174.out) | exact HB.out)⟩⟩
              case round =>
               clear H'
               try clear c4
               try clear c4b0
               try clear c5
               try clear c5b0
               try clear c6
               try clear c6b0
               try clear c21
               try clear c27
               try clear hcz29_0
               try clear hcz29_1
               try clear hcz29_2
               try clear hcz29_3
               try clear hcz29_4
               try clear hcz29_5
               try clear hcz29_6
               try clear hcz29_7
               try clear hcz9_0
               try clear hcz9_1
               try clear hcz9_2
               try clear hcz9_3
               try clear hcz9_4
               try clear hcz9_5
               try clear hcz9_6
               try clear hcz9_7
               try clear hfz29_0
               try clear hfz29_1
               try clear hfz29_2
               try clear hfz29_3
               try clear hfz29_4
               try clear hfz29_5
               try clear hfz29_6
               try clear hfz29_7
               try clear hfz9_0
               try clear hfz9_1
               try clear hfz9_2
               try clear hfz9_3
               try clear hfz9_4
               try clear hfz9_5
               try clear hfz9_6
               try clear hfz9_7
               try clear hx173_0
               try clear hx173_1
               try clear hx173_2
               try clear hx173_3
               try clear hx173_4
               try clear hx173_5
               try clear hx173_6
               try clear hx173_7
               try clear p173
               try clear q173
               obtain ⟨x12_5, rfl, HA, HK5, BK174, HB⟩ := hrel
               cases gk with
               | zero => exact absurd HA.out (by simp [spinnakerref37_Known.l1])
               | succ k5 =>
                have H := HA.out; clear HA; simp only [spinnakerref37_Known.l1] at H
                by_cases c32 : x12_5 < a1
                ·rw [if_pos c32] at H
                 have c32b0 : decide (x12_5 < a1) = true := decide_eq_true c32; clear c32
                 by_cases c33 : 0 ≤ x12_5
                 ·rw [if_pos c33] at H
                  have c33b0 : decide (0 ≤ x12_5) = true := decide_eq_true c33; clear c33
                  by_cases c34 : x12_5 < (l0.length : Int)
                  ·rw [if_pos c34] at H
                   have c34b0 : decide (x12_5 < (l0.length : Int)) = true := decide_eq_true c34; clear c34; replace H := Option.bind_eq_some_iff.mp H; obtain ⟨t176, A350, H⟩ := H; replace H : (if t176 = true then (some (-1)) else (spinnakerref37_Known.l1 k5 l0 a1 x11_27 (wrap64 (x12_5 + 1)))) = some r := H; have A35 := Aside0.mk A350; clear A350
                   by_cases c36 : t176 = true
                   ·subst c36
                    have H1 : (some (-1)) = some r := by rw [if_pos rfl] at H; exact H
                    clear H; have H := H1; clear H1; obtain rfl := Option.some.inj H; have p175 : 0 ≤ (x12_5 : Int) := of_decide_eq_true z38_1; have q175 : x12_5 < (l0.length : Int) := of_decide_eq_true z38_1; obtain ⟨ad175, e175, hx175_0, hx175_1, hx175_2, hx175_3, hx175_4, hx175_5, hx175_6, hx175_7⟩ := at_T38 HR0.out x12_5 p175 q175; obtain rfl : ad173 = ad175 := (by injection e175); replace hx175_0 := (HB.out.cell (World.block_lt_of_cell? w _ hx175_0)).trans hx175_0; replace hx175_1 := (HB.out.cell (World.block_lt_of_cell? w _ hx175_1)).trans hx175_1; replace hx175_2 := (HB.out.cell (World.block_lt_of_cell? w _ hx175_2)).trans hx175_2; replace hx175_3 := (HB.out.cell (World.block_lt_of_cell? w _ hx175_3)).trans hx175_3; replace hx175_4 := (HB.out.cell (World.block_lt_of_cell? w _ hx175_4)).trans hx175_4; replace hx175_5 := (HB.out.cell (World.block_lt_of_cell? w _ hx175_5)).trans hx175_5; replace hx175_6 := (HB.out.cell (World.block_lt_of_cell? w _ hx175_6)).trans hx175_6; replace hx175_7 := (HB.out.cell (World.block_lt_of_cell? w _ hx175_7)).trans hx175_7; replace p175 := eq_true p175; replace q175 := eq_true q175
                    go_wp2_with (first | ((with_reducible refine gate_callee (f := 63) rfl ?_); refine goesL_ (some 81) rfl rfl Tryd.func63 (by kernel_rfl) rfl #[.agg #[.int .i64 ((rd_T38 l0 x12_5).f0), .int .i64 ((rd_T38 l0 x12_5).f1), .int .i64 ((rd_T38 l0 x12_5).f2), .int .i64 ((rd_T38 l0 x12_5).f3), .int .i64 ((rd_T38 l0 x12_5).f4), .int .i64 ((rd_T38 l0 x12_5).f5), .int .i64 ((rd_T38 l0 x12_5).f6), .int .i64 ((rd_T38 l0 x12_5).f7)], .int .i64 x11_27] rfl (by (try simp only [List.map_toArray, List.map_cons, List.map_nil]); first | done | rfl | (simp only [List.length_drop, List.length_take]; rfl)) ?_; (with_reducible refine (spinnakerref37_writes.calls ((rd_T38 l0 x12_5).f0) ((rd_T38 l0 x12_5).f1) ((rd_T38 l0 x12_5).f2) ((rd_T38 l0 x12_5).f3) ((rd_T38 l0 x12_5).f4) ((rd_T38 l0 x12_5).f5) ((rd_T38 l0 x12_5).f6) ((rd_T38 l0 x12_5).f7) x11_27 true _ A35.out).mono ?_); rintro e w37 ⟨rfl, hb⟩; refine ⟨_, rfl, ?_⟩; have n0_ := Aside0.mk (blk_below (g := gb174) (o := .cells #[.int .i64 ((rd_T38 l0 x7_1).f0), .int .i64 ((rd_T38 l0 x7_1).f1), .int .i64 ((rd_T38 l0 x7_1).f2), .int .i64 ((rd_T38 l0 x7_1).f3), .int .i64 ((rd_T38 l0 x7_1).f4), .int .i64 ((rd_T38 l0 x7_1).f5), .int .i64 ((rd_T38 l0 x7_1).f6), .int .i64 ((rd_T38 l0 x7_1).f7)] 38 (0, 0)) (by (with_reducible repeat (first | refine blk_drewN ?_ _ | refine blk_drew ?_ | refine blk_alloc ?_ _)); exact BK174.out) hb); have n1_ := Aside0.mk (below_step (by repeat (first | (with_reducible first | exact HB.out | apply below_alloc | apply pw_below_drewN | apply below_drew1 | refine below_set ?_ GE174.out) | exact HB.out)) hb); clear BK174 HB; revert n0_ n1_; intro BK174 HB; (try clear hb); (try clear hb2); (try clear hk); (try clear hi)))
                    go_ret
                    exact ⟨by first | rfl | (simp [errW_none, errW_some] <;> rfl) | (simp [*, errW_none, errW_some] <;> rfl), by repeat (first | (with_reducible first | exact HB.out | apply below_alloc | apply pw_below_drewN | apply below_drew1 | refine below_set ?_ GE174.out) | exact HB.out)⟩
                   ·replace c36 := Bool.eq_false_iff.mpr c36
                    subst c36
                    have H1 : (spinnakerref37_Known.l1 k5 l0 a1 x11_27 (wrap64 (x12_5 + 1))) = some r := by rw [if_neg (show ¬ (false = true) by decide)] at H; exact H
                    clear H; have H := H1; clear H1; have H' := Aside0.mk H; clear H; have p175 : 0 ≤ (x12_5 : Int) := of_decide_eq_true z38_1; have q175 : x12_5 < (l0.length : Int) := of_decide_eq_true z38_1; obtain ⟨ad175, e175, hx175_0, hx175_1, hx175_2, hx175_3, hx175_4, hx175_5, hx175_6, hx175_7⟩ := at_T38 HR0.out x12_5 p175 q175; obtain rfl : ad173 = ad175 := (by injection e175); replace hx175_0 := (HB.out.cell (World.block_lt_of_cell? w _ hx175_0)).trans hx175_0; replace hx175_1 := (HB.out.cell (World.block_lt_of_cell? w _ hx175_1)).trans hx175_1; replace hx175_2 := (HB.out.cell (World.block_lt_of_cell? w _ hx175_2)).trans hx175_2; replace hx175_3 := (HB.out.cell (World.block_lt_of_cell? w _ hx175_3)).trans hx175_3; replace hx175_4 := (HB.out.cell (World.block_lt_of_cell? w _ hx175_4)).trans hx175_4; replace hx175_5 := (HB.out.cell (World.block_lt_of_cell? w _ hx175_5)).trans hx175_5; replace hx175_6 := (HB.out.cell (World.block_lt_of_cell? w _ hx175_6)).trans hx175_6; replace hx175_7 := (HB.out.cell (World.block_lt_of_cell? w _ hx175_7)).trans hx175_7; replace p175 := eq_true p175; replace q175 := eq_true q175
                    go_wp2_with (first | ((with_reducible refine gate_callee (f := 63) rfl ?_); refine goesL_ (some 81) rfl rfl Tryd.func63 (by kernel_rfl) rfl #[.agg #[.int .i64 ((rd_T38 l0 x12_5).f0), .int .i64 ((rd_T38 l0 x12_5).f1), .int .i64 ((rd_T38 l0 x12_5).f2), .int .i64 ((rd_T38 l0 x12_5).f3), .int .i64 ((rd_T38 l0 x12_5).f4), .int .i64 ((rd_T38 l0 x12_5).f5), .int .i64 ((rd_T38 l0 x12_5).f6), .int .i64 ((rd_T38 l0 x12_5).f7)], .int .i64 x11_27] rfl (by (try simp only [List.map_toArray, List.map_cons, List.map_nil]); first | done | rfl | (simp only [List.length_drop, List.length_take]; rfl)) ?_; (with_reducible refine (spinnakerref37_writes.calls ((rd_T38 l0 x12_5).f0) ((rd_T38 l0 x12_5).f1) ((rd_T38 l0 x12_5).f2) ((rd_T38 l0 x12_5).f3) ((rd_T38 l0 x12_5).f4) ((rd_T38 l0 x12_5).f5) ((rd_T38 l0 x12_5).f6) ((rd_T38 l0 x12_5).f7) x11_27 false _ A35.out).mono ?_); rintro e w38 ⟨rfl, hb⟩; refine ⟨_, rfl, ?_⟩; have n0_ := Aside0.mk (blk_below (g := gb174) (o := .cells #[.int .i64 ((rd_T38 l0 x7_1).f0), .int .i64 ((rd_T38 l0 x7_1).f1), .int .i64 ((rd_T38 l0 x7_1).f2), .int .i64 ((rd_T38 l0 x7_1).f3), .int .i64 ((rd_T38 l0 x7_1).f4), .int .i64 ((rd_T38 l0 x7_1).f5), .int .i64 ((rd_T38 l0 x7_1).f6), .int .i64 ((rd_T38 l0 x7_1).f7)] 38 (0, 0)) (by (with_reducible repeat (first | refine blk_drewN ?_ _ | refine blk_drew ?_ | refine blk_alloc ?_ _)); exact BK174.out) hb); have n1_ := Aside0.mk (below_step (by repeat (first | (with_reducible first | exact HB.out | apply below_alloc | apply pw_below_drewN | apply below_drew1 | refine below_set ?_ GE174.out) | exact HB.out)) hb); clear BK174 HB; revert n0_ n1_; intro BK174 HB; (try clear hb); (try clear hb2); (try clear hk); (try clear hi)))
                    go_roundg k5
                    case measure => have := HK1.out; have := HJ6.out; have := HJ21.out; have := HJ27.out; have := HK5.out; omega
                    case rel => exact ⟨(wrap64 (x12_5 + 1)), z38_0, H', ⟨by have := HK1.out; have := HJ6.out; have := HJ21.out; have := HJ27.out; have := HK5.out; omega⟩, ⟨by (with_reducible repeat (first | refine blk_drewN ?_ _ | refine blk_drew ?_ | refine blk_alloc ?_ _)); exact BK174.out⟩, ⟨by repeat (first | (with_reducible first | exact HB.out | apply below_alloc | apply pw_below_drewN | apply below_drew1 | refine below_set ?_ GE174.out) | exact HB.out)⟩⟩
                  ·rw [if_neg c34] at H
                   exact absurd H (by simp)
                 ·rw [if_neg c33] at H
                  exact absurd H (by simp)
                ·rw [if_neg c32] at H
                 have c32b0 : decide (x12_5 < a1) = false := decide_eq_false c32; clear c32; obtain rfl := Option.some.inj H
                 go_wp2
                 go_ret
                 exact ⟨by first | rfl | (simp [errW_none, errW_some] <;> rfl) | (simp [*, errW_none, errW_some] <;> rfl), by repeat (first | (with_reducible first | exact HB.out | apply below_alloc | apply pw_below_drewN | apply below_drew1 | refine below_set ?_ GE174.out) | exact HB.out)⟩
     ·rw [if_neg c6] at H
      exact absurd H (by simp)
    ·rw [if_neg c5] at H
     exact absurd H (by simp)
   ·rw [if_neg c4] at H
    have c4b0 : decide (0 ≤ x7_1) = false := decide_eq_false c4; clear c4; obtain rfl := Option.some.inj H
    go_wp2
    go_ret
    exact ⟨by first | rfl | (simp [errW_none, errW_some] <;> rfl) | (simp [*, errW_none, errW_some] <;> rfl), by repeat (first | (with_reducible first | exact HB.out | apply below_alloc | apply pw_below_drewN | apply below_drew1) | exact HB.out)⟩

end Go.Proofs.YtgenmfbidpmneaaDoor.PReloadThreads
