-- printed by a program of this session (wip/mp.py: the kit's printer, patched, over the session's own templates); checked by Lean alone
import Derived.Test.YtbcfpgcfamipmaaDoorSPFoldActionsx0
import Derived.Test.YtbcfpgcfamipmaaDoorSPFoldActionsx3
import Derived.Test.YtbcfpgcfamipmaaDoorSPFoldActionsx5
import Derived.Test.YtbcfpgcfamipmaaDoorSPFoldActionsx6
namespace Go.Proofs.YtbcfpgcfamipmaaDoor.PFoldActions
open Go.RowKit Go.Proofs.YtbcfpgcfamipmaaDoorW.PrintWords Go.Proofs.YtbcfpgcfamipmaaDoorW.PrintLast Go.Proofs.YtbcfpgcfamipmaaDoorW.PrintMore
attribute [local go_sem] max2_int min2_int max_two min_two max_three min_three max_four min_four   -- for this text's walks alone
set_option linter.unusedVariables false
set_option linter.unusedSimpArgs false

/-! ### given: fold.lean -/
-- GIVEN spinnaker/fold.block rounds=0 making=1
-- NEEDS spinnaker/ir.Def
-- NEEDS spinnaker/ir.Uses
-- NEEDS spinnaker/ir.has
-- NEEDS spinnaker/calc.Bin
-- REG []api.Ins
-- INFO int
-- INFO spinnaker/api.Ins
-- IMPORT Derived.Test.YtbcfpgcfamipmaaDoorEvalN
/-- What is known of variables lies in a struct of two maps. -/
structure FIs (w : World) (q b0 b1 n : Nat) (g0 g1 : Int → Option Int) : Prop where
  box : w.heap[q]? = some (.cells #[.map (some b0), .map (some b1)] 74 (0, 0))
  m0 : Eval.MapIs Tryd.prog 3 w b0 n g0
  m1 : Eval.MapIs Tryd.prog 3 w b1 n g1
  ne : b0 ≠ b1
  n0 : q ≠ b0
  n1 : q ≠ b1
theorem zeroI (w : World) : (zeroValue 3).run Tryd.prog w = .ok (.int .i64 0) w := by kernel_rfl
/-- The variable of which one is a copy, or itself. -/
def rootF (c : Int → Option Int) (v : Int) : Int := (c v).getD v
set_option maxRecDepth 100000 in
theorem root_walk (q b0 b1 n : Nat) (g0 g1 : Int → Option Int) (v : Int) (w : World) (hF : FIs w q b0 b1 n g0 g1) (hv : (Lit.int .i64 v).wf = true) :
    Calls Tryd.prog 78 #[.pointer (some ⟨q, 0, none⟩), .int .i64 v] w fun e w' => e = .returned (.int .i64 (rootF g1 v)) ∧ Below w.heap.size w w' := by
  have hu := Tryd.underlying74
  have hq0 : w.cell? ⟨q, 0, none⟩ = some (.map (some b0)) := (blk_cell hF.box 0).trans rfl
  have hq1 : w.cell? ⟨q, 1, none⟩ = some (.map (some b1)) := (blk_cell hF.box 1).trans rfl
  have HM := Aside0.mk hF.m1
  cases hg : g1 v with
  | none =>
    go_enter Tryd.func78, Tryd.ntmps78
    go_wp2_with (first | (at_lookup; refine Eval.wp_look2 _ Tryd.underlying3 Tryd.underlying70 zeroI rfl _ _ rfl rfl rfl hv HM.out ?_; rw [hg]))
    go_ret
    exact ⟨by simp [rootF, hg], Below.refl _ _⟩
  | some u_ =>
    go_enter Tryd.func78, Tryd.ntmps78
    go_wp2_with (first | (at_lookup; refine Eval.wp_look2 _ Tryd.underlying3 Tryd.underlying70 zeroI rfl _ _ rfl rfl rfl hv HM.out ?_; rw [hg]))
    go_ret
    exact ⟨by simp [rootF, hg], Below.refl _ _⟩
/-- Nothing that was there has turned but two maps. -/
structure Turn2 (b0 b1 : Nat) (w w' : World) : Prop where
  os : w'.os = w.os
  tape : w'.tape = w.tape
  output : w'.output = w.output
  size : w.heap.size ≤ w'.heap.size
  block : ∀ i, i < w.heap.size → i ≠ b0 → i ≠ b1 → w'.heap[i]? = w.heap[i]?
theorem Turn2.refl (b0 b1 : Nat) (w : World) : Turn2 b0 b1 w w := ⟨rfl, rfl, rfl, Nat.le_refl _, fun _ _ _ _ => rfl⟩
theorem Turn2.grown {b0 b1 : Nat} {w w1 w2 : World} (h : Turn2 b0 b1 w w1) {row : Option Nat} (hg : w1.grownBy w2 row) (hr : ∀ i, row = some i → i = b0 ∨ i = b1 ∨ w.heap.size ≤ i) : Turn2 b0 b1 w w2 :=
  ⟨hg.os.trans h.os, hg.tape.trans h.tape, hg.output.trans h.output, Nat.le_trans h.size hg.size, fun i hi h0 h1 => (hg.block i (Nat.lt_of_lt_of_le hi h.size) (fun e => by
    rcases hr i e.symm with e1 | e1 | e1
    · exact h0 e1
    · exact h1 e1
    · omega)).trans (h.block i hi h0 h1)⟩
/-- What is left where a variable is forgotten: of the numbers, of the copies. -/
def drop0 (v : Int) (g : Int → Option Int) : Int → Option Int := fun y => if y = v then none else g y
def drop1 (v : Int) (g : Int → Option Int) : Int → Option Int := fun y => if drop0 v g y = some v then none else drop0 v g y
theorem keyI : Maps.Keyed Tryd.prog 3 := Maps.int_keyed Tryd.underlying3
set_option maxRecDepth 100000 in
set_option maxHeartbeats 4000000 in
theorem forget_walk (q b0 b1 n : Nat) (g0 g1 : Int → Option Int) (v : Int) (w : World) (hF : FIs w q b0 b1 n g0 g1) (hv : (Lit.int .i64 v).wf = true) :
    Calls Tryd.prog 80 #[.pointer (some ⟨q, 0, none⟩), .int .i64 v] w fun e w' => e = .returned (.tuple #[]) ∧ FIs w' q b0 b1 n (drop0 v g0) (drop1 v g1) ∧ Turn2 b0 b1 w w' := by
  have hu := Tryd.underlying74
  obtain ⟨hbx, hm0, hm1, hne, hn0, hn1⟩ := hF
  have HT := Aside0.mk (Turn2.refl b0 b1 w)
  have HBX := Aside0.mk hbx
  have HM0 := Aside0.mk hm0
  have HM1 := Aside0.mk hm1
  have hq0 : w.cell? ⟨q, 0, none⟩ = some (.map (some b0)) := (blk_cell hbx 0).trans rfl
  clear hbx hm0 hm1
  go_enter Tryd.func80, Tryd.ntmps80
  go_upto_region 1 with (first | (at_delete; refine Eval.wp_del _ Tryd.underlying3 Tryd.underlying70 rfl _ _ rfl rfl rfl hv HM0.out ?_; intro w1 hm hg; have n0_ := Aside0.mk hm; have n1_ := Aside0.mk (HM1.out.kept hg (fun e => by injection e with e; exact hne e.symm)); have n2_ := Aside0.mk (blk_grown HBX.out hg (fun e => by injection e with e; exact hn0 e)); have n3_ := Aside0.mk (HT.out.grown hg (fun i e => by injection e with e; exact .inl e.symm)); clear HM0 HM1 HBX HT hq0; have HM0 := n0_; have HM1 := n1_; have HBX := n2_; have HT := n3_; clear n0_ n1_ n2_ n3_ hm hg))
  have hq1 : w1.cell? ⟨q, 1, none⟩ = some (.map (some b1)) := (blk_cell HBX.out 1).trans rfl
  go_upto_region 2 with (first | (at_delete; refine Eval.wp_del _ Tryd.underlying3 Tryd.underlying70 rfl _ _ rfl rfl rfl hv HM1.out ?_; intro w2 hm hg; have n0_ := Aside0.mk hm; have n1_ := Aside0.mk (HM0.out.kept hg (fun e => by injection e with e; exact hne e)); have n2_ := Aside0.mk (blk_grown HBX.out hg (fun e => by injection e with e; exact hn1 e)); have n3_ := Aside0.mk (HT.out.grown hg (fun i e => by injection e with e; exact .inr (.inl e.symm))); clear HM0 HM1 HBX HT hq1; have HM1 := n0_; have HM0 := n1_; have HBX := n2_; have HT := n3_; clear n0_ n1_ n2_ n3_ hm hg))
  have hq1 : w2.cell? ⟨q, 1, none⟩ = some (.map (some b1)) := (blk_cell HBX.out 1).trans rfl
  have hlt0 := HM0.out.lt
  have hltq := blk_lt HBX.out
  have hsz := HT.out.size
  have hlt1 := HM1.out.lt
  obtain ⟨D, hown, hD⟩ := HM1.out
  have hD0 : Eval.DIs D (drop0 v g1) := hD
  clear hD HM1
  go_wp2_with (first | (at_range; refine wpList_range_own _ rfl _ 70 rfl 3 3 keyI Tryd.underlying70 _ b1 n _ rfl hown ?_; intro w3 hrg0 hg0 hs0; have n0_ := Aside0.mk (HM0.out.kept hg0 (by simp)); have n1_ := Aside0.mk (blk_grown HBX.out hg0 (by simp)); have n2_ := Aside0.mk (HT.out.grown hg0 (fun i e => by cases e)); clear HM0 HBX HT hq1; revert n0_ n1_ n2_; intro HM0 HBX HT) | go_in)
  go_frame
  go_loopw [21] (fun _ wr => ∃ (left : Lit → Bool) (cnt : Nat) (D' : DataW Unit), Aside0 (wr.ranges Tryd.prog 3 (plainElem Tryd.prog 3) b1 w2.heap.size n D' left cnt) ∧ Aside0 (Eval.DIs D' (Eval.swept (drop0 v g1) v left)) ∧ Aside0 (Eval.MapIs Tryd.prog 3 wr b0 n (drop0 v g0)) ∧ Aside0 (wr.heap[q]? = some (.cells #[.map (some b0), .map (some b1)] 74 (0, 0))) ∧ Aside0 (Turn2 b0 b1 w wr))
    (fun _ wr => wr.rangeLeft b1 w2.heap.size)
  case atStart => exact ⟨_, _, _, ⟨hrg0⟩, ⟨Eval.swept_start hD0 v⟩, HM0, HBX, HT⟩
  case round =>
    clear HM0 HBX HT hD0
    obtain ⟨left, cnt, D', HRG, HD, HM0, HBX, HT⟩ := hrel
    go_wp2_with (first
      | (at_next; refine wpList_next_ranges_ii _ rfl _ rfl 3 3 .i64 .i64 keyI Tryd.underlying3 Tryd.underlying3 b1 w2.heap.size n _ _ _ rfl HRG.out ?_ ?_)
      | go_in)
    · intro _ hl0
      go_wp2
      go_end0
      exact ⟨rfl, ⟨HBX.out, HM0.out, ⟨_, HRG.out.owns, Eval.swept_end HD.out hl0⟩, hne, hn0, hn1⟩, HT.out⟩
    · intro x c wn cnt1 hwx hwc hlx hat hrg1 hlt hg1 hs1 hen
      have n0_ := Aside0.mk (HM0.out.kept hg1 (fun e => by injection e with e; omega))
      have n1_ := Aside0.mk (blk_grown HBX.out hg1 (fun e => by injection e with e; omega))
      have n2_ := Aside0.mk (HT.out.grown hg1 (fun i e => by injection e with e; exact .inr (.inr (by omega))))
      clear HM0 HBX HT
      revert n0_ n1_ n2_; intro HM0 HBX HT
      have hq1 : wn.cell? ⟨q, 1, none⟩ = some (.map (some b1)) := (blk_cell HBX.out 1).trans rfl
      go_wp2_with (first
        | (at_delete; refine wpList_delete_ranges _ rfl _ _ 70 3 rfl 3 keyI Tryd.underlying70 _ b1 w2.heap.size n _ _ _ rfl hrg1 _ _ rfl (Maps.keyOf_int_mk Tryd.underlying3 hwx) ?_; intro w4 cnt2 hrg2 hle hturn; go_frame)
        | go_in)
      · have hc0 : c = v := by simpa using (by assumption : (c == v) = true)
        subst hc0
        rw [Maps.strike_twice] at hrg2
        go_roundw
        case rel => exact ⟨_, cnt2, _, ⟨hrg2⟩, ⟨Eval.swept_struck HD.out hwx hlx hat⟩, ⟨HM0.out.kept hturn.grown (fun e => by injection e with e; exact hne e)⟩, ⟨blk_grown HBX.out hturn.grown (fun e => by injection e with e; exact hn1 e)⟩, ⟨HT.out.grown hturn.grown (fun i e => by injection e with e; exact .inr (.inl e.symm))⟩⟩
        case measure => rw [hrg2.left_eq, HRG.out.left_eq]; omega
      · have hc0 : c ≠ v := by simpa using (by assumption : (c == v) = false)
        go_roundw
        case rel => exact ⟨_, cnt1, _, ⟨hrg1⟩, ⟨Eval.swept_stays HD.out hwx hlx hat hc0⟩, HM0, HBX, HT⟩
        case measure => rw [hrg1.left_eq, HRG.out.left_eq]; exact hlt
theorem fdef_some (a0 a1 a2 a3 a4 a5 a6 a7 : Int) : ir_Def.f a0 a1 a2 a3 a4 a5 a6 a7 = some (if hasB a0 1 = true then a1 else 0, hasB a0 1) := by
  show (some (hasB a0 1)).bind (fun t => if t = true then some (a1, true) else some (0, false)) = _
  rw [Option.bind_some]
  cases hasB a0 1 <;> rfl
/-- Is something learnt of an instruction? -/
def learns (i : S38) : Bool := hasB i.f0 1 && !(i.f0 == 2 && i.f2 == i.f1)
/-- What is known behind an instruction: of the numbers, of the copies. -/
def learn0 (g : Int → Option Int) (i : S38) : Int → Option Int := if learns i = true then (if i.f0 = 1 then fun y => if y = i.f1 then some i.f5 else drop0 i.f1 g y else drop0 i.f1 g) else g
def learn1 (g : Int → Option Int) (i : S38) : Int → Option Int := if learns i = true then (if i.f0 = 2 then fun y => if y = i.f1 then some i.f2 else drop1 i.f1 g y else drop1 i.f1 g) else g
def insV (i : S38) : List Value := [.int .i64 i.f0, .int .i64 i.f1, .int .i64 i.f2, .int .i64 i.f3, .int .i64 i.f4, .int .i64 i.f5, .int .i64 i.f6, .int .i64 i.f7]
theorem f_cells8 {w : World} {g : Nat} {t : TypeId} {x0 x1 x2 x3 x4 x5 x6 x7 : Value} (h : w.heap[g]? = some (.cells #[x0, x1, x2, x3, x4, x5, x6, x7] t (0, 0))) : w.cell? ⟨g, 0, none⟩ = some x0 ∧ w.cell? ⟨g, 1, none⟩ = some x1 ∧ w.cell? ⟨g, 2, none⟩ = some x2 ∧ w.cell? ⟨g, 3, none⟩ = some x3 ∧ w.cell? ⟨g, 4, none⟩ = some x4 ∧ w.cell? ⟨g, 5, none⟩ = some x5 ∧ w.cell? ⟨g, 6, none⟩ = some x6 ∧ w.cell? ⟨g, 7, none⟩ = some x7 := ⟨(blk_cell h 0).trans rfl, (blk_cell h 1).trans rfl, (blk_cell h 2).trans rfl, (blk_cell h 3).trans rfl, (blk_cell h 4).trans rfl, (blk_cell h 5).trans rfl, (blk_cell h 6).trans rfl, (blk_cell h 7).trans rfl⟩
theorem Turn2.trans {b0 b1 : Nat} {w w1 w2 : World} (h : Turn2 b0 b1 w w1) (h2 : Turn2 b0 b1 w1 w2) : Turn2 b0 b1 w w2 :=
  ⟨h2.os.trans h.os, h2.tape.trans h.tape, h2.output.trans h.output, Nat.le_trans h.size h2.size, fun i hi h0 h1 => (h2.block i (Nat.lt_of_lt_of_le hi h.size) h0 h1).trans (h.block i hi h0 h1)⟩
theorem Turn2.kept {b0 b1 g : Nat} {w w1 : World} {o : Obj} (h : Turn2 b0 b1 w w1) (hb : w.heap[g]? = some o) (h0 : g ≠ b0) (h1 : g ≠ b1) : w1.heap[g]? = some o := (h.block g (blk_lt hb) h0 h1).trans hb
theorem FIs.more {w : World} {q b0 b1 n : Nat} {g0 g1 : Int → Option Int} (h : FIs w q b0 b1 n g0 g1) : FIs w q b0 b1 (n + 1) g0 g1 := ⟨h.box, h.m0.mono (Nat.le_succ _), h.m1.mono (Nat.le_succ _), h.ne, h.n0, h.n1⟩
theorem learn0_no {g : Int → Option Int} {i : S38} (h : learns i = false) : learn0 g i = g := by simp [learn0, h]
theorem learn1_no {g : Int → Option Int} {i : S38} (h : learns i = false) : learn1 g i = g := by simp [learn1, h]
theorem FIs.below {w w' : World} {q b0 b1 n : Nat} {g0 g1 : Int → Option Int} (h : FIs w q b0 b1 n g0 g1) (hb : Below w.heap.size w w') : FIs w' q b0 b1 n g0 g1 :=
  ⟨blk_below h.box hb, h.m0.kept (Eval.grown_of_below hb) (by simp), h.m1.kept (Eval.grown_of_below hb) (by simp), h.ne, h.n0, h.n1⟩
theorem Turn2.below {b0 b1 : Nat} {w w1 w2 : World} (h : Turn2 b0 b1 w w1) (hb : Below w1.heap.size w1 w2) : Turn2 b0 b1 w w2 := h.grown (Eval.grown_of_below hb) (fun i e => by cases e)
def bml_ : Nat → Nat → List Bool
  | 0, _ => []
  | n + 1, b => (b % 2 == 1) :: bml_ n (b / 2)
def bm_ (n b : Nat) : Array Bool := ⟨bml_ n b⟩
theorem bP {P : Program} {ops : Array Oper} {Q : Exit → Act → World → Prop} {md : Region.Mode} {S : World → Prop} {ds : List Nat} {i : Nat} {N : Option Tmp} {oi : Oper} {v : Value} {fuel : Nat} {l : Array Bool} {a : Act} {w : World} {a' : Act} (l' : Array Bool) (h : wpAnyLast P md ops Q S ds fuel l' a' w) (hi : ops[i]? = some oi := by rfl) (hN : oi.dst = N := by rfl) (hc : anyB md ops l l' i = true := by kernel_rfl) (hQ : ∀ c a w, Q (.panic c) (a.put oi.dst v) w → Q (.panic c) a w := by exact fun _ _ _ h => h) (hy : Yields P ops oi v a := by (refine Or.inl ⟨by rfl, ?_⟩; intro w'; go_simp; with_reducible rfl)) (ha : a.put N v = a' := by (simp only [Act.put, List.setIfInBounds_toArray, List.set_cons_zero, List.set_cons_succ, i64_w, i32_w]; rfl)) : wpAnyLast P md ops Q S ds (fuel + 1) l a w := pure_ l' hi hN hc hQ hy ha h
theorem bT {P : Program} {ops : Array Oper} {Q : Exit → Act → World → Prop} {md : Region.Mode} {S : World → Prop} {ds : List Nat} {i : Nat} {N : Option Tmp} {oi : Oper} {v : Value} {fuel : Nat} {l : Array Bool} {a : Act} {w : World} {a' : Act} (l' : Array Bool) (h : wpAnyLast P md ops Q S ds fuel l' a' w) (hS : S w := by exact hHeld) (hi : ops[i]? = some oi := by rfl) (hN : oi.dst = N := by rfl) (hc : takeB md ops ds l l' i = true := by kernel_rfl) (hQ : ∀ c a w, Q (.panic c) (a.put oi.dst v) w → Q (.panic c) a w := by exact fun _ _ _ h => h) (hy : YieldsIf P ops S oi v a := by (refine Or.inl ⟨by rfl, ?_⟩; rintro w' ⟨s0, s1⟩; go_simp; with_reducible rfl)) (ha : a.put N v = a' := by (simp only [Act.put, List.setIfInBounds_toArray, List.set_cons_zero, List.set_cons_succ, i64_w, i32_w]; rfl)) : wpAnyLast P md ops Q S ds (fuel + 1) l a w := take_ l' hi hN hc hQ hy hS ha h
set_option maxRecDepth 100000 in
set_option maxHeartbeats 4000000 in
theorem learn_walk (q b0 b1 n : Nat) (g0 g1 : Int → Option Int) (i : S38) (w : World) (hG : OpsLaid w) (hF : FIs w q b0 b1 n g0 g1) (h1 : (Lit.int .i64 i.f1).wf = true) (h2 : (Lit.int .i64 i.f2).wf = true) (h5 : (Lit.int .i64 i.f5).wf = true) (hn : n < maxLen) :
    Calls Tryd.prog 49 #[.pointer (some ⟨q, 0, none⟩), .agg (insV i).toArray] w fun e w' => e = .returned (.tuple #[]) ∧ FIs w' q b0 b1 (n + 1) (learn0 g0 i) (learn1 g1 i) ∧ Turn2 b0 b1 w w' := by
  have hu := Tryd.underlying74
  have hu2 := Tryd.underlying38
  have HF := Aside0.mk hF
  have HG := Aside0.mk hG
  have HT := Aside0.mk (Turn2.refl b0 b1 w)
  have HB := Aside0.mk (Below.refl w.heap.size w)
  clear hF hG
  go_enter Tryd.func49, Tryd.ntmps49
  go_upto_region 1 with (first | ((with_reducible refine gate_dst (N := 3) rfl ?_); refine box_event ?hg (N := 3) ?hd (cs := #[.int .i64 i.f0, .int .i64 i.f1, .int .i64 i.f2, .int .i64 i.f3, .int .i64 i.f4, .int .i64 i.f5, .int .i64 i.f6, .int .i64 i.f7]) (t := 38) ?hr ?_; (case hd => rfl); (case hg => rfl); (case hr => first | (go_simp; done) | (go_simp; rfl)); intro gb hg wb hbox hb; have NE0 := Aside0.mk (show gb ≠ b0 by rw [hg]; exact Nat.ne_of_gt HF.out.m0.lt); have NE1 := Aside0.mk (show gb ≠ b1 by rw [hg]; exact Nat.ne_of_gt HF.out.m1.lt); have n0_ := Aside0.mk (HF.out.below hb); have n1_ := Aside0.mk hbox; have n2_ := Aside0.mk (HT.out.below hb); have n3_ := Aside0.mk (below_step HB.out hb); clear HF HT HB; have HF := n0_; have BKgb := n1_; have HT := n2_; have HB := n3_; clear n0_ n1_ n2_ n3_ hb hbox hg))
  obtain ⟨hy0, hy1, hy2, hy3, hy4, hy5, hy6, hy7⟩ := f_cells8 BKgb.out
  go_upto_region 2 with (fail)
  refine (ir_Def.calls _ _ _ _ _ _ _ _ _ _ _ (HG.out.below (Nat.le_refl _) HB.out) (fdef_some _ _ _ _ _ _ _ _)).mono ?_
  rintro e wd ⟨rfl, hb⟩
  have n0_ := Aside0.mk (HF.out.below hb)
  have n1_ := Aside0.mk (blk_below BKgb.out hb)
  have n2_ := Aside0.mk (HT.out.below hb)
  have n3_ := Aside0.mk (below_step HB.out hb)
  clear HF HT HB BKgb hy0 hy1 hy2 hy3 hy4 hy5 hy6 hy7
  have HF := n0_
  have BKgb := n1_
  have HT := n2_
  have HB := n3_
  clear n0_ n1_ n2_ n3_ hb
  obtain ⟨hy0, hy1, hy2, hy3, hy4, hy5, hy6, hy7⟩ := f_cells8 BKgb.out
  go_upto_region 2 with (fail)
  cases hd : hasB i.f0 1 with
  | false =>
    go_wp2_with (fail)
    refine bodyPost_ret (results_none rfl _ _ _) rfl ?_
    refine ⟨rfl, ?_, HT.out⟩
    rw [learn0_no (show learns i = false by simp [learns, hd]), learn1_no (show learns i = false by simp [learns, hd])]
    exact HF.out.more
  | true =>
    simp only [if_true]
    go_upto_region 3 with (fail)
    go_wp2_with (fail)
    · rename_i ho ha
      refine bodyPost_ret (results_none rfl _ _ _) rfl ?_
      refine ⟨rfl, ?_, HT.out⟩
      rw [learn0_no (show learns i = false by simp [learns, ho, ha]), learn1_no (show learns i = false by simp [learns, ho, ha])]
      exact HF.out.more
    · rename_i ho ha _ _
      have hl : learns i = true := by simp_all [learns]
      have ho : i.f0 = 2 := by assumption
      refine (forget_walk q b0 b1 n g0 g1 i.f1 _ HF.out h1).mono ?_
      rintro e wf ⟨rfl, hF2, hT2⟩
      have n0_ := Aside0.mk hF2
      have n1_ := Aside0.mk (HT.out.trans hT2)
      have n2_ := Aside0.mk (hT2.kept BKgb.out NE0.out NE1.out)
      clear HF HT HB BKgb hy0 hy1 hy2 hy3 hy4 hy5 hy6 hy7 hF2 hT2
      revert n0_ n1_ n2_; intro HF HT BKgb
      obtain ⟨hy0, hy1, hy2, hy3, hy4, hy5, hy6, hy7⟩ := f_cells8 BKgb.out
      go_wp2_with (fail)
      have hq1 : wf.cell? ⟨q, 1, none⟩ = some (.map (some b1)) := (blk_cell HF.out.box 1).trans rfl
      have hdrew := below_drew1 (Below.refl wf.heap.size wf)
      refine start_ (n := 8) (S := fun w' => w'.cell? ⟨q, 1, none⟩ = some (.map (some b1)) ∧ w'.cell? ⟨gb, 2, none⟩ = some (.int .i64 i.f2)) (ds := [7]) (bm_ 8 0) (by kernel_rfl) rfl rfl ⟨(blk_cell (blk_below HF.out.box hdrew) 1).trans rfl, (blk_cell (blk_below BKgb.out hdrew) 2).trans rfl⟩ (fun hHeld => ?_)
      refine bP (i := 0) (N := some 38) (bm_ 8 1) ?_
      refine bP (i := 1) (N := some 39) (bm_ 8 3) ?_
      refine bP (i := 2) (N := some 40) (bm_ 8 7) ?_
      refine bP (i := 4) (N := some 42) (bm_ 8 23) ?_
      refine bP (i := 5) (N := some 43) (bm_ 8 55) ?_
      refine bT (i := 3) (N := some 41) (bm_ 8 63) ?_
      refine bT (i := 6) (N := some 44) (bm_ 8 127) ?_
      refine last_ (i := 7) (N := none) (bm_ 8 255) rfl rfl (by kernel_rfl) (by decide) (fun K hK => ?_)
      obtain ⟨wk, hrun, hmp, htn⟩ := (HF.out.m1.same (w' := wf.drew) (by first | rfl | exact World.drew_heap _)).put Tryd.underlying3 Tryd.underlying70 (mt := 70) hn h1 h2
      refine skip_ (w1 := wk) (by rfl) rfl ?_ ?_
      · simp [execOp, Act.eval, hrun, Result.andThen]
      refine hK.out _ _ ?_
      clear hK K
      refine done_ (by kernel_rfl) ?_
      go_end0
      have hgr := htn.grown
      refine ⟨rfl, ⟨blk_grown (blk_below HF.out.box hdrew) hgr (fun e => by injection e with e; exact HF.out.n1 e), ?_, ?_, HF.out.ne, HF.out.n0, HF.out.n1⟩, (HT.out.below hdrew).grown hgr (fun j e => by injection e with e; exact .inr (.inl e.symm))⟩
      · rw [show learn0 g0 i = drop0 i.f1 g0 by simp [learn0, hl, ho]]
        exact ((HF.out.m0.kept (Eval.grown_of_below hdrew) (by simp)).kept hgr (fun e => by injection e with e; exact HF.out.ne e)).mono (Nat.le_succ _)
      · rw [show learn1 g1 i = fun y => if y = i.f1 then some i.f2 else drop1 i.f1 g1 y by simp [learn1, hl, ho]]
        exact hmp
    · have ho : ¬ i.f0 = 2 := by assumption
      have hl : learns i = true := by simp [learns, hd, ho]
      refine (forget_walk q b0 b1 n g0 g1 i.f1 _ HF.out h1).mono ?_
      rintro e wf ⟨rfl, hF2, hT2⟩
      have n0_ := Aside0.mk hF2
      have n1_ := Aside0.mk (HT.out.trans hT2)
      have n2_ := Aside0.mk (hT2.kept BKgb.out NE0.out NE1.out)
      clear HF HT HB BKgb hy0 hy1 hy2 hy3 hy4 hy5 hy6 hy7 hF2 hT2
      revert n0_ n1_ n2_; intro HF HT BKgb
      obtain ⟨hy0, hy1, hy2, hy3, hy4, hy5, hy6, hy7⟩ := f_cells8 BKgb.out
      go_wp2_with (fail)
      · have ho1 : i.f0 = 1 := by first | assumption | (simp_all; done)
        have hdrew := below_drew1 (Below.refl wf.heap.size wf)
        refine start_ (n := 8) (S := fun w' => w'.cell? ⟨q, 0, none⟩ = some (.map (some b0)) ∧ w'.cell? ⟨gb, 5, none⟩ = some (.int .i64 i.f5)) (ds := [7]) (bm_ 8 0) (by kernel_rfl) rfl rfl ⟨(blk_cell (blk_below HF.out.box hdrew) 0).trans rfl, (blk_cell (blk_below BKgb.out hdrew) 5).trans rfl⟩ (fun hHeld => ?_)
        refine bP (i := 0) (N := some 29) (bm_ 8 1) ?_
        refine bP (i := 1) (N := some 30) (bm_ 8 3) ?_
        refine bP (i := 2) (N := some 31) (bm_ 8 7) ?_
        refine bP (i := 4) (N := some 33) (bm_ 8 23) ?_
        refine bP (i := 5) (N := some 34) (bm_ 8 55) ?_
        refine bT (i := 3) (N := some 32) (bm_ 8 63) ?_
        refine bT (i := 6) (N := some 35) (bm_ 8 127) ?_
        refine last_ (i := 7) (N := none) (bm_ 8 255) rfl rfl (by kernel_rfl) (by decide) (fun K hK => ?_)
        obtain ⟨wk, hrun, hmp, htn⟩ := (HF.out.m0.same (w' := wf.drew) (by first | rfl | exact World.drew_heap _)).put Tryd.underlying3 Tryd.underlying70 (mt := 70) hn h1 h5
        refine skip_ (w1 := wk) (by rfl) rfl ?_ ?_
        · simp [execOp, Act.eval, hrun, Result.andThen]
        refine hK.out _ _ ?_
        clear hK K
        refine done_ (by kernel_rfl) ?_
        go_end0
        have hgr := htn.grown
        refine ⟨rfl, ⟨blk_grown (blk_below HF.out.box hdrew) hgr (fun e => by injection e with e; exact HF.out.n0 e), ?_, ?_, HF.out.ne, HF.out.n0, HF.out.n1⟩, (HT.out.below hdrew).grown hgr (fun j e => by injection e with e; exact .inl e.symm)⟩
        · rw [show learn0 g0 i = fun y => if y = i.f1 then some i.f5 else drop0 i.f1 g0 y by simp [learn0, hl, ho1]]
          exact hmp
        · rw [show learn1 g1 i = drop1 i.f1 g1 by simp [learn1, hl, ho]]
          exact ((HF.out.m1.kept (Eval.grown_of_below hdrew) (by simp)).kept hgr (fun e => by injection e with e; exact HF.out.ne e.symm)).mono (Nat.le_succ _)
      · have ho1 : ¬ i.f0 = 1 := by first | assumption | (simp_all; done)
        go_end0
        refine ⟨rfl, ?_, HT.out⟩
        rw [show learn0 g0 i = drop0 i.f1 g0 by simp [learn0, hl, ho1], show learn1 g1 i = drop1 i.f1 g1 by simp [learn1, hl, ho]]
        exact HF.out.more
/-- The variables that an instruction reads. -/
def usesL (i : S38) : List Int := (if hasB i.f0 2 = true then [i.f2] else []) ++ (if hasB i.f0 4 = true then [i.f3] else [])
theorem fhas_some (a0 a1 a2 a3 a4 a5 a6 a7 m : Int) : ir_has.f a0 a1 a2 a3 a4 a5 a6 a7 m = some (hasB a0 m) := by
  unfold ir_has.f hasB
  cases h : ir_fields.f a0 with
  | none => unfold ir_fields.f at h; split at h <;> simp_all
  | some t => rfl
theorem fuses_some (i : S38) : ir_Uses.f 1 i.f0 i.f1 i.f2 i.f3 i.f4 i.f5 i.f6 i.f7 = some (usesL i) := by
  unfold ir_Uses.f ir_Uses.j0
  simp only [fhas_some, Option.bind_some, usesL]
  cases hasB i.f0 2 <;> cases hasB i.f0 4 <;> simp
/-- An instruction that reads what its variables are copies of. -/
def readF (c : Int → Option Int) (i : S38) : S38 := if (usesL i).length = 2 then { i with f2 := rootF c i.f2, f3 := rootF c i.f3 } else if (usesL i).length = 1 then { i with f2 := rootF c i.f2 } else i
theorem b_alloc {ops : Array Oper} {rest : List Oper} {o : Oper} {a : Act} {Q : Exit → Act → World → Prop} {W : World} {t : TypeId} {zs : Array Value} (hg : o.guard = none) (hop : o.op = .alloc t)
    (hz : (Instr.alloc t true (.tuple #[])).run Tryd.prog W = .ok (.pointer (some ⟨W.heap.size, 0, none⟩)) (W.alloc (.cells zs t (0, 0))))
    (h : ∀ b, b = W.heap.size → ∀ w1, w1.heap[b]? = some (.cells zs t (0, 0)) → Below W.heap.size W w1 → wpList Tryd.prog ops Q rest (a.put o.dst (.pointer (some ⟨b, 0, none⟩))) w1) : wpList Tryd.prog ops Q (o :: rest) a W :=
  Kd.event_run hg (by simp only [execOp, hop]; simp [hz, Result.andThen]) (h _ rfl _ (blk_new W _) (below_alloc (Below.refl _ _) _))
theorem b_store {ops : Array Oper} {rest : List Oper} {o : Oper} {a : Act} {Q : Exit → Act → World → Prop} {W : World} {t : TypeId} {x v : Operand} {g : Nat} {old cs : Array Value} (hg : o.guard = none) (hop : o.op = .store t x v) (hN : o.dst = none) (hx : a.eval x = .pointer (some ⟨g, 0, none⟩)) (hv : a.eval v = .agg cs)
    (hb : W.heap[g]? = some (.cells old t (0, 0))) (hi : (Tryd.prog.info? t).map (·.size) = some cs.size) (ho : old.size = cs.size) (h1 : cs.all (·.oneCell') = true)
    (h : ∀ w1, w1.heap[g]? = some (.cells cs t (0, 0)) → W.grownBy w1 (some g) → wpList Tryd.prog ops Q rest a w1) : wpList Tryd.prog ops Q (o :: rest) a W := by
  refine wpList_plain hg fun K hK => ?_
  have hrow := run_storeVar_row (P := Tryd.prog) W g t t old cs hb hi ho h1
  have hrun : (execOp a.eval o).run Tryd.prog W = .ok .skip (W.setRow g cs) := by
    simp [execOp, hop, hx, hv, Instr.storeAt, Instr.sureAddr, hrow, Result.andThen]
  unfold Oper.wp
  rw [hrun]
  show K (a.put o.dst undef) _
  rw [hN]
  exact hK _ _ (h _ (setRow_heap W g old cs t (0, 0) hb) ⟨rfl, rfl, rfl, by simp, fun i _ hi2 => setRow_other W g i cs (fun e => hi2 (by rw [e]))⟩)
theorem b_below {n g : Nat} {w W W1 : World} (h : Below n w W) (hg : W.grownBy W1 (some g)) (hn : n ≤ g) (hs : n ≤ W.heap.size) : Below n w W1 :=
  ⟨hg.os.trans h.os, hg.tape.trans h.tape, hg.output.trans h.output, Nat.le_trans h.size hg.size, fun i hi => (hg.block i (Nat.lt_of_lt_of_le hi hs) (fun e => by injection e with e; omega)).trans (h.block i hi)⟩
set_option maxRecDepth 100000 in
set_option maxHeartbeats 4000000 in
theorem reads_walk (q b0 b1 n : Nat) (g0 g1 : Int → Option Int) (i : S38) (w : World) (hG : OpsLaid w) (hF : FIs w q b0 b1 n g0 g1) (h2 : (Lit.int .i64 i.f2).wf = true) (h3 : (Lit.int .i64 i.f3).wf = true) :
    Calls Tryd.prog 48 #[.pointer (some ⟨q, 0, none⟩), .agg (insV i).toArray] w fun e w' => e = .returned (.agg (insV (readF g1 i)).toArray) ∧ Below w.heap.size w w' := by
  have hu := Tryd.underlying74
  have hu2 := Tryd.underlying38
  have HF := Aside0.mk hF
  have HG := Aside0.mk hG
  have HB := Aside0.mk (Below.refl w.heap.size w)
  clear hF hG
  go_enter Tryd.func48, Tryd.ntmps48
  go_upto_region 1 with (first | ((with_reducible refine gate_dst (N := 3) rfl ?_); refine box_event ?hg (N := 3) ?hd (cs := #[.int .i64 i.f0, .int .i64 i.f1, .int .i64 i.f2, .int .i64 i.f3, .int .i64 i.f4, .int .i64 i.f5, .int .i64 i.f6, .int .i64 i.f7]) (t := 38) ?hr ?_; (case hd => rfl); (case hg => rfl); (case hr => first | (go_simp; done) | (go_simp; rfl)); intro gb hg wb hbox hb; have GE0 := Aside0.mk (show w.heap.size ≤ gb by rw [hg]; exact Nat.le_refl _); have n0_ := Aside0.mk (HF.out.below hb); have n1_ := Aside0.mk hbox; have n3_ := Aside0.mk (below_step HB.out hb); clear HF HB; have HF := n0_; have BKgb := n1_; have HB := n3_; clear n0_ n1_ n3_ hb hbox hg) | ((with_reducible refine gate_dst (N := 4) rfl ?_); refine b_alloc rfl (t := 38) (zs := #[.int .i64 0, .int .i64 0, .int .i64 0, .int .i64 0, .int .i64 0, .int .i64 0, .int .i64 0, .int .i64 0]) rfl (by kernel_rfl) ?_; intro gr hgr wr hnew hb; have BKgr := Aside0.mk hnew; have NEgr := Aside0.mk (show gr ≠ gb by rw [hgr]; exact Nat.ne_of_gt (blk_lt BKgb.out)); have GE1 := Aside0.mk (show w.heap.size ≤ gr by rw [hgr]; exact below_size HB.out); have n0_ := Aside0.mk (HF.out.below hb); have n1_ := Aside0.mk (blk_below BKgb.out hb); have n3_ := Aside0.mk (below_step HB.out hb); clear HF HB BKgb; have HF := n0_; have BKgb := n1_; have HB := n3_; clear n0_ n1_ n3_ hb hnew hgr))
  obtain ⟨hy0, hy1, hy2, hy3, hy4, hy5, hy6, hy7⟩ := f_cells8 BKgb.out
  go_upto_region 2 with (fail)
  refine (ir_Uses.calls 1 _ _ _ _ _ _ _ _ _ _ (HG.out.below (Nat.le_refl _) HB.out) (fuses_some i)).mono ?_
  rintro e wd ⟨vu, rfl, hru, hb⟩
  obtain ⟨Au, cu, rfl⟩ := Kd.R_slice hru
  have n0_ := Aside0.mk (HF.out.below hb)
  have n1_ := Aside0.mk (blk_below BKgb.out hb)
  have n2_ := Aside0.mk (blk_below BKgr.out hb)
  have n3_ := Aside0.mk (below_step HB.out hb)
  clear HF HB BKgb BKgr hy0 hy1 hy2 hy3 hy4 hy5 hy6 hy7 hru
  have HF := n0_
  have BKgb := n1_
  have BKgr := n2_
  have HB := n3_
  clear n0_ n1_ n2_ n3_ hb
  obtain ⟨hy0, hy1, hy2, hy3, hy4, hy5, hy6, hy7⟩ := f_cells8 BKgb.out
  go_upto_region 2 with (fail)
  have hlen : (usesL i).length = 2 ∨ (usesL i).length = 1 ∨ (usesL i).length = 0 := by unfold usesL; cases hasB i.f0 2 <;> cases hasB i.f0 4 <;> simp
  rcases hlen with hl | hl | hl
  · simp only [hl]
    go_upto_region 3 with (fail)
    clear hy0 hy1 hy2 hy3 hy4 hy5 hy6 hy7
    have hdrew := below_drew1 (Below.refl wd.heap.size wd)
    have n0_ := Aside0.mk (HF.out.below hdrew)
    have n1_ := Aside0.mk (blk_below BKgb.out hdrew)
    have n2_ := Aside0.mk (blk_below BKgr.out hdrew)
    have n3_ := Aside0.mk (below_step HB.out hdrew)
    clear HF HB BKgb BKgr
    have HF := n0_
    have BKgb := n1_
    have BKgr := n2_
    have HB := n3_
    clear n0_ n1_ n2_ n3_ hdrew
    refine start_ (n := 12) (S := fun w' => w'.cell? ⟨gb, 2, none⟩ = some (.int .i64 i.f2) ∧ w'.cell? ⟨gb, 3, none⟩ = some (.int .i64 i.f3)) (ds := [9, 11]) (bm_ 12 0) (by kernel_rfl) rfl rfl ⟨(blk_cell BKgb.out 2).trans rfl, (blk_cell BKgb.out 3).trans rfl⟩ (fun hHeld => ?_)
    generalize wd.drew = we at HF HB BKgb BKgr hHeld ⊢
    refine bP (i := 0) (N := some 10) (bm_ 12 1) ?_
    refine bP (i := 1) (N := some 11) (bm_ 12 3) ?_
    refine bP (i := 4) (N := some 14) (bm_ 12 19) ?_
    refine bP (i := 5) (N := some 15) (bm_ 12 51) ?_
    refine bT (i := 2) (N := some 12) (bm_ 12 55) ?_
    refine bT (i := 6) (N := some 16) (bm_ 12 119) ?_
    refine one_ (i := 3) (N := some 13) (bm_ 12 127) rfl rfl (by kernel_rfl) (by decide) (fun K hK => ?_)
    refine goes_ Tryd.func78 (by kernel_rfl) (by kernel_rfl) #[.pointer (some ⟨q, 0, none⟩), .int .i64 i.f2] (by rfl) rfl rfl (by first | rfl | (simp [Act.eval]; done) | (go_simp; done) | (go_simp; rfl)) ?_
    refine (root_walk q b0 b1 n g0 g1 i.f2 _ HF.out h2).mono ?_
    rintro e wf ⟨rfl, hb⟩
    refine ⟨.int .i64 (rootF g1 i.f2), rfl, ?_⟩
    have n0_ := Aside0.mk (HF.out.below hb)
    have n1_ := Aside0.mk (blk_below BKgb.out hb)
    have n2_ := Aside0.mk (blk_below BKgr.out hb)
    have n3_ := Aside0.mk (below_step HB.out hb)
    clear HF HB BKgb BKgr hHeld
    have HF := n0_
    have BKgb := n1_
    have BKgr := n2_
    have HB := n3_
    clear n0_ n1_ n2_ n3_ hb
    refine hK.out _ _ ⟨(blk_cell BKgb.out 2).trans rfl, (blk_cell BKgb.out 3).trans rfl⟩ (fun hHeld => ?_)
    clear hK K
    refine norm_ (a' := ?_) ?_ ?_
    rotate_left
    · show Act.put _ (some 13) _ = _
      go_frame <;> try simp only [i64_w, i32_w]
      rfl
    refine bP (i := 8) (N := some 18) (bm_ 12 383) ?_
    refine one_ (i := 7) (N := some 17) (bm_ 12 511) rfl rfl (by kernel_rfl) (by decide) (fun K hK => ?_)
    refine goes_ Tryd.func78 (by kernel_rfl) (by kernel_rfl) #[.pointer (some ⟨q, 0, none⟩), .int .i64 i.f3] (by rfl) rfl rfl (by first | rfl | (simp [Act.eval]; done) | (go_simp; done) | (go_simp; rfl)) ?_
    refine (root_walk q b0 b1 n g0 g1 i.f3 _ HF.out h3).mono ?_
    rintro e wg ⟨rfl, hb⟩
    refine ⟨.int .i64 (rootF g1 i.f3), rfl, ?_⟩
    have n0_ := Aside0.mk (HF.out.below hb)
    have n1_ := Aside0.mk (blk_below BKgb.out hb)
    have n2_ := Aside0.mk (blk_below BKgr.out hb)
    have n3_ := Aside0.mk (below_step HB.out hb)
    clear HF HB BKgb BKgr hHeld
    have HF := n0_
    have BKgb := n1_
    have BKgr := n2_
    have HB := n3_
    clear n0_ n1_ n2_ n3_ hb
    refine hK.out _ _ ⟨(blk_cell BKgb.out 2).trans rfl, (blk_cell BKgb.out 3).trans rfl⟩ (fun hHeld => ?_)
    clear hK K
    refine norm_ (a' := ?_) ?_ ?_
    rotate_left
    · show Act.put _ (some 17) _ = _
      go_frame <;> try simp only [i64_w, i32_w]
      rfl
    refine last_ (i := 9) (N := none) (bm_ 12 1023) rfl rfl (by kernel_rfl) (by decide) (fun K hK => ?_)
    have hs := (blk_cell BKgb.out 2).trans rfl
    have hfs := blk_frozen BKgb.out 2
    refine skip_ (w1 := ?_) (by rfl) rfl ?_ ?_
    rotate_left
    · go_simp
      rfl
    refine hK.out _ _ ?_
    clear hK K hs hfs
    have n0_ := Aside0.mk (blk_put (cs' := #[.int .i64 i.f0, .int .i64 i.f1, .int .i64 (rootF g1 i.f2), .int .i64 i.f3, .int .i64 i.f4, .int .i64 i.f5, .int .i64 i.f6, .int .i64 i.f7]) BKgb.out 2 (.int .i64 (rootF g1 i.f2)) rfl)
    have n1_ := Aside0.mk (blk_far (p := ⟨gb, 2, none⟩) BKgr.out NEgr.out (.int .i64 (rootF g1 i.f2)))
    have n2_ := Aside0.mk (below_set (j := 2) (v := .int .i64 (rootF g1 i.f2)) HB.out GE0.out)
    clear HB BKgb BKgr
    revert n0_ n1_ n2_; intro BKgb BKgr HB
    generalize World.setCell _ ⟨gb, 2, none⟩ (.int .i64 (rootF g1 i.f2)) = wh at HB BKgb BKgr ⊢
    refine bP (i := 10) (N := some 19) (bm_ 12 2047) ?_
    refine last_ (i := 11) (N := none) (bm_ 12 4095) rfl rfl (by kernel_rfl) (by decide) (fun K hK => ?_)
    have hs := (blk_cell BKgb.out 3).trans rfl
    have hfs := blk_frozen BKgb.out 3
    refine skip_ (w1 := ?_) (by rfl) rfl ?_ ?_
    rotate_left
    · go_simp
      rfl
    refine hK.out _ _ ?_
    clear hK K hs hfs
    refine done_ (by kernel_rfl) ?_
    have n0_ := Aside0.mk (blk_put (cs' := #[.int .i64 i.f0, .int .i64 i.f1, .int .i64 (rootF g1 i.f2), .int .i64 (rootF g1 i.f3), .int .i64 i.f4, .int .i64 i.f5, .int .i64 i.f6, .int .i64 i.f7]) BKgb.out 3 (.int .i64 (rootF g1 i.f3)) rfl)
    have n1_ := Aside0.mk (blk_far (p := ⟨gb, 3, none⟩) BKgr.out NEgr.out (.int .i64 (rootF g1 i.f3)))
    have n2_ := Aside0.mk (below_set (j := 3) (v := .int .i64 (rootF g1 i.f3)) HB.out GE0.out)
    clear HB BKgb BKgr
    revert n0_ n1_ n2_; intro BKgb BKgr HB
    generalize World.setCell _ ⟨gb, 3, none⟩ (.int .i64 (rootF g1 i.f3)) = wi at HB BKgb BKgr ⊢
    obtain ⟨hy0, hy1, hy2, hy3, hy4, hy5, hy6, hy7⟩ := f_cells8 BKgb.out
    go_wp2_with (first | ((with_reducible refine gate_store (t := 38) (p := 4) rfl ?_); refine b_store rfl (t := 38) rfl rfl rfl rfl BKgr.out (by kernel_rfl) rfl (by first | (simp; done) | (simp [Value.oneCell']; done) | (simp; rfl)) ?_; intro wb hnew hgr; have n0_ := Aside0.mk (b_below HB.out hgr GE1.out HB.out.size); have n3_ := Aside0.mk hnew; clear HB BKgr; have HB := n0_; have BKgr := n3_; clear n0_ n3_ hnew hgr))
    refine bodyPost_ret (results_cell_row rfl _ _ gr 38 #[.int .i64 i.f0, .int .i64 i.f1, .int .i64 (rootF g1 i.f2), .int .i64 (rootF g1 i.f3), .int .i64 i.f4, .int .i64 i.f5, .int .i64 i.f6, .int .i64 i.f7] (0, 0) _ rfl BKgr.out Tryd.underlying38 rfl (by kernel_rfl)) rfl ?_
    exact ⟨by simp [readF, hl, insV], HB.out⟩
  · simp only [hl]
    go_upto_region 6 with (fail)
    refine (root_walk q b0 b1 n g0 g1 i.f2 _ HF.out h2).mono ?_
    rintro e wk ⟨rfl, hb⟩
    have n0_ := Aside0.mk (HF.out.below hb)
    have n1_ := Aside0.mk (blk_below BKgb.out hb)
    have n2_ := Aside0.mk (blk_below BKgr.out hb)
    have n3_ := Aside0.mk (below_step HB.out hb)
    clear HF HB BKgb BKgr hy0 hy1 hy2 hy3 hy4 hy5 hy6 hy7
    have HF := n0_
    have BKgb := n1_
    have BKgr := n2_
    have HB := n3_
    clear n0_ n1_ n2_ n3_ hb
    obtain ⟨hy0, hy1, hy2, hy3, hy4, hy5, hy6, hy7⟩ := f_cells8 BKgb.out
    have hfs := blk_frozen BKgb.out 2
    go_upto_region 6 with (fail)
    have n0_ := Aside0.mk (blk_put (cs' := #[.int .i64 i.f0, .int .i64 i.f1, .int .i64 (rootF g1 i.f2), .int .i64 i.f3, .int .i64 i.f4, .int .i64 i.f5, .int .i64 i.f6, .int .i64 i.f7]) BKgb.out 2 (.int .i64 (rootF g1 i.f2)) rfl)
    have n1_ := Aside0.mk (blk_far (p := ⟨gb, 2, none⟩) BKgr.out NEgr.out (.int .i64 (rootF g1 i.f2)))
    have n2_ := Aside0.mk (below_set (j := 2) (v := .int .i64 (rootF g1 i.f2)) HB.out GE0.out)
    clear HF HB BKgb BKgr hy0 hy1 hy2 hy3 hy4 hy5 hy6 hy7 hfs
    revert n0_ n1_ n2_; intro BKgb BKgr HB
    generalize wk.setCell ⟨gb, 2, none⟩ (.int .i64 (rootF g1 i.f2)) = ws at HB BKgb BKgr ⊢
    obtain ⟨hy0, hy1, hy2, hy3, hy4, hy5, hy6, hy7⟩ := f_cells8 BKgb.out
    go_wp2_with (first | ((with_reducible refine gate_store (t := 38) (p := 4) rfl ?_); refine b_store rfl (t := 38) rfl rfl rfl rfl BKgr.out (by kernel_rfl) rfl (by first | (simp; done) | (simp [Value.oneCell']; done) | (simp; rfl)) ?_; intro wb hnew hgr; have n0_ := Aside0.mk (b_below HB.out hgr GE1.out HB.out.size); have n3_ := Aside0.mk hnew; clear HB BKgr; have HB := n0_; have BKgr := n3_; clear n0_ n3_ hnew hgr))
    refine bodyPost_ret (results_cell_row rfl _ _ gr 38 #[.int .i64 i.f0, .int .i64 i.f1, .int .i64 (rootF g1 i.f2), .int .i64 i.f3, .int .i64 i.f4, .int .i64 i.f5, .int .i64 i.f6, .int .i64 i.f7] (0, 0) _ rfl BKgr.out Tryd.underlying38 rfl (by kernel_rfl)) rfl ?_
    exact ⟨by simp [readF, hl, insV], HB.out⟩
  · simp only [hl]
    go_upto_region 6 with (fail)
    go_wp2_with (first | ((with_reducible refine gate_store (t := 38) (p := 4) rfl ?_); refine b_store rfl (t := 38) rfl rfl rfl rfl BKgr.out (by kernel_rfl) rfl (by first | (simp; done) | (simp [Value.oneCell']; done) | (simp; rfl)) ?_; intro wb hnew hgr; have n0_ := Aside0.mk (b_below HB.out hgr GE1.out HB.out.size); have n3_ := Aside0.mk hnew; clear HB BKgr; have HB := n0_; have BKgr := n3_; clear n0_ n3_ hnew hgr))
    refine bodyPost_ret (results_cell_row rfl _ _ gr 38 #[.int .i64 i.f0, .int .i64 i.f1, .int .i64 i.f2, .int .i64 i.f3, .int .i64 i.f4, .int .i64 i.f5, .int .i64 i.f6, .int .i64 i.f7] (0, 0) _ rfl BKgr.out Tryd.underlying38 rfl (by kernel_rfl)) rfl ?_
    exact ⟨by simp [readF, hl, insV], HB.out⟩
/-- The constant that an instruction is known to be, or itself; none: the reckoning has no answer. -/
def constF (g : Int → Option Int) (i : S38) : Option S38 :=
  if i.f0 = 2 ∧ (g i.f2).isSome = true then some ⟨1, i.f1, 0, 0, 0, (g i.f2).getD 0, 0, 0⟩
  else if i.f0 = 3 ∧ (g i.f2).isSome = true ∧ (g i.f3).isSome = true then (calc_Bin.f i.f5 ((g i.f2).getD 0) ((g i.f3).getD 0)).bind fun r => if r.2 = true then some ⟨1, i.f1, 0, 0, 0, r.1, 0, 0⟩ else some i
  else some i
set_option maxRecDepth 100000 in
set_option maxHeartbeats 4000000 in
theorem constant_walk (q b0 b1 n : Nat) (g0 g1 : Int → Option Int) (i r : S38) (w : World) (hF : FIs w q b0 b1 n g0 g1) (h2 : (Lit.int .i64 i.f2).wf = true) (h3 : (Lit.int .i64 i.f3).wf = true) (h : constF g0 i = some r) :
    Calls Tryd.prog 47 #[.pointer (some ⟨q, 0, none⟩), .agg (insV i).toArray] w fun e w' => e = .returned (.agg (insV r).toArray) ∧ Below w.heap.size w w' := by
  have hu := Tryd.underlying74
  have hu2 := Tryd.underlying38
  have HF := Aside0.mk hF
  have HB := Aside0.mk (Below.refl w.heap.size w)
  have HH := Aside0.mk h
  clear hF h
  go_enter Tryd.func47, Tryd.ntmps47
  go_upto_region 1 with (first | ((with_reducible refine gate_dst (N := 3) rfl ?_); refine box_event ?hg (N := 3) ?hd (cs := #[.int .i64 i.f0, .int .i64 i.f1, .int .i64 i.f2, .int .i64 i.f3, .int .i64 i.f4, .int .i64 i.f5, .int .i64 i.f6, .int .i64 i.f7]) (t := 38) ?hr ?_; (case hd => rfl); (case hg => rfl); (case hr => first | (go_simp; done) | (go_simp; rfl)); intro gb hg wb hbox hb; have GE0 := Aside0.mk (show w.heap.size ≤ gb by rw [hg]; exact Nat.le_refl _); have n0_ := Aside0.mk (HF.out.below hb); have n1_ := Aside0.mk hbox; have n3_ := Aside0.mk (below_step HB.out hb); clear HF HB; have HF := n0_; have BKgb := n1_; have HB := n3_; clear n0_ n1_ n3_ hb hbox hg) | ((with_reducible refine gate_dst (N := 4) rfl ?_); refine b_alloc rfl (t := 38) (zs := #[.int .i64 0, .int .i64 0, .int .i64 0, .int .i64 0, .int .i64 0, .int .i64 0, .int .i64 0, .int .i64 0]) rfl (by kernel_rfl) ?_; intro gr hgr wr hnew hb; have BKgr := Aside0.mk hnew; have NEgr := Aside0.mk (show gr ≠ gb by rw [hgr]; exact Nat.ne_of_gt (blk_lt BKgb.out)); have GE1 := Aside0.mk (show w.heap.size ≤ gr by rw [hgr]; exact below_size HB.out); have n0_ := Aside0.mk (HF.out.below hb); have n1_ := Aside0.mk (blk_below BKgb.out hb); have n3_ := Aside0.mk (below_step HB.out hb); clear HF HB BKgb; have HF := n0_; have BKgb := n1_; have HB := n3_; clear n0_ n1_ n3_ hb hnew hgr))
  have hdrew := below_drew1 (Below.refl wr.heap.size wr)
  have n0_ := Aside0.mk (HF.out.below hdrew)
  have n1_ := Aside0.mk (blk_below BKgb.out hdrew)
  have n2_ := Aside0.mk (blk_below BKgr.out hdrew)
  have n3_ := Aside0.mk (below_step HB.out hdrew)
  clear HF HB BKgb BKgr
  have HF := n0_
  have BKgb := n1_
  have BKgr := n2_
  have HB := n3_
  clear n0_ n1_ n2_ n3_ hdrew
  refine start_ (n := 12) (S := fun w' => w'.cell? ⟨q, 0, none⟩ = some (.map (some b0)) ∧ w'.cell? ⟨gb, 2, none⟩ = some (.int .i64 i.f2)) (ds := []) (bm_ 12 0) (by kernel_rfl) rfl rfl ⟨(blk_cell HF.out.box 0).trans rfl, (blk_cell BKgb.out 2).trans rfl⟩ (fun hHeld => ?_)
  generalize wr.drew = we at HF HB BKgb BKgr hHeld ⊢
  refine bP (i := 0) (N := some 12) (bm_ 12 1) ?_
  refine bP (i := 1) (N := some 13) (bm_ 12 3) ?_
  refine bP (i := 2) (N := some 14) (bm_ 12 7) ?_
  refine bP (i := 4) (N := some 16) (bm_ 12 23) ?_
  refine bT (i := 3) (N := some 15) (bm_ 12 31) ?_
  refine bT (i := 5) (N := some 17) (bm_ 12 63) ?_
  refine one_ (i := 6) (N := some 18) (bm_ 12 127) rfl rfl (by kernel_rfl) (by decide) (fun K hK => ?_)
  have hrun := HF.out.m0.look Tryd.underlying3 Tryd.underlying70 (mt := 70) zeroI h2
  refine value_ (w1 := we) (v := .tuple #[.int .i64 ((g0 i.f2).getD 0), .bool (g0 i.f2).isSome]) (by rfl) rfl ?_ ?_
  · simp [execOp, Act.eval, hrun, Result.andThen]
  clear hrun
  refine hK.out _ _ hHeld (fun _ => ?_)
  clear hK K
  refine norm_ (a' := ?_) ?_ ?_
  rotate_left
  · show Act.put _ (some 18) _ = _
    go_frame <;> try simp only [i64_w, i32_w]
    rfl
  refine bP (i := 7) (N := some 11) (bm_ 12 255) ?_
  refine bP (i := 8) (N := some 19) (bm_ 12 511) ?_
  refine bP (i := 9) (N := some 20) (bm_ 12 1023) ?_
  refine bP (i := 10) (N := some 5) (bm_ 12 2047) ?_
  refine bP (i := 11) (N := some 6) (bm_ 12 4095) ?_
  refine done_ (by kernel_rfl) ?_
  clear hHeld
  go_upto_region 2 with (fail)
  have hdrew := below_drew1 (Below.refl we.heap.size we)
  have n0_ := Aside0.mk (HF.out.below hdrew)
  have n1_ := Aside0.mk (blk_below BKgb.out hdrew)
  have n2_ := Aside0.mk (blk_below BKgr.out hdrew)
  have n3_ := Aside0.mk (below_step HB.out hdrew)
  clear HF HB BKgb BKgr
  have HF := n0_
  have BKgb := n1_
  have BKgr := n2_
  have HB := n3_
  clear n0_ n1_ n2_ n3_ hdrew
  refine start_ (n := 12) (S := fun w' => w'.cell? ⟨q, 0, none⟩ = some (.map (some b0)) ∧ w'.cell? ⟨gb, 3, none⟩ = some (.int .i64 i.f3)) (ds := []) (bm_ 12 0) (by kernel_rfl) rfl rfl ⟨(blk_cell HF.out.box 0).trans rfl, (blk_cell BKgb.out 3).trans rfl⟩ (fun hHeld => ?_)
  generalize we.drew = wf at HF HB BKgb BKgr hHeld ⊢
  refine bP (i := 0) (N := some 22) (bm_ 12 1) ?_
  refine bP (i := 1) (N := some 23) (bm_ 12 3) ?_
  refine bP (i := 2) (N := some 24) (bm_ 12 7) ?_
  refine bP (i := 4) (N := some 26) (bm_ 12 23) ?_
  refine bT (i := 3) (N := some 25) (bm_ 12 31) ?_
  refine bT (i := 5) (N := some 27) (bm_ 12 63) ?_
  refine one_ (i := 6) (N := some 28) (bm_ 12 127) rfl rfl (by kernel_rfl) (by decide) (fun K hK => ?_)
  have hrun := HF.out.m0.look Tryd.underlying3 Tryd.underlying70 (mt := 70) zeroI h3
  refine value_ (w1 := wf) (v := .tuple #[.int .i64 ((g0 i.f3).getD 0), .bool (g0 i.f3).isSome]) (by rfl) rfl ?_ ?_
  · simp [execOp, Act.eval, hrun, Result.andThen]
  clear hrun
  refine hK.out _ _ hHeld (fun _ => ?_)
  clear hK K
  refine norm_ (a' := ?_) ?_ ?_
  rotate_left
  · show Act.put _ (some 28) _ = _
    go_frame <;> try simp only [i64_w, i32_w]
    rfl
  refine bP (i := 7) (N := some 21) (bm_ 12 255) ?_
  refine bP (i := 8) (N := some 29) (bm_ 12 511) ?_
  refine bP (i := 9) (N := some 30) (bm_ 12 1023) ?_
  refine bP (i := 10) (N := some 7) (bm_ 12 2047) ?_
  refine bP (i := 11) (N := some 8) (bm_ 12 4095) ?_
  refine done_ (by kernel_rfl) ?_
  clear hHeld
  obtain ⟨hy0, hy1, hy2, hy3, hy4, hy5, hy6, hy7⟩ := f_cells8 BKgb.out
  go_wp2_with (first | ((with_reducible refine gate_store (t := 38) (p := 4) rfl ?_); refine b_store rfl (t := 38) rfl rfl rfl rfl BKgr.out (by kernel_rfl) rfl (by first | (simp; done) | (simp [Value.oneCell']; done) | (simp; rfl)) ?_; intro wb hnew hgr; have n0_ := Aside0.mk (b_below HB.out hgr GE1.out HB.out.size); have n3_ := Aside0.mk hnew; clear HB BKgr; have HB := n0_; have BKgr := n3_; clear n0_ n3_ hnew hgr))
  · rename_i ho ha
    refine bodyPost_ret (results_cell_row rfl _ _ gr 38 #[_, _, _, _, _, _, _, _] (0, 0) _ rfl BKgr.out Tryd.underlying38 rfl (by kernel_rfl)) rfl ?_
    refine ⟨?_, HB.out⟩
    have hh := HH.out
    unfold constF at hh
    rw [if_pos ⟨ho, ha⟩] at hh
    injection hh with hh
    subst hh
    first | rfl | (simp [insV]; done) | (simp_all [insV]; done)
  · rename_i ho ha
    refine bodyPost_ret (results_cell_row rfl _ _ gr 38 #[_, _, _, _, _, _, _, _] (0, 0) _ rfl BKgr.out Tryd.underlying38 rfl (by kernel_rfl)) rfl ?_
    refine ⟨?_, HB.out⟩
    have hh := HH.out
    unfold constF at hh
    rw [if_neg (by rintro ⟨_, h⟩; rw [ha] at h; cases h), if_neg (by rintro ⟨h, _⟩; omega)] at hh
    injection hh with hh
    subst hh
    first | rfl | (simp [insV]; done) | (simp_all [insV]; done)
  · rename_i ho h3_ ha hb_ _ _
    have hh := HH.out
    unfold constF at hh
    rw [if_neg (fun h => absurd h.1 (by assumption)), if_pos ⟨by assumption, by assumption, by assumption⟩] at hh
    obtain ⟨⟨v, ok⟩, hv, hr⟩ := Option.bind_eq_some_iff.1 hh
    refine (calc_Bin.calls _ _ _ _ _ _ hv).mono ?_
    rintro e wk ⟨rfl, nd, rfl⟩
    have hdrew : Below wf.heap.size wf (wf.drewN nd) := by repeat (first | exact Below.refl _ _ | apply pw_below_drewN)
    have n0_ := Aside0.mk (HF.out.below hdrew)
    have n1_ := Aside0.mk (blk_below BKgb.out hdrew)
    have n2_ := Aside0.mk (blk_below BKgr.out hdrew)
    have n3_ := Aside0.mk (below_step HB.out hdrew)
    clear HF HB BKgb BKgr hy0 hy1 hy2 hy3 hy4 hy5 hy6 hy7
    have HF := n0_
    have BKgb := n1_
    have BKgr := n2_
    have HB := n3_
    clear n0_ n1_ n2_ n3_ hdrew
    generalize wf.drewN nd = wg at HF HB BKgb BKgr ⊢
    obtain ⟨hy0, hy1, hy2, hy3, hy4, hy5, hy6, hy7⟩ := f_cells8 BKgb.out
    cases ok with
    | true =>
      go_wp2_with (first | ((with_reducible refine gate_store (t := 38) (p := 4) rfl ?_); refine b_store rfl (t := 38) rfl rfl rfl rfl BKgr.out (by kernel_rfl) rfl (by first | (simp; done) | (simp [Value.oneCell']; done) | (simp; rfl)) ?_; intro wb hnew hgr; have n0_ := Aside0.mk (b_below HB.out hgr GE1.out HB.out.size); have n3_ := Aside0.mk hnew; clear HB BKgr; have HB := n0_; have BKgr := n3_; clear n0_ n3_ hnew hgr))
      refine bodyPost_ret (results_cell_row rfl _ _ gr 38 #[_, _, _, _, _, _, _, _] (0, 0) _ rfl BKgr.out Tryd.underlying38 rfl (by kernel_rfl)) rfl ?_
      refine ⟨?_, HB.out⟩
      simp only [if_true, Option.some.injEq] at hr
      subst hr
      first | rfl | (simp [insV]; done)
    | false =>
      go_wp2_with (first | ((with_reducible refine gate_store (t := 38) (p := 4) rfl ?_); refine b_store rfl (t := 38) rfl rfl rfl rfl BKgr.out (by kernel_rfl) rfl (by first | (simp; done) | (simp [Value.oneCell']; done) | (simp; rfl)) ?_; intro wb hnew hgr; have n0_ := Aside0.mk (b_below HB.out hgr GE1.out HB.out.size); have n3_ := Aside0.mk hnew; clear HB BKgr; have HB := n0_; have BKgr := n3_; clear n0_ n3_ hnew hgr))
      refine bodyPost_ret (results_cell_row rfl _ _ gr 38 #[_, _, _, _, _, _, _, _] (0, 0) _ rfl BKgr.out Tryd.underlying38 rfl (by kernel_rfl)) rfl ?_
      refine ⟨?_, HB.out⟩
      simp at hr
      subst hr
      first | rfl | (simp [insV]; done) | (simp_all [insV]; done)
  · rename_i ho h3_ ha hb_
    refine bodyPost_ret (results_cell_row rfl _ _ gr 38 #[_, _, _, _, _, _, _, _] (0, 0) _ rfl BKgr.out Tryd.underlying38 rfl (by kernel_rfl)) rfl ?_
    refine ⟨?_, HB.out⟩
    have hh := HH.out
    unfold constF at hh
    rw [if_neg (fun h => ho h.1), if_neg (by rintro ⟨_, _, h⟩; rw [hb_] at h; cases h)] at hh
    injection hh with hh
    subst hh
    first | rfl | (simp [insV]; done) | (simp_all [insV]; done)
  · rename_i ho h3_ ha
    refine bodyPost_ret (results_cell_row rfl _ _ gr 38 #[_, _, _, _, _, _, _, _] (0, 0) _ rfl BKgr.out Tryd.underlying38 rfl (by kernel_rfl)) rfl ?_
    refine ⟨?_, HB.out⟩
    have hh := HH.out
    unfold constF at hh
    rw [if_neg (fun h => ho h.1), if_neg (fun h => ha h.2.1)] at hh
    injection hh with hh
    subst hh
    first | rfl | (simp [insV]; done) | (simp_all [insV]; done)
  · rename_i ho h3_
    refine bodyPost_ret (results_cell_row rfl _ _ gr 38 #[_, _, _, _, _, _, _, _] (0, 0) _ rfl BKgr.out Tryd.underlying38 rfl (by kernel_rfl)) rfl ?_
    refine ⟨?_, HB.out⟩
    have hh := HH.out
    unfold constF at hh
    rw [if_neg (fun h => ho h.1), if_neg (fun h => h3_ h.1)] at hh
    injection hh with hh
    subst hh
    first | rfl | (simp [insV]; done) | (simp_all [insV]; done)
def endV (e0 e1 e2 e3 : Int) : List Value := [.int .i64 e0, .int .i64 e1, .int .i64 e2, .int .i64 e3]
theorem f_cells4 {w : World} {g : Nat} {t : TypeId} {x0 x1 x2 x3 : Value} (h : w.heap[g]? = some (.cells #[x0, x1, x2, x3] t (0, 0))) : w.cell? ⟨g, 0, none⟩ = some x0 ∧ w.cell? ⟨g, 1, none⟩ = some x1 ∧ w.cell? ⟨g, 2, none⟩ = some x2 ∧ w.cell? ⟨g, 3, none⟩ = some x3 := ⟨(blk_cell h 0).trans rfl, (blk_cell h 1).trans rfl, (blk_cell h 2).trans rfl, (blk_cell h 3).trans rfl⟩
/-- An end as it is known. -/
def endF (g c : Int → Option Int) (e0 e1 e2 e3 : Int) : Int × Int × Int × Int :=
  if e0 = 2 then (if (g (rootF c e1)).isSome = true then (if (g (rootF c e1)).getD 0 = 0 then (1, 0, e3, 0) else (1, 0, e2, 0)) else (2, rootF c e1, e2, e3)) else (e0, e1, e2, e3)
theorem FIs.far0 {w : World} {q b0 b1 n g : Nat} {g0 g1 : Int → Option Int} (h : FIs w q b0 b1 n g0 g1) (hq : g ≠ q) (h0 : g ≠ b0) (h1 : g ≠ b1) (j : Nat) (v : Value) : FIs (w.setCell ⟨g, j, none⟩ v) q b0 b1 n g0 g1 :=
  ⟨blk_far (p := ⟨g, j, none⟩) h.box (Ne.symm hq) v, h.m0.same (Below.heap_setCell _ ⟨g, j, none⟩ v b0 (Ne.symm h0)), h.m1.same (Below.heap_setCell _ ⟨g, j, none⟩ v b1 (Ne.symm h1)), h.ne, h.n0, h.n1⟩
theorem rootF_wf {c : Int → Option Int} {v : Int} (hv : (Lit.int .i64 v).wf = true) (hc : ∀ u x, c u = some x → (Lit.int .i64 x).wf = true) : (Lit.int .i64 (rootF c v)).wf = true := by
  unfold rootF
  cases h : c v with
  | none => exact hv
  | some x => exact hc v x h
set_option maxRecDepth 100000 in
set_option maxHeartbeats 4000000 in
theorem end_walk (q b0 b1 n : Nat) (g0 g1 : Int → Option Int) (e0 e1 e2 e3 : Int) (w : World) (hF : FIs w q b0 b1 n g0 g1) (h1 : (Lit.int .i64 e1).wf = true) (hc : ∀ u x, g1 u = some x → (Lit.int .i64 x).wf = true) :
    Calls Tryd.prog 50 #[.pointer (some ⟨q, 0, none⟩), .agg (endV e0 e1 e2 e3).toArray] w fun e w' => e = .returned (.agg (endV (endF g0 g1 e0 e1 e2 e3).1 (endF g0 g1 e0 e1 e2 e3).2.1 (endF g0 g1 e0 e1 e2 e3).2.2.1 (endF g0 g1 e0 e1 e2 e3).2.2.2).toArray) ∧ Below w.heap.size w w' := by
  have hu := Tryd.underlying74
  have hu2 := Tryd.underlying34
  have HF := Aside0.mk hF
  have HB := Aside0.mk (Below.refl w.heap.size w)
  clear hF
  go_enter Tryd.func50, Tryd.ntmps50
  go_upto_region 1 with (first | ((with_reducible refine gate_dst (N := 3) rfl ?_); refine box_event ?hg (N := 3) ?hd (cs := #[.int .i64 e0, .int .i64 e1, .int .i64 e2, .int .i64 e3]) (t := 34) ?hr ?_; (case hd => rfl); (case hg => rfl); (case hr => first | (go_simp; done) | (go_simp; rfl)); intro gb hg wb hbox hb; have GE0 := Aside0.mk (show w.heap.size ≤ gb by rw [hg]; exact Nat.le_refl _); have NE0 := Aside0.mk (show gb ≠ q by rw [hg]; exact Nat.ne_of_gt (blk_lt HF.out.box)); have NE1 := Aside0.mk (show gb ≠ b0 by rw [hg]; exact Nat.ne_of_gt HF.out.m0.lt); have NE2 := Aside0.mk (show gb ≠ b1 by rw [hg]; exact Nat.ne_of_gt HF.out.m1.lt); have n0_ := Aside0.mk (HF.out.below hb); have n1_ := Aside0.mk hbox; have n3_ := Aside0.mk (below_step HB.out hb); clear HF HB; have HF := n0_; have BKgb := n1_; have HB := n3_; clear n0_ n1_ n3_ hb hbox hg) | ((with_reducible refine gate_dst (N := 4) rfl ?_); refine b_alloc rfl (t := 34) (zs := #[.int .i64 0, .int .i64 0, .int .i64 0, .int .i64 0]) rfl (by kernel_rfl) ?_; intro gr hgr wr hnew hb; have BKgr := Aside0.mk hnew; have NEgr := Aside0.mk (show gr ≠ gb by rw [hgr]; exact Nat.ne_of_gt (blk_lt BKgb.out)); have GE1 := Aside0.mk (show w.heap.size ≤ gr by rw [hgr]; exact below_size HB.out); have n0_ := Aside0.mk (HF.out.below hb); have n1_ := Aside0.mk (blk_below BKgb.out hb); have n3_ := Aside0.mk (below_step HB.out hb); clear HF HB BKgb; have HF := n0_; have BKgb := n1_; have HB := n3_; clear n0_ n1_ n3_ hb hnew hgr))
  obtain ⟨hy0, hy1, hy2, hy3⟩ := f_cells4 BKgb.out
  by_cases ho : e0 = 2
  · have hob : (e0 != 2) = false := by simp [ho]
    go_upto_region 4 with (fail)
    refine (root_walk q b0 b1 n g0 g1 e1 _ HF.out h1).mono ?_
    rintro e wf ⟨rfl, hb⟩
    have n0_ := Aside0.mk (HF.out.below hb)
    have n1_ := Aside0.mk (blk_below BKgb.out hb)
    have n2_ := Aside0.mk (blk_below BKgr.out hb)
    have n3_ := Aside0.mk (below_step HB.out hb)
    clear HF HB BKgb BKgr hy0 hy1 hy2 hy3
    have HF := n0_
    have BKgb := n1_
    have BKgr := n2_
    have HB := n3_
    clear n0_ n1_ n2_ n3_ hb
    obtain ⟨hy0, hy1, hy2, hy3⟩ := f_cells4 BKgb.out
    have hfs := blk_frozen BKgb.out 1
    go_upto_region 4 with (fail)
    have n0_ := Aside0.mk (blk_put (cs' := #[.int .i64 e0, .int .i64 (rootF g1 e1), .int .i64 e2, .int .i64 e3]) BKgb.out 1 (.int .i64 (rootF g1 e1)) rfl)
    have n1_ := Aside0.mk (blk_far (p := ⟨gb, 1, none⟩) BKgr.out NEgr.out (.int .i64 (rootF g1 e1)))
    have n2_ := Aside0.mk (below_set (j := 1) (v := .int .i64 (rootF g1 e1)) HB.out GE0.out)
    have n3_ := Aside0.mk (HF.out.far0 NE0.out NE1.out NE2.out 1 (.int .i64 (rootF g1 e1)))
    clear HF HB BKgb BKgr hy0 hy1 hy2 hy3 hfs
    revert n0_ n1_ n2_ n3_; intro BKgb BKgr HB HF
    generalize wf.setCell ⟨gb, 1, none⟩ (.int .i64 (rootF g1 e1)) = ws at HF HB BKgb BKgr ⊢
    have hdrew := below_drew1 (Below.refl ws.heap.size ws)
    have n0_ := Aside0.mk (HF.out.below hdrew)
    have n1_ := Aside0.mk (blk_below BKgb.out hdrew)
    have n2_ := Aside0.mk (blk_below BKgr.out hdrew)
    have n3_ := Aside0.mk (below_step HB.out hdrew)
    clear HF HB BKgb BKgr
    have HF := n0_
    have BKgb := n1_
    have BKgr := n2_
    have HB := n3_
    clear n0_ n1_ n2_ n3_ hdrew
    refine start_ (n := 12) (S := fun w' => w'.cell? ⟨q, 0, none⟩ = some (.map (some b0)) ∧ w'.cell? ⟨gb, 1, none⟩ = some (.int .i64 (rootF g1 e1))) (ds := []) (bm_ 12 0) (by kernel_rfl) rfl rfl ⟨(blk_cell HF.out.box 0).trans rfl, (blk_cell BKgb.out 1).trans rfl⟩ (fun hHeld => ?_)
    generalize ws.drew = we at HF HB BKgb BKgr hHeld ⊢
    refine bP (i := 0) (N := some 17) (bm_ 12 1) ?_
    refine bP (i := 1) (N := some 18) (bm_ 12 3) ?_
    refine bP (i := 2) (N := some 19) (bm_ 12 7) ?_
    refine bP (i := 4) (N := some 21) (bm_ 12 23) ?_
    refine bT (i := 3) (N := some 20) (bm_ 12 31) ?_
    refine bT (i := 5) (N := some 22) (bm_ 12 63) ?_
    refine one_ (i := 6) (N := some 23) (bm_ 12 127) rfl rfl (by kernel_rfl) (by decide) (fun K hK => ?_)
    have hrun := HF.out.m0.look Tryd.underlying3 Tryd.underlying70 (mt := 70) zeroI (rootF_wf h1 hc)
    refine value_ (w1 := we) (v := .tuple #[.int .i64 ((g0 (rootF g1 e1)).getD 0), .bool (g0 (rootF g1 e1)).isSome]) (by rfl) rfl ?_ ?_
    · simp [execOp, Act.eval, hrun, Result.andThen]
    clear hrun
    refine hK.out _ _ hHeld (fun _ => ?_)
    clear hK K
    refine norm_ (a' := ?_) ?_ ?_
    rotate_left
    · show Act.put _ (some 23) _ = _
      go_frame <;> try simp only [i64_w, i32_w]
      rfl
    refine bP (i := 7) (N := some 16) (bm_ 12 255) ?_
    refine bP (i := 8) (N := some 24) (bm_ 12 511) ?_
    refine bP (i := 9) (N := some 25) (bm_ 12 1023) ?_
    refine bP (i := 10) (N := some 5) (bm_ 12 2047) ?_
    refine bP (i := 11) (N := some 6) (bm_ 12 4095) ?_
    refine done_ (by kernel_rfl) ?_
    clear hHeld
    obtain ⟨hy0, hy1, hy2, hy3⟩ := f_cells4 BKgb.out
    go_wp2_with (first | ((with_reducible refine gate_store (t := 34) (p := 4) rfl ?_); refine b_store rfl (t := 34) rfl rfl rfl rfl BKgr.out (by kernel_rfl) rfl (by first | (simp; done) | (simp [Value.oneCell']; done) | (simp; rfl)) ?_; intro wb hnew hgr; have n0_ := Aside0.mk (b_below HB.out hgr GE1.out HB.out.size); have n3_ := Aside0.mk hnew; clear HB BKgr; have HB := n0_; have BKgr := n3_; clear n0_ n3_ hnew hgr))
    · rename_i hn_
      refine bodyPost_ret (results_cell_row rfl _ _ gr 34 #[_, _, _, _] (0, 0) _ rfl BKgr.out Tryd.underlying34 rfl (by kernel_rfl)) rfl ?_
      refine ⟨?_, HB.out⟩
      have hs_ : ¬ (g0 (rootF g1 e1)).isSome = true := by intro h; cases hh : g0 (rootF g1 e1) with
        | none => rw [hh] at h; cases h
        | some x => rw [hh] at hn_; cases hn_
      unfold endF
      rw [if_pos ho, if_neg hs_]
      simp [endV, ho]
    · have hn1 : (g0 (rootF g1 e1)).isNone = false := by assumption
      have hn2 : ((g0 (rootF g1 e1)).getD 0 != 0) = true := by assumption
      refine bodyPost_ret (results_cell_row rfl _ _ gr 34 #[_, _, _, _] (0, 0) _ rfl BKgr.out Tryd.underlying34 rfl (by kernel_rfl)) rfl ?_
      refine ⟨?_, HB.out⟩
      have hs_ : (g0 (rootF g1 e1)).isSome = true := by cases hh : g0 (rootF g1 e1) with
        | none => rw [hh] at hn1; cases hn1
        | some x => rfl
      unfold endF
      rw [if_pos ho, if_pos hs_, if_neg (by simpa using hn2)]
      simp [endV]
    · have hn1 : (g0 (rootF g1 e1)).isNone = false := by assumption
      have hn2 : ((g0 (rootF g1 e1)).getD 0 != 0) = false := by assumption
      refine bodyPost_ret (results_cell_row rfl _ _ gr 34 #[_, _, _, _] (0, 0) _ rfl BKgr.out Tryd.underlying34 rfl (by kernel_rfl)) rfl ?_
      refine ⟨?_, HB.out⟩
      have hs_ : (g0 (rootF g1 e1)).isSome = true := by cases hh : g0 (rootF g1 e1) with
        | none => rw [hh] at hn1; cases hn1
        | some x => rfl
      unfold endF
      rw [if_pos ho, if_pos hs_, if_pos (by simpa using hn2)]
      simp [endV]
  · have hob : (e0 != 2) = true := by simp [ho]
    go_wp2_with (first | ((with_reducible refine gate_store (t := 34) (p := 4) rfl ?_); refine b_store rfl (t := 34) rfl rfl rfl rfl BKgr.out (by kernel_rfl) rfl (by first | (simp; done) | (simp [Value.oneCell']; done) | (simp; rfl)) ?_; intro wb hnew hgr; have n0_ := Aside0.mk (b_below HB.out hgr GE1.out HB.out.size); have n3_ := Aside0.mk hnew; clear HB BKgr; have HB := n0_; have BKgr := n3_; clear n0_ n3_ hnew hgr))
    refine bodyPost_ret (results_cell_row rfl _ _ gr 34 #[_, _, _, _] (0, 0) _ rfl BKgr.out Tryd.underlying34 rfl (by kernel_rfl)) rfl ?_
    refine ⟨?_, HB.out⟩
    simp [endF, ho, endV]
/-- A store into another block. -/
theorem FIs.grown {w w1 : World} {q b0 b1 n : Nat} {g0 g1 : Int → Option Int} (h : FIs w q b0 b1 n g0 g1) {row : Option Nat} (hg : w.grownBy w1 row) (hq : some q ≠ row) (h0 : some b0 ≠ row) (h1 : some b1 ≠ row) : FIs w1 q b0 b1 n g0 g1 :=
  ⟨blk_grown h.box hg hq, h.m0.kept hg h0, h.m1.kept hg h1, h.ne, h.n0, h.n1⟩
theorem FIs.far {w : World} {q b0 b1 n g : Nat} {g0 g1 : Int → Option Int} (h : FIs w q b0 b1 n g0 g1) (hq : g ≠ q) (h0 : g ≠ b0) (h1 : g ≠ b1) (j : Nat) (v : Value) : FIs (w.setCell ⟨g, j, none⟩ v) q b0 b1 n g0 g1 :=
  ⟨blk_far (p := ⟨g, j, none⟩) h.box (Ne.symm hq) v, h.m0.same (Below.heap_setCell _ ⟨g, j, none⟩ v b0 (Ne.symm h0)), h.m1.same (Below.heap_setCell _ ⟨g, j, none⟩ v b1 (Ne.symm h1)), h.ne, h.n0, h.n1⟩
theorem Turn2.after {b0 b1 : Nat} {w w1 w2 : World} (h : Turn2 b0 b1 w1 w2) (hb : Below w.heap.size w w1) (h0 : w.heap.size ≤ b0) (h1 : w.heap.size ≤ b1) : Below w.heap.size w w2 :=
  ⟨h.os.trans hb.os, h.tape.trans hb.tape, h.output.trans hb.output, Nat.le_trans hb.size h.size, fun i hi => (h.block i (Nat.lt_of_lt_of_le hi hb.size) (fun e => by omega) (fun e => by omega)).trans (hb.block i hi)⟩
theorem R_turn2 {α : Type} {d : Kd α} {e base b0 b1 : Nat} {ok : Nat → Prop} {w w1 : World} {v : Value} {xs : List α} (h : d.R e w base ok v xs) (ht : Turn2 b0 b1 w w1) (h0 : some b0 ≠ v.ownBlock) (h1 : some b1 ≠ v.ownBlock) (hE : d.E = [] := by rfl) : d.R e w1 base ok v xs :=
  Kd.R_mono (Kd.R_step (Kd.R_tight hE h) (fun k hk hlt => ht.block k hlt (fun e_ => h0 (by rw [← e_]; exact hk)) (fun e_ => h1 (by rw [← e_]; exact hk)))) (fun k hk => h.1 k hk.symm)
theorem b_map {ops : Array Oper} {rest : List Oper} {o : Oper} {a : Act} {Q : Exit → Act → World → Prop} {W : World} {m : TypeId} (hg : o.guard = none) (hop : o.op = .makeMap m none)
    (h : ∀ b, b = W.heap.size → ∀ w1, Eval.MapIs Tryd.prog 3 w1 b 0 (fun _ => none) → Below W.heap.size W w1 → wpList Tryd.prog ops Q rest (a.put o.dst (.map (some b))) w1) : wpList Tryd.prog ops Q (o :: rest) a W :=
  Kd.event_run hg (by simp [execOp, hop, run_makeMap, Result.andThen]) (h _ rfl _ (Eval.MapIs.made _ _ _) (below_alloc (Below.refl _ _) _))
/-- What an instruction becomes, where its number is one; none: the reckoning has no answer. -/
def stepR (g0 g1 : Int → Option Int) (i : S38) : Option S38 := (constF g0 (readF g1 i)).bind fun j => if (Lit.int .i64 j.f5).wf = true then some j else none
/-- What a block's instructions become, and what is known behind them. -/
def runF : (Int → Option Int) → (Int → Option Int) → List S38 → Option (List S38 × (Int → Option Int) × (Int → Option Int))
  | g0, g1, [] => some ([], g0, g1)
  | g0, g1, i :: r => (stepR g0 g1 i).bind fun j => (runF (learn0 g0 j) (learn1 g1 j) r).map fun p => (j :: p.1, p.2)
/-- Is a block of no odd numbers, and not too long? -/
def okB (l : List S38) (e : Int) : Prop := l.length ≤ 4294967296 ∧ (∀ i ∈ l, (Lit.int .i64 i.f1).wf = true ∧ (Lit.int .i64 i.f2).wf = true ∧ (Lit.int .i64 i.f3).wf = true) ∧ (Lit.int .i64 e).wf = true
instance (l : List S38) (e : Int) : Decidable (okB l e) := by unfold okB; exact inferInstance
def fold_block.f (l : List (S38)) (e0 e1 e2 e3 : Int) : Option (List (S38) × Int × Int × Int × Int) := if okB l e1 then (runF (fun _ => none) (fun _ => none) l).map fun p => (p.1, endF p.2.1 p.2.2 e0 e1 e2 e3) else none
def allWf (g : Int → Option Int) : Prop := ∀ u x, g u = some x → (Lit.int .i64 x).wf = true
theorem drop0_wf {g : Int → Option Int} (h : allWf g) (v : Int) : allWf (drop0 v g) := by
  intro u x hx
  unfold drop0 at hx
  split at hx
  · cases hx
  · exact h u x hx
theorem drop1_wf {g : Int → Option Int} (h : allWf g) (v : Int) : allWf (drop1 v g) := by
  intro u x hx
  unfold drop1 at hx
  split at hx
  · cases hx
  · exact drop0_wf h v u x hx
theorem learn0_wf {g : Int → Option Int} (h : allWf g) {i : S38} (h5 : (Lit.int .i64 i.f5).wf = true) : allWf (learn0 g i) := by
  unfold learn0
  split
  · split
    · intro u x hx
      simp only at hx
      split at hx
      · injection hx with hx; subst hx; exact h5
      · exact drop0_wf h _ u x hx
    · exact drop0_wf h _
  · exact h
theorem learn1_wf {g : Int → Option Int} (h : allWf g) {i : S38} (h2 : (Lit.int .i64 i.f2).wf = true) : allWf (learn1 g i) := by
  unfold learn1
  split
  · split
    · intro u x hx
      simp only at hx
      split at hx
      · injection hx with hx; subst hx; exact h2
      · exact drop1_wf h _ u x hx
    · exact drop1_wf h _
  · exact h
theorem readF_wf {g : Int → Option Int} (h : allWf g) {i : S38} (h1 : (Lit.int .i64 i.f1).wf = true) (h2 : (Lit.int .i64 i.f2).wf = true) (h3 : (Lit.int .i64 i.f3).wf = true) : (Lit.int .i64 (readF g i).f1).wf = true ∧ (Lit.int .i64 (readF g i).f2).wf = true ∧ (Lit.int .i64 (readF g i).f3).wf = true := by
  unfold readF
  split
  · exact ⟨h1, rootF_wf h2 h, rootF_wf h3 h⟩
  · split
    · exact ⟨h1, rootF_wf h2 h, h3⟩
    · exact ⟨h1, h2, h3⟩
theorem zero_wf : (Lit.int .i64 0).wf = true := by decide
theorem constF_wf {g : Int → Option Int} {i j : S38} (h : constF g i = some j) (h1 : (Lit.int .i64 i.f1).wf = true) (h2 : (Lit.int .i64 i.f2).wf = true) : (Lit.int .i64 j.f1).wf = true ∧ (Lit.int .i64 j.f2).wf = true := by
  unfold constF at h
  split at h
  · injection h with h; subst h; exact ⟨h1, zero_wf⟩
  · split at h
    · obtain ⟨r, _, hr⟩ := Option.bind_eq_some_iff.1 h
      split at hr
      · injection hr with hr; subst hr; exact ⟨h1, zero_wf⟩
      · injection hr with hr; subst hr; exact ⟨h1, h2⟩
    · injection h with h; subst h; exact ⟨h1, h2⟩
theorem b_drop {α : Type} (l : List α) (z : α) (i : Nat) (h : i < l.length) : l.drop i = l.getD i z :: l.drop (i + 1) := by
  rw [List.drop_eq_getElem_cons h]
  simp [h]
theorem b_cells5 {w : World} {g : Nat} {t : TypeId} {x0 x1 x2 x3 x4 : Value} (h : w.heap[g]? = some (.cells #[x0, x1, x2, x3, x4] t (0, 0))) : w.cell? ⟨g, 0, none⟩ = some x0 ∧ w.cell? ⟨g, 1, none⟩ = some x1 ∧ w.cell? ⟨g, 2, none⟩ = some x2 ∧ w.cell? ⟨g, 3, none⟩ = some x3 ∧ w.cell? ⟨g, 4, none⟩ = some x4 := ⟨(blk_cell h 0).trans rfl, (blk_cell h 1).trans rfl, (blk_cell h 2).trans rfl, (blk_cell h 3).trans rfl, (blk_cell h 4).trans rfl⟩
/-- A map's block is no row. -/
theorem map_ne {n b : Nat} {g : Int → Option Int} {w : World} {v : Value} {xs : List S38} {base : Nat} {ok : Nat → Prop} (hm : Eval.MapIs Tryd.prog 3 w b n g) (ho : Kd.R k38 38 w base ok v xs) : some b ≠ v.ownBlock := by
  obtain ⟨D, ⟨es, clock, h1, _⟩, _⟩ := hm
  obtain ⟨h0, inner, hown, _⟩ := ho
  intro e
  obtain ⟨cells, hc⟩ := own_typed hown b e.symm
  rw [h1] at hc
  cases hc
set_option maxRecDepth 100000 in
set_option maxHeartbeats 8000000 in
theorem fold_block.calls (A0_0 : Option Addr) (c0_0 : Nat) (l0_0 : List (S38)) (a0_1 : Int) (a0_2 : Int) (a0_3 : Int) (a0_4 : Int) (r1 : List (S38)) (r2 : Int) (r3 : Int) (r4 : Int) (r5 : Int) (w : World) (hr0_0 : Kd.C k38 w A0_0 l0_0.length l0_0) (hc0_0 : l0_0.length ≤ c0_0) (hG : OpsLaid w) (h : fold_block.f l0_0 a0_1 a0_2 a0_3 a0_4 = some (r1, r2, r3, r4, r5)) :
    Calls Tryd.prog 29 #[.agg #[.slice A0_0 l0_0.length c0_0, .int .i64 a0_1, .int .i64 a0_2, .int .i64 a0_3, .int .i64 a0_4]] w fun e w' => ∃ v0_ : Value, e = .returned (.agg #[v0_, .int .i64 r2, .int .i64 r3, .int .i64 r4, .int .i64 r5]) ∧ Kd.R k38 38 w' w.heap.size (fun _ => True) v0_ r1 ∧ Below w.heap.size w w' := by
  have hok : okB l0_0 a0_2 := by
    unfold fold_block.f at h
    by_cases e : okB l0_0 a0_2
    · exact e
    · rw [if_neg e] at h; cases h
  unfold fold_block.f at h
  rw [if_pos hok] at h
  obtain ⟨⟨rs_, G0, G1⟩, hst, hen⟩ := Option.map_eq_some_iff.1 h
  injection hen with hen1 hen
  subst hen1
  clear h
  have HOK := Aside0.mk hok
  have HST := Aside0.mk hst
  have HEN := Aside0.mk hen
  clear hok hst hen
  have hu38 := Tryd.underlying38
  have hu34 := Tryd.underlying34
  have hu36 := Tryd.underlying36
  have hu74 := Tryd.underlying74
  have HR := Aside0.mk hr0_0
  have HC := Aside0.mk hc0_0
  have HG := Aside0.mk hG
  clear hr0_0 hc0_0 hG
  have HB := Aside0.mk (Below.refl w.heap.size w)
  go_enter Tryd.func29, Tryd.ntmps29
  go_upto_region 3 with (first | ((with_reducible refine gate_dst (N := 1) rfl ?_); refine box_event ?hg (N := 1) ?hd (cs := #[.slice A0_0 l0_0.length c0_0, .int .i64 a0_1, .int .i64 a0_2, .int .i64 a0_3, .int .i64 a0_4]) (t := 36) ?hr ?_; (case hd => rfl); (case hg => rfl); (case hr => first | (go_simp; done) | (go_simp; rfl)); intro gb hg wb hbox hb; have n0_ := Aside0.mk (below_step (by repeat (first | (with_reducible first | exact HB.out | apply below_alloc | apply pw_below_drewN | apply below_drew1) | exact HB.out)) hb); have BKgb := Aside0.mk hbox; clear HB; have HB := n0_; clear n0_ hb hbox hg) | ((with_reducible refine gate_dst (N := 2) rfl ?_); refine b_alloc rfl (t := 36) (zs := #[.slice none 0 0, .int .i64 0, .int .i64 0, .int .i64 0, .int .i64 0]) rfl (by kernel_rfl) ?_; intro gr hgr wb hnew hb; have BKgr := Aside0.mk hnew; have Ggr := Aside0.mk (show w.heap.size ≤ gr by rw [hgr]; exact below_size (by repeat (first | (with_reducible first | exact HB.out | apply below_alloc | apply pw_below_drewN | apply below_drew1) | exact HB.out))); have NEgrgb := Aside0.mk (show gr ≠ gb by rw [hgr]; exact Nat.ne_of_gt (blk_lt BKgb.out)); have n0_ := Aside0.mk (below_step (by repeat (first | (with_reducible first | exact HB.out | apply below_alloc | apply pw_below_drewN | apply below_drew1) | exact HB.out)) hb); have n1_ := Aside0.mk (blk_below BKgb.out hb); clear HB BKgb; revert n0_ n1_; intro HB BKgb; clear hnew hgr hb) | ((with_reducible refine gate_dst (N := 7) rfl ?_); refine b_map rfl (m := 70) rfl ?_; intro b0 hb0 wm hmm hb; have HM0 := Aside0.mk hmm; have Gb0 := Aside0.mk (show w.heap.size ≤ b0 by rw [hb0]; exact below_size (by repeat (first | (with_reducible first | exact HB.out | apply below_alloc | apply pw_below_drewN | apply below_drew1) | exact HB.out))); have NEb0gb := Aside0.mk (show b0 ≠ gb by rw [hb0]; exact Nat.ne_of_gt (blk_lt BKgb.out)); have NEb0gr := Aside0.mk (show b0 ≠ gr by rw [hb0]; exact Nat.ne_of_gt (blk_lt BKgr.out)); have n0_ := Aside0.mk (below_step (by repeat (first | (with_reducible first | exact HB.out | apply below_alloc | apply pw_below_drewN | apply below_drew1) | exact HB.out)) hb); have n1_ := Aside0.mk (blk_below BKgb.out hb); have n2_ := Aside0.mk (blk_below BKgr.out hb); clear HB BKgb BKgr; revert n0_ n1_ n2_; intro HB BKgb BKgr; clear hmm hb0 hb) | ((with_reducible refine gate_dst (N := 8) rfl ?_); refine b_map rfl (m := 70) rfl ?_; intro b1 hb1 wm hmm hb; have HM1 := Aside0.mk hmm; have Gb1 := Aside0.mk (show w.heap.size ≤ b1 by rw [hb1]; exact below_size (by repeat (first | (with_reducible first | exact HB.out | apply below_alloc | apply pw_below_drewN | apply below_drew1) | exact HB.out))); have NEb1gb := Aside0.mk (show b1 ≠ gb by rw [hb1]; exact Nat.ne_of_gt (blk_lt BKgb.out)); have NEb1gr := Aside0.mk (show b1 ≠ gr by rw [hb1]; exact Nat.ne_of_gt (blk_lt BKgr.out)); have NEb1b0 := Aside0.mk (show b1 ≠ b0 by rw [hb1]; exact Nat.ne_of_gt HM0.out.lt); have n0_ := Aside0.mk (below_step (by repeat (first | (with_reducible first | exact HB.out | apply below_alloc | apply pw_below_drewN | apply below_drew1) | exact HB.out)) hb); have n1_ := Aside0.mk (blk_below BKgb.out hb); have n2_ := Aside0.mk (blk_below BKgr.out hb); have n3_ := Aside0.mk (HM0.out.kept (Eval.grown_of_below hb) (by simp)); clear HB BKgb BKgr HM0; revert n0_ n1_ n2_ n3_; intro HB BKgb BKgr HM0; clear hmm hb1 hb) | ((with_reducible refine gate_dst (N := 10) rfl ?_); refine box_event ?hg (N := 10) ?hd (cs := #[.map (some b0), .map (some b1)]) (t := 74) ?hr ?_; (case hd => rfl); (case hg => rfl); (case hr => first | (go_simp; done) | (go_simp; rfl)); intro q hq wb hbox hb; have Gq := Aside0.mk (show w.heap.size ≤ q by rw [hq]; exact below_size (by repeat (first | (with_reducible first | exact HB.out | apply below_alloc | apply pw_below_drewN | apply below_drew1) | exact HB.out))); have HF := Aside0.mk (show FIs wb q b0 b1 0 (fun _ => none) (fun _ => none) from ⟨hbox, HM0.out.kept (Eval.grown_of_below hb) (by simp), HM1.out.kept (Eval.grown_of_below hb) (by simp), Ne.symm NEb1b0.out, by rw [hq]; exact Nat.ne_of_gt HM0.out.lt, by rw [hq]; exact Nat.ne_of_gt HM1.out.lt⟩); have n0_ := Aside0.mk (below_step (by repeat (first | (with_reducible first | exact HB.out | apply below_alloc | apply pw_below_drewN | apply below_drew1) | exact HB.out)) hb); have n1_ := Aside0.mk (blk_below BKgb.out hb); have n2_ := Aside0.mk (blk_below BKgr.out hb); clear HB BKgb BKgr; revert n0_ n1_ n2_; intro HB BKgb BKgr; clear hbox hq hb HM0 HM1) | ((with_reducible refine gate_dst (N := 4) rfl ?_); refine b_alloc rfl (t := 36) (zs := #[.slice none 0 0, .int .i64 0, .int .i64 0, .int .i64 0, .int .i64 0]) rfl (by kernel_rfl) ?_; intro go hgo wb hnew hb; have BKgo := Aside0.mk hnew; have Ggo := Aside0.mk (show w.heap.size ≤ go by rw [hgo]; exact below_size (by repeat (first | (with_reducible first | exact HB.out | apply below_alloc | apply pw_below_drewN | apply below_drew1) | exact HB.out))); have NEgogb := Aside0.mk (show go ≠ gb by rw [hgo]; exact Nat.ne_of_gt (blk_lt BKgb.out)); have NEgogr := Aside0.mk (show go ≠ gr by rw [hgo]; exact Nat.ne_of_gt (blk_lt BKgr.out)); have NEgoq := Aside0.mk (show go ≠ q by rw [hgo]; exact Nat.ne_of_gt (blk_lt HF.out.box)); have NEgob0 := Aside0.mk (show go ≠ b0 by rw [hgo]; exact Nat.ne_of_gt HF.out.m0.lt); have NEgob1 := Aside0.mk (show go ≠ b1 by rw [hgo]; exact Nat.ne_of_gt HF.out.m1.lt); have n0_ := Aside0.mk (below_step (by repeat (first | (with_reducible first | exact HB.out | apply below_alloc | apply pw_below_drewN | apply below_drew1) | exact HB.out)) hb); have n1_ := Aside0.mk (blk_below BKgb.out hb); have n2_ := Aside0.mk (blk_below BKgr.out hb); have n3_ := Aside0.mk (HF.out.below hb); clear HB BKgb BKgr HF; revert n0_ n1_ n2_ n3_; intro HB BKgb BKgr HF; clear hnew hgo hb))
  obtain ⟨hb0, hb1, hb2, hb3, hb4⟩ := b_cells5 BKgb.out
  go_wp2_with (fail)
  clear hb0 hb1 hb2 hb3 hb4
  go_loopg [14] l0_0.length (fun gg v14 wr => ∃ (j : Nat) (g0 g1 : Int → Option Int) (xs rs : List S38) (v : Value), j ≤ l0_0.length ∧ l0_0.length - j ≤ gg ∧ v14 = .int .i64 (j : Int) ∧ Aside0 (runF g0 g1 (l0_0.drop j) = some (rs, G0, G1)) ∧ Aside0 (xs ++ rs = rs_) ∧ Aside0 (xs.length = j) ∧ Aside0 (allWf g0 ∧ allWf g1) ∧ Aside0 (FIs wr q b0 b1 j g0 g1) ∧ Aside0 (Kd.R k38 38 wr w.heap.size (fun _ => True) v xs) ∧ Aside0 (wr.heap[gb]? = some (.cells #[.slice A0_0 l0_0.length c0_0, .int .i64 a0_1, .int .i64 a0_2, .int .i64 a0_3, .int .i64 a0_4] 36 (0, 0))) ∧ Aside0 (wr.heap[gr]? = some (.cells #[.slice none 0 0, .int .i64 0, .int .i64 0, .int .i64 0, .int .i64 0] 36 (0, 0))) ∧ Aside0 (wr.heap[go]? = some (.cells #[v, .int .i64 0, .int .i64 0, .int .i64 0, .int .i64 0] 36 (0, 0))) ∧ Aside0 (Below w.heap.size w wr))
  case atStart => exact ⟨0, _, _, [], rs_, .slice none 0 0, Nat.zero_le _, by omega, rfl, HST, ⟨rfl⟩, ⟨rfl⟩, ⟨And.intro (fun _ _ hx => by cases hx) (fun _ _ hx => by cases hx)⟩, HF, ⟨Kd.R_nil _ _ _ _ _⟩, BKgb, BKgr, BKgo, HB⟩
  case round =>
    clear HST HF BKgb BKgr BKgo HB
    obtain ⟨j, g0, g1, xs, rs, v, hj, hgg, rfl, HST, HX, HL, HW, HF, HO, BKgb, BKgr, BKgo, HB⟩ := hrel
    obtain ⟨Av, cv, ev⟩ := Kd.R_slice HO.out
    subst ev
    by_cases hlt : j < l0_0.length
    · have hltz : (j : Int) < (l0_0.length : Int) := by omega
      obtain ⟨ad, rfl, hy0, hy1, hy2, hy3, hy4, hy5, hy6, hy7⟩ := at_T38 HR.out (j : Int) (by omega) hltz
      rw [show rd_T38 l0_0 (j : Int) = l0_0.getD j z38 by simp [rd_T38]] at hy0 hy1 hy2 hy3 hy4 hy5 hy6 hy7
      have hmem : l0_0.getD j z38 ∈ l0_0 := by simp [hlt]
      have hwf := HOK.out.2.1 _ hmem
      have hdrop := b_drop l0_0 z38 j hlt
      have hst2 := HST.out
      rw [hdrop] at hst2
      clear HST hdrop hmem
      generalize l0_0.getD j z38 = i at hy0 hy1 hy2 hy3 hy4 hy5 hy6 hy7 hwf hst2
      obtain ⟨p, hstep, hrest⟩ := Option.bind_eq_some_iff.1 hst2
      obtain ⟨⟨rs2, G0', G1'⟩, hrun, hcons⟩ := Option.map_eq_some_iff.1 hrest
      injection hcons with hc1 hc2
      injection hc2 with hc2 hc3
      subst hc1 hc2 hc3
      obtain ⟨p_, hconst, hp⟩ := Option.bind_eq_some_iff.1 hstep
      have hp5 : p_ = p ∧ (Lit.int .i64 p.f5).wf = true := by
        split at hp
        · injection hp with hp; subst hp; exact ⟨rfl, by assumption⟩
        · cases hp
      obtain ⟨rfl, hp5⟩ := hp5
      have hrd := readF_wf HW.out.2 hwf.1 hwf.2.1 hwf.2.2
      have hpw := constF_wf hconst hrd.1 hrd.2.1
      have HST := Aside0.mk hrun
      have HWF := Aside0.mk hwf
      have HRD := Aside0.mk hrd
      have HPW := Aside0.mk (And.intro hpw.1 (And.intro hpw.2 hp5))
      have HCO := Aside0.mk hconst
      clear hst2 hwf hrest hrun hstep hp hp5 hrd hpw hconst
      rw [Int.toNat_natCast] at hy0 hy1 hy2 hy3 hy4 hy5 hy6 hy7
      replace hy0 := (HB.out.cell (World.block_lt_of_cell? w _ hy0)).trans hy0
      replace hy1 := (HB.out.cell (World.block_lt_of_cell? w _ hy1)).trans hy1
      replace hy2 := (HB.out.cell (World.block_lt_of_cell? w _ hy2)).trans hy2
      replace hy3 := (HB.out.cell (World.block_lt_of_cell? w _ hy3)).trans hy3
      replace hy4 := (HB.out.cell (World.block_lt_of_cell? w _ hy4)).trans hy4
      replace hy5 := (HB.out.cell (World.block_lt_of_cell? w _ hy5)).trans hy5
      replace hy6 := (HB.out.cell (World.block_lt_of_cell? w _ hy6)).trans hy6
      replace hy7 := (HB.out.cell (World.block_lt_of_cell? w _ hy7)).trans hy7
      go_upto_region 6 with (first | ((with_reducible refine gate_dst (N := 6) rfl ?_); refine b_alloc rfl (t := 38) (zs := #[.int .i64 0, .int .i64 0, .int .i64 0, .int .i64 0, .int .i64 0, .int .i64 0, .int .i64 0, .int .i64 0]) rfl (by kernel_rfl) ?_; intro gi hgi wb hnew hb; have BKgi := Aside0.mk hnew; have Ggi := Aside0.mk (show w.heap.size ≤ gi by rw [hgi]; exact below_size (by repeat (first | (with_reducible first | exact HB.out | apply below_alloc | apply pw_below_drewN | apply below_drew1) | exact HB.out))); have NEgigb := Aside0.mk (show gi ≠ gb by rw [hgi]; exact Nat.ne_of_gt (blk_lt BKgb.out)); have NEgigr := Aside0.mk (show gi ≠ gr by rw [hgi]; exact Nat.ne_of_gt (blk_lt BKgr.out)); have NEgigo := Aside0.mk (show gi ≠ go by rw [hgi]; exact Nat.ne_of_gt (blk_lt BKgo.out)); have NEgiq := Aside0.mk (show gi ≠ q by rw [hgi]; exact Nat.ne_of_gt (blk_lt HF.out.box)); have NEgib0 := Aside0.mk (show gi ≠ b0 by rw [hgi]; exact Nat.ne_of_gt HF.out.m0.lt); have NEgib1 := Aside0.mk (show gi ≠ b1 by rw [hgi]; exact Nat.ne_of_gt HF.out.m1.lt); have NOgi := Aside0.mk (show some gi ≠ (Value.slice Av xs.length cv).ownBlock by rw [hgi]; exact Kd.fresh' (Kd.R_lt HO.out) _ (Nat.le_refl _)); have n0_ := Aside0.mk (below_step (by repeat (first | (with_reducible first | exact HB.out | apply below_alloc | apply pw_below_drewN | apply below_drew1) | exact HB.out)) hb); have n1_ := Aside0.mk (blk_below BKgb.out hb); have n2_ := Aside0.mk (blk_below BKgr.out hb); have n3_ := Aside0.mk (blk_below BKgo.out hb); have n4_ := Aside0.mk (HF.out.below hb); have n5_ := Aside0.mk (Kd.R_below HO.out hb); clear HB BKgb BKgr BKgo HF HO; revert n0_ n1_ n2_ n3_ n4_ n5_; intro HB BKgb BKgr BKgo HF HO; clear hnew hgi hb) | ((with_reducible refine gate_store (t := 38) (p := 6) rfl ?_); refine b_store rfl (t := 38) rfl rfl rfl rfl BKgi.out (by kernel_rfl) rfl (by first | (simp; done) | (simp [Value.oneCell']; done) | (simp [insV, Value.oneCell']; done) | (simp; rfl)) ?_; intro wb hnew hgr; have n0_ := Aside0.mk (b_below HB.out hgr Ggi.out HB.out.size); have n1_ := Aside0.mk (blk_grown BKgb.out hgr (fun e => by injection e with e; exact NEgigb.out e.symm)); have n2_ := Aside0.mk (blk_grown BKgr.out hgr (fun e => by injection e with e; exact NEgigr.out e.symm)); have n3_ := Aside0.mk (blk_grown BKgo.out hgr (fun e => by injection e with e; exact NEgigo.out e.symm)); have n4_ := Aside0.mk (HF.out.grown hgr (fun e => by injection e with e; exact NEgiq.out e.symm) (fun e => by injection e with e; exact NEgib0.out e.symm) (fun e => by injection e with e; exact NEgib1.out e.symm)); have n5_ := Aside0.mk (Kd.R_grown1 HO.out rfl hgr NOgi.out); have n6_ := Aside0.mk (hnew); clear HB BKgb BKgr BKgo HF HO BKgi; revert n0_ n1_ n2_ n3_ n4_ n5_ n6_; intro HB BKgb BKgr BKgo HF HO BKgi; clear hnew hgr))
      clear hy0 hy1 hy2 hy3 hy4 hy5 hy6 hy7
      obtain ⟨hy0, hy1, hy2, hy3, hy4, hy5, hy6, hy7⟩ := f_cells8 BKgi.out
      go_upto_region 7 with (fail)
      refine (reads_walk q b0 b1 j g0 g1 i _ (HG.out.below (Nat.le_refl _) HB.out) HF.out HWF.out.2.1 HWF.out.2.2).mono ?_
      rintro e w2 ⟨rfl, hb⟩
      clear hy0 hy1 hy2 hy3 hy4 hy5 hy6 hy7
      have n0_ := Aside0.mk (below_step (by repeat (first | (with_reducible first | exact HB.out | apply below_alloc | apply pw_below_drewN | apply below_drew1) | exact HB.out)) hb); have n1_ := Aside0.mk (blk_below BKgb.out hb); have n2_ := Aside0.mk (blk_below BKgr.out hb); have n3_ := Aside0.mk (blk_below BKgo.out hb); have n4_ := Aside0.mk (blk_below BKgi.out hb); have n5_ := Aside0.mk (HF.out.below hb); have n6_ := Aside0.mk (Kd.R_below HO.out hb); clear HB BKgb BKgr BKgo BKgi HF HO; revert n0_ n1_ n2_ n3_ n4_ n5_ n6_; intro HB BKgb BKgr BKgo BKgi HF HO
      clear hb
      go_upto_region 7 with (fail)
      refine (constant_walk q b0 b1 j g0 g1 (readF g1 i) p_ _ HF.out HRD.out.2.1 HRD.out.2.2 HCO.out).mono ?_
      rintro e w3 ⟨rfl, hb⟩
      have n0_ := Aside0.mk (below_step (by repeat (first | (with_reducible first | exact HB.out | apply below_alloc | apply pw_below_drewN | apply below_drew1) | exact HB.out)) hb); have n1_ := Aside0.mk (blk_below BKgb.out hb); have n2_ := Aside0.mk (blk_below BKgr.out hb); have n3_ := Aside0.mk (blk_below BKgo.out hb); have n4_ := Aside0.mk (blk_below BKgi.out hb); have n5_ := Aside0.mk (HF.out.below hb); have n6_ := Aside0.mk (Kd.R_below HO.out hb); clear HB BKgb BKgr BKgo BKgi HF HO; revert n0_ n1_ n2_ n3_ n4_ n5_ n6_; intro HB BKgb BKgr BKgo BKgi HF HO
      clear hb
      generalize p_ = p at HST HPW HCO HX ⊢
      go_upto_region 7 with (first | ((with_reducible refine gate_store (t := 38) (p := 6) rfl ?_); refine b_store rfl (t := 38) rfl rfl rfl rfl BKgi.out (by kernel_rfl) rfl (by first | (simp; done) | (simp [Value.oneCell']; done) | (simp [insV, Value.oneCell']; done) | (simp; rfl)) ?_; intro wb hnew hgr; have n0_ := Aside0.mk (b_below HB.out hgr Ggi.out HB.out.size); have n1_ := Aside0.mk (blk_grown BKgb.out hgr (fun e => by injection e with e; exact NEgigb.out e.symm)); have n2_ := Aside0.mk (blk_grown BKgr.out hgr (fun e => by injection e with e; exact NEgigr.out e.symm)); have n3_ := Aside0.mk (blk_grown BKgo.out hgr (fun e => by injection e with e; exact NEgigo.out e.symm)); have n4_ := Aside0.mk (HF.out.grown hgr (fun e => by injection e with e; exact NEgiq.out e.symm) (fun e => by injection e with e; exact NEgib0.out e.symm) (fun e => by injection e with e; exact NEgib1.out e.symm)); have n5_ := Aside0.mk (Kd.R_grown1 HO.out rfl hgr NOgi.out); have n6_ := Aside0.mk (show wb.heap[gi]? = some (.cells #[.int .i64 p.f0, .int .i64 p.f1, .int .i64 p.f2, .int .i64 p.f3, .int .i64 p.f4, .int .i64 p.f5, .int .i64 p.f6, .int .i64 p.f7] 38 (0, 0)) from hnew); clear HB BKgb BKgr BKgo HF HO BKgi; revert n0_ n1_ n2_ n3_ n4_ n5_ n6_; intro HB BKgb BKgr BKgo HF HO BKgi; clear hnew hgr))
      obtain ⟨hy0, hy1, hy2, hy3, hy4, hy5, hy6, hy7⟩ := f_cells8 BKgi.out
      go_upto_region 8 with (fail)
      refine (learn_walk q b0 b1 j g0 g1 p _ (HG.out.below (Nat.le_refl _) HB.out) HF.out HPW.out.1 HPW.out.2.1 HPW.out.2.2 (by have := HOK.out.1; unfold maxLen; omega)).mono ?_
      rintro e w4 ⟨rfl, hF2, hT2⟩
      clear hy0 hy1 hy2 hy3 hy4 hy5 hy6 hy7
      have n0_ := Aside0.mk (hT2.after HB.out Gb0.out Gb1.out); have n1_ := Aside0.mk (hT2.kept BKgb.out (Ne.symm NEb0gb.out) (Ne.symm NEb1gb.out)); have n2_ := Aside0.mk (hT2.kept BKgr.out (Ne.symm NEb0gr.out) (Ne.symm NEb1gr.out)); have n3_ := Aside0.mk (hT2.kept BKgo.out NEgob0.out NEgob1.out); have n4_ := Aside0.mk (hT2.kept BKgi.out NEgib0.out NEgib1.out); have n5_ := Aside0.mk (R_turn2 HO.out hT2 (map_ne HF.out.m0 HO.out) (map_ne HF.out.m1 HO.out)); have n6_ := Aside0.mk (hF2); clear HB BKgb BKgr BKgo BKgi HO HF; revert n0_ n1_ n2_ n3_ n4_ n5_ n6_; intro HB BKgb BKgr BKgo BKgi HO HF
      clear hF2 hT2
      go_upto_region 8 with (fail)
      obtain ⟨hy0, hy1, hy2, hy3, hy4, hy5, hy6, hy7⟩ := f_cells8 BKgi.out
      obtain ⟨hb0, hb1, hb2, hb3, hb4⟩ := b_cells5 BKgo.out
      go_upto_region 9 with (first | ((with_reducible refine gate_builtin (b := .append) (xs := #[.tmp 27, .tmp 29]) rfl ?_); at_builtin; refine Kd.R_append k38 (w0 := w) w.heap.size rfl (.tmp 27) (.tmp 29) 32 38 (.agg #[(.int .i64 0), (.int .i64 0), (.int .i64 0), (.int .i64 0), (.int .i64 0), (.int .i64 0), (.int .i64 0), (.int .i64 0)]) 64 rfl Tryd.underlying32 info38 rfl (by decide) (by omega) (.slice Av xs.length cv) xs p [.int .i64 p.f0, .int .i64 p.f1, .int .i64 p.f2, .int .i64 p.f3, .int .i64 p.f4, .int .i64 p.f5, .int .i64 p.f6, .int .i64 p.f7] (fun _ => True) (fun _ => False) rfl rfl ?aP (fun _ hk => hk.elim) ?aF ?aO ?aB ?aS ?aL ?_; (case aP => exact k38_mkM _ _ _ p); (case aF => exact fun _ _ => trivial); (case aO => (with_reducible repeat (first | apply Kd.R_alloc | apply Kd.R_drewN | apply Kd.R_drew)); exact HO.out); (case aB => exact (by repeat (first | (with_reducible first | exact HB.out | apply below_alloc | apply pw_below_drewN | apply below_drew1) | exact HB.out))); (case aS => exact (below_size (by repeat (first | (with_reducible first | exact HB.out | apply below_alloc | apply pw_below_drewN | apply below_drew1) | exact HB.out)))); (case aL => have h1 := HL.out; have h2 := HOK.out.1; omega); intro v1 w5 ho2 hbe2 hg2 hat; have n0_ := Aside0.mk (hbe2); have n1_ := Aside0.mk (blk_grown BKgb.out hg2 (Kd.R_ne HO.out BKgb.out (by decide))); have n2_ := Aside0.mk (blk_grown BKgr.out hg2 (Kd.R_ne HO.out BKgr.out (by decide))); have n3_ := Aside0.mk (blk_grown BKgo.out hg2 (Kd.R_ne HO.out BKgo.out (by decide))); have n4_ := Aside0.mk (HF.out.grown hg2 (Kd.R_ne HO.out HF.out.box (by decide)) (map_ne HF.out.m0 HO.out) (map_ne HF.out.m1 HO.out)); have n5_ := Aside0.mk (ho2); clear HB BKgb BKgr BKgo HF HO; revert n0_ n1_ n2_ n3_ n4_ n5_; intro HB BKgb BKgr BKgo HF HO; clear ho2 hbe2 hg2 hat BKgi hb0 hb1 hb2 hb3 hb4; obtain ⟨Av1, cv1, ev⟩ := Kd.R_slice HO.out; subst ev; obtain ⟨hb0, hb1, hb2, hb3, hb4⟩ := b_cells5 BKgo.out; have hfs := blk_frozen BKgo.out 0))
      have n0_ := Aside0.mk (below_set (j := 0) (v := (.slice Av1 (xs.length + 1) cv1)) HB.out Ggo.out); have n1_ := Aside0.mk (blk_far (p := ⟨go, 0, none⟩) BKgb.out (Ne.symm NEgogb.out) (.slice Av1 (xs.length + 1) cv1)); have n2_ := Aside0.mk (blk_far (p := ⟨go, 0, none⟩) BKgr.out (Ne.symm NEgogr.out) (.slice Av1 (xs.length + 1) cv1)); have n3_ := Aside0.mk (HF.out.far NEgoq.out NEgob0.out NEgob1.out 0 (.slice Av1 (xs.length + 1) cv1)); have n4_ := Aside0.mk (Kd.R_set HO.out BKgo.out (by decide) 0 (.slice Av1 (xs.length + 1) cv1)); have n5_ := Aside0.mk (blk_put BKgo.out 0 (.slice Av1 (xs.length + 1) cv1) rfl); clear HB BKgb BKgr HF HO BKgo; revert n0_ n1_ n2_ n3_ n4_ n5_; intro HB BKgb BKgr HF HO BKgo
      clear hb0 hb1 hb2 hb3 hb4 hfs
      try go_wp2_with (fail)
      go_roundg (l0_0.length - (j + 1))
      case measure => omega
      case rel => exact ⟨j + 1, _, _, xs ++ [p], rs2, _, by omega, by omega, by rw [show wrap64 ((j : Int) + 1) = ((j + 1 : Nat) : Int) by unfold wrap64; have := HOK.out.1; omega], HST, ⟨by rw [List.append_assoc]; exact HX.out⟩, ⟨by rw [List.length_append, HL.out]; rfl⟩, ⟨And.intro (learn0_wf HW.out.1 HPW.out.2.2) (learn1_wf HW.out.2 HPW.out.2.1)⟩, HF, by simpa using HO, BKgb, BKgr, by simpa using BKgo, HB⟩
    · have hj2 : j = l0_0.length := by omega
      have hltz : ¬ (j : Int) < (l0_0.length : Int) := by omega
      have hst2 := HST.out
      rw [hj2, List.drop_length] at hst2
      injection hst2 with hst2
      injection hst2 with h1 h2
      injection h2 with h2 h3
      subst h1 h2 h3
      rw [List.append_nil] at HX
      clear HST
      obtain ⟨hb0, hb1, hb2, hb3, hb4⟩ := b_cells5 BKgb.out
      go_upto_region 11 with (fail)
      refine (end_walk q b0 b1 j g0 g1 a0_1 a0_2 a0_3 a0_4 _ HF.out HOK.out.2.2 HW.out.2).mono ?_
      rintro e w6 ⟨rfl, hb⟩
      rw [HEN.out]
      clear hb0 hb1 hb2 hb3 hb4
      have n0_ := Aside0.mk (below_step (by repeat (first | (with_reducible first | exact HB.out | apply below_alloc | apply pw_below_drewN | apply below_drew1) | exact HB.out)) hb); have n1_ := Aside0.mk (blk_below BKgr.out hb); have n2_ := Aside0.mk (blk_below BKgo.out hb); have n3_ := Aside0.mk (HF.out.below hb); have n4_ := Aside0.mk (Kd.R_below HO.out hb); clear HB BKgr BKgo HF HO; revert n0_ n1_ n2_ n3_ n4_; intro HB BKgr BKgo HF HO
      clear hb
      simp only [endV]
      obtain ⟨hb0, hb1, hb2, hb3, hb4⟩ := b_cells5 BKgo.out
      have hf1 := blk_frozen BKgo.out 1
      have hf2 := blk_frozen BKgo.out 2
      have hf3 := blk_frozen BKgo.out 3
      have hf4 := blk_frozen BKgo.out 4
      go_upto_region 11 with (fail)
      have n0_ := Aside0.mk (below_set (j := 4) (v := .int .i64 r5) (below_set (j := 3) (v := .int .i64 r4) (below_set (j := 2) (v := .int .i64 r3) (below_set (j := 1) (v := .int .i64 r2) (HB.out) Ggo.out) Ggo.out) Ggo.out) Ggo.out); have n1_ := Aside0.mk (blk_far (p := ⟨go, 4, none⟩) (blk_far (p := ⟨go, 3, none⟩) (blk_far (p := ⟨go, 2, none⟩) (blk_far (p := ⟨go, 1, none⟩) (BKgr.out) (Ne.symm NEgogr.out) (.int .i64 r2)) (Ne.symm NEgogr.out) (.int .i64 r3)) (Ne.symm NEgogr.out) (.int .i64 r4)) (Ne.symm NEgogr.out) (.int .i64 r5)); have n2_ := Aside0.mk (Kd.R_mono (Kd.R_far (p := ⟨go, 4, none⟩) (Kd.R_far (p := ⟨go, 3, none⟩) (Kd.R_far (p := ⟨go, 2, none⟩) (Kd.R_far (p := ⟨go, 1, none⟩) (Kd.R_far1 HO.out rfl (Kd.R_ne HO.out BKgo.out (by decide))) (fun _ hk => hk.2) (.int .i64 r2)) (fun _ hk => hk.2) (.int .i64 r3)) (fun _ hk => hk.2) (.int .i64 r4)) (fun _ hk => hk.2) (.int .i64 r5)) (fun _ _ => trivial)); have n3_ := Aside0.mk (blk_put (cs' := #[.slice Av xs.length cv, .int .i64 r2, .int .i64 r3, .int .i64 r4, .int .i64 r5]) (blk_put (cs' := #[.slice Av xs.length cv, .int .i64 r2, .int .i64 r3, .int .i64 r4, .int .i64 0]) (blk_put (cs' := #[.slice Av xs.length cv, .int .i64 r2, .int .i64 r3, .int .i64 0, .int .i64 0]) (blk_put (cs' := #[.slice Av xs.length cv, .int .i64 r2, .int .i64 0, .int .i64 0, .int .i64 0]) (BKgo.out) 1 (.int .i64 r2) rfl) 2 (.int .i64 r3) rfl) 3 (.int .i64 r4) rfl) 4 (.int .i64 r5) rfl); clear HB BKgr HO BKgo; revert n0_ n1_ n2_ n3_; intro HB BKgr HO BKgo
      clear hb0 hb1 hb2 hb3 hb4 hf1 hf2 hf3 hf4
      obtain ⟨hb0, hb1, hb2, hb3, hb4⟩ := b_cells5 BKgo.out
      go_wp2_with (first | ((with_reducible refine gate_store (t := 36) (p := 2) rfl ?_); refine b_store rfl (t := 36) rfl rfl rfl rfl BKgr.out (by kernel_rfl) rfl (by first | (simp; done) | (simp [Value.oneCell']; done) | (simp [insV, Value.oneCell']; done) | (simp; rfl)) ?_; intro wb hnew hgr; have n0_ := Aside0.mk (b_below HB.out hgr Ggr.out HB.out.size); have n1_ := Aside0.mk (blk_grown BKgo.out hgr (fun e => by injection e with e; exact NEgogr.out e)); have n2_ := Aside0.mk (Kd.R_grown1 HO.out rfl hgr (Kd.R_ne HO.out BKgr.out (by decide))); have n3_ := Aside0.mk (hnew); clear HB BKgo HO BKgr; revert n0_ n1_ n2_ n3_; intro HB BKgo HO BKgr; clear hnew hgr))
      have hxs := HX.out
      subst hxs
      refine bodyPost_ret (results_cell_row rfl _ _ gr 36 #[.slice Av xs.length cv, .int .i64 r2, .int .i64 r3, .int .i64 r4, .int .i64 r5] (0, 0) _ rfl BKgr.out Tryd.underlying36 rfl (by kernel_rfl)) rfl ?_
      exact ⟨_, rfl, HO.out, HB.out⟩


end Go.Proofs.YtbcfpgcfamipmaaDoor.PFoldActions
