-- printed by a program of this session (wip/mp.py: the kit's printer, patched, over the session's own templates); checked by Lean alone
import Derived.Test.YtgenmfbidpmneaaDoorOPFlowOrdersx0
import Derived.Test.YtgenmfbidpmneaaDoorOPFlowOrdersx2
import Derived.Test.YtgenmfbidpmneaaDoorOPFlowOrdersx3
import Derived.Test.YtgenmfbidpmneaaDoorOPFlowOrdersx5
import Derived.Test.YtgenmfbidpmneaaDoorOPFlowOrdersx6
import Derived.Test.YtgenmfbidpmneaaDoorOPFlowOrdersx7
namespace Go.Proofs.YtgenmfbidpmneaaDoor.PFlowOrders
open Go.RowKit Go.Proofs.YtgenmfbidpmneaaDoorW.PrintWords Go.Proofs.YtgenmfbidpmneaaDoorW.PrintLast Go.Proofs.YtgenmfbidpmneaaDoorW.PrintMore
attribute [local go_sem] max2_int min2_int max_two min_two max_three min_three max_four min_four   -- for this text's walks alone
set_option linter.unusedVariables false
set_option linter.unusedSimpArgs false

/-! ### given: flow_loops.lean -/
-- GIVEN spinnaker/flow.Loops rounds=1 making=1
-- GIVEN spinnaker/spinnakerref33.Loops rounds=1 making=1
-- NEEDS spinnaker/flow.Reached
-- NEEDS spinnaker/flow.Before
-- NEEDS spinnaker/flow.starts
-- NEEDS spinnaker/spinnakerref33.Reached
-- NEEDS spinnaker/spinnakerref33.Before
-- NEEDS spinnaker/spinnakerref33.Ahead
-- REG []int
-- REG []bool
-- REG [][]int
-- REG []flow.Loop
-- REG []spinnakerref33.Loop
-- INFO int
-- INFO spinnaker/flow.Loop
-- INFO spinnaker/spinnakerref33.Loop
-- IMPORT Derived.Test.YtgenmfbidpmneaaDoorEvalM
theorem l_alloc {ops : Array Oper} {rest : List Oper} {o : Oper} {a : Act} {Q : Exit → Act → World → Prop} {W : World} {t : TypeId} {zs : Array Value} (hg : o.guard = none) (hop : o.op = .alloc t)
    (hz : (Instr.alloc t true (.tuple #[])).run Tryd.prog W = .ok (.pointer (some ⟨W.heap.size, 0, none⟩)) (W.alloc (.cells zs t (0, 0))))
    (h : ∀ b, b = W.heap.size → ∀ w1, w1.heap[b]? = some (.cells zs t (0, 0)) → Below W.heap.size W w1 → wpList Tryd.prog ops Q rest (a.put o.dst (.pointer (some ⟨b, 0, none⟩))) w1) : wpList Tryd.prog ops Q (o :: rest) a W :=
  Kd.event_run hg (by simp only [execOp, hop]; simp [hz, Result.andThen]) (h _ rfl _ (blk_new W _) (below_alloc (Below.refl _ _) _))
theorem l_store {ops : Array Oper} {rest : List Oper} {o : Oper} {a : Act} {Q : Exit → Act → World → Prop} {W : World} {t : TypeId} {x v : Operand} {g : Nat} {old cs : Array Value} (hg : o.guard = none) (hop : o.op = .store t x v) (hN : o.dst = none) (hx : a.eval x = .pointer (some ⟨g, 0, none⟩)) (hv : a.eval v = .agg cs)
    (hb : W.heap[g]? = some (.cells old t (0, 0))) (hi : (Tryd.prog.info? t).map (·.size) = some cs.size) (ho : old.size = cs.size) (h1 : cs.all (·.oneCell') = true)
    (h : ∀ w1, w1.heap[g]? = some (.cells cs t (0, 0)) → W.grownBy w1 (some g) → wpList Tryd.prog ops Q rest a w1) : wpList Tryd.prog ops Q (o :: rest) a W := by
  refine wpList_plain hg fun K hK => ?_
  have hrow := run_storeVar_row (P := Tryd.prog) W g t t old cs hb hi ho h1
  have hrun : (execOp a.eval o).run Tryd.prog W = .ok .skip (W.setRow g cs) := by
    simp [execOp, hop, hx, hv, Instr.storeAt, Instr.sureAddr, hrow, Result.andThen]
  unfold Oper.wp
  rw [hrun]
  show K (a.put o.dst undef) _
  rw [hN]
  exact hK _ _ (h _ (setRow_heap W g old cs t (0, 0) hb) ⟨rfl, rfl, rfl, by simp, fun i _ hi2 => setRow_other W g i cs (fun e => hi2 (by rw [e]))⟩)
theorem l_below {n g : Nat} {w W W1 : World} (h : Below n w W) (hg : W.grownBy W1 (some g)) (hn : n ≤ g) (hs : n ≤ W.heap.size) : Below n w W1 :=
  ⟨hg.os.trans h.os, hg.tape.trans h.tape, hg.output.trans h.output, Nat.le_trans h.size hg.size, fun i hi => (hg.block i (Nat.lt_of_lt_of_le hi hs) (fun e => by injection e with e; omega)).trans (h.block i hi)⟩
theorem l_atL {w : World} {A : Option Addr} {n : Nat} {xs : List (List Int)} (h : Kd.C (Kd.slice 3 (Kd.int .i64)) w A n xs) (i : Int) (h0 : 0 ≤ i) (h1 : i < n) : ∃ ad A0 c0, A = some ad ∧ w.cell? (ad.add i.toNat) = some (.slice A0 (xs.getD i.toNat []).length c0) ∧ (xs.getD i.toNat []).length ≤ c0 ∧ (Kd.int .i64).C w A0 (xs.getD i.toNat []).length (xs.getD i.toNat []) := by
  obtain ⟨ad, c, e, _, hK, hc0⟩ := Kd.C_get h ([] : List Int) i h0 h1
  have hc : ∀ j u, c[j]? = some u → w.cell? (ad.add (i.toNat * 1 + j)) = some u := hc0
  obtain ⟨A0, c0, rfl, l0, g0⟩ := hK
  exact ⟨ad, A0, c0, e, by have hq := hc 0 _ rfl; rwa [Nat.mul_one, Nat.add_zero] at hq, l0, g0⟩
theorem l_cells2 {w : World} {g : Nat} {t : TypeId} {x0 x1 : Value} (h : w.heap[g]? = some (.cells #[x0, x1] t (0, 0))) : w.cell? ⟨g, 0, none⟩ = some x0 ∧ w.cell? ⟨g, 1, none⟩ = some x1 := ⟨(blk_cell h 0).trans rfl, (blk_cell h 1).trans rfl⟩
theorem l_cell1 {w : World} {g : Nat} {t : TypeId} {x0 : Value} (h : w.heap[g]? = some (.cells #[x0] t (0, 0))) : w.cell? ⟨g, 0, none⟩ = some x0 := (blk_cell h 0).trans rfl
theorem walkL_length (F : Int → Option (List Int)) (but : Int) : ∀ k met todo r, walkL F but k met todo = some r → r.length = met.length
  | 0, _, _, _, h => by cases h
  | k + 1, met, todo, r, h => by
    rw [walkL] at h
    split at h
    · injection h with h; rw [h]
    · split at h
      · split at h
        · exact walkL_length F but k _ _ r h
        · obtain ⟨l, _, h⟩ := Option.bind_eq_some_iff.1 h
          split at h
          · rw [walkL_length F but k _ _ r h, List.length_set]
          · cases h
      · cases h
theorem walkF_length {F : Int → Option (List Int)} {k : Nat} {n : Int} {fr : List Int} {but : Int} {r : List Bool} (h : walkF F k n fr but = some r) : r.length = n.toNat := by
  unfold walkF at h
  split at h
  · rw [walkL_length F but k _ _ r h, List.length_replicate]
  · cases h
/-- The blocks ahead of one, by the function that Loops hands to walk. -/
def befF (bef : List (List Int)) (b : Int) : Option (List Int) := if 0 ≤ b ∧ b < (bef.length : Int) then some (bef.getD b.toNat []) else none
set_option maxRecDepth 100000 in
theorem bef_walk (qc : Nat) (Av : Option Addr) (cv : Nat) (bef : List (List Int)) (b : Int) (r : List Int) (w : World) (hbox : w.heap[qc]? = some (.cells #[.slice Av bef.length cv] 43 (0, 0))) (hr : Kd.C (Kd.slice 3 (Kd.int .i64)) w Av bef.length bef) (h : befF bef b = some r) :
    Calls Tryd.prog 53 #[.int .i64 b, .pointer (some ⟨qc, 0, none⟩)] w fun e w' => ∃ (Ae : Option Addr) (ce : Nat), e = .returned (.slice Ae r.length ce) ∧ Kd.C (Kd.int .i64) w' Ae r.length r ∧ Below w.heap.size w w' := by
  have hbb : 0 ≤ b ∧ b < (bef.length : Int) := by
    unfold befF at h
    split at h
    · assumption
    · cases h
  unfold befF at h
  rw [if_pos hbb] at h
  injection h with h
  obtain ⟨hb0, hb1⟩ := hbb
  obtain ⟨ad, A0, c0, rfl, hx, hl, hC⟩ := l_atL hr b hb0 hb1
  rw [h] at hx hl hC
  have hcell := l_cell1 hbox
  have HC := Aside0.mk hC
  clear hC h hr hbox
  go_enter Tryd.func53, Tryd.ntmps53
  go_wp2_with (fail)
  go_ret
  exact ⟨_, _, rfl, HC.out, Below.refl _ _⟩
def inF (r met : List Bool) (h b : Nat) : Bool := decide ((b : Int) = (h : Int)) || (met.getD b false && r.getD b false)
def blocksF (r met : List Bool) (h : Nat) : List Int := befL (inF r met h) met.length
def loopsL (k : Nat) (v : Int) (l1 : List Int) (l2 : List S36) (r : List Bool) (bef : List (List Int)) : Nat → Nat → List S55 → Option (List S55)
  | 0, _, out => some out
  | d + 1, h, out =>
    if r.getD h false = true then (flow_starts.f k v l1 l2 bef r (h : Int)).bind fun fr =>
      if fr.length = 0 then loopsL k v l1 l2 r bef d (h + 1) out
      else (walkF (befF bef) k (r.length : Int) fr (h : Int)).bind fun met => loopsL k v l1 l2 r bef d (h + 1) (out ++ [⟨(h : Int), blocksF r met h⟩])
    else loopsL k v l1 l2 r bef d (h + 1) out
def flow_Loops.f (k : Nat) (v : Int) (l1 : List Int) (l2 : List S36) : Option (List S55) := (flow_Reached.f k v l1 l2).bind fun r => (flow_Before.f k v l1 l2).bind fun bef => if r.length ≤ 4294967296 then loopsL k v l1 l2 r bef r.length 0 [] else none
theorem loopsL_mono (k : Nat) (v : Int) (l1 : List Int) (l2 : List S36) (r : List Bool) (bef : List (List Int)) : ∀ d h out, LeO (loopsL k v l1 l2 r bef d h out) (loopsL (k + 1) v l1 l2 r bef d h out)
  | 0, _, _ => LeO.refl _
  | d + 1, h, out => by
    unfold loopsL
    exact LeO.ite (LeO.bind (flow_starts.mono _ _ _ _ _ _ k) fun _ => LeO.ite (loopsL_mono k v l1 l2 r bef d _ _) (LeO.bind (walkF_mono _ k _ _ _) fun _ => loopsL_mono k v l1 l2 r bef d _ _)) (loopsL_mono k v l1 l2 r bef d _ _)
theorem flow_Loops.mono : ∀ a0 a1 a2 k, LeO (flow_Loops.f k a0 a1 a2) (flow_Loops.f (k + 1) a0 a1 a2) := by
  intro a0 a1 a2 k
  exact LeO.bind (flow_Reached.mono _ _ _ k) fun _ => LeO.bind (flow_Before.mono _ _ _ k) fun _ => LeO.ite (loopsL_mono k _ _ _ _ _ _ _ _) (LeO.refl _)
set_option maxRecDepth 100000 in
set_option maxHeartbeats 16000000 in
theorem flow_Loops.calls (k : Nat) (v : Int) (A1 : Option Addr) (c1 : Nat) (l1 : List Int) (A2 : Option Addr) (c2 : Nat) (l2 : List (S36)) (res : List S55) (w : World) (hr1 : Kd.C (Kd.int .i64) w A1 l1.length l1) (hc1 : l1.length ≤ c1) (hr2 : Kd.C k36 w A2 l2.length l2) (hc2 : l2.length ≤ c2) (hG : OpsLaid w) (h : flow_Loops.f k v l1 l2 = some res) :
    Calls Tryd.prog 31 #[.agg #[.int .i64 v, .slice A1 l1.length c1, .slice A2 l2.length c2]] w fun e w' => ∃ v0_ : Value, e = .returned v0_ ∧ Kd.S k55 55 w' w.heap.size (fun _ => True) v0_ res ∧ Below w.heap.size w w' := by
  have hu := Tryd.underlying25
  have hu5 := Tryd.underlying55
  have hmf : ∀ (fn : Fn) (first cap : Array Value) (w : World), (Instr.makeFunc fn first cap).run Tryd.prog w = .ok (.func fn first cap) w := fun _ _ _ _ => rfl
  unfold flow_Loops.f at h
  obtain ⟨r, hre, h⟩ := Option.bind_eq_some_iff.1 h
  obtain ⟨bef, hbe, h⟩ := Option.bind_eq_some_iff.1 h
  have hrl : r.length ≤ 4294967296 := by
    split at h
    · assumption
    · cases h
  rw [if_pos hrl] at h
  have HR1 := Aside0.mk hr1
  have HC1 := Aside0.mk hc1
  have HR2 := Aside0.mk hr2
  have HC2 := Aside0.mk hc2
  have HG := Aside0.mk hG
  have HRE := Aside0.mk hre
  have HBE := Aside0.mk hbe
  have HL := Aside0.mk h
  have HRL := Aside0.mk hrl
  have HB := Aside0.mk (Below.refl w.heap.size w)
  clear hr1 hc1 hr2 hc2 hG hre hbe h hrl
  go_enter Tryd.func31, Tryd.ntmps31
  go_upto_region 1 with (first | ((with_reducible refine gate_dst (N := 1) rfl ?_); refine box_event ?hg (N := 1) ?hd (cs := #[.int .i64 v, .slice A1 l1.length c1, .slice A2 l2.length c2]) (t := 25) ?hr ?_; (case hd => rfl); (case hg => rfl); (case hr => first | (go_simp; done) | (go_simp; rfl)); intro gb hg wb hbox hb; have GE0 := Aside0.mk (show w.heap.size ≤ gb by rw [hg]; exact below_size (by repeat (first | (with_reducible first | exact HB.out | apply below_alloc | apply pw_below_drewN | apply below_drew1) | exact HB.out))); have n0_ := Aside0.mk (below_step (by repeat (first | (with_reducible first | exact HB.out | apply below_alloc | apply pw_below_drewN | apply below_drew1) | exact HB.out)) hb); have BKgb := Aside0.mk hbox; clear HB; have HB := n0_; clear n0_ hb hbox hg))
  obtain ⟨hb0, hb1, hb2⟩ := fl_cells3 BKgb.out
  go_wp2_with (first | (go_at_call 20; refine (flow_Reached.calls k v A1 c1 l1 A2 c2 l2 r _ (Kd.C_below HR1.out HB.out) HC1.out (Kd.C_below HR2.out HB.out) HC2.out (HG.out.below (Nat.le_refl _) HB.out) HRE.out).mono ?_; rintro e w1 ⟨vr, rfl, hr, hb⟩; obtain ⟨Ar, cr, er⟩ := Kd.R_slice hr; subst er; have HRR := Aside0.mk (Kd.R_reads' hr).2.2; have HRC := Aside0.mk (Kd.R_reads' hr).2.1; have n0_ := Aside0.mk (below_step HB.out hb); have n1_ := Aside0.mk (blk_below BKgb.out hb); clear HB BKgb; revert n0_ n1_; intro HB BKgb; clear hb hr hb0 hb1 hb2; obtain ⟨hb0, hb1, hb2⟩ := fl_cells3 BKgb.out) | (go_at_call 22; refine (flow_Before.calls k v A1 c1 l1 A2 c2 l2 bef _ (Kd.C_below HR1.out HB.out) HC1.out (Kd.C_below HR2.out HB.out) HC2.out (HG.out.below (Nat.le_refl _) HB.out) HBE.out).mono ?_; rintro e wv ⟨vr, rfl, hr, hb⟩; obtain ⟨Av, cv, er⟩ := Kd.S_slice hr; subst er; have HBR := Aside0.mk (Kd.S_reads' hr).2.2; have HBC := Aside0.mk (Kd.S_reads' hr).2.1; have n0_ := Aside0.mk (below_step HB.out hb); have n1_ := Aside0.mk (blk_below BKgb.out hb); have n2_ := Aside0.mk (Kd.C_below HRR.out hb); clear HB BKgb HRR; revert n0_ n1_ n2_; intro HB BKgb HRR; clear hb hr hb0 hb1 hb2; have HV := Aside0.mk (Below.refl wv.heap.size wv)) | ((with_reducible refine gate_dst (N := 4) rfl ?_); refine l_alloc rfl (t := 43) (zs := #[.slice none 0 0]) rfl (by kernel_rfl) ?_; intro gc hgc wc hnew hb; have GEv := Aside0.mk (show wv.heap.size ≤ gc by rw [hgc]; exact below_size HV.out); have n0_ := Aside0.mk (below_step HV.out hb); clear HV; revert n0_; intro HV; have BKc := Aside0.mk hnew; have hs := l_cell1 BKc.out; have hfs := blk_frozen BKc.out 0; clear hb hnew hgc) | ((with_reducible refine gate_store (t := 43) (p := 4) rfl ?_); refine store_event (t := 43) (p := 4) (v := .tmp 14) (w1 := (wc.setCell ⟨gc, 0, none⟩ (.slice Av bef.length cv))) ?hg ?ho ?hn ?hr ?_; (case ho => rfl); (case hg => rfl); (case hn => rfl); (case hr => first | (go_simp; done) | (go_simp; rfl)); intro ws hw; clear hs hfs; have n0_ := Aside0.mk (show Below wv.heap.size wv ws by rw [hw]; exact below_set HV.out GEv.out); have n2_ := Aside0.mk (show ws.heap[gc]? = some (.cells #[.slice Av bef.length cv] 43 (0, 0)) by rw [hw]; exact blk_put (cs' := #[.slice Av bef.length cv]) BKc.out 0 (.slice Av bef.length cv) rfl); clear HV BKc; have n4_ := Aside0.mk (blk_below BKgb.out n0_.out); have n5_ := Aside0.mk (Kd.C_below HRR.out n0_.out); have n6_ := Aside0.mk (Kd.C_below HBR.out n0_.out); have n7_ := Aside0.mk (below_step HB.out n0_.out); clear HRR HBR BKgb HB; have BKc := n2_; have BKgb := n4_; have HRR := n5_; have HBR := n6_; have HB := n7_; clear n0_ n2_ n4_ n5_ n6_ n7_ hw))
  have HS := Aside0.mk (Below.refl ws.heap.size ws)
  have HO : Aside0 (Kd.S k55 55 ws ws.heap.size (fun _ => True) (.slice none 0 0) []) := ⟨Kd.S_nil _ _ _ _ _⟩
  go_loopg [5, 17] r.length (fun gg v5 v17 wr => ∃ (hd : Nat) (out : List S55), hd ≤ r.length ∧ r.length - hd ≤ gg ∧ v17 = .int .i64 (hd : Int) ∧ Aside0 (out.length ≤ hd) ∧ Aside0 (loopsL k v l1 l2 r bef (r.length - hd) hd out = some res) ∧ Aside0 (Kd.S k55 55 wr ws.heap.size (fun _ => True) v5 out) ∧ Aside0 (Below ws.heap.size ws wr))
  case atStart => exact ⟨0, [], Nat.zero_le _, by omega, rfl, ⟨Nat.le_refl _⟩, HL, HO, HS⟩
  case round =>
    clear HL HO HS
    obtain ⟨hd, out, hhN, hgg, rfl, HOL, HL, HO, HS⟩ := hrel
    by_cases hlt : hd < r.length
    · have hltz : (hd : Int) < (r.length : Int) := by omega
      have hp0 : (0 : Int) ≤ (hd : Int) := by omega
      have hl := HL.out
      rw [show r.length - hd = (r.length - (hd + 1)) + 1 by omega, loopsL] at hl
      obtain ⟨ar, ear, hcell⟩ := Kd.at_bool (Kd.C_below HRR.out HS.out) (hd : Int) hp0 hltz
      subst ear
      rw [show rdOf false r (hd : Int) = r.getD hd false by simp [rdOf], Int.toNat_natCast] at hcell
      cases hrd : r.getD hd false with
      | false =>
        rw [hrd] at hcell hl
        rw [if_neg (by decide)] at hl
        have HL := Aside0.mk hl
        clear hl hrd
        go_wp2_with (fail)
        go_roundg (r.length - (hd + 1))
        case measure => omega
        case rel => exact ⟨hd + 1, out, by omega, by omega, by first | rfl | rw [show wrap64 ((hd : Int) + 1) = ((hd + 1 : Nat) : Int) by unfold wrap64; have hq_ := HRL.out; omega], ⟨by have := HOL.out; omega⟩, HL, HO, HS⟩
      | true =>
        rw [hrd] at hcell hl
        rw [if_pos rfl] at hl
        obtain ⟨fr, hfr, hl⟩ := Option.bind_eq_some_iff.1 hl
        have HF := Aside0.mk hfr
        obtain ⟨hb0, hb1, hb2⟩ := fl_cells3 (blk_below BKgb.out HS.out)
        have hc0 := l_cell1 (blk_below BKc.out HS.out)
        clear hrd hfr
        by_cases hfz : fr.length = 0
        · rw [if_pos hfz] at hl
          have HL := Aside0.mk hl
          clear hl
          have hfzz : ((fr.length : Int) == 0) = true := by simpa using hfz
          clear hfz
          go_wp2_with (first | (go_at_call 52; refine (flow_starts.calls k v _ _ l1 _ _ l2 _ _ bef _ _ r (hd : Int) fr _ (Kd.C_below (Kd.C_below HR1.out HB.out) HS.out) HC1.out (Kd.C_below (Kd.C_below HR2.out HB.out) HS.out) HC2.out (Kd.C_below HBR.out HS.out) HBC.out (Kd.C_below HRR.out HS.out) HRC.out HF.out).mono ?_; rintro e w6 ⟨vf, rfl, hf, hb⟩; obtain ⟨Af, cf, ef⟩ := Kd.R_slice hf; subst ef; have HFR := Aside0.mk (Kd.R_reads' hf).2.2; have HFC := Aside0.mk (Kd.R_reads' hf).2.1; have n0_ := Aside0.mk (Kd.S_below HO.out hb); have n1_ := Aside0.mk (below_step HS.out hb); clear HO HS; revert n0_ n1_; intro HO HS; clear hb hf hb0 hb1 hb2 hc0))
          go_roundg (r.length - (hd + 1))
          case measure => omega
          case rel => exact ⟨hd + 1, out, by omega, by omega, by first | rfl | rw [show wrap64 ((hd : Int) + 1) = ((hd + 1 : Nat) : Int) by unfold wrap64; have hq_ := HRL.out; omega], ⟨by have := HOL.out; omega⟩, HL, HO, HS⟩
        · rw [if_neg hfz] at hl
          obtain ⟨met, hmet, hl⟩ := Option.bind_eq_some_iff.1 hl
          have hml : met.length = r.length := by rw [walkF_length hmet]; simp
          have HML := Aside0.mk hml
          have HW := Aside0.mk hmet
          have HL := Aside0.mk hl
          clear hl hmet hml
          have hfzz : ((fr.length : Int) == 0) = false := by simpa using hfz
          clear hfz
          go_wp2_with (first | (go_at_call 52; refine (flow_starts.calls k v _ _ l1 _ _ l2 _ _ bef _ _ r (hd : Int) fr _ (Kd.C_below (Kd.C_below HR1.out HB.out) HS.out) HC1.out (Kd.C_below (Kd.C_below HR2.out HB.out) HS.out) HC2.out (Kd.C_below HBR.out HS.out) HBC.out (Kd.C_below HRR.out HS.out) HRC.out HF.out).mono ?_; rintro e w6 ⟨vf, rfl, hf, hb⟩; obtain ⟨Af, cf, ef⟩ := Kd.R_slice hf; subst ef; have HFR := Aside0.mk (Kd.R_reads' hf).2.2; have HFC := Aside0.mk (Kd.R_reads' hf).2.1; have n0_ := Aside0.mk (Kd.S_below HO.out hb); have n1_ := Aside0.mk (below_step HS.out hb); clear HO HS; revert n0_ n1_; intro HO HS; clear hb hf hb0 hb1 hb2 hc0) | (go_at_call 40; refine (flow_walk (befF bef) 53 #[.pointer (some ⟨gc, 0, none⟩)] (fun args w => enters_ Tryd.func53 (by kernel_rfl) rfl args w) k (r.length : Int) (hd : Int) Af cf fr met _ HFR.out HFC.out (fun W b l hW hb => bef_walk gc Av cv bef b l W (blk_below (blk_below BKc.out HS.out) hW) (Kd.C_below (Kd.C_below HBR.out HS.out) hW) hb) HW.out).mono ?_; rintro e w7 ⟨vm, rfl, hm, hb⟩; obtain ⟨Am, cm, em⟩ := Kd.R_slice hm; subst em; have HM := Aside0.mk (Kd.R_reads' hm).2.2; have n0_ := Aside0.mk (Kd.S_below HO.out hb); have n1_ := Aside0.mk (below_step HS.out hb); clear HO HS; revert n0_ n1_; intro HO HS; clear hb hm; have HX7 := Aside0.mk (Below.refl w7.heap.size w7); have HS7 := HS; have HO7 := HO) | ((with_reducible refine gate_dst (N := 9) rfl ?_); refine l_alloc rfl (t := 55) (zs := #[.int .i64 0, .slice none 0 0]) rfl (by kernel_rfl) ?_; intro gx hgx wx hnew hb; have GEx := Aside0.mk (show w7.heap.size ≤ gx by rw [hgx]; exact below_size HX7.out); have n0_ := Aside0.mk (below_step HX7.out hb); clear HX7; revert n0_; intro HX7; have BKx := Aside0.mk hnew; clear hb hnew hgx) | ((with_reducible refine gate_store (t := 55) (p := 9) rfl ?_); refine l_store rfl (t := 55) rfl rfl rfl rfl BKx.out (by kernel_rfl) rfl (by first | (simp; done) | (simp [Value.oneCell']; done) | (simp; rfl)) ?_; intro w8 hnew hgr; have n0_ := Aside0.mk (l_below HX7.out hgr GEx.out HX7.out.size); have n3_ := Aside0.mk hnew; clear HX7 BKx; have HX7 := n0_; have BKx := n3_; clear n0_ n3_ hnew hgr))
          clear hcell
          have HY : Aside0 (Kd.R (Kd.int .i64) 3 w8 w7.heap.size (fun _ => True) (.slice none 0 0) (befL (inF r met hd) 0)) := ⟨Kd.R_nil _ _ _ _ _⟩
          go_loopg [43] met.length (fun gq v43 wq => ∃ (b : Nat) (vb : Value), b ≤ met.length ∧ met.length - b ≤ gq ∧ v43 = .int .i64 (b : Int) ∧ Aside0 (wq.heap[gx]? = some (.cells #[.int .i64 (hd : Int), vb] 55 (0, 0))) ∧ Aside0 (Kd.R (Kd.int .i64) 3 wq w7.heap.size (fun _ => True) vb (befL (inF r met hd) b)) ∧ Aside0 (Below w7.heap.size w7 wq))
          case atStart => exact ⟨0, _, Nat.zero_le _, by omega, rfl, BKx, HY, HX7⟩
          case round =>
            clear BKx HY HX7
            obtain ⟨b, vb, hbN, hgq, rfl, BKx, HY, HX7⟩ := hrel
            obtain ⟨A6, c6, e6⟩ := Kd.R_slice HY.out
            subst e6
            obtain ⟨hx0, hx1⟩ := l_cells2 BKx.out
            by_cases hbl : b < met.length
            · have hblz : (b : Int) < (met.length : Int) := by omega
              have hbp : (0 : Int) ≤ (b : Int) := by omega
              have hblr : (b : Int) < (r.length : Int) := by have := HML.out; omega
              by_cases hbh : (b : Int) = (hd : Int)
              · have hF : inF r met hd b = true := by simp [inF, hbh]
                have hbhb : ((b : Int) == (hd : Int)) = true := by simpa using hbh
                have HFF := Aside0.mk hF
                clear hF hbh
                go_wp2_with (first | ((with_reducible refine gate_builtin (b := .append) (xs := #[.tmp 62, .tmp 64]) rfl ?_); at_builtin; refine Kd.R_append (Kd.int .i64) (w0 := w7) w7.heap.size rfl (.tmp 62) (.tmp 64) 22 3 (.int .i64 0) 8 rfl Tryd.underlying22 info3 rfl (by decide) (by omega) (.slice A6 (befL (inF r met hd) b).length c6) (befL (inF r met hd) b) (b : Int) [.int .i64 (b : Int)] (fun _ => True) (fun _ => False) rfl rfl rfl (fun _ hk => hk.elim) (fun _ _ => trivial) HY.out HX7.out (below_size HX7.out) (by have h_ := befL_length (inF r met hd) b; have := HML.out; have := HRL.out; omega) ?_; intro v9 w9 ho hb hg hat; obtain ⟨A9, c9, e9⟩ := Kd.R_slice ho; subst e9; have n0_ := Aside0.mk ho; have n1_ := Aside0.mk hb; have n2_ := Aside0.mk (blk_grown BKx.out hg (Kd.R_ne HY.out BKx.out (by decide))); clear HY HX7 BKx ho hb hg hat hx0 hx1; revert n0_ n1_ n2_; intro HY HX7 BKx; have hs := (l_cells2 BKx.out).2; have hfs := blk_frozen BKx.out 1) | ((with_reducible refine gate_store (t := 22) (p := 66) rfl ?_); refine store_event (t := 22) (p := 66) (v := .tmp 65) (w1 := (w9.setCell ⟨gx, 1, none⟩ (.slice A9 (befL (inF r met hd) b ++ [(b : Int)]).length c9))) ?hg ?ho ?hn ?hr ?_; (case ho => rfl); (case hg => rfl); (case hn => rfl); (case hr => first | (go_simp; done) | (go_simp; rfl)); intro wz hw; clear hs hfs; have n0_ := Aside0.mk (show Below w7.heap.size w7 wz by rw [hw]; exact below_set HX7.out GEx.out); have n1_ := Aside0.mk (show Kd.R (Kd.int .i64) 3 wz w7.heap.size (fun _ => True) (.slice A9 (befL (inF r met hd) b ++ [(b : Int)]).length c9) _ by rw [hw]; exact Kd.R_set HY.out BKx.out (by decide) 1 _); have n2_ := Aside0.mk (show wz.heap[gx]? = some (.cells #[.int .i64 (hd : Int), (.slice A9 (befL (inF r met hd) b ++ [(b : Int)]).length c9)] 55 (0, 0)) by rw [hw]; exact blk_put (cs' := #[.int .i64 (hd : Int), (.slice A9 (befL (inF r met hd) b ++ [(b : Int)]).length c9)]) BKx.out 1 _ rfl); clear HX7 HY BKx; have HX7 := n0_; have HY := n1_; have BKx := n2_; clear n0_ n1_ n2_ hw))
                go_roundg (met.length - (b + 1))
                case measure => omega
                case rel => exact ⟨b + 1, _, by omega, by omega, by first | rfl | rw [show wrap64 ((b : Int) + 1) = ((b + 1 : Nat) : Int) by unfold wrap64; have hq_ := HRL.out; have hq2_ := HML.out; omega], BKx, ⟨by rw [befL_succ, if_pos HFF.out]; exact HY.out⟩, HX7⟩
              · have hbhb : ((b : Int) == (hd : Int)) = false := by simpa using hbh
                obtain ⟨am, eam, hcm⟩ := Kd.at_bool (Kd.C_below HM.out HX7.out) (b : Int) hbp hblz
                subst eam
                rw [show rdOf false met (b : Int) = met.getD b false by simp [rdOf], Int.toNat_natCast] at hcm
                cases hmb : met.getD b false with
                | false =>
                  have hF : inF r met hd b = false := by unfold inF; rw [hmb, decide_eq_false hbh]; rfl
                  rw [hmb] at hcm
                  have HFF := Aside0.mk hF
                  clear hF hbh hmb
                  go_wp2_with (fail)
                  go_roundg (met.length - (b + 1))
                  case measure => omega
                  case rel => exact ⟨b + 1, _, by omega, by omega, by first | rfl | rw [show wrap64 ((b : Int) + 1) = ((b + 1 : Nat) : Int) by unfold wrap64; have hq_ := HRL.out; have hq2_ := HML.out; omega], BKx, ⟨by rw [befL_succ, if_neg (by rw [HFF.out]; decide)]; exact HY.out⟩, HX7⟩
                | true =>
                  obtain ⟨ar2, ear, hcr⟩ := Kd.at_bool (Kd.C_below (Kd.C_below HRR.out HS7.out) HX7.out) (b : Int) hbp hblr
                  cases ear
                  rw [show rdOf false r (b : Int) = r.getD b false by simp [rdOf], Int.toNat_natCast] at hcr
                  cases hrb : r.getD b false with
                  | false =>
                    have hF : inF r met hd b = false := by unfold inF; rw [hmb, hrb, decide_eq_false hbh]; rfl
                    rw [hmb] at hcm
                    rw [hrb] at hcr
                    have HFF := Aside0.mk hF
                    clear hF hbh hmb hrb
                    go_wp2_with (fail)
                    go_roundg (met.length - (b + 1))
                    case measure => omega
                    case rel => exact ⟨b + 1, _, by omega, by omega, by first | rfl | rw [show wrap64 ((b : Int) + 1) = ((b + 1 : Nat) : Int) by unfold wrap64; have hq_ := HRL.out; have hq2_ := HML.out; omega], BKx, ⟨by rw [befL_succ, if_neg (by rw [HFF.out]; decide)]; exact HY.out⟩, HX7⟩
                  | true =>
                    have hF : inF r met hd b = true := by unfold inF; rw [hmb, hrb]; simp
                    rw [hmb] at hcm
                    rw [hrb] at hcr
                    have HFF := Aside0.mk hF
                    clear hF hbh hmb hrb
                    go_wp2_with (first | ((with_reducible refine gate_builtin (b := .append) (xs := #[.tmp 62, .tmp 64]) rfl ?_); at_builtin; refine Kd.R_append (Kd.int .i64) (w0 := w7) w7.heap.size rfl (.tmp 62) (.tmp 64) 22 3 (.int .i64 0) 8 rfl Tryd.underlying22 info3 rfl (by decide) (by omega) (.slice A6 (befL (inF r met hd) b).length c6) (befL (inF r met hd) b) (b : Int) [.int .i64 (b : Int)] (fun _ => True) (fun _ => False) rfl rfl rfl (fun _ hk => hk.elim) (fun _ _ => trivial) HY.out HX7.out (below_size HX7.out) (by have h_ := befL_length (inF r met hd) b; have := HML.out; have := HRL.out; omega) ?_; intro v9 w9 ho hb hg hat; obtain ⟨A9, c9, e9⟩ := Kd.R_slice ho; subst e9; have n0_ := Aside0.mk ho; have n1_ := Aside0.mk hb; have n2_ := Aside0.mk (blk_grown BKx.out hg (Kd.R_ne HY.out BKx.out (by decide))); clear HY HX7 BKx ho hb hg hat hx0 hx1; revert n0_ n1_ n2_; intro HY HX7 BKx; have hs := (l_cells2 BKx.out).2; have hfs := blk_frozen BKx.out 1) | ((with_reducible refine gate_store (t := 22) (p := 66) rfl ?_); refine store_event (t := 22) (p := 66) (v := .tmp 65) (w1 := (w9.setCell ⟨gx, 1, none⟩ (.slice A9 (befL (inF r met hd) b ++ [(b : Int)]).length c9))) ?hg ?ho ?hn ?hr ?_; (case ho => rfl); (case hg => rfl); (case hn => rfl); (case hr => first | (go_simp; done) | (go_simp; rfl)); intro wz hw; clear hs hfs; have n0_ := Aside0.mk (show Below w7.heap.size w7 wz by rw [hw]; exact below_set HX7.out GEx.out); have n1_ := Aside0.mk (show Kd.R (Kd.int .i64) 3 wz w7.heap.size (fun _ => True) (.slice A9 (befL (inF r met hd) b ++ [(b : Int)]).length c9) _ by rw [hw]; exact Kd.R_set HY.out BKx.out (by decide) 1 _); have n2_ := Aside0.mk (show wz.heap[gx]? = some (.cells #[.int .i64 (hd : Int), (.slice A9 (befL (inF r met hd) b ++ [(b : Int)]).length c9)] 55 (0, 0)) by rw [hw]; exact blk_put (cs' := #[.int .i64 (hd : Int), (.slice A9 (befL (inF r met hd) b ++ [(b : Int)]).length c9)]) BKx.out 1 _ rfl); clear HX7 HY BKx; have HX7 := n0_; have HY := n1_; have BKx := n2_; clear n0_ n1_ n2_ hw))
                    go_roundg (met.length - (b + 1))
                    case measure => omega
                    case rel => exact ⟨b + 1, _, by omega, by omega, by first | rfl | rw [show wrap64 ((b : Int) + 1) = ((b + 1 : Nat) : Int) by unfold wrap64; have hq_ := HRL.out; have hq2_ := HML.out; omega], BKx, ⟨by rw [befL_succ, if_pos HFF.out]; exact HY.out⟩, HX7⟩
            · have hblz : ¬ (b : Int) < (met.length : Int) := by omega
              obtain rfl : b = met.length := by omega
              have hol : (out.length + 1) * 32 ≤ 140737488355328 := by have := HOL.out; have := HRL.out; omega
              have HOL2 := Aside0.mk hol
              clear hol
              go_wp2_with (first | ((with_reducible refine gate_builtin (b := .append) (xs := #[.tmp 68, .tmp 70]) rfl ?_); at_builtin; refine Kd.S_append k55 (w0 := ws) ws.heap.size rfl (.tmp 68) (.tmp 70) 50 55 (.agg #[.int .i64 0, .slice none 0 0]) 32 rfl Tryd.underlying50 info55 rfl (by decide) (by omega) u5 out (⟨(hd : Int), blocksF r met hd⟩ : S55) [.int .i64 (hd : Int), .slice A6 (befL (inF r met hd) met.length).length c6] (fun _ => True) (fun k_ => w7.heap.size ≤ k_) rfl rfl ?aP (fun k_ hk => ⟨trivial, fun e_ => Nat.not_le.2 (Kd.S_lt HO7.out k_ e_.symm) hk⟩) (fun _ _ => trivial) ?aO ?aB ?aS ?aL ?_; (case aP => exact k55_mkM _ _ _ (⟨(hd : Int), blocksF r met hd⟩ : S55) (Kd.R_lower (Kd.R_mono (Kd.R_bound HY.out) (fun k_ hk => hk.2.1)) (below_size HS7.out))); (case aO => exact Kd.S_below (Kd.S_mono (Kd.S_bound HO7.out) (fun k_ hk => ⟨trivial, fun h2 => Nat.not_le.2 hk.2.2.1 h2⟩)) HX7.out); (case aB => exact below_step HS7.out HX7.out); (case aS => exact below_size (below_step HS7.out HX7.out)); (case aL => exact HOL2.out); intro v9 w9 ho hb hg hat; have n0_ := Aside0.mk ho; have n1_ := Aside0.mk hb; clear HO HS HO7 HS7 HX7 HY BKx ho hb hg hat hx0 hx1; revert n0_ n1_; intro HO HS))
              go_roundg (r.length - (hd + 1))
              case measure => omega
              case rel => exact ⟨hd + 1, out ++ [⟨(hd : Int), blocksF r met hd⟩], by omega, by omega, by first | rfl | rw [show wrap64 ((hd : Int) + 1) = ((hd + 1 : Nat) : Int) by unfold wrap64; have hq_ := HRL.out; omega], ⟨by have := HOL.out; rw [List.length_append]; simp only [List.length_singleton]; omega⟩, HL, HO, HS⟩
    · have hltz : ¬ (hd : Int) < (r.length : Int) := by omega
      have hl := HL.out
      rw [show r.length - hd = 0 by omega, loopsL] at hl
      injection hl with hl
      subst hl
      go_wp2_with (fail)
      go_ret
      exact ⟨_, rfl, Kd.S_lower HO.out (below_size HB.out), below_step HB.out HS.out⟩
theorem fT5 {P : Program} {ops : Array Oper} {Q : Exit → Act → World → Prop} {md : Region.Mode} {S : World → Prop} {ds : List Nat} {i : Nat} {N : Option Tmp} {oi : Oper} {v : Value} {fuel : Nat} {l : Array Bool} {a : Act} {w : World} {a' : Act} (l' : Array Bool) (h : wpAnyLast P md ops Q S ds fuel l' a' w) (hS : S w := by exact hHeld) (hi : ops[i]? = some oi := by rfl) (hN : oi.dst = N := by rfl) (hc : takeB md ops ds l l' i = true := by kernel_rfl) (hQ : ∀ c a w, Q (.panic c) (a.put oi.dst v) w → Q (.panic c) a w := by exact fun _ _ _ h => h) (hy : YieldsIf P ops S oi v a := by (refine Or.inl ⟨by rfl, ?_⟩; rintro w' ⟨s0, s1, s2, s3, s4⟩; go_simp; with_reducible rfl)) (ha : a.put N v = a' := by (simp only [Act.put, List.setIfInBounds_toArray, List.set_cons_zero, List.set_cons_succ, i64_w, i32_w]; rfl)) : wpAnyLast P md ops Q S ds (fuel + 1) l a w := take_ l' hi hN hc hQ hy hS ha h
theorem l_int {w : World} {ad : Addr} {n : Nat} {xs : List Int} (h : (Kd.int .i64).C w (some ad) n xs) (i : Int) (h0 : 0 ≤ i) (h1 : i < n) : w.cell? (ad.add i.toNat) = some (.int .i64 (xs.getD i.toNat 0)) := by
  obtain ⟨ad', e, hc⟩ := Kd.at_int h i h0 h1
  cases e
  rw [hc]
  simp [rd]
theorem l_bool {w : World} {ad : Addr} {n : Nat} {xs : List Bool} (h : Kd.bool.C w (some ad) n xs) (i : Int) (h0 : 0 ≤ i) (h1 : i < n) : w.cell? (ad.add i.toNat) = some (.bool (xs.getD i.toNat false)) := by
  obtain ⟨ad', e, hc⟩ := Kd.at_bool h i h0 h1
  cases e
  rw [hc]
  simp [rdOf]
/-- The blocks from which a way back leads to a head, of those that lead to it. -/
def fromL (k : Nat) (v : Int) (l1 : List Int) (l2 : List S36) (r : List Bool) (h : Int) : List Int → List Int → Option (List Int)
  | [], acc => some acc
  | x :: rest, acc => if 0 ≤ x ∧ x < (r.length : Int) then (if r.getD x.toNat false = true then (spinnakerref33_Ahead.f k v l1 l2 h x).bind fun a => fromL k v l1 l2 r h rest (if a = true then acc ++ [x] else acc) else fromL k v l1 l2 r h rest acc) else none
def memP (r : List Bool) (N : Nat) (c : List (List Bool)) (h b : Nat) (x : Int) : Bool := r.getD b false && ((x != (h : Int)) && (((b : Int) == x) || hasP N c (b : Int) x))
def inB (r : List Bool) (N : Nat) (c : List (List Bool)) (h : Nat) (fr : List Int) (b : Nat) : Bool := ((b : Int) == (h : Int)) || fr.any (memP r N c h b)
def rloopsL (k : Nat) (v : Int) (l1 : List Int) (l2 : List S36) (r : List Bool) : Nat → Nat → List S56 → Option (List S56)
  | 0, _, out => some out
  | d + 1, h, out =>
    (spinnakerref33_Before.f v l1 l2 (h : Int)).bind fun bf => if bf.length ≤ 512 then (fromL k v l1 l2 r (h : Int) bf []).bind fun fr =>
      if r.getD h false = true ∧ fr.length ≠ 0 then (edgesF (h : Int) l2).bind fun e => (leadsF k l2.length e).bind fun c => rloopsL k v l1 l2 r d (h + 1) (out ++ [⟨(h : Int), befL (inB r l2.length c h fr) l2.length⟩])
      else rloopsL k v l1 l2 r d (h + 1) out
    else none
def spinnakerref33_Loops.f (k : Nat) (v : Int) (l1 : List Int) (l2 : List S36) : Option (List S56) := (spinnakerref33_Reached.f k v l1 l2 (-1)).bind fun r => rloopsL k v l1 l2 r l2.length 0 []
theorem fromL_mono (k : Nat) (v : Int) (l1 : List Int) (l2 : List S36) (r : List Bool) (h : Int) : ∀ bf acc, LeO (fromL k v l1 l2 r h bf acc) (fromL (k + 1) v l1 l2 r h bf acc)
  | [], _ => LeO.refl _
  | x :: rest, acc => by
    unfold fromL
    exact LeO.ite (LeO.ite (LeO.bind (spinnakerref33_Ahead.mono _ _ _ _ _ k) fun _ => fromL_mono k v l1 l2 r h rest _) (fromL_mono k v l1 l2 r h rest _)) (LeO.refl _)
theorem rloopsL_mono (k : Nat) (v : Int) (l1 : List Int) (l2 : List S36) (r : List Bool) : ∀ d h out, LeO (rloopsL k v l1 l2 r d h out) (rloopsL (k + 1) v l1 l2 r d h out)
  | 0, _, _ => LeO.refl _
  | d + 1, h, out => by
    unfold rloopsL
    exact LeO.bind (LeO.refl _) fun _ => LeO.ite (LeO.bind (fromL_mono k v l1 l2 r _ _ _) fun _ => LeO.ite (LeO.bind (LeO.refl _) fun _ => LeO.bind (leadsF_mono k _ _) fun _ => rloopsL_mono k v l1 l2 r d _ _) (rloopsL_mono k v l1 l2 r d _ _)) (LeO.refl _)
theorem spinnakerref33_Loops.mono : ∀ a0 a1 a2 k, LeO (spinnakerref33_Loops.f k a0 a1 a2) (spinnakerref33_Loops.f (k + 1) a0 a1 a2) := by
  intro a0 a1 a2 k
  exact LeO.bind (spinnakerref33_Reached.mono _ _ _ _ k) fun _ => rloopsL_mono k _ _ _ _ _ _ _
theorem spinnakerref33_Reached.len {k : Nat} {v : Int} {l1 : List Int} {l2 : List S36} {but : Int} {r : List Bool} (h : spinnakerref33_Reached.f k v l1 l2 but = some r) : r.length = l2.length ∧ l2.length ≤ 512 := by
  unfold spinnakerref33_Reached.f at h
  obtain ⟨e, he, h⟩ := Option.bind_eq_some_iff.1 h
  obtain ⟨c, _, h⟩ := Option.bind_eq_some_iff.1 h
  injection h with h
  subst h
  exact ⟨outR_length _ _, by unfold edgesF at he; split at he; assumption; cases he⟩
set_option maxRecDepth 100000 in
set_option maxHeartbeats 32000000 in
theorem spinnakerref33_Loops.calls (k : Nat) (v : Int) (A1 : Option Addr) (c1 : Nat) (l1 : List Int) (A2 : Option Addr) (c2 : Nat) (l2 : List (S36)) (res : List S56) (w : World) (hr1 : Kd.C (Kd.int .i64) w A1 l1.length l1) (hc1 : l1.length ≤ c1) (hr2 : Kd.C k36 w A2 l2.length l2) (hc2 : l2.length ≤ c2) (h : spinnakerref33_Loops.f k v l1 l2 = some res) :
    Calls Tryd.prog 32 #[.agg #[.int .i64 v, .slice A1 l1.length c1, .slice A2 l2.length c2]] w fun e w' => ∃ v0_ : Value, e = .returned v0_ ∧ Kd.S k56 56 w' w.heap.size (fun _ => True) v0_ res ∧ Below w.heap.size w w' := by
  have hu := Tryd.underlying25
  have hu5 := Tryd.underlying56
  unfold spinnakerref33_Loops.f at h
  obtain ⟨r, hre, h⟩ := Option.bind_eq_some_iff.1 h
  have HRL := Aside0.mk (spinnakerref33_Reached.len hre).1
  have HN5 := Aside0.mk (spinnakerref33_Reached.len hre).2
  have HR1 := Aside0.mk hr1
  have HC1 := Aside0.mk hc1
  have HR2 := Aside0.mk hr2
  have HC2 := Aside0.mk hc2
  have HRE := Aside0.mk hre
  have HL := Aside0.mk h
  have HB := Aside0.mk (Below.refl w.heap.size w)
  clear hr1 hc1 hr2 hc2 hre h
  go_enter Tryd.func32, Tryd.ntmps32
  go_upto_region 1 with (first | ((with_reducible refine gate_dst (N := 1) rfl ?_); refine box_event ?hg (N := 1) ?hd (cs := #[.int .i64 v, .slice A1 l1.length c1, .slice A2 l2.length c2]) (t := 25) ?hr ?_; (case hd => rfl); (case hg => rfl); (case hr => first | (go_simp; done) | (go_simp; rfl)); intro gb hg wb hbox hb; have GE0 := Aside0.mk (show w.heap.size ≤ gb by rw [hg]; exact below_size (by repeat (first | (with_reducible first | exact HB.out | apply below_alloc | apply pw_below_drewN | apply below_drew1) | exact HB.out))); have n0_ := Aside0.mk (below_step (by repeat (first | (with_reducible first | exact HB.out | apply below_alloc | apply pw_below_drewN | apply below_drew1) | exact HB.out)) hb); have BKgb := Aside0.mk hbox; clear HB; have HB := n0_; clear n0_ hb hbox hg))
  obtain ⟨hb0, hb1, hb2⟩ := fl_cells3 BKgb.out
  go_wp2_with (first | (go_at_call 21; refine (spinnakerref33_Reached.calls k v A1 c1 l1 A2 c2 l2 (-1) r _ (Kd.C_below HR1.out HB.out) HC1.out (Kd.C_below HR2.out HB.out) HC2.out HRE.out).mono ?_; rintro e ws ⟨vr, rfl, hr, hb⟩; obtain ⟨Ar, cr, er⟩ := Kd.R_slice hr; subst er; have HRR := Aside0.mk (Kd.R_reads' hr).2.2; have HRC := Aside0.mk (Kd.R_reads' hr).2.1; have n0_ := Aside0.mk (below_step HB.out hb); have n1_ := Aside0.mk (blk_below BKgb.out hb); clear HB BKgb; revert n0_ n1_; intro HB BKgb; clear hb hr hb0 hb1 hb2))
  have HS := Aside0.mk (Below.refl ws.heap.size ws)
  have HO : Aside0 (Kd.S k56 56 ws ws.heap.size (fun _ => True) (.slice none 0 0) []) := ⟨Kd.S_nil _ _ _ _ _⟩
  go_loopg [3, 5] l2.length (fun gg v3 v5 wr => ∃ (hd : Nat) (out : List S56), hd ≤ l2.length ∧ l2.length - hd ≤ gg ∧ v5 = .int .i64 (hd : Int) ∧ Aside0 (out.length ≤ hd) ∧ Aside0 (rloopsL k v l1 l2 r (l2.length - hd) hd out = some res) ∧ Aside0 (Kd.S k56 56 wr ws.heap.size (fun _ => True) v3 out) ∧ Aside0 (Below ws.heap.size ws wr))
  case atStart => exact ⟨0, [], Nat.zero_le _, by omega, rfl, ⟨Nat.le_refl _⟩, HL, HO, HS⟩
  case round =>
    clear HL HO HS
    obtain ⟨hd, out, hhN, hgg, rfl, HOL, HL, HO, HS⟩ := hrel
    obtain ⟨hb0, hb1, hb2⟩ := fl_cells3 (blk_below BKgb.out HS.out)
    by_cases hlt : hd < l2.length
    · have hltz : (hd : Int) < (l2.length : Int) := by omega
      have hlr : (hd : Int) < (r.length : Int) := by have := HRL.out; omega
      have hp0 : (0 : Int) ≤ (hd : Int) := by omega
      have hl := HL.out
      rw [show l2.length - hd = (l2.length - (hd + 1)) + 1 by omega, rloopsL] at hl
      obtain ⟨bf, hbf, hl⟩ := Option.bind_eq_some_iff.1 hl
      have hbl : bf.length ≤ 512 := by
        split at hl
        · assumption
        · cases hl
      rw [if_pos hbl] at hl
      obtain ⟨fr, hfr, hl⟩ := Option.bind_eq_some_iff.1 hl
      have HBF := Aside0.mk hbf
      have HBL := Aside0.mk hbl
      have HFL := Aside0.mk hfr
      have HLL := Aside0.mk hl
      clear hbf hfr hl hbl
      go_wp2_with (first | (go_at_call 25; refine (spinnakerref33_Before.calls v A1 c1 l1 A2 c2 l2 (hd : Int) bf _ (Kd.C_below (Kd.C_below HR1.out HB.out) HS.out) HC1.out (Kd.C_below (Kd.C_below HR2.out HB.out) HS.out) HC2.out HBF.out).mono ?_; rintro e w6 ⟨vf, rfl, hf, hb⟩; obtain ⟨Af, cf, ef⟩ := Kd.R_slice hf; subst ef; have HBR := Aside0.mk (Kd.R_reads' hf).2.2; have HBC := Aside0.mk (Kd.R_reads' hf).2.1; have n0_ := Aside0.mk (Kd.S_below HO.out hb); have n1_ := Aside0.mk (below_step HS.out hb); clear HO HS; revert n0_ n1_; intro HO HS; clear hb hf hb0 hb1 hb2; have HX := Aside0.mk (Below.refl w6.heap.size w6)))
      have HF : Aside0 (Kd.R (Kd.int .i64) 3 w6 w6.heap.size (fun _ => True) (.slice none 0 0) []) := ⟨Kd.R_nil _ _ _ _ _⟩
      go_loopg [6, 8] bf.length (fun gg v6 v8 wr => ∃ (i : Nat) (acc : List Int), i ≤ bf.length ∧ bf.length - i ≤ gg ∧ v8 = .int .i64 (i : Int) ∧ Aside0 (acc.length ≤ i) ∧ Aside0 (fromL k v l1 l2 r (hd : Int) (bf.drop i) acc = some fr) ∧ Aside0 (Kd.R (Kd.int .i64) 3 wr w6.heap.size (fun _ => True) v6 acc) ∧ Aside0 (Below w6.heap.size w6 wr))
      case atStart => exact ⟨0, [], Nat.zero_le _, by omega, rfl, ⟨Nat.le_refl _⟩, HFL, HF, HX⟩
      case round =>
        clear HFL HF HX
        obtain ⟨i, acc, hiN, hgi, rfl, HAL, HFL, HF, HX⟩ := hrel
        by_cases hil : i < bf.length
        · have hilz : (i : Int) < (bf.length : Int) := by omega
          have hip : (0 : Int) ≤ (i : Int) := by omega
          have hfl := HFL.out
          rw [e_drop bf 0 i hil, fromL] at hfl
          obtain ⟨x, hxe⟩ : ∃ x, bf.getD i 0 = x := ⟨_, rfl⟩
          have HXE := Aside0.mk hxe
          rw [hxe] at hfl
          clear hxe
          have hxx : 0 ≤ x ∧ x < (r.length : Int) := by
            split at hfl
            · assumption
            · cases hfl
          rw [if_pos hxx] at hfl
          obtain ⟨hx0, hx1⟩ := hxx
          obtain ⟨af, eaf, _⟩ := Kd.at_int HBR.out (i : Int) hip hilz
          subst eaf
          obtain ⟨ar, ear, _⟩ := Kd.at_bool HRR.out (x) hx0 hx1
          subst ear
          cases hrx : r.getD (x).toNat false with
          | false =>
            rw [hrx, if_neg (by decide)] at hfl
            have HRX := Aside0.mk hrx
            have HFL := Aside0.mk hfl
            clear hfl hrx
            go_upto_region 11 with (fail)
            have held : ∀ w', Below w6.heap.size w6 w' → (w'.cell? ⟨gb, 0, none⟩ = some (.int .i64 v) ∧ w'.cell? ⟨gb, 1, none⟩ = some (.slice A1 l1.length c1) ∧ w'.cell? ⟨gb, 2, none⟩ = some (.slice A2 l2.length c2) ∧ w'.cell? (af.add i) = some (.int .i64 (x)) ∧ w'.cell? (ar.add (x).toNat) = some (.bool false)) := fun w' hw => ⟨(fl_cells3 (blk_below (blk_below BKgb.out HS.out) hw)).1, (fl_cells3 (blk_below (blk_below BKgb.out HS.out) hw)).2.1, (fl_cells3 (blk_below (blk_below BKgb.out HS.out) hw)).2.2, by have h_ := l_int (Kd.C_below HBR.out hw) (i : Int) (by omega) (by omega); rw [Int.toNat_natCast, HXE.out] at h_; exact h_, by have h_ := l_bool (Kd.C_below (Kd.C_below HRR.out HS.out) hw) (x) hx0 hx1; rw [HRX.out] at h_; exact h_⟩
            have hdrew := below_drew1 (Below.refl wr.heap.size wr)
            have n0_ := Aside0.mk (below_step HX.out hdrew); have n1_ := Aside0.mk (Kd.R_below HF.out hdrew); clear HX HF; revert n0_ n1_; intro HX HF
            clear hdrew
            refine start_ (n := 16) (S := fun w' => (w'.cell? ⟨gb, 0, none⟩ = some (.int .i64 v) ∧ w'.cell? ⟨gb, 1, none⟩ = some (.slice A1 l1.length c1) ∧ w'.cell? ⟨gb, 2, none⟩ = some (.slice A2 l2.length c2) ∧ w'.cell? (af.add i) = some (.int .i64 (x)) ∧ w'.cell? (ar.add (x).toNat) = some (.bool false))) (ds := []) (fm_ 16 0) (by kernel_rfl) rfl rfl (held _ HX.out) (fun hHeld => ?_)
            generalize wr.drew = wd at HF HX hHeld ⊢
            refine fP (i := 0) (N := some 32) (fm_ 16 1) ?_
            refine fP (i := 1) (N := some 33) (fm_ 16 3) ?_
            refine fP (i := 2) (N := some 34) (fm_ 16 7) ?_
            refine fP (i := 3) (N := some 35) (fm_ 16 15) ?_
            refine fT5 (i := 4) (N := some 36) (fm_ 16 31) ?_
            refine fP (i := 5) (N := some 37) (fm_ 16 63) ?_
            refine fT5 (i := 6) (N := some 38) (fm_ 16 127) ?_
            refine fP (i := 7) (N := some 39) (fm_ 16 255) ?_
            refine fO (i := 8) (N := some 40) (fm_ 16 511) ?_
            refine fO (i := 9) (N := some 41) (fm_ 16 1023) ?_
            refine fO (i := 10) (N := some 42) (fm_ 16 2047) ?_
            refine fO (i := 11) (N := some 43) (fm_ 16 4095) ?_
            refine fO (i := 12) (N := some 44) (fm_ 16 8191) ?_
            refine fO (i := 13) (N := some 45) (fm_ 16 16383) ?_
            refine fO (i := 14) (N := some 46) (fm_ 16 32767) ?_
            refine fP (i := 15) (N := some 47) (fm_ 16 65535) ?_
            refine done_ (by kernel_rfl) ?_
            clear held hHeld
            go_wp2_with (fail)
            go_roundg (bf.length - (i + 1))
            case measure => omega
            case rel => exact ⟨i + 1, acc, by omega, by omega, by first | rfl | rw [show wrap64 ((i : Int) + 1) = ((i + 1 : Nat) : Int) by unfold wrap64; have hq_ := HBL.out; omega], ⟨by have := HAL.out; omega⟩, HFL, HF, HX⟩
          | true =>
            rw [hrx, if_pos rfl] at hfl
            obtain ⟨av, hav, hfl⟩ := Option.bind_eq_some_iff.1 hfl
            have HRX := Aside0.mk hrx
            have HAH := Aside0.mk hav
            have HFL := Aside0.mk hfl
            clear hfl hrx hav
            go_upto_region 11 with (fail)
            have held : ∀ w', Below w6.heap.size w6 w' → (w'.cell? ⟨gb, 0, none⟩ = some (.int .i64 v) ∧ w'.cell? ⟨gb, 1, none⟩ = some (.slice A1 l1.length c1) ∧ w'.cell? ⟨gb, 2, none⟩ = some (.slice A2 l2.length c2) ∧ w'.cell? (af.add i) = some (.int .i64 (x)) ∧ w'.cell? (ar.add (x).toNat) = some (.bool true)) := fun w' hw => ⟨(fl_cells3 (blk_below (blk_below BKgb.out HS.out) hw)).1, (fl_cells3 (blk_below (blk_below BKgb.out HS.out) hw)).2.1, (fl_cells3 (blk_below (blk_below BKgb.out HS.out) hw)).2.2, by have h_ := l_int (Kd.C_below HBR.out hw) (i : Int) (by omega) (by omega); rw [Int.toNat_natCast, HXE.out] at h_; exact h_, by have h_ := l_bool (Kd.C_below (Kd.C_below HRR.out HS.out) hw) (x) hx0 hx1; rw [HRX.out] at h_; exact h_⟩
            have hdrew := below_drew1 (Below.refl wr.heap.size wr)
            have n0_ := Aside0.mk (below_step HX.out hdrew); have n1_ := Aside0.mk (Kd.R_below HF.out hdrew); clear HX HF; revert n0_ n1_; intro HX HF
            clear hdrew
            refine start_ (n := 16) (S := fun w' => (w'.cell? ⟨gb, 0, none⟩ = some (.int .i64 v) ∧ w'.cell? ⟨gb, 1, none⟩ = some (.slice A1 l1.length c1) ∧ w'.cell? ⟨gb, 2, none⟩ = some (.slice A2 l2.length c2) ∧ w'.cell? (af.add i) = some (.int .i64 (x)) ∧ w'.cell? (ar.add (x).toNat) = some (.bool true))) (ds := []) (fm_ 16 0) (by kernel_rfl) rfl rfl (held _ HX.out) (fun hHeld => ?_)
            generalize wr.drew = wd at HF HX hHeld ⊢
            refine fP (i := 0) (N := some 32) (fm_ 16 1) ?_
            refine fP (i := 1) (N := some 33) (fm_ 16 3) ?_
            refine fP (i := 2) (N := some 34) (fm_ 16 7) ?_
            refine fP (i := 3) (N := some 35) (fm_ 16 15) ?_
            refine fT5 (i := 4) (N := some 36) (fm_ 16 31) ?_
            refine fP (i := 5) (N := some 37) (fm_ 16 63) ?_
            refine fT5 (i := 6) (N := some 38) (fm_ 16 127) ?_
            refine fP (i := 7) (N := some 39) (fm_ 16 255) ?_
            refine fT5 (i := 8) (N := some 40) (fm_ 16 511) ?_
            refine fP (i := 9) (N := some 41) (fm_ 16 1023) ?_
            refine fP (i := 10) (N := some 42) (fm_ 16 2047) ?_
            refine fP (i := 11) (N := some 43) (fm_ 16 4095) ?_
            refine fP (i := 12) (N := some 44) (fm_ 16 8191) ?_
            refine fT5 (i := 13) (N := some 45) (fm_ 16 16383) ?_
            refine one_ (i := 14) (N := some 46) (fm_ 16 32767) rfl rfl (by kernel_rfl) (by decide) (fun K hK => ?_)
            refine goes_ Tryd.func24 (by kernel_rfl) rfl #[.agg #[.int .i64 v, .slice A1 l1.length c1, .slice A2 l2.length c2], .int .i64 (hd : Int), .int .i64 (x)] (by rfl) rfl rfl (by (try simp only [List.map_toArray, List.map_cons, List.map_nil]); first | done | rfl) ?_
            refine (spinnakerref33_Ahead.calls k v _ _ l1 _ _ l2 (hd : Int) (x) av _ (Kd.C_below (Kd.C_below HR1.out HB.out) (below_then HS.out (below_size HS.out) HX.out)) HC1.out (Kd.C_below (Kd.C_below HR2.out HB.out) (below_then HS.out (below_size HS.out) HX.out)) HC2.out HAH.out).mono ?_
            rintro e w3 ⟨rfl, hb⟩
            refine ⟨_, rfl, ?_⟩
            have n0_ := Aside0.mk (below_step HX.out hb); have n1_ := Aside0.mk (Kd.R_below HF.out hb); clear HX HF; revert n0_ n1_; intro HX HF
            clear hb
            refine hK.out _ _ (held _ HX.out) (fun hHeld => ?_)
            clear hK K
            refine nP (N := some 46) ?_
            refine fP (i := 15) (N := some 47) (fm_ 16 65535) ?_
            refine done_ (by kernel_rfl) ?_
            clear held hHeld
            cases av with
            | false =>
              have hfl := HFL.out
              rw [if_neg (by decide)] at hfl
              have HFL := Aside0.mk hfl
              clear hfl
              go_wp2_with (fail)
              go_roundg (bf.length - (i + 1))
              case measure => omega
              case rel => exact ⟨i + 1, acc, by omega, by omega, by first | rfl | rw [show wrap64 ((i : Int) + 1) = ((i + 1 : Nat) : Int) by unfold wrap64; have hq_ := HBL.out; omega], ⟨by have := HAL.out; omega⟩, HFL, HF, HX⟩
            | true =>
              have hfl := HFL.out
              rw [if_pos rfl] at hfl
              have HFL := Aside0.mk hfl
              clear hfl
              obtain ⟨A6, c6, e6⟩ := Kd.R_slice HF.out
              subst e6
              have hcell := l_int (Kd.C_below HBR.out HX.out) (i : Int) hip hilz
              rw [Int.toNat_natCast, HXE.out] at hcell
              have HAB : Aside0 ((acc.length + 1) * 8 ≤ 140737488355328) := ⟨by have := HAL.out; have := HBL.out; omega⟩
              go_wp2_with (first | ((with_reducible refine gate_builtin (b := .append) (xs := #[.tmp 48, .tmp 53]) rfl ?_); at_builtin; refine Kd.R_append (Kd.int .i64) (w0 := w6) w6.heap.size rfl (.tmp 48) (.tmp 53) 22 3 (.int .i64 0) 8 rfl Tryd.underlying22 info3 rfl (by decide) (by omega) (.slice A6 acc.length c6) acc (x) [.int .i64 (x)] (fun _ => True) (fun _ => False) rfl rfl rfl (fun _ hk => hk.elim) (fun _ _ => trivial) HF.out HX.out (below_size HX.out) HAB.out ?_; intro v9 w9 ho hb hg hat; have n0_ := Aside0.mk ho; have n1_ := Aside0.mk hb; clear HF HX ho hb hg hat; revert n0_ n1_; intro HF HX))
              clear hcell
              go_roundg (bf.length - (i + 1))
              case measure => omega
              case rel => exact ⟨i + 1, acc ++ [x], by omega, by omega, by first | rfl | rw [show wrap64 ((i : Int) + 1) = ((i + 1 : Nat) : Int) by unfold wrap64; have hq_ := HBL.out; omega], ⟨by have := HAL.out; rw [List.length_append]; simp only [List.length_singleton]; omega⟩, HFL, HF, HX⟩
        · have hilz : ¬ (i : Int) < (bf.length : Int) := by omega
          have hfl := HFL.out
          rw [List.drop_eq_nil_of_le (by omega), fromL] at hfl
          injection hfl with hfl
          subst acc
          obtain ⟨Ac, cc, ec⟩ := Kd.R_slice HF.out
          subst ec
          obtain ⟨ar, ear, _⟩ := Kd.at_bool HRR.out (hd : Int) hp0 hlr
          subst ear
          have hcell := l_bool (Kd.C_below (Kd.C_below HRR.out HS.out) HX.out) (hd : Int) hp0 hlr
          rw [Int.toNat_natCast] at hcell
          have hll := HLL.out
          cases hrh : r.getD hd false with
          | false =>
            rw [hrh] at hcell hll
            rw [if_neg (fun h => by cases h.1)] at hll
            have HL := Aside0.mk hll
            have HO2 := Aside0.mk (Kd.S_below HO.out HX.out)
            have HS2 := Aside0.mk (below_then HS.out (below_size HS.out) HX.out)
            clear hll hrh HO HS
            have HO := HO2
            have HS := HS2
            clear HO2 HS2
            go_wp2_with (fail)
            go_roundg (l2.length - (hd + 1))
            case measure => omega
            case rel => exact ⟨hd + 1, out, by omega, by omega, by first | rfl | rw [show wrap64 ((hd : Int) + 1) = ((hd + 1 : Nat) : Int) by unfold wrap64; have hq_ := HN5.out; omega], ⟨by have := HOL.out; omega⟩, HL, HO, HS⟩
          | true =>
            rw [hrh] at hcell hll
            by_cases hfz : fr.length = 0
            · rw [if_neg (fun h => h.2 hfz)] at hll
              have HL := Aside0.mk hll
              have HO2 := Aside0.mk (Kd.S_below HO.out HX.out)
              have HS2 := Aside0.mk (below_then HS.out (below_size HS.out) HX.out)
              have hfzz : ((fr.length : Int) == 0) = true := by simpa using hfz
              clear hll hrh HO HS hfz
              have HO := HO2
              have HS := HS2
              clear HO2 HS2
              go_wp2_with (fail)
              go_roundg (l2.length - (hd + 1))
              case measure => omega
              case rel => exact ⟨hd + 1, out, by omega, by omega, by first | rfl | rw [show wrap64 ((hd : Int) + 1) = ((hd + 1 : Nat) : Int) by unfold wrap64; have hq_ := HN5.out; omega], ⟨by have := HOL.out; omega⟩, HL, HO, HS⟩
            · rw [if_pos ⟨rfl, hfz⟩] at hll
              obtain ⟨ed, hed, hll⟩ := Option.bind_eq_some_iff.1 hll
              obtain ⟨c, hld, hll⟩ := Option.bind_eq_some_iff.1 hll
              have HED := Aside0.mk hed
              have HLD := Aside0.mk hld
              have HL := Aside0.mk hll
              have hfzz : ((fr.length : Int) == 0) = false := by simpa using hfz
              have HFC := Aside0.mk (Kd.R_reads' HF.out).2.2
              have HFRL : Aside0 (fr.length ≤ 512) := ⟨by have := HAL.out; have := HBL.out; omega⟩
              have HS7 := Aside0.mk (below_step HS.out HX.out)
              have HO7 := Aside0.mk (Kd.S_below HO.out HX.out)
              have HZ := Aside0.mk (Below.refl wr.heap.size wr)
              obtain ⟨hb0, hb1, hb2⟩ := fl_cells3 (blk_below (blk_below BKgb.out HS.out) HX.out)
              clear hll hrh hed hld hfz HF HFL HS HO HX
              go_wp2_with (first | (go_at_call 28; refine (edges_walk v A1 c1 l1 A2 c2 l2 (hd : Int) _ _ (Kd.C_below (Kd.C_below HR1.out HB.out) (below_step HS7.out HZ.out)) HC1.out (Kd.C_below (Kd.C_below HR2.out HB.out) (below_step HS7.out HZ.out)) HC2.out HED.out).mono ?_; rintro e w1 ⟨q, rfl, hq, hb_⟩; have HQ := Aside0.mk hq; have n0_ := Aside0.mk (below_step HZ.out hb_); clear HZ; revert n0_; intro HZ; clear hq hb_) | (go_at_call 42; refine (leads_walk k _ _ HQ.out HLD.out).mono ?_; rintro e w8 ⟨q2, rfl, hq, hb_⟩; have n0_ := Aside0.mk (below_step HZ.out hb_); clear HZ; revert n0_; intro HZ; clear HQ; have HQ := Aside0.mk hq; clear hq hb_; have HS8 := Aside0.mk (below_step HS7.out HZ.out); have HO8 := Aside0.mk (Kd.S_below HO7.out HZ.out); have HF8 := Aside0.mk (Kd.C_below HFC.out HZ.out); clear HZ HS7 HO7 HFC hb0 hb1 hb2; have HY8 := Aside0.mk (Below.refl w8.heap.size w8)) | ((with_reducible refine gate_dst (N := 10) rfl ?_); refine l_alloc rfl (t := 56) (zs := #[.int .i64 0, .slice none 0 0]) rfl (by kernel_rfl) ?_; intro gx hgx wx hnew hb; have GEx := Aside0.mk (show w8.heap.size ≤ gx by rw [hgx]; exact below_size HY8.out); have n0_ := Aside0.mk (below_step HY8.out hb); clear HY8; revert n0_; intro HY8; have BKx := Aside0.mk hnew; clear hb hnew hgx) | ((with_reducible refine gate_store (t := 56) (p := 10) rfl ?_); refine l_store rfl (t := 56) rfl rfl rfl rfl BKx.out (by kernel_rfl) rfl (by first | (simp; done) | (simp [Value.oneCell']; done) | (simp; rfl)) ?_; intro w9 hnew hgr; have n0_ := Aside0.mk (l_below HY8.out hgr GEx.out HY8.out.size); have n3_ := Aside0.mk hnew; clear HY8 BKx; have HY8 := n0_; have BKx := n3_; clear n0_ n3_ hnew hgr))
              clear hcell
              have HY : Aside0 (Kd.R (Kd.int .i64) 3 w9 w8.heap.size (fun _ => True) (.slice none 0 0) (befL (inB r l2.length c hd fr) 0)) := ⟨Kd.R_nil _ _ _ _ _⟩
              go_loopg [11] l2.length (fun gq v11 wq => ∃ (b : Nat) (vb : Value), b ≤ l2.length ∧ l2.length - b ≤ gq ∧ v11 = .int .i64 (b : Int) ∧ Aside0 (wq.heap[gx]? = some (.cells #[.int .i64 (hd : Int), vb] 56 (0, 0))) ∧ Aside0 (Kd.R (Kd.int .i64) 3 wq w8.heap.size (fun _ => True) vb (befL (inB r l2.length c hd fr) b)) ∧ Aside0 (Below w8.heap.size w8 wq))
              case atStart => exact ⟨0, _, Nat.zero_le _, by omega, rfl, BKx, HY, HY8⟩
              case round =>
                clear BKx HY HY8
                obtain ⟨b, vb, hbN, hgq, rfl, BKx, HY, HY8⟩ := hrel
                obtain ⟨hb0, hb1, hb2⟩ := fl_cells3 (blk_below BKgb.out (below_step HS8.out HY8.out))
                obtain ⟨A6, c6, e6⟩ := Kd.R_slice HY.out
                subst e6
                obtain ⟨hx0, hx1⟩ := l_cells2 BKx.out
                by_cases hbl : b < l2.length
                · have hblz : (b : Int) < (l2.length : Int) := by omega
                  have hbp : (0 : Int) ≤ (b : Int) := by omega
                  have hbr : (b : Int) < (r.length : Int) := by have := HRL.out; omega
                  have hrc := l_bool (Kd.C_below (Kd.C_below HRR.out HS8.out) HY8.out) (b : Int) hbp hbr
                  rw [Int.toNat_natCast] at hrc
                  go_wp2_with (fail)
                  go_loopg [12, 13] fr.length (fun gi v12 v13 wi => ∃ (i : Nat) (acc : Bool), i ≤ fr.length ∧ fr.length - i ≤ gi ∧ v13 = .int .i64 (i : Int) ∧ v12 = .bool acc ∧ Aside0 ((acc || (fr.drop i).any (memP r l2.length c hd b)) = inB r l2.length c hd fr b) ∧ wi = wr)
                  case atStart => exact ⟨0, _, Nat.zero_le _, by omega, rfl, rfl, ⟨rfl⟩, rfl⟩
                  case round =>
                    obtain ⟨i, acc, hiN, hgi, rfl, rfl, HP, hwi⟩ := hrel
                    subst hwi
                    by_cases hil : i < fr.length
                    · have hilz : (i : Int) < (fr.length : Int) := by omega
                      have hip : (0 : Int) ≤ (i : Int) := by omega
                      cases acc with
                      | true =>
                        have hpp := HP.out
                        rw [Bool.true_or] at hpp
                        have HP : Aside0 ((true || (fr.drop (i + 1)).any (memP r l2.length c hd b)) = inB r l2.length c hd fr b) := ⟨by rw [Bool.true_or]; exact hpp⟩
                        clear hpp
                        go_wp2_with (fail)
                        go_roundg (fr.length - (i + 1))
                        case measure => omega
                        case rel => exact ⟨i + 1, true, by omega, by omega, by first | rfl | rw [show wrap64 ((i : Int) + 1) = ((i + 1 : Nat) : Int) by unfold wrap64; have hq_ := HFRL.out; omega], by first | rfl | simp, HP, rfl⟩
                      | false =>
                        have hpp := HP.out
                        obtain ⟨x, hxe⟩ : ∃ x, fr.getD i 0 = x := ⟨_, rfl⟩
                        rw [e_drop fr 0 i hil, hxe, List.any_cons, Bool.false_or] at hpp
                        obtain ⟨af, eaf, hcx⟩ := Kd.at_int (Kd.C_below HF8.out HY8.out) (i : Int) hip hilz
                        subst eaf
                        rw [show rd fr (i : Int) = fr.getD i 0 by simp [rd], hxe, Int.toNat_natCast] at hcx
                        clear hxe
                        cases hrb : r.getD b false with
                        | false =>
                          rw [hrb] at hrc
                          rw [show memP r l2.length c hd b x = false by unfold memP; rw [hrb]; rfl] at hpp
                          have HP := Aside0.mk hpp
                          clear hpp hrb
                          go_wp2_with (fail)
                          go_roundg (fr.length - (i + 1))
                          case measure => omega
                          case rel => exact ⟨i + 1, false, by omega, by omega, by first | rfl | rw [show wrap64 ((i : Int) + 1) = ((i + 1 : Nat) : Int) by unfold wrap64; have hq_ := HFRL.out; omega], by first | rfl | simp, HP, rfl⟩
                        | true =>
                          rw [hrb] at hrc
                          by_cases hxh : x = (hd : Int)
                          · have hxb : (x != (hd : Int)) = false := by simpa using hxh
                            rw [show memP r l2.length c hd b x = false by unfold memP; rw [hrb, hxb]; rfl] at hpp
                            have HP := Aside0.mk hpp
                            clear hpp hrb hxh
                            go_wp2_with (fail)
                            go_roundg (fr.length - (i + 1))
                            case measure => omega
                            case rel => exact ⟨i + 1, false, by omega, by omega, by first | rfl | rw [show wrap64 ((i : Int) + 1) = ((i + 1 : Nat) : Int) by unfold wrap64; have hq_ := HFRL.out; omega], by first | rfl | simp, HP, rfl⟩
                          · have hxb : (x != (hd : Int)) = true := by simpa using hxh
                            by_cases hbx : (b : Int) = x
                            · have hbb : ((b : Int) == x) = true := by simpa using hbx
                              rw [show memP r l2.length c hd b x = true by unfold memP; rw [hrb, hxb, hbb]; rfl] at hpp
                              have HP := Aside0.mk hpp
                              clear hpp hrb hxh hbx
                              go_wp2_with (fail)
                              go_roundg (fr.length - (i + 1))
                              case measure => omega
                              case rel => exact ⟨i + 1, true, by omega, by omega, by first | rfl | rw [show wrap64 ((i : Int) + 1) = ((i + 1 : Nat) : Int) by unfold wrap64; have hq_ := HFRL.out; omega], by first | rfl | simp, HP, rfl⟩
                            · have hbb : ((b : Int) == x) = false := by simpa using hbx
                              obtain ⟨X, hX⟩ : ∃ X, hasP l2.length c (b : Int) x = X := ⟨_, rfl⟩
                              rw [show memP r l2.length c hd b x = X by unfold memP; rw [hrb, hxb, hbb, hX]; rfl] at hpp
                              have HP := Aside0.mk hpp
                              clear hpp hrb hxh hbx
                              go_wp2_with (first | (go_at_call 30; refine (has_walk (b : Int) x _ (HQ.out.below HY8.out)).mono ?_; rintro e w1 ⟨rfl, hw_⟩; subst w1; rw [show (mayB l2.length (b : Int) && (mayB l2.length x && atB c (b : Int) x)) = X from hX]))
                              go_roundg (fr.length - (i + 1))
                              case measure => omega
                              case rel => exact ⟨i + 1, X, by omega, by omega, by first | rfl | rw [show wrap64 ((i : Int) + 1) = ((i + 1 : Nat) : Int) by unfold wrap64; have hq_ := HFRL.out; omega], by first | rfl | simp, HP, rfl⟩
                    · have hilz : ¬ (i : Int) < (fr.length : Int) := by omega
                      have hpp := HP.out
                      rw [List.drop_eq_nil_of_le (by omega), List.any_nil, Bool.or_false] at hpp
                      have HFF := Aside0.mk hpp.symm
                      clear hpp HP hrc
                      cases acc with
                      | false =>
                        go_wp2_with (fail)
                        go_roundg (l2.length - (b + 1))
                        case measure => omega
                        case rel => exact ⟨b + 1, _, by omega, by omega, by first | rfl | rw [show wrap64 ((b : Int) + 1) = ((b + 1 : Nat) : Int) by unfold wrap64; have hq_ := HN5.out; omega], BKx, ⟨by rw [befL_succ, if_neg (by rw [HFF.out]; decide)]; exact HY.out⟩, HY8⟩
                      | true =>
                        go_wp2_with (first | ((with_reducible refine gate_builtin (b := .append) (xs := #[.tmp 121, .tmp 123]) rfl ?_); at_builtin; refine Kd.R_append (Kd.int .i64) (w0 := w8) w8.heap.size rfl (.tmp 121) (.tmp 123) 22 3 (.int .i64 0) 8 rfl Tryd.underlying22 info3 rfl (by decide) (by omega) (.slice A6 (befL (inB r l2.length c hd fr) b).length c6) (befL (inB r l2.length c hd fr) b) (b : Int) [.int .i64 (b : Int)] (fun _ => True) (fun _ => False) rfl rfl rfl (fun _ hk => hk.elim) (fun _ _ => trivial) HY.out HY8.out (below_size HY8.out) (by have h_ := befL_length (inB r l2.length c hd fr) b; have := HN5.out; omega) ?_; intro v9 w9 ho hb hg hat; obtain ⟨A9, c9, e9⟩ := Kd.R_slice ho; subst e9; have n0_ := Aside0.mk ho; have n1_ := Aside0.mk hb; have n2_ := Aside0.mk (blk_grown BKx.out hg (Kd.R_ne HY.out BKx.out (by decide))); clear HY HY8 BKx ho hb hg hat hx0 hx1; revert n0_ n1_ n2_; intro HY HY8 BKx; have hs := (l_cells2 BKx.out).2; have hfs := blk_frozen BKx.out 1) | ((with_reducible refine gate_store (t := 22) (p := 125) rfl ?_); refine store_event (t := 22) (p := 125) (v := .tmp 124) (w1 := (w9.setCell ⟨gx, 1, none⟩ (.slice A9 (befL (inB r l2.length c hd fr) b ++ [(b : Int)]).length c9))) ?hg ?ho ?hn ?hr ?_; (case ho => rfl); (case hg => rfl); (case hn => rfl); (case hr => first | (go_simp; done) | (go_simp; rfl)); intro wz hw; clear hs hfs; have n0_ := Aside0.mk (show Below w8.heap.size w8 wz by rw [hw]; exact below_set HY8.out GEx.out); have n1_ := Aside0.mk (show Kd.R (Kd.int .i64) 3 wz w8.heap.size (fun _ => True) (.slice A9 (befL (inB r l2.length c hd fr) b ++ [(b : Int)]).length c9) _ by rw [hw]; exact Kd.R_set HY.out BKx.out (by decide) 1 _); have n2_ := Aside0.mk (show wz.heap[gx]? = some (.cells #[.int .i64 (hd : Int), (.slice A9 (befL (inB r l2.length c hd fr) b ++ [(b : Int)]).length c9)] 56 (0, 0)) by rw [hw]; exact blk_put (cs' := #[.int .i64 (hd : Int), (.slice A9 (befL (inB r l2.length c hd fr) b ++ [(b : Int)]).length c9)]) BKx.out 1 _ rfl); clear HY8 HY BKx; have HY8 := n0_; have HY := n1_; have BKx := n2_; clear n0_ n1_ n2_ hw))
                        go_roundg (l2.length - (b + 1))
                        case measure => omega
                        case rel => exact ⟨b + 1, _, by omega, by omega, by first | rfl | rw [show wrap64 ((b : Int) + 1) = ((b + 1 : Nat) : Int) by unfold wrap64; have hq_ := HN5.out; omega], BKx, ⟨by rw [befL_succ, if_pos HFF.out]; exact HY.out⟩, HY8⟩
                · have hblz : ¬ (b : Int) < (l2.length : Int) := by omega
                  obtain rfl : b = l2.length := by omega
                  have hol : (out.length + 1) * 32 ≤ 140737488355328 := by have := HOL.out; have := HN5.out; omega
                  have HOL2 := Aside0.mk hol
                  clear hol
                  go_wp2_with (first | ((with_reducible refine gate_builtin (b := .append) (xs := #[.tmp 126, .tmp 128]) rfl ?_); at_builtin; refine Kd.S_append k56 (w0 := ws) ws.heap.size rfl (.tmp 126) (.tmp 128) 52 56 (.agg #[.int .i64 0, .slice none 0 0]) 32 rfl Tryd.underlying52 info56 rfl (by decide) (by omega) u3 out (⟨(hd : Int), befL (inB r l2.length c hd fr) l2.length⟩ : S56) [.int .i64 (hd : Int), .slice A6 (befL (inB r l2.length c hd fr) l2.length).length c6] (fun _ => True) (fun k_ => w8.heap.size ≤ k_) rfl rfl ?aP (fun k_ hk => ⟨trivial, fun e_ => Nat.not_le.2 (Kd.S_lt HO8.out k_ e_.symm) hk⟩) (fun _ _ => trivial) ?aO ?aB ?aS ?aL ?_; (case aP => exact k56_mkM _ _ _ (⟨(hd : Int), befL (inB r l2.length c hd fr) l2.length⟩ : S56) (Kd.R_lower (Kd.R_mono (Kd.R_bound HY.out) (fun k_ hk => hk.2.1)) (below_size HS8.out))); (case aO => exact Kd.S_below (Kd.S_mono (Kd.S_bound HO8.out) (fun k_ hk => ⟨trivial, fun h2 => Nat.not_le.2 hk.2.2.1 h2⟩)) HY8.out); (case aB => exact below_step HS8.out HY8.out); (case aS => exact below_size (below_step HS8.out HY8.out)); (case aL => exact HOL2.out); intro v9 w9 ho hb hg hat; have n0_ := Aside0.mk ho; have n1_ := Aside0.mk hb; clear HO8 HS8 HY8 HY BKx ho hb hg hat hx0 hx1; revert n0_ n1_; intro HO HS))
                  go_roundg (l2.length - (hd + 1))
                  case measure => omega
                  case rel => exact ⟨hd + 1, out ++ [⟨(hd : Int), befL (inB r l2.length c hd fr) l2.length⟩], by omega, by omega, by first | rfl | rw [show wrap64 ((hd : Int) + 1) = ((hd + 1 : Nat) : Int) by unfold wrap64; have hq_ := HN5.out; omega], ⟨by have := HOL.out; rw [List.length_append]; simp only [List.length_singleton]; omega⟩, HL, HO, HS⟩
    · have hltz : ¬ (hd : Int) < (l2.length : Int) := by omega
      have hl := HL.out
      rw [show l2.length - hd = 0 by omega, rloopsL] at hl
      injection hl with hl
      subst hl
      go_wp2_with (fail)
      go_ret
      exact ⟨_, rfl, Kd.S_lower HO.out (below_size HB.out), below_step HB.out HS.out⟩



/-! ### spinnakerlaw33_wrong: function 18 -/
def spinnakerlaw33_wrong.j0 : Nat → Bool → Int → List Int → List (S36) → Option (Bool)
  | 0, _, _, _, _ => none
  | k + 1, x10, x215000, x215001, x215002 => if x10 = true then (some true) else ((flow_Before.f k x215000 x215001 x215002).bind fun t216 => (if (t216.length : Int) = 0 then ((flow_Reached.f k x215000 x215001 x215002).bind fun t219 => (if (t219.length : Int) = 0 then ((flow_Order.f k x215000 x215001 x215002).bind fun t222 => (if (t222.length : Int) = 0 then ((flow_Loops.f k x215000 x215001 x215002).bind fun t225 => (if (t225.length : Int) = 0 then ((flow_Ahead.f k x215000 x215001 x215002 0 0).bind fun t228 => (some (!t228))) else (some false))) else (some false))) else (some false))) else (some false)))
def spinnakerlaw33_wrong.f (k : Nat) (a0_0 : Int) (l0_1 : List Int) (l0_2 : List (S36)) : Option (Bool) := if (l0_2.length : Int) > 30 then (spinnakerlaw33_wrong.j0 k true a0_0 l0_1 l0_2) else ((spinnakerref26_Right.f a0_0 l0_1 l0_2 200).bind fun t215 => (spinnakerlaw33_wrong.j0 k t215 a0_0 l0_1 l0_2))
theorem spinnakerlaw33_wrong.mono_l : ∀ k, (∀ y0 y1 y2 y3, LeO (spinnakerlaw33_wrong.j0 k y0 y1 y2 y3) (spinnakerlaw33_wrong.j0 (k + 1) y0 y1 y2 y3))
  | 0 => fun _ _ _ _ r h => by simp [spinnakerlaw33_wrong.j0] at h
  | k + 1 => by
    have ih0 := spinnakerlaw33_wrong.mono_l k
    · intro y0 y1 y2 y3
      unfold spinnakerlaw33_wrong.j0
      repeat' first
 | (with_reducible exact ih0 _ _ _ _)
 | (with_reducible exact flow_Ahead.mono _ _ _ _ _ _)
 | (with_reducible exact flow_Before.mono _ _ _ _)
 | (with_reducible exact flow_Loops.mono _ _ _ _)
 | (with_reducible exact flow_Order.mono _ _ _ _)
 | (with_reducible exact flow_Reached.mono _ _ _ _)
 | (with_reducible exact LeO.refl _)
 | (with_reducible exact LeO.none _)
 | (with_reducible refine LeO.ite ?_ ?_)
 | (with_reducible refine LeO.bind ?_ (fun _ => ?_))
theorem spinnakerlaw33_wrong.mono : ∀ a0 a1 a2 k, LeO (spinnakerlaw33_wrong.f k a0 a1 a2) (spinnakerlaw33_wrong.f (k + 1) a0 a1 a2) := by
  intro a0 a1 a2 k; have ih0 := spinnakerlaw33_wrong.mono_l k; unfold spinnakerlaw33_wrong.f
  repeat' first
 | (with_reducible exact ih0 _ _ _ _)
 | (with_reducible exact flow_Ahead.mono _ _ _ _ _ _)
 | (with_reducible exact flow_Before.mono _ _ _ _)
 | (with_reducible exact flow_Loops.mono _ _ _ _)
 | (with_reducible exact flow_Order.mono _ _ _ _)
 | (with_reducible exact flow_Reached.mono _ _ _ _)
 | (with_reducible exact LeO.refl _)
 | (with_reducible exact LeO.none _)
 | (with_reducible refine LeO.ite ?_ ?_)
 | (with_reducible refine LeO.bind ?_ (fun _ => ?_))
theorem z18_0 {p : Prop} (h : p := by repeat (first | (with_reducible first | exact HB.out | apply below_alloc | apply pw_below_drewN | apply below_drew1 | refine below_set ?_ GE214.out) | exact HB.out)) : p := h
theorem z18_1 {p : Prop} (h : p := by (with_reducible repeat (first | refine blk_drewN ?_ _ | refine blk_drew ?_ | refine blk_alloc ?_ _)); exact BK214.out) : p := h
theorem z18_2 {p : Prop} (h : p := by (with_reducible repeat (first | apply Kd.S_alloc | apply Kd.S_drewN | apply Kd.S_drew)); exact HO218.out) : p := h
theorem z18_3 {p : Prop} (h : p := by (try simp only [List.map_toArray, List.map_cons, List.map_nil]); first | done | rfl | (simp only [List.length_drop, List.length_take]; rfl)) : p := h
theorem z18_4 {p : Prop} (h : p := by (with_reducible repeat (first | apply Kd.R_alloc | apply Kd.R_drewN | apply Kd.R_drew)); exact HO221.out) : p := h
theorem z18_5 {p : Prop} (h : p := by (with_reducible repeat (first | apply Kd.R_alloc | apply Kd.R_drewN | apply Kd.R_drew)); exact HO224.out) : p := h
set_option maxHeartbeats 8000000 in
set_option maxRecDepth 100000 in
theorem spinnakerlaw33_wrong.calls (k : Nat) (a0_0 : Int) (A0_1 : Option Addr) (c0_1 : Nat) (l0_1 : List Int) (A0_2 : Option Addr) (c0_2 : Nat) (l0_2 : List (S36)) (r : Bool) (w : World) (hr0_1 : Kd.C (Kd.int .i64) w A0_1 l0_1.length l0_1) (hc0_1 : l0_1.length ≤ c0_1) (hr0_2 : Kd.C k36 w A0_2 l0_2.length l0_2) (hc0_2 : l0_2.length ≤ c0_2) (hG : OpsLaid w) (h : spinnakerlaw33_wrong.f k a0_0 l0_1 l0_2 = some r) :
  Calls Tryd.prog 18 #[.agg #[.int .i64 a0_0, .slice A0_1 l0_1.length c0_1, .slice A0_2 l0_2.length c0_2]] w fun e w' => e = .returned (.bool r) ∧ Below w.heap.size w w' := by
 have hu25 := Tryd.underlying25; have HG := Aside0.mk hG; clear hG; have HR0_1 := Aside0.mk hr0_1; have HC0_1 := Aside0.mk hc0_1; clear hr0_1 hc0_1; have HR0_2 := Aside0.mk hr0_2; have HC0_2 := Aside0.mk hc0_2; clear hr0_2 hc0_2; have HB := Aside0.mk (Below.refl w.heap.size w); have H : (if (l0_2.length : Int) > 30 then (spinnakerlaw33_wrong.j0 k true a0_0 l0_1 l0_2) else ((spinnakerref26_Right.f a0_0 l0_1 l0_2 200).bind fun t215 => (spinnakerlaw33_wrong.j0 k t215 a0_0 l0_1 l0_2))) = some r := h; clear h; have HC2 := Aside0.mk H; clear H
 go_enter Tryd.func18, Tryd.ntmps18
 go_upto_region 1 with (first | ((with_reducible refine gate_dst (N := 1) rfl ?_); (try (refine gate_guard (by rfl) ?_; dsimp only)); refine box_event ?hg (N := 1) ?hd (cs := #[.int .i64 a0_0, .slice A0_1 l0_1.length c0_1, .slice A0_2 l0_2.length c0_2]) (t := 25) ?hr ?_; (case hd => rfl); (case hg => rfl); (case hr => first | (go_simp; done) | (go_simp; rfl)); intro gb214 hg w3 hbox hb; have n0_ := Aside0.mk (below_step (by repeat (first | (with_reducible first | exact HB.out | apply below_alloc | apply pw_below_drewN | apply below_drew1) | exact HB.out)) hb); have n1_ := Aside0.mk (hbox); have n2_ := Aside0.mk ((by rw [hg]; exact (below_size (by repeat (first | (with_reducible first | exact HB.out | apply below_alloc | apply pw_below_drewN | apply below_drew1) | exact HB.out))) : w.heap.size ≤ gb214)); have n3_ := n2_; clear HB; revert n0_ n1_ n2_ n3_; intro HB BK214 GW214 GE214; clear hb hbox hg))
 (try simp only [Act.put, List.setIfInBounds_toArray, List.set_cons_zero, List.set_cons_succ])
 go_cut [10] (fun v10 wc => ∃ (kq : Nat) (x10_1 : Bool), v10 = .bool x10_1 ∧ Aside0 (spinnakerlaw33_wrong.j0 kq x10_1 a0_0 l0_1 l0_2 = some r) ∧ Aside0 (kq ≤ k) ∧ Aside0 (wc.heap[gb214]? = some (.cells #[.int .i64 a0_0, (.slice A0_1 l0_1.length c0_1), (.slice A0_2 l0_2.length c0_2)] 25 (0, 0))) ∧ Aside0 (Below w.heap.size w wc))
 case first =>
  have H := HC2.out; clear HC2
  by_cases c4 : (l0_2.length : Int) > 30
  ·rw [if_pos c4] at H
   have c4b0 : decide (30 < (l0_2.length : Int)) = true := decide_eq_true c4; have c4b1 : decide (30 < l0_2.length) = true := decide_eq_true (by omega); clear c4; (first | rw [c4b0] | (simp only [i64_w, i32_w]; rw [c4b0]) | rw [c4b1] | skip); have H' := Aside0.mk H; clear H; obtain ⟨hcz5_0, hcz5_1, hcz5_2⟩ := bC3 BK214.out; obtain ⟨hfz5_0, hfz5_1, hfz5_2⟩ := bF3 BK214.out
   go_wp2
   go_meet
   case rel => exact ⟨_, (true), (by first | rfl | (simp; done) | (simp [*]; done)), H', ⟨(by first | omega | exact Nat.le_refl _)⟩, ⟨z18_1⟩, ⟨z18_0⟩⟩
  ·rw [if_neg c4] at H
   have c4b0 : decide (30 < (l0_2.length : Int)) = false := decide_eq_false c4; have c4b1 : decide (30 < l0_2.length) = false := decide_eq_false (by omega); clear c4; (first | rw [c4b0] | (simp only [i64_w, i32_w]; rw [c4b0]) | rw [c4b1] | skip); replace H := Option.bind_eq_some_iff.mp H; obtain ⟨t215, A60, H⟩ := H; replace H : (spinnakerlaw33_wrong.j0 k t215 a0_0 l0_1 l0_2) = some r := H; have A6 := Aside0.mk A60; clear A60; have H' := Aside0.mk H; clear H; obtain ⟨hcz7_0, hcz7_1, hcz7_2⟩ := bC3 BK214.out; obtain ⟨hfz7_0, hfz7_1, hfz7_2⟩ := bF3 BK214.out
   go_wp2_with (first | (go_at_call 10; (with_reducible refine (spinnakerref26_Right.calls a0_0 _ _ l0_1 _ _ l0_2 200 t215 _ ?side1 ?side2 ?side3 ?side4 A6.out).mono ?_); (case side1 => repeat (first | exact (Kd.C_below HR0_1.out HB.out) | (with_reducible refine Kd.C_alloc ?_ _) | (with_reducible refine Kd.C_drewN ?_ _) | (with_reducible refine Kd.C_drew ?_))); (case side2 => exact HC0_1.out); (case side3 => repeat (first | exact (Kd.C_below HR0_2.out HB.out) | (with_reducible refine Kd.C_alloc ?_ _) | (with_reducible refine Kd.C_drewN ?_ _) | (with_reducible refine Kd.C_drew ?_))); (case side4 => exact HC0_2.out); rintro e w8 ⟨rfl, hb⟩; have n0_ := Aside0.mk (blk_below (g := gb214) (o := .cells #[.int .i64 a0_0, .slice A0_1 l0_1.length c0_1, .slice A0_2 l0_2.length c0_2] 25 (0, 0)) z18_1 hb); have n1_ := Aside0.mk (below_step z18_0 hb); clear BK214 HB; revert n0_ n1_; intro BK214 HB; (try clear hb); (try clear hb2); (try clear hk); (try clear hi)))
   go_meet
   case rel => exact ⟨_, (t215), (by first | rfl | (simp; done) | (simp [*]; done)), H', ⟨(by first | omega | exact Nat.le_refl _)⟩, ⟨z18_1⟩, ⟨z18_0⟩⟩
 case rest =>
  clear HC2; obtain ⟨kq, x10_1, rfl, HA, HJ1, BK214, HB⟩ := hcut
  cases kq with
  | zero => exact absurd HA.out (by simp [spinnakerlaw33_wrong.j0])
  | succ kj1 =>
   have H := HA.out; clear HA; simp only [spinnakerlaw33_wrong.j0] at H
   by_cases c9 : x10_1 = true
   ·subst c9
    have H1 : (some true) = some r := by rw [if_pos rfl] at H; exact H
    clear H; have H := H1; clear H1; obtain rfl := Option.some.inj H
    go_wp2
    go_ret
    exact ⟨by first | rfl | (simp [errW_none, errW_some] <;> rfl) | (simp [*, errW_none, errW_some] <;> rfl), by repeat (first | (with_reducible first | exact HB.out | apply below_alloc | apply pw_below_drewN | apply below_drew1 | refine below_set ?_ GE214.out) | exact HB.out)⟩
   ·replace c9 := Bool.eq_false_iff.mpr c9
    subst c9
    have H1 : ((flow_Before.f kj1 a0_0 l0_1 l0_2).bind fun t216 => (if (t216.length : Int) = 0 then ((flow_Reached.f kj1 a0_0 l0_1 l0_2).bind fun t219 => (if (t219.length : Int) = 0 then ((flow_Order.f kj1 a0_0 l0_1 l0_2).bind fun t222 => (if (t222.length : Int) = 0 then ((flow_Loops.f kj1 a0_0 l0_1 l0_2).bind fun t225 => (if (t225.length : Int) = 0 then ((flow_Ahead.f kj1 a0_0 l0_1 l0_2 0 0).bind fun t228 => (some (!t228))) else (some false))) else (some false))) else (some false))) else (some false))) = some r := by rw [if_neg (show ¬ (false = true) by decide)] at H; exact H
    clear H; have H := H1; clear H1; replace H := Option.bind_eq_some_iff.mp H; obtain ⟨t216, A100, H⟩ := H; replace H : (if (t216.length : Int) = 0 then ((flow_Reached.f kj1 a0_0 l0_1 l0_2).bind fun t219 => (if (t219.length : Int) = 0 then ((flow_Order.f kj1 a0_0 l0_1 l0_2).bind fun t222 => (if (t222.length : Int) = 0 then ((flow_Loops.f kj1 a0_0 l0_1 l0_2).bind fun t225 => (if (t225.length : Int) = 0 then ((flow_Ahead.f kj1 a0_0 l0_1 l0_2 0 0).bind fun t228 => (some (!t228))) else (some false))) else (some false))) else (some false))) else (some false)) = some r := H; have A10 := Aside0.mk A100; clear A100
    by_cases c11 : (t216.length : Int) = 0
    ·rw [if_pos c11] at H
     have c11b0 : ((t216.length : Int) == 0) = true := beq_iff_eq.mpr c11; have c11b1 : ((t216.length : Int) != 0) = false := bne_eq_false_iff_eq.mpr c11; clear c11; replace H := Option.bind_eq_some_iff.mp H; obtain ⟨t219, A120, H⟩ := H; replace H : (if (t219.length : Int) = 0 then ((flow_Order.f kj1 a0_0 l0_1 l0_2).bind fun t222 => (if (t222.length : Int) = 0 then ((flow_Loops.f kj1 a0_0 l0_1 l0_2).bind fun t225 => (if (t225.length : Int) = 0 then ((flow_Ahead.f kj1 a0_0 l0_1 l0_2 0 0).bind fun t228 => (some (!t228))) else (some false))) else (some false))) else (some false)) = some r := H; have A12 := Aside0.mk A120; clear A120
     by_cases c13 : (t219.length : Int) = 0
     ·rw [if_pos c13] at H
      have c13b0 : ((t219.length : Int) == 0) = true := beq_iff_eq.mpr c13; have c13b1 : ((t219.length : Int) != 0) = false := bne_eq_false_iff_eq.mpr c13; clear c13; replace H := Option.bind_eq_some_iff.mp H; obtain ⟨t222, A140, H⟩ := H; replace H : (if (t222.length : Int) = 0 then ((flow_Loops.f kj1 a0_0 l0_1 l0_2).bind fun t225 => (if (t225.length : Int) = 0 then ((flow_Ahead.f kj1 a0_0 l0_1 l0_2 0 0).bind fun t228 => (some (!t228))) else (some false))) else (some false)) = some r := H; have A14 := Aside0.mk A140; clear A140
      by_cases c15 : (t222.length : Int) = 0
      ·rw [if_pos c15] at H
       have c15b0 : ((t222.length : Int) == 0) = true := beq_iff_eq.mpr c15; have c15b1 : ((t222.length : Int) != 0) = false := bne_eq_false_iff_eq.mpr c15; clear c15; replace H := Option.bind_eq_some_iff.mp H; obtain ⟨t225, A160, H⟩ := H; replace H : (if (t225.length : Int) = 0 then ((flow_Ahead.f kj1 a0_0 l0_1 l0_2 0 0).bind fun t228 => (some (!t228))) else (some false)) = some r := H; have A16 := Aside0.mk A160; clear A160
       by_cases c17 : (t225.length : Int) = 0
       ·rw [if_pos c17] at H
        have c17b0 : ((t225.length : Int) == 0) = true := beq_iff_eq.mpr c17; have c17b1 : ((t225.length : Int) != 0) = false := bne_eq_false_iff_eq.mpr c17; clear c17; replace H := Option.bind_eq_some_iff.mp H; obtain ⟨t228, A180, H⟩ := H; replace H : (some (!t228)) = some r := H; have A18 := Aside0.mk A180; clear A180; obtain rfl := Option.some.inj H; obtain ⟨hcz19_0, hcz19_1, hcz19_2⟩ := bC3 BK214.out; obtain ⟨hfz19_0, hfz19_1, hfz19_2⟩ := bF3 BK214.out
        go_wp2_with (first | ((with_reducible refine gate_callee (f := 22) rfl ?_); refine goesL_ (some 12) rfl rfl Tryd.func22 (by kernel_rfl) rfl #[.agg #[.int .i64 a0_0, .slice A0_1 l0_1.length c0_1, .slice A0_2 l0_2.length c0_2]] rfl z18_3 ?_; (with_reducible refine (flow_Before.calls kj1 a0_0 _ _ l0_1 _ _ l0_2 t216 _ ?side1 ?side2 ?side3 ?side4 ?side5 A10.out).mono ?_); (case side1 => repeat (first | exact (Kd.C_below HR0_1.out HB.out) | (with_reducible refine Kd.C_alloc ?_ _) | (with_reducible refine Kd.C_drewN ?_ _) | (with_reducible refine Kd.C_drew ?_))); (case side2 => exact HC0_1.out); (case side3 => repeat (first | exact (Kd.C_below HR0_2.out HB.out) | (with_reducible refine Kd.C_alloc ?_ _) | (with_reducible refine Kd.C_drewN ?_ _) | (with_reducible refine Kd.C_drew ?_))); (case side4 => exact HC0_2.out); (case side5 => first | exact HG.out | ((repeat (first | exact (OpsLaid.below HG.out (Nat.le_refl _) HB.out) | exact HG.out | (with_reducible refine OpsLaid.alloc ?_ _) | (with_reducible refine OpsLaid.drewN ?_ _) | (with_reducible refine OpsLaid.drew ?_))); done) | exact OpsLaid.below HG.out (Nat.le_refl _) z18_0); rintro e w20 ⟨v217, rfl, ho0, hb⟩; refine ⟨_, rfl, ?_⟩; have n0_ := Aside0.mk (Kd.S_lower ho0 (below_size z18_0)); have n1_ := Aside0.mk (blk_below (g := gb214) (o := .cells #[.int .i64 a0_0, .slice A0_1 l0_1.length c0_1, .slice A0_2 l0_2.length c0_2] 25 (0, 0)) z18_1 hb); have n2_ := Aside0.mk (below_step z18_0 hb); clear BK214 HB; revert n0_ n1_ n2_; intro HO218 BK214 HB; (try clear hb); (try clear hb2); (try clear hk); (try clear hi); (try clear ho0); obtain ⟨Ao21, co21, eo21⟩ := Kd.S_slice HO218.out; subst eo21; have hcz22_0 : w20.cell? ⟨gb214, 0, none⟩ = some (.int .i64 a0_0) := (blk_cell BK214.out 0).trans rfl; have hcz22_1 : w20.cell? ⟨gb214, 1, none⟩ = some (.slice A0_1 l0_1.length c0_1) := (blk_cell BK214.out 1).trans rfl; have hcz22_2 : w20.cell? ⟨gb214, 2, none⟩ = some (.slice A0_2 l0_2.length c0_2) := (blk_cell BK214.out 2).trans rfl; have hfz22_0 := blk_frozen BK214.out 0; have hfz22_1 := blk_frozen BK214.out 1; have hfz22_2 := blk_frozen BK214.out 2) | (go_at_call 20; (with_reducible refine (flow_Reached.calls kj1 a0_0 _ _ l0_1 _ _ l0_2 t219 _ ?side1 ?side2 ?side3 ?side4 ?side5 A12.out).mono ?_); (case side1 => repeat (first | exact (Kd.C_below HR0_1.out HB.out) | (with_reducible refine Kd.C_alloc ?_ _) | (with_reducible refine Kd.C_drewN ?_ _) | (with_reducible refine Kd.C_drew ?_))); (case side2 => exact HC0_1.out); (case side3 => repeat (first | exact (Kd.C_below HR0_2.out HB.out) | (with_reducible refine Kd.C_alloc ?_ _) | (with_reducible refine Kd.C_drewN ?_ _) | (with_reducible refine Kd.C_drew ?_))); (case side4 => exact HC0_2.out); (case side5 => first | exact HG.out | ((repeat (first | exact (OpsLaid.below HG.out (Nat.le_refl _) HB.out) | exact HG.out | (with_reducible refine OpsLaid.alloc ?_ _) | (with_reducible refine OpsLaid.drewN ?_ _) | (with_reducible refine OpsLaid.drew ?_))); done) | exact OpsLaid.below HG.out (Nat.le_refl _) z18_0); rintro e w23 ⟨v220, rfl, ho0, hb⟩; have n0_ := Aside0.mk (Kd.S_below z18_2 hb); have n1_ := Aside0.mk (Kd.R_lower ho0 (below_size z18_0)); have n2_ := Aside0.mk (blk_below (g := gb214) (o := .cells #[.int .i64 a0_0, .slice A0_1 l0_1.length c0_1, .slice A0_2 l0_2.length c0_2] 25 (0, 0)) z18_1 hb); have n3_ := Aside0.mk (below_step z18_0 hb); clear HO218 BK214 HB; revert n0_ n1_ n2_ n3_; intro HO218 HO221 BK214 HB; (try clear hb); (try clear hb2); (try clear hk); (try clear hi); (try clear ho0); obtain ⟨Ao24, co24, eo24⟩ := Kd.R_slice HO221.out; subst eo24; have hcz25_0 : w23.cell? ⟨gb214, 0, none⟩ = some (.int .i64 a0_0) := (blk_cell BK214.out 0).trans rfl; have hcz25_1 : w23.cell? ⟨gb214, 1, none⟩ = some (.slice A0_1 l0_1.length c0_1) := (blk_cell BK214.out 1).trans rfl; have hcz25_2 : w23.cell? ⟨gb214, 2, none⟩ = some (.slice A0_2 l0_2.length c0_2) := (blk_cell BK214.out 2).trans rfl; have hfz25_0 := blk_frozen BK214.out 0; have hfz25_1 := blk_frozen BK214.out 1; have hfz25_2 := blk_frozen BK214.out 2) | (go_at_call 26; (with_reducible refine (flow_Order.calls kj1 a0_0 _ _ l0_1 _ _ l0_2 t222 _ ?side1 ?side2 ?side3 ?side4 ?side5 A14.out).mono ?_); (case side1 => repeat (first | exact (Kd.C_below HR0_1.out HB.out) | (with_reducible refine Kd.C_alloc ?_ _) | (with_reducible refine Kd.C_drewN ?_ _) | (with_reducible refine Kd.C_drew ?_))); (case side2 => exact HC0_1.out); (case side3 => repeat (first | exact (Kd.C_below HR0_2.out HB.out) | (with_reducible refine Kd.C_alloc ?_ _) | (with_reducible refine Kd.C_drewN ?_ _) | (with_reducible refine Kd.C_drew ?_))); (case side4 => exact HC0_2.out); (case side5 => first | exact HG.out | ((repeat (first | exact (OpsLaid.below HG.out (Nat.le_refl _) HB.out) | exact HG.out | (with_reducible refine OpsLaid.alloc ?_ _) | (with_reducible refine OpsLaid.drewN ?_ _) | (with_reducible refine OpsLaid.drew ?_))); done) | exact OpsLaid.below HG.out (Nat.le_refl _) z18_0); rintro e w26 ⟨v223, rfl, ho0, hb⟩; have n0_ := Aside0.mk (Kd.S_elder' z18_2 (Kd.R_base ho0) hb); have n1_ := Aside0.mk (Kd.R_below z18_4 hb); have n2_ := Aside0.mk (Kd.R_lower ho0 (below_size z18_0)); have n3_ := Aside0.mk (blk_below (g := gb214) (o := .cells #[.int .i64 a0_0, .slice A0_1 l0_1.length c0_1, .slice A0_2 l0_2.length c0_2] 25 (0, 0)) z18_1 hb); have n4_ := Aside0.mk (below_step z18_0 hb); clear HO218 HO221 BK214 HB; revert n0_ n1_ n2_ n3_ n4_; intro HO218 HO221 HO224 BK214 HB; (try clear hb); (try clear hb2); (try clear hk); (try clear hi); (try clear ho0); obtain ⟨Ao27, co27, eo27⟩ := Kd.R_slice HO224.out; subst eo27; have hcz28_0 : w26.cell? ⟨gb214, 0, none⟩ = some (.int .i64 a0_0) := (blk_cell BK214.out 0).trans rfl; have hcz28_1 : w26.cell? ⟨gb214, 1, none⟩ = some (.slice A0_1 l0_1.length c0_1) := (blk_cell BK214.out 1).trans rfl; have hcz28_2 : w26.cell? ⟨gb214, 2, none⟩ = some (.slice A0_2 l0_2.length c0_2) := (blk_cell BK214.out 2).trans rfl; have hfz28_0 := blk_frozen BK214.out 0; have hfz28_1 := blk_frozen BK214.out 1; have hfz28_2 := blk_frozen BK214.out 2) | (go_at_call 31; (with_reducible refine (flow_Loops.calls kj1 a0_0 _ _ l0_1 _ _ l0_2 t225 _ ?side1 ?side2 ?side3 ?side4 ?side5 A16.out).mono ?_); (case side1 => repeat (first | exact (Kd.C_below HR0_1.out HB.out) | (with_reducible refine Kd.C_alloc ?_ _) | (with_reducible refine Kd.C_drewN ?_ _) | (with_reducible refine Kd.C_drew ?_))); (case side2 => exact HC0_1.out); (case side3 => repeat (first | exact (Kd.C_below HR0_2.out HB.out) | (with_reducible refine Kd.C_alloc ?_ _) | (with_reducible refine Kd.C_drewN ?_ _) | (with_reducible refine Kd.C_drew ?_))); (case side4 => exact HC0_2.out); (case side5 => first | exact HG.out | ((repeat (first | exact (OpsLaid.below HG.out (Nat.le_refl _) HB.out) | exact HG.out | (with_reducible refine OpsLaid.alloc ?_ _) | (with_reducible refine OpsLaid.drewN ?_ _) | (with_reducible refine OpsLaid.drew ?_))); done) | exact OpsLaid.below HG.out (Nat.le_refl _) z18_0); rintro e w29 ⟨v226, rfl, ho0, hb⟩; have n0_ := Aside0.mk (Kd.S_below z18_2 hb); have n1_ := Aside0.mk (Kd.R_below z18_4 hb); have n2_ := Aside0.mk (Kd.R_below z18_5 hb); have n3_ := Aside0.mk (Kd.S_lower (Kd.S_new' ho0 (Kd.R_lt z18_5)) (below_size z18_0)); have n4_ := Aside0.mk (blk_below (g := gb214) (o := .cells #[.int .i64 a0_0, .slice A0_1 l0_1.length c0_1, .slice A0_2 l0_2.length c0_2] 25 (0, 0)) z18_1 hb); have n5_ := Aside0.mk (below_step z18_0 hb); clear HO218 HO221 HO224 BK214 HB; revert n0_ n1_ n2_ n3_ n4_ n5_; intro HO218 HO221 HO224 HO227 BK214 HB; (try clear hb); (try clear hb2); (try clear hk); (try clear hi); (try clear ho0); obtain ⟨Ao30, co30, eo30⟩ := Kd.S_slice HO227.out; subst eo30; have hcz31_0 : w29.cell? ⟨gb214, 0, none⟩ = some (.int .i64 a0_0) := (blk_cell BK214.out 0).trans rfl; have hcz31_1 : w29.cell? ⟨gb214, 1, none⟩ = some (.slice A0_1 l0_1.length c0_1) := (blk_cell BK214.out 1).trans rfl; have hcz31_2 : w29.cell? ⟨gb214, 2, none⟩ = some (.slice A0_2 l0_2.length c0_2) := (blk_cell BK214.out 2).trans rfl; have hfz31_0 := blk_frozen BK214.out 0; have hfz31_1 := blk_frozen BK214.out 1; have hfz31_2 := blk_frozen BK214.out 2) | (go_at_call 23; (with_reducible refine (flow_Ahead.calls kj1 a0_0 _ _ l0_1 _ _ l0_2 0 0 t228 _ ?side1 ?side2 ?side3 ?side4 ?side5 A18.out).mono ?_); (case side1 => repeat (first | exact (Kd.C_below HR0_1.out HB.out) | (with_reducible refine Kd.C_alloc ?_ _) | (with_reducible refine Kd.C_drewN ?_ _) | (with_reducible refine Kd.C_drew ?_))); (case side2 => exact HC0_1.out); (case side3 => repeat (first | exact (Kd.C_below HR0_2.out HB.out) | (with_reducible refine Kd.C_alloc ?_ _) | (with_reducible refine Kd.C_drewN ?_ _) | (with_reducible refine Kd.C_drew ?_))); (case side4 => exact HC0_2.out); (case side5 => first | exact HG.out | ((repeat (first | exact (OpsLaid.below HG.out (Nat.le_refl _) HB.out) | exact HG.out | (with_reducible refine OpsLaid.alloc ?_ _) | (with_reducible refine OpsLaid.drewN ?_ _) | (with_reducible refine OpsLaid.drew ?_))); done) | exact OpsLaid.below HG.out (Nat.le_refl _) z18_0); rintro e w32 ⟨rfl, hb⟩; have n0_ := Aside0.mk (Kd.S_below z18_2 hb); have n1_ := Aside0.mk (Kd.R_below z18_4 hb); have n2_ := Aside0.mk (Kd.R_below z18_5 hb); have n3_ := Aside0.mk (Kd.S_below (by (with_reducible repeat (first | apply Kd.S_alloc | apply Kd.S_drewN | apply Kd.S_drew)); exact HO227.out) hb); have n4_ := Aside0.mk (blk_below (g := gb214) (o := .cells #[.int .i64 a0_0, .slice A0_1 l0_1.length c0_1, .slice A0_2 l0_2.length c0_2] 25 (0, 0)) z18_1 hb); have n5_ := Aside0.mk (below_step z18_0 hb); clear HO218 HO221 HO224 HO227 BK214 HB; revert n0_ n1_ n2_ n3_ n4_ n5_; intro HO218 HO221 HO224 HO227 BK214 HB; (try clear hb); (try clear hb2); (try clear hk); (try clear hi)))
        go_ret
        exact ⟨by first | rfl | (simp [errW_none, errW_some] <;> rfl) | (simp [*, errW_none, errW_some] <;> rfl), by repeat (first | (with_reducible first | exact HB.out | apply below_alloc | apply pw_below_drewN | apply below_drew1 | refine below_set ?_ GE214.out) | exact HB.out)⟩
       ·rw [if_neg c17] at H
        have c17b0 : ((t225.length : Int) == 0) = false := beq_eq_false_iff_ne.mpr c17; have c17b1 : ((t225.length : Int) != 0) = true := bne_iff_ne.mpr c17
        have c17b2 : ¬ (t225 = []) := fun h_ => c17 (by rw [h_]; rfl)
        obtain rfl := Option.some.inj H; obtain ⟨hcz33_0, hcz33_1, hcz33_2⟩ := bC3 BK214.out; obtain ⟨hfz33_0, hfz33_1, hfz33_2⟩ := bF3 BK214.out
        go_wp2_with (first | ((with_reducible refine gate_callee (f := 22) rfl ?_); refine goesL_ (some 12) rfl rfl Tryd.func22 (by kernel_rfl) rfl #[.agg #[.int .i64 a0_0, .slice A0_1 l0_1.length c0_1, .slice A0_2 l0_2.length c0_2]] rfl z18_3 ?_; (with_reducible refine (flow_Before.calls kj1 a0_0 _ _ l0_1 _ _ l0_2 t216 _ ?side1 ?side2 ?side3 ?side4 ?side5 A10.out).mono ?_); (case side1 => repeat (first | exact (Kd.C_below HR0_1.out HB.out) | (with_reducible refine Kd.C_alloc ?_ _) | (with_reducible refine Kd.C_drewN ?_ _) | (with_reducible refine Kd.C_drew ?_))); (case side2 => exact HC0_1.out); (case side3 => repeat (first | exact (Kd.C_below HR0_2.out HB.out) | (with_reducible refine Kd.C_alloc ?_ _) | (with_reducible refine Kd.C_drewN ?_ _) | (with_reducible refine Kd.C_drew ?_))); (case side4 => exact HC0_2.out); (case side5 => first | exact HG.out | ((repeat (first | exact (OpsLaid.below HG.out (Nat.le_refl _) HB.out) | exact HG.out | (with_reducible refine OpsLaid.alloc ?_ _) | (with_reducible refine OpsLaid.drewN ?_ _) | (with_reducible refine OpsLaid.drew ?_))); done) | exact OpsLaid.below HG.out (Nat.le_refl _) z18_0); rintro e w34 ⟨v217, rfl, ho0, hb⟩; refine ⟨_, rfl, ?_⟩; have n0_ := Aside0.mk (Kd.S_lower ho0 (below_size z18_0)); have n1_ := Aside0.mk (blk_below (g := gb214) (o := .cells #[.int .i64 a0_0, .slice A0_1 l0_1.length c0_1, .slice A0_2 l0_2.length c0_2] 25 (0, 0)) z18_1 hb); have n2_ := Aside0.mk (below_step z18_0 hb); clear BK214 HB; revert n0_ n1_ n2_; intro HO218 BK214 HB; (try clear hb); (try clear hb2); (try clear hk); (try clear hi); (try clear ho0); obtain ⟨Ao35, co35, eo35⟩ := Kd.S_slice HO218.out; subst eo35; have hcz36_0 : w34.cell? ⟨gb214, 0, none⟩ = some (.int .i64 a0_0) := (blk_cell BK214.out 0).trans rfl; have hcz36_1 : w34.cell? ⟨gb214, 1, none⟩ = some (.slice A0_1 l0_1.length c0_1) := (blk_cell BK214.out 1).trans rfl; have hcz36_2 : w34.cell? ⟨gb214, 2, none⟩ = some (.slice A0_2 l0_2.length c0_2) := (blk_cell BK214.out 2).trans rfl; have hfz36_0 := blk_frozen BK214.out 0; have hfz36_1 := blk_frozen BK214.out 1; have hfz36_2 := blk_frozen BK214.out 2) | (go_at_call 20; (with_reducible refine (flow_Reached.calls kj1 a0_0 _ _ l0_1 _ _ l0_2 t219 _ ?side1 ?side2 ?side3 ?side4 ?side5 A12.out).mono ?_); (case side1 => repeat (first | exact (Kd.C_below HR0_1.out HB.out) | (with_reducible refine Kd.C_alloc ?_ _) | (with_reducible refine Kd.C_drewN ?_ _) | (with_reducible refine Kd.C_drew ?_))); (case side2 => exact HC0_1.out); (case side3 => repeat (first | exact (Kd.C_below HR0_2.out HB.out) | (with_reducible refine Kd.C_alloc ?_ _) | (with_reducible refine Kd.C_drewN ?_ _) | (with_reducible refine Kd.C_drew ?_))); (case side4 => exact HC0_2.out); (case side5 => first | exact HG.out | ((repeat (first | exact (OpsLaid.below HG.out (Nat.le_refl _) HB.out) | exact HG.out | (with_reducible refine OpsLaid.alloc ?_ _) | (with_reducible refine OpsLaid.drewN ?_ _) | (with_reducible refine OpsLaid.drew ?_))); done) | exact OpsLaid.below HG.out (Nat.le_refl _) z18_0); rintro e w37 ⟨v220, rfl, ho0, hb⟩; have n0_ := Aside0.mk (Kd.S_below z18_2 hb); have n1_ := Aside0.mk (Kd.R_lower ho0 (below_size z18_0)); have n2_ := Aside0.mk (blk_below (g := gb214) (o := .cells #[.int .i64 a0_0, .slice A0_1 l0_1.length c0_1, .slice A0_2 l0_2.length c0_2] 25 (0, 0)) z18_1 hb); have n3_ := Aside0.mk (below_step z18_0 hb); clear HO218 BK214 HB; revert n0_ n1_ n2_ n3_; intro HO218 HO221 BK214 HB; (try clear hb); (try clear hb2); (try clear hk); (try clear hi); (try clear ho0); obtain ⟨Ao38, co38, eo38⟩ := Kd.R_slice HO221.out; subst eo38; have hcz39_0 : w37.cell? ⟨gb214, 0, none⟩ = some (.int .i64 a0_0) := (blk_cell BK214.out 0).trans rfl; have hcz39_1 : w37.cell? ⟨gb214, 1, none⟩ = some (.slice A0_1 l0_1.length c0_1) := (blk_cell BK214.out 1).trans rfl; have hcz39_2 : w37.cell? ⟨gb214, 2, none⟩ = some (.slice A0_2 l0_2.length c0_2) := (blk_cell BK214.out 2).trans rfl; have hfz39_0 := blk_frozen BK214.out 0; have hfz39_1 := blk_frozen BK214.out 1; have hfz39_2 := blk_frozen BK214.out 2) | (go_at_call 26; (with_reducible refine (flow_Order.calls kj1 a0_0 _ _ l0_1 _ _ l0_2 t222 _ ?side1 ?side2 ?side3 ?side4 ?side5 A14.out).mono ?_); (case side1 => repeat (first | exact (Kd.C_below HR0_1.out HB.out) | (with_reducible refine Kd.C_alloc ?_ _) | (with_reducible refine Kd.C_drewN ?_ _) | (with_reducible refine Kd.C_drew ?_))); (case side2 => exact HC0_1.out); (case side3 => repeat (first | exact (Kd.C_below HR0_2.out HB.out) | (with_reducible refine Kd.C_alloc ?_ _) | (with_reducible refine Kd.C_drewN ?_ _) | (with_reducible refine Kd.C_drew ?_))); (case side4 => exact HC0_2.out); (case side5 => first | exact HG.out | ((repeat (first | exact (OpsLaid.below HG.out (Nat.le_refl _) HB.out) | exact HG.out | (with_reducible refine OpsLaid.alloc ?_ _) | (with_reducible refine OpsLaid.drewN ?_ _) | (with_reducible refine OpsLaid.drew ?_))); done) | exact OpsLaid.below HG.out (Nat.le_refl _) z18_0); rintro e w40 ⟨v223, rfl, ho0, hb⟩; have n0_ := Aside0.mk (Kd.S_elder' z18_2 (Kd.R_base ho0) hb); have n1_ := Aside0.mk (Kd.R_below z18_4 hb); have n2_ := Aside0.mk (Kd.R_lower ho0 (below_size z18_0)); have n3_ := Aside0.mk (blk_below (g := gb214) (o := .cells #[.int .i64 a0_0, .slice A0_1 l0_1.length c0_1, .slice A0_2 l0_2.length c0_2] 25 (0, 0)) z18_1 hb); have n4_ := Aside0.mk (below_step z18_0 hb); clear HO218 HO221 BK214 HB; revert n0_ n1_ n2_ n3_ n4_; intro HO218 HO221 HO224 BK214 HB; (try clear hb); (try clear hb2); (try clear hk); (try clear hi); (try clear ho0); obtain ⟨Ao41, co41, eo41⟩ := Kd.R_slice HO224.out; subst eo41; have hcz42_0 : w40.cell? ⟨gb214, 0, none⟩ = some (.int .i64 a0_0) := (blk_cell BK214.out 0).trans rfl; have hcz42_1 : w40.cell? ⟨gb214, 1, none⟩ = some (.slice A0_1 l0_1.length c0_1) := (blk_cell BK214.out 1).trans rfl; have hcz42_2 : w40.cell? ⟨gb214, 2, none⟩ = some (.slice A0_2 l0_2.length c0_2) := (blk_cell BK214.out 2).trans rfl; have hfz42_0 := blk_frozen BK214.out 0; have hfz42_1 := blk_frozen BK214.out 1; have hfz42_2 := blk_frozen BK214.out 2) | (go_at_call 31; (with_reducible refine (flow_Loops.calls kj1 a0_0 _ _ l0_1 _ _ l0_2 t225 _ ?side1 ?side2 ?side3 ?side4 ?side5 A16.out).mono ?_); (case side1 => repeat (first | exact (Kd.C_below HR0_1.out HB.out) | (with_reducible refine Kd.C_alloc ?_ _) | (with_reducible refine Kd.C_drewN ?_ _) | (with_reducible refine Kd.C_drew ?_))); (case side2 => exact HC0_1.out); (case side3 => repeat (first | exact (Kd.C_below HR0_2.out HB.out) | (with_reducible refine Kd.C_alloc ?_ _) | (with_reducible refine Kd.C_drewN ?_ _) | (with_reducible refine Kd.C_drew ?_))); (case side4 => exact HC0_2.out); (case side5 => first | exact HG.out | ((repeat (first | exact (OpsLaid.below HG.out (Nat.le_refl _) HB.out) | exact HG.out | (with_reducible refine OpsLaid.alloc ?_ _) | (with_reducible refine OpsLaid.drewN ?_ _) | (with_reducible refine OpsLaid.drew ?_))); done) | exact OpsLaid.below HG.out (Nat.le_refl _) z18_0); rintro e w43 ⟨v226, rfl, ho0, hb⟩; have n0_ := Aside0.mk (Kd.S_below z18_2 hb); have n1_ := Aside0.mk (Kd.R_below z18_4 hb); have n2_ := Aside0.mk (Kd.R_below z18_5 hb); have n3_ := Aside0.mk (Kd.S_lower (Kd.S_new' ho0 (Kd.R_lt z18_5)) (below_size z18_0)); have n4_ := Aside0.mk (blk_below (g := gb214) (o := .cells #[.int .i64 a0_0, .slice A0_1 l0_1.length c0_1, .slice A0_2 l0_2.length c0_2] 25 (0, 0)) z18_1 hb); have n5_ := Aside0.mk (below_step z18_0 hb); clear HO218 HO221 HO224 BK214 HB; revert n0_ n1_ n2_ n3_ n4_ n5_; intro HO218 HO221 HO224 HO227 BK214 HB; (try clear hb); (try clear hb2); (try clear hk); (try clear hi); (try clear ho0); obtain ⟨Ao44, co44, eo44⟩ := Kd.S_slice HO227.out; subst eo44))
        go_ret
        exact ⟨by first | rfl | (simp [errW_none, errW_some] <;> rfl) | (simp [*, errW_none, errW_some] <;> rfl), by repeat (first | (with_reducible first | exact HB.out | apply below_alloc | apply pw_below_drewN | apply below_drew1 | refine below_set ?_ GE214.out) | exact HB.out)⟩
      ·rw [if_neg c15] at H
       have c15b0 : ((t222.length : Int) == 0) = false := beq_eq_false_iff_ne.mpr c15; have c15b1 : ((t222.length : Int) != 0) = true := bne_iff_ne.mpr c15
       have c15b2 : ¬ (t222 = []) := fun h_ => c15 (by rw [h_]; rfl)
       obtain rfl := Option.some.inj H; obtain ⟨hcz45_0, hcz45_1, hcz45_2⟩ := bC3 BK214.out; obtain ⟨hfz45_0, hfz45_1, hfz45_2⟩ := bF3 BK214.out
       go_wp2_with (first | ((with_reducible refine gate_callee (f := 22) rfl ?_); refine goesL_ (some 12) rfl rfl Tryd.func22 (by kernel_rfl) rfl #[.agg #[.int .i64 a0_0, .slice A0_1 l0_1.length c0_1, .slice A0_2 l0_2.length c0_2]] rfl z18_3 ?_; (with_reducible refine (flow_Before.calls kj1 a0_0 _ _ l0_1 _ _ l0_2 t216 _ ?side1 ?side2 ?side3 ?side4 ?side5 A10.out).mono ?_); (case side1 => repeat (first | exact (Kd.C_below HR0_1.out HB.out) | (with_reducible refine Kd.C_alloc ?_ _) | (with_reducible refine Kd.C_drewN ?_ _) | (with_reducible refine Kd.C_drew ?_))); (case side2 => exact HC0_1.out); (case side3 => repeat (first | exact (Kd.C_below HR0_2.out HB.out) | (with_reducible refine Kd.C_alloc ?_ _) | (with_reducible refine Kd.C_drewN ?_ _) | (with_reducible refine Kd.C_drew ?_))); (case side4 => exact HC0_2.out); (case side5 => first | exact HG.out | ((repeat (first | exact (OpsLaid.below HG.out (Nat.le_refl _) HB.out) | exact HG.out | (with_reducible refine OpsLaid.alloc ?_ _) | (with_reducible refine OpsLaid.drewN ?_ _) | (with_reducible refine OpsLaid.drew ?_))); done) | exact OpsLaid.below HG.out (Nat.le_refl _) z18_0); rintro e w46 ⟨v217, rfl, ho0, hb⟩; refine ⟨_, rfl, ?_⟩; have n0_ := Aside0.mk (Kd.S_lower ho0 (below_size z18_0)); have n1_ := Aside0.mk (blk_below (g := gb214) (o := .cells #[.int .i64 a0_0, .slice A0_1 l0_1.length c0_1, .slice A0_2 l0_2.length c0_2] 25 (0, 0)) z18_1 hb); have n2_ := Aside0.mk (below_step z18_0 hb); clear BK214 HB; revert n0_ n1_ n2_; intro HO218 BK214 HB; (try clear hb); (try clear hb2); (try clear hk); (try clear hi); (try clear ho0); obtain ⟨Ao47, co47, eo47⟩ := Kd.S_slice HO218.out; subst eo47; have hcz48_0 : w46.cell? ⟨gb214, 0, none⟩ = some (.int .i64 a0_0) := (blk_cell BK214.out 0).trans rfl; have hcz48_1 : w46.cell? ⟨gb214, 1, none⟩ = some (.slice A0_1 l0_1.length c0_1) := (blk_cell BK214.out 1).trans rfl; have hcz48_2 : w46.cell? ⟨gb214, 2, none⟩ = some (.slice A0_2 l0_2.length c0_2) := (blk_cell BK214.out 2).trans rfl; have hfz48_0 := blk_frozen BK214.out 0; have hfz48_1 := blk_frozen BK214.out 1; have hfz48_2 := blk_frozen BK214.out 2) | (go_at_call 20; (with_reducible refine (flow_Reached.calls kj1 a0_0 _ _ l0_1 _ _ l0_2 t219 _ ?side1 ?side2 ?side3 ?side4 ?side5 A12.out).mono ?_); (case side1 => repeat (first | exact (Kd.C_below HR0_1.out HB.out) | (with_reducible refine Kd.C_alloc ?_ _) | (with_reducible refine Kd.C_drewN ?_ _) | (with_reducible refine Kd.C_drew ?_))); (case side2 => exact HC0_1.out); (case side3 => repeat (first | exact (Kd.C_below HR0_2.out HB.out) | (with_reducible refine Kd.C_alloc ?_ _) | (with_reducible refine Kd.C_drewN ?_ _) | (with_reducible refine Kd.C_drew ?_))); (case side4 => exact HC0_2.out); (case side5 => first | exact HG.out | ((repeat (first | exact (OpsLaid.below HG.out (Nat.le_refl _) HB.out) | exact HG.out | (with_reducible refine OpsLaid.alloc ?_ _) | (with_reducible refine OpsLaid.drewN ?_ _) | (with_reducible refine OpsLaid.drew ?_))); done) | exact OpsLaid.below HG.out (Nat.le_refl _) z18_0); rintro e w49 ⟨v220, rfl, ho0, hb⟩; have n0_ := Aside0.mk (Kd.S_below z18_2 hb); have n1_ := Aside0.mk (Kd.R_lower ho0 (below_size z18_0)); have n2_ := Aside0.mk (blk_below (g := gb214) (o := .cells #[.int .i64 a0_0, .slice A0_1 l0_1.length c0_1, .slice A0_2 l0_2.length c0_2] 25 (0, 0)) z18_1 hb); have n3_ := Aside0.mk (below_step z18_0 hb); clear HO218 BK214 HB; revert n0_ n1_ n2_ n3_; intro HO218 HO221 BK214 HB; (try clear hb); (try clear hb2); (try clear hk); (try clear hi); (try clear ho0); obtain ⟨Ao50, co50, eo50⟩ := Kd.R_slice HO221.out; subst eo50; have hcz51_0 : w49.cell? ⟨gb214, 0, none⟩ = some (.int .i64 a0_0) := (blk_cell BK214.out 0).trans rfl; have hcz51_1 : w49.cell? ⟨gb214, 1, none⟩ = some (.slice A0_1 l0_1.length c0_1) := (blk_cell BK214.out 1).trans rfl; have hcz51_2 : w49.cell? ⟨gb214, 2, none⟩ = some (.slice A0_2 l0_2.length c0_2) := (blk_cell BK214.out 2).trans rfl; have hfz51_0 := blk_frozen BK214.out 0; have hfz51_1 := blk_frozen BK214.out 1; have hfz51_2 := blk_frozen BK214.out 2) | (go_at_call 26; (with_reducible refine (flow_Order.calls kj1 a0_0 _ _ l0_1 _ _ l0_2 t222 _ ?side1 ?side2 ?side3 ?side4 ?side5 A14.out).mono ?_); (case side1 => repeat (first | exact (Kd.C_below HR0_1.out HB.out) | (with_reducible refine Kd.C_alloc ?_ _) | (with_reducible refine Kd.C_drewN ?_ _) | (with_reducible refine Kd.C_drew ?_))); (case side2 => exact HC0_1.out); (case side3 => repeat (first | exact (Kd.C_below HR0_2.out HB.out) | (with_reducible refine Kd.C_alloc ?_ _) | (with_reducible refine Kd.C_drewN ?_ _) | (with_reducible refine Kd.C_drew ?_))); (case side4 => exact HC0_2.out); (case side5 => first | exact HG.out | ((repeat (first | exact (OpsLaid.below HG.out (Nat.le_refl _) HB.out) | exact HG.out | (with_reducible refine OpsLaid.alloc ?_ _) | (with_reducible refine OpsLaid.drewN ?_ _) | (with_reducible refine OpsLaid.drew ?_))); done) | exact OpsLaid.below HG.out (Nat.le_refl _) z18_0); rintro e w52 ⟨v223, rfl, ho0, hb⟩; have n0_ := Aside0.mk (Kd.S_elder' z18_2 (Kd.R_base ho0) hb); have n1_ := Aside0.mk (Kd.R_below z18_4 hb); have n2_ := Aside0.mk (Kd.R_lower ho0 (below_size z18_0)); have n3_ := Aside0.mk (blk_below (g := gb214) (o := .cells #[.int .i64 a0_0, .slice A0_1 l0_1.length c0_1, .slice A0_2 l0_2.length c0_2] 25 (0, 0)) z18_1 hb); have n4_ := Aside0.mk (below_step z18_0 hb); clear HO218 HO221 BK214 HB; revert n0_ n1_ n2_ n3_ n4_; intro HO218 HO221 HO224 BK214 HB; (try clear hb); (try clear hb2); (try clear hk); (try clear hi); (try clear ho0); obtain ⟨Ao53, co53, eo53⟩ := Kd.R_slice HO224.out; subst eo53))
       go_ret
       exact ⟨by first | rfl | (simp [errW_none, errW_some] <;> rfl) | (simp [*, errW_none, errW_some] <;> rfl), by repeat (first | (with_reducible first | exact HB.out | apply below_alloc | apply pw_below_drewN | apply below_drew1 | refine below_set ?_ GE214.out) | exact HB.out)⟩
     ·rw [if_neg c13] at H
      have c13b0 : ((t219.length : Int) == 0) = false := beq_eq_false_iff_ne.mpr c13; have c13b1 : ((t219.length : Int) != 0) = true := bne_iff_ne.mpr c13
      have c13b2 : ¬ (t219 = []) := fun h_ => c13 (by rw [h_]; rfl)
      obtain rfl := Option.some.inj H; obtain ⟨hcz54_0, hcz54_1, hcz54_2⟩ := bC3 BK214.out; obtain ⟨hfz54_0, hfz54_1, hfz54_2⟩ := bF3 BK214.out
      go_wp2_with (first | ((with_reducible refine gate_callee (f := 22) rfl ?_); refine goesL_ (some 12) rfl rfl Tryd.func22 (by kernel_rfl) rfl #[.agg #[.int .i64 a0_0, .slice A0_1 l0_1.length c0_1, .slice A0_2 l0_2.length c0_2]] rfl z18_3 ?_; (with_reducible refine (flow_Before.calls kj1 a0_0 _ _ l0_1 _ _ l0_2 t216 _ ?side1 ?side2 ?side3 ?side4 ?side5 A10.out).mono ?_); (case side1 => repeat (first | exact (Kd.C_below HR0_1.out HB.out) | (with_reducible refine Kd.C_alloc ?_ _) | (with_reducible refine Kd.C_drewN ?_ _) | (with_reducible refine Kd.C_drew ?_))); (case side2 => exact HC0_1.out); (case side3 => repeat (first | exact (Kd.C_below HR0_2.out HB.out) | (with_reducible refine Kd.C_alloc ?_ _) | (with_reducible refine Kd.C_drewN ?_ _) | (with_reducible refine Kd.C_drew ?_))); (case side4 => exact HC0_2.out); (case side5 => first | exact HG.out | ((repeat (first | exact (OpsLaid.below HG.out (Nat.le_refl _) HB.out) | exact HG.out | (with_reducible refine OpsLaid.alloc ?_ _) | (with_reducible refine OpsLaid.drewN ?_ _) | (with_reducible refine OpsLaid.drew ?_))); done) | exact OpsLaid.below HG.out (Nat.le_refl _) z18_0); rintro e w55 ⟨v217, rfl, ho0, hb⟩; refine ⟨_, rfl, ?_⟩; have n0_ := Aside0.mk (Kd.S_lower ho0 (below_size z18_0)); have n1_ := Aside0.mk (blk_below (g := gb214) (o := .cells #[.int .i64 a0_0, .slice A0_1 l0_1.length c0_1, .slice A0_2 l0_2.length c0_2] 25 (0, 0)) z18_1 hb); have n2_ := Aside0.mk (below_step z18_0 hb); clear BK214 HB; revert n0_ n1_ n2_; intro HO218 BK214 HB; (try clear hb); (try clear hb2); (try clear hk); (try clear hi); (try clear ho0); obtain ⟨Ao56, co56, eo56⟩ := Kd.S_slice HO218.out; subst eo56; have hcz57_0 : w55.cell? ⟨gb214, 0, none⟩ = some (.int .i64 a0_0) := (blk_cell BK214.out 0).trans rfl; have hcz57_1 : w55.cell? ⟨gb214, 1, none⟩ = some (.slice A0_1 l0_1.length c0_1) := (blk_cell BK214.out 1).trans rfl; have hcz57_2 : w55.cell? ⟨gb214, 2, none⟩ = some (.slice A0_2 l0_2.length c0_2) := (blk_cell BK214.out 2).trans rfl; have hfz57_0 := blk_frozen BK214.out 0; have hfz57_1 := blk_frozen BK214.out 1; have hfz57_2 := blk_frozen BK214.out 2) | (go_at_call 20; (with_reducible refine (flow_Reached.calls kj1 a0_0 _ _ l0_1 _ _ l0_2 t219 _ ?side1 ?side2 ?side3 ?side4 ?side5 A12.out).mono ?_); (case side1 => repeat (first | exact (Kd.C_below HR0_1.out HB.out) | (with_reducible refine Kd.C_alloc ?_ _) | (with_reducible refine Kd.C_drewN ?_ _) | (with_reducible refine Kd.C_drew ?_))); (case side2 => exact HC0_1.out); (case side3 => repeat (first | exact (Kd.C_below HR0_2.out HB.out) | (with_reducible refine Kd.C_alloc ?_ _) | (with_reducible refine Kd.C_drewN ?_ _) | (with_reducible refine Kd.C_drew ?_))); (case side4 => exact HC0_2.out); (case side5 => first | exact HG.out | ((repeat (first | exact (OpsLaid.below HG.out (Nat.le_refl _) HB.out) | exact HG.out | (with_reducible refine OpsLaid.alloc ?_ _) | (with_reducible refine OpsLaid.drewN ?_ _) | (with_reducible refine OpsLaid.drew ?_))); done) | exact OpsLaid.below HG.out (Nat.le_refl _) z18_0); rintro e w58 ⟨v220, rfl, ho0, hb⟩; have n0_ := Aside0.mk (Kd.S_below z18_2 hb); have n1_ := Aside0.mk (Kd.R_lower ho0 (below_size z18_0)); have n2_ := Aside0.mk (blk_below (g := gb214) (o := .cells #[.int .i64 a0_0, .slice A0_1 l0_1.length c0_1, .slice A0_2 l0_2.length c0_2] 25 (0, 0)) z18_1 hb); have n3_ := Aside0.mk (below_step z18_0 hb); clear HO218 BK214 HB; revert n0_ n1_ n2_ n3_; intro HO218 HO221 BK214 HB; (try clear hb); (try clear hb2); (try clear hk); (try clear hi); (try clear ho0); obtain ⟨Ao59, co59, eo59⟩ := Kd.R_slice HO221.out; subst eo59))
      go_ret
      exact ⟨by first | rfl | (simp [errW_none, errW_some] <;> rfl) | (simp [*, errW_none, errW_some] <;> rfl), by repeat (first | (with_reducible first | exact HB.out | apply below_alloc | apply pw_below_drewN | apply below_drew1 | refine below_set ?_ GE214.out) | exact HB.out)⟩
    ·rw [if_neg c11] at H
     have c11b0 : ((t216.length : Int) == 0) = false := beq_eq_false_iff_ne.mpr c11; have c11b1 : ((t216.length : Int) != 0) = true := bne_iff_ne.mpr c11
     have c11b2 : ¬ (t216 = []) := fun h_ => c11 (by rw [h_]; rfl)
     obtain rfl := Option.some.inj H; obtain ⟨hcz60_0, hcz60_1, hcz60_2⟩ := bC3 BK214.out; obtain ⟨hfz60_0, hfz60_1, hfz60_2⟩ := bF3 BK214.out
     go_wp2_with (first | ((with_reducible refine gate_callee (f := 22) rfl ?_); refine goesL_ (some 12) rfl rfl Tryd.func22 (by kernel_rfl) rfl #[.agg #[.int .i64 a0_0, .slice A0_1 l0_1.length c0_1, .slice A0_2 l0_2.length c0_2]] rfl z18_3 ?_; (with_reducible refine (flow_Before.calls kj1 a0_0 _ _ l0_1 _ _ l0_2 t216 _ ?side1 ?side2 ?side3 ?side4 ?side5 A10.out).mono ?_); (case side1 => repeat (first | exact (Kd.C_below HR0_1.out HB.out) | (with_reducible refine Kd.C_alloc ?_ _) | (with_reducible refine Kd.C_drewN ?_ _) | (with_reducible refine Kd.C_drew ?_))); (case side2 => exact HC0_1.out); (case side3 => repeat (first | exact (Kd.C_below HR0_2.out HB.out) | (with_reducible refine Kd.C_alloc ?_ _) | (with_reducible refine Kd.C_drewN ?_ _) | (with_reducible refine Kd.C_drew ?_))); (case side4 => exact HC0_2.out); (case side5 => first | exact HG.out | ((repeat (first | exact (OpsLaid.below HG.out (Nat.le_refl _) HB.out) | exact HG.out | (with_reducible refine OpsLaid.alloc ?_ _) | (with_reducible refine OpsLaid.drewN ?_ _) | (with_reducible refine OpsLaid.drew ?_))); done) | exact OpsLaid.below HG.out (Nat.le_refl _) z18_0); rintro e w61 ⟨v217, rfl, ho0, hb⟩; refine ⟨_, rfl, ?_⟩; have n0_ := Aside0.mk (Kd.S_lower ho0 (below_size z18_0)); have n1_ := Aside0.mk (blk_below (g := gb214) (o := .cells #[.int .i64 a0_0, .slice A0_1 l0_1.length c0_1, .slice A0_2 l0_2.length c0_2] 25 (0, 0)) z18_1 hb); have n2_ := Aside0.mk (below_step z18_0 hb); clear BK214 HB; revert n0_ n1_ n2_; intro HO218 BK214 HB; (try clear hb); (try clear hb2); (try clear hk); (try clear hi); (try clear ho0); obtain ⟨Ao62, co62, eo62⟩ := Kd.S_slice HO218.out; subst eo62))
     go_ret
     exact ⟨by first | rfl | (simp [errW_none, errW_some] <;> rfl) | (simp [*, errW_none, errW_some] <;> rfl), by repeat (first | (with_reducible first | exact HB.out | apply below_alloc | apply pw_below_drewN | apply below_drew1 | refine below_set ?_ GE214.out) | exact HB.out)⟩

/-! ### spinnakerlaw33_awake: function 19 -/
def spinnakerlaw33_awake.f (k : Nat)  : Option (Bool) := (some (([(⟨([] : List (S38)), (⟨1, 0, 0, 0⟩ : S34)⟩ : S36)] : List (S36)) : List (S36))).bind fun y229 => ((flow_Loops.f k 1 ([] : List Int) y229).bind fun t233 => (if (t233.length : Int) = 1 then (if 0 < (t233.length : Int) then (if ((rd_T55 t233 0).f0) = 0 then ((flow_Order.f k 1 ([] : List Int) y229).bind fun t237 => ((spinnakerref01_Ints.f k t237 (([0] : List Int))).bind fun t243 => (some t243))) else (some false)) else (none)) else (some false)))
theorem spinnakerlaw33_awake.mono : ∀ k, LeO (spinnakerlaw33_awake.f k ) (spinnakerlaw33_awake.f (k + 1) ) := by
  intro  k; unfold spinnakerlaw33_awake.f
  repeat' first
 | (with_reducible exact flow_Loops.mono _ _ _ _)
 | (with_reducible exact flow_Order.mono _ _ _ _)
 | (with_reducible exact spinnakerref01_Ints.mono _ _ _)
 | (with_reducible exact LeO.refl _)
 | (with_reducible exact LeO.none _)
 | (with_reducible refine LeO.ite ?_ ?_)
 | (with_reducible refine LeO.bind ?_ (fun _ => ?_))
theorem z19_0 {p : Prop} (h : p := by repeat (first | (with_reducible first | exact HB.out | apply below_alloc | apply pw_below_drewN | apply below_drew1 | refine below_set ?_ GE232.out) | exact HB.out)) : p := h
theorem z19_1 {p : Prop} (h : p := by repeat (first | (with_reducible first | exact HB.out | apply below_alloc | apply pw_below_drewN | apply below_drew1) | exact HB.out)) : p := h
theorem z19_2 {p : Prop} (h : p := by (with_reducible repeat (first | refine blk_drewN ?_ _ | refine blk_drew ?_ | refine blk_alloc ?_ _)); refine blk_put (cs := #[.int .i64 1, .slice none 0 0, .slice none 0 0]) ?_ 2 _ rfl; (with_reducible repeat (first | refine blk_drewN ?_ _ | refine blk_drew ?_ | refine blk_alloc ?_ _)); refine blk_put (cs := #[.int .i64 1, .slice none 0 0, .slice none 0 0]) ?_ 1 _ rfl; (with_reducible repeat (first | refine blk_drewN ?_ _ | refine blk_drew ?_ | refine blk_alloc ?_ _)); refine blk_put (cs := #[.int .i64 0, .slice none 0 0, .slice none 0 0]) ?_ 0 _ rfl; (with_reducible repeat (first | refine blk_drewN ?_ _ | refine blk_drew ?_ | refine blk_alloc ?_ _)); exact BK232.out) : p := h
theorem z19_3 {p : Prop} (h : p := by (with_reducible repeat (first | apply Kd.S_alloc | apply Kd.S_drewN | apply Kd.S_drew)); exact HO231.out) : p := h
theorem z19_4 {p : Prop} (h : p := by (with_reducible repeat (first | apply Kd.S_alloc | apply Kd.S_drewN | apply Kd.S_drew)); exact (Kd.S_mono (Kd.S_far (p := ⟨gb232, 2, none⟩) (Kd.S_far (p := ⟨gb232, 1, none⟩) (Kd.S_far (p := ⟨gb232, 0, none⟩) (Kd.S_types HO231.out BK232.out (by decide)) (fun _ hk => hk.2) (.int .i64 1)) (fun _ hk => hk.2) (.slice none 0 0)) (fun _ hk => hk.2) (.slice Ao22 y229.length co22)) (fun _ h_ => h_.1))) : p := h
theorem z19_5 {p : Prop} (h : p := by (with_reducible repeat (first | apply Kd.S_alloc | apply Kd.S_drewN | apply Kd.S_drew)); exact (Kd.S_mono (Kd.S_far (p := ⟨gb232, 2, none⟩) (Kd.S_far (p := ⟨gb232, 1, none⟩) (Kd.S_far (p := ⟨gb232, 0, none⟩) (Kd.S_types HO231.out BK232.out (by decide)) (fun _ hk => hk.2) (.int .i64 1)) (fun _ hk => hk.2) (.slice none 0 0)) (fun _ hk => hk.2) (.slice Ao29 y229.length co29)) (fun _ h_ => h_.1))) : p := h
theorem z19_6 {p : Prop} (h : p := by (with_reducible repeat (first | apply Kd.S_alloc | apply Kd.S_drewN | apply Kd.S_drew)); exact (Kd.S_mono (Kd.S_far (p := ⟨gb232, 2, none⟩) (Kd.S_far (p := ⟨gb232, 1, none⟩) (Kd.S_far (p := ⟨gb232, 0, none⟩) (Kd.S_types HO231.out BK232.out (by decide)) (fun _ hk => hk.2) (.int .i64 1)) (fun _ hk => hk.2) (.slice none 0 0)) (fun _ hk => hk.2) (.slice Ao9 y229.length co9)) (fun _ h_ => h_.1))) : p := h
theorem z19_7 {p : Prop} (h : p := by (with_reducible repeat (first | apply Kd.R_alloc | apply Kd.R_drewN | apply Kd.R_drew)); exact HL236_1.out) : p := h
theorem z19_8 {p : Prop} (h : p := by (try simp only [List.map_toArray, List.map_cons, List.map_nil]); first | done | rfl | (simp only [List.length_drop, List.length_take]; rfl)) : p := h
set_option maxHeartbeats 8000000 in
set_option maxRecDepth 100000 in
theorem spinnakerlaw33_awake.calls (k : Nat)  (r : Bool) (w : World) (hG : OpsLaid w) (h : spinnakerlaw33_awake.f k  = some r) :
  Calls Tryd.prog 19 #[] w fun e w' => e = .returned (.bool r) ∧ Below w.heap.size w w' := by
 have hu34 := Tryd.underlying34; have hu36 := Tryd.underlying36; have hu25 := Tryd.underlying25; have HG := Aside0.mk hG; clear hG; have HB := Aside0.mk (Below.refl w.heap.size w); have H : ((some (([(⟨([] : List (S38)), (⟨1, 0, 0, 0⟩ : S34)⟩ : S36)] : List (S36)) : List (S36))).bind fun y229 => ((flow_Loops.f k 1 ([] : List Int) y229).bind fun t233 => (if (t233.length : Int) = 1 then (if 0 < (t233.length : Int) then (if ((rd_T55 t233 0).f0) = 0 then ((flow_Order.f k 1 ([] : List Int) y229).bind fun t237 => ((spinnakerref01_Ints.f k t237 (([0] : List Int))).bind fun t243 => (some t243))) else (some false)) else (none)) else (some false)))) = some r := h; clear h; obtain ⟨y229, hy229⟩ : ∃ y_ : List (S36), y_ = (([(⟨([] : List (S38)), (⟨1, 0, 0, 0⟩ : S34)⟩ : S36)] : List (S36))) := ⟨_, rfl⟩
 replace H : ((flow_Loops.f k 1 ([] : List Int) y229).bind fun t233 => (if (t233.length : Int) = 1 then (if 0 < (t233.length : Int) then (if ((rd_T55 t233 0).f0) = 0 then ((flow_Order.f k 1 ([] : List Int) y229).bind fun t237 => ((spinnakerref01_Ints.f k t237 (([0] : List Int))).bind fun t243 => (some t243))) else (some false)) else (none)) else (some false))) = some r := by first | (rw [hy229]; with_reducible exact H) | (have H2_ := (Option.bind_some _ _).symm.trans H; rw [hy229]; with_reducible exact H2_) | (have H2_ := (Option.bind_some _ _).symm.trans H; with_reducible exact H2_) | with_reducible exact H | (rw [hy229]; exact H) | exact H
 have Ny229 := Aside0.mk hy229; clear hy229; replace H := Option.bind_eq_some_iff.mp H; obtain ⟨t233, A10, H⟩ := H; replace H : (if (t233.length : Int) = 1 then (if 0 < (t233.length : Int) then (if ((rd_T55 t233 0).f0) = 0 then ((flow_Order.f k 1 ([] : List Int) y229).bind fun t237 => ((spinnakerref01_Ints.f k t237 (([0] : List Int))).bind fun t243 => (some t243))) else (some false)) else (none)) else (some false)) = some r := H; have A1 := Aside0.mk A10; clear A10
 by_cases c2 : (t233.length : Int) = 1
 ·rw [if_pos c2] at H
  have c2b0 : ((t233.length : Int) == 1) = true := beq_iff_eq.mpr c2; have c2b1 : ((t233.length : Int) != 1) = false := bne_eq_false_iff_eq.mpr c2; clear c2
  by_cases c3 : 0 < (t233.length : Int)
  ·rw [if_pos c3] at H
   have c3b0 : decide (0 < (t233.length : Int)) = true := decide_eq_true c3; have c3b1 : decide (0 < t233.length) = true := decide_eq_true (by omega); clear c3
   by_cases c4 : ((rd_T55 t233 0).f0) = 0
   ·rw [if_pos c4] at H
    have c4b0 : (((rd_T55 t233 0).f0) == 0) = true := beq_iff_eq.mpr c4; have c4b1 : (((rd_T55 t233 0).f0) != 0) = false := bne_eq_false_iff_eq.mpr c4; clear c4; replace H := Option.bind_eq_some_iff.mp H; obtain ⟨t237, A50, H⟩ := H; replace H : ((spinnakerref01_Ints.f k t237 (([0] : List Int))).bind fun t243 => (some t243)) = some r := H; have A5 := Aside0.mk A50; clear A50; obtain ⟨y240, hy240⟩ : ∃ y_ : List Int, y_ = (([0] : List Int)) := ⟨_, rfl⟩
    replace H : ((spinnakerref01_Ints.f k t237 y240).bind fun t243 => (some t243)) = some r := by first | (rw [hy240]; with_reducible exact H) | (have H2_ := (Option.bind_some _ _).symm.trans H; rw [hy240]; with_reducible exact H2_) | (have H2_ := (Option.bind_some _ _).symm.trans H; with_reducible exact H2_) | with_reducible exact H | (rw [hy240]; exact H) | exact H
    have Ny240 := Aside0.mk hy240; clear hy240; replace H := Option.bind_eq_some_iff.mp H; obtain ⟨t243, A60, H⟩ := H; replace H : (some t243) = some r := H; have A6 := Aside0.mk A60; clear A60; obtain rfl := Option.some.inj H
    go_enter Tryd.func19, Tryd.ntmps19
    go_wp2_with (first | ((with_reducible refine gate_dst (N := 5) rfl ?_); (try (refine gate_guard (by rfl) ?_; dsimp only)); refine Kd.S_lit k36 _ 36 ?hg (N := 5) ?hd (xs := ([(⟨([] : List (S38)), (⟨1, 0, 0, 0⟩ : S34)⟩ : S36)] : List (S36))) (inner := [.slice none 0 0, .int .i64 1, .int .i64 0, .int .i64 0, .int .i64 0]) (ok := fun _ => True) (okp := fun _ => True) ?hr ?hp (fun _ hk => hk) trivial (Below.refl _ _) (Nat.le_refl _) (by simp) ?_; (case hd => rfl); (case hg => rfl); (case hr => first | (go_simp; done) | (go_simp; rfl)); (case hp => exact (Reps.c5 (show Kd.M k36 _ _ _ (⟨([] : List (S38)), (⟨1, 0, 0, 0⟩ : S34)⟩ : S36) [.slice none 0 0, .int .i64 1, .int .i64 0, .int .i64 0, .int .i64 0] from (k36_mkM _ _ _ (⟨([] : List (S38)), (⟨1, 0, 0, 0⟩ : S34)⟩ : S36) (Kd.R_nil _ _ _ _ _))) (Reps.none _ _))); intro v230 w7 ho8 hb hg_ hnew_; clear hg_ hnew_; (first | rw [← Ny229.out] at ho8 | (simp only [Int.reduceToNat] at ho8; rw [← Ny229.out] at ho8)); have n0_ := Aside0.mk (Kd.S_lower ho8 (below_size z19_1)); have n1_ := Aside0.mk (below_step z19_1 hb); clear HB; revert n0_ n1_; intro HO231 HB; clear hb ho8; obtain ⟨Ao9, co9, eo9⟩ := Kd.S_slice HO231.out; subst eo9) | ((with_reducible refine gate_dst (N := 1) rfl ?_); (try (refine gate_guard (by rfl) ?_; dsimp only)); refine box_event ?hg (N := 1) ?hd (cs := #[.int .i64 0, .slice none 0 0, .slice none 0 0]) (t := 25) ?hr ?_; (case hd => rfl); (case hg => rfl); (case hr => first | (go_simp; done) | (go_simp; rfl)); intro gb232 hg w10 hbox hb; have n0_ := Aside0.mk (Kd.S_below z19_3 hb); have n1_ := Aside0.mk (below_step z19_1 hb); have n2_ := Aside0.mk (hbox); have n3_ := Aside0.mk ((by rw [hg]; exact (below_size z19_1) : w.heap.size ≤ gb232)); have n4_ := n3_; clear HO231 HB; revert n0_ n1_ n2_ n3_ n4_; intro HO231 HB BK232 GW232 GE232; clear hb hbox hg; have hcz11_0 : w10.cell? ⟨gb232, 0, none⟩ = some (.int .i64 0) := (blk_cell BK232.out 0).trans rfl; have hcz11_1 : w10.cell? ⟨gb232, 1, none⟩ = some (.slice none 0 0) := (blk_cell BK232.out 1).trans rfl; have hcz11_2 : w10.cell? ⟨gb232, 2, none⟩ = some (.slice none 0 0) := (blk_cell BK232.out 2).trans rfl; have hfz11_0 := blk_frozen BK232.out 0; have hfz11_1 := blk_frozen BK232.out 1; have hfz11_2 := blk_frozen BK232.out 2) | ((with_reducible refine gate_callee (f := 31) rfl ?_); refine goesL_ (some 8) rfl rfl Tryd.func31 (by kernel_rfl) rfl #[.agg #[.int .i64 1, .slice none 0 0, .slice Ao9 y229.length co9]] rfl z19_8 ?_; (refine (flow_Loops.calls k 1 _ _ ([] : List Int) _ _ y229 t233 _ ?side1 ?side2 ?side3 ?side4 ?side5 A1.out).mono ?_); (case side1 => exact Kd.C_nil _ _); (case side2 => exact Nat.le_refl _); (case side3 => refine (Kd.S_reads' (e := 36) (base := w.heap.size) (ok := fun k_ => True) (n := y229.length) (c := co9) ?_).2.2; exact z19_6); (case side4 => exact (Kd.S_reads' HO231.out).2.1); (case side5 => first | exact HG.out | ((repeat (first | exact (OpsLaid.below HG.out (Nat.le_refl _) HB.out) | exact HG.out | (with_reducible refine OpsLaid.alloc ?_ _) | (with_reducible refine OpsLaid.drewN ?_ _) | (with_reducible refine OpsLaid.drew ?_))); done) | exact OpsLaid.below HG.out (Nat.le_refl _) z19_0); rintro e w12 ⟨v234, rfl, ho0, hb⟩; refine ⟨_, rfl, ?_⟩; have n0_ := Aside0.mk (Kd.S_below z19_6 hb); have n1_ := Aside0.mk (Kd.S_lower ho0 (below_size z19_0)); have n2_ := Aside0.mk (blk_below (g := gb232) (o := .cells #[.int .i64 1, .slice none 0 0, .slice Ao9 y229.length co9] 25 (0, 0)) z19_2 hb); have n3_ := Aside0.mk (below_step z19_0 hb); clear HO231 BK232 HB; revert n0_ n1_ n2_ n3_; intro HO231 HO235 BK232 HB; (try clear hb); (try clear hb2); (try clear hk); (try clear hi); (try clear ho0); obtain ⟨Ao13, co13, eo13⟩ := Kd.S_slice HO235.out; subst eo13; have p236 : 0 ≤ (0 : Int) := (by omega); have q236 : 0 < (t233.length : Int) := of_decide_eq_true (by first | (with_reducible assumption) | assumption); obtain ⟨ad236, A236_1, c236_1, e236, hx236_0, hx236_1, hl236_1, hi236_1⟩ := at_T55 (Kd.S_reads' HO235.out).2.2 0 p236 q236; cases e236; obtain ⟨ce236, hce236, hMe236, hcc236⟩ := Kd.S_get HO235.out z55 0 p236 (by first | exact q236 | exact of_decide_eq_true (by first | (with_reducible assumption) | assumption) | (have e_ := (Kd.S_reads' HO235.out).1; omega)); obtain ⟨ve236_1, rfl, ge236_1⟩ := k55_openM hMe236; have hv236_1 := hcc236 1 _ rfl; rw [add_field _ _ 1 (by omega)] at hv236_1; replace hv236_1 := Option.some.inj (hv236_1.symm.trans hx236_1); rw [hv236_1] at ge236_1; have HL236_1 := Aside0.mk (show Kd.R (Kd.int .i64) 3 _ _ _ _ ((rd_T55 t233 0).f1) from ge236_1); clear hv236_1 ge236_1; clear hcc236 hce236; have qi236 : (0 < t233.length) = True := eq_true (by omega); (try rw [show ((0 : Int)).toNat = 0 from rfl] at hx236_0); (try rw [show 0 * 2 = 0 from rfl] at hx236_0); (try rw [Addr.add_zero'] at hx236_0); (try rw [show ((0 : Int)).toNat = 0 from rfl] at hx236_1); (try rw [show 0 * 2 = 0 from rfl] at hx236_1); (try rw [Addr.add_zero'] at hx236_1); have HR236_1 := Aside0.mk hi236_1; have HC236_1 := Aside0.mk hl236_1; clear hi236_1 hl236_1; replace p236 := eq_true p236; replace q236 := eq_true q236; have hcz14_0 : w12.cell? ⟨gb232, 0, none⟩ = some (.int .i64 1) := (blk_cell BK232.out 0).trans rfl; have hcz14_1 : w12.cell? ⟨gb232, 1, none⟩ = some (.slice none 0 0) := (blk_cell BK232.out 1).trans rfl; have hcz14_2 : w12.cell? ⟨gb232, 2, none⟩ = some (.slice Ao9 y229.length co9) := (blk_cell BK232.out 2).trans rfl; have hfz14_0 := blk_frozen BK232.out 0; have hfz14_1 := blk_frozen BK232.out 1; have hfz14_2 := blk_frozen BK232.out 2) | (go_at_call 26; (refine (flow_Order.calls k 1 _ _ ([] : List Int) _ _ y229 t237 _ ?side1 ?side2 ?side3 ?side4 ?side5 A5.out).mono ?_); (case side1 => exact Kd.C_nil _ _); (case side2 => exact Nat.le_refl _); (case side3 => repeat (first | exact (Kd.S_reads' HO231.out).2.2 | (with_reducible refine Kd.C_alloc ?_ _) | (with_reducible refine Kd.C_drewN ?_ _) | (with_reducible refine Kd.C_drew ?_))); (case side4 => exact (Kd.S_reads' HO231.out).2.1); (case side5 => first | exact HG.out | ((repeat (first | exact (OpsLaid.below HG.out (Nat.le_refl _) HB.out) | exact HG.out | (with_reducible refine OpsLaid.alloc ?_ _) | (with_reducible refine OpsLaid.drewN ?_ _) | (with_reducible refine OpsLaid.drew ?_))); done) | exact OpsLaid.below HG.out (Nat.le_refl _) z19_0); rintro e w15 ⟨v238, rfl, ho0, hb⟩; have n0_ := Aside0.mk (Kd.S_below z19_3 hb); have n1_ := Aside0.mk (Kd.S_elder' (by (with_reducible repeat (first | apply Kd.S_alloc | apply Kd.S_drewN | apply Kd.S_drew)); exact HO235.out) (Kd.R_base ho0) hb); have n2_ := Aside0.mk (Kd.R_elder' z19_7 (Kd.R_base ho0) hb); have n3_ := Aside0.mk (Kd.R_lower (Kd.R_new' ho0 (Kd.R_lt z19_7)) (below_size z19_0)); have n4_ := Aside0.mk (blk_below (g := gb232) (o := .cells #[.int .i64 1, .slice none 0 0, .slice Ao9 y229.length co9] 25 (0, 0)) (by (with_reducible repeat (first | refine blk_drewN ?_ _ | refine blk_drew ?_ | refine blk_alloc ?_ _)); exact BK232.out) hb); have n5_ := Aside0.mk (Kd.C_below (by repeat (first | (with_reducible exact HR236_1.out) | (with_reducible refine Kd.C_alloc ?_ _) | (with_reducible refine Kd.C_drewN ?_ _) | (with_reducible refine Kd.C_drew ?_) | exact HR236_1.out)) hb); have n6_ := Aside0.mk (below_step z19_0 hb); clear HO231 HO235 HL236_1 BK232 HR236_1 HB; revert n0_ n1_ n2_ n3_ n4_ n5_ n6_; intro HO231 HO235 HL236_1 HO239 BK232 HR236_1 HB; (try clear hb); (try clear hb2); (try clear hk); (try clear hi); (try clear ho0)) | ((with_reducible refine gate_dst (N := 22) rfl ?_); (try (refine gate_guard (by rfl) ?_; dsimp only)); refine Kd.R_lit (Kd.int .i64) _ 3 ?hg (N := 22) ?hd (xs := ([0] : List Int)) (inner := [.int .i64 0]) (ok := fun _ => True) (okp := fun _ => True) ?hr ?hp (fun _ hk => hk) trivial (Below.refl _ _) (Nat.le_refl _) (by simp) ?_; (case hd => rfl); (case hg => rfl); (case hr => first | (go_simp; done) | (go_simp; rfl)); (case hp => exact (Reps.one (show Kd.M (Kd.int .i64) _ _ _ 0 [.int .i64 0] from rfl) (Reps.none _ _))); intro v241 w16 ho17 hb hg_ hnew_; clear hg_ hnew_; (first | rw [← Ny240.out] at ho17 | (simp only [Int.reduceToNat] at ho17; rw [← Ny240.out] at ho17)); have n0_ := Aside0.mk (Kd.S_below z19_3 hb); have n1_ := Aside0.mk (Kd.S_elder' (by (with_reducible repeat (first | apply Kd.S_alloc | apply Kd.S_drewN | apply Kd.S_drew)); exact HO235.out) (Kd.R_base ho17) hb); have n2_ := Aside0.mk (Kd.R_elder' z19_7 (Kd.R_base ho17) hb); have n3_ := Aside0.mk (Kd.R_elder' (by (with_reducible repeat (first | apply Kd.R_alloc | apply Kd.R_drewN | apply Kd.R_drew)); exact HO239.out) (Kd.R_base ho17) hb); have n4_ := Aside0.mk (Kd.R_lower (Kd.R_new' (Kd.R_new' ho17 (Kd.R_lt z19_7)) (Kd.R_lt (by (with_reducible repeat (first | apply Kd.R_alloc | apply Kd.R_drewN | apply Kd.R_drew)); exact HO239.out))) (below_size z19_0)); have n5_ := Aside0.mk (blk_below (g := gb232) (o := .cells #[.int .i64 1, .slice none 0 0, .slice Ao9 y229.length co9] 25 (0, 0)) (by (with_reducible repeat (first | refine blk_drewN ?_ _ | refine blk_drew ?_ | refine blk_alloc ?_ _)); exact BK232.out) hb); have n6_ := Aside0.mk (Kd.C_below (by repeat (first | (with_reducible exact HR236_1.out) | (with_reducible refine Kd.C_alloc ?_ _) | (with_reducible refine Kd.C_drewN ?_ _) | (with_reducible refine Kd.C_drew ?_) | exact HR236_1.out)) hb); have n7_ := Aside0.mk (below_step z19_0 hb); clear HO231 HO235 HL236_1 HO239 BK232 HR236_1 HB; revert n0_ n1_ n2_ n3_ n4_ n5_ n6_ n7_; intro HO231 HO235 HL236_1 HO239 HO242 BK232 HR236_1 HB; clear hb ho17; obtain ⟨Ao18, co18, eo18⟩ := Kd.R_slice HO239.out; subst eo18; obtain ⟨Ao19, co19, eo19⟩ := Kd.R_slice HO242.out; subst eo19) | (go_at_call 16; (with_reducible refine (spinnakerref01_Ints.calls k _ _ t237 _ _ y240 t243 _ ?side1 ?side2 ?side3 ?side4 A6.out).mono ?_); (case side1 => repeat (first | exact (Kd.R_reads' HO239.out).2.2 | (with_reducible refine Kd.C_alloc ?_ _) | (with_reducible refine Kd.C_drewN ?_ _) | (with_reducible refine Kd.C_drew ?_))); (case side2 => exact (Kd.R_reads' HO239.out).2.1); (case side3 => repeat (first | exact (Kd.R_reads' HO242.out).2.2 | (with_reducible refine Kd.C_alloc ?_ _) | (with_reducible refine Kd.C_drewN ?_ _) | (with_reducible refine Kd.C_drew ?_))); (case side4 => exact (Kd.R_reads' HO242.out).2.1); rintro e w' ⟨rfl, ⟨nd, rfl⟩⟩))
    go_ret
    exact ⟨by first | rfl | (simp [errW_none, errW_some] <;> rfl) | (simp [*, errW_none, errW_some] <;> rfl), by repeat (first | (with_reducible first | exact HB.out | apply below_alloc | apply pw_below_drewN | apply below_drew1 | refine below_set ?_ GE232.out) | exact HB.out)⟩
   ·rw [if_neg c4] at H
    have c4b0 : (((rd_T55 t233 0).f0) == 0) = false := beq_eq_false_iff_ne.mpr c4; have c4b1 : (((rd_T55 t233 0).f0) != 0) = true := bne_iff_ne.mpr c4; obtain rfl := Option.some.inj H
    go_enter Tryd.func19, Tryd.ntmps19
    go_wp2_with (first | ((with_reducible refine gate_dst (N := 5) rfl ?_); (try (refine gate_guard (by rfl) ?_; dsimp only)); refine Kd.S_lit k36 _ 36 ?hg (N := 5) ?hd (xs := ([(⟨([] : List (S38)), (⟨1, 0, 0, 0⟩ : S34)⟩ : S36)] : List (S36))) (inner := [.slice none 0 0, .int .i64 1, .int .i64 0, .int .i64 0, .int .i64 0]) (ok := fun _ => True) (okp := fun _ => True) ?hr ?hp (fun _ hk => hk) trivial (Below.refl _ _) (Nat.le_refl _) (by simp) ?_; (case hd => rfl); (case hg => rfl); (case hr => first | (go_simp; done) | (go_simp; rfl)); (case hp => exact (Reps.c5 (show Kd.M k36 _ _ _ (⟨([] : List (S38)), (⟨1, 0, 0, 0⟩ : S34)⟩ : S36) [.slice none 0 0, .int .i64 1, .int .i64 0, .int .i64 0, .int .i64 0] from (k36_mkM _ _ _ (⟨([] : List (S38)), (⟨1, 0, 0, 0⟩ : S34)⟩ : S36) (Kd.R_nil _ _ _ _ _))) (Reps.none _ _))); intro v230 w20 ho21 hb hg_ hnew_; clear hg_ hnew_; (first | rw [← Ny229.out] at ho21 | (simp only [Int.reduceToNat] at ho21; rw [← Ny229.out] at ho21)); have n0_ := Aside0.mk (Kd.S_lower ho21 (below_size z19_1)); have n1_ := Aside0.mk (below_step z19_1 hb); clear HB; revert n0_ n1_; intro HO231 HB; clear hb ho21; obtain ⟨Ao22, co22, eo22⟩ := Kd.S_slice HO231.out; subst eo22) | ((with_reducible refine gate_dst (N := 1) rfl ?_); (try (refine gate_guard (by rfl) ?_; dsimp only)); refine box_event ?hg (N := 1) ?hd (cs := #[.int .i64 0, .slice none 0 0, .slice none 0 0]) (t := 25) ?hr ?_; (case hd => rfl); (case hg => rfl); (case hr => first | (go_simp; done) | (go_simp; rfl)); intro gb232 hg w23 hbox hb; have n0_ := Aside0.mk (Kd.S_below z19_3 hb); have n1_ := Aside0.mk (below_step z19_1 hb); have n2_ := Aside0.mk (hbox); have n3_ := Aside0.mk ((by rw [hg]; exact (below_size z19_1) : w.heap.size ≤ gb232)); have n4_ := n3_; clear HO231 HB; revert n0_ n1_ n2_ n3_ n4_; intro HO231 HB BK232 GW232 GE232; clear hb hbox hg; have hcz24_0 : w23.cell? ⟨gb232, 0, none⟩ = some (.int .i64 0) := (blk_cell BK232.out 0).trans rfl; have hcz24_1 : w23.cell? ⟨gb232, 1, none⟩ = some (.slice none 0 0) := (blk_cell BK232.out 1).trans rfl; have hcz24_2 : w23.cell? ⟨gb232, 2, none⟩ = some (.slice none 0 0) := (blk_cell BK232.out 2).trans rfl; have hfz24_0 := blk_frozen BK232.out 0; have hfz24_1 := blk_frozen BK232.out 1; have hfz24_2 := blk_frozen BK232.out 2) | ((with_reducible refine gate_callee (f := 31) rfl ?_); refine goesL_ (some 8) rfl rfl Tryd.func31 (by kernel_rfl) rfl #[.agg #[.int .i64 1, .slice none 0 0, .slice Ao22 y229.length co22]] rfl z19_8 ?_; (refine (flow_Loops.calls k 1 _ _ ([] : List Int) _ _ y229 t233 _ ?side1 ?side2 ?side3 ?side4 ?side5 A1.out).mono ?_); (case side1 => exact Kd.C_nil _ _); (case side2 => exact Nat.le_refl _); (case side3 => refine (Kd.S_reads' (e := 36) (base := w.heap.size) (ok := fun k_ => True) (n := y229.length) (c := co22) ?_).2.2; exact z19_4); (case side4 => exact (Kd.S_reads' HO231.out).2.1); (case side5 => first | exact HG.out | ((repeat (first | exact (OpsLaid.below HG.out (Nat.le_refl _) HB.out) | exact HG.out | (with_reducible refine OpsLaid.alloc ?_ _) | (with_reducible refine OpsLaid.drewN ?_ _) | (with_reducible refine OpsLaid.drew ?_))); done) | exact OpsLaid.below HG.out (Nat.le_refl _) z19_0); rintro e w25 ⟨v234, rfl, ho0, hb⟩; refine ⟨_, rfl, ?_⟩; have n0_ := Aside0.mk (Kd.S_below z19_4 hb); have n1_ := Aside0.mk (Kd.S_lower ho0 (below_size z19_0)); have n2_ := Aside0.mk (blk_below (g := gb232) (o := .cells #[.int .i64 1, .slice none 0 0, .slice Ao22 y229.length co22] 25 (0, 0)) z19_2 hb); have n3_ := Aside0.mk (below_step z19_0 hb); clear HO231 BK232 HB; revert n0_ n1_ n2_ n3_; intro HO231 HO235 BK232 HB; (try clear hb); (try clear hb2); (try clear hk); (try clear hi); (try clear ho0); obtain ⟨Ao26, co26, eo26⟩ := Kd.S_slice HO235.out; subst eo26; have p236 : 0 ≤ (0 : Int) := (by omega); have q236 : 0 < (t233.length : Int) := of_decide_eq_true (by first | (with_reducible assumption) | assumption); obtain ⟨ad236, A236_1, c236_1, e236, hx236_0, hx236_1, hl236_1, hi236_1⟩ := at_T55 (Kd.S_reads' HO235.out).2.2 0 p236 q236; cases e236; obtain ⟨ce236, hce236, hMe236, hcc236⟩ := Kd.S_get HO235.out z55 0 p236 (by first | exact q236 | exact of_decide_eq_true (by first | (with_reducible assumption) | assumption) | (have e_ := (Kd.S_reads' HO235.out).1; omega)); obtain ⟨ve236_1, rfl, ge236_1⟩ := k55_openM hMe236; have hv236_1 := hcc236 1 _ rfl; rw [add_field _ _ 1 (by omega)] at hv236_1; replace hv236_1 := Option.some.inj (hv236_1.symm.trans hx236_1); rw [hv236_1] at ge236_1; have HL236_1 := Aside0.mk (show Kd.R (Kd.int .i64) 3 _ _ _ _ ((rd_T55 t233 0).f1) from ge236_1); clear hv236_1 ge236_1; clear hcc236 hce236; have qi236 : (0 < t233.length) = True := eq_true (by omega); (try rw [show ((0 : Int)).toNat = 0 from rfl] at hx236_0); (try rw [show 0 * 2 = 0 from rfl] at hx236_0); (try rw [Addr.add_zero'] at hx236_0); (try rw [show ((0 : Int)).toNat = 0 from rfl] at hx236_1); (try rw [show 0 * 2 = 0 from rfl] at hx236_1); (try rw [Addr.add_zero'] at hx236_1); have HR236_1 := Aside0.mk hi236_1; have HC236_1 := Aside0.mk hl236_1; clear hi236_1 hl236_1; replace p236 := eq_true p236; replace q236 := eq_true q236))
    go_ret
    exact ⟨by first | rfl | (simp [errW_none, errW_some] <;> rfl) | (simp [*, errW_none, errW_some] <;> rfl), by repeat (first | (with_reducible first | exact HB.out | apply below_alloc | apply pw_below_drewN | apply below_drew1 | refine below_set ?_ GE232.out) | exact HB.out)⟩
  ·rw [if_neg c3] at H
   exact absurd H (by simp)
 ·rw [if_neg c2] at H
  have c2b0 : ((t233.length : Int) == 1) = false := beq_eq_false_iff_ne.mpr c2; have c2b1 : ((t233.length : Int) != 1) = true := bne_iff_ne.mpr c2; obtain rfl := Option.some.inj H
  go_enter Tryd.func19, Tryd.ntmps19
  go_wp2_with (first | ((with_reducible refine gate_dst (N := 5) rfl ?_); (try (refine gate_guard (by rfl) ?_; dsimp only)); refine Kd.S_lit k36 _ 36 ?hg (N := 5) ?hd (xs := ([(⟨([] : List (S38)), (⟨1, 0, 0, 0⟩ : S34)⟩ : S36)] : List (S36))) (inner := [.slice none 0 0, .int .i64 1, .int .i64 0, .int .i64 0, .int .i64 0]) (ok := fun _ => True) (okp := fun _ => True) ?hr ?hp (fun _ hk => hk) trivial (Below.refl _ _) (Nat.le_refl _) (by simp) ?_; (case hd => rfl); (case hg => rfl); (case hr => first | (go_simp; done) | (go_simp; rfl)); (case hp => exact (Reps.c5 (show Kd.M k36 _ _ _ (⟨([] : List (S38)), (⟨1, 0, 0, 0⟩ : S34)⟩ : S36) [.slice none 0 0, .int .i64 1, .int .i64 0, .int .i64 0, .int .i64 0] from (k36_mkM _ _ _ (⟨([] : List (S38)), (⟨1, 0, 0, 0⟩ : S34)⟩ : S36) (Kd.R_nil _ _ _ _ _))) (Reps.none _ _))); intro v230 w27 ho28 hb hg_ hnew_; clear hg_ hnew_; (first | rw [← Ny229.out] at ho28 | (simp only [Int.reduceToNat] at ho28; rw [← Ny229.out] at ho28)); have n0_ := Aside0.mk (Kd.S_lower ho28 (below_size z19_1)); have n1_ := Aside0.mk (below_step z19_1 hb); clear HB; revert n0_ n1_; intro HO231 HB; clear hb ho28; obtain ⟨Ao29, co29, eo29⟩ := Kd.S_slice HO231.out; subst eo29) | ((with_reducible refine gate_dst (N := 1) rfl ?_); (try (refine gate_guard (by rfl) ?_; dsimp only)); refine box_event ?hg (N := 1) ?hd (cs := #[.int .i64 0, .slice none 0 0, .slice none 0 0]) (t := 25) ?hr ?_; (case hd => rfl); (case hg => rfl); (case hr => first | (go_simp; done) | (go_simp; rfl)); intro gb232 hg w30 hbox hb; have n0_ := Aside0.mk (Kd.S_below z19_3 hb); have n1_ := Aside0.mk (below_step z19_1 hb); have n2_ := Aside0.mk (hbox); have n3_ := Aside0.mk ((by rw [hg]; exact (below_size z19_1) : w.heap.size ≤ gb232)); have n4_ := n3_; clear HO231 HB; revert n0_ n1_ n2_ n3_ n4_; intro HO231 HB BK232 GW232 GE232; clear hb hbox hg; have hcz31_0 : w30.cell? ⟨gb232, 0, none⟩ = some (.int .i64 0) := (blk_cell BK232.out 0).trans rfl; have hcz31_1 : w30.cell? ⟨gb232, 1, none⟩ = some (.slice none 0 0) := (blk_cell BK232.out 1).trans rfl; have hcz31_2 : w30.cell? ⟨gb232, 2, none⟩ = some (.slice none 0 0) := (blk_cell BK232.out 2).trans rfl; have hfz31_0 := blk_frozen BK232.out 0; have hfz31_1 := blk_frozen BK232.out 1; have hfz31_2 := blk_frozen BK232.out 2) | ((with_reducible refine gate_callee (f := 31) rfl ?_); refine goesL_ (some 8) rfl rfl Tryd.func31 (by kernel_rfl) rfl #[.agg #[.int .i64 1, .slice none 0 0, .slice Ao29 y229.length co29]] rfl z19_8 ?_; (refine (flow_Loops.calls k 1 _ _ ([] : List Int) _ _ y229 t233 _ ?side1 ?side2 ?side3 ?side4 ?side5 A1.out).mono ?_); (case side1 => exact Kd.C_nil _ _); (case side2 => exact Nat.le_refl _); (case side3 => refine (Kd.S_reads' (e := 36) (base := w.heap.size) (ok := fun k_ => True) (n := y229.length) (c := co29) ?_).2.2; exact z19_5); (case side4 => exact (Kd.S_reads' HO231.out).2.1); (case side5 => first | exact HG.out | ((repeat (first | exact (OpsLaid.below HG.out (Nat.le_refl _) HB.out) | exact HG.out | (with_reducible refine OpsLaid.alloc ?_ _) | (with_reducible refine OpsLaid.drewN ?_ _) | (with_reducible refine OpsLaid.drew ?_))); done) | exact OpsLaid.below HG.out (Nat.le_refl _) z19_0); rintro e w32 ⟨v234, rfl, ho0, hb⟩; refine ⟨_, rfl, ?_⟩; have n0_ := Aside0.mk (Kd.S_below z19_5 hb); have n1_ := Aside0.mk (Kd.S_lower ho0 (below_size z19_0)); have n2_ := Aside0.mk (blk_below (g := gb232) (o := .cells #[.int .i64 1, .slice none 0 0, .slice Ao29 y229.length co29] 25 (0, 0)) z19_2 hb); have n3_ := Aside0.mk (below_step z19_0 hb); clear HO231 BK232 HB; revert n0_ n1_ n2_ n3_; intro HO231 HO235 BK232 HB; (try clear hb); (try clear hb2); (try clear hk); (try clear hi); (try clear ho0); obtain ⟨Ao33, co33, eo33⟩ := Kd.S_slice HO235.out; subst eo33))
  go_ret
  exact ⟨by first | rfl | (simp [errW_none, errW_some] <;> rfl) | (simp [*, errW_none, errW_some] <;> rfl), by repeat (first | (with_reducible first | exact HB.out | apply below_alloc | apply pw_below_drewN | apply below_drew1 | refine below_set ?_ GE232.out) | exact HB.out)⟩

end Go.Proofs.YtgenmfbidpmneaaDoor.PFlowOrders
