-- printed by a program of this session (wip/mp.py: the kit's printer, patched, over the session's own templates); checked by Lean alone
import Derived.Test.YtgenmfbidpmneaaDoorOPFlowOrdersx0
import Derived.Test.YtgenmfbidpmneaaDoorOPFlowOrdersx1
import Derived.Test.YtgenmfbidpmneaaDoorOPFlowOrdersx2
namespace Go.Proofs.YtgenmfbidpmneaaDoor.PFlowOrders
open Go.RowKit Go.Proofs.YtgenmfbidpmneaaDoorW.PrintWords Go.Proofs.YtgenmfbidpmneaaDoorW.PrintLast Go.Proofs.YtgenmfbidpmneaaDoorW.PrintMore
attribute [local go_sem] max2_int min2_int max_two min_two max_three min_three max_four min_four   -- for this text's walks alone
set_option linter.unusedVariables false
set_option linter.unusedSimpArgs false

attribute [local go_sem high] eqA34
/-! ### given: ref26_Right.lean -/
-- GIVEN spinnaker/spinnakerref26.Right rounds=0 making=1
-- NEEDS spinnaker/spinnakerref26.right
-- REG []int
-- REG []api.Block
-- INFO int
-- IMPORT Derived.Test.YtgenmfbidpmneaaDoorEvalM
def refI (i : S38) (v c : Int) (k k2 : Nat) : Bool := insR i.f0 i.f1 i.f2 i.f3 i.f4 i.f5 i.f6 i.f7 v c k k2
/-- Is a size out of its bounds? -/
def badR (n : Int) : Bool := decide (n < 1) || decide (250 < n)
/-- The ids behind some instructions; none: one is not right. -/
def goRI (v c : Int) (k k2 : Nat) : List Int → List S38 → Option (List Int)
  | ids, [] => some ids
  | ids, i :: r => cond (refI i v c k k2) (cond (decide (0 < i.f7)) (cond (ids.contains i.f7) none (goRI v c k k2 (ids ++ [i.f7]) r)) (goRI v c k k2 ids r)) none
/-- Is a block's end right, as the document says? -/
def endR4 (e0 e1 e2 e3 v n : Int) : Bool := cond (e0 == 1) (cond (decide (e2 < 0)) false (cond (decide (n ≤ e2)) false (cond ((e1 != 0)) false (cond ((e3 != 0)) false true)))) (cond (e0 == 2) (cond (decide (e2 < 0)) false (cond (decide (n ≤ e2)) false (cond (decide (e3 < 0)) false (cond (decide (n ≤ e3)) false (cond (decide (e1 < 0)) false (cond (decide (v ≤ e1)) false true)))))) (cond (e0 == 3) (cond ((e1 != 0)) false (cond ((e2 != 0)) false (cond ((e3 != 0)) false true))) false))
def endR (e : S34) (v n : Int) : Bool := endR4 e.f0 e.f1 e.f2 e.f3 v n
def goRB (v c : Int) (k k2 : Nat) : List Int → List S36 → Bool
  | _, [] => true
  | ids, b :: r => match goRI v c k k2 ids b.f0 with
    | some ids' => cond (endR b.f1 v k2) (goRB v c k k2 ids' r) false
    | none => false
/-- Is a thread right, as the document says? -/
def refRB (v : Int) (k : List Int) (k2 : List S36) (c : Int) : Bool :=
  !(decide (v < 0) || decide (200 < v) || decide (k2.length < 1) || decide (4000 < k2.length)) && (!k.any badR && goRB v c k.length k2.length [] k2)
/-- Aren't its blocks too long? -/
def okLen (k : List Int) (k2 : List S36) : Prop := k.length ≤ 4294967296 ∧ ∀ b ∈ k2, b.f0.length ≤ 1048576
instance (k : List Int) (k2 : List S36) : Decidable (okLen k k2) := by unfold okLen; exact inferInstance
def spinnakerref26_Right.f (v : Int) (k : List Int) (k2 : List S36) (c : Int) : Option Bool := if okLen k k2 then some (refRB v k k2 c) else none
theorem ref_early {v : Int} {k : List Int} {k2 : List S36} {c : Int} (h : v < 0 ∨ 200 < v ∨ (k2.length : Int) < 1 ∨ 4000 < (k2.length : Int)) : refRB v k k2 c = false := by
  unfold refRB
  rcases h with h | h | h | h
  · simp [h]
  · simp [h]
  · have : k2.length < 1 := by omega
    simp [this]
  · have : 4000 < k2.length := by omega
    simp [this]
theorem ref_late {v : Int} {k : List Int} {k2 : List S36} {c : Int} (h1 : ¬ v < 0) (h2 : ¬ 200 < v) (h3 : ¬ (k2.length : Int) < 1) (h4 : ¬ 4000 < (k2.length : Int)) : refRB v k k2 c = (!k.any badR && goRB v c k.length k2.length [] k2) := by
  unfold refRB
  have e3 : ¬ k2.length < 1 := by omega
  have e4 : ¬ 4000 < k2.length := by omega
  simp [h1, h2, e3, e4]
theorem ref_bad {k : List Int} {q : Nat} (hq : q < k.length) (h : badR (k.getD q 0) = true) (b : Bool) : (!k.any badR && b) = false := by
  have : k.any badR = true := List.any_eq_true.2 ⟨k.getD q 0, by simp [hq], h⟩
  simp [this]
theorem ref_good {k : List Int} (h : ∀ q, q < k.length → badR (k.getD q 0) = false) (b : Bool) : (!k.any badR && b) = b := by
  have : k.any badR = false := by
    rw [List.any_eq_false]
    intro x hx
    obtain ⟨q, hq, rfl⟩ := List.getElem_of_mem hx
    have := h q hq
    simpa [hq] using this
  simp [this]
/-- What comes of the rest of a block. -/
def goRX (v c : Int) (k k2 : Nat) (e : S34) (rest : List S36) (ids : List Int) (l : List S38) : Bool :=
  match goRI v c k k2 ids l with
  | some ids' => cond (endR e v k2) (goRB v c k k2 ids' rest) false
  | none => false
theorem goRB_cons (v c : Int) (k k2 : Nat) (ids : List Int) (b : S36) (r : List S36) : goRB v c k k2 ids (b :: r) = goRX v c k k2 b.f1 r ids b.f0 := rfl
theorem goRX_nil (v c : Int) (k k2 : Nat) (e : S34) (r : List S36) (ids : List Int) : goRX v c k k2 e r ids [] = cond (endR e v k2) (goRB v c k k2 ids r) false := rfl
theorem goRX_bad {v c : Int} {k k2 : Nat} {e : S34} {rest : List S36} {ids : List Int} {i : S38} {l : List S38} (h : refI i v c k k2 = false) : goRX v c k k2 e rest ids (i :: l) = false := by
  simp [goRX, goRI, h]
theorem goRX_seen {v c : Int} {k k2 : Nat} {e : S34} {rest : List S36} {ids : List Int} {i : S38} {l : List S38} (h : refI i v c k k2 = true) (h1 : 0 < i.f7) {q : Nat} (hq : q < ids.length) (h2 : ids.getD q 0 = i.f7) : goRX v c k k2 e rest ids (i :: l) = false := by
  have : ids.contains i.f7 = true := by
    rw [List.contains_iff_mem, ← h2]
    simp [hq]
  unfold goRX
  simp only [goRI, h, cond_true, decide_eq_true h1, this]
theorem goRX_new {v c : Int} {k k2 : Nat} {e : S34} {rest : List S36} {ids : List Int} {i : S38} {l : List S38} (h : refI i v c k k2 = true) (h1 : 0 < i.f7) (h2 : ∀ q, q < ids.length → ids.getD q 0 ≠ i.f7) : goRX v c k k2 e rest ids (i :: l) = goRX v c k k2 e rest (ids ++ [i.f7]) l := by
  have : ids.contains i.f7 = false := by
    rw [Bool.eq_false_iff]
    intro hc
    rw [List.contains_iff_mem] at hc
    obtain ⟨q, hq, hqe⟩ := List.getElem_of_mem hc
    exact h2 q hq (by simpa [hq] using hqe)
  unfold goRX
  simp only [goRI, h, cond_true, decide_eq_true h1, this, cond_false]
theorem goRX_none {v c : Int} {k k2 : Nat} {e : S34} {rest : List S36} {ids : List Int} {i : S38} {l : List S38} (h : refI i v c k k2 = true) (h1 : ¬ 0 < i.f7) : goRX v c k k2 e rest ids (i :: l) = goRX v c k k2 e rest ids l := by
  simp [goRX, goRI, h, h1]
theorem drop_getD {α : Type} (l : List α) (z : α) (i : Nat) (h : i < l.length) : l.drop i = l.getD i z :: l.drop (i + 1) := by
  rw [List.drop_eq_getElem_cons h]
  simp [h]
theorem r_cells3 {w : World} {g : Nat} {t : TypeId} {x0 x1 x2 : Value} (h : w.heap[g]? = some (.cells #[x0, x1, x2] t (0, 0))) : w.cell? ⟨g, 0, none⟩ = some x0 ∧ w.cell? ⟨g, 1, none⟩ = some x1 ∧ w.cell? ⟨g, 2, none⟩ = some x2 := ⟨(blk_cell h 0).trans rfl, (blk_cell h 1).trans rfl, (blk_cell h 2).trans rfl⟩
theorem r_cells8 {w : World} {g : Nat} {t : TypeId} {x0 x1 x2 x3 x4 x5 x6 x7 : Value} (h : w.heap[g]? = some (.cells #[x0, x1, x2, x3, x4, x5, x6, x7] t (0, 0))) : w.cell? ⟨g, 0, none⟩ = some x0 ∧ w.cell? ⟨g, 1, none⟩ = some x1 ∧ w.cell? ⟨g, 2, none⟩ = some x2 ∧ w.cell? ⟨g, 3, none⟩ = some x3 ∧ w.cell? ⟨g, 4, none⟩ = some x4 ∧ w.cell? ⟨g, 5, none⟩ = some x5 ∧ w.cell? ⟨g, 6, none⟩ = some x6 ∧ w.cell? ⟨g, 7, none⟩ = some x7 := ⟨(blk_cell h 0).trans rfl, (blk_cell h 1).trans rfl, (blk_cell h 2).trans rfl, (blk_cell h 3).trans rfl, (blk_cell h 4).trans rfl, (blk_cell h 5).trans rfl, (blk_cell h 6).trans rfl, (blk_cell h 7).trans rfl⟩
theorem r_alloc {ops : Array Oper} {rest : List Oper} {o : Oper} {a : Act} {Q : Exit → Act → World → Prop} {W : World} {t : TypeId} {zs : Array Value} (hg : o.guard = none) (hop : o.op = .alloc t)
    (hz : (Instr.alloc t true (.tuple #[])).run Tryd.prog W = .ok (.pointer (some ⟨W.heap.size, 0, none⟩)) (W.alloc (.cells zs t (0, 0))))
    (h : ∀ b, b = W.heap.size → ∀ w1, w1.heap[b]? = some (.cells zs t (0, 0)) → Below W.heap.size W w1 → wpList Tryd.prog ops Q rest (a.put o.dst (.pointer (some ⟨b, 0, none⟩))) w1) : wpList Tryd.prog ops Q (o :: rest) a W :=
  Kd.event_run hg (by simp only [execOp, hop]; simp [hz, Result.andThen]) (h _ rfl _ (blk_new W _) (below_alloc (Below.refl _ _) _))
theorem r_store {ops : Array Oper} {rest : List Oper} {o : Oper} {a : Act} {Q : Exit → Act → World → Prop} {W : World} {t : TypeId} {x v : Operand} {g : Nat} {old cs : Array Value} (hg : o.guard = none) (hop : o.op = .store t x v) (hN : o.dst = none) (hx : a.eval x = .pointer (some ⟨g, 0, none⟩)) (hv : a.eval v = .agg cs)
    (hb : W.heap[g]? = some (.cells old t (0, 0))) (hi : (Tryd.prog.info? t).map (·.size) = some cs.size) (ho : old.size = cs.size) (h1 : cs.all (·.oneCell') = true)
    (h : ∀ w1, w1.heap[g]? = some (.cells cs t (0, 0)) → W.grownBy w1 (some g) → wpList Tryd.prog ops Q rest a w1) : wpList Tryd.prog ops Q (o :: rest) a W := by
  refine wpList_plain hg fun K hK => ?_
  have hrow := run_storeVar_row (P := Tryd.prog) W g t t old cs hb hi ho h1
  have hrun : (execOp a.eval o).run Tryd.prog W = .ok .skip (W.setRow g cs) := by
    simp [execOp, hop, hx, hv, Instr.storeAt, Instr.sureAddr, hrow, Result.andThen]
  unfold Oper.wp
  rw [hrun]
  show K (a.put o.dst undef) _
  rw [hN]
  exact hK _ _ (h _ (setRow_heap W g old cs t (0, 0) hb) ⟨rfl, rfl, rfl, by simp, fun i _ hi2 => setRow_other W g i cs (fun e => hi2 (by rw [e]))⟩)
theorem r_below {n g : Nat} {w W W1 : World} (h : Below n w W) (hg : W.grownBy W1 (some g)) (hn : n ≤ g) (hs : n ≤ W.heap.size) : Below n w W1 :=
  ⟨hg.os.trans h.os, hg.tape.trans h.tape, hg.output.trans h.output, Nat.le_trans h.size hg.size, fun i hi => (hg.block i (Nat.lt_of_lt_of_le hi hs) (fun e => by injection e with e; omega)).trans (h.block i hi)⟩
theorem r_cells4 {w : World} {g : Nat} {t : TypeId} {x0 x1 x2 x3 : Value} (h : w.heap[g]? = some (.cells #[x0, x1, x2, x3] t (0, 0))) : w.cell? ⟨g, 0, none⟩ = some x0 ∧ w.cell? ⟨g, 1, none⟩ = some x1 ∧ w.cell? ⟨g, 2, none⟩ = some x2 ∧ w.cell? ⟨g, 3, none⟩ = some x3 := ⟨(blk_cell h 0).trans rfl, (blk_cell h 1).trans rfl, (blk_cell h 2).trans rfl, (blk_cell h 3).trans rfl⟩
set_option maxRecDepth 100000 in
set_option maxHeartbeats 8000000 in
theorem spinnakerref26_Right.calls (a0_0 : Int) (A0_1 : Option Addr) (c0_1 : Nat) (l0_1 : List Int) (A0_2 : Option Addr) (c0_2 : Nat) (l0_2 : List (S36)) (a1 : Int) (r : Bool) (w : World) (hr0_1 : Kd.C (Kd.int .i64) w A0_1 l0_1.length l0_1) (hc0_1 : l0_1.length ≤ c0_1) (hr0_2 : Kd.C k36 w A0_2 l0_2.length l0_2) (hc0_2 : l0_2.length ≤ c0_2) (h : spinnakerref26_Right.f a0_0 l0_1 l0_2 a1 = some r) :
    Calls Tryd.prog 10 #[.agg #[.int .i64 a0_0, .slice A0_1 l0_1.length c0_1, .slice A0_2 l0_2.length c0_2], .int .i64 a1] w fun e w' => e = .returned (.bool r) ∧ Below w.heap.size w w' := by
  have hok : okLen l0_1 l0_2 := by
    unfold spinnakerref26_Right.f at h
    by_cases e : okLen l0_1 l0_2
    · exact e
    · rw [if_neg e] at h; cases h
  unfold spinnakerref26_Right.f at h
  rw [if_pos hok] at h
  injection h with h
  have hu25 := Tryd.underlying25
  have hu38 := Tryd.underlying38
  have hu34 := Tryd.underlying34
  have hu36 := Tryd.underlying36
  have HOK := Aside0.mk hok
  clear hok
  have HR0_1 := Aside0.mk hr0_1
  have HC0_1 := Aside0.mk hc0_1
  clear hr0_1 hc0_1
  have HR0_2 := Aside0.mk hr0_2
  have HC0_2 := Aside0.mk hc0_2
  clear hr0_2 hc0_2
  have HB := Aside0.mk (Below.refl w.heap.size w)
  go_enter Tryd.func10, Tryd.ntmps10
  go_upto_region 1 with (first | ((with_reducible refine gate_dst (N := 2) rfl ?_); refine box_event ?hg (N := 2) ?hd (cs := #[.int .i64 a0_0, .slice A0_1 l0_1.length c0_1, .slice A0_2 l0_2.length c0_2]) (t := 25) ?hr ?_; (case hd => rfl); (case hg => rfl); (case hr => first | (go_simp; done) | (go_simp; rfl)); intro gt hg wb hbox hb; have n0_ := Aside0.mk (below_step (by repeat (first | (with_reducible first | exact HB.out | apply below_alloc | apply pw_below_drewN | apply below_drew1) | exact HB.out)) hb); have BKgt := Aside0.mk hbox; clear HB; have HB := n0_; clear n0_ hb hbox hg))
  obtain ⟨ht0, ht1, ht2⟩ := r_cells3 BKgt.out
  by_cases c1 : a0_0 < 0
  · have c1b : decide (a0_0 < 0) = true := decide_eq_true c1
    obtain rfl := (ref_early (k := l0_1) (k2 := l0_2) (c := a1) (v := a0_0) (.inl c1)).symm.trans h
    clear c1 h
    go_wp2
    go_ret
    exact ⟨rfl, HB.out⟩
  have c1b : decide (a0_0 < 0) = false := decide_eq_false c1
  by_cases c2 : 200 < a0_0
  · have c2b : decide (200 < a0_0) = true := decide_eq_true c2
    obtain rfl := (ref_early (k := l0_1) (k2 := l0_2) (c := a1) (v := a0_0) (.inr (.inl c2))).symm.trans h
    clear c2 h
    go_wp2
    go_ret
    exact ⟨rfl, HB.out⟩
  have c2b : decide (200 < a0_0) = false := decide_eq_false c2
  by_cases c3 : (l0_2.length : Int) < 1
  · have c3b : decide ((l0_2.length : Int) < 1) = true := decide_eq_true c3
    obtain rfl := (ref_early (k := l0_1) (k2 := l0_2) (c := a1) (v := a0_0) (.inr (.inr (.inl c3)))).symm.trans h
    clear c3 h
    go_wp2
    go_ret
    exact ⟨rfl, HB.out⟩
  have c3b : decide ((l0_2.length : Int) < 1) = false := decide_eq_false c3
  by_cases c4 : 4000 < (l0_2.length : Int)
  · have c4b : decide (4000 < (l0_2.length : Int)) = true := decide_eq_true c4
    obtain rfl := (ref_early (k := l0_1) (k2 := l0_2) (c := a1) (v := a0_0) (.inr (.inr (.inr c4)))).symm.trans h
    clear c4 h
    go_wp2
    go_ret
    exact ⟨rfl, HB.out⟩
  have c4b : decide (4000 < (l0_2.length : Int)) = false := decide_eq_false c4
  rw [ref_late c1 c2 c3 c4] at h
  have H4 := Aside0.mk (show l0_2.length ≤ 4000 by omega)
  clear c1 c2 c3 c4
  have HH := Aside0.mk h
  clear h
  go_wp2
  clear ht0 ht1 ht2 c1b c2b c3b c4b
  go_loopg [5] l0_1.length (fun gg v5 wr => ∃ q : Nat, q ≤ l0_1.length ∧ l0_1.length - q ≤ gg ∧ v5 = .int .i64 (q : Int) ∧ Aside0 (∀ p, p < q → badR (l0_1.getD p 0) = false) ∧ Aside0 (wr.heap[gt]? = some (.cells #[.int .i64 a0_0, .slice A0_1 l0_1.length c0_1, .slice A0_2 l0_2.length c0_2] 25 (0, 0))) ∧ Aside0 (Below w.heap.size w wr))
  case atStart => exact ⟨0, Nat.zero_le _, by omega, rfl, ⟨fun p hp => absurd hp (Nat.not_lt_zero _)⟩, BKgt, HB⟩
  case round =>
    clear BKgt HB
    obtain ⟨q, hq, hgq, rfl, HQ, BKgt, HB⟩ := hrel
    obtain ⟨ht0, ht1, ht2⟩ := r_cells3 BKgt.out
    by_cases hlq : q < l0_1.length
    · have hlqz : (q : Int) < (l0_1.length : Int) := by omega
      obtain ⟨adq, rfl, hx⟩ := Kd.at_int HR0_1.out (q : Int) (by omega) hlqz
      replace hx := (HB.out.cell (World.block_lt_of_cell? w _ hx)).trans hx
      rw [Int.toNat_natCast, show rd l0_1 (q : Int) = l0_1.getD q 0 by simp [rd]] at hx
      by_cases d1 : l0_1.getD q 0 < 1
      · have d1b : decide (l0_1.getD q 0 < 1) = true := decide_eq_true d1
        obtain rfl := (ref_bad hlq (by simp only [badR, d1b]; rfl) _).symm.trans HH.out
        clear d1 HH
        generalize l0_1.getD q 0 = y at hx d1b
        go_wp2
        go_ret
        exact ⟨rfl, HB.out⟩
      · have d1b : decide (l0_1.getD q 0 < 1) = false := decide_eq_false d1
        by_cases d2 : 250 < l0_1.getD q 0
        · have d2b : decide (250 < l0_1.getD q 0) = true := decide_eq_true d2
          obtain rfl := (ref_bad hlq (by simp only [badR, d1b, d2b]; rfl) _).symm.trans HH.out
          clear d1 d2 HH
          generalize l0_1.getD q 0 = y at hx d1b d2b
          go_wp2
          go_ret
          exact ⟨rfl, HB.out⟩
        · have d2b : decide (250 < l0_1.getD q 0) = false := decide_eq_false d2
          have hgood : badR (l0_1.getD q 0) = false := by simp only [badR, d1b, d2b]; rfl
          have HGD := Aside0.mk hgood
          clear d1 d2 hgood
          obtain ⟨y, hy⟩ : ∃ y, Aside0 (l0_1.getD q 0 = y) := ⟨_, ⟨rfl⟩⟩
          rw [hy.out] at hx d1b d2b
          go_wp2
          go_roundg (l0_1.length - (q + 1))
          case measure => omega
          case rel =>
            refine ⟨q + 1, by omega, by omega, by rw [show wrap64 ((q : Int) + 1) = ((q + 1 : Nat) : Int) by unfold wrap64; have := HOK.out.1; omega], ⟨fun p hp => ?_⟩, BKgt, HB⟩
            by_cases e : p = q
            · subst e; exact HGD.out
            · exact HQ.out p (by omega)
    · have hq2 : q = l0_1.length := by omega
      have hlqz : ¬ (q : Int) < (l0_1.length : Int) := by omega
      have h2 := (ref_good (fun p hp => HQ.out p (by omega)) _).symm.trans HH.out
      clear HH HQ hlq
      have HH := Aside0.mk h2
      clear h2
      go_wp2
      clear ht0 ht1 ht2
      go_loopg [6, 8] l0_2.length (fun gg v6 v8 wr => ∃ (k : Nat) (ids : List Int), k ≤ l0_2.length ∧ l0_2.length - k ≤ gg ∧ v8 = .int .i64 (k : Int) ∧ Aside0 (goRB a0_0 a1 l0_1.length l0_2.length ids (l0_2.drop k) = r) ∧ Aside0 (ids.length ≤ k * 1048576) ∧ Aside0 (Kd.R (Kd.int .i64) 3 wr w.heap.size (fun _ => True) v6 ids) ∧ Aside0 (wr.heap[gt]? = some (.cells #[.int .i64 a0_0, .slice A0_1 l0_1.length c0_1, .slice A0_2 l0_2.length c0_2] 25 (0, 0))) ∧ Aside0 (Below w.heap.size w wr))
      case atStart => exact ⟨0, [], Nat.zero_le _, by omega, rfl, ⟨by simpa using HH.out⟩, ⟨Nat.zero_le _⟩, ⟨Kd.R_nil _ _ _ _ _⟩, BKgt, HB⟩
      case round =>
        clear HH BKgt HB
        obtain ⟨k, ids, hk, hgg, rfl, HH, HN, HO, BKgt, HB⟩ := hrel
        obtain ⟨Ao, co, eo⟩ := Kd.R_slice HO.out
        subst eo
        by_cases hlt : k < l0_2.length
        · have hltz : (k : Int) < (l0_2.length : Int) := by omega
          obtain ⟨ad, A, c, rfl, hx0, hx1, hx2, hx3, hx4, hl, hi⟩ := at_T36 HR0_2.out (k : Int) (by omega) hltz
          rw [show rd_T36 l0_2 (k : Int) = l0_2.getD k z36 by simp [rd_T36]] at hx0 hx1 hx2 hx3 hx4 hl hi
          have hmem : l0_2.getD k z36 ∈ l0_2 := by simp [hlt]
          have hlen := HOK.out.2 _ hmem
          have hdrop := drop_getD l0_2 z36 k hlt
          have HH2 := HH.out
          rw [hdrop, goRB_cons] at HH2
          clear HH hdrop hmem
          generalize l0_2.getD k z36 = bk at hx0 hx1 hx2 hx3 hx4 hl hi hlen HH2
          rw [Int.toNat_natCast] at hx0 hx1 hx2 hx3 hx4
          have HH := Aside0.mk HH2
          have HI := Aside0.mk hi
          have HID := Aside0.mk hlen
          have HX0 := Aside0.mk hx0
          have HX1 := Aside0.mk hx1
          have HX2 := Aside0.mk hx2
          have HX3 := Aside0.mk hx3
          have HX4 := Aside0.mk hx4
          clear HH2 hi hl hlen hx0 hx1 hx2 hx3 hx4
          go_wp2
          go_loopg [6, 9] bk.f0.length (fun gg v6 v9 wr => ∃ (j : Nat) (ids' : List Int), j ≤ bk.f0.length ∧ bk.f0.length - j ≤ gg ∧ v9 = .int .i64 (j : Int) ∧ Aside0 (goRX a0_0 a1 l0_1.length l0_2.length bk.f1 (l0_2.drop (k + 1)) ids' (bk.f0.drop j) = r) ∧ Aside0 (ids'.length ≤ k * 1048576 + j) ∧ Aside0 (Kd.R (Kd.int .i64) 3 wr w.heap.size (fun _ => True) v6 ids') ∧ Aside0 (wr.heap[gt]? = some (.cells #[.int .i64 a0_0, .slice A0_1 l0_1.length c0_1, .slice (some ad) l0_2.length c0_2] 25 (0, 0))) ∧ Aside0 (Below w.heap.size w wr))
          case atStart => exact ⟨0, ids, Nat.zero_le _, by omega, rfl, ⟨by simpa using HH.out⟩, ⟨Nat.le_trans HN.out (Nat.le_add_right _ _)⟩, HO, BKgt, HB⟩
          case round =>
            clear HH HN HO BKgt HB
            obtain ⟨j, ids', hj, hgj, rfl, HH, HN, HO, BKgt, HB⟩ := hrel
            obtain ⟨Ao2, co2, eo⟩ := Kd.R_slice HO.out
            subst eo
            obtain ⟨ht0, ht1, ht2⟩ := r_cells3 BKgt.out
            have hx0 := (HB.out.cell (World.block_lt_of_cell? w _ HX0.out)).trans HX0.out
            by_cases hlj : j < bk.f0.length
            · have hljz : (j : Int) < (bk.f0.length : Int) := by omega
              obtain ⟨ad2, rfl, hy0, hy1, hy2, hy3, hy4, hy5, hy6, hy7⟩ := at_T38 HI.out (j : Int) (by omega) hljz
              rw [show rd_T38 bk.f0 (j : Int) = bk.f0.getD j z38 by simp [rd_T38]] at hy0 hy1 hy2 hy3 hy4 hy5 hy6 hy7
              have hdrop := drop_getD bk.f0 z38 j hlj
              have HH2 := HH.out
              rw [hdrop] at HH2
              clear HH hdrop
              generalize bk.f0.getD j z38 = i at hy0 hy1 hy2 hy3 hy4 hy5 hy6 hy7 HH2
              have HH := Aside0.mk HH2
              clear HH2
              rw [Int.toNat_natCast] at hy0 hy1 hy2 hy3 hy4 hy5 hy6 hy7
              replace hy0 := (HB.out.cell (World.block_lt_of_cell? w _ hy0)).trans hy0
              replace hy1 := (HB.out.cell (World.block_lt_of_cell? w _ hy1)).trans hy1
              replace hy2 := (HB.out.cell (World.block_lt_of_cell? w _ hy2)).trans hy2
              replace hy3 := (HB.out.cell (World.block_lt_of_cell? w _ hy3)).trans hy3
              replace hy4 := (HB.out.cell (World.block_lt_of_cell? w _ hy4)).trans hy4
              replace hy5 := (HB.out.cell (World.block_lt_of_cell? w _ hy5)).trans hy5
              replace hy6 := (HB.out.cell (World.block_lt_of_cell? w _ hy6)).trans hy6
              replace hy7 := (HB.out.cell (World.block_lt_of_cell? w _ hy7)).trans hy7
              go_upto_region 17 with (first | ((with_reducible refine gate_dst (N := 10) rfl ?_); refine r_alloc rfl (t := 38) (zs := #[.int .i64 0, .int .i64 0, .int .i64 0, .int .i64 0, .int .i64 0, .int .i64 0, .int .i64 0, .int .i64 0]) rfl (by kernel_rfl) ?_; intro gi hgi wb hnew hb; have BKgi := Aside0.mk hnew; have Ggi := Aside0.mk (show w.heap.size ≤ gi by rw [hgi]; exact below_size (by repeat (first | (with_reducible first | exact HB.out | apply below_alloc | apply pw_below_drewN | apply below_drew1) | exact HB.out))); have NEgigt := Aside0.mk (show gi ≠ gt by rw [hgi]; exact Nat.ne_of_gt (blk_lt BKgt.out)); have n0_ := Aside0.mk (below_step (by repeat (first | (with_reducible first | exact HB.out | apply below_alloc | apply pw_below_drewN | apply below_drew1) | exact HB.out)) hb); have n1_ := Aside0.mk (blk_below BKgt.out hb); have n9_ := Aside0.mk (Kd.R_below HO.out hb); clear HB HO BKgt hb; have HB := n0_; have HO := n9_; have BKgt := n1_; clear n0_ n9_ n1_; clear hnew hgi) | ((with_reducible refine gate_store (t := 38) (p := 10) rfl ?_); refine r_store rfl (t := 38) rfl rfl rfl rfl BKgi.out (by kernel_rfl) rfl (by first | (simp; done) | (simp [Value.oneCell']; done) | (simp; rfl)) ?_; intro wb hnew hgr; have n0_ := Aside0.mk (r_below HB.out hgr Ggi.out HB.out.size); have n1_ := Aside0.mk (blk_grown BKgt.out hgr (fun e => by injection e with e; exact NEgigt.out e.symm)); have n9_ := Aside0.mk (Kd.R_grown1 HO.out rfl hgr (Kd.R_ne HO.out BKgi.out (by decide))); have n8_ := Aside0.mk hnew; clear HB HO BKgi BKgt hnew hgr; have HB := n0_; have HO := n9_; have BKgi := n8_; have BKgt := n1_; clear n0_ n9_ n8_ n1_))
              clear hy0 hy1 hy2 hy3 hy4 hy5 hy6 hy7 hx0
              obtain ⟨ht0, ht1, ht2⟩ := r_cells3 BKgt.out
              obtain ⟨hi0, hi1, hi2, hi3, hi4, hi5, hi6, hi7⟩ := r_cells8 BKgi.out
              cases hri : insR i.f0 i.f1 i.f2 i.f3 i.f4 i.f5 i.f6 i.f7 a0_0 a1 l0_1.length l0_2.length with
              | false =>
                obtain rfl := (goRX_bad hri).symm.trans HH.out
                clear HH
                go_upto_if 86 with (first | (go_at_call 34; refine (spinnakerref26_right.calls _ _ _ _ _ _ _ _ _ _ _ l0_1 _ _ l0_2 _ _ _ (Kd.C_below HR0_1.out HB.out) HC0_1.out (Kd.C_below HR0_2.out HB.out) HC0_2.out rfl).mono ?_; rintro e wb ⟨rfl, hb⟩; have n0_ := Aside0.mk (below_step (by repeat (first | (with_reducible first | exact HB.out | apply below_alloc | apply pw_below_drewN | apply below_drew1) | exact HB.out)) hb); have n1_ := Aside0.mk (blk_below BKgt.out hb); have n2_ := Aside0.mk (blk_below BKgi.out hb); have n9_ := Aside0.mk (Kd.R_below HO.out hb); clear HB HO BKgt BKgi hb; have HB := n0_; have HO := n9_; have BKgt := n1_; have BKgi := n2_; clear n0_ n9_ n1_ n2_; clear hi0 hi1 hi2 hi3 hi4 hi5 hi6 hi7; obtain ⟨hi0, hi1, hi2, hi3, hi4, hi5, hi6, hi7⟩ := r_cells8 BKgi.out))
                clear HR0_1 HR0_2 HC0_1 HC0_2 HOK H4 HI HID HN HO HX0 HX1 HX2 HX3 HX4 BKgt BKgi NEgigt Ggi ht0 ht1 ht2 hi0 hi1 hi2 hi3 hi4 hi5 hi6 hi7
                go_wp2
                go_ret
                exact ⟨rfl, HB.out⟩
              | true =>
                go_upto_if 86 with (first | (go_at_call 34; refine (spinnakerref26_right.calls _ _ _ _ _ _ _ _ _ _ _ l0_1 _ _ l0_2 _ _ _ (Kd.C_below HR0_1.out HB.out) HC0_1.out (Kd.C_below HR0_2.out HB.out) HC0_2.out rfl).mono ?_; rintro e wb ⟨rfl, hb⟩; have n0_ := Aside0.mk (below_step (by repeat (first | (with_reducible first | exact HB.out | apply below_alloc | apply pw_below_drewN | apply below_drew1) | exact HB.out)) hb); have n1_ := Aside0.mk (blk_below BKgt.out hb); have n2_ := Aside0.mk (blk_below BKgi.out hb); have n9_ := Aside0.mk (Kd.R_below HO.out hb); clear HB HO BKgt BKgi hb; have HB := n0_; have HO := n9_; have BKgt := n1_; have BKgi := n2_; clear n0_ n9_ n1_ n2_; clear hi0 hi1 hi2 hi3 hi4 hi5 hi6 hi7; obtain ⟨hi0, hi1, hi2, hi3, hi4, hi5, hi6, hi7⟩ := r_cells8 BKgi.out))
                by_cases c7 : 0 < i.f7
                · have c7b : decide (0 < i.f7) = true := decide_eq_true c7
                  go_wp2
                  clear ht0 ht1 ht2 hi0 hi1 hi2 hi3 hi4 hi5 hi6 hi7 c7b
                  go_loopg [11] ids'.length (fun gg v11 wr => ∃ m : Nat, m ≤ ids'.length ∧ ids'.length - m ≤ gg ∧ v11 = .int .i64 (m : Int) ∧ Aside0 (∀ p, p < m → ids'.getD p 0 ≠ i.f7) ∧ Aside0 (Kd.R (Kd.int .i64) 3 wr w.heap.size (fun _ => True) (.slice Ao2 ids'.length co2) ids') ∧ Aside0 (wr.heap[gt]? = some (.cells #[.int .i64 a0_0, .slice A0_1 l0_1.length c0_1, .slice (some ad) l0_2.length c0_2] 25 (0, 0))) ∧ Aside0 (wr.heap[gi]? = some (.cells #[.int .i64 i.f0, .int .i64 i.f1, .int .i64 i.f2, .int .i64 i.f3, .int .i64 i.f4, .int .i64 i.f5, .int .i64 i.f6, .int .i64 i.f7] 38 (0, 0))) ∧ Aside0 (Below w.heap.size w wr))
                  case atStart => exact ⟨0, Nat.zero_le _, by omega, rfl, ⟨fun p hp => absurd hp (Nat.not_lt_zero _)⟩, HO, BKgt, BKgi, HB⟩
                  case round =>
                    clear HO BKgt BKgi HB
                    obtain ⟨m, hm, hgm, rfl, HQ2, HO, BKgt, BKgi, HB⟩ := hrel
                    obtain ⟨hi0, hi1, hi2, hi3, hi4, hi5, hi6, hi7⟩ := r_cells8 BKgi.out
                    by_cases hlm : m < ids'.length
                    · have hlmz : (m : Int) < (ids'.length : Int) := by omega
                      obtain ⟨Ao3, co3, eo, _, hC⟩ := Kd.R_reads HO.out
                      injection eo with e1 e2 e3
                      subst e1
                      clear e2 e3
                      obtain ⟨adm, rfl, hz⟩ := Kd.at_int hC (m : Int) (by omega) hlmz
                      rw [Int.toNat_natCast, show rd ids' (m : Int) = ids'.getD m 0 by simp [rd]] at hz
                      clear hC
                      obtain ⟨y, hy⟩ : ∃ y, Aside0 (ids'.getD m 0 = y) := ⟨_, ⟨rfl⟩⟩
                      rw [hy.out] at hz
                      by_cases c9 : y = i.f7
                      · have c9b : (y == i.f7) = true := beq_iff_eq.mpr c9
                        obtain rfl := (goRX_seen hri c7 hlm (hy.out.trans c9)).symm.trans HH.out
                        clear HH HQ2 c9 c7 hri
                        go_wp2
                        repeat (go_quiet (fail); try go_wp2)
                        go_ret
                        exact ⟨rfl, by repeat (first | (with_reducible first | exact HB.out | apply below_alloc | apply pw_below_drewN | apply below_drew1) | exact HB.out)⟩
                      · have c9b : (y == i.f7) = false := beq_eq_false_iff_ne.mpr c9
                        have HC9 := Aside0.mk c9
                        clear c9
                        go_wp2
                        repeat (go_quiet (fail); try go_wp2)
                        go_roundg (ids'.length - (m + 1))
                        case measure => omega
                        case rel =>
                          refine ⟨m + 1, by omega, by omega, by rw [show wrap64 ((m : Int) + 1) = ((m + 1 : Nat) : Int) by unfold wrap64; have := HN.out; have := HID.out; have := H4.out; omega], ⟨fun p hp => ?_⟩, ⟨by (with_reducible repeat (first | apply Kd.R_alloc | apply Kd.R_drewN | apply Kd.R_drew)); exact HO.out⟩, ⟨by (with_reducible repeat (first | refine blk_drewN ?_ _ | refine blk_drew ?_ | refine blk_alloc ?_ _)); exact BKgt.out⟩, ⟨by (with_reducible repeat (first | refine blk_drewN ?_ _ | refine blk_drew ?_ | refine blk_alloc ?_ _)); exact BKgi.out⟩, ⟨by repeat (first | (with_reducible first | exact HB.out | apply below_alloc | apply pw_below_drewN | apply below_drew1) | exact HB.out)⟩⟩
                          by_cases e : p = m
                          · subst e; rw [hy.out]; exact HC9.out
                          · exact HQ2.out p (by omega)
                    · have hm2 : m = ids'.length := by omega
                      have hlmz : ¬ (m : Int) < (ids'.length : Int) := by omega
                      have HH2 := HH.out
                      rw [goRX_new hri c7 (fun q hq => HQ2.out q (by omega))] at HH2
                      clear HH HQ2 hlm hri c7
                      have HH := Aside0.mk HH2
                      clear HH2
                      go_wp2_with (first | ((with_reducible refine gate_builtin (b := .append) (xs := #[.tmp 103, .tmp 106]) rfl ?_); (try (refine gate_guard (by rfl) ?_; dsimp only)); at_builtin; refine Kd.R_append (Kd.int .i64) (w0 := w) w.heap.size rfl (.tmp 103) (.tmp 106) 22 3 (.int .i64 0) 8 rfl Tryd.underlying22 info3 rfl (by decide) (by omega) (.slice Ao2 ids'.length co2) ids' i.f7 [.int .i64 i.f7] (fun _ => True) (fun _ => False) rfl rfl ?aP (fun _ hk => hk.elim) ?aF ?aO ?aB ?aS ?aL ?_; (case aP => exact rfl); (case aB => exact HB.out); (case aF => exact (fun _ _ => trivial)); (case aO => exact HO.out); (case aS => exact (below_size HB.out)); (case aL => have h1 := HN.out; have h2 := HID.out; have h4 := H4.out; have h5 : k * 1048576 ≤ 4000 * 1048576 := Nat.mul_le_mul_right _ (by omega); omega); intro v113 wb ho hb hg hat; have n0_ := Aside0.mk (blk_grown BKgt.out hg (Kd.R_ne HO.out BKgt.out (by decide))); have n2_ := Aside0.mk hb; have n3_ := Aside0.mk ho; clear BKgt BKgi HB HO hi0 hi1 hi2 hi3 hi4 hi5 hi6 hi7; have BKgt := n0_; have HB := n2_; have HO := n3_; clear n0_ n2_ n3_ ho hb hg hat))
                      go_roundg (bk.f0.length - (j + 1))
                      case measure => omega
                      case rel => exact ⟨j + 1, ids' ++ [i.f7], by omega, by omega, by rw [show wrap64 ((j : Int) + 1) = ((j + 1 : Nat) : Int) by unfold wrap64; have := HID.out; omega], HH, ⟨by rw [List.length_append]; exact Nat.succ_le_succ HN.out⟩, HO, BKgt, HB⟩
                · have c7b : decide (0 < i.f7) = false := decide_eq_false c7
                  have HH2 := HH.out
                  rw [goRX_none hri c7] at HH2
                  clear HH c7 hri
                  have HH := Aside0.mk HH2
                  clear HH2
                  go_wp2
                  go_roundg (bk.f0.length - (j + 1))
                  case measure => omega
                  case rel => exact ⟨j + 1, ids', by omega, by omega, by rw [show wrap64 ((j : Int) + 1) = ((j + 1 : Nat) : Int) by unfold wrap64; have := HID.out; omega], HH, ⟨Nat.le_succ_of_le HN.out⟩, HO, BKgt, HB⟩
            · have hj2 : j = bk.f0.length := by omega
              have HH2 := HH.out
              rw [hj2, List.drop_length, goRX_nil] at HH2
              have hljz : ¬ (j : Int) < (bk.f0.length : Int) := by omega
              clear HH hlj
              have hx1 := (HB.out.cell (World.block_lt_of_cell? w _ HX1.out)).trans HX1.out
              have hx2 := (HB.out.cell (World.block_lt_of_cell? w _ HX2.out)).trans HX2.out
              have hx3 := (HB.out.cell (World.block_lt_of_cell? w _ HX3.out)).trans HX3.out
              have hx4 := (HB.out.cell (World.block_lt_of_cell? w _ HX4.out)).trans HX4.out
              unfold endR at HH2
              have HJ : Aside0 (j ≤ 1048576) := ⟨by have := HID.out; omega⟩
              have HN2 : Aside0 (ids'.length ≤ (k + 1) * 1048576) := ⟨by have := HN.out; have := HJ.out; rw [Nat.succ_mul]; omega⟩
              clear HX0 HX1 HX2 HX3 HX4 HN
              generalize bk.f1.f0 = e0 at HH2 hx1
              generalize bk.f1.f1 = e1 at HH2 hx2
              generalize bk.f1.f2 = e2 at HH2 hx3
              generalize bk.f1.f3 = e3 at HH2 hx4
              go_upto_region 27 with (first | ((with_reducible refine gate_dst (N := 12) rfl ?_); refine r_alloc rfl (t := 34) (zs := #[.int .i64 0, .int .i64 0, .int .i64 0, .int .i64 0]) rfl (by kernel_rfl) ?_; intro ge hge wb hnew hb; have BKge := Aside0.mk hnew; have Gge := Aside0.mk (show w.heap.size ≤ ge by rw [hge]; exact below_size (by repeat (first | (with_reducible first | exact HB.out | apply below_alloc | apply pw_below_drewN | apply below_drew1) | exact HB.out))); have NEgegt := Aside0.mk (show ge ≠ gt by rw [hge]; exact Nat.ne_of_gt (blk_lt BKgt.out)); have n0_ := Aside0.mk (below_step (by repeat (first | (with_reducible first | exact HB.out | apply below_alloc | apply pw_below_drewN | apply below_drew1) | exact HB.out)) hb); have n1_ := Aside0.mk (blk_below BKgt.out hb); have n9_ := Aside0.mk (Kd.R_below HO.out hb); clear HB HO BKgt hb; have HB := n0_; have HO := n9_; have BKgt := n1_; clear n0_ n9_ n1_; clear hnew hge) | ((with_reducible refine gate_store (t := 34) (p := 12) rfl ?_); refine r_store rfl (t := 34) rfl rfl rfl rfl BKge.out (by kernel_rfl) rfl (by first | (simp; done) | (simp [Value.oneCell']; done) | (simp; rfl)) ?_; intro wb hnew hgr; have n0_ := Aside0.mk (r_below HB.out hgr Gge.out HB.out.size); have n1_ := Aside0.mk (blk_grown BKgt.out hgr (fun e => by injection e with e; exact NEgegt.out e.symm)); have n9_ := Aside0.mk (Kd.R_grown1 HO.out rfl hgr (Kd.R_ne HO.out BKge.out (by decide))); have n8_ := Aside0.mk hnew; clear HB HO BKge BKgt hnew hgr; have HB := n0_; have HO := n9_; have BKge := n8_; have BKgt := n1_; clear n0_ n9_ n8_ n1_))
              clear hx0 hx1 hx2 hx3 hx4
              obtain ⟨he0, he1, he2, he3⟩ := r_cells4 BKge.out
              obtain ⟨ht0, ht1, ht2⟩ := r_cells3 BKgt.out
              go_upto_region 29 with (fail)
              unfold endR4 at HH2
              cases q1 : (e0 == 1) with
              | true =>
                rw [q1] at HH2
                simp only [cond_true] at HH2
                cases d0 : decide (e2 < 0) with
                | true =>
                  rw [d0] at HH2
                  obtain rfl : false = r := HH2
                  clear HR0_1 HR0_2 HC0_1 HC0_2 HOK H4 HI HID HJ HN2 HO BKgt BKge NEgegt Gge
                  go_wp2
                  go_ret
                  exact ⟨rfl, HB.out⟩
                | false =>
                  rw [d0] at HH2
                  cases d1 : decide ((l0_2.length : Int) ≤ e2) with
                  | true =>
                    rw [d1] at HH2
                    obtain rfl : false = r := HH2
                    clear HR0_1 HR0_2 HC0_1 HC0_2 HOK H4 HI HID HJ HN2 HO BKgt BKge NEgegt Gge
                    go_wp2
                    go_ret
                    exact ⟨rfl, HB.out⟩
                  | false =>
                    rw [d1] at HH2
                    cases d2 : (e1 != 0) with
                    | true =>
                      rw [d2] at HH2
                      obtain rfl : false = r := HH2
                      clear HR0_1 HR0_2 HC0_1 HC0_2 HOK H4 HI HID HJ HN2 HO BKgt BKge NEgegt Gge
                      go_wp2
                      go_ret
                      exact ⟨rfl, HB.out⟩
                    | false =>
                      rw [d2] at HH2
                      cases d3 : (e3 != 0) with
                      | true =>
                        rw [d3] at HH2
                        obtain rfl : false = r := HH2
                        clear HR0_1 HR0_2 HC0_1 HC0_2 HOK H4 HI HID HJ HN2 HO BKgt BKge NEgegt Gge
                        go_wp2
                        go_ret
                        exact ⟨rfl, HB.out⟩
                      | false =>
                        rw [d3] at HH2
                        have HH : Aside0 (goRB a0_0 a1 l0_1.length l0_2.length ids' (l0_2.drop (k + 1)) = r) := ⟨HH2⟩
                        clear HH2
                        go_wp2
                        go_roundg (l0_2.length - (k + 1))
                        case measure => omega
                        case rel => exact ⟨k + 1, ids', by omega, by omega, by rw [show wrap64 ((k : Int) + 1) = ((k + 1 : Nat) : Int) by unfold wrap64; have := H4.out; omega], HH, HN2, HO, BKgt, HB⟩
              | false =>
                rw [q1] at HH2
                simp only [cond_false] at HH2
                cases q2 : (e0 == 2) with
                | true =>
                  rw [q2] at HH2
                  simp only [cond_true] at HH2
                  cases d0 : decide (e2 < 0) with
                  | true =>
                    rw [d0] at HH2
                    obtain rfl : false = r := HH2
                    clear HR0_1 HR0_2 HC0_1 HC0_2 HOK H4 HI HID HJ HN2 HO BKgt BKge NEgegt Gge
                    go_wp2
                    go_ret
                    exact ⟨rfl, HB.out⟩
                  | false =>
                    rw [d0] at HH2
                    cases d1 : decide ((l0_2.length : Int) ≤ e2) with
                    | true =>
                      rw [d1] at HH2
                      obtain rfl : false = r := HH2
                      clear HR0_1 HR0_2 HC0_1 HC0_2 HOK H4 HI HID HJ HN2 HO BKgt BKge NEgegt Gge
                      go_wp2
                      go_ret
                      exact ⟨rfl, HB.out⟩
                    | false =>
                      rw [d1] at HH2
                      cases d2 : decide (e3 < 0) with
                      | true =>
                        rw [d2] at HH2
                        obtain rfl : false = r := HH2
                        clear HR0_1 HR0_2 HC0_1 HC0_2 HOK H4 HI HID HJ HN2 HO BKgt BKge NEgegt Gge
                        go_wp2
                        go_ret
                        exact ⟨rfl, HB.out⟩
                      | false =>
                        rw [d2] at HH2
                        cases d3 : decide ((l0_2.length : Int) ≤ e3) with
                        | true =>
                          rw [d3] at HH2
                          obtain rfl : false = r := HH2
                          clear HR0_1 HR0_2 HC0_1 HC0_2 HOK H4 HI HID HJ HN2 HO BKgt BKge NEgegt Gge
                          go_wp2
                          go_ret
                          exact ⟨rfl, HB.out⟩
                        | false =>
                          rw [d3] at HH2
                          cases d4 : decide (e1 < 0) with
                          | true =>
                            rw [d4] at HH2
                            obtain rfl : false = r := HH2
                            clear HR0_1 HR0_2 HC0_1 HC0_2 HOK H4 HI HID HJ HN2 HO BKgt BKge NEgegt Gge
                            go_wp2
                            go_ret
                            exact ⟨rfl, HB.out⟩
                          | false =>
                            rw [d4] at HH2
                            cases d5 : decide (a0_0 ≤ e1) with
                            | true =>
                              rw [d5] at HH2
                              obtain rfl : false = r := HH2
                              clear HR0_1 HR0_2 HC0_1 HC0_2 HOK H4 HI HID HJ HN2 HO BKgt BKge NEgegt Gge
                              go_wp2
                              go_ret
                              exact ⟨rfl, HB.out⟩
                            | false =>
                              rw [d5] at HH2
                              have HH : Aside0 (goRB a0_0 a1 l0_1.length l0_2.length ids' (l0_2.drop (k + 1)) = r) := ⟨HH2⟩
                              clear HH2
                              go_wp2
                              go_roundg (l0_2.length - (k + 1))
                              case measure => omega
                              case rel => exact ⟨k + 1, ids', by omega, by omega, by rw [show wrap64 ((k : Int) + 1) = ((k + 1 : Nat) : Int) by unfold wrap64; have := H4.out; omega], HH, HN2, HO, BKgt, HB⟩
                | false =>
                  rw [q2] at HH2
                  simp only [cond_false] at HH2
                  cases q3 : (e0 == 3) with
                  | true =>
                    rw [q3] at HH2
                    simp only [cond_true] at HH2
                    cases d0 : (e1 != 0) with
                    | true =>
                      rw [d0] at HH2
                      obtain rfl : false = r := HH2
                      clear HR0_1 HR0_2 HC0_1 HC0_2 HOK H4 HI HID HJ HN2 HO BKgt BKge NEgegt Gge
                      go_wp2
                      go_ret
                      exact ⟨rfl, HB.out⟩
                    | false =>
                      rw [d0] at HH2
                      cases d1 : (e2 != 0) with
                      | true =>
                        rw [d1] at HH2
                        obtain rfl : false = r := HH2
                        clear HR0_1 HR0_2 HC0_1 HC0_2 HOK H4 HI HID HJ HN2 HO BKgt BKge NEgegt Gge
                        go_wp2
                        go_ret
                        exact ⟨rfl, HB.out⟩
                      | false =>
                        rw [d1] at HH2
                        cases d2 : (e3 != 0) with
                        | true =>
                          rw [d2] at HH2
                          obtain rfl : false = r := HH2
                          clear HR0_1 HR0_2 HC0_1 HC0_2 HOK H4 HI HID HJ HN2 HO BKgt BKge NEgegt Gge
                          go_wp2
                          go_ret
                          exact ⟨rfl, HB.out⟩
                        | false =>
                          rw [d2] at HH2
                          have HH : Aside0 (goRB a0_0 a1 l0_1.length l0_2.length ids' (l0_2.drop (k + 1)) = r) := ⟨HH2⟩
                          clear HH2
                          go_wp2
                          go_roundg (l0_2.length - (k + 1))
                          case measure => omega
                          case rel => exact ⟨k + 1, ids', by omega, by omega, by rw [show wrap64 ((k : Int) + 1) = ((k + 1 : Nat) : Int) by unfold wrap64; have := H4.out; omega], HH, HN2, HO, BKgt, HB⟩
                  | false =>
                    rw [q3] at HH2
                    simp only [cond_false] at HH2
                    obtain rfl : false = r := HH2
                    clear HR0_1 HR0_2 HC0_1 HC0_2 HOK H4 HI HID HJ HN2 HO BKgt BKge NEgegt Gge
                    go_wp2
                    go_ret
                    exact ⟨rfl, HB.out⟩
        · have hk2 : k = l0_2.length := by omega
          have HH2 := HH.out
          rw [hk2, List.drop_length] at HH2
          have hltz : ¬ (k : Int) < (l0_2.length : Int) := by omega
          obtain rfl : true = r := HH2
          clear HH
          go_wp2
          go_ret
          exact ⟨rfl, HB.out⟩


/-! ### spinnakerlaw33_right: function 17 -/
def spinnakerlaw33_right.f (a0_0 : Int) (l0_1 : List Int) (l0_2 : List (S36)) : Option (Bool) := if (l0_2.length : Int) ≤ 30 then ((spinnakerref26_Right.f a0_0 l0_1 l0_2 200).bind fun t106 => (some t106)) else (some false)
set_option maxHeartbeats 8000000 in
set_option maxRecDepth 100000 in
theorem spinnakerlaw33_right.calls (a0_0 : Int) (A0_1 : Option Addr) (c0_1 : Nat) (l0_1 : List Int) (A0_2 : Option Addr) (c0_2 : Nat) (l0_2 : List (S36)) (r : Bool) (w : World) (hr0_1 : Kd.C (Kd.int .i64) w A0_1 l0_1.length l0_1) (hc0_1 : l0_1.length ≤ c0_1) (hr0_2 : Kd.C k36 w A0_2 l0_2.length l0_2) (hc0_2 : l0_2.length ≤ c0_2) (h : spinnakerlaw33_right.f a0_0 l0_1 l0_2 = some r) :
    Calls Tryd.prog 17 #[.agg #[.int .i64 a0_0, .slice A0_1 l0_1.length c0_1, .slice A0_2 l0_2.length c0_2]] w fun e w' => e = .returned (.bool r) ∧ Below w.heap.size w w' := by
  have hu25 := Tryd.underlying25
  have HR0_1 := Aside0.mk hr0_1
  have HC0_1 := Aside0.mk hc0_1
  clear hr0_1 hc0_1
  have HR0_2 := Aside0.mk hr0_2
  have HC0_2 := Aside0.mk hc0_2
  clear hr0_2 hc0_2
  have HB := Aside0.mk (Below.refl w.heap.size w)
  have H : (if (l0_2.length : Int) ≤ 30 then ((spinnakerref26_Right.f a0_0 l0_1 l0_2 200).bind fun t106 => (some t106)) else (some false)) = some r := h
  clear h
  by_cases c2 : (l0_2.length : Int) ≤ 30
  · rw [if_pos c2] at H
    have c2b0 : decide ((l0_2.length : Int) ≤ 30) = true := decide_eq_true c2
    have c2b1 : decide (l0_2.length ≤ 30) = true := decide_eq_true (by omega)
    clear c2
    replace H := Option.bind_eq_some_iff.mp H
    obtain ⟨t106, A30, H⟩ := H
    replace H : (some t106) = some r := H
    have A3 := Aside0.mk A30
    clear A30
    obtain rfl := Option.some.inj H
    go_enter Tryd.func17, Tryd.ntmps17
    go_wp2_with (first | ((with_reducible refine gate_dst (N := 1) rfl ?_); refine box_event ?hg (N := 1) ?hd (cs := #[.int .i64 a0_0, .slice A0_1 l0_1.length c0_1, .slice A0_2 l0_2.length c0_2]) (t := 25) ?hr ?_; (case hd => rfl); (case hg => rfl); (case hr => first | (go_simp; done) | (go_simp; rfl)); intro gb105 hg w4 hbox hb; have n0_ := Aside0.mk (below_step (by repeat (first | (with_reducible first | exact HB.out | apply below_alloc | apply pw_below_drewN | apply below_drew1) | exact HB.out)) hb); have n1_ := Aside0.mk (hbox); have n2_ := Aside0.mk ((by rw [hg]; exact (below_size (by repeat (first | (with_reducible first | exact HB.out | apply below_alloc | apply pw_below_drewN | apply below_drew1) | exact HB.out))) : w.heap.size ≤ gb105)); have n3_ := Aside0.mk ((by rw [hg]; exact (below_size (by repeat (first | (with_reducible first | exact HB.out | apply below_alloc | apply pw_below_drewN | apply below_drew1) | exact HB.out))) : w.heap.size ≤ gb105)); clear HB; have HB := n0_; have BK105 := n1_; have GW105 := n2_; have GE105 := n3_; clear n0_ n1_ n2_ n3_; clear hb hbox hg; have hcz5_0 : w4.cell? ⟨gb105, 0, none⟩ = some (.int .i64 a0_0) := (blk_cell BK105.out 0).trans rfl; have hcz5_1 : w4.cell? ⟨gb105, 1, none⟩ = some (.slice A0_1 l0_1.length c0_1) := (blk_cell BK105.out 1).trans rfl; have hcz5_2 : w4.cell? ⟨gb105, 2, none⟩ = some (.slice A0_2 l0_2.length c0_2) := (blk_cell BK105.out 2).trans rfl; have hfz5_0 := blk_frozen BK105.out 0; have hfz5_1 := blk_frozen BK105.out 1; have hfz5_2 := blk_frozen BK105.out 2) | (go_at_call 10; (with_reducible refine (spinnakerref26_Right.calls a0_0 _ _ l0_1 _ _ l0_2 200 t106 _ ?side1 ?side2 ?side3 ?side4 A3.out).mono ?_); (case side1 => repeat (first | exact (Kd.C_below HR0_1.out HB.out) | (with_reducible refine Kd.C_alloc ?_ _) | (with_reducible refine Kd.C_drewN ?_ _) | (with_reducible refine Kd.C_drew ?_))); (case side2 => exact HC0_1.out); (case side3 => repeat (first | exact (Kd.C_below HR0_2.out HB.out) | (with_reducible refine Kd.C_alloc ?_ _) | (with_reducible refine Kd.C_drewN ?_ _) | (with_reducible refine Kd.C_drew ?_))); (case side4 => exact HC0_2.out); rintro e w6 ⟨rfl, hb⟩; have n0_ := Aside0.mk (blk_below (g := gb105) (o := .cells #[.int .i64 a0_0, .slice A0_1 l0_1.length c0_1, .slice A0_2 l0_2.length c0_2] 25 (0, 0)) (by (with_reducible repeat (first | refine blk_drewN ?_ _ | refine blk_drew ?_ | refine blk_alloc ?_ _)); exact BK105.out) hb); have n1_ := Aside0.mk (below_step (by repeat (first | (with_reducible first | exact HB.out | apply below_alloc | apply pw_below_drewN | apply below_drew1 | refine below_set ?_ GE105.out) | exact HB.out)) hb); clear BK105; clear HB; have BK105 := n0_; have HB := n1_; clear n0_ n1_; (try clear hb); (try clear hb2); (try clear hk); (try clear hi)))
    go_ret
    exact ⟨by first | rfl | (simp [errW_none, errW_some] <;> rfl) | (simp [*, errW_none, errW_some] <;> rfl), by repeat (first | (with_reducible first | exact HB.out | apply below_alloc | apply pw_below_drewN | apply below_drew1 | refine below_set ?_ GE105.out) | exact HB.out)⟩
  · rw [if_neg c2] at H
    have c2b0 : decide ((l0_2.length : Int) ≤ 30) = false := decide_eq_false c2
    have c2b1 : decide (l0_2.length ≤ 30) = false := decide_eq_false (by omega)
    clear c2
    obtain rfl := Option.some.inj H
    go_enter Tryd.func17, Tryd.ntmps17
    go_wp2_with (first | ((with_reducible refine gate_dst (N := 1) rfl ?_); refine box_event ?hg (N := 1) ?hd (cs := #[.int .i64 a0_0, .slice A0_1 l0_1.length c0_1, .slice A0_2 l0_2.length c0_2]) (t := 25) ?hr ?_; (case hd => rfl); (case hg => rfl); (case hr => first | (go_simp; done) | (go_simp; rfl)); intro gb105 hg w7 hbox hb; have n0_ := Aside0.mk (below_step (by repeat (first | (with_reducible first | exact HB.out | apply below_alloc | apply pw_below_drewN | apply below_drew1) | exact HB.out)) hb); have n1_ := Aside0.mk (hbox); have n2_ := Aside0.mk ((by rw [hg]; exact (below_size (by repeat (first | (with_reducible first | exact HB.out | apply below_alloc | apply pw_below_drewN | apply below_drew1) | exact HB.out))) : w.heap.size ≤ gb105)); have n3_ := Aside0.mk ((by rw [hg]; exact (below_size (by repeat (first | (with_reducible first | exact HB.out | apply below_alloc | apply pw_below_drewN | apply below_drew1) | exact HB.out))) : w.heap.size ≤ gb105)); clear HB; have HB := n0_; have BK105 := n1_; have GW105 := n2_; have GE105 := n3_; clear n0_ n1_ n2_ n3_; clear hb hbox hg; have hcz8_0 : w7.cell? ⟨gb105, 0, none⟩ = some (.int .i64 a0_0) := (blk_cell BK105.out 0).trans rfl; have hcz8_1 : w7.cell? ⟨gb105, 1, none⟩ = some (.slice A0_1 l0_1.length c0_1) := (blk_cell BK105.out 1).trans rfl; have hcz8_2 : w7.cell? ⟨gb105, 2, none⟩ = some (.slice A0_2 l0_2.length c0_2) := (blk_cell BK105.out 2).trans rfl; have hfz8_0 := blk_frozen BK105.out 0; have hfz8_1 := blk_frozen BK105.out 1; have hfz8_2 := blk_frozen BK105.out 2))
    go_ret
    exact ⟨by first | rfl | (simp [errW_none, errW_some] <;> rfl) | (simp [*, errW_none, errW_some] <;> rfl), by repeat (first | (with_reducible first | exact HB.out | apply below_alloc | apply pw_below_drewN | apply below_drew1 | refine below_set ?_ GE105.out) | exact HB.out)⟩

/-! ### given: slices_Clone_int.lean -/
-- GIVEN slices.Clone[[]int,int] rounds=0 making=1
-- INFO int
-- IMPORT Derived.Lib.SliceRun
def slices_Clone_int_int.f (l0 : List Int) : Option (List Int) := if l0.length < 17592186044416 then some l0 else none
set_option maxHeartbeats 8000000 in
theorem slices_Clone_int_int.calls (A0 : Option Addr) (c0 : Nat) (l0 : List Int) (r : List Int) (w : World) (hr0 : Kd.C (Kd.int .i64) w A0 l0.length l0) (hc0 : l0.length ≤ c0) (h : slices_Clone_int_int.f l0 = some r) :
    Calls Tryd.prog 36 #[.slice A0 l0.length c0] w fun e w' => ∃ v0_ : Value, e = .returned (v0_) ∧ Kd.R (Kd.int .i64) 3 w' w.heap.size (fun _ => True) v0_ r ∧ Below w.heap.size w w' := by
  have hl : l0.length < 17592186044416 := by
    unfold slices_Clone_int_int.f at h
    by_cases e : l0.length < 17592186044416
    · exact e
    · rw [if_neg e] at h; cases h
  obtain rfl : l0 = r := by
    unfold slices_Clone_int_int.f at h
    rw [if_pos hl] at h
    injection h
  clear h
  have HL := Aside0.mk hl
  clear hl
  cases A0 with
  | none =>
    have hn : l0 = [] := by
      cases l0 with
      | nil => rfl
      | cons x l => obtain ⟨ad, e, _⟩ := Kd.at_int hr0 0 (by omega) (by simp); cases e
    subst hn
    clear hr0
    have hq := fun w : World => Lib.run_eql_slice_nil (P := Tryd.prog) w 22 3 none 0 c0 0 0 Tryd.underlying22
    go_enter Tryd.func36, Tryd.ntmps36
    go_wp2
    go_ret
    exact ⟨_, rfl, Kd.R_nil _ _ _ _ _, Below.refl _ _⟩
  | some a0 =>
    have HR0 := Aside0.mk hr0
    clear hr0
    have HB := Aside0.mk (Below.refl w.heap.size w)
    have hq := fun w : World => Lib.run_eql_slice_nil (P := Tryd.prog) w 22 3 (some a0) l0.length c0 0 0 Tryd.underlying22
    go_enter Tryd.func36, Tryd.ntmps36
    go_wp2_with (first | ((with_reducible refine gate_dst (N := 5) rfl ?_); refine Kd.R_lit (Kd.int .i64) _ 3 ?hg (N := 5) ?hd (xs := ([] : List Int)) (inner := []) (ok := fun _ => True) (okp := fun _ => True) ?hr ?hp (fun _ hk => hk) trivial (Below.refl _ _) (Nat.le_refl _) (by simp) ?_; (case hd => rfl); (case hg => rfl); (case hr => first | (go_simp; done) | (go_simp; rfl)); (case hp => exact (Reps.none _ _)); intro v1 w1 ho1 hb hg_ hnew_; clear hg_ hnew_; have n0_ := Aside0.mk ho1; have n1_ := Aside0.mk hb; clear HB hb ho1; revert n0_ n1_; intro HO1 HB) | ((with_reducible refine gate_builtin (b := .append) (xs := #[.tmp 5, .tmp 6]) rfl ?_); at_builtin; refine Kd.R_append_rows (Kd.int .i64) (w0 := w) w.heap.size rfl (.tmp 5) (.tmp 6) 22 3 (.int .i64 0) 8 rfl Tryd.underlying22 info3 rfl (by decide) (by omega) v1 [] l0 _ _ _ (fun _ => True) (fun _ => False) rfl rfl ?aO ?aR (fun _ _ h => h) (fun _ h => h.elim) ?aF ?aB ?aS ?aL ?_; (case aR => repeat (first | exact (Kd.C_below HR0.out HB.out) | (with_reducible refine Kd.C_alloc ?_ _) | (with_reducible refine Kd.C_drewN ?_ _) | (with_reducible refine Kd.C_drew ?_))); (case aB => exact HB.out); (case aF => exact (fun _ _ => trivial)); (case aO => exact HO1.out); (case aS => exact below_size HB.out); (case aL => have := HL.out; simp; omega); intro v2 w2 ho hb hg hat; have n0_ := Aside0.mk (hb); have n1_ := Aside0.mk (ho); clear HB HO1; revert n0_ n1_; intro HB HO2; clear ho hb hg hat; obtain ⟨Ao2, co2, eo2⟩ := Kd.R_slice HO2.out; subst eo2))
    go_ret
    exact ⟨_, rfl, HO2.out, HB.out⟩


/-! ### ir_ends: function 61 -/
def ir_ends.f (a0_0 : Int) (a0_1 : Int) (a0_2 : Int) (a0_3 : Int) (a1_0 : Int) (l1_1 : List Int) (l1_2 : List (S36)) : Option (Bool) := if a0_0 = 1 then ((ir_within.f true a0_2 (l1_2.length : Int)).bind fun t109 => (if t109 = true then (if a0_1 = 0 then (some (a0_3 == 0)) else (some false)) else (some false))) else (if a0_0 = 2 then ((ir_within.f true a0_2 (l1_2.length : Int)).bind fun t110 => (if t110 = true then ((ir_within.f true a0_3 (l1_2.length : Int)).bind fun t111 => (if t111 = true then ((ir_within.f true a0_1 a1_0).bind fun t112 => (some t112)) else (some false))) else (some false))) else (if a0_0 = 3 then (some (a0_0 == 3 && (a0_1 == 0 && (a0_2 == 0 && (a0_3 == 0))))) else (some false)))
theorem z61_0 {p : Prop} (h : p := by repeat (first | (with_reducible first | exact HB.out | apply below_alloc | apply pw_below_drewN | apply below_drew1 | refine below_set ?_ GE107.out) | exact HB.out)) : p := h
theorem z61_1 {p : Prop} (h : p := by repeat (first | (with_reducible first | exact HB.out | apply below_alloc | apply pw_below_drewN | apply below_drew1) | exact HB.out)) : p := h
theorem z61_2 {p : Prop} (h : p := by (with_reducible repeat (first | refine blk_drewN ?_ _ | refine blk_drew ?_ | refine blk_alloc ?_ _)); exact BK107.out) : p := h
theorem z61_3 {p : Prop} (h : p := by (try simp only [List.map_toArray, List.map_cons, List.map_nil]); first | done | rfl | (simp only [List.length_drop, List.length_take]; rfl)) : p := h
set_option maxHeartbeats 8000000 in
set_option maxRecDepth 100000 in
theorem ir_ends.calls (a0_0 : Int) (a0_1 : Int) (a0_2 : Int) (a0_3 : Int) (a1_0 : Int) (A1_1 : Option Addr) (c1_1 : Nat) (l1_1 : List Int) (A1_2 : Option Addr) (c1_2 : Nat) (l1_2 : List (S36)) (r : Bool) (w : World) (hr1_1 : Kd.C (Kd.int .i64) w A1_1 l1_1.length l1_1) (hc1_1 : l1_1.length ≤ c1_1) (hr1_2 : Kd.C k36 w A1_2 l1_2.length l1_2) (hc1_2 : l1_2.length ≤ c1_2) (h : ir_ends.f a0_0 a0_1 a0_2 a0_3 a1_0 l1_1 l1_2 = some r) :
  Calls Tryd.prog 61 #[.agg #[.int .i64 a0_0, .int .i64 a0_1, .int .i64 a0_2, .int .i64 a0_3], .agg #[.int .i64 a1_0, .slice A1_1 l1_1.length c1_1, .slice A1_2 l1_2.length c1_2]] w fun e w' => e = .returned (.bool r) ∧ Below w.heap.size w w' := by
 have hu34 := Tryd.underlying34; have hu25 := Tryd.underlying25; have HR1_1 := Aside0.mk hr1_1; have HC1_1 := Aside0.mk hc1_1; clear hr1_1 hc1_1; have HR1_2 := Aside0.mk hr1_2; have HC1_2 := Aside0.mk hc1_2; clear hr1_2 hc1_2; have HB := Aside0.mk (Below.refl w.heap.size w); have H : (if a0_0 = 1 then ((ir_within.f true a0_2 (l1_2.length : Int)).bind fun t109 => (if t109 = true then (if a0_1 = 0 then (some (a0_3 == 0)) else (some false)) else (some false))) else (if a0_0 = 2 then ((ir_within.f true a0_2 (l1_2.length : Int)).bind fun t110 => (if t110 = true then ((ir_within.f true a0_3 (l1_2.length : Int)).bind fun t111 => (if t111 = true then ((ir_within.f true a0_1 a1_0).bind fun t112 => (some t112)) else (some false))) else (some false))) else (if a0_0 = 3 then (some (a0_0 == 3 && (a0_1 == 0 && (a0_2 == 0 && (a0_3 == 0))))) else (some false)))) = some r := h; clear h
 by_cases c3 : a0_0 = 1
 ·rw [if_pos c3] at H
  have c3b0 : (a0_0 == 1) = true := beq_iff_eq.mpr c3; have c3b1 : (a0_0 != 1) = false := bne_eq_false_iff_eq.mpr c3; clear c3; replace H := Option.bind_eq_some_iff.mp H; obtain ⟨t109, A40, H⟩ := H; replace H : (if t109 = true then (if a0_1 = 0 then (some (a0_3 == 0)) else (some false)) else (some false)) = some r := H; have A4 := Aside0.mk A40; clear A40
  by_cases c5 : t109 = true
  ·subst c5
   have H1 : (if a0_1 = 0 then (some (a0_3 == 0)) else (some false)) = some r := by rw [if_pos rfl] at H; exact H
   clear H; have H := H1; clear H1
   by_cases c6 : a0_1 = 0
   ·rw [if_pos c6] at H
    have c6b0 : (a0_1 == 0) = true := beq_iff_eq.mpr c6; have c6b1 : (a0_1 != 0) = false := bne_eq_false_iff_eq.mpr c6; clear c6; obtain rfl := Option.some.inj H
    go_enter Tryd.func61, Tryd.ntmps61
    go_wp2_with (first | ((with_reducible refine gate_dst (N := 2) rfl ?_); refine box_event ?hg (N := 2) ?hd (cs := #[.int .i64 a0_0, .int .i64 a0_1, .int .i64 a0_2, .int .i64 a0_3]) (t := 34) ?hr ?_; (case hd => rfl); (case hg => rfl); (case hr => first | (go_simp; done) | (go_simp; rfl)); intro gb107 hg w7 hbox hb; have n0_ := Aside0.mk (below_step z61_1 hb); have n1_ := Aside0.mk (hbox); have n2_ := Aside0.mk ((by rw [hg]; exact (below_size z61_1) : w.heap.size ≤ gb107)); have n3_ := n2_; clear HB; revert n0_ n1_ n2_ n3_; intro HB BK107 GW107 GE107; clear hb hbox hg) | ((with_reducible refine gate_dst (N := 3) rfl ?_); refine box_event ?hg (N := 3) ?hd (cs := #[.int .i64 a1_0, .slice A1_1 l1_1.length c1_1, .slice A1_2 l1_2.length c1_2]) (t := 25) ?hr ?_; (case hd => rfl); (case hg => rfl); (case hr => first | (go_simp; done) | (go_simp; rfl)); intro gb108 hg w8 hbox hb; have n0_ := Aside0.mk (blk_below (g := gb107) (o := .cells #[.int .i64 a0_0, .int .i64 a0_1, .int .i64 a0_2, .int .i64 a0_3] 34 (0, 0)) z61_2 hb); have n1_ := Aside0.mk (below_step z61_0 hb); have n2_ := Aside0.mk (hbox); have n3_ := Aside0.mk ((by rw [hg]; exact (below_size z61_0) : w.heap.size ≤ gb108)); have n4_ := n3_; have n5_ := Aside0.mk ((by rw [hg]; exact Nat.ne_of_lt (blk_lt (g := gb107) (o := .cells #[.int .i64 a0_0, .int .i64 a0_1, .int .i64 a0_2, .int .i64 a0_3] 34 (0, 0)) z61_2) : gb107 ≠ gb108)); have n6_ := Aside0.mk (Ne.symm n5_.out); clear BK107 HB; revert n0_ n1_ n2_ n3_ n4_ n5_ n6_; intro BK107 HB BK108 GW108 GE108 NB107_108 NB108_107; clear hb hbox hg; have hnb9 := NB108_107.out; have hnc9 := NB107_108.out; have hcz10_0 : w8.cell? ⟨gb108, 0, none⟩ = some (.int .i64 a1_0) := (blk_cell BK108.out 0).trans rfl; have hcz10_1 : w8.cell? ⟨gb108, 1, none⟩ = some (.slice A1_1 l1_1.length c1_1) := (blk_cell BK108.out 1).trans rfl; have hcz10_2 : w8.cell? ⟨gb108, 2, none⟩ = some (.slice A1_2 l1_2.length c1_2) := (blk_cell BK108.out 2).trans rfl; have hfz10_0 := blk_frozen BK108.out 0; have hfz10_1 := blk_frozen BK108.out 1; have hfz10_2 := blk_frozen BK108.out 2; have hcz11_0 : w8.cell? ⟨gb107, 0, none⟩ = some (.int .i64 a0_0) := (blk_cell BK107.out 0).trans rfl; have hcz11_1 : w8.cell? ⟨gb107, 1, none⟩ = some (.int .i64 a0_1) := (blk_cell BK107.out 1).trans rfl; have hcz11_2 : w8.cell? ⟨gb107, 2, none⟩ = some (.int .i64 a0_2) := (blk_cell BK107.out 2).trans rfl; have hcz11_3 : w8.cell? ⟨gb107, 3, none⟩ = some (.int .i64 a0_3) := (blk_cell BK107.out 3).trans rfl; have hfz11_0 := blk_frozen BK107.out 0; have hfz11_1 := blk_frozen BK107.out 1; have hfz11_2 := blk_frozen BK107.out 2; have hfz11_3 := blk_frozen BK107.out 3) | ((with_reducible refine gate_callee (f := 69) rfl ?_); refine goesL_ (some 16) rfl rfl Tryd.func69 (by kernel_rfl) rfl #[.bool true, .int .i64 a0_2, .int .i64 (l1_2.length : Int)] rfl z61_3 ?_; (with_reducible refine (ir_within.calls true a0_2 (l1_2.length : Int) true _ A4.out).mono ?_); rintro e w' ⟨rfl, ⟨nd, rfl⟩⟩; refine ⟨_, rfl, ?_⟩))
    go_ret
    exact ⟨by first | rfl | (simp [errW_none, errW_some] <;> rfl) | (simp [*, errW_none, errW_some] <;> rfl), by repeat (first | (with_reducible first | exact HB.out | apply below_alloc | apply pw_below_drewN | apply below_drew1 | refine below_set ?_ GE107.out | refine below_set ?_ GE108.out) | exact HB.out)⟩
   ·rw [if_neg c6] at H
    have c6b0 : (a0_1 == 0) = false := beq_eq_false_iff_ne.mpr c6; have c6b1 : (a0_1 != 0) = true := bne_iff_ne.mpr c6; obtain rfl := Option.some.inj H
    go_enter Tryd.func61, Tryd.ntmps61
    go_wp2_with (first | ((with_reducible refine gate_dst (N := 2) rfl ?_); refine box_event ?hg (N := 2) ?hd (cs := #[.int .i64 a0_0, .int .i64 a0_1, .int .i64 a0_2, .int .i64 a0_3]) (t := 34) ?hr ?_; (case hd => rfl); (case hg => rfl); (case hr => first | (go_simp; done) | (go_simp; rfl)); intro gb107 hg w12 hbox hb; have n0_ := Aside0.mk (below_step z61_1 hb); have n1_ := Aside0.mk (hbox); have n2_ := Aside0.mk ((by rw [hg]; exact (below_size z61_1) : w.heap.size ≤ gb107)); have n3_ := n2_; clear HB; revert n0_ n1_ n2_ n3_; intro HB BK107 GW107 GE107; clear hb hbox hg) | ((with_reducible refine gate_dst (N := 3) rfl ?_); refine box_event ?hg (N := 3) ?hd (cs := #[.int .i64 a1_0, .slice A1_1 l1_1.length c1_1, .slice A1_2 l1_2.length c1_2]) (t := 25) ?hr ?_; (case hd => rfl); (case hg => rfl); (case hr => first | (go_simp; done) | (go_simp; rfl)); intro gb108 hg w13 hbox hb; have n0_ := Aside0.mk (blk_below (g := gb107) (o := .cells #[.int .i64 a0_0, .int .i64 a0_1, .int .i64 a0_2, .int .i64 a0_3] 34 (0, 0)) z61_2 hb); have n1_ := Aside0.mk (below_step z61_0 hb); have n2_ := Aside0.mk (hbox); have n3_ := Aside0.mk ((by rw [hg]; exact (below_size z61_0) : w.heap.size ≤ gb108)); have n4_ := n3_; have n5_ := Aside0.mk ((by rw [hg]; exact Nat.ne_of_lt (blk_lt (g := gb107) (o := .cells #[.int .i64 a0_0, .int .i64 a0_1, .int .i64 a0_2, .int .i64 a0_3] 34 (0, 0)) z61_2) : gb107 ≠ gb108)); have n6_ := Aside0.mk (Ne.symm n5_.out); clear BK107 HB; revert n0_ n1_ n2_ n3_ n4_ n5_ n6_; intro BK107 HB BK108 GW108 GE108 NB107_108 NB108_107; clear hb hbox hg; have hnb14 := NB108_107.out; have hnc14 := NB107_108.out; have hcz15_0 : w13.cell? ⟨gb108, 0, none⟩ = some (.int .i64 a1_0) := (blk_cell BK108.out 0).trans rfl; have hcz15_1 : w13.cell? ⟨gb108, 1, none⟩ = some (.slice A1_1 l1_1.length c1_1) := (blk_cell BK108.out 1).trans rfl; have hcz15_2 : w13.cell? ⟨gb108, 2, none⟩ = some (.slice A1_2 l1_2.length c1_2) := (blk_cell BK108.out 2).trans rfl; have hfz15_0 := blk_frozen BK108.out 0; have hfz15_1 := blk_frozen BK108.out 1; have hfz15_2 := blk_frozen BK108.out 2; have hcz16_0 : w13.cell? ⟨gb107, 0, none⟩ = some (.int .i64 a0_0) := (blk_cell BK107.out 0).trans rfl; have hcz16_1 : w13.cell? ⟨gb107, 1, none⟩ = some (.int .i64 a0_1) := (blk_cell BK107.out 1).trans rfl; have hcz16_2 : w13.cell? ⟨gb107, 2, none⟩ = some (.int .i64 a0_2) := (blk_cell BK107.out 2).trans rfl; have hcz16_3 : w13.cell? ⟨gb107, 3, none⟩ = some (.int .i64 a0_3) := (blk_cell BK107.out 3).trans rfl; have hfz16_0 := blk_frozen BK107.out 0; have hfz16_1 := blk_frozen BK107.out 1; have hfz16_2 := blk_frozen BK107.out 2; have hfz16_3 := blk_frozen BK107.out 3) | ((with_reducible refine gate_callee (f := 69) rfl ?_); refine goesL_ (some 16) rfl rfl Tryd.func69 (by kernel_rfl) rfl #[.bool true, .int .i64 a0_2, .int .i64 (l1_2.length : Int)] rfl z61_3 ?_; (with_reducible refine (ir_within.calls true a0_2 (l1_2.length : Int) true _ A4.out).mono ?_); rintro e w' ⟨rfl, ⟨nd, rfl⟩⟩; refine ⟨_, rfl, ?_⟩))
    go_ret
    exact ⟨by first | rfl | (simp [errW_none, errW_some] <;> rfl) | (simp [*, errW_none, errW_some] <;> rfl), by repeat (first | (with_reducible first | exact HB.out | apply below_alloc | apply pw_below_drewN | apply below_drew1 | refine below_set ?_ GE107.out | refine below_set ?_ GE108.out) | exact HB.out)⟩
  ·replace c5 := Bool.eq_false_iff.mpr c5
   subst c5
   have H1 : (some false) = some r := by rw [if_neg (show ¬ (false = true) by decide)] at H; exact H
   clear H; have H := H1; clear H1; obtain rfl := Option.some.inj H
   go_enter Tryd.func61, Tryd.ntmps61
   go_wp2_with (first | ((with_reducible refine gate_dst (N := 2) rfl ?_); refine box_event ?hg (N := 2) ?hd (cs := #[.int .i64 a0_0, .int .i64 a0_1, .int .i64 a0_2, .int .i64 a0_3]) (t := 34) ?hr ?_; (case hd => rfl); (case hg => rfl); (case hr => first | (go_simp; done) | (go_simp; rfl)); intro gb107 hg w17 hbox hb; have n0_ := Aside0.mk (below_step z61_1 hb); have n1_ := Aside0.mk (hbox); have n2_ := Aside0.mk ((by rw [hg]; exact (below_size z61_1) : w.heap.size ≤ gb107)); have n3_ := n2_; clear HB; revert n0_ n1_ n2_ n3_; intro HB BK107 GW107 GE107; clear hb hbox hg) | ((with_reducible refine gate_dst (N := 3) rfl ?_); refine box_event ?hg (N := 3) ?hd (cs := #[.int .i64 a1_0, .slice A1_1 l1_1.length c1_1, .slice A1_2 l1_2.length c1_2]) (t := 25) ?hr ?_; (case hd => rfl); (case hg => rfl); (case hr => first | (go_simp; done) | (go_simp; rfl)); intro gb108 hg w18 hbox hb; have n0_ := Aside0.mk (blk_below (g := gb107) (o := .cells #[.int .i64 a0_0, .int .i64 a0_1, .int .i64 a0_2, .int .i64 a0_3] 34 (0, 0)) z61_2 hb); have n1_ := Aside0.mk (below_step z61_0 hb); have n2_ := Aside0.mk (hbox); have n3_ := Aside0.mk ((by rw [hg]; exact (below_size z61_0) : w.heap.size ≤ gb108)); have n4_ := n3_; have n5_ := Aside0.mk ((by rw [hg]; exact Nat.ne_of_lt (blk_lt (g := gb107) (o := .cells #[.int .i64 a0_0, .int .i64 a0_1, .int .i64 a0_2, .int .i64 a0_3] 34 (0, 0)) z61_2) : gb107 ≠ gb108)); have n6_ := Aside0.mk (Ne.symm n5_.out); clear BK107 HB; revert n0_ n1_ n2_ n3_ n4_ n5_ n6_; intro BK107 HB BK108 GW108 GE108 NB107_108 NB108_107; clear hb hbox hg; have hnb19 := NB108_107.out; have hnc19 := NB107_108.out; have hcz20_0 : w18.cell? ⟨gb108, 0, none⟩ = some (.int .i64 a1_0) := (blk_cell BK108.out 0).trans rfl; have hcz20_1 : w18.cell? ⟨gb108, 1, none⟩ = some (.slice A1_1 l1_1.length c1_1) := (blk_cell BK108.out 1).trans rfl; have hcz20_2 : w18.cell? ⟨gb108, 2, none⟩ = some (.slice A1_2 l1_2.length c1_2) := (blk_cell BK108.out 2).trans rfl; have hfz20_0 := blk_frozen BK108.out 0; have hfz20_1 := blk_frozen BK108.out 1; have hfz20_2 := blk_frozen BK108.out 2; have hcz21_0 : w18.cell? ⟨gb107, 0, none⟩ = some (.int .i64 a0_0) := (blk_cell BK107.out 0).trans rfl; have hcz21_1 : w18.cell? ⟨gb107, 1, none⟩ = some (.int .i64 a0_1) := (blk_cell BK107.out 1).trans rfl; have hcz21_2 : w18.cell? ⟨gb107, 2, none⟩ = some (.int .i64 a0_2) := (blk_cell BK107.out 2).trans rfl; have hcz21_3 : w18.cell? ⟨gb107, 3, none⟩ = some (.int .i64 a0_3) := (blk_cell BK107.out 3).trans rfl; have hfz21_0 := blk_frozen BK107.out 0; have hfz21_1 := blk_frozen BK107.out 1; have hfz21_2 := blk_frozen BK107.out 2; have hfz21_3 := blk_frozen BK107.out 3) | ((with_reducible refine gate_callee (f := 69) rfl ?_); refine goesL_ (some 16) rfl rfl Tryd.func69 (by kernel_rfl) rfl #[.bool true, .int .i64 a0_2, .int .i64 (l1_2.length : Int)] rfl z61_3 ?_; (with_reducible refine (ir_within.calls true a0_2 (l1_2.length : Int) false _ A4.out).mono ?_); rintro e w' ⟨rfl, ⟨nd, rfl⟩⟩; refine ⟨_, rfl, ?_⟩))
   go_ret
   exact ⟨by first | rfl | (simp [errW_none, errW_some] <;> rfl) | (simp [*, errW_none, errW_some] <;> rfl), by repeat (first | (with_reducible first | exact HB.out | apply below_alloc | apply pw_below_drewN | apply below_drew1 | refine below_set ?_ GE107.out | refine below_set ?_ GE108.out) | exact HB.out)⟩
 ·rw [if_neg c3] at H
  have c3b0 : (a0_0 == 1) = false := beq_eq_false_iff_ne.mpr c3; have c3b1 : (a0_0 != 1) = true := bne_iff_ne.mpr c3
  by_cases c22 : a0_0 = 2
  ·rw [if_pos c22] at H
   have c22b0 : (a0_0 == 2) = true := beq_iff_eq.mpr c22; have c22b1 : (a0_0 != 2) = false := bne_eq_false_iff_eq.mpr c22; clear c22; replace H := Option.bind_eq_some_iff.mp H; obtain ⟨t110, A230, H⟩ := H; replace H : (if t110 = true then ((ir_within.f true a0_3 (l1_2.length : Int)).bind fun t111 => (if t111 = true then ((ir_within.f true a0_1 a1_0).bind fun t112 => (some t112)) else (some false))) else (some false)) = some r := H; have A23 := Aside0.mk A230; clear A230
   by_cases c24 : t110 = true
   ·subst c24
    have H1 : ((ir_within.f true a0_3 (l1_2.length : Int)).bind fun t111 => (if t111 = true then ((ir_within.f true a0_1 a1_0).bind fun t112 => (some t112)) else (some false))) = some r := by rw [if_pos rfl] at H; exact H
    clear H; have H := H1; clear H1; replace H := Option.bind_eq_some_iff.mp H; obtain ⟨t111, A250, H⟩ := H; replace H : (if t111 = true then ((ir_within.f true a0_1 a1_0).bind fun t112 => (some t112)) else (some false)) = some r := H; have A25 := Aside0.mk A250; clear A250
    by_cases c26 : t111 = true
    ·subst c26
     have H1 : ((ir_within.f true a0_1 a1_0).bind fun t112 => (some t112)) = some r := by rw [if_pos rfl] at H; exact H
     clear H; have H := H1; clear H1; replace H := Option.bind_eq_some_iff.mp H; obtain ⟨t112, A270, H⟩ := H; replace H : (some t112) = some r := H; have A27 := Aside0.mk A270; clear A270; obtain rfl := Option.some.inj H
     go_enter Tryd.func61, Tryd.ntmps61
     go_wp2_with (first | ((with_reducible refine gate_dst (N := 2) rfl ?_); refine box_event ?hg (N := 2) ?hd (cs := #[.int .i64 a0_0, .int .i64 a0_1, .int .i64 a0_2, .int .i64 a0_3]) (t := 34) ?hr ?_; (case hd => rfl); (case hg => rfl); (case hr => first | (go_simp; done) | (go_simp; rfl)); intro gb107 hg w28 hbox hb; have n0_ := Aside0.mk (below_step z61_1 hb); have n1_ := Aside0.mk (hbox); have n2_ := Aside0.mk ((by rw [hg]; exact (below_size z61_1) : w.heap.size ≤ gb107)); have n3_ := n2_; clear HB; revert n0_ n1_ n2_ n3_; intro HB BK107 GW107 GE107; clear hb hbox hg) | ((with_reducible refine gate_dst (N := 3) rfl ?_); refine box_event ?hg (N := 3) ?hd (cs := #[.int .i64 a1_0, .slice A1_1 l1_1.length c1_1, .slice A1_2 l1_2.length c1_2]) (t := 25) ?hr ?_; (case hd => rfl); (case hg => rfl); (case hr => first | (go_simp; done) | (go_simp; rfl)); intro gb108 hg w29 hbox hb; have n0_ := Aside0.mk (blk_below (g := gb107) (o := .cells #[.int .i64 a0_0, .int .i64 a0_1, .int .i64 a0_2, .int .i64 a0_3] 34 (0, 0)) z61_2 hb); have n1_ := Aside0.mk (below_step z61_0 hb); have n2_ := Aside0.mk (hbox); have n3_ := Aside0.mk ((by rw [hg]; exact (below_size z61_0) : w.heap.size ≤ gb108)); have n4_ := n3_; have n5_ := Aside0.mk ((by rw [hg]; exact Nat.ne_of_lt (blk_lt (g := gb107) (o := .cells #[.int .i64 a0_0, .int .i64 a0_1, .int .i64 a0_2, .int .i64 a0_3] 34 (0, 0)) z61_2) : gb107 ≠ gb108)); have n6_ := Aside0.mk (Ne.symm n5_.out); clear BK107 HB; revert n0_ n1_ n2_ n3_ n4_ n5_ n6_; intro BK107 HB BK108 GW108 GE108 NB107_108 NB108_107; clear hb hbox hg; have hnb30 := NB108_107.out; have hnc30 := NB107_108.out; have hcz31_0 : w29.cell? ⟨gb108, 0, none⟩ = some (.int .i64 a1_0) := (blk_cell BK108.out 0).trans rfl; have hcz31_1 : w29.cell? ⟨gb108, 1, none⟩ = some (.slice A1_1 l1_1.length c1_1) := (blk_cell BK108.out 1).trans rfl; have hcz31_2 : w29.cell? ⟨gb108, 2, none⟩ = some (.slice A1_2 l1_2.length c1_2) := (blk_cell BK108.out 2).trans rfl; have hfz31_0 := blk_frozen BK108.out 0; have hfz31_1 := blk_frozen BK108.out 1; have hfz31_2 := blk_frozen BK108.out 2; have hcz32_0 : w29.cell? ⟨gb107, 0, none⟩ = some (.int .i64 a0_0) := (blk_cell BK107.out 0).trans rfl; have hcz32_1 : w29.cell? ⟨gb107, 1, none⟩ = some (.int .i64 a0_1) := (blk_cell BK107.out 1).trans rfl; have hcz32_2 : w29.cell? ⟨gb107, 2, none⟩ = some (.int .i64 a0_2) := (blk_cell BK107.out 2).trans rfl; have hcz32_3 : w29.cell? ⟨gb107, 3, none⟩ = some (.int .i64 a0_3) := (blk_cell BK107.out 3).trans rfl; have hfz32_0 := blk_frozen BK107.out 0; have hfz32_1 := blk_frozen BK107.out 1; have hfz32_2 := blk_frozen BK107.out 2; have hfz32_3 := blk_frozen BK107.out 3) | ((with_reducible refine gate_callee (f := 69) rfl ?_); refine goesL_ (some 32) rfl rfl Tryd.func69 (by kernel_rfl) rfl #[.bool true, .int .i64 a0_2, .int .i64 (l1_2.length : Int)] rfl z61_3 ?_; (with_reducible refine (ir_within.calls true a0_2 (l1_2.length : Int) true _ A23.out).mono ?_); rintro e w' ⟨rfl, ⟨nd, rfl⟩⟩; refine ⟨_, rfl, ?_⟩) | (go_at_call 69; (with_reducible refine (ir_within.calls true a0_3 (l1_2.length : Int) true _ A25.out).mono ?_); rintro e w' ⟨rfl, ⟨nd, rfl⟩⟩) | (go_at_call 69; (with_reducible refine (ir_within.calls true a0_1 a1_0 t112 _ A27.out).mono ?_); rintro e w' ⟨rfl, ⟨nd, rfl⟩⟩))
     go_ret
     exact ⟨by first | rfl | (simp [errW_none, errW_some] <;> rfl) | (simp [*, errW_none, errW_some] <;> rfl), by repeat (first | (with_reducible first | exact HB.out | apply below_alloc | apply pw_below_drewN | apply below_drew1 | refine below_set ?_ GE107.out | refine below_set ?_ GE108.out) | exact HB.out)⟩
    ·replace c26 := Bool.eq_false_iff.mpr c26
     subst c26
     have H1 : (some false) = some r := by rw [if_neg (show ¬ (false = true) by decide)] at H; exact H
     clear H; have H := H1; clear H1; obtain rfl := Option.some.inj H
     go_enter Tryd.func61, Tryd.ntmps61
     go_wp2_with (first | ((with_reducible refine gate_dst (N := 2) rfl ?_); refine box_event ?hg (N := 2) ?hd (cs := #[.int .i64 a0_0, .int .i64 a0_1, .int .i64 a0_2, .int .i64 a0_3]) (t := 34) ?hr ?_; (case hd => rfl); (case hg => rfl); (case hr => first | (go_simp; done) | (go_simp; rfl)); intro gb107 hg w33 hbox hb; have n0_ := Aside0.mk (below_step z61_1 hb); have n1_ := Aside0.mk (hbox); have n2_ := Aside0.mk ((by rw [hg]; exact (below_size z61_1) : w.heap.size ≤ gb107)); have n3_ := n2_; clear HB; revert n0_ n1_ n2_ n3_; intro HB BK107 GW107 GE107; clear hb hbox hg) | ((with_reducible refine gate_dst (N := 3) rfl ?_); refine box_event ?hg (N := 3) ?hd (cs := #[.int .i64 a1_0, .slice A1_1 l1_1.length c1_1, .slice A1_2 l1_2.length c1_2]) (t := 25) ?hr ?_; (case hd => rfl); (case hg => rfl); (case hr => first | (go_simp; done) | (go_simp; rfl)); intro gb108 hg w34 hbox hb; have n0_ := Aside0.mk (blk_below (g := gb107) (o := .cells #[.int .i64 a0_0, .int .i64 a0_1, .int .i64 a0_2, .int .i64 a0_3] 34 (0, 0)) z61_2 hb); have n1_ := Aside0.mk (below_step z61_0 hb); have n2_ := Aside0.mk (hbox); have n3_ := Aside0.mk ((by rw [hg]; exact (below_size z61_0) : w.heap.size ≤ gb108)); have n4_ := n3_; have n5_ := Aside0.mk ((by rw [hg]; exact Nat.ne_of_lt (blk_lt (g := gb107) (o := .cells #[.int .i64 a0_0, .int .i64 a0_1, .int .i64 a0_2, .int .i64 a0_3] 34 (0, 0)) z61_2) : gb107 ≠ gb108)); have n6_ := Aside0.mk (Ne.symm n5_.out); clear BK107 HB; revert n0_ n1_ n2_ n3_ n4_ n5_ n6_; intro BK107 HB BK108 GW108 GE108 NB107_108 NB108_107; clear hb hbox hg; have hnb35 := NB108_107.out; have hnc35 := NB107_108.out; have hcz36_0 : w34.cell? ⟨gb108, 0, none⟩ = some (.int .i64 a1_0) := (blk_cell BK108.out 0).trans rfl; have hcz36_1 : w34.cell? ⟨gb108, 1, none⟩ = some (.slice A1_1 l1_1.length c1_1) := (blk_cell BK108.out 1).trans rfl; have hcz36_2 : w34.cell? ⟨gb108, 2, none⟩ = some (.slice A1_2 l1_2.length c1_2) := (blk_cell BK108.out 2).trans rfl; have hfz36_0 := blk_frozen BK108.out 0; have hfz36_1 := blk_frozen BK108.out 1; have hfz36_2 := blk_frozen BK108.out 2; have hcz37_0 : w34.cell? ⟨gb107, 0, none⟩ = some (.int .i64 a0_0) := (blk_cell BK107.out 0).trans rfl; have hcz37_1 : w34.cell? ⟨gb107, 1, none⟩ = some (.int .i64 a0_1) := (blk_cell BK107.out 1).trans rfl; have hcz37_2 : w34.cell? ⟨gb107, 2, none⟩ = some (.int .i64 a0_2) := (blk_cell BK107.out 2).trans rfl; have hcz37_3 : w34.cell? ⟨gb107, 3, none⟩ = some (.int .i64 a0_3) := (blk_cell BK107.out 3).trans rfl; have hfz37_0 := blk_frozen BK107.out 0; have hfz37_1 := blk_frozen BK107.out 1; have hfz37_2 := blk_frozen BK107.out 2; have hfz37_3 := blk_frozen BK107.out 3) | ((with_reducible refine gate_callee (f := 69) rfl ?_); refine goesL_ (some 32) rfl rfl Tryd.func69 (by kernel_rfl) rfl #[.bool true, .int .i64 a0_2, .int .i64 (l1_2.length : Int)] rfl z61_3 ?_; (with_reducible refine (ir_within.calls true a0_2 (l1_2.length : Int) true _ A23.out).mono ?_); rintro e w' ⟨rfl, ⟨nd, rfl⟩⟩; refine ⟨_, rfl, ?_⟩) | (go_at_call 69; (with_reducible refine (ir_within.calls true a0_3 (l1_2.length : Int) false _ A25.out).mono ?_); rintro e w' ⟨rfl, ⟨nd, rfl⟩⟩))
     go_ret
     exact ⟨by first | rfl | (simp [errW_none, errW_some] <;> rfl) | (simp [*, errW_none, errW_some] <;> rfl), by repeat (first | (with_reducible first | exact HB.out | apply below_alloc | apply pw_below_drewN | apply below_drew1 | refine below_set ?_ GE107.out | refine below_set ?_ GE108.out) | exact HB.out)⟩
   ·replace c24 := Bool.eq_false_iff.mpr c24
    subst c24
    have H1 : (some false) = some r := by rw [if_neg (show ¬ (false = true) by decide)] at H; exact H
    clear H; have H := H1; clear H1; obtain rfl := Option.some.inj H
    go_enter Tryd.func61, Tryd.ntmps61
    go_wp2_with (first | ((with_reducible refine gate_dst (N := 2) rfl ?_); refine box_event ?hg (N := 2) ?hd (cs := #[.int .i64 a0_0, .int .i64 a0_1, .int .i64 a0_2, .int .i64 a0_3]) (t := 34) ?hr ?_; (case hd => rfl); (case hg => rfl); (case hr => first | (go_simp; done) | (go_simp; rfl)); intro gb107 hg w38 hbox hb; have n0_ := Aside0.mk (below_step z61_1 hb); have n1_ := Aside0.mk (hbox); have n2_ := Aside0.mk ((by rw [hg]; exact (below_size z61_1) : w.heap.size ≤ gb107)); have n3_ := n2_; clear HB; revert n0_ n1_ n2_ n3_; intro HB BK107 GW107 GE107; clear hb hbox hg) | ((with_reducible refine gate_dst (N := 3) rfl ?_); refine box_event ?hg (N := 3) ?hd (cs := #[.int .i64 a1_0, .slice A1_1 l1_1.length c1_1, .slice A1_2 l1_2.length c1_2]) (t := 25) ?hr ?_; (case hd => rfl); (case hg => rfl); (case hr => first | (go_simp; done) | (go_simp; rfl)); intro gb108 hg w39 hbox hb; have n0_ := Aside0.mk (blk_below (g := gb107) (o := .cells #[.int .i64 a0_0, .int .i64 a0_1, .int .i64 a0_2, .int .i64 a0_3] 34 (0, 0)) z61_2 hb); have n1_ := Aside0.mk (below_step z61_0 hb); have n2_ := Aside0.mk (hbox); have n3_ := Aside0.mk ((by rw [hg]; exact (below_size z61_0) : w.heap.size ≤ gb108)); have n4_ := n3_; have n5_ := Aside0.mk ((by rw [hg]; exact Nat.ne_of_lt (blk_lt (g := gb107) (o := .cells #[.int .i64 a0_0, .int .i64 a0_1, .int .i64 a0_2, .int .i64 a0_3] 34 (0, 0)) z61_2) : gb107 ≠ gb108)); have n6_ := Aside0.mk (Ne.symm n5_.out); clear BK107 HB; revert n0_ n1_ n2_ n3_ n4_ n5_ n6_; intro BK107 HB BK108 GW108 GE108 NB107_108 NB108_107; clear hb hbox hg; have hnb40 := NB108_107.out; have hnc40 := NB107_108.out; have hcz41_0 : w39.cell? ⟨gb108, 0, none⟩ = some (.int .i64 a1_0) := (blk_cell BK108.out 0).trans rfl; have hcz41_1 : w39.cell? ⟨gb108, 1, none⟩ = some (.slice A1_1 l1_1.length c1_1) := (blk_cell BK108.out 1).trans rfl; have hcz41_2 : w39.cell? ⟨gb108, 2, none⟩ = some (.slice A1_2 l1_2.length c1_2) := (blk_cell BK108.out 2).trans rfl; have hfz41_0 := blk_frozen BK108.out 0; have hfz41_1 := blk_frozen BK108.out 1; have hfz41_2 := blk_frozen BK108.out 2; have hcz42_0 : w39.cell? ⟨gb107, 0, none⟩ = some (.int .i64 a0_0) := (blk_cell BK107.out 0).trans rfl; have hcz42_1 : w39.cell? ⟨gb107, 1, none⟩ = some (.int .i64 a0_1) := (blk_cell BK107.out 1).trans rfl; have hcz42_2 : w39.cell? ⟨gb107, 2, none⟩ = some (.int .i64 a0_2) := (blk_cell BK107.out 2).trans rfl; have hcz42_3 : w39.cell? ⟨gb107, 3, none⟩ = some (.int .i64 a0_3) := (blk_cell BK107.out 3).trans rfl; have hfz42_0 := blk_frozen BK107.out 0; have hfz42_1 := blk_frozen BK107.out 1; have hfz42_2 := blk_frozen BK107.out 2; have hfz42_3 := blk_frozen BK107.out 3) | ((with_reducible refine gate_callee (f := 69) rfl ?_); refine goesL_ (some 32) rfl rfl Tryd.func69 (by kernel_rfl) rfl #[.bool true, .int .i64 a0_2, .int .i64 (l1_2.length : Int)] rfl z61_3 ?_; (with_reducible refine (ir_within.calls true a0_2 (l1_2.length : Int) false _ A23.out).mono ?_); rintro e w' ⟨rfl, ⟨nd, rfl⟩⟩; refine ⟨_, rfl, ?_⟩))
    go_ret
    exact ⟨by first | rfl | (simp [errW_none, errW_some] <;> rfl) | (simp [*, errW_none, errW_some] <;> rfl), by repeat (first | (with_reducible first | exact HB.out | apply below_alloc | apply pw_below_drewN | apply below_drew1 | refine below_set ?_ GE107.out | refine below_set ?_ GE108.out) | exact HB.out)⟩
  ·rw [if_neg c22] at H
   have c22b0 : (a0_0 == 2) = false := beq_eq_false_iff_ne.mpr c22; have c22b1 : (a0_0 != 2) = true := bne_iff_ne.mpr c22
   by_cases c43 : a0_0 = 3
   ·rw [if_pos c43] at H
    have c43b0 : (a0_0 == 3) = true := beq_iff_eq.mpr c43; have c43b1 : (a0_0 != 3) = false := bne_eq_false_iff_eq.mpr c43; clear c43; obtain rfl := Option.some.inj H
    go_enter Tryd.func61, Tryd.ntmps61
    go_wp2_with (first | ((with_reducible refine gate_dst (N := 2) rfl ?_); refine box_event ?hg (N := 2) ?hd (cs := #[.int .i64 a0_0, .int .i64 a0_1, .int .i64 a0_2, .int .i64 a0_3]) (t := 34) ?hr ?_; (case hd => rfl); (case hg => rfl); (case hr => first | (go_simp; done) | (go_simp; rfl)); intro gb107 hg w44 hbox hb; have n0_ := Aside0.mk (below_step z61_1 hb); have n1_ := Aside0.mk (hbox); have n2_ := Aside0.mk ((by rw [hg]; exact (below_size z61_1) : w.heap.size ≤ gb107)); have n3_ := n2_; clear HB; revert n0_ n1_ n2_ n3_; intro HB BK107 GW107 GE107; clear hb hbox hg) | ((with_reducible refine gate_dst (N := 3) rfl ?_); refine box_event ?hg (N := 3) ?hd (cs := #[.int .i64 a1_0, .slice A1_1 l1_1.length c1_1, .slice A1_2 l1_2.length c1_2]) (t := 25) ?hr ?_; (case hd => rfl); (case hg => rfl); (case hr => first | (go_simp; done) | (go_simp; rfl)); intro gb108 hg w45 hbox hb; have n0_ := Aside0.mk (blk_below (g := gb107) (o := .cells #[.int .i64 a0_0, .int .i64 a0_1, .int .i64 a0_2, .int .i64 a0_3] 34 (0, 0)) z61_2 hb); have n1_ := Aside0.mk (below_step z61_0 hb); have n2_ := Aside0.mk (hbox); have n3_ := Aside0.mk ((by rw [hg]; exact (below_size z61_0) : w.heap.size ≤ gb108)); have n4_ := n3_; have n5_ := Aside0.mk ((by rw [hg]; exact Nat.ne_of_lt (blk_lt (g := gb107) (o := .cells #[.int .i64 a0_0, .int .i64 a0_1, .int .i64 a0_2, .int .i64 a0_3] 34 (0, 0)) z61_2) : gb107 ≠ gb108)); have n6_ := Aside0.mk (Ne.symm n5_.out); clear BK107 HB; revert n0_ n1_ n2_ n3_ n4_ n5_ n6_; intro BK107 HB BK108 GW108 GE108 NB107_108 NB108_107; clear hb hbox hg; have hnb46 := NB108_107.out; have hnc46 := NB107_108.out; have hcz47_0 : w45.cell? ⟨gb108, 0, none⟩ = some (.int .i64 a1_0) := (blk_cell BK108.out 0).trans rfl; have hcz47_1 : w45.cell? ⟨gb108, 1, none⟩ = some (.slice A1_1 l1_1.length c1_1) := (blk_cell BK108.out 1).trans rfl; have hcz47_2 : w45.cell? ⟨gb108, 2, none⟩ = some (.slice A1_2 l1_2.length c1_2) := (blk_cell BK108.out 2).trans rfl; have hfz47_0 := blk_frozen BK108.out 0; have hfz47_1 := blk_frozen BK108.out 1; have hfz47_2 := blk_frozen BK108.out 2; have hcz48_0 : w45.cell? ⟨gb107, 0, none⟩ = some (.int .i64 a0_0) := (blk_cell BK107.out 0).trans rfl; have hcz48_1 : w45.cell? ⟨gb107, 1, none⟩ = some (.int .i64 a0_1) := (blk_cell BK107.out 1).trans rfl; have hcz48_2 : w45.cell? ⟨gb107, 2, none⟩ = some (.int .i64 a0_2) := (blk_cell BK107.out 2).trans rfl; have hcz48_3 : w45.cell? ⟨gb107, 3, none⟩ = some (.int .i64 a0_3) := (blk_cell BK107.out 3).trans rfl; have hfz48_0 := blk_frozen BK107.out 0; have hfz48_1 := blk_frozen BK107.out 1; have hfz48_2 := blk_frozen BK107.out 2; have hfz48_3 := blk_frozen BK107.out 3))
    go_ret
    exact ⟨by first | rfl | (simp [errW_none, errW_some] <;> rfl) | (simp [*, errW_none, errW_some] <;> rfl), by repeat (first | (with_reducible first | exact HB.out | apply below_alloc | apply pw_below_drewN | apply below_drew1 | refine below_set ?_ GE107.out | refine below_set ?_ GE108.out) | exact HB.out)⟩
   ·rw [if_neg c43] at H
    have c43b0 : (a0_0 == 3) = false := beq_eq_false_iff_ne.mpr c43; have c43b1 : (a0_0 != 3) = true := bne_iff_ne.mpr c43; obtain rfl := Option.some.inj H
    go_enter Tryd.func61, Tryd.ntmps61
    go_wp2_with (first | ((with_reducible refine gate_dst (N := 2) rfl ?_); refine box_event ?hg (N := 2) ?hd (cs := #[.int .i64 a0_0, .int .i64 a0_1, .int .i64 a0_2, .int .i64 a0_3]) (t := 34) ?hr ?_; (case hd => rfl); (case hg => rfl); (case hr => first | (go_simp; done) | (go_simp; rfl)); intro gb107 hg w49 hbox hb; have n0_ := Aside0.mk (below_step z61_1 hb); have n1_ := Aside0.mk (hbox); have n2_ := Aside0.mk ((by rw [hg]; exact (below_size z61_1) : w.heap.size ≤ gb107)); have n3_ := n2_; clear HB; revert n0_ n1_ n2_ n3_; intro HB BK107 GW107 GE107; clear hb hbox hg) | ((with_reducible refine gate_dst (N := 3) rfl ?_); refine box_event ?hg (N := 3) ?hd (cs := #[.int .i64 a1_0, .slice A1_1 l1_1.length c1_1, .slice A1_2 l1_2.length c1_2]) (t := 25) ?hr ?_; (case hd => rfl); (case hg => rfl); (case hr => first | (go_simp; done) | (go_simp; rfl)); intro gb108 hg w50 hbox hb; have n0_ := Aside0.mk (blk_below (g := gb107) (o := .cells #[.int .i64 a0_0, .int .i64 a0_1, .int .i64 a0_2, .int .i64 a0_3] 34 (0, 0)) z61_2 hb); have n1_ := Aside0.mk (below_step z61_0 hb); have n2_ := Aside0.mk (hbox); have n3_ := Aside0.mk ((by rw [hg]; exact (below_size z61_0) : w.heap.size ≤ gb108)); have n4_ := n3_; have n5_ := Aside0.mk ((by rw [hg]; exact Nat.ne_of_lt (blk_lt (g := gb107) (o := .cells #[.int .i64 a0_0, .int .i64 a0_1, .int .i64 a0_2, .int .i64 a0_3] 34 (0, 0)) z61_2) : gb107 ≠ gb108)); have n6_ := Aside0.mk (Ne.symm n5_.out); clear BK107 HB; revert n0_ n1_ n2_ n3_ n4_ n5_ n6_; intro BK107 HB BK108 GW108 GE108 NB107_108 NB108_107; clear hb hbox hg; have hnb51 := NB108_107.out; have hnc51 := NB107_108.out; have hcz52_0 : w50.cell? ⟨gb108, 0, none⟩ = some (.int .i64 a1_0) := (blk_cell BK108.out 0).trans rfl; have hcz52_1 : w50.cell? ⟨gb108, 1, none⟩ = some (.slice A1_1 l1_1.length c1_1) := (blk_cell BK108.out 1).trans rfl; have hcz52_2 : w50.cell? ⟨gb108, 2, none⟩ = some (.slice A1_2 l1_2.length c1_2) := (blk_cell BK108.out 2).trans rfl; have hfz52_0 := blk_frozen BK108.out 0; have hfz52_1 := blk_frozen BK108.out 1; have hfz52_2 := blk_frozen BK108.out 2; have hcz53_0 : w50.cell? ⟨gb107, 0, none⟩ = some (.int .i64 a0_0) := (blk_cell BK107.out 0).trans rfl; have hcz53_1 : w50.cell? ⟨gb107, 1, none⟩ = some (.int .i64 a0_1) := (blk_cell BK107.out 1).trans rfl; have hcz53_2 : w50.cell? ⟨gb107, 2, none⟩ = some (.int .i64 a0_2) := (blk_cell BK107.out 2).trans rfl; have hcz53_3 : w50.cell? ⟨gb107, 3, none⟩ = some (.int .i64 a0_3) := (blk_cell BK107.out 3).trans rfl; have hfz53_0 := blk_frozen BK107.out 0; have hfz53_1 := blk_frozen BK107.out 1; have hfz53_2 := blk_frozen BK107.out 2; have hfz53_3 := blk_frozen BK107.out 3))
    go_ret
    exact ⟨by first | rfl | (simp [errW_none, errW_some] <;> rfl) | (simp [*, errW_none, errW_some] <;> rfl), by repeat (first | (with_reducible first | exact HB.out | apply below_alloc | apply pw_below_drewN | apply below_drew1 | refine below_set ?_ GE107.out | refine below_set ?_ GE108.out) | exact HB.out)⟩

end Go.Proofs.YtgenmfbidpmneaaDoor.PFlowOrders
