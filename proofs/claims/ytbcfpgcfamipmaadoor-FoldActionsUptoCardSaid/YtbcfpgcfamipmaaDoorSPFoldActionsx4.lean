-- printed by a program of this session (wip/mp.py: the kit's printer, patched, over the session's own templates); checked by Lean alone
import Derived.Test.YtbcfpgcfamipmaaDoorSPFoldActionsx0
import Derived.Test.YtbcfpgcfamipmaaDoorSPFoldActionsx3
namespace Go.Proofs.YtbcfpgcfamipmaaDoor.PFoldActions
open Go.RowKit Go.Proofs.YtbcfpgcfamipmaaDoorW.PrintWords Go.Proofs.YtbcfpgcfamipmaaDoorW.PrintLast Go.Proofs.YtbcfpgcfamipmaaDoorW.PrintMore
attribute [local go_sem] max2_int min2_int max_two min_two max_three min_three max_four min_four   -- for this text's walks alone
set_option linter.unusedVariables false
set_option linter.unusedSimpArgs false

/-! ### given: ref26_Right.lean -/
-- GIVEN spinnaker/spinnakerref26.Right rounds=0 making=1
-- NEEDS spinnaker/spinnakerref26.right
-- REG []int
-- REG []api.Block
-- INFO int
-- IMPORT Derived.Test.YtbcfpgcfamipmaaDoorEvalM
def refI (i : S38) (v c : Int) (k k2 : Nat) : Bool := insR i.f0 i.f1 i.f2 i.f3 i.f4 i.f5 i.f6 i.f7 v c k k2
/-- Is a size out of its bounds? -/
def badR (n : Int) : Bool := decide (n < 1) || decide (250 < n)
/-- The ids behind some instructions; none: one is not right. -/
def goRI (v c : Int) (k k2 : Nat) : List Int → List S38 → Option (List Int)
  | ids, [] => some ids
  | ids, i :: r => cond (refI i v c k k2) (cond (decide (0 < i.f7)) (cond (ids.contains i.f7) none (goRI v c k k2 (ids ++ [i.f7]) r)) (goRI v c k k2 ids r)) none
/-- Is a block's end right, as the document says? -/
def endR4 (e0 e1 e2 e3 v n : Int) : Bool := cond (e0 == 1) (cond (decide (e2 < 0)) false (cond (decide (n ≤ e2)) false (cond ((e1 != 0)) false (cond ((e3 != 0)) false true)))) (cond (e0 == 2) (cond (decide (e2 < 0)) false (cond (decide (n ≤ e2)) false (cond (decide (e3 < 0)) false (cond (decide (n ≤ e3)) false (cond (decide (e1 < 0)) false (cond (decide (v ≤ e1)) false true)))))) (cond (e0 == 3) (cond ((e1 != 0)) false (cond ((e2 != 0)) false (cond ((e3 != 0)) false true))) false))
def endR (e : S34) (v n : Int) : Bool := endR4 e.f0 e.f1 e.f2 e.f3 v n
def goRB (v c : Int) (k k2 : Nat) : List Int → List S36 → Bool
  | _, [] => true
  | ids, b :: r => match goRI v c k k2 ids b.f0 with
    | some ids' => cond (endR b.f1 v k2) (goRB v c k k2 ids' r) false
    | none => false
/-- Is a thread right, as the document says? -/
def refRB (v : Int) (k : List Int) (k2 : List S36) (c : Int) : Bool :=
  !(decide (v < 0) || decide (200 < v) || decide (k2.length < 1) || decide (4000 < k2.length)) && (!k.any badR && goRB v c k.length k2.length [] k2)
/-- Aren't its blocks too long? -/
def okLen (k : List Int) (k2 : List S36) : Prop := k.length ≤ 4294967296 ∧ ∀ b ∈ k2, b.f0.length ≤ 1048576
instance (k : List Int) (k2 : List S36) : Decidable (okLen k k2) := by unfold okLen; exact inferInstance
def spinnakerref26_Right.f (v : Int) (k : List Int) (k2 : List S36) (c : Int) : Option Bool := if okLen k k2 then some (refRB v k k2 c) else none
theorem ref_early {v : Int} {k : List Int} {k2 : List S36} {c : Int} (h : v < 0 ∨ 200 < v ∨ (k2.length : Int) < 1 ∨ 4000 < (k2.length : Int)) : refRB v k k2 c = false := by
  unfold refRB
  rcases h with h | h | h | h
  · simp [h]
  · simp [h]
  · have : k2.length < 1 := by omega
    simp [this]
  · have : 4000 < k2.length := by omega
    simp [this]
theorem ref_late {v : Int} {k : List Int} {k2 : List S36} {c : Int} (h1 : ¬ v < 0) (h2 : ¬ 200 < v) (h3 : ¬ (k2.length : Int) < 1) (h4 : ¬ 4000 < (k2.length : Int)) : refRB v k k2 c = (!k.any badR && goRB v c k.length k2.length [] k2) := by
  unfold refRB
  have e3 : ¬ k2.length < 1 := by omega
  have e4 : ¬ 4000 < k2.length := by omega
  simp [h1, h2, e3, e4]
theorem ref_bad {k : List Int} {q : Nat} (hq : q < k.length) (h : badR (k.getD q 0) = true) (b : Bool) : (!k.any badR && b) = false := by
  have : k.any badR = true := List.any_eq_true.2 ⟨k.getD q 0, by simp [hq], h⟩
  simp [this]
theorem ref_good {k : List Int} (h : ∀ q, q < k.length → badR (k.getD q 0) = false) (b : Bool) : (!k.any badR && b) = b := by
  have : k.any badR = false := by
    rw [List.any_eq_false]
    intro x hx
    obtain ⟨q, hq, rfl⟩ := List.getElem_of_mem hx
    have := h q hq
    simpa [hq] using this
  simp [this]
/-- What comes of the rest of a block. -/
def goRX (v c : Int) (k k2 : Nat) (e : S34) (rest : List S36) (ids : List Int) (l : List S38) : Bool :=
  match goRI v c k k2 ids l with
  | some ids' => cond (endR e v k2) (goRB v c k k2 ids' rest) false
  | none => false
theorem goRB_cons (v c : Int) (k k2 : Nat) (ids : List Int) (b : S36) (r : List S36) : goRB v c k k2 ids (b :: r) = goRX v c k k2 b.f1 r ids b.f0 := rfl
theorem goRX_nil (v c : Int) (k k2 : Nat) (e : S34) (r : List S36) (ids : List Int) : goRX v c k k2 e r ids [] = cond (endR e v k2) (goRB v c k k2 ids r) false := rfl
theorem goRX_bad {v c : Int} {k k2 : Nat} {e : S34} {rest : List S36} {ids : List Int} {i : S38} {l : List S38} (h : refI i v c k k2 = false) : goRX v c k k2 e rest ids (i :: l) = false := by
  simp [goRX, goRI, h]
theorem goRX_seen {v c : Int} {k k2 : Nat} {e : S34} {rest : List S36} {ids : List Int} {i : S38} {l : List S38} (h : refI i v c k k2 = true) (h1 : 0 < i.f7) {q : Nat} (hq : q < ids.length) (h2 : ids.getD q 0 = i.f7) : goRX v c k k2 e rest ids (i :: l) = false := by
  have : ids.contains i.f7 = true := by
    rw [List.contains_iff_mem, ← h2]
    simp [hq]
  unfold goRX
  simp only [goRI, h, cond_true, decide_eq_true h1, this]
theorem goRX_new {v c : Int} {k k2 : Nat} {e : S34} {rest : List S36} {ids : List Int} {i : S38} {l : List S38} (h : refI i v c k k2 = true) (h1 : 0 < i.f7) (h2 : ∀ q, q < ids.length → ids.getD q 0 ≠ i.f7) : goRX v c k k2 e rest ids (i :: l) = goRX v c k k2 e rest (ids ++ [i.f7]) l := by
  have : ids.contains i.f7 = false := by
    rw [Bool.eq_false_iff]
    intro hc
    rw [List.contains_iff_mem] at hc
    obtain ⟨q, hq, hqe⟩ := List.getElem_of_mem hc
    exact h2 q hq (by simpa [hq] using hqe)
  unfold goRX
  simp only [goRI, h, cond_true, decide_eq_true h1, this, cond_false]
theorem goRX_none {v c : Int} {k k2 : Nat} {e : S34} {rest : List S36} {ids : List Int} {i : S38} {l : List S38} (h : refI i v c k k2 = true) (h1 : ¬ 0 < i.f7) : goRX v c k k2 e rest ids (i :: l) = goRX v c k k2 e rest ids l := by
  simp [goRX, goRI, h, h1]
theorem drop_getD {α : Type} (l : List α) (z : α) (i : Nat) (h : i < l.length) : l.drop i = l.getD i z :: l.drop (i + 1) := by
  rw [List.drop_eq_getElem_cons h]
  simp [h]
theorem r_cells3 {w : World} {g : Nat} {t : TypeId} {x0 x1 x2 : Value} (h : w.heap[g]? = some (.cells #[x0, x1, x2] t (0, 0))) : w.cell? ⟨g, 0, none⟩ = some x0 ∧ w.cell? ⟨g, 1, none⟩ = some x1 ∧ w.cell? ⟨g, 2, none⟩ = some x2 := ⟨(blk_cell h 0).trans rfl, (blk_cell h 1).trans rfl, (blk_cell h 2).trans rfl⟩
theorem r_cells8 {w : World} {g : Nat} {t : TypeId} {x0 x1 x2 x3 x4 x5 x6 x7 : Value} (h : w.heap[g]? = some (.cells #[x0, x1, x2, x3, x4, x5, x6, x7] t (0, 0))) : w.cell? ⟨g, 0, none⟩ = some x0 ∧ w.cell? ⟨g, 1, none⟩ = some x1 ∧ w.cell? ⟨g, 2, none⟩ = some x2 ∧ w.cell? ⟨g, 3, none⟩ = some x3 ∧ w.cell? ⟨g, 4, none⟩ = some x4 ∧ w.cell? ⟨g, 5, none⟩ = some x5 ∧ w.cell? ⟨g, 6, none⟩ = some x6 ∧ w.cell? ⟨g, 7, none⟩ = some x7 := ⟨(blk_cell h 0).trans rfl, (blk_cell h 1).trans rfl, (blk_cell h 2).trans rfl, (blk_cell h 3).trans rfl, (blk_cell h 4).trans rfl, (blk_cell h 5).trans rfl, (blk_cell h 6).trans rfl, (blk_cell h 7).trans rfl⟩
theorem r_alloc {ops : Array Oper} {rest : List Oper} {o : Oper} {a : Act} {Q : Exit → Act → World → Prop} {W : World} {t : TypeId} {zs : Array Value} (hg : o.guard = none) (hop : o.op = .alloc t)
    (hz : (Instr.alloc t true (.tuple #[])).run Tryd.prog W = .ok (.pointer (some ⟨W.heap.size, 0, none⟩)) (W.alloc (.cells zs t (0, 0))))
    (h : ∀ b, b = W.heap.size → ∀ w1, w1.heap[b]? = some (.cells zs t (0, 0)) → Below W.heap.size W w1 → wpList Tryd.prog ops Q rest (a.put o.dst (.pointer (some ⟨b, 0, none⟩))) w1) : wpList Tryd.prog ops Q (o :: rest) a W :=
  Kd.event_run hg (by simp only [execOp, hop]; simp [hz, Result.andThen]) (h _ rfl _ (blk_new W _) (below_alloc (Below.refl _ _) _))
theorem r_store {ops : Array Oper} {rest : List Oper} {o : Oper} {a : Act} {Q : Exit → Act → World → Prop} {W : World} {t : TypeId} {x v : Operand} {g : Nat} {old cs : Array Value} (hg : o.guard = none) (hop : o.op = .store t x v) (hN : o.dst = none) (hx : a.eval x = .pointer (some ⟨g, 0, none⟩)) (hv : a.eval v = .agg cs)
    (hb : W.heap[g]? = some (.cells old t (0, 0))) (hi : (Tryd.prog.info? t).map (·.size) = some cs.size) (ho : old.size = cs.size) (h1 : cs.all (·.oneCell') = true)
    (h : ∀ w1, w1.heap[g]? = some (.cells cs t (0, 0)) → W.grownBy w1 (some g) → wpList Tryd.prog ops Q rest a w1) : wpList Tryd.prog ops Q (o :: rest) a W := by
  refine wpList_plain hg fun K hK => ?_
  have hrow := run_storeVar_row (P := Tryd.prog) W g t t old cs hb hi ho h1
  have hrun : (execOp a.eval o).run Tryd.prog W = .ok .skip (W.setRow g cs) := by
    simp [execOp, hop, hx, hv, Instr.storeAt, Instr.sureAddr, hrow, Result.andThen]
  unfold Oper.wp
  rw [hrun]
  show K (a.put o.dst undef) _
  rw [hN]
  exact hK _ _ (h _ (setRow_heap W g old cs t (0, 0) hb) ⟨rfl, rfl, rfl, by simp, fun i _ hi2 => setRow_other W g i cs (fun e => hi2 (by rw [e]))⟩)
theorem r_below {n g : Nat} {w W W1 : World} (h : Below n w W) (hg : W.grownBy W1 (some g)) (hn : n ≤ g) (hs : n ≤ W.heap.size) : Below n w W1 :=
  ⟨hg.os.trans h.os, hg.tape.trans h.tape, hg.output.trans h.output, Nat.le_trans h.size hg.size, fun i hi => (hg.block i (Nat.lt_of_lt_of_le hi hs) (fun e => by injection e with e; omega)).trans (h.block i hi)⟩
theorem r_cells4 {w : World} {g : Nat} {t : TypeId} {x0 x1 x2 x3 : Value} (h : w.heap[g]? = some (.cells #[x0, x1, x2, x3] t (0, 0))) : w.cell? ⟨g, 0, none⟩ = some x0 ∧ w.cell? ⟨g, 1, none⟩ = some x1 ∧ w.cell? ⟨g, 2, none⟩ = some x2 ∧ w.cell? ⟨g, 3, none⟩ = some x3 := ⟨(blk_cell h 0).trans rfl, (blk_cell h 1).trans rfl, (blk_cell h 2).trans rfl, (blk_cell h 3).trans rfl⟩
set_option maxRecDepth 100000 in
set_option maxHeartbeats 8000000 in
theorem spinnakerref26_Right.calls (a0_0 : Int) (A0_1 : Option Addr) (c0_1 : Nat) (l0_1 : List Int) (A0_2 : Option Addr) (c0_2 : Nat) (l0_2 : List (S36)) (a1 : Int) (r : Bool) (w : World) (hr0_1 : Kd.C (Kd.int .i64) w A0_1 l0_1.length l0_1) (hc0_1 : l0_1.length ≤ c0_1) (hr0_2 : Kd.C k36 w A0_2 l0_2.length l0_2) (hc0_2 : l0_2.length ≤ c0_2) (h : spinnakerref26_Right.f a0_0 l0_1 l0_2 a1 = some r) :
    Calls Tryd.prog 9 #[.agg #[.int .i64 a0_0, .slice A0_1 l0_1.length c0_1, .slice A0_2 l0_2.length c0_2], .int .i64 a1] w fun e w' => e = .returned (.bool r) ∧ Below w.heap.size w w' := by
  have hok : okLen l0_1 l0_2 := by
    unfold spinnakerref26_Right.f at h
    by_cases e : okLen l0_1 l0_2
    · exact e
    · rw [if_neg e] at h; cases h
  unfold spinnakerref26_Right.f at h
  rw [if_pos hok] at h
  injection h with h
  have hu25 := Tryd.underlying25
  have hu38 := Tryd.underlying38
  have hu34 := Tryd.underlying34
  have hu36 := Tryd.underlying36
  have HOK := Aside0.mk hok
  clear hok
  have HR0_1 := Aside0.mk hr0_1
  have HC0_1 := Aside0.mk hc0_1
  clear hr0_1 hc0_1
  have HR0_2 := Aside0.mk hr0_2
  have HC0_2 := Aside0.mk hc0_2
  clear hr0_2 hc0_2
  have HB := Aside0.mk (Below.refl w.heap.size w)
  go_enter Tryd.func9, Tryd.ntmps9
  go_upto_region 1 with (first | ((with_reducible refine gate_dst (N := 2) rfl ?_); refine box_event ?hg (N := 2) ?hd (cs := #[.int .i64 a0_0, .slice A0_1 l0_1.length c0_1, .slice A0_2 l0_2.length c0_2]) (t := 25) ?hr ?_; (case hd => rfl); (case hg => rfl); (case hr => first | (go_simp; done) | (go_simp; rfl)); intro gt hg wb hbox hb; have n0_ := Aside0.mk (below_step (by repeat (first | (with_reducible first | exact HB.out | apply below_alloc | apply pw_below_drewN | apply below_drew1) | exact HB.out)) hb); have BKgt := Aside0.mk hbox; clear HB; have HB := n0_; clear n0_ hb hbox hg))
  obtain ⟨ht0, ht1, ht2⟩ := r_cells3 BKgt.out
  by_cases c1 : a0_0 < 0
  · have c1b : decide (a0_0 < 0) = true := decide_eq_true c1
    obtain rfl := (ref_early (k := l0_1) (k2 := l0_2) (c := a1) (v := a0_0) (.inl c1)).symm.trans h
    clear c1 h
    go_wp2
    go_ret
    exact ⟨rfl, HB.out⟩
  have c1b : decide (a0_0 < 0) = false := decide_eq_false c1
  by_cases c2 : 200 < a0_0
  · have c2b : decide (200 < a0_0) = true := decide_eq_true c2
    obtain rfl := (ref_early (k := l0_1) (k2 := l0_2) (c := a1) (v := a0_0) (.inr (.inl c2))).symm.trans h
    clear c2 h
    go_wp2
    go_ret
    exact ⟨rfl, HB.out⟩
  have c2b : decide (200 < a0_0) = false := decide_eq_false c2
  by_cases c3 : (l0_2.length : Int) < 1
  · have c3b : decide ((l0_2.length : Int) < 1) = true := decide_eq_true c3
    obtain rfl := (ref_early (k := l0_1) (k2 := l0_2) (c := a1) (v := a0_0) (.inr (.inr (.inl c3)))).symm.trans h
    clear c3 h
    go_wp2
    go_ret
    exact ⟨rfl, HB.out⟩
  have c3b : decide ((l0_2.length : Int) < 1) = false := decide_eq_false c3
  by_cases c4 : 4000 < (l0_2.length : Int)
  · have c4b : decide (4000 < (l0_2.length : Int)) = true := decide_eq_true c4
    obtain rfl := (ref_early (k := l0_1) (k2 := l0_2) (c := a1) (v := a0_0) (.inr (.inr (.inr c4)))).symm.trans h
    clear c4 h
    go_wp2
    go_ret
    exact ⟨rfl, HB.out⟩
  have c4b : decide (4000 < (l0_2.length : Int)) = false := decide_eq_false c4
  rw [ref_late c1 c2 c3 c4] at h
  have H4 := Aside0.mk (show l0_2.length ≤ 4000 by omega)
  clear c1 c2 c3 c4
  have HH := Aside0.mk h
  clear h
  go_wp2
  clear ht0 ht1 ht2 c1b c2b c3b c4b
  go_loopg [5] l0_1.length (fun gg v5 wr => ∃ q : Nat, q ≤ l0_1.length ∧ l0_1.length - q ≤ gg ∧ v5 = .int .i64 (q : Int) ∧ Aside0 (∀ p, p < q → badR (l0_1.getD p 0) = false) ∧ Aside0 (wr.heap[gt]? = some (.cells #[.int .i64 a0_0, .slice A0_1 l0_1.length c0_1, .slice A0_2 l0_2.length c0_2] 25 (0, 0))) ∧ Aside0 (Below w.heap.size w wr))
  case atStart => exact ⟨0, Nat.zero_le _, by omega, rfl, ⟨fun p hp => absurd hp (Nat.not_lt_zero _)⟩, BKgt, HB⟩
  case round =>
    clear BKgt HB
    obtain ⟨q, hq, hgq, rfl, HQ, BKgt, HB⟩ := hrel
    obtain ⟨ht0, ht1, ht2⟩ := r_cells3 BKgt.out
    by_cases hlq : q < l0_1.length
    · have hlqz : (q : Int) < (l0_1.length : Int) := by omega
      obtain ⟨adq, rfl, hx⟩ := Kd.at_int HR0_1.out (q : Int) (by omega) hlqz
      replace hx := (HB.out.cell (World.block_lt_of_cell? w _ hx)).trans hx
      rw [Int.toNat_natCast, show rd l0_1 (q : Int) = l0_1.getD q 0 by simp [rd]] at hx
      by_cases d1 : l0_1.getD q 0 < 1
      · have d1b : decide (l0_1.getD q 0 < 1) = true := decide_eq_true d1
        obtain rfl := (ref_bad hlq (by simp only [badR, d1b]; rfl) _).symm.trans HH.out
        clear d1 HH
        generalize l0_1.getD q 0 = y at hx d1b
        go_wp2
        go_ret
        exact ⟨rfl, HB.out⟩
      · have d1b : decide (l0_1.getD q 0 < 1) = false := decide_eq_false d1
        by_cases d2 : 250 < l0_1.getD q 0
        · have d2b : decide (250 < l0_1.getD q 0) = true := decide_eq_true d2
          obtain rfl := (ref_bad hlq (by simp only [badR, d1b, d2b]; rfl) _).symm.trans HH.out
          clear d1 d2 HH
          generalize l0_1.getD q 0 = y at hx d1b d2b
          go_wp2
          go_ret
          exact ⟨rfl, HB.out⟩
        · have d2b : decide (250 < l0_1.getD q 0) = false := decide_eq_false d2
          have hgood : badR (l0_1.getD q 0) = false := by simp only [badR, d1b, d2b]; rfl
          have HGD := Aside0.mk hgood
          clear d1 d2 hgood
          obtain ⟨y, hy⟩ : ∃ y, Aside0 (l0_1.getD q 0 = y) := ⟨_, ⟨rfl⟩⟩
          rw [hy.out] at hx d1b d2b
          go_wp2
          go_roundg (l0_1.length - (q + 1))
          case measure => omega
          case rel =>
            refine ⟨q + 1, by omega, by omega, by rw [show wrap64 ((q : Int) + 1) = ((q + 1 : Nat) : Int) by unfold wrap64; have := HOK.out.1; omega], ⟨fun p hp => ?_⟩, BKgt, HB⟩
            by_cases e : p = q
            · subst e; exact HGD.out
            · exact HQ.out p (by omega)
    · have hq2 : q = l0_1.length := by omega
      have hlqz : ¬ (q : Int) < (l0_1.length : Int) := by omega
      have h2 := (ref_good (fun p hp => HQ.out p (by omega)) _).symm.trans HH.out
      clear HH HQ hlq
      have HH := Aside0.mk h2
      clear h2
      go_wp2
      clear ht0 ht1 ht2
      go_loopg [6, 8] l0_2.length (fun gg v6 v8 wr => ∃ (k : Nat) (ids : List Int), k ≤ l0_2.length ∧ l0_2.length - k ≤ gg ∧ v8 = .int .i64 (k : Int) ∧ Aside0 (goRB a0_0 a1 l0_1.length l0_2.length ids (l0_2.drop k) = r) ∧ Aside0 (ids.length ≤ k * 1048576) ∧ Aside0 (Kd.R (Kd.int .i64) 3 wr w.heap.size (fun _ => True) v6 ids) ∧ Aside0 (wr.heap[gt]? = some (.cells #[.int .i64 a0_0, .slice A0_1 l0_1.length c0_1, .slice A0_2 l0_2.length c0_2] 25 (0, 0))) ∧ Aside0 (Below w.heap.size w wr))
      case atStart => exact ⟨0, [], Nat.zero_le _, by omega, rfl, ⟨by simpa using HH.out⟩, ⟨Nat.zero_le _⟩, ⟨Kd.R_nil _ _ _ _ _⟩, BKgt, HB⟩
      case round =>
        clear HH BKgt HB
        obtain ⟨k, ids, hk, hgg, rfl, HH, HN, HO, BKgt, HB⟩ := hrel
        obtain ⟨Ao, co, eo⟩ := Kd.R_slice HO.out
        subst eo
        by_cases hlt : k < l0_2.length
        · have hltz : (k : Int) < (l0_2.length : Int) := by omega
          obtain ⟨ad, A, c, rfl, hx0, hx1, hx2, hx3, hx4, hl, hi⟩ := at_T36 HR0_2.out (k : Int) (by omega) hltz
          rw [show rd_T36 l0_2 (k : Int) = l0_2.getD k z36 by simp [rd_T36]] at hx0 hx1 hx2 hx3 hx4 hl hi
          have hmem : l0_2.getD k z36 ∈ l0_2 := by simp [hlt]
          have hlen := HOK.out.2 _ hmem
          have hdrop := drop_getD l0_2 z36 k hlt
          have HH2 := HH.out
          rw [hdrop, goRB_cons] at HH2
          clear HH hdrop hmem
          generalize l0_2.getD k z36 = bk at hx0 hx1 hx2 hx3 hx4 hl hi hlen HH2
          rw [Int.toNat_natCast] at hx0 hx1 hx2 hx3 hx4
          have HH := Aside0.mk HH2
          have HI := Aside0.mk hi
          have HID := Aside0.mk hlen
          have HX0 := Aside0.mk hx0
          have HX1 := Aside0.mk hx1
          have HX2 := Aside0.mk hx2
          have HX3 := Aside0.mk hx3
          have HX4 := Aside0.mk hx4
          clear HH2 hi hl hlen hx0 hx1 hx2 hx3 hx4
          go_wp2
          go_loopg [6, 9] bk.f0.length (fun gg v6 v9 wr => ∃ (j : Nat) (ids' : List Int), j ≤ bk.f0.length ∧ bk.f0.length - j ≤ gg ∧ v9 = .int .i64 (j : Int) ∧ Aside0 (goRX a0_0 a1 l0_1.length l0_2.length bk.f1 (l0_2.drop (k + 1)) ids' (bk.f0.drop j) = r) ∧ Aside0 (ids'.length ≤ k * 1048576 + j) ∧ Aside0 (Kd.R (Kd.int .i64) 3 wr w.heap.size (fun _ => True) v6 ids') ∧ Aside0 (wr.heap[gt]? = some (.cells #[.int .i64 a0_0, .slice A0_1 l0_1.length c0_1, .slice (some ad) l0_2.length c0_2] 25 (0, 0))) ∧ Aside0 (Below w.heap.size w wr))
          case atStart => exact ⟨0, ids, Nat.zero_le _, by omega, rfl, ⟨by simpa using HH.out⟩, ⟨Nat.le_trans HN.out (Nat.le_add_right _ _)⟩, HO, BKgt, HB⟩
          case round =>
            clear HH HN HO BKgt HB
            obtain ⟨j, ids', hj, hgj, rfl, HH, HN, HO, BKgt, HB⟩ := hrel
            obtain ⟨Ao2, co2, eo⟩ := Kd.R_slice HO.out
            subst eo
            obtain ⟨ht0, ht1, ht2⟩ := r_cells3 BKgt.out
            have hx0 := (HB.out.cell (World.block_lt_of_cell? w _ HX0.out)).trans HX0.out
            by_cases hlj : j < bk.f0.length
            · have hljz : (j : Int) < (bk.f0.length : Int) := by omega
              obtain ⟨ad2, rfl, hy0, hy1, hy2, hy3, hy4, hy5, hy6, hy7⟩ := at_T38 HI.out (j : Int) (by omega) hljz
              rw [show rd_T38 bk.f0 (j : Int) = bk.f0.getD j z38 by simp [rd_T38]] at hy0 hy1 hy2 hy3 hy4 hy5 hy6 hy7
              have hdrop := drop_getD bk.f0 z38 j hlj
              have HH2 := HH.out
              rw [hdrop] at HH2
              clear HH hdrop
              generalize bk.f0.getD j z38 = i at hy0 hy1 hy2 hy3 hy4 hy5 hy6 hy7 HH2
              have HH := Aside0.mk HH2
              clear HH2
              rw [Int.toNat_natCast] at hy0 hy1 hy2 hy3 hy4 hy5 hy6 hy7
              replace hy0 := (HB.out.cell (World.block_lt_of_cell? w _ hy0)).trans hy0
              replace hy1 := (HB.out.cell (World.block_lt_of_cell? w _ hy1)).trans hy1
              replace hy2 := (HB.out.cell (World.block_lt_of_cell? w _ hy2)).trans hy2
              replace hy3 := (HB.out.cell (World.block_lt_of_cell? w _ hy3)).trans hy3
              replace hy4 := (HB.out.cell (World.block_lt_of_cell? w _ hy4)).trans hy4
              replace hy5 := (HB.out.cell (World.block_lt_of_cell? w _ hy5)).trans hy5
              replace hy6 := (HB.out.cell (World.block_lt_of_cell? w _ hy6)).trans hy6
              replace hy7 := (HB.out.cell (World.block_lt_of_cell? w _ hy7)).trans hy7
              go_upto_region 17 with (first | ((with_reducible refine gate_dst (N := 10) rfl ?_); refine r_alloc rfl (t := 38) (zs := #[.int .i64 0, .int .i64 0, .int .i64 0, .int .i64 0, .int .i64 0, .int .i64 0, .int .i64 0, .int .i64 0]) rfl (by kernel_rfl) ?_; intro gi hgi wb hnew hb; have BKgi := Aside0.mk hnew; have Ggi := Aside0.mk (show w.heap.size ≤ gi by rw [hgi]; exact below_size (by repeat (first | (with_reducible first | exact HB.out | apply below_alloc | apply pw_below_drewN | apply below_drew1) | exact HB.out))); have NEgigt := Aside0.mk (show gi ≠ gt by rw [hgi]; exact Nat.ne_of_gt (blk_lt BKgt.out)); have n0_ := Aside0.mk (below_step (by repeat (first | (with_reducible first | exact HB.out | apply below_alloc | apply pw_below_drewN | apply below_drew1) | exact HB.out)) hb); have n1_ := Aside0.mk (blk_below BKgt.out hb); have n9_ := Aside0.mk (Kd.R_below HO.out hb); clear HB HO BKgt hb; have HB := n0_; have HO := n9_; have BKgt := n1_; clear n0_ n9_ n1_; clear hnew hgi) | ((with_reducible refine gate_store (t := 38) (p := 10) rfl ?_); refine r_store rfl (t := 38) rfl rfl rfl rfl BKgi.out (by kernel_rfl) rfl (by first | (simp; done) | (simp [Value.oneCell']; done) | (simp; rfl)) ?_; intro wb hnew hgr; have n0_ := Aside0.mk (r_below HB.out hgr Ggi.out HB.out.size); have n1_ := Aside0.mk (blk_grown BKgt.out hgr (fun e => by injection e with e; exact NEgigt.out e.symm)); have n9_ := Aside0.mk (Kd.R_grown1 HO.out rfl hgr (Kd.R_ne HO.out BKgi.out (by decide))); have n8_ := Aside0.mk hnew; clear HB HO BKgi BKgt hnew hgr; have HB := n0_; have HO := n9_; have BKgi := n8_; have BKgt := n1_; clear n0_ n9_ n8_ n1_))
              clear hy0 hy1 hy2 hy3 hy4 hy5 hy6 hy7 hx0
              obtain ⟨ht0, ht1, ht2⟩ := r_cells3 BKgt.out
              obtain ⟨hi0, hi1, hi2, hi3, hi4, hi5, hi6, hi7⟩ := r_cells8 BKgi.out
              cases hri : insR i.f0 i.f1 i.f2 i.f3 i.f4 i.f5 i.f6 i.f7 a0_0 a1 l0_1.length l0_2.length with
              | false =>
                obtain rfl := (goRX_bad hri).symm.trans HH.out
                clear HH
                go_upto_if 86 with (first | (go_at_call 26; refine (spinnakerref26_right.calls _ _ _ _ _ _ _ _ _ _ _ l0_1 _ _ l0_2 _ _ _ (Kd.C_below HR0_1.out HB.out) HC0_1.out (Kd.C_below HR0_2.out HB.out) HC0_2.out rfl).mono ?_; rintro e wb ⟨rfl, hb⟩; have n0_ := Aside0.mk (below_step (by repeat (first | (with_reducible first | exact HB.out | apply below_alloc | apply pw_below_drewN | apply below_drew1) | exact HB.out)) hb); have n1_ := Aside0.mk (blk_below BKgt.out hb); have n2_ := Aside0.mk (blk_below BKgi.out hb); have n9_ := Aside0.mk (Kd.R_below HO.out hb); clear HB HO BKgt BKgi hb; have HB := n0_; have HO := n9_; have BKgt := n1_; have BKgi := n2_; clear n0_ n9_ n1_ n2_; clear hi0 hi1 hi2 hi3 hi4 hi5 hi6 hi7; obtain ⟨hi0, hi1, hi2, hi3, hi4, hi5, hi6, hi7⟩ := r_cells8 BKgi.out))
                clear HR0_1 HR0_2 HC0_1 HC0_2 HOK H4 HI HID HN HO HX0 HX1 HX2 HX3 HX4 BKgt BKgi NEgigt Ggi ht0 ht1 ht2 hi0 hi1 hi2 hi3 hi4 hi5 hi6 hi7
                go_wp2
                go_ret
                exact ⟨rfl, HB.out⟩
              | true =>
                go_upto_if 86 with (first | (go_at_call 26; refine (spinnakerref26_right.calls _ _ _ _ _ _ _ _ _ _ _ l0_1 _ _ l0_2 _ _ _ (Kd.C_below HR0_1.out HB.out) HC0_1.out (Kd.C_below HR0_2.out HB.out) HC0_2.out rfl).mono ?_; rintro e wb ⟨rfl, hb⟩; have n0_ := Aside0.mk (below_step (by repeat (first | (with_reducible first | exact HB.out | apply below_alloc | apply pw_below_drewN | apply below_drew1) | exact HB.out)) hb); have n1_ := Aside0.mk (blk_below BKgt.out hb); have n2_ := Aside0.mk (blk_below BKgi.out hb); have n9_ := Aside0.mk (Kd.R_below HO.out hb); clear HB HO BKgt BKgi hb; have HB := n0_; have HO := n9_; have BKgt := n1_; have BKgi := n2_; clear n0_ n9_ n1_ n2_; clear hi0 hi1 hi2 hi3 hi4 hi5 hi6 hi7; obtain ⟨hi0, hi1, hi2, hi3, hi4, hi5, hi6, hi7⟩ := r_cells8 BKgi.out))
                by_cases c7 : 0 < i.f7
                · have c7b : decide (0 < i.f7) = true := decide_eq_true c7
                  go_wp2
                  clear ht0 ht1 ht2 hi0 hi1 hi2 hi3 hi4 hi5 hi6 hi7 c7b
                  go_loopg [11] ids'.length (fun gg v11 wr => ∃ m : Nat, m ≤ ids'.length ∧ ids'.length - m ≤ gg ∧ v11 = .int .i64 (m : Int) ∧ Aside0 (∀ p, p < m → ids'.getD p 0 ≠ i.f7) ∧ Aside0 (Kd.R (Kd.int .i64) 3 wr w.heap.size (fun _ => True) (.slice Ao2 ids'.length co2) ids') ∧ Aside0 (wr.heap[gt]? = some (.cells #[.int .i64 a0_0, .slice A0_1 l0_1.length c0_1, .slice (some ad) l0_2.length c0_2] 25 (0, 0))) ∧ Aside0 (wr.heap[gi]? = some (.cells #[.int .i64 i.f0, .int .i64 i.f1, .int .i64 i.f2, .int .i64 i.f3, .int .i64 i.f4, .int .i64 i.f5, .int .i64 i.f6, .int .i64 i.f7] 38 (0, 0))) ∧ Aside0 (Below w.heap.size w wr))
                  case atStart => exact ⟨0, Nat.zero_le _, by omega, rfl, ⟨fun p hp => absurd hp (Nat.not_lt_zero _)⟩, HO, BKgt, BKgi, HB⟩
                  case round =>
                    clear HO BKgt BKgi HB
                    obtain ⟨m, hm, hgm, rfl, HQ2, HO, BKgt, BKgi, HB⟩ := hrel
                    obtain ⟨hi0, hi1, hi2, hi3, hi4, hi5, hi6, hi7⟩ := r_cells8 BKgi.out
                    by_cases hlm : m < ids'.length
                    · have hlmz : (m : Int) < (ids'.length : Int) := by omega
                      obtain ⟨Ao3, co3, eo, _, hC⟩ := Kd.R_reads HO.out
                      injection eo with e1 e2 e3
                      subst e1
                      clear e2 e3
                      obtain ⟨adm, rfl, hz⟩ := Kd.at_int hC (m : Int) (by omega) hlmz
                      rw [Int.toNat_natCast, show rd ids' (m : Int) = ids'.getD m 0 by simp [rd]] at hz
                      clear hC
                      obtain ⟨y, hy⟩ : ∃ y, Aside0 (ids'.getD m 0 = y) := ⟨_, ⟨rfl⟩⟩
                      rw [hy.out] at hz
                      by_cases c9 : y = i.f7
                      · have c9b : (y == i.f7) = true := beq_iff_eq.mpr c9
                        obtain rfl := (goRX_seen hri c7 hlm (hy.out.trans c9)).symm.trans HH.out
                        clear HH HQ2 c9 c7 hri
                        go_wp2
                        repeat (go_quiet (fail); try go_wp2)
                        go_ret
                        exact ⟨rfl, by repeat (first | (with_reducible first | exact HB.out | apply below_alloc | apply pw_below_drewN | apply below_drew1) | exact HB.out)⟩
                      · have c9b : (y == i.f7) = false := beq_eq_false_iff_ne.mpr c9
                        have HC9 := Aside0.mk c9
                        clear c9
                        go_wp2
                        repeat (go_quiet (fail); try go_wp2)
                        go_roundg (ids'.length - (m + 1))
                        case measure => omega
                        case rel =>
                          refine ⟨m + 1, by omega, by omega, by rw [show wrap64 ((m : Int) + 1) = ((m + 1 : Nat) : Int) by unfold wrap64; have := HN.out; have := HID.out; have := H4.out; omega], ⟨fun p hp => ?_⟩, ⟨by (with_reducible repeat (first | apply Kd.R_alloc | apply Kd.R_drewN | apply Kd.R_drew)); exact HO.out⟩, ⟨by (with_reducible repeat (first | refine blk_drewN ?_ _ | refine blk_drew ?_ | refine blk_alloc ?_ _)); exact BKgt.out⟩, ⟨by (with_reducible repeat (first | refine blk_drewN ?_ _ | refine blk_drew ?_ | refine blk_alloc ?_ _)); exact BKgi.out⟩, ⟨by repeat (first | (with_reducible first | exact HB.out | apply below_alloc | apply pw_below_drewN | apply below_drew1) | exact HB.out)⟩⟩
                          by_cases e : p = m
                          · subst e; rw [hy.out]; exact HC9.out
                          · exact HQ2.out p (by omega)
                    · have hm2 : m = ids'.length := by omega
                      have hlmz : ¬ (m : Int) < (ids'.length : Int) := by omega
                      have HH2 := HH.out
                      rw [goRX_new hri c7 (fun q hq => HQ2.out q (by omega))] at HH2
                      clear HH HQ2 hlm hri c7
                      have HH := Aside0.mk HH2
                      clear HH2
                      go_wp2_with (first | ((with_reducible refine gate_builtin (b := .append) (xs := #[.tmp 103, .tmp 106]) rfl ?_); (try (refine gate_guard (by rfl) ?_; dsimp only)); at_builtin; refine Kd.R_append (Kd.int .i64) (w0 := w) w.heap.size rfl (.tmp 103) (.tmp 106) 22 3 (.int .i64 0) 8 rfl Tryd.underlying22 info3 rfl (by decide) (by omega) (.slice Ao2 ids'.length co2) ids' i.f7 [.int .i64 i.f7] (fun _ => True) (fun _ => False) rfl rfl ?aP (fun _ hk => hk.elim) ?aF ?aO ?aB ?aS ?aL ?_; (case aP => exact rfl); (case aB => exact HB.out); (case aF => exact (fun _ _ => trivial)); (case aO => exact HO.out); (case aS => exact (below_size HB.out)); (case aL => have h1 := HN.out; have h2 := HID.out; have h4 := H4.out; have h5 : k * 1048576 ≤ 4000 * 1048576 := Nat.mul_le_mul_right _ (by omega); omega); intro v113 wb ho hb hg hat; have n0_ := Aside0.mk (blk_grown BKgt.out hg (Kd.R_ne HO.out BKgt.out (by decide))); have n2_ := Aside0.mk hb; have n3_ := Aside0.mk ho; clear BKgt BKgi HB HO hi0 hi1 hi2 hi3 hi4 hi5 hi6 hi7; have BKgt := n0_; have HB := n2_; have HO := n3_; clear n0_ n2_ n3_ ho hb hg hat))
                      go_roundg (bk.f0.length - (j + 1))
                      case measure => omega
                      case rel => exact ⟨j + 1, ids' ++ [i.f7], by omega, by omega, by rw [show wrap64 ((j : Int) + 1) = ((j + 1 : Nat) : Int) by unfold wrap64; have := HID.out; omega], HH, ⟨by rw [List.length_append]; exact Nat.succ_le_succ HN.out⟩, HO, BKgt, HB⟩
                · have c7b : decide (0 < i.f7) = false := decide_eq_false c7
                  have HH2 := HH.out
                  rw [goRX_none hri c7] at HH2
                  clear HH c7 hri
                  have HH := Aside0.mk HH2
                  clear HH2
                  go_wp2
                  go_roundg (bk.f0.length - (j + 1))
                  case measure => omega
                  case rel => exact ⟨j + 1, ids', by omega, by omega, by rw [show wrap64 ((j : Int) + 1) = ((j + 1 : Nat) : Int) by unfold wrap64; have := HID.out; omega], HH, ⟨Nat.le_succ_of_le HN.out⟩, HO, BKgt, HB⟩
            · have hj2 : j = bk.f0.length := by omega
              have HH2 := HH.out
              rw [hj2, List.drop_length, goRX_nil] at HH2
              have hljz : ¬ (j : Int) < (bk.f0.length : Int) := by omega
              clear HH hlj
              have hx1 := (HB.out.cell (World.block_lt_of_cell? w _ HX1.out)).trans HX1.out
              have hx2 := (HB.out.cell (World.block_lt_of_cell? w _ HX2.out)).trans HX2.out
              have hx3 := (HB.out.cell (World.block_lt_of_cell? w _ HX3.out)).trans HX3.out
              have hx4 := (HB.out.cell (World.block_lt_of_cell? w _ HX4.out)).trans HX4.out
              unfold endR at HH2
              have HJ : Aside0 (j ≤ 1048576) := ⟨by have := HID.out; omega⟩
              have HN2 : Aside0 (ids'.length ≤ (k + 1) * 1048576) := ⟨by have := HN.out; have := HJ.out; rw [Nat.succ_mul]; omega⟩
              clear HX0 HX1 HX2 HX3 HX4 HN
              generalize bk.f1.f0 = e0 at HH2 hx1
              generalize bk.f1.f1 = e1 at HH2 hx2
              generalize bk.f1.f2 = e2 at HH2 hx3
              generalize bk.f1.f3 = e3 at HH2 hx4
              go_upto_region 27 with (first | ((with_reducible refine gate_dst (N := 12) rfl ?_); refine r_alloc rfl (t := 34) (zs := #[.int .i64 0, .int .i64 0, .int .i64 0, .int .i64 0]) rfl (by kernel_rfl) ?_; intro ge hge wb hnew hb; have BKge := Aside0.mk hnew; have Gge := Aside0.mk (show w.heap.size ≤ ge by rw [hge]; exact below_size (by repeat (first | (with_reducible first | exact HB.out | apply below_alloc | apply pw_below_drewN | apply below_drew1) | exact HB.out))); have NEgegt := Aside0.mk (show ge ≠ gt by rw [hge]; exact Nat.ne_of_gt (blk_lt BKgt.out)); have n0_ := Aside0.mk (below_step (by repeat (first | (with_reducible first | exact HB.out | apply below_alloc | apply pw_below_drewN | apply below_drew1) | exact HB.out)) hb); have n1_ := Aside0.mk (blk_below BKgt.out hb); have n9_ := Aside0.mk (Kd.R_below HO.out hb); clear HB HO BKgt hb; have HB := n0_; have HO := n9_; have BKgt := n1_; clear n0_ n9_ n1_; clear hnew hge) | ((with_reducible refine gate_store (t := 34) (p := 12) rfl ?_); refine r_store rfl (t := 34) rfl rfl rfl rfl BKge.out (by kernel_rfl) rfl (by first | (simp; done) | (simp [Value.oneCell']; done) | (simp; rfl)) ?_; intro wb hnew hgr; have n0_ := Aside0.mk (r_below HB.out hgr Gge.out HB.out.size); have n1_ := Aside0.mk (blk_grown BKgt.out hgr (fun e => by injection e with e; exact NEgegt.out e.symm)); have n9_ := Aside0.mk (Kd.R_grown1 HO.out rfl hgr (Kd.R_ne HO.out BKge.out (by decide))); have n8_ := Aside0.mk hnew; clear HB HO BKge BKgt hnew hgr; have HB := n0_; have HO := n9_; have BKge := n8_; have BKgt := n1_; clear n0_ n9_ n8_ n1_))
              clear hx0 hx1 hx2 hx3 hx4
              obtain ⟨he0, he1, he2, he3⟩ := r_cells4 BKge.out
              obtain ⟨ht0, ht1, ht2⟩ := r_cells3 BKgt.out
              go_upto_region 29 with (fail)
              unfold endR4 at HH2
              cases q1 : (e0 == 1) with
              | true =>
                rw [q1] at HH2
                simp only [cond_true] at HH2
                cases d0 : decide (e2 < 0) with
                | true =>
                  rw [d0] at HH2
                  obtain rfl : false = r := HH2
                  clear HR0_1 HR0_2 HC0_1 HC0_2 HOK H4 HI HID HJ HN2 HO BKgt BKge NEgegt Gge
                  go_wp2
                  go_ret
                  exact ⟨rfl, HB.out⟩
                | false =>
                  rw [d0] at HH2
                  cases d1 : decide ((l0_2.length : Int) ≤ e2) with
                  | true =>
                    rw [d1] at HH2
                    obtain rfl : false = r := HH2
                    clear HR0_1 HR0_2 HC0_1 HC0_2 HOK H4 HI HID HJ HN2 HO BKgt BKge NEgegt Gge
                    go_wp2
                    go_ret
                    exact ⟨rfl, HB.out⟩
                  | false =>
                    rw [d1] at HH2
                    cases d2 : (e1 != 0) with
                    | true =>
                      rw [d2] at HH2
                      obtain rfl : false = r := HH2
                      clear HR0_1 HR0_2 HC0_1 HC0_2 HOK H4 HI HID HJ HN2 HO BKgt BKge NEgegt Gge
                      go_wp2
                      go_ret
                      exact ⟨rfl, HB.out⟩
                    | false =>
                      rw [d2] at HH2
                      cases d3 : (e3 != 0) with
                      | true =>
                        rw [d3] at HH2
                        obtain rfl : false = r := HH2
                        clear HR0_1 HR0_2 HC0_1 HC0_2 HOK H4 HI HID HJ HN2 HO BKgt BKge NEgegt Gge
                        go_wp2
                        go_ret
                        exact ⟨rfl, HB.out⟩
                      | false =>
                        rw [d3] at HH2
                        have HH : Aside0 (goRB a0_0 a1 l0_1.length l0_2.length ids' (l0_2.drop (k + 1)) = r) := ⟨HH2⟩
                        clear HH2
                        go_wp2
                        go_roundg (l0_2.length - (k + 1))
                        case measure => omega
                        case rel => exact ⟨k + 1, ids', by omega, by omega, by rw [show wrap64 ((k : Int) + 1) = ((k + 1 : Nat) : Int) by unfold wrap64; have := H4.out; omega], HH, HN2, HO, BKgt, HB⟩
              | false =>
                rw [q1] at HH2
                simp only [cond_false] at HH2
                cases q2 : (e0 == 2) with
                | true =>
                  rw [q2] at HH2
                  simp only [cond_true] at HH2
                  cases d0 : decide (e2 < 0) with
                  | true =>
                    rw [d0] at HH2
                    obtain rfl : false = r := HH2
                    clear HR0_1 HR0_2 HC0_1 HC0_2 HOK H4 HI HID HJ HN2 HO BKgt BKge NEgegt Gge
                    go_wp2
                    go_ret
                    exact ⟨rfl, HB.out⟩
                  | false =>
                    rw [d0] at HH2
                    cases d1 : decide ((l0_2.length : Int) ≤ e2) with
                    | true =>
                      rw [d1] at HH2
                      obtain rfl : false = r := HH2
                      clear HR0_1 HR0_2 HC0_1 HC0_2 HOK H4 HI HID HJ HN2 HO BKgt BKge NEgegt Gge
                      go_wp2
                      go_ret
                      exact ⟨rfl, HB.out⟩
                    | false =>
                      rw [d1] at HH2
                      cases d2 : decide (e3 < 0) with
                      | true =>
                        rw [d2] at HH2
                        obtain rfl : false = r := HH2
                        clear HR0_1 HR0_2 HC0_1 HC0_2 HOK H4 HI HID HJ HN2 HO BKgt BKge NEgegt Gge
                        go_wp2
                        go_ret
                        exact ⟨rfl, HB.out⟩
                      | false =>
                        rw [d2] at HH2
                        cases d3 : decide ((l0_2.length : Int) ≤ e3) with
                        | true =>
                          rw [d3] at HH2
                          obtain rfl : false = r := HH2
                          clear HR0_1 HR0_2 HC0_1 HC0_2 HOK H4 HI HID HJ HN2 HO BKgt BKge NEgegt Gge
                          go_wp2
                          go_ret
                          exact ⟨rfl, HB.out⟩
                        | false =>
                          rw [d3] at HH2
                          cases d4 : decide (e1 < 0) with
                          | true =>
                            rw [d4] at HH2
                            obtain rfl : false = r := HH2
                            clear HR0_1 HR0_2 HC0_1 HC0_2 HOK H4 HI HID HJ HN2 HO BKgt BKge NEgegt Gge
                            go_wp2
                            go_ret
                            exact ⟨rfl, HB.out⟩
                          | false =>
                            rw [d4] at HH2
                            cases d5 : decide (a0_0 ≤ e1) with
                            | true =>
                              rw [d5] at HH2
                              obtain rfl : false = r := HH2
                              clear HR0_1 HR0_2 HC0_1 HC0_2 HOK H4 HI HID HJ HN2 HO BKgt BKge NEgegt Gge
                              go_wp2
                              go_ret
                              exact ⟨rfl, HB.out⟩
                            | false =>
                              rw [d5] at HH2
                              have HH : Aside0 (goRB a0_0 a1 l0_1.length l0_2.length ids' (l0_2.drop (k + 1)) = r) := ⟨HH2⟩
                              clear HH2
                              go_wp2
                              go_roundg (l0_2.length - (k + 1))
                              case measure => omega
                              case rel => exact ⟨k + 1, ids', by omega, by omega, by rw [show wrap64 ((k : Int) + 1) = ((k + 1 : Nat) : Int) by unfold wrap64; have := H4.out; omega], HH, HN2, HO, BKgt, HB⟩
                | false =>
                  rw [q2] at HH2
                  simp only [cond_false] at HH2
                  cases q3 : (e0 == 3) with
                  | true =>
                    rw [q3] at HH2
                    simp only [cond_true] at HH2
                    cases d0 : (e1 != 0) with
                    | true =>
                      rw [d0] at HH2
                      obtain rfl : false = r := HH2
                      clear HR0_1 HR0_2 HC0_1 HC0_2 HOK H4 HI HID HJ HN2 HO BKgt BKge NEgegt Gge
                      go_wp2
                      go_ret
                      exact ⟨rfl, HB.out⟩
                    | false =>
                      rw [d0] at HH2
                      cases d1 : (e2 != 0) with
                      | true =>
                        rw [d1] at HH2
                        obtain rfl : false = r := HH2
                        clear HR0_1 HR0_2 HC0_1 HC0_2 HOK H4 HI HID HJ HN2 HO BKgt BKge NEgegt Gge
                        go_wp2
                        go_ret
                        exact ⟨rfl, HB.out⟩
                      | false =>
                        rw [d1] at HH2
                        cases d2 : (e3 != 0) with
                        | true =>
                          rw [d2] at HH2
                          obtain rfl : false = r := HH2
                          clear HR0_1 HR0_2 HC0_1 HC0_2 HOK H4 HI HID HJ HN2 HO BKgt BKge NEgegt Gge
                          go_wp2
                          go_ret
                          exact ⟨rfl, HB.out⟩
                        | false =>
                          rw [d2] at HH2
                          have HH : Aside0 (goRB a0_0 a1 l0_1.length l0_2.length ids' (l0_2.drop (k + 1)) = r) := ⟨HH2⟩
                          clear HH2
                          go_wp2
                          go_roundg (l0_2.length - (k + 1))
                          case measure => omega
                          case rel => exact ⟨k + 1, ids', by omega, by omega, by rw [show wrap64 ((k : Int) + 1) = ((k + 1 : Nat) : Int) by unfold wrap64; have := H4.out; omega], HH, HN2, HO, BKgt, HB⟩
                  | false =>
                    rw [q3] at HH2
                    simp only [cond_false] at HH2
                    obtain rfl : false = r := HH2
                    clear HR0_1 HR0_2 HC0_1 HC0_2 HOK H4 HI HID HJ HN2 HO BKgt BKge NEgegt Gge
                    go_wp2
                    go_ret
                    exact ⟨rfl, HB.out⟩
        · have hk2 : k = l0_2.length := by omega
          have HH2 := HH.out
          rw [hk2, List.drop_length] at HH2
          have hltz : ¬ (k : Int) < (l0_2.length : Int) := by omega
          obtain rfl : true = r := HH2
          clear HH
          go_wp2
          go_ret
          exact ⟨rfl, HB.out⟩


/-! ### spinnakerref26_Size: function 25 -/
mutual
def spinnakerref26_Size.l0 : Nat → Int → Int → List Int → List (S25) → Option (Int)
  | 0, _, _, _, _ => none
  | k + 1, x3, x4, x104000, x104001 => if x4 < (x104001.length : Int) then (spinnakerref26_Size.j1 k x3 x4 (decide (x4 < 30)) x104000 x104001) else (spinnakerref26_Size.j1 k x3 x4 false x104000 x104001)
def spinnakerref26_Size.j1 : Nat → Int → Int → Bool → List Int → List (S25) → Option (Int)
  | 0, _, _, _, _, _ => none
  | k + 1, x3, x4, x17, x104000, x104001 => if x17 = true then (if 0 ≤ x4 then (if x4 < (x104001.length : Int) then (spinnakerref26_Size.l1 k (wrap64 ((wrap64 (x3 + (((rd_T25 x104001 x4).f1).length : Int))) + (((rd_T25 x104001 x4).f2).length : Int))) x4 0 x104000 x104001) else (none)) else (none)) else (some x3)
def spinnakerref26_Size.l1 : Nat → Int → Int → Int → List Int → List (S25) → Option (Int)
  | 0, _, _, _, _, _ => none
  | k + 1, x3, x4, x5, x104000, x104001 => if 0 ≤ x4 then (if x4 < (x104001.length : Int) then (if x5 < (((rd_T25 x104001 x4).f2).length : Int) then (if x3 ≤ 1000 then (if 0 ≤ x5 then (spinnakerref26_Size.l1 k (wrap64 (x3 + (((rd_T36 ((rd_T25 x104001 x4).f2) x5).f0).length : Int))) x4 (wrap64 (x5 + 1)) x104000 x104001) else (none)) else (spinnakerref26_Size.l0 k x3 (wrap64 (x4 + 1)) x104000 x104001)) else (spinnakerref26_Size.l0 k x3 (wrap64 (x4 + 1)) x104000 x104001)) else (none)) else (none)
end
def spinnakerref26_Size.f (k : Nat) (l0_0 : List Int) (l0_1 : List (S25)) : Option (Int) := spinnakerref26_Size.l0 k (l0_0.length : Int) 0 l0_0 l0_1
theorem spinnakerref26_Size.mono_l : ∀ k, (∀ y0 y1 y2 y3, LeO (spinnakerref26_Size.l0 k y0 y1 y2 y3) (spinnakerref26_Size.l0 (k + 1) y0 y1 y2 y3)) ∧ (∀ y0 y1 y2 y3 y4, LeO (spinnakerref26_Size.j1 k y0 y1 y2 y3 y4) (spinnakerref26_Size.j1 (k + 1) y0 y1 y2 y3 y4)) ∧ (∀ y0 y1 y2 y3 y4, LeO (spinnakerref26_Size.l1 k y0 y1 y2 y3 y4) (spinnakerref26_Size.l1 (k + 1) y0 y1 y2 y3 y4))
  | 0 => ⟨fun _ _ _ _ r h => by simp [spinnakerref26_Size.l0] at h, fun _ _ _ _ _ r h => by simp [spinnakerref26_Size.j1] at h, fun _ _ _ _ _ r h => by simp [spinnakerref26_Size.l1] at h⟩
  | k + 1 => by
    obtain ⟨ih0, ih1, ih2⟩ := spinnakerref26_Size.mono_l k; refine ⟨?_, ?_, ?_⟩
    · intro y0 y1 y2 y3
      unfold spinnakerref26_Size.l0
      repeat' first
 | (with_reducible exact ih0 _ _ _ _)
 | (with_reducible exact ih1 _ _ _ _ _)
 | (with_reducible exact ih2 _ _ _ _ _)
 | (with_reducible exact LeO.refl _)
 | (with_reducible exact LeO.none _)
 | (with_reducible refine LeO.ite ?_ ?_)
 | (with_reducible refine LeO.bind ?_ (fun _ => ?_))
    · intro y0 y1 y2 y3 y4
      unfold spinnakerref26_Size.j1
      repeat' first
 | (with_reducible exact ih0 _ _ _ _)
 | (with_reducible exact ih1 _ _ _ _ _)
 | (with_reducible exact ih2 _ _ _ _ _)
 | (with_reducible exact LeO.refl _)
 | (with_reducible exact LeO.none _)
 | (with_reducible refine LeO.ite ?_ ?_)
 | (with_reducible refine LeO.bind ?_ (fun _ => ?_))
    · intro y0 y1 y2 y3 y4
      unfold spinnakerref26_Size.l1
      repeat' first
 | (with_reducible exact ih0 _ _ _ _)
 | (with_reducible exact ih1 _ _ _ _ _)
 | (with_reducible exact ih2 _ _ _ _ _)
 | (with_reducible exact LeO.refl _)
 | (with_reducible exact LeO.none _)
 | (with_reducible refine LeO.ite ?_ ?_)
 | (with_reducible refine LeO.bind ?_ (fun _ => ?_))
theorem spinnakerref26_Size.mono : ∀ a0 a1 k, LeO (spinnakerref26_Size.f k a0 a1) (spinnakerref26_Size.f (k + 1) a0 a1) := by
  intro a0 a1 k; obtain ⟨ih0, ih1, ih2⟩ := spinnakerref26_Size.mono_l k; unfold spinnakerref26_Size.f
  repeat' first
 | (with_reducible exact ih0 _ _ _ _)
 | (with_reducible exact ih1 _ _ _ _ _)
 | (with_reducible exact ih2 _ _ _ _ _)
 | (with_reducible exact LeO.refl _)
 | (with_reducible exact LeO.none _)
 | (with_reducible refine LeO.ite ?_ ?_)
 | (with_reducible refine LeO.bind ?_ (fun _ => ?_))
theorem z25_0 {p : Prop} (h : p := by repeat (first | (with_reducible first | exact HB.out | apply below_alloc | apply pw_below_drewN | apply below_drew1 | refine below_set ?_ GE103.out) | exact HB.out)) : p := h
theorem z25_1 {p : Prop} (h : p := by (with_reducible repeat (first | refine blk_drewN ?_ _ | refine blk_drew ?_ | refine blk_alloc ?_ _)); exact BK103.out) : p := h
theorem z25_2 {p : Prop} (h : p := by repeat (first | (with_reducible first | exact HB.out | apply below_alloc | apply pw_below_drewN | apply below_drew1) | exact HB.out)) : p := h
theorem z25_3 {p : Prop} (h : p := by first | (with_reducible assumption) | assumption) : p := h
theorem z25_4 {p : Prop} (h : p := by first | rfl | (simp; done) | (simp [*]; done)) : p := h
set_option maxHeartbeats 8000000 in
set_option maxRecDepth 100000 in
theorem spinnakerref26_Size.calls (k : Nat) (A0_0 : Option Addr) (c0_0 : Nat) (l0_0 : List Int) (A0_1 : Option Addr) (c0_1 : Nat) (l0_1 : List (S25)) (r : Int) (w : World) (hr0_0 : Kd.C (Kd.int .i64) w A0_0 l0_0.length l0_0) (hc0_0 : l0_0.length ≤ c0_0) (hr0_1 : Kd.C k25 w A0_1 l0_1.length l0_1) (hc0_1 : l0_1.length ≤ c0_1) (h : spinnakerref26_Size.f k l0_0 l0_1 = some r) :
  Calls Tryd.prog 25 #[.agg #[.slice A0_0 l0_0.length c0_0, .slice A0_1 l0_1.length c0_1]] w fun e w' => e = .returned (.int .i64 r) ∧ Below w.heap.size w w' := by
 have hu49 := Tryd.underlying49; have HR0_0 := Aside0.mk hr0_0; have HC0_0 := Aside0.mk hc0_0; clear hr0_0 hc0_0; have HR0_1 := Aside0.mk hr0_1; have HC0_1 := Aside0.mk hc0_1; clear hr0_1 hc0_1; have HB := Aside0.mk (Below.refl w.heap.size w); have H : (spinnakerref26_Size.l0 k (l0_0.length : Int) 0 l0_0 l0_1) = some r := h; clear h; have H' := Aside0.mk H; clear H
 go_enter Tryd.func25, Tryd.ntmps25
 go_wp2_with (first | ((with_reducible refine gate_dst (N := 1) rfl ?_); refine box_event ?hg (N := 1) ?hd (cs := #[.slice A0_0 l0_0.length c0_0, .slice A0_1 l0_1.length c0_1]) (t := 49) ?hr ?_; (case hd => rfl); (case hg => rfl); (case hr => first | (go_simp; done) | (go_simp; rfl)); intro gb103 hg w2 hbox hb; have n0_ := Aside0.mk (below_step z25_2 hb); have n1_ := Aside0.mk (hbox); have n2_ := Aside0.mk ((by rw [hg]; exact (below_size z25_2) : w.heap.size ≤ gb103)); have n3_ := n2_; clear HB; revert n0_ n1_ n2_ n3_; intro HB BK103 GW103 GE103; clear hb hbox hg; have hcz3_0 : w2.cell? ⟨gb103, 0, none⟩ = some (.slice A0_0 l0_0.length c0_0) := (blk_cell BK103.out 0).trans rfl; have hcz3_1 : w2.cell? ⟨gb103, 1, none⟩ = some (.slice A0_1 l0_1.length c0_1) := (blk_cell BK103.out 1).trans rfl; have hfz3_0 := blk_frozen BK103.out 0; have hfz3_1 := blk_frozen BK103.out 1))
 repeat (go_quiet (first | ((with_reducible refine gate_dst (N := 1) rfl ?_); refine box_event ?hg (N := 1) ?hd (cs := #[.slice A0_0 l0_0.length c0_0, .slice A0_1 l0_1.length c0_1]) (t := 49) ?hr ?_; (case hd => rfl); (case hg => rfl); (case hr => first | (go_simp; done) | (go_simp; rfl)); intro gb103 hg w2 hbox hb; have n0_ := Aside0.mk (below_step z25_2 hb); have n1_ := Aside0.mk (hbox); have n2_ := Aside0.mk ((by rw [hg]; exact (below_size z25_2) : w.heap.size ≤ gb103)); have n3_ := n2_; clear HB; revert n0_ n1_ n2_ n3_; intro HB BK103 GW103 GE103; clear hb hbox hg; have hcz3_0 : w2.cell? ⟨gb103, 0, none⟩ = some (.slice A0_0 l0_0.length c0_0) := (blk_cell BK103.out 0).trans rfl; have hcz3_1 : w2.cell? ⟨gb103, 1, none⟩ = some (.slice A0_1 l0_1.length c0_1) := (blk_cell BK103.out 1).trans rfl; have hfz3_0 := blk_frozen BK103.out 0; have hfz3_1 := blk_frozen BK103.out 1)); try go_wp2_with (first | ((with_reducible refine gate_dst (N := 1) rfl ?_); refine box_event ?hg (N := 1) ?hd (cs := #[.slice A0_0 l0_0.length c0_0, .slice A0_1 l0_1.length c0_1]) (t := 49) ?hr ?_; (case hd => rfl); (case hg => rfl); (case hr => first | (go_simp; done) | (go_simp; rfl)); intro gb103 hg w2 hbox hb; have n0_ := Aside0.mk (below_step z25_2 hb); have n1_ := Aside0.mk (hbox); have n2_ := Aside0.mk ((by rw [hg]; exact (below_size z25_2) : w.heap.size ≤ gb103)); have n3_ := n2_; clear HB; revert n0_ n1_ n2_ n3_; intro HB BK103 GW103 GE103; clear hb hbox hg; have hcz3_0 : w2.cell? ⟨gb103, 0, none⟩ = some (.slice A0_0 l0_0.length c0_0) := (blk_cell BK103.out 0).trans rfl; have hcz3_1 : w2.cell? ⟨gb103, 1, none⟩ = some (.slice A0_1 l0_1.length c0_1) := (blk_cell BK103.out 1).trans rfl; have hfz3_0 := blk_frozen BK103.out 0; have hfz3_1 := blk_frozen BK103.out 1)))
 go_loopg [3, 4] k (fun kq v3 v4 w' => ∃ (x3_1 : Int) (x4_1 : Int), v3 = .int .i64 x3_1 ∧ v4 = .int .i64 x4_1 ∧ Aside0 (spinnakerref26_Size.l0 kq x3_1 x4_1 l0_0 l0_1 = some r) ∧ Aside0 (kq ≤ k) ∧ Aside0 (w'.heap[gb103]? = some (.cells #[(.slice A0_0 l0_0.length c0_0), (.slice A0_1 l0_1.length c0_1)] 49 (0, 0))) ∧ Aside0 (Below w.heap.size w w'))
 case atStart => exact ⟨((l0_0.length : Int)), (0), z25_4, z25_4, H', ⟨Nat.le_refl _⟩, ⟨z25_1⟩, ⟨z25_0⟩⟩
 case round =>
  clear H'
  try clear hcz3_0
  try clear hcz3_1
  try clear hfz3_0
  try clear hfz3_1
  obtain ⟨x3_1, x4_1, rfl, rfl, HA, HK1, BK103, HB⟩ := hrel
  cases gk with
  | zero => exact absurd HA.out (by simp [spinnakerref26_Size.l0])
  | succ k1 =>
   have H := HA.out; clear HA; simp only [spinnakerref26_Size.l0] at H; have HC4 := Aside0.mk H; clear H
   go_upto_region 3 with (fail)
   repeat (go_quiet (fail); go_upto_region 3 with (fail))
   go_cut [17] (fun v17 wc => ∃ (kq : Nat) (x17_3 : Bool), v17 = .bool x17_3 ∧ Aside0 (spinnakerref26_Size.j1 kq x3_1 x4_1 x17_3 l0_0 l0_1 = some r) ∧ Aside0 (kq ≤ k1) ∧ Aside0 (wc.heap[gb103]? = some (.cells #[(.slice A0_0 l0_0.length c0_0), (.slice A0_1 l0_1.length c0_1)] 49 (0, 0))) ∧ Aside0 (Below w.heap.size w wc))
   case first =>
    have H := HC4.out; clear HC4
    by_cases c5 : x4_1 < (l0_1.length : Int)
    ·rw [if_pos c5] at H
     have c5b0 : decide (x4_1 < (l0_1.length : Int)) = true := decide_eq_true c5; clear c5; (first | rw [c5b0] | (simp only [i64_w, i32_w]; rw [c5b0]) | rw [c5b1] | skip); have H' := Aside0.mk H; clear H; obtain ⟨hcz6_0, hcz6_1⟩ := bC2 BK103.out; obtain ⟨hfz6_0, hfz6_1⟩ := bF2 BK103.out
     go_wp2
     repeat (go_quiet (fail); try go_wp2)
     go_meet
     case rel => exact ⟨_, (decide (x4_1 < 30)), z25_4, H', ⟨(by have := HK1.out; first | omega | exact Nat.le_refl _)⟩, ⟨z25_1⟩, ⟨z25_0⟩⟩
    ·rw [if_neg c5] at H
     have c5b0 : decide (x4_1 < (l0_1.length : Int)) = false := decide_eq_false c5; clear c5; (first | rw [c5b0] | (simp only [i64_w, i32_w]; rw [c5b0]) | rw [c5b1] | skip); have H' := Aside0.mk H; clear H; obtain ⟨hcz7_0, hcz7_1⟩ := bC2 BK103.out; obtain ⟨hfz7_0, hfz7_1⟩ := bF2 BK103.out
     go_wp2
     repeat (go_quiet (fail); try go_wp2)
     go_meet
     case rel => exact ⟨_, (false), z25_4, H', ⟨(by have := HK1.out; first | omega | exact Nat.le_refl _)⟩, ⟨z25_1⟩, ⟨z25_0⟩⟩
   case rest =>
    clear HC4
    try clear hcz3_0
    try clear hcz3_1
    try clear hfz3_0
    try clear hfz3_1
    obtain ⟨kq, x17_3, rfl, HA, HJ3, BK103, HB⟩ := hcut
    cases kq with
    | zero => exact absurd HA.out (by simp [spinnakerref26_Size.j1])
    | succ kj3 =>
     have H := HA.out; clear HA; simp only [spinnakerref26_Size.j1] at H
     by_cases c8 : x17_3 = true
     ·subst c8
      have H1 : (if 0 ≤ x4_1 then (if x4_1 < (l0_1.length : Int) then (spinnakerref26_Size.l1 kj3 (wrap64 ((wrap64 (x3_1 + (((rd_T25 l0_1 x4_1).f1).length : Int))) + (((rd_T25 l0_1 x4_1).f2).length : Int))) x4_1 0 l0_0 l0_1) else (none)) else (none)) = some r := by rw [if_pos rfl] at H; exact H
      clear H; have H := H1; clear H1
      by_cases c9 : 0 ≤ x4_1
      ·rw [if_pos c9] at H
       have c9b0 : decide (0 ≤ x4_1) = true := decide_eq_true c9; clear c9
       by_cases c10 : x4_1 < (l0_1.length : Int)
       ·rw [if_pos c10] at H
        have c10b0 : decide (x4_1 < (l0_1.length : Int)) = true := decide_eq_true c10; clear c10; have H' := Aside0.mk H; clear H; obtain ⟨hcz11_0, hcz11_1⟩ := bC2 BK103.out; obtain ⟨hfz11_0, hfz11_1⟩ := bF2 BK103.out; have p104 : 0 ≤ (x4_1 : Int) := of_decide_eq_true z25_3; have q104 : x4_1 < (l0_1.length : Int) := of_decide_eq_true z25_3; obtain ⟨ad104, A104_1, c104_1, A104_2, c104_2, e104, hx104_0, hx104_1, hx104_2, hl104_1, hi104_1, hl104_2, hi104_2⟩ := at_T25 HR0_1.out x4_1 p104 q104
        cases e104
        replace hx104_0 := (HB.out.cell (World.block_lt_of_cell? w _ hx104_0)).trans hx104_0; replace hx104_1 := (HB.out.cell (World.block_lt_of_cell? w _ hx104_1)).trans hx104_1; replace hx104_2 := (HB.out.cell (World.block_lt_of_cell? w _ hx104_2)).trans hx104_2; have HR104_1 := Aside0.mk hi104_1; have HC104_1 := Aside0.mk hl104_1; clear hi104_1 hl104_1; have HR104_2 := Aside0.mk hi104_2; have HC104_2 := Aside0.mk hl104_2; clear hi104_2 hl104_2; replace p104 := eq_true p104; replace q104 := eq_true q104; have p105 : 0 ≤ (x4_1 : Int) := of_decide_eq_true z25_3; have q105 : x4_1 < (l0_1.length : Int) := of_decide_eq_true z25_3; obtain ⟨ad105, A105_1, c105_1, A105_2, c105_2, e105, hx105_0, hx105_1, hx105_2, hl105_1, hi105_1, hl105_2, hi105_2⟩ := at_T25 HR0_1.out x4_1 p105 q105; obtain rfl : ad104 = ad105 := (by injection e105); replace hx105_0 := (HB.out.cell (World.block_lt_of_cell? w _ hx105_0)).trans hx105_0; replace hx105_1 := (HB.out.cell (World.block_lt_of_cell? w _ hx105_1)).trans hx105_1; replace hx105_2 := (HB.out.cell (World.block_lt_of_cell? w _ hx105_2)).trans hx105_2; have HR105_1 := Aside0.mk hi105_1; have HC105_1 := Aside0.mk hl105_1; clear hi105_1 hl105_1; have HR105_2 := Aside0.mk hi105_2; have HC105_2 := Aside0.mk hl105_2; clear hi105_2 hl105_2; replace p105 := eq_true p105; replace q105 := eq_true q105; have ea_ := Option.some.inj (hx104_1.symm.trans hx105_1)
        injection ea_ with ea_ en_ ec_
        subst ea_; subst ec_; clear en_; have ea_ := Option.some.inj (hx104_2.symm.trans hx105_2)
        injection ea_ with ea_ en_ ec_
        subst ea_; subst ec_; clear en_
        go_wp2
        repeat (go_quiet (fail); try go_wp2)
        go_loopg [3, 5] kj3 (fun kq v3 v5 w' => ∃ (x3_3 : Int) (x5_3 : Int), v3 = .int .i64 x3_3 ∧ v5 = .int .i64 x5_3 ∧ Aside0 (spinnakerref26_Size.l1 kq x3_3 x4_1 x5_3 l0_0 l0_1 = some r) ∧ Aside0 (kq ≤ kj3) ∧ Aside0 (w'.heap[gb103]? = some (.cells #[(.slice A0_0 l0_0.length c0_0), (.slice (some ad104) l0_1.length c0_1)] 49 (0, 0))) ∧ Aside0 (Below w.heap.size w w'))
        case atStart => exact ⟨(wrap64 ((wrap64 (x3_1 + (((rd_T25 l0_1 x4_1).f1).length : Int))) + (((rd_T25 l0_1 x4_1).f2).length : Int))), (0), z25_4, z25_4, H', ⟨Nat.le_refl _⟩, ⟨z25_1⟩, ⟨z25_0⟩⟩
        case round =>
         clear H'
         try clear c8
         try clear c9
         try clear c9b0
         try clear c10
         try clear c10b0
         try clear hcz11_0
         try clear hcz11_1
         try clear hcz3_0
         try clear hcz3_1
         try clear hfz11_0
         try clear hfz11_1
         try clear hfz3_0
         try clear hfz3_1
         try clear hx104_0
         try clear hx104_1
         try clear hx104_2
         try clear hx105_0
         try clear hx105_1
         try clear hx105_2
         try clear p104
         try clear p105
         try clear q104
         try clear q105
         obtain ⟨x3_3, x5_3, rfl, rfl, HA, HK3, BK103, HB⟩ := hrel
         cases gk with
         | zero => exact absurd HA.out (by simp [spinnakerref26_Size.l1])
         | succ k3 =>
          have H := HA.out; clear HA; simp only [spinnakerref26_Size.l1] at H
          by_cases c12 : 0 ≤ x4_1
          ·rw [if_pos c12] at H
           have c12b0 : decide (0 ≤ x4_1) = true := decide_eq_true c12; clear c12
           by_cases c13 : x4_1 < (l0_1.length : Int)
           ·rw [if_pos c13] at H
            have c13b0 : decide (x4_1 < (l0_1.length : Int)) = true := decide_eq_true c13; clear c13
            by_cases c14 : x5_3 < (((rd_T25 l0_1 x4_1).f2).length : Int)
            ·rw [if_pos c14] at H
             have c14b0 : decide (x5_3 < (((rd_T25 l0_1 x4_1).f2).length : Int)) = true := decide_eq_true c14; clear c14
             by_cases c15 : x3_3 ≤ 1000
             ·rw [if_pos c15] at H
              have c15b0 : decide (x3_3 ≤ 1000) = true := decide_eq_true c15; clear c15
              by_cases c16 : 0 ≤ x5_3
              ·rw [if_pos c16] at H
               have c16b0 : decide (0 ≤ x5_3) = true := decide_eq_true c16; clear c16; have H' := Aside0.mk H; clear H; obtain ⟨hcz17_0, hcz17_1⟩ := bC2 BK103.out; obtain ⟨hfz17_0, hfz17_1⟩ := bF2 BK103.out; have p106 : 0 ≤ (x4_1 : Int) := of_decide_eq_true z25_3; have q106 : x4_1 < (l0_1.length : Int) := of_decide_eq_true z25_3; obtain ⟨ad106, A106_1, c106_1, A106_2, c106_2, e106, hx106_0, hx106_1, hx106_2, hl106_1, hi106_1, hl106_2, hi106_2⟩ := at_T25 HR0_1.out x4_1 p106 q106; obtain rfl : ad104 = ad106 := (by injection e106); replace hx106_0 := (HB.out.cell (World.block_lt_of_cell? w _ hx106_0)).trans hx106_0; replace hx106_1 := (HB.out.cell (World.block_lt_of_cell? w _ hx106_1)).trans hx106_1; replace hx106_2 := (HB.out.cell (World.block_lt_of_cell? w _ hx106_2)).trans hx106_2; have HR106_1 := Aside0.mk hi106_1; have HC106_1 := Aside0.mk hl106_1; clear hi106_1 hl106_1; have HR106_2 := Aside0.mk hi106_2; have HC106_2 := Aside0.mk hl106_2; clear hi106_2 hl106_2; replace p106 := eq_true p106; replace q106 := eq_true q106; have p107 : 0 ≤ (x4_1 : Int) := of_decide_eq_true z25_3; have q107 : x4_1 < (l0_1.length : Int) := of_decide_eq_true z25_3; obtain ⟨ad107, A107_1, c107_1, A107_2, c107_2, e107, hx107_0, hx107_1, hx107_2, hl107_1, hi107_1, hl107_2, hi107_2⟩ := at_T25 HR0_1.out x4_1 p107 q107; obtain rfl : ad104 = ad107 := (by injection e107); replace hx107_0 := (HB.out.cell (World.block_lt_of_cell? w _ hx107_0)).trans hx107_0; replace hx107_1 := (HB.out.cell (World.block_lt_of_cell? w _ hx107_1)).trans hx107_1; replace hx107_2 := (HB.out.cell (World.block_lt_of_cell? w _ hx107_2)).trans hx107_2; have HR107_1 := Aside0.mk hi107_1; have HC107_1 := Aside0.mk hl107_1; clear hi107_1 hl107_1; have HR107_2 := Aside0.mk hi107_2; have HC107_2 := Aside0.mk hl107_2; clear hi107_2 hl107_2; replace p107 := eq_true p107; replace q107 := eq_true q107; have ea_ := Option.some.inj (hx106_1.symm.trans hx107_1)
               injection ea_ with ea_ en_ ec_
               subst ea_; subst ec_; clear en_; have ea_ := Option.some.inj (hx106_2.symm.trans hx107_2)
               injection ea_ with ea_ en_ ec_
               subst ea_; subst ec_; clear en_; have p108 : 0 ≤ (x5_3 : Int) := of_decide_eq_true z25_3; have q108 : x5_3 < (((rd_T25 l0_1 x4_1).f2).length : Int) := of_decide_eq_true z25_3; obtain ⟨ad108, A108_0, c108_0, e108, hx108_0, hx108_1, hx108_2, hx108_3, hx108_4, hl108_0, hi108_0⟩ := at_T36 HR107_2.out x5_3 p108 q108
               cases e108
               replace hx108_0 := (HB.out.cell (World.block_lt_of_cell? w _ hx108_0)).trans hx108_0; replace hx108_1 := (HB.out.cell (World.block_lt_of_cell? w _ hx108_1)).trans hx108_1; replace hx108_2 := (HB.out.cell (World.block_lt_of_cell? w _ hx108_2)).trans hx108_2; replace hx108_3 := (HB.out.cell (World.block_lt_of_cell? w _ hx108_3)).trans hx108_3; replace hx108_4 := (HB.out.cell (World.block_lt_of_cell? w _ hx108_4)).trans hx108_4; have HR108_0 := Aside0.mk hi108_0; have HC108_0 := Aside0.mk hl108_0; clear hi108_0 hl108_0; replace p108 := eq_true p108; replace q108 := eq_true q108
               go_wp2
               repeat (go_quiet (fail); try go_wp2)
               go_roundg k3
               case measure => have := HK1.out; have := HJ3.out; have := HK3.out; omega
               case rel => exact ⟨(wrap64 (x3_3 + (((rd_T36 ((rd_T25 l0_1 x4_1).f2) x5_3).f0).length : Int))), (wrap64 (x5_3 + 1)), z25_4, z25_4, H', ⟨(by have := HK1.out; have := HJ3.out; have := HK3.out; omega)⟩, ⟨z25_1⟩, ⟨z25_0⟩⟩
              ·rw [if_neg c16] at H
               exact absurd H (by simp)
             ·rw [if_neg c15] at H
              have c15b0 : decide (x3_3 ≤ 1000) = false := decide_eq_false c15; clear c15; have H' := Aside0.mk H; clear H; obtain ⟨hcz18_0, hcz18_1⟩ := bC2 BK103.out; obtain ⟨hfz18_0, hfz18_1⟩ := bF2 BK103.out; have p106 : 0 ≤ (x4_1 : Int) := of_decide_eq_true z25_3; have q106 : x4_1 < (l0_1.length : Int) := of_decide_eq_true z25_3; obtain ⟨ad106, A106_1, c106_1, A106_2, c106_2, e106, hx106_0, hx106_1, hx106_2, hl106_1, hi106_1, hl106_2, hi106_2⟩ := at_T25 HR0_1.out x4_1 p106 q106; obtain rfl : ad104 = ad106 := (by injection e106); replace hx106_0 := (HB.out.cell (World.block_lt_of_cell? w _ hx106_0)).trans hx106_0; replace hx106_1 := (HB.out.cell (World.block_lt_of_cell? w _ hx106_1)).trans hx106_1; replace hx106_2 := (HB.out.cell (World.block_lt_of_cell? w _ hx106_2)).trans hx106_2; have HR106_1 := Aside0.mk hi106_1; have HC106_1 := Aside0.mk hl106_1; clear hi106_1 hl106_1; have HR106_2 := Aside0.mk hi106_2; have HC106_2 := Aside0.mk hl106_2; clear hi106_2 hl106_2; replace p106 := eq_true p106; replace q106 := eq_true q106
              go_wp2
              repeat (go_quiet (fail); try go_wp2)
              go_roundg k3
              case measure => have := HK1.out; have := HJ3.out; have := HK3.out; omega
              case rel => exact ⟨(x3_3), (wrap64 (x4_1 + 1)), z25_4, z25_4, H', ⟨(by have := HK1.out; have := HJ3.out; have := HK3.out; omega)⟩, ⟨z25_1⟩, ⟨z25_0⟩⟩
            ·rw [if_neg c14] at H
             have c14b0 : decide (x5_3 < (((rd_T25 l0_1 x4_1).f2).length : Int)) = false := decide_eq_false c14; clear c14; have H' := Aside0.mk H; clear H; obtain ⟨hcz19_0, hcz19_1⟩ := bC2 BK103.out; obtain ⟨hfz19_0, hfz19_1⟩ := bF2 BK103.out; have p106 : 0 ≤ (x4_1 : Int) := of_decide_eq_true z25_3; have q106 : x4_1 < (l0_1.length : Int) := of_decide_eq_true z25_3; obtain ⟨ad106, A106_1, c106_1, A106_2, c106_2, e106, hx106_0, hx106_1, hx106_2, hl106_1, hi106_1, hl106_2, hi106_2⟩ := at_T25 HR0_1.out x4_1 p106 q106; obtain rfl : ad104 = ad106 := (by injection e106); replace hx106_0 := (HB.out.cell (World.block_lt_of_cell? w _ hx106_0)).trans hx106_0; replace hx106_1 := (HB.out.cell (World.block_lt_of_cell? w _ hx106_1)).trans hx106_1; replace hx106_2 := (HB.out.cell (World.block_lt_of_cell? w _ hx106_2)).trans hx106_2; have HR106_1 := Aside0.mk hi106_1; have HC106_1 := Aside0.mk hl106_1; clear hi106_1 hl106_1; have HR106_2 := Aside0.mk hi106_2; have HC106_2 := Aside0.mk hl106_2; clear hi106_2 hl106_2; replace p106 := eq_true p106; replace q106 := eq_true q106
             go_wp2
             repeat (go_quiet (fail); try go_wp2)
             go_roundg k3
             case measure => have := HK1.out; have := HJ3.out; have := HK3.out; omega
             case rel => exact ⟨(x3_3), (wrap64 (x4_1 + 1)), z25_4, z25_4, H', ⟨(by have := HK1.out; have := HJ3.out; have := HK3.out; omega)⟩, ⟨z25_1⟩, ⟨z25_0⟩⟩
           ·rw [if_neg c13] at H
            exact absurd H (by simp)
          ·rw [if_neg c12] at H
           exact absurd H (by simp)
       ·rw [if_neg c10] at H
        exact absurd H (by simp)
      ·rw [if_neg c9] at H
       exact absurd H (by simp)
     ·replace c8 := Bool.eq_false_iff.mpr c8
      subst c8
      have H1 : (some x3_1) = some r := by rw [if_neg (show ¬ (false = true) by decide)] at H; exact H
      clear H; have H := H1; clear H1; obtain rfl := Option.some.inj H
      go_wp2
      repeat (go_quiet (fail); try go_wp2)
      go_ret
      exact ⟨by first | rfl | (simp [errW_none, errW_some] <;> rfl) | (simp [*, errW_none, errW_some] <;> rfl), by repeat (first | (with_reducible first | exact HB.out | apply below_alloc | apply pw_below_drewN | apply below_drew1 | refine below_set ?_ GE103.out) | exact HB.out)⟩

/-! ### spinnakerref34_Small: function 8 -/
def spinnakerref34_Small.f (k : Nat) (a0_0 : Int) (l0_1 : List Int) (l0_2 : List (S36)) : Option (Bool) := (spinnakerref26_Size.f k ([] : List Int) (([(⟨a0_0, l0_1, l0_2⟩ : S25)] : List (S25)))).bind fun t113 => (if t113 ≤ 150 then (if a0_0 ≤ 60 then ((spinnakerref26_Right.f a0_0 l0_1 l0_2 200).bind fun t114 => (some t114)) else (some false)) else (some false))
theorem spinnakerref34_Small.mono : ∀ a0 a1 a2 k, LeO (spinnakerref34_Small.f k a0 a1 a2) (spinnakerref34_Small.f (k + 1) a0 a1 a2) := by
  intro a0 a1 a2 k; unfold spinnakerref34_Small.f
  repeat' first
 | (with_reducible exact spinnakerref26_Size.mono _ _ _)
 | (with_reducible exact LeO.refl _)
 | (with_reducible exact LeO.none _)
 | (with_reducible refine LeO.ite ?_ ?_)
 | (with_reducible refine LeO.bind ?_ (fun _ => ?_))
theorem z8_0 {p : Prop} (h : p := by repeat (first | (with_reducible first | exact HB.out | apply below_alloc | apply pw_below_drewN | apply below_drew1 | refine below_set ?_ GE109.out) | exact HB.out)) : p := h
theorem z8_1 {p : Prop} (h : p := by repeat (first | exact Below.refl _ _ | apply below_alloc | apply pw_below_drewN | apply below_drew1)) : p := h
theorem z8_2 {p : Prop} (h : p := by (with_reducible repeat (first | refine blk_drewN ?_ _ | refine blk_drew ?_ | refine blk_alloc ?_ _)); exact BK109.out) : p := h
theorem z8_3 {p : Prop} (h : p := by (with_reducible repeat (first | apply Kd.V_alloc | apply Kd.V_drewN | apply Kd.V_drew)); exact HO0_1.out) : p := h
theorem z8_4 {p : Prop} (h : p := by (with_reducible repeat (first | apply Kd.V_alloc | apply Kd.V_drewN | apply Kd.V_drew)); exact HO0_2.out) : p := h
theorem z8_5 {p : Prop} (h : p := by repeat (first | (with_reducible first | exact HB.out | apply below_alloc | apply pw_below_drewN | apply below_drew1) | exact HB.out)) : p := h
theorem z8_6 {p : Prop} (h : p := by (with_reducible repeat (first | apply Kd.N_alloc | apply Kd.N_drewN | apply Kd.N_drew)); exact HO112.out) : p := h
theorem z8_7 {p : Prop} (h : p := by (try simp only [List.map_toArray, List.map_cons, List.map_nil]); first | done | rfl | (simp only [List.length_drop, List.length_take]; rfl)) : p := h
set_option maxHeartbeats 8000000 in
set_option maxRecDepth 100000 in
theorem spinnakerref34_Small.calls (k : Nat) (a0_0 : Int) (P0_1_ : Nat → Prop) (A0_1 : Option Addr) (c0_1 : Nat) (l0_1 : List Int) (P0_2_ : Nat → Prop) (A0_2 : Option Addr) (c0_2 : Nat) (l0_2 : List (S36)) (r : Bool) (w : World) (hs0_1 : Kd.V (Kd.int .i64) 3 w w.heap.size (fun k_ => P0_1_ k_) (.slice A0_1 l0_1.length c0_1) l0_1) (hs0_2 : Kd.V k36 36 w w.heap.size (fun k_ => P0_2_ k_) (.slice A0_2 l0_2.length c0_2) l0_2) (h : spinnakerref34_Small.f k a0_0 l0_1 l0_2 = some r) :
  Calls Tryd.prog 8 #[.agg #[.int .i64 a0_0, .slice A0_1 l0_1.length c0_1, .slice A0_2 l0_2.length c0_2]] w fun e w' => e = .returned (.bool r) ∧ Below w.heap.size w w' := by
 have hu25 := Tryd.underlying25; have hu49 := Tryd.underlying49; have HO0_1 := Aside0.mk (show Kd.V (Kd.int .i64) 3 w w.heap.size (fun k_ => ((P0_1_ k_ ∨ P0_2_ k_) ∨ w.heap.size ≤ k_)) (.slice A0_1 l0_1.length c0_1) l0_1 from Kd.V_mono hs0_1 (fun k_ hk => .inl (.inl hk))); have HO0_2 := Aside0.mk (show Kd.V k36 36 w w.heap.size (fun k_ => ((P0_1_ k_ ∨ P0_2_ k_) ∨ w.heap.size ≤ k_)) (.slice A0_2 l0_2.length c0_2) l0_2 from Kd.V_mono hs0_2 (fun k_ hk => .inl (.inr hk))); have HB := Aside0.mk (Below.refl w.heap.size w); have H : ((spinnakerref26_Size.f k ([] : List Int) (([(⟨a0_0, l0_1, l0_2⟩ : S25)] : List (S25)))).bind fun t113 => (if t113 ≤ 150 then (if a0_0 ≤ 60 then ((spinnakerref26_Right.f a0_0 l0_1 l0_2 200).bind fun t114 => (some t114)) else (some false)) else (some false))) = some r := h; clear h; obtain ⟨y110, hy110⟩ : ∃ y_ : List (S25), y_ = (([(⟨a0_0, l0_1, l0_2⟩ : S25)] : List (S25))) := ⟨_, rfl⟩
 replace H : ((spinnakerref26_Size.f k ([] : List Int) y110).bind fun t113 => (if t113 ≤ 150 then (if a0_0 ≤ 60 then ((spinnakerref26_Right.f a0_0 l0_1 l0_2 200).bind fun t114 => (some t114)) else (some false)) else (some false))) = some r := by first | (rw [hy110]; with_reducible exact H) | (have H2_ := (Option.bind_some _ _).symm.trans H; rw [hy110]; with_reducible exact H2_) | (have H2_ := (Option.bind_some _ _).symm.trans H; with_reducible exact H2_) | with_reducible exact H | (rw [hy110]; exact H) | exact H
 have Ny110 := Aside0.mk hy110; clear hy110; replace H := Option.bind_eq_some_iff.mp H; obtain ⟨t113, A20, H⟩ := H; replace H : (if t113 ≤ 150 then (if a0_0 ≤ 60 then ((spinnakerref26_Right.f a0_0 l0_1 l0_2 200).bind fun t114 => (some t114)) else (some false)) else (some false)) = some r := H; have A2 := Aside0.mk A20; clear A20
 by_cases c3 : t113 ≤ 150
 ·rw [if_pos c3] at H
  have c3b0 : decide (t113 ≤ 150) = true := decide_eq_true c3; clear c3
  by_cases c4 : a0_0 ≤ 60
  ·rw [if_pos c4] at H
   have c4b0 : decide (a0_0 ≤ 60) = true := decide_eq_true c4; clear c4; replace H := Option.bind_eq_some_iff.mp H; obtain ⟨t114, A50, H⟩ := H; replace H : (some t114) = some r := H; have A5 := Aside0.mk A50; clear A50; obtain rfl := Option.some.inj H
   go_enter Tryd.func8, Tryd.ntmps8
   go_wp2_with (first | ((with_reducible refine gate_dst (N := 1) rfl ?_); refine box_event ?hg (N := 1) ?hd (cs := #[.int .i64 a0_0, .slice A0_1 l0_1.length c0_1, .slice A0_2 l0_2.length c0_2]) (t := 25) ?hr ?_; (case hd => rfl); (case hg => rfl); (case hr => first | (go_simp; done) | (go_simp; rfl)); intro gb109 hg w6 hbox hb; have n0_ := Aside0.mk (Kd.V_below (Kd.V_elderB z8_3 gb109 (Nat.le_of_eq hg.symm)) hb); have n1_ := Aside0.mk (Kd.V_below (Kd.V_elderB z8_4 gb109 (Nat.le_of_eq hg.symm)) hb); have n2_ := Aside0.mk (below_step z8_5 hb); have n3_ := Aside0.mk (hbox); have n4_ := Aside0.mk ((by rw [hg]; exact (below_size z8_5) : w.heap.size ≤ gb109)); have n5_ := n4_; clear HO0_1 HO0_2 HB; revert n0_ n1_ n2_ n3_ n4_ n5_; intro HO0_1 HO0_2 HB BK109 GW109 GE109; clear hb hbox hg; have hcz7_0 : w6.cell? ⟨gb109, 0, none⟩ = some (.int .i64 a0_0) := (blk_cell BK109.out 0).trans rfl; have hcz7_1 : w6.cell? ⟨gb109, 1, none⟩ = some (.slice A0_1 l0_1.length c0_1) := (blk_cell BK109.out 1).trans rfl; have hcz7_2 : w6.cell? ⟨gb109, 2, none⟩ = some (.slice A0_2 l0_2.length c0_2) := (blk_cell BK109.out 2).trans rfl; have hfz7_0 := blk_frozen BK109.out 0; have hfz7_1 := blk_frozen BK109.out 1; have hfz7_2 := blk_frozen BK109.out 2) | ((with_reducible refine gate_dst (N := 4) rfl ?_); refine Kd.N_lit k25 _ 25 ?hg (N' := 4) ?hd (xs := ([(⟨a0_0, l0_1, l0_2⟩ : S25)] : List (S25))) (inner := [.int .i64 a0_0, .slice A0_1 l0_1.length c0_1, .slice A0_2 l0_2.length c0_2]) (ok := (fun k_ => ((P0_1_ k_ ∨ P0_2_ k_) ∨ w.heap.size ≤ k_) ∧ k_ ≠ gb109)) (okp := (fun k_ => ((P0_1_ k_ ∨ P0_2_ k_) ∨ w.heap.size ≤ k_) ∧ k_ ≠ gb109)) ?hr ?hp (fun _ hk => hk) ((show ∀ k_, w6.heap.size ≤ k_ → (fun k_ => ((P0_1_ k_ ∨ P0_2_ k_) ∨ w.heap.size ≤ k_) ∧ k_ ≠ gb109) k_ from fun k_ hk => ⟨(.inr (Nat.le_trans (below_size z8_0) hk)), Kd.freshB (g := gb109) (o := .cells #[.int .i64 a0_0, .slice A0_1 l0_1.length c0_1, .slice A0_2 l0_2.length c0_2] 25 (0, 0)) z8_2 k_ hk⟩) _ (Nat.le_refl _)) (Below.refl _ _) (Nat.le_refl _) (by simp) ?_; (case hd => rfl); (case hg => rfl); (case hr => first | (go_simp; done) | (go_simp; rfl)); (case hp => exact (Reps.c3 (show Kd.FK k25 _ _ (⟨a0_0, l0_1, l0_2⟩ : S25) [.int .i64 a0_0, .slice A0_1 l0_1.length c0_1, .slice A0_2 l0_2.length c0_2] from (k25_mkF _ _ (⟨a0_0, l0_1, l0_2⟩ : S25) (Kd.V_reads' (MB_V (ok' := (fun k_ => ((P0_1_ k_ ∨ P0_2_ k_) ∨ w.heap.size ≤ k_) ∧ k_ ≠ gb109)) (HO0_1.out) z8_1 (fun k_ hk => ⟨hk.1, hk.2⟩))).2.1 (Kd.V_F (MB_V (ok' := (fun k_ => ((P0_1_ k_ ∨ P0_2_ k_) ∨ w.heap.size ≤ k_) ∧ k_ ≠ gb109)) (HO0_1.out) z8_1 (fun k_ hk => ⟨hk.1, hk.2⟩))) (Kd.V_reads' (MB_V (ok' := (fun k_ => ((P0_1_ k_ ∨ P0_2_ k_) ∨ w.heap.size ≤ k_) ∧ k_ ≠ gb109)) (HO0_2.out) z8_1 (fun k_ hk => ⟨hk.1, hk.2⟩))).2.1 (Kd.V_F (MB_V (ok' := (fun k_ => ((P0_1_ k_ ∨ P0_2_ k_) ∨ w.heap.size ≤ k_) ∧ k_ ≠ gb109)) (HO0_2.out) z8_1 (fun k_ hk => ⟨hk.1, hk.2⟩))))) (Reps.none _ _))); intro v111 w8 ho9 hb hg_ hnew_; clear hg_ hnew_; (first | rw [← Ny110.out] at ho9 | (simp only [Int.reduceToNat] at ho9; rw [← Ny110.out] at ho9)); have n0_ := Aside0.mk (Kd.V_elder' z8_3 (Kd.N_base ho9) hb); have n1_ := Aside0.mk (Kd.V_elder' z8_4 (Kd.N_base ho9) hb); have n2_ := Aside0.mk (Kd.N_lower ho9 (below_size z8_0)); have n3_ := Aside0.mk (blk_below (g := gb109) (o := .cells #[.int .i64 a0_0, .slice A0_1 l0_1.length c0_1, .slice A0_2 l0_2.length c0_2] 25 (0, 0)) z8_2 hb); have n4_ := Aside0.mk (below_step z8_0 hb); clear HO0_1 HO0_2 BK109 HB; revert n0_ n1_ n2_ n3_ n4_; intro HO0_1 HO0_2 HO112 BK109 HB; clear hb ho9; obtain ⟨Ao10, co10, eo10⟩ := Kd.N_slice HO112.out; subst eo10) | ((with_reducible refine gate_callee (f := 25) rfl ?_); refine goesL_ (some 6) rfl rfl Tryd.func25 (by kernel_rfl) rfl #[.agg #[.slice none 0 0, .slice Ao10 y110.length co10]] rfl z8_7 ?_; (refine (spinnakerref26_Size.calls k _ _ ([] : List Int) _ _ y110 t113 _ ?side1 ?side2 ?side3 ?side4 A2.out).mono ?_); (case side1 => exact Kd.C_nil _ _); (case side2 => exact Nat.le_refl _); (case side3 => repeat (first | exact (Kd.N_reads' HO112.out).2.2 | (with_reducible refine Kd.C_alloc ?_ _) | (with_reducible refine Kd.C_drewN ?_ _) | (with_reducible refine Kd.C_drew ?_))); (case side4 => exact (Kd.N_reads' HO112.out).2.1); rintro e w11 ⟨rfl, hb⟩; refine ⟨_, rfl, ?_⟩; have n0_ := Aside0.mk (Kd.V_below z8_3 hb); have n1_ := Aside0.mk (Kd.V_below z8_4 hb); have n2_ := Aside0.mk (Kd.N_below z8_6 hb); have n3_ := Aside0.mk (blk_below (g := gb109) (o := .cells #[.int .i64 a0_0, .slice A0_1 l0_1.length c0_1, .slice A0_2 l0_2.length c0_2] 25 (0, 0)) z8_2 hb); have n4_ := Aside0.mk (below_step z8_0 hb); clear HO0_1 HO0_2 HO112 BK109 HB; revert n0_ n1_ n2_ n3_ n4_; intro HO0_1 HO0_2 HO112 BK109 HB; (try clear hb); (try clear hb2); (try clear hk); (try clear hi); have hcz12_0 : w11.cell? ⟨gb109, 0, none⟩ = some (.int .i64 a0_0) := (blk_cell BK109.out 0).trans rfl; have hcz12_1 : w11.cell? ⟨gb109, 1, none⟩ = some (.slice A0_1 l0_1.length c0_1) := (blk_cell BK109.out 1).trans rfl; have hcz12_2 : w11.cell? ⟨gb109, 2, none⟩ = some (.slice A0_2 l0_2.length c0_2) := (blk_cell BK109.out 2).trans rfl; have hfz12_0 := blk_frozen BK109.out 0; have hfz12_1 := blk_frozen BK109.out 1; have hfz12_2 := blk_frozen BK109.out 2) | (go_at_call 9; (with_reducible refine (spinnakerref26_Right.calls a0_0 _ _ l0_1 _ _ l0_2 200 t114 _ ?side1 ?side2 ?side3 ?side4 A5.out).mono ?_); (case side1 => repeat (first | exact (Kd.V_reads' HO0_1.out).2.2 | (with_reducible refine Kd.C_alloc ?_ _) | (with_reducible refine Kd.C_drewN ?_ _) | (with_reducible refine Kd.C_drew ?_))); (case side2 => exact (Kd.V_reads' HO0_1.out).2.1); (case side3 => repeat (first | exact (Kd.V_reads' HO0_2.out).2.2 | (with_reducible refine Kd.C_alloc ?_ _) | (with_reducible refine Kd.C_drewN ?_ _) | (with_reducible refine Kd.C_drew ?_))); (case side4 => exact (Kd.V_reads' HO0_2.out).2.1); rintro e w13 ⟨rfl, hb⟩; have n0_ := Aside0.mk (Kd.V_below z8_3 hb); have n1_ := Aside0.mk (Kd.V_below z8_4 hb); have n2_ := Aside0.mk (Kd.N_below z8_6 hb); have n3_ := Aside0.mk (blk_below (g := gb109) (o := .cells #[.int .i64 a0_0, .slice A0_1 l0_1.length c0_1, .slice A0_2 l0_2.length c0_2] 25 (0, 0)) z8_2 hb); have n4_ := Aside0.mk (below_step z8_0 hb); clear HO0_1 HO0_2 HO112 BK109 HB; revert n0_ n1_ n2_ n3_ n4_; intro HO0_1 HO0_2 HO112 BK109 HB; (try clear hb); (try clear hb2); (try clear hk); (try clear hi)))
   go_ret
   exact ⟨by first | rfl | (simp [errW_none, errW_some] <;> rfl) | (simp [*, errW_none, errW_some] <;> rfl), by repeat (first | (with_reducible first | exact HB.out | apply below_alloc | apply pw_below_drewN | apply below_drew1 | refine below_set ?_ GE109.out) | exact HB.out)⟩
  ·rw [if_neg c4] at H
   have c4b0 : decide (a0_0 ≤ 60) = false := decide_eq_false c4; clear c4; obtain rfl := Option.some.inj H
   go_enter Tryd.func8, Tryd.ntmps8
   go_wp2_with (first | ((with_reducible refine gate_dst (N := 1) rfl ?_); refine box_event ?hg (N := 1) ?hd (cs := #[.int .i64 a0_0, .slice A0_1 l0_1.length c0_1, .slice A0_2 l0_2.length c0_2]) (t := 25) ?hr ?_; (case hd => rfl); (case hg => rfl); (case hr => first | (go_simp; done) | (go_simp; rfl)); intro gb109 hg w14 hbox hb; have n0_ := Aside0.mk (Kd.V_below (Kd.V_elderB z8_3 gb109 (Nat.le_of_eq hg.symm)) hb); have n1_ := Aside0.mk (Kd.V_below (Kd.V_elderB z8_4 gb109 (Nat.le_of_eq hg.symm)) hb); have n2_ := Aside0.mk (below_step z8_5 hb); have n3_ := Aside0.mk (hbox); have n4_ := Aside0.mk ((by rw [hg]; exact (below_size z8_5) : w.heap.size ≤ gb109)); have n5_ := n4_; clear HO0_1 HO0_2 HB; revert n0_ n1_ n2_ n3_ n4_ n5_; intro HO0_1 HO0_2 HB BK109 GW109 GE109; clear hb hbox hg; have hcz15_0 : w14.cell? ⟨gb109, 0, none⟩ = some (.int .i64 a0_0) := (blk_cell BK109.out 0).trans rfl; have hcz15_1 : w14.cell? ⟨gb109, 1, none⟩ = some (.slice A0_1 l0_1.length c0_1) := (blk_cell BK109.out 1).trans rfl; have hcz15_2 : w14.cell? ⟨gb109, 2, none⟩ = some (.slice A0_2 l0_2.length c0_2) := (blk_cell BK109.out 2).trans rfl; have hfz15_0 := blk_frozen BK109.out 0; have hfz15_1 := blk_frozen BK109.out 1; have hfz15_2 := blk_frozen BK109.out 2) | ((with_reducible refine gate_dst (N := 4) rfl ?_); refine Kd.N_lit k25 _ 25 ?hg (N' := 4) ?hd (xs := ([(⟨a0_0, l0_1, l0_2⟩ : S25)] : List (S25))) (inner := [.int .i64 a0_0, .slice A0_1 l0_1.length c0_1, .slice A0_2 l0_2.length c0_2]) (ok := (fun k_ => ((P0_1_ k_ ∨ P0_2_ k_) ∨ w.heap.size ≤ k_) ∧ k_ ≠ gb109)) (okp := (fun k_ => ((P0_1_ k_ ∨ P0_2_ k_) ∨ w.heap.size ≤ k_) ∧ k_ ≠ gb109)) ?hr ?hp (fun _ hk => hk) ((show ∀ k_, w14.heap.size ≤ k_ → (fun k_ => ((P0_1_ k_ ∨ P0_2_ k_) ∨ w.heap.size ≤ k_) ∧ k_ ≠ gb109) k_ from fun k_ hk => ⟨(.inr (Nat.le_trans (below_size z8_0) hk)), Kd.freshB (g := gb109) (o := .cells #[.int .i64 a0_0, .slice A0_1 l0_1.length c0_1, .slice A0_2 l0_2.length c0_2] 25 (0, 0)) z8_2 k_ hk⟩) _ (Nat.le_refl _)) (Below.refl _ _) (Nat.le_refl _) (by simp) ?_; (case hd => rfl); (case hg => rfl); (case hr => first | (go_simp; done) | (go_simp; rfl)); (case hp => exact (Reps.c3 (show Kd.FK k25 _ _ (⟨a0_0, l0_1, l0_2⟩ : S25) [.int .i64 a0_0, .slice A0_1 l0_1.length c0_1, .slice A0_2 l0_2.length c0_2] from (k25_mkF _ _ (⟨a0_0, l0_1, l0_2⟩ : S25) (Kd.V_reads' (MB_V (ok' := (fun k_ => ((P0_1_ k_ ∨ P0_2_ k_) ∨ w.heap.size ≤ k_) ∧ k_ ≠ gb109)) (HO0_1.out) z8_1 (fun k_ hk => ⟨hk.1, hk.2⟩))).2.1 (Kd.V_F (MB_V (ok' := (fun k_ => ((P0_1_ k_ ∨ P0_2_ k_) ∨ w.heap.size ≤ k_) ∧ k_ ≠ gb109)) (HO0_1.out) z8_1 (fun k_ hk => ⟨hk.1, hk.2⟩))) (Kd.V_reads' (MB_V (ok' := (fun k_ => ((P0_1_ k_ ∨ P0_2_ k_) ∨ w.heap.size ≤ k_) ∧ k_ ≠ gb109)) (HO0_2.out) z8_1 (fun k_ hk => ⟨hk.1, hk.2⟩))).2.1 (Kd.V_F (MB_V (ok' := (fun k_ => ((P0_1_ k_ ∨ P0_2_ k_) ∨ w.heap.size ≤ k_) ∧ k_ ≠ gb109)) (HO0_2.out) z8_1 (fun k_ hk => ⟨hk.1, hk.2⟩))))) (Reps.none _ _))); intro v111 w16 ho17 hb hg_ hnew_; clear hg_ hnew_; (first | rw [← Ny110.out] at ho17 | (simp only [Int.reduceToNat] at ho17; rw [← Ny110.out] at ho17)); have n0_ := Aside0.mk (Kd.V_elder' z8_3 (Kd.N_base ho17) hb); have n1_ := Aside0.mk (Kd.V_elder' z8_4 (Kd.N_base ho17) hb); have n2_ := Aside0.mk (Kd.N_lower ho17 (below_size z8_0)); have n3_ := Aside0.mk (blk_below (g := gb109) (o := .cells #[.int .i64 a0_0, .slice A0_1 l0_1.length c0_1, .slice A0_2 l0_2.length c0_2] 25 (0, 0)) z8_2 hb); have n4_ := Aside0.mk (below_step z8_0 hb); clear HO0_1 HO0_2 BK109 HB; revert n0_ n1_ n2_ n3_ n4_; intro HO0_1 HO0_2 HO112 BK109 HB; clear hb ho17; obtain ⟨Ao18, co18, eo18⟩ := Kd.N_slice HO112.out; subst eo18) | ((with_reducible refine gate_callee (f := 25) rfl ?_); refine goesL_ (some 6) rfl rfl Tryd.func25 (by kernel_rfl) rfl #[.agg #[.slice none 0 0, .slice Ao18 y110.length co18]] rfl z8_7 ?_; (refine (spinnakerref26_Size.calls k _ _ ([] : List Int) _ _ y110 t113 _ ?side1 ?side2 ?side3 ?side4 A2.out).mono ?_); (case side1 => exact Kd.C_nil _ _); (case side2 => exact Nat.le_refl _); (case side3 => repeat (first | exact (Kd.N_reads' HO112.out).2.2 | (with_reducible refine Kd.C_alloc ?_ _) | (with_reducible refine Kd.C_drewN ?_ _) | (with_reducible refine Kd.C_drew ?_))); (case side4 => exact (Kd.N_reads' HO112.out).2.1); rintro e w19 ⟨rfl, hb⟩; refine ⟨_, rfl, ?_⟩; have n0_ := Aside0.mk (Kd.V_below z8_3 hb); have n1_ := Aside0.mk (Kd.V_below z8_4 hb); have n2_ := Aside0.mk (Kd.N_below z8_6 hb); have n3_ := Aside0.mk (blk_below (g := gb109) (o := .cells #[.int .i64 a0_0, .slice A0_1 l0_1.length c0_1, .slice A0_2 l0_2.length c0_2] 25 (0, 0)) z8_2 hb); have n4_ := Aside0.mk (below_step z8_0 hb); clear HO0_1 HO0_2 HO112 BK109 HB; revert n0_ n1_ n2_ n3_ n4_; intro HO0_1 HO0_2 HO112 BK109 HB; (try clear hb); (try clear hb2); (try clear hk); (try clear hi); have hcz20_0 : w19.cell? ⟨gb109, 0, none⟩ = some (.int .i64 a0_0) := (blk_cell BK109.out 0).trans rfl; have hcz20_1 : w19.cell? ⟨gb109, 1, none⟩ = some (.slice A0_1 l0_1.length c0_1) := (blk_cell BK109.out 1).trans rfl; have hcz20_2 : w19.cell? ⟨gb109, 2, none⟩ = some (.slice A0_2 l0_2.length c0_2) := (blk_cell BK109.out 2).trans rfl; have hfz20_0 := blk_frozen BK109.out 0; have hfz20_1 := blk_frozen BK109.out 1; have hfz20_2 := blk_frozen BK109.out 2))
   go_ret
   exact ⟨by first | rfl | (simp [errW_none, errW_some] <;> rfl) | (simp [*, errW_none, errW_some] <;> rfl), by repeat (first | (with_reducible first | exact HB.out | apply below_alloc | apply pw_below_drewN | apply below_drew1 | refine below_set ?_ GE109.out) | exact HB.out)⟩
 ·rw [if_neg c3] at H
  have c3b0 : decide (t113 ≤ 150) = false := decide_eq_false c3; clear c3; obtain rfl := Option.some.inj H
  go_enter Tryd.func8, Tryd.ntmps8
  go_wp2_with (first | ((with_reducible refine gate_dst (N := 1) rfl ?_); refine box_event ?hg (N := 1) ?hd (cs := #[.int .i64 a0_0, .slice A0_1 l0_1.length c0_1, .slice A0_2 l0_2.length c0_2]) (t := 25) ?hr ?_; (case hd => rfl); (case hg => rfl); (case hr => first | (go_simp; done) | (go_simp; rfl)); intro gb109 hg w21 hbox hb; have n0_ := Aside0.mk (Kd.V_below (Kd.V_elderB z8_3 gb109 (Nat.le_of_eq hg.symm)) hb); have n1_ := Aside0.mk (Kd.V_below (Kd.V_elderB z8_4 gb109 (Nat.le_of_eq hg.symm)) hb); have n2_ := Aside0.mk (below_step z8_5 hb); have n3_ := Aside0.mk (hbox); have n4_ := Aside0.mk ((by rw [hg]; exact (below_size z8_5) : w.heap.size ≤ gb109)); have n5_ := n4_; clear HO0_1 HO0_2 HB; revert n0_ n1_ n2_ n3_ n4_ n5_; intro HO0_1 HO0_2 HB BK109 GW109 GE109; clear hb hbox hg; have hcz22_0 : w21.cell? ⟨gb109, 0, none⟩ = some (.int .i64 a0_0) := (blk_cell BK109.out 0).trans rfl; have hcz22_1 : w21.cell? ⟨gb109, 1, none⟩ = some (.slice A0_1 l0_1.length c0_1) := (blk_cell BK109.out 1).trans rfl; have hcz22_2 : w21.cell? ⟨gb109, 2, none⟩ = some (.slice A0_2 l0_2.length c0_2) := (blk_cell BK109.out 2).trans rfl; have hfz22_0 := blk_frozen BK109.out 0; have hfz22_1 := blk_frozen BK109.out 1; have hfz22_2 := blk_frozen BK109.out 2) | ((with_reducible refine gate_dst (N := 4) rfl ?_); refine Kd.N_lit k25 _ 25 ?hg (N' := 4) ?hd (xs := ([(⟨a0_0, l0_1, l0_2⟩ : S25)] : List (S25))) (inner := [.int .i64 a0_0, .slice A0_1 l0_1.length c0_1, .slice A0_2 l0_2.length c0_2]) (ok := (fun k_ => ((P0_1_ k_ ∨ P0_2_ k_) ∨ w.heap.size ≤ k_) ∧ k_ ≠ gb109)) (okp := (fun k_ => ((P0_1_ k_ ∨ P0_2_ k_) ∨ w.heap.size ≤ k_) ∧ k_ ≠ gb109)) ?hr ?hp (fun _ hk => hk) ((show ∀ k_, w21.heap.size ≤ k_ → (fun k_ => ((P0_1_ k_ ∨ P0_2_ k_) ∨ w.heap.size ≤ k_) ∧ k_ ≠ gb109) k_ from fun k_ hk => ⟨(.inr (Nat.le_trans (below_size z8_0) hk)), Kd.freshB (g := gb109) (o := .cells #[.int .i64 a0_0, .slice A0_1 l0_1.length c0_1, .slice A0_2 l0_2.length c0_2] 25 (0, 0)) z8_2 k_ hk⟩) _ (Nat.le_refl _)) (Below.refl _ _) (Nat.le_refl _) (by simp) ?_; (case hd => rfl); (case hg => rfl); (case hr => first | (go_simp; done) | (go_simp; rfl)); (case hp => exact (Reps.c3 (show Kd.FK k25 _ _ (⟨a0_0, l0_1, l0_2⟩ : S25) [.int .i64 a0_0, .slice A0_1 l0_1.length c0_1, .slice A0_2 l0_2.length c0_2] from (k25_mkF _ _ (⟨a0_0, l0_1, l0_2⟩ : S25) (Kd.V_reads' (MB_V (ok' := (fun k_ => ((P0_1_ k_ ∨ P0_2_ k_) ∨ w.heap.size ≤ k_) ∧ k_ ≠ gb109)) (HO0_1.out) z8_1 (fun k_ hk => ⟨hk.1, hk.2⟩))).2.1 (Kd.V_F (MB_V (ok' := (fun k_ => ((P0_1_ k_ ∨ P0_2_ k_) ∨ w.heap.size ≤ k_) ∧ k_ ≠ gb109)) (HO0_1.out) z8_1 (fun k_ hk => ⟨hk.1, hk.2⟩))) (Kd.V_reads' (MB_V (ok' := (fun k_ => ((P0_1_ k_ ∨ P0_2_ k_) ∨ w.heap.size ≤ k_) ∧ k_ ≠ gb109)) (HO0_2.out) z8_1 (fun k_ hk => ⟨hk.1, hk.2⟩))).2.1 (Kd.V_F (MB_V (ok' := (fun k_ => ((P0_1_ k_ ∨ P0_2_ k_) ∨ w.heap.size ≤ k_) ∧ k_ ≠ gb109)) (HO0_2.out) z8_1 (fun k_ hk => ⟨hk.1, hk.2⟩))))) (Reps.none _ _))); intro v111 w23 ho24 hb hg_ hnew_; clear hg_ hnew_; (first | rw [← Ny110.out] at ho24 | (simp only [Int.reduceToNat] at ho24; rw [← Ny110.out] at ho24)); have n0_ := Aside0.mk (Kd.V_elder' z8_3 (Kd.N_base ho24) hb); have n1_ := Aside0.mk (Kd.V_elder' z8_4 (Kd.N_base ho24) hb); have n2_ := Aside0.mk (Kd.N_lower ho24 (below_size z8_0)); have n3_ := Aside0.mk (blk_below (g := gb109) (o := .cells #[.int .i64 a0_0, .slice A0_1 l0_1.length c0_1, .slice A0_2 l0_2.length c0_2] 25 (0, 0)) z8_2 hb); have n4_ := Aside0.mk (below_step z8_0 hb); clear HO0_1 HO0_2 BK109 HB; revert n0_ n1_ n2_ n3_ n4_; intro HO0_1 HO0_2 HO112 BK109 HB; clear hb ho24; obtain ⟨Ao25, co25, eo25⟩ := Kd.N_slice HO112.out; subst eo25) | ((with_reducible refine gate_callee (f := 25) rfl ?_); refine goesL_ (some 6) rfl rfl Tryd.func25 (by kernel_rfl) rfl #[.agg #[.slice none 0 0, .slice Ao25 y110.length co25]] rfl z8_7 ?_; (refine (spinnakerref26_Size.calls k _ _ ([] : List Int) _ _ y110 t113 _ ?side1 ?side2 ?side3 ?side4 A2.out).mono ?_); (case side1 => exact Kd.C_nil _ _); (case side2 => exact Nat.le_refl _); (case side3 => repeat (first | exact (Kd.N_reads' HO112.out).2.2 | (with_reducible refine Kd.C_alloc ?_ _) | (with_reducible refine Kd.C_drewN ?_ _) | (with_reducible refine Kd.C_drew ?_))); (case side4 => exact (Kd.N_reads' HO112.out).2.1); rintro e w26 ⟨rfl, hb⟩; refine ⟨_, rfl, ?_⟩; have n0_ := Aside0.mk (Kd.V_below z8_3 hb); have n1_ := Aside0.mk (Kd.V_below z8_4 hb); have n2_ := Aside0.mk (Kd.N_below z8_6 hb); have n3_ := Aside0.mk (blk_below (g := gb109) (o := .cells #[.int .i64 a0_0, .slice A0_1 l0_1.length c0_1, .slice A0_2 l0_2.length c0_2] 25 (0, 0)) z8_2 hb); have n4_ := Aside0.mk (below_step z8_0 hb); clear HO0_1 HO0_2 HO112 BK109 HB; revert n0_ n1_ n2_ n3_ n4_; intro HO0_1 HO0_2 HO112 BK109 HB; (try clear hb); (try clear hb2); (try clear hk); (try clear hi)))
  go_ret
  exact ⟨by first | rfl | (simp [errW_none, errW_some] <;> rfl) | (simp [*, errW_none, errW_some] <;> rfl), by repeat (first | (with_reducible first | exact HB.out | apply below_alloc | apply pw_below_drewN | apply below_drew1 | refine below_set ?_ GE109.out) | exact HB.out)⟩

end Go.Proofs.YtbcfpgcfamipmaaDoor.PFoldActions
