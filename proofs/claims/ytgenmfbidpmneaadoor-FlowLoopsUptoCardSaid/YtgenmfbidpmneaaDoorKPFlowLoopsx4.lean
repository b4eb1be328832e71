-- printed by a program of this session (wip/mp.py: the kit's printer, patched, over the session's own templates); checked by Lean alone
import Derived.Test.YtgenmfbidpmneaaDoorKPFlowLoopsx0
import Derived.Test.YtgenmfbidpmneaaDoorKPFlowLoopsx2
import Derived.Test.YtgenmfbidpmneaaDoorKPFlowLoopsx3
namespace Go.Proofs.YtgenmfbidpmneaaDoor.PFlowLoops
open Go.RowKit Go.Proofs.YtgenmfbidpmneaaDoorW.PrintWords Go.Proofs.YtgenmfbidpmneaaDoorW.PrintLast Go.Proofs.YtgenmfbidpmneaaDoorW.PrintMore
attribute [local go_sem] max2_int min2_int max_two min_two max_three min_three max_four min_four   -- for this text's walks alone
set_option linter.unusedVariables false
set_option linter.unusedSimpArgs false

/-! ### given: ir_Right.lean -/
-- GIVEN spinnaker/ir.Right rounds=0 making=1
-- NEEDS spinnaker/ir.right
-- NEEDS spinnaker/ir.ends
-- REG []int
-- REG []api.Block
-- INFO int
-- IMPORT Derived.Test.YtgenmfbidpmneaaDoorEvalM
-- IMPORT Derived.Shelf.Abstract
/-- The first place at which p holds; -1: none. -/
def ixr_int (p : Int → Bool) (l : List Int) : Int := if l.findIdx p < l.length then (l.findIdx p : Int) else -1
theorem ixr_int_hit (p : Int → Bool) (l : List Int) (k : Nat) (hk : k < l.length) (h1 : p (l.getD k 0) = true) (h0 : ∀ j, j < k → p (l.getD j 0) = false) : ixr_int p l = (k : Int) := by
  have e : l.findIdx p = k := by
    refine (List.findIdx_eq hk).2 ⟨by simpa [hk] using h1, fun j hj => ?_⟩
    have := h0 j hj
    have hj2 : j < l.length := by omega
    simpa [hj2] using this
  unfold ixr_int
  rw [e, if_pos hk]
theorem ixr_int_miss (p : Int → Bool) (l : List Int) (h0 : ∀ j, j < l.length → p (l.getD j 0) = false) : ixr_int p l = -1 := by
  have e : l.findIdx p = l.length := by
    refine List.findIdx_eq_length.2 fun x hx => ?_
    obtain ⟨j, hj, rfl⟩ := List.getElem_of_mem hx
    have := h0 j hj
    simpa [hj] using this
  unfold ixr_int
  rw [e, if_neg (by omega)]
theorem ixr_int_any (p : Int → Bool) (l : List Int) : decide (0 ≤ ixr_int p l) = l.any p := by
  unfold ixr_int
  by_cases e : l.findIdx p < l.length
  · rw [if_pos e]
    have h2 : l.any p = true := by rw [List.any_eq_true]; exact ⟨l[l.findIdx p], List.getElem_mem e, List.findIdx_getElem⟩
    rw [h2]
    simp
  · rw [if_neg e]
    have h2 : l.any p = false := by
      rw [List.any_eq_false]
      intro x hx hp
      exact e (List.findIdx_lt_length.2 ⟨x, hx, hp⟩)
    rw [h2]
    rfl
theorem ixr_int.ret {a b : Int} (h : a = b) : Ending.returned (.int .i64 a) = .returned (.int .i64 b) := by rw [h]
set_option maxHeartbeats 2000000 in
theorem ixr_int.index (p : Int → Bool) (g : Nat) (lb : Array Value) (eg : ∀ args w, (callFunc g args).run Tryd.prog w = .ok (.enter g args) w) (A0 : Option Addr) (c0 : Nat) (l0 : List Int) (w : World) (hr0 : Kd.C (Kd.int .i64) w A0 l0.length l0)
    (hp : ∀ (x : Int) (W : World), Below w.heap.size w W → Calls Tryd.prog g (#[.int .i64 x] ++ lb) W fun e w' => e = .returned (.bool (p x)) ∧ Below W.heap.size W w') :
    Calls Tryd.prog 67 #[.slice A0 l0.length c0, .func (.func g) #[] lb] w fun e w' => e = .returned (.int .i64 (ixr_int p l0)) ∧ Below w.heap.size w w' := by
  have HR0 := Aside0.mk hr0
  have HP := Aside0.mk hp
  have HM : l0.length ≤ 9223372036854775807 := hr0.2.1
  clear hr0 hp
  go_enter Tryd.func67, Tryd.ntmps67
  go_wp2
  go_loopg [5, 8] l0.length (fun gg _ s8 wr => ∃ kk : Nat, kk ≤ l0.length ∧ l0.length - kk ≤ gg ∧ s8 = .int .i64 kk ∧ Aside0 (Below w.heap.size w wr) ∧ Aside0 (∀ j, j < kk → p (l0.getD j 0) = false))
  case atStart => exact ⟨0, Nat.zero_le _, by omega, rfl, ⟨Below.refl _ _⟩, ⟨fun j hj => absurd hj (Nat.not_lt_zero _)⟩⟩
  case round =>
    obtain ⟨kk, hkk, hg, rfl, HB, HA⟩ := hrel
    by_cases hlt : kk < l0.length
    · have hltz : (kk : Int) < (l0.length : Int) := by omega
      obtain ⟨ad, rfl, hx⟩ := Kd.at_int HR0.out (kk : Int) (by omega) hltz
      replace hx := (HB.out.cell (World.block_lt_of_cell? w _ hx)).trans hx
      rw [Int.toNat_natCast] at hx
      have hrd : rd l0 (kk : Int) = l0.getD kk 0 := by simp [rd]
      rw [hrd] at hx
      clear hrd
      obtain ⟨y, hy⟩ : ∃ y, Aside0 (l0.getD kk 0 = y) := ⟨_, ⟨rfl⟩⟩
      rw [hy.out] at hx
      have hcall := HP.out y wr HB.out
      cases hq : p y with
      | true =>
        rw [hq] at hcall
        have HQ := Aside0.mk hq
        clear hq
        have HC := Aside0.mk hcall
        clear hcall
        go_wp2_with (fail)
        refine HC.out.mono ?_
        rintro e w' ⟨rfl, hb⟩
        have n1_ := Aside0.mk (below_step HB.out hb)
        clear hb HB
        have HB := n1_
        clear n1_ HC hx
        go_wp2_with (fail)
        go_ret
        exact ⟨ixr_int.ret (ixr_int_hit p l0 kk hlt (by rw [hy.out]; exact HQ.out) HA.out).symm, HB.out⟩
      | false =>
        rw [hq] at hcall
        have HQ := Aside0.mk hq
        clear hq
        have HC := Aside0.mk hcall
        clear hcall
        go_wp2_with (fail)
        refine HC.out.mono ?_
        rintro e w' ⟨rfl, hb⟩
        have n1_ := Aside0.mk (below_step HB.out hb)
        clear hb HB
        have HB := n1_
        clear n1_ HC hx
        go_wp2_with (fail)
        go_roundg (l0.length - (kk + 1))
        case measure => omega
        case rel =>
          refine ⟨kk + 1, by omega, by omega, by go_num, HB, ⟨fun j hj => ?_⟩⟩
          by_cases e : j = kk
          · subst e
            rw [hy.out]; exact HQ.out
          · exact HA.out j (by omega)
    · have hltz : ¬ (kk : Int) < (l0.length : Int) := by omega
      have hk : kk = l0.length := by omega
      have HK := Aside0.mk hk
      clear hk
      go_wp2
      go_ret
      exact ⟨ixr_int.ret (ixr_int_miss p l0 (fun j hj => HA.out j (by rw [HK.out]; exact hj))).symm, HB.out⟩
set_option maxHeartbeats 2000000 in
theorem ixr_int.contains (p : Int → Bool) (g : Nat) (lb : Array Value) (eg : ∀ args w, (callFunc g args).run Tryd.prog w = .ok (.enter g args) w) (A0 : Option Addr) (c0 : Nat) (l0 : List Int) (w : World) (hr0 : Kd.C (Kd.int .i64) w A0 l0.length l0)
    (hp : ∀ (x : Int) (W : World), Below w.heap.size w W → Calls Tryd.prog g (#[.int .i64 x] ++ lb) W fun e w' => e = .returned (.bool (p x)) ∧ Below W.heap.size W w') :
    Calls Tryd.prog 58 #[.slice A0 l0.length c0, .func (.func g) #[] lb] w fun e w' => e = .returned (.bool (l0.any p)) ∧ Below w.heap.size w w' := by
  have HC := Aside0.mk (ixr_int.index p g lb eg A0 c0 l0 w hr0 hp)
  rw [← ixr_int_any p l0]
  clear hr0 hp
  obtain ⟨n, hn⟩ : ∃ n, Aside0 (ixr_int p l0 = n) := ⟨_, ⟨rfl⟩⟩
  rw [hn.out] at HC ⊢
  go_enter Tryd.func58, Tryd.ntmps58
  go_wp2_with (go_at_call 67; refine HC.out.mono ?_; rintro e w' ⟨rfl, hb⟩; have HB := Aside0.mk hb; clear hb HC)
  go_ret
  exact ⟨rfl, HB.out⟩
/-- Is a size out of its bounds? -/
def badN (n : Int) : Bool := decide (n < 1) || decide (250 < n)
theorem badN.below (x : Int) (W : World) : Calls Tryd.prog 59 (#[.int .i64 x] ++ #[]) W fun e w' => e = .returned (.bool (badN x)) ∧ Below W.heap.size W w' := by
  show Calls Tryd.prog 59 #[.int .i64 x] W _
  unfold badN
  by_cases c : x < 1
  · have cb : decide (x < 1) = true := decide_eq_true c
    clear c
    go_enter Tryd.func59, Tryd.ntmps59
    go_wp2
    go_ret
    exact ⟨by simp [cb], Below.refl _ _⟩
  · have cb : decide (x < 1) = false := decide_eq_false c
    clear c
    go_enter Tryd.func59, Tryd.ntmps59
    go_wp2
    go_ret
    exact ⟨by simp [cb], Below.refl _ _⟩
def insOf (i : S38) (v c : Int) (k k2 : Nat) : Bool := insB i.f0 i.f1 i.f2 i.f3 i.f4 i.f5 i.f6 i.f7 v c k k2
/-- What is known of the ids behind some instructions; none: one is not right. -/
def goI (v c : Int) (k k2 : Nat) : (Int → Option Int) → List S38 → Option (Int → Option Int)
  | g, [] => some g
  | g, i :: r => cond (insOf i v c k k2) (cond (decide (0 < i.f7)) (cond (decide (0 < (g i.f7).getD 0)) none (goI v c k k2 (fun y => if y = i.f7 then some 1 else g y) r)) (goI v c k k2 (fun y => if y = i.f7 then some 1 else g y) r)) none
def endOf (e : S34) (v : Int) (k : List Int) (k2 : List S36) : Bool := (ir_ends.f e.f0 e.f1 e.f2 e.f3 v k k2).getD false
def goB (v c : Int) (k : List Int) (k2 : List S36) : (Int → Option Int) → List S36 → Bool
  | _, [] => true
  | g, b :: r => match goI v c k.length k2.length g b.f0 with
    | some g' => cond (endOf b.f1 v k k2) (goB v c k k2 g' r) false
    | none => false
/-- Is a thread right? -/
def rightB (v : Int) (k : List Int) (k2 : List S36) (c : Int) : Bool :=
  !(decide (v < 0) || decide (200 < v) || decide (k2.length < 1) || decide (4000 < k2.length)) && (!k.any badN && goB v c k k2 (fun _ => none) k2)
/-- Are its ids whole numbers of Go, and its blocks not too long? -/
def okIds (k2 : List S36) : Prop := k2.length ≤ 4611686018427387904 ∧ ∀ b ∈ k2, b.f0.length ≤ 4294967296 ∧ ∀ i ∈ b.f0, (Lit.int .i64 i.f7).wf = true
instance (k2 : List S36) : Decidable (okIds k2) := by unfold okIds; exact inferInstance
def ir_Right.f (v : Int) (k : List Int) (k2 : List S36) (c : Int) : Option Bool := if okIds k2 then some (rightB v k k2 c) else none
theorem cells3 {w : World} {g : Nat} {t : TypeId} {x0 x1 x2 : Value} (h : w.heap[g]? = some (.cells #[x0, x1, x2] t (0, 0))) : w.cell? ⟨g, 0, none⟩ = some x0 ∧ w.cell? ⟨g, 1, none⟩ = some x1 ∧ w.cell? ⟨g, 2, none⟩ = some x2 := ⟨(blk_cell h 0).trans rfl, (blk_cell h 1).trans rfl, (blk_cell h 2).trans rfl⟩
theorem cells5 {w : World} {g : Nat} {t : TypeId} {x0 x1 x2 x3 x4 : Value} (h : w.heap[g]? = some (.cells #[x0, x1, x2, x3, x4] t (0, 0))) : w.cell? ⟨g, 0, none⟩ = some x0 ∧ w.cell? ⟨g, 1, none⟩ = some x1 ∧ w.cell? ⟨g, 2, none⟩ = some x2 ∧ w.cell? ⟨g, 3, none⟩ = some x3 ∧ w.cell? ⟨g, 4, none⟩ = some x4 := ⟨(blk_cell h 0).trans rfl, (blk_cell h 1).trans rfl, (blk_cell h 2).trans rfl, (blk_cell h 3).trans rfl, (blk_cell h 4).trans rfl⟩
theorem cells8 {w : World} {g : Nat} {t : TypeId} {x0 x1 x2 x3 x4 x5 x6 x7 : Value} (h : w.heap[g]? = some (.cells #[x0, x1, x2, x3, x4, x5, x6, x7] t (0, 0))) : w.cell? ⟨g, 0, none⟩ = some x0 ∧ w.cell? ⟨g, 1, none⟩ = some x1 ∧ w.cell? ⟨g, 2, none⟩ = some x2 ∧ w.cell? ⟨g, 3, none⟩ = some x3 ∧ w.cell? ⟨g, 4, none⟩ = some x4 ∧ w.cell? ⟨g, 5, none⟩ = some x5 ∧ w.cell? ⟨g, 6, none⟩ = some x6 ∧ w.cell? ⟨g, 7, none⟩ = some x7 := ⟨(blk_cell h 0).trans rfl, (blk_cell h 1).trans rfl, (blk_cell h 2).trans rfl, (blk_cell h 3).trans rfl, (blk_cell h 4).trans rfl, (blk_cell h 5).trans rfl, (blk_cell h 6).trans rfl, (blk_cell h 7).trans rfl⟩
theorem make_map {ops : Array Oper} {rest : List Oper} {o : Oper} {a : Act} {Q : Exit → Act → World → Prop} {W : World} {m : TypeId} (hg : o.guard = none) (hop : o.op = .makeMap m none)
    (h : ∀ b, b = W.heap.size → ∀ w1, Eval.MapIs Tryd.prog 3 w1 b 0 (fun _ => none) → Below W.heap.size W w1 → wpList Tryd.prog ops Q rest (a.put o.dst (.map (some b))) w1) : wpList Tryd.prog ops Q (o :: rest) a W :=
  Kd.event_run hg (by simp [execOp, hop, run_makeMap, Result.andThen]) (h _ rfl _ (Eval.MapIs.made _ _ _) (below_alloc (Below.refl _ _) _))
theorem alloc_ev {ops : Array Oper} {rest : List Oper} {o : Oper} {a : Act} {Q : Exit → Act → World → Prop} {W : World} {t : TypeId} {zs : Array Value} (hg : o.guard = none) (hop : o.op = .alloc t)
    (hz : (Instr.alloc t true (.tuple #[])).run Tryd.prog W = .ok (.pointer (some ⟨W.heap.size, 0, none⟩)) (W.alloc (.cells zs t (0, 0))))
    (h : ∀ b, b = W.heap.size → ∀ w1, w1.heap[b]? = some (.cells zs t (0, 0)) → Below W.heap.size W w1 → wpList Tryd.prog ops Q rest (a.put o.dst (.pointer (some ⟨b, 0, none⟩))) w1) : wpList Tryd.prog ops Q (o :: rest) a W :=
  Kd.event_run hg (by simp only [execOp, hop]; simp [hz, Result.andThen]) (h _ rfl _ (blk_new W _) (below_alloc (Below.refl _ _) _))
theorem store_ev {ops : Array Oper} {rest : List Oper} {o : Oper} {a : Act} {Q : Exit → Act → World → Prop} {W : World} {t : TypeId} {x v : Operand} {g : Nat} {old cs : Array Value} (hg : o.guard = none) (hop : o.op = .store t x v) (hN : o.dst = none) (hx : a.eval x = .pointer (some ⟨g, 0, none⟩)) (hv : a.eval v = .agg cs)
    (hb : W.heap[g]? = some (.cells old t (0, 0))) (hi : (Tryd.prog.info? t).map (·.size) = some cs.size) (ho : old.size = cs.size) (h1 : cs.all (·.oneCell') = true)
    (h : ∀ w1, w1.heap[g]? = some (.cells cs t (0, 0)) → W.grownBy w1 (some g) → wpList Tryd.prog ops Q rest a w1) : wpList Tryd.prog ops Q (o :: rest) a W := by
  refine wpList_plain hg fun K hK => ?_
  have hrow := run_storeVar_row (P := Tryd.prog) W g t t old cs hb hi ho h1
  have hrun : (execOp a.eval o).run Tryd.prog W = .ok .skip (W.setRow g cs) := by
    simp [execOp, hop, hx, hv, Instr.storeAt, Instr.sureAddr, hrow, Result.andThen]
  unfold Oper.wp
  rw [hrun]
  show K (a.put o.dst undef) _
  rw [hN]
  exact hK _ _ (h _ (setRow_heap W g old cs t (0, 0) hb) ⟨rfl, rfl, rfl, by simp, fun i _ hi2 => setRow_other W g i cs (fun e => hi2 (by rw [e]))⟩)
theorem below_grown {n g : Nat} {w W W1 : World} (h : Below n w W) (hg : W.grownBy W1 (some g)) (hn : n ≤ g) (hs : n ≤ W.heap.size) : Below n w W1 :=
  ⟨hg.os.trans h.os, hg.tape.trans h.tape, hg.output.trans h.output, Nat.le_trans h.size hg.size, fun i hi => (hg.block i (Nat.lt_of_lt_of_le hi hs) (fun e => by injection e with e; omega)).trans (h.block i hi)⟩
/-- What comes of the rest of a block. -/
def goX (v c : Int) (k : List Int) (k2 : List S36) (e : S34) (rest : List S36) (g : Int → Option Int) (l : List S38) : Bool :=
  match goI v c k.length k2.length g l with
  | some g' => cond (endOf e v k k2) (goB v c k k2 g' rest) false
  | none => false
theorem goB_cons (v c : Int) (k : List Int) (k2 : List S36) (g : Int → Option Int) (b : S36) (r : List S36) : goB v c k k2 g (b :: r) = goX v c k k2 b.f1 r g b.f0 := rfl
theorem goX_nil (v c : Int) (k : List Int) (k2 : List S36) (e : S34) (r : List S36) (g : Int → Option Int) : goX v c k k2 e r g [] = cond (endOf e v k k2) (goB v c k k2 g r) false := rfl
theorem goX_bad {v c : Int} {k : List Int} {k2 : List S36} {e : S34} {rest : List S36} {g : Int → Option Int} {i : S38} {l : List S38} (h : insOf i v c k.length k2.length = false) : goX v c k k2 e rest g (i :: l) = false := by
  simp [goX, goI, h]
theorem goX_seen {v c : Int} {k : List Int} {k2 : List S36} {e : S34} {rest : List S36} {g : Int → Option Int} {i : S38} {l : List S38} (h : insOf i v c k.length k2.length = true) (h1 : 0 < i.f7) (h2 : 0 < (g i.f7).getD 0) : goX v c k k2 e rest g (i :: l) = false := by
  simp [goX, goI, h, h1, h2]
theorem goX_new {v c : Int} {k : List Int} {k2 : List S36} {e : S34} {rest : List S36} {g : Int → Option Int} {i : S38} {l : List S38} (h : insOf i v c k.length k2.length = true) (h1 : 0 < i.f7 → ¬ 0 < (g i.f7).getD 0) : goX v c k k2 e rest g (i :: l) = goX v c k k2 e rest (fun y => if y = i.f7 then some 1 else g y) l := by
  unfold goX
  simp only [goI, h, cond_true]
  by_cases h2 : 0 < i.f7
  · rw [decide_eq_true h2, decide_eq_false (h1 h2)]; rfl
  · rw [decide_eq_false h2]; rfl
theorem getD_drop_ {α : Type} (l : List α) (z : α) (i : Nat) (h : i < l.length) : l.drop i = l.getD i z :: l.drop (i + 1) := by
  rw [List.drop_eq_getElem_cons h]
  simp [h]
theorem ends_some (e0 e1 e2 e3 v : Int) (k : List Int) (k2 : List S36) : ir_ends.f e0 e1 e2 e3 v k k2 = some ((ir_ends.f e0 e1 e2 e3 v k k2).getD false) := by
  unfold ir_ends.f
  simp only [within_some, Option.bind_some]
  repeat' split
  all_goals rfl
theorem right_early {v : Int} {k : List Int} {k2 : List S36} {c : Int} (h : v < 0 ∨ 200 < v ∨ (k2.length : Int) < 1 ∨ 4000 < (k2.length : Int)) : rightB v k k2 c = false := by
  unfold rightB
  rcases h with h | h | h | h
  · simp [h]
  · simp [h]
  · have : k2.length < 1 := by omega
    simp [this]
  · have : 4000 < k2.length := by omega
    simp [this]
theorem right_late {v : Int} {k : List Int} {k2 : List S36} {c : Int} (h1 : ¬ v < 0) (h2 : ¬ 200 < v) (h3 : ¬ (k2.length : Int) < 1) (h4 : ¬ 4000 < (k2.length : Int)) : rightB v k k2 c = (!k.any badN && goB v c k k2 (fun _ => none) k2) := by
  unfold rightB
  have e3 : ¬ k2.length < 1 := by omega
  have e4 : ¬ 4000 < k2.length := by omega
  simp [h1, h2, e3, e4]
set_option maxRecDepth 100000 in
set_option maxHeartbeats 8000000 in
theorem ir_Right.calls (a0_0 : Int) (A0_1 : Option Addr) (c0_1 : Nat) (l0_1 : List Int) (A0_2 : Option Addr) (c0_2 : Nat) (l0_2 : List (S36)) (a1 : Int) (r : Bool) (w : World) (hr0_1 : Kd.C (Kd.int .i64) w A0_1 l0_1.length l0_1) (hc0_1 : l0_1.length ≤ c0_1) (hr0_2 : Kd.C k36 w A0_2 l0_2.length l0_2) (hc0_2 : l0_2.length ≤ c0_2) (hG : OpsLaid w) (h : ir_Right.f a0_0 l0_1 l0_2 a1 = some r) :
    Calls Tryd.prog 35 #[.agg #[.int .i64 a0_0, .slice A0_1 l0_1.length c0_1, .slice A0_2 l0_2.length c0_2], .int .i64 a1] w fun e w' => e = .returned (.bool r) ∧ Below w.heap.size w w' := by
  have hok : okIds l0_2 := by
    unfold ir_Right.f at h
    by_cases e : okIds l0_2
    · exact e
    · rw [if_neg e] at h; cases h
  unfold ir_Right.f at h
  rw [if_pos hok] at h
  injection h with h
  have hu25 := Tryd.underlying25
  have hu38 := Tryd.underlying38
  have hu34 := Tryd.underlying34
  have hu36 := Tryd.underlying36
  have HOK := Aside0.mk hok
  clear hok
  have HR0_1 := Aside0.mk hr0_1
  have HC0_1 := Aside0.mk hc0_1
  clear hr0_1 hc0_1
  have HR0_2 := Aside0.mk hr0_2
  have HC0_2 := Aside0.mk hc0_2
  clear hr0_2 hc0_2
  have HG := Aside0.mk hG
  clear hG
  have HB := Aside0.mk (Below.refl w.heap.size w)
  go_enter Tryd.func35, Tryd.ntmps35
  go_upto_region 1 with (first | ((with_reducible refine gate_dst (N := 2) rfl ?_); refine box_event ?hg (N := 2) ?hd (cs := #[.int .i64 a0_0, .slice A0_1 l0_1.length c0_1, .slice A0_2 l0_2.length c0_2]) (t := 25) ?hr ?_; (case hd => rfl); (case hg => rfl); (case hr => first | (go_simp; done) | (go_simp; rfl)); intro gt hg wb hbox hb; have n0_ := Aside0.mk (below_step (by repeat (first | (with_reducible first | exact HB.out | apply below_alloc | apply pw_below_drewN | apply below_drew1) | exact HB.out)) hb); have BKgt := Aside0.mk hbox; clear HB; have HB := n0_; clear n0_ hb hbox hg))
  obtain ⟨ht0, ht1, ht2⟩ := cells3 BKgt.out
  by_cases c1 : a0_0 < 0
  · have c1b : decide (a0_0 < 0) = true := decide_eq_true c1
    obtain rfl := (right_early (k := l0_1) (k2 := l0_2) (c := a1) (v := a0_0) (.inl c1)).symm.trans h
    clear c1 h
    go_wp2
    go_ret
    exact ⟨rfl, HB.out⟩
  have c1b : decide (a0_0 < 0) = false := decide_eq_false c1
  by_cases c2 : 200 < a0_0
  · have c2b : decide (200 < a0_0) = true := decide_eq_true c2
    obtain rfl := (right_early (k := l0_1) (k2 := l0_2) (c := a1) (v := a0_0) (.inr (.inl c2))).symm.trans h
    clear c2 h
    go_wp2
    go_ret
    exact ⟨rfl, HB.out⟩
  have c2b : decide (200 < a0_0) = false := decide_eq_false c2
  by_cases c3 : (l0_2.length : Int) < 1
  · have c3b : decide ((l0_2.length : Int) < 1) = true := decide_eq_true c3
    obtain rfl := (right_early (k := l0_1) (k2 := l0_2) (c := a1) (v := a0_0) (.inr (.inr (.inl c3)))).symm.trans h
    clear c3 h
    go_wp2
    go_ret
    exact ⟨rfl, HB.out⟩
  have c3b : decide ((l0_2.length : Int) < 1) = false := decide_eq_false c3
  by_cases c4 : 4000 < (l0_2.length : Int)
  · have c4b : decide (4000 < (l0_2.length : Int)) = true := decide_eq_true c4
    obtain rfl := (right_early (k := l0_1) (k2 := l0_2) (c := a1) (v := a0_0) (.inr (.inr (.inr c4)))).symm.trans h
    clear c4 h
    go_wp2
    go_ret
    exact ⟨rfl, HB.out⟩
  have c4b : decide (4000 < (l0_2.length : Int)) = false := decide_eq_false c4
  rw [right_late c1 c2 c3 c4] at h
  have H4 := Aside0.mk (show l0_2.length ≤ 4000 by omega)
  clear c1 c2 c3 c4
  have eg : ∀ args w, (callFunc 59 args).run Tryd.prog w = .ok (.enter 59 args) w := enters_of Tryd.func59 (by kernel_rfl) rfl
  have HX := Aside0.mk fun (W : World) (hC : Kd.C (Kd.int .i64) W A0_1 l0_1.length l0_1) => ixr_int.contains badN 59 #[] eg A0_1 c0_1 l0_1 W hC (fun x W' _ => badN.below x W')
  clear eg
  by_cases cx : l0_1.any badN = true
  · rw [cx] at h HX
    have h2 : false = r := by simpa using h
    subst h2
    clear h cx
    go_wp2_with (first | (go_at_call 58; refine (HX.out _ (Kd.C_below HR0_1.out HB.out)).mono ?_; rintro e w' ⟨rfl, hb⟩; have n0_ := Aside0.mk (below_step HB.out hb); have n1_ := Aside0.mk (blk_below BKgt.out hb); clear HB BKgt hb; revert n0_ n1_; intro HB BKgt))
    go_ret
    exact ⟨rfl, HB.out⟩
  replace cx := Bool.eq_false_iff.mpr cx
  rw [cx] at h HX
  have h2 : goB a0_0 a1 l0_1 l0_2 (fun _ => none) l0_2 = r := by simpa using h
  clear h cx
  have HH := Aside0.mk h2
  clear h2
  go_upto_region 5 with (first | (go_at_call 58; refine (HX.out _ (Kd.C_below HR0_1.out HB.out)).mono ?_; rintro e w' ⟨rfl, hb⟩; have n0_ := Aside0.mk (below_step HB.out hb); have n1_ := Aside0.mk (blk_below BKgt.out hb); clear HB BKgt hb; revert n0_ n1_; intro HB BKgt))
  clear HX ht0 ht1 ht2 c1b c2b c3b c4b
  go_upto_region 6 with (first | ((with_reducible refine gate_dst (N := 33) rfl ?_); refine make_map rfl (m := 81) rfl ?_; intro bm hbm wm hmm hb; have n0_ := Aside0.mk (below_step (by repeat (first | (with_reducible first | exact HB.out | apply below_alloc | apply pw_below_drewN | apply below_drew1) | exact HB.out)) hb); have n1_ := Aside0.mk (blk_below BKgt.out hb); have HM := Aside0.mk hmm; have HW := Aside0.mk (show w.heap.size ≤ bm by rw [hbm]; exact below_size (by repeat (first | (with_reducible first | exact HB.out | apply below_alloc | apply pw_below_drewN | apply below_drew1) | exact HB.out))); have NE0 := Aside0.mk (show bm ≠ gt by rw [hbm]; exact Nat.ne_of_gt (blk_lt BKgt.out)); clear HB BKgt hb hmm hbm; revert n0_ n1_; intro HB BKgt))
  obtain ⟨ht0, ht1, ht2⟩ := cells3 BKgt.out
  go_wp2
  clear ht0 ht1 ht2
  go_loopg [37] l0_2.length (fun gg v37 wr => ∃ (k n : Nat) (g : Int → Option Int), k ≤ l0_2.length ∧ l0_2.length - k ≤ gg ∧ v37 = .int .i64 (k : Int) ∧ Aside0 (goB a0_0 a1 l0_1 l0_2 g (l0_2.drop k) = r) ∧ Aside0 (n ≤ k * 4294967296) ∧ Aside0 (Eval.MapIs Tryd.prog 3 wr bm n g) ∧ Aside0 (wr.heap[gt]? = some (.cells #[.int .i64 a0_0, .slice A0_1 l0_1.length c0_1, .slice A0_2 l0_2.length c0_2] 25 (0, 0))) ∧ Aside0 (Below w.heap.size w wr))
  case atStart => exact ⟨0, 0, _, Nat.zero_le _, by omega, rfl, ⟨by simpa using HH.out⟩, ⟨Nat.zero_le _⟩, HM, BKgt, HB⟩
  case round =>
    clear HH HM BKgt HB
    obtain ⟨k, n, g, hk, hgg, rfl, HH, HN, HM, BKgt, HB⟩ := hrel
    by_cases hlt : k < l0_2.length
    · have hltz : (k : Int) < (l0_2.length : Int) := by omega
      obtain ⟨ad, A, c, rfl, hx0, hx1, hx2, hx3, hx4, hl, hi⟩ := at_T36 HR0_2.out (k : Int) (by omega) hltz
      rw [show rd_T36 l0_2 (k : Int) = l0_2.getD k z36 by simp [rd_T36]] at hx0 hx1 hx2 hx3 hx4 hl hi
      have hmem : l0_2.getD k z36 ∈ l0_2 := by simp [hlt]
      have hids := HOK.out.2 _ hmem
      have hdrop := getD_drop_ l0_2 z36 k hlt
      have HH2 := HH.out
      rw [hdrop, goB_cons] at HH2
      clear HH hdrop hmem
      generalize l0_2.getD k z36 = bk at hx0 hx1 hx2 hx3 hx4 hl hi hids HH2
      have HH := Aside0.mk HH2
      have HI := Aside0.mk hi
      have HL := Aside0.mk hl
      have HID := Aside0.mk hids
      clear HH2 hi hl hids
      rw [Int.toNat_natCast] at hx0 hx1 hx2 hx3 hx4
      replace hx0 := (HB.out.cell (World.block_lt_of_cell? w _ hx0)).trans hx0
      replace hx1 := (HB.out.cell (World.block_lt_of_cell? w _ hx1)).trans hx1
      replace hx2 := (HB.out.cell (World.block_lt_of_cell? w _ hx2)).trans hx2
      replace hx3 := (HB.out.cell (World.block_lt_of_cell? w _ hx3)).trans hx3
      replace hx4 := (HB.out.cell (World.block_lt_of_cell? w _ hx4)).trans hx4
      go_upto_region 9 with (first | ((with_reducible refine gate_dst (N := 7) rfl ?_); refine alloc_ev rfl (t := 36) (zs := #[.slice none 0 0, .int .i64 0, .int .i64 0, .int .i64 0, .int .i64 0]) rfl (by kernel_rfl) ?_; intro gb hgb wb hnew hb; have n0_ := Aside0.mk (below_step (by repeat (first | (with_reducible first | exact HB.out | apply below_alloc | apply pw_below_drewN | apply below_drew1) | exact HB.out)) hb); have n1_ := Aside0.mk (blk_below BKgt.out hb); have n2_ := Aside0.mk (HM.out.kept (Eval.grown_of_below hb) (by simp)); have BKgb := Aside0.mk hnew; have GB := Aside0.mk (show w.heap.size ≤ gb by rw [hgb]; exact below_size (by repeat (first | (with_reducible first | exact HB.out | apply below_alloc | apply pw_below_drewN | apply below_drew1) | exact HB.out))); have NE1 := Aside0.mk (show gb ≠ gt by rw [hgb]; exact Nat.ne_of_gt (blk_lt BKgt.out)); have NE2 := Aside0.mk (show bm ≠ gb by rw [hgb]; exact Nat.ne_of_lt HM.out.lt); clear HB BKgt HM hb hnew hgb; revert n0_ n1_ n2_; intro HB BKgt HM) | ((with_reducible refine gate_store (t := 36) (p := 7) rfl ?_); refine store_ev rfl (t := 36) rfl rfl rfl rfl BKgb.out (by kernel_rfl) rfl (by first | (simp; done) | (simp [Value.oneCell']; done) | (simp; rfl)) ?_; intro wb hnew hgr; have n0_ := Aside0.mk (below_grown HB.out hgr GB.out HB.out.size); have n1_ := Aside0.mk (blk_grown BKgt.out hgr (fun e => by injection e with e; exact NE1.out e.symm)); have n2_ := Aside0.mk (HM.out.kept hgr (fun e => by injection e with e; exact NE2.out e)); have n3_ := Aside0.mk hnew; clear HB BKgt HM BKgb hnew hgr; revert n0_ n1_ n2_ n3_; intro HB BKgt HM BKgb))
      clear hx0 hx1 hx2 hx3 hx4
      obtain ⟨hb0, hb1, hb2, hb3, hb4⟩ := cells5 BKgb.out
      go_wp2
      clear hb0 hb1 hb2 hb3 hb4
      go_loopg [44] bk.f0.length (fun gg v44 wr => ∃ (j n' : Nat) (g' : Int → Option Int), j ≤ bk.f0.length ∧ bk.f0.length - j ≤ gg ∧ v44 = .int .i64 (j : Int) ∧ Aside0 (goX a0_0 a1 l0_1 l0_2 bk.f1 (l0_2.drop (k + 1)) g' (bk.f0.drop j) = r) ∧ Aside0 (n' ≤ k * 4294967296 + j) ∧ Aside0 (Eval.MapIs Tryd.prog 3 wr bm n' g') ∧ Aside0 (wr.heap[gt]? = some (.cells #[.int .i64 a0_0, .slice A0_1 l0_1.length c0_1, .slice (some ad) l0_2.length c0_2] 25 (0, 0))) ∧ Aside0 (wr.heap[gb]? = some (.cells #[.slice A bk.f0.length c, .int .i64 bk.f1.f0, .int .i64 bk.f1.f1, .int .i64 bk.f1.f2, .int .i64 bk.f1.f3] 36 (0, 0))) ∧ Aside0 (Below w.heap.size w wr))
      case atStart => exact ⟨0, n, g, Nat.zero_le _, by omega, rfl, ⟨by simpa using HH.out⟩, ⟨Nat.le_trans HN.out (Nat.le_add_right _ _)⟩, HM, BKgt, BKgb, HB⟩
      case round =>
        clear HH HN HM BKgt BKgb HB
        obtain ⟨j, n', g', hj, hgj, rfl, HH, HN, HM, BKgt, BKgb, HB⟩ := hrel
        by_cases hlj : j < bk.f0.length
        · have hljz : (j : Int) < (bk.f0.length : Int) := by omega
          obtain ⟨ad2, rfl, hy0, hy1, hy2, hy3, hy4, hy5, hy6, hy7⟩ := at_T38 HI.out (j : Int) (by omega) hljz
          rw [show rd_T38 bk.f0 (j : Int) = bk.f0.getD j z38 by simp [rd_T38]] at hy0 hy1 hy2 hy3 hy4 hy5 hy6 hy7
          have hmem : bk.f0.getD j z38 ∈ bk.f0 := by simp [hlj]
          have hwf := HID.out.2 _ hmem
          have hdrop := getD_drop_ bk.f0 z38 j hlj
          have HH2 := HH.out
          rw [hdrop] at HH2
          clear HH hdrop hmem
          generalize bk.f0.getD j z38 = i at hy0 hy1 hy2 hy3 hy4 hy5 hy6 hy7 hwf HH2
          rw [Int.toNat_natCast] at hy0 hy1 hy2 hy3 hy4 hy5 hy6 hy7
          replace hy0 := (HB.out.cell (World.block_lt_of_cell? w _ hy0)).trans hy0
          replace hy1 := (HB.out.cell (World.block_lt_of_cell? w _ hy1)).trans hy1
          replace hy2 := (HB.out.cell (World.block_lt_of_cell? w _ hy2)).trans hy2
          replace hy3 := (HB.out.cell (World.block_lt_of_cell? w _ hy3)).trans hy3
          replace hy4 := (HB.out.cell (World.block_lt_of_cell? w _ hy4)).trans hy4
          replace hy5 := (HB.out.cell (World.block_lt_of_cell? w _ hy5)).trans hy5
          replace hy6 := (HB.out.cell (World.block_lt_of_cell? w _ hy6)).trans hy6
          replace hy7 := (HB.out.cell (World.block_lt_of_cell? w _ hy7)).trans hy7
          have hroom : n' < maxLen := by have h1 := HN.out; have h2 := H4.out; have h3 := HID.out.1; have : k * 4294967296 ≤ 4000 * 4294967296 := Nat.mul_le_mul_right _ (by omega); unfold maxLen; omega
          go_upto_region 12 with (first | ((with_reducible refine gate_dst (N := 9) rfl ?_); refine alloc_ev rfl (t := 38) (zs := #[.int .i64 0, .int .i64 0, .int .i64 0, .int .i64 0, .int .i64 0, .int .i64 0, .int .i64 0, .int .i64 0]) rfl (by kernel_rfl) ?_; intro gi hgi wb hnew hb; have BKgi := Aside0.mk hnew; have GI := Aside0.mk (show w.heap.size ≤ gi by rw [hgi]; exact below_size (by repeat (first | (with_reducible first | exact HB.out | apply below_alloc | apply pw_below_drewN | apply below_drew1) | exact HB.out))); have NE3 := Aside0.mk (show gi ≠ gt by rw [hgi]; exact Nat.ne_of_gt (blk_lt BKgt.out)); have NE4 := Aside0.mk (show gi ≠ gb by rw [hgi]; exact Nat.ne_of_gt (blk_lt BKgb.out)); have NE5 := Aside0.mk (show bm ≠ gi by rw [hgi]; exact Nat.ne_of_lt HM.out.lt); have n0_ := Aside0.mk (below_step (by repeat (first | (with_reducible first | exact HB.out | apply below_alloc | apply pw_below_drewN | apply below_drew1) | exact HB.out)) hb); have n1_ := Aside0.mk (blk_below BKgt.out hb); have n2_ := Aside0.mk (blk_below BKgb.out hb); have n9_ := Aside0.mk (HM.out.kept (Eval.grown_of_below hb) (by simp)); clear HB HM BKgt BKgb hb; have HB := n0_; have HM := n9_; have BKgt := n1_; have BKgb := n2_; clear n0_ n9_ n1_ n2_; clear hnew hgi) | ((with_reducible refine gate_store (t := 38) (p := 9) rfl ?_); refine store_ev rfl (t := 38) rfl rfl rfl rfl BKgi.out (by kernel_rfl) rfl (by first | (simp; done) | (simp [Value.oneCell']; done) | (simp; rfl)) ?_; intro wb hnew hgr; have n9_ := Aside0.mk (HM.out.kept hgr (fun e => by injection e with e; exact NE5.out e)); have n8_ := Aside0.mk hnew; have n0_ := Aside0.mk (below_grown HB.out hgr GI.out HB.out.size); have n1_ := Aside0.mk (blk_grown BKgt.out hgr (fun e => by injection e with e; exact NE3.out e.symm)); have n2_ := Aside0.mk (blk_grown BKgb.out hgr (fun e => by injection e with e; exact NE4.out e.symm)); clear HB BKgt BKgb; have HB := n0_; have BKgt := n1_; have BKgb := n2_; clear n0_ n1_ n2_ hgr; clear HM BKgi hnew; have HM := n9_; have BKgi := n8_; clear n9_ n8_))
          clear hy0 hy1 hy2 hy3 hy4 hy5 hy6 hy7
          obtain ⟨ht0, ht1, ht2⟩ := cells3 BKgt.out
          obtain ⟨hi0, hi1, hi2, hi3, hi4, hi5, hi6, hi7⟩ := cells8 BKgi.out
          cases hri : insB i.f0 i.f1 i.f2 i.f3 i.f4 i.f5 i.f6 i.f7 a0_0 a1 l0_1.length l0_2.length with
          | false =>
            obtain rfl := (goX_bad hri).symm.trans HH2
            clear HH2
            go_upto_if 64 with (first | (go_at_call 60; refine (ir_right.calls _ _ _ _ _ _ _ _ _ _ _ l0_1 _ _ l0_2 _ _ _ (Kd.C_below HR0_1.out HB.out) HC0_1.out (Kd.C_below HR0_2.out HB.out) HC0_2.out (HG.out.below (Nat.le_refl _) HB.out) rfl).mono ?_; rintro e wb ⟨rfl, hb⟩; have n0_ := Aside0.mk (below_step (by repeat (first | (with_reducible first | exact HB.out | apply below_alloc | apply pw_below_drewN | apply below_drew1) | exact HB.out)) hb); have n1_ := Aside0.mk (blk_below BKgt.out hb); have n2_ := Aside0.mk (blk_below BKgb.out hb); have n3_ := Aside0.mk (blk_below BKgi.out hb); have n9_ := Aside0.mk (HM.out.kept (Eval.grown_of_below hb) (by simp)); clear HB HM BKgt BKgb BKgi hb; have HB := n0_; have HM := n9_; have BKgt := n1_; have BKgb := n2_; have BKgi := n3_; clear n0_ n9_ n1_ n2_ n3_; clear hi0 hi1 hi2 hi3 hi4 hi5 hi6 hi7; obtain ⟨hi0, hi1, hi2, hi3, hi4, hi5, hi6, hi7⟩ := cells8 BKgi.out))
            clear HG HR0_1 HR0_2 HC0_1 HC0_2 HOK H4 HI HL HID HN BKgt BKgb BKgi HM HW NE0 NE1 NE2 NE3 NE4 NE5 GB GI ht0 ht1 ht2 hi0 hi1 hi2 hi3 hi4 hi5 hi6 hi7
            go_wp2
            go_ret
            exact ⟨rfl, HB.out⟩
          | true =>
            by_cases c7 : 0 < i.f7
            · have c7b : decide (0 < i.f7) = true := decide_eq_true c7
              by_cases c8 : 0 < (g' i.f7).getD 0
              · have c8b : decide (0 < (g' i.f7).getD 0) = true := decide_eq_true c8
                obtain rfl := (goX_seen hri c7 c8).symm.trans HH2
                clear HH2 c7 c8
                go_upto_if 64 with (first | (go_at_call 60; refine (ir_right.calls _ _ _ _ _ _ _ _ _ _ _ l0_1 _ _ l0_2 _ _ _ (Kd.C_below HR0_1.out HB.out) HC0_1.out (Kd.C_below HR0_2.out HB.out) HC0_2.out (HG.out.below (Nat.le_refl _) HB.out) rfl).mono ?_; rintro e wb ⟨rfl, hb⟩; have n0_ := Aside0.mk (below_step (by repeat (first | (with_reducible first | exact HB.out | apply below_alloc | apply pw_below_drewN | apply below_drew1) | exact HB.out)) hb); have n1_ := Aside0.mk (blk_below BKgt.out hb); have n2_ := Aside0.mk (blk_below BKgb.out hb); have n3_ := Aside0.mk (blk_below BKgi.out hb); have n9_ := Aside0.mk (HM.out.kept (Eval.grown_of_below hb) (by simp)); clear HB HM BKgt BKgb BKgi hb; have HB := n0_; have HM := n9_; have BKgt := n1_; have BKgb := n2_; have BKgi := n3_; clear n0_ n9_ n1_ n2_ n3_; clear hi0 hi1 hi2 hi3 hi4 hi5 hi6 hi7; obtain ⟨hi0, hi1, hi2, hi3, hi4, hi5, hi6, hi7⟩ := cells8 BKgi.out) | (at_lookup; (try (refine gate_guard (by rfl) ?_; dsimp only)); refine Eval.wp_look1 _ Tryd.underlying3 Tryd.underlying81 (fun W => by kernel_rfl) rfl _ _ rfl rfl rfl hwf HM.out ?_))
                clear HG HR0_1 HR0_2 HC0_1 HC0_2 HOK H4 HI HL HID HN BKgt BKgb BKgi HM HW NE0 NE1 NE2 NE3 NE4 NE5 GB GI ht0 ht1 ht2 hi0 hi1 hi2 hi3 hi4 hi5 hi6 hi7
                go_wp2
                go_ret
                exact ⟨rfl, HB.out⟩
              · have c8b : decide (0 < (g' i.f7).getD 0) = false := decide_eq_false c8
                rw [goX_new hri (fun _ => c8)] at HH2
                have HH := Aside0.mk HH2
                clear HH2 c7 c8
                go_upto_if 64 with (first | (go_at_call 60; refine (ir_right.calls _ _ _ _ _ _ _ _ _ _ _ l0_1 _ _ l0_2 _ _ _ (Kd.C_below HR0_1.out HB.out) HC0_1.out (Kd.C_below HR0_2.out HB.out) HC0_2.out (HG.out.below (Nat.le_refl _) HB.out) rfl).mono ?_; rintro e wb ⟨rfl, hb⟩; have n0_ := Aside0.mk (below_step (by repeat (first | (with_reducible first | exact HB.out | apply below_alloc | apply pw_below_drewN | apply below_drew1) | exact HB.out)) hb); have n1_ := Aside0.mk (blk_below BKgt.out hb); have n2_ := Aside0.mk (blk_below BKgb.out hb); have n3_ := Aside0.mk (blk_below BKgi.out hb); have n9_ := Aside0.mk (HM.out.kept (Eval.grown_of_below hb) (by simp)); clear HB HM BKgt BKgb BKgi hb; have HB := n0_; have HM := n9_; have BKgt := n1_; have BKgb := n2_; have BKgi := n3_; clear n0_ n9_ n1_ n2_ n3_; clear hi0 hi1 hi2 hi3 hi4 hi5 hi6 hi7; obtain ⟨hi0, hi1, hi2, hi3, hi4, hi5, hi6, hi7⟩ := cells8 BKgi.out) | (at_lookup; (try (refine gate_guard (by rfl) ?_; dsimp only)); refine Eval.wp_look1 _ Tryd.underlying3 Tryd.underlying81 (fun W => by kernel_rfl) rfl _ _ rfl rfl rfl hwf HM.out ?_))
                obtain ⟨hi0, hi1, hi2, hi3, hi4, hi5, hi6, hi7⟩ := cells8 BKgi.out
                go_wp2_with (first | (at_mapUpdate; refine Eval.wp_put _ Tryd.underlying3 Tryd.underlying81 rfl _ _ _ rfl rfl rfl rfl hwf (by decide) hroom HM.out ?_; intro wb hm hgr; have n9_ := Aside0.mk hm; have n0_ := Aside0.mk (below_grown HB.out hgr HW.out HB.out.size); have n1_ := Aside0.mk (blk_grown BKgt.out hgr (fun e => by injection e with e; exact NE0.out e.symm)); have n2_ := Aside0.mk (blk_grown BKgb.out hgr (fun e => by injection e with e; exact NE2.out e.symm)); have n3_ := Aside0.mk (blk_grown BKgi.out hgr (fun e => by injection e with e; exact NE5.out e.symm)); clear HB BKgt BKgb BKgi; have HB := n0_; have BKgt := n1_; have BKgb := n2_; have BKgi := n3_; clear n0_ n1_ n2_ n3_ hgr; clear HM hm; revert n9_; intro HM))
                go_roundg (bk.f0.length - (j + 1))
                case measure => omega
                case rel => exact ⟨j + 1, n' + 1, _, by omega, by omega, by rw [show wrap64 ((j : Int) + 1) = ((j + 1 : Nat) : Int) by unfold wrap64; have := HID.out.1; omega], HH, ⟨Nat.succ_le_succ HN.out⟩, HM, BKgt, BKgb, HB⟩
            · have c7b : decide (0 < i.f7) = false := decide_eq_false c7
              rw [goX_new hri (fun h0 => absurd h0 c7)] at HH2
              have HH := Aside0.mk HH2
              clear HH2 c7
              go_upto_if 64 with (first | (go_at_call 60; refine (ir_right.calls _ _ _ _ _ _ _ _ _ _ _ l0_1 _ _ l0_2 _ _ _ (Kd.C_below HR0_1.out HB.out) HC0_1.out (Kd.C_below HR0_2.out HB.out) HC0_2.out (HG.out.below (Nat.le_refl _) HB.out) rfl).mono ?_; rintro e wb ⟨rfl, hb⟩; have n0_ := Aside0.mk (below_step (by repeat (first | (with_reducible first | exact HB.out | apply below_alloc | apply pw_below_drewN | apply below_drew1) | exact HB.out)) hb); have n1_ := Aside0.mk (blk_below BKgt.out hb); have n2_ := Aside0.mk (blk_below BKgb.out hb); have n3_ := Aside0.mk (blk_below BKgi.out hb); have n9_ := Aside0.mk (HM.out.kept (Eval.grown_of_below hb) (by simp)); clear HB HM BKgt BKgb BKgi hb; have HB := n0_; have HM := n9_; have BKgt := n1_; have BKgb := n2_; have BKgi := n3_; clear n0_ n9_ n1_ n2_ n3_; clear hi0 hi1 hi2 hi3 hi4 hi5 hi6 hi7; obtain ⟨hi0, hi1, hi2, hi3, hi4, hi5, hi6, hi7⟩ := cells8 BKgi.out))
              obtain ⟨hi0, hi1, hi2, hi3, hi4, hi5, hi6, hi7⟩ := cells8 BKgi.out
              go_wp2_with (first | (at_mapUpdate; refine Eval.wp_put _ Tryd.underlying3 Tryd.underlying81 rfl _ _ _ rfl rfl rfl rfl hwf (by decide) hroom HM.out ?_; intro wb hm hgr; have n9_ := Aside0.mk hm; have n0_ := Aside0.mk (below_grown HB.out hgr HW.out HB.out.size); have n1_ := Aside0.mk (blk_grown BKgt.out hgr (fun e => by injection e with e; exact NE0.out e.symm)); have n2_ := Aside0.mk (blk_grown BKgb.out hgr (fun e => by injection e with e; exact NE2.out e.symm)); have n3_ := Aside0.mk (blk_grown BKgi.out hgr (fun e => by injection e with e; exact NE5.out e.symm)); clear HB BKgt BKgb BKgi; have HB := n0_; have BKgt := n1_; have BKgb := n2_; have BKgi := n3_; clear n0_ n1_ n2_ n3_ hgr; clear HM hm; revert n9_; intro HM))
              go_roundg (bk.f0.length - (j + 1))
              case measure => omega
              case rel => exact ⟨j + 1, n' + 1, _, by omega, by omega, by rw [show wrap64 ((j : Int) + 1) = ((j + 1 : Nat) : Int) by unfold wrap64; have := HID.out.1; omega], HH, ⟨Nat.succ_le_succ HN.out⟩, HM, BKgt, BKgb, HB⟩
        · have hj2 : j = bk.f0.length := by omega
          have HH2 := HH.out
          rw [hj2, List.drop_length, goX_nil] at HH2
          have hljz : ¬ (j : Int) < (bk.f0.length : Int) := by omega
          obtain ⟨ht0, ht1, ht2⟩ := cells3 BKgt.out
          obtain ⟨hb0, hb1, hb2, hb3, hb4⟩ := cells5 BKgb.out
          clear HH hlj
          cases hen : endOf bk.f1 a0_0 l0_1 l0_2 with
          | false =>
            rw [hen] at HH2
            obtain rfl : false = r := HH2
            have hen2 : (ir_ends.f bk.f1.f0 bk.f1.f1 bk.f1.f2 bk.f1.f3 a0_0 l0_1 l0_2).getD false = false := hen
            clear hen
            go_upto_if 73 with (first | (go_at_call 61; refine (ir_ends.calls _ _ _ _ _ _ _ l0_1 _ _ l0_2 _ _ (Kd.C_below HR0_1.out HB.out) HC0_1.out (Kd.C_below HR0_2.out HB.out) HC0_2.out (ends_some _ _ _ _ _ _ _)).mono ?_; rintro e wb ⟨rfl, hb⟩; have n0_ := Aside0.mk (below_step (by repeat (first | (with_reducible first | exact HB.out | apply below_alloc | apply pw_below_drewN | apply below_drew1) | exact HB.out)) hb); have n1_ := Aside0.mk (blk_below BKgt.out hb); have n2_ := Aside0.mk (blk_below BKgb.out hb); have n9_ := Aside0.mk (HM.out.kept (Eval.grown_of_below hb) (by simp)); clear HB HM BKgt BKgb hb; have HB := n0_; have HM := n9_; have BKgt := n1_; have BKgb := n2_; clear n0_ n9_ n1_ n2_))
            go_wp2
            go_ret
            exact ⟨rfl, HB.out⟩
          | true =>
            rw [hen] at HH2
            have HH : Aside0 (goB a0_0 a1 l0_1 l0_2 g' (l0_2.drop (k + 1)) = r) := ⟨HH2⟩
            have hen2 : (ir_ends.f bk.f1.f0 bk.f1.f1 bk.f1.f2 bk.f1.f3 a0_0 l0_1 l0_2).getD false = true := hen
            clear HH2 hen
            go_upto_if 73 with (first | (go_at_call 61; refine (ir_ends.calls _ _ _ _ _ _ _ l0_1 _ _ l0_2 _ _ (Kd.C_below HR0_1.out HB.out) HC0_1.out (Kd.C_below HR0_2.out HB.out) HC0_2.out (ends_some _ _ _ _ _ _ _)).mono ?_; rintro e wb ⟨rfl, hb⟩; have n0_ := Aside0.mk (below_step (by repeat (first | (with_reducible first | exact HB.out | apply below_alloc | apply pw_below_drewN | apply below_drew1) | exact HB.out)) hb); have n1_ := Aside0.mk (blk_below BKgt.out hb); have n2_ := Aside0.mk (blk_below BKgb.out hb); have n9_ := Aside0.mk (HM.out.kept (Eval.grown_of_below hb) (by simp)); clear HB HM BKgt BKgb hb; have HB := n0_; have HM := n9_; have BKgt := n1_; have BKgb := n2_; clear n0_ n9_ n1_ n2_))
            go_wp2
            go_roundg (l0_2.length - (k + 1))
            case measure => omega
            case rel =>
              refine ⟨k + 1, n', g', by omega, by omega, by rw [show wrap64 ((k : Int) + 1) = ((k + 1 : Nat) : Int) by unfold wrap64; have := H4.out; omega], HH, ⟨?_⟩, HM, BKgt, HB⟩
              have h1 := HN.out
              have h2 := HID.out.1
              rw [Nat.succ_mul]
              omega
    · have hk2 : k = l0_2.length := by omega
      have HH2 := HH.out
      rw [hk2, List.drop_length] at HH2
      have hltz : ¬ (k : Int) < (l0_2.length : Int) := by omega
      obtain rfl : true = r := HH2
      clear HH
      go_wp2
      go_ret
      exact ⟨rfl, HB.out⟩


/-! ### flow_right: function 39 -/
def flow_right.f (a0_0 : Int) (l0_1 : List Int) (l0_2 : List (S36)) : Option (Bool) := (ir_Right.f a0_0 l0_1 l0_2 200).bind fun t114 => (some t114)
set_option maxHeartbeats 8000000 in
set_option maxRecDepth 100000 in
theorem flow_right.calls (a0_0 : Int) (A0_1 : Option Addr) (c0_1 : Nat) (l0_1 : List Int) (A0_2 : Option Addr) (c0_2 : Nat) (l0_2 : List (S36)) (r : Bool) (w : World) (hr0_1 : Kd.C (Kd.int .i64) w A0_1 l0_1.length l0_1) (hc0_1 : l0_1.length ≤ c0_1) (hr0_2 : Kd.C k36 w A0_2 l0_2.length l0_2) (hc0_2 : l0_2.length ≤ c0_2) (hG : OpsLaid w) (h : flow_right.f a0_0 l0_1 l0_2 = some r) :
    Calls Tryd.prog 39 #[.agg #[.int .i64 a0_0, .slice A0_1 l0_1.length c0_1, .slice A0_2 l0_2.length c0_2]] w fun e w' => e = .returned (.bool r) ∧ Below w.heap.size w w' := by
  have hu25 := Tryd.underlying25
  have HG := Aside0.mk hG
  clear hG
  have HR0_1 := Aside0.mk hr0_1
  have HC0_1 := Aside0.mk hc0_1
  clear hr0_1 hc0_1
  have HR0_2 := Aside0.mk hr0_2
  have HC0_2 := Aside0.mk hc0_2
  clear hr0_2 hc0_2
  have HB := Aside0.mk (Below.refl w.heap.size w)
  have H : ((ir_Right.f a0_0 l0_1 l0_2 200).bind fun t114 => (some t114)) = some r := h
  clear h
  replace H := Option.bind_eq_some_iff.mp H
  obtain ⟨t114, A20, H⟩ := H
  replace H : (some t114) = some r := H
  have A2 := Aside0.mk A20
  clear A20
  obtain rfl := Option.some.inj H
  go_enter Tryd.func39, Tryd.ntmps39
  go_wp2_with (first | ((with_reducible refine gate_dst (N := 1) rfl ?_); refine box_event ?hg (N := 1) ?hd (cs := #[.int .i64 a0_0, .slice A0_1 l0_1.length c0_1, .slice A0_2 l0_2.length c0_2]) (t := 25) ?hr ?_; (case hd => rfl); (case hg => rfl); (case hr => first | (go_simp; done) | (go_simp; rfl)); intro gb113 hg w3 hbox hb; have n0_ := Aside0.mk (below_step (by repeat (first | (with_reducible first | exact HB.out | apply below_alloc | apply pw_below_drewN | apply below_drew1) | exact HB.out)) hb); have n1_ := Aside0.mk (hbox); have n2_ := Aside0.mk ((by rw [hg]; exact (below_size (by repeat (first | (with_reducible first | exact HB.out | apply below_alloc | apply pw_below_drewN | apply below_drew1) | exact HB.out))) : w.heap.size ≤ gb113)); have n3_ := Aside0.mk ((by rw [hg]; exact (below_size (by repeat (first | (with_reducible first | exact HB.out | apply below_alloc | apply pw_below_drewN | apply below_drew1) | exact HB.out))) : w.heap.size ≤ gb113)); clear HB; have HB := n0_; have BK113 := n1_; have GW113 := n2_; have GE113 := n3_; clear n0_ n1_ n2_ n3_; clear hb hbox hg; have hcz4_0 : w3.cell? ⟨gb113, 0, none⟩ = some (.int .i64 a0_0) := (blk_cell BK113.out 0).trans rfl; have hcz4_1 : w3.cell? ⟨gb113, 1, none⟩ = some (.slice A0_1 l0_1.length c0_1) := (blk_cell BK113.out 1).trans rfl; have hcz4_2 : w3.cell? ⟨gb113, 2, none⟩ = some (.slice A0_2 l0_2.length c0_2) := (blk_cell BK113.out 2).trans rfl; have hfz4_0 := blk_frozen BK113.out 0; have hfz4_1 := blk_frozen BK113.out 1; have hfz4_2 := blk_frozen BK113.out 2) | ((with_reducible refine gate_callee (f := 35) rfl ?_); refine goesL_ (some 4) rfl rfl Tryd.func35 (by kernel_rfl) rfl #[.agg #[.int .i64 a0_0, .slice A0_1 l0_1.length c0_1, .slice A0_2 l0_2.length c0_2], .int .i64 200] rfl (by (try simp only [List.map_toArray, List.map_cons, List.map_nil]); first | done | rfl | (simp only [List.length_drop, List.length_take]; rfl)) ?_; (with_reducible refine (ir_Right.calls a0_0 _ _ l0_1 _ _ l0_2 200 t114 _ ?side1 ?side2 ?side3 ?side4 ?side5 A2.out).mono ?_); (case side1 => repeat (first | exact (Kd.C_below HR0_1.out HB.out) | (with_reducible refine Kd.C_alloc ?_ _) | (with_reducible refine Kd.C_drewN ?_ _) | (with_reducible refine Kd.C_drew ?_))); (case side2 => exact HC0_1.out); (case side3 => repeat (first | exact (Kd.C_below HR0_2.out HB.out) | (with_reducible refine Kd.C_alloc ?_ _) | (with_reducible refine Kd.C_drewN ?_ _) | (with_reducible refine Kd.C_drew ?_))); (case side4 => exact HC0_2.out); (case side5 => first | exact HG.out | ((repeat (first | exact (OpsLaid.below HG.out (Nat.le_refl _) HB.out) | exact HG.out | (with_reducible refine OpsLaid.alloc ?_ _) | (with_reducible refine OpsLaid.drewN ?_ _) | (with_reducible refine OpsLaid.drew ?_))); done) | exact OpsLaid.below HG.out (Nat.le_refl _) (by repeat (first | (with_reducible first | exact HB.out | apply below_alloc | apply pw_below_drewN | apply below_drew1 | refine below_set ?_ GE113.out) | exact HB.out))); rintro e w5 ⟨rfl, hb⟩; refine ⟨_, rfl, ?_⟩; have n0_ := Aside0.mk (blk_below (g := gb113) (o := .cells #[.int .i64 a0_0, .slice A0_1 l0_1.length c0_1, .slice A0_2 l0_2.length c0_2] 25 (0, 0)) (by (with_reducible repeat (first | refine blk_drewN ?_ _ | refine blk_drew ?_ | refine blk_alloc ?_ _)); exact BK113.out) hb); have n1_ := Aside0.mk (below_step (by repeat (first | (with_reducible first | exact HB.out | apply below_alloc | apply pw_below_drewN | apply below_drew1 | refine below_set ?_ GE113.out) | exact HB.out)) hb); clear BK113; clear HB; have BK113 := n0_; have HB := n1_; clear n0_ n1_; (try clear hb); (try clear hb2); (try clear hk); (try clear hi)))
  go_ret
  exact ⟨by first | rfl | (simp [errW_none, errW_some] <;> rfl) | (simp [*, errW_none, errW_some] <;> rfl), by repeat (first | (with_reducible first | exact HB.out | apply below_alloc | apply pw_below_drewN | apply below_drew1 | refine below_set ?_ GE113.out) | exact HB.out)⟩

/-! ### ir_Next: function 65 -/
def ir_Next.f (a0_0 : Int) (a0_1 : Int) (a0_2 : Int) (a0_3 : Int) : Option (List Int) := if a0_0 = 1 then (some (([a0_2] : List Int))) else (if a0_0 = 2 then (some (([a0_2, a0_3] : List Int))) else (some ([] : List Int)))
set_option maxHeartbeats 8000000 in
set_option maxRecDepth 100000 in
theorem ir_Next.calls (a0_0 : Int) (a0_1 : Int) (a0_2 : Int) (a0_3 : Int) (r : List Int) (w : World) (h : ir_Next.f a0_0 a0_1 a0_2 a0_3 = some r) :
    Calls Tryd.prog 65 #[.agg #[.int .i64 a0_0, .int .i64 a0_1, .int .i64 a0_2, .int .i64 a0_3]] w fun e w' => ∃ v0_ : Value, e = .returned (v0_) ∧ Kd.R (Kd.int .i64) 3 w' w.heap.size (fun _ => True) v0_ r ∧ Below w.heap.size w w' := by
  have hu34 := Tryd.underlying34
  have HB := Aside0.mk (Below.refl w.heap.size w)
  have H : (if a0_0 = 1 then (some (([a0_2] : List Int))) else (if a0_0 = 2 then (some (([a0_2, a0_3] : List Int))) else (some ([] : List Int)))) = some r := h
  clear h
  by_cases c2 : a0_0 = 1
  · rw [if_pos c2] at H
    have c2b0 : (a0_0 == 1) = true := beq_iff_eq.mpr c2
    have c2b1 : (a0_0 != 1) = false := bne_eq_false_iff_eq.mpr c2
    clear c2
    obtain ⟨y116, hy116⟩ : ∃ y_ : List Int, y_ = (([a0_2] : List Int)) := ⟨_, rfl⟩
    replace H : (some y116) = some r := by first | (rw [hy116]; with_reducible exact H) | (have H2_ := (Option.bind_some _ _).symm.trans H; rw [hy116]; with_reducible exact H2_) | (have H2_ := (Option.bind_some _ _).symm.trans H; with_reducible exact H2_) | with_reducible exact H | (rw [hy116]; exact H) | exact H
    have Ny116 := Aside0.mk hy116
    clear hy116
    obtain rfl := Option.some.inj H
    go_enter Tryd.func65, Tryd.ntmps65
    go_wp2_with (first | ((with_reducible refine gate_dst (N := 1) rfl ?_); refine box_event ?hg (N := 1) ?hd (cs := #[.int .i64 a0_0, .int .i64 a0_1, .int .i64 a0_2, .int .i64 a0_3]) (t := 34) ?hr ?_; (case hd => rfl); (case hg => rfl); (case hr => first | (go_simp; done) | (go_simp; rfl)); intro gb115 hg w3 hbox hb; have n0_ := Aside0.mk (below_step (by repeat (first | (with_reducible first | exact HB.out | apply below_alloc | apply pw_below_drewN | apply below_drew1) | exact HB.out)) hb); have n1_ := Aside0.mk (hbox); have n2_ := Aside0.mk ((by rw [hg]; exact (below_size (by repeat (first | (with_reducible first | exact HB.out | apply below_alloc | apply pw_below_drewN | apply below_drew1) | exact HB.out))) : w.heap.size ≤ gb115)); have n3_ := Aside0.mk ((by rw [hg]; exact (below_size (by repeat (first | (with_reducible first | exact HB.out | apply below_alloc | apply pw_below_drewN | apply below_drew1) | exact HB.out))) : w.heap.size ≤ gb115)); clear HB; have HB := n0_; have BK115 := n1_; have GW115 := n2_; have GE115 := n3_; clear n0_ n1_ n2_ n3_; clear hb hbox hg; have hcz4_0 : w3.cell? ⟨gb115, 0, none⟩ = some (.int .i64 a0_0) := (blk_cell BK115.out 0).trans rfl; have hcz4_1 : w3.cell? ⟨gb115, 1, none⟩ = some (.int .i64 a0_1) := (blk_cell BK115.out 1).trans rfl; have hcz4_2 : w3.cell? ⟨gb115, 2, none⟩ = some (.int .i64 a0_2) := (blk_cell BK115.out 2).trans rfl; have hcz4_3 : w3.cell? ⟨gb115, 3, none⟩ = some (.int .i64 a0_3) := (blk_cell BK115.out 3).trans rfl; have hfz4_0 := blk_frozen BK115.out 0; have hfz4_1 := blk_frozen BK115.out 1; have hfz4_2 := blk_frozen BK115.out 2; have hfz4_3 := blk_frozen BK115.out 3) | ((with_reducible refine gate_dst (N := 9) rfl ?_); refine Kd.R_lit (Kd.int .i64) _ 3 ?hg (N := 9) ?hd (xs := ([a0_2] : List Int)) (inner := [.int .i64 a0_2]) (ok := fun _ => True) (okp := fun _ => True) ?hr ?hp (fun _ hk => hk) trivial (Below.refl _ _) (Nat.le_refl _) (by simp) ?_; (case hd => rfl); (case hg => rfl); (case hr => first | (go_simp; done) | (go_simp; rfl)); (case hp => exact (Reps.one (show Kd.M (Kd.int .i64) _ _ _ a0_2 [.int .i64 a0_2] from rfl) (Reps.none _ _))); intro v117 w5 ho6 hb hg_ hnew_; clear hg_ hnew_; (first | rw [← Ny116.out] at ho6 | (simp only [Int.reduceToNat] at ho6; rw [← Ny116.out] at ho6)); have n0_ := Aside0.mk (Kd.R_lower ho6 (below_size (by repeat (first | (with_reducible first | exact HB.out | apply below_alloc | apply pw_below_drewN | apply below_drew1 | refine below_set ?_ GE115.out) | exact HB.out)))); have n1_ := Aside0.mk (blk_below (g := gb115) (o := .cells #[.int .i64 a0_0, .int .i64 a0_1, .int .i64 a0_2, .int .i64 a0_3] 34 (0, 0)) (by (with_reducible repeat (first | refine blk_drewN ?_ _ | refine blk_drew ?_ | refine blk_alloc ?_ _)); exact BK115.out) hb); have n2_ := Aside0.mk (below_step (by repeat (first | (with_reducible first | exact HB.out | apply below_alloc | apply pw_below_drewN | apply below_drew1 | refine below_set ?_ GE115.out) | exact HB.out)) hb); clear BK115; clear HB; have HO118 := n0_; have BK115 := n1_; have HB := n2_; clear n0_ n1_ n2_; clear hb ho6))
    go_ret
    exact ⟨_, by first | rfl | (simp [errW_none, errW_some] <;> rfl) | (simp [*, errW_none, errW_some] <;> rfl), by (with_reducible repeat (first | apply Kd.R_alloc | apply Kd.R_drewN | apply Kd.R_drew)); exact HO118.out, by repeat (first | (with_reducible first | exact HB.out | apply below_alloc | apply pw_below_drewN | apply below_drew1 | refine below_set ?_ GE115.out) | exact HB.out)⟩
  · rw [if_neg c2] at H
    have c2b0 : (a0_0 == 1) = false := beq_eq_false_iff_ne.mpr c2
    have c2b1 : (a0_0 != 1) = true := bne_iff_ne.mpr c2
    by_cases c7 : a0_0 = 2
    · rw [if_pos c7] at H
      have c7b0 : (a0_0 == 2) = true := beq_iff_eq.mpr c7
      have c7b1 : (a0_0 != 2) = false := bne_eq_false_iff_eq.mpr c7
      clear c7
      obtain ⟨y119, hy119⟩ : ∃ y_ : List Int, y_ = (([a0_2, a0_3] : List Int)) := ⟨_, rfl⟩
      replace H : (some y119) = some r := by first | (rw [hy119]; with_reducible exact H) | (have H2_ := (Option.bind_some _ _).symm.trans H; rw [hy119]; with_reducible exact H2_) | (have H2_ := (Option.bind_some _ _).symm.trans H; with_reducible exact H2_) | with_reducible exact H | (rw [hy119]; exact H) | exact H
      have Ny119 := Aside0.mk hy119
      clear hy119
      obtain rfl := Option.some.inj H
      go_enter Tryd.func65, Tryd.ntmps65
      go_wp2_with (first | ((with_reducible refine gate_dst (N := 1) rfl ?_); refine box_event ?hg (N := 1) ?hd (cs := #[.int .i64 a0_0, .int .i64 a0_1, .int .i64 a0_2, .int .i64 a0_3]) (t := 34) ?hr ?_; (case hd => rfl); (case hg => rfl); (case hr => first | (go_simp; done) | (go_simp; rfl)); intro gb115 hg w8 hbox hb; have n0_ := Aside0.mk (below_step (by repeat (first | (with_reducible first | exact HB.out | apply below_alloc | apply pw_below_drewN | apply below_drew1) | exact HB.out)) hb); have n1_ := Aside0.mk (hbox); have n2_ := Aside0.mk ((by rw [hg]; exact (below_size (by repeat (first | (with_reducible first | exact HB.out | apply below_alloc | apply pw_below_drewN | apply below_drew1) | exact HB.out))) : w.heap.size ≤ gb115)); have n3_ := Aside0.mk ((by rw [hg]; exact (below_size (by repeat (first | (with_reducible first | exact HB.out | apply below_alloc | apply pw_below_drewN | apply below_drew1) | exact HB.out))) : w.heap.size ≤ gb115)); clear HB; have HB := n0_; have BK115 := n1_; have GW115 := n2_; have GE115 := n3_; clear n0_ n1_ n2_ n3_; clear hb hbox hg; have hcz9_0 : w8.cell? ⟨gb115, 0, none⟩ = some (.int .i64 a0_0) := (blk_cell BK115.out 0).trans rfl; have hcz9_1 : w8.cell? ⟨gb115, 1, none⟩ = some (.int .i64 a0_1) := (blk_cell BK115.out 1).trans rfl; have hcz9_2 : w8.cell? ⟨gb115, 2, none⟩ = some (.int .i64 a0_2) := (blk_cell BK115.out 2).trans rfl; have hcz9_3 : w8.cell? ⟨gb115, 3, none⟩ = some (.int .i64 a0_3) := (blk_cell BK115.out 3).trans rfl; have hfz9_0 := blk_frozen BK115.out 0; have hfz9_1 := blk_frozen BK115.out 1; have hfz9_2 := blk_frozen BK115.out 2; have hfz9_3 := blk_frozen BK115.out 3) | ((with_reducible refine gate_dst (N := 16) rfl ?_); refine Kd.R_lit (Kd.int .i64) _ 3 ?hg (N := 16) ?hd (xs := ([a0_2, a0_3] : List Int)) (inner := [.int .i64 a0_2, .int .i64 a0_3]) (ok := fun _ => True) (okp := fun _ => True) ?hr ?hp (fun _ hk => hk) trivial (Below.refl _ _) (Nat.le_refl _) (by simp) ?_; (case hd => rfl); (case hg => rfl); (case hr => first | (go_simp; done) | (go_simp; rfl)); (case hp => exact (Reps.one (show Kd.M (Kd.int .i64) _ _ _ a0_2 [.int .i64 a0_2] from rfl) (Reps.one (show Kd.M (Kd.int .i64) _ _ _ a0_3 [.int .i64 a0_3] from rfl) (Reps.none _ _)))); intro v120 w10 ho11 hb hg_ hnew_; clear hg_ hnew_; (first | rw [← Ny119.out] at ho11 | (simp only [Int.reduceToNat] at ho11; rw [← Ny119.out] at ho11)); have n0_ := Aside0.mk (Kd.R_lower ho11 (below_size (by repeat (first | (with_reducible first | exact HB.out | apply below_alloc | apply pw_below_drewN | apply below_drew1 | refine below_set ?_ GE115.out) | exact HB.out)))); have n1_ := Aside0.mk (blk_below (g := gb115) (o := .cells #[.int .i64 a0_0, .int .i64 a0_1, .int .i64 a0_2, .int .i64 a0_3] 34 (0, 0)) (by (with_reducible repeat (first | refine blk_drewN ?_ _ | refine blk_drew ?_ | refine blk_alloc ?_ _)); exact BK115.out) hb); have n2_ := Aside0.mk (below_step (by repeat (first | (with_reducible first | exact HB.out | apply below_alloc | apply pw_below_drewN | apply below_drew1 | refine below_set ?_ GE115.out) | exact HB.out)) hb); clear BK115; clear HB; have HO121 := n0_; have BK115 := n1_; have HB := n2_; clear n0_ n1_ n2_; clear hb ho11))
      go_ret
      exact ⟨_, by first | rfl | (simp [errW_none, errW_some] <;> rfl) | (simp [*, errW_none, errW_some] <;> rfl), by (with_reducible repeat (first | apply Kd.R_alloc | apply Kd.R_drewN | apply Kd.R_drew)); exact HO121.out, by repeat (first | (with_reducible first | exact HB.out | apply below_alloc | apply pw_below_drewN | apply below_drew1 | refine below_set ?_ GE115.out) | exact HB.out)⟩
    · rw [if_neg c7] at H
      have c7b0 : (a0_0 == 2) = false := beq_eq_false_iff_ne.mpr c7
      have c7b1 : (a0_0 != 2) = true := bne_iff_ne.mpr c7
      obtain rfl := Option.some.inj H
      go_enter Tryd.func65, Tryd.ntmps65
      go_wp2_with (first | ((with_reducible refine gate_dst (N := 1) rfl ?_); refine box_event ?hg (N := 1) ?hd (cs := #[.int .i64 a0_0, .int .i64 a0_1, .int .i64 a0_2, .int .i64 a0_3]) (t := 34) ?hr ?_; (case hd => rfl); (case hg => rfl); (case hr => first | (go_simp; done) | (go_simp; rfl)); intro gb115 hg w12 hbox hb; have n0_ := Aside0.mk (below_step (by repeat (first | (with_reducible first | exact HB.out | apply below_alloc | apply pw_below_drewN | apply below_drew1) | exact HB.out)) hb); have n1_ := Aside0.mk (hbox); have n2_ := Aside0.mk ((by rw [hg]; exact (below_size (by repeat (first | (with_reducible first | exact HB.out | apply below_alloc | apply pw_below_drewN | apply below_drew1) | exact HB.out))) : w.heap.size ≤ gb115)); have n3_ := Aside0.mk ((by rw [hg]; exact (below_size (by repeat (first | (with_reducible first | exact HB.out | apply below_alloc | apply pw_below_drewN | apply below_drew1) | exact HB.out))) : w.heap.size ≤ gb115)); clear HB; have HB := n0_; have BK115 := n1_; have GW115 := n2_; have GE115 := n3_; clear n0_ n1_ n2_ n3_; clear hb hbox hg; have hcz13_0 : w12.cell? ⟨gb115, 0, none⟩ = some (.int .i64 a0_0) := (blk_cell BK115.out 0).trans rfl; have hcz13_1 : w12.cell? ⟨gb115, 1, none⟩ = some (.int .i64 a0_1) := (blk_cell BK115.out 1).trans rfl; have hcz13_2 : w12.cell? ⟨gb115, 2, none⟩ = some (.int .i64 a0_2) := (blk_cell BK115.out 2).trans rfl; have hcz13_3 : w12.cell? ⟨gb115, 3, none⟩ = some (.int .i64 a0_3) := (blk_cell BK115.out 3).trans rfl; have hfz13_0 := blk_frozen BK115.out 0; have hfz13_1 := blk_frozen BK115.out 1; have hfz13_2 := blk_frozen BK115.out 2; have hfz13_3 := blk_frozen BK115.out 3))
      go_ret
      exact ⟨_, by first | rfl | (simp [errW_none, errW_some] <;> rfl) | (simp [*, errW_none, errW_some] <;> rfl), by first | exact Kd.R_nil _ _ _ _ _ | exact Kd.N_nil _ _ _ _ _ | exact Kd.V_nil _ _ _ _ _ | exact Kd.Q_nil _ _ _ _ _ | exact Kd.S_nil _ _ _ _ _, by repeat (first | (with_reducible first | exact HB.out | apply below_alloc | apply pw_below_drewN | apply below_drew1 | refine below_set ?_ GE115.out) | exact HB.out)⟩

/-! ### flow_next: function 43 -/
def flow_next.f (a0_0 : Int) (l0_1 : List Int) (l0_2 : List (S36)) (a1 : Int) : Option (List Int) := if 0 ≤ a1 then (if a1 < (l0_2.length : Int) then ((ir_Next.f ((rd_T36 l0_2 a1).f1.f0) ((rd_T36 l0_2 a1).f1.f1) ((rd_T36 l0_2 a1).f1.f2) ((rd_T36 l0_2 a1).f1.f3)).bind fun t124 => (some t124)) else (none)) else (none)
set_option maxHeartbeats 8000000 in
set_option maxRecDepth 100000 in
theorem flow_next.calls (a0_0 : Int) (A0_1 : Option Addr) (c0_1 : Nat) (l0_1 : List Int) (A0_2 : Option Addr) (c0_2 : Nat) (l0_2 : List (S36)) (a1 : Int) (r : List Int) (w : World) (hr0_1 : Kd.C (Kd.int .i64) w A0_1 l0_1.length l0_1) (hc0_1 : l0_1.length ≤ c0_1) (hr0_2 : Kd.C k36 w A0_2 l0_2.length l0_2) (hc0_2 : l0_2.length ≤ c0_2) (h : flow_next.f a0_0 l0_1 l0_2 a1 = some r) :
    Calls Tryd.prog 43 #[.agg #[.int .i64 a0_0, .slice A0_1 l0_1.length c0_1, .slice A0_2 l0_2.length c0_2], .int .i64 a1] w fun e w' => ∃ v0_ : Value, e = .returned (v0_) ∧ Kd.R (Kd.int .i64) 3 w' w.heap.size (fun _ => True) v0_ r ∧ Below w.heap.size w w' := by
  have hu25 := Tryd.underlying25
  have hu34 := Tryd.underlying34
  have HR0_1 := Aside0.mk hr0_1
  have HC0_1 := Aside0.mk hc0_1
  clear hr0_1 hc0_1
  have HR0_2 := Aside0.mk hr0_2
  have HC0_2 := Aside0.mk hc0_2
  clear hr0_2 hc0_2
  have HB := Aside0.mk (Below.refl w.heap.size w)
  have H : (if 0 ≤ a1 then (if a1 < (l0_2.length : Int) then ((ir_Next.f ((rd_T36 l0_2 a1).f1.f0) ((rd_T36 l0_2 a1).f1.f1) ((rd_T36 l0_2 a1).f1.f2) ((rd_T36 l0_2 a1).f1.f3)).bind fun t124 => (some t124)) else (none)) else (none)) = some r := h
  clear h
  by_cases c3 : 0 ≤ a1
  · rw [if_pos c3] at H
    have c3b0 : decide (0 ≤ a1) = true := decide_eq_true c3
    clear c3
    by_cases c4 : a1 < (l0_2.length : Int)
    · rw [if_pos c4] at H
      have c4b0 : decide (a1 < (l0_2.length : Int)) = true := decide_eq_true c4
      clear c4
      replace H := Option.bind_eq_some_iff.mp H
      obtain ⟨t124, A50, H⟩ := H
      replace H : (some t124) = some r := H
      have A5 := Aside0.mk A50
      clear A50
      obtain rfl := Option.some.inj H
      go_enter Tryd.func43, Tryd.ntmps43
      go_wp2_with (first | ((with_reducible refine gate_dst (N := 2) rfl ?_); refine box_event ?hg (N := 2) ?hd (cs := #[.int .i64 a0_0, .slice A0_1 l0_1.length c0_1, .slice A0_2 l0_2.length c0_2]) (t := 25) ?hr ?_; (case hd => rfl); (case hg => rfl); (case hr => first | (go_simp; done) | (go_simp; rfl)); intro gb122 hg w6 hbox hb; have n0_ := Aside0.mk (below_step (by repeat (first | (with_reducible first | exact HB.out | apply below_alloc | apply pw_below_drewN | apply below_drew1) | exact HB.out)) hb); have n1_ := Aside0.mk (hbox); have n2_ := Aside0.mk ((by rw [hg]; exact (below_size (by repeat (first | (with_reducible first | exact HB.out | apply below_alloc | apply pw_below_drewN | apply below_drew1) | exact HB.out))) : w.heap.size ≤ gb122)); have n3_ := Aside0.mk ((by rw [hg]; exact (below_size (by repeat (first | (with_reducible first | exact HB.out | apply below_alloc | apply pw_below_drewN | apply below_drew1) | exact HB.out))) : w.heap.size ≤ gb122)); clear HB; have HB := n0_; have BK122 := n1_; have GW122 := n2_; have GE122 := n3_; clear n0_ n1_ n2_ n3_; clear hb hbox hg; have hcz7_0 : w6.cell? ⟨gb122, 0, none⟩ = some (.int .i64 a0_0) := (blk_cell BK122.out 0).trans rfl; have hcz7_1 : w6.cell? ⟨gb122, 1, none⟩ = some (.slice A0_1 l0_1.length c0_1) := (blk_cell BK122.out 1).trans rfl; have hcz7_2 : w6.cell? ⟨gb122, 2, none⟩ = some (.slice A0_2 l0_2.length c0_2) := (blk_cell BK122.out 2).trans rfl; have hfz7_0 := blk_frozen BK122.out 0; have hfz7_1 := blk_frozen BK122.out 1; have hfz7_2 := blk_frozen BK122.out 2; have p123 : 0 ≤ (a1 : Int) := of_decide_eq_true (by first | (with_reducible assumption) | assumption); have q123 : a1 < (l0_2.length : Int) := of_decide_eq_true (by first | (with_reducible assumption) | assumption); obtain ⟨ad123, A123_0, c123_0, e123, hx123_0, hx123_1, hx123_2, hx123_3, hx123_4, hl123_0, hi123_0⟩ := at_T36 HR0_2.out a1 p123 q123; cases e123; replace hx123_0 := (HB.out.cell (World.block_lt_of_cell? w _ hx123_0)).trans hx123_0; replace hx123_1 := (HB.out.cell (World.block_lt_of_cell? w _ hx123_1)).trans hx123_1; replace hx123_2 := (HB.out.cell (World.block_lt_of_cell? w _ hx123_2)).trans hx123_2; replace hx123_3 := (HB.out.cell (World.block_lt_of_cell? w _ hx123_3)).trans hx123_3; replace hx123_4 := (HB.out.cell (World.block_lt_of_cell? w _ hx123_4)).trans hx123_4; have HR123_0 := Aside0.mk hi123_0; have HC123_0 := Aside0.mk hl123_0; clear hi123_0 hl123_0; replace p123 := eq_true p123; replace q123 := eq_true q123) | ((with_reducible refine gate_callee (f := 65) rfl ?_); refine goesL_ (some 11) rfl rfl Tryd.func65 (by kernel_rfl) rfl #[.agg #[.int .i64 ((rd_T36 l0_2 a1).f1.f0), .int .i64 ((rd_T36 l0_2 a1).f1.f1), .int .i64 ((rd_T36 l0_2 a1).f1.f2), .int .i64 ((rd_T36 l0_2 a1).f1.f3)]] rfl (by (try simp only [List.map_toArray, List.map_cons, List.map_nil]); first | done | rfl | (simp only [List.length_drop, List.length_take]; rfl)) ?_; (with_reducible refine (ir_Next.calls ((rd_T36 l0_2 a1).f1.f0) ((rd_T36 l0_2 a1).f1.f1) ((rd_T36 l0_2 a1).f1.f2) ((rd_T36 l0_2 a1).f1.f3) t124 _ A5.out).mono ?_); rintro e w8 ⟨v125, rfl, ho0, hb⟩; refine ⟨_, rfl, ?_⟩; have n0_ := Aside0.mk (Kd.R_lower ho0 (below_size (by repeat (first | (with_reducible first | exact HB.out | apply below_alloc | apply pw_below_drewN | apply below_drew1 | refine below_set ?_ GE122.out) | exact HB.out)))); have n1_ := Aside0.mk (blk_below (g := gb122) (o := .cells #[.int .i64 a0_0, .slice A0_1 l0_1.length c0_1, .slice (some ad123) l0_2.length c0_2] 25 (0, 0)) (by (with_reducible repeat (first | refine blk_drewN ?_ _ | refine blk_drew ?_ | refine blk_alloc ?_ _)); exact BK122.out) hb); have n2_ := Aside0.mk (below_step (by repeat (first | (with_reducible first | exact HB.out | apply below_alloc | apply pw_below_drewN | apply below_drew1 | refine below_set ?_ GE122.out) | exact HB.out)) hb); clear BK122; clear HB; have HO126 := n0_; have BK122 := n1_; have HB := n2_; clear n0_ n1_ n2_; (try clear hb); (try clear hb2); (try clear hk); (try clear hi); (try clear ho0)))
      go_ret
      exact ⟨_, by first | rfl | (simp [errW_none, errW_some] <;> rfl) | (simp [*, errW_none, errW_some] <;> rfl), by (with_reducible repeat (first | apply Kd.R_alloc | apply Kd.R_drewN | apply Kd.R_drew)); exact HO126.out, by repeat (first | (with_reducible first | exact HB.out | apply below_alloc | apply pw_below_drewN | apply below_drew1 | refine below_set ?_ GE122.out) | exact HB.out)⟩
    · rw [if_neg c4] at H
      exact absurd H (by simp)
  · rw [if_neg c3] at H
    exact absurd H (by simp)

/-! ### spinnakerref26_Next: function 49 -/
def spinnakerref26_Next.f (a0_0 : Int) (a0_1 : Int) (a0_2 : Int) (a0_3 : Int) : Option (List Int) := if a0_0 = 1 then (some (([a0_2] : List Int))) else (if a0_0 = 2 then (some (([a0_2, a0_3] : List Int))) else (some ([] : List Int)))
set_option maxHeartbeats 8000000 in
set_option maxRecDepth 100000 in
theorem spinnakerref26_Next.calls (a0_0 : Int) (a0_1 : Int) (a0_2 : Int) (a0_3 : Int) (r : List Int) (w : World) (h : spinnakerref26_Next.f a0_0 a0_1 a0_2 a0_3 = some r) :
    Calls Tryd.prog 49 #[.agg #[.int .i64 a0_0, .int .i64 a0_1, .int .i64 a0_2, .int .i64 a0_3]] w fun e w' => ∃ v0_ : Value, e = .returned (v0_) ∧ Kd.R (Kd.int .i64) 3 w' w.heap.size (fun _ => True) v0_ r ∧ Below w.heap.size w w' := by
  have hu34 := Tryd.underlying34
  have HB := Aside0.mk (Below.refl w.heap.size w)
  have H : (if a0_0 = 1 then (some (([a0_2] : List Int))) else (if a0_0 = 2 then (some (([a0_2, a0_3] : List Int))) else (some ([] : List Int)))) = some r := h
  clear h
  by_cases c2 : a0_0 = 1
  · rw [if_pos c2] at H
    have c2b0 : (a0_0 == 1) = true := beq_iff_eq.mpr c2
    have c2b1 : (a0_0 != 1) = false := bne_eq_false_iff_eq.mpr c2
    clear c2
    obtain ⟨y128, hy128⟩ : ∃ y_ : List Int, y_ = (([a0_2] : List Int)) := ⟨_, rfl⟩
    replace H : (some y128) = some r := by first | (rw [hy128]; with_reducible exact H) | (have H2_ := (Option.bind_some _ _).symm.trans H; rw [hy128]; with_reducible exact H2_) | (have H2_ := (Option.bind_some _ _).symm.trans H; with_reducible exact H2_) | with_reducible exact H | (rw [hy128]; exact H) | exact H
    have Ny128 := Aside0.mk hy128
    clear hy128
    obtain rfl := Option.some.inj H
    go_enter Tryd.func49, Tryd.ntmps49
    go_wp2_with (first | ((with_reducible refine gate_dst (N := 1) rfl ?_); refine box_event ?hg (N := 1) ?hd (cs := #[.int .i64 a0_0, .int .i64 a0_1, .int .i64 a0_2, .int .i64 a0_3]) (t := 34) ?hr ?_; (case hd => rfl); (case hg => rfl); (case hr => first | (go_simp; done) | (go_simp; rfl)); intro gb127 hg w3 hbox hb; have n0_ := Aside0.mk (below_step (by repeat (first | (with_reducible first | exact HB.out | apply below_alloc | apply pw_below_drewN | apply below_drew1) | exact HB.out)) hb); have n1_ := Aside0.mk (hbox); have n2_ := Aside0.mk ((by rw [hg]; exact (below_size (by repeat (first | (with_reducible first | exact HB.out | apply below_alloc | apply pw_below_drewN | apply below_drew1) | exact HB.out))) : w.heap.size ≤ gb127)); have n3_ := Aside0.mk ((by rw [hg]; exact (below_size (by repeat (first | (with_reducible first | exact HB.out | apply below_alloc | apply pw_below_drewN | apply below_drew1) | exact HB.out))) : w.heap.size ≤ gb127)); clear HB; have HB := n0_; have BK127 := n1_; have GW127 := n2_; have GE127 := n3_; clear n0_ n1_ n2_ n3_; clear hb hbox hg; have hcz4_0 : w3.cell? ⟨gb127, 0, none⟩ = some (.int .i64 a0_0) := (blk_cell BK127.out 0).trans rfl; have hcz4_1 : w3.cell? ⟨gb127, 1, none⟩ = some (.int .i64 a0_1) := (blk_cell BK127.out 1).trans rfl; have hcz4_2 : w3.cell? ⟨gb127, 2, none⟩ = some (.int .i64 a0_2) := (blk_cell BK127.out 2).trans rfl; have hcz4_3 : w3.cell? ⟨gb127, 3, none⟩ = some (.int .i64 a0_3) := (blk_cell BK127.out 3).trans rfl; have hfz4_0 := blk_frozen BK127.out 0; have hfz4_1 := blk_frozen BK127.out 1; have hfz4_2 := blk_frozen BK127.out 2; have hfz4_3 := blk_frozen BK127.out 3) | ((with_reducible refine gate_dst (N := 8) rfl ?_); refine Kd.R_lit (Kd.int .i64) _ 3 ?hg (N := 8) ?hd (xs := ([a0_2] : List Int)) (inner := [.int .i64 a0_2]) (ok := fun _ => True) (okp := fun _ => True) ?hr ?hp (fun _ hk => hk) trivial (Below.refl _ _) (Nat.le_refl _) (by simp) ?_; (case hd => rfl); (case hg => rfl); (case hr => first | (go_simp; done) | (go_simp; rfl)); (case hp => exact (Reps.one (show Kd.M (Kd.int .i64) _ _ _ a0_2 [.int .i64 a0_2] from rfl) (Reps.none _ _))); intro v129 w5 ho6 hb hg_ hnew_; clear hg_ hnew_; (first | rw [← Ny128.out] at ho6 | (simp only [Int.reduceToNat] at ho6; rw [← Ny128.out] at ho6)); have n0_ := Aside0.mk (Kd.R_lower ho6 (below_size (by repeat (first | (with_reducible first | exact HB.out | apply below_alloc | apply pw_below_drewN | apply below_drew1 | refine below_set ?_ GE127.out) | exact HB.out)))); have n1_ := Aside0.mk (blk_below (g := gb127) (o := .cells #[.int .i64 a0_0, .int .i64 a0_1, .int .i64 a0_2, .int .i64 a0_3] 34 (0, 0)) (by (with_reducible repeat (first | refine blk_drewN ?_ _ | refine blk_drew ?_ | refine blk_alloc ?_ _)); exact BK127.out) hb); have n2_ := Aside0.mk (below_step (by repeat (first | (with_reducible first | exact HB.out | apply below_alloc | apply pw_below_drewN | apply below_drew1 | refine below_set ?_ GE127.out) | exact HB.out)) hb); clear BK127; clear HB; have HO130 := n0_; have BK127 := n1_; have HB := n2_; clear n0_ n1_ n2_; clear hb ho6))
    go_ret
    exact ⟨_, by first | rfl | (simp [errW_none, errW_some] <;> rfl) | (simp [*, errW_none, errW_some] <;> rfl), by (with_reducible repeat (first | apply Kd.R_alloc | apply Kd.R_drewN | apply Kd.R_drew)); exact HO130.out, by repeat (first | (with_reducible first | exact HB.out | apply below_alloc | apply pw_below_drewN | apply below_drew1 | refine below_set ?_ GE127.out) | exact HB.out)⟩
  · rw [if_neg c2] at H
    have c2b0 : (a0_0 == 1) = false := beq_eq_false_iff_ne.mpr c2
    have c2b1 : (a0_0 != 1) = true := bne_iff_ne.mpr c2
    by_cases c7 : a0_0 = 2
    · rw [if_pos c7] at H
      have c7b0 : (a0_0 == 2) = true := beq_iff_eq.mpr c7
      have c7b1 : (a0_0 != 2) = false := bne_eq_false_iff_eq.mpr c7
      clear c7
      obtain ⟨y131, hy131⟩ : ∃ y_ : List Int, y_ = (([a0_2, a0_3] : List Int)) := ⟨_, rfl⟩
      replace H : (some y131) = some r := by first | (rw [hy131]; with_reducible exact H) | (have H2_ := (Option.bind_some _ _).symm.trans H; rw [hy131]; with_reducible exact H2_) | (have H2_ := (Option.bind_some _ _).symm.trans H; with_reducible exact H2_) | with_reducible exact H | (rw [hy131]; exact H) | exact H
      have Ny131 := Aside0.mk hy131
      clear hy131
      obtain rfl := Option.some.inj H
      go_enter Tryd.func49, Tryd.ntmps49
      go_wp2_with (first | ((with_reducible refine gate_dst (N := 1) rfl ?_); refine box_event ?hg (N := 1) ?hd (cs := #[.int .i64 a0_0, .int .i64 a0_1, .int .i64 a0_2, .int .i64 a0_3]) (t := 34) ?hr ?_; (case hd => rfl); (case hg => rfl); (case hr => first | (go_simp; done) | (go_simp; rfl)); intro gb127 hg w8 hbox hb; have n0_ := Aside0.mk (below_step (by repeat (first | (with_reducible first | exact HB.out | apply below_alloc | apply pw_below_drewN | apply below_drew1) | exact HB.out)) hb); have n1_ := Aside0.mk (hbox); have n2_ := Aside0.mk ((by rw [hg]; exact (below_size (by repeat (first | (with_reducible first | exact HB.out | apply below_alloc | apply pw_below_drewN | apply below_drew1) | exact HB.out))) : w.heap.size ≤ gb127)); have n3_ := Aside0.mk ((by rw [hg]; exact (below_size (by repeat (first | (with_reducible first | exact HB.out | apply below_alloc | apply pw_below_drewN | apply below_drew1) | exact HB.out))) : w.heap.size ≤ gb127)); clear HB; have HB := n0_; have BK127 := n1_; have GW127 := n2_; have GE127 := n3_; clear n0_ n1_ n2_ n3_; clear hb hbox hg; have hcz9_0 : w8.cell? ⟨gb127, 0, none⟩ = some (.int .i64 a0_0) := (blk_cell BK127.out 0).trans rfl; have hcz9_1 : w8.cell? ⟨gb127, 1, none⟩ = some (.int .i64 a0_1) := (blk_cell BK127.out 1).trans rfl; have hcz9_2 : w8.cell? ⟨gb127, 2, none⟩ = some (.int .i64 a0_2) := (blk_cell BK127.out 2).trans rfl; have hcz9_3 : w8.cell? ⟨gb127, 3, none⟩ = some (.int .i64 a0_3) := (blk_cell BK127.out 3).trans rfl; have hfz9_0 := blk_frozen BK127.out 0; have hfz9_1 := blk_frozen BK127.out 1; have hfz9_2 := blk_frozen BK127.out 2; have hfz9_3 := blk_frozen BK127.out 3) | ((with_reducible refine gate_dst (N := 16) rfl ?_); refine Kd.R_lit (Kd.int .i64) _ 3 ?hg (N := 16) ?hd (xs := ([a0_2, a0_3] : List Int)) (inner := [.int .i64 a0_2, .int .i64 a0_3]) (ok := fun _ => True) (okp := fun _ => True) ?hr ?hp (fun _ hk => hk) trivial (Below.refl _ _) (Nat.le_refl _) (by simp) ?_; (case hd => rfl); (case hg => rfl); (case hr => first | (go_simp; done) | (go_simp; rfl)); (case hp => exact (Reps.one (show Kd.M (Kd.int .i64) _ _ _ a0_2 [.int .i64 a0_2] from rfl) (Reps.one (show Kd.M (Kd.int .i64) _ _ _ a0_3 [.int .i64 a0_3] from rfl) (Reps.none _ _)))); intro v132 w10 ho11 hb hg_ hnew_; clear hg_ hnew_; (first | rw [← Ny131.out] at ho11 | (simp only [Int.reduceToNat] at ho11; rw [← Ny131.out] at ho11)); have n0_ := Aside0.mk (Kd.R_lower ho11 (below_size (by repeat (first | (with_reducible first | exact HB.out | apply below_alloc | apply pw_below_drewN | apply below_drew1 | refine below_set ?_ GE127.out) | exact HB.out)))); have n1_ := Aside0.mk (blk_below (g := gb127) (o := .cells #[.int .i64 a0_0, .int .i64 a0_1, .int .i64 a0_2, .int .i64 a0_3] 34 (0, 0)) (by (with_reducible repeat (first | refine blk_drewN ?_ _ | refine blk_drew ?_ | refine blk_alloc ?_ _)); exact BK127.out) hb); have n2_ := Aside0.mk (below_step (by repeat (first | (with_reducible first | exact HB.out | apply below_alloc | apply pw_below_drewN | apply below_drew1 | refine below_set ?_ GE127.out) | exact HB.out)) hb); clear BK127; clear HB; have HO133 := n0_; have BK127 := n1_; have HB := n2_; clear n0_ n1_ n2_; clear hb ho11))
      go_ret
      exact ⟨_, by first | rfl | (simp [errW_none, errW_some] <;> rfl) | (simp [*, errW_none, errW_some] <;> rfl), by (with_reducible repeat (first | apply Kd.R_alloc | apply Kd.R_drewN | apply Kd.R_drew)); exact HO133.out, by repeat (first | (with_reducible first | exact HB.out | apply below_alloc | apply pw_below_drewN | apply below_drew1 | refine below_set ?_ GE127.out) | exact HB.out)⟩
    · rw [if_neg c7] at H
      have c7b0 : (a0_0 == 2) = false := beq_eq_false_iff_ne.mpr c7
      have c7b1 : (a0_0 != 2) = true := bne_iff_ne.mpr c7
      obtain rfl := Option.some.inj H
      go_enter Tryd.func49, Tryd.ntmps49
      go_wp2_with (first | ((with_reducible refine gate_dst (N := 1) rfl ?_); refine box_event ?hg (N := 1) ?hd (cs := #[.int .i64 a0_0, .int .i64 a0_1, .int .i64 a0_2, .int .i64 a0_3]) (t := 34) ?hr ?_; (case hd => rfl); (case hg => rfl); (case hr => first | (go_simp; done) | (go_simp; rfl)); intro gb127 hg w12 hbox hb; have n0_ := Aside0.mk (below_step (by repeat (first | (with_reducible first | exact HB.out | apply below_alloc | apply pw_below_drewN | apply below_drew1) | exact HB.out)) hb); have n1_ := Aside0.mk (hbox); have n2_ := Aside0.mk ((by rw [hg]; exact (below_size (by repeat (first | (with_reducible first | exact HB.out | apply below_alloc | apply pw_below_drewN | apply below_drew1) | exact HB.out))) : w.heap.size ≤ gb127)); have n3_ := Aside0.mk ((by rw [hg]; exact (below_size (by repeat (first | (with_reducible first | exact HB.out | apply below_alloc | apply pw_below_drewN | apply below_drew1) | exact HB.out))) : w.heap.size ≤ gb127)); clear HB; have HB := n0_; have BK127 := n1_; have GW127 := n2_; have GE127 := n3_; clear n0_ n1_ n2_ n3_; clear hb hbox hg; have hcz13_0 : w12.cell? ⟨gb127, 0, none⟩ = some (.int .i64 a0_0) := (blk_cell BK127.out 0).trans rfl; have hcz13_1 : w12.cell? ⟨gb127, 1, none⟩ = some (.int .i64 a0_1) := (blk_cell BK127.out 1).trans rfl; have hcz13_2 : w12.cell? ⟨gb127, 2, none⟩ = some (.int .i64 a0_2) := (blk_cell BK127.out 2).trans rfl; have hcz13_3 : w12.cell? ⟨gb127, 3, none⟩ = some (.int .i64 a0_3) := (blk_cell BK127.out 3).trans rfl; have hfz13_0 := blk_frozen BK127.out 0; have hfz13_1 := blk_frozen BK127.out 1; have hfz13_2 := blk_frozen BK127.out 2; have hfz13_3 := blk_frozen BK127.out 3))
      go_ret
      exact ⟨_, by first | rfl | (simp [errW_none, errW_some] <;> rfl) | (simp [*, errW_none, errW_some] <;> rfl), by first | exact Kd.R_nil _ _ _ _ _ | exact Kd.N_nil _ _ _ _ _ | exact Kd.V_nil _ _ _ _ _ | exact Kd.Q_nil _ _ _ _ _ | exact Kd.S_nil _ _ _ _ _, by repeat (first | (with_reducible first | exact HB.out | apply below_alloc | apply pw_below_drewN | apply below_drew1 | refine below_set ?_ GE127.out) | exact HB.out)⟩

end Go.Proofs.YtgenmfbidpmneaaDoor.PFlowLoops
