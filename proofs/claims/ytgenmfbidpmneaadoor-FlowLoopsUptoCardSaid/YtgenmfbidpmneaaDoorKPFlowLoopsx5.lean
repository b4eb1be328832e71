-- printed by a program of this session (wip/mp.py: the kit's printer, patched, over the session's own templates); checked by Lean alone
import Derived.Test.YtgenmfbidpmneaaDoorKPFlowLoopsx0
import Derived.Test.YtgenmfbidpmneaaDoorKPFlowLoopsx2
import Derived.Test.YtgenmfbidpmneaaDoorKPFlowLoopsx3
import Derived.Test.YtgenmfbidpmneaaDoorKPFlowLoopsx4
namespace Go.Proofs.YtgenmfbidpmneaaDoor.PFlowLoops
open Go.RowKit Go.Proofs.YtgenmfbidpmneaaDoorW.PrintWords Go.Proofs.YtgenmfbidpmneaaDoorW.PrintLast Go.Proofs.YtgenmfbidpmneaaDoorW.PrintMore
attribute [local go_sem] max2_int min2_int max_two min_two max_three min_three max_four min_four   -- for this text's walks alone
set_option linter.unusedVariables false
set_option linter.unusedSimpArgs false

/-! ### given: flow.lean -/
-- GIVEN spinnaker/flow.Reached rounds=1 making=1
-- GIVEN spinnaker/flow.ahead rounds=1 making=1
-- GIVEN spinnaker/spinnakerref33.Reached rounds=1 making=1
-- GIVEN spinnaker/spinnakerref33.Before rounds=0 making=1
-- NEEDS spinnaker/flow.next
-- NEEDS spinnaker/flow.right
-- NEEDS spinnaker/spinnakerref26.Next
-- NEEDS slices.Clone[[]int,int]
-- REG []int
-- REG []bool
-- REG [][]bool
-- REG spinnaker/api.Thread
-- REG []api.Block
-- INFO int
-- INFO []bool
-- IMPORT Derived.Test.YtgenmfbidpmneaaDoorEvalM
theorem info_b : (Tryd.prog.info? 4).map (fun i => (i.zero, i.size, i.bytes)) = some (some (.bool false), 1, 1) := by kernel_rfl
/-- Blocks gone through from some on, over what F tells, but not over one. -/
def walkL (F : Int → Option (List Int)) (but : Int) : Nat → List Bool → List Int → Option (List Bool)
  | 0, _, _ => none
  | k + 1, met, todo =>
    if todo.length = 0 then some met
    else if 0 ≤ todo.getD (todo.length - 1) 0 ∧ todo.getD (todo.length - 1) 0 < (met.length : Int) then
      if met.getD (todo.getD (todo.length - 1) 0).toNat false = true ∨ todo.getD (todo.length - 1) 0 = but then walkL F but k met (todo.take (todo.length - 1))
      else (F (todo.getD (todo.length - 1) 0)).bind fun r => if todo.length + r.length ≤ 4294967296 then walkL F but k (met.set (todo.getD (todo.length - 1) 0).toNat true) (todo.take (todo.length - 1) ++ r) else none
    else none
def walkF (F : Int → Option (List Int)) (k : Nat) (n : Int) (fr : List Int) (but : Int) : Option (List Bool) := if 0 ≤ n ∧ n ≤ 4294967296 ∧ fr.length ≤ 4294967296 then walkL F but k (List.replicate n.toNat false) fr else none
set_option maxRecDepth 100000 in
set_option maxHeartbeats 4000000 in
theorem flow_walk (F : Int → Option (List Int)) (g : Nat) (lb : Array Value) (eg : ∀ args w, (callFunc g args).run Tryd.prog w = .ok (.enter g args) w) (k : Nat) (n but : Int) (A : Option Addr) (c : Nat) (fr : List Int) (r : List Bool) (w : World) (hr : Kd.C (Kd.int .i64) w A fr.length fr) (hc : fr.length ≤ c)
    (hF : ∀ W b l, Below w.heap.size w W → F b = some l → Calls Tryd.prog g (#[.int .i64 b] ++ lb) W fun e W' => ∃ (Ae : Option Addr) (ce : Nat), e = .returned (.slice Ae l.length ce) ∧ Kd.C (Kd.int .i64) W' Ae l.length l ∧ Below W.heap.size W W')
    (h : walkF F k n fr but = some r) :
    Calls Tryd.prog 40 #[.int .i64 n, .slice A fr.length c, .func (.func g) #[] lb, .int .i64 but] w fun e w' => ∃ v0_ : Value, e = .returned v0_ ∧ Kd.R Kd.bool 4 w' w.heap.size (fun _ => True) v0_ r ∧ Below w.heap.size w w' := by
  have hcond : 0 ≤ n ∧ n ≤ 4294967296 ∧ fr.length ≤ 4294967296 := by
    unfold walkF at h
    split at h
    · assumption
    · cases h
  unfold walkF at h
  rw [if_pos hcond] at h
  obtain ⟨hn0, hn1, hfl⟩ := hcond
  have HB := Aside0.mk (Below.refl w.heap.size w)
  have HR := Aside0.mk hr
  have HC := Aside0.mk hc
  have HF := Aside0.mk hF
  have HS := Aside0.mk h
  clear hr hc hF h
  go_enter Tryd.func40, Tryd.ntmps40
  go_wp2_with (first | ((with_reducible refine gate_dst (N := 13) rfl ?_); refine Kd.R_make Kd.bool (w0 := w) w.heap.size 4 rfl (N := 13) rfl 40 _ _ rfl n rfl rfl Tryd.underlying40 (.bool false) 1 info_b rfl (by decide) (by omega) false (ok := fun _ => True) (okp := fun _ => True) rfl (fun _ hk => hk) trivial hn0 (by omega) (by repeat (first | (with_reducible first | exact HB.out | apply below_alloc | apply pw_below_drewN | apply below_drew1) | exact HB.out)) (below_size (by repeat (first | (with_reducible first | exact HB.out | apply below_alloc | apply pw_below_drewN | apply below_drew1) | exact HB.out))) ?_; intro vm wm hm hb hg_ hnew_; have HM := Aside0.mk hm; clear HB; have HB := Aside0.mk hb; clear hm hb hg_ hnew_) | (go_at_call 36; refine (slices_Clone_int_int.calls _ _ fr fr _ (Kd.C_below HR.out HB.out) HC.out (by unfold slices_Clone_int_int.f; rw [if_pos (by omega)])).mono ?_; rintro e w2 ⟨vt, rfl, ht, hb⟩; have HO := Aside0.mk (Kd.R_lower ht (below_size HB.out)); have n0_ := Aside0.mk (Kd.R_below HM.out hb); have n1_ := Aside0.mk (below_step HB.out hb); clear HM HB; revert n0_ n1_; intro HM HB; clear hb ht))
  obtain ⟨Am, cm, em⟩ := Kd.R_slice HM.out
  subst em
  obtain ⟨At, ct, et⟩ := Kd.R_slice HO.out
  subst et
  rw [List.length_replicate] at HM ⊢
  go_loopg [10] k (fun kq v10 wr => ∃ (met : List Bool) (todo : List Int), Aside0 (walkL F but kq met todo = some r) ∧ Aside0 (met.length = n.toNat) ∧ Aside0 (todo.length ≤ 4294967296) ∧ Aside0 (Kd.R Kd.bool 4 wr w.heap.size (fun _ => True) (.slice Am n.toNat cm) met) ∧ Aside0 (Kd.R (Kd.int .i64) 3 wr w.heap.size (fun _ => True) v10 todo) ∧ Aside0 (Below w.heap.size w wr))
  case atStart => exact ⟨_, fr, HS, ⟨List.length_replicate ..⟩, ⟨hfl⟩, HM, HO, HB⟩
  case round =>
    clear HS HM HO HB
    obtain ⟨met, todo, HS, HML, HTL, HM, HO, HB⟩ := hrel
    cases gk with
    | zero => exact absurd HS.out (by simp [walkL])
    | succ k1 =>
      obtain ⟨At2, ct2, et⟩ := Kd.R_slice HO.out
      subst et
      by_cases h0 : todo.length = 0
      · have hgt : ¬ ((todo.length : Int) > 0) := by omega
        have hs := HS.out
        rw [walkL, if_pos h0] at hs
        injection hs with hs
        subst hs
        go_wp2
        go_ret
        exact ⟨_, rfl, HM.out, HB.out⟩
      · have hgt : (todo.length : Int) > 0 := by omega
        have hs := HS.out
        rw [walkL, if_neg h0] at hs
        clear HS
        have htl := HTL.out
        obtain ⟨ad, ead, hcell⟩ := Kd.at_int (Kd.R_reads' HO.out).2.2 ((todo.length - 1 : Nat) : Int) (by omega) (by omega)
        cases ead
        rw [show rd todo ((todo.length - 1 : Nat) : Int) = todo.getD (todo.length - 1) 0 by simp [rd], Int.toNat_natCast] at hcell
        generalize todo.getD (todo.length - 1) 0 = b at hcell hs
        have hcap : todo.length ≤ ct2 := (Kd.R_reads' HO.out).2.1
        go_upto_region 6 with (fail)
        clear hcell
        by_cases hb : 0 ≤ b ∧ b < (met.length : Int)
        · rw [if_pos hb] at hs
          have hml := HML.out
          have pb : 0 ≤ b := hb.1
          have qb : b < (n.toNat : Int) := by omega
          have HT := Aside0.mk (Kd.R_take HO.out (show todo.length - 1 ≤ todo.length by omega))
          obtain ⟨am, eam, hmc⟩ := Kd.at_bool (Kd.R_reads' HM.out).2.2 b hb.1 hb.2
          cases eam
          rw [show rdOf false met b = met.getD b.toNat false by simp [rdOf]] at hmc
          generalize met.getD b.toNat false = mb at hmc hs
          have hlt : (todo.take (todo.length - 1)).length ≤ 4294967296 := by rw [List.length_take]; omega
          cases mb with
          | true =>
            rw [if_pos (.inl rfl)] at hs
            have HS := Aside0.mk hs
            clear hs
            go_wp2
            go_roundg k1
            case measure => omega
            case rel => exact ⟨met, todo.take (todo.length - 1), HS, HML, ⟨hlt⟩, HM, HT, HB⟩
          | false =>
            by_cases hbut : b = but
            · rw [if_pos (.inr hbut)] at hs
              have HS := Aside0.mk hs
              clear hs
              subst hbut
              go_wp2
              go_roundg k1
              case measure => omega
              case rel => exact ⟨met, todo.take (todo.length - 1), HS, HML, ⟨hlt⟩, HM, HT, HB⟩
            · rw [if_neg (by rintro (h | h); cases h; exact hbut h)] at hs
              obtain ⟨l, hFb, hs⟩ := Option.bind_eq_some_iff.1 hs
              have hroom : todo.length + l.length ≤ 4294967296 := by
                split at hs
                · assumption
                · cases hs
              rw [if_pos hroom] at hs
              have HS := Aside0.mk hs
              clear hs
              obtain ⟨gm, capm, em, hgm, hgl, hcl⟩ := Kd.R_form HM.out (show 0 < met.length by omega)
              injection em with em1 em2 em3
              injection em1 with em1
              subst em1 em3
              (first | simp only [add_plain] at hmc | simp only [add_at] at hmc | simp only [Addr.add, Nat.zero_add] at hmc | skip)
              have hbe : (b == but) = false := by simp [hbut]
              have HPut := Kd.R_putg HM.out b true
              have pb2 : (0 ≤ b) = True := eq_true pb
              have qb2 : (b < (n.toNat : Int)) = True := eq_true qb
              have GM := Aside0.mk hgm
              obtain ⟨cells, hcl⟩ := hcl
              have hfz := blk_frozen hcl b.toNat
              clear hcl em2 hgm hgl hgt h0
              go_wp2_with (first | ((with_reducible refine gate_store (t := 4) (p := 41) rfl ?_); refine store_event (t := 4) (p := 41) (v := ?vo_) (w1 := (wr.setCell ⟨gm, (b : Int).toNat, none⟩ (.bool true))) ?hg ?ho ?hn ?hr ?_; (case ho => rfl); (case hg => rfl); (case hn => rfl); (case hr => first | (go_simp; done) | (go_simp; rfl)); intro w3 hw; have hg : wr.grownBy w3 (some gm) := (by rw [hw]; exact HPut.2); have n0_ := Aside0.mk (show Kd.R Kd.bool 4 w3 w.heap.size (fun _ => True) (.slice (some ⟨gm, 0, none⟩) n.toNat cm) (met.set b.toNat true) by rw [hw]; exact HPut.1); have n1_ := Aside0.mk (Kd.R_over' HT.out (Kd.R_typed HM.out) (by decide) hg); have n2_ := Aside0.mk (show Below w.heap.size w w3 by rw [hw]; exact below_set HB.out GM.out); clear HM HT HB HPut hg hw; have HM := n0_; have HT := n1_; have HB := n2_; clear n0_ n1_ n2_ hmc hfz) | (go_at_fn g; refine (HF.out _ b l HB.out hFb).mono ?_; rintro e w4 ⟨Ae, ce, rfl, hCe, hb4⟩; have HE := Aside0.mk hCe; have n0_ := Aside0.mk (Kd.R_below HM.out hb4); have n1_ := Aside0.mk (Kd.R_below HT.out hb4); have n2_ := Aside0.mk (below_step HB.out hb4); clear HM HT HB; revert n0_ n1_ n2_; intro HM HT HB; clear hb4 hCe) | ((with_reducible refine gate_builtin (b := .append) (xs := #[.tmp 42, .tmp 45]) rfl ?_); at_builtin; refine Kd.R_append_row (Value.int .i64) 0 (h1 := fun _ => rfl) (w0 := w) w.heap.size rfl (.tmp 42) (.tmp 45) 22 3 (.int .i64 0) 8 rfl Tryd.underlying22 info3 rfl (by decide) (.slice (some ad) (todo.length - 1) ct2) (todo.take (todo.length - 1)) l Ae l.length ce (fun _ => True) rfl rfl (fun _ _ => trivial) HT.out HE.out HB.out (below_size HB.out) (by rw [List.length_take]; omega) ?_; intro v5 w5 ho5 hb5 hg5 hat5; have n0_ := Aside0.mk (Kd.R_over' HM.out (Kd.R_typed HT.out) (by decide) hg5); have n1_ := Aside0.mk ho5; have n2_ := Aside0.mk hb5; clear HM HT HB HE ho5 hb5 hg5 hat5; revert n0_ n1_ n2_; intro HM HT HB))
              go_roundg k1
              case measure => omega
              case rel => exact ⟨met.set b.toNat true, todo.take (todo.length - 1) ++ l, HS, ⟨by rw [List.length_set]; exact HML.out⟩, ⟨by rw [List.length_append, List.length_take]; omega⟩, HM, HT, HB⟩
        · rw [if_neg hb] at hs
          cases hs
def fml_ : Nat → Nat → List Bool
  | 0, _ => []
  | n + 1, b => (b % 2 == 1) :: fml_ n (b / 2)
def fm_ (n b : Nat) : Array Bool := ⟨fml_ n b⟩
theorem fP {P : Program} {ops : Array Oper} {Q : Exit → Act → World → Prop} {md : Region.Mode} {S : World → Prop} {ds : List Nat} {i : Nat} {N : Option Tmp} {oi : Oper} {v : Value} {fuel : Nat} {l : Array Bool} {a : Act} {w : World} {a' : Act} (l' : Array Bool) (h : wpAnyLast P md ops Q S ds fuel l' a' w) (hi : ops[i]? = some oi := by rfl) (hN : oi.dst = N := by rfl) (hc : anyB md ops l l' i = true := by kernel_rfl) (hQ : ∀ c a w, Q (.panic c) (a.put oi.dst v) w → Q (.panic c) a w := by exact fun _ _ _ h => h) (hy : Yields P ops oi v a := by (refine Or.inl ⟨by rfl, ?_⟩; intro w'; go_simp; with_reducible rfl)) (ha : a.put N v = a' := by (simp only [Act.put, List.setIfInBounds_toArray, List.set_cons_zero, List.set_cons_succ, i64_w, i32_w]; rfl)) : wpAnyLast P md ops Q S ds (fuel + 1) l a w := pure_ l' hi hN hc hQ hy ha h
theorem fT1 {P : Program} {ops : Array Oper} {Q : Exit → Act → World → Prop} {md : Region.Mode} {S : World → Prop} {ds : List Nat} {i : Nat} {N : Option Tmp} {oi : Oper} {v : Value} {fuel : Nat} {l : Array Bool} {a : Act} {w : World} {a' : Act} (l' : Array Bool) (h : wpAnyLast P md ops Q S ds fuel l' a' w) (hS : S w := by exact hHeld) (hi : ops[i]? = some oi := by rfl) (hN : oi.dst = N := by rfl) (hc : takeB md ops ds l l' i = true := by kernel_rfl) (hQ : ∀ c a w, Q (.panic c) (a.put oi.dst v) w → Q (.panic c) a w := by exact fun _ _ _ h => h) (hy : YieldsIf P ops S oi v a := by (refine Or.inl ⟨by rfl, ?_⟩; rintro w' s0; go_simp; with_reducible rfl)) (ha : a.put N v = a' := by (simp only [Act.put, List.setIfInBounds_toArray, List.set_cons_zero, List.set_cons_succ, i64_w, i32_w]; rfl)) : wpAnyLast P md ops Q S ds (fuel + 1) l a w := take_ l' hi hN hc hQ hy hS ha h
theorem info_sb : (Tryd.prog.info? 40).map (fun i => (i.zero, i.size, i.bytes)) = some (some (.slice none 0 0), 1, 24) := by kernel_rfl
/-- The document's relation: a struct of how many things there are, and a table of truths. -/
def RelIs (w : World) (base p N : Nat) (At : List (List Bool)) : Prop := ∃ v, w.heap[p]? = some (.cells #[.int .i64 (N : Int), v] 76 (0, 0)) ∧ Kd.S (Kd.slice 4 Kd.bool) 40 w base (fun _ => True) v At ∧ base ≤ p ∧ At.length = N ∧ N ≤ 512 ∧ ∀ r ∈ At, r.length = N
theorem RelIs.below {w w1 : World} {base p N : Nat} {At : List (List Bool)} (h : RelIs w base p N At) (hb : Below w.heap.size w w1) : RelIs w1 base p N At := by
  obtain ⟨v, h1, h2, h3⟩ := h
  exact ⟨v, blk_below h1 hb, Kd.S_below h2 hb, h3⟩
theorem RelIs.lower {w : World} {base base' p N : Nat} {At : List (List Bool)} (h : RelIs w base p N At) (hb : base' ≤ base) : RelIs w base' p N At := by
  obtain ⟨v, h1, h2, h3, h4⟩ := h
  exact ⟨v, h1, Kd.S_lower h2 hb, Nat.le_trans hb h3, h4⟩
/-- A row of whole numbers has been written. -/
theorem RelIs.over {w w1 : World} {base p N : Nat} {At : List (List Bool)} (h : RelIs w base p N At) {v : Value} (hty : ∀ k, v.ownBlock = some k → ∃ cells, w.heap[k]? = some (.cells cells 3 (0, 0))) (hg : w.grownBy w1 v.ownBlock) : RelIs w1 base p N At := by
  obtain ⟨u, h1, h2, h3⟩ := h
  refine ⟨u, blk_grown h1 hg (fun e => ?_), Kd.S_over' h2 hty (by decide) hg, h3⟩
  obtain ⟨cells, hc⟩ := hty p e.symm
  rw [h1] at hc
  injection hc with hc
  injection hc with _ hc
  exact absurd hc (by decide)
def mayB (N : Nat) (i : Int) : Bool := decide (0 ≤ i) && decide (i < (N : Int))
set_option maxRecDepth 100000 in
theorem may_walk {base p N : Nat} {At : List (List Bool)} (i : Int) (w : World) (hR : RelIs w base p N At) :
    Calls Tryd.prog 51 #[.pointer (some ⟨p, 0, none⟩), .int .i64 i] w fun e w' => e = .returned (.bool (mayB N i)) ∧ w' = w := by
  have hu := Tryd.underlying76
  obtain ⟨v, hb, _, _⟩ := hR
  have hc0 : w.cell? ⟨p, 0, none⟩ = some (.int .i64 (N : Int)) := (blk_cell hb 0).trans rfl
  by_cases h0 : 0 ≤ i
  · go_enter Tryd.func51, Tryd.ntmps51
    go_wp2
    go_ret
    exact ⟨by simp [mayB, h0], rfl⟩
  · have hm : mayB N i = false := by unfold mayB; rw [decide_eq_false h0]; rfl
    go_enter Tryd.func51, Tryd.ntmps51
    go_wp2
    go_ret
    exact ⟨by first | rfl | rw [hm], rfl⟩
def atB (At : List (List Bool)) (a b : Int) : Bool := (At.getD a.toNat []).getD b.toNat false
theorem may_iff {N : Nat} {i : Int} (h : mayB N i = true) : 0 ≤ i ∧ i < (N : Int) := by simpa [mayB] using h
/-- Where a truth stands. -/
theorem rel_read {w : World} {base p N : Nat} {At : List (List Bool)} (h : RelIs w base p N At) {a b : Int} (ha : 0 ≤ a ∧ a < (N : Int)) (hb : 0 ≤ b ∧ b < (N : Int)) :
    ∃ (ad : Addr) (cap : Nat) (ai : Addr) (ci : Nat), w.cell? ⟨p, 0, none⟩ = some (.int .i64 (N : Int)) ∧ w.cell? ⟨p, 1, none⟩ = some (.slice (some ad) N cap) ∧ w.cell? (ad.add a.toNat) = some (.slice (some ai) N ci) ∧ w.cell? (ai.add b.toNat) = some (.bool (atB At a b)) := by
  obtain ⟨v, h1, h2, _, hN, _, hrow⟩ := h
  obtain ⟨A, cap, hv⟩ := Kd.S_slice h2
  rw [hN] at hv
  subst hv
  obtain ⟨g, cp, e, _⟩ := Kd.S_form h2 (by omega)
  injection e with e _ _
  subst e
  obtain ⟨c, hcl, hM, hcc⟩ := Kd.S_get h2 [] a ha.1 ha.2
  obtain ⟨u, rfl, hu⟩ := hM
  have hlen : (At.getD a.toNat []).length = N := by
    rw [List.getD_eq_getElem?_getD, List.getElem?_eq_getElem (by omega), Option.getD_some]
    exact hrow _ (List.getElem_mem _)
  obtain ⟨Ai, ci, hv2⟩ := Kd.R_slice hu
  rw [hlen] at hv2
  subst hv2
  obtain ⟨ai, e2, hc3⟩ := Kd.at_bool (Kd.R_reads' hu).2.2 b hb.1 (by omega)
  subst e2
  refine ⟨_, cap, ai, ci, (blk_cell h1 0).trans rfl, (blk_cell h1 1).trans rfl, ?_, ?_⟩
  · have := hcc 0 _ rfl
    simpa [Kd.slice] using this
  · rw [hc3]
    simp [atB, rdOf]
set_option maxRecDepth 100000 in
set_option maxHeartbeats 4000000 in
theorem has_walk {base p N : Nat} {At : List (List Bool)} (a b : Int) (w : World) (hR : RelIs w base p N At) :
    Calls Tryd.prog 30 #[.pointer (some ⟨p, 0, none⟩), .int .i64 a, .int .i64 b] w fun e w' => e = .returned (.bool (mayB N a && (mayB N b && atB At a b))) ∧ w' = w := by
  have hu := Tryd.underlying76
  have HR := Aside0.mk hR
  clear hR
  go_enter Tryd.func30, Tryd.ntmps30
  go_upto_region 1 with (fail)
  go_upto_region 2 with (fail)
  refine (may_walk a _ HR.out).mono ?_; rintro e w1 ⟨rfl, hw_⟩; subst w1
  cases ha : mayB N a with
  | false =>
    go_wp2_with (fail)
    go_ret
    exact ⟨by rw [ha]; rfl, rfl⟩
  | true =>
    go_upto_region 2 with (fail)
    refine (may_walk b _ HR.out).mono ?_; rintro e w1 ⟨rfl, hw_⟩; subst w1
    cases hb : mayB N b with
    | false =>
      go_wp2_with (fail)
      go_ret
      exact ⟨by rw [ha, hb]; rfl, rfl⟩
    | true =>
      have pa := (may_iff ha).1
      have qa := (may_iff ha).2
      have pb := (may_iff hb).1
      have qb := (may_iff hb).2
      obtain ⟨ad, cap, ai, ci, hc0, hc1, hc2, hc3⟩ := rel_read HR.out (may_iff ha) (may_iff hb)
      go_wp2_with (fail)
      go_ret
      exact ⟨by rw [ha, hb]; rfl, rfl⟩

def setB (At : List (List Bool)) (a b : Int) : List (List Bool) := At.set a.toNat ((At.getD a.toNat []).set b.toNat true)
/-- The relation with a pair, if there are such things. -/
def addR (N : Nat) (At : List (List Bool)) (a b : Int) : List (List Bool) := if (mayB N a && mayB N b) = true then setB At a b else At
/-- Nothing that was there has turned but, it may be, one row of truths from base on. -/
def Turned (base : Nat) (w w' : World) : Prop := ∃ row : Option Nat, w.grownBy w' row ∧ ∀ k, row = some k → base ≤ k ∧ ∃ cells, w.heap[k]? = some (.cells cells 4 (0, 0))
theorem Turned.of {base : Nat} {w w' : World} (h : Below w.heap.size w w') : Turned base w w' := ⟨none, Eval.grown_of_below h, fun k e => by cases e⟩
theorem Turned.below {base n : Nat} {w0 w w' : World} (h : Turned base w w') (hb : Below n w0 w) (hn : n ≤ base) (hs : n ≤ w.heap.size) : Below n w0 w' := by
  obtain ⟨row, hg, hr⟩ := h
  exact ⟨hg.os.trans hb.os, hg.tape.trans hb.tape, hg.output.trans hb.output, Nat.le_trans hb.size hg.size, fun i hi => (hg.block i (Nat.lt_of_lt_of_le hi hs) (fun e => by have := (hr i e.symm).1; omega)).trans (hb.block i hi)⟩
/-- A row of another type stays. -/
theorem Turned.row {α : Type} {d : Kd α} {base b0 e : Nat} {ok : Nat → Prop} {w w' : World} {v : Value} {xs : List α} (h : Turned base w w') (hR : d.R e w b0 ok v xs) (ht : ∀ q, q ∈ e :: d.E → q ≠ 4) : d.R e w' b0 ok v xs := by
  obtain ⟨row, hg, hr⟩ := h
  cases row with
  | none => exact Kd.R_grown hR hg (fun _ _ e => by cases e)
  | some k => exact Kd.R_over' (v := .slice (some ⟨k, 0, none⟩) 1 1) hR (fun j hj => by
      have : k = j := by simpa [Value.ownBlock] using hj
      subst this
      exact (hr k rfl).2) ht (by simpa [Value.ownBlock] using hg)
theorem Turned.blk {base g t : Nat} {cs : Array Value} {w w' : World} (h : Turned base w w') (hb : w.heap[g]? = some (.cells cs t (0, 0))) (ht : t ≠ 4) : w'.heap[g]? = some (.cells cs t (0, 0)) := by
  obtain ⟨row, hg, hr⟩ := h
  refine blk_grown hb hg (fun e => ?_)
  obtain ⟨_, cells, hc⟩ := hr g e.symm
  rw [hb] at hc
  injection hc with hc
  injection hc with _ hc
  exact ht hc
/-- A truth put in its place. -/
theorem rel_put {w : World} {base p N : Nat} {At : List (List Bool)} (h : RelIs w base p N At) {a b : Int} (ha : 0 ≤ a ∧ a < (N : Int)) (hb : 0 ≤ b ∧ b < (N : Int)) :
    ∃ (g cap gi ci : Nat), w.cell? ⟨p, 1, none⟩ = some (.slice (some ⟨g, 0, none⟩) N cap) ∧ w.cell? ⟨g, a.toNat, none⟩ = some (.slice (some ⟨gi, 0, none⟩) N ci) ∧ w.cell? ⟨gi, b.toNat, none⟩ = some (.bool (atB At a b)) ∧ w.frozen? ⟨gi, b.toNat, none⟩ = false ∧ RelIs (w.setCell ⟨gi, b.toNat, none⟩ (.bool true)) base p N (setB At a b) ∧ Turned base w (w.setCell ⟨gi, b.toNat, none⟩ (.bool true)) := by
  obtain ⟨v, h1, h2, h3, hN, h5, hrow⟩ := h
  obtain ⟨A, cap, hv⟩ := Kd.S_slice h2
  rw [hN] at hv
  subst hv
  obtain ⟨g, cp, e, _⟩ := Kd.S_form h2 (by omega)
  injection e with e _ _
  subst e
  obtain ⟨oki, c, hcl, hM, hcc, hoki, hback⟩ := Kd.S_borrow h2 [] a ha.1 (by omega)
  obtain ⟨u, rfl, hur⟩ := hM
  have hlen : (At.getD a.toNat []).length = N := by
    rw [List.getD_eq_getElem?_getD, List.getElem?_eq_getElem (by omega), Option.getD_some]
    exact hrow _ (List.getElem_mem _)
  obtain ⟨gi, ci, ei, hgb, hgl, cells, hcells⟩ := Kd.R_form hur (by omega)
  rw [hlen] at ei
  subst ei
  have hfz := blk_frozen hcells b.toNat
  have hP := Kd.R_putg hur b true
  have hg := hP.2
  have hS := hback hP.2 (fun k e => by injection e with e; subst e; exact hur.1 _ (by simp [Value.ownBlock])) (Kd.M_row hP.1)
  have hc1 := hcc 0 _ rfl
  have hbx := blk_grown h1 hg (fun e => by injection e with e; subst e; rw [h1] at hcells; injection hcells with hcells; injection hcells with _ hcells; exact absurd hcells (by decide))
  have hcb : w.cell? ⟨gi, b.toNat, none⟩ = some (.bool (atB At a b)) := by
    obtain ⟨ai, e2, hc3⟩ := Kd.at_bool (Kd.R_reads' hur).2.2 b hb.1 (by omega)
    injection e2 with e2
    subst e2
    rw [add_at, Nat.zero_add] at hc3
    rw [hc3]
    simp [atB, rdOf]
  refine ⟨g, cap, gi, ci, (blk_cell h1 1).trans rfl, ?_, hcb, hfz, ⟨_, hbx, hS, h3, by unfold setB; rw [List.length_set]; exact hN, h5, fun r hr => ?_⟩, some gi, hg, fun k e => by injection e with e; subst e; exact ⟨hgb, cells, hcells⟩⟩
  · rw [add_at, Nat.zero_add] at hc1
    simpa [Kd.slice] using hc1
  · unfold setB at hr
    rcases List.mem_or_eq_of_mem_set hr with hr | rfl
    · exact hrow r hr
    · rw [List.length_set]; exact hlen
set_option maxRecDepth 100000 in
set_option maxHeartbeats 4000000 in
theorem add_walk {base p N : Nat} {At : List (List Bool)} (a b : Int) (w : World) (hR : RelIs w base p N At) :
    Calls Tryd.prog 50 #[.pointer (some ⟨p, 0, none⟩), .int .i64 a, .int .i64 b] w fun e w' => e = .returned (.bool (mayB N a && mayB N b)) ∧ RelIs w' base p N (addR N At a b) ∧ Turned base w w' := by
  have hu := Tryd.underlying76
  have HR := Aside0.mk hR
  clear hR
  go_enter Tryd.func50, Tryd.ntmps50
  go_upto_region 1 with (fail)
  go_upto_region 2 with (fail)
  refine (may_walk a _ HR.out).mono ?_; rintro e w1 ⟨rfl, hw_⟩; subst w1
  cases ha : mayB N a with
  | false =>
    go_wp2_with (fail)
    go_ret
    exact ⟨by rw [ha]; rfl, by rw [show addR N At a b = At by simp [addR, ha]]; exact HR.out, Turned.of (Below.refl _ _)⟩
  | true =>
    go_upto_region 2 with (fail)
    refine (may_walk b _ HR.out).mono ?_; rintro e w1 ⟨rfl, hw_⟩; subst w1
    cases hb : mayB N b with
    | false =>
      go_wp2_with (fail)
      go_ret
      exact ⟨by rw [ha, hb]; rfl, by rw [show addR N At a b = At by simp [addR, ha, hb]]; exact HR.out, Turned.of (Below.refl _ _)⟩
    | true =>
      have pa := (may_iff ha).1
      have qa := (may_iff ha).2
      have pb := (may_iff hb).1
      have qb := (may_iff hb).2
      obtain ⟨g, cap, gi, ci, hc0, hc1, hcb, hfz, hR2, hT2⟩ := rel_put HR.out (may_iff ha) (may_iff hb)
      have hadd : addR N At a b = setB At a b := by simp [addR, ha, hb]
      have HR2 := Aside0.mk hR2
      have HT2 := Aside0.mk hT2
      have HA := Aside0.mk hadd
      clear hR2 hT2 hadd
      go_wp2_with (fail)
      go_ret
      exact ⟨by rw [ha, hb]; rfl, by rw [HA.out]; exact HR2.out, HT2.out⟩
set_option maxRecDepth 100000 in
set_option maxHeartbeats 4000000 in
theorem new_walk (N : Nat) (hN : N ≤ 512) (w : World) :
    Calls Tryd.prog 48 #[.int .i64 (N : Int)] w fun e w' => ∃ p : Nat, e = .returned (.pointer (some ⟨p, 0, none⟩)) ∧ RelIs w' w.heap.size p N (List.replicate N (List.replicate N false)) ∧ Below w.heap.size w w' := by
  have hu := Tryd.underlying76
  have HB := Aside0.mk (Below.refl w.heap.size w)
  have hlo : ¬ ((N : Int) < 0) := by omega
  have hhi : ¬ ((N : Int) > 512) := by omega
  go_enter Tryd.func48, Tryd.ntmps48
  go_upto_region 6 with (first | ((with_reducible refine gate_dst (N := 11) rfl ?_); refine box_event ?hg (N := 11) ?hd (cs := #[.int .i64 (N : Int), .slice none 0 0]) (t := 76) ?hr ?_; (case hd => rfl); (case hg => rfl); (case hr => first | (go_simp; done) | (go_simp; rfl)); intro p hp wb hbox hb; have BKp := Aside0.mk hbox; have GP := Aside0.mk (show w.heap.size ≤ p by rw [hp]; exact below_size (by repeat (first | (with_reducible first | exact HB.out | apply below_alloc | apply pw_below_drewN | apply below_drew1) | exact HB.out))); have n0_ := Aside0.mk (below_step (by repeat (first | (with_reducible first | exact HB.out | apply below_alloc | apply pw_below_drewN | apply below_drew1) | exact HB.out)) hb); clear HB; have HB := n0_; clear n0_ hb hbox hp))
  go_wp2_with (fail)
  go_loopg [4] N (fun gg v4 wr => ∃ (j : Nat) (v : Value), j ≤ N ∧ N - j ≤ gg ∧ v4 = .int .i64 (j : Int) ∧ Aside0 (wr.heap[p]? = some (.cells #[.int .i64 (N : Int), v] 76 (0, 0))) ∧ Aside0 (Kd.S (Kd.slice 4 Kd.bool) 40 wr w.heap.size (fun _ => True) v (List.replicate j (List.replicate N false))) ∧ Aside0 (Below w.heap.size w wr))
  case atStart => exact ⟨0, _, Nat.zero_le _, by omega, rfl, BKp, ⟨Kd.S_nil _ _ _ _ _⟩, HB⟩
  case round =>
    clear BKp HB
    obtain ⟨j, v, hj, hgg, rfl, BKp, HS, HB⟩ := hrel
    by_cases hlt : j < N
    · have hltz : (j : Int) < (N : Int) := by omega
      go_upto_region 9 with (fail)
      obtain ⟨Av, cv, ev⟩ := Kd.S_slice HS.out
      subst ev
      have hdrew := below_drew1 (Below.refl wr.heap.size wr)
      have n0_ := Aside0.mk (below_step HB.out hdrew); have n1_ := Aside0.mk (blk_below BKp.out hdrew); have n2_ := Aside0.mk (Kd.S_below HS.out hdrew); clear HB BKp HS; revert n0_ n1_ n2_; intro HB BKp HS
      clear hdrew
      rw [List.length_replicate] at HS BKp
      refine start_ (n := 12) (S := fun w' => w'.cell? ⟨p, 1, none⟩ = some (.slice Av j cv)) (ds := [8, 11]) (fm_ 12 0) (by kernel_rfl) rfl rfl ((blk_cell BKp.out 1).trans rfl) (fun hHeld => ?_)
      generalize wr.drew = wd at HB BKp HS hHeld ⊢
      refine fP (i := 0) (N := some 17) (fm_ 12 1) ?_
      refine fP (i := 1) (N := some 18) (fm_ 12 3) ?_
      refine fP (i := 2) (N := some 19) (fm_ 12 7) ?_
      refine fP (i := 3) (N := some 20) (fm_ 12 15) ?_
      refine fP (i := 5) (N := some 22) (fm_ 12 47) ?_
      refine fT1 (i := 4) (N := some 21) (fm_ 12 63) ?_
      refine one_ (i := 6) (N := some 23) (fm_ 12 127) rfl rfl (by kernel_rfl) (by decide) (fun K hK => ?_)
      refine Kd.R_make_step Kd.bool (w0 := w) w.heap.size 4 rfl (N := 23) rfl 40 _ _ rfl (N : Int) rfl rfl Tryd.underlying40 (.bool false) 1 info_b rfl (by decide) (by omega) false (ok := fun k => wd.heap.size ≤ k) (okp := fun k => wd.heap.size ≤ k) rfl (fun _ hk => hk) (Nat.le_refl _) (by omega) (by omega) HB.out (below_size HB.out) ?_
      intro vr wm hrow hb hg hnew
      have HS2 := Kd.S_mono (Kd.S_bound HS.out) (ok' := fun k => True ∧ ¬ (wd.heap.size ≤ k)) (fun k hk => ⟨trivial, fun h2 => Nat.not_le.2 hk.2.2.1 h2⟩)
      have hlv : ∀ k, (Value.slice Av j cv).ownBlock = some k → k < wd.heap.size := fun k hk => Kd.S_lt HS.out k hk
      have n0_ := Aside0.mk hb
      have n1_ := Aside0.mk (blk_grown BKp.out hg (by simp))
      have n2_ := Aside0.mk (Kd.S_grown HS2 hg (fun _ _ e => by cases e))
      clear HB BKp HS HS2 hnew hHeld
      have HB := n0_
      have BKp := n1_
      have HS := n2_
      have HRW := Aside0.mk hrow
      have HLV := Aside0.mk hlv
      have HSZ := Aside0.mk hg.size
      clear n0_ n1_ n2_ hb hg hrow hlv
      obtain ⟨Ar, cr, er⟩ := Kd.R_slice HRW.out
      subst er
      refine hK.out _ _ ((blk_cell BKp.out 1).trans rfl) (fun hHeld => ?_)
      clear hK K
      refine norm_ (a' := ?_) ?_ ?_
      rotate_left
      · show Act.put _ (some 23) _ = _
        go_frame <;> try simp only [i64_w, i32_w]
        rfl
      refine one_ (i := 7) (N := some 24) (fm_ 12 255) rfl rfl (by kernel_rfl) (by decide) (fun K hK => ?_)
      refine value_ (w1 := ?_) (v := ?_) (by rfl) rfl ?_ ?_
      rotate_left 2
      · go_simp
        constructor
        · rfl
        · rfl
      refine hK.out _ _ ((blk_cell (blk_alloc BKp.out _) 1).trans rfl) (fun hHeld => ?_)
      clear hK K
      refine norm_ (a' := ?_) ?_ ?_
      rotate_left
      · show Act.put _ (some 24) _ = _
        go_frame <;> try simp only [i64_w, i32_w]
        rfl
      refine last_ (i := 8) (N := some 25) (fm_ 12 511) rfl rfl (by kernel_rfl) (by decide) (fun K hK => ?_)
      refine Kd.S_append_step (Kd.slice 4 Kd.bool) (w0 := w) w.heap.size rfl (.tmp 21) (.tmp 24) 74 40 (.slice none 0 0) 24 rfl Tryd.underlying74 info_sb rfl (by decide) (by omega) (.slice Av j cv) (List.replicate j (List.replicate N false)) (List.replicate N false) [.slice Ar N cr] (fun _ => True) (fun k => wd.heap.size ≤ k) rfl rfl ?aP (fun k hk => ⟨trivial, fun e => Nat.not_le.2 (HLV.out k e.symm) hk⟩) (fun _ _ => trivial) ?aO ?aB ?aS ?aL ?_
      case aP => rw [List.length_replicate] at HRW; exact Kd.M_row HRW.out
      case aO => exact HS.out
      case aB => exact HB.out
      case aS => exact below_size HB.out
      case aL => rw [List.length_replicate]; omega
      intro v1 w3 ho2 hb2 hg2 hat
      have n0_ := Aside0.mk hb2
      have n1_ := Aside0.mk (blk_grown BKp.out hg2 (Kd.S_ne HS.out BKp.out (by decide)))
      have n2_ := Aside0.mk ho2
      clear HB BKp HS HRW HLV HSZ hHeld
      have HB := n0_
      have BKp := n1_
      have HS := n2_
      clear n0_ n1_ n2_ hb2 hg2 hat ho2
      rw [show List.replicate j (List.replicate N false) ++ [List.replicate N false] = List.replicate (j + 1) (List.replicate N false) from (List.replicate_succ' ..).symm] at HS
      obtain ⟨Av1, cv1, ev⟩ := Kd.S_slice HS.out
      subst ev
      rw [List.length_replicate] at HS ⊢
      refine hK.out _ _ ?_
      clear hK K
      refine norm_ (a' := ?_) ?_ ?_
      rotate_left
      · show Act.put _ (some 25) _ = _
        go_frame <;> try simp only [i64_w, i32_w]
        rfl
      refine fP (i := 9) (N := some 26) (fm_ 12 1023) ?_
      refine fP (i := 10) (N := some 27) (fm_ 12 2047) ?_
      refine last_ (i := 11) (N := none) (fm_ 12 4095) rfl rfl (by kernel_rfl) (by decide) (fun K hK => ?_)
      have hs := (blk_cell BKp.out 1).trans rfl
      have hfs := blk_frozen BKp.out 1
      refine skip_ (w1 := ?_) (by rfl) rfl ?_ ?_
      rotate_left
      · go_simp
        rfl
      refine hK.out _ _ ?_
      clear hK K hs hfs
      refine done_ (by kernel_rfl) ?_
      have n0_ := Aside0.mk (below_set (j := 1) (v := (.slice Av1 (j + 1) cv1)) HB.out GP.out); have n1_ := Aside0.mk (Kd.S_set HS.out BKp.out (by decide) 1 (.slice Av1 (j + 1) cv1)); have n2_ := Aside0.mk (blk_put (cs' := #[.int .i64 (N : Int), (.slice Av1 (j + 1) cv1)]) BKp.out 1 (.slice Av1 (j + 1) cv1) rfl); clear HB HS BKp; revert n0_ n1_ n2_; intro HB HS BKp
      try go_wp2_with (fail)
      go_roundg (N - (j + 1))
      case measure => omega
      case rel => exact ⟨j + 1, _, by omega, by omega, by first | rfl | rw [show wrap64 ((j : Int) + 1) = ((j + 1 : Nat) : Int) by unfold wrap64; omega], BKp, HS, HB⟩
    · have hltz : ¬ (j : Int) < (N : Int) := by omega
      have hjn : j = N := by omega
      subst hjn
      go_wp2_with (fail)
      go_ret
      exact ⟨p, rfl, ⟨v, BKp.out, HS.out, GP.out, by simp, hN, fun r hr => by rw [List.eq_of_mem_replicate hr]; simp⟩, HB.out⟩

/-- What was made is none of the relation's. -/
theorem RelIs.fresh {w w1 : World} {base p N : Nat} {At : List (List Bool)} (h : RelIs w base p N At) (hg : w.grownBy w1 none) : RelIs w1 base p N At := by
  obtain ⟨v, h1, h2, h3⟩ := h
  exact ⟨v, blk_grown h1 hg (by simp), Kd.S_grown h2 hg (fun _ _ e => by cases e), h3⟩
/-- A thing's row gone through: what is new, and what is left to do. -/
def rowL (At : List (List Bool)) (a x : Int) : Nat → Nat → List (List Bool) → List Int → List (List Bool) × List Int
  | 0, _, out, todo => (out, todo)
  | d + 1, b, out, todo => if (atB At x (b : Int) && !atB out a (b : Int)) = true then rowL At a x d (b + 1) (setB out a (b : Int)) (todo ++ [(b : Int)]) else rowL At a x d (b + 1) out todo
/-- All that a thing leads to. -/
def workL (At : List (List Bool)) (N : Nat) (a : Int) : Nat → List (List Bool) → List Int → Option (List (List Bool))
  | 0, _, _ => none
  | _ + 1, out, [] => some out
  | k + 1, out, x :: rest => if 0 ≤ x ∧ x < (N : Int) ∧ rest.length ≤ 4294967296 then workL At N a k (rowL At a x N 0 out rest).1 (rowL At a x N 0 out rest).2 else none
def leadL (At : List (List Bool)) (N k : Nat) : Nat → Nat → List (List Bool) → Option (List (List Bool))
  | 0, _, out => some out
  | d + 1, a, out => (workL At N (a : Int) k out [(a : Int)]).bind fun out' => leadL At N k d (a + 1) out'
def leadsF (k N : Nat) (At : List (List Bool)) : Option (List (List Bool)) := leadL At N k N 0 (List.replicate N (List.replicate N false))
theorem Turned.rowQ {α : Type} {d : Kd α} {base b0 e : Nat} {ok : Nat → Prop} {w w' : World} {v : Value} {xs : List α} (h : Turned base w w') (hR : d.Q e w b0 ok v xs) (ht : ∀ q, q ∈ e :: d.E → q ≠ 4) : d.Q e w' b0 ok v xs := by
  obtain ⟨row, hg, hr⟩ := h
  refine Kd.Q_mono (Kd.Q_move (Kd.Q_bound hR) (fun k hk => hg.block k hk.2.2.1 (fun he => ?_))) (fun _ hk => hk.1)
  obtain ⟨_, _, _, q, hq, cells, hc⟩ := hk
  obtain ⟨_, cells', hc'⟩ := hr k he.symm
  rw [hc] at hc'
  injection hc' with hc'
  injection hc' with _ hc'
  exact ht q hq hc'
theorem Q_typed {α : Type} {d : Kd α} {e base : Nat} {ok : Nat → Prop} {w : World} {v : Value} {xs : List α} (h : d.Q e w base ok v xs) : ∀ k, v.ownBlock = some k → ∃ cells, w.heap[k]? = some (.cells cells e (0, 0)) := by
  obtain ⟨h0, inner, ho, hr⟩ := h
  intro k hk
  obtain ⟨_, cells, hc⟩ := q_typed ho k hk
  exact ⟨cells, hc⟩
set_option maxRecDepth 100000 in
set_option maxHeartbeats 8000000 in
theorem leads_walk {base p N : Nat} {At : List (List Bool)} (k : Nat) (r : List (List Bool)) (w : World) (hR : RelIs w base p N At) (h : leadsF k N At = some r) :
    Calls Tryd.prog 42 #[.pointer (some ⟨p, 0, none⟩)] w fun e w' => ∃ q : Nat, e = .returned (.pointer (some ⟨q, 0, none⟩)) ∧ RelIs w' w.heap.size q N r ∧ Below w.heap.size w w' := by
  have hu := Tryd.underlying76
  have HN : Aside0 (N ≤ 512) := ⟨by obtain ⟨_, _, _, _, _, h5, _⟩ := hR; exact h5⟩
  have HR := Aside0.mk hR
  have HB := Aside0.mk (Below.refl w.heap.size w)
  have HL := Aside0.mk h
  have hc0 : w.cell? ⟨p, 0, none⟩ = some (.int .i64 (N : Int)) := by obtain ⟨v, h1, _⟩ := hR; exact (blk_cell h1 0).trans rfl
  clear hR h
  go_enter Tryd.func42, Tryd.ntmps42
  go_wp2_with (first | (go_at_call 48; refine (new_walk N HN.out _).mono ?_; rintro e w1 ⟨q, rfl, hq, hb_⟩; have HQ := Aside0.mk (RelIs.lower hq (below_size HB.out)); have n0_ := Aside0.mk (below_step HB.out hb_); clear HB hq hb_; revert n0_; intro HB))
  clear hc0
  go_loopg [4] N (fun gg v4 wr => ∃ (a : Nat) (out : List (List Bool)), a ≤ N ∧ N - a ≤ gg ∧ v4 = .int .i64 (a : Int) ∧ Aside0 (leadL At N k (N - a) a out = some r) ∧ Aside0 (RelIs wr w.heap.size q N out) ∧ Aside0 (Below w.heap.size w wr))
  case atStart => exact ⟨0, _, Nat.zero_le _, by omega, rfl, HL, HQ, HB⟩
  case round =>
    clear HL HQ HB
    obtain ⟨a, out, haN, hgg, rfl, HL, HQ, HB⟩ := hrel
    have hc0 : wr.cell? ⟨p, 0, none⟩ = some (.int .i64 (N : Int)) := by obtain ⟨v, h1, _⟩ := HR.out.below HB.out; exact (blk_cell h1 0).trans rfl
    by_cases hlt : a < N
    · have hltz : (a : Int) < (N : Int) := by omega
      have hl := HL.out
      rw [show N - a = (N - (a + 1)) + 1 by omega, leadL] at hl
      obtain ⟨out1, hwork, hl⟩ := Option.bind_eq_some_iff.1 hl
      have HL := Aside0.mk hl
      have HW := Aside0.mk hwork
      clear hl hwork
      have hN5 := HN.out
      go_wp2_with (first | ((with_reducible refine gate_dst (N := 22) rfl ?_); refine Kd.R_lit (Kd.int .i64) (w0 := w) w.heap.size 3 rfl (N := 22) rfl (xs := [(a : Int)]) (inner := [.int .i64 (a : Int)]) (ok := fun _ => True) (okp := fun _ => True) ?hr ?hp (fun _ hk => hk) trivial HB.out (below_size HB.out) (by simp) ?_; (case hr => first | (go_simp; done) | (go_simp; rfl)); (case hp => exact Reps.one (show (Kd.int .i64).M _ _ _ (a : Int) [.int .i64 (a : Int)] from rfl) (Reps.none _ _)); intro v2 w2 ho hb hg hnew; have HO := Aside0.mk (Kd.Q_of_R ho); have n0_ := Aside0.mk (HQ.out.fresh hg); have n1_ := Aside0.mk hb; clear HQ HB hnew hg hb ho; revert n0_ n1_; intro HQ HB))
      go_loopg [5] k (fun kq v5 wr => ∃ (out : List (List Bool)) (todo : List Int), Aside0 (workL At N (a : Int) kq out todo = some out1) ∧ Aside0 ((Kd.int .i64).Q 3 wr w.heap.size (fun _ => True) v5 todo) ∧ Aside0 (RelIs wr w.heap.size q N out) ∧ Aside0 (Below w.heap.size w wr))
      case atStart => exact ⟨_, _, HW, HO, HQ, HB⟩
      case round =>
        clear HW HO HQ HB
        obtain ⟨out, todo, HW, HO, HQ, HB⟩ := hrel
        cases gk with
        | zero => exact absurd HW.out (by simp [workL])
        | succ k1 =>
          obtain ⟨At5, ct5, et, hcap5⟩ := Kd.Q_slice HO.out
          subst et
          cases todo with
          | nil =>
            have hw := HW.out
            simp only [workL] at hw
            injection hw with hw
            subst hw
            go_wp2_with (fail)
            go_roundg (N - (a + 1))
            case measure => omega
            case rel => exact ⟨a + 1, out, by omega, by omega, by first | rfl | rw [show wrap64 ((a : Int) + 1) = ((a + 1 : Nat) : Int) by unfold wrap64; omega], HL, HQ, HB⟩
          | cons x rest =>
            have hw := HW.out
            rw [workL] at hw
            by_cases hx : 0 ≤ x ∧ x < (N : Int) ∧ rest.length ≤ 4294967296
            · rw [if_pos hx] at hw
              have HW := Aside0.mk hw
              clear hw
              obtain ⟨ad5, ead, hcell⟩ := Kd.at_int (Kd.Q_reads' HO.out).2.2 0 (by decide) (by simp)
              cases ead
              have HD := Aside0.mk (show (Kd.int .i64).Q 3 wr w.heap.size (fun _ => True) (.slice (if ct5 = 1 then some ad5 else some (⟨ad5.block, ad5.off + 1, none⟩ : Addr)) rest.length (ct5 - 1)) rest from Kd.Q_drop HO.out (show 1 ≤ (x :: rest).length by simp))
              rw [show rd (x :: rest) 0 = x from rfl, show ((0 : Int)).toNat = 0 from rfl, Addr.add_zero'] at hcell
              simp only [List.length_cons] at hcap5
              have hlen : ((x :: rest).length : Int) > 0 := by simp
              have hrl := hx.2.2
              go_upto_region 9 with (fail)
              clear hcell HO
              generalize (Value.slice (if ct5 = 1 then some ad5 else some (⟨ad5.block, ad5.off + 1, none⟩ : Addr)) rest.length (ct5 - 1)) = v5 at HD ⊢
              obtain ⟨pf, hpf⟩ : ∃ pf, Aside0 (rowL At (a : Int) x N 0 out rest = pf) := ⟨_, ⟨rfl⟩⟩
              rw [hpf.out] at HW
              go_wp2_with (fail)
              go_loopg [5, 7] N (fun gg v5 v7 wr => ∃ (b : Nat) (out2 : List (List Bool)) (todo2 : List Int), b ≤ N ∧ N - b ≤ gg ∧ v7 = .int .i64 (b : Int) ∧ Aside0 (rowL At (a : Int) x (N - b) b out2 todo2 = pf) ∧ Aside0 (todo2.length ≤ 4294967296 + b) ∧ Aside0 ((Kd.int .i64).Q 3 wr w.heap.size (fun _ => True) v5 todo2) ∧ Aside0 (RelIs wr w.heap.size q N out2) ∧ Aside0 (Below w.heap.size w wr))
              case atStart => exact ⟨0, out, rest, Nat.zero_le _, by omega, rfl, hpf, ⟨by omega⟩, HD, HQ, HB⟩
              case round =>
                clear hpf HD HQ HB hc0
                obtain ⟨b, out2, todo2, hbN, hgb, rfl, HP, HTL, HO, HQ, HB⟩ := hrel
                have hc0 : wr.cell? ⟨p, 0, none⟩ = some (.int .i64 (N : Int)) := by obtain ⟨v, h1, _⟩ := HR.out.below HB.out; exact (blk_cell h1 0).trans rfl
                by_cases hbl : b < N
                · have hblz : (b : Int) < (N : Int) := by omega
                  have hpp := HP.out
                  rw [show N - b = (N - (b + 1)) + 1 by omega, rowL] at hpp
                  have px := hx.1
                  have qx := hx.2.1
                  have pb : (0 : Int) ≤ (b : Int) := by omega
                  have paz : (0 : Int) ≤ (a : Int) := by omega
                  obtain ⟨ad, cap, ai, ci, _, hr1, hr2, hr3⟩ := rel_read (HR.out.below HB.out) (a := x) (b := (b : Int)) ⟨hx.1, hx.2.1⟩ ⟨pb, hblz⟩
                  obtain ⟨ad2, cap2, ai2, ci2, _, ho1, ho2, ho3⟩ := rel_read HQ.out (a := (a : Int)) (b := (b : Int)) ⟨paz, hltz⟩ ⟨pb, hblz⟩
                  rw [Int.toNat_natCast] at hr3 ho2 ho3
                  cases e1 : atB At x (b : Int) with
                  | false =>
                    rw [e1] at hpp hr3
                    rw [if_neg (by simp)] at hpp
                    have HP := Aside0.mk hpp
                    clear hpp
                    go_wp2_with (fail)
                    go_roundg (N - (b + 1))
                    case measure => omega
                    case rel => exact ⟨b + 1, out2, todo2, by omega, by omega, by first | rfl | rw [show wrap64 ((b : Int) + 1) = ((b + 1 : Nat) : Int) by unfold wrap64; omega], HP, ⟨by have := HTL.out; omega⟩, HO, HQ, HB⟩
                  | true =>
                    rw [e1] at hpp hr3
                    cases e2 : atB out2 (a : Int) (b : Int) with
                    | true =>
                      rw [e2] at hpp ho3
                      rw [if_neg (by simp)] at hpp
                      have HP := Aside0.mk hpp
                      clear hpp
                      go_wp2_with (fail)
                      go_roundg (N - (b + 1))
                      case measure => omega
                      case rel => exact ⟨b + 1, out2, todo2, by omega, by omega, by first | rfl | rw [show wrap64 ((b : Int) + 1) = ((b + 1 : Nat) : Int) by unfold wrap64; omega], HP, ⟨by have := HTL.out; omega⟩, HO, HQ, HB⟩
                    | false =>
                      rw [e2] at hpp ho3
                      rw [if_pos (by simp)] at hpp
                      have HP := Aside0.mk hpp
                      clear hpp
                      go_upto_region 13 with (fail)
                      clear hr1 hr2 hr3 ho1 ho2 ho3
                      obtain ⟨g3, cap3, gi3, ci3, hp0, hp1, hpb, hpz, hR2, hT2⟩ := rel_put HQ.out (a := (a : Int)) (b := (b : Int)) ⟨paz, hltz⟩ ⟨pb, hblz⟩
                      rw [Int.toNat_natCast] at hp1 hpb hpz hR2 hT2
                      have HR2 := Aside0.mk hR2
                      have HT2 := Aside0.mk hT2
                      clear hR2 hT2
                      go_upto_region 14 with (fail)
                      clear hp0 hp1 hpb hpz hc0
                      have n0_ := Aside0.mk (HT2.out.rowQ HO.out (by decide))
                      have n1_ := Aside0.mk (HT2.out.below HB.out (Nat.le_refl _) (below_size HB.out))
                      clear HO HB HQ HT2
                      have HO := n0_
                      have HB := n1_
                      have HQ := HR2
                      clear n0_ n1_ HR2
                      generalize wr.setCell ⟨gi3, b, none⟩ (.bool true) = ws at HO HB HQ ⊢
                      obtain ⟨A6, c6, e6, _⟩ := Kd.Q_slice HO.out
                      subst e6
                      go_wp2_with (first | ((with_reducible refine gate_builtin (b := .append) (xs := #[.tmp 71, .tmp 73]) rfl ?_); at_builtin; refine Kd.Q_append (Kd.int .i64) (w0 := w) w.heap.size rfl (.tmp 71) (.tmp 73) 22 3 (.int .i64 0) 8 rfl Tryd.underlying22 info3 rfl (by decide) (by omega) (.slice A6 todo2.length c6) todo2 (b : Int) [.int .i64 (b : Int)] (fun _ => True) (fun _ => False) rfl rfl rfl (fun _ hk => hk.elim) (fun _ _ => trivial) HO.out HB.out (below_size HB.out) (by have := HTL.out; omega) ?_; intro v6 w6 ho6 hb6 hg6 hat6; have n0_ := Aside0.mk (HQ.out.over (Q_typed HO.out) hg6); have n1_ := Aside0.mk ho6; have n2_ := Aside0.mk hb6; clear HQ HO HB ho6 hb6 hg6 hat6; revert n0_ n1_ n2_; intro HQ HO HB))
                      go_roundg (N - (b + 1))
                      case measure => omega
                      case rel => exact ⟨b + 1, setB out2 (a : Int) (b : Int), todo2 ++ [(b : Int)], by omega, by omega, by first | rfl | rw [show wrap64 ((b : Int) + 1) = ((b + 1 : Nat) : Int) by unfold wrap64; omega], HP, ⟨by rw [List.length_append]; have := HTL.out; simp only [List.length_singleton]; omega⟩, HO, HQ, HB⟩
                · have hblz : ¬ (b : Int) < (N : Int) := by omega
                  have hpp := HP.out
                  rw [show N - b = 0 by omega, rowL] at hpp
                  subst hpp
                  go_wp2_with (fail)
                  go_roundg k1
                  case measure => omega
                  case rel => exact ⟨out2, todo2, HW, HO, HQ, HB⟩
            · rw [if_neg hx] at hw
              cases hw
    · have hltz : ¬ (a : Int) < (N : Int) := by omega
      have hl := HL.out
      rw [show N - a = 0 by omega, leadL] at hl
      injection hl with hl
      subst hl
      go_wp2_with (fail)
      go_ret
      exact ⟨q, rfl, HQ.out, HB.out⟩

theorem fT3 {P : Program} {ops : Array Oper} {Q : Exit → Act → World → Prop} {md : Region.Mode} {S : World → Prop} {ds : List Nat} {i : Nat} {N : Option Tmp} {oi : Oper} {v : Value} {fuel : Nat} {l : Array Bool} {a : Act} {w : World} {a' : Act} (l' : Array Bool) (h : wpAnyLast P md ops Q S ds fuel l' a' w) (hS : S w := by exact hHeld) (hi : ops[i]? = some oi := by rfl) (hN : oi.dst = N := by rfl) (hc : takeB md ops ds l l' i = true := by kernel_rfl) (hQ : ∀ c a w, Q (.panic c) (a.put oi.dst v) w → Q (.panic c) a w := by exact fun _ _ _ h => h) (hy : YieldsIf P ops S oi v a := by (refine Or.inl ⟨by rfl, ?_⟩; rintro w' ⟨s0, s1, s2⟩; go_simp; with_reducible rfl)) (ha : a.put N v = a' := by (simp only [Act.put, List.setIfInBounds_toArray, List.set_cons_zero, List.set_cons_succ, i64_w, i32_w]; rfl)) : wpAnyLast P md ops Q S ds (fuel + 1) l a w := take_ l' hi hN hc hQ hy hS ha h
theorem fl_cells3 {w : World} {g : Nat} {t : TypeId} {x0 x1 x2 : Value} (h : w.heap[g]? = some (.cells #[x0, x1, x2] t (0, 0))) : w.cell? ⟨g, 0, none⟩ = some x0 ∧ w.cell? ⟨g, 1, none⟩ = some x1 ∧ w.cell? ⟨g, 2, none⟩ = some x2 := ⟨(blk_cell h 0).trans rfl, (blk_cell h 1).trans rfl, (blk_cell h 2).trans rfl⟩
set_option maxRecDepth 100000 in
/-- A block's edges, by the function that over hands back. -/
theorem edge_walk (v : Int) (A1 : Option Addr) (c1 : Nat) (l1 : List Int) (A2 : Option Addr) (c2 : Nat) (l2 : List (S36)) (q : Nat) (b : Int) (r : List Int) (w : World) (hbox : w.heap[q]? = some (.cells #[.int .i64 v, .slice A1 l1.length c1, .slice A2 l2.length c2] 25 (0, 0))) (hr1 : Kd.C (Kd.int .i64) w A1 l1.length l1) (hc1 : l1.length ≤ c1) (hr2 : Kd.C k36 w A2 l2.length l2) (hc2 : l2.length ≤ c2) (h : flow_next.f v l1 l2 b = some r) :
    Calls Tryd.prog 64 #[.int .i64 b, .pointer (some ⟨q, 0, none⟩)] w fun e w' => ∃ (Ae : Option Addr) (ce : Nat), e = .returned (.slice Ae r.length ce) ∧ Kd.C (Kd.int .i64) w' Ae r.length r ∧ Below w.heap.size w w' := by
  have hu := Tryd.underlying25
  have HR1 := Aside0.mk hr1
  have HC1 := Aside0.mk hc1
  have HR2 := Aside0.mk hr2
  have HC2 := Aside0.mk hc2
  have HX := Aside0.mk h
  have HB := Aside0.mk (Below.refl w.heap.size w)
  clear hr1 hc1 hr2 hc2 h
  obtain ⟨hb0, hb1, hb2⟩ := fl_cells3 hbox
  go_enter Tryd.func64, Tryd.ntmps64
  go_wp2_with (first | (go_at_call 43; refine (flow_next.calls _ _ _ l1 _ _ l2 _ _ _ (Kd.C_below HR1.out HB.out) HC1.out (Kd.C_below HR2.out HB.out) HC2.out HX.out).mono ?_; rintro e w1 ⟨vn, rfl, hn, hb⟩; have HN := Aside0.mk hn; have n0_ := Aside0.mk (below_step HB.out hb); clear HB hb hn; revert n0_; intro HB))
  obtain ⟨An, cn, en⟩ := Kd.R_slice HN.out
  subst en
  go_ret
  exact ⟨_, _, rfl, (Kd.R_reads' HN.out).2.2, HB.out⟩
set_option maxRecDepth 100000 in
theorem over_walk (v : Int) (A1 : Option Addr) (c1 : Nat) (l1 : List Int) (A2 : Option Addr) (c2 : Nat) (l2 : List (S36)) (w : World) :
    Calls Tryd.prog 41 #[.agg #[.int .i64 v, .slice A1 l1.length c1, .slice A2 l2.length c2]] w fun e w' => ∃ q : Nat, e = .returned (.func (.func 64) #[] #[.pointer (some ⟨q, 0, none⟩)]) ∧ w'.heap[q]? = some (.cells #[.int .i64 v, .slice A1 l1.length c1, .slice A2 l2.length c2] 25 (0, 0)) ∧ w.heap.size ≤ q ∧ Below w.heap.size w w' := by
  have hu := Tryd.underlying25
  have hmf : ∀ (fn : Fn) (first cap : Array Value) (w : World), (Instr.makeFunc fn first cap).run Tryd.prog w = .ok (.func fn first cap) w := fun _ _ _ _ => rfl
  have HB := Aside0.mk (Below.refl w.heap.size w)
  go_enter Tryd.func41, Tryd.ntmps41
  go_wp2_with (first | ((with_reducible refine gate_dst (N := 1) rfl ?_); refine box_event ?hg (N := 1) ?hd (cs := #[.int .i64 v, .slice A1 l1.length c1, .slice A2 l2.length c2]) (t := 25) ?hr ?_; (case hd => rfl); (case hg => rfl); (case hr => first | (go_simp; done) | (go_simp; rfl)); intro gb hg wb hbox hb; have GE0 := Aside0.mk (show w.heap.size ≤ gb by rw [hg]; exact below_size (by repeat (first | (with_reducible first | exact HB.out | apply below_alloc | apply pw_below_drewN | apply below_drew1) | exact HB.out))); have n0_ := Aside0.mk (below_step (by repeat (first | (with_reducible first | exact HB.out | apply below_alloc | apply pw_below_drewN | apply below_drew1) | exact HB.out)) hb); have BKgb := Aside0.mk hbox; clear HB; have HB := n0_; clear n0_ hb hbox hg))
  go_ret
  exact ⟨gb, rfl, BKgb.out, GE0.out, HB.out⟩
def flow_Reached.f (k : Nat) (v : Int) (l1 : List Int) (l2 : List (S36)) : Option (List Bool) := (flow_right.f v l1 l2).bind fun t => if t = true then walkF (fun b => flow_next.f v l1 l2 b) k (l2.length : Int) [0] (-1) else some []
set_option maxRecDepth 100000 in
set_option maxHeartbeats 4000000 in
theorem flow_Reached.calls (k : Nat) (v : Int) (A1 : Option Addr) (c1 : Nat) (l1 : List Int) (A2 : Option Addr) (c2 : Nat) (l2 : List (S36)) (r : List Bool) (w : World) (hr1 : Kd.C (Kd.int .i64) w A1 l1.length l1) (hc1 : l1.length ≤ c1) (hr2 : Kd.C k36 w A2 l2.length l2) (hc2 : l2.length ≤ c2) (hG : OpsLaid w) (h : flow_Reached.f k v l1 l2 = some r) :
    Calls Tryd.prog 20 #[.agg #[.int .i64 v, .slice A1 l1.length c1, .slice A2 l2.length c2]] w fun e w' => ∃ v0_ : Value, e = .returned v0_ ∧ Kd.R Kd.bool 4 w' w.heap.size (fun _ => True) v0_ r ∧ Below w.heap.size w w' := by
  have hu := Tryd.underlying25
  have HR1 := Aside0.mk hr1
  have HC1 := Aside0.mk hc1
  have HR2 := Aside0.mk hr2
  have HC2 := Aside0.mk hc2
  have HG := Aside0.mk hG
  have HB := Aside0.mk (Below.refl w.heap.size w)
  clear hr1 hc1 hr2 hc2 hG
  obtain ⟨t, hrt, h⟩ := Option.bind_eq_some_iff.1 h
  have HRT := Aside0.mk hrt
  clear hrt
  go_enter Tryd.func20, Tryd.ntmps20
  go_upto_region 1 with (first | ((with_reducible refine gate_dst (N := 1) rfl ?_); refine box_event ?hg (N := 1) ?hd (cs := #[.int .i64 v, .slice A1 l1.length c1, .slice A2 l2.length c2]) (t := 25) ?hr ?_; (case hd => rfl); (case hg => rfl); (case hr => first | (go_simp; done) | (go_simp; rfl)); intro gb hg wb hbox hb; have GE0 := Aside0.mk (show w.heap.size ≤ gb by rw [hg]; exact below_size (by repeat (first | (with_reducible first | exact HB.out | apply below_alloc | apply pw_below_drewN | apply below_drew1) | exact HB.out))); have n0_ := Aside0.mk (below_step (by repeat (first | (with_reducible first | exact HB.out | apply below_alloc | apply pw_below_drewN | apply below_drew1) | exact HB.out)) hb); have BKgb := Aside0.mk hbox; clear HB; have HB := n0_; clear n0_ hb hbox hg))
  obtain ⟨hb0, hb1, hb2⟩ := fl_cells3 BKgb.out
  go_upto_region 2 with (fail)
  refine (flow_right.calls _ _ _ l1 _ _ l2 _ _ (Kd.C_below HR1.out HB.out) HC1.out (Kd.C_below HR2.out HB.out) HC2.out (HG.out.below (Nat.le_refl _) HB.out) HRT.out).mono ?_
  rintro e w1 ⟨rfl, hb⟩
  have n0_ := Aside0.mk (below_step HB.out hb)
  have n1_ := Aside0.mk (blk_below BKgb.out hb)
  clear HB BKgb hb0 hb1 hb2 hb
  revert n0_ n1_; intro HB BKgb
  cases t with
  | false =>
    rw [if_neg (by decide)] at h
    injection h with h
    subst h
    go_wp2_with (fail)
    go_ret
    exact ⟨_, rfl, Kd.R_nil _ _ _ _ _, HB.out⟩
  | true =>
    rw [if_pos rfl] at h
    have HW := Aside0.mk h
    clear h
    go_upto_region 3 with (fail)
    have hdrew := below_drew1 (Below.refl w1.heap.size w1)
    have n0_ := Aside0.mk (below_step HB.out hdrew); have n1_ := Aside0.mk (blk_below BKgb.out hdrew); clear HB BKgb; revert n0_ n1_; intro HB BKgb
    clear hdrew
    refine start_ (n := 8) (S := fun w' => (w'.cell? ⟨gb, 0, none⟩ = some (.int .i64 v) ∧ w'.cell? ⟨gb, 1, none⟩ = some (.slice A1 l1.length c1) ∧ w'.cell? ⟨gb, 2, none⟩ = some (.slice A2 l2.length c2))) (ds := []) (fm_ 8 0) (by kernel_rfl) rfl rfl (fl_cells3 BKgb.out) (fun hHeld => ?_)
    generalize w1.drew = wd at HB BKgb hHeld ⊢
    refine fP (i := 0) (N := some 6) (fm_ 8 1) ?_
    refine fT3 (i := 1) (N := some 7) (fm_ 8 3) ?_
    refine fP (i := 2) (N := some 8) (fm_ 8 7) ?_
    refine fT3 (i := 4) (N := some 10) (fm_ 8 23) ?_
    refine join_ (σ := Value × Nat) 2 (fm_ 8 63) (fun s_ => [(9, s_.1), (11, (.func (.func 64) #[] #[.pointer (some ⟨s_.2, 0, none⟩)]))]) (fun s_ w' => (w'.cell? ⟨gb, 0, none⟩ = some (.int .i64 v) ∧ w'.cell? ⟨gb, 1, none⟩ = some (.slice A1 l1.length c1) ∧ w'.cell? ⟨gb, 2, none⟩ = some (.slice A2 l2.length c2)) ∧ Kd.R (Kd.int .i64) 3 w' w.heap.size (fun _ => True) s_.1 [0] ∧ w'.heap[gb]? = some (.cells #[.int .i64 v, .slice A1 l1.length c1, .slice A2 l2.length c2] 25 (0, 0)) ∧ w'.heap[s_.2]? = some (.cells #[.int .i64 v, .slice A1 l1.length c1, .slice A2 l2.length c2] 25 (0, 0)) ∧ Below w.heap.size w w') ?_ ?_
    rotate_left
    · intro hCont
      refine two_ (i := 3) (j := 5) (Ni := some 9) (Nj := some 11) (fm_ 8 31) (fm_ 8 55) rfl rfl rfl rfl (by kernel_rfl) (by decide) (by decide) (fun K hK => ?_) (fun K hK => ?_)
      · refine Kd.R_lit_step (Kd.int .i64) (w0 := w) w.heap.size 3 rfl (N := 9) rfl (xs := [(0 : Int)]) (inner := [.int .i64 (0 : Int)]) (ok := fun _ => True) (okp := fun _ => True) (by first | (go_simp; done) | (go_simp; rfl)) (Reps.one (show (Kd.int .i64).M _ _ _ (0 : Int) [.int .i64 (0 : Int)] from rfl) (Reps.none _ _)) (fun _ hk => hk) trivial HB.out (below_size HB.out) (by simp) ?_
        intro vr wm hrow hb hg hnew
        have n0_ := Aside0.mk (hb); have n1_ := Aside0.mk (blk_grown BKgb.out hg (by simp)); clear HB BKgb; revert n0_ n1_; intro HB BKgb
        have HL := Aside0.mk hrow
        clear hb hg hnew hrow
        refine hK.out _ _ (fl_cells3 BKgb.out) (fun hHeld => ?_)
        clear hK K
        refine nP (N := some 9) ?_
        refine one_ (i := 5) (N := some 11) (fm_ 8 63) rfl rfl (by kernel_rfl) (by decide) (fun K hK => ?_)
        refine goes_ Tryd.func41 (by kernel_rfl) rfl #[.agg #[.int .i64 v, .slice A1 l1.length c1, .slice A2 l2.length c2]] (by rfl) rfl rfl (by (try simp only [List.map_toArray, List.map_cons, List.map_nil]); first | done | rfl) ?_
        refine (over_walk v A1 c1 l1 A2 c2 l2 _).mono ?_
        rintro e w3 ⟨q, rfl, hq, _, hb⟩
        refine ⟨_, rfl, ?_⟩
        have n0_ := Aside0.mk (below_step HB.out hb); have n1_ := Aside0.mk (blk_below BKgb.out hb); have n2_ := Aside0.mk (Kd.R_below HL.out hb); clear HB BKgb HL; revert n0_ n1_ n2_; intro HB BKgb HL
        have HQ := Aside0.mk hq
        clear hb hq
        refine hK.out _ _ (fl_cells3 BKgb.out) (fun hHeld => ?_)
        clear hK K
        refine nP (N := some 11) ?_
        exact norm_ (by simp only [putAll, Act.put, List.setIfInBounds_toArray, List.set_cons_zero, List.set_cons_succ]) (hCont (vr, q) _ ⟨hHeld, HL.out, BKgb.out, HQ.out, HB.out⟩)
      · refine goes_ Tryd.func41 (by kernel_rfl) rfl #[.agg #[.int .i64 v, .slice A1 l1.length c1, .slice A2 l2.length c2]] (by rfl) rfl rfl (by (try simp only [List.map_toArray, List.map_cons, List.map_nil]); first | done | rfl) ?_
        refine (over_walk v A1 c1 l1 A2 c2 l2 _).mono ?_
        rintro e w3 ⟨q, rfl, hq, _, hb⟩
        refine ⟨_, rfl, ?_⟩
        have n0_ := Aside0.mk (below_step HB.out hb); have n1_ := Aside0.mk (blk_below BKgb.out hb); clear HB BKgb; revert n0_ n1_; intro HB BKgb
        have HQ := Aside0.mk hq
        clear hb hq
        refine hK.out _ _ (fl_cells3 BKgb.out) (fun hHeld => ?_)
        clear hK K
        refine nP (N := some 11) ?_
        refine one_ (i := 3) (N := some 9) (fm_ 8 63) rfl rfl (by kernel_rfl) (by decide) (fun K hK => ?_)
        refine Kd.R_lit_step (Kd.int .i64) (w0 := w) w.heap.size 3 rfl (N := 9) rfl (xs := [(0 : Int)]) (inner := [.int .i64 (0 : Int)]) (ok := fun _ => True) (okp := fun _ => True) (by first | (go_simp; done) | (go_simp; rfl)) (Reps.one (show (Kd.int .i64).M _ _ _ (0 : Int) [.int .i64 (0 : Int)] from rfl) (Reps.none _ _)) (fun _ hk => hk) trivial HB.out (below_size HB.out) (by simp) ?_
        intro vr wm hrow hb hg hnew
        have n0_ := Aside0.mk (hb); have n1_ := Aside0.mk (blk_grown BKgb.out hg (by simp)); have n2_ := Aside0.mk (blk_grown HQ.out hg (by simp)); clear HB BKgb HQ; revert n0_ n1_ n2_; intro HB BKgb HQ
        have HL := Aside0.mk hrow
        clear hb hg hnew hrow
        refine hK.out _ _ (fl_cells3 BKgb.out) (fun hHeld => ?_)
        clear hK K
        refine nP (N := some 9) ?_
        exact norm_ (by simp only [putAll, Act.put, List.setIfInBounds_toArray, List.set_cons_zero, List.set_cons_succ]) (hCont (vr, q) _ ⟨hHeld, HL.out, BKgb.out, HQ.out, HB.out⟩)
    rintro ⟨vr, q⟩ w2 ⟨hHeld, hL_, hBK_, hQ_, hB_⟩
    have HL := Aside0.mk hL_
    have HQ := Aside0.mk hQ_
    clear HB BKgb
    have HB := Aside0.mk hB_
    have BKgb := Aside0.mk hBK_
    clear hL_ hBK_ hQ_ hB_
    obtain ⟨A9, c9, e9⟩ := Kd.R_slice HL.out
    subst e9
    refine norm_ (a' := ?_) (by simp only [putAll, Act.put, List.setIfInBounds_toArray, List.set_cons_zero, List.set_cons_succ]; rfl) ?_
    refine one_ (i := 6) (N := some 12) (fm_ 8 127) rfl rfl (by kernel_rfl) (by decide) (fun K hK => ?_)
    refine goes_ Tryd.func40 (by kernel_rfl) rfl #[.int .i64 (l2.length : Int), .slice A9 ([0] : List Int).length c9, (.func (.func 64) #[] #[.pointer (some ⟨q, 0, none⟩)]), .int .i64 (-1)] (by rfl) rfl rfl (by (try simp only [List.map_toArray, List.map_cons, List.map_nil]); first | done | rfl) ?_
    refine (flow_walk (fun b => flow_next.f v l1 l2 b) 64 #[.pointer (some ⟨q, 0, none⟩)] (fun args w => enters_ Tryd.func64 (by kernel_rfl) rfl args w) k _ (-1) A9 c9 [0] _ w2 (Kd.R_reads' HL.out).2.2 (Kd.R_reads' HL.out).2.1 (fun W b l hBW hb => edge_walk v A1 c1 l1 A2 c2 l2 q b l W (blk_below HQ.out hBW) (Kd.C_below (Kd.C_below HR1.out HB.out) hBW) HC1.out (Kd.C_below (Kd.C_below HR2.out HB.out) hBW) HC2.out hb) HW.out).mono ?_
    rintro e w3 ⟨vo, rfl, ho, hb⟩
    refine ⟨_, rfl, ?_⟩
    have HB0 := HB
    have HO := Aside0.mk ho
    have n0_ := Aside0.mk (below_step HB.out hb); have n1_ := Aside0.mk (blk_below BKgb.out hb); clear HB BKgb; revert n0_ n1_; intro HB BKgb
    clear hb ho
    refine hK.out _ _ (fl_cells3 BKgb.out) (fun hHeld => ?_)
    clear hK K
    refine nP (N := some 12) ?_
    refine fP (i := 7) (N := some 2) (fm_ 8 255) ?_
    refine done_ (by kernel_rfl) ?_
    go_wp2_with (fail)
    go_ret
    exact ⟨_, rfl, Kd.R_lower HO.out (below_size HB0.out), HB.out⟩

theorem fO {P : Program} {ops : Array Oper} {Q : Exit → Act → World → Prop} {md : Region.Mode} {S : World → Prop} {ds : List Nat} {i : Nat} {N : Option Tmp} {oi : Oper} {fuel : Nat} {l : Array Bool} {a : Act} {w : World} {a' : Act} (l' : Array Bool) (h : wpAnyLast P md ops Q S ds fuel l' a' w) (hi : ops[i]? = some oi := by rfl) (hN : oi.dst = N := by rfl) (hc : anyB md ops l l' i = true := by kernel_rfl) (hQ : ∀ c a w, Q (.panic c) (a.put oi.dst undef) w → Q (.panic c) a w := by exact fun _ _ _ h => h) (hy : Yields P ops oi undef a := by exact Or.inr ⟨by rfl, rfl⟩) (ha : a.put N undef = a' := by (simp only [Act.put, List.setIfInBounds_toArray, List.set_cons_zero, List.set_cons_succ, i64_w, i32_w]; rfl)) : wpAnyLast P md ops Q S ds (fuel + 1) l a w := pure_ l' hi hN hc hQ hy ha h
def flow_ahead.f (k : Nat) (v : Int) (l1 : List Int) (l2 : List (S36)) (a b : Int) : Option Bool := if a = b then some true else (walkF (fun x => flow_next.f v l1 l2 x) k (l2.length : Int) [0] a).bind fun m => if 0 ≤ b ∧ b < (m.length : Int) then some (!(m.getD b.toNat false)) else none
set_option maxRecDepth 100000 in
set_option maxHeartbeats 8000000 in
theorem flow_ahead.calls (k : Nat) (v : Int) (A1 : Option Addr) (c1 : Nat) (l1 : List Int) (A2 : Option Addr) (c2 : Nat) (l2 : List (S36)) (a b : Int) (r : Bool) (w : World) (hr1 : Kd.C (Kd.int .i64) w A1 l1.length l1) (hc1 : l1.length ≤ c1) (hr2 : Kd.C k36 w A2 l2.length l2) (hc2 : l2.length ≤ c2) (h : flow_ahead.f k v l1 l2 a b = some r) :
    Calls Tryd.prog 45 #[.agg #[.int .i64 v, .slice A1 l1.length c1, .slice A2 l2.length c2], .int .i64 a, .int .i64 b] w fun e w' => e = .returned (.bool r) ∧ Below w.heap.size w w' := by
  have hu := Tryd.underlying25
  have HR1 := Aside0.mk hr1
  have HC1 := Aside0.mk hc1
  have HR2 := Aside0.mk hr2
  have HC2 := Aside0.mk hc2
  have HB := Aside0.mk (Below.refl w.heap.size w)
  clear hr1 hc1 hr2 hc2
  unfold flow_ahead.f at h
  go_enter Tryd.func45, Tryd.ntmps45
  go_upto_region 1 with (first | ((with_reducible refine gate_dst (N := 3) rfl ?_); refine box_event ?hg (N := 3) ?hd (cs := #[.int .i64 v, .slice A1 l1.length c1, .slice A2 l2.length c2]) (t := 25) ?hr ?_; (case hd => rfl); (case hg => rfl); (case hr => first | (go_simp; done) | (go_simp; rfl)); intro gb hg wb hbox hb; have GE0 := Aside0.mk (show w.heap.size ≤ gb by rw [hg]; exact below_size (by repeat (first | (with_reducible first | exact HB.out | apply below_alloc | apply pw_below_drewN | apply below_drew1) | exact HB.out))); have n0_ := Aside0.mk (below_step (by repeat (first | (with_reducible first | exact HB.out | apply below_alloc | apply pw_below_drewN | apply below_drew1) | exact HB.out)) hb); have BKgb := Aside0.mk hbox; clear HB; have HB := n0_; clear n0_ hb hbox hg))
  generalize wb = w1 at HB BKgb ⊢
  by_cases hab : a = b
  · subst hab
    rw [if_pos rfl] at h
    injection h with h
    subst h
    have hdrew := below_drew1 (Below.refl w1.heap.size w1)
    have n0_ := Aside0.mk (below_step HB.out hdrew); have n1_ := Aside0.mk (blk_below BKgb.out hdrew); clear HB BKgb; revert n0_ n1_; intro HB BKgb
    clear hdrew
    refine start_ (n := 18) (S := fun w' => w'.cell? ⟨gb, 0, none⟩ = some (.int .i64 v)) (ds := []) (fm_ 18 0) (by kernel_rfl) rfl rfl ((fl_cells3 BKgb.out).1) (fun hHeld => ?_)
    generalize w1.drew = wd at HB BKgb hHeld ⊢
    refine fP (i := 0) (N := some 7) (fm_ 18 1) ?_
    refine fP (i := 1) (N := some 8) (fm_ 18 3) ?_
    refine fP (v := .bool true) (hy := by refine Or.inl ⟨by rfl, ?_⟩; intro w'; first | (go_simp; done) | (go_simp; simp)) (i := 2) (N := some 9) (fm_ 18 7) ?_
    refine fP (i := 3) (N := some 10) (fm_ 18 15) ?_
    refine fO (i := 4) (N := some 11) (fm_ 18 31) ?_
    refine fO (i := 5) (N := some 12) (fm_ 18 63) ?_
    refine fO (i := 6) (N := some 13) (fm_ 18 127) ?_
    refine fO (i := 7) (N := some 14) (fm_ 18 255) ?_
    refine fO (i := 8) (N := some 15) (fm_ 18 511) ?_
    refine fO (i := 9) (N := some 16) (fm_ 18 1023) ?_
    refine fO (i := 10) (N := some 17) (fm_ 18 2047) ?_
    refine fO (i := 11) (N := some 18) (fm_ 18 4095) ?_
    refine fO (i := 12) (N := some 19) (fm_ 18 8191) ?_
    refine fO (i := 13) (N := some 20) (fm_ 18 16383) ?_
    refine fO (i := 14) (N := some 21) (fm_ 18 32767) ?_
    refine fO (i := 15) (N := some 22) (fm_ 18 65535) ?_
    refine fP (i := 16) (N := some 23) (fm_ 18 131071) ?_
    refine fP (i := 17) (N := some 6) (fm_ 18 262143) ?_
    refine done_ (by kernel_rfl) ?_
    go_wp2_with (fail)
    go_ret
    exact ⟨rfl, HB.out⟩
  · rw [if_neg hab] at h
    obtain ⟨m, hw, h⟩ := Option.bind_eq_some_iff.1 h
    have hbb : 0 ≤ b ∧ b < (m.length : Int) := by
      split at h
      · assumption
      · cases h
    rw [if_pos hbb] at h
    injection h with h
    obtain ⟨hb0, hb1⟩ := hbb
    have HW := Aside0.mk hw
    have HX := Aside0.mk h
    clear hw h
    have hdrew := below_drew1 (Below.refl w1.heap.size w1)
    have n0_ := Aside0.mk (below_step HB.out hdrew); have n1_ := Aside0.mk (blk_below BKgb.out hdrew); clear HB BKgb; revert n0_ n1_; intro HB BKgb
    clear hdrew
    refine start_ (n := 18) (S := fun w' => (w'.cell? ⟨gb, 0, none⟩ = some (.int .i64 v) ∧ w'.cell? ⟨gb, 1, none⟩ = some (.slice A1 l1.length c1) ∧ w'.cell? ⟨gb, 2, none⟩ = some (.slice A2 l2.length c2))) (ds := []) (fm_ 18 0) (by kernel_rfl) rfl rfl (fl_cells3 BKgb.out) (fun hHeld => ?_)
    generalize w1.drew = wd at HB BKgb hHeld ⊢
    refine fP (i := 0) (N := some 7) (fm_ 18 1) ?_
    refine fP (i := 1) (N := some 8) (fm_ 18 3) ?_
    refine fP (v := .bool false) (hy := by refine Or.inl ⟨by rfl, ?_⟩; intro w'; first | (go_simp; done) | (go_simp; simp [hab])) (i := 2) (N := some 9) (fm_ 18 7) ?_
    refine fP (i := 3) (N := some 10) (fm_ 18 15) ?_
    refine fP (i := 4) (N := some 11) (fm_ 18 31) ?_
    refine fT3 (i := 5) (N := some 12) (fm_ 18 63) ?_
    refine fP (i := 6) (N := some 13) (fm_ 18 127) ?_
    refine fT3 (i := 8) (N := some 15) (fm_ 18 383) ?_
    refine fP (i := 10) (N := some 17) (fm_ 18 1407) ?_
    refine fP (i := 12) (N := some 19) (fm_ 18 5503) ?_
    refine join_ (σ := Value × Nat) 6 (fm_ 18 6143) (fun s_ => [(14, s_.1), (16, (.func (.func 64) #[] #[.pointer (some ⟨s_.2, 0, none⟩)]))]) (fun s_ w' => (w'.cell? ⟨gb, 0, none⟩ = some (.int .i64 v) ∧ w'.cell? ⟨gb, 1, none⟩ = some (.slice A1 l1.length c1) ∧ w'.cell? ⟨gb, 2, none⟩ = some (.slice A2 l2.length c2)) ∧ Kd.R (Kd.int .i64) 3 w' w.heap.size (fun _ => True) s_.1 [0] ∧ w'.heap[gb]? = some (.cells #[.int .i64 v, .slice A1 l1.length c1, .slice A2 l2.length c2] 25 (0, 0)) ∧ w'.heap[s_.2]? = some (.cells #[.int .i64 v, .slice A1 l1.length c1, .slice A2 l2.length c2] 25 (0, 0)) ∧ Below w.heap.size w w') ?_ ?_
    rotate_left
    · intro hCont
      refine two_ (i := 7) (j := 9) (Ni := some 14) (Nj := some 16) (fm_ 18 5631) (fm_ 18 6015) rfl rfl rfl rfl (by kernel_rfl) (by decide) (by decide) (fun K hK => ?_) (fun K hK => ?_)
      · refine Kd.R_lit_step (Kd.int .i64) (w0 := w) w.heap.size 3 rfl (N := 14) rfl (xs := [(0 : Int)]) (inner := [.int .i64 (0 : Int)]) (ok := fun _ => True) (okp := fun _ => True) (by first | (go_simp; done) | (go_simp; rfl)) (Reps.one (show (Kd.int .i64).M _ _ _ (0 : Int) [.int .i64 (0 : Int)] from rfl) (Reps.none _ _)) (fun _ hk => hk) trivial HB.out (below_size HB.out) (by simp) ?_
        intro vr wm hrow hb hg hnew
        have n0_ := Aside0.mk (hb); have n1_ := Aside0.mk (blk_grown BKgb.out hg (by simp)); clear HB BKgb; revert n0_ n1_; intro HB BKgb
        have HL := Aside0.mk hrow
        clear hb hg hnew hrow
        refine hK.out _ _ (fl_cells3 BKgb.out) (fun hHeld => ?_)
        clear hK K
        refine nP (N := some 14) ?_
        refine one_ (i := 9) (N := some 16) (fm_ 18 6143) rfl rfl (by kernel_rfl) (by decide) (fun K hK => ?_)
        refine goes_ Tryd.func41 (by kernel_rfl) rfl #[.agg #[.int .i64 v, .slice A1 l1.length c1, .slice A2 l2.length c2]] (by rfl) rfl rfl (by (try simp only [List.map_toArray, List.map_cons, List.map_nil]); first | done | rfl) ?_
        refine (over_walk v A1 c1 l1 A2 c2 l2 _).mono ?_
        rintro e w3 ⟨q, rfl, hq, _, hb⟩
        refine ⟨_, rfl, ?_⟩
        have n0_ := Aside0.mk (below_step HB.out hb); have n1_ := Aside0.mk (blk_below BKgb.out hb); have n2_ := Aside0.mk (Kd.R_below HL.out hb); clear HB BKgb HL; revert n0_ n1_ n2_; intro HB BKgb HL
        have HQ := Aside0.mk hq
        clear hb hq
        refine hK.out _ _ (fl_cells3 BKgb.out) (fun hHeld => ?_)
        clear hK K
        refine nP (N := some 16) ?_
        exact norm_ (by simp only [putAll, Act.put, List.setIfInBounds_toArray, List.set_cons_zero, List.set_cons_succ]) (hCont (vr, q) _ ⟨hHeld, HL.out, BKgb.out, HQ.out, HB.out⟩)
      · refine goes_ Tryd.func41 (by kernel_rfl) rfl #[.agg #[.int .i64 v, .slice A1 l1.length c1, .slice A2 l2.length c2]] (by rfl) rfl rfl (by (try simp only [List.map_toArray, List.map_cons, List.map_nil]); first | done | rfl) ?_
        refine (over_walk v A1 c1 l1 A2 c2 l2 _).mono ?_
        rintro e w3 ⟨q, rfl, hq, _, hb⟩
        refine ⟨_, rfl, ?_⟩
        have n0_ := Aside0.mk (below_step HB.out hb); have n1_ := Aside0.mk (blk_below BKgb.out hb); clear HB BKgb; revert n0_ n1_; intro HB BKgb
        have HQ := Aside0.mk hq
        clear hb hq
        refine hK.out _ _ (fl_cells3 BKgb.out) (fun hHeld => ?_)
        clear hK K
        refine nP (N := some 16) ?_
        refine one_ (i := 7) (N := some 14) (fm_ 18 6143) rfl rfl (by kernel_rfl) (by decide) (fun K hK => ?_)
        refine Kd.R_lit_step (Kd.int .i64) (w0 := w) w.heap.size 3 rfl (N := 14) rfl (xs := [(0 : Int)]) (inner := [.int .i64 (0 : Int)]) (ok := fun _ => True) (okp := fun _ => True) (by first | (go_simp; done) | (go_simp; rfl)) (Reps.one (show (Kd.int .i64).M _ _ _ (0 : Int) [.int .i64 (0 : Int)] from rfl) (Reps.none _ _)) (fun _ hk => hk) trivial HB.out (below_size HB.out) (by simp) ?_
        intro vr wm hrow hb hg hnew
        have n0_ := Aside0.mk (hb); have n1_ := Aside0.mk (blk_grown BKgb.out hg (by simp)); have n2_ := Aside0.mk (blk_grown HQ.out hg (by simp)); clear HB BKgb HQ; revert n0_ n1_ n2_; intro HB BKgb HQ
        have HL := Aside0.mk hrow
        clear hb hg hnew hrow
        refine hK.out _ _ (fl_cells3 BKgb.out) (fun hHeld => ?_)
        clear hK K
        refine nP (N := some 14) ?_
        exact norm_ (by simp only [putAll, Act.put, List.setIfInBounds_toArray, List.set_cons_zero, List.set_cons_succ]) (hCont (vr, q) _ ⟨hHeld, HL.out, BKgb.out, HQ.out, HB.out⟩)
    rintro ⟨vr, q⟩ w2 ⟨hHeld, hL_, hBK_, hQ_, hB_⟩
    have HL := Aside0.mk hL_
    have HQ := Aside0.mk hQ_
    clear HB BKgb
    have HB := Aside0.mk hB_
    have BKgb := Aside0.mk hBK_
    clear hL_ hBK_ hQ_ hB_
    obtain ⟨A9, c9, e9⟩ := Kd.R_slice HL.out
    subst e9
    refine norm_ (a' := ?_) (by simp only [putAll, Act.put, List.setIfInBounds_toArray, List.set_cons_zero, List.set_cons_succ]; rfl) ?_
    refine one_ (i := 11) (N := some 18) (fm_ 18 8191) rfl rfl (by kernel_rfl) (by decide) (fun K hK => ?_)
    refine goes_ Tryd.func40 (by kernel_rfl) rfl #[.int .i64 (l2.length : Int), .slice A9 ([0] : List Int).length c9, (.func (.func 64) #[] #[.pointer (some ⟨q, 0, none⟩)]), .int .i64 a] (by rfl) rfl rfl (by (try simp only [List.map_toArray, List.map_cons, List.map_nil]); first | done | rfl) ?_
    refine (flow_walk (fun b => flow_next.f v l1 l2 b) 64 #[.pointer (some ⟨q, 0, none⟩)] (fun args w => enters_ Tryd.func64 (by kernel_rfl) rfl args w) k _ a A9 c9 [0] _ w2 (Kd.R_reads' HL.out).2.2 (Kd.R_reads' HL.out).2.1 (fun W b l hBW hb => edge_walk v A1 c1 l1 A2 c2 l2 q b l W (blk_below HQ.out hBW) (Kd.C_below (Kd.C_below HR1.out HB.out) hBW) HC1.out (Kd.C_below (Kd.C_below HR2.out HB.out) hBW) HC2.out hb) HW.out).mono ?_
    rintro e w3 ⟨vo, rfl, ho, hb⟩
    refine ⟨_, rfl, ?_⟩
    have HB0 := HB
    have HO := Aside0.mk ho
    have n0_ := Aside0.mk (below_step HB.out hb); have n1_ := Aside0.mk (blk_below BKgb.out hb); clear HB BKgb; revert n0_ n1_; intro HB BKgb
    clear hb ho
    refine hK.out _ _ (fl_cells3 BKgb.out) (fun hHeld => ?_)
    clear hK K
    refine nP (N := some 18) ?_
    obtain ⟨Ao, co, eo⟩ := Kd.R_slice HO.out
    subst eo
    obtain ⟨ai, ei, hci⟩ := Kd.at_bool (Kd.R_reads' HO.out).2.2 b hb0 hb1
    subst ei
    refine fP (i := 13) (N := some 20) (fm_ 18 16383) ?_
    refine one_ (i := 14) (N := some 21) (fm_ 18 32767) rfl rfl (by kernel_rfl) (by decide) (fun K hK => ?_)
    refine value_ (w1 := ?_) (v := ?_) (by rfl) rfl ?_ ?_
    rotate_left 2
    · go_simp
      constructor
      · rfl
      · rfl
    refine hK.out _ _ (fl_cells3 BKgb.out) (fun hHeld => ?_)
    clear hK K
    refine nP (N := some 21) ?_
    refine fP (i := 15) (N := some 22) (fm_ 18 65535) ?_
    refine fP (i := 16) (N := some 23) (fm_ 18 131071) ?_
    refine fP (i := 17) (N := some 6) (fm_ 18 262143) ?_
    refine done_ (by kernel_rfl) ?_
    go_wp2_with (fail)
    go_ret
    exact ⟨by first | rw [HX.out] | (rw [← HX.out]; rfl), HB.out⟩

def edgeRow (N : Nat) (but a : Int) : List Int → List (List Bool) → List (List Bool)
  | [], At => At
  | x :: r, At => edgeRow N but a r (if a ≠ but ∧ x ≠ but then addR N At a x else At)
def edgesL (N : Nat) (but : Int) : Nat → List S36 → List (List Bool) → Option (List (List Bool))
  | _, [], At => some At
  | a, b :: r, At => (spinnakerref26_Next.f b.f1.f0 b.f1.f1 b.f1.f2 b.f1.f3).bind fun l => if l.length ≤ 4294967296 then edgesL N but (a + 1) r (edgeRow N but (a : Int) l At) else none
/-- Where a thread's blocks lead, as a relation, but over one. -/
def edgesF (but : Int) (l2 : List S36) : Option (List (List Bool)) := if l2.length ≤ 512 then edgesL l2.length but 0 l2 (List.replicate l2.length (List.replicate l2.length false)) else none
theorem e_drop {α : Type} (l : List α) (z : α) (i : Nat) (h : i < l.length) : l.drop i = l.getD i z :: l.drop (i + 1) := by
  rw [List.drop_eq_getElem_cons h]
  simp [h]
set_option maxRecDepth 100000 in
set_option maxHeartbeats 8000000 in
theorem edges_walk (v : Int) (A1 : Option Addr) (c1 : Nat) (l1 : List Int) (A2 : Option Addr) (c2 : Nat) (l2 : List (S36)) (but : Int) (r : List (List Bool)) (w : World) (hr1 : Kd.C (Kd.int .i64) w A1 l1.length l1) (hc1 : l1.length ≤ c1) (hr2 : Kd.C k36 w A2 l2.length l2) (hc2 : l2.length ≤ c2) (h : edgesF but l2 = some r) :
    Calls Tryd.prog 28 #[.agg #[.int .i64 v, .slice A1 l1.length c1, .slice A2 l2.length c2], .int .i64 but] w fun e w' => ∃ q : Nat, e = .returned (.pointer (some ⟨q, 0, none⟩)) ∧ RelIs w' w.heap.size q l2.length r ∧ Below w.heap.size w w' := by
  have hu := Tryd.underlying25
  have hu2 := Tryd.underlying36
  have hu3 := Tryd.underlying34
  have HN5 : Aside0 (l2.length ≤ 512) := ⟨by unfold edgesF at h; split at h; assumption; cases h⟩
  unfold edgesF at h
  rw [if_pos HN5.out] at h
  have HR2 := Aside0.mk hr2
  have HE := Aside0.mk h
  have HB := Aside0.mk (Below.refl w.heap.size w)
  clear hr1 hc1 hr2 hc2 h
  go_enter Tryd.func28, Tryd.ntmps28
  go_upto_region 1 with (first | ((with_reducible refine gate_dst (N := 2) rfl ?_); refine box_event ?hg (N := 2) ?hd (cs := #[.int .i64 v, .slice A1 l1.length c1, .slice A2 l2.length c2]) (t := 25) ?hr ?_; (case hd => rfl); (case hg => rfl); (case hr => first | (go_simp; done) | (go_simp; rfl)); intro gb hg wb hbox hb; have GE0 := Aside0.mk (show w.heap.size ≤ gb by rw [hg]; exact below_size (by repeat (first | (with_reducible first | exact HB.out | apply below_alloc | apply pw_below_drewN | apply below_drew1) | exact HB.out))); have n0_ := Aside0.mk (below_step (by repeat (first | (with_reducible first | exact HB.out | apply below_alloc | apply pw_below_drewN | apply below_drew1) | exact HB.out)) hb); have BKgb := Aside0.mk hbox; clear HB; have HB := n0_; clear n0_ hb hbox hg))
  obtain ⟨hb0, hb1, hb2⟩ := fl_cells3 BKgb.out
  go_wp2_with (first | (go_at_call 48; refine (new_walk l2.length HN5.out _).mono ?_; rintro e w1 ⟨q, rfl, hq, hb_⟩; have HQ := Aside0.mk (RelIs.lower hq (below_size HB.out)); have n0_ := Aside0.mk (below_step HB.out hb_); have n1_ := Aside0.mk (blk_below BKgb.out hb_); clear HB BKgb; revert n0_ n1_; intro HB BKgb; clear hq hb_))
  clear hb0 hb1 hb2
  go_loopg [6] l2.length (fun gg v6 wr => ∃ (a : Nat) (At : List (List Bool)), a ≤ l2.length ∧ l2.length - a ≤ gg ∧ v6 = .int .i64 (a : Int) ∧ Aside0 (edgesL l2.length but a (l2.drop a) At = some r) ∧ Aside0 (RelIs wr w.heap.size q l2.length At) ∧ Aside0 (wr.heap[gb]? = some (.cells #[.int .i64 v, .slice A1 l1.length c1, .slice A2 l2.length c2] 25 (0, 0))) ∧ Aside0 (Below w.heap.size w wr))
  case atStart => exact ⟨0, _, Nat.zero_le _, by omega, rfl, HE, HQ, BKgb, HB⟩
  case round =>
    clear HE HQ BKgb HB
    obtain ⟨a, At, haN, hgg, rfl, HE, HQ, BKgb, HB⟩ := hrel
    have hN5 := HN5.out
    obtain ⟨hb0, hb1, hb2⟩ := fl_cells3 BKgb.out
    by_cases hlt : a < l2.length
    · have hltz : (a : Int) < (l2.length : Int) := by omega
      obtain ⟨ad, Ab, cb, rfl, hx0, hx1, hx2, hx3, hx4, _, _⟩ := at_T36 (Kd.C_below HR2.out HB.out) (a : Int) (by omega) hltz
      rw [show rd_T36 l2 (a : Int) = l2.getD a z36 by simp [rd_T36]] at hx0 hx1 hx2 hx3 hx4
      have he := HE.out
      rw [e_drop l2 z36 a hlt, edgesL] at he
      generalize l2.getD a z36 = bl at hx0 hx1 hx2 hx3 hx4 he
      obtain ⟨l, hnx, he⟩ := Option.bind_eq_some_iff.1 he
      have hll : l.length ≤ 4294967296 := by
        split at he
        · assumption
        · cases he
      rw [if_pos hll] at he
      have HX := Aside0.mk hnx
      have HE := Aside0.mk he
      clear hnx he
      rw [Int.toNat_natCast] at hx0 hx1 hx2 hx3 hx4
      obtain ⟨R, hR⟩ : ∃ R, Aside0 (edgeRow l2.length but (a : Int) l At = R) := ⟨_, ⟨rfl⟩⟩
      rw [hR.out] at HE
      go_wp2_with (first | (go_at_call 49; refine (spinnakerref26_Next.calls _ _ _ _ l _ HX.out).mono ?_; rintro e w1 ⟨vn, rfl, hn, hb⟩; obtain ⟨An, cn, en⟩ := Kd.R_slice hn; subst en; have HN := Aside0.mk (Kd.R_lower hn (below_size HB.out)); have n0_ := Aside0.mk (below_step HB.out hb); have n1_ := Aside0.mk (blk_below BKgb.out hb); have n2_ := Aside0.mk (HQ.out.below hb); clear HB BKgb HQ; revert n0_ n1_ n2_; intro HB BKgb HQ; clear hb hn))
      clear hx0 hx1 hx2 hx3 hx4 hb0 hb1 hb2
      go_loopg [8] l.length (fun gg v8 wr => ∃ (i : Nat) (At2 : List (List Bool)), i ≤ l.length ∧ l.length - i ≤ gg ∧ v8 = .int .i64 (i : Int) ∧ Aside0 (edgeRow l2.length but (a : Int) (l.drop i) At2 = R) ∧ Aside0 (RelIs wr w.heap.size q l2.length At2) ∧ Aside0 (Kd.R (Kd.int .i64) 3 wr w.heap.size (fun _ => True) (.slice An l.length cn) l) ∧ Aside0 (wr.heap[gb]? = some (.cells #[.int .i64 v, .slice A1 l1.length c1, .slice (some ad) l2.length c2] 25 (0, 0))) ∧ Aside0 (Below w.heap.size w wr))
      case atStart => exact ⟨0, At, Nat.zero_le _, by omega, rfl, hR, HQ, HN, BKgb, HB⟩
      case round =>
        clear hR HQ HN BKgb HB
        obtain ⟨i, At2, hiN, hgi, rfl, HP, HQ, HN, BKgb, HB⟩ := hrel
        by_cases hil : i < l.length
        · have hilz : (i : Int) < (l.length : Int) := by omega
          have hpp := HP.out
          rw [e_drop l 0 i hil, edgeRow] at hpp
          obtain ⟨ax, eax, hcell⟩ := Kd.at_int (Kd.R_reads' HN.out).2.2 (i : Int) (by omega) (by omega)
          cases eax
          rw [show rd l (i : Int) = l.getD i 0 by simp [rd], Int.toNat_natCast] at hcell
          generalize l.getD i 0 = x at hcell hpp
          by_cases hab : (a : Int) = but
          · rw [if_neg (fun h => h.1 hab)] at hpp
            have HP := Aside0.mk hpp
            clear hpp
            subst hab
            go_wp2_with (fail)
            go_roundg (l.length - (i + 1))
            case measure => omega
            case rel => exact ⟨i + 1, At2, by omega, by omega, by first | rfl | rw [show wrap64 ((i : Int) + 1) = ((i + 1 : Nat) : Int) by unfold wrap64; omega], HP, HQ, HN, BKgb, HB⟩
          · by_cases hxb : x = but
            · rw [if_neg (fun h => h.2 hxb)] at hpp
              have HP := Aside0.mk hpp
              clear hpp
              subst hxb
              go_wp2_with (fail)
              go_roundg (l.length - (i + 1))
              case measure => omega
              case rel => exact ⟨i + 1, At2, by omega, by omega, by first | rfl | rw [show wrap64 ((i : Int) + 1) = ((i + 1 : Nat) : Int) by unfold wrap64; omega], HP, HQ, HN, BKgb, HB⟩
            · rw [if_pos ⟨hab, hxb⟩] at hpp
              have HP := Aside0.mk hpp
              clear hpp
              have hab2 : ((a : Int) != but) = true := by simpa using hab
              have hxb2 : (x != but) = true := by simpa using hxb
              go_wp2_with (first | (go_at_call 50; refine (add_walk (a : Int) x _ HQ.out).mono ?_; rintro e w1 ⟨rfl, hq_, ht_⟩; have HQ2 := Aside0.mk hq_; have n0_ := Aside0.mk (ht_.below HB.out (Nat.le_refl _) (below_size HB.out)); have n1_ := Aside0.mk (ht_.blk BKgb.out (by decide)); have n2_ := Aside0.mk (ht_.row HN.out (by decide)); clear HB BKgb HN; revert n0_ n1_ n2_; intro HB BKgb HN; clear HQ; have HQ := HQ2; clear HQ2 hq_ ht_; first | clear hcell | skip))
              go_roundg (l.length - (i + 1))
              case measure => omega
              case rel => exact ⟨i + 1, _, by omega, by omega, by first | rfl | rw [show wrap64 ((i : Int) + 1) = ((i + 1 : Nat) : Int) by unfold wrap64; omega], HP, HQ, HN, BKgb, HB⟩
        · have hilz : ¬ (i : Int) < (l.length : Int) := by omega
          have hpp := HP.out
          rw [List.drop_eq_nil_of_le (by omega), edgeRow] at hpp
          subst hpp
          go_wp2_with (fail)
          go_roundg (l2.length - (a + 1))
          case measure => omega
          case rel => exact ⟨a + 1, At2, by omega, by omega, by first | rfl | rw [show wrap64 ((a : Int) + 1) = ((a + 1 : Nat) : Int) by unfold wrap64; omega], HE, HQ, BKgb, HB⟩
    · have hltz : ¬ (a : Int) < (l2.length : Int) := by omega
      have he := HE.out
      rw [List.drop_eq_nil_of_le (by omega), edgesL] at he
      injection he with he
      subst he
      go_wp2_with (fail)
      go_ret
      exact ⟨q, rfl, HQ.out, HB.out⟩

def hasP (N : Nat) (c : List (List Bool)) (a b : Int) : Bool := mayB N a && (mayB N b && atB c a b)
def reachB (N : Nat) (but : Int) (c : List (List Bool)) (b : Nat) : Bool := decide ((b : Int) ≠ but) && (decide (but ≠ 0) && (decide ((b : Int) = 0) || hasP N c 0 (b : Int)))
def outR {α : Type} (F : Nat → α) (b : Nat) : List α := (List.range b).map F
theorem outR_succ {α : Type} (F : Nat → α) (b : Nat) : outR F (b + 1) = outR F b ++ [F b] := by simp [outR, List.range_succ]
theorem outR_length {α : Type} (F : Nat → α) (b : Nat) : (outR F b).length = b := by simp [outR]
/-- The document's Reached. -/
def spinnakerref33_Reached.f (k : Nat) (v : Int) (l1 : List Int) (l2 : List S36) (but : Int) : Option (List Bool) := (edgesF but l2).bind fun e => (leadsF k l2.length e).bind fun c => some (outR (reachB l2.length but c) l2.length)
set_option maxRecDepth 100000 in
set_option maxHeartbeats 8000000 in
theorem spinnakerref33_Reached.calls (k : Nat) (v : Int) (A1 : Option Addr) (c1 : Nat) (l1 : List Int) (A2 : Option Addr) (c2 : Nat) (l2 : List (S36)) (but : Int) (r : List Bool) (w : World) (hr1 : Kd.C (Kd.int .i64) w A1 l1.length l1) (hc1 : l1.length ≤ c1) (hr2 : Kd.C k36 w A2 l2.length l2) (hc2 : l2.length ≤ c2) (h : spinnakerref33_Reached.f k v l1 l2 but = some r) :
    Calls Tryd.prog 21 #[.agg #[.int .i64 v, .slice A1 l1.length c1, .slice A2 l2.length c2], .int .i64 but] w fun e w' => ∃ v0_ : Value, e = .returned v0_ ∧ Kd.R Kd.bool 4 w' w.heap.size (fun _ => True) v0_ r ∧ Below w.heap.size w w' := by
  have hu := Tryd.underlying25
  unfold spinnakerref33_Reached.f at h
  obtain ⟨e0, he, h⟩ := Option.bind_eq_some_iff.1 h
  obtain ⟨c, hl, h⟩ := Option.bind_eq_some_iff.1 h
  have hN5 : l2.length ≤ 512 := by unfold edgesF at he; split at he; assumption; cases he
  injection h with h
  subst h
  have HR1 := Aside0.mk hr1
  have HC1 := Aside0.mk hc1
  have HR2 := Aside0.mk hr2
  have HC2 := Aside0.mk hc2
  have HE := Aside0.mk he
  have HL := Aside0.mk hl
  have HB := Aside0.mk (Below.refl w.heap.size w)
  clear hr1 hc1 hr2 hc2 he hl
  go_enter Tryd.func21, Tryd.ntmps21
  go_upto_region 1 with (first | ((with_reducible refine gate_dst (N := 2) rfl ?_); refine box_event ?hg (N := 2) ?hd (cs := #[.int .i64 v, .slice A1 l1.length c1, .slice A2 l2.length c2]) (t := 25) ?hr ?_; (case hd => rfl); (case hg => rfl); (case hr => first | (go_simp; done) | (go_simp; rfl)); intro gb hg wb hbox hb; have GE0 := Aside0.mk (show w.heap.size ≤ gb by rw [hg]; exact below_size (by repeat (first | (with_reducible first | exact HB.out | apply below_alloc | apply pw_below_drewN | apply below_drew1) | exact HB.out))); have n0_ := Aside0.mk (below_step (by repeat (first | (with_reducible first | exact HB.out | apply below_alloc | apply pw_below_drewN | apply below_drew1) | exact HB.out)) hb); have BKgb := Aside0.mk hbox; clear HB; have HB := n0_; clear n0_ hb hbox hg))
  obtain ⟨hb0, hb1, hb2⟩ := fl_cells3 BKgb.out
  go_wp2_with (first | (go_at_call 28; refine (edges_walk v A1 c1 l1 A2 c2 l2 but _ _ (Kd.C_below HR1.out HB.out) HC1.out (Kd.C_below HR2.out HB.out) HC2.out HE.out).mono ?_; rintro e w1 ⟨q, rfl, hq, hb_⟩; have HQ := Aside0.mk hq; have n0_ := Aside0.mk (below_step HB.out hb_); have n1_ := Aside0.mk (blk_below BKgb.out hb_); clear HB BKgb; revert n0_ n1_; intro HB BKgb; clear hq hb_) | (go_at_call 42; refine (leads_walk k _ _ HQ.out HL.out).mono ?_; rintro e ws ⟨q2, rfl, hq, hb_⟩; have n0_ := Aside0.mk (below_step HB.out hb_); have n1_ := Aside0.mk (blk_below BKgb.out hb_); clear HB BKgb; revert n0_ n1_; intro HB BKgb; clear HQ; have HQ := Aside0.mk hq; clear hq hb_))
  clear hb0 hb1 hb2
  have HS := Aside0.mk (Below.refl ws.heap.size ws)
  have HO : Aside0 (Kd.R Kd.bool 4 ws ws.heap.size (fun _ => True) (.slice none 0 0) (outR (reachB l2.length but c) 0)) := ⟨Kd.R_nil _ _ _ _ _⟩
  go_loopg [6, 7] l2.length (fun gg v6 v7 wr => ∃ (b : Nat), b ≤ l2.length ∧ l2.length - b ≤ gg ∧ v7 = .int .i64 (b : Int) ∧ Aside0 (Kd.R Kd.bool 4 wr ws.heap.size (fun _ => True) v6 (outR (reachB l2.length but c) b)) ∧ Aside0 (Below ws.heap.size ws wr))
  case atStart => exact ⟨0, Nat.zero_le _, by omega, rfl, HO, HS⟩
  case round =>
    clear HO HS
    obtain ⟨b, hbN, hgg, rfl, HO, HS⟩ := hrel
    obtain ⟨hb0, hb1, hb2⟩ := fl_cells3 (blk_below BKgb.out HS.out)
    obtain ⟨A6, c6, e6⟩ := Kd.R_slice HO.out
    subst e6
    by_cases hlt : b < l2.length
    · have hltz : (b : Int) < (l2.length : Int) := by omega
      by_cases h1 : (b : Int) = but
      · have h1b : ((b : Int) != but) = false := by simpa using h1
        have hF : reachB l2.length but c b = false := by simp [reachB, h1]
        have HF := Aside0.mk hF
        clear hF h1
        go_wp2_with (first | ((with_reducible refine gate_builtin (b := .append) (xs := #[.tmp 19, .tmp 36]) rfl ?_); at_builtin; refine Kd.R_append Kd.bool (w0 := ws) ws.heap.size rfl (.tmp 19) (.tmp 36) 40 4 (.bool false) 1 rfl Tryd.underlying40 info_b rfl (by decide) (by omega) (.slice A6 (outR (reachB l2.length but c) b).length c6) (outR (reachB l2.length but c) b) false [.bool (false)] (fun _ => True) (fun _ => False) rfl rfl rfl (fun _ hk => hk.elim) (fun _ _ => trivial) HO.out HS.out (below_size HS.out) (by have h_ := outR_length (reachB l2.length but c) b; omega) ?_; intro v7 w7 ho hb hg hat; have n0_ := Aside0.mk ho; have n1_ := Aside0.mk hb; clear HO HS ho hb hg hat; revert n0_ n1_; intro HO HS))
        go_roundg (l2.length - (b + 1))
        case measure => omega
        case rel => exact ⟨b + 1, by omega, by omega, by first | rfl | rw [show wrap64 ((b : Int) + 1) = ((b + 1 : Nat) : Int) by unfold wrap64; omega], ⟨by rw [outR_succ, HF.out]; exact HO.out⟩, HS⟩
      · have h1b : ((b : Int) != but) = true := by simpa using h1
        by_cases h2 : but = 0
        · have h2b : (but != 0) = false := by simpa using h2
          have hF : reachB l2.length but c b = false := by simp [reachB, h2]
          have HF := Aside0.mk hF
          clear hF h2
          go_wp2_with (first | ((with_reducible refine gate_builtin (b := .append) (xs := #[.tmp 19, .tmp 36]) rfl ?_); at_builtin; refine Kd.R_append Kd.bool (w0 := ws) ws.heap.size rfl (.tmp 19) (.tmp 36) 40 4 (.bool false) 1 rfl Tryd.underlying40 info_b rfl (by decide) (by omega) (.slice A6 (outR (reachB l2.length but c) b).length c6) (outR (reachB l2.length but c) b) false [.bool (false)] (fun _ => True) (fun _ => False) rfl rfl rfl (fun _ hk => hk.elim) (fun _ _ => trivial) HO.out HS.out (below_size HS.out) (by have h_ := outR_length (reachB l2.length but c) b; omega) ?_; intro v7 w7 ho hb hg hat; have n0_ := Aside0.mk ho; have n1_ := Aside0.mk hb; clear HO HS ho hb hg hat; revert n0_ n1_; intro HO HS))
          go_roundg (l2.length - (b + 1))
          case measure => omega
          case rel => exact ⟨b + 1, by omega, by omega, by first | rfl | rw [show wrap64 ((b : Int) + 1) = ((b + 1 : Nat) : Int) by unfold wrap64; omega], ⟨by rw [outR_succ, HF.out]; exact HO.out⟩, HS⟩
        · have h2b : (but != 0) = true := by simpa using h2
          by_cases h3 : (b : Int) = 0
          · have h3b : ((b : Int) == 0) = true := by simpa using h3
            have hF : reachB l2.length but c b = true := by unfold reachB; simp only [ne_eq, h1, h2, not_false_eq_true, decide_true, Bool.true_and]; rw [decide_eq_true h3]; rfl
            have HF := Aside0.mk hF
            clear hF h1 h2 h3
            go_wp2_with (first | ((with_reducible refine gate_builtin (b := .append) (xs := #[.tmp 19, .tmp 36]) rfl ?_); at_builtin; refine Kd.R_append Kd.bool (w0 := ws) ws.heap.size rfl (.tmp 19) (.tmp 36) 40 4 (.bool false) 1 rfl Tryd.underlying40 info_b rfl (by decide) (by omega) (.slice A6 (outR (reachB l2.length but c) b).length c6) (outR (reachB l2.length but c) b) true [.bool (true)] (fun _ => True) (fun _ => False) rfl rfl rfl (fun _ hk => hk.elim) (fun _ _ => trivial) HO.out HS.out (below_size HS.out) (by have h_ := outR_length (reachB l2.length but c) b; omega) ?_; intro v7 w7 ho hb hg hat; have n0_ := Aside0.mk ho; have n1_ := Aside0.mk hb; clear HO HS ho hb hg hat; revert n0_ n1_; intro HO HS))
            go_roundg (l2.length - (b + 1))
            case measure => omega
            case rel => exact ⟨b + 1, by omega, by omega, by first | rfl | rw [show wrap64 ((b : Int) + 1) = ((b + 1 : Nat) : Int) by unfold wrap64; omega], ⟨by rw [outR_succ, HF.out]; exact HO.out⟩, HS⟩
          · have h3b : ((b : Int) == 0) = false := by simpa using h3
            obtain ⟨X, hX⟩ : ∃ X, hasP l2.length c 0 (b : Int) = X := ⟨_, rfl⟩
            have hF : reachB l2.length but c b = X := by unfold reachB; simp only [ne_eq, h1, h2, h3, not_false_eq_true, decide_true, decide_false, Bool.true_and, Bool.false_or]; exact hX
            have HF := Aside0.mk hF
            clear hF h1 h2 h3 
            go_wp2_with (first | (go_at_call 30; refine (has_walk 0 (b : Int) _ (HQ.out.below HS.out)).mono ?_; rintro e w1 ⟨rfl, hw_⟩; subst w1; rw [show (mayB l2.length 0 && (mayB l2.length (b : Int) && atB c 0 (b : Int))) = X from hX]) | ((with_reducible refine gate_builtin (b := .append) (xs := #[.tmp 19, .tmp 36]) rfl ?_); at_builtin; refine Kd.R_append Kd.bool (w0 := ws) ws.heap.size rfl (.tmp 19) (.tmp 36) 40 4 (.bool false) 1 rfl Tryd.underlying40 info_b rfl (by decide) (by omega) (.slice A6 (outR (reachB l2.length but c) b).length c6) (outR (reachB l2.length but c) b) X [.bool (X)] (fun _ => True) (fun _ => False) rfl rfl rfl (fun _ hk => hk.elim) (fun _ _ => trivial) HO.out HS.out (below_size HS.out) (by have h_ := outR_length (reachB l2.length but c) b; omega) ?_; intro v7 w7 ho hb hg hat; have n0_ := Aside0.mk ho; have n1_ := Aside0.mk hb; clear HO HS ho hb hg hat; revert n0_ n1_; intro HO HS))
            go_roundg (l2.length - (b + 1))
            case measure => omega
            case rel => exact ⟨b + 1, by omega, by omega, by first | rfl | rw [show wrap64 ((b : Int) + 1) = ((b + 1 : Nat) : Int) by unfold wrap64; omega], ⟨by rw [outR_succ, HF.out]; exact HO.out⟩, HS⟩
    · have hltz : ¬ (b : Int) < (l2.length : Int) := by omega
      obtain rfl : b = l2.length := by omega
      go_wp2_with (fail)
      go_ret
      exact ⟨_, rfl, Kd.R_lower HO.out (below_size HB.out), below_step HB.out HS.out⟩

def befL (F : Nat → Bool) (b : Nat) : List Int := ((List.range b).filter F).map Int.ofNat
theorem befL_succ (F : Nat → Bool) (b : Nat) : befL F (b + 1) = if F b = true then befL F b ++ [(b : Int)] else befL F b := by
  unfold befL
  rw [List.range_succ, List.filter_append, List.map_append]
  cases h : F b <;> simp [h]
theorem befL_length (F : Nat → Bool) : ∀ b, (befL F b).length ≤ b
  | 0 => by simp [befL]
  | b + 1 => by
    rw [befL_succ]
    have := befL_length F b
    split
    · rw [List.length_append]; simp only [List.length_singleton]; omega
    · omega
/-- The document's Before. -/
def spinnakerref33_Before.f (v : Int) (l1 : List Int) (l2 : List S36) (tgt : Int) : Option (List Int) := (edgesF (-1) l2).bind fun c => some (befL (fun b => hasP l2.length c (b : Int) tgt) l2.length)
set_option maxRecDepth 100000 in
set_option maxHeartbeats 8000000 in
theorem spinnakerref33_Before.calls (v : Int) (A1 : Option Addr) (c1 : Nat) (l1 : List Int) (A2 : Option Addr) (c2 : Nat) (l2 : List (S36)) (tgt : Int) (r : List Int) (w : World) (hr1 : Kd.C (Kd.int .i64) w A1 l1.length l1) (hc1 : l1.length ≤ c1) (hr2 : Kd.C k36 w A2 l2.length l2) (hc2 : l2.length ≤ c2) (h : spinnakerref33_Before.f v l1 l2 tgt = some r) :
    Calls Tryd.prog 25 #[.agg #[.int .i64 v, .slice A1 l1.length c1, .slice A2 l2.length c2], .int .i64 tgt] w fun e w' => ∃ v0_ : Value, e = .returned v0_ ∧ Kd.R (Kd.int .i64) 3 w' w.heap.size (fun _ => True) v0_ r ∧ Below w.heap.size w w' := by
  have hu := Tryd.underlying25
  unfold spinnakerref33_Before.f at h
  obtain ⟨c, he, h⟩ := Option.bind_eq_some_iff.1 h
  have hN5 : l2.length ≤ 512 := by unfold edgesF at he; split at he; assumption; cases he
  injection h with h
  subst h
  have HR1 := Aside0.mk hr1
  have HC1 := Aside0.mk hc1
  have HR2 := Aside0.mk hr2
  have HC2 := Aside0.mk hc2
  have HE := Aside0.mk he
  have HB := Aside0.mk (Below.refl w.heap.size w)
  clear hr1 hc1 hr2 hc2 he h
  go_enter Tryd.func25, Tryd.ntmps25
  go_upto_region 1 with (first | ((with_reducible refine gate_dst (N := 2) rfl ?_); refine box_event ?hg (N := 2) ?hd (cs := #[.int .i64 v, .slice A1 l1.length c1, .slice A2 l2.length c2]) (t := 25) ?hr ?_; (case hd => rfl); (case hg => rfl); (case hr => first | (go_simp; done) | (go_simp; rfl)); intro gb hg wb hbox hb; have GE0 := Aside0.mk (show w.heap.size ≤ gb by rw [hg]; exact below_size (by repeat (first | (with_reducible first | exact HB.out | apply below_alloc | apply pw_below_drewN | apply below_drew1) | exact HB.out))); have n0_ := Aside0.mk (below_step (by repeat (first | (with_reducible first | exact HB.out | apply below_alloc | apply pw_below_drewN | apply below_drew1) | exact HB.out)) hb); have BKgb := Aside0.mk hbox; clear HB; have HB := n0_; clear n0_ hb hbox hg))
  obtain ⟨hb0, hb1, hb2⟩ := fl_cells3 BKgb.out
  go_wp2_with (first | (go_at_call 28; refine (edges_walk v A1 c1 l1 A2 c2 l2 (-1) _ _ (Kd.C_below HR1.out HB.out) HC1.out (Kd.C_below HR2.out HB.out) HC2.out HE.out).mono ?_; rintro e ws ⟨q2, rfl, hq, hb_⟩; have HQ := Aside0.mk hq; have n0_ := Aside0.mk (below_step HB.out hb_); have n1_ := Aside0.mk (blk_below BKgb.out hb_); clear HB BKgb; revert n0_ n1_; intro HB BKgb; clear hq hb_))
  clear hb0 hb1 hb2
  have HS := Aside0.mk (Below.refl ws.heap.size ws)
  have HO : Aside0 (Kd.R (Kd.int .i64) 3 ws ws.heap.size (fun _ => True) (.slice none 0 0) (befL (fun b => hasP l2.length c (b : Int) tgt) 0)) := ⟨Kd.R_nil _ _ _ _ _⟩
  go_loopg [6, 7] l2.length (fun gg v6 v7 wr => ∃ (b : Nat), b ≤ l2.length ∧ l2.length - b ≤ gg ∧ v7 = .int .i64 (b : Int) ∧ Aside0 (Kd.R (Kd.int .i64) 3 wr ws.heap.size (fun _ => True) v6 (befL (fun b => hasP l2.length c (b : Int) tgt) b)) ∧ Aside0 (Below ws.heap.size ws wr))
  case atStart => exact ⟨0, Nat.zero_le _, by omega, rfl, HO, HS⟩
  case round =>
    clear HO HS
    obtain ⟨b, hbN, hgg, rfl, HO, HS⟩ := hrel
    obtain ⟨hb0, hb1, hb2⟩ := fl_cells3 (blk_below BKgb.out HS.out)
    obtain ⟨A6, c6, e6⟩ := Kd.R_slice HO.out
    subst e6
    by_cases hlt : b < l2.length
    · have hltz : (b : Int) < (l2.length : Int) := by omega
      cases hX : hasP l2.length c (b : Int) tgt with
      | false =>
        have HF := Aside0.mk hX
        go_wp2_with (first | (go_at_call 30; refine (has_walk (b : Int) tgt _ (HQ.out.below HS.out)).mono ?_; rintro e w1 ⟨rfl, hw_⟩; subst w1; rw [show (mayB l2.length (b : Int) && (mayB l2.length tgt && atB c (b : Int) tgt)) = false from hX]))
        go_roundg (l2.length - (b + 1))
        case measure => omega
        case rel => exact ⟨b + 1, by omega, by omega, by first | rfl | rw [show wrap64 ((b : Int) + 1) = ((b + 1 : Nat) : Int) by unfold wrap64; omega], ⟨by rw [befL_succ, if_neg (by rw [HF.out]; decide)]; exact HO.out⟩, HS⟩
      | true =>
        have HF := Aside0.mk hX
        go_wp2_with (first | (go_at_call 30; refine (has_walk (b : Int) tgt _ (HQ.out.below HS.out)).mono ?_; rintro e w1 ⟨rfl, hw_⟩; subst w1; rw [show (mayB l2.length (b : Int) && (mayB l2.length tgt && atB c (b : Int) tgt)) = true from hX]) | ((with_reducible refine gate_builtin (b := .append) (xs := #[.tmp 21, .tmp 23]) rfl ?_); at_builtin; refine Kd.R_append (Kd.int .i64) (w0 := ws) ws.heap.size rfl (.tmp 21) (.tmp 23) 22 3 (.int .i64 0) 8 rfl Tryd.underlying22 info3 rfl (by decide) (by omega) (.slice A6 (befL (fun b => hasP l2.length c (b : Int) tgt) b).length c6) (befL (fun b => hasP l2.length c (b : Int) tgt) b) (b : Int) [.int .i64 (b : Int)] (fun _ => True) (fun _ => False) rfl rfl rfl (fun _ hk => hk.elim) (fun _ _ => trivial) HO.out HS.out (below_size HS.out) (by have h_ := befL_length (fun b => hasP l2.length c (b : Int) tgt) b; omega) ?_; intro v7 w7 ho hb hg hat; have n0_ := Aside0.mk ho; have n1_ := Aside0.mk hb; clear HO HS ho hb hg hat; revert n0_ n1_; intro HO HS))
        go_roundg (l2.length - (b + 1))
        case measure => omega
        case rel => exact ⟨b + 1, by omega, by omega, by first | rfl | rw [show wrap64 ((b : Int) + 1) = ((b + 1 : Nat) : Int) by unfold wrap64; omega], ⟨by rw [befL_succ, if_pos HF.out]; exact HO.out⟩, HS⟩
    · have hltz : ¬ (b : Int) < (l2.length : Int) := by omega
      obtain rfl : b = l2.length := by omega
      go_wp2_with (fail)
      go_ret
      exact ⟨_, rfl, Kd.R_lower HO.out (below_size HB.out), below_step HB.out HS.out⟩

theorem walkL_mono (F : Int → Option (List Int)) (but : Int) : ∀ k met todo, LeO (walkL F but k met todo) (walkL F but (k + 1) met todo)
  | 0, _, _ => fun r h => by cases h
  | k + 1, met, todo => by
    unfold walkL
    exact LeO.ite (LeO.refl _) (LeO.ite (LeO.ite (walkL_mono F but k _ _) (LeO.bind (LeO.refl _) fun _ => LeO.ite (walkL_mono F but k _ _) (LeO.refl _))) (LeO.refl _))
theorem walkF_mono (F : Int → Option (List Int)) (k : Nat) (n : Int) (fr : List Int) (but : Int) : LeO (walkF F k n fr but) (walkF F (k + 1) n fr but) := LeO.ite (walkL_mono F but k _ _) (LeO.refl _)
theorem workL_mono (At : List (List Bool)) (N : Nat) (a : Int) : ∀ k out todo, LeO (workL At N a k out todo) (workL At N a (k + 1) out todo)
  | 0, _, _ => fun r h => by cases h
  | k + 1, out, [] => LeO.refl _
  | k + 1, out, x :: rest => by
    unfold workL
    exact LeO.ite (workL_mono At N a k _ _) (LeO.refl _)
theorem leadL_mono (At : List (List Bool)) (N k : Nat) : ∀ d a out, LeO (leadL At N k d a out) (leadL At N (k + 1) d a out)
  | 0, _, _ => LeO.refl _
  | d + 1, a, out => by
    unfold leadL
    exact LeO.bind (workL_mono At N _ k _ _) fun _ => leadL_mono At N k d _ _
theorem leadsF_mono (k N : Nat) (At : List (List Bool)) : LeO (leadsF k N At) (leadsF (k + 1) N At) := leadL_mono At N k N 0 _
theorem flow_Reached.mono : ∀ a0 a1 a2 k, LeO (flow_Reached.f k a0 a1 a2) (flow_Reached.f (k + 1) a0 a1 a2) := by
  intro a0 a1 a2 k
  exact LeO.bind (LeO.refl _) fun _ => LeO.ite (walkF_mono _ k _ _ _) (LeO.refl _)
theorem flow_ahead.mono : ∀ a0 a1 a2 a3 a4 k, LeO (flow_ahead.f k a0 a1 a2 a3 a4) (flow_ahead.f (k + 1) a0 a1 a2 a3 a4) := by
  intro a0 a1 a2 a3 a4 k
  exact LeO.ite (LeO.refl _) (LeO.bind (walkF_mono _ k _ _ _) fun _ => LeO.refl _)
theorem spinnakerref33_Reached.mono : ∀ a0 a1 a2 a3 k, LeO (spinnakerref33_Reached.f k a0 a1 a2 a3) (spinnakerref33_Reached.f (k + 1) a0 a1 a2 a3) := by
  intro a0 a1 a2 a3 k
  exact LeO.bind (LeO.refl _) fun _ => LeO.bind (leadsF_mono k _ _) fun _ => LeO.refl _


end Go.Proofs.YtgenmfbidpmneaaDoor.PFlowLoops
