-- printed by a program of this session (wip/mp.py: the kit's printer, patched, over the session's own templates); checked by Lean alone
import Derived.Test.YtgenmfbidpmneaaDoorCards
import Derived.Test.YtgenmfbidpmneaaDoorTie
import Derived.Test.YtgenmfbidpmneaaDoorOPFlowOrdersx9
import Derived.Test.YtgenmfbidpmneaaDoorOPureFlowOrders
import Derived.Test.YtgenmfbidpmneaaDoorOOpenB
import Derived.WalkKit
import Derived.ProofKit
import Derived.OpenShut
import Derived.ShutString
import Derived.ChangeOld
import Derived.Below
import Derived.SizedLaws
import Derived.WideShapes
import Derived.LaidMore
import Derived.Deep.DeepHandedRow
import Derived.Lib.LaidTab
namespace Go.Proofs.YtgenmfbidpmneaaDoor.flowOrders
open Go.ChangeShapes Go.WideShapes Go.ChangeAt Go.RowKit Go.Proofs.YtgenmfbidpmneaaDoorW.PrintWords Go.Proofs.YtgenmfbidpmneaaDoor.OpenB Go.Proofs.YtgenmfbidpmneaaDoor.PFlowOrders
open Go.ChangeMaps (open_string shut_string)
set_option linter.unusedVariables false
theorem own : ownKnob Tryd.prog.godebug = none := by kernel_rfl
theorem laidOut : laidOutB Tryd.prog = true := by kernel_rfl
theorem op_38 : Opens Tryd.prog 38 k38 ok_S38 wt_S38 := opens_iso (opens_struct Tryd.underlying38 (n := 8) (by kernel_rfl) (opensAt_cons (opens_int Tryd.underlying3) rfl (by kernel_rfl) (opensAt_cons (opens_int Tryd.underlying3) rfl (by kernel_rfl) (opensAt_cons (opens_int Tryd.underlying3) rfl (by kernel_rfl) (opensAt_cons (opens_int Tryd.underlying3) rfl (by kernel_rfl) (opensAt_cons (opens_int Tryd.underlying3) rfl (by kernel_rfl) (opensAt_cons (opens_int Tryd.underlying3) rfl (by kernel_rfl) (opensAt_cons (opens_int Tryd.underlying3) rfl (by kernel_rfl) (opensAt_one (opens_int Tryd.underlying3) rfl (by kernel_rfl) rfl))))))))) _ (fun x => ⟨x.1, x.2.1, x.2.2.1, x.2.2.2.1, x.2.2.2.2.1, x.2.2.2.2.2.1, x.2.2.2.2.2.2.1, x.2.2.2.2.2.2.2⟩) (fun _ => rfl)
theorem op_34 : Opens Tryd.prog 34 k34 ok_S34 wt_S34 := opens_iso (opens_struct Tryd.underlying34 (n := 4) (by kernel_rfl) (opensAt_cons (opens_int Tryd.underlying3) rfl (by kernel_rfl) (opensAt_cons (opens_int Tryd.underlying3) rfl (by kernel_rfl) (opensAt_cons (opens_int Tryd.underlying3) rfl (by kernel_rfl) (opensAt_one (opens_int Tryd.underlying3) rfl (by kernel_rfl) rfl))))) _ (fun x => ⟨x.1, x.2.1, x.2.2.1, x.2.2.2⟩) (fun _ => rfl)
theorem op_36 : Opens Tryd.prog 36 k36 ok_S36 wt_S36 := opens_iso (opens_struct Tryd.underlying36 (n := 5) (by kernel_rfl) (opensAt_cons (opens_slice Tryd.underlying32 (by kernel_rfl) op_38) rfl (by kernel_rfl) (opensAt_one op_34 rfl (by kernel_rfl) rfl))) _ (fun x => ⟨x.1, x.2⟩) (fun _ => rfl)
theorem op_25 : Opens Tryd.prog 25 k25 ok_S25 wt_S25 := opens_iso (opens_struct Tryd.underlying25 (n := 3) (by kernel_rfl) (opensAt_cons (opens_int Tryd.underlying3) rfl (by kernel_rfl) (opensAt_cons (opens_slice Tryd.underlying22 (by kernel_rfl) (opens_int Tryd.underlying3)) rfl (by kernel_rfl) (opensAt_one (opens_slice Tryd.underlying23 (by kernel_rfl) op_36) rfl (by kernel_rfl) rfl)))) _ (fun x => ⟨x.1, x.2.1, x.2.2⟩) (fun _ => rfl)
noncomputable def laidWorld (os : Os) : World := World.doorLaid Tryd.prog 400 os
theorem laid_met (os : Os) : laidMet Tryd.prog Rows.flowOrdersUptoRow.laid ((laidWorld os).forCall (fun _ _ => 0) ⟨#[], #[.agg #[.int .i64 0, .slice none 0 0, .slice none 0 0]], []⟩).memory :=
  laidMet_of_run' 8 (by kernel_rfl) (by kernel_rfl)
theorem reads (os : Os) {H : Type} (enc : TypeId × Value → H) : ∃ places, DataW.whole enc Tryd.prog ((laidWorld os).forCall (fun _ _ => 0) ⟨#[], #[.agg #[.int .i64 0, .slice none 0 0, .slice none 0 0]], []⟩).memory Tryd.f7.params.toList Rows.flowOrdersSpec.vars false #[Value.agg #[.int .i64 0, .slice none 0 0, .slice none 0 0]].toList 8 = some ([.agg [.lit (.int .i64 0), .nil, .nil]], [], places) :=
  ⟨[], by kernel_rfl⟩
theorem small_le {H : Type} {l : List (DataW H)} (hk : Rows.uptoSmall H l = true) : Rows.uptoBulkAll l ≤ 1048576 := by simpa [Rows.uptoSmall] using hk
theorem cells_of_array {H : Type} {enc : TypeId × Value → H} {P : Program} {w : World} {base : Nat} {sp : Nat → Bool} {held : Bool} {fuel : Nat} {t e : TypeId} {n : Nat} {cs : List Value} {ds : List (DataW H)} {p : List MemPlace}
    (ht : P.underlying t = some (.array n e)) (h : DataW.trod enc P w base sp held fuel t cs = some (.agg ds, p)) : ∀ i, i < n → ∃ m z q, ds[i]? = some z ∧ DataW.trod enc P w base sp held m e ((cs.drop (i * P.cellsOf e)).take (P.cellsOf e)) = some (z, q) := by
  cases fuel with
  | zero => simp [DataW.trod] at h
  | succ fuel =>
    simp only [DataW.trod, ht] at h
    split at h
    · obtain ⟨xs, hm, hx⟩ := Option.map_eq_some_iff.1 h
      have hxs : xs.map (·.1) = ds := by
        have := congrArg Prod.fst hx
        simpa using this
      intro i hi
      obtain ⟨b, hb, hf⟩ := Lib.mapM_at hm i i (by simp [hi])
      exact ⟨fuel, b.1, b.2, by rw [← hxs]; simp [hb], hf⟩
    · cases h
theorem pair_snd {H : Type} {enc : TypeId × Value → H} {P : Program} {w : World} {base : Nat} {sp : Nat → Bool} {held : Bool} {fuel : Nat} {e : TypeId} {fs : Array Field} {f0 f1 : Field} {k : IntKind} {cs : List Value} {s : Lit} {v : Int} {q : List MemPlace}
    (he : P.underlying e = some (.struct fs)) (hfs : fs = #[f0, f1]) (h1 : P.underlying f1.type = some (.int k)) (h : DataW.trod enc P w base sp held fuel e cs = some (.agg [.lit s, .lit (.int k v)], q)) : cs[f1.offset]? = some (.int k v) := by
  subst hfs
  obtain ⟨xs, n, _, hx, _, hl, hf⟩ := DataW.trod_struct he h
  have h2 := hf 1 f1 rfl
  obtain ⟨x1, hx1⟩ : ∃ x1, xs[1]? = some x1 := ⟨_, List.getElem?_eq_getElem (by simp at hl; omega)⟩
  rw [hx1] at h2
  obtain ⟨z, hc, hz, _⟩ := DataW.trod_int h1 h2
  have h3 : xs.map (·.1) = [.lit s, .lit (.int k v)] := by
    have := congrArg Prod.fst hx
    simp only [DataW.agg.injEq] at this
    exact this.symm
  have h4 : (xs.map (·.1))[1]? = some (DataW.lit (.int k z) : DataW H) := by rw [List.getElem?_map, hx1, hz]; rfl
  rw [h3] at h4
  simp at h4
  subst h4
  have := congrArg (·[0]?) hc
  simp only [List.getElem?_take, List.getElem?_drop] at this
  split at this
  · simpa using this
  · cases this
theorem ops_at : ∃ ds : List (DataW Unit), Rows.laid_spinnaker_ir_ops = .agg ds ∧ ∀ i, i < 12 → ∃ s : Lit, ds[i]? = some (.agg [.lit s, .lit (.int .i64 (opsTab.getD i 0))]) := by
  refine ⟨_, rfl, fun i hi => ?_⟩
  match i, hi with
  | 0, _ => exact ⟨_, rfl⟩
  | 1, _ => exact ⟨_, rfl⟩
  | 2, _ => exact ⟨_, rfl⟩
  | 3, _ => exact ⟨_, rfl⟩
  | 4, _ => exact ⟨_, rfl⟩
  | 5, _ => exact ⟨_, rfl⟩
  | 6, _ => exact ⟨_, rfl⟩
  | 7, _ => exact ⟨_, rfl⟩
  | 8, _ => exact ⟨_, rfl⟩
  | 9, _ => exact ⟨_, rfl⟩
  | 10, _ => exact ⟨_, rfl⟩
  | 11, _ => exact ⟨_, rfl⟩
/-- What the row's list gives: the table. -/
theorem opsLaid {W : World} (h : laidMetH Tryd.prog Rows.flowOrdersUptoRow.laid W) : OpsLaid W := by
  have h' : laidMet Tryd.prog [("spinnaker/ir.ops", Rows.laid_spinnaker_ir_ops)] W := h
  obtain ⟨ps, ⟨g, t, cs, fuel, p, q, hg, ht, hv, hd, _, _⟩, _⟩ := h'
  obtain rfl := Option.some.inj ((show Tryd.prog.globalNamed "spinnaker/ir.ops" = some 0 by kernel_rfl).symm.trans hg)
  obtain rfl := Option.some.inj ((show (Tryd.prog.globals[0]?).map (·.type) = some 94 by kernel_rfl).symm.trans ht)
  obtain ⟨ds, hds, hat⟩ := ops_at
  rw [hds] at hd
  intro i hi
  obtain ⟨m, z, q, hz, hzd⟩ := cells_of_array Tryd.underlying94 hd i hi
  obtain ⟨s, hs⟩ := hat i hi
  obtain rfl := Option.some.inj (hs.symm.trans hz)
  have h1 := pair_snd Tryd.underlying93 rfl (by kernel_rfl) hzd
  rw [show Tryd.prog.cellsOf 93 = 2 by kernel_rfl] at h1
  have h2 : cs[i * 2 + 1]? = some (.int .i64 (opsTab.getD i 0)) := by simpa [List.getElem?_take, List.getElem?_drop] using h1
  exact (World.var?_cell hg hv (i * 2 + 1)).trans h2
set_option maxRecDepth 100000 in
theorem lifted (os : Os) (started : os.Started) (H : Type) (enc : TypeId × Value → H) (F : Stop.Interp) :
    ReturnsInHanded {} Tryd.checked os 7 .any ((Rows.OpenSpec.upto Rows.flowOrdersSpec).preRow enc Tryd.prog Tryd.f7 Rows.flowOrdersUptoRow.domain false Rows.flowOrdersUptoRow.laid) (((Rows.OpenSpec.upto Rows.flowOrdersSpec).at F).post enc Tryd.prog Tryd.f7 false true false false) := by
  obtain ⟨places, hx⟩ := reads os enc
  refine returnsInHanded_of_row (C := Tryd.checked) (s := Rows.OpenSpec.upto Rows.flowOrdersSpec) own started (by kernel_rfl) Tryd.func7
    (witness_row_at (enc := enc) (C := Tryd.checked) false (laidWorld os) #[.agg #[.int .i64 0, .slice none 0 0, .slice none 0 0]] rfl (by kernel_rfl) (by kernel_rfl) (by kernel_rfl)
      (OpenSpec.preRow_of_cond 8 hx (by kernel_rfl) (fun k hk => by cases hk; kernel_rfl) (by kernel_rfl) (laid_met os))) ?_
  intro W base args ds gs before hval0 hW _ hcond _ hL _ _
  have hbulk : Rows.uptoBulkAll (ds ++ gs) ≤ 1048576 := small_le (hcond _ rfl)
  have hG : OpsLaid W := opsLaid hL
  have hval : ∀ (j : Nat) t v, Tryd.f7.params[j]? = some t → args[j]? = some v → Value.okWide Tryd.prog W .any base t v := hval0
  have hW' := hW
  obtain ⟨p, q, hA0, hV, rfl, hfz, hnd⟩ := hW
  have hA : DataW.TrodAll enc Tryd.prog W 0 (fun _ => true) true Tryd.f7.params.toList args.toList ds p := hA0
  rw [Tryd.params7] at hA hval
  obtain ⟨v0, vs0, d0, ds0, p0, q0, hargs, rfl, rfl, h0, r0⟩ := trodAll_cons hA
  obtain ⟨rfl, rfl, rfl⟩ := trodAll_nil r0
  obtain rfl : args = #[v0] := by cases args; simp_all
  obtain ⟨rfl, rfl⟩ := trodVars_none hV
  obtain ⟨cs0, rfl, sz0⟩ := okWide_struct Tryd.underlying25 (hval 0 25 v0 rfl rfl)
  have lt0 : ∀ x ∈ p0, x.block < W.heap.size := by obtain ⟨m, hm⟩ := h0; exact DataW.trod_lt m _ _ _ hm
  obtain ⟨x0, K0, ho0, wb0⟩ := struct_in op_25 h0
  obtain ⟨A0_1, c0_1, A0_2, c0_2, e0, hc0_1, hr0_1, hc0_2, hr0_2⟩ := k25_open K0
  obtain rfl : cs0 = #[.int .i64 x0.f0, .slice A0_1 x0.f1.length c0_1, .slice A0_2 x0.f2.length c0_2] := by apply Array.toList_inj.1; rw [e0]
  clear hA0 hval0
  refine (PFlowOrders.spinnakerlaw33_FlowOrders.walk Pure.FlowOrders x0.f0 A0_1 c0_1 x0.f1 A0_2 c0_2 x0.f2 W hr0_1 hc0_1 hr0_2 hc0_2 ho0 (Nat.le_trans wb0 (Nat.le_trans (part_le (by simp)) hbulk)) hG).mono fun e W' ⟨he, bel⟩ => ?_
  subst he
  exact ⟨_, rfl, _, _, _, [], _, [], hW', trodAll_mk1 (shut_bool Tryd.underlying4 _), (trodAll_cons_mk (Below.trod laidOut (by kernel_rfl) (of_decide_eq_true (by kernel_rfl)) h0 bel lt0) trodAll_mk0), rfl, bel.frame _, fun h => by cases h⟩
theorem over : Rows.FlowOrdersUptoSaid :=
  OpenClaim.holds_of_cond 7 Tryd.f7 rfl rfl rfl rfl rfl rfl rfl ⟨rfl, rfl, rfl, rfl, rfl⟩ rfl rfl rfl rfl rfl (by kernel_rfl) Tryd.func7 (by kernel_rfl)
    (of_decide_eq_true (by kernel_rfl)) (by unfold Func.isWrapper; first | (rw [if_pos (by decide +kernel)]; kernel_rfl) | (rw [if_neg (by decide +kernel)]; exact ⟨rfl, rfl⟩))
    (fun os started H enc _ F => by rw [OpenClaim.pre_eq_preRow]; exact lifted os started H enc F)
/-- No parameter wants a stand-in; the program's own looks are off. -/
theorem plain (f : FuncId) (fn : Func) (hf : Tryd.pinned.checked.prog.funcNamed "spinnaker/spinnakerlaw33.FlowOrders" = some f) (hfn : Tryd.pinned.checked.prog.funcs[f]? = some fn) :
    false = Tryd.pinned.checked.prog.looks [] ∧ ∀ (j : Nat) t, fn.params[j]? = some t → Tryd.pinned.checked.prog.wantsStandIn t = false := by
  obtain rfl : f = 7 := Option.some.inj ((show Tryd.prog.funcNamed "spinnaker/spinnakerlaw33.FlowOrders" = some 7 by kernel_rfl).symm.trans hf) |>.symm
  obtain rfl : fn = Tryd.f7 := (Option.some.inj (Tryd.func7.symm.trans hfn)).symm
  refine ⟨by kernel_rfl, fun j t ht => ?_⟩
  rw [Tryd.params7] at ht
  have hm := Array.mem_of_getElem? ht
  simp only [List.mem_toArray, List.mem_cons, List.not_mem_nil, or_false] at hm
  rcases hm with rfl
  all_goals (first | kernel_rfl | (refine Eq.trans ?_ (Eq.refl false); kernel_rfl))
theorem card : Rows.FlowOrdersUptoCardSaid :=
  Claim7.holds_tied_plain_at .later [] _ _ _ _ over (fun _ h => by cases h) (by kernel_rfl) (fun _ h => by cases h) flowOrdersUpto_row_tie rfl ⟨rfl, rfl⟩ (by kernel_rfl) rfl plain (by kernel_rfl)
#print axioms card
end Go.Proofs.YtgenmfbidpmneaaDoor.flowOrders
namespace Go.Proofs.YtgenmfbidpmneaaDoor
/-- The card, under a short name, for the claim. -/
theorem flowOrdersUpto_holds : Rows.FlowOrdersUptoCardSaid := flowOrders.card
end Go.Proofs.YtgenmfbidpmneaaDoor
