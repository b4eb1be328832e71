/- Two lists of pairs compared. Written by an AI agent in this seat's session; checked by Lean alone. No axiom, no sorry. -/
import Derived.Test.YtoieemaheadjdaaDoorRelP
import Derived.WalkKit
import Derived.BigQuiet
import Derived.ChangeKeysEq
import Derived.Laws.StructEq
import Derived.Test.YtoieemaheadjdaaDoorRbq
namespace Go.Proofs.YtoieemaheadjdaaDoor.PRel
open Go.RowKit Go.Proofs.YtoieemaheadjdaaDoorW.PrintWords Go.Proofs.YtoieemaheadjdaaDoorW.PrintLast Go.Proofs.YtoieemaheadjdaaDoorW.PrintMore Go.Proofs.YtoieemaheadjdaaDoor.PRelOrders
set_option linter.unusedVariables false
set_option linter.unusedSimpArgs false
theorem pair_load (W : World) (ad : Addr) (x y : Value) (h1 : W.cell? ad = some x) (h2 : W.cell? (ad.add 1) = some y) : (loadVar 23 ad).run Tryd.prog W = .ok (.agg #[x, y]) W := by
  have hl : (loadCells ad 2).run Tryd.prog W = .ok #[x, y] W := run_loadCells_list (P := Tryd.prog) W ad [x, y] (fun j v hv => by
    match j, hv with
    | 0, hv => rw [Addr.add_zero']; simpa using h1.trans hv
    | 1, hv => simpa using h2.trans hv)
  have hagg : (isAgg 23).run Tryd.prog W = .ok true W := by
    unfold isAgg
    rw [Sem.run_bind, run_underlying Tryd.underlying23 W]
    rfl
  obtain ⟨i, hi, hz⟩ := Option.map_eq_some_iff.1 info23
  simp only [Prod.mk.injEq] at hz
  simp [loadVar, Sem.run_bind, hagg, sizeOf, typeInfo, hi, hz.2.1, hl]
theorem pair_at (W : World) (ad : Addr) (x y : Value) (h1 : W.cell? ad = some x) (h2 : W.cell? (ad.add 1) = some y) : (Instr.loadAt 23 (.pointer (some ad))).run Tryd.prog W = .ok (.agg #[x, y]) W := by
  simp only [Instr.loadAt, Instr.sureAddr, Sem.run_bind, Sem.run_pure, Result.andThen_ok, pair_load W ad x y h1 h2]
theorem quiet_pair {C : World → Prop} {K : Act → Prop} {a a' : Act} {o : Oper} (x : Operand) (ho : o.op = .load 23 x) (ad : Addr) (hx : a.eval x = .pointer (some ad)) (u v : Value) (hc : ∀ W, C W → W.cell? ad = some u ∧ W.cell? (ad.add 1) = some v) (ha : a.put o.dst (.agg #[u, v]) = a') (hk : K a') : o.quiet Tryd.prog a C K := by
  refine ⟨.agg #[u, v], fun W hW => ?_, by rw [ha]; exact hk⟩
  obtain ⟨h1, h2⟩ := hc W hW
  unfold Oper.quietAt execOp
  simp only [ho, hx, Sem.run_bind, pair_at W ad u v h1 h2, Result.andThen_ok, Sem.run_pure]
  exact ⟨rfl, rfl⟩
theorem size3 : Tryd.prog.cellsOf 3 = 1 := by kernel_rfl
theorem guard23 : Tryd.prog.eqGuardType Tryd.prog.depth 23 = false := by kernel_rfl
theorem pair_equal (W : World) (d : Nat) (a b c e : Int) : (Op.equalIn (d + 1 + 1) 23 (.agg #[.int .i64 a, .int .i64 b]) (.agg #[.int .i64 c, .int .i64 e])).run Tryd.prog W = .ok (a == c && b == e) W := by
  obtain ⟨i, hi, hz⟩ := Option.map_eq_some_iff.1 (show (Tryd.prog.info? 3).map (fun i => i.size) = some 1 by kernel_rfl)
  have hp : ∀ (u v : Value) (j : Nat), j < 2 → (part 3 #[u, v] j).run Tryd.prog W = .ok (#[u, v].getD j undef) W := fun u v j hj => by
    match j, hj with
    | 0, _ => simp [part, isAgg, Sem.run_bind, run_underlying Tryd.underlying3 W]
    | 1, _ => simp [part, isAgg, Sem.run_bind, run_underlying Tryd.underlying3 W]
  rw [run_equalIn_array W (n := 2) (e := 3) (i := i) _ _ _ Tryd.underlying23 hi, size3]
  show (Op.eqItems (d + 1) 3 1 #[Value.int .i64 a, .int .i64 b] #[Value.int .i64 c, .int .i64 e] [0, 1]).run Tryd.prog W = _
  have q1 := hp (.int .i64 a) (.int .i64 b)
  have q2 := hp (.int .i64 c) (.int .i64 e)
  cases h1 : a == c <;> cases h2 : b == e <;>
    simp [Op.eqItems, Sem.run_bind, q1 0 (by decide), q1 1 (by decide), q2 0 (by decide), q2 1 (by decide), run_equalIn_int W d 3 .i64 .i64 _ _ Tryd.underlying3, h1, h2]
theorem run_guard23 (W : World) (x y : Operand) (xs ys : Array Value) : (eqGuard .neq 23 x y (.agg xs) (.agg ys)).run Tryd.prog W = .ok () W := by
  have hp : ∀ V, (Sem.program Sem.pure).run Tryd.prog V = .ok Tryd.prog V := fun V => rfl
  simp [eqGuard, Sem.run_bind, program, hp, guard23]
theorem pair_eq (W : World) (a b c e : Int) : (Op.equalIn 10000 23 (.agg #[.int .i64 a, .int .i64 b]) (.agg #[.int .i64 c, .int .i64 e])).run Tryd.prog W = .ok (a == c && b == e) W := pair_equal W 9998 a b c e
theorem quiet_neq {C : World → Prop} {K : Act → Prop} {a a' : Act} {o : Oper} (x y : Operand) (ho : o.op = .binOp .neq 23 x y 23) (p q r s : Int) (hx : a.eval x = .agg #[.int .i64 p, .int .i64 q]) (hy : a.eval y = .agg #[.int .i64 r, .int .i64 s]) (ha : a.put o.dst (.bool (!(p == r && q == s))) = a') (hk : K a') : o.quiet Tryd.prog a C K := by
  refine ⟨.bool (!(p == r && q == s)), fun W hW => ?_, by rw [ha]; exact hk⟩
  unfold Oper.quietAt execOp
  simp only [ho, hx, hy, Sem.run_bind, run_guard23, Result.andThen_ok, run_neq_struct, pair_eq W p q r s, Sem.run_pure]
  exact ⟨rfl, rfl⟩
/-- What reads as a list of pairs. -/
def PSees (W : World) (v : Value) (l : List (Int × Int)) : Prop := l.length ≤ 9223372036854775807 ∧ ∃ A cap, v = .slice A l.length cap ∧ l.length ≤ cap ∧ ∀ i x, l[i]? = some x → ∃ ad, A = some ad ∧ W.cell? (ad.add (i * 2)) = some (.int .i64 x.1) ∧ W.cell? (ad.add (i * 2 + 1)) = some (.int .i64 x.2)
theorem PSees.below {W W' : World} {v : Value} {l : List (Int × Int)} (h : PSees W v l) (hb : Below W.heap.size W W') : PSees W' v l := by
  obtain ⟨h0, A, cap, h1, h2, h3⟩ := h
  refine ⟨h0, A, cap, h1, h2, fun i x hi => ?_⟩
  obtain ⟨ad, e0, e1, e2⟩ := h3 i x hi
  exact ⟨ad, e0, (World.cell?_of_block (hb.block _ (World.block_lt_of_cell? _ _ e1))).trans e1, (World.cell?_of_block (hb.block _ (World.block_lt_of_cell? _ _ e2))).trans e2⟩
set_option maxRecDepth 100000 in
set_option maxHeartbeats 4000000 in
theorem same_walk {v u : Value} {l m : List (Int × Int)} (w : World) (hv : PSees w v l) (hu : PSees w u m) :
    Calls Tryd.prog 16 #[v, u] w fun e w' => e = .returned (.bool (l == m)) ∧ Below w.heap.size w w' := by
  obtain ⟨hl0, A, c1, rfl, hlc, hl⟩ := hv
  obtain ⟨hm0, B, c2, rfl, hmc, hm⟩ := hu
  have HL := Aside0.mk hl
  have HM := Aside0.mk hm
  clear hl hm
  go_enter Tryd.func16, Tryd.ntmps16
  by_cases hlen : l.length = m.length
  · have hlz : (l.length : Int) = (m.length : Int) := by omega
    go_upto_region 4 with (fail)
    go_loopg [5] l.length (fun gg v5 wr => ∃ (a n : Nat), a ≤ l.length ∧ l.length - a ≤ gg ∧ v5 = .int .i64 (a : Int) ∧ Aside0 (l.take a = m.take a) ∧ wr = w.drewN n)
    case atStart => exact ⟨0, 0, Nat.zero_le _, by omega, rfl, ⟨by simp⟩, rfl⟩
    case round =>
      obtain ⟨a, n, ha, hgg, rfl, HX, hwr⟩ := hrel
      subst hwr
      by_cases hlt : a < l.length
      · have hltz : (a : Int) < (l.length : Int) := by omega
        have hltm : (a : Int) < (m.length : Int) := by omega
        have hltn : a < m.length := by omega
        obtain ⟨ad, rfl, e1, e2⟩ := HL.out a _ (List.getElem?_eq_getElem hlt)
        obtain ⟨bd, rfl, g1, g2⟩ := HM.out a _ (List.getElem?_eq_getElem hltn)
        have h1 : l.take (a + 1) = l.take a ++ [l[a]] := List.take_succ_eq_append_getElem hlt
        have h2 : m.take (a + 1) = m.take a ++ [m[a]] := List.take_succ_eq_append_getElem hltn
        have HN := Aside0.mk (And.intro h1 h2)
        clear h1 h2
        go_upto_region 6 with (fail)
        refine wp_region_quiet_lit (by kernel_rfl) (by kernel_rfl) ?_
        go_big_quiet_step (fail)
        go_big_quiet_step (fail)
        go_big_quiet_step (fail)
        go_big_quiet_want
        refine quiet_pair (.tmp 19) rfl (ad.add (a * 2)) rfl (.int .i64 l[a].1) (.int .i64 l[a].2) (by rintro W ⟨k, rfl⟩; exact ⟨e1, by rw [add_add]; exact e2⟩) (by simp only [Act.put, List.setIfInBounds_toArray, List.set_cons_zero, List.set_cons_succ]; rfl) ?_
        go_big_quiet_on
        go_big_quiet_step (fail)
        go_big_quiet_step (fail)
        go_big_quiet_step (fail)
        go_big_quiet_want
        refine quiet_pair (.tmp 23) rfl (bd.add (a * 2)) rfl (.int .i64 m[a].1) (.int .i64 m[a].2) (by rintro W ⟨k, rfl⟩; exact ⟨g1, by rw [add_add]; exact g2⟩) (by simp only [Act.put, List.setIfInBounds_toArray, List.set_cons_zero, List.set_cons_succ]; rfl) ?_
        go_big_quiet_on
        go_big_quiet_want
        refine quiet_neq (.tmp 20) (.tmp 24) rfl _ _ _ _ rfl rfl (by simp only [Act.put, List.setIfInBounds_toArray, List.set_cons_zero, List.set_cons_succ]; rfl) ?_
        go_big_quiet_on
        refine wpQuiet_nil ?_
        intro _ hw'
        obtain ⟨nq, hw''⟩ := hw'
        subst hw''
        clear e1 e2 g1 g2
        cases hq : (l[a].1 == m[a].1 && l[a].2 == m[a].2) with
        | true =>
          have hxy : l[a] = m[a] := by
            rw [Bool.and_eq_true, beq_iff_eq, beq_iff_eq] at hq
            exact Prod.ext hq.1 hq.2
          have HQ := Aside0.mk hxy
          clear hxy hq
          go_wp2_with (fail)
          go_roundg (l.length - (a + 1))
          case measure => omega
          case rel => exact ⟨a + 1, n + nq, by omega, by omega, by first | rfl | (simp; done) | rw [show wrap64 ((a : Int) + 1) = ((a + 1 : Nat) : Int) by unfold wrap64; omega], ⟨by rw [HN.out.1, HN.out.2, HX.out, HQ.out]⟩, by simp [World.drewN, Nat.add_assoc]⟩
        | false =>
          have hxy : (l == m) = false := beq_eq_false_iff_ne.2 fun e => by
            subst e
            simp at hq
          have HQ := Aside0.mk hxy
          clear hxy hq
          go_wp2_with (fail)
          go_ret
          refine ⟨by show Ending.returned (Value.bool false) = _; rw [HQ.out], ?_⟩
          first | exact pw_below_drewN (pw_below_drewN (Below.refl _ _) _) _ | exact pw_below_drewN (Below.refl _ _) _
      · obtain rfl : a = l.length := by omega
        have hxy : (l == m) = true := by
          have := HX.out
          rw [List.take_length, hlen, List.take_length] at this
          exact beq_iff_eq.2 this
        have HQ := Aside0.mk hxy
        clear hxy
        go_wp2_with (fail)
        go_ret
        exact ⟨by rw [HQ.out]; rfl, pw_below_drewN (Below.refl _ _) _⟩
  · have hlz : ¬ (l.length : Int) = (m.length : Int) := by omega
    have hlb : (((l.length : Int)) != ((m.length : Int))) = true := by simpa using hlz
    have hf : (l == m) = false := beq_eq_false_iff_ne.2 (fun e => hlen (by rw [e]))
    have HF := Aside0.mk hf
    clear hf
    go_wp2_with (fail)
    go_ret
    exact ⟨by first | (rw [HF.out]; done) | (show Ending.returned (Value.bool _) = _; rw [HF.out]), Below.refl _ _⟩
end Go.Proofs.YtoieemaheadjdaaDoor.PRel
