-- printed by a program of this session (wip/mp.py: the kit's printer, patched, over the session's own templates); checked by Lean alone
import Derived.Test.YtgenmfbidpmneaaDoorTPReloadActionsx0
import Derived.Test.YtgenmfbidpmneaaDoorTPReloadActionsx3
import Derived.Test.YtgenmfbidpmneaaDoorTPReloadActionsx6
namespace Go.Proofs.YtgenmfbidpmneaaDoor.PReloadActions
open Go.RowKit Go.Proofs.YtgenmfbidpmneaaDoorW.PrintWords Go.Proofs.YtgenmfbidpmneaaDoorW.PrintLast Go.Proofs.YtgenmfbidpmneaaDoorW.PrintMore
attribute [local go_sem] max2_int min2_int max_two min_two max_three min_three max_four min_four   -- for this text's walks alone
set_option linter.unusedVariables false
set_option linter.unusedSimpArgs false

/-! ### given: reload.lean -/
-- GIVEN spinnaker/reload.block rounds=0 making=1
-- NEEDS spinnaker/reload.relaxed
-- NEEDS spinnaker/reload.strong
-- NEEDS spinnaker/ir.Def
-- REG []api.Ins
-- INFO int
-- INFO spinnaker/api.Ins
-- IMPORT Derived.Test.YtgenmfbidpmneaaDoorEvalM
/-- What a map reads as, told as a function. -/
def DIs (D : DataW Unit) (g : Int → Option Int) : Prop := ∀ x, (Lit.int .i64 x).wf = true → Maps.has D (.int .i64 x) = (g x).isSome ∧ ∀ v, g x = some v → ∀ z, D.atKey (.int .i64 x) z = .lit (.int .i64 v)
theorem keyI : Maps.Keyed Tryd.prog 3 := Maps.int_keyed Tryd.underlying3
/-- A map of which the entries that hold v and have come are struck. -/
def swept (g : Int → Option Int) (v : Int) (left : Lit → Bool) : Int → Option Int := fun x => if g x = some v ∧ left (.int .i64 x) = false then none else g x
theorem samekey_self (x : Int) : (Lit.int .i64 x).sameKey (.int .i64 x) = true := by simp [Lit.sameKey]
theorem samekey_ne {x y : Int} (h : y ≠ x) : (Lit.int .i64 y).sameKey (.int .i64 x) = false := Maps.sameKey_ne (Eval.lit_ne h)
theorem swept_start {D : DataW Unit} {g : Int → Option Int} (h : DIs D g) (v : Int) : DIs D (swept g v (Maps.has D)) := by
  intro x hx
  have e : swept g v (Maps.has D) x = g x := by
    unfold swept
    rw [if_neg]
    rintro ⟨h1, h2⟩
    rw [(h x hx).1, h1] at h2
    cases h2
  rw [e]
  exact h x hx
theorem swept_stays {D : DataW Unit} {g : Int → Option Int} {v x c : Int} {left : Lit → Bool} (h : DIs D (swept g v left)) (hx : (Lit.int .i64 x).wf = true) (hl : left (.int .i64 x) = true) (hc : ∀ z, D.atKey (.int .i64 x) z = .lit (.int .i64 c)) (hne : c ≠ v) :
    DIs D (swept g v (fun z => left z && !z.sameKey (.int .i64 x))) := by
  have hgx : ∀ u, g x = some u → u = c := by
    intro u hu
    have e : swept g v left x = some u := by unfold swept; rw [if_neg (fun h0 => by rw [hl] at h0; cases h0.2)]; exact hu
    have := (h x hx).2 u e (.lit (.int .i64 0))
    rw [hc] at this
    injection this with this; injection this with _ this
    exact this.symm
  intro y hy
  have e : swept g v (fun z => left z && !z.sameKey (.int .i64 x)) y = swept g v left y := by
    unfold swept
    by_cases hyx : y = x
    · subst hyx
      rw [if_neg (fun h0 => hne (hgx v h0.1).symm), if_neg (fun h0 => hne (hgx v h0.1).symm)]
    · simp [samekey_ne hyx]
  rw [e]
  exact h y hy
theorem swept_struck {D : DataW Unit} {g : Int → Option Int} {v x : Int} {left : Lit → Bool} (h : DIs D (swept g v left)) (hx : (Lit.int .i64 x).wf = true) (hl : left (.int .i64 x) = true) (hc : ∀ z, D.atKey (.int .i64 x) z = .lit (.int .i64 v)) :
    DIs (D.del (.int .i64 x)) (swept g v (fun z => left z && !z.sameKey (.int .i64 x))) := by
  have hs : swept g v left x = g x := by unfold swept; rw [if_neg (fun h0 => by rw [hl] at h0; cases h0.2)]
  have hgx : g x = some v := by
    have h1 := Maps.has_true_of_atKey hc
    rw [(h x hx).1, hs] at h1
    obtain ⟨u, hu⟩ := Option.isSome_iff_exists.1 h1
    have := (h x hx).2 u (by rw [hs]; exact hu) (.lit (.int .i64 0))
    rw [hc] at this
    injection this with this; injection this with _ this
    rw [hu, this]
  intro y hy
  by_cases hyx : y = x
  · subst hyx
    have e : swept g v (fun z => left z && !z.sameKey (.int .i64 y)) y = none := by
      unfold swept
      rw [if_pos ⟨hgx, by simp [samekey_self]⟩]
    rw [e]
    exact ⟨Maps.has_del_same, fun u hu => by cases hu⟩
  · have e : swept g v (fun z => left z && !z.sameKey (.int .i64 x)) y = swept g v left y := by
      unfold swept
      simp [samekey_ne hyx]
    rw [e]
    exact ⟨(Maps.has_del_other (Eval.lit_ne hyx)).trans (h y hy).1, fun u hu z => (Maps.atKey_del_other (Eval.lit_ne hyx) _).trans ((h y hy).2 u hu z)⟩
theorem swept_end {D : DataW Unit} {g : Int → Option Int} {v : Int} {left : Lit → Bool} (h : DIs D (swept g v left)) (hl : ∀ kl, left kl = false) : DIs D (fun y => if g y = some v then none else g y) := by
  intro y hy
  have e : swept g v left y = if g y = some v then none else g y := by
    unfold swept
    by_cases hq : g y = some v
    · rw [if_pos ⟨hq, hl _⟩, if_pos hq]
    · rw [if_neg (fun h0 => hq h0.1), if_neg hq]
  have := h y hy
  rw [e] at this
  exact this
set_option maxRecDepth 100000 in
theorem forget_walk (b n : Nat) (g : Int → Option Int) (v : Int) (w : World) (hm : Eval.MapIs Tryd.prog 3 w b n g) :
    Calls Tryd.prog 76 #[.map (some b), .int .i64 v] w fun e w' => e = .returned (.tuple #[]) ∧ Eval.MapIs Tryd.prog 3 w' b n (fun y => if g y = some v then none else g y) ∧ w.grownBy w' (some b) := by
  obtain ⟨D, hown, hD⟩ := hm
  have hD0 : DIs D g := hD
  clear hD
  go_enter Tryd.func76, Tryd.ntmps76
  go_wp2_with (first
    | (at_range; refine wpList_range_own _ rfl _ 83 rfl 3 3 keyI Tryd.underlying83 _ b n _ rfl hown ?_; intro w0 hrg0 hg0 hs0)
    | go_in)
  go_frame
  go_loopw [4] (fun _ wr => ∃ (left : Lit → Bool) (cnt : Nat) (D' : DataW Unit), wr.ranges Tryd.prog 3 (plainElem Tryd.prog 3) b w.heap.size n D' left cnt ∧ DIs D' (swept g v left) ∧ w.grownBy wr (some b))
    (fun _ wr => wr.rangeLeft b w.heap.size)
  case atStart => exact ⟨_, _, _, hrg0, swept_start hD0 v, hg0.but _⟩
  case round =>
    obtain ⟨left, cnt, D', hrg, hD, hgw⟩ := hrel
    go_wp2_with (first
      | (at_next; refine wpList_next_ranges_ii _ rfl _ rfl 3 3 .i64 .i64 keyI Tryd.underlying3 Tryd.underlying3 b w.heap.size n _ _ _ rfl hrg ?_ ?_)
      | go_in)
    · intro _ hl0
      go_wp2
      go_end0
      exact ⟨rfl, ⟨_, hrg.owns, swept_end hD hl0⟩, hgw⟩
    · intro x c w1 cnt1 hwx hwc hlx hat hrg1 hlt hg1 hs1 hen
      have hgw1 := hgw.andThen hg1 (fun j hj => by cases hj; exact Or.inl (Nat.le_refl _))
      go_wp2_with (first
        | (at_delete; refine wpList_delete_ranges _ rfl _ _ 83 3 rfl 3 keyI Tryd.underlying83 _ b w.heap.size n _ _ _ rfl hrg1 _ _ rfl (Maps.keyOf_int_mk Tryd.underlying3 hwx) ?_; intro w2 cnt2 hrg2 hle hturn; go_frame)
        | go_in)
      · have hc0 : c = v := by simpa using (by assumption : (c == v) = true)
        subst hc0
        rw [Maps.strike_twice] at hrg2
        go_roundw
        case rel => exact ⟨_, cnt2, _, hrg2, swept_struck hD hwx hlx hat, hgw1.andThen hturn.grown (fun j hj => by cases hj; exact Or.inr rfl)⟩
        case measure => rw [hrg2.left_eq, hrg.left_eq]; omega
      · have hc0 : c ≠ v := by simpa using (by assumption : (c == v) = false)
        go_roundw
        case rel => exact ⟨_, cnt1, _, hrg1, swept_stays hD hwx hlx hat hc0, hgw1⟩
        case measure => rw [hrg1.left_eq, hrg.left_eq]; exact hlt
/-- Does an instruction load, or store, relaxed? -/
def relB (i : S38) (op : Int) : Bool := i.f0 == op && i.f6 == 0
/-- What an instruction becomes where g is known. -/
def stI (g : Int → Option Int) (i : S38) : S38 := if ((g i.f5).isSome && relB i 6) = true then ⟨2, i.f1, (g i.f5).getD 0, 0, 0, 0, 0, 0⟩ else i
/-- What is known behind an instruction. -/
def stK (g : Int → Option Int) (j : S38) : Int → Option Int :=
  let g1 : Int → Option Int := if strongB j.f0 j.f6 = true then fun _ => none else g
  let g2 : Int → Option Int := if (hasB j.f0 1 && !(j.f0 == 2 && j.f2 == j.f1)) = true then fun y => if g1 y = some j.f1 then none else g1 y else g1
  if relB j 6 = true then fun y => if y = j.f5 then some j.f1 else g2 y else if relB j 7 = true then fun y => if y = j.f5 then some j.f2 else g2 y else g2
def stG (g : Int → Option Int) (i : S38) : Int → Option Int := stK g (stI g i)
def insV (i : S38) : List Value := [.int .i64 i.f0, .int .i64 i.f1, .int .i64 i.f2, .int .i64 i.f3, .int .i64 i.f4, .int .i64 i.f5, .int .i64 i.f6, .int .i64 i.f7]
def insCs : List Eval.CV := [.i (.v 0), .i (.v 1), .i (.v 2), .i (.v 3), .i (.v 4), .i (.v 5), .i (.v 6), .i (.v 7)]
def strongE (o d : Eval.IE) : Eval.BE := .ite (.cmp .eq o (.lit 10)) (.lit true) (.ite (.cmp .eq o (.lit 8)) (.lit true) (.ite (.cmp .eq o (.lit 9)) (.lit true) (.ite (.ite (.cmp .eq o (.lit 6)) (.lit true) (.cmp .eq o (.lit 7))) (.cmp .ne d (.lit 0)) (.lit false))))
def sumS : FuncId → List Eval.SV → Option Eval.SV
  | 73, [.agg [.i o, .i _, .i _, .i _, .i _, .i _, .i d, .i _], .i x] => some (.b (.ite (.cmp .eq o x) (.cmp .eq d (.lit 0)) (.lit false)))
  | 74, [.agg [.i o, .i _, .i _, .i _, .i _, .i _, .i d, .i _]] => some (.b (strongE o d))
  | 75, [.agg [.i o, .i d, .i _, .i _, .i _, .i _, .i _, .i _]] => some (.tup [.i (.f2 0 o d), .b (.fn 0 o (.lit 1) (.lit 0) (.lit 0))])
  | _, _ => none
theorem strongE_den (ρ : Eval.Env) (o d : Eval.IE) : (strongE o d).den ρ = strongB (o.den ρ) (d.den ρ) := by
  simp only [strongE, Eval.BE.den, Eval.CO.den, Eval.IE.den, strongB]
  generalize o.den ρ = x
  generalize d.den ρ = y
  by_cases h1 : x = 10
  · simp [h1]
  · by_cases h2 : x = 8
    · simp [h2]
    · by_cases h3 : x = 9
      · simp [h3]
      · by_cases h4 : x = 6
        · simp [h4]
        · by_cases h5 : x = 7 <;> simp [h1, h2, h3, h4, h5]
theorem relaxed_some (a0 a1 a2 a3 a4 a5 a6 a7 x : Int) : reload_relaxed.f a0 a1 a2 a3 a4 a5 a6 a7 x = some (cond (a0 == x) (a6 == 0) false) := by
  unfold reload_relaxed.f
  by_cases h : a0 = x
  · rw [if_pos h, show (a0 == x) = true by simpa using h]; rfl
  · rw [if_neg h, show (a0 == x) = false by simpa using h]; rfl
theorem def_some (a0 a1 a2 a3 a4 a5 a6 a7 : Int) : ir_Def.f a0 a1 a2 a3 a4 a5 a6 a7 = some (if hasB a0 1 = true then a1 else 0, hasB a0 1) := by
  show (some (hasB a0 1)).bind (fun t => if t = true then some (a1, true) else some (0, false)) = _
  rw [Option.bind_some]
  cases hasB a0 1 <;> rfl
def tabM : Eval.TabM := { tabS with sum := sumS, mt := 83, mp := 0, ws := [1, 2, 5], dropf := 76, builds := [38] }
def T62 : Eval.TrM := .node (.fn 9 (.v 5) (.lit 0) (.lit 0) (.lit 0)) (.node (.cmp .eq (.v 0) (.lit 6)) (.node (.cmp .eq (.v 6) (.lit 0)) (.node (.fn 0 (.lit 2) (.lit 1) (.lit 0) (.lit 0)) (.node (.cmp .eq (.f 9 (.v 5)) (.f2 0 (.lit 2) (.v 1))) (.leaf 0 (.lit true) [(.i (.lit 2)), (.i (.v 1)), (.i (.f 9 (.v 5))), (.i (.lit 0)), (.i (.lit 0)), (.i (.lit 0)), (.i (.lit 0)), (.i (.lit 0))] []) (.leaf 0 (.lit true) [(.i (.lit 2)), (.i (.v 1)), (.i (.f 9 (.v 5))), (.i (.lit 0)), (.i (.lit 0)), (.i (.lit 0)), (.i (.lit 0)), (.i (.lit 0))] [(.drop (.f2 0 (.lit 2) (.v 1)))])) (.leaf 0 (.lit true) [(.i (.lit 2)), (.i (.v 1)), (.i (.f 9 (.v 5))), (.i (.lit 0)), (.i (.lit 0)), (.i (.lit 0)), (.i (.lit 0)), (.i (.lit 0))] [])) (.node (.cmp .ne (.v 6) (.lit 0)) (.node (.fn 0 (.v 0) (.lit 1) (.lit 0) (.lit 0)) (.leaf 0 (.lit true) [(.i (.v 0)), (.i (.v 1)), (.i (.v 2)), (.i (.v 3)), (.i (.v 4)), (.i (.v 5)), (.i (.v 6)), (.i (.v 7))] [.clr, (.drop (.f2 0 (.v 0) (.v 1)))]) (.leaf 0 (.lit true) [(.i (.v 0)), (.i (.v 1)), (.i (.v 2)), (.i (.v 3)), (.i (.v 4)), (.i (.v 5)), (.i (.v 6)), (.i (.v 7))] [.clr])) (.node (.fn 0 (.v 0) (.lit 1) (.lit 0) (.lit 0)) (.leaf 0 (.lit true) [(.i (.v 0)), (.i (.v 1)), (.i (.v 2)), (.i (.v 3)), (.i (.v 4)), (.i (.v 5)), (.i (.v 6)), (.i (.v 7))] [(.drop (.f2 0 (.v 0) (.v 1)))]) (.leaf 0 (.lit true) [(.i (.v 0)), (.i (.v 1)), (.i (.v 2)), (.i (.v 3)), (.i (.v 4)), (.i (.v 5)), (.i (.v 6)), (.i (.v 7))] [])))) (.node (.cmp .eq (.v 0) (.lit 10)) (.node (.fn 0 (.v 0) (.lit 1) (.lit 0) (.lit 0)) (.leaf 0 (.lit true) [(.i (.v 0)), (.i (.v 1)), (.i (.v 2)), (.i (.v 3)), (.i (.v 4)), (.i (.v 5)), (.i (.v 6)), (.i (.v 7))] [.clr, (.drop (.f2 0 (.v 0) (.v 1)))]) (.leaf 0 (.lit true) [(.i (.v 0)), (.i (.v 1)), (.i (.v 2)), (.i (.v 3)), (.i (.v 4)), (.i (.v 5)), (.i (.v 6)), (.i (.v 7))] [.clr])) (.node (.cmp .eq (.v 0) (.lit 8)) (.node (.fn 0 (.v 0) (.lit 1) (.lit 0) (.lit 0)) (.leaf 0 (.lit true) [(.i (.v 0)), (.i (.v 1)), (.i (.v 2)), (.i (.v 3)), (.i (.v 4)), (.i (.v 5)), (.i (.v 6)), (.i (.v 7))] [.clr, (.drop (.f2 0 (.v 0) (.v 1)))]) (.leaf 0 (.lit true) [(.i (.v 0)), (.i (.v 1)), (.i (.v 2)), (.i (.v 3)), (.i (.v 4)), (.i (.v 5)), (.i (.v 6)), (.i (.v 7))] [.clr])) (.node (.cmp .eq (.v 0) (.lit 9)) (.node (.fn 0 (.v 0) (.lit 1) (.lit 0) (.lit 0)) (.leaf 0 (.lit true) [(.i (.v 0)), (.i (.v 1)), (.i (.v 2)), (.i (.v 3)), (.i (.v 4)), (.i (.v 5)), (.i (.v 6)), (.i (.v 7))] [.clr, (.drop (.f2 0 (.v 0) (.v 1)))]) (.leaf 0 (.lit true) [(.i (.v 0)), (.i (.v 1)), (.i (.v 2)), (.i (.v 3)), (.i (.v 4)), (.i (.v 5)), (.i (.v 6)), (.i (.v 7))] [.clr])) (.node (.cmp .eq (.v 0) (.lit 7)) (.node (.cmp .ne (.v 6) (.lit 0)) (.node (.fn 0 (.v 0) (.lit 1) (.lit 0) (.lit 0)) (.node (.cmp .eq (.v 6) (.lit 0)) (.leaf 0 (.lit true) [(.i (.v 0)), (.i (.v 1)), (.i (.v 2)), (.i (.v 3)), (.i (.v 4)), (.i (.v 5)), (.i (.v 6)), (.i (.v 7))] [.clr, (.drop (.f2 0 (.v 0) (.v 1))), (.put (.v 5) (.v 2))]) (.leaf 0 (.lit true) [(.i (.v 0)), (.i (.v 1)), (.i (.v 2)), (.i (.v 3)), (.i (.v 4)), (.i (.v 5)), (.i (.v 6)), (.i (.v 7))] [.clr, (.drop (.f2 0 (.v 0) (.v 1)))])) (.node (.cmp .eq (.v 6) (.lit 0)) (.leaf 0 (.lit true) [(.i (.v 0)), (.i (.v 1)), (.i (.v 2)), (.i (.v 3)), (.i (.v 4)), (.i (.v 5)), (.i (.v 6)), (.i (.v 7))] [.clr, (.put (.v 5) (.v 2))]) (.leaf 0 (.lit true) [(.i (.v 0)), (.i (.v 1)), (.i (.v 2)), (.i (.v 3)), (.i (.v 4)), (.i (.v 5)), (.i (.v 6)), (.i (.v 7))] [.clr]))) (.node (.fn 0 (.v 0) (.lit 1) (.lit 0) (.lit 0)) (.node (.cmp .eq (.v 6) (.lit 0)) (.leaf 0 (.lit true) [(.i (.v 0)), (.i (.v 1)), (.i (.v 2)), (.i (.v 3)), (.i (.v 4)), (.i (.v 5)), (.i (.v 6)), (.i (.v 7))] [(.drop (.f2 0 (.v 0) (.v 1))), (.put (.v 5) (.v 2))]) (.leaf 0 (.lit true) [(.i (.v 0)), (.i (.v 1)), (.i (.v 2)), (.i (.v 3)), (.i (.v 4)), (.i (.v 5)), (.i (.v 6)), (.i (.v 7))] [(.drop (.f2 0 (.v 0) (.v 1)))])) (.node (.cmp .eq (.v 6) (.lit 0)) (.leaf 0 (.lit true) [(.i (.v 0)), (.i (.v 1)), (.i (.v 2)), (.i (.v 3)), (.i (.v 4)), (.i (.v 5)), (.i (.v 6)), (.i (.v 7))] [(.put (.v 5) (.v 2))]) (.leaf 0 (.lit true) [(.i (.v 0)), (.i (.v 1)), (.i (.v 2)), (.i (.v 3)), (.i (.v 4)), (.i (.v 5)), (.i (.v 6)), (.i (.v 7))] [])))) (.node (.fn 0 (.v 0) (.lit 1) (.lit 0) (.lit 0)) (.node (.cmp .eq (.v 0) (.lit 2)) (.node (.cmp .eq (.v 2) (.f2 0 (.v 0) (.v 1))) (.leaf 0 (.lit true) [(.i (.v 0)), (.i (.v 1)), (.i (.v 2)), (.i (.v 3)), (.i (.v 4)), (.i (.v 5)), (.i (.v 6)), (.i (.v 7))] []) (.leaf 0 (.lit true) [(.i (.v 0)), (.i (.v 1)), (.i (.v 2)), (.i (.v 3)), (.i (.v 4)), (.i (.v 5)), (.i (.v 6)), (.i (.v 7))] [(.drop (.f2 0 (.v 0) (.v 1)))])) (.leaf 0 (.lit true) [(.i (.v 0)), (.i (.v 1)), (.i (.v 2)), (.i (.v 3)), (.i (.v 4)), (.i (.v 5)), (.i (.v 6)), (.i (.v 7))] [(.drop (.f2 0 (.v 0) (.v 1)))])) (.leaf 0 (.lit true) [(.i (.v 0)), (.i (.v 1)), (.i (.v 2)), (.i (.v 3)), (.i (.v 4)), (.i (.v 5)), (.i (.v 6)), (.i (.v 7))] []))))))) (.node (.cmp .eq (.v 0) (.lit 10)) (.node (.fn 0 (.v 0) (.lit 1) (.lit 0) (.lit 0)) (.leaf 0 (.lit true) [(.i (.v 0)), (.i (.v 1)), (.i (.v 2)), (.i (.v 3)), (.i (.v 4)), (.i (.v 5)), (.i (.v 6)), (.i (.v 7))] [.clr, (.drop (.f2 0 (.v 0) (.v 1)))]) (.leaf 0 (.lit true) [(.i (.v 0)), (.i (.v 1)), (.i (.v 2)), (.i (.v 3)), (.i (.v 4)), (.i (.v 5)), (.i (.v 6)), (.i (.v 7))] [.clr])) (.node (.cmp .eq (.v 0) (.lit 8)) (.node (.fn 0 (.v 0) (.lit 1) (.lit 0) (.lit 0)) (.leaf 0 (.lit true) [(.i (.v 0)), (.i (.v 1)), (.i (.v 2)), (.i (.v 3)), (.i (.v 4)), (.i (.v 5)), (.i (.v 6)), (.i (.v 7))] [.clr, (.drop (.f2 0 (.v 0) (.v 1)))]) (.leaf 0 (.lit true) [(.i (.v 0)), (.i (.v 1)), (.i (.v 2)), (.i (.v 3)), (.i (.v 4)), (.i (.v 5)), (.i (.v 6)), (.i (.v 7))] [.clr])) (.node (.cmp .eq (.v 0) (.lit 9)) (.node (.fn 0 (.v 0) (.lit 1) (.lit 0) (.lit 0)) (.leaf 0 (.lit true) [(.i (.v 0)), (.i (.v 1)), (.i (.v 2)), (.i (.v 3)), (.i (.v 4)), (.i (.v 5)), (.i (.v 6)), (.i (.v 7))] [.clr, (.drop (.f2 0 (.v 0) (.v 1)))]) (.leaf 0 (.lit true) [(.i (.v 0)), (.i (.v 1)), (.i (.v 2)), (.i (.v 3)), (.i (.v 4)), (.i (.v 5)), (.i (.v 6)), (.i (.v 7))] [.clr])) (.node (.cmp .eq (.v 0) (.lit 6)) (.node (.cmp .ne (.v 6) (.lit 0)) (.node (.fn 0 (.v 0) (.lit 1) (.lit 0) (.lit 0)) (.node (.cmp .eq (.v 6) (.lit 0)) (.leaf 0 (.lit true) [(.i (.v 0)), (.i (.v 1)), (.i (.v 2)), (.i (.v 3)), (.i (.v 4)), (.i (.v 5)), (.i (.v 6)), (.i (.v 7))] [.clr, (.drop (.f2 0 (.v 0) (.v 1))), (.put (.v 5) (.v 1))]) (.leaf 0 (.lit true) [(.i (.v 0)), (.i (.v 1)), (.i (.v 2)), (.i (.v 3)), (.i (.v 4)), (.i (.v 5)), (.i (.v 6)), (.i (.v 7))] [.clr, (.drop (.f2 0 (.v 0) (.v 1)))])) (.node (.cmp .eq (.v 6) (.lit 0)) (.leaf 0 (.lit true) [(.i (.v 0)), (.i (.v 1)), (.i (.v 2)), (.i (.v 3)), (.i (.v 4)), (.i (.v 5)), (.i (.v 6)), (.i (.v 7))] [.clr, (.put (.v 5) (.v 1))]) (.leaf 0 (.lit true) [(.i (.v 0)), (.i (.v 1)), (.i (.v 2)), (.i (.v 3)), (.i (.v 4)), (.i (.v 5)), (.i (.v 6)), (.i (.v 7))] [.clr]))) (.node (.fn 0 (.v 0) (.lit 1) (.lit 0) (.lit 0)) (.node (.cmp .eq (.v 6) (.lit 0)) (.leaf 0 (.lit true) [(.i (.v 0)), (.i (.v 1)), (.i (.v 2)), (.i (.v 3)), (.i (.v 4)), (.i (.v 5)), (.i (.v 6)), (.i (.v 7))] [(.drop (.f2 0 (.v 0) (.v 1))), (.put (.v 5) (.v 1))]) (.leaf 0 (.lit true) [(.i (.v 0)), (.i (.v 1)), (.i (.v 2)), (.i (.v 3)), (.i (.v 4)), (.i (.v 5)), (.i (.v 6)), (.i (.v 7))] [(.drop (.f2 0 (.v 0) (.v 1)))])) (.node (.cmp .eq (.v 6) (.lit 0)) (.leaf 0 (.lit true) [(.i (.v 0)), (.i (.v 1)), (.i (.v 2)), (.i (.v 3)), (.i (.v 4)), (.i (.v 5)), (.i (.v 6)), (.i (.v 7))] [(.put (.v 5) (.v 1))]) (.leaf 0 (.lit true) [(.i (.v 0)), (.i (.v 1)), (.i (.v 2)), (.i (.v 3)), (.i (.v 4)), (.i (.v 5)), (.i (.v 6)), (.i (.v 7))] [])))) (.node (.cmp .eq (.v 0) (.lit 7)) (.node (.cmp .ne (.v 6) (.lit 0)) (.node (.fn 0 (.v 0) (.lit 1) (.lit 0) (.lit 0)) (.node (.cmp .eq (.v 6) (.lit 0)) (.leaf 0 (.lit true) [(.i (.v 0)), (.i (.v 1)), (.i (.v 2)), (.i (.v 3)), (.i (.v 4)), (.i (.v 5)), (.i (.v 6)), (.i (.v 7))] [.clr, (.drop (.f2 0 (.v 0) (.v 1))), (.put (.v 5) (.v 2))]) (.leaf 0 (.lit true) [(.i (.v 0)), (.i (.v 1)), (.i (.v 2)), (.i (.v 3)), (.i (.v 4)), (.i (.v 5)), (.i (.v 6)), (.i (.v 7))] [.clr, (.drop (.f2 0 (.v 0) (.v 1)))])) (.node (.cmp .eq (.v 6) (.lit 0)) (.leaf 0 (.lit true) [(.i (.v 0)), (.i (.v 1)), (.i (.v 2)), (.i (.v 3)), (.i (.v 4)), (.i (.v 5)), (.i (.v 6)), (.i (.v 7))] [.clr, (.put (.v 5) (.v 2))]) (.leaf 0 (.lit true) [(.i (.v 0)), (.i (.v 1)), (.i (.v 2)), (.i (.v 3)), (.i (.v 4)), (.i (.v 5)), (.i (.v 6)), (.i (.v 7))] [.clr]))) (.node (.fn 0 (.v 0) (.lit 1) (.lit 0) (.lit 0)) (.node (.cmp .eq (.v 6) (.lit 0)) (.leaf 0 (.lit true) [(.i (.v 0)), (.i (.v 1)), (.i (.v 2)), (.i (.v 3)), (.i (.v 4)), (.i (.v 5)), (.i (.v 6)), (.i (.v 7))] [(.drop (.f2 0 (.v 0) (.v 1))), (.put (.v 5) (.v 2))]) (.leaf 0 (.lit true) [(.i (.v 0)), (.i (.v 1)), (.i (.v 2)), (.i (.v 3)), (.i (.v 4)), (.i (.v 5)), (.i (.v 6)), (.i (.v 7))] [(.drop (.f2 0 (.v 0) (.v 1)))])) (.node (.cmp .eq (.v 6) (.lit 0)) (.leaf 0 (.lit true) [(.i (.v 0)), (.i (.v 1)), (.i (.v 2)), (.i (.v 3)), (.i (.v 4)), (.i (.v 5)), (.i (.v 6)), (.i (.v 7))] [(.put (.v 5) (.v 2))]) (.leaf 0 (.lit true) [(.i (.v 0)), (.i (.v 1)), (.i (.v 2)), (.i (.v 3)), (.i (.v 4)), (.i (.v 5)), (.i (.v 6)), (.i (.v 7))] [])))) (.node (.fn 0 (.v 0) (.lit 1) (.lit 0) (.lit 0)) (.node (.cmp .eq (.v 0) (.lit 2)) (.node (.cmp .eq (.v 2) (.f2 0 (.v 0) (.v 1))) (.leaf 0 (.lit true) [(.i (.v 0)), (.i (.v 1)), (.i (.v 2)), (.i (.v 3)), (.i (.v 4)), (.i (.v 5)), (.i (.v 6)), (.i (.v 7))] []) (.leaf 0 (.lit true) [(.i (.v 0)), (.i (.v 1)), (.i (.v 2)), (.i (.v 3)), (.i (.v 4)), (.i (.v 5)), (.i (.v 6)), (.i (.v 7))] [(.drop (.f2 0 (.v 0) (.v 1)))])) (.leaf 0 (.lit true) [(.i (.v 0)), (.i (.v 1)), (.i (.v 2)), (.i (.v 3)), (.i (.v 4)), (.i (.v 5)), (.i (.v 6)), (.i (.v 7))] [(.drop (.f2 0 (.v 0) (.v 1)))])) (.leaf 0 (.lit true) [(.i (.v 0)), (.i (.v 1)), (.i (.v 2)), (.i (.v 3)), (.i (.v 4)), (.i (.v 5)), (.i (.v 6)), (.i (.v 7))] [])))))))
def envS (i : S38) (g : Int → Option Int) (b s : Nat) : Eval.Env := { iv := [i.f0, i.f1, i.f2, i.f3, i.f4, i.f5, i.f6, i.f7], bv := [], sv := [], bk := fun k => s + k, rv := [.map (some b)], fn := fun n x y _ _ => if n = 9 then (g x).isSome else hasB x y, fi := fun _ x => (g x).getD 0, fi2 := fun _ x y => if hasB x 1 = true then y else 0 }
theorem envS_0 (i : S38) (g : Int → Option Int) (b s : Nat) : (envS i g b s).iv.getD 0 0 = i.f0 := rfl
theorem envS_1 (i : S38) (g : Int → Option Int) (b s : Nat) : (envS i g b s).iv.getD 1 0 = i.f1 := rfl
theorem envS_2 (i : S38) (g : Int → Option Int) (b s : Nat) : (envS i g b s).iv.getD 2 0 = i.f2 := rfl
theorem envS_3 (i : S38) (g : Int → Option Int) (b s : Nat) : (envS i g b s).iv.getD 3 0 = i.f3 := rfl
theorem envS_4 (i : S38) (g : Int → Option Int) (b s : Nat) : (envS i g b s).iv.getD 4 0 = i.f4 := rfl
theorem envS_5 (i : S38) (g : Int → Option Int) (b s : Nat) : (envS i g b s).iv.getD 5 0 = i.f5 := rfl
theorem envS_6 (i : S38) (g : Int → Option Int) (b s : Nat) : (envS i g b s).iv.getD 6 0 = i.f6 := rfl
theorem envS_7 (i : S38) (g : Int → Option Int) (b s : Nat) : (envS i g b s).iv.getD 7 0 = i.f7 := rfl
theorem envS_look (i : S38) (g : Int → Option Int) (b s : Nat) (x y z u : Int) : (envS i g b s).fn 9 x y z u = (g x).isSome := rfl
theorem envS_has (i : S38) (g : Int → Option Int) (b s : Nat) (x y z u : Int) : (envS i g b s).fn 0 x y z u = hasB x y := by simp [envS]
theorem envS_val (i : S38) (g : Int → Option Int) (b s n : Nat) (x : Int) : (envS i g b s).fi n x = (g x).getD 0 := rfl
theorem envS_def (i : S38) (g : Int → Option Int) (b s n : Nat) (x y : Int) : (envS i g b s).fi2 n x y = if hasB x 1 = true then y else 0 := rfl
set_option maxHeartbeats 4000000 in
theorem T62_sat (i : S38) (g : Int → Option Int) (b s : Nat) : T62.sat (envS i g b s) (fun _ _ vals E => vals = insV (stI g i) ∧ E g = stG g i) := by
  simp only [T62, Eval.TrM.sat, Eval.apps, List.foldl_cons, List.foldl_nil, Eval.Eff.app, Eval.SV.den, Eval.CV.den, Eval.BE.den, Eval.CO.den, Eval.IE.den, envS_0, envS_1, envS_2, envS_3, envS_4, envS_5, envS_6, envS_7, envS_look, envS_has, envS_val, envS_def, List.map_cons, List.map_nil]
  repeat' split
  all_goals (refine ⟨?_, ?_⟩ <;> first | (simp_all [stI, stG, stK, relB, insV, strongB]; done) | (simp_all [stI, stG, stK, relB, insV, strongB]; funext y; by_cases hy : y = i.f5 <;> simp [hy]))
set_option maxRecDepth 100000 in
set_option maxHeartbeats 4000000 in
theorem step_walk (i : S38) (g : Int → Option Int) (b n : Nat) (w : World) (hG : OpsLaid w) (hb : b ≠ 0) (hn : n + 100 ≤ maxLen) (h1 : (Lit.int .i64 i.f1).wf = true) (h2 : (Lit.int .i64 i.f2).wf = true) (h5 : (Lit.int .i64 i.f5).wf = true) (hm : Eval.MapIs Tryd.prog 3 w b n g) :
    Calls Tryd.prog 62 #[.map (some b), .agg (insV i).toArray] w fun e w' => e = .returned (.agg (insV (stI g i)).toArray) ∧ Eval.MapIs Tryd.prog 3 w' b (n + 100) (stG g i) ∧ w.grownBy w' (some b) := by
  have hlt : 0 < w.heap.size := World.block_lt_of_cell? w _ (hG 0 (by decide))
  have hbl := hm.lt
  have key := Eval.fn_treeC (P := Tryd.prog) (ti := 3) (ρ := envS i g b w.heap.size) (b := b) (n := n) (γ := g) (w := w) (M := tabM) (R := fun _ _ vals E => vals = insV (stI g i) ∧ E g = stG g i) (f := 62) (ps := [.raw 0, .agg insCs]) (T := T62) (zs := [(38, 8)]) Tryd.func62 (by kernel_rfl) ⟨tabS_static.fields, tabS_static.one, tabS_static.many, tabS_static.lens, tabS_static.bools, tabS_static.boxes⟩ ?hz rfl hm ?hM ?hu (T62_sat i g b w.heap.size)
  case hz =>
    intro q hq w1
    simp only [List.mem_cons, List.mem_nil_iff, or_false] at hq
    subst hq
    kernel_rfl
  case hu =>
    intro q hq
    simp only [tabM, tabS, List.mem_cons, List.mem_nil_iff, or_false] at hq
    rcases hq with rfl | rfl | rfl
    · exact ⟨_, Tryd.underlying38⟩
    · exact ⟨_, Tryd.underlying25⟩
    · exact ⟨_, Tryd.underlying34⟩
  case hM =>
    intro w1 N hbel
    refine ⟨Tryd.underlying3, Tryd.underlying83, fun W => by kernel_rfl, ⟨tabS_static.fields, tabS_static.one, tabS_static.many, tabS_static.lens, tabS_static.bools, tabS_static.boxes⟩, ?_, ?_, rfl, ?_, fun x => rfl, fun x y z u => rfl, ?_, ?_, hn, ?_, ?_⟩
    · intro q hq
      simp only [tabM, tabS, List.mem_cons, List.mem_nil_iff, or_false] at hq
      rcases hq with rfl | rfl | rfl <;> kernel_rfl
    · intro t ht W x y z
      simp only [tabM, List.mem_cons, List.mem_nil_iff, or_false] at ht
      subst ht
      kernel_rfl
    · intro k hk
      simp only [tabM, List.mem_cons, List.mem_nil_iff, or_false] at hk
      rcases hk with rfl | rfl | rfl
      · exact h1
      · exact h2
      · exact h5
    · intro k k' _ _ e
      have : w.heap.size + k = w.heap.size + k' := e
      omega
    · intro k _ e
      have : w.heap.size + k = b := e
      omega
    · intro f vs v hv W hW
      have hGW : OpsLaid W := fun j hj => by
        have hc := (hG.below (Nat.le_refl _) hbel) j hj
        have hl : 0 < w1.heap.size := World.block_lt_of_cell? w1 _ hc
        have hblk := hW.block 0 hl (Ne.symm hb) (fun k _ e => by have : 0 = w.heap.size + k := e; omega)
        unfold World.cell? at hc ⊢
        rw [hblk]
        exact hc
      simp only [tabM, sumS] at hv
      split at hv
      · injection hv with hv
        subst hv
        exact ⟨enters_ Tryd.func73 (by kernel_rfl) (by kernel_rfl) _ W, (reload_relaxed.calls _ _ _ _ _ _ _ _ _ _ W (relaxed_some _ _ _ _ _ _ _ _ _)).mono fun e w' h => ⟨h.1, h.2⟩⟩
      · injection hv with hv
        subst hv
        exact ⟨enters_ Tryd.func74 (by kernel_rfl) (by kernel_rfl) _ W, (reload_strong.calls _ _ _ _ _ _ _ _ _ W rfl).mono fun e w' h => ⟨h.1.trans (by rw [Eval.SV.den, strongE_den]), h.2⟩⟩
      · injection hv with hv
        subst hv
        exact ⟨enters_ Tryd.func75 (by kernel_rfl) (by kernel_rfl) _ W, (ir_Def.calls _ _ _ _ _ _ _ _ _ _ W hGW (def_some _ _ _ _ _ _ _ _)).mono fun e w' h => ⟨h.1.trans (by simp only [Eval.SV.den, Eval.CV.den, Eval.BE.den, Eval.CO.den, Eval.IE.den, envS_0, envS_1, envS_2, envS_3, envS_4, envS_5, envS_6, envS_7, envS_look, envS_has, envS_val, envS_def, List.map_cons, List.map_nil]), h.2⟩⟩
      · cases hv
    · intro W m g' x hmW
      exact ⟨enters_ Tryd.func76 (by kernel_rfl) (by kernel_rfl) _ W, forget_walk b m g' x W hmW⟩
  refine key.mono fun e w' ⟨vals, E, ⟨hv, hE⟩, he, hmp, hgr⟩ => ?_
  subst hv
  rw [hE] at hmp
  exact ⟨he, hmp, hgr⟩
theorem b_map {ops : Array Oper} {rest : List Oper} {o : Oper} {a : Act} {Q : Exit → Act → World → Prop} {W : World} {m : TypeId} (hg : o.guard = none) (hop : o.op = .makeMap m none)
    (h : ∀ b, b = W.heap.size → ∀ w1, Eval.MapIs Tryd.prog 3 w1 b 0 (fun _ => none) → Below W.heap.size W w1 → wpList Tryd.prog ops Q rest (a.put o.dst (.map (some b))) w1) : wpList Tryd.prog ops Q (o :: rest) a W :=
  Kd.event_run hg (by simp [execOp, hop, run_makeMap, Result.andThen]) (h _ rfl _ (Eval.MapIs.made _ _ _) (below_alloc (Below.refl _ _) _))
theorem b_alloc {ops : Array Oper} {rest : List Oper} {o : Oper} {a : Act} {Q : Exit → Act → World → Prop} {W : World} {t : TypeId} {zs : Array Value} (hg : o.guard = none) (hop : o.op = .alloc t)
    (hz : (Instr.alloc t true (.tuple #[])).run Tryd.prog W = .ok (.pointer (some ⟨W.heap.size, 0, none⟩)) (W.alloc (.cells zs t (0, 0))))
    (h : ∀ b, b = W.heap.size → ∀ w1, w1.heap[b]? = some (.cells zs t (0, 0)) → Below W.heap.size W w1 → wpList Tryd.prog ops Q rest (a.put o.dst (.pointer (some ⟨b, 0, none⟩))) w1) : wpList Tryd.prog ops Q (o :: rest) a W :=
  Kd.event_run hg (by simp only [execOp, hop]; simp [hz, Result.andThen]) (h _ rfl _ (blk_new W _) (below_alloc (Below.refl _ _) _))
theorem b_store {ops : Array Oper} {rest : List Oper} {o : Oper} {a : Act} {Q : Exit → Act → World → Prop} {W : World} {t : TypeId} {x v : Operand} {g : Nat} {old cs : Array Value} (hg : o.guard = none) (hop : o.op = .store t x v) (hN : o.dst = none) (hx : a.eval x = .pointer (some ⟨g, 0, none⟩)) (hv : a.eval v = .agg cs)
    (hb : W.heap[g]? = some (.cells old t (0, 0))) (hi : (Tryd.prog.info? t).map (·.size) = some cs.size) (ho : old.size = cs.size) (h1 : cs.all (·.oneCell') = true)
    (h : ∀ w1, w1.heap[g]? = some (.cells cs t (0, 0)) → W.grownBy w1 (some g) → wpList Tryd.prog ops Q rest a w1) : wpList Tryd.prog ops Q (o :: rest) a W := by
  refine wpList_plain hg fun K hK => ?_
  have hrow := run_storeVar_row (P := Tryd.prog) W g t t old cs hb hi ho h1
  have hrun : (execOp a.eval o).run Tryd.prog W = .ok .skip (W.setRow g cs) := by
    simp [execOp, hop, hx, hv, Instr.storeAt, Instr.sureAddr, hrow, Result.andThen]
  unfold Oper.wp
  rw [hrun]
  show K (a.put o.dst undef) _
  rw [hN]
  exact hK _ _ (h _ (setRow_heap W g old cs t (0, 0) hb) ⟨rfl, rfl, rfl, by simp, fun i _ hi2 => setRow_other W g i cs (fun e => hi2 (by rw [e]))⟩)
theorem b_below {n g : Nat} {w W W1 : World} (h : Below n w W) (hg : W.grownBy W1 (some g)) (hn : n ≤ g) (hs : n ≤ W.heap.size) : Below n w W1 :=
  ⟨hg.os.trans h.os, hg.tape.trans h.tape, hg.output.trans h.output, Nat.le_trans h.size hg.size, fun i hi => (hg.block i (Nat.lt_of_lt_of_le hi hs) (fun e => by injection e with e; omega)).trans (h.block i hi)⟩
/-- What a block's instructions become. -/
def stL : (Int → Option Int) → List S38 → List S38
  | _, [] => []
  | g, i :: r => stI g i :: stL (stG g i) r
/-- Is a block of no odd numbers, and not too long? -/
def okB (l : List S38) : Prop := l.length ≤ 4294967296 ∧ ∀ i ∈ l, (Lit.int .i64 i.f1).wf = true ∧ (Lit.int .i64 i.f2).wf = true ∧ (Lit.int .i64 i.f5).wf = true
instance (l : List S38) : Decidable (okB l) := by unfold okB; exact inferInstance
def reload_block.f (l : List (S38)) (e0 e1 e2 e3 : Int) : Option (List (S38) × Int × Int × Int × Int) := if okB l then some (stL (fun _ => none) l, e0, e1, e2, e3) else none
theorem b_drop {α : Type} (l : List α) (z : α) (i : Nat) (h : i < l.length) : l.drop i = l.getD i z :: l.drop (i + 1) := by
  rw [List.drop_eq_getElem_cons h]
  simp [h]
theorem b_cells5 {w : World} {g : Nat} {t : TypeId} {x0 x1 x2 x3 x4 : Value} (h : w.heap[g]? = some (.cells #[x0, x1, x2, x3, x4] t (0, 0))) : w.cell? ⟨g, 0, none⟩ = some x0 ∧ w.cell? ⟨g, 1, none⟩ = some x1 ∧ w.cell? ⟨g, 2, none⟩ = some x2 ∧ w.cell? ⟨g, 3, none⟩ = some x3 ∧ w.cell? ⟨g, 4, none⟩ = some x4 := ⟨(blk_cell h 0).trans rfl, (blk_cell h 1).trans rfl, (blk_cell h 2).trans rfl, (blk_cell h 3).trans rfl, (blk_cell h 4).trans rfl⟩
/-- A map's block is no row. -/
theorem map_ne {n b : Nat} {g : Int → Option Int} {w : World} {v : Value} {xs : List S38} {base : Nat} {ok : Nat → Prop} (hm : Eval.MapIs Tryd.prog 3 w b n g) (ho : Kd.R k38 38 w base ok v xs) : some b ≠ v.ownBlock := by
  obtain ⟨D, ⟨es, clock, h1, _⟩, _⟩ := hm
  obtain ⟨h0, inner, hown, _⟩ := ho
  intro e
  obtain ⟨cells, hc⟩ := own_typed hown b e.symm
  rw [h1] at hc
  cases hc
def bml_ : Nat → Nat → List Bool
  | 0, _ => []
  | n + 1, b => (b % 2 == 1) :: bml_ n (b / 2)
def bm_ (n b : Nat) : Array Bool := ⟨bml_ n b⟩
theorem bP {P : Program} {ops : Array Oper} {Q : Exit → Act → World → Prop} {md : Region.Mode} {S : World → Prop} {ds : List Nat} {i : Nat} {N : Option Tmp} {oi : Oper} {v : Value} {fuel : Nat} {l : Array Bool} {a : Act} {w : World} {a' : Act} (l' : Array Bool) (h : wpAnyLast P md ops Q S ds fuel l' a' w) (hi : ops[i]? = some oi := by rfl) (hN : oi.dst = N := by rfl) (hc : anyB md ops l l' i = true := by kernel_rfl) (hQ : ∀ c a w, Q (.panic c) (a.put oi.dst v) w → Q (.panic c) a w := by exact fun _ _ _ h => h) (hy : Yields P ops oi v a := by (refine Or.inl ⟨by rfl, ?_⟩; intro w'; go_simp; with_reducible rfl)) (ha : a.put N v = a' := by (simp only [Act.put, List.setIfInBounds_toArray, List.set_cons_zero, List.set_cons_succ, i64_w, i32_w]; rfl)) : wpAnyLast P md ops Q S ds (fuel + 1) l a w := pure_ l' hi hN hc hQ hy ha h
theorem bT {P : Program} {ops : Array Oper} {Q : Exit → Act → World → Prop} {md : Region.Mode} {S : World → Prop} {ds : List Nat} {i : Nat} {N : Option Tmp} {oi : Oper} {v : Value} {fuel : Nat} {l : Array Bool} {a : Act} {w : World} {a' : Act} (l' : Array Bool) (h : wpAnyLast P md ops Q S ds fuel l' a' w) (hS : S w := by exact hHeld) (hi : ops[i]? = some oi := by rfl) (hN : oi.dst = N := by rfl) (hc : takeB md ops ds l l' i = true := by kernel_rfl) (hQ : ∀ c a w, Q (.panic c) (a.put oi.dst v) w → Q (.panic c) a w := by exact fun _ _ _ h => h) (hy : YieldsIf P ops S oi v a := by (refine Or.inl ⟨by rfl, ?_⟩; rintro w' ⟨s0, s1, s2, s3, s4, s5, s6, s7, s8⟩; go_simp; with_reducible rfl)) (ha : a.put N v = a' := by (simp only [Act.put, List.setIfInBounds_toArray, List.set_cons_zero, List.set_cons_succ, i64_w, i32_w]; rfl)) : wpAnyLast P md ops Q S ds (fuel + 1) l a w := take_ l' hi hN hc hQ hy hS ha h
set_option maxRecDepth 100000 in
set_option maxHeartbeats 8000000 in
theorem reload_block.calls (A0_0 : Option Addr) (c0_0 : Nat) (l0_0 : List (S38)) (a0_1 : Int) (a0_2 : Int) (a0_3 : Int) (a0_4 : Int) (r1 : List (S38)) (r2 : Int) (r3 : Int) (r4 : Int) (r5 : Int) (w : World) (hr0_0 : Kd.C k38 w A0_0 l0_0.length l0_0) (hc0_0 : l0_0.length ≤ c0_0) (hG : OpsLaid w) (h : reload_block.f l0_0 a0_1 a0_2 a0_3 a0_4 = some (r1, r2, r3, r4, r5)) :
    Calls Tryd.prog 37 #[.agg #[.slice A0_0 l0_0.length c0_0, .int .i64 a0_1, .int .i64 a0_2, .int .i64 a0_3, .int .i64 a0_4]] w fun e w' => ∃ v0_ : Value, e = .returned (.agg #[v0_, .int .i64 r2, .int .i64 r3, .int .i64 r4, .int .i64 r5]) ∧ Kd.R k38 38 w' w.heap.size (fun _ => True) v0_ r1 ∧ Below w.heap.size w w' := by
  have hok : okB l0_0 := by
    unfold reload_block.f at h
    by_cases e : okB l0_0
    · exact e
    · rw [if_neg e] at h; cases h
  unfold reload_block.f at h
  rw [if_pos hok] at h
  simp only [Option.some.injEq, Prod.mk.injEq] at h
  obtain ⟨hst, rfl, rfl, rfl, rfl⟩ := h
  have HOK := Aside0.mk hok
  have HST := Aside0.mk hst
  clear hok hst
  have hu38 := Tryd.underlying38
  have hu34 := Tryd.underlying34
  have hu36 := Tryd.underlying36
  have HR := Aside0.mk hr0_0
  have HC := Aside0.mk hc0_0
  have HG := Aside0.mk hG
  clear hr0_0 hc0_0 hG
  have HB := Aside0.mk (Below.refl w.heap.size w)
  go_enter Tryd.func37, Tryd.ntmps37
  go_upto_region 2 with (first | ((with_reducible refine gate_dst (N := 1) rfl ?_); refine box_event ?hg (N := 1) ?hd (cs := #[.slice A0_0 l0_0.length c0_0, .int .i64 a0_1, .int .i64 a0_2, .int .i64 a0_3, .int .i64 a0_4]) (t := 36) ?hr ?_; (case hd => rfl); (case hg => rfl); (case hr => first | (go_simp; done) | (go_simp; rfl)); intro gb hg wb hbox hb; have n0_ := Aside0.mk (below_step (by repeat (first | (with_reducible first | exact HB.out | apply below_alloc | apply pw_below_drewN | apply below_drew1) | exact HB.out)) hb); have BKgb := Aside0.mk hbox; clear HB; have HB := n0_; clear n0_ hb hbox hg) | ((with_reducible refine gate_dst (N := 2) rfl ?_); refine b_alloc rfl (t := 36) (zs := #[.slice none 0 0, .int .i64 0, .int .i64 0, .int .i64 0, .int .i64 0]) rfl (by kernel_rfl) ?_; intro gr hgr wb hnew hb; have BKgr := Aside0.mk hnew; have Ggr := Aside0.mk (show w.heap.size ≤ gr by rw [hgr]; exact below_size (by repeat (first | (with_reducible first | exact HB.out | apply below_alloc | apply pw_below_drewN | apply below_drew1) | exact HB.out))); have NEgrgb := Aside0.mk (show gr ≠ gb by rw [hgr]; exact Nat.ne_of_gt (blk_lt BKgb.out)); have n0_ := Aside0.mk (below_step (by repeat (first | (with_reducible first | exact HB.out | apply below_alloc | apply pw_below_drewN | apply below_drew1) | exact HB.out)) hb); have n1_ := Aside0.mk (blk_below BKgb.out hb); clear HB BKgb; have HB := n0_; have BKgb := n1_; clear n0_ n1_; clear hnew hgr hb) | ((with_reducible refine gate_dst (N := 7) rfl ?_); refine b_map rfl (m := 83) rfl ?_; intro bm hbm wm hmm hb; have HM := Aside0.mk hmm; have HW := Aside0.mk (show w.heap.size ≤ bm by rw [hbm]; exact below_size (by repeat (first | (with_reducible first | exact HB.out | apply below_alloc | apply pw_below_drewN | apply below_drew1) | exact HB.out))); have NEbmgb := Aside0.mk (show bm ≠ gb by rw [hbm]; exact Nat.ne_of_gt (blk_lt BKgb.out)); have NEbmgr := Aside0.mk (show bm ≠ gr by rw [hbm]; exact Nat.ne_of_gt (blk_lt BKgr.out)); have n0_ := Aside0.mk (below_step (by repeat (first | (with_reducible first | exact HB.out | apply below_alloc | apply pw_below_drewN | apply below_drew1) | exact HB.out)) hb); have n1_ := Aside0.mk (blk_below BKgb.out hb); have n2_ := Aside0.mk (blk_below BKgr.out hb); clear HB BKgb BKgr; have HB := n0_; have BKgb := n1_; have BKgr := n2_; clear n0_ n1_ n2_; clear hmm hbm hb))
  obtain ⟨hb0, hb1, hb2, hb3, hb4⟩ := b_cells5 BKgb.out
  go_upto_region 3 with (first | ((with_reducible refine gate_dst (N := 4) rfl ?_); refine b_alloc rfl (t := 36) (zs := #[.slice none 0 0, .int .i64 0, .int .i64 0, .int .i64 0, .int .i64 0]) rfl (by kernel_rfl) ?_; intro go hgo wb hnew hb; have BKgo := Aside0.mk hnew; have Ggo := Aside0.mk (show w.heap.size ≤ go by rw [hgo]; exact below_size (by repeat (first | (with_reducible first | exact HB.out | apply below_alloc | apply pw_below_drewN | apply below_drew1) | exact HB.out))); have NEgogb := Aside0.mk (show go ≠ gb by rw [hgo]; exact Nat.ne_of_gt (blk_lt BKgb.out)); have NEgogr := Aside0.mk (show go ≠ gr by rw [hgo]; exact Nat.ne_of_gt (blk_lt BKgr.out)); have NEbmgo := Aside0.mk (show bm ≠ go by rw [hgo]; exact Nat.ne_of_lt HM.out.lt); have n0_ := Aside0.mk (below_step (by repeat (first | (with_reducible first | exact HB.out | apply below_alloc | apply pw_below_drewN | apply below_drew1) | exact HB.out)) hb); have n1_ := Aside0.mk (blk_below BKgb.out hb); have n2_ := Aside0.mk (blk_below BKgr.out hb); have n3_ := Aside0.mk (HM.out.kept (Eval.grown_of_below hb) (by simp)); clear HB BKgb BKgr HM; have HB := n0_; have BKgb := n1_; have BKgr := n2_; have HM := n3_; clear n0_ n1_ n2_ n3_; clear hnew hgo hb) | ((with_reducible refine gate_store (t := 36) (p := 4) rfl ?_); refine b_store rfl (t := 36) rfl rfl rfl rfl BKgo.out (by kernel_rfl) rfl (by first | (simp; done) | (simp [Value.oneCell']; done) | (simp; rfl)) ?_; intro wb hnew hgr; have n0_ := Aside0.mk (b_below HB.out hgr Ggo.out HB.out.size); have n1_ := Aside0.mk (blk_grown BKgb.out hgr (fun e => by injection e with e; exact NEgogb.out e.symm)); have n2_ := Aside0.mk (blk_grown BKgr.out hgr (fun e => by injection e with e; exact NEgogr.out e.symm)); have n3_ := Aside0.mk (HM.out.kept hgr (fun e => by injection e with e; exact NEbmgo.out e)); have n4_ := Aside0.mk (hnew); clear HB BKgb BKgr HM BKgo; have HB := n0_; have BKgb := n1_; have BKgr := n2_; have HM := n3_; have BKgo := n4_; clear n0_ n1_ n2_ n3_ n4_; clear hnew hgr))
  clear hb0 hb1 hb2 hb3 hb4
  obtain ⟨hb0, hb1, hb2, hb3, hb4⟩ := b_cells5 BKgb.out
  go_wp2
  clear hb0 hb1 hb2 hb3 hb4 BKgb NEbmgb NEgogb NEgrgb
  go_loopg [14] l0_0.length (fun gg v14 wr => ∃ (j n : Nat) (g : Int → Option Int) (xs : List S38) (v : Value), j ≤ l0_0.length ∧ l0_0.length - j ≤ gg ∧ v14 = .int .i64 (j : Int) ∧ Aside0 (xs ++ stL g (l0_0.drop j) = r1) ∧ Aside0 (xs.length = j) ∧ Aside0 (n ≤ j * 100) ∧ Aside0 (Eval.MapIs Tryd.prog 3 wr bm n g) ∧ Aside0 (Kd.R k38 38 wr w.heap.size (fun _ => True) v xs) ∧ Aside0 (wr.heap[gr]? = some (.cells #[.slice none 0 0, .int .i64 0, .int .i64 0, .int .i64 0, .int .i64 0] 36 (0, 0))) ∧ Aside0 (wr.heap[go]? = some (.cells #[v, .int .i64 a0_1, .int .i64 a0_2, .int .i64 a0_3, .int .i64 a0_4] 36 (0, 0))) ∧ Aside0 (Below w.heap.size w wr))
  case atStart => exact ⟨0, 0, _, [], .slice none 0 0, Nat.zero_le _, by omega, rfl, ⟨by simpa using HST.out⟩, ⟨rfl⟩, ⟨Nat.zero_le _⟩, HM, ⟨Kd.R_nil _ _ _ _ _⟩, BKgr, BKgo, HB⟩
  case round =>
    clear HST HM BKgr BKgo HB
    obtain ⟨j, n, g, xs, v, hj, hgg, rfl, HST, HL, HN, HM, HO, BKgr, BKgo, HB⟩ := hrel
    obtain ⟨Av, cv, ev⟩ := Kd.R_slice HO.out
    subst ev
    by_cases hlt : j < l0_0.length
    · have hltz : (j : Int) < (l0_0.length : Int) := by omega
      obtain ⟨ad, rfl, hy0, hy1, hy2, hy3, hy4, hy5, hy6, hy7⟩ := at_T38 HR.out (j : Int) (by omega) hltz
      rw [show rd_T38 l0_0 (j : Int) = l0_0.getD j z38 by simp [rd_T38]] at hy0 hy1 hy2 hy3 hy4 hy5 hy6 hy7
      have hmem : l0_0.getD j z38 ∈ l0_0 := by simp [hlt]
      have hwf := HOK.out.2 _ hmem
      have hdrop := b_drop l0_0 z38 j hlt
      have hst2 := HST.out
      rw [hdrop, stL] at hst2
      clear HST hdrop hmem
      generalize l0_0.getD j z38 = i at hy0 hy1 hy2 hy3 hy4 hy5 hy6 hy7 hwf hst2
      have HST := Aside0.mk hst2
      have HWF := Aside0.mk hwf
      clear hst2 hwf
      rw [Int.toNat_natCast] at hy0 hy1 hy2 hy3 hy4 hy5 hy6 hy7
      replace hy0 := (HB.out.cell (World.block_lt_of_cell? w _ hy0)).trans hy0
      replace hy1 := (HB.out.cell (World.block_lt_of_cell? w _ hy1)).trans hy1
      replace hy2 := (HB.out.cell (World.block_lt_of_cell? w _ hy2)).trans hy2
      replace hy3 := (HB.out.cell (World.block_lt_of_cell? w _ hy3)).trans hy3
      replace hy4 := (HB.out.cell (World.block_lt_of_cell? w _ hy4)).trans hy4
      replace hy5 := (HB.out.cell (World.block_lt_of_cell? w _ hy5)).trans hy5
      replace hy6 := (HB.out.cell (World.block_lt_of_cell? w _ hy6)).trans hy6
      replace hy7 := (HB.out.cell (World.block_lt_of_cell? w _ hy7)).trans hy7
      go_upto_region 6 with (first | ((with_reducible refine gate_dst (N := 6) rfl ?_); refine b_alloc rfl (t := 38) (zs := #[.int .i64 0, .int .i64 0, .int .i64 0, .int .i64 0, .int .i64 0, .int .i64 0, .int .i64 0, .int .i64 0]) rfl (by kernel_rfl) ?_; intro gi hgi wb hnew hb; have BKgi := Aside0.mk hnew; have Ggi := Aside0.mk (show w.heap.size ≤ gi by rw [hgi]; exact below_size (by repeat (first | (with_reducible first | exact HB.out | apply below_alloc | apply pw_below_drewN | apply below_drew1) | exact HB.out))); have NEgigr := Aside0.mk (show gi ≠ gr by rw [hgi]; exact Nat.ne_of_gt (blk_lt BKgr.out)); have NEgigo := Aside0.mk (show gi ≠ go by rw [hgi]; exact Nat.ne_of_gt (blk_lt BKgo.out)); have NOgi := Aside0.mk (show some gi ≠ (Value.slice Av xs.length cv).ownBlock by rw [hgi]; exact Kd.fresh' (Kd.R_lt HO.out) _ (Nat.le_refl _)); have NEbmgi := Aside0.mk (show bm ≠ gi by rw [hgi]; exact Nat.ne_of_lt HM.out.lt); have n0_ := Aside0.mk (below_step (by repeat (first | (with_reducible first | exact HB.out | apply below_alloc | apply pw_below_drewN | apply below_drew1) | exact HB.out)) hb); have n1_ := Aside0.mk (blk_below BKgr.out hb); have n2_ := Aside0.mk (blk_below BKgo.out hb); have n3_ := Aside0.mk (HM.out.kept (Eval.grown_of_below hb) (by simp)); have n4_ := Aside0.mk (Kd.R_below HO.out hb); clear HB BKgr BKgo HM HO; have HB := n0_; have BKgr := n1_; have BKgo := n2_; have HM := n3_; have HO := n4_; clear n0_ n1_ n2_ n3_ n4_; clear hnew hgi hb) | ((with_reducible refine gate_store (t := 38) (p := 6) rfl ?_); refine b_store rfl (t := 38) rfl rfl rfl rfl BKgi.out (by kernel_rfl) rfl (by first | (simp; done) | (simp [Value.oneCell']; done) | (simp; rfl)) ?_; intro wb hnew hgr; have n0_ := Aside0.mk (b_below HB.out hgr Ggi.out HB.out.size); have n1_ := Aside0.mk (blk_grown BKgr.out hgr (fun e => by injection e with e; exact NEgigr.out e.symm)); have n2_ := Aside0.mk (blk_grown BKgo.out hgr (fun e => by injection e with e; exact NEgigo.out e.symm)); have n3_ := Aside0.mk (HM.out.kept hgr (fun e => by injection e with e; exact NEbmgi.out e)); have n4_ := Aside0.mk (Kd.R_grown1 HO.out rfl hgr NOgi.out); have n5_ := Aside0.mk (hnew); clear HB BKgr BKgo HM HO BKgi; have HB := n0_; have BKgr := n1_; have BKgo := n2_; have HM := n3_; have HO := n4_; have BKgi := n5_; clear n0_ n1_ n2_ n3_ n4_ n5_; clear hnew hgr))
      clear hy0 hy1 hy2 hy3 hy4 hy5 hy6 hy7
      have hdrew := below_drew1 (Below.refl wb.heap.size wb)
      have n0_ := Aside0.mk (below_step (by repeat (first | (with_reducible first | exact HB.out | apply below_alloc | apply pw_below_drewN | apply below_drew1) | exact HB.out)) hdrew); have n1_ := Aside0.mk (blk_below BKgr.out hdrew); have n2_ := Aside0.mk (blk_below BKgo.out hdrew); have n3_ := Aside0.mk (blk_below BKgi.out hdrew); have n4_ := Aside0.mk (HM.out.kept (Eval.grown_of_below hdrew) (by simp)); have n5_ := Aside0.mk (Kd.R_below HO.out hdrew); clear HB BKgr BKgo BKgi HM HO; have HB := n0_; have BKgr := n1_; have BKgo := n2_; have BKgi := n3_; have HM := n4_; have HO := n5_; clear n0_ n1_ n2_ n3_ n4_ n5_
      clear hdrew
      refine start_ (n := 9) (S := fun w' => w'.cell? ⟨go, 0, none⟩ = some (.slice Av xs.length cv) ∧ w'.cell? ⟨gi, 0, none⟩ = some (.int .i64 i.f0) ∧ w'.cell? ⟨gi, 1, none⟩ = some (.int .i64 i.f1) ∧ w'.cell? ⟨gi, 2, none⟩ = some (.int .i64 i.f2) ∧ w'.cell? ⟨gi, 3, none⟩ = some (.int .i64 i.f3) ∧ w'.cell? ⟨gi, 4, none⟩ = some (.int .i64 i.f4) ∧ w'.cell? ⟨gi, 5, none⟩ = some (.int .i64 i.f5) ∧ w'.cell? ⟨gi, 6, none⟩ = some (.int .i64 i.f6) ∧ w'.cell? ⟨gi, 7, none⟩ = some (.int .i64 i.f7)) (ds := [6, 8]) (bm_ 9 0) (by kernel_rfl) rfl rfl ⟨(blk_cell BKgo.out 0).trans rfl, (blk_cell BKgi.out 0).trans rfl, (blk_cell BKgi.out 1).trans rfl, (blk_cell BKgi.out 2).trans rfl, (blk_cell BKgi.out 3).trans rfl, (blk_cell BKgi.out 4).trans rfl, (blk_cell BKgi.out 5).trans rfl, (blk_cell BKgi.out 6).trans rfl, (blk_cell BKgi.out 7).trans rfl⟩ (fun hHeld => ?_)
      generalize wb.drew = wd at HB BKgr BKgo BKgi HM HO hHeld ⊢
      refine bP (i := 0) (N := some 18) (bm_ 9 1) ?_
      refine bP (i := 2) (N := some 20) (bm_ 9 5) ?_
      refine bT (i := 1) (N := some 19) (bm_ 9 7) ?_
      refine bT (i := 3) (N := some 21) (bm_ 9 15) ?_
      refine one_ (i := 4) (N := some 22) (bm_ 9 31) rfl rfl (by kernel_rfl) (by decide) (fun K hK => ?_)
      have hroom : n + 100 ≤ maxLen := by have h1 := HN.out; have h2 := HOK.out.1; unfold maxLen; omega
      have hb0 : bm ≠ 0 := by have h1 := HW.out; have h2 : 0 < w.heap.size := World.block_lt_of_cell? w _ (HG.out 0 (by decide)); omega
      refine goes_ Tryd.func62 (by kernel_rfl) (by kernel_rfl) #[.map (some bm), .agg #[.int .i64 i.f0, .int .i64 i.f1, .int .i64 i.f2, .int .i64 i.f3, .int .i64 i.f4, .int .i64 i.f5, .int .i64 i.f6, .int .i64 i.f7]] (by rfl) rfl rfl (by first | rfl | (simp [Act.eval]; done) | (go_simp; done) | (go_simp; rfl)) ?_
      refine (step_walk i g bm n wd (HG.out.below (Nat.le_refl _) HB.out) hb0 hroom HWF.out.1 HWF.out.2.1 HWF.out.2.2 HM.out).mono ?_
      rintro e w2 ⟨rfl, hm, hgr⟩
      refine ⟨.agg #[.int .i64 (stI g i).f0, .int .i64 (stI g i).f1, .int .i64 (stI g i).f2, .int .i64 (stI g i).f3, .int .i64 (stI g i).f4, .int .i64 (stI g i).f5, .int .i64 (stI g i).f6, .int .i64 (stI g i).f7], rfl, ?_⟩
      have NM := Aside0.mk (map_ne HM.out HO.out)
      have n0_ := Aside0.mk (b_below HB.out hgr HW.out HB.out.size); have n1_ := Aside0.mk (blk_grown BKgr.out hgr (fun e => by injection e with e; exact NEbmgr.out e.symm)); have n2_ := Aside0.mk (blk_grown BKgo.out hgr (fun e => by injection e with e; exact NEbmgo.out e.symm)); have n3_ := Aside0.mk (blk_grown BKgi.out hgr (fun e => by injection e with e; exact NEbmgi.out e.symm)); have n4_ := Aside0.mk (Kd.R_grown1 HO.out rfl hgr NM.out); have n5_ := Aside0.mk (hm); clear HB BKgr BKgo BKgi HO HM; have HB := n0_; have BKgr := n1_; have BKgo := n2_; have BKgi := n3_; have HO := n4_; have HM := n5_; clear n0_ n1_ n2_ n3_ n4_ n5_
      clear NM hm hgr hHeld
      have hst3 := HST.out
      clear HST
      generalize stI g i = p at hst3 ⊢
      have HST := Aside0.mk hst3
      clear hst3
      refine hK.out _ _ ⟨(blk_cell BKgo.out 0).trans rfl, (blk_cell BKgi.out 0).trans rfl, (blk_cell BKgi.out 1).trans rfl, (blk_cell BKgi.out 2).trans rfl, (blk_cell BKgi.out 3).trans rfl, (blk_cell BKgi.out 4).trans rfl, (blk_cell BKgi.out 5).trans rfl, (blk_cell BKgi.out 6).trans rfl, (blk_cell BKgi.out 7).trans rfl⟩ (fun hHeld => ?_)
      clear hK K
      refine norm_ (a' := ?_) ?_ ?_
      rotate_left
      · show Act.put _ (some 22) _ = _
        go_frame <;> try simp only [i64_w, i32_w]
        rfl

      refine one_ (i := 5) (N := some 23) (bm_ 9 63) rfl rfl (by kernel_rfl) (by decide) (fun K hK => ?_)
      refine value_ (w1 := ?_) (v := ?_) (by rfl) rfl ?_ ?_
      rotate_left 2
      · go_simp
        constructor
        · rfl
        · rfl
      refine hK.out _ _ ⟨(blk_cell (blk_alloc BKgo.out _) 0).trans rfl, (blk_cell (blk_alloc BKgi.out _) 0).trans rfl, (blk_cell (blk_alloc BKgi.out _) 1).trans rfl, (blk_cell (blk_alloc BKgi.out _) 2).trans rfl, (blk_cell (blk_alloc BKgi.out _) 3).trans rfl, (blk_cell (blk_alloc BKgi.out _) 4).trans rfl, (blk_cell (blk_alloc BKgi.out _) 5).trans rfl, (blk_cell (blk_alloc BKgi.out _) 6).trans rfl, (blk_cell (blk_alloc BKgi.out _) 7).trans rfl⟩ (fun hHeld => ?_)
      clear hK K
      refine norm_ (a' := ?_) ?_ ?_
      rotate_left
      · show Act.put _ (some 23) _ = _
        go_frame <;> try simp only [i64_w, i32_w]
        rfl

      refine last_ (i := 6) (N := some 24) (bm_ 9 127) rfl rfl (by kernel_rfl) (by decide) (fun K hK => ?_)
      refine Kd.R_append_step k38 (w0 := w) w.heap.size rfl (.tmp 19) (.tmp 23) 32 38 (.agg #[(.int .i64 0), (.int .i64 0), (.int .i64 0), (.int .i64 0), (.int .i64 0), (.int .i64 0), (.int .i64 0), (.int .i64 0)]) 64 rfl Tryd.underlying32 info38 rfl (by decide) (by omega) (.slice Av xs.length cv) xs p [.int .i64 p.f0, .int .i64 p.f1, .int .i64 p.f2, .int .i64 p.f3, .int .i64 p.f4, .int .i64 p.f5, .int .i64 p.f6, .int .i64 p.f7] (fun _ => True) (fun _ => False) rfl rfl ?aP (fun _ hk => hk.elim) ?aF ?aO ?aB ?aS ?aL ?_
      case aP => exact k38_mkM _ _ _ p
      case aF => exact fun _ _ => trivial
      case aO => exact HO.out
      case aB => exact HB.out
      case aS => exact below_size HB.out
      case aL => have h1 := HL.out; have h2 := HOK.out.1; omega
      intro v1 w3 ho2 hb2 hg2 hat
      have NM2 := Aside0.mk (map_ne HM.out HO.out)
      have n0_ := Aside0.mk (hb2); have n1_ := Aside0.mk (blk_grown BKgr.out hg2 (Kd.R_ne HO.out BKgr.out (by decide))); have n2_ := Aside0.mk (blk_grown BKgo.out hg2 (Kd.R_ne HO.out BKgo.out (by decide))); have n3_ := Aside0.mk (HM.out.kept hg2 NM2.out); have n4_ := Aside0.mk (ho2); clear HB BKgr BKgo HM HO; have HB := n0_; have BKgr := n1_; have BKgo := n2_; have HM := n3_; have HO := n4_; clear n0_ n1_ n2_ n3_ n4_
      clear NM2 ho2 hb2 hg2 hat hHeld BKgi
      obtain ⟨Av1, cv1, ev⟩ := Kd.R_slice HO.out
      subst ev
      rw [show (xs ++ [p]).length = xs.length + 1 by simp] at HO
      refine hK.out _ _ ?_
      clear hK K
      refine norm_ (a' := ?_) ?_ ?_
      rotate_left
      · show Act.put _ (some 24) _ = _
        go_frame <;> try simp only [i64_w, i32_w]
        rfl

      refine bP (i := 7) (N := some 25) (bm_ 9 255) ?_
      refine last_ (i := 8) (N := none) (bm_ 9 511) rfl rfl (by kernel_rfl) (by decide) (fun K hK => ?_)
      have hs := (blk_cell BKgo.out 0).trans rfl
      have hfs := blk_frozen BKgo.out 0
      refine skip_ (w1 := ?_) (by rfl) rfl ?_ ?_
      rotate_left
      · go_simp
        rfl
      refine hK.out _ _ ?_
      clear hK K hs hfs
      refine done_ (by kernel_rfl) ?_
      have n0_ := Aside0.mk (below_set (j := 0) (v := (.slice Av1 (xs.length + 1) cv1)) HB.out Ggo.out); have n1_ := Aside0.mk (blk_far (p := ⟨go, 0, none⟩) BKgr.out (Ne.symm NEgogr.out) (.slice Av1 (xs.length + 1) cv1)); have n2_ := Aside0.mk (HM.out.same (Below.heap_setCell _ ⟨go, 0, none⟩ (.slice Av1 (xs.length + 1) cv1) bm NEbmgo.out)); have n3_ := Aside0.mk (Kd.R_set HO.out BKgo.out (by decide) 0 (.slice Av1 (xs.length + 1) cv1)); have n4_ := Aside0.mk (blk_put BKgo.out 0 (.slice Av1 (xs.length + 1) cv1) rfl); clear HB BKgr HM HO BKgo; have HB := n0_; have BKgr := n1_; have HM := n2_; have HO := n3_; have BKgo := n4_; clear n0_ n1_ n2_ n3_ n4_
      try go_wp2
      go_roundg (l0_0.length - (j + 1))
      case measure => omega
      case rel => exact ⟨j + 1, n + 100, _, xs ++ [p], _, by omega, by omega, by rw [show wrap64 ((j : Int) + 1) = ((j + 1 : Nat) : Int) by unfold wrap64; have := HOK.out.1; omega], ⟨by rw [List.append_assoc]; exact HST.out⟩, ⟨by rw [List.length_append, HL.out]; rfl⟩, ⟨by have := HN.out; omega⟩, HM, HO, BKgr, BKgo, HB⟩
    · have hj2 : j = l0_0.length := by omega
      have hltz : ¬ (j : Int) < (l0_0.length : Int) := by omega
      have hst2 := HST.out
      rw [hj2, List.drop_length, stL, List.append_nil] at hst2
      subst hst2
      clear HST
      obtain ⟨hb0, hb1, hb2, hb3, hb4⟩ := b_cells5 BKgo.out
      go_wp2_with (first | ((with_reducible refine gate_store (t := 36) (p := 2) rfl ?_); refine b_store rfl (t := 36) rfl rfl rfl rfl BKgr.out (by kernel_rfl) rfl (by first | (simp; done) | (simp [Value.oneCell']; done) | (simp; rfl)) ?_; intro wb hnew hgr; have n0_ := Aside0.mk (b_below HB.out hgr Ggr.out HB.out.size); have n1_ := Aside0.mk (blk_grown BKgo.out hgr (fun e => by injection e with e; exact NEgogr.out e)); have n2_ := Aside0.mk (Kd.R_grown1 HO.out rfl hgr (Kd.R_ne HO.out BKgr.out (by decide))); have n3_ := Aside0.mk (hnew); clear HB BKgo HO BKgr; have HB := n0_; have BKgo := n1_; have HO := n2_; have BKgr := n3_; clear n0_ n1_ n2_ n3_; clear hnew hgr))
      refine bodyPost_ret (results_cell_row rfl _ _ gr 36 #[.slice Av xs.length cv, .int .i64 a0_1, .int .i64 a0_2, .int .i64 a0_3, .int .i64 a0_4] (0, 0) _ rfl BKgr.out Tryd.underlying36 rfl (by kernel_rfl)) rfl ?_
      exact ⟨_, rfl, HO.out, HB.out⟩


end Go.Proofs.YtgenmfbidpmneaaDoor.PReloadActions
