/- Maps of whole numbers, at the operation, for a walk: a look that asks, and a deletion. -/
import Derived.Test.YtbcfpgcfamipmaaDoorSEvalM
namespace Go.Proofs.YtbcfpgcfamipmaaDoor.Eval
open Go.RowKit Go.Maps Go.Proofs.YtbcfpgcfamipmaaDoorW.PrintWords
set_option linter.unusedVariables false
set_option linter.unusedSimpArgs false
/-- What a map reads as, told as a function. -/
def DIs (D : DataW Unit) (g : Int → Option Int) : Prop := ∀ x, (Lit.int .i64 x).wf = true → Maps.has D (.int .i64 x) = (g x).isSome ∧ ∀ v, g x = some v → ∀ z, D.atKey (.int .i64 x) z = .lit (.int .i64 v)
/-- A map of which the entries that hold v and have come are struck. -/
def swept (g : Int → Option Int) (v : Int) (left : Lit → Bool) : Int → Option Int := fun x => if g x = some v ∧ left (.int .i64 x) = false then none else g x
theorem samekey_self (x : Int) : (Lit.int .i64 x).sameKey (.int .i64 x) = true := by simp [Lit.sameKey]
theorem samekey_ne {x y : Int} (h : y ≠ x) : (Lit.int .i64 y).sameKey (.int .i64 x) = false := Maps.sameKey_ne (lit_ne h)
theorem swept_start {D : DataW Unit} {g : Int → Option Int} (h : DIs D g) (v : Int) : DIs D (swept g v (Maps.has D)) := by
  intro x hx
  have e : swept g v (Maps.has D) x = g x := by
    unfold swept
    rw [if_neg]
    rintro ⟨h1, h2⟩
    rw [(h x hx).1, h1] at h2
    cases h2
  rw [e]
  exact h x hx
theorem swept_stays {D : DataW Unit} {g : Int → Option Int} {v x c : Int} {left : Lit → Bool} (h : DIs D (swept g v left)) (hx : (Lit.int .i64 x).wf = true) (hl : left (.int .i64 x) = true) (hc : ∀ z, D.atKey (.int .i64 x) z = .lit (.int .i64 c)) (hne : c ≠ v) :
    DIs D (swept g v (fun z => left z && !z.sameKey (.int .i64 x))) := by
  have hgx : ∀ u, g x = some u → u = c := by
    intro u hu
    have e : swept g v left x = some u := by unfold swept; rw [if_neg (fun h0 => by rw [hl] at h0; cases h0.2)]; exact hu
    have := (h x hx).2 u e (.lit (.int .i64 0))
    rw [hc] at this
    injection this with this; injection this with _ this
    exact this.symm
  intro y hy
  have e : swept g v (fun z => left z && !z.sameKey (.int .i64 x)) y = swept g v left y := by
    unfold swept
    by_cases hyx : y = x
    · subst hyx
      rw [if_neg (fun h0 => hne (hgx v h0.1).symm), if_neg (fun h0 => hne (hgx v h0.1).symm)]
    · simp [samekey_ne hyx]
  rw [e]
  exact h y hy
theorem swept_struck {D : DataW Unit} {g : Int → Option Int} {v x : Int} {left : Lit → Bool} (h : DIs D (swept g v left)) (hx : (Lit.int .i64 x).wf = true) (hl : left (.int .i64 x) = true) (hc : ∀ z, D.atKey (.int .i64 x) z = .lit (.int .i64 v)) :
    DIs (D.del (.int .i64 x)) (swept g v (fun z => left z && !z.sameKey (.int .i64 x))) := by
  have hs : swept g v left x = g x := by unfold swept; rw [if_neg (fun h0 => by rw [hl] at h0; cases h0.2)]
  have hgx : g x = some v := by
    have h1 := Maps.has_true_of_atKey hc
    rw [(h x hx).1, hs] at h1
    obtain ⟨u, hu⟩ := Option.isSome_iff_exists.1 h1
    have := (h x hx).2 u (by rw [hs]; exact hu) (.lit (.int .i64 0))
    rw [hc] at this
    injection this with this; injection this with _ this
    rw [hu, this]
  intro y hy
  by_cases hyx : y = x
  · subst hyx
    have e : swept g v (fun z => left z && !z.sameKey (.int .i64 y)) y = none := by
      unfold swept
      rw [if_pos ⟨hgx, by simp [samekey_self]⟩]
    rw [e]
    exact ⟨Maps.has_del_same, fun u hu => by cases hu⟩
  · have e : swept g v (fun z => left z && !z.sameKey (.int .i64 x)) y = swept g v left y := by
      unfold swept
      simp [samekey_ne hyx]
    rw [e]
    exact ⟨(Maps.has_del_other (lit_ne hyx)).trans (h y hy).1, fun u hu z => (Maps.atKey_del_other (lit_ne hyx) _).trans ((h y hy).2 u hu z)⟩
theorem swept_end {D : DataW Unit} {g : Int → Option Int} {v : Int} {left : Lit → Bool} (h : DIs D (swept g v left)) (hl : ∀ kl, left kl = false) : DIs D (fun y => if g y = some v then none else g y) := by
  intro y hy
  have e : swept g v left y = if g y = some v then none else g y := by
    unfold swept
    by_cases hq : g y = some v
    · rw [if_pos ⟨hq, hl _⟩, if_pos hq]
    · rw [if_neg (fun h0 => hq h0.1), if_neg hq]
  have := h y hy
  rw [e] at this
  exact this
section
variable {P : Program} {ti mt : TypeId} {b n : Nat} {g : Int → Option Int} (w : World) {ops : Array Oper} {rest : List Oper} {o : Oper} {a : Act} {Q : Exit → Act → World → Prop}
theorem wp_look2 (hk : P.underlying ti = some (.int .i64)) (ht : P.underlying mt = some (.map ti ti)) (hz : ∀ w : World, (zeroValue ti).run P w = .ok (.int .i64 0) w) (hg : o.guard = none) (m x : Operand) (hop : o.op = .lookup mt m x true) (hm : a.eval m = .map (some b)) {z : Int} (hx : a.eval x = .int .i64 z) (hw : (Lit.int .i64 z).wf = true) (h : MapIs P ti w b n g)
    (hK : wpList P ops Q rest (a.put o.dst (.tuple #[.int .i64 ((g z).getD 0), .bool (g z).isSome])) w) : wpList P ops Q (o :: rest) a w := by
  refine wpList_plain hg fun K' hK' => ?_
  have hrun := h.look hk ht hz hw
  unfold Oper.wp
  simp [execOp, hop, hm, hx, hrun, Result.andThen]
  exact hK' _ _ hK
theorem MapIs.del {D : DataW Unit} {z : Int} (h2 : ∀ x, (Lit.int .i64 x).wf = true → Maps.has D (.int .i64 x) = (g x).isSome ∧ ∀ v, g x = some v → ∀ z, D.atKey (.int .i64 x) z = .lit (.int .i64 v)) : ∀ x, (Lit.int .i64 x).wf = true → Maps.has (D.del (.int .i64 z)) (.int .i64 x) = ((fun y => if y = z then none else g y) x).isSome ∧ ∀ v, (fun y => if y = z then none else g y) x = some v → ∀ u, (D.del (.int .i64 z)).atKey (.int .i64 x) u = .lit (.int .i64 v) := by
  intro x hx
  by_cases e : x = z
  · subst e
    simp only [if_pos rfl]
    exact ⟨Maps.has_del_same, fun v hv => by cases hv⟩
  · simp only [if_neg e]
    exact ⟨(Maps.has_del_other (lit_ne e)).trans (h2 x hx).1, fun v hv u => (Maps.atKey_del_other (lit_ne e) _).trans ((h2 x hx).2 v hv u)⟩
theorem wp_del (hk : P.underlying ti = some (.int .i64)) (ht : P.underlying mt = some (.map ti ti)) (hg : o.guard = none) (m x : Operand) (hop : o.op = Op.call { callee := Callee.builtin Builtin.delete, args := #[m, x], argTypes := #[mt, ti] }) (hm : a.eval m = .map (some b)) {z : Int} (hx : a.eval x = .int .i64 z) (hw : (Lit.int .i64 z).wf = true) (h : MapIs P ti w b n g)
    (hK : ∀ w', MapIs P ti w' b n (fun y => if y = z then none else g y) → w.grownBy w' (some b) → wpList P ops Q rest (a.put o.dst (.tuple #[])) w') : wpList P ops Q (o :: rest) a w := by
  obtain ⟨D, h1, h2⟩ := h
  exact wpList_delete_own w hg m x mt ti hop ti (int_keyed hk) ht _ b n D hm h1 (.int .i64 z) (.int .i64 z) hx (keyOf_int_mk hk hw) (fun w' ho ht' => hK w' ⟨_, ho, MapIs.del h2⟩ ht'.grown)
end
end Go.Proofs.YtbcfpgcfamipmaaDoor.Eval
