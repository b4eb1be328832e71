/- Maps from whole numbers to whole numbers, told as functions; and code without loops over one such map and over boxes of the call's own, walked by the kernel: what it comes to is a tree of tests. No condition on the code: where it isn't of this kind there is no tree. -/
import Derived.Test.YtgenmfbidpmneaaDoorOEval
import Derived.Maps.RangeWalk
import Derived.Laws.Tables
import Derived.Laws.Rows
namespace Go.Proofs.YtgenmfbidpmneaaDoor.Eval
open Go.RowKit Go.Maps Go.ChangeMaps Go.MapKept Go.Proofs.YtgenmfbidpmneaaDoorW.PrintWords
open Go.WideElems (Fit rd rg pl rd_val elemAt)
set_option linter.unusedVariables false
set_option linter.unusedSimpArgs false
/-- Block b of w is a map of at most n entries from whole numbers to whole numbers: it is g. -/
def MapIs (P : Program) (ti : TypeId) (w : World) (b n : Nat) (g : Int → Option Int) : Prop :=
  ∃ D : DataW Unit, w.ownsMap P ti (plainElem P ti) b n D ∧ ∀ x, (Lit.int .i64 x).wf = true → Maps.has D (.int .i64 x) = (g x).isSome ∧ ∀ v, g x = some v → ∀ z, D.atKey (.int .i64 x) z = .lit (.int .i64 v)
section
variable {P : Program} {ti mt : TypeId} {w : World} {b n : Nat} {g : Int → Option Int}
theorem MapIs.made (P : Program) (ti : TypeId) (w : World) : MapIs P ti (w.alloc (.map #[] 0)) w.heap.size 0 (fun _ => none) :=
  ⟨_, World.ownsMap_made w P ti _, fun x _ => ⟨rfl, fun v h => by cases h⟩⟩
theorem MapIs.mono (h : MapIs P ti w b n g) {m : Nat} (hm : n ≤ m) : MapIs P ti w b m g := by
  obtain ⟨D, h1, h2⟩ := h
  exact ⟨D, h1.mono hm, h2⟩
theorem MapIs.kept (h : MapIs P ti w b n g) {w' : World} {row : Option Nat} (hg : w.grownBy w' row) (hne : some b ≠ row) : MapIs P ti w' b n g := by
  obtain ⟨D, h1, h2⟩ := h
  exact ⟨D, h1.kept hg hne, h2⟩
theorem MapIs.congr (h : MapIs P ti w b n g) {g' : Int → Option Int} (he : ∀ x, (Lit.int .i64 x).wf = true → g x = g' x) : MapIs P ti w b n g' := by
  obtain ⟨D, h1, h2⟩ := h
  exact ⟨D, h1, fun x hx => by rw [← he x hx]; exact h2 x hx⟩
theorem MapIs.lt (h : MapIs P ti w b n g) : b < w.heap.size := by
  obtain ⟨D, h1, _⟩ := h
  exact h1.lt
theorem MapIs.same {w' : World} (h : MapIs P ti w b n g) (hb : w'.heap[b]? = w.heap[b]?) : MapIs P ti w' b n g := by
  obtain ⟨D, ⟨es, clock, h1, r⟩, h2⟩ := h
  exact ⟨D, ⟨es, clock, hb.trans h1, r⟩, h2⟩
theorem MapIs.val (h : MapIs P ti w b n g) {D : DataW Unit} (h2 : ∀ x, (Lit.int .i64 x).wf = true → Maps.has D (.int .i64 x) = (g x).isSome ∧ ∀ v, g x = some v → ∀ z, D.atKey (.int .i64 x) z = .lit (.int .i64 v)) {x c : Int} (hx : (Lit.int .i64 x).wf = true)
    (hc : D.atKey (.int .i64 x) (.lit (.int .i64 0)) = .lit (.int .i64 c)) : c = (g x).getD 0 := by
  obtain ⟨a1, a2⟩ := h2 x hx
  cases hg : g x with
  | none =>
    rw [hg] at a1
    rw [Maps.atKey_of_not_has a1] at hc
    injection hc with hc; injection hc with _ hc
    exact hc.symm
  | some v =>
    rw [a2 v hg] at hc
    injection hc with hc; injection hc with _ hc
    exact hc.symm
theorem MapIs.look (hk : P.underlying ti = some (.int .i64)) (ht : P.underlying mt = some (.map ti ti)) (hz : ∀ w : World, (zeroValue ti).run P w = .ok (.int .i64 0) w) (h : MapIs P ti w b n g) {x : Int} (hx : (Lit.int .i64 x).wf = true) :
    (Instr.lookup mt (.map (some b)) (.int .i64 x) true).run P w = .ok (.tuple #[.int .i64 ((g x).getD 0), .bool (g x).isSome]) w := by
  have h0 := h
  obtain ⟨D, h1, h2⟩ := h
  obtain ⟨v, ps, hrun, hv⟩ := h1.look_ok (int_keyed hk) ht (hz w) (plainElem_int hk (by decide)) (keyOf_int_mk hk hx)
  obtain ⟨c, rfl, hc, _⟩ := plainElem_int_inv hk hv
  simp only [Prod.mk.injEq] at hc
  rw [hrun, (h2 x hx).1, h0.val h2 hx hc.1]
theorem MapIs.look1 (hk : P.underlying ti = some (.int .i64)) (ht : P.underlying mt = some (.map ti ti)) (hz : ∀ w : World, (zeroValue ti).run P w = .ok (.int .i64 0) w) (h : MapIs P ti w b n g) {x : Int} (hx : (Lit.int .i64 x).wf = true) :
    (Instr.lookup mt (.map (some b)) (.int .i64 x) false).run P w = .ok (.int .i64 ((g x).getD 0)) w := by
  have h0 := h
  obtain ⟨D, h1, h2⟩ := h
  obtain ⟨c, hrun, hc, _⟩ := h1.lookup_int (int_keyed hk) ht hk (hz w) (keyOf_int_mk hk hx)
  rw [hrun, h0.val h2 hx hc]
theorem lit_ne {x y : Int} (h : y ≠ x) : (Lit.int .i64 y) ≠ Lit.int .i64 x := fun e => h (by injection e)
theorem MapIs.put (hk : P.underlying ti = some (.int .i64)) (ht : P.underlying mt = some (.map ti ti)) (h : MapIs P ti w b n g) (hn : n < maxLen) {x v : Int} (hx : (Lit.int .i64 x).wf = true) (hv : (Lit.int .i64 v).wf = true) :
    ∃ w', (Instr.mapUpdate mt (.map (some b)) (.int .i64 x) (.int .i64 v)).run P w = .ok () w' ∧ MapIs P ti w' b (n + 1) (fun y => if y = x then some v else g y) ∧ w.mapTurned w' b := by
  obtain ⟨D, h1, h2⟩ := h
  obtain ⟨w', hrun, ho, htn⟩ := h1.store (int_keyed hk) ht hn (keyOf_int_mk hk hx) (plainElem_int hk hv)
  refine ⟨w', hrun, ⟨_, ho, fun y hy => ?_⟩, htn⟩
  dsimp only
  by_cases e : y = x
  · subst e
    simp only [if_true]
    exact ⟨Maps.has_put_same (k := .int .i64 y) h1.isMap trivial _, fun u hu z => by injection hu with hu; subst hu; exact Maps.atKey_put_same (k := .int .i64 y) h1.isMap trivial _ _⟩
  · simp only [if_neg e]
    exact ⟨(Maps.has_put_other (lit_ne e) _).trans (h2 y hy).1, fun u hu z => (Maps.atKey_put_other (lit_ne e) _ _).trans ((h2 y hy).2 u hu z)⟩
theorem MapIs.clear (ht : P.underlying mt = some (.map ti ti)) (h : MapIs P ti w b n g) (ty : TypeId) :
    ∃ w', (Builtin.clear_ #[mt] ty #[.map (some b)]).run P w = .ok (.tuple #[]) w' ∧ MapIs P ti w' b 0 (fun _ => none) ∧ w.mapTurned w' b := by
  obtain ⟨D, ⟨es, clock, hb, F, hs, hD⟩, h2⟩ := h
  refine ⟨setBlock w b (.map #[] clock), ?_, ⟨.map [], ⟨#[], clock, heap_setBlock_same hb _, ⟨by simp, stamped_empty clock, by simp⟩, Nat.le_refl _, rfl⟩, fun x _ => ⟨rfl, fun v h => by cases h⟩⟩, ⟨es, clock, _, clock, hb, rfl⟩⟩
  simp [Builtin.clear_, run_underlying ht, MapKept.run_getObj_map hb, MapKept.run_setObj_map _ hb, Result.andThen, setBlock]
end
/-! ### code over one map and boxes -/
/-- What is done to the map. -/
inductive Eff where
  | put (k v : IE) | clr | drop (v : IE)
def Eff.app (ρ : Env) : Eff → (Int → Option Int) → Int → Option Int
  | .put k v, g => fun x => if x = k.den ρ then some (v.den ρ) else g x
  | .clr, _ => fun _ => none
  | .drop v, g => fun x => if g x = some (v.den ρ) then none else g x
def apps (ρ : Env) (l : List Eff) (g : Int → Option Int) : Int → Option Int := l.foldl (fun g e => e.app ρ g) g
inductive TrM where
  | leaf (t : Nat) (b : BE) (l : List SV) (e : List Eff)
  | node (e : BE) (x y : TrM)
def TrM.sat (ρ : Env) (R : Nat → Bool → List Value → ((Int → Option Int) → Int → Option Int) → Prop) : TrM → Prop
  | .leaf t b l e => R t (b.den ρ) (l.map (SV.den ρ)) (apps ρ e)
  | .node e x y => match e.den ρ with
    | true => x.sat ρ R
    | false => y.sat ρ R
/-- The tables of such code: mt the map's type, mp its slot's letter, ws the letters that are whole numbers of Go, dropf the function that forgets by value. -/
structure TabM extends Tab where
  mt : TypeId
  mp : Nat
  ws : List Nat
  dropf : FuncId
  builds : List TypeId
structure StM where
  sl : List SV
  mem : List (TypeId × List CV)
  ef : List Eff
/-- Nothing that was there has turned but this map and these boxes. -/
structure KeepM (ρ : Env) (N b : Nat) (w0 w : World) : Prop where
  os : w.os = w0.os
  tape : w.tape = w0.tape
  output : w.output = w0.output
  size : w0.heap.size ≤ w.heap.size
  block : ∀ i, i < w0.heap.size → i ≠ b → (∀ k, k < N → i ≠ ρ.bk k) → w.heap[i]? = w0.heap[i]?
theorem KeepM.refl (ρ : Env) (N b : Nat) (w : World) : KeepM ρ N b w w := ⟨rfl, rfl, rfl, Nat.le_refl _, fun _ _ _ _ => rfl⟩
theorem KeepM.grown {ρ : Env} {N b : Nat} {w0 w w' : World} {row : Option Nat} (h : KeepM ρ N b w0 w) (hg : w.grownBy w' row) (hr : ∀ i, row = some i → i = b ∨ ∃ k, k < N ∧ i = ρ.bk k) : KeepM ρ N b w0 w' :=
  ⟨hg.os.trans h.os, hg.tape.trans h.tape, hg.output.trans h.output, Nat.le_trans h.size hg.size, fun i hi hb hk => (hg.block i (Nat.lt_of_lt_of_le hi h.size) (fun e => by
    rcases hr i e.symm with e1 | ⟨k, hk1, e1⟩
    · exact hb e1
    · exact hk k hk1 e1)).trans (h.block i hi hb hk)⟩
theorem grown_of_below {w w' : World} (h : Below w.heap.size w w') : w.grownBy w' none := ⟨h.os, h.tape, h.output, h.size, fun i hi _ => h.block i hi⟩
structure Wk (P : Program) (ti : TypeId) (ρ : Env) (b n : Nat) (γ : Int → Option Int) (w0 : World) (S : StM) (w : World) : Prop where
  mem : ∀ k q, S.mem[k]? = some q → w.heap[ρ.bk k]? = some (.cells (q.2.map (CV.den ρ)).toArray q.1 (0, 0))
  mp : MapIs P ti w b (n + S.ef.length) (apps ρ S.ef γ)
  keep : KeepM ρ S.mem.length b w0 w
structure TabM.Ok (P : Program) (ti : TypeId) (ρ : Env) (b n : Nat) (γ : Int → Option Int) (w0 : World) (N : Nat) (M : TabM) : Prop where
  hk : P.underlying ti = some (.int .i64)
  ht : P.underlying M.mt = some (.map ti ti)
  hz : ∀ w : World, (zeroValue ti).run P w = .ok (.int .i64 0) w
  static : M.toTab.Static P
  infos : ∀ q ∈ M.many, (P.info? q.1).map (·.size) = some q.2
  builds : ∀ t ∈ M.builds, ∀ (w : World) (x y z : Int), (Instr.build t #[(0, .int .i64 x), (1, .int .i64 y), (2, .int .i64 z)]).run P w = .ok (.agg #[.int .i64 x, .int .i64 y, .int .i64 z, .int .i64 0, .int .i64 0, .int .i64 0, .int .i64 0, .int .i64 0]) w
  mp : ρ.rv.getD M.mp undef = .map (some b)
  ws : ∀ k ∈ M.ws, (Lit.int .i64 (ρ.iv.getD k 0)).wf = true
  fi : ∀ x, ρ.fi 9 x = (γ x).getD 0
  fn : ∀ x y z u, ρ.fn 9 x y z u = (γ x).isSome
  inj : ∀ k k', k < N → k' < N → ρ.bk k = ρ.bk k' → k = k'
  nb : ∀ k, k < N → ρ.bk k ≠ b
  room : n + 100 ≤ maxLen
  sum : ∀ f as v, M.sum f as = some v → ∀ w, KeepM ρ N b w0 w → (callFunc f (as.map (SV.den ρ)).toArray).run P w = .ok (.enter f (as.map (SV.den ρ)).toArray) w ∧ Calls P f (as.map (SV.den ρ)).toArray w (fun e w' => e = .returned (v.den ρ) ∧ Below w.heap.size w w')
  drop : ∀ (w : World) (m : Nat) (g : Int → Option Int) (x : Int), MapIs P ti w b m g → (callFunc M.dropf #[.map (some b), .int .i64 x]).run P w = .ok (.enter M.dropf #[.map (some b), .int .i64 x]) w ∧ Calls P M.dropf #[.map (some b), .int .i64 x] w (fun e w' => e = .returned (.tuple #[]) ∧ MapIs P ti w' b m (fun y => if g y = some x then none else g y) ∧ w.grownBy w' (some b))
section
variable {P : Program} {ti : TypeId} {ρ : Env} {D : List Deferred} {b n : Nat} {γ : Int → Option Int} {w0 w : World} {M : TabM} {S S' : StM} {a : Act}
variable {R : Nat → Bool → List Value → ((Int → Option Int) → Int → Option Int) → Prop} {N : Nat}
/-! ### a function that boxes and makes structs of whole numbers at its beginning, and goes on with such code -/
end
/-! ### at the operation, for a walk -/
section
variable {P : Program} {ti mt : TypeId} {b n : Nat} {g : Int → Option Int} (w : World) {ops : Array Oper} {rest : List Oper} {o : Oper} {a : Act} {Q : Exit → Act → World → Prop}
theorem wp_look1 (hk : P.underlying ti = some (.int .i64)) (ht : P.underlying mt = some (.map ti ti)) (hz : ∀ w : World, (zeroValue ti).run P w = .ok (.int .i64 0) w) (hg : o.guard = none) (m x : Operand) (hop : o.op = .lookup mt m x false) (hm : a.eval m = .map (some b)) {z : Int} (hx : a.eval x = .int .i64 z) (hw : (Lit.int .i64 z).wf = true) (h : MapIs P ti w b n g)
    (hK : wpList P ops Q rest (a.put o.dst (.int .i64 ((g z).getD 0))) w) : wpList P ops Q (o :: rest) a w := by
  refine wpList_plain hg fun K' hK' => ?_
  have hrun := h.look1 hk ht hz hw
  unfold Oper.wp
  simp [execOp, hop, hm, hx, hrun, Result.andThen]
  exact hK' _ _ hK
theorem wp_put (hk : P.underlying ti = some (.int .i64)) (ht : P.underlying mt = some (.map ti ti)) (hg : o.guard = none) (m x v : Operand) (hop : o.op = .mapUpdate mt m x v) (hm : a.eval m = .map (some b)) {z u : Int} (hx : a.eval x = .int .i64 z) (hv : a.eval v = .int .i64 u) (hw : (Lit.int .i64 z).wf = true) (hu : (Lit.int .i64 u).wf = true) (hn : n < maxLen) (h : MapIs P ti w b n g)
    (hK : ∀ w', MapIs P ti w' b (n + 1) (fun y => if y = z then some u else g y) → w.grownBy w' (some b) → wpList P ops Q rest (a.put o.dst undef) w') : wpList P ops Q (o :: rest) a w := by
  refine wpList_plain hg fun K' hK' => ?_
  obtain ⟨w', hrun, hmp, htn⟩ := h.put hk ht hn hw hu
  unfold Oper.wp
  simp [execOp, hop, hm, hx, hv, hrun, Result.andThen]
  exact hK' _ _ (hK w' hmp htn.grown)
end
end Go.Proofs.YtgenmfbidpmneaaDoor.Eval
