/- Maps from whole numbers to whole numbers, told as functions; and code without loops over one such map and over boxes of the call's own, walked by the kernel: what it comes to is a tree of tests. No condition on the code: where it isn't of this kind there is no tree. -/
import Derived.Test.YtoieemaheadjdaaDoorEval
import Derived.Maps.RangeWalk
import Derived.Laws.Tables
import Derived.Laws.Rows
namespace Go.Proofs.YtoieemaheadjdaaDoor.Eval
open Go.RowKit Go.Maps Go.ChangeMaps Go.MapKept Go.Proofs.YtoieemaheadjdaaDoorW.PrintWords
open Go.WideElems (Fit rd rg pl rd_val elemAt)
set_option linter.unusedVariables false
set_option linter.unusedSimpArgs false
/-- Block b of w is a map of at most n entries from whole numbers to whole numbers: it is g. -/
def MapIs (P : Program) (ti : TypeId) (w : World) (b n : Nat) (g : Int → Option Int) : Prop :=
  ∃ D : DataW Unit, w.ownsMap P ti (plainElem P ti) b n D ∧ ∀ x, (Lit.int .i64 x).wf = true → Maps.has D (.int .i64 x) = (g x).isSome ∧ ∀ v, g x = some v → ∀ z, D.atKey (.int .i64 x) z = .lit (.int .i64 v)
section
variable {P : Program} {ti mt : TypeId} {w : World} {b n : Nat} {g : Int → Option Int}
theorem MapIs.made (P : Program) (ti : TypeId) (w : World) : MapIs P ti (w.alloc (.map #[] 0)) w.heap.size 0 (fun _ => none) :=
  ⟨_, World.ownsMap_made w P ti _, fun x _ => ⟨rfl, fun v h => by cases h⟩⟩
theorem MapIs.mono (h : MapIs P ti w b n g) {m : Nat} (hm : n ≤ m) : MapIs P ti w b m g := by
  obtain ⟨D, h1, h2⟩ := h
  exact ⟨D, h1.mono hm, h2⟩
theorem MapIs.kept (h : MapIs P ti w b n g) {w' : World} {row : Option Nat} (hg : w.grownBy w' row) (hne : some b ≠ row) : MapIs P ti w' b n g := by
  obtain ⟨D, h1, h2⟩ := h
  exact ⟨D, h1.kept hg hne, h2⟩
theorem MapIs.congr (h : MapIs P ti w b n g) {g' : Int → Option Int} (he : ∀ x, (Lit.int .i64 x).wf = true → g x = g' x) : MapIs P ti w b n g' := by
  obtain ⟨D, h1, h2⟩ := h
  exact ⟨D, h1, fun x hx => by rw [← he x hx]; exact h2 x hx⟩
theorem MapIs.lt (h : MapIs P ti w b n g) : b < w.heap.size := by
  obtain ⟨D, h1, _⟩ := h
  exact h1.lt
theorem MapIs.same {w' : World} (h : MapIs P ti w b n g) (hb : w'.heap[b]? = w.heap[b]?) : MapIs P ti w' b n g := by
  obtain ⟨D, ⟨es, clock, h1, r⟩, h2⟩ := h
  exact ⟨D, ⟨es, clock, hb.trans h1, r⟩, h2⟩
theorem MapIs.val (h : MapIs P ti w b n g) {D : DataW Unit} (h2 : ∀ x, (Lit.int .i64 x).wf = true → Maps.has D (.int .i64 x) = (g x).isSome ∧ ∀ v, g x = some v → ∀ z, D.atKey (.int .i64 x) z = .lit (.int .i64 v)) {x c : Int} (hx : (Lit.int .i64 x).wf = true)
    (hc : D.atKey (.int .i64 x) (.lit (.int .i64 0)) = .lit (.int .i64 c)) : c = (g x).getD 0 := by
  obtain ⟨a1, a2⟩ := h2 x hx
  cases hg : g x with
  | none =>
    rw [hg] at a1
    rw [Maps.atKey_of_not_has a1] at hc
    injection hc with hc; injection hc with _ hc
    exact hc.symm
  | some v =>
    rw [a2 v hg] at hc
    injection hc with hc; injection hc with _ hc
    exact hc.symm
theorem MapIs.look (hk : P.underlying ti = some (.int .i64)) (ht : P.underlying mt = some (.map ti ti)) (hz : ∀ w : World, (zeroValue ti).run P w = .ok (.int .i64 0) w) (h : MapIs P ti w b n g) {x : Int} (hx : (Lit.int .i64 x).wf = true) :
    (Instr.lookup mt (.map (some b)) (.int .i64 x) true).run P w = .ok (.tuple #[.int .i64 ((g x).getD 0), .bool (g x).isSome]) w := by
  have h0 := h
  obtain ⟨D, h1, h2⟩ := h
  obtain ⟨v, ps, hrun, hv⟩ := h1.look_ok (int_keyed hk) ht (hz w) (plainElem_int hk (by decide)) (keyOf_int_mk hk hx)
  obtain ⟨c, rfl, hc, _⟩ := plainElem_int_inv hk hv
  simp only [Prod.mk.injEq] at hc
  rw [hrun, (h2 x hx).1, h0.val h2 hx hc.1]
theorem MapIs.look1 (hk : P.underlying ti = some (.int .i64)) (ht : P.underlying mt = some (.map ti ti)) (hz : ∀ w : World, (zeroValue ti).run P w = .ok (.int .i64 0) w) (h : MapIs P ti w b n g) {x : Int} (hx : (Lit.int .i64 x).wf = true) :
    (Instr.lookup mt (.map (some b)) (.int .i64 x) false).run P w = .ok (.int .i64 ((g x).getD 0)) w := by
  have h0 := h
  obtain ⟨D, h1, h2⟩ := h
  obtain ⟨c, hrun, hc, _⟩ := h1.lookup_int (int_keyed hk) ht hk (hz w) (keyOf_int_mk hk hx)
  rw [hrun, h0.val h2 hx hc]
theorem lit_ne {x y : Int} (h : y ≠ x) : (Lit.int .i64 y) ≠ Lit.int .i64 x := fun e => h (by injection e)
theorem MapIs.put (hk : P.underlying ti = some (.int .i64)) (ht : P.underlying mt = some (.map ti ti)) (h : MapIs P ti w b n g) (hn : n < maxLen) {x v : Int} (hx : (Lit.int .i64 x).wf = true) (hv : (Lit.int .i64 v).wf = true) :
    ∃ w', (Instr.mapUpdate mt (.map (some b)) (.int .i64 x) (.int .i64 v)).run P w = .ok () w' ∧ MapIs P ti w' b (n + 1) (fun y => if y = x then some v else g y) ∧ w.mapTurned w' b := by
  obtain ⟨D, h1, h2⟩ := h
  obtain ⟨w', hrun, ho, htn⟩ := h1.store (int_keyed hk) ht hn (keyOf_int_mk hk hx) (plainElem_int hk hv)
  refine ⟨w', hrun, ⟨_, ho, fun y hy => ?_⟩, htn⟩
  dsimp only
  by_cases e : y = x
  · subst e
    simp only [if_true]
    exact ⟨Maps.has_put_same (k := .int .i64 y) h1.isMap trivial _, fun u hu z => by injection hu with hu; subst hu; exact Maps.atKey_put_same (k := .int .i64 y) h1.isMap trivial _ _⟩
  · simp only [if_neg e]
    exact ⟨(Maps.has_put_other (lit_ne e) _).trans (h2 y hy).1, fun u hu z => (Maps.atKey_put_other (lit_ne e) _ _).trans ((h2 y hy).2 u hu z)⟩
theorem MapIs.clear (ht : P.underlying mt = some (.map ti ti)) (h : MapIs P ti w b n g) (ty : TypeId) :
    ∃ w', (Builtin.clear_ #[mt] ty #[.map (some b)]).run P w = .ok (.tuple #[]) w' ∧ MapIs P ti w' b 0 (fun _ => none) ∧ w.mapTurned w' b := by
  obtain ⟨D, ⟨es, clock, hb, F, hs, hD⟩, h2⟩ := h
  refine ⟨setBlock w b (.map #[] clock), ?_, ⟨.map [], ⟨#[], clock, heap_setBlock_same hb _, ⟨by simp, stamped_empty clock, by simp⟩, Nat.le_refl _, rfl⟩, fun x _ => ⟨rfl, fun v h => by cases h⟩⟩, ⟨es, clock, _, clock, hb, rfl⟩⟩
  simp [Builtin.clear_, run_underlying ht, MapKept.run_getObj_map hb, MapKept.run_setObj_map _ hb, Result.andThen, setBlock]
end
/-! ### code over one map and boxes -/
/-- What is done to the map. -/
inductive Eff where
  | put (k v : IE) | clr | drop (v : IE)
def Eff.app (ρ : Env) : Eff → (Int → Option Int) → Int → Option Int
  | .put k v, g => fun x => if x = k.den ρ then some (v.den ρ) else g x
  | .clr, _ => fun _ => none
  | .drop v, g => fun x => if g x = some (v.den ρ) then none else g x
def apps (ρ : Env) (l : List Eff) (g : Int → Option Int) : Int → Option Int := l.foldl (fun g e => e.app ρ g) g
theorem apps_snoc (ρ : Env) (l : List Eff) (e : Eff) (g : Int → Option Int) : apps ρ (l ++ [e]) g = e.app ρ (apps ρ l g) := by simp [apps, List.foldl_append]
inductive TrM where
  | leaf (t : Nat) (b : BE) (l : List SV) (e : List Eff)
  | node (e : BE) (x y : TrM)
def TrM.sat (ρ : Env) (R : Nat → Bool → List Value → ((Int → Option Int) → Int → Option Int) → Prop) : TrM → Prop
  | .leaf t b l e => R t (b.den ρ) (l.map (SV.den ρ)) (apps ρ e)
  | .node e x y => match e.den ρ with
    | true => x.sat ρ R
    | false => y.sat ρ R
def decM1 (kn : Kn) (e : BE) (k : Bool → Kn → Option TrM) : Option TrM :=
  match known kn e with
  | some b => k b kn
  | none => match k true ((e, true) :: kn), k false ((e, false) :: kn) with
    | some x, some y => some (.node e x y)
    | _, _ => none
def decM : BE → Kn → (Bool → Kn → Option TrM) → Option TrM
  | .not e, kn, k => decM e kn (fun b kn' => k (!b) kn')
  | .ite c x y, kn, k => decM c kn (fun b kn' => if b then decM x kn' k else decM y kn' k)
  | e, kn, k => decM1 kn e k
theorem decM1_sound {ρ : Env} {R : Nat → Bool → List Value → ((Int → Option Int) → Int → Option Int) → Prop} {kn : Kn} {e : BE} {k : Bool → Kn → Option TrM} {T : TrM} (h : decM1 kn e k = some T) (hs : T.sat ρ R) (hk : KnOk ρ kn) :
    ∃ kn' T', k (e.den ρ) kn' = some T' ∧ T'.sat ρ R ∧ KnOk ρ kn' := by
  unfold decM1 at h
  cases hq : known kn e with
  | some b =>
    rw [hq] at h
    rw [known_den hk hq]
    exact ⟨kn, T, h, hs, hk⟩
  | none =>
    rw [hq] at h
    simp only at h
    cases hx : k true ((e, true) :: kn) with
    | none => rw [hx] at h; cases h
    | some x =>
      cases hy : k false ((e, false) :: kn) with
      | none => rw [hx, hy] at h; cases h
      | some y =>
        rw [hx, hy] at h
        injection h with h
        subst h
        simp only [TrM.sat] at hs
        cases hb : e.den ρ with
        | true =>
          rw [hb] at hs
          exact ⟨_, x, hx, hs, fun p hp => by
            rcases List.mem_cons.1 hp with rfl | hp
            · exact hb
            · exact hk p hp⟩
        | false =>
          rw [hb] at hs
          exact ⟨_, y, hy, hs, fun p hp => by
            rcases List.mem_cons.1 hp with rfl | hp
            · exact hb
            · exact hk p hp⟩
theorem decM_sound {ρ : Env} {R : Nat → Bool → List Value → ((Int → Option Int) → Int → Option Int) → Prop} {e : BE} : ∀ {kn : Kn} {T : TrM} {k : Bool → Kn → Option TrM}, decM e kn k = some T → T.sat ρ R → KnOk ρ kn → ∃ kn' T', k (e.den ρ) kn' = some T' ∧ T'.sat ρ R ∧ KnOk ρ kn' := by
  induction e with
  | not e ih =>
    intro kn T k h hs hk
    simp only [decM] at h
    exact ih h hs hk
  | ite c x y ihc ihx ihy =>
    intro kn T k h hs hk
    simp only [decM] at h
    obtain ⟨kn1, T1, h1, hs1, hk1⟩ := ihc h hs hk
    simp only [BE.den]
    cases hb : c.den ρ with
    | true => rw [hb] at h1; simpa using ihx h1 hs1 hk1
    | false => rw [hb] at h1; simpa using ihy h1 hs1 hk1
  | _ => intro kn T k h hs hk; exact decM1_sound h hs hk
/-- The tables of such code: mt the map's type, mp its slot's letter, ws the letters that are whole numbers of Go, dropf the function that forgets by value. -/
structure TabM extends Tab where
  mt : TypeId
  mp : Nat
  ws : List Nat
  dropf : FuncId
  builds : List TypeId
structure StM where
  sl : List SV
  mem : List (TypeId × List CV)
  ef : List Eff
def IE.okW (ws : List Nat) : IE → Bool
  | .v n => ws.contains n
  | .lit z => (Lit.int .i64 z).wf
  | _ => false
def TabM.tabAt (M : TabM) (m : List (TypeId × List CV)) : Tab := { M.toTab with mem := m.map (·.2), sum := fun _ _ => none }
def toCV : SV → Option CV
  | .i e => some (.i e)
  | .b e => some (.b e)
  | .sl n => some (.sl n)
  | _ => none
def partsE (s : List SV) : List (Nat × Operand) → Option (List (Nat × SV))
  | [] => some []
  | p :: r => match opnd s p.2, partsE s r with
    | some v, some l => some ((p.1, v) :: l)
    | _, _ => none
/-- One operation: what it leaves. -/
def opM (M : TabM) (S : StM) (o : Op) (d : Option Tmp) : Option StM :=
  match o with
  | .lookup t m x true => match opnd S.sl m, opnd S.sl x with
    | some (.raw n), some (.i e) => if t == M.mt && n == M.mp && S.ef.isEmpty && e.okW M.ws then some { S with sl := putE S.sl d (.tup [.i (.f 9 e), .b (.fn 9 e (.lit 0) (.lit 0) (.lit 0))]) } else none
    | _, _ => none
  | .lookup t m x false => match opnd S.sl m, opnd S.sl x with
    | some (.raw n), some (.i e) => if t == M.mt && n == M.mp && S.ef.isEmpty && e.okW M.ws then some { S with sl := putE S.sl d (.i (.f 9 e)) } else none
    | _, _ => none
  | .mapUpdate t m x y => match opnd S.sl m, opnd S.sl x, opnd S.sl y with
    | some (.raw n), some (.i e), some (.i v) => if t == M.mt && n == M.mp && e.okW M.ws && v.okW M.ws && decide (S.ef.length < 100) then some { S with sl := putE S.sl d .u, ef := S.ef ++ [.put e v] } else none
    | _, _, _ => none
  | .store t x y => match opnd S.sl x, opnd S.sl y with
    | some (.ptr k 0), some (.agg cs) => match S.mem[k]? with
      | some q => if q.1 == t && q.2.length == cs.length && find1 t M.many == some cs.length then some { S with sl := putE S.sl d .u, mem := S.mem.set k (t, cs) } else none
      | none => none
    | _, _ => none
  | .build t ps => match partsE S.sl ps.toList with
    | some [(0, .i x), (1, .i y), (2, .i z)] => if M.builds.contains t then some { S with sl := putE S.sl d (.agg [.i x, .i y, .i z, .i (.lit 0), .i (.lit 0), .i (.lit 0), .i (.lit 0), .i (.lit 0)]) } else none
    | _ => none
  | .call c => match c.callee with
    | .builtin .clear => match c.args.toList, c.argTypes.toList with
      | [x], [t] => match opnd S.sl x with
        | some (.raw n) => if t == M.mt && n == M.mp then some { S with sl := putE S.sl d .u, ef := S.ef ++ [.clr] } else none
        | _ => none
      | _, _ => none
    | .builtin .len => match evalOp (M.tabAt S.mem) S.sl o with
      | some v => some { S with sl := putE S.sl d v }
      | none => none
    | .value (.func f) => match opnds S.sl c.args.toList with
      | some as => if f == M.dropf then match as with
          | [.raw n, .i e] => if n == M.mp then some { S with sl := putE S.sl d .u, ef := S.ef ++ [.drop e] } else none
          | _ => none
        else match M.sum f as with
          | some v => some { S with sl := putE S.sl d v }
          | none => none
      | none => none
    | _ => none
  | o => match evalOp (M.tabAt S.mem) S.sl o with
    | some v => some { S with sl := putE S.sl d v }
    | none => none
/-- Nothing that was there has turned but this map and these boxes. -/
structure KeepM (ρ : Env) (N b : Nat) (w0 w : World) : Prop where
  os : w.os = w0.os
  tape : w.tape = w0.tape
  output : w.output = w0.output
  size : w0.heap.size ≤ w.heap.size
  block : ∀ i, i < w0.heap.size → i ≠ b → (∀ k, k < N → i ≠ ρ.bk k) → w.heap[i]? = w0.heap[i]?
theorem KeepM.refl (ρ : Env) (N b : Nat) (w : World) : KeepM ρ N b w w := ⟨rfl, rfl, rfl, Nat.le_refl _, fun _ _ _ _ => rfl⟩
theorem KeepM.grown {ρ : Env} {N b : Nat} {w0 w w' : World} {row : Option Nat} (h : KeepM ρ N b w0 w) (hg : w.grownBy w' row) (hr : ∀ i, row = some i → i = b ∨ ∃ k, k < N ∧ i = ρ.bk k) : KeepM ρ N b w0 w' :=
  ⟨hg.os.trans h.os, hg.tape.trans h.tape, hg.output.trans h.output, Nat.le_trans h.size hg.size, fun i hi hb hk => (hg.block i (Nat.lt_of_lt_of_le hi h.size) (fun e => by
    rcases hr i e.symm with e1 | ⟨k, hk1, e1⟩
    · exact hb e1
    · exact hk k hk1 e1)).trans (h.block i hi hb hk)⟩
theorem grown_of_below {w w' : World} (h : Below w.heap.size w w') : w.grownBy w' none := ⟨h.os, h.tape, h.output, h.size, fun i hi _ => h.block i hi⟩
structure Wk (P : Program) (ti : TypeId) (ρ : Env) (b n : Nat) (γ : Int → Option Int) (w0 : World) (S : StM) (w : World) : Prop where
  mem : ∀ k q, S.mem[k]? = some q → w.heap[ρ.bk k]? = some (.cells (q.2.map (CV.den ρ)).toArray q.1 (0, 0))
  mp : MapIs P ti w b (n + S.ef.length) (apps ρ S.ef γ)
  keep : KeepM ρ S.mem.length b w0 w
structure TabM.Ok (P : Program) (ti : TypeId) (ρ : Env) (b n : Nat) (γ : Int → Option Int) (w0 : World) (N : Nat) (M : TabM) : Prop where
  hk : P.underlying ti = some (.int .i64)
  ht : P.underlying M.mt = some (.map ti ti)
  hz : ∀ w : World, (zeroValue ti).run P w = .ok (.int .i64 0) w
  static : M.toTab.Static P
  infos : ∀ q ∈ M.many, (P.info? q.1).map (·.size) = some q.2
  builds : ∀ t ∈ M.builds, ∀ (w : World) (x y z : Int), (Instr.build t #[(0, .int .i64 x), (1, .int .i64 y), (2, .int .i64 z)]).run P w = .ok (.agg #[.int .i64 x, .int .i64 y, .int .i64 z, .int .i64 0, .int .i64 0, .int .i64 0, .int .i64 0, .int .i64 0]) w
  mp : ρ.rv.getD M.mp undef = .map (some b)
  ws : ∀ k ∈ M.ws, (Lit.int .i64 (ρ.iv.getD k 0)).wf = true
  fi : ∀ x, ρ.fi 9 x = (γ x).getD 0
  fn : ∀ x y z u, ρ.fn 9 x y z u = (γ x).isSome
  inj : ∀ k k', k < N → k' < N → ρ.bk k = ρ.bk k' → k = k'
  nb : ∀ k, k < N → ρ.bk k ≠ b
  room : n + 100 ≤ maxLen
  sum : ∀ f as v, M.sum f as = some v → ∀ w, KeepM ρ N b w0 w → (callFunc f (as.map (SV.den ρ)).toArray).run P w = .ok (.enter f (as.map (SV.den ρ)).toArray) w ∧ Calls P f (as.map (SV.den ρ)).toArray w (fun e w' => e = .returned (v.den ρ) ∧ Below w.heap.size w w')
  drop : ∀ (w : World) (m : Nat) (g : Int → Option Int) (x : Int), MapIs P ti w b m g → (callFunc M.dropf #[.map (some b), .int .i64 x]).run P w = .ok (.enter M.dropf #[.map (some b), .int .i64 x]) w ∧ Calls P M.dropf #[.map (some b), .int .i64 x] w (fun e w' => e = .returned (.tuple #[]) ∧ MapIs P ti w' b m (fun y => if g y = some x then none else g y) ∧ w.grownBy w' (some b))
theorem IE.okW_den {P : Program} {ti : TypeId} {ρ : Env} {b n : Nat} {γ : Int → Option Int} {w0 : World} {N : Nat} {M : TabM} (hM : M.Ok P ti ρ b n γ w0 N) {e : IE} (h : e.okW M.ws = true) : (Lit.int .i64 (e.den ρ)).wf = true := by
  cases e with
  | v k => exact hM.ws k (by simpa [IE.okW] using h)
  | lit z => exact h
  | len k => cases h
  | f k x => cases h
  | f2 k x y => cases h
theorem partsE_den {ρ : Env} {D : List Deferred} {s : List SV} {a : Act} (h : Ok ρ D s a) : ∀ {ps : List (Nat × Operand)} {l : List (Nat × SV)}, partsE s ps = some l → ps.map (fun (i, x) => (i, a.eval x)) = l.map fun p => (p.1, p.2.den ρ)
  | [], l, hx => by injection hx with hx; subst hx; rfl
  | p :: r, l, hx => by
    simp only [partsE] at hx
    split at hx
    · rename_i v l' h1 h2
      injection hx with hx
      subst hx
      simp only [List.map_cons, opnd_den h h1, partsE_den h h2]
    · cases hx
section
variable {P : Program} {ti : TypeId} {ρ : Env} {D : List Deferred} {b n : Nat} {γ : Int → Option Int} {w0 w : World} {M : TabM} {S S' : StM} {a : Act}
theorem at_ok (hM : M.Ok P ti ρ b n γ w0 S.mem.length) (hw : Wk P ti ρ b n γ w0 S w) : (M.tabAt S.mem).Ok P ρ (fun W => W = w) :=
  ⟨hM.static.fields, hM.static.one, hM.static.many, hM.static.lens, hM.static.bools, fun f as v h => (by cases h), fun W hW k cs hk j c hj => by
    subst hW
    simp only [TabM.tabAt, List.getElem?_map, Option.map_eq_some_iff] at hk
    obtain ⟨q, hq, rfl⟩ := hk
    rw [blk_cell (hw.mem k q hq)]
    simp [hj]⟩
theorem wk_slot (hw : Wk P ti ρ b n γ w0 S w) (sl : List SV) : Wk P ti ρ b n γ w0 { S with sl := sl } w := ⟨hw.mem, hw.mp, hw.keep⟩
theorem wk_grown (hM : M.Ok P ti ρ b n γ w0 S.mem.length) (hw : Wk P ti ρ b n γ w0 S w) {w' : World} (hg : w.grownBy w' none) : Wk P ti ρ b n γ w0 S w' :=
  ⟨fun k q hq => blk_grown (hw.mem k q hq) hg (by simp), hw.mp.kept hg (by simp), hw.keep.grown hg (fun i hi => by cases hi)⟩
theorem wk_map (hM : M.Ok P ti ρ b n γ w0 S.mem.length) (hw : Wk P ti ρ b n γ w0 S w) {w' : World} (hg : w.grownBy w' (some b)) {e : Eff} {m : Nat} (hm : m ≤ n + S.ef.length + 1) (hmp : MapIs P ti w' b m (e.app ρ (apps ρ S.ef γ))) (sl : List SV) :
    Wk P ti ρ b n γ w0 { S with sl := sl, ef := S.ef ++ [e] } w' := by
  refine ⟨fun k q hq => blk_grown (hw.mem k q hq) hg (fun e1 => ?_), ?_, hw.keep.grown hg (fun i hi => by injection hi with hi; exact .inl hi.symm)⟩
  · injection e1 with e1
    exact hM.nb k (List.getElem?_eq_some_iff.1 hq).1 e1
  · rw [apps_snoc]
    exact hmp.mono (by simp; omega)
theorem opM_sound (hM : M.Ok P ti ρ b n γ w0 S.mem.length) {o : Oper} (he : opM M S o.op o.dst = some S') (h : Ok ρ D S.sl a) (hw : Wk P ti ρ b n γ w0 S w) {K : Act → World → Prop} {Q : Exit → Act → World → Prop}
    (hK : ∀ a' w', Ok ρ D S'.sl a' → S'.mem.length = S.mem.length → Wk P ti ρ b n γ w0 S' w' → K a' w') : o.wp P a w K Q := by
  have pureCase : ∀ v, evalOp (M.tabAt S.mem) S.sl o.op = some v → S' = { S with sl := putE S.sl o.dst v } → o.wp P a w K Q := by
    intro v hv hS
    subst hS
    have hq := evalOp_sound (at_ok hM hw) h hv (w := w) rfl
    exact Oper.wp_of_quiet (C := fun W => W = w) (K := fun a' => Ok ρ D (putE S.sl o.dst v) a') rfl (fun a' w' hw' hk' => by subst hw'; exact hK a' _ hk' rfl (wk_slot hw _)) ⟨_, fun W hW => by subst hW; exact hq, put_ok h _ _⟩
  have mapv : ∀ {m : Operand} {k : Nat}, opnd S.sl m = some (.raw k) → (k == M.mp) = true → a.eval m = .map (some b) := by
    intro m k h1 h2
    rw [opnd_den h h1]
    simp only [SV.den]
    rw [show k = M.mp by simpa using h2]
    exact hM.mp
  have empty : S.ef.isEmpty = true → MapIs P ti w b n γ := by
    intro hE
    have := hw.mp
    rw [List.isEmpty_iff.1 hE] at this
    exact this
  cases hop : o.op <;> rw [hop] at he pureCase <;> simp only [opM] at he
  case lookup t m x ok =>
    cases ok with
    | true =>
      simp only at he
      split at he
      · rename_i k e h1 h2
        split at he
        · rename_i hc
          simp only [Bool.and_eq_true] at hc
          injection he with he
          subst he
          have hrun := (empty hc.1.2).look hM.hk hM.ht hM.hz (IE.okW_den hM hc.2)
          have hx : (execOp a.eval o).run P w = .ok (.value ((SV.tup [.i (.f 9 e), .b (.fn 9 e (.lit 0) (.lit 0) (.lit 0))]).den ρ)) w := by
            have ht : t = M.mt := by simpa using hc.1.1.1
            have hd : (SV.tup [.i (.f 9 e), .b (.fn 9 e (.lit 0) (.lit 0) (.lit 0))]).den ρ = .tuple #[.int .i64 ((γ (e.den ρ)).getD 0), .bool (γ (e.den ρ)).isSome] := by
              simp [SV.den, CV.den, IE.den, BE.den, hM.fi, hM.fn]
            rw [hd]
            simp [execOp, hop, mapv h1 hc.1.1.2, opnd_den h h2, SV.den, ht, hrun, Result.andThen]
          unfold Oper.wp
          rw [hx]
          exact hK _ _ (put_ok h _ _) rfl (wk_slot hw _)
        · cases he
      · cases he
    | false =>
      simp only at he
      split at he
      · rename_i k e h1 h2
        split at he
        · rename_i hc
          simp only [Bool.and_eq_true] at hc
          injection he with he
          subst he
          have hrun := (empty hc.1.2).look1 hM.hk hM.ht hM.hz (IE.okW_den hM hc.2)
          have hx : (execOp a.eval o).run P w = .ok (.value ((SV.i (.f 9 e)).den ρ)) w := by
            have ht : t = M.mt := by simpa using hc.1.1.1
            have hd : (SV.i (.f 9 e)).den ρ = .int .i64 ((γ (e.den ρ)).getD 0) := by
              simp [SV.den, IE.den, hM.fi]
            rw [hd]
            simp [execOp, hop, mapv h1 hc.1.1.2, opnd_den h h2, SV.den, ht, hrun, Result.andThen]
          unfold Oper.wp
          rw [hx]
          exact hK _ _ (put_ok h _ _) rfl (wk_slot hw _)
        · cases he
      · cases he
  case mapUpdate t m x y =>
    split at he
    · rename_i k e v h1 h2 h3
      split at he
      · rename_i hc
        simp only [Bool.and_eq_true, decide_eq_true_eq] at hc
        injection he with he
        subst he
        obtain ⟨w', hrun, hmp, htn⟩ := hw.mp.put hM.hk hM.ht (by have := hM.room; omega) (IE.okW_den hM hc.1.1.2) (IE.okW_den hM hc.1.2)
        have hx : (execOp a.eval o).run P w = .ok .skip w' := by
          have ht : t = M.mt := by simpa using hc.1.1.1.1
          simp [execOp, hop, mapv h1 hc.1.1.1.2, opnd_den h h2, opnd_den h h3, SV.den, ht, hrun, Result.andThen]
        unfold Oper.wp
        rw [hx]
        exact hK _ _ (put_ok h _ .u) rfl (wk_map hM hw htn.grown (e := .put e v) (Nat.le_refl _) hmp _)
      · cases he
    · cases he
  case store t x y =>
    split at he
    · rename_i k cs h1 h2
      split at he
      · rename_i q hq
        split at he
        · rename_i hc
          simp only [Bool.and_eq_true, beq_iff_eq] at hc
          obtain ⟨⟨c1, c2⟩, c3⟩ := hc
          injection he with he
          subst he
          have hg := hw.mem k q hq
          have hrow := run_storeVar_row (P := P) w (ρ.bk k) q.1 t _ (cs.map (CV.den ρ)).toArray hg (by rw [hM.infos _ (find1_mem c3)]; simp) (by simp [c2]) (by
            rw [Array.all_eq_true_iff_forall_mem]
            intro v hv
            simp only [List.mem_toArray, List.mem_map] at hv
            obtain ⟨c, _, rfl⟩ := hv
            cases c <;> rfl)
          have hx : (execOp a.eval o).run P w = .ok .skip (w.setRow (ρ.bk k) (cs.map (CV.den ρ)).toArray) := by
            simp [execOp, hop, opnd_den h h1, opnd_den h h2, SV.den, Instr.storeAt, Instr.sureAddr, hrow, Result.andThen]
          unfold Oper.wp
          rw [hx]
          have hkl : k < S.mem.length := (List.getElem?_eq_some_iff.1 hq).1
          refine hK _ _ (put_ok h _ .u) (by simp) ⟨fun j p hp => ?_, hw.mp.same (setRow_other w _ _ _ (Ne.symm (hM.nb k hkl))), ?_⟩
          · by_cases e : j = k
            · subst e
              rw [List.getElem?_set_self hkl] at hp
              injection hp with hp
              subst hp
              rw [← c1]
              exact setRow_heap w _ _ _ _ _ hg
            · rw [List.getElem?_set_ne (Ne.symm e)] at hp
              rw [setRow_other w _ _ _ (fun e2 => e (hM.inj j k (List.getElem?_eq_some_iff.1 hp).1 hkl e2))]
              exact hw.mem j p hp
          · simp only [List.length_set]
            exact ⟨hw.keep.os, hw.keep.tape, hw.keep.output, by simpa using hw.keep.size, fun i hi hb hk => (setRow_other w _ _ _ (hk k hkl)).trans (hw.keep.block i hi hb hk)⟩
        · cases he
      · cases he
    · cases he
  case build t ps =>
    split at he
    · rename_i x y z h1
      split at he
      · rename_i hc
        injection he with he
        subst he
        have hp := partsE_den h h1
        have hx : (execOp a.eval o).run P w = .ok (.value ((SV.agg [.i x, .i y, .i z, .i (.lit 0), .i (.lit 0), .i (.lit 0), .i (.lit 0), .i (.lit 0)]).den ρ)) w := by
          have e1 : ps.map (fun (i, x) => (i, a.eval x)) = #[(0, .int .i64 (x.den ρ)), (1, .int .i64 (y.den ρ)), (2, .int .i64 (z.den ρ))] := by
            apply Array.ext'
            rw [Array.toList_map, hp]
            rfl
          have hb := hM.builds t (by simpa using hc) w (x.den ρ) (y.den ρ) (z.den ρ)
          simp only [execOp, hop]
          rw [e1]
          simp [hb, SV.den, CV.den, IE.den, Result.andThen]
        unfold Oper.wp
        rw [hx]
        exact hK _ _ (put_ok h _ _) rfl (wk_slot hw _)
      · cases he
    · cases he
  case call c =>
    split at he
    · rename_i hcl
      split at he
      · rename_i x t hx ht
        split at he
        · rename_i k h1
          split at he
          · rename_i hc
            simp only [Bool.and_eq_true] at hc
            injection he with he
            subst he
            obtain ⟨c1, c2, c3⟩ := c
            simp only at hcl hx ht
            subst hcl
            obtain rfl : c2 = #[x] := Array.ext' (by simpa using hx)
            obtain rfl : c3 = #[t] := Array.ext' (by simpa using ht)
            have htm : t = M.mt := by simpa using hc.1
            obtain ⟨w', hrun, hmp, htn⟩ := hw.mp.clear hM.ht o.type
            have hx : (execOp a.eval o).run P w = .ok (.value (.tuple #[])) w' := by
              simp [execOp, hop, resolve, invoke, builtin, mapv h1 hc.2, htm, hrun, Result.andThen]
            have hu : (Value.tuple #[]) = (SV.u).den ρ := rfl
            unfold Oper.wp
            rw [hx]
            show K (a.put o.dst (.tuple #[])) w'
            rw [hu]
            exact hK _ _ (put_ok h _ .u) rfl (wk_map hM hw htn.grown (e := .clr) (Nat.zero_le _) hmp _)
          · cases he
        · cases he
      · cases he
    · split at he
      · rename_i v hv
        injection he with he
        exact pureCase v hv he.symm
      · cases he
    · rename_i f hf
      split at he
      · rename_i as has
        have hargs : c.args.map a.eval = (as.map (SV.den ρ)).toArray := by
          rw [← opnds_den h has]
          apply Array.ext'
          simp
        have hrun : ∀ W, (callFunc f (as.map (SV.den ρ)).toArray).run P W = .ok (.enter f (as.map (SV.den ρ)).toArray) W → (execOp a.eval o).run P W = .ok (.enter f (as.map (SV.den ρ)).toArray) W := by
          intro W h1
          obtain ⟨c1, c2, c3⟩ := c
          simp only at hf hargs
          unfold execOp
          simp [hop, resolve, hf, Deferred.ofValue, invoke, Act.eval]
          have : c2.map (fun x => a.eval x) = (as.map (SV.den ρ)).toArray := hargs
          first
          | (rw [show (Array.map (fun x => match x with | Operand.tmp t => a.tmps.getD t undef | Operand.const v => v | Operand.global g => Value.pointer (some ⟨g, 0, none⟩) | Operand.func f => Value.func (Fn.func f) #[] #[]) c2) = (as.map (SV.den ρ)).toArray from this]; exact h1)
          | (rw [this]; exact h1)
          | simp [hargs, h1]
        split at he
        · rename_i hd
          have hdf : f = M.dropf := by simpa using hd
          split at he
          · rename_i k e
            split at he
            · rename_i hc
              injection he with he
              subst he
              have hval : ([SV.raw k, SV.i e].map (SV.den ρ)).toArray = #[.map (some b), .int .i64 (e.den ρ)] := by
                simp only [List.map_cons, List.map_nil, SV.den]
                rw [show k = M.mp by simpa using hc, hM.mp]
              obtain ⟨g1, g2⟩ := hM.drop w _ _ (e.den ρ) hw.mp
              rw [← hdf, ← hval] at g1 g2
              unfold Oper.wp
              rw [hrun w g1, Oper.upon_enter]
              refine g2.mono fun e' w' ⟨hv, hm, hgr⟩ => ?_
              subst hv
              have hu : (Value.tuple #[]) = (SV.u).den ρ := rfl
              show K (a.put o.dst (.tuple #[])) w'
              rw [hu]
              exact hK _ _ (put_ok h _ .u) rfl (wk_map hM hw hgr (e := .drop e) (Nat.le_succ _) hm _)
            · cases he
          · cases he
        · split at he
          · rename_i v hv
            injection he with he
            subst he
            obtain ⟨g1, g2⟩ := hM.sum f as v hv w hw.keep
            unfold Oper.wp
            rw [hrun w g1, Oper.upon_enter]
            refine g2.mono fun e' w' ⟨hv', hb⟩ => ?_
            subst hv'
            exact hK _ _ (put_ok h _ _) rfl (wk_slot (wk_grown hM hw (grown_of_below hb)) _)
          · cases he
      · cases he
    · cases he
  all_goals first
    | (split at he
       · rename_i v hv
         injection he with he
         exact pureCase v hv he.symm
       · cases he)
    | cases he
def stepM (M : TabM) (S : StM) (kn : Kn) (o : Oper) (k : StM → Kn → Option TrM) : Option TrM :=
  match o.op with
  | .pick c x y => match opnd S.sl c with
    | some (.b e) => decM e kn (fun b kn' => match opnd S.sl (if b then x else y) with
      | some v => k { S with sl := putE S.sl o.dst v } kn'
      | none => none)
    | _ => none
  | op => match opM M S op o.dst with
    | some S' => k S' kn
    | none => none
def evalMs (M : TabM) (ops : Array Oper) : List Oper → StM → Kn → (StM → Kn → Option TrM) → Option TrM
  | [], S, kn, k => k S kn
  | o :: rest, S, kn, k =>
    match o.guard with
    | none => stepM M S kn o (fun S' kn' => evalMs M ops rest S' kn' k)
    | some (j, want) => match ((ops[j]?).bind (·.dst)).bind (S.sl[·]?) with
      | some (.b e) => decM e kn (fun b kn' => if b == want then stepM M S kn' o (fun S' kn'' => evalMs M ops rest S' kn'' k) else evalMs M ops rest { S with sl := putE S.sl o.dst .u } kn' k)
      | some .u => evalMs M ops rest { S with sl := putE S.sl o.dst .u } kn k
      | _ => none
def evalMC (M : TabM) : Code → StM → Kn → (Ex → StM → Kn → Option TrM) → Option TrM
  | .skip, S, kn, k => k .normal S kn
  | .region _ ops false, S, kn, k => evalMs M ops ops.toList S kn (k .normal)
  | .seq x y, S, kn, k => evalMC M x S kn (fun e S' kn' => match e with
    | .normal => evalMC M y S' kn' k
    | e => k e S' kn')
  | .cond c x y, S, kn, k => match opnd S.sl c with
    | some (.b e) => decM e kn (fun b kn' => if b then evalMC M x S kn' k else evalMC M y S kn' k)
    | _ => none
  | .block id c, S, kn, k => evalMC M c S kn (fun e S' kn' => match e with
    | .exit j => if j = id then k .normal S' kn' else k (.exit j) S' kn'
    | e => k e S' kn')
  | .exit id, S, kn, k => k (.exit id) S kn
  | .ret, S, kn, k => k .ret S kn
  | _, _, _, _ => none
variable {R : Nat → Bool → List Value → ((Int → Option Int) → Int → Option Int) → Prop} {N : Nat}
theorem stepM_sound (hM : M.Ok P ti ρ b n γ w0 N) (hN : S.mem.length = N) {kn : Kn} {o : Oper} {k : StM → Kn → Option TrM} {T : TrM} (he : stepM M S kn o k = some T) (hs : T.sat ρ R) (hk : KnOk ρ kn) (h : Ok ρ D S.sl a) (hw : Wk P ti ρ b n γ w0 S w) {K : Act → World → Prop} {Q : Exit → Act → World → Prop}
    (hK : ∀ S' kn' T' a' w', k S' kn' = some T' → T'.sat ρ R → KnOk ρ kn' → S'.mem.length = N → Ok ρ D S'.sl a' → Wk P ti ρ b n γ w0 S' w' → K a' w') : o.wp P a w K Q := by
  subst hN
  unfold stepM at he
  split at he
  · rename_i c x y hop
    split at he
    · rename_i e hc
      obtain ⟨kn', T', h1, h2, h3⟩ := decM_sound he hs hk
      split at h1
      · rename_i v hv
        have hrun := run_pick (P := P) (w := w) (σ := a.eval) hop (opnd_den h hc)
        have hval : (if e.den ρ = true then a.eval x else a.eval y) = v.den ρ := by
          rw [← opnd_den h hv]
          cases e.den ρ <;> rfl
        unfold Oper.wp
        rw [hrun, hval]
        exact hK _ kn' T' _ _ h1 h2 h3 rfl (put_ok h _ _) (wk_slot hw _)
      · cases h1
    · cases he
  · split at he
    · rename_i S' hS'
      exact opM_sound hM hS' h hw (fun a' w' g1 g2 g3 => hK S' kn T a' w' he hs hk g2 g1 g3)
    · cases he
theorem evalMs_sound (hM : M.Ok P ti ρ b n γ w0 N) {ops : Array Oper} {Q : Exit → Act → World → Prop} : ∀ (l : List Oper) (S : StM) (kn : Kn) (k : StM → Kn → Option TrM) (T : TrM) (a : Act) (w : World), evalMs M ops l S kn k = some T → T.sat ρ R → KnOk ρ kn → S.mem.length = N → Ok ρ D S.sl a → Wk P ti ρ b n γ w0 S w →
    (∀ S' kn' T' a' w', k S' kn' = some T' → T'.sat ρ R → KnOk ρ kn' → S'.mem.length = N → Ok ρ D S'.sl a' → Wk P ti ρ b n γ w0 S' w' → Q .normal a' w') → wpList P ops Q l a w
  | [], S, kn, k, T, a, w, he, hs, hk, hN, h, hw, hQ => hQ S kn T a w he hs hk hN h hw
  | o :: rest, S, kn, k, T, a, w, he, hs, hk, hN, h, hw, hQ => by
    simp only [evalMs] at he
    refine wpList_step fun K hK => ?_
    cases hg : o.guard with
    | none =>
      rw [hg] at he
      rw [if_pos (by simp [Region.wanted, hg])]
      exact stepM_sound hM hN he hs hk h hw (fun S' kn' T' a' w' h1 h2 h3 h4 h5 h6 => hK _ _ (evalMs_sound hM rest S' kn' k T' a' w' h1 h2 h3 h4 h5 h6 hQ))
    | some g =>
      obtain ⟨j, want⟩ := g
      rw [hg] at he
      simp only at he
      have hy : yielded ops a.tmps j = match ((ops[j]?).bind (·.dst)).bind (S.sl[·]?) with
        | some v => (match v.den ρ with | .bool b => some b | _ => none)
        | none => none := by
        unfold yielded
        cases hd : (ops[j]?).bind (·.dst) with
        | none => rfl
        | some d =>
          simp only [Option.bind_some, h.slot d]
          cases S.sl[d]? with
          | none => rfl
          | some v => simp only [Option.map_some]; cases SV.den ρ v <;> rfl
      split at he
      · rename_i e hq
        rw [hq] at hy
        simp only [SV.den] at hy
        obtain ⟨kn', T', h1, h2, h3⟩ := decM_sound he hs hk
        by_cases hb : e.den ρ = want
        · rw [if_pos (by simp [hb])] at h1
          rw [if_pos (by simp [Region.wanted, hg, hy, hb])]
          exact stepM_sound hM hN h1 h2 h3 h hw (fun S' kn'' T'' a' w' g1 g2 g3 g4 g5 g6 => hK _ _ (evalMs_sound hM rest S' kn'' k T'' a' w' g1 g2 g3 g4 g5 g6 hQ))
        · rw [if_neg (by simp [hb])] at h1
          rw [if_neg (by simp [Region.wanted, hg, hy, hb])]
          exact hK _ _ (evalMs_sound hM rest { S with sl := putE S.sl o.dst .u } kn' k T' _ _ h1 h2 h3 hN (put_ok h o.dst .u) (wk_slot hw _) hQ)
      · rename_i hq
        rw [hq] at hy
        have hy2 : yielded ops a.tmps j = none := by rw [hy]; rfl
        rw [if_neg (by simp [Region.wanted, hg, hy2])]
        exact hK _ _ (evalMs_sound hM rest { S with sl := putE S.sl o.dst .u } kn k T _ _ he hs hk hN (put_ok h o.dst .u) (wk_slot hw _) hQ)
      · cases he
/-- THE CODE DOES WHAT ITS TREE SAYS. -/
theorem evalMC_sound (hM : M.Ok P ti ρ b n γ w0 N) : ∀ (c : Code) (S : StM) (kn : Kn) (k : Ex → StM → Kn → Option TrM) (T : TrM) (a : Act) (w : World) (Q : Exit → Act → World → Prop), evalMC M c S kn k = some T → T.sat ρ R → KnOk ρ kn → S.mem.length = N → Ok ρ D S.sl a → Wk P ti ρ b n γ w0 S w →
    (∀ e S' kn' T' a' w', k e S' kn' = some T' → T'.sat ρ R → KnOk ρ kn' → S'.mem.length = N → Ok ρ D S'.sl a' → Wk P ti ρ b n γ w0 S' w' → Q e.den a' w') → c.wp P Q a w := by
  intro c
  induction c with
  | skip => intro S kn k T a w Q he hs hk hN h hw hQ; exact wp_skip (hQ .normal S kn T a w he hs hk hN h hw)
  | exit id => intro S kn k T a w Q he hs hk hN h hw hQ; exact wp_exit (hQ (.exit id) S kn T a w he hs hk hN h hw)
  | ret => intro S kn k T a w Q he hs hk hN h hw hQ; exact wp_ret (hQ .ret S kn T a w he hs hk hN h hw)
  | region id ops draw =>
    intro S kn k T a w Q he hs hk hN h hw hQ
    cases draw with
    | true => simp [evalMC] at he
    | false =>
      simp only [evalMC] at he
      exact wp_region_list (evalMs_sound hM ops.toList S kn _ T a w he hs hk hN h hw (fun S' kn' T' a' w' h1 h2 h3 h4 h5 h6 => hQ .normal S' kn' T' a' w' h1 h2 h3 h4 h5 h6))
  | seq x y ihx ihy =>
    intro S kn k T a w Q he hs hk hN h hw hQ
    simp only [evalMC] at he
    refine wp_seq (ihx S kn _ T a w _ he hs hk hN h hw fun e S' kn' T' a' w' h1 h2 h3 h4 h5 h6 => ?_)
    cases e with
    | normal => exact ihy S' kn' k T' a' w' Q h1 h2 h3 h4 h5 h6 hQ
    | exit id => exact hQ (.exit id) S' kn' T' a' w' h1 h2 h3 h4 h5 h6
    | ret => exact hQ .ret S' kn' T' a' w' h1 h2 h3 h4 h5 h6
  | cond c x y ihx ihy =>
    intro S kn k T a w Q he hs hk hN h hw hQ
    simp only [evalMC] at he
    split at he
    · rename_i e hc
      obtain ⟨kn', T', h1, h2, h3⟩ := decM_sound he hs hk
      refine wp_cond (t := e.den ρ) (opnd_den h hc) ?_
      cases hb : e.den ρ with
      | true => rw [hb] at h1; exact ihx S kn' k T' a w Q h1 h2 h3 hN h hw hQ
      | false => rw [hb] at h1; exact ihy S kn' k T' a w Q h1 h2 h3 hN h hw hQ
    · cases he
  | block id c ih =>
    intro S kn k T a w Q he hs hk hN h hw hQ
    simp only [evalMC] at he
    refine wp_block (ih S kn _ T a w _ he hs hk hN h hw fun e S' kn' T' a' w' h1 h2 h3 h4 h5 h6 => ?_)
    cases e with
    | normal => exact hQ .normal S' kn' T' a' w' h1 h2 h3 h4 h5 h6
    | exit j =>
      simp only [Ex.den, Exit.inBlock]
      simp only at h1
      split at h1
      · rename_i hj; rw [if_pos hj]; exact hQ .normal S' kn' T' a' w' h1 h2 h3 h4 h5 h6
      · rename_i hj; rw [if_neg hj]; exact hQ (.exit j) S' kn' T' a' w' h1 h2 h3 h4 h5 h6
    | ret => exact hQ .ret S' kn' T' a' w' h1 h2 h3 h4 h5 h6
  | _ => intro S kn k T a w Q he; simp [evalMC] at he
/-! ### a function that boxes and makes structs of whole numbers at its beginning, and goes on with such code -/
def proM (M : TabM) (zs : List (TypeId × Nat)) : List Oper → StM → Option StM
  | [], S => some S
  | o :: r, S => match o.guard with
    | some _ => none
    | none => match o.op with
      | .box t x => match opnd S.sl x with
        | some (.agg cs) => if M.boxes.contains t then proM M zs r { S with sl := putE S.sl o.dst (.ptr S.mem.length 0), mem := S.mem ++ [(t, cs)] } else none
        | _ => none
      | .alloc t => match find1 t zs with
        | some m => proM M zs r { S with sl := putE S.sl o.dst (.ptr S.mem.length 0), mem := S.mem ++ [(t, List.replicate m (.i (.lit 0)))] }
        | none => none
      | .assign x => match opnd S.sl x with
        | some v => proM M zs r { S with sl := putE S.sl o.dst v }
        | none => none
      | _ => none
def HoldsM (ρ : Env) (m : List (TypeId × List CV)) (w : World) : Prop := ∀ (k : Nat) (q : TypeId × List CV), m[k]? = some q → w.heap[ρ.bk k]? = some (.cells (q.2.map (CV.den ρ)).toArray q.1 (0, 0))
theorem holdsM_new {ρ : Env} {m : List (TypeId × List CV)} {w : World} {b0 : Nat} (hb : ρ.bk = fun k => b0 + k) (hs : w.heap.size = b0 + m.length) (hm : HoldsM ρ m w) (t : TypeId) (cs : List CV) : HoldsM ρ (m ++ [(t, cs)]) (w.alloc (.cells (cs.map (CV.den ρ)).toArray t (0, 0))) := by
  intro k q hk
  by_cases hkm : k < m.length
  · rw [List.getElem?_append_left hkm] at hk
    exact blk_alloc (hm k q hk) _
  · have hk2 : k = m.length := by
      have := (List.getElem?_eq_some_iff.1 hk).1
      simp at this
      omega
    subst hk2
    have : q = (t, cs) := by simpa using hk.symm
    subst this
    have e1 : ρ.bk m.length = w.heap.size := by rw [hb, hs]
    rw [e1]
    exact blk_new w _
theorem proM_sound (hM : M.toTab.Static P) {zs : List (TypeId × Nat)} (hz : ∀ q ∈ zs, ∀ w : World, (Instr.alloc q.1 true (.tuple #[])).run P w = .ok (.pointer (some ⟨w.heap.size, 0, none⟩)) (w.alloc (.cells (List.replicate q.2 (.int .i64 0)).toArray q.1 (0, 0)))) {ops : Array Oper} {Q : Exit → Act → World → Prop} {b0 : Nat} (hb : ρ.bk = fun k => b0 + k) :
    ∀ (l : List Oper) (S S' : StM) (a : Act) (w : World), proM M zs l S = some S' → Ok ρ D S.sl a → w.heap.size = b0 + S.mem.length → HoldsM ρ S.mem w →
    (∀ a' w', Ok ρ D S'.sl a' → HoldsM ρ S'.mem w' → w'.heap.size = b0 + S'.mem.length → S'.ef = S.ef → Below w.heap.size w w' → Q .normal a' w') → wpList P ops Q l a w
  | [], S, S', a, w, he, h, hs, hm, hQ => by
    injection he with he
    subst he
    exact hQ a w h hm hs rfl (Below.refl _ _)
  | o :: r, S, S', a, w, he, h, hs, hm, hQ => by
    simp only [proM] at he
    cases hg : o.guard with
    | some g => rw [hg] at he; cases he
    | none =>
      rw [hg] at he
      refine wpList_plain hg fun K hK => ?_
      have newCase : ∀ (t : TypeId) (cs : List CV), (execOp a.eval o).run P w = .ok (.value (.pointer (some ⟨w.heap.size, 0, none⟩))) (w.alloc (.cells (cs.map (CV.den ρ)).toArray t (0, 0))) → proM M zs r { S with sl := putE S.sl o.dst (.ptr S.mem.length 0), mem := S.mem ++ [(t, cs)] } = some S' → o.wp P a w K Q := by
        intro t cs hrun he
        have hptr : Value.pointer (some ⟨w.heap.size, 0, none⟩) = (SV.ptr S.mem.length 0).den ρ := by simp [SV.den, hb, hs]
        unfold Oper.wp
        rw [hrun]
        show K _ _
        rw [hptr]
        have hsz : (w.alloc (.cells (cs.map (CV.den ρ)).toArray t (0, 0))).heap.size = w.heap.size + 1 := Array.size_push _
        have hbel : Below w.heap.size w (w.alloc (.cells (cs.map (CV.den ρ)).toArray t (0, 0))) := (Below.refl _ _).alloc (Nat.le_refl _) _
        exact hK _ _ (proM_sound hM hz hb r { S with sl := putE S.sl o.dst (.ptr S.mem.length 0), mem := S.mem ++ [(t, cs)] } S' _ _ he (put_ok h _ _) (by rw [hsz, hs]; simp; omega) (holdsM_new hb hs hm t cs) (fun a' w' h1 h2 h3 h4 h5 => hQ a' w' h1 h2 h3 h4 (hbel.trans (h5.mono (by rw [hsz]; omega)))))
      simp only at he
      split at he
      · rename_i t x hop
        split at he
        · rename_i cs hx
          split at he
          · rename_i hc
            have hbox := hM.boxes t (by simpa using hc) w (cs.map (CV.den ρ)).toArray
            refine newCase t cs ?_ he
            simp only [execOp, hop, opnd_den h hx, SV.den]
            simp [hbox, Result.andThen]
          · cases he
        · cases he
      · rename_i t hop
        split at he
        · rename_i m hm1
          refine newCase t _ ?_ he
          have := hz _ (find1_mem hm1) w
          simp only [execOp, hop]
          simp [this, CV.den, IE.den, Result.andThen]
        · cases he
      · rename_i x hop
        split at he
        · rename_i v hx
          have hrun : (execOp a.eval o).run P w = .ok (.value (v.den ρ)) w := by simp [execOp, hop, opnd_den h hx]
          unfold Oper.wp
          rw [hrun]
          exact hK _ _ (proM_sound hM hz hb r { S with sl := putE S.sl o.dst v } S' _ _ he (put_ok h _ _) hs hm hQ)
        · cases he
      · cases he
/-- The code ends with a struct in the box of this slot. -/
def retC (M : TabM) (t : Nat) (ty : TypeId) : Ex → StM → Kn → Option TrM
  | .ret, S, kn => match S.sl[t]? with
    | some (.ptr k 0) => match S.mem[k]? with
      | some q => if q.1 == ty && find1 ty M.many == some q.2.length && decide (S.ef.length ≤ 100) then some (.leaf 0 (.lit true) (q.2.map CV.up) S.ef) else none
      | none => none
    | _ => none
  | _, _, _ => none
def treeC (M : TabM) (zs : List (TypeId × Nat)) (fn : Func) (ps : List SV) : Option TrM :=
  match fn.body, fn.results.toList with
  | some (.seq (.region _ ops false) rest), [.cell t ty] => match proM M zs ops.toList { sl := ps ++ List.replicate (fn.ntmps - ps.length) .u, mem := [], ef := [] } with
    | some S => if S.ef.isEmpty then evalMC M rest S [] (retC M t ty) else none
    | none => none
  | _, _ => none
/-- A function that goes so, and hands back a struct. -/
theorem fn_treeC {f : FuncId} {fn : Func} {ps : List SV} {T : TrM} {zs : List (TypeId × Nat)} (hf : P.funcs[f]? = some fn) (h1 : treeC M zs fn ps = some T) (hst : M.toTab.Static P)
    (hz : ∀ q ∈ zs, ∀ w : World, (Instr.alloc q.1 true (.tuple #[])).run P w = .ok (.pointer (some ⟨w.heap.size, 0, none⟩)) (w.alloc (.cells (List.replicate q.2 (.int .i64 0)).toArray q.1 (0, 0))))
    (hbk : ρ.bk = fun k => w.heap.size + k) (hmp : MapIs P ti w b n γ) (hM : ∀ w1 N, Below w.heap.size w w1 → M.Ok P ti ρ b n γ w1 N)
    (hu : ∀ q ∈ M.many, ∃ fs, P.underlying q.1 = some (.struct fs)) (hT : T.sat ρ R) :
    Calls P f (ps.map (SV.den ρ)).toArray w fun e w' => ∃ vals E, R 0 true vals E ∧ e = .returned (.agg vals.toArray) ∧ MapIs P ti w' b (n + 100) (E γ) ∧ w.grownBy w' (some b) := by
  unfold treeC at h1
  split at h1
  · rename_i id ops rest t ty hb hr
    have hr2 : fn.results = #[.cell t ty] := Array.ext' (by simpa using hr)
    split at h1
    · rename_i S hS
      split at h1
      · rename_i hE
        refine calls_of_wp hf hb ?_
        refine wp_seq (wp_region_list ?_)
        refine proM_sound (D := []) hst hz hbk ops.toList _ S _ w hS ⟨?_, rfl⟩ (by simp) (by intro k q hk; simp at hk) ?_
        · simp [SV.den]
        · intro a' w1 hok hmem hsz hef hbel
          show Code.wp P rest _ a' w1
          have hgr := grown_of_below hbel
          have hM1 := hM w1 S.mem.length hbel
          refine evalMC_sound (N := S.mem.length) (γ := γ) (w0 := w1) (R := R) hM1 rest S [] (retC M t ty) T a' w1 _ h1 hT (fun p hp => by cases hp) rfl hok ⟨hmem, ?_, KeepM.refl _ _ _ _⟩ ?_
          · rw [List.isEmpty_iff.1 hE]
            exact hmp.kept hgr (by simp)
          · intro e S' kn' T' a2 w2 hk hs hkn hN h2 hw2
            unfold retC at hk
            split at hk
            · split at hk
              · rename_i k hsl
                split at hk
                · rename_i q hq
                  split at hk
                  · rename_i hc
                    simp only [Bool.and_eq_true, beq_iff_eq, decide_eq_true_eq] at hc
                    obtain ⟨⟨hty, hfm⟩, hle⟩ := hc
                    have hm := find1_mem hfm
                    injection hk with hk
                    subst hk
                    simp only [TrM.sat, BE.den, List.map_map] at hs
                    have hcells := hw2.mem k q hq
                    obtain ⟨fs, hd1⟩ := hu _ hm
                    have hvals : q.2.map (SV.den ρ ∘ CV.up) = q.2.map (CV.den ρ) := List.map_congr_left fun c _ => CV.up_den ρ c
                    rw [hvals] at hs
                    have hslot := h2.slot t
                    rw [hsl] at hslot
                    refine ⟨h2.defers, .agg (q.2.map (CV.den ρ)).toArray, ?_, _, _, hs, rfl, ?_, ?_⟩
                    · refine results_cell_row hr2 _ w2 (ρ.bk k) q.1 _ (0, 0) (.struct fs) ?_ hcells hd1 rfl ?_
                      · simp [Array.getD_eq_getD_getElem?, hslot, SV.den]
                      · rw [hM1.infos _ hm]; simp
                    · exact hw2.mp.mono (by omega)
                    · refine ⟨hw2.keep.os.trans hbel.os, hw2.keep.tape.trans hbel.tape, hw2.keep.output.trans hbel.output, Nat.le_trans hbel.size hw2.keep.size, fun i hi hib => ?_⟩
                      refine (hw2.keep.block i (Nat.lt_of_lt_of_le hi hbel.size) (fun e1 => hib (by rw [e1])) (fun j hj e1 => ?_)).trans (hbel.block i hi)
                      simp only [e1, hbk] at hi
                      omega
                  · cases hk
                · cases hk
              · cases hk
            · cases hk
      · cases h1
    · cases h1
  · cases h1
end
/-! ### at the operation, for a walk -/
section
variable {P : Program} {ti mt : TypeId} {b n : Nat} {g : Int → Option Int} (w : World) {ops : Array Oper} {rest : List Oper} {o : Oper} {a : Act} {Q : Exit → Act → World → Prop}
theorem wp_look1 (hk : P.underlying ti = some (.int .i64)) (ht : P.underlying mt = some (.map ti ti)) (hz : ∀ w : World, (zeroValue ti).run P w = .ok (.int .i64 0) w) (hg : o.guard = none) (m x : Operand) (hop : o.op = .lookup mt m x false) (hm : a.eval m = .map (some b)) {z : Int} (hx : a.eval x = .int .i64 z) (hw : (Lit.int .i64 z).wf = true) (h : MapIs P ti w b n g)
    (hK : wpList P ops Q rest (a.put o.dst (.int .i64 ((g z).getD 0))) w) : wpList P ops Q (o :: rest) a w := by
  refine wpList_plain hg fun K' hK' => ?_
  have hrun := h.look1 hk ht hz hw
  unfold Oper.wp
  simp [execOp, hop, hm, hx, hrun, Result.andThen]
  exact hK' _ _ hK
theorem wp_put (hk : P.underlying ti = some (.int .i64)) (ht : P.underlying mt = some (.map ti ti)) (hg : o.guard = none) (m x v : Operand) (hop : o.op = .mapUpdate mt m x v) (hm : a.eval m = .map (some b)) {z u : Int} (hx : a.eval x = .int .i64 z) (hv : a.eval v = .int .i64 u) (hw : (Lit.int .i64 z).wf = true) (hu : (Lit.int .i64 u).wf = true) (hn : n < maxLen) (h : MapIs P ti w b n g)
    (hK : ∀ w', MapIs P ti w' b (n + 1) (fun y => if y = z then some u else g y) → w.grownBy w' (some b) → wpList P ops Q rest (a.put o.dst undef) w') : wpList P ops Q (o :: rest) a w := by
  refine wpList_plain hg fun K' hK' => ?_
  obtain ⟨w', hrun, hmp, htn⟩ := h.put hk ht hn hw hu
  unfold Oper.wp
  simp [execOp, hop, hm, hx, hv, hrun, Result.andThen]
  exact hK' _ _ (hK w' hmp htn.grown)
end
end Go.Proofs.YtoieemaheadjdaaDoor.Eval
