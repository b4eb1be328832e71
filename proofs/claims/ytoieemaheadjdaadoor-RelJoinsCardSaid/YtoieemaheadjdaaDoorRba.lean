/- What a loop over an iterator wants, where the iterator is itself such a loop; what of memory stays while an iterator is gone through. Written by an AI agent in this seat's session; checked by Lean alone. No axiom, no sorry. -/
import Derived.Test.YtoieemaheadjdaaDoorRelP
import Derived.RangeFuncNested
import Derived.RangeFuncBound
import Derived.RangeFuncCalls
import Derived.RangeFuncLeaves
import Derived.RangeFuncBox
import Derived.Shelf.Abstract
import Derived.Shelf.RegionOpen
import Derived.WalkKit
import Derived.OwnWalkIn
import Derived.TacticsInMore
import Derived.LoopNIn
import Derived.LoopIn
import Derived.Lib.TrailingZeros
namespace Go.Proofs.YtoieemaheadjdaaDoor.PRel
open Go.RowKit Go.Proofs.YtoieemaheadjdaaDoorW.PrintWords Go.Proofs.YtoieemaheadjdaaDoorW.PrintLast Go.Proofs.YtoieemaheadjdaaDoorW.PrintMore Go.Proofs.YtoieemaheadjdaaDoor.PRelOrders
set_option linter.unusedVariables false
set_option linter.unusedSimpArgs false
theorem room_none {F : Fence} (hd : F.depth = none) (k : Nat) : F.room k := fun d h => by rw [hd] at h; cases h
theorem round_depth {F : Fence} (hd : F.depth = none) {m m' : Nat} {P : Program} {l : Nat} {f : FuncId} {tmps : Array Value} {assign body : Code} {w : World} {R : Ending → World → Prop} (h : RoundIn F m P l f tmps assign body w R) : RoundIn F m' P l f tmps assign body w R := ⟨h.1, fun c cs _ => h.2 c cs (room_none hd _)⟩
/-- An iterator over xs: whatever the rounds' invariant is that abides the book-keeping beyond. -/
def Iter {α : Type} (n : Nat) (P : Program) (g : Nat) (lb : Array Value) (encs : α → Array Value) (Kp : World → World → Prop) (xs : List α) (w : World) : Prop :=
  ∀ (l : Nat) (J Jx : List α → World → Prop) (W : World), Below w.heap.size w W → W.heap.size = w.heap.size + 2 → OwnFrom W.heap.size J → OwnFrom W.heap.size Jx →
    (∀ pre x W1, J pre W1 → (∃ q, pre ++ x :: q = xs) → YieldAt Fence.wide n P l (encs x) W1 fun e W' => KeepsFrom (w.heap.size + 2) W1 W' ∧ ((e = .returned (.bool true) ∧ J (pre ++ [x]) W' ∧ Kp W1 W') ∨ (e = .returned (.bool false) ∧ Jx (pre ++ [x]) W'))) →
    J [] W → CallsIn Fence.wide n P g (#[.func (.yield l) #[] #[]] ++ lb) W fun e W' => (∃ v, e = .returned v) ∧ (J xs W' ∨ ∃ pre, pre <+: xs ∧ Jx pre W')
theorem keeps_put {B l : Nat} {W : World} {o o' : Obj} (h : W.heap[l]? = some o) (hl : l < B) : KeepsFrom B W (W.putObj l o') := ⟨by simp, fun k o2 hk ho _ => (World.putObj_heap_other (by omega)).trans ho⟩
theorem KeepsFrom.up {B B' : Nat} {W W' : World} (h : KeepsFrom B W W') (hB : B ≤ B') : KeepsFrom B' W W' := ⟨h.size, fun k o hk ho hc => h.same k o (Nat.le_trans hB hk) ho hc⟩
/-- A loop over an iterator, in a function's own frame. -/
theorem wp_iter {α : Type} {P : Program} {g : Operand} {ps : Array Tmp} {assign body : Code} {Q : Exit → Act → World → Prop} {a : Act} {w : World} {n : Nat} {gf : Nat} {lb : Array Value} (hg : a.eval g = .func (.func gf) #[] lb) (eg : ∀ args w, (callFunc gf args).run P w = .ok (.enter gf args) w)
    {encs : α → Array Value} {Kp : World → World → Prop} {xs : List α} (hseq : Iter n P gf lb encs Kp xs w)
    (hKt : ∀ {A B C : World}, Kp A B → Kp B C → Kp A C) (hKb : ∀ (W : World) (o o' : Obj), W.heap[w.heap.size + 1]? = some o → o.isCells = false → Kp W (W.putObj (w.heap.size + 1) o')) (hps : ∀ x, (encs x).size = ps.size)
    (I : List α → World → Prop) (Ix : Code → List α → World → Prop) (hI : OwnFrom w.heap.size I) (hIx : ∀ c, OwnFrom w.heap.size (Ix c)) (h0 : I [] w) (Ax : α → Act → World → Prop) (hAx : ∀ x a', OwnFrom w.heap.size (fun (_ : Unit) W => Ax x a' W))
    (hassign : ∀ (l : Nat) (pre : List α) (x : α) (W : World) (K : Act → World → Prop), I pre W → (∀ a' W', KeepsFrom w.heap.size W W' → Kp W W' → I pre W' → Ax x a' W' → K a' W') →
      assign.wpIn (Fence.wide.inRound l) n P (Exit.then K (fun _ _ _ => False)) { tmps := (ps.zip (encs x)).foldl (fun t (p, v) => t.setIfInBounds p v) a.tmps, defers := [] } W)
    (hbody : ∀ (l : Nat) (pre : List α) (x : α) (a' : Act) (W : World), w.heap.size ≤ l → (∃ r, W.heap[l]? = some (.loop r)) → I pre W → Ax x a' W → (∃ q, pre ++ x :: q = xs) → body.wpIn (Fence.wide.inRound l) n P (ownPostG w.heap.size Kp I Ix (pre ++ [x]) W) a' W)
    (hdone : ∀ (D : Nat) (W : World), w.heap.size ≤ D → I xs W → W.heap[D]? = some (.deferred (some [])) → Q .normal { a with defers := { target := .collected D, args := #[] } :: a.defers } W)
    (hstop : ∀ (D : Nat) (c : Code) (pre : List α) (W : World), w.heap.size ≤ D → pre <+: xs → Ix c pre W → W.heap[D]? = some (.deferred (some [])) → c.wpIn Fence.wide n P Q { a with defers := { target := .collected D, args := #[] } :: a.defers } W) :
    (Code.rangeFunc g ps assign body).wpIn Fence.wide n P Q a w := by
  refine wpIn_rangeFunc ?_
  intro fn hfn
  obtain ⟨rec, hrec⟩ : ∃ rec : LoopState → Option Code → Loop, rec = fun st pe => { state := st, pending := pe, fn, tmps := a.tmps, params := ps, assign, body, defers := w.heap.size } := ⟨_, rfl⟩
  obtain ⟨V, hV⟩ : ∃ V, (w.alloc (.deferred (some []))).alloc (.loop (rec .ready none)) = V := ⟨_, rfl⟩
  have hVs : V.heap.size = w.heap.size + 2 := by rw [← hV]; simp
  have lV : V.heap[w.heap.size + 1]? = some (.loop (rec .ready none)) := by
    rw [← hV]; have := World.alloc_heap_new (w.alloc (.deferred (some []))) (.loop (rec .ready none)); rwa [World.size_alloc] at this
  have dV : V.heap[w.heap.size]? = some (.deferred (some [])) := by
    rw [← hV]; exact (Below.heap_alloc _ _ _ (by simp)).trans (World.alloc_heap_new w _)
  have iV : I [] V := by rw [← hV]; exact hI.alloc _ (hI.alloc _ h0)
  have bV : Below w.heap.size w V := by
    rw [← hV]; exact ((Below.refl _ w).alloc (Nat.le_refl _) _).alloc (by simp) _
  -- the rounds' invariant, with the two records of the loop beside it, abides what is turned beyond
  have abide : ∀ {A B : World} {row : Option Nat}, A.grownBy B row → (∀ r, row = some r → V.heap.size ≤ r ∧ ∃ o : Obj, A.heap[r]? = some o ∧ o.isCells = false) →
      (∀ r, row = some r → w.heap.size ≤ r ∧ ∃ o : Obj, A.heap[r]? = some o ∧ o.isCells = false) ∧ ∀ k o, k < V.heap.size → A.heap[k]? = some o → B.heap[k]? = some o := fun hg hr =>
    ⟨fun r e => ⟨by have := (hr r e).1; omega, (hr r e).2⟩, fun k o hk ho => (hg.block k (Array.getElem?_eq_some_iff.1 ho).1 (fun e => by have := (hr k e.symm).1; omega)).trans ho⟩
  refine ⟨w.heap.size + 1, [{ target := .collected w.heap.size, args := #[] }], V, { target := .fn (.func gf) lb, args := #[.func (.yield (w.heap.size + 1)) #[] #[]] }, V, gf,
    #[.func (.yield (w.heap.size + 1)) #[] #[]] ++ lb, V, ?_, ?_, ?_, ?_, ?_, ?_⟩
  · rw [← hV, hrec]; exact run_enterLoop_outer _ _ _ _ _
  · simp only [resolve, hg]
    simp [go_sem]
  · intro f' _; trivial
  · simp [invoke, go_sem, eg]
  · intro h; cases h
  refine CallsIn.mono (callsIn_wide.2 (callsIn_wide.1 (hseq (w.heap.size + 1)
      (fun pre W => I pre W ∧ W.heap[w.heap.size + 1]? = some (.loop (rec .ready none)) ∧ W.heap[w.heap.size]? = some (.deferred (some [])))
      (fun pre W => ∃ c, Ix c pre W ∧ W.heap[w.heap.size + 1]? = some (.loop (rec .done (some c))) ∧ W.heap[w.heap.size]? = some (.deferred (some [])))
      V bV hVs
      (fun s A B row hs hg' hr => ⟨hI s A B row hs.1 hg' (abide hg' hr).1, (abide hg' hr).2 _ _ (by omega) hs.2.1, (abide hg' hr).2 _ _ (by omega) hs.2.2⟩)
      (fun s A B row ⟨c, h1, h2, h3⟩ hg' hr => ⟨c, hIx c s A B row h1 hg' (abide hg' hr).1, (abide hg' hr).2 _ _ (by omega) h2, (abide hg' hr).2 _ _ (by omega) h3⟩)
      ?_ ⟨iV, lV, dV⟩))) ?_
  · rintro pre x W ⟨hi, hl, hd⟩ hx
    have hlt : w.heap.size + 1 < W.heap.size := (Array.getElem?_eq_some_iff.1 hl).1
    have hy := run_yield (P := P) (args := encs x) hl (by rw [hrec]; exact hps x)
    rw [hrec] at hy
    refine ⟨fn, _, assign, body, hy, roundIn_of_wpIn hfn (hassign _ pre x W _ hi ?_)⟩
    intro a' W1 hk1 hp1 hi1 hax
    have l1 := hk1.same _ _ (by omega) hl rfl
    have d1 := hk1.same _ _ (Nat.le_refl _) hd rfl
    have lt1 := (Array.getElem?_eq_some_iff.1 l1).1
    refine ⟨_, run_beginRound l1 (by rw [hrec]), ?_⟩
    obtain ⟨W2, hW2⟩ : ∃ W2, W1.putObj (w.heap.size + 1) (.loop { rec .ready none with state := .busy }) = W2 := ⟨_, rfl⟩
    have l2 : W2.heap[w.heap.size + 1]? = some (.loop { rec .ready none with state := .busy }) := by rw [← hW2]; exact World.putObj_heap_same lt1
    have d2 : W2.heap[w.heap.size]? = some (.deferred (some [])) := by rw [← hW2]; exact (World.putObj_heap_other (by omega)).trans d1
    have p2 : Kp W1 W2 := by rw [← hW2]; exact hKb _ _ _ l1 rfl
    have i2 : I pre W2 := by rw [← hW2]; exact hI.putObj _ hi1 (by omega) l1 rfl
    have x2 : Ax x a' W2 := by rw [← hW2]; exact (hAx x a').putObj (s := ()) _ hax (by omega) l1 rfl
    rw [hW2]
    refine wpIn_mono (hbody _ pre x a' W2 (by omega) ⟨_, l2⟩ i2 x2 hx) ?_
    have fin : ∀ (jump : Option Code) (W3 : World), KeepsFrom w.heap.size W2 W3 →
        (Instr.endRound (w.heap.size + 1) jump).run P W3 = .ok (.bool jump.isNone) (W3.putObj (w.heap.size + 1) (.loop (rec (if jump.isNone then .ready else .done) jump))) ∧
        W3.heap[w.heap.size + 1]? = some (.loop { rec .ready none with state := .busy }) ∧
        (W3.putObj (w.heap.size + 1) (.loop (rec (if jump.isNone then .ready else .done) jump))).heap[w.heap.size + 1]? = some (.loop (rec (if jump.isNone then .ready else .done) jump)) ∧
        (W3.putObj (w.heap.size + 1) (.loop (rec (if jump.isNone then .ready else .done) jump))).heap[w.heap.size]? = some (.deferred (some [])) := fun jump W3 hk3 => by
      have l3 := hk3.same _ _ (by omega) l2 rfl
      have := run_endRound (P := P) jump l3
      rw [hrec] at this ⊢
      exact ⟨this, by rw [hrec] at l3; exact l3, World.putObj_heap_same (Array.getElem?_eq_some_iff.1 l3).1, (World.putObj_heap_other (by omega)).trans (hk3.same _ _ (Nat.le_refl _) d2 rfl)⟩
    have kk : KeepsFrom (w.heap.size + 2) W W2 := (KeepsFrom.up hk1 (by omega)).trans (by rw [← hW2]; exact keeps_put l1 (by omega))
    have out : ∀ (c : Code) (W3 : World), KeepsFrom w.heap.size W2 W3 ∧ Ix c (pre ++ [x]) W3 → ∃ v w', (Instr.endRound (w.heap.size + 1) (some c)).run P W3 = .ok v w' ∧ KeepsFrom (w.heap.size + 2) W w' ∧ ((Ending.returned v = .returned (.bool true) ∧ (I (pre ++ [x]) w' ∧ w'.heap[w.heap.size + 1]? = some (.loop (rec .ready none)) ∧ w'.heap[w.heap.size]? = some (.deferred (some []))) ∧ Kp W w') ∨ (Ending.returned v = .returned (.bool false) ∧ ∃ c, Ix c (pre ++ [x]) w' ∧ w'.heap[w.heap.size + 1]? = some (.loop (rec .done (some c))) ∧ w'.heap[w.heap.size]? = some (.deferred (some [])))) := fun c W3 ⟨hk3, hi3⟩ => by
      obtain ⟨hr, l3, l4, d4⟩ := fin (some c) W3 hk3
      exact ⟨_, _, hr, kk.trans ((KeepsFrom.up hk3 (by omega)).trans (keeps_put l3 (by omega))), .inr ⟨rfl, c, (hIx c).putObj _ hi3 (by omega) l3 rfl, l4, d4⟩⟩
    rintro e a3 W3 hp
    cases e with
    | normal =>
      obtain ⟨hk3, hp3, hi3⟩ := hp
      obtain ⟨hr, l3, l4, d4⟩ := fin none W3 hk3
      exact ⟨_, _, hr, kk.trans ((KeepsFrom.up hk3 (by omega)).trans (keeps_put l3 (by omega))), .inl ⟨rfl, ⟨hI.putObj _ hi3 (by omega) l3 rfl, l4, d4⟩, hKt hp1 (hKt (hKt p2 hp3) (hKb _ _ _ l3 rfl))⟩⟩
    | ret => exact out .ret W3 hp
    | exit id => exact out (.exit id) W3 hp
    | goto t => exact out (.goto t) W3 hp
    | panic ch => exact hp.elim
    | outgrown => exact hp.elim
  · rintro e W2 ⟨⟨v, rfl⟩, (⟨hi, hl, hd⟩ | ⟨pre, hpre, c, hi, hl, hd⟩)⟩
    · exact ⟨none, _, by have := run_endLoop (P := P) hl (by rw [hrec]; simp); rw [hrec] at this; exact this, hdone _ _ (Nat.le_refl _) (hI.putObj _ hi (by omega) hl rfl) ((World.putObj_heap_other (by omega)).trans hd)⟩
    · exact ⟨some c, _, by have := run_endLoop (P := P) hl (by rw [hrec]; simp); rw [hrec] at this; exact this, hstop _ c pre _ (Nat.le_refl _) hpre ((hIx c).putObj _ hi (by omega) hl rfl) ((World.putObj_heap_other (by omega)).trans hd)⟩
/-- What a round may not turn: what lies below n₁; from n₂ on, the boxes of an iterator. -/
structure Quiet (n₁ n₂ : Nat) (W W' : World) : Prop where
  below : Below n₁ W W'
  box : ∀ k cs t, n₂ ≤ k → W.heap[k]? = some (.cells cs t (0, 0)) → t = 3 ∨ t = 25 ∨ t = 34 ∨ t = 77 → W'.heap[k]? = some (.cells cs t (0, 0))
section
variable {n₁ n₂ : Nat}
theorem Quiet.refl (n₁ n₂ : Nat) (W : World) : Quiet n₁ n₂ W W := ⟨Below.refl _ _, fun _ _ _ _ h _ => h⟩
theorem Quiet.trans {A B C : World} (h : Quiet n₁ n₂ A B) (g : Quiet n₁ n₂ B C) : Quiet n₁ n₂ A C := ⟨h.below.trans g.below, fun k cs t hk ho ht => g.box k cs t hk (h.box k cs t hk ho ht) ht⟩
theorem Quiet.of_below {A B : World} (h : Below A.heap.size A B) (hn : n₁ ≤ A.heap.size) : Quiet n₁ n₂ A B := ⟨h.mono hn, fun k cs t _ ho _ => (h.block k (Array.getElem?_eq_some_iff.1 ho).1).trans ho⟩
theorem Quiet.put {W : World} {l : Nat} {o : Obj} (o' : Obj) (hl : n₁ ≤ l) (h : W.heap[l]? = some o) (hc : o.isCells = false) : Quiet n₁ n₂ W (W.putObj l o') :=
  ⟨(Below.refl _ _).grown (grownBy_putObj' W l o') (Nat.le_trans hl (Nat.le_of_lt (Array.getElem?_eq_some_iff.1 h).1)) (fun k e => by cases e; exact hl), fun k cs t _ ho _ => (World.putObj_heap_other (fun e => by subst e; rw [ho] at h; cases h; cases hc)).trans ho⟩
theorem Quiet.set {W : World} {p : Addr} {cs : Array Value} {t : TypeId} (h : W.heap[p.block]? = some (.cells cs t (0, 0))) (hp : n₁ ≤ p.block) (hn : p.block < n₂ ∨ ¬ (t = 3 ∨ t = 25 ∨ t = 34 ∨ t = 77)) (u : Value) : Quiet n₁ n₂ W (W.setCell p u) :=
  ⟨(Below.refl n₁ W).setCell hp _, fun k cs' t' hk ho ht => (Below.heap_setCell W p u k (fun e => by
    subst e
    rw [h] at ho
    cases ho
    rcases hn with hn | hn
    · omega
    · exact hn ht)).trans ho⟩
end
end Go.Proofs.YtoieemaheadjdaaDoor.PRel
