/- The pairs of a relation, as a list. Written by an AI agent in this seat's session; checked by Lean alone. No axiom, no sorry. -/
import Derived.Test.YtoieemaheadjdaaDoorRelP
import Derived.RangeFuncNested
import Derived.RangeFuncLeaves
import Derived.Shelf.Abstract
import Derived.Shelf.RegionOpen
import Derived.WalkKit
import Derived.OwnWalkIn
import Derived.TacticsInMore
import Derived.LoopNIn
import Derived.LoopIn
import Derived.Lib.TrailingZeros
import Derived.Maps.AppendAt
import Derived.Maps.OwnIn
import Derived.Test.YtoieemaheadjdaaDoorRbh
namespace Go.Proofs.YtoieemaheadjdaaDoor.PRel
open Go.RowKit Go.Proofs.YtoieemaheadjdaaDoorW.PrintWords Go.Proofs.YtoieemaheadjdaaDoorW.PrintLast Go.Proofs.YtoieemaheadjdaaDoorW.PrintMore Go.Proofs.YtoieemaheadjdaaDoor.PRelOrders
set_option linter.unusedVariables false
set_option linter.unusedSimpArgs false
attribute [local go_sem] Oper.semAt_some
theorem info23 : (Tryd.prog.info? 23).map (fun i => (i.zero, i.size, i.bytes)) = some (some (.agg #[.int .i64 0, .int .i64 0]), 2, 16) := by kernel_rfl
def cells2 (ps : List (Nat × Nat)) : List Value := ps.flatMap fun q => [.int .i64 (q.1 : Int), .int .i64 (q.2 : Int)]
theorem cells2_snoc (ps : List (Nat × Nat)) (q : Nat × Nat) : cells2 (ps ++ [q]) = cells2 ps ++ [.int .i64 (q.1 : Int), .int .i64 (q.2 : Int)] := by unfold cells2; simp
theorem cells2_len (ps : List (Nat × Nat)) : (cells2 ps).length = ps.length * 2 := by
  induction ps with
  | nil => rfl
  | cons q ps ih => show (_ :: _ :: cells2 ps).length = _; simp only [List.length_cons, ih]; omega
theorem pairsU_len {N : Nat} {At : List (List Bool)} (h : Shape N At) : ∀ i, i ≤ N → (pairsU At i).length ≤ i * N
  | 0, _ => by simp [pairsU]
  | i + 1, hi => by
    rw [pairsU_succ, List.length_append, List.length_map, Nat.succ_mul]
    have h1 := pairsU_len h i (by omega)
    have h2 : (trues (At.getD i [])).length ≤ N := by
      unfold trues
      have := List.length_filter_le (fun j => (At.getD i []).getD j false) (List.range (At.getD i []).length)
      rw [List.length_range, h.row i (by omega)] at this
      rw [h.row i (by omega)]
      exact this
    omega
theorem pairs_len {N : Nat} {At : List (List Bool)} (h : Shape N At) (hN : N ≤ 512) : (pairsL N At).length ≤ 262144 := by
  have h1 : (pairsL N At).length ≤ N * N := pairsU_len h N (Nat.le_refl _)
  have h2 : N * N ≤ 512 * 512 := Nat.mul_le_mul hN hN
  omega
/-- A row of pairs of the call's own. -/
def PRow (W : World) (base : Nat) (v : Value) (ps : List (Nat × Nat)) : Prop := W.ownsRow base 23 2 v ps.length (cells2 ps)
theorem PRow.step {W W' : World} {base : Nat} {v : Value} {ps : List (Nat × Nat)} (h : PRow W base v ps) (hk : ∀ k, v.ownBlock = some k → W'.heap[k]? = W.heap[k]?) : PRow W' base v ps := own_move h hk
theorem PRow.typed {W : World} {base : Nat} {v : Value} {ps : List (Nat × Nat)} (h : PRow W base v ps) : ∀ k, v.ownBlock = some k → base ≤ k ∧ k < W.heap.size ∧ ∃ cells, W.heap[k]? = some (.cells cells 23 (0, 0)) := by
  intro k hk
  obtain ⟨_, ⟨rfl, _⟩ | ⟨g, cap, cur, rfl, hb, hc, _⟩⟩ := h
  · simp [Value.ownBlock] at hk
  · obtain rfl : g = k := by simpa [Value.ownBlock] using hk
    exact ⟨hb, (Array.getElem?_eq_some_iff.1 hc).1, cur, hc⟩
theorem keeps_grown {A B : World} {row : Option Nat} {n : Nat} (hg : A.grownBy B row) (hr : ∀ k, row = some k → ∃ cs t, A.heap[k]? = some (.cells cs t (0, 0))) : KeepsFrom n A B :=
  ⟨hg.size, fun k o _ ho hc => (hg.block k (Array.getElem?_eq_some_iff.1 ho).1 (fun e => by obtain ⟨cs, t, h⟩ := hr k e.symm; rw [ho] at h; cases h; cases hc)).trans ho⟩
theorem Quiet.grown {n₁ n₂ : Nat} {A B : World} {row : Option Nat} (hg : A.grownBy B row) (hr : ∀ k, row = some k → n₁ ≤ k ∧ ∃ cs t, A.heap[k]? = some (.cells cs t (0, 0)) ∧ ¬ (t = 3 ∨ t = 25 ∨ t = 34 ∨ t = 77)) (hs : n₁ ≤ A.heap.size) : Quiet n₁ n₂ A B :=
  ⟨(Below.refl _ _).grown hg hs (fun k e => (hr k e).1), fun k cs t hk ho ht => (hg.block k (Array.getElem?_eq_some_iff.1 ho).1 (fun e => by obtain ⟨_, cs', t', h, hn⟩ := hr k e.symm; rw [ho] at h; cases h; exact hn ht)).trans ho⟩
theorem cells_two_new (W : World) (x y : Value) (t : TypeId) : ∀ j u, [x, y][j]? = some u → (W.alloc (.cells #[x, y] t)).cell? ((⟨W.heap.size, 0, none⟩ : Addr).add j) = some u := by
  intro j u hj
  have hb := World.alloc_heap_new W (.cells #[x, y] t)
  rw [add_at, Nat.zero_add]
  match j, hj with
  | 0, hj => exact (blk_cell hb 0).trans hj
  | 1, hj => exact (blk_cell hb 1).trans hj
/-- A pair appended, and the variable told. -/
theorem prow_app {X w1 : World} {base bo n n₂ : Nat} {v v' : Value} {pre : List (Nat × Nat)} {x : Nat × Nat} (hv : PRow X base v pre) (hx : X.heap[bo]? = some (.cells #[v] 22 (0, 0))) (hbo : base ≤ bo) (hn : bo < n₂)
    (hown : w1.ownsRow base 23 2 v' (pre.length + 1) (cells2 pre ++ [.int .i64 (x.1 : Int), .int .i64 (x.2 : Int)])) (hg : (X.alloc (.cells #[.int .i64 (x.1 : Int), .int .i64 (x.2 : Int)] 23)).grownBy w1 v.ownBlock) :
    (w1.setCell ⟨bo, 0, none⟩ v').heap[bo]? = some (.cells #[v'] 22 (0, 0)) ∧ PRow (w1.setCell ⟨bo, 0, none⟩ v') base v' (pre ++ [x]) ∧ KeepsFrom n X (w1.setCell ⟨bo, 0, none⟩ v') ∧ Quiet base n₂ X (w1.setCell ⟨bo, 0, none⟩ v') := by
  have hal := below_alloc (Below.refl X.heap.size X) (.cells #[.int .i64 (x.1 : Int), .int .i64 (x.2 : Int)] 23)
  have hbX : bo < X.heap.size := blk_lt hx
  have hne : ∀ k, v.ownBlock = some k → k ≠ bo := fun k hk e => by
    subst e
    obtain ⟨_, _, cells, hc⟩ := hv.typed k hk
    rw [hx] at hc; cases hc
  have hx2 := blk_grown (blk_below hx hal) hg (fun e => hne bo e.symm rfl)
  have hrow : ∀ k, v.ownBlock = some k → base ≤ k ∧ ∃ cs t, (X.alloc (.cells #[.int .i64 (x.1 : Int), .int .i64 (x.2 : Int)] 23)).heap[k]? = some (.cells cs t (0, 0)) ∧ ¬ (t = 3 ∨ t = 25 ∨ t = 34 ∨ t = 77) := fun k hk => by
    obtain ⟨h1, h2, cells, hc⟩ := hv.typed k hk
    exact ⟨h1, cells, 23, blk_below hc hal, by decide⟩
  have hP : PRow w1 base v' (pre ++ [x]) := by
    unfold PRow
    rw [List.length_append, List.length_singleton, cells2_snoc]
    exact hown
  have hne' : ∀ k, v'.ownBlock = some k → k ≠ bo := fun k hk e => by
    subst e
    obtain ⟨_, _, cells, hc⟩ := hP.typed k hk
    rw [hx2] at hc; cases hc
  refine ⟨blk_put hx2 0 v' rfl, hP.step fun k hk => Below.heap_setCell _ _ _ _ (hne' k hk), ?_, ?_⟩
  · exact ((keeps_grown (row := none) (World.grownBy_alloc X _ none) (fun k e => by cases e)).trans (keeps_grown hg (fun k e => by obtain ⟨_, cs, t, h, _⟩ := hrow k e; exact ⟨cs, t, h⟩))).trans ((KeepsOthers.setCell _ _ _).from _)
  · exact ((Quiet.of_below hal (by omega)).trans (Quiet.grown hg hrow (by simp; omega))).trans (Quiet.set hx2 hbo (.inl hn) _)
set_option maxRecDepth 100000 in
set_option maxHeartbeats 4000000 in
theorem pairsL_walk {lo hi N : Nat} {pv : Option Addr} {At : List (List Bool)} (w : World) (hR : RelV w lo hi pv N At) (hhi : hi ≤ w.heap.size) (hG : TabLaid w) :
    Calls Tryd.prog 17 #[.pointer pv] w fun e w' => ∃ v, e = .returned v ∧ PRow w' w.heap.size v (pairsL N At) ∧ Below w.heap.size w w' := by
  have hN := hR.shape
  have hpl := pairs_len hN.1 hN.2
  have HR := Aside0.mk hR
  have HG := Aside0.mk hG
  clear hR hG
  refine (callsIn_wide (n := 0)).1 (callsIn_of_wp_marks Tryd.func17 rfl trivial ?_ rfl)
  simp only [Tryd.ntmps17, List.size_toArray, List.length_cons, List.length_nil, Nat.reduceAdd, Nat.reduceSub, Array.replicate_succ, Array.replicate_zero, List.push_toArray, List.append_toArray, List.nil_append, List.cons_append]
  gi_wp2_with (first | (refine ⟨trivial, rfl, ?_⟩; gi_at_call 43; refine (pairs_walk Fence.wide _ trivial rfl _ _).mono ?_; rintro e w1 ⟨rfl, hw_⟩; subst w1))
  have hb1 := below_alloc (Below.refl w.heap.size w) (.cells #[.slice none 0 0] 22)
  have hb2 := below_alloc hb1 (.cells #[.pointer pv] 25)
  have hx1 := blk_alloc (World.alloc_heap_new w (.cells #[.slice none 0 0] 22)) (.cells #[.pointer pv] 25)
  have hx2 := World.alloc_heap_new (w.alloc (.cells #[.slice none 0 0] 22)) (.cells #[.pointer pv] 25)
  have hsz : ((w.alloc (.cells #[.slice none 0 0] 22)).alloc (.cells #[.pointer pv] 25)).heap.size = w.heap.size + 2 := by simp
  rw [World.size_alloc] at hx2
  have HX := Aside0.mk (And.intro hx1 (And.intro hx2 (And.intro hb2 hsz)))
  clear hb1 hb2 hx1 hx2 hsz
  generalize (w.alloc (.cells #[.slice none 0 0] 22)).alloc (.cells #[.pointer pv] 25) = V at HX ⊢
  obtain ⟨hx1, hx2, hBV, hsz⟩ := HX.out
  clear HX
  have h0w : 0 < w.heap.size := HG.out.lt
  have hit := pairs_iter 0 w.heap.size (w.heap.size + 1) (w.heap.size + 1) V (HR.out.below hBV hhi) hhi (by omega) (Nat.le_refl _) hx2 (HG.out.below h0w hBV) h0w
  refine wp_iter (encs := fun q : Nat × Nat => #[.int .i64 (q.1 : Int), .int .i64 (q.2 : Int)]) (Kp := Quiet w.heap.size (w.heap.size + 1)) rfl (enters_of Tryd.func58 (by kernel_rfl) rfl) hit Quiet.trans (fun X o o' ho hc => Quiet.put o' (by omega) ho hc) (fun _ => rfl)
    (fun pre X => (∃ v, X.heap[w.heap.size]? = some (.cells #[v] 22 (0, 0)) ∧ PRow X w.heap.size v pre) ∧ Below w.heap.size w X) (fun _ _ _ => False)
    (fun s A B row ⟨⟨v, h1, h2⟩, h3⟩ hg hr => ⟨⟨v, (grownBy_keeps_cells hg (fun r e => (hr r e).2) h1 rfl).trans h1, h2.step fun k hk => by obtain ⟨_, _, cells, hc⟩ := h2.typed k hk; exact grownBy_keeps_cells hg (fun r e => (hr r e).2) hc rfl⟩, h3.grown hg h3.size (fun k e => by have := (hr k e).1; omega)⟩)
    (fun _ _ _ _ _ hs _ _ => hs) ⟨⟨_, hx1, rfl, .inl ⟨rfl, rfl⟩⟩, hBV⟩
    (fun x a' _ => a' = { tmps := #[.pointer pv, undef, .slice none 0 0, .pointer (some ⟨w.heap.size, 0, none⟩), .int .i64 (x.1 : Int), .int .i64 (x.2 : Int), .pointer pv, .func (.func 58) #[] #[.pointer (some ⟨w.heap.size + 1, 0, none⟩)], .int .i64 (x.1 : Int), .int .i64 (x.2 : Int), undef, undef, undef, undef, undef, undef, undef], defers := [] })
    (fun _ _ _ _ _ _ hs _ _ => hs)
    ?assign ?body ?done ?stop
  case assign =>
    intro l2 pre x X K hI hK
    gi_wp2
    exact hK _ _ (KeepsFrom.refl _ _) (Quiet.refl _ _ _) hI rfl
  case body =>
    rintro l2 pre x a' X hl ⟨r, hr⟩ ⟨⟨v, hxX, hvX⟩, hBX⟩ rfl ⟨q, hq⟩
    have cx : X.cell? ⟨w.heap.size, 0, none⟩ = some v := (blk_cell hxX 0).trans rfl
    have hlen : pre.length + 1 ≤ 262144 := by have := congrArg List.length hq; simp at this; omega
    obtain ⟨i0, hi0, hzz⟩ := Option.map_eq_some_iff.1 info23
    simp only [Prod.mk.injEq] at hzz
    obtain ⟨hz0, hz1, hz2⟩ := hzz
    gi_wp2_with (gi_at_builtin; refine wpListIn_append_own _ rfl _ _ 22 rfl w.heap.size 23 i0 _ 2 16 Tryd.underlying22 hi0 hz0 hz1 hz2 rfl (by decide) v pre.length (cells2 pre) rfl (hvX.step fun k hk => (below_alloc (Below.refl X.heap.size X) _).block k (hvX.typed k hk).2.1) ⟨X.heap.size, 0, none⟩ 1 1 [.int .i64 (x.1 : Int), .int .i64 (x.2 : Int)] rfl rfl (cells_two_new X _ _ 23) (by simp [Value.oneCell']) (by unfold maxLen; omega) (by omega) (by have := hBX.size; simp; omega) ?_; intro v' w1 hown' hgrow _; obtain ⟨g', cap', rfl⟩ := ownsRow_succ hown'; obtain ⟨hp1, hp2, hp3, hp4⟩ := prow_app (n := V.heap.size) (n₂ := w.heap.size + 1) hvX hxX (Nat.le_refl _) (by omega) hown' hgrow; have hx1 := blk_grown (blk_alloc hxX _) hgrow (fun e => by obtain ⟨_, _, cells, hc⟩ := hvX.typed _ e.symm; rw [hxX] at hc; cases hc); have cx1 : w1.cell? ⟨w.heap.size, 0, none⟩ = some v := (blk_cell hx1 0).trans rfl; have fx1 := blk_frozen hx1 0)
    exact ⟨hp3, hp4, ⟨_, hp1, hp2⟩, hBX.trans hp4.below⟩
  case done =>
    rintro D X hD ⟨⟨v, hxX, hvX⟩, hBX⟩ hdd
    have cx : X.cell? ⟨w.heap.size, 0, none⟩ = some v := (blk_cell hxX 0).trans rfl
    gi_wp2
    exact leaves_marks (B := V.heap.size) (fun Y => PRow Y w.heap.size v (pairsL N At) ∧ Below w.heap.size w Y) (fun Y E hE hd ⟨h1, h2⟩ => ⟨h1.step fun k hk => World.putObj_heap_other (fun e => by subst e; obtain ⟨_, _, cells, hc⟩ := h1.typed k hk; rw [hd] at hc; cases hc), h2.grown (grownBy_putObj' Y E _) h2.size (fun k e => by cases e; omega)⟩) (fun Y ⟨h1, h2⟩ => ⟨_, results_tmp rfl _ _ _, _, rfl, h1, h2⟩) [D] X (Marks.cons (Marks.nil _ _) hD (by simp) hdd) ⟨hvX, hBX⟩
  case stop =>
    rintro D c pre X hD hpre h hdd
    exact h.elim
end Go.Proofs.YtoieemaheadjdaaDoor.PRel
