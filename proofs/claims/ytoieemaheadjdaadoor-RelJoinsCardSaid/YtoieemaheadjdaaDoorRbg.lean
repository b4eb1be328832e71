/- The pairs of a relation, told one after the other: an iterator that goes over an iterator. Written by an AI agent in this seat's session; checked by Lean alone. No axiom, no sorry. -/
import Derived.Test.YtoieemaheadjdaaDoorRelP
import Derived.RangeFuncNested
import Derived.RangeFuncLeaves
import Derived.Shelf.Abstract
import Derived.Shelf.RegionOpen
import Derived.WalkKit
import Derived.OwnWalkIn
import Derived.TacticsInMore
import Derived.LoopNIn
import Derived.LoopIn
import Derived.Lib.TrailingZeros
import Derived.Test.YtoieemaheadjdaaDoorRbf
namespace Go.Proofs.YtoieemaheadjdaaDoor.PRel
open Go.RowKit Go.Proofs.YtoieemaheadjdaaDoorW.PrintWords Go.Proofs.YtoieemaheadjdaaDoorW.PrintLast Go.Proofs.YtoieemaheadjdaaDoorW.PrintMore Go.Proofs.YtoieemaheadjdaaDoor.PRelOrders
set_option linter.unusedVariables false
set_option linter.unusedSimpArgs false
attribute [local go_sem] Oper.semAt_some
def markOf (D : Nat) : Deferred := { target := .collected D, args := #[] }
/-- The marks that loops over iterators have left: each stands for no call. -/
def Marks (B : Nat) (Ds : List Nat) (w : World) : Prop := Ds.Nodup ∧ ∀ D ∈ Ds, B ≤ D ∧ w.heap[D]? = some (.deferred (some []))
theorem Marks.nil (B : Nat) (w : World) : Marks B [] w := ⟨List.nodup_nil, fun D h => by cases h⟩
theorem Marks.cons {B D : Nat} {Ds : List Nat} {w : World} (h : Marks B Ds w) (hD : B ≤ D) (hn : D ∉ Ds) (hd : w.heap[D]? = some (.deferred (some []))) : Marks B (D :: Ds) w :=
  ⟨List.nodup_cons.2 ⟨hn, h.1⟩, fun E hE => (List.mem_cons.1 hE).elim (fun e => by subst e; exact ⟨hD, hd⟩) (h.2 E)⟩
theorem Marks.keep {B : Nat} {Ds : List Nat} {w w' : World} (h : Marks B Ds w) (hk : ∀ k o, B ≤ k → w.heap[k]? = some o → o.isCells = false → w'.heap[k]? = some o) : Marks B Ds w' := ⟨h.1, fun D hD => ⟨(h.2 D hD).1, hk D _ (h.2 D hD).1 (h.2 D hD).2 rfl⟩⟩
theorem Marks.lt {B : Nat} {Ds : List Nat} {w : World} (h : Marks B Ds w) {D : Nat} (hD : D ∈ Ds) : D < w.heap.size := (Array.getElem?_eq_some_iff.1 (h.2 D hD).2).1
/-- A function leaves over its marks: what abides their turning is had at the end. -/
theorem leaves_marks {P : Program} {fn : Func} {tmps : Array Value} {R : Ending → World → Prop} {n B : Nat} (S : World → Prop) (hS : ∀ W D, B ≤ D → W.heap[D]? = some (.deferred (some [])) → S W → S (W.putObj D (.deferred none))) (hR : ∀ W, S W → ∃ v, (results fn tmps).run P W = .ok v W ∧ R (.returned v) W) :
    ∀ (Ds : List Nat) (w : World), Marks B Ds w → S w → LeavesInM Fence.wide n P fn tmps R (Ds.map markOf) .returning w
  | [], w, _, hs => hR w hs
  | D :: Ds, w, hm, hs => by
    obtain ⟨hD, hd⟩ := hm.2 D (List.mem_cons_self ..)
    refine ⟨by simp, .inl ⟨D, _, rfl, run_takeDeferred hd, ?_⟩⟩
    refine leaves_marks S hS hR Ds _ ⟨(List.nodup_cons.1 hm.1).2, fun E hE => ⟨(hm.2 E (List.mem_cons_of_mem _ hE)).1, ?_⟩⟩ (hS w D hD hd hs)
    exact (World.putObj_heap_other (fun e => by subst e; exact (List.nodup_cons.1 hm.1).1 hE)).trans (hm.2 E (List.mem_cons_of_mem _ hE)).2
theorem OwnFrom.up {β : Type} {B B' : Nat} {I : β → World → Prop} (h : OwnFrom B I) (hB : B ≤ B') : OwnFrom B' I := fun s W W' row hs hg hr => h s W W' row hs hg (fun r e => ⟨Nat.le_trans hB (hr r e).1, (hr r e).2⟩)
theorem OwnFrom.drew {β : Type} {B : Nat} {I : β → World → Prop} (h : OwnFrom B I) {s : β} {W : World} (hs : I s W) : I s W.drew := h s W W.drew none hs ⟨rfl, rfl, rfl, Nat.le_refl _, fun _ _ _ => rfl⟩ (fun r e => by cases e)
def pairsU (At : List (List Bool)) (i : Nat) : List (Nat × Nat) := (List.range i).flatMap fun a => (trues (At.getD a [])).map fun b => (a, b)
theorem pairsU_succ (At : List (List Bool)) (i : Nat) : pairsU At (i + 1) = pairsU At i ++ (trues (At.getD i [])).map fun b => (i, b) := by
  unfold pairsU; rw [List.range_succ, List.flatMap_append]; simp
theorem pairsU_prefix (At : List (List Bool)) : ∀ d i, ∃ q, pairsU At i ++ q = pairsU At (i + d)
  | 0, i => ⟨[], by simp⟩
  | d + 1, i => by
    obtain ⟨q, hq⟩ := pairsU_prefix At d i
    exact ⟨q ++ (trues (At.getD (i + d) [])).map fun b => (i + d, b), by rw [← List.append_assoc, hq, ← Nat.add_assoc, pairsU_succ]⟩
theorem pairs_mid {N : Nat} {At : List (List Bool)} {i : Nat} (hi : i < N) {pre : List Nat} {b : Nat} {q : List Nat} (h : pre ++ b :: q = trues (At.getD i [])) : ∃ q', (pairsU At i ++ pre.map fun b => (i, b)) ++ (i, b) :: q' = pairsL N At := by
  obtain ⟨q2, hq⟩ := pairsU_prefix At (N - (i + 1)) (i + 1)
  rw [show i + 1 + (N - (i + 1)) = N by omega, pairsU_succ, ← h] at hq
  exact ⟨q.map (fun b => (i, b)) ++ q2, by rw [show pairsL N At = pairsU At N from rfl, ← hq]; simp⟩
/-- r.pairs(): the pointer is boxed; the function value captures the box. -/
theorem pairs_walk (F : Fence) (n : Nat) (hF : F.fn 43) (hro : F.round = none) (pv : Option Addr) (w : World) :
    CallsIn F n Tryd.prog 43 #[.pointer pv] w fun e w' => e = .returned (.func (.func 58) #[] #[.pointer (some ⟨w.heap.size, 0, none⟩)]) ∧ w' = w.alloc (.cells #[.pointer pv] 25) := by
  refine callsIn_of_wp Tryd.func43 rfl hF ?_ hro
  simp only [Tryd.ntmps43, List.size_toArray, List.length_cons, List.length_nil, Nat.reduceAdd, Nat.reduceSub, Array.replicate_succ, Array.replicate_zero, List.push_toArray, List.append_toArray, List.nil_append, List.cons_append]
  gi_wp2
  go_ret
  exact ⟨rfl, rfl⟩
/-- The world of an iterator over pairs, between two of its rounds. -/
structure PairAt (l lo hi n₁ n₂ Br b2 : Nat) (pv : Option Addr) (N : Nat) (At : List (List Bool)) (W : World) : Prop where
  rel : RelV W lo hi pv N At
  tab : TabLaid W
  box : W.heap[Br]? = some (.cells #[.pointer pv] 25 (0, 0))
  yld : W.heap[b2]? = some (.cells #[.func (.yield l) #[] #[]] 34 (0, 0))
section
variable {l lo hi n₁ n₂ Br b2 : Nat} {pv : Option Addr} {N : Nat} {At : List (List Bool)} {W W' : World}
theorem PairAt.quiet (h : PairAt l lo hi n₁ n₂ Br b2 pv N At W) (hq : Quiet n₁ n₂ W W') (hhi : hi ≤ n₁) (h01 : 0 < n₁) (hBr : n₂ ≤ Br) (hb2 : n₂ ≤ b2) : PairAt l lo hi n₁ n₂ Br b2 pv N At W' :=
  ⟨h.rel.below hq.below hhi, h.tab.below h01 hq.below, hq.box _ _ _ hBr h.box (.inr (.inl rfl)), hq.box _ _ _ hb2 h.yld (.inr (.inr (.inl rfl)))⟩
theorem PairAt.grow (h : PairAt l lo hi n₁ n₂ Br b2 pv N At W) (hb : Below W.heap.size W W') : PairAt l lo hi n₁ n₂ Br b2 pv N At W' :=
  ⟨h.rel.grow hb, h.tab.below h.tab.lt hb, blk_below h.box hb, blk_below h.yld hb⟩
theorem PairAt.own {row : Option Nat} (h : PairAt l lo hi n₁ n₂ Br b2 pv N At W) (hg : W.grownBy W' row) (hr : ∀ r, row = some r → ∃ o : Obj, W.heap[r]? = some o ∧ o.isCells = false) (hh : ∀ r, row = some r → hi ≤ r ∧ 0 < r) : PairAt l lo hi n₁ n₂ Br b2 pv N At W' :=
  ⟨h.rel.keep fun k _ h2 h3 => hg.block k h3 (fun e => by have := (hh k e.symm).1; omega), fun j hj => by
    rw [← h.tab j hj]
    exact World.cell?_of_block (hg.block 0 h.tab.lt (fun e => by have := (hh 0 e.symm).2; omega)), (grownBy_keeps_cells hg hr h.box rfl).trans h.box, (grownBy_keeps_cells hg hr h.yld rfl).trans h.yld⟩
end
/-- Where nothing panics. -/
def NoP (Q : Exit → Act → World → Prop) : Exit → Act → World → Prop
  | .panic _, _, _ => False
  | e, a, w => Q e a w
theorem NoP.end_ {Q : Exit → Act → World → Prop} {a : Act} {w : World} (h : Q .normal a w) : NoP Q .normal a w := h
theorem noP {F : Fence} {n : Nat} {P : Program} {c : Code} {Q : Exit → Act → World → Prop} {a : Act} {w : World} (h : c.wpIn F n P (NoP Q) a w) : c.wpIn F n P Q a w :=
  wpIn_mono h fun e a w h => by cases e <;> first | exact h | exact h.elim
set_option maxRecDepth 100000 in
set_option maxHeartbeats 4000000 in
theorem pairs_iter {lo hi N : Nat} {pv : Option Addr} {At : List (List Bool)} (n n₁ n₂ Br : Nat) (w : World) (hR : RelV w lo hi pv N At) (hhi : hi ≤ n₁) (h12 : n₁ ≤ n₂) (hBr : n₂ ≤ Br) (hbox : w.heap[Br]? = some (.cells #[.pointer pv] 25 (0, 0))) (hG : TabLaid w) (h01 : 0 < n₁) :
    Iter n Tryd.prog 58 #[.pointer (some ⟨Br, 0, none⟩)] (fun p : Nat × Nat => #[.int .i64 (p.1 : Int), .int .i64 (p.2 : Int)]) (Quiet n₁ n₂) (pairsL N At) w := by
  intro l J Jx W hB hWs hJ hJx hY h0
  have hN := hR.shape.2
  have hBw : Br < w.heap.size := blk_lt hbox
  have hP0 : PairAt l lo hi n₁ n₂ Br W.heap.size pv N At (W.alloc (.cells #[.func (.yield l) #[] #[]] 34)) :=
    ⟨(hR.grow hB).grow (below_alloc (Below.refl _ W) _), (hG.below hG.lt hB).below (hG.below hG.lt hB).lt (below_alloc (Below.refl _ W) _), blk_alloc (blk_below hbox hB) _, World.alloc_heap_new W _⟩
  have hJ1 : J [] (W.alloc (.cells #[.func (.yield l) #[] #[]] 34)) := hJ.alloc _ h0
  refine callsIn_of_wp_marks Tryd.func58 rfl trivial ?_ rfl
  simp only [Tryd.ntmps58, List.size_toArray, List.length_cons, List.length_nil, Nat.reduceAdd, Nat.reduceSub, Array.replicate_succ, Array.replicate_zero, List.push_toArray, List.append_toArray, List.nil_append, List.cons_append]
  have hP := Aside0.mk hP0
  have HJ := Aside0.mk hJ1
  have HW := Aside0.mk hWs
  have HBW := Aside0.mk hBw
  have HY := Aside0.mk hY
  clear hP0 hJ1 hY h0 hR hbox hG hB hWs hBw
  have hcr : (W.alloc (.cells #[.func (.yield l) #[] #[]] 34)).cell? ⟨Br, 0, none⟩ = _ := (blk_cell hP.out.box 0).trans rfl
  obtain ⟨W1, hW1⟩ : ∃ W1, W.alloc (.cells #[.func (.yield l) #[] #[]] 34) = W1 := ⟨_, rfl⟩
  rw [hW1] at hP HJ hcr
  gi_wp2_with (first | rw [hW1] | (refine ⟨trivial, fun h => (by cases h), ?_⟩; refine (callsIn_wide.2 (len_walk _ hP.out.rel)).mono ?_; rintro e w1 ⟨rfl, hw_⟩; subst w1))
  refine wpIn_loop (fun a Wr => ∃ (i : Nat) (u3 u8 u9 u10 u11 u12 u13 u14 u15 u16 u17 u24 : Value) (Ds : List Nat), a = { tmps := #[.func (.yield l) #[] #[], .pointer (some ⟨Br, 0, none⟩), .pointer (some ⟨W.heap.size, 0, none⟩), u3, undef, .pointer pv, .int .i64 (N : Int), .int .i64 (i : Int), u8, u9, u10, u11, u12, u13, u14, u15, u16, u17, undef, undef, undef, undef, undef, undef, u24], defers := Ds.map markOf } ∧ i ≤ N ∧ Aside0 (J (pairsU At i) Wr) ∧ Aside0 (PairAt l lo hi n₁ n₂ Br W.heap.size pv N At Wr) ∧ Aside0 (Marks W.heap.size Ds Wr)) (fun a _ => N - (intOf (a.tmps.getD 7 undef)).toNat) ⟨0, undef, undef, undef, undef, undef, undef, undef, undef, undef, undef, undef, undef, [], rfl, Nat.zero_le _, HJ, hP, ⟨Marks.nil _ _⟩⟩ ?_
  clear HJ hP hcr hW1
  rintro a Wr ⟨i, u3, u8, u9, u10, u11, u12, u13, u14, u15, u16, u17, u24, Ds, rfl, hiN, HJ, hP, HM⟩
  by_cases hlt : i < N
  · have hltz : (i : Int) < (N : Int) := by omega
    rcases hP.out.rel with ⟨_, hN0, _⟩ | ⟨p, hpv, hp⟩
    · omega
    subst hpv
    have hsz : W.heap.size < Wr.heap.size := blk_lt hP.out.yld
    have hal := below_alloc (Below.refl Wr.heap.size Wr) (.cells #[.int .i64 (i : Int)] 3)
    have hP2 := Aside0.mk (hP.out.grow hal)
    have HJ2 := Aside0.mk (hJ.alloc (.cells #[.int .i64 (i : Int)] 3) HJ.out)
    have HM2 := Aside0.mk (HM.out.keep (w' := Wr.alloc (.cells #[.int .i64 (i : Int)] 3)) (fun k o _ ho _ => (hal.block k (Array.getElem?_eq_some_iff.1 ho).1).trans ho))
    have hb3 := World.alloc_heap_new Wr (.cells #[.int .i64 (i : Int)] 3)
    obtain ⟨ad, cap, gi, ci, ws, hc0, hc1, hWd, hcw, hai⟩ := relw_row (hp.grow hal) hlt
    have hcr : (Wr.alloc (.cells #[.int .i64 (i : Int)] 3)).cell? ⟨Br, 0, none⟩ = some (.pointer (some ⟨p, 0, none⟩)) := (blk_cell hP2.out.box 0).trans rfl
    have hca : (Wr.alloc (.cells #[.int .i64 (i : Int)] 3)).cell? ⟨Wr.heap.size, 0, none⟩ = some (.int .i64 (i : Int)) := (blk_cell hb3 0).trans rfl
    have HX := Aside0.mk (And.intro hWd (And.intro hcw hai))
    have HB3 := Aside0.mk hb3
    clear hWd hcw hai hb3 hp hal
    gi_wp2
    refine noP (wpIn_wide.2 ?_)
    have HS := Aside0.mk hsz
    clear hsz
    obtain ⟨W2, hW2⟩ : ∃ W2, Wr.alloc (.cells #[.int .i64 (i : Int)] 3) = W2 := ⟨_, rfl⟩
    rw [hW2] at hP2 HJ2 HM2 hc0 hc1 hcr hca HX HB3 ⊢
    have HW2 := Aside0.mk hW2
    clear hP HJ HM hW2
    refine start_ (n := 8) (S := fun w' => w'.cell? ⟨Br, 0, none⟩ = some (.pointer (some ⟨p, 0, none⟩)) ∧ w'.cell? ⟨Wr.heap.size, 0, none⟩ = some (.int .i64 (i : Int)) ∧ w'.cell? ⟨p, 0, none⟩ = some (.slice (some ad) N cap) ∧ w'.cell? (ad.add i) = some (.slice (some ⟨gi, 0, none⟩) ws.length ci)) (ds := [7]) (fm_ 8 0) (by kernel_rfl) rfl rfl ⟨hcr, hca, hc0, hc1⟩ (fun hHeld => ?_)
    refine fT1 (i := 0) (N := some 10) (fm_ 8 1) ?_
    refine fP (i := 1) (N := some 11) (fm_ 8 3) ?_
    refine fP (i := 2) (N := some 12) (fm_ 8 7) ?_
    refine fT1 (i := 3) (N := some 13) (fm_ 8 15) ?_
    refine fT1 (i := 4) (N := some 14) (fm_ 8 31) ?_
    refine fP (i := 5) (N := some 15) (fm_ 8 63) ?_
    refine fT1 (i := 6) (N := some 16) (fm_ 8 127) ?_
    refine last_ (i := 7) (N := some 17) (fm_ 8 255) rfl rfl (by kernel_rfl) (by decide) (fun K hK => ?_)
    refine goes_ Tryd.func47 (by kernel_rfl) rfl #[.slice (some ⟨gi, 0, none⟩) ws.length ci] (by rfl) rfl rfl (by simp [Act.eval]) ?_
    refine (callsIn_wide.1 (all_walk Fence.wide 0 trivial rfl _ _ _ _)).mono ?_
    rintro e w1 ⟨rfl, rfl⟩
    refine ⟨_, rfl, ?_⟩
    refine hK.out _ _ ?_
    clear hK K
    refine norm_ (a' := ?_) ?_ ?_
    rotate_left
    · show Act.put _ (some 17) _ = _
      go_frame <;> try simp only [i64_w, i32_w]
      rfl
    refine done_ (by kernel_rfl) (NoP.end_ ?_)
    have hal : Below W2.heap.size W2 (W2.drew.alloc (.cells #[.slice (some ⟨gi, 0, none⟩) ws.length ci] 77)) := below_alloc (below_drew1 (Below.refl _ _)) _
    have hb4 : (W2.drew.alloc (.cells #[.slice (some ⟨gi, 0, none⟩) ws.length ci] 77)).heap[W2.heap.size]? = _ := World.alloc_heap_new W2.drew (.cells #[.slice (some ⟨gi, 0, none⟩) ws.length ci] 77)
    have hP3 := Aside0.mk (hP2.out.grow hal)
    have HJ3 := Aside0.mk (hJ.alloc (.cells #[.slice (some ⟨gi, 0, none⟩) ws.length ci] 77) (OwnFrom.drew hJ HJ2.out))
    have HM3 := Aside0.mk (HM2.out.keep (w' := W2.drew.alloc (.cells #[.slice (some ⟨gi, 0, none⟩) ws.length ci] 77)) (fun k o _ ho _ => (hal.block k (Array.getElem?_eq_some_iff.1 ho).1).trans ho))
    have hb3 := blk_below HB3.out hal
    have hcw3 : ∀ j, j < ws.length → (W2.drew.alloc (.cells #[.slice (some ⟨gi, 0, none⟩) ws.length ci] 77)).cell? ⟨gi, j, none⟩ = some (.int .u64 (ws.getD j 0)) := fun j hj => (hal.cell (World.block_lt_of_cell? W2 _ (HX.out.2.1 j hj))).trans (HX.out.2.1 j hj)
    have hsz3 : (W2.drew.alloc (.cells #[.slice (some ⟨gi, 0, none⟩) ws.length ci] 77)).heap.size = W2.heap.size + 1 := by simp
    have hszW2 : W2.heap.size = Wr.heap.size + 1 := by rw [← HW2.out]; simp
    rw [show W2.drew.heap.size = W2.heap.size from rfl]
    generalize W2.drew.alloc (.cells #[.slice (some ⟨gi, 0, none⟩) ws.length ci] 77) = W3 at hal hb4 hP3 HJ3 HM3 hb3 hcw3 hsz3 ⊢
    clear hHeld hP2 HJ2 HM2 hc0 hc1 hcr hca HB3 HW2
    gi_wp2
    have hsum : n₁ ≤ W3.heap.size ∧ hi ≤ W3.heap.size ∧ 0 < W3.heap.size ∧ W.heap.size < W3.heap.size ∧ Wr.heap.size < W3.heap.size ∧ n₁ ≤ W.heap.size ∧ n₂ ≤ W.heap.size ∧ n₂ ≤ Wr.heap.size := by have := HBW.out; have := HW.out; have := HS.out; omega
    clear hszW2 hsz3
    have hgrow : ws.length ≤ 8 := by have h1 := HX.out.1.len; have h2 := hP3.out.rel.shape.1.row i hlt; omega
    have hall : Iter n Tryd.prog 59 #[.pointer (some ⟨W2.heap.size, 0, none⟩)] (fun b : Nat => #[.int .i64 (b : Int)]) (Below n₁) (trues (At.getD i [])) W3 := fun l' J' Jx' W' hB' _ _ _ hY' h0' =>
      all_any n W2.heap.size n₁ gi ci ws _ W3 (Below n₁) (fun _ _ h => h) HX.out.1 hgrow ((blk_cell hb4 0).trans rfl) hcw3 (by have := HX.out.2.2; omega) hsum.1 hP3.out.tab h01 l' J' Jx' W' hB' (fun pre x W1 hj hx => (hY' pre x W1 hj hx).mono fun e W' h => h.2) h0'
    have hDs : ∀ D ∈ Ds, D < W3.heap.size := fun D hD => HM3.out.lt hD
    refine wp_iter (encs := fun b : Nat => #[.int .i64 (b : Int)]) (Kp := Below n₁) rfl (enters_of Tryd.func59 (by kernel_rfl) rfl) hall (fun h g => h.trans g) (fun X o o' ho hc => (Below.refl n₁ X).grown (grownBy_putObj' X _ o') (by have := (Array.getElem?_eq_some_iff.1 ho).1; omega) (fun k e => by cases e; omega)) (fun _ => rfl)
      (fun pre X => J (pairsU At i ++ pre.map fun b => (i, b)) X ∧ PairAt l lo hi n₁ n₂ Br W.heap.size (some ⟨p, 0, none⟩) N At X ∧ (∀ D ∈ Ds, X.heap[D]? = some (.deferred (some []))) ∧ X.heap[Wr.heap.size]? = some (.cells #[.int .i64 (i : Int)] 3 (0, 0)))
      (fun c pre X => (c = .ret ∧ ∃ q, q <+: pairsL N At ∧ Jx q X) ∧ ∀ D ∈ Ds, X.heap[D]? = some (.deferred (some [])))
      (fun s A B row hs hg hr => ⟨hJ _ A B row hs.1 hg (fun r e => ⟨by have := (hr r e).1; omega, (hr r e).2⟩), hs.2.1.own hg (fun r e => (hr r e).2) (fun r e => by have := (hr r e).1; omega), fun D hD => (hg.block D (Array.getElem?_eq_some_iff.1 (hs.2.2.1 D hD)).1 (fun e => by have := (hr D e.symm).1; have := hDs D hD; omega)).trans (hs.2.2.1 D hD), (grownBy_keeps_cells hg (fun r e => (hr r e).2) hs.2.2.2 rfl).trans hs.2.2.2⟩)
      (fun c s A B row ⟨⟨e1, q, hq, hx⟩, hD⟩ hg hr => ⟨⟨e1, q, hq, hJx _ A B row hx hg (fun r e => ⟨by have := (hr r e).1; omega, (hr r e).2⟩)⟩, fun D hD' => (hg.block D (Array.getElem?_eq_some_iff.1 (hD D hD')).1 (fun e => by have := (hr D e.symm).1; have := hDs D hD'; omega)).trans (hD D hD')⟩)
      ⟨by simpa using HJ3.out, hP3.out, fun D hD => (HM3.out.2 D hD).2, hb3⟩
      (fun x a' _ => a' = { tmps := #[.func (.yield l) #[] #[], .pointer (some ⟨Br, 0, none⟩), .pointer (some ⟨W.heap.size, 0, none⟩), .pointer (some ⟨Wr.heap.size, 0, none⟩), .int .i64 (x : Int), .pointer (some ⟨p, 0, none⟩), .int .i64 (N : Int), .int .i64 (i : Int), .bool true, .int .i64 (i : Int), .pointer (some ⟨p, 0, none⟩), .pointer (some ⟨p, 0, none⟩), .pointer (some ⟨p, 0, none⟩), .slice (some ad) N cap, .int .i64 (i : Int), .pointer (some (ad.add i)), .slice (some ⟨gi, 0, none⟩) ws.length ci, .func (.func 59) #[] #[.pointer (some ⟨W2.heap.size, 0, none⟩)], .int .i64 (x : Int), undef, undef, undef, undef, undef, u24], defers := [] })
      (fun _ _ _ _ _ _ hs _ _ => hs)
      ?assign ?body ?done ?stop
    case assign =>
      intro l2 pre x X K hI hK
      gi_wp2
      exact hK _ _ (KeepsFrom.refl _ _) (Below.refl _ _) hI rfl
    case body =>
      rintro l2 pre x a' X hl ⟨r, hr⟩ ⟨hJX, hPX, hDX, hbX⟩ rfl ⟨q, hq⟩
      have cy : X.cell? ⟨W.heap.size, 0, none⟩ = _ := (blk_cell hPX.yld 0).trans rfl
      have ca : X.cell? ⟨Wr.heap.size, 0, none⟩ = _ := (blk_cell hbX 0).trans rfl
      obtain ⟨fn, tmps, assign, body, hy, hRd⟩ := HY.out _ (i, x) X hJX (pairs_mid hlt hq)
      dsimp only at hy
      gi_wp2
      refine ⟨fun h => (by cases h), RoundIn.mono (F := Fence.wide.inRound l2) (round_depth (F := Fence.wide) rfl hRd) ?_⟩
      rintro e X2 ⟨hkf, ⟨rfl, hJ3, hq3⟩ | ⟨rfl, hJx3⟩⟩
      · have hp3 : (pairsU At i ++ pre.map fun b => (i, b)) ++ [(i, x)] = pairsU At i ++ (pre ++ [x]).map fun b => (i, b) := by simp
        rw [hp3] at hJ3
        gi_wp2
        exact ⟨KeepsFrom.up hkf (by rw [← HW.out]; omega), hq3.below, hJ3, hPX.quiet hq3 hhi h01 hBr hsum.2.2.2.2.2.2.1, fun D hD => hkf.same D _ (by have := (HM3.out.2 D hD).1; rw [← HW.out]; exact this) (hDX D hD) rfl, hq3.box _ _ _ hsum.2.2.2.2.2.2.2 hbX (.inl rfl)⟩
      · have hp3 : (pairsU At i ++ pre.map fun b => (i, b)) ++ [(i, x)] <+: pairsL N At := by
          obtain ⟨q', hq'⟩ := pairs_mid hlt hq
          exact ⟨q', by rw [← hq']; simp⟩
        gi_wp2
        exact ⟨KeepsFrom.up hkf (by rw [← HW.out]; omega), ⟨rfl, _, hp3, hJx3⟩, fun D hD => hkf.same D _ (by have := (HM3.out.2 D hD).1; rw [← HW.out]; exact this) (hDX D hD) rfl⟩
    case done =>
      rintro D X hD ⟨hJX, hPX, hDX, hbX⟩ hdd
      have hMX : Marks W.heap.size (D :: Ds) X := Marks.cons ⟨HM3.out.1, fun E hE => ⟨(HM3.out.2 E hE).1, hDX E hE⟩⟩ (by omega) (fun hin => by have := hDs D hin; omega) hdd
      have hJ3 : J (pairsU At (i + 1)) X := by rw [pairsU_succ]; exact hJX
      gi_wp2
      refine ⟨⟨i + 1, _, _, _, _, _, _, _, _, _, _, _, _, D :: Ds, rfl, hlt, ⟨hJ3⟩, ⟨hPX⟩, ⟨hMX⟩⟩, ?_⟩
      show N - ((i : Int) + 1).toNat < N - ((i : Int)).toNat
      clear hJ3 hMX
      omega
    case stop =>
      rintro D c pre X hD hpre ⟨⟨rfl, q, hq, hx⟩, hDX⟩ hdd
      have hMX : Marks W.heap.size (D :: Ds) X := Marks.cons ⟨HM3.out.1, fun E hE => ⟨(HM3.out.2 E hE).1, hDX E hE⟩⟩ (by omega) (fun hin => by have := hDs D hin; omega) hdd
      gi_wp2
      exact leaves_marks (B := W.heap.size) (fun Y => ∃ q, q <+: pairsL N At ∧ Jx q Y) (fun Y E hE hd ⟨q, hq, hx⟩ => ⟨q, hq, OwnFrom.putObj hJx _ hx hE hd rfl⟩) (fun Y ⟨q, hq, hx⟩ => ⟨_, results_none rfl _ _ _, ⟨_, rfl⟩, .inr ⟨q, hq, hx⟩⟩) (D :: Ds) X hMX ⟨q, hq, hx⟩
  · obtain rfl : i = N := by omega
    gi_wp2
    exact leaves_marks (B := W.heap.size) (fun Y => J (pairsL i At) Y) (fun Y E hE hd hx => OwnFrom.putObj hJ _ hx hE hd rfl) (fun Y hx => ⟨_, results_none rfl _ _ _, ⟨_, rfl⟩, .inl hx⟩) Ds Wr HM.out HJ.out
end Go.Proofs.YtoieemaheadjdaaDoor.PRel
