/- A relation the other way round, and the pairs of a relation as a list. Written by an AI agent in this seat's session; checked by Lean alone. No axiom, no sorry. -/
import Derived.Test.YtoieemaheadjdaaDoorRelP
import Derived.RangeFuncNested
import Derived.RangeFuncLeaves
import Derived.Shelf.Abstract
import Derived.Shelf.RegionOpen
import Derived.WalkKit
import Derived.OwnWalkIn
import Derived.TacticsInMore
import Derived.LoopNIn
import Derived.LoopIn
import Derived.Lib.TrailingZeros
import Derived.Test.YtoieemaheadjdaaDoorRbg
namespace Go.Proofs.YtoieemaheadjdaaDoor.PRel
open Go.RowKit Go.Proofs.YtoieemaheadjdaaDoorW.PrintWords Go.Proofs.YtoieemaheadjdaaDoorW.PrintLast Go.Proofs.YtoieemaheadjdaaDoorW.PrintMore Go.Proofs.YtoieemaheadjdaaDoor.PRelOrders
set_option linter.unusedVariables false
set_option linter.unusedSimpArgs false
attribute [local go_sem] Oper.semAt_some
theorem clamp_id {N : Nat} (h : N ≤ 512) : clampN (N : Int) = N := by unfold clampN; split <;> (try split) <;> omega
theorem Only.quiet {lo hi n₁ n₂ : Nat} {A B : World} (h : Only lo hi A B) (h1 : n₁ ≤ lo) (h2 : hi ≤ n₂) (hs : n₁ ≤ A.heap.size) : Quiet n₁ n₂ A B := ⟨h.below (Below.refl _ _) h1 hs, fun k cs t hk ho _ => h.blk ho (by omega)⟩
theorem Only.keeps {lo hi B : Nat} {X Y : World} (h : Only lo hi X Y) (hB : hi ≤ B) : KeepsFrom B X Y := ⟨h.size, fun k o hk ho _ => h.blk ho (by omega)⟩
theorem RelW.own {lo hi p N : Nat} {At : List (List Bool)} {W W' : World} {row : Option Nat} (h : RelW W lo hi p N At) (hg : W.grownBy W' row) (hh : ∀ r, row = some r → hi ≤ r) : RelW W' lo hi p N At := h.keep fun k _ h2 h3 => hg.block k h3 (fun e => by have := hh k e.symm; omega)
theorem addAll_snoc (N : Nat) (ps : List (Nat × Nat)) (p : Nat × Nat) (T : List (List Bool)) : addAll N (ps ++ [p]) T = addR N (addAll N ps T) (p.1 : Int) (p.2 : Int) := by unfold addAll; rw [List.foldl_append]; rfl
def swapP (q : Nat × Nat) : Nat × Nat := (q.2, q.1)
def turnedT (N : Nat) (At : List (List Bool)) : List (List Bool) := addAll N ((pairsL N At).map swapP) (tab0 N)
theorem add_walkW {lo hi p N : Nat} {At : List (List Bool)} (a b : Nat) (w : World) (hR : RelW w lo hi p N At) :
    Calls Tryd.prog 33 #[.pointer (some ⟨p, 0, none⟩), .int .i64 (a : Int), .int .i64 (b : Int)] w fun e w' => e = .returned (.bool (mayB N (a : Int) && mayB N (b : Int))) ∧ RelW w' lo hi p N (addR N At (a : Int) (b : Int)) ∧ Only lo hi w w' := by
  refine (add_walk (a : Int) (b : Int) w (.inr ⟨p, rfl, hR⟩)).mono ?_
  rintro e w' ⟨rfl, h1 | ⟨q, e, h1⟩, h2⟩
  · cases h1.1
  · cases e; exact ⟨rfl, h1, h2⟩
set_option maxRecDepth 100000 in
set_option maxHeartbeats 4000000 in
theorem turned_walk {lo hi N : Nat} {pv : Option Addr} {At : List (List Bool)} (w : World) (hR : RelV w lo hi pv N At) (hhi : hi ≤ w.heap.size) (hG : TabLaid w) :
    Calls Tryd.prog 24 #[.pointer pv] w fun e w' => ∃ p h, e = .returned (.pointer (some ⟨p, 0, none⟩)) ∧ RelW w' w.heap.size h p N (turnedT N At) ∧ h ≤ w'.heap.size ∧ Below w.heap.size w w' := by
  have hN := hR.shape.2
  have HR := Aside0.mk hR
  have HG := Aside0.mk hG
  have hnw := new_walk (N : Int) w
  rw [clamp_id hN] at hnw
  have HN := Aside0.mk hnw
  clear hR hG hnw
  refine (callsIn_wide (n := 0)).1 (callsIn_of_wp_marks Tryd.func24 rfl trivial ?_ rfl)
  simp only [Tryd.ntmps24, List.size_toArray, List.length_cons, List.length_nil, Nat.reduceAdd, Nat.reduceSub, Array.replicate_succ, Array.replicate_zero, List.push_toArray, List.append_toArray, List.nil_append, List.cons_append]
  gi_wp2_with (first | (refine ⟨trivial, rfl, ?_⟩; gi_at_call 13; refine (callsIn_wide.2 (len_walk _ HR.out)).mono ?_; rintro e w1 ⟨rfl, hw_⟩; subst w1) | (refine ⟨trivial, rfl, ?_⟩; gi_at_call 12; refine (callsIn_wide.2 HN.out).mono ?_; rintro e Wn ⟨p, rfl, hrn, hbn⟩; have HRN := Aside0.mk hrn; have HBN := Aside0.mk hbn; clear hrn hbn) | (refine ⟨trivial, rfl, ?_⟩; gi_at_call 43; refine (pairs_walk Fence.wide _ trivial rfl _ _).mono ?_; rintro e w1 ⟨rfl, hw_⟩; subst w1))
  have hb1 := below_alloc (Below.refl Wn.heap.size Wn) (.cells #[.pointer (some ⟨p, 0, none⟩)] 25)
  have hb2 := below_alloc hb1 (.cells #[.pointer pv] 25)
  have hx1 := blk_alloc (World.alloc_heap_new Wn (.cells #[.pointer (some ⟨p, 0, none⟩)] 25)) (.cells #[.pointer pv] 25)
  have hx2 := World.alloc_heap_new (Wn.alloc (.cells #[.pointer (some ⟨p, 0, none⟩)] 25)) (.cells #[.pointer pv] 25)
  have hsz : ((Wn.alloc (.cells #[.pointer (some ⟨p, 0, none⟩)] 25)).alloc (.cells #[.pointer pv] 25)).heap.size = Wn.heap.size + 2 := by simp
  rw [World.size_alloc] at hx2
  have hwn := HBN.out.size
  have hBV := HBN.out.trans (hb2.mono hwn)
  have HX := Aside0.mk (And.intro (HRN.out.grow hb2) (And.intro hx1 (And.intro hx2 (And.intro hBV hsz))))
  clear hb1 hb2 hx1 hx2 hsz hBV
  generalize (Wn.alloc (.cells #[.pointer (some ⟨p, 0, none⟩)] 25)).alloc (.cells #[.pointer pv] 25) = V at HX ⊢
  obtain ⟨hrV, hx1, hx2, hBV, hsz⟩ := HX.out
  clear HX
  have h0w : 0 < w.heap.size := HG.out.lt
  have hit := pairs_iter 0 w.heap.size (Wn.heap.size + 1) (Wn.heap.size + 1) V (HR.out.below hBV hhi) hhi (by omega) (Nat.le_refl _) hx2 (HG.out.below h0w hBV) h0w
  refine wp_iter (encs := fun q : Nat × Nat => #[.int .i64 (q.1 : Int), .int .i64 (q.2 : Int)]) (Kp := Quiet w.heap.size (Wn.heap.size + 1)) rfl (enters_of Tryd.func58 (by kernel_rfl) rfl) hit Quiet.trans (fun X o o' ho hc => Quiet.put o' (by omega) ho hc) (fun _ => rfl)
    (fun pre X => RelW X w.heap.size Wn.heap.size p N (addAll N (pre.map swapP) (tab0 N)) ∧ X.heap[Wn.heap.size]? = some (.cells #[.pointer (some ⟨p, 0, none⟩)] 25 (0, 0)) ∧ Below w.heap.size w X) (fun _ _ _ => False)
    (fun s A B row hs hg hr => ⟨hs.1.own hg (fun r e => by have := (hr r e).1; omega), (grownBy_keeps_cells hg (fun r e => (hr r e).2) hs.2.1 rfl).trans hs.2.1, hs.2.2.grown hg hs.2.2.size (fun k e => by have := (hr k e).1; omega)⟩)
    (fun _ _ _ _ _ hs _ _ => hs) ⟨hrV, hx1, hBV⟩
    (fun x a' _ => a' = { tmps := #[.pointer pv, undef, .pointer none, .pointer (some ⟨Wn.heap.size, 0, none⟩), .int .i64 (x.1 : Int), .int .i64 (x.2 : Int), .pointer pv, .int .i64 (N : Int), .pointer (some ⟨p, 0, none⟩), .pointer pv, .func (.func 58) #[] #[.pointer (some ⟨Wn.heap.size + 1, 0, none⟩)], .int .i64 (x.1 : Int), .int .i64 (x.2 : Int), undef, undef, undef, undef, undef], defers := [] })
    (fun _ _ _ _ _ _ hs _ _ => hs)
    ?assign ?body ?done ?stop
  case assign =>
    intro l2 pre x X K hI hK
    gi_wp2
    exact hK _ _ (KeepsFrom.refl _ _) (Quiet.refl _ _ _) hI rfl
  case body =>
    rintro l2 pre x a' X hl ⟨r, hr⟩ ⟨hrX, hxX, hBX⟩ rfl ⟨q, hq⟩
    have cx : X.cell? ⟨Wn.heap.size, 0, none⟩ = _ := (blk_cell hxX 0).trans rfl
    have HA := Aside0.mk (add_walkW x.2 x.1 X hrX)
    have HRX := Aside0.mk (And.intro hxX hBX)
    clear hrX hxX hBX
    gi_wp2_with (first | (refine ⟨trivial, rfl, ?_⟩; gi_at_call 33; refine (CallsIn.inRound l2 (callsIn_wide.2 HA.out)).mono ?_; rintro e w1 ⟨rfl, hr1, ho1⟩; have HO := Aside0.mk (And.intro hr1 ho1); clear hr1 ho1))
    exact ⟨HO.out.2.keeps (by omega), HO.out.2.quiet (Nat.le_refl _) (by omega) (by have := HRX.out.2.size; omega), by rw [List.map_append, List.map_cons, List.map_nil, addAll_snoc]; exact HO.out.1, HO.out.2.blk HRX.out.1 (by omega), HO.out.2.below HRX.out.2 (Nat.le_refl _) HRX.out.2.size⟩
  case done =>
    rintro D X hD ⟨hrX, hxX, hBX⟩ hdd
    have cx : X.cell? ⟨Wn.heap.size, 0, none⟩ = _ := (blk_cell hxX 0).trans rfl
    gi_wp2
    exact leaves_marks (B := V.heap.size) (fun Y => RelW Y w.heap.size Wn.heap.size p N (turnedT N At) ∧ Wn.heap.size ≤ Y.heap.size ∧ Below w.heap.size w Y) (fun Y E hE hd ⟨h1, h2, h3⟩ => ⟨h1.own (grownBy_putObj' Y E _) (fun r e => by cases e; omega), by simpa using h2, h3.grown (grownBy_putObj' Y E _) h3.size (fun k e => by cases e; omega)⟩) (fun Y ⟨h1, h2, h3⟩ => ⟨_, results_tmp rfl _ _ _, p, _, rfl, h1, h2, h3⟩) [D] X (Marks.cons (Marks.nil _ _) hD (by simp) hdd) ⟨hrX, by have := (Array.getElem?_eq_some_iff.1 hxX).1; omega, hBX⟩
  case stop =>
    rintro D c pre X hD hpre h hdd
    exact h.elim
end Go.Proofs.YtoieemaheadjdaaDoor.PRel
