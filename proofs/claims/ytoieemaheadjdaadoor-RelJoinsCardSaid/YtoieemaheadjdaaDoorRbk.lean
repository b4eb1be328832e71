/- The pairs that lead over two relations. Written by an AI agent in this seat's session; checked by Lean alone. No axiom, no sorry. -/
import Derived.Test.YtoieemaheadjdaaDoorRelP
import Derived.RangeFuncNested
import Derived.RangeFuncLeaves
import Derived.Shelf.Abstract
import Derived.Shelf.RegionOpen
import Derived.WalkKit
import Derived.OwnWalkIn
import Derived.TacticsInMore
import Derived.LoopNIn
import Derived.LoopIn
import Derived.Lib.TrailingZeros
import Derived.Maps.AppendAt
import Derived.Maps.OwnIn
import Derived.Test.YtoieemaheadjdaaDoorRbj
namespace Go.Proofs.YtoieemaheadjdaaDoor.PRel
open Go.RowKit Go.Proofs.YtoieemaheadjdaaDoorW.PrintWords Go.Proofs.YtoieemaheadjdaaDoorW.PrintLast Go.Proofs.YtoieemaheadjdaaDoorW.PrintMore Go.Proofs.YtoieemaheadjdaaDoor.PRelOrders
set_option linter.unusedVariables false
set_option linter.unusedSimpArgs false
attribute [local go_sem] Oper.semAt_some
theorem Quiet.own {n₁ n₂ : Nat} {X Y Z : World} {row : Option Nat} (h : Quiet n₁ n₂ X Y) (hg : Y.grownBy Z row) (hr : ∀ r, row = some r → X.heap.size ≤ r) (hs : n₁ ≤ X.heap.size) : Quiet n₁ n₂ X Z :=
  ⟨h.below.grown hg (Nat.le_trans hs h.below.size) (fun k e => Nat.le_trans hs (hr k e)), fun k cs t hk ho ht => by
    have h1 := h.box k cs t hk ho ht
    exact (hg.block k (Array.getElem?_eq_some_iff.1 h1).1 (fun e => by have := hr k e.symm; have := (Array.getElem?_eq_some_iff.1 ho).1; omega)).trans h1⟩
theorem keeps_own {B : Nat} {X Y Z : World} {row : Option Nat} (h : KeepsFrom B X Y) (hg : Y.grownBy Z row) (hr : ∀ r, row = some r → X.heap.size ≤ r) : KeepsFrom B X Z :=
  ⟨Nat.le_trans h.size hg.size, fun k o hk ho hc => by
    have h1 := h.same k o hk ho hc
    exact (hg.block k (Array.getElem?_eq_some_iff.1 h1).1 (fun e => by have := hr k e.symm; have := (Array.getElem?_eq_some_iff.1 ho).1; omega)).trans h1⟩
def overL (Bt : List (List Bool)) (q : Nat × Nat) : List (Nat × Nat) := (trues (Bt.getD q.2 [])).map fun c => (q.1, c)
def afterT (N : Nat) (At : List (List Bool)) (Bt : List (List Bool)) : List (List Bool) := addAll N ((pairsL N At).flatMap (overL Bt)) (tab0 N)
theorem addAll_app (N : Nat) (ps qs : List (Nat × Nat)) (T : List (List Bool)) : addAll N (ps ++ qs) T = addAll N qs (addAll N ps T) := by unfold addAll; rw [List.foldl_append]
theorem overL_none {M : Nat} {Bt : List (List Bool)} (h : Shape M Bt) {q : Nat × Nat} (hq : ¬ q.2 < M) : overL Bt q = [] := by
  unfold overL
  rw [show Bt.getD q.2 [] = [] by simp [List.getD_eq_getElem?_getD, List.getElem?_eq_none (show Bt.length ≤ q.2 by rw [h.len]; omega)]]
  rfl
theorem RelW.lower {w : World} {lo lo' hi p N : Nat} {At : List (List Bool)} (h : RelW w lo hi p N At) (hl : lo' ≤ lo) : RelW w lo' hi p N At := by
  obtain ⟨v, wss, h1, h2, h3, h4⟩ := h
  exact ⟨v, wss, h1, Kd.S_lower h2 hl, ⟨Nat.le_trans hl h3.1, h3.2⟩, h4⟩
set_option maxRecDepth 100000 in
set_option maxHeartbeats 4000000 in
theorem after_walk {lo hi N lo' hi' M : Nat} {pv qv : Option Addr} {At Bt : List (List Bool)} (w : World) (hR : RelV w lo hi pv N At) (hhi : hi ≤ w.heap.size) (hS : RelV w lo' hi' qv M Bt) (hhi' : hi' ≤ w.heap.size) (hG : TabLaid w) :
    Calls Tryd.prog 25 #[.pointer pv, .pointer qv] w fun e w' => ∃ p h, e = .returned (.pointer (some ⟨p, 0, none⟩)) ∧ RelW w' w.heap.size h p N (afterT N At Bt) ∧ h ≤ w'.heap.size ∧ Below w.heap.size w w' := by
  have hN := hR.shape.2
  have hsM := hS.shape
  have h0w : 0 < w.heap.size := hG.lt
  have hba := below_alloc (Below.refl w.heap.size w) (.cells #[.pointer qv] 25)
  have HR := Aside0.mk hR
  have HS := Aside0.mk hS
  have HG := Aside0.mk hG
  have hs0 := World.alloc_heap_new w (.cells #[.pointer qv] 25)
  obtain ⟨W0, hW0⟩ : ∃ W0, w.alloc (.cells #[.pointer qv] 25) = W0 := ⟨_, rfl⟩
  have hsz0 : W0.heap.size = w.heap.size + 1 := by rw [← hW0]; simp
  rw [hW0] at hba hs0
  have hRW := hR.below hba hhi
  have hnw := new_walk (N : Int) W0
  rw [clamp_id hN] at hnw
  have HN := Aside0.mk (And.intro hnw (And.intro hRW (And.intro hba (And.intro hs0 hsz0))))
  clear hR hS hG hnw hRW hba hs0 hsz0
  obtain ⟨n, hn⟩ : ∃ n : Nat, 5 ≤ n := ⟨5, Nat.le_refl _⟩
  refine (callsIn_wide (n := n)).1 (callsIn_of_wp_marks Tryd.func25 rfl trivial ?_ rfl)
  simp only [Tryd.ntmps25, List.size_toArray, List.length_cons, List.length_nil, Nat.reduceAdd, Nat.reduceSub, Array.replicate_succ, Array.replicate_zero, List.push_toArray, List.append_toArray, List.nil_append, List.cons_append]
  gi_wp2_with (first | rw [hW0] | (refine ⟨trivial, fun h => (by cases h), ?_⟩; gi_at_call 13; refine (callsIn_wide.2 (len_walk _ HN.out.2.1)).mono ?_; rintro e w1 ⟨rfl, hw_⟩; subst w1) | (refine ⟨trivial, fun h => (by cases h), ?_⟩; gi_at_call 12; refine (callsIn_wide.2 HN.out.1).mono ?_; rintro e Wn ⟨p, rfl, hrn, hbn⟩; have HRN := Aside0.mk hrn; have HBN := Aside0.mk hbn; clear hrn hbn) | (refine ⟨trivial, fun h => (by cases h), ?_⟩; gi_at_call 43; refine (pairs_walk Fence.wide _ trivial rfl _ _).mono ?_; rintro e w1 ⟨rfl, hw_⟩; subst w1))
  have hb1 := below_alloc (Below.refl Wn.heap.size Wn) (.cells #[.pointer (some ⟨p, 0, none⟩)] 25)
  have hb2 := below_alloc hb1 (.cells #[.pointer pv] 25)
  have hx1 := blk_alloc (World.alloc_heap_new Wn (.cells #[.pointer (some ⟨p, 0, none⟩)] 25)) (.cells #[.pointer pv] 25)
  have hx2 := World.alloc_heap_new (Wn.alloc (.cells #[.pointer (some ⟨p, 0, none⟩)] 25)) (.cells #[.pointer pv] 25)
  have hsz : ((Wn.alloc (.cells #[.pointer (some ⟨p, 0, none⟩)] 25)).alloc (.cells #[.pointer pv] 25)).heap.size = Wn.heap.size + 2 := by simp
  rw [World.size_alloc] at hx2
  obtain ⟨_, _, hba, hs0, hsz0⟩ := HN.out
  have hwn := HBN.out.size
  have hBV := hba.trans ((HBN.out.trans (hb2.mono hwn)).mono (by omega))
  have HX := Aside0.mk (And.intro (HRN.out.grow hb2) (And.intro hx1 (And.intro hx2 (And.intro hBV (And.intro hsz (And.intro (blk_below (blk_below hs0 HBN.out) hb2) hsz0))))))
  clear hb1 hb2 hx1 hx2 hsz hBV hba hs0 hsz0 hwn HN
  have HWN := Aside0.mk HBN.out.size
  generalize (Wn.alloc (.cells #[.pointer (some ⟨p, 0, none⟩)] 25)).alloc (.cells #[.pointer pv] 25) = V at HX ⊢
  obtain ⟨hrV, hx1, hx2, hBV, hsz, hsb, hsz0⟩ := HX.out
  clear HX
  have hwn := HWN.out
  have hit := pairs_iter n w.heap.size (Wn.heap.size + 1) (Wn.heap.size + 1) V (HR.out.below hBV hhi) hhi (by omega) (Nat.le_refl _) hx2 (HG.out.below h0w hBV) h0w
  refine wp_iter (encs := fun q : Nat × Nat => #[.int .i64 (q.1 : Int), .int .i64 (q.2 : Int)]) (Kp := Quiet w.heap.size (Wn.heap.size + 1)) rfl (enters_of Tryd.func58 (by kernel_rfl) rfl) hit Quiet.trans (fun X o o' ho hc => Quiet.put o' (by omega) ho hc) (fun _ => rfl)
    (fun pre X => (RelW X W0.heap.size Wn.heap.size p N (addAll N (pre.flatMap (overL Bt)) (tab0 N)) ∧ X.heap[Wn.heap.size]? = some (.cells #[.pointer (some ⟨p, 0, none⟩)] 25 (0, 0)) ∧ X.heap[w.heap.size]? = some (.cells #[.pointer qv] 25 (0, 0)) ∧ V.heap.size ≤ X.heap.size) ∧ Below w.heap.size w X) (fun _ _ _ => False)
    (fun s A B row ⟨⟨h1, h2, h3, h5⟩, h4⟩ hg hr => ⟨⟨h1.own hg (fun r e => by have := (hr r e).1; omega), (grownBy_keeps_cells hg (fun r e => (hr r e).2) h2 rfl).trans h2, (grownBy_keeps_cells hg (fun r e => (hr r e).2) h3 rfl).trans h3, Nat.le_trans h5 hg.size⟩, h4.grown hg h4.size (fun k e => by have := (hr k e).1; omega)⟩)
    (fun _ _ _ _ _ hs _ _ => hs) ⟨⟨hrV, hx1, hsb, Nat.le_refl _⟩, hBV⟩
    (fun x a' X => ∃ Bx, Wn.heap.size + 1 < Bx ∧ X.heap[Bx]? = some (.cells #[.int .i64 (x.1 : Int)] 3 (0, 0)) ∧ a' = { tmps := #[.pointer pv, .pointer qv, undef, .pointer (some ⟨w.heap.size, 0, none⟩), .pointer none, .pointer (some ⟨Wn.heap.size, 0, none⟩), .pointer (some ⟨Bx, 0, none⟩), .int .i64 (x.2 : Int), undef, .pointer pv, .int .i64 (N : Int), .pointer (some ⟨p, 0, none⟩), .pointer pv, .func (.func 58) #[] #[.pointer (some ⟨Wn.heap.size + 1, 0, none⟩)], .int .i64 (x.1 : Int), .int .i64 (x.2 : Int), undef, undef, undef, undef, undef, undef, undef, undef, undef, undef, undef, undef, undef, undef, undef, undef, undef, undef], defers := [] })
    (fun x a' _ A B row ⟨Bx, h1, h2, h3⟩ hg hr => ⟨Bx, h1, (grownBy_keeps_cells hg (fun r e => (hr r e).2) h2 rfl).trans h2, h3⟩)
    ?assign ?body ?done ?stop
  case assign =>
    rintro l2 pre x X K ⟨⟨h1, h2, h3, h5⟩, h4⟩ hK
    have hba := below_alloc (Below.refl X.heap.size X) (.cells #[.int .i64 (x.1 : Int)] 3)
    have hlt := blk_lt h2
    clear hsz0
    gi_wp2
    exact hK _ _ ((KeepsOthers.alloc _ _).from _) (Quiet.of_below hba h4.size) ⟨⟨h1.grow hba, blk_below h2 hba, blk_below h3 hba, Nat.le_trans h5 hba.size⟩, h4.trans (hba.mono h4.size)⟩ ⟨X.heap.size, by omega, World.alloc_heap_new X _, rfl⟩
  case body =>
    rintro l2 pre x a' X hl ⟨r, hr⟩ ⟨⟨hrX, hxX, hsX, hvX⟩, hBX⟩ ⟨Bx, hBx, hbX, rfl⟩ ⟨q, hq⟩
    have cs : X.cell? ⟨w.heap.size, 0, none⟩ = _ := (blk_cell hsX 0).trans rfl
    have hSX := HS.out.below hBX hhi'
    have hm := may_walk (x.2 : Int) X hSX
    have HM := Aside0.mk hm
    clear hm
    have HX := Aside0.mk (And.intro hrX (And.intro hxX (And.intro hsX (And.intro hBX (And.intro hbX (And.intro hsz0 hsz))))))
    clear hrX hxX hsX hbX hsz0 hsz
    by_cases hxM : x.2 < M
    · have hmt : mayB M (x.2 : Int) = true := by simp [mayB, hxM]
      rw [hmt] at HM
      rcases hSX with ⟨_, hM0, _⟩ | ⟨sp, hqv, hsp⟩
      · omega
      subst hqv
      obtain ⟨ad, cap, gi, ci, ws, hc0, hc1, hWd, hcw, hgi⟩ := relw_row hsp hxM
      have HWS := Aside0.mk (And.intro hWd (And.intro hcw hgi))
      have hxz : (x.2 : Int) < (M : Int) := by omega
      clear hWd hcw hgi hsp
      gi_wp2_with (first | (refine ⟨trivial, fun h => (by cases h), ?_⟩; gi_at_call 44; refine (CallsIn.inRound l2 (callsIn_wide.2 HM.out)).mono ?_; rintro e w1 ⟨rfl, hw_⟩; subst w1) | (refine ⟨trivial, fun h => (by cases h), ?_⟩; gi_at_call 47; refine (CallsIn.inRound l2 (all_walk Fence.wide _ trivial rfl _ _ _ _)).mono ?_; rintro e w1 ⟨rfl, hw_⟩; subst w1))
      obtain ⟨hrX, hxX, hsX, _, hbX, hsz0, hsz⟩ := HX.out
      have hal := below_alloc (Below.refl X.heap.size X) (.cells #[.slice (some ⟨gi, 0, none⟩) ws.length ci] 77)
      have hb4 := World.alloc_heap_new X (.cells #[.slice (some ⟨gi, 0, none⟩) ws.length ci] 77)
      have hszX : (X.alloc (.cells #[.slice (some ⟨gi, 0, none⟩) ws.length ci] 77)).heap.size = X.heap.size + 1 := by simp
      obtain ⟨Y0, hY0⟩ : ∃ Y0, X.alloc (.cells #[.slice (some ⟨gi, 0, none⟩) ws.length ci] 77) = Y0 := ⟨_, rfl⟩
      rw [hY0] at hal hb4 hszX ⊢
      have hr' : Y0.heap[l2]? = some (.loop r) := (hal.block l2 (Array.getElem?_eq_some_iff.1 hr).1).trans hr
      have hlen8 : ws.length ≤ 8 := by have h1 := HWS.out.1.len; have h2 := hsM.1.row x.2 hxM; have := hsM.2; omega
      have hseq : SeqStopsK (Fence.wide.inRound l2) (n - 1) Tryd.prog 59 #[.pointer (some ⟨X.heap.size, 0, none⟩)] (fun b : Nat => #[.int .i64 (b : Int)]) (Below w.heap.size) (fun ys => ys = trues (Bt.getD x.2 [])) (fun pre => pre <+: trues (Bt.getD x.2 [])) (trues (Bt.getD x.2 [])).length Y0 :=
        SeqStopsK.inRound l2 (fun l' J Jx W' hB' _ _ hY' h0' => (callsIn_wide.2 (callsIn_wide.1 (all_any (n - 1 - 1) X.heap.size w.heap.size gi ci ws _ Y0 (Below w.heap.size) (fun _ _ h => h) HWS.out.1 hlen8 ((blk_cell hb4 0).trans rfl) (fun j hj => (hal.cell (World.block_lt_of_cell? X _ (HWS.out.2.1 j hj))).trans (HWS.out.2.1 j hj)) (by have := HWS.out.2.2; omega) (by have := hBX.size; omega) ((HG.out.below h0w hBX).below (HG.out.below h0w hBX).lt hal) h0w l' J Jx W' hB' (fun pre y W1 hj ⟨q, hq⟩ => hY' pre y W1 hj (by rw [← hq]; simp)) h0'))).mono fun e W2 ⟨h1, h2⟩ => ⟨h1, h2.imp (fun h => ⟨_, rfl, h⟩) id⟩)
      clear hW0
      refine wpIn_rangeFunc_ownN (l₀ := l2) (r₀ := r) rfl hr' (by omega) (gf := 59) (lb := #[.pointer (some ⟨X.heap.size, 0, none⟩)]) rfl trivial (enters_of Tryd.func59 (by kernel_rfl) rfl) hseq belowK_t (belowK_b (by have := hBX.size; omega)) (Below.refl _ _) (fun _ => rfl)
        (fun pre' Z => ((RelW Z W0.heap.size Wn.heap.size p N (addAll N (pre.flatMap (overL Bt) ++ pre'.map fun c => (x.1, c)) (tab0 N)) ∧ Z.heap[Wn.heap.size]? = some (.cells #[.pointer (some ⟨p, 0, none⟩)] 25 (0, 0)) ∧ Z.heap[w.heap.size]? = some (.cells #[.pointer (some ⟨sp, 0, none⟩)] 25 (0, 0)) ∧ Z.heap[Bx]? = some (.cells #[.int .i64 (x.1 : Int)] 3 (0, 0))) ∧ Below w.heap.size w Z) ∧ (KeepsFrom V.heap.size X Z ∧ Quiet w.heap.size (Wn.heap.size + 1) X Z)) (fun _ _ _ => False)
        (fun s A B row ⟨⟨⟨h1, h2, h3, h4⟩, h5⟩, h6, h7⟩ hg hr => ⟨⟨⟨h1.own hg (fun r e => by have := (hr r e).1; omega), (grownBy_keeps_cells hg (fun r e => (hr r e).2) h2 rfl).trans h2, (grownBy_keeps_cells hg (fun r e => (hr r e).2) h3 rfl).trans h3, (grownBy_keeps_cells hg (fun r e => (hr r e).2) h4 rfl).trans h4⟩, h5.grown hg h5.size (fun k e => by have := (hr k e).1; have := hBX.size; omega)⟩, keeps_own h6 hg (fun r e => by have := (hr r e).1; omega), h7.own hg (fun r e => by have := (hr r e).1; omega) hBX.size⟩)
        (fun _ _ _ _ _ hs _ _ => hs) ⟨⟨⟨by simpa using hrX.grow hal, blk_below hxX hal, blk_below hsX hal, blk_below hbX hal⟩, hBX.trans (hal.mono hBX.size)⟩, keeps_grown (row := none) (by rw [← hY0]; exact World.grownBy_alloc X _ none) (fun k e => by cases e), Quiet.of_below hal hBX.size⟩
        (fun y a'' _ => a'' = { tmps := #[.pointer pv, .pointer (some ⟨sp, 0, none⟩), undef, .pointer (some ⟨w.heap.size, 0, none⟩), .pointer none, .pointer (some ⟨Wn.heap.size, 0, none⟩), .pointer (some ⟨Bx, 0, none⟩), .int .i64 (x.2 : Int), .int .i64 (y : Int), .pointer pv, .int .i64 (N : Int), .pointer (some ⟨p, 0, none⟩), .pointer pv, .func (.func 58) #[] #[.pointer (some ⟨Wn.heap.size + 1, 0, none⟩)], .int .i64 (x.1 : Int), .int .i64 (x.2 : Int), .pointer (some ⟨sp, 0, none⟩), .int .i64 (x.2 : Int), .bool true, .bool false, .pointer (some ⟨sp, 0, none⟩), .pointer (some ⟨sp, 0, none⟩), .pointer (some ⟨sp, 0, none⟩), .slice (some ad) M cap, .int .i64 (x.2 : Int), .pointer (some (ad.add x.2)), .slice (some ⟨gi, 0, none⟩) ws.length ci, .func (.func 59) #[] #[.pointer (some ⟨X.heap.size, 0, none⟩)], .int .i64 (y : Int), undef, undef, undef, undef, undef], defers := [] })
        (fun _ _ _ _ _ _ hs _ _ => hs)
        ?assign2 ?body2 ?done2 ?stop2
      case assign2 =>
        intro l3 pre' y Z K hI hK
        clear hszX hsz hsz0
        gi_wp2
        exact hK _ _ (KeepsFrom.refl _ _) (Below.refl _ _) hI rfl
      case body2 =>
        rintro l3 pre' y a'' Z _ _ ⟨⟨⟨h1, h2, h3, h4⟩, h5⟩, h6, h7⟩ rfl hlt2
        have cx : Z.cell? ⟨Wn.heap.size, 0, none⟩ = _ := (blk_cell h2 0).trans rfl
        have ca : Z.cell? ⟨Bx, 0, none⟩ = _ := (blk_cell h4 0).trans rfl
        have HA := Aside0.mk (add_walkW x.1 y Z h1)
        have HSZ := Aside0.mk (And.intro hszX (And.intro hsz hsz0))
        clear hszX hsz hsz0
        gi_wp2_with (first | (refine ⟨trivial, fun h => (by cases h), ?_⟩; gi_at_call 33; refine (CallsIn.inRound l3 (callsIn_wide.2 HA.out)).mono ?_; rintro e w1 ⟨rfl, hr1, ho1⟩; have HO := Aside0.mk (And.intro hr1 ho1); clear hr1 ho1))
        obtain ⟨hszX, hsz, hsz0⟩ := HSZ.out
        have ho := HO.out.2
        refine ⟨ho.keeps (by omega), ho.below (Below.refl _ _) (by omega) (by have := h5.size; omega), ⟨⟨by rw [List.map_append, List.map_cons, List.map_nil, ← List.append_assoc, addAll_snoc]; exact HO.out.1, ho.blk h2 (by omega), ho.blk h3 (by omega), ho.blk h4 (by omega)⟩, ho.below h5 (by omega) h5.size⟩, h6.trans (ho.keeps (by omega)), h7.trans (ho.quiet (by omega) (by omega) h5.size)⟩
      case done2 =>
        rintro ys Z rfl ⟨⟨⟨h1, h2, h3, h4⟩, h5⟩, h6, h7⟩
        have e : (pre ++ [x]).flatMap (overL Bt) = pre.flatMap (overL Bt) ++ (trues (Bt.getD x.2 [])).map fun c => (x.1, c) := by simp [overL]
        clear hszX hsz hsz0
        gi_wp2
        exact ⟨h6, h7, ⟨by rw [e]; exact h1, h2, h3, Nat.le_trans hvX h6.size⟩, h5⟩
      case stop2 =>
        rintro c pre' Z hpre h
        exact h.elim
    · have hmt : mayB M (x.2 : Int) = false := by simp [mayB, hxM]
      rw [hmt] at HM
      gi_wp2_with (first | (refine ⟨trivial, fun h => (by cases h), ?_⟩; gi_at_call 44; refine (CallsIn.inRound l2 (callsIn_wide.2 HM.out)).mono ?_; rintro e w1 ⟨rfl, hw_⟩; subst w1))
      have e : (pre ++ [x]).flatMap (overL Bt) = pre.flatMap (overL Bt) := by simp [overL_none hsM.1 hxM]
      obtain ⟨hrX, hxX, hsX, _, hbX, hsz0, hsz⟩ := HX.out
      exact ⟨KeepsFrom.refl _ _, Quiet.refl _ _ _, ⟨by rw [e]; exact hrX, hxX, hsX, hvX⟩, hBX⟩
  case done =>
    rintro D X hD ⟨⟨hrX, hxX, hsX, hvX⟩, hBX⟩ hdd
    have cx : X.cell? ⟨Wn.heap.size, 0, none⟩ = _ := (blk_cell hxX 0).trans rfl
    gi_wp2
    exact leaves_marks (B := V.heap.size) (fun Y => RelW Y w.heap.size Wn.heap.size p N (afterT N At Bt) ∧ Wn.heap.size ≤ Y.heap.size ∧ Below w.heap.size w Y) (fun Y E hE hd ⟨h1, h2, h3⟩ => ⟨h1.own (grownBy_putObj' Y E _) (fun r e => by cases e; omega), by simpa using h2, h3.grown (grownBy_putObj' Y E _) h3.size (fun k e => by cases e; omega)⟩) (fun Y ⟨h1, h2, h3⟩ => ⟨_, results_tmp rfl _ _ _, p, _, rfl, h1, h2, h3⟩) [D] X (Marks.cons (Marks.nil _ _) hD (by simp) hdd) ⟨hrX.lower (by omega), by have := blk_lt hxX; omega, hBX⟩
  case stop =>
    rintro D c pre X hD hpre h hdd
    exact h.elim
end Go.Proofs.YtoieemaheadjdaaDoor.PRel
