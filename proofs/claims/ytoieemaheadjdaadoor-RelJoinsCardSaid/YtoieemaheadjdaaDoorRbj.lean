/- The union of relations. Written by an AI agent in this seat's session; checked by Lean alone. No axiom, no sorry. -/
import Derived.Test.YtoieemaheadjdaaDoorRelP
import Derived.RangeFuncNested
import Derived.RangeFuncLeaves
import Derived.Shelf.Abstract
import Derived.Shelf.RegionOpen
import Derived.WalkKit
import Derived.OwnWalkIn
import Derived.TacticsInMore
import Derived.LoopNIn
import Derived.LoopIn
import Derived.Lib.TrailingZeros
import Derived.Maps.AppendAt
import Derived.Maps.OwnIn
import Derived.Test.YtoieemaheadjdaaDoorRbi
namespace Go.Proofs.YtoieemaheadjdaaDoor.PRel
open Go.RowKit Go.Proofs.YtoieemaheadjdaaDoorW.PrintWords Go.Proofs.YtoieemaheadjdaaDoorW.PrintLast Go.Proofs.YtoieemaheadjdaaDoorW.PrintMore Go.Proofs.YtoieemaheadjdaaDoor.PRelOrders
set_option linter.unusedVariables false
set_option linter.unusedSimpArgs false
attribute [local go_sem] Oper.semAt_some
theorem info25 : (Tryd.prog.info? 25).map (fun i => (i.zero, i.size, i.bytes)) = some (some (.pointer none), 1, 8) := by kernel_rfl
/-- A relation that lies where it lay, and its pairs. -/
def Told (w : World) (pv : Option Addr) (ps : List (Nat × Nat)) : Prop := ∃ lo hi N At, RelV w lo hi pv N At ∧ hi ≤ w.heap.size ∧ ps = pairsL N At
/-- A row of pointers of the call's own. -/
theorem own_cell {W : World} {base e : Nat} {v : Value} {n : Nat} {xs : List Value} (h : W.ownsRow base e 1 v n xs) (hn : 0 < n) : ∃ g cap, v = .slice (some ⟨g, 0, none⟩) n cap ∧ base ≤ g ∧ (∃ cells, W.heap[g]? = some (.cells cells e (0, 0))) ∧ ∀ j u, xs[j]? = some u → W.cell? ⟨g, j, none⟩ = some u := by
  obtain ⟨hl, ⟨rfl, h0⟩ | ⟨g, cap, cur, rfl, hb, hc, _, _, _, ht⟩⟩ := h
  · omega
  · refine ⟨g, cap, rfl, hb, ⟨cur, hc⟩, fun j u hu => ?_⟩
    rw [← ht] at hu
    have : cur[j]? = some u := by
      rw [List.getElem?_take] at hu
      split at hu
      · rw [← Array.getElem?_toList]; exact hu
      · cases hu
    exact (blk_cell hc j).trans this
/-- The other relations of a union: none, or one. -/
def Others (w : World) (A : Option Addr) (m c : Nat) (qs : List (Option Addr)) (Ps : List (List (Nat × Nat))) : Prop :=
  (A = none ∧ m = 0 ∧ c = 0 ∧ qs = [] ∧ Ps = []) ∨ ∃ ad q ps, A = some ad ∧ m = 1 ∧ c = 1 ∧ qs = [q] ∧ Ps = [ps] ∧ w.cell? ad = some (.pointer q) ∧ Told w q ps
theorem cells_one_at {W : World} {ad : Addr} {x : Value} (h : W.cell? ad = some x) : ∀ (j : Nat) (u : Value), [x][j]? = some u → W.cell? (ad.add j) = some u := by
  intro j u hj
  match j, hj with
  | 0, hj => rw [show ad.add 0 = ad by cases ad with | mk b o f => unfold Addr.add; cases f <;> simp]; exact h.trans hj
abbrev kPtr : Kd (Option Addr) := Kd.scalar Value.pointer (fun _ => rfl)
theorem Others.reads {w V : World} {A : Option Addr} {m c : Nat} {qs : List (Option Addr)} {Ps : List (List (Nat × Nat))} (h : Others w A m c qs Ps) (hb : Below w.heap.size w V) : ReadsRow (fun (q : Option Addr) (cs : List Value) => cs = [.pointer q]) kPtr.sz V A m qs := by
  rcases h with ⟨rfl, rfl, rfl, rfl, rfl⟩ | ⟨ad, q, ps, rfl, rfl, rfl, rfl, rfl, hcq, hTq⟩
  · exact ⟨rfl, by omega, fun h => absurd h (by omega)⟩
  · refine ⟨rfl, by omega, fun _ => ⟨ad, rfl, fun j x hj => ?_⟩⟩
    match j, hj with
    | 0, hj =>
      cases hj
      refine ⟨[.pointer q], rfl, rfl, fun i u hu => ?_⟩
      show V.cell? (ad.add (0 * 1 + i)) = some u
      rw [Nat.zero_mul, Nat.zero_add]
      exact cells_one_at ((hb.cell (World.block_lt_of_cell? w _ hcq)).trans hcq) i u hu
theorem Others.len {w : World} {A : Option Addr} {m c : Nat} {qs : List (Option Addr)} {Ps : List (List (Nat × Nat))} (h : Others w A m c qs Ps) : qs.length = m ∧ Ps.length = m ∧ m ≤ 1 ∧ ∀ (j : Nat) (q : Option Addr) (ps : List (Nat × Nat)), qs[j]? = some q → Ps[j]? = some ps → Told w q ps := by
  rcases h with ⟨rfl, rfl, rfl, rfl, rfl⟩ | ⟨ad, q, ps, rfl, rfl, rfl, rfl, rfl, hcq, hTq⟩
  · exact ⟨rfl, rfl, by omega, fun j q ps h => by simp at h⟩
  · exact ⟨rfl, rfl, by omega, fun j q' ps' h1 h2 => by
      match j, h1, h2 with
      | 0, h1, h2 => cases h1; cases h2; exact hTq⟩
set_option maxRecDepth 100000 in
set_option maxHeartbeats 4000000 in
theorem union_walk {lo hi N : Nat} {pv : Option Addr} {At : List (List Bool)} (A : Option Addr) (m c : Nat) (qs : List (Option Addr)) (Ps : List (List (Nat × Nat))) (w : World) (hR : RelV w lo hi pv N At) (hhi : hi ≤ w.heap.size) (hG : TabLaid w) (hO : Others w A m c qs Ps) :
    Calls Tryd.prog 23 #[.pointer pv, .slice A m c] w fun e w' => ∃ p h, e = .returned (.pointer (some ⟨p, 0, none⟩)) ∧ RelW w' w.heap.size h p N (addAll N (pairsL N At :: Ps).flatten (tab0 N)) ∧ h ≤ w'.heap.size ∧ Below w.heap.size w w' := by
  have hN := hR.shape.2
  have HR := Aside0.mk hR
  have HG := Aside0.mk hG
  have hnw := new_walk (N : Int) w
  rw [clamp_id hN] at hnw
  have HN := Aside0.mk hnw
  clear hR hG hnw
  refine (callsIn_wide (n := 0)).1 (callsIn_of_wp_marks Tryd.func23 rfl trivial ?_ rfl)
  simp only [Tryd.ntmps23, List.size_toArray, List.length_cons, List.length_nil, Nat.reduceAdd, Nat.reduceSub, Array.replicate_succ, Array.replicate_zero, List.push_toArray, List.append_toArray, List.nil_append, List.cons_append]
  obtain ⟨i0, hi0, hzz⟩ := Option.map_eq_some_iff.1 info25
  simp only [Prod.mk.injEq] at hzz
  obtain ⟨hz0, hz1, hz2⟩ := hzz
  refine wpIn_wide.2 ?_
  go_upto_region 2 with (first | (go_at_call 13; refine (len_walk _ HR.out).mono ?_; rintro e w1 ⟨rfl, hw_⟩; subst w1) | (go_at_call 12; refine HN.out.mono ?_; rintro e Wn ⟨p, rfl, hrn, hbn⟩; have HRN := Aside0.mk hrn; have HBN := Aside0.mk hbn; clear hrn hbn))
  have HO := Aside0.mk hO
  clear hO
  have hb1 := below_alloc (Below.refl Wn.heap.size Wn) (.cells #[.pointer (some ⟨p, 0, none⟩)] 25)
  have hb2 := below_alloc hb1 (.cells #[.pointer pv] 25)
  have hx1 := blk_alloc (World.alloc_heap_new Wn (.cells #[.pointer (some ⟨p, 0, none⟩)] 25)) (.cells #[.pointer pv] 25)
  have hx2 := World.alloc_heap_new (Wn.alloc (.cells #[.pointer (some ⟨p, 0, none⟩)] 25)) (.cells #[.pointer pv] 25)
  rw [World.size_alloc] at hx2
  have hBV := HBN.out.trans (hb2.mono HBN.out.size)
  have hwn := HBN.out.size
  have hR1 : kPtr.R 25 ((Wn.alloc (.cells #[.pointer (some ⟨p, 0, none⟩)] 25)).alloc (.cells #[.pointer pv] 25)) w.heap.size (fun _ => True) (.slice (some ⟨Wn.heap.size + 1, 0, none⟩) 1 1) [pv] :=
    Kd.R_of_own ⟨rfl, .inr ⟨Wn.heap.size + 1, 1, #[.pointer pv], rfl, by omega, hx2, Nat.le_refl _, by unfold maxLen; omega, rfl, rfl⟩⟩ (fun _ _ => trivial)
  have HR1 := Aside0.mk (And.intro hR1 (HO.out.reads hBV))
  have HX := Aside0.mk (And.intro (HRN.out.grow hb2) (And.intro hx1 hBV))
  have hol := HO.out.len
  have hsV : ((Wn.alloc (.cells #[.pointer (some ⟨p, 0, none⟩)] 25)).alloc (.cells #[.pointer pv] 25)).heap.size = Wn.heap.size + 2 := by simp
  have HV := Aside0.mk (And.intro hol (And.intro hsV hwn))
  clear hb1 hb2 hx1 hx2 hBV hwn hR1 hol hsV
  go_upto_region 3 with (first | ((with_reducible refine gate_builtin (b := .append) (xs := #[.tmp 14, .tmp 15]) rfl ?_); at_builtin; refine Kd.R_append_rows kPtr (w0 := w) w.heap.size rfl (.tmp 14) (.tmp 15) 82 25 (.pointer none) 8 rfl Tryd.underlying82 info25 rfl (by decide) (by omega) (.slice (some ⟨Wn.heap.size + 1, 0, none⟩) 1 1) [pv] qs A m c (fun _ => True) (fun _ => False) rfl rfl HR1.out.1 HR1.out.2 (fun x cs h => h) (fun _ h => h.elim) (fun _ _ => trivial) HX.out.2.2 (by simp; have := HV.out.2.2; omega) (by have := HV.out; simp; omega) ?_; intro v1 w1 ho1 hb1 hg1 hat1; have HR2 := Aside0.mk (And.intro (Kd.own_of_R ho1) (And.intro hb1 (And.intro hg1 hat1))); clear ho1 hb1 hg1 hat1; obtain ⟨g, cap, ev, hgb, hgc, hcell⟩ := own_cell HR2.out.1 (by simp); subst ev; have HC := Aside0.mk (And.intro hgb (And.intro hgc hcell)); clear hgb hgc hcell))
  have hg1 : Wn.heap.size < g := by
    rcases HR2.out.2.2.2 with e | ⟨b, e, hb⟩
    · have : g = Wn.heap.size + 1 := by simpa [Value.ownBlock] using e
      omega
    · have : g = b := by simpa [Value.ownBlock] using e
      have h2 := HV.out.2.1
      omega
  have hrow : ∀ r, (Value.slice (some ⟨Wn.heap.size + 1, 0, none⟩) 1 1).ownBlock = some r → r = Wn.heap.size + 1 := fun r hr => by simpa [Value.ownBlock] using hr.symm
  have hR3 := HX.out.1.own HR2.out.2.2.1 (fun r e => by have := hrow r e; omega)
  have hx3 := blk_grown HX.out.2.1 HR2.out.2.2.1 (fun e => by have := hrow _ e.symm; omega)
  have hB3 := HR2.out.2.1
  obtain ⟨cells, hcells⟩ := HC.out.2.1
  have hptr : ∀ (j : Nat) (q : Option Addr), (pv :: qs)[j]? = some q → cells[j]? = some (.pointer q) := fun j q hj => by
    have h1 := HC.out.2.2 j (.pointer q) (by show (encs Value.pointer (pv :: qs))[j]? = _; unfold encs; rw [List.getElem?_map, hj]; rfl)
    rw [blk_cell hcells j] at h1
    exact h1
  have hTold : ∀ (j : Nat) (q : Option Addr) (ps : List (Nat × Nat)), (pv :: qs)[j]? = some q → (pairsL N At :: Ps)[j]? = some ps → Told w q ps := fun j q ps h1 h2 => by
    cases j with
    | zero => cases h1; cases h2; exact ⟨lo, hi, N, At, HR.out, hhi, rfl⟩
    | succ j => exact HV.out.1.2.2.2 j q ps h1 h2
  have hQl : (pairsL N At :: Ps).length = qs.length + 1 := by rw [List.length_cons, HV.out.1.2.1, HV.out.1.1]
  have hvl : (pv :: qs).length = qs.length + 1 := rfl
  have hL2 : qs.length + 1 ≤ 2 := by have := HV.out.1; omega
  obtain ⟨L, hL⟩ : ∃ L, qs.length + 1 = L := ⟨_, rfl⟩
  rw [show ((qs.length : Int) + 1) = (L : Int) by omega, hL]
  rw [hL] at hQl hvl hL2
  obtain ⟨Qs, hQs⟩ : ∃ Qs, pairsL N At :: Ps = Qs := ⟨_, rfl⟩
  rw [hQs] at hTold hQl
  have HQ := Aside0.mk hQs
  clear hQs
  generalize pv :: qs = vs at hptr hTold hvl
  generalize Value.slice (some ⟨Wn.heap.size + 1, 0, none⟩) 1 1 = u14
  generalize Value.slice A m c = u1
  have HI := Aside0.mk (And.intro hptr (And.intro hTold (And.intro hQl (And.intro hvl hL2))))
  have hwn := HV.out.2.2
  have HW := Aside0.mk (And.intro hR3 (And.intro hx3 (And.intro hB3 hcells)))
  have HSZ := Aside0.mk (And.intro hg1 hwn)
  clear hptr hTold hQl hvl hL2 hL hR3 hx3 hB3 hcells hrow HC HR2 HV HX HR1 HO HRN HBN HN HR hwn hg1
  refine (wpIn_wide (n := 0)).1 ?_
  have hL2 := HI.out.2.2.2.2
  refine wpIn_loop (fun a Wr => ∃ (i : Nat) (u7 u19 u20 u21 u22 u23 u30 : Value) (Ds : List Nat), a = { tmps := #[.pointer pv, u1, undef, undef, .pointer none, .pointer (some ⟨Wn.heap.size, 0, none⟩), undef, u7, undef, undef, .pointer pv, .int .i64 (N : Int), .pointer (some ⟨p, 0, none⟩), .pointer pv, u14, u1, .slice (some ⟨g, 0, none⟩) L cap, .int .i64 (L : Int), .int .i64 (i : Int), u19, u20, u21, u22, u23, undef, undef, undef, undef, undef, undef, u30, undef], defers := Ds.map markOf } ∧ i ≤ L ∧ Aside0 (RelW Wr w.heap.size Wn.heap.size p N (addAll N (Qs.take i).flatten (tab0 N)) ∧ Wr.heap[Wn.heap.size]? = some (.cells #[.pointer (some ⟨p, 0, none⟩)] 25 (0, 0)) ∧ Below w.heap.size w Wr ∧ Wr.heap[g]? = some (.cells cells 25 (0, 0))) ∧ Aside0 (Marks Wn.heap.size Ds Wr)) (fun a _ => L - (intOf (a.tmps.getD 18 undef)).toNat) ⟨0, undef, undef, undef, undef, undef, undef, undef, [], rfl, Nat.zero_le _, HW, ⟨Marks.nil _ _⟩⟩ ?_
  clear HW
  rintro a Wr ⟨i, u7, u19, u20, u21, u22, u23, u30, Ds, rfl, hiL, HW, HM⟩
  by_cases hlt : i < L
  · have hltz : (i : Int) < (L : Int) := by omega
    obtain ⟨x, hx⟩ : ∃ x, vs[i]? = some x := ⟨_, List.getElem?_eq_getElem (by have := HI.out.2.2.2.1; omega)⟩
    obtain ⟨ps, hps⟩ : ∃ ps, Qs[i]? = some ps := ⟨_, List.getElem?_eq_getElem (by have := HI.out.2.2.1; omega)⟩
    have hci : Wr.cell? ⟨g, i, none⟩ = some (.pointer x) := (blk_cell HW.out.2.2.2 i).trans (HI.out.1 i x hx)
    have HT := Aside0.mk (And.intro (HI.out.2.1 i x ps hx hps) hps)
    clear hx hps
    gi_wp2_with (first | (refine ⟨trivial, rfl, ?_⟩; gi_at_call 43; refine (pairs_walk Fence.wide _ trivial rfl _ _).mono ?_; rintro e w1 ⟨rfl, hw_⟩; subst w1))
    have hb1 := below_alloc (Below.refl Wr.heap.size Wr) (.cells #[.pointer x] 25)
    have hx2 := World.alloc_heap_new Wr (.cells #[.pointer x] 25)
    have HV := Aside0.mk (And.intro (HW.out.1.grow hb1) (And.intro (blk_below HW.out.2.1 hb1) (And.intro (HW.out.2.2.1.trans (hb1.mono HW.out.2.2.1.size)) (And.intro (blk_below HW.out.2.2.2 hb1) (And.intro (HM.out.keep (w' := Wr.alloc (.cells #[.pointer x] 25)) (fun k o _ ho _ => (hb1.block k (Array.getElem?_eq_some_iff.1 ho).1).trans ho)) hx2)))))
    have hsV : (Wr.alloc (.cells #[.pointer x] 25)).heap.size = Wr.heap.size + 1 := by simp
    have hgr : g < Wr.heap.size := blk_lt HW.out.2.2.2
    clear HW HM hb1 hx2 hci
    generalize Wr.alloc (.cells #[.pointer x] 25) = V at HV hsV ⊢
    obtain ⟨lo', hi', N', At', hRx, hhx, hpx⟩ := HT.out.1
    obtain ⟨hrV, hxV, hBV, hcV, hMV, hx2⟩ := HV.out
    have h0w : 0 < w.heap.size := HG.out.lt
    have hsz := HSZ.out
    have hit := pairs_iter 0 w.heap.size Wr.heap.size Wr.heap.size V (hRx.below hBV hhx) hhx (by omega) (Nat.le_refl _) hx2 (HG.out.below h0w hBV) h0w
    rw [← hpx] at hit
    have hDs : ∀ D ∈ Ds, D < V.heap.size := fun D hD => hMV.lt hD
    refine wp_iter (encs := fun q : Nat × Nat => #[.int .i64 (q.1 : Int), .int .i64 (q.2 : Int)]) (Kp := Quiet w.heap.size Wr.heap.size) rfl (enters_of Tryd.func58 (by kernel_rfl) rfl) hit Quiet.trans (fun X o o' ho hc => Quiet.put o' (by omega) ho hc) (fun _ => rfl)
      (fun pre X => (RelW X w.heap.size Wn.heap.size p N (addAll N ((Qs.take i).flatten ++ pre) (tab0 N)) ∧ X.heap[Wn.heap.size]? = some (.cells #[.pointer (some ⟨p, 0, none⟩)] 25 (0, 0)) ∧ Below w.heap.size w X) ∧ X.heap[g]? = some (.cells cells 25 (0, 0)) ∧ ∀ D ∈ Ds, X.heap[D]? = some (.deferred (some []))) (fun _ _ _ => False)
      (fun s A B row ⟨⟨h1, h2, h3⟩, h4, h5⟩ hg hr => ⟨⟨h1.own hg (fun r e => by have := (hr r e).1; omega), (grownBy_keeps_cells hg (fun r e => (hr r e).2) h2 rfl).trans h2, h3.grown hg h3.size (fun k e => by have := (hr k e).1; omega)⟩, (grownBy_keeps_cells hg (fun r e => (hr r e).2) h4 rfl).trans h4, fun D hD => (hg.block D (Array.getElem?_eq_some_iff.1 (h5 D hD)).1 (fun e => by have := (hr D e.symm).1; have := hDs D hD; omega)).trans (h5 D hD)⟩)
      (fun _ _ _ _ _ hs _ _ => hs) ⟨⟨by rw [List.append_nil]; exact hrV, hxV, hBV⟩, hcV, fun D hD => (hMV.2 D hD).2⟩
      (fun y a' _ => a' = { tmps := #[.pointer pv, u1, undef, undef, .pointer none, .pointer (some ⟨Wn.heap.size, 0, none⟩), undef, .pointer x, .int .i64 (y.1 : Int), .int .i64 (y.2 : Int), .pointer pv, .int .i64 (N : Int), .pointer (some ⟨p, 0, none⟩), .pointer pv, u14, u1, .slice (some ⟨g, 0, none⟩) L cap, .int .i64 (L : Int), .int .i64 (i : Int), .bool true, .pointer (some ⟨g, i, none⟩), .pointer x, .pointer x, .func (.func 58) #[] #[.pointer (some ⟨Wr.heap.size, 0, none⟩)], .int .i64 (y.1 : Int), .int .i64 (y.2 : Int), undef, undef, undef, undef, u30, undef], defers := [] })
      (fun _ _ _ _ _ _ hs _ _ => hs)
      ?assign ?body ?done ?stop
    case assign =>
      intro l2 pre y X K hI hK
      clear hsV
      gi_wp2
      exact hK _ _ (KeepsFrom.refl _ _) (Quiet.refl _ _ _) hI rfl
    case body =>
      rintro l2 pre y a' X hl ⟨r, hr⟩ ⟨⟨hrX, hxX, hBX⟩, hcX, hDX⟩ rfl ⟨q, hq⟩
      have cx : X.cell? ⟨Wn.heap.size, 0, none⟩ = _ := (blk_cell hxX 0).trans rfl
      have HA := Aside0.mk (add_walkW y.1 y.2 X hrX)
      have HRX := Aside0.mk (And.intro hxX (And.intro hBX (And.intro hcX hDX)))
      clear hrX hxX hBX hcX hDX
      have hsV2 := Aside0.mk hsV
      clear hsV
      gi_wp2_with (first | (refine ⟨trivial, rfl, ?_⟩; gi_at_call 33; refine (CallsIn.inRound l2 (callsIn_wide.2 HA.out)).mono ?_; rintro e w1 ⟨rfl, hr1, ho1⟩; have HO := Aside0.mk (And.intro hr1 ho1); clear hr1 ho1))
      have hsV := hsV2.out
      obtain ⟨hxX, hBX, hcX, hDX⟩ := HRX.out
      exact ⟨HO.out.2.keeps (by omega), HO.out.2.quiet (Nat.le_refl _) (by omega) (by have := hBX.size; omega), ⟨by rw [← List.append_assoc, addAll_snoc]; exact HO.out.1, HO.out.2.blk hxX (by omega), HO.out.2.below hBX (Nat.le_refl _) hBX.size⟩, HO.out.2.blk hcX (by omega), fun D hD => HO.out.2.blk (hDX D hD) (by have := (hMV.2 D hD).1; omega)⟩
    case done =>
      rintro D X hD ⟨⟨hrX, hxX, hBX⟩, hcX, hDX⟩ hdd
      have hMX : Marks Wn.heap.size (D :: Ds) X := Marks.cons ⟨hMV.1, fun E hE => ⟨(hMV.2 E hE).1, hDX E hE⟩⟩ (by omega) (fun hin => by have := hDs D hin; omega) hdd
      have htk : (Qs.take (i + 1)).flatten = (Qs.take i).flatten ++ ps := by
        have hil : i < Qs.length := by have := HI.out.2.2.1; omega
        have := HT.out.2
        rw [List.getElem?_eq_getElem hil] at this
        injection this with this
        rw [List.take_succ_eq_append_getElem hil, List.flatten_append, this]
        simp
      rw [← htk] at hrX
      clear hsV
      gi_wp2
      refine ⟨⟨i + 1, _, _, _, _, _, _, _, D :: Ds, rfl, hlt, ⟨hrX, hxX, hBX, hcX⟩, ⟨hMX⟩⟩, ?_⟩
      show L - ((i : Int) + 1).toNat < L - ((i : Int)).toNat
      clear hMX hrX htk
      omega
    case stop =>
      rintro D c pre X hD hpre h hdd
      exact h.elim
  · obtain rfl : i = L := by omega
    obtain ⟨hrX, hxX, hBX, hcX⟩ := HW.out
    have cx : Wr.cell? ⟨Wn.heap.size, 0, none⟩ = _ := (blk_cell hxX 0).trans rfl
    rw [List.take_of_length_le (by have := HI.out.2.2.1; omega)] at hrX
    have hsz := HSZ.out
    gi_wp2
    go_wp2
    exact leaves_marks (B := Wn.heap.size) (fun Y => RelW Y w.heap.size Wn.heap.size p N (addAll N Qs.flatten (tab0 N)) ∧ Wn.heap.size ≤ Y.heap.size ∧ Below w.heap.size w Y) (fun Y E hE hd ⟨h1, h2, h3⟩ => ⟨h1.own (grownBy_putObj' Y E _) (fun r e => by cases e; omega), by simpa using h2, h3.grown (grownBy_putObj' Y E _) h3.size (fun k e => by cases e; omega)⟩) (fun Y ⟨h1, h2, h3⟩ => ⟨_, results_tmp rfl _ _ _, p, _, rfl, by rw [HQ.out]; exact h1, h2, h3⟩) Ds Wr HM.out ⟨hrX, by have := blk_lt hxX; omega, hBX⟩
end Go.Proofs.YtoieemaheadjdaaDoor.PRel
