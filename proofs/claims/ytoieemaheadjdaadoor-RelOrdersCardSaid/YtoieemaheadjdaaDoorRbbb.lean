/- Order: a list of all things, each behind those ahead of it, or none. Acyclic: is there an order? Written by an AI agent in this seat's session; checked by Lean alone. No axiom, no sorry. -/
import Derived.Test.YtoieemaheadjdaaDoorRelP
import Derived.RangeFuncNested
import Derived.RangeFuncLeaves
import Derived.Shelf.Abstract
import Derived.Shelf.RegionOpen
import Derived.WalkKit
import Derived.OwnWalkIn
import Derived.TacticsInMore
import Derived.LoopNIn
import Derived.LoopIn
import Derived.Lib.TrailingZeros
import Derived.Maps.AppendAt
import Derived.Maps.OwnIn
import Derived.Test.YtoieemaheadjdaaDoorRbaa
namespace Go.Proofs.YtoieemaheadjdaaDoor.PRel
open Go.RowKit Go.Proofs.YtoieemaheadjdaaDoorW.PrintWords Go.Proofs.YtoieemaheadjdaaDoorW.PrintLast Go.Proofs.YtoieemaheadjdaaDoorW.PrintMore Go.Proofs.YtoieemaheadjdaaDoor.PRelOrders
set_option linter.unusedVariables false
set_option linter.unusedSimpArgs false
attribute [local go_sem] Oper.semAt_some
/-- A row of whole numbers in a block of its own. -/
def ints (L : List Int) : Array Value := (L.map (Value.int .i64)).toArray
theorem ints_set (L : List Int) (b : Nat) (x : Int) : (ints L).setIfInBounds b (.int .i64 x) = ints (L.set b x) := by
  unfold ints
  rw [List.setIfInBounds_toArray, List.map_set]
theorem ints_get (L : List Int) (b : Nat) (hb : b < L.length) : (ints L)[b]? = some (.int .i64 (L.getD b 0)) := by
  unfold ints
  rw [List.getElem?_toArray, List.getElem?_map, List.getElem?_eq_getElem hb]
  simp [List.getD_eq_getElem?_getD, List.getElem?_eq_getElem hb]
theorem ints_new (N : Nat) : madeCells #[.int .i64 0] N = ints (List.replicate N 0) := by
  unfold ints madeCells
  apply Array.ext
  · simp
  · intro i h1 h2
    simp [Nat.mod_one]
/-- What Order holds while it counts. -/
def LeftAt (X : World) (b N : Nat) (L : List Int) : Prop := X.heap[b]? = some (.cells (ints L) 3 (0, 0)) ∧ X.heap[b + 1]? = some (.cells #[.slice (some ⟨b, 0, none⟩) N N] 45 (0, 0)) ∧ L.length = N
/-- A row of whole numbers of the call's own. -/
def IRow (W : World) (base : Nat) (v : Value) (l : List Int) : Prop := W.ownsRow base 3 1 v l.length (l.map (Value.int .i64))
theorem IRow.step {W W' : World} {base : Nat} {v : Value} {l : List Int} (h : IRow W base v l) (hk : ∀ k, v.ownBlock = some k → W'.heap[k]? = W.heap[k]?) : IRow W' base v l := own_move h hk
theorem IRow.gone {W : World} {base D : Nat} {o : Obj} {v : Value} {l : List Int} (h : IRow W base v l) (hd : W.heap[D]? = some (.deferred (some []))) : IRow (W.putObj D o) base v l := h.step fun k hk => World.putObj_heap_other (fun e => by subst e; obtain ⟨_, hc⟩ := own_typed h k hk; rw [hd] at hc; cases hc)
theorem cells_one_new (W : World) (x : Value) (t : TypeId) : ∀ j u, [x][j]? = some u → (W.alloc (.cells #[x] t)).cell? ((⟨W.heap.size, 0, none⟩ : Addr).add j) = some u := by
  intro j u hj
  have hb := World.alloc_heap_new W (.cells #[x] t)
  rw [add_at, Nat.zero_add]
  match j, hj with
  | 0, hj => exact (blk_cell hb 0).trans hj
theorem left_reads {W : World} {b N : Nat} {L : List Int} (h : LeftAt W b N L) (hN : N ≤ 512) : (Kd.int .i64).C W (some ⟨b, 0, none⟩) L.length L := by
  obtain ⟨h1, _, h3⟩ := h
  refine ⟨rfl, by omega, fun _ => ⟨_, rfl, fun j p hj => ⟨[.int .i64 p], rfl, rfl, fun i u hu => ?_⟩⟩⟩
  match i, hu with
  | 0, hu =>
    have hjl := (List.getElem?_eq_some_iff.1 hj).1
    have e : (Kd.int .i64).sz = 1 := rfl
    rw [e, add_at, Nat.mul_one, Nat.add_zero, Nat.zero_add]
    refine ((blk_cell h1 j).trans (ints_get L j hjl)).trans ?_
    rw [← hu]
    simp [List.getD_eq_getElem?_getD, hj]
theorem order_idx {W : World} {b N : Nat} {At : List (List Bool)} {told : List Bool} (h : LeftAt W b N (leftF N At told)) (hN : N ≤ 512) :
    Calls Tryd.prog 48 #[.slice (some ⟨b, 0, none⟩) N N, .int .i64 0] W fun e w' => e = .returned (.int .i64 (orM1 (pickF N At told))) ∧ Drawn0 W w' := by
  have := slices_Index_int_int.calls (N + 1) (some ⟨b, 0, none⟩) N (leftF N At told) 0 _ W (left_reads h hN) (by rw [leftF_len]; omega) (index_left hN)
  rwa [leftF_len] at this
set_option maxRecDepth 100000 in
set_option maxHeartbeats 1000000 in
theorem order_walk {lo hi N : Nat} {pv : Option Addr} {At : List (List Bool)} (w : World) (hR : RelV w lo hi pv N At) (hhi : hi ≤ w.heap.size) (hG : TabLaid w) :
    Calls Tryd.prog 26 #[.pointer pv] w fun e w' => ∃ v, e = .returned (.tuple #[v, .bool (orderF N At).isSome]) ∧ IRow w' w.heap.size v ((orderF N At).getD []) ∧ Below w.heap.size w w' := by
  have hN := hR.shape
  have hN2 := hN.2
  have hmk := run_make_row' (P := Tryd.prog) 45 3 (.int .i64 0) 8 Tryd.underlying45 info3 rfl .i64 .i64 N (by omega) (by omega)
  have HR := Aside0.mk hR
  have HG := Aside0.mk hG
  clear hR hG
  refine (callsIn_wide (n := 0)).1 (callsIn_of_wp_marks Tryd.func26 rfl trivial ?_ rfl)
  simp only [Tryd.ntmps26, List.size_toArray, List.length_cons, List.length_nil, Nat.reduceAdd, Nat.reduceSub, Array.replicate_succ, Array.replicate_zero, List.push_toArray, List.append_toArray, List.nil_append, List.cons_append]
  gi_wp2_with (first
    | (refine ⟨trivial, rfl, ?_⟩; gi_at_call 13; refine ((callsIn_wide (n := 0)).2 (len_walk _ HR.out)).mono ?_; rintro e w1 ⟨rfl, hw1⟩; subst w1)
    | (refine ⟨trivial, rfl, ?_⟩; gi_at_call 43; refine (pairs_walk Fence.wide _ trivial rfl _ _).mono ?_; rintro e w1 ⟨rfl, hw_⟩; subst w1))
  have hb1 := below_alloc (Below.refl w.heap.size w) (.cells (madeCells #[.int .i64 0] N) 3)
  have hb2 := below_alloc hb1 (.cells #[.slice (some ⟨w.heap.size, 0, none⟩) N N] 45)
  have hb3 := below_alloc hb2 (.cells #[.pointer pv] 25)
  have hx1 := blk_alloc (blk_alloc (World.alloc_heap_new w (.cells (madeCells #[.int .i64 0] N) 3)) (.cells #[.slice (some ⟨w.heap.size, 0, none⟩) N N] 45)) (.cells #[.pointer pv] 25)
  have hx2 := blk_alloc (World.alloc_heap_new (w.alloc (.cells (madeCells #[.int .i64 0] N) 3)) (.cells #[.slice (some ⟨w.heap.size, 0, none⟩) N N] 45)) (.cells #[.pointer pv] 25)
  have hx3 := World.alloc_heap_new ((w.alloc (.cells (madeCells #[.int .i64 0] N) 3)).alloc (.cells #[.slice (some ⟨w.heap.size, 0, none⟩) N N] 45)) (.cells #[.pointer pv] 25)
  have hsz : (((w.alloc (.cells (madeCells #[.int .i64 0] N) 3)).alloc (.cells #[.slice (some ⟨w.heap.size, 0, none⟩) N N] 45)).alloc (.cells #[.pointer pv] 25)).heap.size = w.heap.size + 3 := by simp
  rw [World.size_alloc] at hx2
  rw [World.size_alloc, World.size_alloc] at hx3
  have hL0 : LeftAt (((w.alloc (.cells (madeCells #[.int .i64 0] N) 3)).alloc (.cells #[.slice (some ⟨w.heap.size, 0, none⟩) N N] 45)).alloc (.cells #[.pointer pv] 25)) w.heap.size N (List.replicate N 0) := ⟨by rw [← ints_new]; exact hx1, hx2, by simp⟩
  have HX := Aside0.mk (And.intro hL0 (And.intro hx3 (And.intro hb3 hsz)))
  clear hb1 hb2 hb3 hx1 hx2 hx3 hsz hL0 hmk
  generalize ((w.alloc (.cells (madeCells #[.int .i64 0] N) 3)).alloc (.cells #[.slice (some ⟨w.heap.size, 0, none⟩) N N] 45)).alloc (.cells #[.pointer pv] 25) = V at HX ⊢
  have h0w : 0 < w.heap.size := HG.out.lt
  have hit := pairs_iter 0 w.heap.size (w.heap.size + 2) (w.heap.size + 1 + 1) V (HR.out.below HX.out.2.2.1 hhi) hhi (by omega) (Nat.le_refl _) HX.out.2.1 (HG.out.below h0w HX.out.2.2.1) h0w
  have hown : ∀ (X Y : World) (L : List Int) (row : Option Nat), LeftAt X w.heap.size N L → X.grownBy Y row → (∀ r, row = some r → V.heap.size ≤ r ∧ ∃ o, X.heap[r]? = some o ∧ o.isCells = false) → LeftAt Y w.heap.size N L := by
    intro X Y L row ⟨g1, g2, g3⟩ hg hr
    exact ⟨(grownBy_keeps_cells hg (fun r e => (hr r e).2) g1 rfl).trans g1, (grownBy_keeps_cells hg (fun r e => (hr r e).2) g2 rfl).trans g2, g3⟩
  refine wp_iter (encs := fun q : Nat × Nat => #[.int .i64 (q.1 : Int), .int .i64 (q.2 : Int)]) (Kp := Quiet w.heap.size (w.heap.size + 2)) rfl (enters_of Tryd.func58 (by kernel_rfl) rfl) hit Quiet.trans (fun X o o' ho hc => Quiet.put o' (by have := HX.out.2.2.2; omega) ho hc) (fun _ => rfl)
    (fun pre X => LeftAt X w.heap.size N (incAll pre (List.replicate N 0)) ∧ Below w.heap.size w X) (fun _ _ _ => False)
    (fun s A B row ⟨h1, h3⟩ hg hr => ⟨hown _ _ _ _ h1 hg hr, h3.grown hg h3.size (fun k e => by have := (hr k e).1; have := HX.out.2.2.2; omega)⟩)
    (fun _ _ _ _ _ hs _ _ => hs) ⟨HX.out.1, HX.out.2.2.1⟩
    (fun x a' _ => a' = { tmps := #[Value.pointer pv, undef, Value.slice none 0 0, Value.bool false, Value.pointer (some { block := w.heap.size + 1, off := 0 }), undef, .int .i64 (x.2 : Int), undef, undef, undef, Value.pointer pv, Value.int IntKind.i64 (N : Int), Value.slice (some { block := w.heap.size, off := 0 }) N N, Value.pointer pv, Value.func (Fn.func 58) #[] #[Value.pointer (some { block := w.heap.size + 1 + 1, off := 0 })], .int .i64 (x.1 : Int), .int .i64 (x.2 : Int), undef, undef, undef, undef, undef, undef, undef, undef, undef, undef, undef, undef, undef, undef, undef, undef, undef, undef, undef, undef, undef, undef, undef, undef, undef, undef, undef, undef, undef, undef, undef, undef, undef, undef, undef, undef, undef, undef], defers := [] })
    (fun _ _ _ _ _ _ hs _ _ => hs)
    ?assign ?body ?done ?stop
  case assign =>
    intro l2 pre x X K hI hK
    gi_wp2
    exact hK _ _ (KeepsFrom.refl _ _) (Quiet.refl _ _ _) hI rfl
  case body =>
    rintro l2 pre x a' X hl ⟨r, hr⟩ ⟨⟨g1, g2, g3⟩, hBX⟩ rfl ⟨q, hq⟩
    have hxm : x ∈ pairsL N At := by rw [← hq]; simp
    have hx2 : x.2 < N := (at2_lt hN.1 ((mem_pairs hN.1 x.1 x.2).1 hxm)).2
    have hx2z : (x.2 : Int) < (N : Int) := by omega
    have hlen : pre.length ≤ 262144 := by have := pairs_len hN.1 hN.2; have h2 := congrArg List.length hq; simp at h2; omega
    have hz0 := (incAll_spec pre (List.replicate N 0) (fun p hp => by rw [List.length_replicate]; exact (at2_lt hN.1 ((mem_pairs hN.1 p.1 p.2).1 (by rw [← hq]; simp [hp]))).2)).2 x.2
    have hz1 : ((pre.map Prod.snd).count x.2 : Int) ≤ 262144 := by have := List.count_le_length (a := x.2) (l := pre.map Prod.snd); rw [List.length_map] at this; omega
    have hsn := incAll_snoc pre x (List.replicate N 0)
    have cx : X.cell? ⟨w.heap.size + 1, 0, none⟩ = some (.slice (some ⟨w.heap.size, 0, none⟩) N N) := (blk_cell g2 0).trans rfl
    have cy : X.cell? ⟨w.heap.size, x.2, none⟩ = some (.int .i64 ((incAll pre (List.replicate N 0)).getD x.2 0)) := (blk_cell g1 x.2).trans (ints_get _ _ (by omega))
    have fy := blk_frozen g1 x.2
    have hput := blk_put g1 x.2 (.int .i64 ((incAll pre (List.replicate N 0)).getD x.2 0 + 1)) (ints_set _ _ _)
    rw [← hsn] at hput
    have hrep : (List.replicate N (0 : Int)).getD x.2 0 = 0 := by simp [List.getD_eq_getElem?_getD, List.getElem?_replicate, hx2]
    rw [hrep] at hz0
    have hlz : (incAll (pre ++ [x]) (List.replicate N 0)).length = N := by rw [hsn, List.length_set]; exact g3
    generalize hzz : (incAll pre (List.replicate N 0)).getD x.2 0 = z at cy hput hz0
    have hzb : 0 ≤ z ∧ z ≤ 262144 := by omega
    have hzp := hzb.1
    have hzq := hzb.2
    have HP := Aside0.mk (And.intro hput (And.intro g2 (And.intro hlz g1)))
    clear hzz hz0 hz1 hrep hsn hput hlen hzb hlz g1 g2 g3 hxm hq
    gi_wp2
    exact ⟨(KeepsOthers.setCell _ _ _).from _, Quiet.set (p := ⟨w.heap.size, x.2, none⟩) HP.out.2.2.2 (Nat.le_refl _) (.inl (by show w.heap.size < w.heap.size + 2; omega)) _, ⟨HP.out.1, (Below.heap_setCell X _ _ (w.heap.size + 1) (by show w.heap.size + 1 ≠ w.heap.size; omega)).trans HP.out.2.1, HP.out.2.2.1⟩, hBX.setCell (Nat.le_refl _) _⟩
  case done =>
    rintro D X hD ⟨hL, hBX⟩ hdd
    rw [left_new hN.1] at hL
    have HL := Aside0.mk hL
    have hXsz : V.heap.size ≤ X.heap.size := by have := (Array.getElem?_eq_some_iff.1 hdd).1; omega
    have cx : X.cell? ⟨w.heap.size + 1, 0, none⟩ = some (.slice (some ⟨w.heap.size, 0, none⟩) N N) := (blk_cell hL.2.1 0).trans rfl
    clear hit hown hL
    gi_wp2
    have hI0 : Aside0 ((List.replicate N false).length = N ∧ unmet (List.replicate N false) = N - 0 ∧ (∀ j a, (List.replicate N false).getD j false = true → at2 At a j = true → (List.replicate N false).getD a false = true) ∧ orderL N At (N - 0) (List.replicate N false) [] = orderF N At ∧ ([] : List Int).length = 0) :=
      ⟨by simp, by rw [unmet_new]; omega, fun j a hj => by (simp [List.getD_eq_getElem?_getD, List.getElem?_replicate] at hj; split at hj <;> simp at hj), by rw [Nat.sub_zero]; rfl, rfl⟩
    have hMD := Marks.cons (Marks.nil V.heap.size X) hD (by simp) hdd
    refine wpIn_loop (fun a Wr => ∃ (d : Nat) (told : List Bool) (out : List Int) (v7 u8 u9 u26 u27 u28 u29 u30 u31 u32 u33 u34 u35 u36 u37 u38 u39 u40 u41 u42 u43 u44 u45 u46 u47 u48 u49 u50 u51 u52 u53 : Value) (Ds : List Nat), a = { tmps := #[Value.pointer pv, undef, Value.slice none 0 0, Value.bool false, Value.pointer (some { block := w.heap.size + 1, off := 0 }), undef, undef, v7, u8, u9, Value.pointer pv, Value.int IntKind.i64 (N : Int), Value.slice (some { block := w.heap.size, off := 0 }) N N, Value.pointer pv, Value.func (Fn.func 58) #[] #[Value.pointer (some { block := w.heap.size + 1 + 1, off := 0 })], undef, undef, undef, undef, undef, undef, undef, undef, Value.slice (some { block := w.heap.size, off := 0 }) N N, Value.int IntKind.i64 (N : Int), Value.int IntKind.i64 (d : Int), u26, u27, u28, u29, u30, u31, u32, u33, u34, u35, u36, u37, u38, u39, u40, u41, u42, u43, u44, u45, u46, u47, u48, u49, u50, u51, u52, u53, undef], defers := Ds.map markOf } ∧ d ≤ N ∧ Aside0 (told.length = N ∧ unmet told = N - d ∧ (∀ j a, told.getD j false = true → at2 At a j = true → told.getD a false = true) ∧ orderL N At (N - d) told out = orderF N At ∧ out.length = d) ∧ Aside0 (LeftAt Wr w.heap.size N (leftF N At told) ∧ IRow Wr V.heap.size v7 out ∧ Below w.heap.size w Wr) ∧ Aside0 (Marks V.heap.size Ds Wr) ∧ Aside0 (V.heap.size ≤ Wr.heap.size)) (fun a _ => N - (intOf (a.tmps.getD 25 undef)).toNat)
      ⟨0, List.replicate N false, [], .slice none 0 0, undef, undef, undef, undef, undef, undef, undef, undef, undef, undef, undef, undef, undef, undef, undef, undef, undef, undef, undef, undef, undef, undef, undef, undef, undef, undef, undef, undef, undef, undef, [D], rfl, Nat.zero_le _, hI0, ⟨HL.out, ⟨rfl, .inl ⟨rfl, rfl⟩⟩, hBX⟩, ⟨hMD⟩, ⟨hXsz⟩⟩ ?_
    clear hI0 hMD HL hBX hdd hD cx hXsz
    rintro a Wr ⟨d, told, out, v7, u8, u9, u26, u27, u28, u29, u30, u31, u32, u33, u34, u35, u36, u37, u38, u39, u40, u41, u42, u43, u44, u45, u46, u47, u48, u49, u50, u51, u52, u53, Ds, rfl, hdN, HI, HW, HM, HWS⟩
    by_cases hlt : d < N
    · have hltz : (d : Int) < (N : Int) := by omega
      have hidx := order_idx HW.out.1 (At := At) (told := told) hN2
      have HX2 := Aside0.mk hidx
      clear hidx
      have cx : Wr.cell? ⟨w.heap.size + 1, 0, none⟩ = some (.slice (some ⟨w.heap.size, 0, none⟩) N N) := (blk_cell HW.out.1.2.1 0).trans rfl
      cases hpick : pickF N At told with
      | none =>
        have HP := Aside0.mk hpick
        rw [hpick] at HX2
        gi_wp2_with (first | (refine ⟨trivial, rfl, ?_⟩; gi_at_call 48; refine (callsIn_wide.2 HX2.out).mono ?_; rintro e w1 ⟨rfl, hdr⟩))
        have hno : orderF N At = none := by
          have := HI.out.2.2.2.1
          rw [show N - d = (N - d - 1) + 1 by omega, orderL, HP.out, Option.bind_none] at this
          exact this.symm
        obtain ⟨nn, rfl⟩ := hdr.out
        have hM2 : Marks V.heap.size Ds (Wr.drewN nn) := HM.out
        exact leaves_marks (B := V.heap.size) (fun Y => Below w.heap.size w Y) (fun Y E hE hd h2 => h2.grown (grownBy_putObj' Y E _) h2.size (fun k e => by cases e; have := HX.out.2.2.2; omega)) (fun Y h2 => ⟨_, results_tmp2 rfl _ _ _, _, by rw [hno]; rfl, by rw [hno]; exact ⟨rfl, .inl ⟨rfl, rfl⟩⟩, h2⟩) Ds _ hM2 (pw_below_drewN HW.out.2.2 _)
      | some i =>
        obtain ⟨hiN, hti, hall⟩ := pick_some hpick
        have hiz : (i : Int) < (N : Int) := by omega
        have HX3 : Aside0 (Calls Tryd.prog 48 #[.slice (some ⟨w.heap.size, 0, none⟩) N N, .int .i64 0] Wr fun e w' => e = .returned (.int .i64 (i : Int)) ∧ Drawn0 Wr w') := ⟨by have := HX2.out; rw [hpick] at this; exact this⟩
        obtain ⟨p, rfl, hRW⟩ : ∃ p, pv = some ⟨p, 0, none⟩ ∧ RelW w lo hi p N At := by
          rcases HR.out with h | h
          · omega
          · exact h
        obtain ⟨ad, cap, gi, ci, ws, r1, r2, hWd, r3, hgi⟩ := relw_row hRW hiN
        have HQ := Aside0.mk (And.intro hti (And.intro hall (And.intro hWd (And.intro r3 (And.intro hgi (And.intro r1 r2))))))
        have fy := blk_frozen HW.out.1.1 i
        have cy : Wr.cell? ⟨w.heap.size, i, none⟩ = some (.int .i64 ((leftF N At told).getD i 0)) := (blk_cell HW.out.1.1 i).trans (ints_get _ _ (by rw [leftF_len]; exact hiN))
        generalize (leftF N At told).getD i 0 = z at cy
        have hput : ∀ nn, ((Wr.drewN nn).setCell ⟨w.heap.size, i, none⟩ (.int .i64 (-1))).heap[w.heap.size]? = some (.cells (ints ((leftF N At told).set i (-1))) 3 (0, 0)) := fun nn => blk_put (w := Wr.drewN nn) HW.out.1.1 i (.int .i64 (-1)) (ints_set _ _ _)
        have HPT := Aside0.mk hput
        obtain ⟨i0, hi0, hzz⟩ := Option.map_eq_some_iff.1 info3
        simp only [Prod.mk.injEq] at hzz
        obtain ⟨hz0, hz1, hz2⟩ := hzz
        have hVs := HX.out.2.2.2
        have hWs : V.heap.size ≤ Wr.heap.size := HWS.out
        have hrw : ∀ nn, (((Wr.drewN nn).setCell ⟨w.heap.size, i, none⟩ (.int .i64 (-1))).alloc (.cells #[.int .i64 (i : Int)] 3)).ownsRow V.heap.size 3 1 v7 out.length (out.map (Value.int .i64)) := fun nn => own_move HW.out.2.1 (fun k hk => by
          have h1 := own_base HW.out.2.1 k hk
          have h2 : k < Wr.heap.size := own_lt HW.out.2.1 k hk
          refine ((below_alloc (Below.refl _ _) (.cells #[.int .i64 (i : Int)] 3)).block k (by simpa using h2)).trans ?_
          exact Below.heap_setCell (Wr.drewN nn) ⟨w.heap.size, i, none⟩ _ k (by show k ≠ w.heap.size; omega))
        have hnew : ∀ nn, ∀ j u, [Value.int .i64 (i : Int)][j]? = some u → (((Wr.drewN nn).setCell ⟨w.heap.size, i, none⟩ (.int .i64 (-1))).alloc (.cells #[.int .i64 (i : Int)] 3)).cell? ((⟨Wr.heap.size, 0, none⟩ : Addr).add j) = some u := fun nn => by
          have := cells_one_new ((Wr.drewN nn).setCell ⟨w.heap.size, i, none⟩ (.int .i64 (-1))) (.int .i64 (i : Int)) 3
          simpa using this
        have hbA : ∀ nn, Below w.heap.size w (((Wr.drewN nn).setCell ⟨w.heap.size, i, none⟩ (.int .i64 (-1))).alloc (.cells #[.int .i64 (i : Int)] 3)) := fun nn => below_then ((pw_below_drewN HW.out.2.2 nn).setCell (p := ⟨w.heap.size, i, none⟩) (Nat.le_refl _) _) (by simpa using HW.out.2.2.size) (below_alloc (Below.refl _ _) _)
        have hob := own_base HW.out.2.1
        have hbG : ∀ nn w1, (((Wr.drewN nn).setCell ⟨w.heap.size, i, none⟩ (.int .i64 (-1))).alloc (.cells #[.int .i64 (i : Int)] 3)).grownBy w1 v7.ownBlock → Below w.heap.size w w1 := fun nn w1 hg => (hbA nn).grown hg (hbA nn).size (fun k e => by have := hob k e; omega)
        have HBG := Aside0.mk hbG
        clear hbA hob hbG
        have HRW := Aside0.mk (And.intro hrw hnew)
        have HSZ := Aside0.mk (And.intro hVs (And.intro hWs HI.out.2.2.2.2))
        clear hrw hnew hVs hWs
        have HFR := Aside0.mk (And.intro (List.find?_some hpick) hpick)
        clear HX2 hti hall hWd r3 hgi r1 r2 hRW hput hpick
        gi_wp2_with (first
          | (refine ⟨trivial, rfl, ?_⟩; gi_at_call 48; refine (callsIn_wide.2 HX3.out).mono ?_; rintro e w1 ⟨rfl, hdr⟩; obtain ⟨nn, hnn⟩ := hdr.out; subst hnn; clear hdr)
          | (gi_at_builtin; refine wpListIn_append_own _ rfl _ _ 45 rfl V.heap.size 3 i0 _ 1 8 Tryd.underlying45 hi0 hz0 hz1 hz2 rfl (by decide) v7 out.length (out.map (Value.int .i64)) rfl (HRW.out.1 nn) ⟨Wr.heap.size, 0, none⟩ 1 1 [.int .i64 (i : Int)] rfl rfl (HRW.out.2 nn) (by simp [Value.oneCell']) (by have := HSZ.out; unfold maxLen; omega) (by have := HSZ.out; omega) (by have := HSZ.out; simp; omega) ?_; intro v' w1 hown hgrow _; have HOW := Aside0.mk (And.intro hown hgrow); have hbw1 := HBG.out nn w1 hgrow; have c1 := (hbw1.cell (World.block_lt_of_cell? w _ HQ.out.2.2.2.2.2.1)).trans HQ.out.2.2.2.2.2.1; have c2 := (hbw1.cell (World.block_lt_of_cell? w _ HQ.out.2.2.2.2.2.2)).trans HQ.out.2.2.2.2.2.2; have HBW1 := Aside0.mk hbw1; clear hown hgrow hbw1)
          | (refine ⟨trivial, rfl, ?_⟩; gi_at_call 47; refine (all_walk Fence.wide _ trivial rfl _ _ _ _).mono ?_; rintro e w2 ⟨rfl, hw_⟩; subst w2))
        have hlen8 : ws.length ≤ 8 := by have h1 := HQ.out.2.2.1.len; have h2 := hN.1.row i hiN; omega
        have hal := below_alloc (Below.refl w1.heap.size w1) (.cells #[.slice (some ⟨gi, 0, none⟩) ws.length ci] 77)
        have hbox := World.alloc_heap_new w1 (.cells #[.slice (some ⟨gi, 0, none⟩) ws.length ci] 77)
        have hsz2 : (w1.alloc (.cells #[.slice (some ⟨gi, 0, none⟩) ws.length ci] 77)).heap.size = w1.heap.size + 1 := by simp
        have hb2 : Below w.heap.size w (w1.alloc (.cells #[.slice (some ⟨gi, 0, none⟩) ws.length ci] 77)) := below_then HBW1.out HBW1.out.size hal
        have hgw : w.heap.size < w1.heap.size := by have := HOW.out.2.size; have := HSZ.out; simp at *; omega
        have hgil : gi < w.heap.size := by have := HQ.out.2.2.2.2.1; omega
        have hcells : ∀ j, j < ws.length → (w1.alloc (.cells #[.slice (some ⟨gi, 0, none⟩) ws.length ci] 77)).cell? ⟨gi, j, none⟩ = some (.int .u64 (ws.getD j 0)) := fun j hj => (hb2.cell (p := ⟨gi, j, none⟩) hgil).trans (HQ.out.2.2.2.1 j hj)
        have hL2 : LeftAt (w1.alloc (.cells #[.slice (some ⟨gi, 0, none⟩) ws.length ci] 77)) w.heap.size N ((leftF N At told).set i (-1)) := by
          have hob := own_base HW.out.2.1
          have hs := HSZ.out
          refine ⟨blk_alloc (blk_grown (blk_alloc (HPT.out nn) _) HOW.out.2 (fun e => by have := hob _ e.symm; omega)) _, blk_alloc (blk_grown (blk_alloc ((Below.heap_setCell (Wr.drewN nn) ⟨w.heap.size, i, none⟩ _ (w.heap.size + 1) (by show w.heap.size + 1 ≠ w.heap.size; omega)).trans HW.out.1.2.1) _) HOW.out.2 (fun e => by have := hob _ e.symm; omega)) _, by rw [List.length_set, leftF_len]⟩
        have hO2 : IRow (w1.alloc (.cells #[.slice (some ⟨gi, 0, none⟩) ws.length ci] 77)) V.heap.size v' (out ++ [(i : Int)]) := by
          have h1 : IRow w1 V.heap.size v' (out ++ [(i : Int)]) := by
            unfold IRow
            rw [List.length_append, List.length_singleton, List.map_append]
            exact HOW.out.1
          exact h1.step fun k hk => hal.block k (own_lt h1 k hk)
        have hM2 : Marks V.heap.size Ds (w1.alloc (.cells #[.slice (some ⟨gi, 0, none⟩) ws.length ci] 77)) := HM.out.keep (fun k o hk ho hc => by
          have hkw : k < Wr.heap.size := (Array.getElem?_eq_some_iff.1 ho).1
          have hs := HSZ.out
          have e1 := (Below.heap_setCell (Wr.drewN nn) ⟨w.heap.size, i, none⟩ (.int .i64 (-1)) k (by show k ≠ w.heap.size; omega)).trans ho
          have e2 := blk_alloc e1 (.cells #[.int .i64 (i : Int)] 3)
          have e3 := blk_grown e2 HOW.out.2 (fun e => by
            obtain ⟨_, hcc⟩ := own_typed HW.out.2.1 k e.symm
            rw [ho] at hcc
            cases hcc
            cases hc)
          exact blk_alloc e3 _)
        have HZ := Aside0.mk (And.intro hL2 (And.intro hO2 (And.intro hM2 (And.intro hb2 (And.intro hsz2 hgw)))))
        have hit : Iter 0 Tryd.prog 59 #[.pointer (some ⟨w1.heap.size, 0, none⟩)] (fun x : Nat => #[.int .i64 (x : Int)]) (Quiet w.heap.size (w.heap.size + 2)) (trues (At.getD i [])) (w1.alloc (.cells #[.slice (some ⟨gi, 0, none⟩) ws.length ci] 77)) := fun l J Jx W hB hWs hJ hJx hY h0 =>
          all_any 0 w1.heap.size w.heap.size gi ci ws (At.getD i []) _ (Quiet w.heap.size (w.heap.size + 2)) (fun A B h => h.below) HQ.out.2.2.1 hlen8 ((blk_cell hbox 0).trans rfl) hcells hgil hb2.size (HG.out.below h0w hb2) h0w l J Jx W hB (fun pre x W1 hj hx => (hY pre x W1 hj hx).mono fun e W' h => h.2) h0
        clear hal hbox hcells hL2 hO2 hM2 hsz2 c1 c2 hb2 hlen8 hgil
        generalize w1.alloc (.cells #[.slice (some ⟨gi, 0, none⟩) ws.length ci] 77) = V2 at hit HZ ⊢
        have hDs : ∀ D ∈ Ds, D < V2.heap.size := fun D hD => HZ.out.2.2.1.lt hD
        refine wp_iter (encs := fun x : Nat => #[.int .i64 (x : Int)]) (Kp := Quiet w.heap.size (w.heap.size + 2)) rfl (enters_of Tryd.func59 (by kernel_rfl) rfl) hit Quiet.trans (fun X o o' ho hc => Quiet.put o' (by have := HZ.out.2.2.2.1.size; omega) ho hc) (fun _ => rfl)
          (fun pre X => (LeftAt X w.heap.size N (decAll pre ((leftF N At told).set i (-1))) ∧ IRow X V.heap.size v' (out ++ [(i : Int)]) ∧ Below w.heap.size w X) ∧ ∀ D ∈ Ds, X.heap[D]? = some (.deferred (some []))) (fun _ _ _ => False)
          (fun s A B row ⟨⟨⟨g1, g2, g3⟩, h2, h3⟩, h5⟩ hg hr => ⟨⟨⟨(grownBy_keeps_cells hg (fun r e => (hr r e).2) g1 rfl).trans g1, (grownBy_keeps_cells hg (fun r e => (hr r e).2) g2 rfl).trans g2, g3⟩, h2.step fun k hk => by obtain ⟨cells, hc⟩ := own_typed h2 k hk; exact grownBy_keeps_cells hg (fun r e => (hr r e).2) hc rfl, h3.grown hg h3.size (fun k e => by have := (hr k e).1; have := HZ.out.2.2.2.1.size; omega)⟩, fun D hD => (hg.block D (Array.getElem?_eq_some_iff.1 (h5 D hD)).1 (fun e => by have := (hr D e.symm).1; have := hDs D hD; omega)).trans (h5 D hD)⟩)
          (fun _ _ _ _ _ hs _ _ => hs) ⟨⟨HZ.out.1, HZ.out.2.1, HZ.out.2.2.2.1⟩, fun D hD => (HZ.out.2.2.1.2 D hD).2⟩
          (fun x a' _ => a' = { tmps := #[Value.pointer (some { block := p, off := 0 }), undef, Value.slice none 0 0, Value.bool false, Value.pointer (some { block := w.heap.size + 1, off := 0 }), undef, undef, v', Value.int IntKind.i64 (i : Int), .int .i64 (x : Int), Value.pointer (some { block := p, off := 0 }), Value.int IntKind.i64 (N : Int), Value.slice (some { block := w.heap.size, off := 0 }) N N, Value.pointer (some { block := p, off := 0 }), Value.func (Fn.func 58) #[] #[Value.pointer (some { block := w.heap.size + 1 + 1, off := 0 })], undef, undef, undef, undef, undef, undef, undef, undef, Value.slice (some { block := w.heap.size, off := 0 }) N N, Value.int IntKind.i64 (N : Int), Value.int IntKind.i64 (d : Int), Value.bool true, Value.slice (some { block := w.heap.size, off := 0 }) N N, Value.int IntKind.i64 (i : Int), Value.int IntKind.i64 (i : Int), Value.bool (decide ((i : Int) < 0)), Value.slice (some { block := w.heap.size, off := 0 }) N N, Value.int IntKind.i64 (i : Int), Value.pointer (some { block := w.heap.size, off := i }), v7, Value.int IntKind.i64 (i : Int), Value.slice (some { block := Wr.heap.size, off := 0 }) 1 1, v', Value.pointer (some { block := p, off := 0 }), Value.pointer (some { block := p, off := 0 }), Value.pointer (some { block := p, off := 0 }), Value.slice (some ad) N cap, Value.int IntKind.i64 (i : Int), Value.pointer (some (ad.add i)), Value.slice (some { block := gi, off := 0 }) ws.length ci, Value.func (Fn.func 59) #[] #[Value.pointer (some { block := w1.heap.size, off := 0 })], .int .i64 (x : Int), u47, u48, u49, u50, u51, u52, u53, undef], defers := [] })
          (fun _ _ _ _ _ _ hs _ _ => hs)
          ?assign2 ?body2 ?done2 ?stop2
        case stop2 =>
          rintro D c pre X hD hpre h hdd
          exact h.elim
        case assign2 =>
          intro l2 pre x X K hI hK
          gi_wp2
          exact hK _ _ (KeepsFrom.refl _ _) (Quiet.refl _ _ _) hI rfl
        case body2 =>
          rintro l2 pre x a' X hl ⟨r, hr⟩ ⟨⟨⟨g1, g2, g3⟩, hO, hBX⟩, hDX⟩ rfl ⟨q, hq⟩
          have hall' : ∀ b ∈ trues (At.getD i []), b < N := fun b hb => (at2_lt hN.1 (show at2 At i b = true from mem_trues.1 hb)).2
          have hxN : x < N := hall' x (by rw [← hq]; simp)
          have hxz : (x : Int) < (N : Int) := by omega
          have hz0 := (decAll_spec pre ((leftF N At told).set i (-1)) (fun b hb => by rw [List.length_set, leftF_len]; exact hall' b (by rw [← hq]; simp [hb]))).2 x
          have hcn : (pre.count x : Int) ≤ 512 := by
            have h1 := List.count_le_length (a := x) (l := pre)
            have h2 := congrArg List.length hq
            have h3 : (trues (At.getD i [])).length ≤ N := by
              unfold trues
              have := List.length_filter_le (fun j => (At.getD i []).getD j false) (List.range (At.getD i []).length)
              rw [List.length_range, hN.1.row i hiN] at this
              rwa [hN.1.row i hiN]
            rw [List.length_append, List.length_cons] at h2
            omega
          have hzL : -1 ≤ ((leftF N At told).set i (-1)).getD x 0 ∧ ((leftF N At told).set i (-1)).getD x 0 ≤ 512 := by
            have hcf : cntF N At told x ≤ N := by unfold cntF; have := List.length_filter_le (fun a => !told.getD a false && at2 At a x) (List.range N); rwa [List.length_range] at this
            have hgx := leftF_getD (At := At) (told := told) hxN
            rw [List.getD_eq_getElem?_getD, List.getElem?_set]
            rw [List.getD_eq_getElem?_getD] at hgx
            by_cases e : i = x
            · rw [if_pos e, leftF_len, if_pos hiN]; simp
            · rw [if_neg e, hgx]; split <;> omega
          have cx : X.cell? ⟨w.heap.size + 1, 0, none⟩ = some (.slice (some ⟨w.heap.size, 0, none⟩) N N) := (blk_cell g2 0).trans rfl
          have cy : X.cell? ⟨w.heap.size, x, none⟩ = some (.int .i64 ((decAll pre ((leftF N At told).set i (-1))).getD x 0)) := (blk_cell g1 x).trans (ints_get _ _ (by omega))
          have fy := blk_frozen g1 x
          have hput := blk_put g1 x (.int .i64 ((decAll pre ((leftF N At told).set i (-1))).getD x 0 - 1)) (ints_set _ _ _)
          rw [← decAll_snoc] at hput
          have hlz : (decAll (pre ++ [x]) ((leftF N At told).set i (-1))).length = N := by rw [decAll_snoc, List.length_set]; exact g3
          generalize hzz : (decAll pre ((leftF N At told).set i (-1))).getD x 0 = z at cy hput hz0
          have hzp : -600 ≤ z := by omega
          have hzq : z ≤ 600 := by omega
          have hob := own_base hO
          have hs := HSZ.out
          have HP := Aside0.mk (And.intro hput (And.intro g2 (And.intro hlz (And.intro g1 (And.intro hO (And.intro hob hDX))))))
          clear hzz hz0 hcn hzL hput hlz g1 g2 g3 hO hob hDX hall' hq hit
          gi_wp2
          exact ⟨(KeepsOthers.setCell _ _ _).from _, Quiet.set (p := ⟨w.heap.size, x, none⟩) HP.out.2.2.2.1 (Nat.le_refl _) (.inl (by show w.heap.size < w.heap.size + 2; omega)) _, ⟨⟨HP.out.1, (Below.heap_setCell X _ _ (w.heap.size + 1) (by show w.heap.size + 1 ≠ w.heap.size; omega)).trans HP.out.2.1, HP.out.2.2.1⟩, HP.out.2.2.2.2.1.step fun k hk => Below.heap_setCell X _ _ k (by have := HP.out.2.2.2.2.2.1 k hk; show k ≠ w.heap.size; omega), hBX.setCell (Nat.le_refl _) _⟩, fun D hD => (Below.heap_setCell X _ _ D (by have := (HZ.out.2.2.1.2 D hD).1; show D ≠ w.heap.size; omega)).trans (HP.out.2.2.2.2.2.2 D hD)⟩
        case done2 =>
          rintro D X hD ⟨⟨hL, hO, hB⟩, hDX⟩ hdd
          rw [left_step hN.1 HI.out.1 HFR.out.1 hiN HI.out.2.2.1] at hL
          have hzs := HZ.out.2.2.2.1.size
          have hVX : V.heap.size ≤ X.heap.size := by have h1 := (Array.getElem?_eq_some_iff.1 hdd).1; have h2 := HSZ.out; have h3 := HZ.out.2.2.2.2; have h4 := HOW.out.2.size; simp at h4; omega
          have hDV : V.heap.size ≤ D := by have h2 := HSZ.out; have h3 := HZ.out.2.2.2.2; have h4 := HOW.out.2.size; simp at h4; omega
          have hMX : Marks V.heap.size (D :: Ds) X := Marks.cons ⟨HZ.out.2.2.1.1, fun E hE => ⟨(HZ.out.2.2.1.2 E hE).1, hDX E hE⟩⟩ hDV (fun hin => by have := hDs D hin; omega) hdd
          have hg : ∀ a, (told.set i true).getD a false = if a = i then true else told.getD a false := fun a => getD_set _ _ _ (by have := HI.out.1; omega)
          have hI2 : Aside0 ((told.set i true).length = N ∧ unmet (told.set i true) = N - (d + 1) ∧ (∀ j a, (told.set i true).getD j false = true → at2 At a j = true → (told.set i true).getD a false = true) ∧ orderL N At (N - (d + 1)) (told.set i true) (out ++ [(i : Int)]) = orderF N At ∧ (out ++ [(i : Int)]).length = d + 1) := by
            refine ⟨by rw [List.length_set]; exact HI.out.1, ?_, fun j a hj hat => ?_, ?_, by rw [List.length_append, List.length_singleton, HI.out.2.2.2.2]⟩
            · have h1 := unmet_set told i (by have := HI.out.1; omega) HQ.out.1
              have h2 := HI.out.2.1
              omega
            · rw [hg] at hj ⊢
              by_cases e : a = i
              · rw [if_pos e]
              · rw [if_neg e]
                by_cases e2 : j = i
                · subst e2
                  exact HQ.out.2.1 a (at2_lt hN.1 hat).1 hat
                · rw [if_neg e2] at hj
                  exact HI.out.2.2.1 j a hj hat
            · have := HI.out.2.2.2.1
              rw [show N - d = (N - (d + 1)) + 1 by omega, orderL, HFR.out.2, Option.bind_some] at this
              exact this
          clear hit hg hzs
          gi_wp2
          refine ⟨⟨d + 1, told.set i true, out ++ [(i : Int)], v', _, _, _, _, _, _, _, _, _, _, _, _, _, _, _, _, _, _, _, _, _, _, _, _, _, _, _, _, _, _, D :: Ds, rfl, hlt, hI2, ⟨hL, hO, hB⟩, ⟨hMX⟩, ⟨hVX⟩⟩, ?_⟩
          show N - ((d : Int) + 1).toNat < N - ((d : Int)).toNat
          clear hMX hL hI2
          omega
    · obtain rfl : d = N := by omega
      gi_wp2
      have hso : orderF d At = some out := by
        have := HI.out.2.2.2.1
        rw [Nat.sub_self, orderL] at this
        exact this.symm
      exact leaves_marks (B := V.heap.size) (fun Y => IRow Y V.heap.size v7 out ∧ Below w.heap.size w Y) (fun Y E hE hd ⟨h1, h2⟩ => ⟨h1.gone hd, h2.grown (grownBy_putObj' Y E _) h2.size (fun k e => by cases e; have := HX.out.2.2.2; omega)⟩) (fun Y ⟨h1, h2⟩ => ⟨_, results_tmp2 rfl _ _ _, v7, by rw [hso]; rfl, by rw [hso]; exact own_weaken h1 (by have := HX.out.2.2.2; omega), h2⟩) Ds _ HM.out ⟨HW.out.2.1, HW.out.2.2⟩
  case stop =>
    rintro D c pre X hD hpre h hdd
    exact h.elim
attribute [local go_sem] Oper.semAt_some
theorem acyclic_walk {lo hi N : Nat} {pv : Option Addr} {At : List (List Bool)} (w : World) (hR : RelV w lo hi pv N At) (hhi : hi ≤ w.heap.size) (hG : TabLaid w) :
    Calls Tryd.prog 32 #[.pointer pv] w fun e w' => e = .returned (.bool (orderF N At).isSome) ∧ Below w.heap.size w w' := by
  have HO := Aside0.mk (order_walk w hR hhi hG)
  clear hR hG
  go_enter Tryd.func32, Tryd.ntmps32
  go_wp2_with (first | (go_at_call 26; refine HO.out.mono ?_; rintro e w1 ⟨v, rfl, _, hb⟩; have HB := Aside0.mk hb; clear hb))
  go_ret
  exact ⟨rfl, HB.out⟩
end Go.Proofs.YtoieemaheadjdaaDoor.PRel
