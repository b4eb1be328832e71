/- The document's Order: the same list, or none. RelOrders walked. Written by an AI agent in this seat's session; checked by Lean alone. No axiom, no sorry. -/
import Derived.Test.YtoieemaheadjdaaDoorRelP
import Derived.WalkKit
import Derived.BigQuiet
import Derived.OwnWalk
import Derived.Test.YtoieemaheadjdaaDoorRbda
namespace Go.Proofs.YtoieemaheadjdaaDoor.PRel
open Go.RowKit Go.Proofs.YtoieemaheadjdaaDoorW.PrintWords Go.Proofs.YtoieemaheadjdaaDoorW.PrintLast Go.Proofs.YtoieemaheadjdaaDoorW.PrintMore Go.Proofs.YtoieemaheadjdaaDoor.PRelOrders
set_option linter.unusedVariables false
set_option linter.unusedSimpArgs false
attribute [local go_sem] Oper.semAt_some
def toldB (told : List Bool) : Array Value := (told.map Value.bool).toArray
theorem toldB_set (L : List Bool) (b : Nat) (x : Bool) : (toldB L).setIfInBounds b (.bool x) = toldB (L.set b x) := by
  unfold toldB
  rw [List.setIfInBounds_toArray, List.map_set]
theorem toldB_get (L : List Bool) (b : Nat) (hb : b < L.length) : (toldB L)[b]? = some (.bool (L.getD b false)) := by
  unfold toldB
  rw [List.getElem?_toArray, List.getElem?_map, List.getElem?_eq_getElem hb]
  simp [List.getD_eq_getElem?_getD, List.getElem?_eq_getElem hb]
theorem toldB_new (N : Nat) : madeCells #[.bool false] N = toldB (List.replicate N false) := by
  unfold toldB madeCells
  apply Array.ext
  · simp
  · intro i h1 h2
    simp [Nat.mod_one]
theorem irow_slice {W : World} {base : Nat} {v : Value} {l : List Int} (h : IRow W base v l) : ∃ A c, v = .slice A l.length c := by
  obtain ⟨_, ⟨rfl, h0⟩ | ⟨g, cap, cur, rfl, _⟩⟩ := h
  · exact ⟨none, 0, by rw [h0]⟩
  · exact ⟨_, cap, rfl⟩
theorem irow_empty {W : World} {base : Nat} {v : Value} (h : IRow W base v []) : ∃ A c, v = .slice A 0 c := irow_slice h
/-- What the document's Order holds while it goes on. -/
def OS (w0 : World) (lo hi p N : Nat) (At : List (List Bool)) (W : World) (told : List Bool) (v : Value) (out : List Int) : Prop :=
  RefIs W lo hi p N At ∧ W.heap[w0.heap.size]? = some (.cells (toldB told) 4 (0, 0)) ∧ told.length = N ∧ IRow W w0.heap.size v out ∧ (∀ k, v.ownBlock = some k → k ≠ w0.heap.size) ∧ Below w0.heap.size w0 W
theorem OS.set {w0 : World} {lo hi p N : Nat} {At : List (List Bool)} {W : World} {told : List Bool} {v : Value} {out : List Int} (h : OS w0 lo hi p N At W told v out) (hhi : hi ≤ w0.heap.size) {i : Nat} :
    OS w0 lo hi p N At (W.setCell ⟨w0.heap.size, i, none⟩ (.bool true)) (told.set i true) v out := by
  obtain ⟨h1, h2, h3, h4, h5, h6⟩ := h
  have hk : ∀ k, k ≠ w0.heap.size → (W.setCell ⟨w0.heap.size, i, none⟩ (.bool true)).heap[k]? = W.heap[k]? := fun k hk => Below.heap_setCell W ⟨w0.heap.size, i, none⟩ _ k hk
  exact ⟨h1.keep fun k _ hk2 _ => hk k (by omega), blk_put h2 i (.bool true) (toldB_set _ _ _), by rw [List.length_set]; exact h3, h4.step fun k e => hk k (h5 k e), h5, h6.setCell (p := ⟨w0.heap.size, i, none⟩) (Nat.le_refl _) _⟩
theorem OS.app {w0 : World} {lo hi p N : Nat} {At : List (List Bool)} {W w1 : World} {told : List Bool} {v v1 : Value} {out : List Int} {i : Int} (h : OS w0 lo hi p N At W told v out) (hhi : hi ≤ w0.heap.size)
    (ho : w1.ownsRow w0.heap.size 3 1 v1 (out.length + 1) (out.map (Value.int .i64) ++ [.int .i64 i])) (hb : Below w0.heap.size w0 w1) (hg : W.grownBy w1 v.ownBlock) (hn : v1.ownBlock = v.ownBlock ∨ ∃ b, v1.ownBlock = some b ∧ W.heap.size ≤ b) :
    OS w0 lo hi p N At w1 told v1 (out ++ [i]) := by
  obtain ⟨h1, h2, h3, h4, h5, h6⟩ := h
  have hlt : w0.heap.size < W.heap.size := (Array.getElem?_eq_some_iff.1 h2).1
  refine ⟨h1.keep fun k _ hk2 hk3 => hg.block k hk3 fun e => ?_, blk_grown h2 hg fun e => h5 _ e.symm rfl, h3, ?_, fun k hk => ?_, hb⟩
  · have := own_base h4 k e.symm
    omega
  · unfold IRow
    rw [List.length_append, List.length_singleton, List.map_append]
    exact ho
  · rcases hn with e | ⟨b, e, hbb⟩
    · exact h5 k (by rw [← e]; exact hk)
    · rw [e] at hk
      cases hk
      omega
theorem pick_first {N : Nat} {At : List (List Bool)} {told : List Bool} {i : Nat} (hi : i < N) (hf : freeB N At told i = true) (hb : ∀ j, j < i → freeB N At told j = false) : pickF N At told = some i := by
  unfold pickF
  rw [List.find?_range_eq_some]
  exact ⟨hf, List.mem_range.2 hi, fun j hj => by rw [hb j hj]; rfl⟩
theorem pick_none {N : Nat} {At : List (List Bool)} {told : List Bool} (hb : ∀ j, j < N → freeB N At told j = false) : pickF N At told = none := by
  unfold pickF
  rw [List.find?_eq_none]
  intro j hj
  rw [hb j (List.mem_range.1 hj)]
  decide
/-- Whether a thing is free, as far as the things up to a tell. -/
def freeU (At : List (List Bool)) (told : List Bool) (i a : Nat) : Bool := !told.getD i false && (List.range a).all fun a => told.getD a false || !at2 At a i
theorem freeU_zero (At : List (List Bool)) (told : List Bool) (i : Nat) : freeU At told i 0 = !told.getD i false := by unfold freeU; simp
theorem freeU_succ (At : List (List Bool)) (told : List Bool) (i a : Nat) : freeU At told i (a + 1) = (freeU At told i a && (told.getD a false || !at2 At a i)) := by
  unfold freeU
  rw [List.range_succ, List.all_append]
  simp [Bool.and_assoc]
/-- What the walk over the things has found. -/
def Found (N : Nat) (At : List (List Bool)) (told : List Bool) (out : List Int) (i : Nat) (b : Bool) (told2 : List Bool) (out2 : List Int) : Prop :=
  (b = true ∧ ∃ i0 : Nat, pickF N At told = some i0 ∧ told2 = told.set i0 true ∧ out2 = out ++ [(i0 : Int)]) ∨ (b = false ∧ (∀ j, j < i → freeB N At told j = false) ∧ told2 = told ∧ out2 = out)
set_option maxRecDepth 100000 in
set_option maxHeartbeats 4000000 in
theorem rorder_walk {lo hi p N : Nat} {At : List (List Bool)} (w : World) (hR : RefIs w lo hi p N At) (hhi : hi ≤ w.heap.size) :
    Calls Tryd.prog 29 #[.pointer (some ⟨p, 0, none⟩)] w fun e w' => ∃ v, e = .returned v ∧ IRow w' w.heap.size v ((orderF N At).getD []) ∧ Below w.heap.size w w' := by
  have hu := Tryd.underlying39
  have hsh := hR.shape
  have hN5 := hsh.2
  have hmk := run_make_row' (P := Tryd.prog) 40 4 (.bool false) 1 Tryd.underlying40 info4 rfl .i64 .i64 N (by omega) (by omega)
  have hc0 : w.cell? ⟨p, 0, none⟩ = some (.int .i64 (N : Int)) := by
    obtain ⟨v, h1, _⟩ := hR
    exact (blk_cell h1 0).trans rfl
  have HR := Aside0.mk (And.intro hR (And.intro hsh hhi))
  clear hR hsh hhi
  go_enter Tryd.func29, Tryd.ntmps29
  go_wp2_with (fail)
  have hb1 := below_alloc (Below.refl w.heap.size w) (.cells (madeCells #[.bool false] N) 4)
  have hx1 : (w.alloc (.cells (madeCells #[.bool false] N) 4)).heap[w.heap.size]? = some (.cells (toldB (List.replicate N false)) 4 (0, 0)) := by
    rw [← toldB_new]
    exact World.alloc_heap_new w _
  have hOS : OS w lo hi p N At (w.alloc (.cells (madeCells #[.bool false] N) 4)) (List.replicate N false) (.slice none 0 0) [] := ⟨HR.out.1.grow hb1, hx1, by simp, ⟨rfl, .inl ⟨rfl, rfl⟩⟩, fun k hk => by simp [Value.ownBlock] at hk, hb1⟩
  have HO := Aside0.mk hOS
  clear hOS hb1 hx1 hmk hc0
  generalize w.alloc (.cells (madeCells #[.bool false] N) 4) = V at HO ⊢
  go_loopg [3] N (fun gg v3 wr => ∃ (d : Nat) (told : List Bool) (out : List Int), d ≤ N ∧ N - d ≤ gg ∧ Aside0 (out.length = d ∧ orderL N At (N - d) told out = orderF N At) ∧ Aside0 (OS w lo hi p N At wr told v3 out))
  case atStart => exact ⟨0, _, [], Nat.zero_le _, by omega, ⟨rfl, rfl⟩, HO⟩
  case round =>
    clear HO
    obtain ⟨d, told, out, hd, hgg, HI, HO⟩ := hrel
    have hc0 : wr.cell? ⟨p, 0, none⟩ = some (.int .i64 (N : Int)) := by
      obtain ⟨v, h1, _⟩ := HO.out.1
      exact (blk_cell h1 0).trans rfl
    obtain ⟨A3, c3, e3⟩ := irow_slice HO.out.2.2.2.1
    rw [HI.out.1] at e3
    subst e3
    by_cases hlt : d < N
    · have hltz : (d : Int) < (N : Int) := by omega
      go_wp2_with (fail)
      clear hc0
      go_loopg [3, 5, 6] N (fun gg v3 v5 v6 wr => ∃ (i : Nat) (b : Bool) (told2 : List Bool) (out2 : List Int), i ≤ N ∧ N - i ≤ gg ∧ v6 = .int .i64 (i : Int) ∧ v5 = .bool b ∧ Aside0 (Found N At told out i b told2 out2) ∧ Aside0 (OS w lo hi p N At wr told2 v3 out2))
      case atStart => exact ⟨0, false, told, out, Nat.zero_le _, by omega, rfl, rfl, ⟨.inr ⟨rfl, fun j hj => by omega, rfl, rfl⟩⟩, HO⟩
      case round =>
        clear HO
        obtain ⟨i, b, told2, out2, hiN, hgi, rfl, rfl, HF, HO⟩ := hrel
        have hc0 : wr.cell? ⟨p, 0, none⟩ = some (.int .i64 (N : Int)) := by
          obtain ⟨v, h1, _⟩ := HO.out.1
          exact (blk_cell h1 0).trans rfl
        cases b with
        | true =>
          have hnx : out2.length = d + 1 ∧ orderL N At (N - (d + 1)) told2 out2 = orderF N At := by
            rcases HF.out with ⟨_, i0, hp, rfl, rfl⟩ | ⟨h, _⟩
            · have h2 := HI.out.2
              rw [show N - d = (N - (d + 1)) + 1 by omega, orderL, hp] at h2
              exact ⟨by rw [List.length_append, HI.out.1]; rfl, h2⟩
            · cases h
          have HN := Aside0.mk hnx
          clear hnx
          by_cases hli : i < N
          · have hliz : (i : Int) < (N : Int) := by omega
            go_wp2_with (fail)
            go_roundg (N - (d + 1))
            case measure => omega
            case rel => exact ⟨d + 1, told2, out2, by omega, by omega, HN, HO⟩
          · have hliz : ¬ (i : Int) < (N : Int) := by omega
            go_wp2_with (fail)
            go_roundg (N - (d + 1))
            case measure => omega
            case rel => exact ⟨d + 1, told2, out2, by omega, by omega, HN, HO⟩
        | false =>
          obtain ⟨hbef, rfl, rfl⟩ : (∀ j, j < i → freeB N At told j = false) ∧ told2 = told ∧ out2 = out := by
            rcases HF.out with ⟨h, _⟩ | ⟨_, h⟩
            · cases h
            · exact h
          have HBF := Aside0.mk hbef
          clear hbef HF
          obtain ⟨A4, c4, e4⟩ := irow_slice HO.out.2.2.2.1
          subst e4
          by_cases hli : i < N
          · have hliz : (i : Int) < (N : Int) := by omega
            have hpi : (0 : Int) ≤ (i : Int) := by omega
            have cy : wr.cell? ⟨w.heap.size, i, none⟩ = some (.bool (told2.getD i false)) := (blk_cell HO.out.2.1 i).trans (toldB_get _ _ (by rw [HO.out.2.2.1]; exact hli))
            go_wp2_with (fail)
            clear cy hc0
            go_loopg [7, 8] N (fun gg v7 v8 wr => ∃ (a : Nat), a ≤ N ∧ N - a ≤ gg ∧ v8 = .int .i64 (a : Int) ∧ v7 = .bool (freeU At told2 i a) ∧ Aside0 (OS w lo hi p N At wr told2 (.slice A4 out2.length c4) out2))
            case atStart => exact ⟨0, Nat.zero_le _, by omega, rfl, by rw [freeU_zero, List.getD_eq_getElem?_getD], HO⟩
            case round =>
              clear HO
              obtain ⟨a, ha, hga, rfl, rfl, HO⟩ := hrel
              have hc0 : wr.cell? ⟨p, 0, none⟩ = some (.int .i64 (N : Int)) := by
                obtain ⟨v, h1, _⟩ := HO.out.1
                exact (blk_cell h1 0).trans rfl
              by_cases hla : a < N
              · have hlaz : (a : Int) < (N : Int) := by omega
                have hpa : (0 : Int) ≤ (a : Int) := by omega
                have cy : wr.cell? ⟨w.heap.size, a, none⟩ = some (.bool (told2.getD a false)) := (blk_cell HO.out.2.1 a).trans (toldB_get _ _ (by rw [HO.out.2.2.1]; exact hla))
                obtain ⟨ad, cap, ai, ci, _, e1, e2, e3⟩ := ref_read HO.out.1 (a := (a : Int)) (b := (i : Int)) ⟨hpa, hlaz⟩ ⟨hpi, hliz⟩
                rw [Int.toNat_natCast] at e2 e3
                rw [atB_nat] at e3
                have hsu := freeU_succ At told2 i a
                generalize freeU At told2 i a = f at hsu ⊢
                generalize hta : told2.getD a false = ta at hsu cy
                generalize hat : at2 At a i = at_ at hsu e3
                cases f <;> cases ta <;> cases at_
                all_goals
                  have HS := Aside0.mk hsu
                  clear hsu hta hat
                  go_wp2_with (fail)
                  go_roundg (N - (a + 1))
                  case measure => omega
                  case rel => exact ⟨a + 1, by omega, by omega, by first | rfl | (simp; done) | rw [show wrap64 ((a : Int) + 1) = ((a + 1 : Nat) : Int) by unfold wrap64; omega], by rw [HS.out]; rfl, HO⟩
              · have hlaz : ¬ (a : Int) < (N : Int) := by omega
                have han : a = N := by omega
                subst han
                have hfe : freeU At told2 i a = freeB a At told2 i := rfl
                generalize hf : freeU At told2 i a = f at hfe ⊢
                have HFE := Aside0.mk hfe
                clear hfe hf
                cases f with
                | false =>
                  go_wp2_with (fail)
                  go_roundg (a - (i + 1))
                  case measure => omega
                  case rel => exact ⟨i + 1, false, told2, out2, by omega, by omega, by first | rfl | (simp; done) | rw [show wrap64 ((i : Int) + 1) = ((i + 1 : Nat) : Int) by unfold wrap64; omega], rfl, ⟨.inr ⟨rfl, fun j hj => by
                    by_cases hji : j < i
                    · exact HBF.out j hji
                    · rw [show j = i by omega]; exact HFE.out.symm, rfl, rfl⟩⟩, HO⟩
                | true =>
                  have cy : wr.cell? ⟨w.heap.size, i, none⟩ = some (.bool (told2.getD i false)) := (blk_cell HO.out.2.1 i).trans (toldB_get _ _ (by rw [HO.out.2.2.1]; exact hli))
                  have fy := blk_frozen HO.out.2.1 i
                  go_upto_region 15 with (fail)
                  clear cy fy hc0
                  have HN := Aside0.mk (HO.out.set (i := i) HR.out.2.2)
                  clear HO
                  generalize wr.setCell ⟨w.heap.size, i, none⟩ (.bool true) = ws at HN ⊢
                  go_wp2_with (first | ((with_reducible refine gate_builtin (b := .append) (xs := #[.tmp 70, .tmp 72]) rfl ?_); at_builtin; refine print_append_cells (w0 := w) w.heap.size rfl (.tmp 70) (.tmp 72) 45 3 (.int .i64 0) 1 8 rfl Tryd.underlying45 info3 rfl (by decide) (by decide) _ out2.length (out2.map (Value.int .i64)) [.int .i64 (i : Int)] rfl rfl rfl (by simp [Value.oneCell']) HN.out.2.2.2.1 HN.out.2.2.2.2.2 HN.out.2.2.2.2.2.size (by have := HI.out.1; omega) ?_; intro v1 w1 hown hbel hgr hwh))
                  have HO := Aside0.mk (HN.out.app HR.out.2.2 hown hbel hgr hwh)
                  have hpk : pickF a At told2 = some i := pick_first hli HFE.out.symm HBF.out
                  go_roundg (a - (i + 1))
                  case measure => omega
                  case rel => exact ⟨i + 1, true, told2.set i true, out2 ++ [(i : Int)], by omega, by omega, by first | rfl | (simp; done) | rw [show wrap64 ((i : Int) + 1) = ((i + 1 : Nat) : Int) by unfold wrap64; omega], rfl, ⟨.inl ⟨rfl, i, hpk, rfl, rfl⟩⟩, HO⟩
          · have hliz : ¬ (i : Int) < (N : Int) := by omega
            have hin : i = N := by omega
            have hno : orderF N At = none := by
              have h2 := HI.out.2
              rw [show N - d = (N - (d + 1)) + 1 by omega, orderL, pick_none (fun j hj => HBF.out j (by omega))] at h2
              exact h2.symm
            have HNO := Aside0.mk hno
            clear hno hin
            go_wp2_with (fail)
            go_ret
            exact ⟨_, rfl, by rw [HNO.out]; exact ⟨rfl, .inl ⟨rfl, rfl⟩⟩, HO.out.2.2.2.2.2⟩
    · have hltz : ¬ (d : Int) < (N : Int) := by omega
      have hdn : d = N := by omega
      subst hdn
      go_wp2_with (fail)
      go_ret
      have h2 := HI.out.2
      rw [Nat.sub_self, orderL] at h2
      exact ⟨_, rfl, by rw [← h2]; exact HO.out.2.2.2.1, HO.out.2.2.2.2.2⟩
attribute [local go_sem] Oper.semAt_some
theorem ints_same (l : List Int) (hl : l.length ≤ 1000000) : ∀ d, d ≤ l.length → spinnakerref01_Ints.l0 (d + 1) l l (((l.length - d : Nat) : Int)) = some true
  | 0, _ => by
    unfold spinnakerref01_Ints.l0
    rw [if_neg (by omega)]
  | d + 1, hd => by
    have ih := ints_same l hl d (by omega)
    unfold spinnakerref01_Ints.l0
    rw [if_pos (by omega), if_pos (by omega), if_pos (by omega), if_pos rfl]
    rw [show wrap64 (((l.length - (d + 1) : Nat) : Int) + 1) = ((l.length - d : Nat) : Int) by unfold wrap64; omega]
    exact ih
theorem ints_true (l : List Int) (hl : l.length ≤ 1000000) : spinnakerref01_Ints.f (l.length + 1) l l = some true := by
  unfold spinnakerref01_Ints.f
  rw [if_pos rfl]
  have := ints_same l hl l.length (Nat.le_refl _)
  rwa [Nat.sub_self] at this
theorem irow_reads {W : World} {base : Nat} {v : Value} {l : List Int} (h : IRow W base v l) (hl : l.length ≤ 1000000) : ∃ A c, v = .slice A l.length c ∧ (Kd.int .i64).C W A l.length l ∧ l.length ≤ c := by
  obtain ⟨hl2, ⟨rfl, h0⟩ | ⟨g, cap, cur, rfl, hb, hc, hn, hm, hs, ht⟩⟩ := h
  · refine ⟨none, 0, by rw [h0], ⟨rfl, by omega, fun hp => by omega⟩, by omega⟩
  · refine ⟨_, cap, rfl, ⟨rfl, by omega, fun _ => ⟨_, rfl, fun j p hj => ⟨[.int .i64 p], rfl, rfl, fun i u hu => ?_⟩⟩⟩, by omega⟩
    have hcell : ∀ j u, (l.map (Value.int .i64))[j]? = some u → W.cell? ((⟨g, 0, none⟩ : Addr).add j) = some u := fun j u hj => by
      rw [add_at, Nat.zero_add]
      refine (blk_cell hc j).trans ?_
      rw [← ht, List.getElem?_take] at hj
      split at hj
      · rw [← hj]; simp
      · cases hj
    match i, hu with
    | 0, hu =>
      have e : (Kd.int .i64).sz = 1 := rfl
      have := hcell j (.int .i64 p) (by rw [List.getElem?_map, hj]; rfl)
      rw [e, Nat.mul_one]
      rw [← hu]
      simpa using this
theorem order_no {lo hi N : Nat} {pv : Option Addr} {At : List (List Bool)} (w : World) (hR : RelV w lo hi pv N At) (hhi : hi ≤ w.heap.size) (hG : TabLaid w) (ho : orderF N At = none) :
    Calls Tryd.prog 26 #[.pointer pv] w fun e w' => ∃ A c, e = .returned (.tuple #[.slice A 0 c, .bool false]) ∧ Below w.heap.size w w' := by
  refine (order_walk w hR hhi hG).mono ?_
  rintro e w' ⟨v, he, hi, hb⟩
  rw [ho] at he hi
  obtain ⟨A, c, rfl⟩ := irow_empty hi
  exact ⟨A, c, he, hb⟩
theorem order_yes {lo hi N : Nat} {pv : Option Addr} {At : List (List Bool)} {l : List Int} (w : World) (hR : RelV w lo hi pv N At) (hhi : hi ≤ w.heap.size) (hG : TabLaid w) (ho : orderF N At = some l) :
    Calls Tryd.prog 26 #[.pointer pv] w fun e w' => ∃ v, e = .returned (.tuple #[v, .bool true]) ∧ IRow w' w.heap.size v l ∧ Below w.heap.size w w' := by
  refine (order_walk w hR hhi hG).mono ?_
  rintro e w' ⟨v, he, hi, hb⟩
  rw [ho] at he hi
  exact ⟨v, he, hi, hb⟩
theorem rorder_yes {lo hi p N : Nat} {At : List (List Bool)} {l : List Int} (w : World) (hR : RefIs w lo hi p N At) (hhi : hi ≤ w.heap.size) (ho : orderF N At = some l) :
    Calls Tryd.prog 29 #[.pointer (some ⟨p, 0, none⟩)] w fun e w' => ∃ v, e = .returned v ∧ IRow w' w.heap.size v l ∧ Below w.heap.size w w' := by
  refine (rorder_walk w hR hhi).mono ?_
  rintro e w' ⟨v, he, hi, hb⟩
  rw [ho] at hi
  exact ⟨v, he, hi, hb⟩
theorem orderL_len {N : Nat} {At : List (List Bool)} : ∀ d told out l, orderL N At d told out = some l → l.length = out.length + d
  | 0, _, _, _, h => by
    injection h with h
    rw [h]
    rfl
  | d + 1, told, out, l, h => by
    rw [orderL] at h
    obtain ⟨i, _, h⟩ := Option.bind_eq_some_iff.1 h
    rw [orderL_len d _ _ l h, List.length_append, List.length_singleton]
    omega
theorem orderF_len {N : Nat} {At : List (List Bool)} {l : List Int} (h : orderF N At = some l) : l.length = N := by
  have := orderL_len _ _ _ _ h
  simpa using this
theorem ints_walk {W : World} {b1 b2 : Nat} {v1 v2 : Value} {l : List Int} (h1 : IRow W b1 v1 l) (h2 : IRow W b2 v2 l) (hl : l.length ≤ 1000000) : Calls Tryd.prog 28 #[v1, v2] W fun e w' => e = .returned (.bool true) ∧ Drawn0 W w' := by
  obtain ⟨A, c, rfl, hA, hc⟩ := irow_reads h1 hl
  obtain ⟨B, d, rfl, hB, hd⟩ := irow_reads h2 hl
  exact spinnakerref01_Ints.calls (l.length + 1) A c l B d l true W hA hc hB hd (ints_true l hl)
set_option maxRecDepth 100000 in
set_option maxHeartbeats 1000000 in
theorem relOrders_walk {v : Value} {l : List (Int × Int)} (n : Int) (w : World) (hv : PSees w v l) (hG : TabLaid w) :
    Calls Tryd.prog 5 #[.int .i64 n, v] w fun e w' => e = .returned (.bool true) ∧ Below w.heap.size w w' := by
  have HV := Aside0.mk hv
  have HG := Aside0.mk hG
  clear hv hG
  go_enter Tryd.func5, Tryd.ntmps5
  by_cases hf : n ≤ 80 ∧ l.length ≤ 300
  · have hfb := fewB hf
    have HF := Aside0.mk (And.intro hf hfb)
    clear hfb hf
    go_upto_region 6 with (first
      | (go_at_call 11; refine (few_walk n _ HV.out).mono ?_; rintro e wf ⟨he, hwf⟩; subst wf; rw [HF.out.2] at he; subst he)
      | (go_at_call 15; refine (both_walk n HF.out.1.1 _ HV.out).mono ?_; rintro e wb ⟨p, q, h1, h2, rfl, hB, hbb⟩; have HBB := Aside0.mk (And.intro hB hbb); clear hB hbb)
      | (go_at_call 14; refine (awake_walk _ (HG.out.below HG.out.lt HBB.out.2)).mono ?_; rintro e wa ⟨rfl, hba⟩; have HBA := Aside0.mk hba; clear hba))
    have hWa : Below w.heap.size w wa := below_then HBB.out.2 HBB.out.2.size HBA.out
    have hD : Both wa w.heap.size h1 h2 p q (clampN n) (addI (clampN n) l (tab0 (clampN n))) := ⟨HBB.out.1.1.grow HBA.out, HBB.out.1.2.1.grow HBA.out, HBB.out.1.2.2.1, Nat.le_trans HBB.out.1.2.2.2 HBA.out.size⟩
    generalize addI (clampN n) l (tab0 (clampN n)) = T at hD HBB
    generalize clampN n = N at hD HBB
    have HD := Aside0.mk (And.intro hD (And.intro hWa (HG.out.below HG.out.lt hWa)))
    clear hD hWa HBB HBA
    have hac := acy_loop HD.out.1.2.1.shape.1
    cases ho : orderF N T with
    | none =>
      rw [ho] at hac
      have hlp : loopB N T = true := by
        cases e : loopB N T with
        | true => rfl
        | false => rw [e] at hac; cases hac
      have HP := Aside0.mk (And.intro ho hlp)
      clear ho hlp hac
      go_wp2_with (first
        | (go_at_call 26; refine (order_no _ (.inr ⟨p, rfl, HD.out.1.1⟩) (Nat.le_trans HD.out.1.2.2.1 HD.out.1.2.2.2) HD.out.2.2 HP.out.1).mono ?_; rintro e w1 ⟨A, c, rfl, hb1⟩; have H1 := Aside0.mk hb1; clear hb1)
        | (go_at_call 27; refine (rrounds_walk _ (HD.out.1.2.1.grow H1.out)).mono ?_; rintro e w2 ⟨he, hb2⟩; rw [HP.out.2] at he; subst he; have H2 := Aside0.mk (below_then H1.out H1.out.size hb2); clear hb2))
      go_ret
      exact ⟨by simp, below_then HD.out.2.1 HD.out.2.1.size H2.out⟩
    | some m =>
      rw [ho] at hac
      have hlp : loopB N T = false := by
        cases e : loopB N T with
        | false => rfl
        | true => rw [e] at hac; cases hac
      have hm : m.length ≤ 1000000 := by rw [orderF_len ho]; have := HD.out.1.2.1.shape.2; omega
      have HP := Aside0.mk (And.intro ho (And.intro hlp hm))
      clear ho hlp hac hm
      go_wp2_with (first
        | (go_at_call 26; refine (order_yes _ (.inr ⟨p, rfl, HD.out.1.1⟩) (Nat.le_trans HD.out.1.2.2.1 HD.out.1.2.2.2) HD.out.2.2 HP.out.1).mono ?_; rintro e w1 ⟨v1, rfl, hi1, hb1⟩; have H1 := Aside0.mk (And.intro hi1 hb1); clear hb1 hi1)
        | (go_at_call 27; refine (rrounds_walk _ (HD.out.1.2.1.grow H1.out.2)).mono ?_; rintro e w2 ⟨he, hb2⟩; rw [HP.out.2.1] at he; subst he; have H2 := Aside0.mk hb2; clear hb2)
        | (go_at_call 29; refine (rorder_yes _ ((HD.out.1.2.1.grow H1.out.2).grow H2.out) (Nat.le_trans HD.out.1.2.2.2 (Nat.le_trans H1.out.2.size H2.out.size)) HP.out.1).mono ?_; rintro e w3 ⟨v2, rfl, hi3, hb3⟩; have H3 := Aside0.mk (And.intro hi3 hb3); clear hb3 hi3)
        | (go_at_call 28; refine (ints_walk ((H1.out.1.step fun k hk => H2.out.block k (own_lt H1.out.1 k hk)).step fun k hk => H3.out.2.block k (Nat.lt_of_lt_of_le (own_lt H1.out.1 k hk) H2.out.size)) H3.out.1 HP.out.2.2).mono ?_; rintro e w4 ⟨rfl, hd4⟩; have H4 := Aside0.mk hd4; clear hd4))
      go_ret
      obtain ⟨nn, rfl⟩ := H4.out
      have hbz := below_then (below_then H1.out.2 H1.out.2.size H2.out) (Nat.le_trans H1.out.2.size H2.out.size) H3.out.2
      exact ⟨by simp, pw_below_drewN (below_then HD.out.2.1 HD.out.2.1.size hbz) nn⟩
  · have hfb := fewN hf
    have HF := Aside0.mk (And.intro hf hfb)
    clear hfb hf
    go_wp2_with (first
      | (go_at_call 11; refine (few_walk n _ HV.out).mono ?_; rintro e wf ⟨he, hwf⟩; subst wf; rw [HF.out.2] at he; subst he)
      | (go_at_call 14; refine (awake_walk _ HG.out).mono ?_; rintro e wa ⟨rfl, hba⟩; have HBA := Aside0.mk hba; clear hba))
    go_ret
    exact ⟨rfl, HBA.out⟩
end Go.Proofs.YtoieemaheadjdaaDoor.PRel
