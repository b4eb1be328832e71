/- A relation without pairs is made. Written by an AI agent in this seat's session; checked by Lean alone. No axiom, no sorry. -/
import Derived.Test.YtoieemaheadjdaaDoorRelP
import Derived.RegionTactic
import Derived.ChangeAlike
import Derived.BigRegion
import Derived.BigQuiet
import Derived.Deep.QuietTactic
import Derived.Test.YtoieemaheadjdaaDoorRbc
namespace Go.Proofs.YtoieemaheadjdaaDoor.PRel
open Go.RowKit Go.Proofs.YtoieemaheadjdaaDoorW.PrintWords Go.Proofs.YtoieemaheadjdaaDoorW.PrintLast Go.Proofs.YtoieemaheadjdaaDoorW.PrintMore Go.Proofs.YtoieemaheadjdaaDoor.PRelOrders
set_option linter.unusedVariables false
set_option linter.unusedSimpArgs false
attribute [local go_sem] max2_int min2_int max_two min_two
def clampN (n : Int) : Nat := (if n < 0 then 0 else if 512 < n then 512 else n).toNat
theorem clamp_le (n : Int) : clampN n ≤ 512 := by unfold clampN; split <;> (try split) <;> omega
theorem clamp_mn (n : Int) : mn (mx n 0) 512 = (clampN n : Int) := by unfold mn mx clampN; split <;> split <;> (try split) <;> (try split) <;> omega
/-- A row that make has laid. -/
theorem made_R {α : Type} {enc : α → Value} {h1 : ∀ x, (enc x).oneCell' = true} (W : World) (base n e : Nat) (x0 : α) (hn : n ≤ maxLen) (hb : base ≤ W.heap.size) :
    (Kd.scalar enc h1).R e (W.alloc (.cells (madeCells #[enc x0] n) e)) base (fun k => k = W.heap.size) (.slice (some ⟨W.heap.size, 0, none⟩) n n) (List.replicate n x0) := by
  refine Kd.R_of_own ⟨by simp [encs], .inr ⟨W.heap.size, n, madeCells #[enc x0] n, by rw [List.length_replicate], hb, World.alloc_heap_new W _, by simp, hn, by rw [size_madeCells]; omega, ?_⟩⟩ (fun k hk => by simpa [Value.ownBlock] using hk.symm)
  rw [toList_madeCells_one]
  simp [encs]
theorem made_S {α : Type} (d : Kd α) (W : World) (base n e e2 : Nat) (hn : n ≤ maxLen) (hb : base ≤ W.heap.size) :
    Kd.S (Kd.slice e2 d) e (W.alloc (.cells (madeCells #[.slice none 0 0] n) e)) base (fun k => k = W.heap.size) (.slice (some ⟨W.heap.size, 0, none⟩) n n) (List.replicate n []) := by
  refine Kd.S_bare ⟨fun k hk => by simpa [Value.ownBlock] using hk.symm, List.replicate n (.slice none 0 0), ⟨by simp [Kd.bare, Kd.slice], .inr ⟨W.heap.size, n, madeCells #[.slice none 0 0] n, by rw [List.length_replicate], hb, World.alloc_heap_new W _, by simp, hn, by rw [size_madeCells]; simp [Kd.bare, Kd.slice], ?_⟩⟩, ?_⟩
  · rw [toList_madeCells_one]; simp [Kd.bare, Kd.slice]
  · have := Kd.reps_made (R := (Kd.bare (Kd.slice e2 d)).M (W.alloc (.cells (madeCells #[.slice none 0 0] n) e)) base (fun k => k = W.heap.size ∧ some k ≠ (Value.slice (some ⟨W.heap.size, 0, none⟩) n n).ownBlock)) (z := .slice none 0 0) (size := 1) (z0 := ([] : List α)) rfl (by decide) ⟨_, rfl, Kd.R_nil _ _ _ _ _⟩ n
    rwa [show (madeCells (Value.slice none 0 0).cells (n * 1)).toList = List.replicate n (.slice none 0 0) by rw [Nat.mul_one]; exact toList_madeCells_one _ _] at this
theorem words_num (N : Nat) (h : N ≤ 512) : wrap64 ((wrap64 (wrap64 ((N : Int) + 64) - 1)).tdiv 64) = (((N + 63) / 64 : Nat) : Int) := by
  have h1 : wrap64 ((N : Int) + 64) = (N : Int) + 64 := by unfold wrap64; omega
  have h2 : wrap64 ((N : Int) + 64 - 1) = (N : Int) + 63 := by unfold wrap64; omega
  rw [h1, h2, Int.tdiv_eq_ediv_of_nonneg (by omega)]
  unfold wrap64; omega
/-- A new row put in its place. -/
theorem new_row {W : World} {base g N cap m : Nat} {l : List (List Int)} (hS : Kd.S (Kd.slice 101 (Kd.int .u64)) 77 W base (fun _ => True) (.slice (some ⟨g, 0, none⟩) N cap) l) {j : Nat} (hj : j < N) (hb : base ≤ W.heap.size) (hm : m ≤ maxLen) :
    Kd.S (Kd.slice 101 (Kd.int .u64)) 77 ((W.alloc (.cells (madeCells #[.int .u64 0] m) 101)).setCell ⟨g, j, none⟩ (.slice (some ⟨W.heap.size, 0, none⟩) m m)) base (fun _ => True) (.slice (some ⟨g, 0, none⟩) N cap) (l.set j (List.replicate m 0)) := by
  have hg : g < W.heap.size := Kd.S_lt hS g (by simp [Value.ownBlock])
  have h1 := Kd.S_mono (Kd.S_bound hS) (ok' := fun k => True ∧ ¬ (k = W.heap.size)) (fun k hk => ⟨trivial, by have := hk.2.2.1; omega⟩)
  have h2 := Kd.S_alloc h1 (.cells (madeCells #[.int .u64 0] m) 101)
  obtain ⟨oki, c, hcl, hM, hcc, hfr, hoki, hH⟩ := Kd.S_elem h2 [] (j : Int) (by omega) (by omega)
  have hR := made_R (enc := Value.int .u64) (h1 := fun _ => rfl) W base m 101 0 hm hb
  have hc1 : c.length = 1 := hcl
  have h3 := (Kd.S_seg (okg := fun k => k = W.heap.size) hH (by omega) (by omega) (seg := [.slice (some ⟨W.heap.size, 0, none⟩) m m]) (j := 0) (okp := fun k => k = W.heap.size) (x' := List.replicate m 0) (by show 0 + 1 ≤ 1; omega)
    (by
      have : c.take 0 ++ [Value.slice (some ⟨W.heap.size, 0, none⟩) m m] ++ c.drop (0 + [Value.slice (some ⟨W.heap.size, 0, none⟩) m m].length) = [Value.slice (some ⟨W.heap.size, 0, none⟩) m m] := by
        rw [List.take_zero, List.nil_append, List.drop_eq_nil_of_le (by simp [hc1]), List.append_nil]
      rw [this]
      exact Kd.M_row hR) (fun k hk => .inr hk) (fun k hk => ⟨trivial, by omega⟩)).1
  rw [Int.toNat_natCast] at h3
  have e : ((j : Nat) * (Kd.slice 101 (Kd.int .u64)).sz + 0) = j := by show j * 1 + 0 = j; omega
  rw [e] at h3
  exact h3
theorem fill_row (l : List (List Int)) (N j m : Nat) (hj : j < N) : (List.replicate j (List.replicate m (0 : Int)) ++ List.replicate (N - j) []).set j (List.replicate m 0) = List.replicate (j + 1) (List.replicate m 0) ++ List.replicate (N - (j + 1)) [] := by
  rw [List.set_append_right _ _ (by simp), List.length_replicate, Nat.sub_self]
  obtain ⟨d, hd⟩ : ∃ d, N - j = d + 1 := ⟨N - j - 1, by omega⟩
  rw [hd, List.replicate_succ, List.set_cons_zero, show N - (j + 1) = d by omega, List.replicate_succ' (n := j), List.append_assoc]
  rfl
set_option maxRecDepth 100000 in
set_option maxHeartbeats 4000000 in
theorem new_walk (n : Int) (w : World) :
    Calls Tryd.prog 12 #[.int .i64 n] w fun e w' => ∃ p, e = .returned (.pointer (some ⟨p, 0, none⟩)) ∧ RelW w' w.heap.size w'.heap.size p (clampN n) (tab0 (clampN n)) ∧ Below w.heap.size w w' := by
  have hu := Tryd.underlying75
  have hN := clamp_le n
  obtain ⟨a, ha⟩ : ∃ a : Int, (if n < 0 then 0 else n) = a := ⟨_, rfl⟩
  have hcl : (if 512 < a then 512 else a) = (clampN n : Int) := by unfold clampN; subst ha; split <;> split <;> (try split) <;> omega
  generalize clampN n = N at hN hcl ⊢
  have hmk1 := run_make_row' (P := Tryd.prog) 73 77 (.slice none 0 0) 24 Tryd.underlying73 info77 rfl .i64 .i64 N (by omega) (by omega)
  have hq := words_num N hN
  have hm5 : (N + 63) / 64 ≤ 8 := by omega
  obtain ⟨m, hm⟩ : ∃ m, (N + 63) / 64 = m := ⟨_, rfl⟩
  rw [hm] at hq hm5
  have hmk2 := run_make_row' (P := Tryd.prog) 77 101 (.int .u64 0) 8 Tryd.underlying77 info101 rfl .i64 .i64 m (by clear hm hq; omega) (by clear hm hq; omega)
  go_enter Tryd.func12, Tryd.ntmps12
  go_upto_region 2 with (simp only [ha, hcl])
  go_upto_region 3 with (fail)
  have hb1 : Below w.heap.size w (w.alloc (.cells (madeCells #[.slice none 0 0] N) 77)) := below_alloc (Below.refl _ w) _
  have hS0 := Kd.S_alloc (Kd.S_mono (ok' := fun _ => True) (made_S (Kd.int .u64) w w.heap.size N 77 101 (by unfold maxLen; omega) (Nat.le_refl _)) (fun _ _ => trivial)) (.cells #[.slice (some ⟨w.heap.size, 0, none⟩) N N] 75)
  have hb2 : Below w.heap.size w ((w.alloc (.cells (madeCells #[.slice none 0 0] N) 77)).alloc (.cells #[.slice (some ⟨w.heap.size, 0, none⟩) N N] 75)) := below_alloc hb1 _
  have hp0 := World.alloc_heap_new (w.alloc (.cells (madeCells #[.slice none 0 0] N) 77)) (.cells #[.slice (some ⟨w.heap.size, 0, none⟩) N N] 75)
  rw [World.size_alloc] at hp0
  have hsz : w.heap.size + 1 < ((w.alloc (.cells (madeCells #[.slice none 0 0] N) 77)).alloc (.cells #[.slice (some ⟨w.heap.size, 0, none⟩) N N] 75)).heap.size := by simp
  generalize (w.alloc (.cells (madeCells #[.slice none 0 0] N) 77)).alloc (.cells #[.slice (some ⟨w.heap.size, 0, none⟩) N N] 75) = W0 at hS0 hb2 hp0 hsz ⊢
  clear hb1 ha hcl hmk1
  have hc0 : W0.cell? ⟨w.heap.size + 1, 0, none⟩ = _ := (blk_cell hp0 0).trans rfl
  have HS0 := Aside0.mk hS0
  have HB0 := Aside0.mk hb2
  have HP0 := Aside0.mk hp0
  clear hS0 hb2 hp0
  go_upto_region 4 with (fail)
  clear hc0
  go_loopg [4, 17] N (fun gg v4 v17 wr => ∃ (j : Nat), j ≤ N ∧ N - j ≤ gg ∧ v17 = .int .i64 (j : Int) ∧ Aside0 (wr.heap[w.heap.size + 1]? = some (.cells #[.slice (some ⟨w.heap.size, 0, none⟩) N N] 75 (0, 0))) ∧ Aside0 (Kd.S (Kd.slice 101 (Kd.int .u64)) 77 wr w.heap.size (fun _ => True) (.slice (some ⟨w.heap.size, 0, none⟩) N N) (List.replicate j (List.replicate m 0) ++ List.replicate (N - j) [])) ∧ Aside0 (Below w.heap.size w wr))
  case atStart => exact ⟨0, Nat.zero_le _, by omega, rfl, HP0, ⟨by simpa using HS0.out⟩, HB0⟩
  case round =>
    clear HS0 HB0 HP0
    obtain ⟨j, hj, hgg, rfl, HP, HS, HB⟩ := hrel
    by_cases hlt : j < N
    · have hltz : (j : Int) < (N : Int) := by omega
      have hc0 : wr.cell? ⟨w.heap.size + 1, 0, none⟩ = _ := (blk_cell HP.out 0).trans rfl
      obtain ⟨oki, c, hcl, hM, hcc, hfr, hoki, hH⟩ := Kd.S_elem HS.out [] (j : Int) (by omega) (by omega)
      have hcj : ∃ v, wr.cell? ⟨w.heap.size, j, none⟩ = some v := by
        obtain ⟨u, rfl, _⟩ := hM
        have := hcc 0 _ rfl
        exact ⟨u, by simpa [Kd.slice] using this⟩
      obtain ⟨u0, hcj⟩ := hcj
      have hfj : wr.frozen? ⟨w.heap.size, j, none⟩ = false := by
        have := hfr 0
        simpa [Kd.slice] using this
      have hlt0 := World.block_lt_of_cell? wr _ hc0
      have hlt1 := World.block_lt_of_cell? wr _ hcj
      have hal := below_alloc (Below.refl wr.heap.size wr) (.cells (madeCells #[.int .u64 0] m) 101)
      have hcj1 := (hal.cell hlt1).trans hcj
      have hfj1 := (hal.frozen hlt1).trans hfj
      have hsn := new_row (m := m) HS.out hlt HB.out.size (by unfold maxLen; omega)
      rw [fill_row [] N j m hlt] at hsn
      have hpn : ((wr.alloc (.cells (madeCells #[.int .u64 0] m) 101)).setCell ⟨w.heap.size, j, none⟩ (.slice (some ⟨wr.heap.size, 0, none⟩) m m)).heap[w.heap.size + 1]? = _ := (Below.heap_setCell _ _ _ _ (by show w.heap.size + 1 ≠ w.heap.size; omega)).trans ((hal.block _ hlt0).trans HP.out)
      have hbn := (HB.out.trans (hal.mono HB.out.size)).setCell (p := ⟨w.heap.size, j, none⟩) (Nat.le_refl _) (.slice (some ⟨wr.heap.size, 0, none⟩) m m)
      have HN := Aside0.mk (And.intro hpn (And.intro (Kd.S_drew hsn) (below_drew1 hbn)))
      have hc2 := (hal.cell hlt0).trans hc0
      clear hcl hM hcc hfr hoki hH hsn hpn hbn HS HB HP hcj hfj hal
      go_upto_region 6 with (fail)
      refine start_ (n := 12) (S := fun w' => w'.cell? ⟨w.heap.size + 1, 0, none⟩ = some (.slice (some ⟨w.heap.size, 0, none⟩) N N)) (ds := [11]) (fm_ 12 0) (by kernel_rfl) rfl rfl hc0 (fun hHeld => ?_)
      refine fP (i := 0) (N := some 20) (fm_ 12 1) ?_
      refine fP (i := 1) (N := some 21) (fm_ 12 3) ?_
      refine fP (i := 2) (N := some 22) (fm_ 12 7) ?_
      refine fP (i := 4) (N := some 24) (fm_ 12 23) ?_
      refine fP (i := 5) (N := some 25) (fm_ 12 55) ?_
      refine fP (i := 6) (N := some 26) (fm_ 12 119) ?_
      refine fP (i := 7) (N := some 27) (fm_ 12 247) ?_
      refine fP (i := 8) (N := some 28) (fm_ 12 503) ?_
      refine fT1 (i := 3) (N := some 23) (fm_ 12 511) ?_
      rw [hq]
      refine one_ (i := 9) (N := some 29) (fm_ 12 1023) rfl rfl (by kernel_rfl) (by decide) (fun K hK => ?_)
      refine value_ (w1 := ?_) (v := ?_) (by rfl) rfl ?_ ?_
      rotate_left 2
      · go_simp
        constructor
        · rfl
        · rfl
      refine hK.out _ _ hc2 (fun hHeld2 => ?_)
      clear hK K
      refine norm_ (a' := ?_) ?_ ?_
      rotate_left
      · show Act.put _ (some 29) _ = _
        go_frame <;> try simp only [i64_w, i32_w]
        rfl
      refine fP (i := 10) (N := some 30) (fm_ 12 2047) ?_
      refine last_ (i := 11) (N := none) (fm_ 12 4095) rfl rfl (by kernel_rfl) (by decide) (fun K hK => ?_)
      refine skip_ (w1 := ?_) (by rfl) rfl ?_ ?_
      rotate_left
      · go_simp
        rfl
      refine hK.out _ _ ?_
      clear hK K
      refine done_ (by kernel_rfl) ?_
      obtain ⟨hpn, hsn, hbn⟩ := HN.out
      rw [World.setCell_alloc_past _ _ _ _ hlt1] at hpn hsn hbn
      clear HN hc2 hHeld hHeld2 hcj1 hfj1 hc0 hmk2 hq
      generalize (wr.setCell ⟨w.heap.size, j, none⟩ (.slice (some ⟨wr.heap.size, 0, none⟩) m m)).alloc (.cells (madeCells #[.int .u64 0] m) 101) = W2 at hpn hsn hbn ⊢
      have HP := Aside0.mk hpn
      have HS := Aside0.mk hsn
      have HB := Aside0.mk hbn
      clear hpn hsn hbn
      go_wp2_with (fail)
      go_roundg (N - (j + 1))
      case measure => omega
      case rel => exact ⟨j + 1, by omega, by omega, by first | rfl | (simp; done), ⟨HP.out⟩, ⟨HS.out⟩, ⟨HB.out⟩⟩
    · obtain rfl : j = N := by omega
      go_wp2
      go_ret
      refine ⟨_, rfl, ?_, HB.out⟩
      have hS := HS.out
      rw [Nat.sub_self, List.replicate_zero, List.append_nil] at hS
      have hl := World.block_lt_of_cell? wr _ ((blk_cell HP.out 0).trans rfl : wr.cell? ⟨w.heap.size + 1, 0, none⟩ = _)
      refine ⟨_, _, HP.out, Kd.S_mono (Kd.S_bound hS) (fun k hk => hk.2.2.1), ⟨by omega, hl⟩, by simp, hN, shape_tab0 _, fun a ha => ?_⟩
      rw [show (tab0 j).getD a [] = List.replicate j false by simp [tab0, List.getD_eq_getElem?_getD, ha], show (List.replicate j (List.replicate m (0 : Int))).getD a [] = List.replicate m 0 by simp [List.getD_eq_getElem?_getD, ha], ← hm]
      exact words_none j
end Go.Proofs.YtoieemaheadjdaaDoor.PRel
