/- The pairs between which a relation leads. Written by an AI agent in this seat's session; checked by Lean alone. No axiom, no sorry. -/
import Derived.Test.YtoieemaheadjdaaDoorRelP
import Derived.WalkKit
import Derived.Test.YtoieemaheadjdaaDoorRbm
namespace Go.Proofs.YtoieemaheadjdaaDoor.PRel
open Go.RowKit Go.Proofs.YtoieemaheadjdaaDoorW.PrintWords Go.Proofs.YtoieemaheadjdaaDoorW.PrintLast Go.Proofs.YtoieemaheadjdaaDoorW.PrintMore Go.Proofs.YtoieemaheadjdaaDoor.PRelOrders
set_option linter.unusedVariables false
set_option linter.unusedSimpArgs false
/-- Two rows, and what joining the one with the other makes. -/
theorem relw_join {w : World} {lo hi p N : Nat} {T : List (List Bool)} (h : RelW w lo hi p N T) {i k : Nat} (hi' : i < N) (hk : k < N) :
    ∃ (ad : Addr) (cap g c h2 c2 : Nat) (ws xs : List Int) (ok : Nat → Prop), w.cell? ⟨p, 0, none⟩ = some (.slice (some ad) N cap) ∧ w.cell? (ad.add i) = some (.slice (some ⟨g, 0, none⟩) ws.length c) ∧ w.cell? (ad.add k) = some (.slice (some ⟨h2, 0, none⟩) ws.length c2) ∧ Words (T.getD i []) ws ∧ Words (T.getD k []) xs ∧ xs.length = ws.length ∧ ws.length ≤ 8 ∧
      (Kd.int .u64).R 101 w lo ok (.slice (some ⟨g, 0, none⟩) ws.length c) ws ∧ (∀ j, j < ws.length → w.cell? ⟨h2, j, none⟩ = some (.int .u64 (xs.getD j 0))) ∧ (lo ≤ g ∧ g < hi) ∧
      ∀ w1, Only g (g + 1) w w1 → (Kd.int .u64).R 101 w1 lo ok (.slice (some ⟨g, 0, none⟩) ws.length c) (orW ws xs) → RelW w1 lo hi p N (T.set i (orB (T.getD i []) (T.getD k []))) ∧ w1.cell? ⟨p, 0, none⟩ = w.cell? ⟨p, 0, none⟩ := by
  obtain ⟨adk, capk, h2, c2, xs, hk0, hk1, hWk, hkc, _⟩ := relw_row h hk
  obtain ⟨v, wss, h1, hS, h3, hN, h5, hsh, hW⟩ := h
  obtain ⟨A, cap, hv⟩ := Kd.S_slice hS
  rw [hN] at hv
  subst hv
  obtain ⟨gg, cp, e, _⟩ := Kd.S_form hS (by omega)
  injection e with e _ _
  subst e
  have hp0 : w.cell? ⟨p, 0, none⟩ = some (.slice (some ⟨gg, 0, none⟩) N cap) := (blk_cell h1 0).trans rfl
  rw [hp0] at hk0
  injection hk0 with hk0
  injection hk0 with hk0 _ hk0c
  injection hk0 with hk0
  subst hk0
  obtain ⟨oki, c, hcl, hM, hcc, hoki, hback⟩ := Kd.S_borrow hS [] (i : Int) (by omega) (by omega)
  obtain ⟨u, rfl, hur⟩ := hM
  rw [Int.toNat_natCast] at hur hcc hback
  have hw := hW i hi'
  have hrow := hsh.row i hi'
  have hrowk := hsh.row k hk
  have hlen := hw.len
  have hlenk := hWk.len
  have hll : xs.length = (wss.getD i []).length := by rw [hlen, hlenk, hrow, hrowk]
  obtain ⟨g, cg, rfl, hgb, hgl, cells, hcells⟩ := Kd.R_form hur (by omega)
  have hgo := hoki g (hur.1 g (by simp [Value.ownBlock]))
  have hgp : g ≠ p := fun e => by subst e; rw [h1] at hcells; cases hcells
  refine ⟨⟨gg, 0, none⟩, cap, g, cg, h2, c2, wss.getD i [], xs, _, hp0, ?_, by rw [← hll]; exact hk1, hw, hWk, hll, by omega, hur, fun j hj => hkc j (by omega), ⟨hgb, hgo.1⟩, fun w1 ho hr => ?_⟩
  · have := hcc 0 _ rfl
    simpa [Kd.slice] using this
  · have hg : w.grownBy w1 (some g) := ⟨ho.os, ho.tape, ho.output, ho.size, fun k hk hn => ho.block k hk (fun hh => hn (by rw [show k = g by omega]))⟩
    have hS2 := hback hg (fun k e => by injection e with e; subst e; exact hur.1 g (by simp [Value.ownBlock])) (Kd.M_row (v := .slice (some ⟨g, 0, none⟩) (wss.getD i []).length cg) hr)
    refine ⟨⟨_, _, ho.blk h1 (by omega), hS2, h3, by rw [List.length_set]; exact hN, h5, ⟨by rw [List.length_set]; exact hsh.len, fun a ha => ?_⟩, fun a ha => ?_⟩, ?_⟩
    · rw [getD_set_nat _ _ _ _ _ (by rw [hsh.len]; exact hi')]
      split
      · rw [orB_length]; exact hrow
      · exact hsh.row a ha
    · rw [getD_set_nat _ _ _ _ _ (by rw [hsh.len]; exact hi'), getD_set_nat _ _ _ _ _ (by omega)]
      split
      · exact words_or hw hWk (by rw [hrow, hrowk])
      · exact hW a ha
    · rw [hp0]; exact ho.cell hp0 (by show ¬ (g ≤ p ∧ p < g + 1); omega)
theorem Only.under {lo hi g : Nat} {w w' : World} (h : Only g (g + 1) w w') (hg : lo ≤ g ∧ g < hi) : Only lo hi w w' := h.wider hg.1 (by omega)
theorem closure_at {N : Nat} {At : List (List Bool)} (h : Shape N At) : addAll N ([pairsL N At] : List (List (Nat × Nat))).flatten (tab0 N) = At := by
  rw [show ([pairsL N At] : List (List (Nat × Nat))).flatten = pairsL N At by simp]; exact addAll_pairs h
set_option maxRecDepth 100000 in
set_option maxHeartbeats 4000000 in
theorem closure_walk {lo hi N : Nat} {pv : Option Addr} {At : List (List Bool)} (w : World) (hR : RelV w lo hi pv N At) (hhi : hi ≤ w.heap.size) (hG : TabLaid w) :
    Calls Tryd.prog 30 #[.pointer pv] w fun e w' => ∃ p h, e = .returned (.pointer (some ⟨p, 0, none⟩)) ∧ RelW w' w.heap.size h p N (wAll N At N) ∧ h ≤ w'.heap.size ∧ Below w.heap.size w w' := by
  have hu := Tryd.underlying75
  have hsh := hR.shape
  have hun := union_walk none 0 0 [] [] w hR hhi hG (.inl ⟨rfl, rfl, rfl, rfl, rfl⟩)
  rw [closure_at hsh.1] at hun
  have HU := Aside0.mk hun
  clear hR hun hG
  go_enter Tryd.func30, Tryd.ntmps30
  go_upto_region 2 with (first | (go_at_call 23; refine HU.out.mono ?_; rintro e W1 ⟨p, h, rfl, hr1, hh1, hb1⟩; have HX := Aside0.mk (And.intro hr1 (And.intro hh1 hb1)); clear hr1 hh1 hb1))
  obtain ⟨vv, wss, hbx, hSx, _, hNx, _⟩ := HX.out.1
  obtain ⟨A0, cap0, hv0⟩ := Kd.S_slice hSx
  rw [hNx] at hv0
  subst hv0
  have hc0 : W1.cell? ⟨p, 0, none⟩ = some (.slice A0 N cap0) := (blk_cell hbx 0).trans rfl
  have HC := Aside0.mk hc0
  clear hbx hSx hNx
  go_upto_region 3 with (fail)
  clear hc0
  go_loopg [14] N (fun gg v14 wr => ∃ (k : Nat), k ≤ N ∧ N - k ≤ gg ∧ v14 = .int .i64 (k : Int) ∧ Aside0 (RelW wr w.heap.size h p N (wAll N At k) ∧ wr.cell? ⟨p, 0, none⟩ = some (.slice A0 N cap0) ∧ h ≤ wr.heap.size ∧ Below w.heap.size w wr))
  case atStart => exact ⟨0, Nat.zero_le _, by omega, rfl, ⟨HX.out.1, HC.out, HX.out.2.1, HX.out.2.2⟩⟩
  case round =>
    clear HX HC
    obtain ⟨k, hk, hgg, rfl, HX⟩ := hrel
    by_cases hlt : k < N
    · have hltz : (k : Int) < (N : Int) := by omega
      have hc0 := HX.out.2.1
      go_upto_region 6 with (fail)
      clear hc0
      go_loopg [22] N (fun gg v22 wq => ∃ (i : Nat), i ≤ N ∧ N - i ≤ gg ∧ v22 = .int .i64 (i : Int) ∧ Aside0 (RelW wq w.heap.size h p N (wK N k (wAll N At k) i) ∧ wq.cell? ⟨p, 0, none⟩ = some (.slice A0 N cap0) ∧ h ≤ wq.heap.size ∧ Below w.heap.size w wq))
      case atStart => exact ⟨0, Nat.zero_le _, by omega, rfl, HX⟩
      case round =>
        clear HX
        rename_i gk2
        obtain ⟨i, hi2, hgg2, rfl, HX⟩ := hrel
        by_cases hlt2 : i < N
        · have hltz2 : (i : Int) < (N : Int) := by omega
          obtain ⟨ad, cap, g, c, h2, c2, ws, xs, ok, j0, j1, j2, jW, jX, jl, j8, jR, jc, jg, jback⟩ := relw_join HX.out.1 hlt2 hlt
          have hcp := HX.out.2.1
          rw [hcp] at j0
          injection j0 with j0
          injection j0 with j0 _ j0c
          subst j0
          subst j0c
          have hrow : ((wK N k (wAll N At k) i).getD i []).length = N := HX.out.1.choose_spec.choose_spec.2.2.2.2.2.1.row i hlt2
          have hkw : k / 64 < ws.length := words_len jW (by omega)
          have hrng := jW.rng _ hkw
          obtain ⟨z, hz⟩ : ∃ z : Nat, ws.getD (k / 64) 0 = (z : Int) := ⟨(ws.getD (k / 64) 0).toNat, by omega⟩
          have hzl : z < 18446744073709551616 := by omega
          have hbit := jW.at (i := k) (by omega)
          rw [hz, Int.toNat_natCast] at hbit
          have hcz : wr.cell? ⟨g, k / 64, none⟩ = some (.int .u64 (z : Int)) := by
            obtain ⟨ai, e2, hc3⟩ := Kd.at_int (Kd.R_reads' jR).2.2 ((k / 64 : Nat) : Int) (by omega) (by omega)
            injection e2 with e2
            subst e2
            rw [Int.toNat_natCast, add_at, Nat.zero_add] at hc3
            rw [hc3]
            simp only [rd, Int.toNat_natCast]
            rw [hz]
          have HH := Aside0.mk (rowhas_walk z k ws.length c ⟨g, 0, none⟩ wr hkw hzl (by rw [add_at, Nat.zero_add]; exact hcz) (by have := hsh.2; omega))
          have HJ := Aside0.mk (join_walk g c h2 c2 ws xs wr j8 jR jl jc (fun j hj => jW.rng j hj) (fun j hj => jX.rng j (by omega)))
          have HB := Aside0.mk (And.intro jback (And.intro jg hbit))
          clear hrow hrng hz hzl hbit hcz jback jg jR jc jW jX jl j8 hkw
          have HP2 := Aside0.mk (And.intro HX.out.2.2.1 HX.out.2.2.2)
          have hHX := HX.out.1
          clear HX
          have HX := Aside0.mk hHX
          clear hHX
          cases hbit : at2 (wK N k (wAll N At k) i) i k with
          | true =>
            have hzt : z.testBit (k % 64) = true := by rw [HB.out.2.2]; exact hbit
            have hnx : wRow k (wK N k (wAll N At k) i) i = (wK N k (wAll N At k) i).set i (orB ((wK N k (wAll N At k) i).getD i []) ((wK N k (wAll N At k) i).getD k [])) := by unfold wRow; rw [if_pos hbit]
            have HN := Aside0.mk hnx
            rw [hzt] at HH
            clear hnx hbit hzt
            go_wp2_with (first | (go_at_call 45; refine HH.out.mono ?_; rintro e w1 ⟨rfl, hw_⟩; subst w1) | (go_at_call 49; refine HJ.out.mono ?_; rintro e w1 ⟨rfl, hr1, ho1⟩; have HQ := Aside0.mk (And.intro (HB.out.1 w1 ho1 hr1) (And.intro (Only.under ho1 HB.out.2.1) (And.intro (ho1.size) hcp))); clear hr1 ho1))
            go_roundg (N - (i + 1))
            case measure => omega
            case rel => exact ⟨i + 1, by omega, by omega, by first | rfl | (simp; done), ⟨by show RelW _ _ _ _ _ (wRow k (wK N k (wAll N At k) i) i); rw [HN.out]; exact HQ.out.1.1, HQ.out.1.2.trans HQ.out.2.2.2, Nat.le_trans HP2.out.1 HQ.out.2.2.1, HQ.out.2.1.below HP2.out.2 (Nat.le_refl _) HP2.out.2.size⟩⟩
          | false =>
            have hzt : z.testBit (k % 64) = false := by rw [HB.out.2.2]; exact hbit
            have hnx : wRow k (wK N k (wAll N At k) i) i = wK N k (wAll N At k) i := by unfold wRow; rw [if_neg (by rw [hbit]; decide)]
            have HN := Aside0.mk hnx
            rw [hzt] at HH
            clear hnx hbit hzt
            go_wp2_with (first | (go_at_call 45; refine HH.out.mono ?_; rintro e w1 ⟨rfl, hw_⟩; subst w1))
            go_roundg (N - (i + 1))
            case measure => omega
            case rel => exact ⟨i + 1, by omega, by omega, by first | rfl | (simp; done), ⟨by show RelW _ _ _ _ _ (wRow k (wK N k (wAll N At k) i) i); rw [HN.out]; exact HX.out, hcp, HP2.out.1, HP2.out.2⟩⟩
        · obtain rfl : i = N := by omega
          go_wp2_with (fail)
          go_roundg (i - (k + 1))
          case measure => omega
          case rel => exact ⟨k + 1, by omega, by omega, by first | rfl | (simp; done), HX⟩
    · obtain rfl : k = N := by omega
      go_wp2_with (fail)
      go_ret
      exact ⟨p, h, rfl, HX.out.1, HX.out.2.2.1, HX.out.2.2.2⟩
end Go.Proofs.YtoieemaheadjdaaDoor.PRel
