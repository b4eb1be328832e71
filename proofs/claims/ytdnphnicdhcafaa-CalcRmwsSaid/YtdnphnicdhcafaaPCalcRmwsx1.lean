-- printed by a program of this session (wip/mp.py: the kit's printer, patched, over the session's own templates); checked by Lean alone
import Derived.Test.YtdnphnicdhcafaaPCalcRmwsx0
namespace Go.Proofs.Ytdnphnicdhcafaa.PCalcRmws
open Go.RowKit Go.Proofs.YtdnphnicdhcafaaW.PrintWords Go.Proofs.YtdnphnicdhcafaaW.PrintLast Go.Proofs.YtdnphnicdhcafaaW.PrintMore
attribute [local go_sem] max2_int min2_int max_two min_two max_three min_three max_four min_four   -- for this text's walks alone
set_option linter.unusedVariables false
set_option linter.unusedSimpArgs false

/-! ### calc_Fails: function 14 -/
def calc_Fails.f (a0 : Int) (a1 : Int) : Option (Bool) := if a0 = 4 then (some (a1 == 0)) else (if a0 = 5 then (some (a1 == 0)) else (some false))
set_option maxHeartbeats 8000000 in
set_option maxRecDepth 100000 in
theorem calc_Fails.calls (a0 : Int) (a1 : Int) (r : Bool) (w : World) (h : calc_Fails.f a0 a1 = some r) :
    Calls Try.prog 14 #[.int .i64 a0, .int .i64 a1] w fun e w' => e = .returned (.bool r) ∧ Drawn0 w w' := by
  have H : (if a0 = 4 then (some (a1 == 0)) else (if a0 = 5 then (some (a1 == 0)) else (some false))) = some r := h
  clear h
  by_cases c3 : a0 = 4
  · rw [if_pos c3] at H
    have c3b0 : (a0 == 4) = true := beq_iff_eq.mpr c3
    have c3b1 : (a0 != 4) = false := bne_eq_false_iff_eq.mpr c3
    clear c3
    obtain rfl := Option.some.inj H
    go_enter Try.func14, Try.ntmps14
    go_wp2
    go_ret
    exact ⟨by first | rfl | (simp; done) | (simp [*]; done), by repeat (first | exact Drawn0.refl _ | apply Drawn0.step)⟩
  · rw [if_neg c3] at H
    have c3b0 : (a0 == 4) = false := beq_eq_false_iff_ne.mpr c3
    have c3b1 : (a0 != 4) = true := bne_iff_ne.mpr c3
    by_cases c4 : a0 = 5
    · rw [if_pos c4] at H
      have c4b0 : (a0 == 5) = true := beq_iff_eq.mpr c4
      have c4b1 : (a0 != 5) = false := bne_eq_false_iff_eq.mpr c4
      clear c4
      obtain rfl := Option.some.inj H
      go_enter Try.func14, Try.ntmps14
      go_wp2
      go_ret
      exact ⟨by first | rfl | (simp; done) | (simp [*]; done), by repeat (first | exact Drawn0.refl _ | apply Drawn0.step)⟩
    · rw [if_neg c4] at H
      have c4b0 : (a0 == 5) = false := beq_eq_false_iff_ne.mpr c4
      have c4b1 : (a0 != 5) = true := bne_iff_ne.mpr c4
      obtain rfl := Option.some.inj H
      go_enter Try.func14, Try.ntmps14
      go_wp2
      go_ret
      exact ⟨by first | rfl | (simp; done) | (simp [*]; done), by repeat (first | exact Drawn0.refl _ | apply Drawn0.step)⟩

/-! ### calc_parts: function 44 -/
def calc_parts.f (a0 : Int) (a1 : Int) : Option (Int × Int) := if a1 = (-1) then (some (wrap64 (-a0), 0)) else (if a1 = 0 then (none) else (some (wrap64 (Int.tdiv a0 a1), Int.tmod a0 a1)))
set_option maxHeartbeats 8000000 in
set_option maxRecDepth 100000 in
theorem calc_parts.calls (a0 : Int) (a1 : Int) (r1 : Int) (r2 : Int) (w : World) (h : calc_parts.f a0 a1 = some (r1, r2)) :
    Calls Try.prog 44 #[.int .i64 a0, .int .i64 a1] w fun e w' => e = .returned (.tuple #[.int .i64 r1, .int .i64 r2]) ∧ Drawn0 w w' := by
  have H : (if a1 = (-1) then (some (wrap64 (-a0), 0)) else (if a1 = 0 then (none) else (some (wrap64 (Int.tdiv a0 a1), Int.tmod a0 a1)))) = some (r1, r2) := h
  clear h
  by_cases c3 : a1 = (-1)
  · rw [if_pos c3] at H
    have c3b0 : (a1 == (-1)) = true := beq_iff_eq.mpr c3
    have c3b1 : (a1 != (-1)) = false := bne_eq_false_iff_eq.mpr c3
    clear c3
    simp only [Option.some.injEq, Prod.mk.injEq] at H
    obtain ⟨rfl, rfl⟩ := H
    go_enter Try.func44, Try.ntmps44
    go_wp2
    repeat (go_quiet (fail); try go_wp2)
    go_ret2
    exact ⟨by first | rfl | (simp; done) | (simp [*]; done), by repeat (first | exact Drawn0.refl _ | apply Drawn0.step)⟩
  · rw [if_neg c3] at H
    have c3b0 : (a1 == (-1)) = false := beq_eq_false_iff_ne.mpr c3
    have c3b1 : (a1 != (-1)) = true := bne_iff_ne.mpr c3
    by_cases c4 : a1 = 0
    · rw [if_pos c4] at H
      exact absurd H (by simp)
    · rw [if_neg c4] at H
      have c4b0 : (a1 == 0) = false := beq_eq_false_iff_ne.mpr c4
      have c4b1 : (a1 != 0) = true := bne_iff_ne.mpr c4
      simp only [Option.some.injEq, Prod.mk.injEq] at H
      obtain ⟨rfl, rfl⟩ := H
      go_enter Try.func44, Try.ntmps44
      go_wp2
      repeat (go_quiet (fail); try go_wp2)
      go_ret2
      exact ⟨by first | rfl | (simp; done) | (simp [*]; done), by repeat (first | exact Drawn0.refl _ | apply Drawn0.step)⟩

/-! ### given: calc_compares.lean -/
-- GIVEN spinnaker/calc.compares rounds=0 making=0
def calc_compares.f (a0 : Int) (a1 : Int) (a2 : Int) : Option (Int × Bool) :=
  if a0 = 11 then some (if a1 < a2 then 1 else 0, true)
  else if a0 = 12 then some (if a1 ≤ a2 then 1 else 0, true)
  else if a0 = 13 then some (if a1 = a2 then 1 else 0, true)
  else if a0 = 14 then some (if a1 = a2 then 0 else 1, true)
  else some (0, false)
theorem calc_compares.truth (b : Bool) (n : Int) (hn : Aside0 (n = if b then 1 else 0)) (w : World) : Calls Try.prog 62 #[.bool b] w fun e w' => e = .returned (.int .i64 n) ∧ w = w' := by
  cases b
  all_goals
    have h := hn.out
    simp at h
    subst h
    clear hn
    go_enter Try.func62, Try.ntmps62
    go_wp2
    go_ret
    exact ⟨rfl, rfl⟩
theorem calc_compares.is (b : Bool) (n : Int) (hn : Aside0 (n = if b then 1 else 0)) (w : World) : Calls Try.prog 61 #[.bool b] w fun e w' => e = .returned (.tuple #[.int .i64 n, .bool true]) ∧ w = w' := by
  go_enter Try.func61, Try.ntmps61
  go_wp2_with ((with_reducible refine (calc_compares.truth _ n hn _).mono ?_); rintro e w' ⟨rfl, rfl⟩)
  go_ret2
  exact ⟨rfl, rfl⟩
set_option maxHeartbeats 2000000 in
theorem calc_compares.calls (a0 : Int) (a1 : Int) (a2 : Int) (r1 : Int) (r2 : Bool) (w : World) (h : calc_compares.f a0 a1 a2 = some (r1, r2)) :
    Calls Try.prog 45 #[.int .i64 a0, .int .i64 a1, .int .i64 a2] w fun e w' => e = .returned (.tuple #[.int .i64 r1, .bool r2]) ∧ Drawn0 w w' := by
  unfold calc_compares.f at h
  by_cases c11 : a0 = 11
  · subst c11
    obtain ⟨n, hn⟩ : ∃ n : Int, Aside0 (n = if (decide (a1 < a2)) then 1 else 0) := ⟨_, ⟨rfl⟩⟩
    obtain ⟨rfl, rfl⟩ : r1 = n ∧ r2 = true := by
      rw [hn.out]
      simp at h
      obtain ⟨h1, h2⟩ := h
      subst h1 h2
      refine ⟨?_, rfl⟩
      by_cases e : a1 < a2 <;> simp [e]
    clear h
    go_enter Try.func45, Try.ntmps45
    go_wp2_with ((with_reducible refine (calc_compares.is _ r1 hn _).mono ?_); rintro e w' ⟨rfl, rfl⟩)
    go_ret2
    exact ⟨rfl, Drawn0.refl _⟩
  have d11 : (a0 == 11) = false := beq_eq_false_iff_ne.2 c11
  by_cases c12 : a0 = 12
  · subst c12
    obtain ⟨n, hn⟩ : ∃ n : Int, Aside0 (n = if (decide (a1 ≤ a2)) then 1 else 0) := ⟨_, ⟨rfl⟩⟩
    obtain ⟨rfl, rfl⟩ : r1 = n ∧ r2 = true := by
      rw [hn.out]
      simp at h
      obtain ⟨h1, h2⟩ := h
      subst h1 h2
      refine ⟨?_, rfl⟩
      by_cases e : a1 ≤ a2 <;> simp [e]
    clear h
    go_enter Try.func45, Try.ntmps45
    go_wp2_with ((with_reducible refine (calc_compares.is _ r1 hn _).mono ?_); rintro e w' ⟨rfl, rfl⟩)
    go_ret2
    exact ⟨rfl, Drawn0.refl _⟩
  have d12 : (a0 == 12) = false := beq_eq_false_iff_ne.2 c12
  by_cases c13 : a0 = 13
  · subst c13
    obtain ⟨n, hn⟩ : ∃ n : Int, Aside0 (n = if (a1 == a2) then 1 else 0) := ⟨_, ⟨rfl⟩⟩
    obtain ⟨rfl, rfl⟩ : r1 = n ∧ r2 = true := by
      rw [hn.out]
      simp at h
      obtain ⟨h1, h2⟩ := h
      subst h1 h2
      refine ⟨?_, rfl⟩
      by_cases e : a1 = a2 <;> simp [e]
    clear h
    go_enter Try.func45, Try.ntmps45
    go_wp2_with ((with_reducible refine (calc_compares.is _ r1 hn _).mono ?_); rintro e w' ⟨rfl, rfl⟩)
    go_ret2
    exact ⟨rfl, Drawn0.refl _⟩
  have d13 : (a0 == 13) = false := beq_eq_false_iff_ne.2 c13
  by_cases c14 : a0 = 14
  · subst c14
    obtain ⟨n, hn⟩ : ∃ n : Int, Aside0 (n = if (a1 != a2) then 1 else 0) := ⟨_, ⟨rfl⟩⟩
    obtain ⟨rfl, rfl⟩ : r1 = n ∧ r2 = true := by
      rw [hn.out]
      simp at h
      obtain ⟨h1, h2⟩ := h
      subst h1 h2
      refine ⟨?_, rfl⟩
      by_cases e : a1 = a2 <;> simp [e]
    clear h
    go_enter Try.func45, Try.ntmps45
    go_wp2_with ((with_reducible refine (calc_compares.is _ r1 hn _).mono ?_); rintro e w' ⟨rfl, rfl⟩)
    go_ret2
    exact ⟨rfl, Drawn0.refl _⟩
  have d14 : (a0 == 14) = false := beq_eq_false_iff_ne.2 c14
  rw [if_neg c11, if_neg c12, if_neg c13, if_neg c14] at h
  obtain ⟨rfl, rfl⟩ : r1 = 0 ∧ r2 = false := by simpa [eq_comm] using h
  clear h c11 c12 c13 c14
  go_enter Try.func45, Try.ntmps45
  go_wp2
  go_ret2
  exact ⟨rfl, Drawn0.refl _⟩


/-! ### calc_Bin: function 12 -/
def calc_Bin.f (a0 : Int) (a1 : Int) (a2 : Int) : Option (Int × Bool) := (calc_Fails.f a0 a2).bind fun t101 => (if t101 = true then (some (0, false)) else (if a0 = 1 then (some (wrap64 (a1 + a2), true)) else (if a0 = 2 then (some (wrap64 (a1 - a2), true)) else (if a0 = 3 then (some (wrap64 (a1 * a2), true)) else (if a0 = 4 then ((calc_parts.f a1 a2).bind fun bt102 => (some (bt102.1, true))) else (if a0 = 5 then ((calc_parts.f a1 a2).bind fun bt104 => (some (bt104.2, true))) else (if a0 = 6 then (some (Go.bits .and .i64 a1 a2, true)) else (if a0 = 7 then (some (Go.bits .or .i64 a1 a2, true)) else (if a0 = 8 then (some (Go.bits .xor .i64 a1 a2, true)) else (if a0 = 9 then (if 0 ≤ (Go.bits .and .u64 (IntKind.u64.wrap (a2)) 63) then (some (shl .i64 a1 (Go.bits .and .u64 (IntKind.u64.wrap (a2)) 63), true)) else (none)) else (if a0 = 10 then (if 0 ≤ (Go.bits .and .u64 (IntKind.u64.wrap (a2)) 63) then (some (shr .i64 a1 (Go.bits .and .u64 (IntKind.u64.wrap (a2)) 63), true)) else (none)) else ((calc_compares.f a0 a1 a2).bind fun bt106 => (some (bt106.1, bt106.2))))))))))))))
set_option maxHeartbeats 8000000 in
set_option maxRecDepth 100000 in
theorem calc_Bin.calls (a0 : Int) (a1 : Int) (a2 : Int) (r1 : Int) (r2 : Bool) (w : World) (h : calc_Bin.f a0 a1 a2 = some (r1, r2)) :
    Calls Try.prog 12 #[.int .i64 a0, .int .i64 a1, .int .i64 a2] w fun e w' => e = .returned (.tuple #[.int .i64 r1, .bool r2]) ∧ Drawn0 w w' := by
  have H : ((calc_Fails.f a0 a2).bind fun t101 => (if t101 = true then (some (0, false)) else (if a0 = 1 then (some (wrap64 (a1 + a2), true)) else (if a0 = 2 then (some (wrap64 (a1 - a2), true)) else (if a0 = 3 then (some (wrap64 (a1 * a2), true)) else (if a0 = 4 then ((calc_parts.f a1 a2).bind fun bt102 => (some (bt102.1, true))) else (if a0 = 5 then ((calc_parts.f a1 a2).bind fun bt104 => (some (bt104.2, true))) else (if a0 = 6 then (some (Go.bits .and .i64 a1 a2, true)) else (if a0 = 7 then (some (Go.bits .or .i64 a1 a2, true)) else (if a0 = 8 then (some (Go.bits .xor .i64 a1 a2, true)) else (if a0 = 9 then (if 0 ≤ (Go.bits .and .u64 (IntKind.u64.wrap (a2)) 63) then (some (shl .i64 a1 (Go.bits .and .u64 (IntKind.u64.wrap (a2)) 63), true)) else (none)) else (if a0 = 10 then (if 0 ≤ (Go.bits .and .u64 (IntKind.u64.wrap (a2)) 63) then (some (shr .i64 a1 (Go.bits .and .u64 (IntKind.u64.wrap (a2)) 63), true)) else (none)) else ((calc_compares.f a0 a1 a2).bind fun bt106 => (some (bt106.1, bt106.2))))))))))))))) = some (r1, r2) := h
  clear h
  replace H := Option.bind_eq_some_iff.mp H
  obtain ⟨t101, A40, H⟩ := H
  replace H : (if t101 = true then (some (0, false)) else (if a0 = 1 then (some (wrap64 (a1 + a2), true)) else (if a0 = 2 then (some (wrap64 (a1 - a2), true)) else (if a0 = 3 then (some (wrap64 (a1 * a2), true)) else (if a0 = 4 then ((calc_parts.f a1 a2).bind fun bt102 => (some (bt102.1, true))) else (if a0 = 5 then ((calc_parts.f a1 a2).bind fun bt104 => (some (bt104.2, true))) else (if a0 = 6 then (some (Go.bits .and .i64 a1 a2, true)) else (if a0 = 7 then (some (Go.bits .or .i64 a1 a2, true)) else (if a0 = 8 then (some (Go.bits .xor .i64 a1 a2, true)) else (if a0 = 9 then (if 0 ≤ (Go.bits .and .u64 (IntKind.u64.wrap (a2)) 63) then (some (shl .i64 a1 (Go.bits .and .u64 (IntKind.u64.wrap (a2)) 63), true)) else (none)) else (if a0 = 10 then (if 0 ≤ (Go.bits .and .u64 (IntKind.u64.wrap (a2)) 63) then (some (shr .i64 a1 (Go.bits .and .u64 (IntKind.u64.wrap (a2)) 63), true)) else (none)) else ((calc_compares.f a0 a1 a2).bind fun bt106 => (some (bt106.1, bt106.2)))))))))))))) = some (r1, r2) := H
  have A4 := Aside0.mk A40
  clear A40
  by_cases c5 : t101 = true
  · subst c5
    have H1 : (some (0, false)) = some (r1, r2) := by rw [if_pos rfl] at H; exact H
    clear H
    have H := H1
    clear H1
    simp only [Option.some.injEq, Prod.mk.injEq] at H
    obtain ⟨rfl, rfl⟩ := H
    go_enter Try.func12, Try.ntmps12
    go_wp2_with (first | ((with_reducible refine gate_callee (f := 14) rfl ?_); refine goesL_ (some 15) rfl rfl Try.func14 (by kernel_rfl) rfl #[.int .i64 a0, .int .i64 a2] rfl (by (try simp only [List.map_toArray, List.map_cons, List.map_nil]); first | done | rfl | (simp only [List.length_drop, List.length_take]; rfl)) ?_; (with_reducible refine (calc_Fails.calls a0 a2 true _ A4.out).mono ?_); rintro e w' ⟨rfl, ⟨nd, rfl⟩⟩; refine ⟨_, rfl, ?_⟩))
    go_ret2
    exact ⟨by first | rfl | (simp; done) | (simp [*]; done), by repeat (first | exact Drawn0.refl _ | apply Drawn0.step)⟩
  · replace c5 := Bool.eq_false_iff.mpr c5
    subst c5
    have H1 : (if a0 = 1 then (some (wrap64 (a1 + a2), true)) else (if a0 = 2 then (some (wrap64 (a1 - a2), true)) else (if a0 = 3 then (some (wrap64 (a1 * a2), true)) else (if a0 = 4 then ((calc_parts.f a1 a2).bind fun bt102 => (some (bt102.1, true))) else (if a0 = 5 then ((calc_parts.f a1 a2).bind fun bt104 => (some (bt104.2, true))) else (if a0 = 6 then (some (Go.bits .and .i64 a1 a2, true)) else (if a0 = 7 then (some (Go.bits .or .i64 a1 a2, true)) else (if a0 = 8 then (some (Go.bits .xor .i64 a1 a2, true)) else (if a0 = 9 then (if 0 ≤ (Go.bits .and .u64 (IntKind.u64.wrap (a2)) 63) then (some (shl .i64 a1 (Go.bits .and .u64 (IntKind.u64.wrap (a2)) 63), true)) else (none)) else (if a0 = 10 then (if 0 ≤ (Go.bits .and .u64 (IntKind.u64.wrap (a2)) 63) then (some (shr .i64 a1 (Go.bits .and .u64 (IntKind.u64.wrap (a2)) 63), true)) else (none)) else ((calc_compares.f a0 a1 a2).bind fun bt106 => (some (bt106.1, bt106.2))))))))))))) = some (r1, r2) := by rw [if_neg (show ¬ (false = true) by decide)] at H; exact H
    clear H
    have H := H1
    clear H1
    by_cases c6 : a0 = 1
    · rw [if_pos c6] at H
      have c6b0 : (a0 == 1) = true := beq_iff_eq.mpr c6
      have c6b1 : (a0 != 1) = false := bne_eq_false_iff_eq.mpr c6
      clear c6
      simp only [Option.some.injEq, Prod.mk.injEq] at H
      obtain ⟨rfl, rfl⟩ := H
      go_enter Try.func12, Try.ntmps12
      go_wp2_with (first | ((with_reducible refine gate_callee (f := 14) rfl ?_); refine goesL_ (some 15) rfl rfl Try.func14 (by kernel_rfl) rfl #[.int .i64 a0, .int .i64 a2] rfl (by (try simp only [List.map_toArray, List.map_cons, List.map_nil]); first | done | rfl | (simp only [List.length_drop, List.length_take]; rfl)) ?_; (with_reducible refine (calc_Fails.calls a0 a2 false _ A4.out).mono ?_); rintro e w' ⟨rfl, ⟨nd, rfl⟩⟩; refine ⟨_, rfl, ?_⟩))
      go_ret2
      exact ⟨by first | rfl | (simp; done) | (simp [*]; done), by repeat (first | exact Drawn0.refl _ | apply Drawn0.step)⟩
    · rw [if_neg c6] at H
      have c6b0 : (a0 == 1) = false := beq_eq_false_iff_ne.mpr c6
      have c6b1 : (a0 != 1) = true := bne_iff_ne.mpr c6
      by_cases c7 : a0 = 2
      · rw [if_pos c7] at H
        have c7b0 : (a0 == 2) = true := beq_iff_eq.mpr c7
        have c7b1 : (a0 != 2) = false := bne_eq_false_iff_eq.mpr c7
        clear c7
        simp only [Option.some.injEq, Prod.mk.injEq] at H
        obtain ⟨rfl, rfl⟩ := H
        go_enter Try.func12, Try.ntmps12
        go_wp2_with (first | ((with_reducible refine gate_callee (f := 14) rfl ?_); refine goesL_ (some 15) rfl rfl Try.func14 (by kernel_rfl) rfl #[.int .i64 a0, .int .i64 a2] rfl (by (try simp only [List.map_toArray, List.map_cons, List.map_nil]); first | done | rfl | (simp only [List.length_drop, List.length_take]; rfl)) ?_; (with_reducible refine (calc_Fails.calls a0 a2 false _ A4.out).mono ?_); rintro e w' ⟨rfl, ⟨nd, rfl⟩⟩; refine ⟨_, rfl, ?_⟩))
        go_ret2
        exact ⟨by first | rfl | (simp; done) | (simp [*]; done), by repeat (first | exact Drawn0.refl _ | apply Drawn0.step)⟩
      · rw [if_neg c7] at H
        have c7b0 : (a0 == 2) = false := beq_eq_false_iff_ne.mpr c7
        have c7b1 : (a0 != 2) = true := bne_iff_ne.mpr c7
        by_cases c8 : a0 = 3
        · rw [if_pos c8] at H
          have c8b0 : (a0 == 3) = true := beq_iff_eq.mpr c8
          have c8b1 : (a0 != 3) = false := bne_eq_false_iff_eq.mpr c8
          clear c8
          simp only [Option.some.injEq, Prod.mk.injEq] at H
          obtain ⟨rfl, rfl⟩ := H
          go_enter Try.func12, Try.ntmps12
          go_wp2_with (first | ((with_reducible refine gate_callee (f := 14) rfl ?_); refine goesL_ (some 15) rfl rfl Try.func14 (by kernel_rfl) rfl #[.int .i64 a0, .int .i64 a2] rfl (by (try simp only [List.map_toArray, List.map_cons, List.map_nil]); first | done | rfl | (simp only [List.length_drop, List.length_take]; rfl)) ?_; (with_reducible refine (calc_Fails.calls a0 a2 false _ A4.out).mono ?_); rintro e w' ⟨rfl, ⟨nd, rfl⟩⟩; refine ⟨_, rfl, ?_⟩))
          go_ret2
          exact ⟨by first | rfl | (simp; done) | (simp [*]; done), by repeat (first | exact Drawn0.refl _ | apply Drawn0.step)⟩
        · rw [if_neg c8] at H
          have c8b0 : (a0 == 3) = false := beq_eq_false_iff_ne.mpr c8
          have c8b1 : (a0 != 3) = true := bne_iff_ne.mpr c8
          by_cases c9 : a0 = 4
          · rw [if_pos c9] at H
            have c9b0 : (a0 == 4) = true := beq_iff_eq.mpr c9
            have c9b1 : (a0 != 4) = false := bne_eq_false_iff_eq.mpr c9
            clear c9
            replace H := Option.bind_eq_some_iff.mp H
            obtain ⟨⟨t102, t103⟩, A100, H⟩ := H
            replace H : (some (t102, true)) = some (r1, r2) := H
            have A10 := Aside0.mk A100
            clear A100
            simp only [Option.some.injEq, Prod.mk.injEq] at H
            obtain ⟨rfl, rfl⟩ := H
            go_enter Try.func12, Try.ntmps12
            go_wp2_with (first | ((with_reducible refine gate_callee (f := 14) rfl ?_); refine goesL_ (some 15) rfl rfl Try.func14 (by kernel_rfl) rfl #[.int .i64 a0, .int .i64 a2] rfl (by (try simp only [List.map_toArray, List.map_cons, List.map_nil]); first | done | rfl | (simp only [List.length_drop, List.length_take]; rfl)) ?_; (with_reducible refine (calc_Fails.calls a0 a2 false _ A4.out).mono ?_); rintro e w' ⟨rfl, ⟨nd, rfl⟩⟩; refine ⟨_, rfl, ?_⟩) | ((with_reducible refine gate_callee (f := 44) rfl ?_); refine goesL_ (some 40) rfl rfl Try.func44 (by kernel_rfl) rfl #[.int .i64 a1, .int .i64 a2] rfl (by (try simp only [List.map_toArray, List.map_cons, List.map_nil]); first | done | rfl | (simp only [List.length_drop, List.length_take]; rfl)) ?_; (with_reducible refine (calc_parts.calls a1 a2 t102 t103 _ A10.out).mono ?_); rintro e w' ⟨rfl, ⟨nd, rfl⟩⟩; refine ⟨_, rfl, ?_⟩))
            go_ret2
            exact ⟨by first | rfl | (simp; done) | (simp [*]; done), by repeat (first | exact Drawn0.refl _ | apply Drawn0.step)⟩
          · rw [if_neg c9] at H
            have c9b0 : (a0 == 4) = false := beq_eq_false_iff_ne.mpr c9
            have c9b1 : (a0 != 4) = true := bne_iff_ne.mpr c9
            by_cases c11 : a0 = 5
            · rw [if_pos c11] at H
              have c11b0 : (a0 == 5) = true := beq_iff_eq.mpr c11
              have c11b1 : (a0 != 5) = false := bne_eq_false_iff_eq.mpr c11
              clear c11
              replace H := Option.bind_eq_some_iff.mp H
              obtain ⟨⟨t104, t105⟩, A120, H⟩ := H
              replace H : (some (t105, true)) = some (r1, r2) := H
              have A12 := Aside0.mk A120
              clear A120
              simp only [Option.some.injEq, Prod.mk.injEq] at H
              obtain ⟨rfl, rfl⟩ := H
              go_enter Try.func12, Try.ntmps12
              go_wp2_with (first | ((with_reducible refine gate_callee (f := 14) rfl ?_); refine goesL_ (some 15) rfl rfl Try.func14 (by kernel_rfl) rfl #[.int .i64 a0, .int .i64 a2] rfl (by (try simp only [List.map_toArray, List.map_cons, List.map_nil]); first | done | rfl | (simp only [List.length_drop, List.length_take]; rfl)) ?_; (with_reducible refine (calc_Fails.calls a0 a2 false _ A4.out).mono ?_); rintro e w' ⟨rfl, ⟨nd, rfl⟩⟩; refine ⟨_, rfl, ?_⟩) | ((with_reducible refine gate_callee (f := 44) rfl ?_); refine goesL_ (some 49) rfl rfl Try.func44 (by kernel_rfl) rfl #[.int .i64 a1, .int .i64 a2] rfl (by (try simp only [List.map_toArray, List.map_cons, List.map_nil]); first | done | rfl | (simp only [List.length_drop, List.length_take]; rfl)) ?_; (with_reducible refine (calc_parts.calls a1 a2 t104 t105 _ A12.out).mono ?_); rintro e w' ⟨rfl, ⟨nd, rfl⟩⟩; refine ⟨_, rfl, ?_⟩))
              go_ret2
              exact ⟨by first | rfl | (simp; done) | (simp [*]; done), by repeat (first | exact Drawn0.refl _ | apply Drawn0.step)⟩
            · rw [if_neg c11] at H
              have c11b0 : (a0 == 5) = false := beq_eq_false_iff_ne.mpr c11
              have c11b1 : (a0 != 5) = true := bne_iff_ne.mpr c11
              by_cases c13 : a0 = 6
              · rw [if_pos c13] at H
                have c13b0 : (a0 == 6) = true := beq_iff_eq.mpr c13
                have c13b1 : (a0 != 6) = false := bne_eq_false_iff_eq.mpr c13
                clear c13
                simp only [Option.some.injEq, Prod.mk.injEq] at H
                obtain ⟨rfl, rfl⟩ := H
                go_enter Try.func12, Try.ntmps12
                go_wp2_with (first | ((with_reducible refine gate_callee (f := 14) rfl ?_); refine goesL_ (some 15) rfl rfl Try.func14 (by kernel_rfl) rfl #[.int .i64 a0, .int .i64 a2] rfl (by (try simp only [List.map_toArray, List.map_cons, List.map_nil]); first | done | rfl | (simp only [List.length_drop, List.length_take]; rfl)) ?_; (with_reducible refine (calc_Fails.calls a0 a2 false _ A4.out).mono ?_); rintro e w' ⟨rfl, ⟨nd, rfl⟩⟩; refine ⟨_, rfl, ?_⟩))
                go_ret2
                exact ⟨by first | rfl | (simp; done) | (simp [*]; done), by repeat (first | exact Drawn0.refl _ | apply Drawn0.step)⟩
              · rw [if_neg c13] at H
                have c13b0 : (a0 == 6) = false := beq_eq_false_iff_ne.mpr c13
                have c13b1 : (a0 != 6) = true := bne_iff_ne.mpr c13
                by_cases c14 : a0 = 7
                · rw [if_pos c14] at H
                  have c14b0 : (a0 == 7) = true := beq_iff_eq.mpr c14
                  have c14b1 : (a0 != 7) = false := bne_eq_false_iff_eq.mpr c14
                  clear c14
                  simp only [Option.some.injEq, Prod.mk.injEq] at H
                  obtain ⟨rfl, rfl⟩ := H
                  go_enter Try.func12, Try.ntmps12
                  go_wp2_with (first | ((with_reducible refine gate_callee (f := 14) rfl ?_); refine goesL_ (some 15) rfl rfl Try.func14 (by kernel_rfl) rfl #[.int .i64 a0, .int .i64 a2] rfl (by (try simp only [List.map_toArray, List.map_cons, List.map_nil]); first | done | rfl | (simp only [List.length_drop, List.length_take]; rfl)) ?_; (with_reducible refine (calc_Fails.calls a0 a2 false _ A4.out).mono ?_); rintro e w' ⟨rfl, ⟨nd, rfl⟩⟩; refine ⟨_, rfl, ?_⟩))
                  go_ret2
                  exact ⟨by first | rfl | (simp; done) | (simp [*]; done), by repeat (first | exact Drawn0.refl _ | apply Drawn0.step)⟩
                · rw [if_neg c14] at H
                  have c14b0 : (a0 == 7) = false := beq_eq_false_iff_ne.mpr c14
                  have c14b1 : (a0 != 7) = true := bne_iff_ne.mpr c14
                  by_cases c15 : a0 = 8
                  · rw [if_pos c15] at H
                    have c15b0 : (a0 == 8) = true := beq_iff_eq.mpr c15
                    have c15b1 : (a0 != 8) = false := bne_eq_false_iff_eq.mpr c15
                    clear c15
                    simp only [Option.some.injEq, Prod.mk.injEq] at H
                    obtain ⟨rfl, rfl⟩ := H
                    go_enter Try.func12, Try.ntmps12
                    go_wp2_with (first | ((with_reducible refine gate_callee (f := 14) rfl ?_); refine goesL_ (some 15) rfl rfl Try.func14 (by kernel_rfl) rfl #[.int .i64 a0, .int .i64 a2] rfl (by (try simp only [List.map_toArray, List.map_cons, List.map_nil]); first | done | rfl | (simp only [List.length_drop, List.length_take]; rfl)) ?_; (with_reducible refine (calc_Fails.calls a0 a2 false _ A4.out).mono ?_); rintro e w' ⟨rfl, ⟨nd, rfl⟩⟩; refine ⟨_, rfl, ?_⟩))
                    go_ret2
                    exact ⟨by first | rfl | (simp; done) | (simp [*]; done), by repeat (first | exact Drawn0.refl _ | apply Drawn0.step)⟩
                  · rw [if_neg c15] at H
                    have c15b0 : (a0 == 8) = false := beq_eq_false_iff_ne.mpr c15
                    have c15b1 : (a0 != 8) = true := bne_iff_ne.mpr c15
                    by_cases c16 : a0 = 9
                    · rw [if_pos c16] at H
                      have c16b0 : (a0 == 9) = true := beq_iff_eq.mpr c16
                      have c16b1 : (a0 != 9) = false := bne_eq_false_iff_eq.mpr c16
                      clear c16
                      obtain ⟨ji17, hji17⟩ : ∃ j_ : Int, (Go.bits .and .u64 (IntKind.u64.wrap (a2)) 63) = j_ := ⟨_, rfl⟩
                      replace H : (if 0 ≤ (ji17) then (some (shl .i64 a1 (ji17), true)) else (none)) = some (r1, r2) := by first | (rw [hji17] at H; exact H) | (simp only [hji17] at H ⊢; exact H)
                      (try rw [hji17] at A4)
                      by_cases c18 : 0 ≤ (ji17)
                      · rw [if_pos c18] at H
                        have c18b0 := eq_true c18
                        have c18b1 : decide (0 ≤ (ji17)) = true := decide_eq_true c18
                        clear c18
                        obtain ⟨ji19, hji19⟩ : ∃ j_ : Int, (shl .i64 a1 (ji17)) = j_ := ⟨_, rfl⟩
                        replace H : (some (ji19, true)) = some (r1, r2) := by first | (rw [hji19] at H; exact H) | (simp only [hji19] at H ⊢; exact H)
                        (try rw [hji19] at A4)
                        have hji19_ : (IntKind.i64.wrap (a1 * 2 ^ min (ji17).toNat 64)) = ji19 := hji19
                        have hji19z : (ji17) ≤ 64 → (IntKind.i64.wrap (a1 * 2 ^ (ji17).toNat)) = ji19 := shl_small hji19
                        have hji19y : (wrap64 (a1 * 2 ^ min (ji17).toNat 64)) = ji19 := (i64_w _).symm.trans hji19_
                        have hji19x : (ji17) ≤ 64 → (wrap64 (a1 * 2 ^ (ji17).toNat)) = ji19 := fun h_ => (i64_w _).symm.trans (hji19z h_)
                        simp only [Option.some.injEq, Prod.mk.injEq] at H
                        obtain ⟨rfl, rfl⟩ := H
                        go_enter Try.func12, Try.ntmps12
                        go_wp2_with (first | ((with_reducible refine gate_callee (f := 14) rfl ?_); refine goesL_ (some 15) rfl rfl Try.func14 (by kernel_rfl) rfl #[.int .i64 a0, .int .i64 a2] rfl (by (try simp only [List.map_toArray, List.map_cons, List.map_nil]); first | done | rfl | (simp only [List.length_drop, List.length_take]; rfl)) ?_; (with_reducible refine (calc_Fails.calls a0 a2 false _ A4.out).mono ?_); rintro e w' ⟨rfl, ⟨nd, rfl⟩⟩; refine ⟨_, rfl, ?_⟩))
                        go_ret2
                        exact ⟨by first | rfl | (simp; done) | (simp only [← hji17, ← hji19] <;> (first | rfl | simp)) | (simp [*]; done), by repeat (first | exact Drawn0.refl _ | apply Drawn0.step)⟩
                      · rw [if_neg c18] at H
                        exact absurd H (by simp)
                    · rw [if_neg c16] at H
                      have c16b0 : (a0 == 9) = false := beq_eq_false_iff_ne.mpr c16
                      have c16b1 : (a0 != 9) = true := bne_iff_ne.mpr c16
                      by_cases c20 : a0 = 10
                      · rw [if_pos c20] at H
                        have c20b0 : (a0 == 10) = true := beq_iff_eq.mpr c20
                        have c20b1 : (a0 != 10) = false := bne_eq_false_iff_eq.mpr c20
                        clear c20
                        obtain ⟨ji21, hji21⟩ : ∃ j_ : Int, (Go.bits .and .u64 (IntKind.u64.wrap (a2)) 63) = j_ := ⟨_, rfl⟩
                        replace H : (if 0 ≤ (ji21) then (some (shr .i64 a1 (ji21), true)) else (none)) = some (r1, r2) := by first | (rw [hji21] at H; exact H) | (simp only [hji21] at H ⊢; exact H)
                        (try rw [hji21] at A4)
                        by_cases c22 : 0 ≤ (ji21)
                        · rw [if_pos c22] at H
                          have c22b0 := eq_true c22
                          have c22b1 : decide (0 ≤ (ji21)) = true := decide_eq_true c22
                          clear c22
                          obtain ⟨ji23, hji23⟩ : ∃ j_ : Int, (shr .i64 a1 (ji21)) = j_ := ⟨_, rfl⟩
                          replace H : (some (ji23, true)) = some (r1, r2) := by first | (rw [hji23] at H; exact H) | (simp only [hji23] at H ⊢; exact H)
                          (try rw [hji23] at A4)
                          have hji23_ : (a1 / 2 ^ min (ji21).toNat 64) = ji23 := hji23
                          have hji23z : (ji21) ≤ 64 → (a1 / 2 ^ (ji21).toNat) = ji23 := shr_small hji23
                          simp only [Option.some.injEq, Prod.mk.injEq] at H
                          obtain ⟨rfl, rfl⟩ := H
                          go_enter Try.func12, Try.ntmps12
                          go_wp2_with (first | ((with_reducible refine gate_callee (f := 14) rfl ?_); refine goesL_ (some 15) rfl rfl Try.func14 (by kernel_rfl) rfl #[.int .i64 a0, .int .i64 a2] rfl (by (try simp only [List.map_toArray, List.map_cons, List.map_nil]); first | done | rfl | (simp only [List.length_drop, List.length_take]; rfl)) ?_; (with_reducible refine (calc_Fails.calls a0 a2 false _ A4.out).mono ?_); rintro e w' ⟨rfl, ⟨nd, rfl⟩⟩; refine ⟨_, rfl, ?_⟩))
                          go_ret2
                          exact ⟨by first | rfl | (simp; done) | (simp only [← hji21, ← hji23] <;> (first | rfl | simp)) | (simp [*]; done), by repeat (first | exact Drawn0.refl _ | apply Drawn0.step)⟩
                        · rw [if_neg c22] at H
                          exact absurd H (by simp)
                      · rw [if_neg c20] at H
                        have c20b0 : (a0 == 10) = false := beq_eq_false_iff_ne.mpr c20
                        have c20b1 : (a0 != 10) = true := bne_iff_ne.mpr c20
                        replace H := Option.bind_eq_some_iff.mp H
                        obtain ⟨⟨t106, t107⟩, A240, H⟩ := H
                        replace H : (some (t106, t107)) = some (r1, r2) := H
                        have A24 := Aside0.mk A240
                        clear A240
                        simp only [Option.some.injEq, Prod.mk.injEq] at H
                        obtain ⟨rfl, rfl⟩ := H
                        go_enter Try.func12, Try.ntmps12
                        go_wp2_with (first | ((with_reducible refine gate_callee (f := 14) rfl ?_); refine goesL_ (some 15) rfl rfl Try.func14 (by kernel_rfl) rfl #[.int .i64 a0, .int .i64 a2] rfl (by (try simp only [List.map_toArray, List.map_cons, List.map_nil]); first | done | rfl | (simp only [List.length_drop, List.length_take]; rfl)) ?_; (with_reducible refine (calc_Fails.calls a0 a2 false _ A4.out).mono ?_); rintro e w' ⟨rfl, ⟨nd, rfl⟩⟩; refine ⟨_, rfl, ?_⟩) | ((with_reducible refine gate_callee (f := 45) rfl ?_); refine goesL_ (some 81) rfl rfl Try.func45 (by kernel_rfl) rfl #[.int .i64 a0, .int .i64 a1, .int .i64 a2] rfl (by (try simp only [List.map_toArray, List.map_cons, List.map_nil]); first | done | rfl | (simp only [List.length_drop, List.length_take]; rfl)) ?_; (with_reducible refine (calc_compares.calls a0 a1 a2 t106 t107 _ A24.out).mono ?_); rintro e w' ⟨rfl, ⟨nd, rfl⟩⟩; refine ⟨_, rfl, ?_⟩))
                        go_ret2
                        exact ⟨by first | rfl | (simp; done) | (simp [*]; done), by repeat (first | exact Drawn0.refl _ | apply Drawn0.step)⟩

/-! ### spinnakerlaw28_awake: function 15 -/
def spinnakerlaw28_awake.f  : Option (Bool) := (calc_Bin.f 5 (-7) 2).bind fun bt108 => (if bt108.1 = (-1) then (some bt108.2) else (some false))
set_option maxHeartbeats 8000000 in
set_option maxRecDepth 100000 in
theorem spinnakerlaw28_awake.calls  (r : Bool) (w : World) (h : spinnakerlaw28_awake.f  = some r) :
    Calls Try.prog 15 #[] w fun e w' => e = .returned (.bool r) ∧ Drawn0 w w' := by
  have H : ((calc_Bin.f 5 (-7) 2).bind fun bt108 => (if bt108.1 = (-1) then (some bt108.2) else (some false))) = some r := h
  clear h
  replace H := Option.bind_eq_some_iff.mp H
  obtain ⟨⟨t108, t109⟩, A10, H⟩ := H
  replace H : (if t108 = (-1) then (some t109) else (some false)) = some r := H
  have A1 := Aside0.mk A10
  clear A10
  by_cases c2 : t108 = (-1)
  · rw [if_pos c2] at H
    have c2b0 : (t108 == (-1)) = true := beq_iff_eq.mpr c2
    have c2b1 : (t108 != (-1)) = false := bne_eq_false_iff_eq.mpr c2
    clear c2
    obtain rfl := Option.some.inj H
    go_enter Try.func15, Try.ntmps15
    go_wp2_with (first | ((with_reducible refine gate_callee (f := 12) rfl ?_); refine goesL_ (some 4) rfl rfl Try.func12 (by kernel_rfl) rfl #[.int .i64 5, .int .i64 (-7), .int .i64 2] rfl (by (try simp only [List.map_toArray, List.map_cons, List.map_nil]); first | done | rfl | (simp only [List.length_drop, List.length_take]; rfl)) ?_; (with_reducible refine (calc_Bin.calls 5 (-7) 2 t108 t109 _ A1.out).mono ?_); rintro e w' ⟨rfl, ⟨nd, rfl⟩⟩; refine ⟨_, rfl, ?_⟩))
    go_ret
    exact ⟨by first | rfl | (simp; done) | (simp [*]; done), by repeat (first | exact Drawn0.refl _ | apply Drawn0.step)⟩
  · rw [if_neg c2] at H
    have c2b0 : (t108 == (-1)) = false := beq_eq_false_iff_ne.mpr c2
    have c2b1 : (t108 != (-1)) = true := bne_iff_ne.mpr c2
    obtain rfl := Option.some.inj H
    go_enter Try.func15, Try.ntmps15
    go_wp2_with (first | ((with_reducible refine gate_callee (f := 12) rfl ?_); refine goesL_ (some 4) rfl rfl Try.func12 (by kernel_rfl) rfl #[.int .i64 5, .int .i64 (-7), .int .i64 2] rfl (by (try simp only [List.map_toArray, List.map_cons, List.map_nil]); first | done | rfl | (simp only [List.length_drop, List.length_take]; rfl)) ?_; (with_reducible refine (calc_Bin.calls 5 (-7) 2 t108 t109 _ A1.out).mono ?_); rintro e w' ⟨rfl, ⟨nd, rfl⟩⟩; refine ⟨_, rfl, ?_⟩))
    go_ret
    exact ⟨by first | rfl | (simp; done) | (simp [*]; done), by repeat (first | exact Drawn0.refl _ | apply Drawn0.step)⟩

/-! ### calc_Rmw: function 16 -/
def calc_Rmw.f (a0 : Int) (a1 : Int) (a2 : Int) : Option (Int × Bool) := if a0 = 1 then (some (a2, true)) else (if a0 = 2 then (some (wrap64 (a1 + a2), true)) else (if a0 = 3 then (some (Go.bits .and .i64 a1 a2, true)) else (if a0 = 4 then (some (Go.bits .or .i64 a1 a2, true)) else (if a0 = 5 then (some (Go.bits .xor .i64 a1 a2, true)) else (if a0 = 6 then (some (mn a1 a2, true)) else (if a0 = 7 then (some (mx a1 a2, true)) else (some (0, false))))))))
set_option maxHeartbeats 8000000 in
set_option maxRecDepth 100000 in
theorem calc_Rmw.calls (a0 : Int) (a1 : Int) (a2 : Int) (r1 : Int) (r2 : Bool) (w : World) (h : calc_Rmw.f a0 a1 a2 = some (r1, r2)) :
    Calls Try.prog 16 #[.int .i64 a0, .int .i64 a1, .int .i64 a2] w fun e w' => e = .returned (.tuple #[.int .i64 r1, .bool r2]) ∧ Below w.heap.size w w' := by
  have HB := Aside0.mk (Below.refl w.heap.size w)
  have H : (if a0 = 1 then (some (a2, true)) else (if a0 = 2 then (some (wrap64 (a1 + a2), true)) else (if a0 = 3 then (some (Go.bits .and .i64 a1 a2, true)) else (if a0 = 4 then (some (Go.bits .or .i64 a1 a2, true)) else (if a0 = 5 then (some (Go.bits .xor .i64 a1 a2, true)) else (if a0 = 6 then (some (mn a1 a2, true)) else (if a0 = 7 then (some (mx a1 a2, true)) else (some (0, false))))))))) = some (r1, r2) := h
  clear h
  by_cases c4 : a0 = 1
  · rw [if_pos c4] at H
    have c4b0 : (a0 == 1) = true := beq_iff_eq.mpr c4
    have c4b1 : (a0 != 1) = false := bne_eq_false_iff_eq.mpr c4
    clear c4
    simp only [Option.some.injEq, Prod.mk.injEq] at H
    obtain ⟨rfl, rfl⟩ := H
    go_enter Try.func16, Try.ntmps16
    go_wp2
    go_ret2
    exact ⟨by first | rfl | (simp [errW_none, errW_some] <;> rfl) | (simp [*, errW_none, errW_some] <;> rfl), by repeat (first | (with_reducible first | exact HB.out | apply below_alloc | apply pw_below_drewN | apply below_drew1) | exact HB.out)⟩
  · rw [if_neg c4] at H
    have c4b0 : (a0 == 1) = false := beq_eq_false_iff_ne.mpr c4
    have c4b1 : (a0 != 1) = true := bne_iff_ne.mpr c4
    by_cases c5 : a0 = 2
    · rw [if_pos c5] at H
      have c5b0 : (a0 == 2) = true := beq_iff_eq.mpr c5
      have c5b1 : (a0 != 2) = false := bne_eq_false_iff_eq.mpr c5
      clear c5
      simp only [Option.some.injEq, Prod.mk.injEq] at H
      obtain ⟨rfl, rfl⟩ := H
      go_enter Try.func16, Try.ntmps16
      go_wp2
      go_ret2
      exact ⟨by first | rfl | (simp [errW_none, errW_some] <;> rfl) | (simp [*, errW_none, errW_some] <;> rfl), by repeat (first | (with_reducible first | exact HB.out | apply below_alloc | apply pw_below_drewN | apply below_drew1) | exact HB.out)⟩
    · rw [if_neg c5] at H
      have c5b0 : (a0 == 2) = false := beq_eq_false_iff_ne.mpr c5
      have c5b1 : (a0 != 2) = true := bne_iff_ne.mpr c5
      by_cases c6 : a0 = 3
      · rw [if_pos c6] at H
        have c6b0 : (a0 == 3) = true := beq_iff_eq.mpr c6
        have c6b1 : (a0 != 3) = false := bne_eq_false_iff_eq.mpr c6
        clear c6
        simp only [Option.some.injEq, Prod.mk.injEq] at H
        obtain ⟨rfl, rfl⟩ := H
        go_enter Try.func16, Try.ntmps16
        go_wp2
        go_ret2
        exact ⟨by first | rfl | (simp [errW_none, errW_some] <;> rfl) | (simp [*, errW_none, errW_some] <;> rfl), by repeat (first | (with_reducible first | exact HB.out | apply below_alloc | apply pw_below_drewN | apply below_drew1) | exact HB.out)⟩
      · rw [if_neg c6] at H
        have c6b0 : (a0 == 3) = false := beq_eq_false_iff_ne.mpr c6
        have c6b1 : (a0 != 3) = true := bne_iff_ne.mpr c6
        by_cases c7 : a0 = 4
        · rw [if_pos c7] at H
          have c7b0 : (a0 == 4) = true := beq_iff_eq.mpr c7
          have c7b1 : (a0 != 4) = false := bne_eq_false_iff_eq.mpr c7
          clear c7
          simp only [Option.some.injEq, Prod.mk.injEq] at H
          obtain ⟨rfl, rfl⟩ := H
          go_enter Try.func16, Try.ntmps16
          go_wp2
          go_ret2
          exact ⟨by first | rfl | (simp [errW_none, errW_some] <;> rfl) | (simp [*, errW_none, errW_some] <;> rfl), by repeat (first | (with_reducible first | exact HB.out | apply below_alloc | apply pw_below_drewN | apply below_drew1) | exact HB.out)⟩
        · rw [if_neg c7] at H
          have c7b0 : (a0 == 4) = false := beq_eq_false_iff_ne.mpr c7
          have c7b1 : (a0 != 4) = true := bne_iff_ne.mpr c7
          by_cases c8 : a0 = 5
          · rw [if_pos c8] at H
            have c8b0 : (a0 == 5) = true := beq_iff_eq.mpr c8
            have c8b1 : (a0 != 5) = false := bne_eq_false_iff_eq.mpr c8
            clear c8
            simp only [Option.some.injEq, Prod.mk.injEq] at H
            obtain ⟨rfl, rfl⟩ := H
            go_enter Try.func16, Try.ntmps16
            go_wp2
            go_ret2
            exact ⟨by first | rfl | (simp [errW_none, errW_some] <;> rfl) | (simp [*, errW_none, errW_some] <;> rfl), by repeat (first | (with_reducible first | exact HB.out | apply below_alloc | apply pw_below_drewN | apply below_drew1) | exact HB.out)⟩
          · rw [if_neg c8] at H
            have c8b0 : (a0 == 5) = false := beq_eq_false_iff_ne.mpr c8
            have c8b1 : (a0 != 5) = true := bne_iff_ne.mpr c8
            by_cases c9 : a0 = 6
            · rw [if_pos c9] at H
              have c9b0 : (a0 == 6) = true := beq_iff_eq.mpr c9
              have c9b1 : (a0 != 6) = false := bne_eq_false_iff_eq.mpr c9
              clear c9
              obtain ⟨ji10, hji10⟩ : ∃ j_ : Int, (mn a1 a2) = j_ := ⟨_, rfl⟩
              replace H : (some (ji10, true)) = some (r1, r2) := by first | (rw [hji10] at H; exact H) | (simp only [hji10] at H ⊢; exact H)
              have hji10_ : (if a2 < a1 then a2 else a1) = ji10 := hji10
              simp only [Option.some.injEq, Prod.mk.injEq] at H
              obtain ⟨rfl, rfl⟩ := H
              go_enter Try.func16, Try.ntmps16
              go_wp2
              go_ret2
              exact ⟨by first | rfl | (simp [errW_none, errW_some] <;> rfl) | (simp only [← hji10]; first | rfl | (simp [errW_none, errW_some] <;> rfl)) | (simp [*, errW_none, errW_some] <;> rfl), by repeat (first | (with_reducible first | exact HB.out | apply below_alloc | apply pw_below_drewN | apply below_drew1) | exact HB.out)⟩
            · rw [if_neg c9] at H
              have c9b0 : (a0 == 6) = false := beq_eq_false_iff_ne.mpr c9
              have c9b1 : (a0 != 6) = true := bne_iff_ne.mpr c9
              by_cases c11 : a0 = 7
              · rw [if_pos c11] at H
                have c11b0 : (a0 == 7) = true := beq_iff_eq.mpr c11
                have c11b1 : (a0 != 7) = false := bne_eq_false_iff_eq.mpr c11
                clear c11
                obtain ⟨ji12, hji12⟩ : ∃ j_ : Int, (mx a1 a2) = j_ := ⟨_, rfl⟩
                replace H : (some (ji12, true)) = some (r1, r2) := by first | (rw [hji12] at H; exact H) | (simp only [hji12] at H ⊢; exact H)
                have hji12_ : (if a1 < a2 then a2 else a1) = ji12 := hji12
                simp only [Option.some.injEq, Prod.mk.injEq] at H
                obtain ⟨rfl, rfl⟩ := H
                go_enter Try.func16, Try.ntmps16
                go_wp2
                go_ret2
                exact ⟨by first | rfl | (simp [errW_none, errW_some] <;> rfl) | (simp only [← hji12]; first | rfl | (simp [errW_none, errW_some] <;> rfl)) | (simp [*, errW_none, errW_some] <;> rfl), by repeat (first | (with_reducible first | exact HB.out | apply below_alloc | apply pw_below_drewN | apply below_drew1) | exact HB.out)⟩
              · rw [if_neg c11] at H
                have c11b0 : (a0 == 7) = false := beq_eq_false_iff_ne.mpr c11
                have c11b1 : (a0 != 7) = true := bne_iff_ne.mpr c11
                simp only [Option.some.injEq, Prod.mk.injEq] at H
                obtain ⟨rfl, rfl⟩ := H
                go_enter Try.func16, Try.ntmps16
                go_wp2
                go_ret2
                exact ⟨by first | rfl | (simp [errW_none, errW_some] <;> rfl) | (simp [*, errW_none, errW_some] <;> rfl), by repeat (first | (with_reducible first | exact HB.out | apply below_alloc | apply pw_below_drewN | apply below_drew1) | exact HB.out)⟩

/-! ### spinnakerref03_Names: function 74 -/
def spinnakerref03_Names.f  : Option (List ByteArray) := some (([(⟨#[108, 117, 105]⟩ : ByteArray), (⟨#[97, 117, 105, 112, 99]⟩ : ByteArray), (⟨#[106, 97, 108]⟩ : ByteArray), (⟨#[106, 97, 108, 114]⟩ : ByteArray), (⟨#[98, 101, 113]⟩ : ByteArray), (⟨#[98, 110, 101]⟩ : ByteArray), (⟨#[98, 108, 116]⟩ : ByteArray), (⟨#[98, 103, 101]⟩ : ByteArray), (⟨#[98, 108, 116, 117]⟩ : ByteArray), (⟨#[98, 103, 101, 117]⟩ : ByteArray), (⟨#[108, 98]⟩ : ByteArray), (⟨#[108, 104]⟩ : ByteArray), (⟨#[108, 119]⟩ : ByteArray), (⟨#[108, 100]⟩ : ByteArray), (⟨#[108, 98, 117]⟩ : ByteArray), (⟨#[108, 104, 117]⟩ : ByteArray), (⟨#[108, 119, 117]⟩ : ByteArray), (⟨#[115, 98]⟩ : ByteArray), (⟨#[115, 104]⟩ : ByteArray), (⟨#[115, 119]⟩ : ByteArray), (⟨#[115, 100]⟩ : ByteArray), (⟨#[97, 100, 100, 105]⟩ : ByteArray), (⟨#[115, 108, 116, 105]⟩ : ByteArray), (⟨#[115, 108, 116, 105, 117]⟩ : ByteArray), (⟨#[120, 111, 114, 105]⟩ : ByteArray), (⟨#[111, 114, 105]⟩ : ByteArray), (⟨#[97, 110, 100, 105]⟩ : ByteArray), (⟨#[115, 108, 108, 105]⟩ : ByteArray), (⟨#[115, 114, 108, 105]⟩ : ByteArray), (⟨#[115, 114, 97, 105]⟩ : ByteArray), (⟨#[97, 100, 100, 105, 119]⟩ : ByteArray), (⟨#[115, 108, 108, 105, 119]⟩ : ByteArray), (⟨#[115, 114, 108, 105, 119]⟩ : ByteArray), (⟨#[115, 114, 97, 105, 119]⟩ : ByteArray), (⟨#[97, 100, 100]⟩ : ByteArray), (⟨#[115, 117, 98]⟩ : ByteArray), (⟨#[115, 108, 108]⟩ : ByteArray), (⟨#[115, 108, 116]⟩ : ByteArray), (⟨#[115, 108, 116, 117]⟩ : ByteArray), (⟨#[120, 111, 114]⟩ : ByteArray), (⟨#[115, 114, 108]⟩ : ByteArray), (⟨#[115, 114, 97]⟩ : ByteArray), (⟨#[111, 114]⟩ : ByteArray), (⟨#[97, 110, 100]⟩ : ByteArray), (⟨#[97, 100, 100, 119]⟩ : ByteArray), (⟨#[115, 117, 98, 119]⟩ : ByteArray), (⟨#[115, 108, 108, 119]⟩ : ByteArray), (⟨#[115, 114, 108, 119]⟩ : ByteArray), (⟨#[115, 114, 97, 119]⟩ : ByteArray), (⟨#[109, 117, 108]⟩ : ByteArray), (⟨#[109, 117, 108, 104]⟩ : ByteArray), (⟨#[109, 117, 108, 104, 115, 117]⟩ : ByteArray), (⟨#[109, 117, 108, 104, 117]⟩ : ByteArray), (⟨#[100, 105, 118]⟩ : ByteArray), (⟨#[100, 105, 118, 117]⟩ : ByteArray), (⟨#[114, 101, 109]⟩ : ByteArray), (⟨#[114, 101, 109, 117]⟩ : ByteArray), (⟨#[109, 117, 108, 119]⟩ : ByteArray), (⟨#[100, 105, 118, 119]⟩ : ByteArray), (⟨#[100, 105, 118, 117, 119]⟩ : ByteArray), (⟨#[114, 101, 109, 119]⟩ : ByteArray), (⟨#[114, 101, 109, 117, 119]⟩ : ByteArray), (⟨#[102, 101, 110, 99, 101]⟩ : ByteArray), (⟨#[101, 99, 97, 108, 108]⟩ : ByteArray), (⟨#[101, 98, 114, 101, 97, 107]⟩ : ByteArray), (⟨#[108, 114, 46, 119]⟩ : ByteArray), (⟨#[115, 99, 46, 119]⟩ : ByteArray), (⟨#[97, 109, 111, 115, 119, 97, 112, 46, 119]⟩ : ByteArray), (⟨#[97, 109, 111, 97, 100, 100, 46, 119]⟩ : ByteArray), (⟨#[97, 109, 111, 120, 111, 114, 46, 119]⟩ : ByteArray), (⟨#[97, 109, 111, 97, 110, 100, 46, 119]⟩ : ByteArray), (⟨#[97, 109, 111, 111, 114, 46, 119]⟩ : ByteArray), (⟨#[97, 109, 111, 109, 105, 110, 46, 119]⟩ : ByteArray), (⟨#[97, 109, 111, 109, 97, 120, 46, 119]⟩ : ByteArray), (⟨#[97, 109, 111, 109, 105, 110, 117, 46, 119]⟩ : ByteArray), (⟨#[97, 109, 111, 109, 97, 120, 117, 46, 119]⟩ : ByteArray), (⟨#[108, 114, 46, 100]⟩ : ByteArray), (⟨#[115, 99, 46, 100]⟩ : ByteArray), (⟨#[97, 109, 111, 115, 119, 97, 112, 46, 100]⟩ : ByteArray), (⟨#[97, 109, 111, 97, 100, 100, 46, 100]⟩ : ByteArray), (⟨#[97, 109, 111, 120, 111, 114, 46, 100]⟩ : ByteArray), (⟨#[97, 109, 111, 97, 110, 100, 46, 100]⟩ : ByteArray), (⟨#[97, 109, 111, 111, 114, 46, 100]⟩ : ByteArray), (⟨#[97, 109, 111, 109, 105, 110, 46, 100]⟩ : ByteArray), (⟨#[97, 109, 111, 109, 97, 120, 46, 100]⟩ : ByteArray), (⟨#[97, 109, 111, 109, 105, 110, 117, 46, 100]⟩ : ByteArray), (⟨#[97, 109, 111, 109, 97, 120, 117, 46, 100]⟩ : ByteArray)] : List ByteArray))
set_option maxHeartbeats 8000000 in
set_option maxRecDepth 100000 in
theorem spinnakerref03_Names.calls  (r : List ByteArray) (w : World) (h : spinnakerref03_Names.f  = some r) :
    Calls Try.prog 74 #[] w fun e w' => ∃ v0_ : Value, e = .returned (v0_) ∧ Kd.R Kd.string 9 w' w.heap.size (fun _ => True) v0_ r ∧ Below w.heap.size w w' := by
  have HB := Aside0.mk (Below.refl w.heap.size w)
  have H : (some (([(⟨#[108, 117, 105]⟩ : ByteArray), (⟨#[97, 117, 105, 112, 99]⟩ : ByteArray), (⟨#[106, 97, 108]⟩ : ByteArray), (⟨#[106, 97, 108, 114]⟩ : ByteArray), (⟨#[98, 101, 113]⟩ : ByteArray), (⟨#[98, 110, 101]⟩ : ByteArray), (⟨#[98, 108, 116]⟩ : ByteArray), (⟨#[98, 103, 101]⟩ : ByteArray), (⟨#[98, 108, 116, 117]⟩ : ByteArray), (⟨#[98, 103, 101, 117]⟩ : ByteArray), (⟨#[108, 98]⟩ : ByteArray), (⟨#[108, 104]⟩ : ByteArray), (⟨#[108, 119]⟩ : ByteArray), (⟨#[108, 100]⟩ : ByteArray), (⟨#[108, 98, 117]⟩ : ByteArray), (⟨#[108, 104, 117]⟩ : ByteArray), (⟨#[108, 119, 117]⟩ : ByteArray), (⟨#[115, 98]⟩ : ByteArray), (⟨#[115, 104]⟩ : ByteArray), (⟨#[115, 119]⟩ : ByteArray), (⟨#[115, 100]⟩ : ByteArray), (⟨#[97, 100, 100, 105]⟩ : ByteArray), (⟨#[115, 108, 116, 105]⟩ : ByteArray), (⟨#[115, 108, 116, 105, 117]⟩ : ByteArray), (⟨#[120, 111, 114, 105]⟩ : ByteArray), (⟨#[111, 114, 105]⟩ : ByteArray), (⟨#[97, 110, 100, 105]⟩ : ByteArray), (⟨#[115, 108, 108, 105]⟩ : ByteArray), (⟨#[115, 114, 108, 105]⟩ : ByteArray), (⟨#[115, 114, 97, 105]⟩ : ByteArray), (⟨#[97, 100, 100, 105, 119]⟩ : ByteArray), (⟨#[115, 108, 108, 105, 119]⟩ : ByteArray), (⟨#[115, 114, 108, 105, 119]⟩ : ByteArray), (⟨#[115, 114, 97, 105, 119]⟩ : ByteArray), (⟨#[97, 100, 100]⟩ : ByteArray), (⟨#[115, 117, 98]⟩ : ByteArray), (⟨#[115, 108, 108]⟩ : ByteArray), (⟨#[115, 108, 116]⟩ : ByteArray), (⟨#[115, 108, 116, 117]⟩ : ByteArray), (⟨#[120, 111, 114]⟩ : ByteArray), (⟨#[115, 114, 108]⟩ : ByteArray), (⟨#[115, 114, 97]⟩ : ByteArray), (⟨#[111, 114]⟩ : ByteArray), (⟨#[97, 110, 100]⟩ : ByteArray), (⟨#[97, 100, 100, 119]⟩ : ByteArray), (⟨#[115, 117, 98, 119]⟩ : ByteArray), (⟨#[115, 108, 108, 119]⟩ : ByteArray), (⟨#[115, 114, 108, 119]⟩ : ByteArray), (⟨#[115, 114, 97, 119]⟩ : ByteArray), (⟨#[109, 117, 108]⟩ : ByteArray), (⟨#[109, 117, 108, 104]⟩ : ByteArray), (⟨#[109, 117, 108, 104, 115, 117]⟩ : ByteArray), (⟨#[109, 117, 108, 104, 117]⟩ : ByteArray), (⟨#[100, 105, 118]⟩ : ByteArray), (⟨#[100, 105, 118, 117]⟩ : ByteArray), (⟨#[114, 101, 109]⟩ : ByteArray), (⟨#[114, 101, 109, 117]⟩ : ByteArray), (⟨#[109, 117, 108, 119]⟩ : ByteArray), (⟨#[100, 105, 118, 119]⟩ : ByteArray), (⟨#[100, 105, 118, 117, 119]⟩ : ByteArray), (⟨#[114, 101, 109, 119]⟩ : ByteArray), (⟨#[114, 101, 109, 117, 119]⟩ : ByteArray), (⟨#[102, 101, 110, 99, 101]⟩ : ByteArray), (⟨#[101, 99, 97, 108, 108]⟩ : ByteArray), (⟨#[101, 98, 114, 101, 97, 107]⟩ : ByteArray), (⟨#[108, 114, 46, 119]⟩ : ByteArray), (⟨#[115, 99, 46, 119]⟩ : ByteArray), (⟨#[97, 109, 111, 115, 119, 97, 112, 46, 119]⟩ : ByteArray), (⟨#[97, 109, 111, 97, 100, 100, 46, 119]⟩ : ByteArray), (⟨#[97, 109, 111, 120, 111, 114, 46, 119]⟩ : ByteArray), (⟨#[97, 109, 111, 97, 110, 100, 46, 119]⟩ : ByteArray), (⟨#[97, 109, 111, 111, 114, 46, 119]⟩ : ByteArray), (⟨#[97, 109, 111, 109, 105, 110, 46, 119]⟩ : ByteArray), (⟨#[97, 109, 111, 109, 97, 120, 46, 119]⟩ : ByteArray), (⟨#[97, 109, 111, 109, 105, 110, 117, 46, 119]⟩ : ByteArray), (⟨#[97, 109, 111, 109, 97, 120, 117, 46, 119]⟩ : ByteArray), (⟨#[108, 114, 46, 100]⟩ : ByteArray), (⟨#[115, 99, 46, 100]⟩ : ByteArray), (⟨#[97, 109, 111, 115, 119, 97, 112, 46, 100]⟩ : ByteArray), (⟨#[97, 109, 111, 97, 100, 100, 46, 100]⟩ : ByteArray), (⟨#[97, 109, 111, 120, 111, 114, 46, 100]⟩ : ByteArray), (⟨#[97, 109, 111, 97, 110, 100, 46, 100]⟩ : ByteArray), (⟨#[97, 109, 111, 111, 114, 46, 100]⟩ : ByteArray), (⟨#[97, 109, 111, 109, 105, 110, 46, 100]⟩ : ByteArray), (⟨#[97, 109, 111, 109, 97, 120, 46, 100]⟩ : ByteArray), (⟨#[97, 109, 111, 109, 105, 110, 117, 46, 100]⟩ : ByteArray), (⟨#[97, 109, 111, 109, 97, 120, 117, 46, 100]⟩ : ByteArray)] : List ByteArray))) = some r := h
  clear h
  obtain ⟨y110, hy110⟩ : ∃ y_ : List ByteArray, y_ = (([(⟨#[108, 117, 105]⟩ : ByteArray), (⟨#[97, 117, 105, 112, 99]⟩ : ByteArray), (⟨#[106, 97, 108]⟩ : ByteArray), (⟨#[106, 97, 108, 114]⟩ : ByteArray), (⟨#[98, 101, 113]⟩ : ByteArray), (⟨#[98, 110, 101]⟩ : ByteArray), (⟨#[98, 108, 116]⟩ : ByteArray), (⟨#[98, 103, 101]⟩ : ByteArray), (⟨#[98, 108, 116, 117]⟩ : ByteArray), (⟨#[98, 103, 101, 117]⟩ : ByteArray), (⟨#[108, 98]⟩ : ByteArray), (⟨#[108, 104]⟩ : ByteArray), (⟨#[108, 119]⟩ : ByteArray), (⟨#[108, 100]⟩ : ByteArray), (⟨#[108, 98, 117]⟩ : ByteArray), (⟨#[108, 104, 117]⟩ : ByteArray), (⟨#[108, 119, 117]⟩ : ByteArray), (⟨#[115, 98]⟩ : ByteArray), (⟨#[115, 104]⟩ : ByteArray), (⟨#[115, 119]⟩ : ByteArray), (⟨#[115, 100]⟩ : ByteArray), (⟨#[97, 100, 100, 105]⟩ : ByteArray), (⟨#[115, 108, 116, 105]⟩ : ByteArray), (⟨#[115, 108, 116, 105, 117]⟩ : ByteArray), (⟨#[120, 111, 114, 105]⟩ : ByteArray), (⟨#[111, 114, 105]⟩ : ByteArray), (⟨#[97, 110, 100, 105]⟩ : ByteArray), (⟨#[115, 108, 108, 105]⟩ : ByteArray), (⟨#[115, 114, 108, 105]⟩ : ByteArray), (⟨#[115, 114, 97, 105]⟩ : ByteArray), (⟨#[97, 100, 100, 105, 119]⟩ : ByteArray), (⟨#[115, 108, 108, 105, 119]⟩ : ByteArray), (⟨#[115, 114, 108, 105, 119]⟩ : ByteArray), (⟨#[115, 114, 97, 105, 119]⟩ : ByteArray), (⟨#[97, 100, 100]⟩ : ByteArray), (⟨#[115, 117, 98]⟩ : ByteArray), (⟨#[115, 108, 108]⟩ : ByteArray), (⟨#[115, 108, 116]⟩ : ByteArray), (⟨#[115, 108, 116, 117]⟩ : ByteArray), (⟨#[120, 111, 114]⟩ : ByteArray), (⟨#[115, 114, 108]⟩ : ByteArray), (⟨#[115, 114, 97]⟩ : ByteArray), (⟨#[111, 114]⟩ : ByteArray), (⟨#[97, 110, 100]⟩ : ByteArray), (⟨#[97, 100, 100, 119]⟩ : ByteArray), (⟨#[115, 117, 98, 119]⟩ : ByteArray), (⟨#[115, 108, 108, 119]⟩ : ByteArray), (⟨#[115, 114, 108, 119]⟩ : ByteArray), (⟨#[115, 114, 97, 119]⟩ : ByteArray), (⟨#[109, 117, 108]⟩ : ByteArray), (⟨#[109, 117, 108, 104]⟩ : ByteArray), (⟨#[109, 117, 108, 104, 115, 117]⟩ : ByteArray), (⟨#[109, 117, 108, 104, 117]⟩ : ByteArray), (⟨#[100, 105, 118]⟩ : ByteArray), (⟨#[100, 105, 118, 117]⟩ : ByteArray), (⟨#[114, 101, 109]⟩ : ByteArray), (⟨#[114, 101, 109, 117]⟩ : ByteArray), (⟨#[109, 117, 108, 119]⟩ : ByteArray), (⟨#[100, 105, 118, 119]⟩ : ByteArray), (⟨#[100, 105, 118, 117, 119]⟩ : ByteArray), (⟨#[114, 101, 109, 119]⟩ : ByteArray), (⟨#[114, 101, 109, 117, 119]⟩ : ByteArray), (⟨#[102, 101, 110, 99, 101]⟩ : ByteArray), (⟨#[101, 99, 97, 108, 108]⟩ : ByteArray), (⟨#[101, 98, 114, 101, 97, 107]⟩ : ByteArray), (⟨#[108, 114, 46, 119]⟩ : ByteArray), (⟨#[115, 99, 46, 119]⟩ : ByteArray), (⟨#[97, 109, 111, 115, 119, 97, 112, 46, 119]⟩ : ByteArray), (⟨#[97, 109, 111, 97, 100, 100, 46, 119]⟩ : ByteArray), (⟨#[97, 109, 111, 120, 111, 114, 46, 119]⟩ : ByteArray), (⟨#[97, 109, 111, 97, 110, 100, 46, 119]⟩ : ByteArray), (⟨#[97, 109, 111, 111, 114, 46, 119]⟩ : ByteArray), (⟨#[97, 109, 111, 109, 105, 110, 46, 119]⟩ : ByteArray), (⟨#[97, 109, 111, 109, 97, 120, 46, 119]⟩ : ByteArray), (⟨#[97, 109, 111, 109, 105, 110, 117, 46, 119]⟩ : ByteArray), (⟨#[97, 109, 111, 109, 97, 120, 117, 46, 119]⟩ : ByteArray), (⟨#[108, 114, 46, 100]⟩ : ByteArray), (⟨#[115, 99, 46, 100]⟩ : ByteArray), (⟨#[97, 109, 111, 115, 119, 97, 112, 46, 100]⟩ : ByteArray), (⟨#[97, 109, 111, 97, 100, 100, 46, 100]⟩ : ByteArray), (⟨#[97, 109, 111, 120, 111, 114, 46, 100]⟩ : ByteArray), (⟨#[97, 109, 111, 97, 110, 100, 46, 100]⟩ : ByteArray), (⟨#[97, 109, 111, 111, 114, 46, 100]⟩ : ByteArray), (⟨#[97, 109, 111, 109, 105, 110, 46, 100]⟩ : ByteArray), (⟨#[97, 109, 111, 109, 97, 120, 46, 100]⟩ : ByteArray), (⟨#[97, 109, 111, 109, 105, 110, 117, 46, 100]⟩ : ByteArray), (⟨#[97, 109, 111, 109, 97, 120, 117, 46, 100]⟩ : ByteArray)] : List ByteArray)) := ⟨_, rfl⟩
  replace H : (some y110) = some r := by first | (rw [hy110]; with_reducible exact H) | (have H2_ := (Option.bind_some _ _).symm.trans H; rw [hy110]; with_reducible exact H2_) | (have H2_ := (Option.bind_some _ _).symm.trans H; with_reducible exact H2_) | with_reducible exact H | (rw [hy110]; exact H) | exact H
  have Ny110 := Aside0.mk hy110
  clear hy110
  obtain rfl := Option.some.inj H
  go_enter Try.func74, Try.ntmps74
  go_wp2_with (first | ((with_reducible refine gate_dst (N := 1) rfl ?_); refine Kd.R_lit Kd.string _ 9 ?hg (N := 1) ?hd (xs := ([(⟨#[108, 117, 105]⟩ : ByteArray), (⟨#[97, 117, 105, 112, 99]⟩ : ByteArray), (⟨#[106, 97, 108]⟩ : ByteArray), (⟨#[106, 97, 108, 114]⟩ : ByteArray), (⟨#[98, 101, 113]⟩ : ByteArray), (⟨#[98, 110, 101]⟩ : ByteArray), (⟨#[98, 108, 116]⟩ : ByteArray), (⟨#[98, 103, 101]⟩ : ByteArray), (⟨#[98, 108, 116, 117]⟩ : ByteArray), (⟨#[98, 103, 101, 117]⟩ : ByteArray), (⟨#[108, 98]⟩ : ByteArray), (⟨#[108, 104]⟩ : ByteArray), (⟨#[108, 119]⟩ : ByteArray), (⟨#[108, 100]⟩ : ByteArray), (⟨#[108, 98, 117]⟩ : ByteArray), (⟨#[108, 104, 117]⟩ : ByteArray), (⟨#[108, 119, 117]⟩ : ByteArray), (⟨#[115, 98]⟩ : ByteArray), (⟨#[115, 104]⟩ : ByteArray), (⟨#[115, 119]⟩ : ByteArray), (⟨#[115, 100]⟩ : ByteArray), (⟨#[97, 100, 100, 105]⟩ : ByteArray), (⟨#[115, 108, 116, 105]⟩ : ByteArray), (⟨#[115, 108, 116, 105, 117]⟩ : ByteArray), (⟨#[120, 111, 114, 105]⟩ : ByteArray), (⟨#[111, 114, 105]⟩ : ByteArray), (⟨#[97, 110, 100, 105]⟩ : ByteArray), (⟨#[115, 108, 108, 105]⟩ : ByteArray), (⟨#[115, 114, 108, 105]⟩ : ByteArray), (⟨#[115, 114, 97, 105]⟩ : ByteArray), (⟨#[97, 100, 100, 105, 119]⟩ : ByteArray), (⟨#[115, 108, 108, 105, 119]⟩ : ByteArray), (⟨#[115, 114, 108, 105, 119]⟩ : ByteArray), (⟨#[115, 114, 97, 105, 119]⟩ : ByteArray), (⟨#[97, 100, 100]⟩ : ByteArray), (⟨#[115, 117, 98]⟩ : ByteArray), (⟨#[115, 108, 108]⟩ : ByteArray), (⟨#[115, 108, 116]⟩ : ByteArray), (⟨#[115, 108, 116, 117]⟩ : ByteArray), (⟨#[120, 111, 114]⟩ : ByteArray), (⟨#[115, 114, 108]⟩ : ByteArray), (⟨#[115, 114, 97]⟩ : ByteArray), (⟨#[111, 114]⟩ : ByteArray), (⟨#[97, 110, 100]⟩ : ByteArray), (⟨#[97, 100, 100, 119]⟩ : ByteArray), (⟨#[115, 117, 98, 119]⟩ : ByteArray), (⟨#[115, 108, 108, 119]⟩ : ByteArray), (⟨#[115, 114, 108, 119]⟩ : ByteArray), (⟨#[115, 114, 97, 119]⟩ : ByteArray), (⟨#[109, 117, 108]⟩ : ByteArray), (⟨#[109, 117, 108, 104]⟩ : ByteArray), (⟨#[109, 117, 108, 104, 115, 117]⟩ : ByteArray), (⟨#[109, 117, 108, 104, 117]⟩ : ByteArray), (⟨#[100, 105, 118]⟩ : ByteArray), (⟨#[100, 105, 118, 117]⟩ : ByteArray), (⟨#[114, 101, 109]⟩ : ByteArray), (⟨#[114, 101, 109, 117]⟩ : ByteArray), (⟨#[109, 117, 108, 119]⟩ : ByteArray), (⟨#[100, 105, 118, 119]⟩ : ByteArray), (⟨#[100, 105, 118, 117, 119]⟩ : ByteArray), (⟨#[114, 101, 109, 119]⟩ : ByteArray), (⟨#[114, 101, 109, 117, 119]⟩ : ByteArray), (⟨#[102, 101, 110, 99, 101]⟩ : ByteArray), (⟨#[101, 99, 97, 108, 108]⟩ : ByteArray), (⟨#[101, 98, 114, 101, 97, 107]⟩ : ByteArray), (⟨#[108, 114, 46, 119]⟩ : ByteArray), (⟨#[115, 99, 46, 119]⟩ : ByteArray), (⟨#[97, 109, 111, 115, 119, 97, 112, 46, 119]⟩ : ByteArray), (⟨#[97, 109, 111, 97, 100, 100, 46, 119]⟩ : ByteArray), (⟨#[97, 109, 111, 120, 111, 114, 46, 119]⟩ : ByteArray), (⟨#[97, 109, 111, 97, 110, 100, 46, 119]⟩ : ByteArray), (⟨#[97, 109, 111, 111, 114, 46, 119]⟩ : ByteArray), (⟨#[97, 109, 111, 109, 105, 110, 46, 119]⟩ : ByteArray), (⟨#[97, 109, 111, 109, 97, 120, 46, 119]⟩ : ByteArray), (⟨#[97, 109, 111, 109, 105, 110, 117, 46, 119]⟩ : ByteArray), (⟨#[97, 109, 111, 109, 97, 120, 117, 46, 119]⟩ : ByteArray), (⟨#[108, 114, 46, 100]⟩ : ByteArray), (⟨#[115, 99, 46, 100]⟩ : ByteArray), (⟨#[97, 109, 111, 115, 119, 97, 112, 46, 100]⟩ : ByteArray), (⟨#[97, 109, 111, 97, 100, 100, 46, 100]⟩ : ByteArray), (⟨#[97, 109, 111, 120, 111, 114, 46, 100]⟩ : ByteArray), (⟨#[97, 109, 111, 97, 110, 100, 46, 100]⟩ : ByteArray), (⟨#[97, 109, 111, 111, 114, 46, 100]⟩ : ByteArray), (⟨#[97, 109, 111, 109, 105, 110, 46, 100]⟩ : ByteArray), (⟨#[97, 109, 111, 109, 97, 120, 46, 100]⟩ : ByteArray), (⟨#[97, 109, 111, 109, 105, 110, 117, 46, 100]⟩ : ByteArray), (⟨#[97, 109, 111, 109, 97, 120, 117, 46, 100]⟩ : ByteArray)] : List ByteArray)) (inner := [.string (⟨#[108, 117, 105]⟩ : ByteArray), .string (⟨#[97, 117, 105, 112, 99]⟩ : ByteArray), .string (⟨#[106, 97, 108]⟩ : ByteArray), .string (⟨#[106, 97, 108, 114]⟩ : ByteArray), .string (⟨#[98, 101, 113]⟩ : ByteArray), .string (⟨#[98, 110, 101]⟩ : ByteArray), .string (⟨#[98, 108, 116]⟩ : ByteArray), .string (⟨#[98, 103, 101]⟩ : ByteArray), .string (⟨#[98, 108, 116, 117]⟩ : ByteArray), .string (⟨#[98, 103, 101, 117]⟩ : ByteArray), .string (⟨#[108, 98]⟩ : ByteArray), .string (⟨#[108, 104]⟩ : ByteArray), .string (⟨#[108, 119]⟩ : ByteArray), .string (⟨#[108, 100]⟩ : ByteArray), .string (⟨#[108, 98, 117]⟩ : ByteArray), .string (⟨#[108, 104, 117]⟩ : ByteArray), .string (⟨#[108, 119, 117]⟩ : ByteArray), .string (⟨#[115, 98]⟩ : ByteArray), .string (⟨#[115, 104]⟩ : ByteArray), .string (⟨#[115, 119]⟩ : ByteArray), .string (⟨#[115, 100]⟩ : ByteArray), .string (⟨#[97, 100, 100, 105]⟩ : ByteArray), .string (⟨#[115, 108, 116, 105]⟩ : ByteArray), .string (⟨#[115, 108, 116, 105, 117]⟩ : ByteArray), .string (⟨#[120, 111, 114, 105]⟩ : ByteArray), .string (⟨#[111, 114, 105]⟩ : ByteArray), .string (⟨#[97, 110, 100, 105]⟩ : ByteArray), .string (⟨#[115, 108, 108, 105]⟩ : ByteArray), .string (⟨#[115, 114, 108, 105]⟩ : ByteArray), .string (⟨#[115, 114, 97, 105]⟩ : ByteArray), .string (⟨#[97, 100, 100, 105, 119]⟩ : ByteArray), .string (⟨#[115, 108, 108, 105, 119]⟩ : ByteArray), .string (⟨#[115, 114, 108, 105, 119]⟩ : ByteArray), .string (⟨#[115, 114, 97, 105, 119]⟩ : ByteArray), .string (⟨#[97, 100, 100]⟩ : ByteArray), .string (⟨#[115, 117, 98]⟩ : ByteArray), .string (⟨#[115, 108, 108]⟩ : ByteArray), .string (⟨#[115, 108, 116]⟩ : ByteArray), .string (⟨#[115, 108, 116, 117]⟩ : ByteArray), .string (⟨#[120, 111, 114]⟩ : ByteArray), .string (⟨#[115, 114, 108]⟩ : ByteArray), .string (⟨#[115, 114, 97]⟩ : ByteArray), .string (⟨#[111, 114]⟩ : ByteArray), .string (⟨#[97, 110, 100]⟩ : ByteArray), .string (⟨#[97, 100, 100, 119]⟩ : ByteArray), .string (⟨#[115, 117, 98, 119]⟩ : ByteArray), .string (⟨#[115, 108, 108, 119]⟩ : ByteArray), .string (⟨#[115, 114, 108, 119]⟩ : ByteArray), .string (⟨#[115, 114, 97, 119]⟩ : ByteArray), .string (⟨#[109, 117, 108]⟩ : ByteArray), .string (⟨#[109, 117, 108, 104]⟩ : ByteArray), .string (⟨#[109, 117, 108, 104, 115, 117]⟩ : ByteArray), .string (⟨#[109, 117, 108, 104, 117]⟩ : ByteArray), .string (⟨#[100, 105, 118]⟩ : ByteArray), .string (⟨#[100, 105, 118, 117]⟩ : ByteArray), .string (⟨#[114, 101, 109]⟩ : ByteArray), .string (⟨#[114, 101, 109, 117]⟩ : ByteArray), .string (⟨#[109, 117, 108, 119]⟩ : ByteArray), .string (⟨#[100, 105, 118, 119]⟩ : ByteArray), .string (⟨#[100, 105, 118, 117, 119]⟩ : ByteArray), .string (⟨#[114, 101, 109, 119]⟩ : ByteArray), .string (⟨#[114, 101, 109, 117, 119]⟩ : ByteArray), .string (⟨#[102, 101, 110, 99, 101]⟩ : ByteArray), .string (⟨#[101, 99, 97, 108, 108]⟩ : ByteArray), .string (⟨#[101, 98, 114, 101, 97, 107]⟩ : ByteArray), .string (⟨#[108, 114, 46, 119]⟩ : ByteArray), .string (⟨#[115, 99, 46, 119]⟩ : ByteArray), .string (⟨#[97, 109, 111, 115, 119, 97, 112, 46, 119]⟩ : ByteArray), .string (⟨#[97, 109, 111, 97, 100, 100, 46, 119]⟩ : ByteArray), .string (⟨#[97, 109, 111, 120, 111, 114, 46, 119]⟩ : ByteArray), .string (⟨#[97, 109, 111, 97, 110, 100, 46, 119]⟩ : ByteArray), .string (⟨#[97, 109, 111, 111, 114, 46, 119]⟩ : ByteArray), .string (⟨#[97, 109, 111, 109, 105, 110, 46, 119]⟩ : ByteArray), .string (⟨#[97, 109, 111, 109, 97, 120, 46, 119]⟩ : ByteArray), .string (⟨#[97, 109, 111, 109, 105, 110, 117, 46, 119]⟩ : ByteArray), .string (⟨#[97, 109, 111, 109, 97, 120, 117, 46, 119]⟩ : ByteArray), .string (⟨#[108, 114, 46, 100]⟩ : ByteArray), .string (⟨#[115, 99, 46, 100]⟩ : ByteArray), .string (⟨#[97, 109, 111, 115, 119, 97, 112, 46, 100]⟩ : ByteArray), .string (⟨#[97, 109, 111, 97, 100, 100, 46, 100]⟩ : ByteArray), .string (⟨#[97, 109, 111, 120, 111, 114, 46, 100]⟩ : ByteArray), .string (⟨#[97, 109, 111, 97, 110, 100, 46, 100]⟩ : ByteArray), .string (⟨#[97, 109, 111, 111, 114, 46, 100]⟩ : ByteArray), .string (⟨#[97, 109, 111, 109, 105, 110, 46, 100]⟩ : ByteArray), .string (⟨#[97, 109, 111, 109, 97, 120, 46, 100]⟩ : ByteArray), .string (⟨#[97, 109, 111, 109, 105, 110, 117, 46, 100]⟩ : ByteArray), .string (⟨#[97, 109, 111, 109, 97, 120, 117, 46, 100]⟩ : ByteArray)]) (ok := fun _ => True) (okp := fun _ => True) ?hr ?hp (fun _ hk => hk) trivial (Below.refl _ _) (Nat.le_refl _) (by simp) ?_; (case hd => rfl); (case hg => rfl); (case hr => first | (go_simp; done) | (go_simp; rfl)); (case hp => exact (Reps.one (show Kd.M Kd.string _ _ _ (⟨#[108, 117, 105]⟩ : ByteArray) [.string (⟨#[108, 117, 105]⟩ : ByteArray)] from rfl) (Reps.one (show Kd.M Kd.string _ _ _ (⟨#[97, 117, 105, 112, 99]⟩ : ByteArray) [.string (⟨#[97, 117, 105, 112, 99]⟩ : ByteArray)] from rfl) (Reps.one (show Kd.M Kd.string _ _ _ (⟨#[106, 97, 108]⟩ : ByteArray) [.string (⟨#[106, 97, 108]⟩ : ByteArray)] from rfl) (Reps.one (show Kd.M Kd.string _ _ _ (⟨#[106, 97, 108, 114]⟩ : ByteArray) [.string (⟨#[106, 97, 108, 114]⟩ : ByteArray)] from rfl) (Reps.one (show Kd.M Kd.string _ _ _ (⟨#[98, 101, 113]⟩ : ByteArray) [.string (⟨#[98, 101, 113]⟩ : ByteArray)] from rfl) (Reps.one (show Kd.M Kd.string _ _ _ (⟨#[98, 110, 101]⟩ : ByteArray) [.string (⟨#[98, 110, 101]⟩ : ByteArray)] from rfl) (Reps.one (show Kd.M Kd.string _ _ _ (⟨#[98, 108, 116]⟩ : ByteArray) [.string (⟨#[98, 108, 116]⟩ : ByteArray)] from rfl) (Reps.one (show Kd.M Kd.string _ _ _ (⟨#[98, 103, 101]⟩ : ByteArray) [.string (⟨#[98, 103, 101]⟩ : ByteArray)] from rfl) (Reps.one (show Kd.M Kd.string _ _ _ (⟨#[98, 108, 116, 117]⟩ : ByteArray) [.string (⟨#[98, 108, 116, 117]⟩ : ByteArray)] from rfl) (Reps.one (show Kd.M Kd.string _ _ _ (⟨#[98, 103, 101, 117]⟩ : ByteArray) [.string (⟨#[98, 103, 101, 117]⟩ : ByteArray)] from rfl) (Reps.one (show Kd.M Kd.string _ _ _ (⟨#[108, 98]⟩ : ByteArray) [.string (⟨#[108, 98]⟩ : ByteArray)] from rfl) (Reps.one (show Kd.M Kd.string _ _ _ (⟨#[108, 104]⟩ : ByteArray) [.string (⟨#[108, 104]⟩ : ByteArray)] from rfl) (Reps.one (show Kd.M Kd.string _ _ _ (⟨#[108, 119]⟩ : ByteArray) [.string (⟨#[108, 119]⟩ : ByteArray)] from rfl) (Reps.one (show Kd.M Kd.string _ _ _ (⟨#[108, 100]⟩ : ByteArray) [.string (⟨#[108, 100]⟩ : ByteArray)] from rfl) (Reps.one (show Kd.M Kd.string _ _ _ (⟨#[108, 98, 117]⟩ : ByteArray) [.string (⟨#[108, 98, 117]⟩ : ByteArray)] from rfl) (Reps.one (show Kd.M Kd.string _ _ _ (⟨#[108, 104, 117]⟩ : ByteArray) [.string (⟨#[108, 104, 117]⟩ : ByteArray)] from rfl) (Reps.one (show Kd.M Kd.string _ _ _ (⟨#[108, 119, 117]⟩ : ByteArray) [.string (⟨#[108, 119, 117]⟩ : ByteArray)] from rfl) (Reps.one (show Kd.M Kd.string _ _ _ (⟨#[115, 98]⟩ : ByteArray) [.string (⟨#[115, 98]⟩ : ByteArray)] from rfl) (Reps.one (show Kd.M Kd.string _ _ _ (⟨#[115, 104]⟩ : ByteArray) [.string (⟨#[115, 104]⟩ : ByteArray)] from rfl) (Reps.one (show Kd.M Kd.string _ _ _ (⟨#[115, 119]⟩ : ByteArray) [.string (⟨#[115, 119]⟩ : ByteArray)] from rfl) (Reps.one (show Kd.M Kd.string _ _ _ (⟨#[115, 100]⟩ : ByteArray) [.string (⟨#[115, 100]⟩ : ByteArray)] from rfl) (Reps.one (show Kd.M Kd.string _ _ _ (⟨#[97, 100, 100, 105]⟩ : ByteArray) [.string (⟨#[97, 100, 100, 105]⟩ : ByteArray)] from rfl) (Reps.one (show Kd.M Kd.string _ _ _ (⟨#[115, 108, 116, 105]⟩ : ByteArray) [.string (⟨#[115, 108, 116, 105]⟩ : ByteArray)] from rfl) (Reps.one (show Kd.M Kd.string _ _ _ (⟨#[115, 108, 116, 105, 117]⟩ : ByteArray) [.string (⟨#[115, 108, 116, 105, 117]⟩ : ByteArray)] from rfl) (Reps.one (show Kd.M Kd.string _ _ _ (⟨#[120, 111, 114, 105]⟩ : ByteArray) [.string (⟨#[120, 111, 114, 105]⟩ : ByteArray)] from rfl) (Reps.one (show Kd.M Kd.string _ _ _ (⟨#[111, 114, 105]⟩ : ByteArray) [.string (⟨#[111, 114, 105]⟩ : ByteArray)] from rfl) (Reps.one (show Kd.M Kd.string _ _ _ (⟨#[97, 110, 100, 105]⟩ : ByteArray) [.string (⟨#[97, 110, 100, 105]⟩ : ByteArray)] from rfl) (Reps.one (show Kd.M Kd.string _ _ _ (⟨#[115, 108, 108, 105]⟩ : ByteArray) [.string (⟨#[115, 108, 108, 105]⟩ : ByteArray)] from rfl) (Reps.one (show Kd.M Kd.string _ _ _ (⟨#[115, 114, 108, 105]⟩ : ByteArray) [.string (⟨#[115, 114, 108, 105]⟩ : ByteArray)] from rfl) (Reps.one (show Kd.M Kd.string _ _ _ (⟨#[115, 114, 97, 105]⟩ : ByteArray) [.string (⟨#[115, 114, 97, 105]⟩ : ByteArray)] from rfl) (Reps.one (show Kd.M Kd.string _ _ _ (⟨#[97, 100, 100, 105, 119]⟩ : ByteArray) [.string (⟨#[97, 100, 100, 105, 119]⟩ : ByteArray)] from rfl) (Reps.one (show Kd.M Kd.string _ _ _ (⟨#[115, 108, 108, 105, 119]⟩ : ByteArray) [.string (⟨#[115, 108, 108, 105, 119]⟩ : ByteArray)] from rfl) (Reps.one (show Kd.M Kd.string _ _ _ (⟨#[115, 114, 108, 105, 119]⟩ : ByteArray) [.string (⟨#[115, 114, 108, 105, 119]⟩ : ByteArray)] from rfl) (Reps.one (show Kd.M Kd.string _ _ _ (⟨#[115, 114, 97, 105, 119]⟩ : ByteArray) [.string (⟨#[115, 114, 97, 105, 119]⟩ : ByteArray)] from rfl) (Reps.one (show Kd.M Kd.string _ _ _ (⟨#[97, 100, 100]⟩ : ByteArray) [.string (⟨#[97, 100, 100]⟩ : ByteArray)] from rfl) (Reps.one (show Kd.M Kd.string _ _ _ (⟨#[115, 117, 98]⟩ : ByteArray) [.string (⟨#[115, 117, 98]⟩ : ByteArray)] from rfl) (Reps.one (show Kd.M Kd.string _ _ _ (⟨#[115, 108, 108]⟩ : ByteArray) [.string (⟨#[115, 108, 108]⟩ : ByteArray)] from rfl) (Reps.one (show Kd.M Kd.string _ _ _ (⟨#[115, 108, 116]⟩ : ByteArray) [.string (⟨#[115, 108, 116]⟩ : ByteArray)] from rfl) (Reps.one (show Kd.M Kd.string _ _ _ (⟨#[115, 108, 116, 117]⟩ : ByteArray) [.string (⟨#[115, 108, 116, 117]⟩ : ByteArray)] from rfl) (Reps.one (show Kd.M Kd.string _ _ _ (⟨#[120, 111, 114]⟩ : ByteArray) [.string (⟨#[120, 111, 114]⟩ : ByteArray)] from rfl) (Reps.one (show Kd.M Kd.string _ _ _ (⟨#[115, 114, 108]⟩ : ByteArray) [.string (⟨#[115, 114, 108]⟩ : ByteArray)] from rfl) (Reps.one (show Kd.M Kd.string _ _ _ (⟨#[115, 114, 97]⟩ : ByteArray) [.string (⟨#[115, 114, 97]⟩ : ByteArray)] from rfl) (Reps.one (show Kd.M Kd.string _ _ _ (⟨#[111, 114]⟩ : ByteArray) [.string (⟨#[111, 114]⟩ : ByteArray)] from rfl) (Reps.one (show Kd.M Kd.string _ _ _ (⟨#[97, 110, 100]⟩ : ByteArray) [.string (⟨#[97, 110, 100]⟩ : ByteArray)] from rfl) (Reps.one (show Kd.M Kd.string _ _ _ (⟨#[97, 100, 100, 119]⟩ : ByteArray) [.string (⟨#[97, 100, 100, 119]⟩ : ByteArray)] from rfl) (Reps.one (show Kd.M Kd.string _ _ _ (⟨#[115, 117, 98, 119]⟩ : ByteArray) [.string (⟨#[115, 117, 98, 119]⟩ : ByteArray)] from rfl) (Reps.one (show Kd.M Kd.string _ _ _ (⟨#[115, 108, 108, 119]⟩ : ByteArray) [.string (⟨#[115, 108, 108, 119]⟩ : ByteArray)] from rfl) (Reps.one (show Kd.M Kd.string _ _ _ (⟨#[115, 114, 108, 119]⟩ : ByteArray) [.string (⟨#[115, 114, 108, 119]⟩ : ByteArray)] from rfl) (Reps.one (show Kd.M Kd.string _ _ _ (⟨#[115, 114, 97, 119]⟩ : ByteArray) [.string (⟨#[115, 114, 97, 119]⟩ : ByteArray)] from rfl) (Reps.one (show Kd.M Kd.string _ _ _ (⟨#[109, 117, 108]⟩ : ByteArray) [.string (⟨#[109, 117, 108]⟩ : ByteArray)] from rfl) (Reps.one (show Kd.M Kd.string _ _ _ (⟨#[109, 117, 108, 104]⟩ : ByteArray) [.string (⟨#[109, 117, 108, 104]⟩ : ByteArray)] from rfl) (Reps.one (show Kd.M Kd.string _ _ _ (⟨#[109, 117, 108, 104, 115, 117]⟩ : ByteArray) [.string (⟨#[109, 117, 108, 104, 115, 117]⟩ : ByteArray)] from rfl) (Reps.one (show Kd.M Kd.string _ _ _ (⟨#[109, 117, 108, 104, 117]⟩ : ByteArray) [.string (⟨#[109, 117, 108, 104, 117]⟩ : ByteArray)] from rfl) (Reps.one (show Kd.M Kd.string _ _ _ (⟨#[100, 105, 118]⟩ : ByteArray) [.string (⟨#[100, 105, 118]⟩ : ByteArray)] from rfl) (Reps.one (show Kd.M Kd.string _ _ _ (⟨#[100, 105, 118, 117]⟩ : ByteArray) [.string (⟨#[100, 105, 118, 117]⟩ : ByteArray)] from rfl) (Reps.one (show Kd.M Kd.string _ _ _ (⟨#[114, 101, 109]⟩ : ByteArray) [.string (⟨#[114, 101, 109]⟩ : ByteArray)] from rfl) (Reps.one (show Kd.M Kd.string _ _ _ (⟨#[114, 101, 109, 117]⟩ : ByteArray) [.string (⟨#[114, 101, 109, 117]⟩ : ByteArray)] from rfl) (Reps.one (show Kd.M Kd.string _ _ _ (⟨#[109, 117, 108, 119]⟩ : ByteArray) [.string (⟨#[109, 117, 108, 119]⟩ : ByteArray)] from rfl) (Reps.one (show Kd.M Kd.string _ _ _ (⟨#[100, 105, 118, 119]⟩ : ByteArray) [.string (⟨#[100, 105, 118, 119]⟩ : ByteArray)] from rfl) (Reps.one (show Kd.M Kd.string _ _ _ (⟨#[100, 105, 118, 117, 119]⟩ : ByteArray) [.string (⟨#[100, 105, 118, 117, 119]⟩ : ByteArray)] from rfl) (Reps.one (show Kd.M Kd.string _ _ _ (⟨#[114, 101, 109, 119]⟩ : ByteArray) [.string (⟨#[114, 101, 109, 119]⟩ : ByteArray)] from rfl) (Reps.one (show Kd.M Kd.string _ _ _ (⟨#[114, 101, 109, 117, 119]⟩ : ByteArray) [.string (⟨#[114, 101, 109, 117, 119]⟩ : ByteArray)] from rfl) (Reps.one (show Kd.M Kd.string _ _ _ (⟨#[102, 101, 110, 99, 101]⟩ : ByteArray) [.string (⟨#[102, 101, 110, 99, 101]⟩ : ByteArray)] from rfl) (Reps.one (show Kd.M Kd.string _ _ _ (⟨#[101, 99, 97, 108, 108]⟩ : ByteArray) [.string (⟨#[101, 99, 97, 108, 108]⟩ : ByteArray)] from rfl) (Reps.one (show Kd.M Kd.string _ _ _ (⟨#[101, 98, 114, 101, 97, 107]⟩ : ByteArray) [.string (⟨#[101, 98, 114, 101, 97, 107]⟩ : ByteArray)] from rfl) (Reps.one (show Kd.M Kd.string _ _ _ (⟨#[108, 114, 46, 119]⟩ : ByteArray) [.string (⟨#[108, 114, 46, 119]⟩ : ByteArray)] from rfl) (Reps.one (show Kd.M Kd.string _ _ _ (⟨#[115, 99, 46, 119]⟩ : ByteArray) [.string (⟨#[115, 99, 46, 119]⟩ : ByteArray)] from rfl) (Reps.one (show Kd.M Kd.string _ _ _ (⟨#[97, 109, 111, 115, 119, 97, 112, 46, 119]⟩ : ByteArray) [.string (⟨#[97, 109, 111, 115, 119, 97, 112, 46, 119]⟩ : ByteArray)] from rfl) (Reps.one (show Kd.M Kd.string _ _ _ (⟨#[97, 109, 111, 97, 100, 100, 46, 119]⟩ : ByteArray) [.string (⟨#[97, 109, 111, 97, 100, 100, 46, 119]⟩ : ByteArray)] from rfl) (Reps.one (show Kd.M Kd.string _ _ _ (⟨#[97, 109, 111, 120, 111, 114, 46, 119]⟩ : ByteArray) [.string (⟨#[97, 109, 111, 120, 111, 114, 46, 119]⟩ : ByteArray)] from rfl) (Reps.one (show Kd.M Kd.string _ _ _ (⟨#[97, 109, 111, 97, 110, 100, 46, 119]⟩ : ByteArray) [.string (⟨#[97, 109, 111, 97, 110, 100, 46, 119]⟩ : ByteArray)] from rfl) (Reps.one (show Kd.M Kd.string _ _ _ (⟨#[97, 109, 111, 111, 114, 46, 119]⟩ : ByteArray) [.string (⟨#[97, 109, 111, 111, 114, 46, 119]⟩ : ByteArray)] from rfl) (Reps.one (show Kd.M Kd.string _ _ _ (⟨#[97, 109, 111, 109, 105, 110, 46, 119]⟩ : ByteArray) [.string (⟨#[97, 109, 111, 109, 105, 110, 46, 119]⟩ : ByteArray)] from rfl) (Reps.one (show Kd.M Kd.string _ _ _ (⟨#[97, 109, 111, 109, 97, 120, 46, 119]⟩ : ByteArray) [.string (⟨#[97, 109, 111, 109, 97, 120, 46, 119]⟩ : ByteArray)] from rfl) (Reps.one (show Kd.M Kd.string _ _ _ (⟨#[97, 109, 111, 109, 105, 110, 117, 46, 119]⟩ : ByteArray) [.string (⟨#[97, 109, 111, 109, 105, 110, 117, 46, 119]⟩ : ByteArray)] from rfl) (Reps.one (show Kd.M Kd.string _ _ _ (⟨#[97, 109, 111, 109, 97, 120, 117, 46, 119]⟩ : ByteArray) [.string (⟨#[97, 109, 111, 109, 97, 120, 117, 46, 119]⟩ : ByteArray)] from rfl) (Reps.one (show Kd.M Kd.string _ _ _ (⟨#[108, 114, 46, 100]⟩ : ByteArray) [.string (⟨#[108, 114, 46, 100]⟩ : ByteArray)] from rfl) (Reps.one (show Kd.M Kd.string _ _ _ (⟨#[115, 99, 46, 100]⟩ : ByteArray) [.string (⟨#[115, 99, 46, 100]⟩ : ByteArray)] from rfl) (Reps.one (show Kd.M Kd.string _ _ _ (⟨#[97, 109, 111, 115, 119, 97, 112, 46, 100]⟩ : ByteArray) [.string (⟨#[97, 109, 111, 115, 119, 97, 112, 46, 100]⟩ : ByteArray)] from rfl) (Reps.one (show Kd.M Kd.string _ _ _ (⟨#[97, 109, 111, 97, 100, 100, 46, 100]⟩ : ByteArray) [.string (⟨#[97, 109, 111, 97, 100, 100, 46, 100]⟩ : ByteArray)] from rfl) (Reps.one (show Kd.M Kd.string _ _ _ (⟨#[97, 109, 111, 120, 111, 114, 46, 100]⟩ : ByteArray) [.string (⟨#[97, 109, 111, 120, 111, 114, 46, 100]⟩ : ByteArray)] from rfl) (Reps.one (show Kd.M Kd.string _ _ _ (⟨#[97, 109, 111, 97, 110, 100, 46, 100]⟩ : ByteArray) [.string (⟨#[97, 109, 111, 97, 110, 100, 46, 100]⟩ : ByteArray)] from rfl) (Reps.one (show Kd.M Kd.string _ _ _ (⟨#[97, 109, 111, 111, 114, 46, 100]⟩ : ByteArray) [.string (⟨#[97, 109, 111, 111, 114, 46, 100]⟩ : ByteArray)] from rfl) (Reps.one (show Kd.M Kd.string _ _ _ (⟨#[97, 109, 111, 109, 105, 110, 46, 100]⟩ : ByteArray) [.string (⟨#[97, 109, 111, 109, 105, 110, 46, 100]⟩ : ByteArray)] from rfl) (Reps.one (show Kd.M Kd.string _ _ _ (⟨#[97, 109, 111, 109, 97, 120, 46, 100]⟩ : ByteArray) [.string (⟨#[97, 109, 111, 109, 97, 120, 46, 100]⟩ : ByteArray)] from rfl) (Reps.one (show Kd.M Kd.string _ _ _ (⟨#[97, 109, 111, 109, 105, 110, 117, 46, 100]⟩ : ByteArray) [.string (⟨#[97, 109, 111, 109, 105, 110, 117, 46, 100]⟩ : ByteArray)] from rfl) (Reps.one (show Kd.M Kd.string _ _ _ (⟨#[97, 109, 111, 109, 97, 120, 117, 46, 100]⟩ : ByteArray) [.string (⟨#[97, 109, 111, 109, 97, 120, 117, 46, 100]⟩ : ByteArray)] from rfl) (Reps.none _ _))))))))))))))))))))))))))))))))))))))))))))))))))))))))))))))))))))))))))))))))))))))))); intro v111 w1 ho2 hb hg_ hnew_; clear hg_ hnew_; (first | rw [← Ny110.out] at ho2 | (simp only [Int.reduceToNat] at ho2; rw [← Ny110.out] at ho2)); have n0_ := Aside0.mk (Kd.R_lower ho2 (below_size (by repeat (first | (with_reducible first | exact HB.out | apply below_alloc | apply pw_below_drewN | apply below_drew1) | exact HB.out)))); have n1_ := Aside0.mk (below_step (by repeat (first | (with_reducible first | exact HB.out | apply below_alloc | apply pw_below_drewN | apply below_drew1) | exact HB.out)) hb); clear HB; have HO112 := n0_; have HB := n1_; clear n0_ n1_; clear hb ho2))
  go_ret
  exact ⟨_, by first | rfl | (simp [errW_none, errW_some] <;> rfl) | (simp [*, errW_none, errW_some] <;> rfl), by (with_reducible repeat (first | apply Kd.R_alloc | apply Kd.R_drewN | apply Kd.R_drew)); exact HO112.out, by repeat (first | (with_reducible first | exact HB.out | apply below_alloc | apply pw_below_drewN | apply below_drew1) | exact HB.out)⟩

/-! ### spinnakerref03_Name: function 64 -/
def spinnakerref03_Name.f (a0 : Int) : Option (ByteArray) := if a0 < 1 then (some (⟨#[]⟩ : ByteArray)) else (if a0 > 87 then (some (⟨#[]⟩ : ByteArray)) else ((spinnakerref03_Names.f).bind fun t113 => (if 0 ≤ (wrap64 (a0 - 1)) then (if (wrap64 (a0 - 1)) < (t113.length : Int) then (some (rdOf ByteArray.empty t113 (wrap64 (a0 - 1)))) else (none)) else (none))))
set_option maxHeartbeats 8000000 in
set_option maxRecDepth 100000 in
theorem spinnakerref03_Name.calls (a0 : Int) (r : ByteArray) (w : World) (h : spinnakerref03_Name.f a0 = some r) :
    Calls Try.prog 64 #[.int .i64 a0] w fun e w' => e = .returned (.string r) ∧ Below w.heap.size w w' := by
  have HB := Aside0.mk (Below.refl w.heap.size w)
  have H : (if a0 < 1 then (some (⟨#[]⟩ : ByteArray)) else (if a0 > 87 then (some (⟨#[]⟩ : ByteArray)) else ((spinnakerref03_Names.f).bind fun t113 => (if 0 ≤ (wrap64 (a0 - 1)) then (if (wrap64 (a0 - 1)) < (t113.length : Int) then (some (rdOf ByteArray.empty t113 (wrap64 (a0 - 1)))) else (none)) else (none))))) = some r := h
  clear h
  by_cases c2 : a0 < 1
  · rw [if_pos c2] at H
    have c2b0 : decide (a0 < 1) = true := decide_eq_true c2
    clear c2
    obtain rfl := Option.some.inj H
    go_enter Try.func64, Try.ntmps64
    go_wp2
    go_ret
    exact ⟨by first | rfl | (simp [errW_none, errW_some] <;> rfl) | (simp [*, errW_none, errW_some] <;> rfl), by repeat (first | (with_reducible first | exact HB.out | apply below_alloc | apply pw_below_drewN | apply below_drew1) | exact HB.out)⟩
  · rw [if_neg c2] at H
    have c2b0 : decide (a0 < 1) = false := decide_eq_false c2
    clear c2
    by_cases c3 : a0 > 87
    · rw [if_pos c3] at H
      have c3b0 : decide (87 < a0) = true := decide_eq_true c3
      clear c3
      obtain rfl := Option.some.inj H
      go_enter Try.func64, Try.ntmps64
      go_wp2
      go_ret
      exact ⟨by first | rfl | (simp [errW_none, errW_some] <;> rfl) | (simp [*, errW_none, errW_some] <;> rfl), by repeat (first | (with_reducible first | exact HB.out | apply below_alloc | apply pw_below_drewN | apply below_drew1) | exact HB.out)⟩
    · rw [if_neg c3] at H
      have c3b0 : decide (87 < a0) = false := decide_eq_false c3
      clear c3
      replace H := Option.bind_eq_some_iff.mp H
      obtain ⟨t113, A40, H⟩ := H
      replace H : (if 0 ≤ (wrap64 (a0 - 1)) then (if (wrap64 (a0 - 1)) < (t113.length : Int) then (some (rdOf ByteArray.empty t113 (wrap64 (a0 - 1)))) else (none)) else (none)) = some r := H
      have A4 := Aside0.mk A40
      clear A40
      obtain ⟨ji5, hji5⟩ : ∃ j_ : Int, (wrap64 (a0 - 1)) = j_ := ⟨_, rfl⟩
      replace H : (if 0 ≤ (ji5) then (if (ji5) < (t113.length : Int) then (some (rdOf ByteArray.empty t113 (ji5))) else (none)) else (none)) = some r := by first | (rw [hji5] at H; exact H) | (simp only [hji5] at H ⊢; exact H)
      (try rw [hji5] at A4)
      have hji5w : (IntKind.i64.wrap (a0 - 1)) = ji5 := (i64_w _).trans hji5
      by_cases c6 : 0 ≤ (ji5)
      · rw [if_pos c6] at H
        have c6b0 : decide (0 ≤ (ji5)) = true := decide_eq_true c6
        clear c6
        by_cases c7 : (ji5) < (t113.length : Int)
        · rw [if_pos c7] at H
          have c7b0 : decide ((ji5) < (t113.length : Int)) = true := decide_eq_true c7
          clear c7
          obtain rfl := Option.some.inj H
          go_enter Try.func64, Try.ntmps64
          go_wp2_with (first | ((with_reducible refine gate_callee (f := 74) rfl ?_); refine goesL_ (some 9) rfl rfl Try.func74 (by kernel_rfl) rfl #[] rfl (by (try simp only [List.map_toArray, List.map_cons, List.map_nil]); first | done | rfl | (simp only [List.length_drop, List.length_take]; rfl)) ?_; (with_reducible refine (spinnakerref03_Names.calls  t113 _ A4.out).mono ?_); rintro e w8 ⟨v114, rfl, ho0, hb⟩; refine ⟨_, rfl, ?_⟩; have n0_ := Aside0.mk (Kd.R_lower ho0 (below_size (by repeat (first | (with_reducible first | exact HB.out | apply below_alloc | apply pw_below_drewN | apply below_drew1) | exact HB.out)))); have n1_ := Aside0.mk (below_step (by repeat (first | (with_reducible first | exact HB.out | apply below_alloc | apply pw_below_drewN | apply below_drew1) | exact HB.out)) hb); clear HB; have HO115 := n0_; have HB := n1_; clear n0_ n1_; (try clear hb); (try clear hb2); (try clear hk); (try clear hi); (try clear ho0); obtain ⟨Ao9, co9, eo9⟩ := Kd.R_slice HO115.out; subst eo9; have p116 : 0 ≤ ((ji5) : Int) := of_decide_eq_true (by first | (with_reducible assumption) | assumption); have q116 : (ji5) < (t113.length : Int) := of_decide_eq_true (by first | (with_reducible assumption) | assumption); obtain ⟨ad116, e116, hx116_0⟩ := Kd.at_string (Kd.R_reads' HO115.out).2.2 (ji5) p116 q116; cases e116; replace p116 := eq_true p116; replace q116 := eq_true q116))
          go_ret
          exact ⟨by first | rfl | (simp [errW_none, errW_some] <;> rfl) | (simp only [← hji5]; first | rfl | (simp [errW_none, errW_some] <;> rfl)) | (simp [*, errW_none, errW_some] <;> rfl), by repeat (first | (with_reducible first | exact HB.out | apply below_alloc | apply pw_below_drewN | apply below_drew1) | exact HB.out)⟩
        · rw [if_neg c7] at H
          exact absurd H (by simp)
      · rw [if_neg c6] at H
        exact absurd H (by simp)

/-! ### spinnakerref07_Amo: function 48 -/
def spinnakerref07_Amo.f (a0 : Int) (a1 : Int) (a2 : Int) : Option (Int) := (spinnakerref03_Name.f a0).bind fun t117 => (if t117.toList = ([97, 109, 111, 115, 119, 97, 112, 46, 100] : List UInt8) then (some a2) else (if t117.toList = ([97, 109, 111, 97, 100, 100, 46, 100] : List UInt8) then (some (wrap64 (a1 + a2))) else (if t117.toList = ([97, 109, 111, 120, 111, 114, 46, 100] : List UInt8) then (some (Go.bits .xor .i64 a1 a2)) else (if t117.toList = ([97, 109, 111, 97, 110, 100, 46, 100] : List UInt8) then (some (Go.bits .and .i64 a1 a2)) else (if t117.toList = ([97, 109, 111, 111, 114, 46, 100] : List UInt8) then (some (Go.bits .or .i64 a1 a2)) else (if t117.toList = ([97, 109, 111, 109, 105, 110, 46, 100] : List UInt8) then (if a1 < a2 then (some a1) else (some a2)) else (if t117.toList = ([97, 109, 111, 109, 97, 120, 46, 100] : List UInt8) then (if a1 < a2 then (some a2) else (some a1)) else (if t117.toList = ([97, 109, 111, 109, 105, 110, 117, 46, 100] : List UInt8) then (if (IntKind.u64.wrap (a1)) < (IntKind.u64.wrap (a2)) then (some a1) else (some a2)) else (if (IntKind.u64.wrap (a1)) ≥ (IntKind.u64.wrap (a2)) then (some a1) else (some a2))))))))))
set_option maxHeartbeats 8000000 in
set_option maxRecDepth 100000 in
theorem spinnakerref07_Amo.calls (a0 : Int) (a1 : Int) (a2 : Int) (r : Int) (w : World) (h : spinnakerref07_Amo.f a0 a1 a2 = some r) :
    Calls Try.prog 48 #[.int .i64 a0, .int .i64 a1, .int .i64 a2] w fun e w' => e = .returned (.int .i64 r) ∧ Below w.heap.size w w' := by
  have HB := Aside0.mk (Below.refl w.heap.size w)
  have H : ((spinnakerref03_Name.f a0).bind fun t117 => (if t117.toList = ([97, 109, 111, 115, 119, 97, 112, 46, 100] : List UInt8) then (some a2) else (if t117.toList = ([97, 109, 111, 97, 100, 100, 46, 100] : List UInt8) then (some (wrap64 (a1 + a2))) else (if t117.toList = ([97, 109, 111, 120, 111, 114, 46, 100] : List UInt8) then (some (Go.bits .xor .i64 a1 a2)) else (if t117.toList = ([97, 109, 111, 97, 110, 100, 46, 100] : List UInt8) then (some (Go.bits .and .i64 a1 a2)) else (if t117.toList = ([97, 109, 111, 111, 114, 46, 100] : List UInt8) then (some (Go.bits .or .i64 a1 a2)) else (if t117.toList = ([97, 109, 111, 109, 105, 110, 46, 100] : List UInt8) then (if a1 < a2 then (some a1) else (some a2)) else (if t117.toList = ([97, 109, 111, 109, 97, 120, 46, 100] : List UInt8) then (if a1 < a2 then (some a2) else (some a1)) else (if t117.toList = ([97, 109, 111, 109, 105, 110, 117, 46, 100] : List UInt8) then (if (IntKind.u64.wrap (a1)) < (IntKind.u64.wrap (a2)) then (some a1) else (some a2)) else (if (IntKind.u64.wrap (a1)) ≥ (IntKind.u64.wrap (a2)) then (some a1) else (some a2))))))))))) = some r := h
  clear h
  replace H := Option.bind_eq_some_iff.mp H
  obtain ⟨t117, A40, H⟩ := H
  replace H : (if t117.toList = ([97, 109, 111, 115, 119, 97, 112, 46, 100] : List UInt8) then (some a2) else (if t117.toList = ([97, 109, 111, 97, 100, 100, 46, 100] : List UInt8) then (some (wrap64 (a1 + a2))) else (if t117.toList = ([97, 109, 111, 120, 111, 114, 46, 100] : List UInt8) then (some (Go.bits .xor .i64 a1 a2)) else (if t117.toList = ([97, 109, 111, 97, 110, 100, 46, 100] : List UInt8) then (some (Go.bits .and .i64 a1 a2)) else (if t117.toList = ([97, 109, 111, 111, 114, 46, 100] : List UInt8) then (some (Go.bits .or .i64 a1 a2)) else (if t117.toList = ([97, 109, 111, 109, 105, 110, 46, 100] : List UInt8) then (if a1 < a2 then (some a1) else (some a2)) else (if t117.toList = ([97, 109, 111, 109, 97, 120, 46, 100] : List UInt8) then (if a1 < a2 then (some a2) else (some a1)) else (if t117.toList = ([97, 109, 111, 109, 105, 110, 117, 46, 100] : List UInt8) then (if (IntKind.u64.wrap (a1)) < (IntKind.u64.wrap (a2)) then (some a1) else (some a2)) else (if (IntKind.u64.wrap (a1)) ≥ (IntKind.u64.wrap (a2)) then (some a1) else (some a2)))))))))) = some r := H
  have A4 := Aside0.mk A40
  clear A40
  by_cases c5 : t117.toList = ([97, 109, 111, 115, 119, 97, 112, 46, 100] : List UInt8)
  · rw [if_pos c5] at H
    have c5b0 : (t117.toList == ([97, 109, 111, 115, 119, 97, 112, 46, 100] : List UInt8)) = true := beq_iff_eq.mpr c5
    have c5b1 : (t117.toList != ([97, 109, 111, 115, 119, 97, 112, 46, 100] : List UInt8)) = false := bne_eq_false_iff_eq.mpr c5
    clear c5
    obtain rfl := Option.some.inj H
    go_enter Try.func48, Try.ntmps48
    go_wp2_with (first | ((with_reducible refine gate_callee (f := 64) rfl ?_); refine goesL_ (some 12) rfl rfl Try.func64 (by kernel_rfl) rfl #[.int .i64 a0] rfl (by (try simp only [List.map_toArray, List.map_cons, List.map_nil]); first | done | rfl | (simp only [List.length_drop, List.length_take]; rfl)) ?_; (with_reducible refine (spinnakerref03_Name.calls a0 t117 _ A4.out).mono ?_); rintro e w6 ⟨rfl, hb⟩; refine ⟨_, rfl, ?_⟩; have n0_ := Aside0.mk (below_step (by repeat (first | (with_reducible first | exact HB.out | apply below_alloc | apply pw_below_drewN | apply below_drew1) | exact HB.out)) hb); clear HB; have HB := n0_; clear n0_; (try clear hb); (try clear hb2); (try clear hk); (try clear hi)))
    go_ret
    exact ⟨by first | rfl | (simp [errW_none, errW_some] <;> rfl) | (simp [*, errW_none, errW_some] <;> rfl), by repeat (first | (with_reducible first | exact HB.out | apply below_alloc | apply pw_below_drewN | apply below_drew1) | exact HB.out)⟩
  · rw [if_neg c5] at H
    have c5b0 : (t117.toList == ([97, 109, 111, 115, 119, 97, 112, 46, 100] : List UInt8)) = false := beq_eq_false_iff_ne.mpr c5
    have c5b1 : (t117.toList != ([97, 109, 111, 115, 119, 97, 112, 46, 100] : List UInt8)) = true := bne_iff_ne.mpr c5
    by_cases c7 : t117.toList = ([97, 109, 111, 97, 100, 100, 46, 100] : List UInt8)
    · rw [if_pos c7] at H
      have c7b0 : (t117.toList == ([97, 109, 111, 97, 100, 100, 46, 100] : List UInt8)) = true := beq_iff_eq.mpr c7
      have c7b1 : (t117.toList != ([97, 109, 111, 97, 100, 100, 46, 100] : List UInt8)) = false := bne_eq_false_iff_eq.mpr c7
      clear c7
      obtain rfl := Option.some.inj H
      go_enter Try.func48, Try.ntmps48
      go_wp2_with (first | ((with_reducible refine gate_callee (f := 64) rfl ?_); refine goesL_ (some 12) rfl rfl Try.func64 (by kernel_rfl) rfl #[.int .i64 a0] rfl (by (try simp only [List.map_toArray, List.map_cons, List.map_nil]); first | done | rfl | (simp only [List.length_drop, List.length_take]; rfl)) ?_; (with_reducible refine (spinnakerref03_Name.calls a0 t117 _ A4.out).mono ?_); rintro e w8 ⟨rfl, hb⟩; refine ⟨_, rfl, ?_⟩; have n0_ := Aside0.mk (below_step (by repeat (first | (with_reducible first | exact HB.out | apply below_alloc | apply pw_below_drewN | apply below_drew1) | exact HB.out)) hb); clear HB; have HB := n0_; clear n0_; (try clear hb); (try clear hb2); (try clear hk); (try clear hi)))
      go_ret
      exact ⟨by first | rfl | (simp [errW_none, errW_some] <;> rfl) | (simp [*, errW_none, errW_some] <;> rfl), by repeat (first | (with_reducible first | exact HB.out | apply below_alloc | apply pw_below_drewN | apply below_drew1) | exact HB.out)⟩
    · rw [if_neg c7] at H
      have c7b0 : (t117.toList == ([97, 109, 111, 97, 100, 100, 46, 100] : List UInt8)) = false := beq_eq_false_iff_ne.mpr c7
      have c7b1 : (t117.toList != ([97, 109, 111, 97, 100, 100, 46, 100] : List UInt8)) = true := bne_iff_ne.mpr c7
      by_cases c9 : t117.toList = ([97, 109, 111, 120, 111, 114, 46, 100] : List UInt8)
      · rw [if_pos c9] at H
        have c9b0 : (t117.toList == ([97, 109, 111, 120, 111, 114, 46, 100] : List UInt8)) = true := beq_iff_eq.mpr c9
        have c9b1 : (t117.toList != ([97, 109, 111, 120, 111, 114, 46, 100] : List UInt8)) = false := bne_eq_false_iff_eq.mpr c9
        clear c9
        obtain rfl := Option.some.inj H
        go_enter Try.func48, Try.ntmps48
        go_wp2_with (first | ((with_reducible refine gate_callee (f := 64) rfl ?_); refine goesL_ (some 12) rfl rfl Try.func64 (by kernel_rfl) rfl #[.int .i64 a0] rfl (by (try simp only [List.map_toArray, List.map_cons, List.map_nil]); first | done | rfl | (simp only [List.length_drop, List.length_take]; rfl)) ?_; (with_reducible refine (spinnakerref03_Name.calls a0 t117 _ A4.out).mono ?_); rintro e w10 ⟨rfl, hb⟩; refine ⟨_, rfl, ?_⟩; have n0_ := Aside0.mk (below_step (by repeat (first | (with_reducible first | exact HB.out | apply below_alloc | apply pw_below_drewN | apply below_drew1) | exact HB.out)) hb); clear HB; have HB := n0_; clear n0_; (try clear hb); (try clear hb2); (try clear hk); (try clear hi)))
        go_ret
        exact ⟨by first | rfl | (simp [errW_none, errW_some] <;> rfl) | (simp [*, errW_none, errW_some] <;> rfl), by repeat (first | (with_reducible first | exact HB.out | apply below_alloc | apply pw_below_drewN | apply below_drew1) | exact HB.out)⟩
      · rw [if_neg c9] at H
        have c9b0 : (t117.toList == ([97, 109, 111, 120, 111, 114, 46, 100] : List UInt8)) = false := beq_eq_false_iff_ne.mpr c9
        have c9b1 : (t117.toList != ([97, 109, 111, 120, 111, 114, 46, 100] : List UInt8)) = true := bne_iff_ne.mpr c9
        by_cases c11 : t117.toList = ([97, 109, 111, 97, 110, 100, 46, 100] : List UInt8)
        · rw [if_pos c11] at H
          have c11b0 : (t117.toList == ([97, 109, 111, 97, 110, 100, 46, 100] : List UInt8)) = true := beq_iff_eq.mpr c11
          have c11b1 : (t117.toList != ([97, 109, 111, 97, 110, 100, 46, 100] : List UInt8)) = false := bne_eq_false_iff_eq.mpr c11
          clear c11
          obtain rfl := Option.some.inj H
          go_enter Try.func48, Try.ntmps48
          go_wp2_with (first | ((with_reducible refine gate_callee (f := 64) rfl ?_); refine goesL_ (some 12) rfl rfl Try.func64 (by kernel_rfl) rfl #[.int .i64 a0] rfl (by (try simp only [List.map_toArray, List.map_cons, List.map_nil]); first | done | rfl | (simp only [List.length_drop, List.length_take]; rfl)) ?_; (with_reducible refine (spinnakerref03_Name.calls a0 t117 _ A4.out).mono ?_); rintro e w12 ⟨rfl, hb⟩; refine ⟨_, rfl, ?_⟩; have n0_ := Aside0.mk (below_step (by repeat (first | (with_reducible first | exact HB.out | apply below_alloc | apply pw_below_drewN | apply below_drew1) | exact HB.out)) hb); clear HB; have HB := n0_; clear n0_; (try clear hb); (try clear hb2); (try clear hk); (try clear hi)))
          go_ret
          exact ⟨by first | rfl | (simp [errW_none, errW_some] <;> rfl) | (simp [*, errW_none, errW_some] <;> rfl), by repeat (first | (with_reducible first | exact HB.out | apply below_alloc | apply pw_below_drewN | apply below_drew1) | exact HB.out)⟩
        · rw [if_neg c11] at H
          have c11b0 : (t117.toList == ([97, 109, 111, 97, 110, 100, 46, 100] : List UInt8)) = false := beq_eq_false_iff_ne.mpr c11
          have c11b1 : (t117.toList != ([97, 109, 111, 97, 110, 100, 46, 100] : List UInt8)) = true := bne_iff_ne.mpr c11
          by_cases c13 : t117.toList = ([97, 109, 111, 111, 114, 46, 100] : List UInt8)
          · rw [if_pos c13] at H
            have c13b0 : (t117.toList == ([97, 109, 111, 111, 114, 46, 100] : List UInt8)) = true := beq_iff_eq.mpr c13
            have c13b1 : (t117.toList != ([97, 109, 111, 111, 114, 46, 100] : List UInt8)) = false := bne_eq_false_iff_eq.mpr c13
            clear c13
            obtain rfl := Option.some.inj H
            go_enter Try.func48, Try.ntmps48
            go_wp2_with (first | ((with_reducible refine gate_callee (f := 64) rfl ?_); refine goesL_ (some 12) rfl rfl Try.func64 (by kernel_rfl) rfl #[.int .i64 a0] rfl (by (try simp only [List.map_toArray, List.map_cons, List.map_nil]); first | done | rfl | (simp only [List.length_drop, List.length_take]; rfl)) ?_; (with_reducible refine (spinnakerref03_Name.calls a0 t117 _ A4.out).mono ?_); rintro e w14 ⟨rfl, hb⟩; refine ⟨_, rfl, ?_⟩; have n0_ := Aside0.mk (below_step (by repeat (first | (with_reducible first | exact HB.out | apply below_alloc | apply pw_below_drewN | apply below_drew1) | exact HB.out)) hb); clear HB; have HB := n0_; clear n0_; (try clear hb); (try clear hb2); (try clear hk); (try clear hi)))
            go_ret
            exact ⟨by first | rfl | (simp [errW_none, errW_some] <;> rfl) | (simp [*, errW_none, errW_some] <;> rfl), by repeat (first | (with_reducible first | exact HB.out | apply below_alloc | apply pw_below_drewN | apply below_drew1) | exact HB.out)⟩
          · rw [if_neg c13] at H
            have c13b0 : (t117.toList == ([97, 109, 111, 111, 114, 46, 100] : List UInt8)) = false := beq_eq_false_iff_ne.mpr c13
            have c13b1 : (t117.toList != ([97, 109, 111, 111, 114, 46, 100] : List UInt8)) = true := bne_iff_ne.mpr c13
            by_cases c15 : t117.toList = ([97, 109, 111, 109, 105, 110, 46, 100] : List UInt8)
            · rw [if_pos c15] at H
              have c15b0 : (t117.toList == ([97, 109, 111, 109, 105, 110, 46, 100] : List UInt8)) = true := beq_iff_eq.mpr c15
              have c15b1 : (t117.toList != ([97, 109, 111, 109, 105, 110, 46, 100] : List UInt8)) = false := bne_eq_false_iff_eq.mpr c15
              clear c15
              by_cases c16 : a1 < a2
              · rw [if_pos c16] at H
                have c16b0 : decide (a1 < a2) = true := decide_eq_true c16
                clear c16
                obtain rfl := Option.some.inj H
                go_enter Try.func48, Try.ntmps48
                go_wp2_with (first | ((with_reducible refine gate_callee (f := 64) rfl ?_); refine goesL_ (some 12) rfl rfl Try.func64 (by kernel_rfl) rfl #[.int .i64 a0] rfl (by (try simp only [List.map_toArray, List.map_cons, List.map_nil]); first | done | rfl | (simp only [List.length_drop, List.length_take]; rfl)) ?_; (with_reducible refine (spinnakerref03_Name.calls a0 t117 _ A4.out).mono ?_); rintro e w17 ⟨rfl, hb⟩; refine ⟨_, rfl, ?_⟩; have n0_ := Aside0.mk (below_step (by repeat (first | (with_reducible first | exact HB.out | apply below_alloc | apply pw_below_drewN | apply below_drew1) | exact HB.out)) hb); clear HB; have HB := n0_; clear n0_; (try clear hb); (try clear hb2); (try clear hk); (try clear hi)))
                go_ret
                exact ⟨by first | rfl | (simp [errW_none, errW_some] <;> rfl) | (simp [*, errW_none, errW_some] <;> rfl), by repeat (first | (with_reducible first | exact HB.out | apply below_alloc | apply pw_below_drewN | apply below_drew1) | exact HB.out)⟩
              · rw [if_neg c16] at H
                have c16b0 : decide (a1 < a2) = false := decide_eq_false c16
                clear c16
                obtain rfl := Option.some.inj H
                go_enter Try.func48, Try.ntmps48
                go_wp2_with (first | ((with_reducible refine gate_callee (f := 64) rfl ?_); refine goesL_ (some 12) rfl rfl Try.func64 (by kernel_rfl) rfl #[.int .i64 a0] rfl (by (try simp only [List.map_toArray, List.map_cons, List.map_nil]); first | done | rfl | (simp only [List.length_drop, List.length_take]; rfl)) ?_; (with_reducible refine (spinnakerref03_Name.calls a0 t117 _ A4.out).mono ?_); rintro e w18 ⟨rfl, hb⟩; refine ⟨_, rfl, ?_⟩; have n0_ := Aside0.mk (below_step (by repeat (first | (with_reducible first | exact HB.out | apply below_alloc | apply pw_below_drewN | apply below_drew1) | exact HB.out)) hb); clear HB; have HB := n0_; clear n0_; (try clear hb); (try clear hb2); (try clear hk); (try clear hi)))
                go_ret
                exact ⟨by first | rfl | (simp [errW_none, errW_some] <;> rfl) | (simp [*, errW_none, errW_some] <;> rfl), by repeat (first | (with_reducible first | exact HB.out | apply below_alloc | apply pw_below_drewN | apply below_drew1) | exact HB.out)⟩
            · rw [if_neg c15] at H
              have c15b0 : (t117.toList == ([97, 109, 111, 109, 105, 110, 46, 100] : List UInt8)) = false := beq_eq_false_iff_ne.mpr c15
              have c15b1 : (t117.toList != ([97, 109, 111, 109, 105, 110, 46, 100] : List UInt8)) = true := bne_iff_ne.mpr c15
              by_cases c19 : t117.toList = ([97, 109, 111, 109, 97, 120, 46, 100] : List UInt8)
              · rw [if_pos c19] at H
                have c19b0 : (t117.toList == ([97, 109, 111, 109, 97, 120, 46, 100] : List UInt8)) = true := beq_iff_eq.mpr c19
                have c19b1 : (t117.toList != ([97, 109, 111, 109, 97, 120, 46, 100] : List UInt8)) = false := bne_eq_false_iff_eq.mpr c19
                clear c19
                by_cases c20 : a1 < a2
                · rw [if_pos c20] at H
                  have c20b0 : decide (a1 < a2) = true := decide_eq_true c20
                  clear c20
                  obtain rfl := Option.some.inj H
                  go_enter Try.func48, Try.ntmps48
                  go_wp2_with (first | ((with_reducible refine gate_callee (f := 64) rfl ?_); refine goesL_ (some 12) rfl rfl Try.func64 (by kernel_rfl) rfl #[.int .i64 a0] rfl (by (try simp only [List.map_toArray, List.map_cons, List.map_nil]); first | done | rfl | (simp only [List.length_drop, List.length_take]; rfl)) ?_; (with_reducible refine (spinnakerref03_Name.calls a0 t117 _ A4.out).mono ?_); rintro e w21 ⟨rfl, hb⟩; refine ⟨_, rfl, ?_⟩; have n0_ := Aside0.mk (below_step (by repeat (first | (with_reducible first | exact HB.out | apply below_alloc | apply pw_below_drewN | apply below_drew1) | exact HB.out)) hb); clear HB; have HB := n0_; clear n0_; (try clear hb); (try clear hb2); (try clear hk); (try clear hi)))
                  go_ret
                  exact ⟨by first | rfl | (simp [errW_none, errW_some] <;> rfl) | (simp [*, errW_none, errW_some] <;> rfl), by repeat (first | (with_reducible first | exact HB.out | apply below_alloc | apply pw_below_drewN | apply below_drew1) | exact HB.out)⟩
                · rw [if_neg c20] at H
                  have c20b0 : decide (a1 < a2) = false := decide_eq_false c20
                  clear c20
                  obtain rfl := Option.some.inj H
                  go_enter Try.func48, Try.ntmps48
                  go_wp2_with (first | ((with_reducible refine gate_callee (f := 64) rfl ?_); refine goesL_ (some 12) rfl rfl Try.func64 (by kernel_rfl) rfl #[.int .i64 a0] rfl (by (try simp only [List.map_toArray, List.map_cons, List.map_nil]); first | done | rfl | (simp only [List.length_drop, List.length_take]; rfl)) ?_; (with_reducible refine (spinnakerref03_Name.calls a0 t117 _ A4.out).mono ?_); rintro e w22 ⟨rfl, hb⟩; refine ⟨_, rfl, ?_⟩; have n0_ := Aside0.mk (below_step (by repeat (first | (with_reducible first | exact HB.out | apply below_alloc | apply pw_below_drewN | apply below_drew1) | exact HB.out)) hb); clear HB; have HB := n0_; clear n0_; (try clear hb); (try clear hb2); (try clear hk); (try clear hi)))
                  go_ret
                  exact ⟨by first | rfl | (simp [errW_none, errW_some] <;> rfl) | (simp [*, errW_none, errW_some] <;> rfl), by repeat (first | (with_reducible first | exact HB.out | apply below_alloc | apply pw_below_drewN | apply below_drew1) | exact HB.out)⟩
              · rw [if_neg c19] at H
                have c19b0 : (t117.toList == ([97, 109, 111, 109, 97, 120, 46, 100] : List UInt8)) = false := beq_eq_false_iff_ne.mpr c19
                have c19b1 : (t117.toList != ([97, 109, 111, 109, 97, 120, 46, 100] : List UInt8)) = true := bne_iff_ne.mpr c19
                by_cases c23 : t117.toList = ([97, 109, 111, 109, 105, 110, 117, 46, 100] : List UInt8)
                · rw [if_pos c23] at H
                  have c23b0 : (t117.toList == ([97, 109, 111, 109, 105, 110, 117, 46, 100] : List UInt8)) = true := beq_iff_eq.mpr c23
                  have c23b1 : (t117.toList != ([97, 109, 111, 109, 105, 110, 117, 46, 100] : List UInt8)) = false := bne_eq_false_iff_eq.mpr c23
                  clear c23
                  by_cases c24 : (IntKind.u64.wrap (a1)) < (IntKind.u64.wrap (a2))
                  · rw [if_pos c24] at H
                    have c24b0 : decide ((IntKind.u64.wrap (a1)) < (IntKind.u64.wrap (a2))) = true := decide_eq_true c24
                    clear c24
                    obtain rfl := Option.some.inj H
                    go_enter Try.func48, Try.ntmps48
                    go_wp2_with (first | ((with_reducible refine gate_callee (f := 64) rfl ?_); refine goesL_ (some 12) rfl rfl Try.func64 (by kernel_rfl) rfl #[.int .i64 a0] rfl (by (try simp only [List.map_toArray, List.map_cons, List.map_nil]); first | done | rfl | (simp only [List.length_drop, List.length_take]; rfl)) ?_; (with_reducible refine (spinnakerref03_Name.calls a0 t117 _ A4.out).mono ?_); rintro e w25 ⟨rfl, hb⟩; refine ⟨_, rfl, ?_⟩; have n0_ := Aside0.mk (below_step (by repeat (first | (with_reducible first | exact HB.out | apply below_alloc | apply pw_below_drewN | apply below_drew1) | exact HB.out)) hb); clear HB; have HB := n0_; clear n0_; (try clear hb); (try clear hb2); (try clear hk); (try clear hi)))
                    go_ret
                    exact ⟨by first | rfl | (simp [errW_none, errW_some] <;> rfl) | (simp [*, errW_none, errW_some] <;> rfl), by repeat (first | (with_reducible first | exact HB.out | apply below_alloc | apply pw_below_drewN | apply below_drew1) | exact HB.out)⟩
                  · rw [if_neg c24] at H
                    have c24b0 : decide ((IntKind.u64.wrap (a1)) < (IntKind.u64.wrap (a2))) = false := decide_eq_false c24
                    clear c24
                    obtain rfl := Option.some.inj H
                    go_enter Try.func48, Try.ntmps48
                    go_wp2_with (first | ((with_reducible refine gate_callee (f := 64) rfl ?_); refine goesL_ (some 12) rfl rfl Try.func64 (by kernel_rfl) rfl #[.int .i64 a0] rfl (by (try simp only [List.map_toArray, List.map_cons, List.map_nil]); first | done | rfl | (simp only [List.length_drop, List.length_take]; rfl)) ?_; (with_reducible refine (spinnakerref03_Name.calls a0 t117 _ A4.out).mono ?_); rintro e w26 ⟨rfl, hb⟩; refine ⟨_, rfl, ?_⟩; have n0_ := Aside0.mk (below_step (by repeat (first | (with_reducible first | exact HB.out | apply below_alloc | apply pw_below_drewN | apply below_drew1) | exact HB.out)) hb); clear HB; have HB := n0_; clear n0_; (try clear hb); (try clear hb2); (try clear hk); (try clear hi)))
                    go_ret
                    exact ⟨by first | rfl | (simp [errW_none, errW_some] <;> rfl) | (simp [*, errW_none, errW_some] <;> rfl), by repeat (first | (with_reducible first | exact HB.out | apply below_alloc | apply pw_below_drewN | apply below_drew1) | exact HB.out)⟩
                · rw [if_neg c23] at H
                  have c23b0 : (t117.toList == ([97, 109, 111, 109, 105, 110, 117, 46, 100] : List UInt8)) = false := beq_eq_false_iff_ne.mpr c23
                  have c23b1 : (t117.toList != ([97, 109, 111, 109, 105, 110, 117, 46, 100] : List UInt8)) = true := bne_iff_ne.mpr c23
                  by_cases c27 : (IntKind.u64.wrap (a1)) ≥ (IntKind.u64.wrap (a2))
                  · rw [if_pos c27] at H
                    have c27b0 : decide ((IntKind.u64.wrap (a2)) ≤ (IntKind.u64.wrap (a1))) = true := decide_eq_true c27
                    clear c27
                    obtain rfl := Option.some.inj H
                    go_enter Try.func48, Try.ntmps48
                    go_wp2_with (first | ((with_reducible refine gate_callee (f := 64) rfl ?_); refine goesL_ (some 12) rfl rfl Try.func64 (by kernel_rfl) rfl #[.int .i64 a0] rfl (by (try simp only [List.map_toArray, List.map_cons, List.map_nil]); first | done | rfl | (simp only [List.length_drop, List.length_take]; rfl)) ?_; (with_reducible refine (spinnakerref03_Name.calls a0 t117 _ A4.out).mono ?_); rintro e w28 ⟨rfl, hb⟩; refine ⟨_, rfl, ?_⟩; have n0_ := Aside0.mk (below_step (by repeat (first | (with_reducible first | exact HB.out | apply below_alloc | apply pw_below_drewN | apply below_drew1) | exact HB.out)) hb); clear HB; have HB := n0_; clear n0_; (try clear hb); (try clear hb2); (try clear hk); (try clear hi)))
                    go_ret
                    exact ⟨by first | rfl | (simp [errW_none, errW_some] <;> rfl) | (simp [*, errW_none, errW_some] <;> rfl), by repeat (first | (with_reducible first | exact HB.out | apply below_alloc | apply pw_below_drewN | apply below_drew1) | exact HB.out)⟩
                  · rw [if_neg c27] at H
                    have c27b0 : decide ((IntKind.u64.wrap (a2)) ≤ (IntKind.u64.wrap (a1))) = false := decide_eq_false c27
                    clear c27
                    obtain rfl := Option.some.inj H
                    go_enter Try.func48, Try.ntmps48
                    go_wp2_with (first | ((with_reducible refine gate_callee (f := 64) rfl ?_); refine goesL_ (some 12) rfl rfl Try.func64 (by kernel_rfl) rfl #[.int .i64 a0] rfl (by (try simp only [List.map_toArray, List.map_cons, List.map_nil]); first | done | rfl | (simp only [List.length_drop, List.length_take]; rfl)) ?_; (with_reducible refine (spinnakerref03_Name.calls a0 t117 _ A4.out).mono ?_); rintro e w29 ⟨rfl, hb⟩; refine ⟨_, rfl, ?_⟩; have n0_ := Aside0.mk (below_step (by repeat (first | (with_reducible first | exact HB.out | apply below_alloc | apply pw_below_drewN | apply below_drew1) | exact HB.out)) hb); clear HB; have HB := n0_; clear n0_; (try clear hb); (try clear hb2); (try clear hk); (try clear hi)))
                    go_ret
                    exact ⟨by first | rfl | (simp [errW_none, errW_some] <;> rfl) | (simp [*, errW_none, errW_some] <;> rfl), by repeat (first | (with_reducible first | exact HB.out | apply below_alloc | apply pw_below_drewN | apply below_drew1) | exact HB.out)⟩

/-! ### spinnakerref28_Rmw: function 17 -/
def spinnakerref28_Rmw.f (a0 : Int) (a1 : Int) (a2 : Int) : Option (Int × Bool) := (some (([0, 79, 80, 82, 83, 81, 84, 85] : List Int) : List Int)).bind fun y118 => (if a0 < 1 then (some (0, false)) else (if a0 > 7 then (some (0, false)) else (if 0 ≤ a0 then (if a0 < (y118.length : Int) then ((spinnakerref07_Amo.f (rd y118 a0) a1 a2).bind fun t122 => (some (t122, true))) else (none)) else (none))))
set_option maxHeartbeats 8000000 in
set_option maxRecDepth 100000 in
theorem spinnakerref28_Rmw.calls (a0 : Int) (a1 : Int) (a2 : Int) (r1 : Int) (r2 : Bool) (w : World) (h : spinnakerref28_Rmw.f a0 a1 a2 = some (r1, r2)) :
    Calls Try.prog 17 #[.int .i64 a0, .int .i64 a1, .int .i64 a2] w fun e w' => e = .returned (.tuple #[.int .i64 r1, .bool r2]) ∧ Below w.heap.size w w' := by
  have HB := Aside0.mk (Below.refl w.heap.size w)
  have H : ((some (([0, 79, 80, 82, 83, 81, 84, 85] : List Int) : List Int)).bind fun y118 => (if a0 < 1 then (some (0, false)) else (if a0 > 7 then (some (0, false)) else (if 0 ≤ a0 then (if a0 < (y118.length : Int) then ((spinnakerref07_Amo.f (rd y118 a0) a1 a2).bind fun t122 => (some (t122, true))) else (none)) else (none))))) = some (r1, r2) := h
  clear h
  obtain ⟨y118, hy118⟩ : ∃ y_ : List Int, y_ = (([0, 79, 80, 82, 83, 81, 84, 85] : List Int)) := ⟨_, rfl⟩
  replace H : (if a0 < 1 then (some (0, false)) else (if a0 > 7 then (some (0, false)) else (if 0 ≤ a0 then (if a0 < (y118.length : Int) then ((spinnakerref07_Amo.f (rd y118 a0) a1 a2).bind fun t122 => (some (t122, true))) else (none)) else (none)))) = some (r1, r2) := by first | (rw [hy118]; with_reducible exact H) | (have H2_ := (Option.bind_some _ _).symm.trans H; rw [hy118]; with_reducible exact H2_) | (have H2_ := (Option.bind_some _ _).symm.trans H; with_reducible exact H2_) | with_reducible exact H | (rw [hy118]; exact H) | exact H
  have Ny118 := Aside0.mk hy118
  clear hy118
  by_cases c4 : a0 < 1
  · rw [if_pos c4] at H
    have c4b0 : decide (a0 < 1) = true := decide_eq_true c4
    clear c4
    simp only [Option.some.injEq, Prod.mk.injEq] at H
    obtain ⟨rfl, rfl⟩ := H
    go_enter Try.func17, Try.ntmps17
    go_wp2_with (first | ((with_reducible refine gate_dst (N := 9) rfl ?_); refine Kd.R_lit (Kd.int .i64) _ 3 ?hg (N := 9) ?hd (xs := ([0, 79, 80, 82, 83, 81, 84, 85] : List Int)) (inner := [.int .i64 0, .int .i64 79, .int .i64 80, .int .i64 82, .int .i64 83, .int .i64 81, .int .i64 84, .int .i64 85]) (ok := fun _ => True) (okp := fun _ => True) ?hr ?hp (fun _ hk => hk) trivial (Below.refl _ _) (Nat.le_refl _) (by simp) ?_; (case hd => rfl); (case hg => rfl); (case hr => first | (go_simp; done) | (go_simp; rfl)); (case hp => exact (Reps.one (show Kd.M (Kd.int .i64) _ _ _ 0 [.int .i64 0] from rfl) (Reps.one (show Kd.M (Kd.int .i64) _ _ _ 79 [.int .i64 79] from rfl) (Reps.one (show Kd.M (Kd.int .i64) _ _ _ 80 [.int .i64 80] from rfl) (Reps.one (show Kd.M (Kd.int .i64) _ _ _ 82 [.int .i64 82] from rfl) (Reps.one (show Kd.M (Kd.int .i64) _ _ _ 83 [.int .i64 83] from rfl) (Reps.one (show Kd.M (Kd.int .i64) _ _ _ 81 [.int .i64 81] from rfl) (Reps.one (show Kd.M (Kd.int .i64) _ _ _ 84 [.int .i64 84] from rfl) (Reps.one (show Kd.M (Kd.int .i64) _ _ _ 85 [.int .i64 85] from rfl) (Reps.none _ _)))))))))); intro v119 w5 ho6 hb hg_ hnew_; clear hg_ hnew_; (first | rw [← Ny118.out] at ho6 | (simp only [Int.reduceToNat] at ho6; rw [← Ny118.out] at ho6)); have n0_ := Aside0.mk (Kd.R_lower ho6 (below_size (by repeat (first | (with_reducible first | exact HB.out | apply below_alloc | apply pw_below_drewN | apply below_drew1) | exact HB.out)))); have n1_ := Aside0.mk (below_step (by repeat (first | (with_reducible first | exact HB.out | apply below_alloc | apply pw_below_drewN | apply below_drew1) | exact HB.out)) hb); clear HB; have HO120 := n0_; have HB := n1_; clear n0_ n1_; clear hb ho6))
    go_ret2
    exact ⟨by first | rfl | (simp [errW_none, errW_some] <;> rfl) | (simp [*, errW_none, errW_some] <;> rfl), by repeat (first | (with_reducible first | exact HB.out | apply below_alloc | apply pw_below_drewN | apply below_drew1) | exact HB.out)⟩
  · rw [if_neg c4] at H
    have c4b0 : decide (a0 < 1) = false := decide_eq_false c4
    clear c4
    by_cases c7 : a0 > 7
    · rw [if_pos c7] at H
      have c7b0 : decide (7 < a0) = true := decide_eq_true c7
      clear c7
      simp only [Option.some.injEq, Prod.mk.injEq] at H
      obtain ⟨rfl, rfl⟩ := H
      go_enter Try.func17, Try.ntmps17
      go_wp2_with (first | ((with_reducible refine gate_dst (N := 9) rfl ?_); refine Kd.R_lit (Kd.int .i64) _ 3 ?hg (N := 9) ?hd (xs := ([0, 79, 80, 82, 83, 81, 84, 85] : List Int)) (inner := [.int .i64 0, .int .i64 79, .int .i64 80, .int .i64 82, .int .i64 83, .int .i64 81, .int .i64 84, .int .i64 85]) (ok := fun _ => True) (okp := fun _ => True) ?hr ?hp (fun _ hk => hk) trivial (Below.refl _ _) (Nat.le_refl _) (by simp) ?_; (case hd => rfl); (case hg => rfl); (case hr => first | (go_simp; done) | (go_simp; rfl)); (case hp => exact (Reps.one (show Kd.M (Kd.int .i64) _ _ _ 0 [.int .i64 0] from rfl) (Reps.one (show Kd.M (Kd.int .i64) _ _ _ 79 [.int .i64 79] from rfl) (Reps.one (show Kd.M (Kd.int .i64) _ _ _ 80 [.int .i64 80] from rfl) (Reps.one (show Kd.M (Kd.int .i64) _ _ _ 82 [.int .i64 82] from rfl) (Reps.one (show Kd.M (Kd.int .i64) _ _ _ 83 [.int .i64 83] from rfl) (Reps.one (show Kd.M (Kd.int .i64) _ _ _ 81 [.int .i64 81] from rfl) (Reps.one (show Kd.M (Kd.int .i64) _ _ _ 84 [.int .i64 84] from rfl) (Reps.one (show Kd.M (Kd.int .i64) _ _ _ 85 [.int .i64 85] from rfl) (Reps.none _ _)))))))))); intro v119 w8 ho9 hb hg_ hnew_; clear hg_ hnew_; (first | rw [← Ny118.out] at ho9 | (simp only [Int.reduceToNat] at ho9; rw [← Ny118.out] at ho9)); have n0_ := Aside0.mk (Kd.R_lower ho9 (below_size (by repeat (first | (with_reducible first | exact HB.out | apply below_alloc | apply pw_below_drewN | apply below_drew1) | exact HB.out)))); have n1_ := Aside0.mk (below_step (by repeat (first | (with_reducible first | exact HB.out | apply below_alloc | apply pw_below_drewN | apply below_drew1) | exact HB.out)) hb); clear HB; have HO120 := n0_; have HB := n1_; clear n0_ n1_; clear hb ho9))
      go_ret2
      exact ⟨by first | rfl | (simp [errW_none, errW_some] <;> rfl) | (simp [*, errW_none, errW_some] <;> rfl), by repeat (first | (with_reducible first | exact HB.out | apply below_alloc | apply pw_below_drewN | apply below_drew1) | exact HB.out)⟩
    · rw [if_neg c7] at H
      have c7b0 : decide (7 < a0) = false := decide_eq_false c7
      clear c7
      by_cases c10 : 0 ≤ a0
      · rw [if_pos c10] at H
        have c10b0 : decide (0 ≤ a0) = true := decide_eq_true c10
        clear c10
        by_cases c11 : a0 < (y118.length : Int)
        · rw [if_pos c11] at H
          have c11b0 : decide (a0 < (y118.length : Int)) = true := decide_eq_true c11
          clear c11
          replace H := Option.bind_eq_some_iff.mp H
          obtain ⟨t122, A120, H⟩ := H
          replace H : (some (t122, true)) = some (r1, r2) := H
          have A12 := Aside0.mk A120
          clear A120
          simp only [Option.some.injEq, Prod.mk.injEq] at H
          obtain ⟨rfl, rfl⟩ := H
          go_enter Try.func17, Try.ntmps17
          go_wp2_with (first | ((with_reducible refine gate_dst (N := 9) rfl ?_); refine Kd.R_lit (Kd.int .i64) _ 3 ?hg (N := 9) ?hd (xs := ([0, 79, 80, 82, 83, 81, 84, 85] : List Int)) (inner := [.int .i64 0, .int .i64 79, .int .i64 80, .int .i64 82, .int .i64 83, .int .i64 81, .int .i64 84, .int .i64 85]) (ok := fun _ => True) (okp := fun _ => True) ?hr ?hp (fun _ hk => hk) trivial (Below.refl _ _) (Nat.le_refl _) (by simp) ?_; (case hd => rfl); (case hg => rfl); (case hr => first | (go_simp; done) | (go_simp; rfl)); (case hp => exact (Reps.one (show Kd.M (Kd.int .i64) _ _ _ 0 [.int .i64 0] from rfl) (Reps.one (show Kd.M (Kd.int .i64) _ _ _ 79 [.int .i64 79] from rfl) (Reps.one (show Kd.M (Kd.int .i64) _ _ _ 80 [.int .i64 80] from rfl) (Reps.one (show Kd.M (Kd.int .i64) _ _ _ 82 [.int .i64 82] from rfl) (Reps.one (show Kd.M (Kd.int .i64) _ _ _ 83 [.int .i64 83] from rfl) (Reps.one (show Kd.M (Kd.int .i64) _ _ _ 81 [.int .i64 81] from rfl) (Reps.one (show Kd.M (Kd.int .i64) _ _ _ 84 [.int .i64 84] from rfl) (Reps.one (show Kd.M (Kd.int .i64) _ _ _ 85 [.int .i64 85] from rfl) (Reps.none _ _)))))))))); intro v119 w13 ho14 hb hg_ hnew_; clear hg_ hnew_; (first | rw [← Ny118.out] at ho14 | (simp only [Int.reduceToNat] at ho14; rw [← Ny118.out] at ho14)); have n0_ := Aside0.mk (Kd.R_lower ho14 (below_size (by repeat (first | (with_reducible first | exact HB.out | apply below_alloc | apply pw_below_drewN | apply below_drew1) | exact HB.out)))); have n1_ := Aside0.mk (below_step (by repeat (first | (with_reducible first | exact HB.out | apply below_alloc | apply pw_below_drewN | apply below_drew1) | exact HB.out)) hb); clear HB; have HO120 := n0_; have HB := n1_; clear n0_ n1_; clear hb ho14; obtain ⟨Ao15, co15, eo15⟩ := Kd.R_slice HO120.out; subst eo15; have p121 : 0 ≤ (a0 : Int) := of_decide_eq_true (by first | (with_reducible assumption) | assumption); have q121 : a0 < (y118.length : Int) := of_decide_eq_true (by first | (with_reducible assumption) | assumption); obtain ⟨ad121, e121, hx121_0⟩ := Kd.at_int (Kd.R_reads' HO120.out).2.2 a0 p121 q121; cases e121; replace p121 := eq_true p121; replace q121 := eq_true q121) | ((with_reducible refine gate_callee (f := 48) rfl ?_); refine goesL_ (some 22) rfl rfl Try.func48 (by kernel_rfl) rfl #[.int .i64 (rd y118 a0), .int .i64 a1, .int .i64 a2] rfl (by (try simp only [List.map_toArray, List.map_cons, List.map_nil]); first | done | rfl | (simp only [List.length_drop, List.length_take]; rfl)) ?_; (with_reducible refine (spinnakerref07_Amo.calls (rd y118 a0) a1 a2 t122 _ A12.out).mono ?_); rintro e w16 ⟨rfl, hb⟩; refine ⟨_, rfl, ?_⟩; have n0_ := Aside0.mk (Kd.R_below (by (with_reducible repeat (first | apply Kd.R_alloc | apply Kd.R_drewN | apply Kd.R_drew)); exact HO120.out) hb); have n1_ := Aside0.mk (below_step (by repeat (first | (with_reducible first | exact HB.out | apply below_alloc | apply pw_below_drewN | apply below_drew1) | exact HB.out)) hb); clear HO120; clear HB; have HO120 := n0_; have HB := n1_; clear n0_ n1_; (try clear hb); (try clear hb2); (try clear hk); (try clear hi)))
          go_ret2
          exact ⟨by first | rfl | (simp [errW_none, errW_some] <;> rfl) | (simp [*, errW_none, errW_some] <;> rfl), by repeat (first | (with_reducible first | exact HB.out | apply below_alloc | apply pw_below_drewN | apply below_drew1) | exact HB.out)⟩
        · rw [if_neg c11] at H
          exact absurd H (by simp)
      · rw [if_neg c10] at H
        exact absurd H (by simp)

end Go.Proofs.Ytdnphnicdhcafaa.PCalcRmws
