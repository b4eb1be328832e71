-- printed by a program of this session (wip/mp.py: the kit's printer, patched, over the session's own templates); checked by Lean alone
import Derived.Test.YtgenmfbidpmneaaDoorKPFlowLoopsx0
namespace Go.Proofs.YtgenmfbidpmneaaDoor.PFlowLoops
open Go.RowKit Go.Proofs.YtgenmfbidpmneaaDoorW.PrintWords Go.Proofs.YtgenmfbidpmneaaDoorW.PrintLast Go.Proofs.YtgenmfbidpmneaaDoorW.PrintMore
attribute [local go_sem] max2_int min2_int max_two min_two max_three min_three max_four min_four   -- for this text's walks alone
set_option linter.unusedVariables false
set_option linter.unusedSimpArgs false

/-! ### spinnakerref01_Ints: function 16 -/
def spinnakerref01_Ints.l0 : Nat → List Int → List Int → Int → Option (Bool)
  | 0, _, _, _ => none
  | k + 1, x0, x1, x5 => if x5 < (x0.length : Int) then (if 0 ≤ x5 then (if x5 < (x1.length : Int) then (if (rd x0 x5) = (rd x1 x5) then (spinnakerref01_Ints.l0 k x0 x1 (wrap64 (x5 + 1))) else (some false)) else (none)) else (none)) else (some true)
def spinnakerref01_Ints.f (k : Nat) (l0 : List Int) (l1 : List Int) : Option (Bool) := if (l0.length : Int) = (l1.length : Int) then (spinnakerref01_Ints.l0 k l0 l1 0) else (some false)
theorem spinnakerref01_Ints.mono_l : ∀ k, (∀ y0 y1 y2, LeO (spinnakerref01_Ints.l0 k y0 y1 y2) (spinnakerref01_Ints.l0 (k + 1) y0 y1 y2))
  | 0 => fun _ _ _ r h => by simp [spinnakerref01_Ints.l0] at h
  | k + 1 => by
    have ih0 := spinnakerref01_Ints.mono_l k
    · intro y0 y1 y2
      unfold spinnakerref01_Ints.l0
      repeat' first
      | (with_reducible exact ih0 _ _ _)
      | (with_reducible exact LeO.refl _)
      | (with_reducible exact LeO.none _)
      | (with_reducible refine LeO.ite ?_ ?_)
      | (with_reducible refine LeO.bind ?_ (fun _ => ?_))
      | exact ih0 _ _ _
      | exact LeO.none _
      | refine LeO.ite ?_ ?_
      | refine LeO.bind ?_ (fun _ => ?_)
theorem spinnakerref01_Ints.mono : ∀ a0 a1 k, LeO (spinnakerref01_Ints.f k a0 a1) (spinnakerref01_Ints.f (k + 1) a0 a1) := by
  intro a0 a1 k
  have ih0 := spinnakerref01_Ints.mono_l k
  unfold spinnakerref01_Ints.f
  repeat' first
      | (with_reducible exact ih0 _ _ _)
      | (with_reducible exact LeO.refl _)
      | (with_reducible exact LeO.none _)
      | (with_reducible refine LeO.ite ?_ ?_)
      | (with_reducible refine LeO.bind ?_ (fun _ => ?_))
      | exact ih0 _ _ _
      | exact LeO.none _
      | refine LeO.ite ?_ ?_
      | refine LeO.bind ?_ (fun _ => ?_)
set_option maxHeartbeats 8000000 in
set_option maxRecDepth 100000 in
theorem spinnakerref01_Ints.calls (k : Nat) (A0 : Option Addr) (c0 : Nat) (l0 : List Int) (A1 : Option Addr) (c1 : Nat) (l1 : List Int) (r : Bool) (w : World) (hr0 : Kd.C (Kd.int .i64) w A0 l0.length l0) (hc0 : l0.length ≤ c0) (hr1 : Kd.C (Kd.int .i64) w A1 l1.length l1) (hc1 : l1.length ≤ c1) (h : spinnakerref01_Ints.f k l0 l1 = some r) :
    Calls Tryd.prog 16 #[.slice A0 l0.length c0, .slice A1 l1.length c1] w fun e w' => e = .returned (.bool r) ∧ Drawn0 w w' := by
  have HR0 := Aside0.mk hr0
  have HC0 := Aside0.mk hc0
  clear hr0 hc0
  have HR1 := Aside0.mk hr1
  have HC1 := Aside0.mk hc1
  clear hr1 hc1
  have H : (if (l0.length : Int) = (l1.length : Int) then (spinnakerref01_Ints.l0 k l0 l1 0) else (some false)) = some r := h
  clear h
  by_cases c3 : (l0.length : Int) = (l1.length : Int)
  · rw [if_pos c3] at H
    have c3b0 : ((l0.length : Int) == (l1.length : Int)) = true := beq_iff_eq.mpr c3
    have c3b1 : ((l0.length : Int) != (l1.length : Int)) = false := bne_eq_false_iff_eq.mpr c3
    have c3b2 : (l0.length == l1.length) = true := by first | simpa using c3 | (simp at c3 ⊢; omega)
    clear c3
    have H' := Aside0.mk H
    clear H
    go_enter Tryd.func16, Tryd.ntmps16
    go_wp2
    repeat (go_quiet (fail); try go_wp2)
    go_loopg [5] k (fun kq v5 w' => ∃ (x5_1 : Int), v5 = .int .i64 x5_1 ∧ Aside0 (spinnakerref01_Ints.l0 kq l0 l1 x5_1 = some r) ∧ Aside0 (kq ≤ k) ∧ Drawn0 w w')
    case atStart => exact ⟨(0), (by first | rfl | (simp; done) | (simp [*]; done)), H', ⟨Nat.le_refl _⟩, by repeat (first | exact Drawn0.refl _ | apply Drawn0.step)⟩
    case round =>
      clear H'
      try clear c3
      try clear c3b0
      try clear c3b1
      try clear c3b2
      obtain ⟨x5_1, rfl, HA, HK1, ⟨m1, rfl⟩⟩ := hrel
      cases gk with
      | zero => exact absurd HA.out (by simp [spinnakerref01_Ints.l0])
      | succ k1 =>
        have H := HA.out
        clear HA
        simp only [spinnakerref01_Ints.l0] at H
        by_cases c4 : x5_1 < (l0.length : Int)
        · rw [if_pos c4] at H
          have c4b0 : decide (x5_1 < (l0.length : Int)) = true := decide_eq_true c4
          clear c4
          by_cases c5 : 0 ≤ x5_1
          · rw [if_pos c5] at H
            have c5b0 : decide (0 ≤ x5_1) = true := decide_eq_true c5
            clear c5
            by_cases c6 : x5_1 < (l1.length : Int)
            · rw [if_pos c6] at H
              have c6b0 : decide (x5_1 < (l1.length : Int)) = true := decide_eq_true c6
              clear c6
              by_cases c7 : (rd l0 x5_1) = (rd l1 x5_1)
              · rw [if_pos c7] at H
                have c7b0 : ((rd l0 x5_1) == (rd l1 x5_1)) = true := beq_iff_eq.mpr c7
                have c7b1 : ((rd l0 x5_1) != (rd l1 x5_1)) = false := bne_eq_false_iff_eq.mpr c7
                clear c7
                have H' := Aside0.mk H
                clear H
                have p101 : 0 ≤ (x5_1 : Int) := of_decide_eq_true (by first | (with_reducible assumption) | assumption)
                have q101 : x5_1 < (l0.length : Int) := of_decide_eq_true (by first | (with_reducible assumption) | assumption)
                obtain ⟨ad101, e101, hx101_0⟩ := Kd.at_int HR0.out x5_1 p101 q101
                cases e101
                replace p101 := eq_true p101
                replace q101 := eq_true q101
                have p102 : 0 ≤ (x5_1 : Int) := of_decide_eq_true (by first | (with_reducible assumption) | assumption)
                have q102 : x5_1 < (l1.length : Int) := of_decide_eq_true (by first | (with_reducible assumption) | assumption)
                obtain ⟨ad102, e102, hx102_0⟩ := Kd.at_int HR1.out x5_1 p102 q102
                cases e102
                replace p102 := eq_true p102
                replace q102 := eq_true q102
                go_wp2
                repeat (go_quiet (fail); try go_wp2)
                go_roundg k1
                case measure => have := HK1.out; omega
                case rel => exact ⟨(wrap64 (x5_1 + 1)), (by first | rfl | (simp; done) | (simp [*]; done)), H', ⟨by have := HK1.out; omega⟩, by repeat (first | exact Drawn0.refl _ | apply Drawn0.step)⟩
              · rw [if_neg c7] at H
                have c7b0 : ((rd l0 x5_1) == (rd l1 x5_1)) = false := beq_eq_false_iff_ne.mpr c7
                have c7b1 : ((rd l0 x5_1) != (rd l1 x5_1)) = true := bne_iff_ne.mpr c7
                obtain rfl := Option.some.inj H
                have p101 : 0 ≤ (x5_1 : Int) := of_decide_eq_true (by first | (with_reducible assumption) | assumption)
                have q101 : x5_1 < (l0.length : Int) := of_decide_eq_true (by first | (with_reducible assumption) | assumption)
                obtain ⟨ad101, e101, hx101_0⟩ := Kd.at_int HR0.out x5_1 p101 q101
                cases e101
                replace p101 := eq_true p101
                replace q101 := eq_true q101
                have p102 : 0 ≤ (x5_1 : Int) := of_decide_eq_true (by first | (with_reducible assumption) | assumption)
                have q102 : x5_1 < (l1.length : Int) := of_decide_eq_true (by first | (with_reducible assumption) | assumption)
                obtain ⟨ad102, e102, hx102_0⟩ := Kd.at_int HR1.out x5_1 p102 q102
                cases e102
                replace p102 := eq_true p102
                replace q102 := eq_true q102
                go_wp2
                repeat (go_quiet (fail); try go_wp2)
                go_ret
                exact ⟨by first | rfl | (simp; done) | (simp [*]; done), by repeat (first | exact Drawn0.refl _ | apply Drawn0.step)⟩
            · rw [if_neg c6] at H
              exact absurd H (by simp)
          · rw [if_neg c5] at H
            exact absurd H (by simp)
        · rw [if_neg c4] at H
          have c4b0 : decide (x5_1 < (l0.length : Int)) = false := decide_eq_false c4
          clear c4
          obtain rfl := Option.some.inj H
          go_wp2
          repeat (go_quiet (fail); try go_wp2)
          go_ret
          exact ⟨by first | rfl | (simp; done) | (simp [*]; done), by repeat (first | exact Drawn0.refl _ | apply Drawn0.step)⟩
  · rw [if_neg c3] at H
    have c3b0 : ((l0.length : Int) == (l1.length : Int)) = false := beq_eq_false_iff_ne.mpr c3
    have c3b1 : ((l0.length : Int) != (l1.length : Int)) = true := bne_iff_ne.mpr c3
    have c3b2 : (l0.length == l1.length) = false := by first | simpa using c3 | (simp at c3 ⊢; omega)
    obtain rfl := Option.some.inj H
    go_enter Tryd.func16, Tryd.ntmps16
    go_wp2
    repeat (go_quiet (fail); try go_wp2)
    go_ret
    exact ⟨by first | rfl | (simp; done) | (simp [*]; done), by repeat (first | exact Drawn0.refl _ | apply Drawn0.step)⟩

/-! ### spinnakerref26_of: function 54 -/
def spinnakerref26_of.f (a0 : Bool) (a1 : Int) (a2 : Int) : Option (Bool) := if a0 = true then (if a1 ≥ 0 then (some (decide (a1 < a2))) else (some false)) else (some (a1 == 0))
set_option maxHeartbeats 8000000 in
set_option maxRecDepth 100000 in
theorem spinnakerref26_of.calls (a0 : Bool) (a1 : Int) (a2 : Int) (r : Bool) (w : World) (h : spinnakerref26_of.f a0 a1 a2 = some r) :
    Calls Tryd.prog 54 #[.bool a0, .int .i64 a1, .int .i64 a2] w fun e w' => e = .returned (.bool r) ∧ Drawn0 w w' := by
  have H : (if a0 = true then (if a1 ≥ 0 then (some (decide (a1 < a2))) else (some false)) else (some (a1 == 0))) = some r := h
  clear h
  by_cases c4 : a0 = true
  · subst c4
    have H1 : (if a1 ≥ 0 then (some (decide (a1 < a2))) else (some false)) = some r := by rw [if_pos rfl] at H; exact H
    clear H
    have H := H1
    clear H1
    by_cases c5 : a1 ≥ 0
    · rw [if_pos c5] at H
      have c5b0 : decide (0 ≤ a1) = true := decide_eq_true c5
      clear c5
      obtain rfl := Option.some.inj H
      go_enter Tryd.func54, Tryd.ntmps54
      go_wp2
      go_ret
      exact ⟨by first | rfl | (simp; done) | (simp [*]; done), by repeat (first | exact Drawn0.refl _ | apply Drawn0.step)⟩
    · rw [if_neg c5] at H
      have c5b0 : decide (0 ≤ a1) = false := decide_eq_false c5
      clear c5
      obtain rfl := Option.some.inj H
      go_enter Tryd.func54, Tryd.ntmps54
      go_wp2
      go_ret
      exact ⟨by first | rfl | (simp; done) | (simp [*]; done), by repeat (first | exact Drawn0.refl _ | apply Drawn0.step)⟩
  · replace c4 := Bool.eq_false_iff.mpr c4
    subst c4
    have H1 : (some (a1 == 0)) = some r := by rw [if_neg (show ¬ (false = true) by decide)] at H; exact H
    clear H
    have H := H1
    clear H1
    obtain rfl := Option.some.inj H
    go_enter Tryd.func54, Tryd.ntmps54
    go_wp2
    go_ret
    exact ⟨by first | rfl | (simp; done) | (simp [*]; done), by repeat (first | exact Drawn0.refl _ | apply Drawn0.step)⟩

/-! ### spinnakerref26_HasD: function 55 -/
def spinnakerref26_HasD.f (a0 : Int) : Option (Bool) := if a0 = 1 then (some true) else (if a0 = 2 then (some true) else (if a0 = 3 then (some true) else (if a0 = 4 then (some true) else (if a0 = 6 then (some true) else (if a0 = 8 then (some true) else (some (a0 == 9)))))))
set_option maxHeartbeats 8000000 in
set_option maxRecDepth 100000 in
theorem spinnakerref26_HasD.calls (a0 : Int) (r : Bool) (w : World) (h : spinnakerref26_HasD.f a0 = some r) :
    Calls Tryd.prog 55 #[.int .i64 a0] w fun e w' => e = .returned (.bool r) ∧ Drawn0 w w' := by
  have H : (if a0 = 1 then (some true) else (if a0 = 2 then (some true) else (if a0 = 3 then (some true) else (if a0 = 4 then (some true) else (if a0 = 6 then (some true) else (if a0 = 8 then (some true) else (some (a0 == 9)))))))) = some r := h
  clear h
  by_cases c2 : a0 = 1
  · rw [if_pos c2] at H
    have c2b0 : (a0 == 1) = true := beq_iff_eq.mpr c2
    have c2b1 : (a0 != 1) = false := bne_eq_false_iff_eq.mpr c2
    clear c2
    obtain rfl := Option.some.inj H
    go_enter Tryd.func55, Tryd.ntmps55
    go_wp2
    go_ret
    exact ⟨by first | rfl | (simp; done) | (simp [*]; done), by repeat (first | exact Drawn0.refl _ | apply Drawn0.step)⟩
  · rw [if_neg c2] at H
    have c2b0 : (a0 == 1) = false := beq_eq_false_iff_ne.mpr c2
    have c2b1 : (a0 != 1) = true := bne_iff_ne.mpr c2
    by_cases c3 : a0 = 2
    · rw [if_pos c3] at H
      have c3b0 : (a0 == 2) = true := beq_iff_eq.mpr c3
      have c3b1 : (a0 != 2) = false := bne_eq_false_iff_eq.mpr c3
      clear c3
      obtain rfl := Option.some.inj H
      go_enter Tryd.func55, Tryd.ntmps55
      go_wp2
      go_ret
      exact ⟨by first | rfl | (simp; done) | (simp [*]; done), by repeat (first | exact Drawn0.refl _ | apply Drawn0.step)⟩
    · rw [if_neg c3] at H
      have c3b0 : (a0 == 2) = false := beq_eq_false_iff_ne.mpr c3
      have c3b1 : (a0 != 2) = true := bne_iff_ne.mpr c3
      by_cases c4 : a0 = 3
      · rw [if_pos c4] at H
        have c4b0 : (a0 == 3) = true := beq_iff_eq.mpr c4
        have c4b1 : (a0 != 3) = false := bne_eq_false_iff_eq.mpr c4
        clear c4
        obtain rfl := Option.some.inj H
        go_enter Tryd.func55, Tryd.ntmps55
        go_wp2
        go_ret
        exact ⟨by first | rfl | (simp; done) | (simp [*]; done), by repeat (first | exact Drawn0.refl _ | apply Drawn0.step)⟩
      · rw [if_neg c4] at H
        have c4b0 : (a0 == 3) = false := beq_eq_false_iff_ne.mpr c4
        have c4b1 : (a0 != 3) = true := bne_iff_ne.mpr c4
        by_cases c5 : a0 = 4
        · rw [if_pos c5] at H
          have c5b0 : (a0 == 4) = true := beq_iff_eq.mpr c5
          have c5b1 : (a0 != 4) = false := bne_eq_false_iff_eq.mpr c5
          clear c5
          obtain rfl := Option.some.inj H
          go_enter Tryd.func55, Tryd.ntmps55
          go_wp2
          go_ret
          exact ⟨by first | rfl | (simp; done) | (simp [*]; done), by repeat (first | exact Drawn0.refl _ | apply Drawn0.step)⟩
        · rw [if_neg c5] at H
          have c5b0 : (a0 == 4) = false := beq_eq_false_iff_ne.mpr c5
          have c5b1 : (a0 != 4) = true := bne_iff_ne.mpr c5
          by_cases c6 : a0 = 6
          · rw [if_pos c6] at H
            have c6b0 : (a0 == 6) = true := beq_iff_eq.mpr c6
            have c6b1 : (a0 != 6) = false := bne_eq_false_iff_eq.mpr c6
            clear c6
            obtain rfl := Option.some.inj H
            go_enter Tryd.func55, Tryd.ntmps55
            go_wp2
            go_ret
            exact ⟨by first | rfl | (simp; done) | (simp [*]; done), by repeat (first | exact Drawn0.refl _ | apply Drawn0.step)⟩
          · rw [if_neg c6] at H
            have c6b0 : (a0 == 6) = false := beq_eq_false_iff_ne.mpr c6
            have c6b1 : (a0 != 6) = true := bne_iff_ne.mpr c6
            by_cases c7 : a0 = 8
            · rw [if_pos c7] at H
              have c7b0 : (a0 == 8) = true := beq_iff_eq.mpr c7
              have c7b1 : (a0 != 8) = false := bne_eq_false_iff_eq.mpr c7
              clear c7
              obtain rfl := Option.some.inj H
              go_enter Tryd.func55, Tryd.ntmps55
              go_wp2
              go_ret
              exact ⟨by first | rfl | (simp; done) | (simp [*]; done), by repeat (first | exact Drawn0.refl _ | apply Drawn0.step)⟩
            · rw [if_neg c7] at H
              have c7b0 : (a0 == 8) = false := beq_eq_false_iff_ne.mpr c7
              have c7b1 : (a0 != 8) = true := bne_iff_ne.mpr c7
              obtain rfl := Option.some.inj H
              go_enter Tryd.func55, Tryd.ntmps55
              go_wp2
              go_ret
              exact ⟨by first | rfl | (simp; done) | (simp [*]; done), by repeat (first | exact Drawn0.refl _ | apply Drawn0.step)⟩

/-! ### spinnakerref26_hasA: function 56 -/
def spinnakerref26_hasA.f (a0 : Int) : Option (Bool) := if a0 = 2 then (some true) else (if a0 = 3 then (some true) else (if a0 = 4 then (some true) else (if a0 = 5 then (some true) else (if a0 = 7 then (some true) else (if a0 = 8 then (some true) else (if a0 = 9 then (some true) else (some (a0 == 11))))))))
set_option maxHeartbeats 8000000 in
set_option maxRecDepth 100000 in
theorem spinnakerref26_hasA.calls (a0 : Int) (r : Bool) (w : World) (h : spinnakerref26_hasA.f a0 = some r) :
    Calls Tryd.prog 56 #[.int .i64 a0] w fun e w' => e = .returned (.bool r) ∧ Drawn0 w w' := by
  have H : (if a0 = 2 then (some true) else (if a0 = 3 then (some true) else (if a0 = 4 then (some true) else (if a0 = 5 then (some true) else (if a0 = 7 then (some true) else (if a0 = 8 then (some true) else (if a0 = 9 then (some true) else (some (a0 == 11))))))))) = some r := h
  clear h
  by_cases c2 : a0 = 2
  · rw [if_pos c2] at H
    have c2b0 : (a0 == 2) = true := beq_iff_eq.mpr c2
    have c2b1 : (a0 != 2) = false := bne_eq_false_iff_eq.mpr c2
    clear c2
    obtain rfl := Option.some.inj H
    go_enter Tryd.func56, Tryd.ntmps56
    go_wp2
    go_ret
    exact ⟨by first | rfl | (simp; done) | (simp [*]; done), by repeat (first | exact Drawn0.refl _ | apply Drawn0.step)⟩
  · rw [if_neg c2] at H
    have c2b0 : (a0 == 2) = false := beq_eq_false_iff_ne.mpr c2
    have c2b1 : (a0 != 2) = true := bne_iff_ne.mpr c2
    by_cases c3 : a0 = 3
    · rw [if_pos c3] at H
      have c3b0 : (a0 == 3) = true := beq_iff_eq.mpr c3
      have c3b1 : (a0 != 3) = false := bne_eq_false_iff_eq.mpr c3
      clear c3
      obtain rfl := Option.some.inj H
      go_enter Tryd.func56, Tryd.ntmps56
      go_wp2
      go_ret
      exact ⟨by first | rfl | (simp; done) | (simp [*]; done), by repeat (first | exact Drawn0.refl _ | apply Drawn0.step)⟩
    · rw [if_neg c3] at H
      have c3b0 : (a0 == 3) = false := beq_eq_false_iff_ne.mpr c3
      have c3b1 : (a0 != 3) = true := bne_iff_ne.mpr c3
      by_cases c4 : a0 = 4
      · rw [if_pos c4] at H
        have c4b0 : (a0 == 4) = true := beq_iff_eq.mpr c4
        have c4b1 : (a0 != 4) = false := bne_eq_false_iff_eq.mpr c4
        clear c4
        obtain rfl := Option.some.inj H
        go_enter Tryd.func56, Tryd.ntmps56
        go_wp2
        go_ret
        exact ⟨by first | rfl | (simp; done) | (simp [*]; done), by repeat (first | exact Drawn0.refl _ | apply Drawn0.step)⟩
      · rw [if_neg c4] at H
        have c4b0 : (a0 == 4) = false := beq_eq_false_iff_ne.mpr c4
        have c4b1 : (a0 != 4) = true := bne_iff_ne.mpr c4
        by_cases c5 : a0 = 5
        · rw [if_pos c5] at H
          have c5b0 : (a0 == 5) = true := beq_iff_eq.mpr c5
          have c5b1 : (a0 != 5) = false := bne_eq_false_iff_eq.mpr c5
          clear c5
          obtain rfl := Option.some.inj H
          go_enter Tryd.func56, Tryd.ntmps56
          go_wp2
          go_ret
          exact ⟨by first | rfl | (simp; done) | (simp [*]; done), by repeat (first | exact Drawn0.refl _ | apply Drawn0.step)⟩
        · rw [if_neg c5] at H
          have c5b0 : (a0 == 5) = false := beq_eq_false_iff_ne.mpr c5
          have c5b1 : (a0 != 5) = true := bne_iff_ne.mpr c5
          by_cases c6 : a0 = 7
          · rw [if_pos c6] at H
            have c6b0 : (a0 == 7) = true := beq_iff_eq.mpr c6
            have c6b1 : (a0 != 7) = false := bne_eq_false_iff_eq.mpr c6
            clear c6
            obtain rfl := Option.some.inj H
            go_enter Tryd.func56, Tryd.ntmps56
            go_wp2
            go_ret
            exact ⟨by first | rfl | (simp; done) | (simp [*]; done), by repeat (first | exact Drawn0.refl _ | apply Drawn0.step)⟩
          · rw [if_neg c6] at H
            have c6b0 : (a0 == 7) = false := beq_eq_false_iff_ne.mpr c6
            have c6b1 : (a0 != 7) = true := bne_iff_ne.mpr c6
            by_cases c7 : a0 = 8
            · rw [if_pos c7] at H
              have c7b0 : (a0 == 8) = true := beq_iff_eq.mpr c7
              have c7b1 : (a0 != 8) = false := bne_eq_false_iff_eq.mpr c7
              clear c7
              obtain rfl := Option.some.inj H
              go_enter Tryd.func56, Tryd.ntmps56
              go_wp2
              go_ret
              exact ⟨by first | rfl | (simp; done) | (simp [*]; done), by repeat (first | exact Drawn0.refl _ | apply Drawn0.step)⟩
            · rw [if_neg c7] at H
              have c7b0 : (a0 == 8) = false := beq_eq_false_iff_ne.mpr c7
              have c7b1 : (a0 != 8) = true := bne_iff_ne.mpr c7
              by_cases c8 : a0 = 9
              · rw [if_pos c8] at H
                have c8b0 : (a0 == 9) = true := beq_iff_eq.mpr c8
                have c8b1 : (a0 != 9) = false := bne_eq_false_iff_eq.mpr c8
                clear c8
                obtain rfl := Option.some.inj H
                go_enter Tryd.func56, Tryd.ntmps56
                go_wp2
                go_ret
                exact ⟨by first | rfl | (simp; done) | (simp [*]; done), by repeat (first | exact Drawn0.refl _ | apply Drawn0.step)⟩
              · rw [if_neg c8] at H
                have c8b0 : (a0 == 9) = false := beq_eq_false_iff_ne.mpr c8
                have c8b1 : (a0 != 9) = true := bne_iff_ne.mpr c8
                obtain rfl := Option.some.inj H
                go_enter Tryd.func56, Tryd.ntmps56
                go_wp2
                go_ret
                exact ⟨by first | rfl | (simp; done) | (simp [*]; done), by repeat (first | exact Drawn0.refl _ | apply Drawn0.step)⟩

/-! ### spinnakerref26_hasB: function 57 -/
def spinnakerref26_hasB.f (a0 : Int) : Option (Bool) := if a0 = 3 then (some true) else (if a0 = 5 then (some true) else (some (a0 == 9)))
set_option maxHeartbeats 8000000 in
set_option maxRecDepth 100000 in
theorem spinnakerref26_hasB.calls (a0 : Int) (r : Bool) (w : World) (h : spinnakerref26_hasB.f a0 = some r) :
    Calls Tryd.prog 57 #[.int .i64 a0] w fun e w' => e = .returned (.bool r) ∧ Drawn0 w w' := by
  have H : (if a0 = 3 then (some true) else (if a0 = 5 then (some true) else (some (a0 == 9)))) = some r := h
  clear h
  by_cases c2 : a0 = 3
  · rw [if_pos c2] at H
    have c2b0 : (a0 == 3) = true := beq_iff_eq.mpr c2
    have c2b1 : (a0 != 3) = false := bne_eq_false_iff_eq.mpr c2
    clear c2
    obtain rfl := Option.some.inj H
    go_enter Tryd.func57, Tryd.ntmps57
    go_wp2
    go_ret
    exact ⟨by first | rfl | (simp; done) | (simp [*]; done), by repeat (first | exact Drawn0.refl _ | apply Drawn0.step)⟩
  · rw [if_neg c2] at H
    have c2b0 : (a0 == 3) = false := beq_eq_false_iff_ne.mpr c2
    have c2b1 : (a0 != 3) = true := bne_iff_ne.mpr c2
    by_cases c3 : a0 = 5
    · rw [if_pos c3] at H
      have c3b0 : (a0 == 5) = true := beq_iff_eq.mpr c3
      have c3b1 : (a0 != 5) = false := bne_eq_false_iff_eq.mpr c3
      clear c3
      obtain rfl := Option.some.inj H
      go_enter Tryd.func57, Tryd.ntmps57
      go_wp2
      go_ret
      exact ⟨by first | rfl | (simp; done) | (simp [*]; done), by repeat (first | exact Drawn0.refl _ | apply Drawn0.step)⟩
    · rw [if_neg c3] at H
      have c3b0 : (a0 == 5) = false := beq_eq_false_iff_ne.mpr c3
      have c3b1 : (a0 != 5) = true := bne_iff_ne.mpr c3
      obtain rfl := Option.some.inj H
      go_enter Tryd.func57, Tryd.ntmps57
      go_wp2
      go_ret
      exact ⟨by first | rfl | (simp; done) | (simp [*]; done), by repeat (first | exact Drawn0.refl _ | apply Drawn0.step)⟩

/-! ### given: ir_fields.lean -/
-- GIVEN spinnaker/ir.fields rounds=0 making=0
/-- The fields of the operations, as the table of the program lays them. -/
def opsTab : List Int := [0, 17, 3, 39, 67, 70, 897, 898, 907, 903, 256, 514]
/-- The table of the operations is laid. -/
def OpsLaid (w : World) : Prop := ∀ i : Nat, i < 12 → w.cell? ⟨0, i * 2 + 1, none⟩ = some (.int .i64 (opsTab.getD i 0))
theorem OpsLaid.below {n : Nat} {w w' : World} (h : OpsLaid w) (hn : w.heap.size ≤ n) (hb : Below n w w') : OpsLaid w' := fun i hi => (hb.cell (p := ⟨0, i * 2 + 1, none⟩) (Nat.lt_of_lt_of_le (World.block_lt_of_cell? w _ (h i hi)) hn)).trans (h i hi)
theorem OpsLaid.drewN {w : World} (h : OpsLaid w) (n : Nat) : OpsLaid (w.drewN n) := h.below (Nat.le_refl _) (pw_below_drewN (Below.refl _ _) n)
theorem OpsLaid.drew {w : World} (h : OpsLaid w) : OpsLaid w.drew := h.below (Nat.le_refl _) (below_drew1 (Below.refl _ _))
theorem OpsLaid.alloc {w : World} (h : OpsLaid w) (o : Obj) : OpsLaid (w.alloc o) := h.below (Nat.le_refl _) ((below_alloc (Below.refl _ _)) o)
def ir_fields.f (a0 : Int) : Option Int := some (if 0 ≤ a0 ∧ a0 < 12 then opsTab.getD a0.toNat 0 else 0)
set_option maxHeartbeats 2000000 in
theorem ir_fields.calls (a0 : Int) (r : Int) (w : World) (hG : OpsLaid w) (h : ir_fields.f a0 = some r) :
    Calls Tryd.prog 70 #[.int .i64 a0] w fun e w' => e = .returned (.int .i64 r) ∧ Drawn0 w w' := by
  unfold ir_fields.f at h
  injection h with h
  by_cases c1 : 0 ≤ a0
  · have c1b : decide (a0 < 0) = false := decide_eq_false (by omega)
    by_cases c2 : a0 < 12
    · rw [if_pos ⟨c1, c2⟩] at h
      have c2b : decide (12 ≤ a0) = false := decide_eq_false (by omega)
      obtain ⟨i, rfl⟩ : ∃ i : Nat, a0 = (i : Int) := ⟨a0.toNat, by omega⟩
      have hc := hG i (by omega)
      rw [Int.toNat_natCast] at h
      subst h
      have c3 : (i : Int) < 12 := c2
      have c4 : (0 : Int) ≤ (i : Int) := c1
      clear hG c1 c2
      go_enter Tryd.func70, Tryd.ntmps70
      go_wp2
      go_ret
      exact ⟨rfl, by repeat (first | exact Drawn0.refl _ | apply Drawn0.step)⟩
    · rw [if_neg (fun h_ => c2 h_.2)] at h
      subst h
      have c2b : decide (12 ≤ a0) = true := decide_eq_true (by omega)
      clear hG c1 c2
      go_enter Tryd.func70, Tryd.ntmps70
      go_wp2
      go_ret
      exact ⟨rfl, by repeat (first | exact Drawn0.refl _ | apply Drawn0.step)⟩
  · rw [if_neg (fun h_ => c1 h_.1)] at h
    subst h
    have c1b : decide (a0 < 0) = true := decide_eq_true (by omega)
    clear hG c1
    go_enter Tryd.func70, Tryd.ntmps70
    go_wp2
    go_ret
    exact ⟨rfl, by repeat (first | exact Drawn0.refl _ | apply Drawn0.step)⟩


/-! ### ir_has: function 68 -/
def ir_has.f (a0_0 : Int) (a0_1 : Int) (a0_2 : Int) (a0_3 : Int) (a0_4 : Int) (a0_5 : Int) (a0_6 : Int) (a0_7 : Int) (a1 : Int) : Option (Bool) := (ir_fields.f a0_0).bind fun t104 => (some ((Go.bits .and .i64 t104 a1) != 0))
set_option maxHeartbeats 8000000 in
set_option maxRecDepth 100000 in
theorem ir_has.calls (a0_0 : Int) (a0_1 : Int) (a0_2 : Int) (a0_3 : Int) (a0_4 : Int) (a0_5 : Int) (a0_6 : Int) (a0_7 : Int) (a1 : Int) (r : Bool) (w : World) (hG : OpsLaid w) (h : ir_has.f a0_0 a0_1 a0_2 a0_3 a0_4 a0_5 a0_6 a0_7 a1 = some r) :
    Calls Tryd.prog 68 #[.agg #[.int .i64 a0_0, .int .i64 a0_1, .int .i64 a0_2, .int .i64 a0_3, .int .i64 a0_4, .int .i64 a0_5, .int .i64 a0_6, .int .i64 a0_7], .int .i64 a1] w fun e w' => e = .returned (.bool r) ∧ Below w.heap.size w w' := by
  have hu38 := Tryd.underlying38
  have HG := Aside0.mk hG
  clear hG
  have HB := Aside0.mk (Below.refl w.heap.size w)
  have H : ((ir_fields.f a0_0).bind fun t104 => (some ((Go.bits .and .i64 t104 a1) != 0))) = some r := h
  clear h
  replace H := Option.bind_eq_some_iff.mp H
  obtain ⟨t104, A30, H⟩ := H
  replace H : (some ((Go.bits .and .i64 t104 a1) != 0)) = some r := H
  have A3 := Aside0.mk A30
  clear A30
  obtain rfl := Option.some.inj H
  go_enter Tryd.func68, Tryd.ntmps68
  go_wp2_with (first | ((with_reducible refine gate_dst (N := 2) rfl ?_); refine box_event ?hg (N := 2) ?hd (cs := #[.int .i64 a0_0, .int .i64 a0_1, .int .i64 a0_2, .int .i64 a0_3, .int .i64 a0_4, .int .i64 a0_5, .int .i64 a0_6, .int .i64 a0_7]) (t := 38) ?hr ?_; (case hd => rfl); (case hg => rfl); (case hr => first | (go_simp; done) | (go_simp; rfl)); intro gb103 hg w4 hbox hb; have n0_ := Aside0.mk (below_step (by repeat (first | (with_reducible first | exact HB.out | apply below_alloc | apply pw_below_drewN | apply below_drew1) | exact HB.out)) hb); have n1_ := Aside0.mk (hbox); have n2_ := Aside0.mk ((by rw [hg]; exact (below_size (by repeat (first | (with_reducible first | exact HB.out | apply below_alloc | apply pw_below_drewN | apply below_drew1) | exact HB.out))) : w.heap.size ≤ gb103)); have n3_ := Aside0.mk ((by rw [hg]; exact (below_size (by repeat (first | (with_reducible first | exact HB.out | apply below_alloc | apply pw_below_drewN | apply below_drew1) | exact HB.out))) : w.heap.size ≤ gb103)); clear HB; have HB := n0_; have BK103 := n1_; have GW103 := n2_; have GE103 := n3_; clear n0_ n1_ n2_ n3_; clear hb hbox hg; have hcz5_0 : w4.cell? ⟨gb103, 0, none⟩ = some (.int .i64 a0_0) := (blk_cell BK103.out 0).trans rfl; have hcz5_1 : w4.cell? ⟨gb103, 1, none⟩ = some (.int .i64 a0_1) := (blk_cell BK103.out 1).trans rfl; have hcz5_2 : w4.cell? ⟨gb103, 2, none⟩ = some (.int .i64 a0_2) := (blk_cell BK103.out 2).trans rfl; have hcz5_3 : w4.cell? ⟨gb103, 3, none⟩ = some (.int .i64 a0_3) := (blk_cell BK103.out 3).trans rfl; have hcz5_4 : w4.cell? ⟨gb103, 4, none⟩ = some (.int .i64 a0_4) := (blk_cell BK103.out 4).trans rfl; have hcz5_5 : w4.cell? ⟨gb103, 5, none⟩ = some (.int .i64 a0_5) := (blk_cell BK103.out 5).trans rfl; have hcz5_6 : w4.cell? ⟨gb103, 6, none⟩ = some (.int .i64 a0_6) := (blk_cell BK103.out 6).trans rfl; have hcz5_7 : w4.cell? ⟨gb103, 7, none⟩ = some (.int .i64 a0_7) := (blk_cell BK103.out 7).trans rfl; have hfz5_0 := blk_frozen BK103.out 0; have hfz5_1 := blk_frozen BK103.out 1; have hfz5_2 := blk_frozen BK103.out 2; have hfz5_3 := blk_frozen BK103.out 3; have hfz5_4 := blk_frozen BK103.out 4; have hfz5_5 := blk_frozen BK103.out 5; have hfz5_6 := blk_frozen BK103.out 6; have hfz5_7 := blk_frozen BK103.out 7) | ((with_reducible refine gate_callee (f := 70) rfl ?_); refine goesL_ (some 7) rfl rfl Tryd.func70 (by kernel_rfl) rfl #[.int .i64 a0_0] rfl (by (try simp only [List.map_toArray, List.map_cons, List.map_nil]); first | done | rfl | (simp only [List.length_drop, List.length_take]; rfl)) ?_; (with_reducible refine (ir_fields.calls a0_0 t104 _ ?side1 A3.out).mono ?_); (case side1 => first | exact HG.out | ((repeat (first | exact (OpsLaid.below HG.out (Nat.le_refl _) HB.out) | exact HG.out | (with_reducible refine OpsLaid.alloc ?_ _) | (with_reducible refine OpsLaid.drewN ?_ _) | (with_reducible refine OpsLaid.drew ?_))); done) | exact OpsLaid.below HG.out (Nat.le_refl _) (by repeat (first | (with_reducible first | exact HB.out | apply below_alloc | apply pw_below_drewN | apply below_drew1 | refine below_set ?_ GE103.out) | exact HB.out))); rintro e w' ⟨rfl, ⟨nd, rfl⟩⟩; refine ⟨_, rfl, ?_⟩))
  go_ret
  exact ⟨by first | rfl | (simp [errW_none, errW_some] <;> rfl) | (simp [*, errW_none, errW_some] <;> rfl), by repeat (first | (with_reducible first | exact HB.out | apply below_alloc | apply pw_below_drewN | apply below_drew1 | refine below_set ?_ GE103.out) | exact HB.out)⟩

/-! ### ir_within: function 69 -/
def ir_within.f (a0 : Bool) (a1 : Int) (a2 : Int) : Option (Bool) := if a0 = true then (if a1 ≥ 0 then (some (decide (a1 < a2))) else (some false)) else (some (a1 == 0))
set_option maxHeartbeats 8000000 in
set_option maxRecDepth 100000 in
theorem ir_within.calls (a0 : Bool) (a1 : Int) (a2 : Int) (r : Bool) (w : World) (h : ir_within.f a0 a1 a2 = some r) :
    Calls Tryd.prog 69 #[.bool a0, .int .i64 a1, .int .i64 a2] w fun e w' => e = .returned (.bool r) ∧ Drawn0 w w' := by
  have H : (if a0 = true then (if a1 ≥ 0 then (some (decide (a1 < a2))) else (some false)) else (some (a1 == 0))) = some r := h
  clear h
  by_cases c4 : a0 = true
  · subst c4
    have H1 : (if a1 ≥ 0 then (some (decide (a1 < a2))) else (some false)) = some r := by rw [if_pos rfl] at H; exact H
    clear H
    have H := H1
    clear H1
    by_cases c5 : a1 ≥ 0
    · rw [if_pos c5] at H
      have c5b0 : decide (0 ≤ a1) = true := decide_eq_true c5
      clear c5
      obtain rfl := Option.some.inj H
      go_enter Tryd.func69, Tryd.ntmps69
      go_wp2
      go_ret
      exact ⟨by first | rfl | (simp; done) | (simp [*]; done), by repeat (first | exact Drawn0.refl _ | apply Drawn0.step)⟩
    · rw [if_neg c5] at H
      have c5b0 : decide (0 ≤ a1) = false := decide_eq_false c5
      clear c5
      obtain rfl := Option.some.inj H
      go_enter Tryd.func69, Tryd.ntmps69
      go_wp2
      go_ret
      exact ⟨by first | rfl | (simp; done) | (simp [*]; done), by repeat (first | exact Drawn0.refl _ | apply Drawn0.step)⟩
  · replace c4 := Bool.eq_false_iff.mpr c4
    subst c4
    have H1 : (some (a1 == 0)) = some r := by rw [if_neg (show ¬ (false = true) by decide)] at H; exact H
    clear H
    have H := H1
    clear H1
    obtain rfl := Option.some.inj H
    go_enter Tryd.func69, Tryd.ntmps69
    go_wp2
    go_ret
    exact ⟨by first | rfl | (simp; done) | (simp [*]; done), by repeat (first | exact Drawn0.refl _ | apply Drawn0.step)⟩

/-! ### given: rights.lean -/
-- GIVEN spinnaker/spinnakerref26.right rounds=0 making=1
-- GIVEN spinnaker/ir.number rounds=0 making=1
-- GIVEN spinnaker/ir.order rounds=0 making=1
-- GIVEN spinnaker/ir.right rounds=0 making=1
-- NEEDS spinnaker/spinnakerref26.HasD
-- NEEDS spinnaker/spinnakerref26.hasA
-- NEEDS spinnaker/spinnakerref26.hasB
-- NEEDS spinnaker/spinnakerref26.of
-- NEEDS spinnaker/ir.has
-- NEEDS spinnaker/ir.within
-- NEEDS spinnaker/ir.fields
-- REG []int
-- REG []api.Block
-- REG spinnaker/api.Ins
-- REG spinnaker/api.Thread
-- IMPORT Derived.Test.YtgenmfbidpmneaaDoorEval
/-- The kinds of values that the functions below read. -/
def tabS : Eval.Tab := { fields := [(38, 0, 0), (38, 1, 1), (38, 2, 2), (38, 3, 3), (38, 4, 4), (38, 5, 5), (38, 6, 6), (38, 7, 7), (25, 0, 0), (25, 1, 1), (25, 2, 2), (34, 0, 0), (34, 1, 1), (34, 2, 2), (34, 3, 3)], one := [3, 22, 23], many := [(38, 8), (25, 3), (34, 4)], lens := [22, 23], bools := [4], boxes := [38, 25, 34], mem := [], sum := fun _ _ => none }
set_option maxRecDepth 100000 in
theorem tabS_static : tabS.Static Tryd.prog := by
  refine ⟨fun q hq => ?_, fun t ht => ?_, fun q hq => ?_, fun t ht => ?_, fun t ht => ?_, fun t ht => ?_⟩
  · simp only [tabS, List.mem_cons, List.mem_nil_iff, or_false] at hq
    rcases hq with rfl | rfl | rfl | rfl | rfl | rfl | rfl | rfl | rfl | rfl | rfl | rfl | rfl | rfl | rfl <;> (intro w g off; kernel_rfl)
  · simp only [tabS, List.mem_cons, List.mem_nil_iff, or_false] at ht
    rcases ht with rfl | rfl | rfl <;> (intro w; kernel_rfl)
  · simp only [tabS, List.mem_cons, List.mem_nil_iff, or_false] at hq
    rcases hq with rfl | rfl | rfl <;> (intro w; constructor <;> kernel_rfl)
  · simp only [tabS, List.mem_cons, List.mem_nil_iff, or_false] at ht
    rcases ht with rfl | rfl <;> (intro w ty A n c; kernel_rfl)
  · simp only [tabS, List.mem_cons, List.mem_nil_iff, or_false] at ht
    rcases ht with rfl
    intro w p q; cases p <;> cases q <;> kernel_rfl
  · simp only [tabS, List.mem_cons, List.mem_nil_iff, or_false] at ht
    rcases ht with rfl | rfl | rfl <;> (intro w cs; kernel_rfl)
theorem wide_on : Tryd.prog.follows .mixedOrders = true := by kernel_rfl
/-- Is a number one of the first ones, if it must be, else 0? -/
def withinB (b : Bool) (x y : Int) : Bool := cond b (cond (decide (0 ≤ x)) (decide (x < y)) false) (x == 0)
def sumOf (c : Eval.BE) (x y : Eval.IE) : Eval.SV := .b (.ite c (.ite (.cmp .ge x (.lit 0)) (.cmp .lt x y) (.lit false)) (.cmp .eq x (.lit 0)))
theorem of_some (b : Bool) (x y : Int) : spinnakerref26_of.f b x y = some (withinB b x y) := by
  unfold spinnakerref26_of.f withinB
  cases b
  · rfl
  · rw [if_pos rfl]
    by_cases h2 : (0 : Int) ≤ x
    · rw [if_pos h2, decide_eq_true h2]; rfl
    · rw [if_neg h2, decide_eq_false h2]; rfl
theorem within_some (b : Bool) (x y : Int) : ir_within.f b x y = some (withinB b x y) := by
  unfold ir_within.f withinB
  cases b
  · rfl
  · rw [if_pos rfl]
    by_cases h2 : (0 : Int) ≤ x
    · rw [if_pos h2, decide_eq_true h2]; rfl
    · rw [if_neg h2, decide_eq_false h2]; rfl
/-- The reference's HasD. -/
def dB (x : Int) : Bool := (spinnakerref26_HasD.f x).getD false
theorem dB_some (x : Int) : spinnakerref26_HasD.f x = some (dB x) := by
  unfold dB spinnakerref26_HasD.f
  repeat' split
  all_goals rfl
/-- The reference's hasA. -/
def aB (x : Int) : Bool := (spinnakerref26_hasA.f x).getD false
theorem aB_some (x : Int) : spinnakerref26_hasA.f x = some (aB x) := by
  unfold aB spinnakerref26_hasA.f
  repeat' split
  all_goals rfl
/-- The reference's hasB. -/
def bB (x : Int) : Bool := (spinnakerref26_hasB.f x).getD false
theorem bB_some (x : Int) : spinnakerref26_hasB.f x = some (bB x) := by
  unfold bB spinnakerref26_hasB.f
  repeat' split
  all_goals rfl
/-- Has an operation one of these fields? -/
def hasB (x m : Int) : Bool := Go.bits .and .i64 ((ir_fields.f x).getD 0) m != 0
/-- The fields of an operation. -/
def fldB (x : Int) : Int := (ir_fields.f x).getD 0
def insC : List Eval.CV := [.i (.v 0), .i (.v 1), .i (.v 2), .i (.v 3), .i (.v 4), .i (.v 5), .i (.v 6), .i (.v 7)]
def thrC : List Eval.CV := [.i (.v 8), .sl 0, .sl 1]
def sumR : FuncId → List Eval.SV → Option Eval.SV
  | 55, [.i x] => some (.b (.fn 0 x (.lit 0) (.lit 0) (.lit 0)))
  | 56, [.i x] => some (.b (.fn 1 x (.lit 0) (.lit 0) (.lit 0)))
  | 57, [.i x] => some (.b (.fn 2 x (.lit 0) (.lit 0) (.lit 0)))
  | 54, [.b c, .i x, .i y] => some (sumOf c x y)
  | _, _ => none
def sumI : FuncId → List Eval.SV → Option Eval.SV
  | 68, [.agg [.i o, .i _, .i _, .i _, .i _, .i _, .i _, .i _], .i x] => some (.b (.fn 0 o x (.lit 0) (.lit 0)))
  | 69, [.b c, .i x, .i y] => some (sumOf c x y)
  | 70, [.i x] => some (.i (.f 0 x))
  | 71, [.agg [.i o, .i _, .i _, .i _, .i _, .i n, .i _, .i _], .agg [.i _, .sl 0, .sl 1], .i c] => some (.b (.fn 1 o n (.len 0) c))
  | 72, [.agg [.i o, .i _, .i _, .i _, .i _, .i _, .i x, .i _]] => some (.b (.fn 2 o x (.lit 0) (.lit 0)))
  | _, _ => none
def sumJ : FuncId → List Eval.SV → Option Eval.SV
  | 68, [.agg [.i o, .i _, .i _, .i _, .i _, .i _, .i _, .i _], .i x] => some (.b (.fn 0 o x (.lit 0) (.lit 0)))
  | 69, [.b c, .i x, .i y] => some (sumOf c x y)
  | _, _ => none
def numB (x n k c : Int) : Bool := if hasB x 16 = true then true else if hasB x 32 = true then (decide (1 ≤ n) && decide (n ≤ 14)) else if hasB x 64 = true then withinB true n k else withinB (hasB x 128) n c
def ordB (x d : Int) : Bool := if x = 6 then (d == 0 || d == 1) else if x = 7 then (d == 0 || d == 2) else if x = 10 then (decide (1 ≤ d) && decide (d ≤ 3)) else withinB (hasB x 256) d 4
def T34 : Eval.Tr := .node (.ite (.fn 0 (.v 0) (.lit 0) (.lit 0) (.lit 0)) (.ite (.cmp .ge (.v 1) (.lit 0)) (.cmp .lt (.v 1) (.v 8)) (.lit false)) (.cmp .eq (.v 1) (.lit 0))) (.node (.ite (.fn 1 (.v 0) (.lit 0) (.lit 0) (.lit 0)) (.ite (.cmp .ge (.v 2) (.lit 0)) (.cmp .lt (.v 2) (.v 8)) (.lit false)) (.cmp .eq (.v 2) (.lit 0))) (.node (.ite (.fn 2 (.v 0) (.lit 0) (.lit 0) (.lit 0)) (.ite (.cmp .ge (.v 3) (.lit 0)) (.cmp .lt (.v 3) (.v 8)) (.lit false)) (.cmp .eq (.v 3) (.lit 0))) (.node (.cmp .eq (.v 0) (.lit 1)) (.node (.cmp .eq (.v 4) (.lit 0)) (.node (.cmp .eq (.v 6) (.lit 0)) (.leaf 0 (.cmp .eq (.v 7) (.lit 0)) []) (.leaf 0 (.lit false) [])) (.leaf 0 (.lit false) [])) (.node (.cmp .eq (.v 0) (.lit 2)) (.node (.cmp .eq (.v 4) (.lit 0)) (.node (.cmp .eq (.v 6) (.lit 0)) (.node (.cmp .eq (.v 7) (.lit 0)) (.leaf 0 (.cmp .eq (.v 5) (.lit 0)) []) (.leaf 0 (.lit false) [])) (.leaf 0 (.lit false) [])) (.leaf 0 (.lit false) [])) (.node (.cmp .eq (.v 0) (.lit 3)) (.node (.cmp .eq (.v 4) (.lit 0)) (.node (.cmp .eq (.v 6) (.lit 0)) (.node (.cmp .eq (.v 7) (.lit 0)) (.node (.cmp .ge (.v 5) (.lit 1)) (.leaf 0 (.cmp .le (.v 5) (.lit 14)) []) (.leaf 0 (.lit false) [])) (.leaf 0 (.lit false) [])) (.leaf 0 (.lit false) [])) (.leaf 0 (.lit false) [])) (.node (.cmp .eq (.v 0) (.lit 4)) (.node (.cmp .eq (.v 4) (.lit 0)) (.node (.cmp .eq (.v 6) (.lit 0)) (.node (.cmp .eq (.v 7) (.lit 0)) (.node (.cmp .ge (.v 5) (.lit 0)) (.leaf 0 (.cmp .lt (.v 5) (.len 0)) []) (.leaf 0 (.lit false) [])) (.leaf 0 (.lit false) [])) (.leaf 0 (.lit false) [])) (.leaf 0 (.lit false) [])) (.node (.cmp .eq (.v 0) (.lit 5)) (.node (.cmp .eq (.v 4) (.lit 0)) (.node (.cmp .eq (.v 6) (.lit 0)) (.node (.cmp .eq (.v 7) (.lit 0)) (.node (.cmp .ge (.v 5) (.lit 0)) (.leaf 0 (.cmp .lt (.v 5) (.len 0)) []) (.leaf 0 (.lit false) [])) (.leaf 0 (.lit false) [])) (.leaf 0 (.lit false) [])) (.leaf 0 (.lit false) [])) (.node (.cmp .eq (.v 0) (.lit 10)) (.node (.cmp .eq (.v 4) (.lit 0)) (.node (.cmp .eq (.v 7) (.lit 0)) (.node (.cmp .eq (.v 5) (.lit 0)) (.node (.cmp .ge (.v 6) (.lit 1)) (.leaf 0 (.cmp .le (.v 6) (.lit 3)) []) (.leaf 0 (.lit false) [])) (.leaf 0 (.lit false) [])) (.leaf 0 (.lit false) [])) (.leaf 0 (.lit false) [])) (.node (.cmp .eq (.v 0) (.lit 11)) (.node (.cmp .eq (.v 4) (.lit 0)) (.node (.cmp .eq (.v 6) (.lit 0)) (.node (.cmp .eq (.v 5) (.lit 0)) (.leaf 0 (.cmp .gt (.v 7) (.lit 0)) []) (.leaf 0 (.lit false) [])) (.leaf 0 (.lit false) [])) (.leaf 0 (.lit false) [])) (.node (.cmp .eq (.v 0) (.lit 6)) (.node (.cmp .eq (.v 4) (.lit 0)) (.node (.cmp .eq (.v 6) (.lit 0)) (.node (.cmp .gt (.v 7) (.lit 0)) (.node (.cmp .ge (.v 5) (.lit 0)) (.leaf 0 (.cmp .lt (.v 5) (.v 9)) []) (.leaf 0 (.lit false) [])) (.leaf 0 (.lit false) [])) (.node (.cmp .eq (.v 6) (.lit 1)) (.node (.cmp .gt (.v 7) (.lit 0)) (.node (.cmp .ge (.v 5) (.lit 0)) (.leaf 0 (.cmp .lt (.v 5) (.v 9)) []) (.leaf 0 (.lit false) [])) (.leaf 0 (.lit false) [])) (.leaf 0 (.lit false) []))) (.leaf 0 (.lit false) [])) (.node (.cmp .eq (.v 0) (.lit 7)) (.node (.cmp .eq (.v 4) (.lit 0)) (.node (.cmp .eq (.v 6) (.lit 0)) (.node (.cmp .gt (.v 7) (.lit 0)) (.node (.cmp .ge (.v 5) (.lit 0)) (.leaf 0 (.cmp .lt (.v 5) (.v 9)) []) (.leaf 0 (.lit false) [])) (.leaf 0 (.lit false) [])) (.node (.cmp .eq (.v 6) (.lit 2)) (.node (.cmp .gt (.v 7) (.lit 0)) (.node (.cmp .ge (.v 5) (.lit 0)) (.leaf 0 (.cmp .lt (.v 5) (.v 9)) []) (.leaf 0 (.lit false) [])) (.leaf 0 (.lit false) [])) (.leaf 0 (.lit false) []))) (.leaf 0 (.lit false) [])) (.node (.cmp .eq (.v 0) (.lit 8)) (.node (.cmp .ge (.v 4) (.lit 1)) (.node (.cmp .le (.v 4) (.lit 7)) (.node (.cmp .ge (.v 6) (.lit 0)) (.node (.cmp .le (.v 6) (.lit 3)) (.node (.cmp .gt (.v 7) (.lit 0)) (.node (.cmp .ge (.v 5) (.lit 0)) (.leaf 0 (.cmp .lt (.v 5) (.v 9)) []) (.leaf 0 (.lit false) [])) (.leaf 0 (.lit false) [])) (.leaf 0 (.lit false) [])) (.leaf 0 (.lit false) [])) (.leaf 0 (.lit false) [])) (.leaf 0 (.lit false) [])) (.node (.cmp .eq (.v 0) (.lit 9)) (.node (.cmp .eq (.v 4) (.lit 0)) (.node (.cmp .ge (.v 6) (.lit 0)) (.node (.cmp .le (.v 6) (.lit 3)) (.node (.cmp .gt (.v 7) (.lit 0)) (.node (.cmp .ge (.v 5) (.lit 0)) (.leaf 0 (.cmp .lt (.v 5) (.v 9)) []) (.leaf 0 (.lit false) [])) (.leaf 0 (.lit false) [])) (.leaf 0 (.lit false) [])) (.leaf 0 (.lit false) [])) (.leaf 0 (.lit false) [])) (.leaf 0 (.lit false) [])))))))))))) (.leaf 0 (.lit false) [])) (.leaf 0 (.lit false) [])) (.leaf 0 (.lit false) [])
def T60 : Eval.Tr := .node (.fn 0 (.v 0) (.lit 8) (.lit 0) (.lit 0)) (.node (.cmp .ge (.v 4) (.lit 1)) (.node (.ite (.fn 0 (.v 0) (.lit 1) (.lit 0) (.lit 0)) (.ite (.cmp .ge (.v 1) (.lit 0)) (.cmp .lt (.v 1) (.v 8)) (.lit false)) (.cmp .eq (.v 1) (.lit 0))) (.node (.ite (.fn 0 (.v 0) (.lit 2) (.lit 0) (.lit 0)) (.ite (.cmp .ge (.v 2) (.lit 0)) (.cmp .lt (.v 2) (.v 8)) (.lit false)) (.cmp .eq (.v 2) (.lit 0))) (.node (.cmp .ne (.f 0 (.v 0)) (.lit 0)) (.node (.ite (.fn 0 (.v 0) (.lit 4) (.lit 0) (.lit 0)) (.ite (.cmp .ge (.v 3) (.lit 0)) (.cmp .lt (.v 3) (.v 8)) (.lit false)) (.cmp .eq (.v 3) (.lit 0))) (.node (.cmp .le (.v 4) (.lit 7)) (.node (.fn 1 (.v 0) (.v 5) (.len 0) (.v 9)) (.node (.fn 2 (.v 0) (.v 6) (.lit 0) (.lit 0)) (.node (.beq (.cmp .gt (.v 7) (.lit 0)) (.fn 0 (.v 0) (.lit 512) (.lit 0) (.lit 0))) (.leaf 0 (.cmp .ge (.v 7) (.lit 0)) []) (.leaf 0 (.lit false) [])) (.leaf 0 (.lit false) [])) (.leaf 0 (.lit false) [])) (.leaf 0 (.lit false) [])) (.leaf 0 (.lit false) [])) (.leaf 0 (.lit false) [])) (.node (.cmp .ne (.f 0 (.v 0)) (.lit 0)) (.leaf 0 (.lit false) []) (.leaf 0 (.lit false) []))) (.node (.cmp .ne (.f 0 (.v 0)) (.lit 0)) (.leaf 0 (.lit false) []) (.leaf 0 (.lit false) []))) (.node (.ite (.fn 0 (.v 0) (.lit 1) (.lit 0) (.lit 0)) (.ite (.cmp .ge (.v 1) (.lit 0)) (.cmp .lt (.v 1) (.v 8)) (.lit false)) (.cmp .eq (.v 1) (.lit 0))) (.node (.ite (.fn 0 (.v 0) (.lit 2) (.lit 0) (.lit 0)) (.ite (.cmp .ge (.v 2) (.lit 0)) (.cmp .lt (.v 2) (.v 8)) (.lit false)) (.cmp .eq (.v 2) (.lit 0))) (.node (.cmp .ne (.f 0 (.v 0)) (.lit 0)) (.node (.ite (.fn 0 (.v 0) (.lit 4) (.lit 0) (.lit 0)) (.ite (.cmp .ge (.v 3) (.lit 0)) (.cmp .lt (.v 3) (.v 8)) (.lit false)) (.cmp .eq (.v 3) (.lit 0))) (.leaf 0 (.lit false) []) (.leaf 0 (.lit false) [])) (.leaf 0 (.lit false) [])) (.node (.cmp .ne (.f 0 (.v 0)) (.lit 0)) (.leaf 0 (.lit false) []) (.leaf 0 (.lit false) []))) (.node (.cmp .ne (.f 0 (.v 0)) (.lit 0)) (.leaf 0 (.lit false) []) (.leaf 0 (.lit false) [])))) (.node (.ite (.fn 0 (.v 0) (.lit 1) (.lit 0) (.lit 0)) (.ite (.cmp .ge (.v 1) (.lit 0)) (.cmp .lt (.v 1) (.v 8)) (.lit false)) (.cmp .eq (.v 1) (.lit 0))) (.node (.ite (.fn 0 (.v 0) (.lit 2) (.lit 0) (.lit 0)) (.ite (.cmp .ge (.v 2) (.lit 0)) (.cmp .lt (.v 2) (.v 8)) (.lit false)) (.cmp .eq (.v 2) (.lit 0))) (.node (.cmp .ne (.f 0 (.v 0)) (.lit 0)) (.node (.ite (.fn 0 (.v 0) (.lit 4) (.lit 0) (.lit 0)) (.ite (.cmp .ge (.v 3) (.lit 0)) (.cmp .lt (.v 3) (.v 8)) (.lit false)) (.cmp .eq (.v 3) (.lit 0))) (.node (.cmp .eq (.v 4) (.lit 0)) (.node (.fn 1 (.v 0) (.v 5) (.len 0) (.v 9)) (.node (.fn 2 (.v 0) (.v 6) (.lit 0) (.lit 0)) (.node (.beq (.cmp .gt (.v 7) (.lit 0)) (.fn 0 (.v 0) (.lit 512) (.lit 0) (.lit 0))) (.leaf 0 (.cmp .ge (.v 7) (.lit 0)) []) (.leaf 0 (.lit false) [])) (.leaf 0 (.lit false) [])) (.leaf 0 (.lit false) [])) (.leaf 0 (.lit false) [])) (.leaf 0 (.lit false) [])) (.leaf 0 (.lit false) [])) (.node (.cmp .ne (.f 0 (.v 0)) (.lit 0)) (.leaf 0 (.lit false) []) (.leaf 0 (.lit false) []))) (.node (.cmp .ne (.f 0 (.v 0)) (.lit 0)) (.leaf 0 (.lit false) []) (.leaf 0 (.lit false) [])))
def T71 : Eval.Tr := .node (.fn 0 (.v 0) (.lit 16) (.lit 0) (.lit 0)) (.leaf 0 (.lit true) []) (.node (.fn 0 (.v 0) (.lit 32) (.lit 0) (.lit 0)) (.node (.cmp .ge (.v 5) (.lit 1)) (.leaf 0 (.cmp .le (.v 5) (.lit 14)) []) (.leaf 0 (.lit false) [])) (.node (.fn 0 (.v 0) (.lit 64) (.lit 0) (.lit 0)) (.leaf 0 (.ite (.lit true) (.ite (.cmp .ge (.v 5) (.lit 0)) (.cmp .lt (.v 5) (.len 0)) (.lit false)) (.cmp .eq (.v 5) (.lit 0))) []) (.leaf 0 (.ite (.fn 0 (.v 0) (.lit 128) (.lit 0) (.lit 0)) (.ite (.cmp .ge (.v 5) (.lit 0)) (.cmp .lt (.v 5) (.v 9)) (.lit false)) (.cmp .eq (.v 5) (.lit 0))) [])))
def T72 : Eval.Tr := .node (.cmp .eq (.v 0) (.lit 6)) (.node (.cmp .eq (.v 6) (.lit 0)) (.leaf 0 (.lit true) []) (.leaf 0 (.cmp .eq (.v 6) (.lit 1)) [])) (.node (.cmp .eq (.v 0) (.lit 7)) (.node (.cmp .eq (.v 6) (.lit 0)) (.leaf 0 (.lit true) []) (.leaf 0 (.cmp .eq (.v 6) (.lit 2)) [])) (.node (.cmp .eq (.v 0) (.lit 10)) (.node (.cmp .ge (.v 6) (.lit 1)) (.leaf 0 (.cmp .le (.v 6) (.lit 3)) []) (.leaf 0 (.lit false) [])) (.leaf 0 (.ite (.fn 0 (.v 0) (.lit 256) (.lit 0) (.lit 0)) (.ite (.cmp .ge (.v 6) (.lit 0)) (.cmp .lt (.v 6) (.lit 4)) (.lit false)) (.cmp .eq (.v 6) (.lit 0))) [])))
def envR (a0_0 a0_1 a0_2 a0_3 a0_4 a0_5 a0_6 a0_7 v c : Int) (s1 s2 : Option Addr × Nat × Nat) (b : Nat) : Eval.Env := { iv := [a0_0, a0_1, a0_2, a0_3, a0_4, a0_5, a0_6, a0_7, v, c], bv := [], sv := [s1, s2], bk := fun k => b + k, rv := [], fn := fun n x _ _ _ => if n = 0 then dB x else if n = 1 then aB x else bB x, fi := fun _ _ => 0, fi2 := fun _ _ _ => 0 }
def envI (a0_0 a0_1 a0_2 a0_3 a0_4 a0_5 a0_6 a0_7 v c : Int) (s1 s2 : Option Addr × Nat × Nat) (b : Nat) : Eval.Env := { iv := [a0_0, a0_1, a0_2, a0_3, a0_4, a0_5, a0_6, a0_7, v, c], bv := [], sv := [s1, s2], bk := fun k => b + k, rv := [], fn := fun n x y z u => if n = 0 then hasB x y else if n = 1 then numB x y z u else ordB x y, fi := fun _ x => fldB x, fi2 := fun _ _ _ => 0 }
/-- Is it right, as the document says? -/
def insR (a0_0 a0_1 a0_2 a0_3 a0_4 a0_5 a0_6 a0_7 v c : Int) (k k2 : Nat) : Bool := T34.bval (envR a0_0 a0_1 a0_2 a0_3 a0_4 a0_5 a0_6 a0_7 v c (none, k, 0) (none, k2, 0) 0)
/-- Is an instruction right? -/
def insB (a0_0 a0_1 a0_2 a0_3 a0_4 a0_5 a0_6 a0_7 v c : Int) (k k2 : Nat) : Bool := T60.bval (envI a0_0 a0_1 a0_2 a0_3 a0_4 a0_5 a0_6 a0_7 v c (none, k, 0) (none, k2, 0) 0)
theorem insR_sat (a0_0 a0_1 a0_2 a0_3 a0_4 a0_5 a0_6 a0_7 v c : Int) (A1 A2 : Option Addr) (k c1 k2 c2 : Nat) (b : Nat) : T34.sat (envR a0_0 a0_1 a0_2 a0_3 a0_4 a0_5 a0_6 a0_7 v c (A1, k, c1) (A2, k2, c2) b) (fun _ r _ => r = insR a0_0 a0_1 a0_2 a0_3 a0_4 a0_5 a0_6 a0_7 v c k k2) := by
  have e : insR a0_0 a0_1 a0_2 a0_3 a0_4 a0_5 a0_6 a0_7 v c k k2 = T34.bval (envR a0_0 a0_1 a0_2 a0_3 a0_4 a0_5 a0_6 a0_7 v c (A1, k, c1) (A2, k2, c2) b) := Eval.Tr.bval_alike ⟨rfl, rfl, fun n => by match n with | 0 => rfl | 1 => rfl | n + 2 => rfl, rfl, rfl, rfl⟩ _
  rw [e]
  exact Eval.Tr.sat_bval _ _
theorem insB_sat (a0_0 a0_1 a0_2 a0_3 a0_4 a0_5 a0_6 a0_7 v c : Int) (A1 A2 : Option Addr) (k c1 k2 c2 : Nat) (b : Nat) : T60.sat (envI a0_0 a0_1 a0_2 a0_3 a0_4 a0_5 a0_6 a0_7 v c (A1, k, c1) (A2, k2, c2) b) (fun _ r _ => r = insB a0_0 a0_1 a0_2 a0_3 a0_4 a0_5 a0_6 a0_7 v c k k2) := by
  have e : insB a0_0 a0_1 a0_2 a0_3 a0_4 a0_5 a0_6 a0_7 v c k k2 = T60.bval (envI a0_0 a0_1 a0_2 a0_3 a0_4 a0_5 a0_6 a0_7 v c (A1, k, c1) (A2, k2, c2) b) := Eval.Tr.bval_alike ⟨rfl, rfl, fun n => by match n with | 0 => rfl | 1 => rfl | n + 2 => rfl, rfl, rfl, rfl⟩ _
  rw [e]
  exact Eval.Tr.sat_bval _ _
def spinnakerref26_right.f (a0_0 : Int) (a0_1 : Int) (a0_2 : Int) (a0_3 : Int) (a0_4 : Int) (a0_5 : Int) (a0_6 : Int) (a0_7 : Int) (a1_0 : Int) (l1_1 : List Int) (l1_2 : List (S36)) (a2 : Int) : Option Bool := some (insR a0_0 a0_1 a0_2 a0_3 a0_4 a0_5 a0_6 a0_7 a1_0 a2 l1_1.length l1_2.length)
set_option maxRecDepth 100000 in
set_option maxHeartbeats 4000000 in
theorem spinnakerref26_right.calls (a0_0 : Int) (a0_1 : Int) (a0_2 : Int) (a0_3 : Int) (a0_4 : Int) (a0_5 : Int) (a0_6 : Int) (a0_7 : Int) (a1_0 : Int) (A1_1 : Option Addr) (c1_1 : Nat) (l1_1 : List Int) (A1_2 : Option Addr) (c1_2 : Nat) (l1_2 : List (S36)) (a2 : Int) (r : Bool) (w : World) (hr1_1 : Kd.C (Kd.int .i64) w A1_1 l1_1.length l1_1) (hc1_1 : l1_1.length ≤ c1_1) (hr1_2 : Kd.C k36 w A1_2 l1_2.length l1_2) (hc1_2 : l1_2.length ≤ c1_2) (h : spinnakerref26_right.f a0_0 a0_1 a0_2 a0_3 a0_4 a0_5 a0_6 a0_7 a1_0 l1_1 l1_2 a2 = some r) :
    Calls Tryd.prog 34 #[.agg #[.int .i64 a0_0, .int .i64 a0_1, .int .i64 a0_2, .int .i64 a0_3, .int .i64 a0_4, .int .i64 a0_5, .int .i64 a0_6, .int .i64 a0_7], .agg #[.int .i64 a1_0, .slice A1_1 l1_1.length c1_1, .slice A1_2 l1_2.length c1_2], .int .i64 a2] w fun e w' => e = .returned (.bool r) ∧ Below w.heap.size w w' := by
  injection h with h
  subst h
  have hS : Eval.Tab.Sums Tryd.prog (envR a0_0 a0_1 a0_2 a0_3 a0_4 a0_5 a0_6 a0_7 a1_0 a2 (A1_1, l1_1.length, c1_1) (A1_2, l1_2.length, c1_2) w.heap.size) (fun W => Below w.heap.size w W) { tabS with sum := sumR } := by
    intro f vs v hv W hW
    simp only [sumR] at hv
    split at hv
    · injection hv with hv
      subst hv
      exact ⟨enters_ Tryd.func55 (by kernel_rfl) (by kernel_rfl) _ W, (spinnakerref26_HasD.calls _ _ W (dB_some _)).mono fun e w' h => ⟨h.1, h.2.below⟩⟩
    · injection hv with hv
      subst hv
      exact ⟨enters_ Tryd.func56 (by kernel_rfl) (by kernel_rfl) _ W, (spinnakerref26_hasA.calls _ _ W (aB_some _)).mono fun e w' h => ⟨h.1, h.2.below⟩⟩
    · injection hv with hv
      subst hv
      exact ⟨enters_ Tryd.func57 (by kernel_rfl) (by kernel_rfl) _ W, (spinnakerref26_hasB.calls _ _ W (bB_some _)).mono fun e w' h => ⟨h.1, h.2.below⟩⟩
    · injection hv with hv
      subst hv
      exact ⟨enters_ Tryd.func54 (by kernel_rfl) (by kernel_rfl) _ W, (spinnakerref26_of.calls _ _ _ _ W (of_some _ _ _)).mono fun e w' h => ⟨h.1, h.2.below⟩⟩
    · cases hv
  exact Eval.fn_tree (ρ := envR a0_0 a0_1 a0_2 a0_3 a0_4 a0_5 a0_6 a0_7 a1_0 a2 (A1_1, l1_1.length, c1_1) (A1_2, l1_2.length, c1_2) w.heap.size) (M := { tabS with sum := sumR }) (G := fun W => Below w.heap.size w W) (ps := [.agg insC, .agg thrC, .i (.v 9)]) (T := T34) wide_on Tryd.func34 (by kernel_rfl) ⟨tabS_static.fields, tabS_static.one, tabS_static.many, tabS_static.lens, tabS_static.bools, tabS_static.boxes⟩ rfl hS (fun W hW => hW) (insR_sat a0_0 a0_1 a0_2 a0_3 a0_4 a0_5 a0_6 a0_7 a1_0 a2 _ _ _ _ _ _ _)
theorem ir_number.is (a0_0 : Int) (a0_1 : Int) (a0_2 : Int) (a0_3 : Int) (a0_4 : Int) (a0_5 : Int) (a0_6 : Int) (a0_7 : Int) (v c : Int) (s1 s2 : Option Addr × Nat × Nat) (b : Nat) : T71.sat (envI a0_0 a0_1 a0_2 a0_3 a0_4 a0_5 a0_6 a0_7 v c s1 s2 b) (fun _ r _ => r = numB a0_0 a0_5 s1.2.1 c) := by
  simp only [T71, Eval.Tr.sat, Eval.BE.den, Eval.IE.den, Eval.CO.den, List.getD_cons_zero, List.getD_cons_succ, if_true, if_false, reduceIte, envI, numB, withinB]
  repeat' split
  all_goals first | (simp_all; done) | (simp_all; omega)
def ir_number.f (a0_0 : Int) (a0_1 : Int) (a0_2 : Int) (a0_3 : Int) (a0_4 : Int) (a0_5 : Int) (a0_6 : Int) (a0_7 : Int) (a1_0 : Int) (l1_1 : List Int) (l1_2 : List (S36)) (a2 : Int) : Option Bool := some (numB a0_0 a0_5 l1_1.length a2)
set_option maxRecDepth 100000 in
set_option maxHeartbeats 4000000 in
theorem ir_number.calls (a0_0 : Int) (a0_1 : Int) (a0_2 : Int) (a0_3 : Int) (a0_4 : Int) (a0_5 : Int) (a0_6 : Int) (a0_7 : Int) (a1_0 : Int) (A1_1 : Option Addr) (c1_1 : Nat) (l1_1 : List Int) (A1_2 : Option Addr) (c1_2 : Nat) (l1_2 : List (S36)) (a2 : Int) (r : Bool) (w : World) (hr1_1 : Kd.C (Kd.int .i64) w A1_1 l1_1.length l1_1) (hc1_1 : l1_1.length ≤ c1_1) (hr1_2 : Kd.C k36 w A1_2 l1_2.length l1_2) (hc1_2 : l1_2.length ≤ c1_2) (hG : OpsLaid w) (h : ir_number.f a0_0 a0_1 a0_2 a0_3 a0_4 a0_5 a0_6 a0_7 a1_0 l1_1 l1_2 a2 = some r) :
    Calls Tryd.prog 71 #[.agg #[.int .i64 a0_0, .int .i64 a0_1, .int .i64 a0_2, .int .i64 a0_3, .int .i64 a0_4, .int .i64 a0_5, .int .i64 a0_6, .int .i64 a0_7], .agg #[.int .i64 a1_0, .slice A1_1 l1_1.length c1_1, .slice A1_2 l1_2.length c1_2], .int .i64 a2] w fun e w' => e = .returned (.bool r) ∧ Below w.heap.size w w' := by
  injection h with h
  subst h
  have hS : Eval.Tab.Sums Tryd.prog (envI a0_0 a0_1 a0_2 a0_3 a0_4 a0_5 a0_6 a0_7 a1_0 a2 (A1_1, l1_1.length, c1_1) (A1_2, l1_2.length, c1_2) w.heap.size) (fun W => Below w.heap.size w W) { tabS with sum := sumJ } := by
    intro f vs v hv W hW
    simp only [sumJ] at hv
    split at hv
    · injection hv with hv
      subst hv
      exact ⟨enters_ Tryd.func68 (by kernel_rfl) (by kernel_rfl) _ W, ir_has.calls _ _ _ _ _ _ _ _ _ _ W (hG.below (Nat.le_refl _) hW) rfl⟩
    · injection hv with hv
      subst hv
      exact ⟨enters_ Tryd.func69 (by kernel_rfl) (by kernel_rfl) _ W, (ir_within.calls _ _ _ _ W (within_some _ _ _)).mono fun e w' h => ⟨h.1, h.2.below⟩⟩
    · cases hv
  exact Eval.fn_tree (ρ := envI a0_0 a0_1 a0_2 a0_3 a0_4 a0_5 a0_6 a0_7 a1_0 a2 (A1_1, l1_1.length, c1_1) (A1_2, l1_2.length, c1_2) w.heap.size) (M := { tabS with sum := sumJ }) (G := fun W => Below w.heap.size w W) (ps := [.agg insC, .agg thrC, .i (.v 9)]) (T := T71) wide_on Tryd.func71 (by kernel_rfl) ⟨tabS_static.fields, tabS_static.one, tabS_static.many, tabS_static.lens, tabS_static.bools, tabS_static.boxes⟩ rfl hS (fun W hW => hW) (ir_number.is a0_0 a0_1 a0_2 a0_3 a0_4 a0_5 a0_6 a0_7 a1_0 a2 _ _ _)
theorem ir_order.is (a0_0 : Int) (a0_1 : Int) (a0_2 : Int) (a0_3 : Int) (a0_4 : Int) (a0_5 : Int) (a0_6 : Int) (a0_7 : Int) (v c : Int) (s1 s2 : Option Addr × Nat × Nat) (b : Nat) : T72.sat (envI a0_0 a0_1 a0_2 a0_3 a0_4 a0_5 a0_6 a0_7 v c s1 s2 b) (fun _ r _ => r = ordB a0_0 a0_6) := by
  simp only [T72, Eval.Tr.sat, Eval.BE.den, Eval.IE.den, Eval.CO.den, List.getD_cons_zero, List.getD_cons_succ, if_true, if_false, reduceIte, envI, ordB, withinB]
  repeat' split
  all_goals first | (simp_all; done) | (simp_all; omega)
def ir_order.f (a0_0 : Int) (a0_1 : Int) (a0_2 : Int) (a0_3 : Int) (a0_4 : Int) (a0_5 : Int) (a0_6 : Int) (a0_7 : Int) : Option Bool := some (ordB a0_0 a0_6)
set_option maxRecDepth 100000 in
set_option maxHeartbeats 4000000 in
theorem ir_order.calls (a0_0 : Int) (a0_1 : Int) (a0_2 : Int) (a0_3 : Int) (a0_4 : Int) (a0_5 : Int) (a0_6 : Int) (a0_7 : Int) (r : Bool) (w : World) (hG : OpsLaid w) (h : ir_order.f a0_0 a0_1 a0_2 a0_3 a0_4 a0_5 a0_6 a0_7 = some r) :
    Calls Tryd.prog 72 #[.agg #[.int .i64 a0_0, .int .i64 a0_1, .int .i64 a0_2, .int .i64 a0_3, .int .i64 a0_4, .int .i64 a0_5, .int .i64 a0_6, .int .i64 a0_7]] w fun e w' => e = .returned (.bool r) ∧ Below w.heap.size w w' := by
  injection h with h
  subst h
  have hS : Eval.Tab.Sums Tryd.prog (envI a0_0 a0_1 a0_2 a0_3 a0_4 a0_5 a0_6 a0_7 0 0 (none, 0, 0) (none, 0, 0) w.heap.size) (fun W => Below w.heap.size w W) { tabS with sum := sumJ } := by
    intro f vs v hv W hW
    simp only [sumJ] at hv
    split at hv
    · injection hv with hv
      subst hv
      exact ⟨enters_ Tryd.func68 (by kernel_rfl) (by kernel_rfl) _ W, ir_has.calls _ _ _ _ _ _ _ _ _ _ W (hG.below (Nat.le_refl _) hW) rfl⟩
    · injection hv with hv
      subst hv
      exact ⟨enters_ Tryd.func69 (by kernel_rfl) (by kernel_rfl) _ W, (ir_within.calls _ _ _ _ W (within_some _ _ _)).mono fun e w' h => ⟨h.1, h.2.below⟩⟩
    · cases hv
  exact Eval.fn_tree (ρ := envI a0_0 a0_1 a0_2 a0_3 a0_4 a0_5 a0_6 a0_7 0 0 (none, 0, 0) (none, 0, 0) w.heap.size) (M := { tabS with sum := sumJ }) (G := fun W => Below w.heap.size w W) (ps := [.agg insC]) (T := T72) wide_on Tryd.func72 (by kernel_rfl) ⟨tabS_static.fields, tabS_static.one, tabS_static.many, tabS_static.lens, tabS_static.bools, tabS_static.boxes⟩ rfl hS (fun W hW => hW) (ir_order.is a0_0 a0_1 a0_2 a0_3 a0_4 a0_5 a0_6 a0_7 0 0 _ _ _)
def ir_right.f (a0_0 : Int) (a0_1 : Int) (a0_2 : Int) (a0_3 : Int) (a0_4 : Int) (a0_5 : Int) (a0_6 : Int) (a0_7 : Int) (a1_0 : Int) (l1_1 : List Int) (l1_2 : List (S36)) (a2 : Int) : Option Bool := some (insB a0_0 a0_1 a0_2 a0_3 a0_4 a0_5 a0_6 a0_7 a1_0 a2 l1_1.length l1_2.length)
set_option maxRecDepth 100000 in
set_option maxHeartbeats 4000000 in
theorem ir_right.calls (a0_0 : Int) (a0_1 : Int) (a0_2 : Int) (a0_3 : Int) (a0_4 : Int) (a0_5 : Int) (a0_6 : Int) (a0_7 : Int) (a1_0 : Int) (A1_1 : Option Addr) (c1_1 : Nat) (l1_1 : List Int) (A1_2 : Option Addr) (c1_2 : Nat) (l1_2 : List (S36)) (a2 : Int) (r : Bool) (w : World) (hr1_1 : Kd.C (Kd.int .i64) w A1_1 l1_1.length l1_1) (hc1_1 : l1_1.length ≤ c1_1) (hr1_2 : Kd.C k36 w A1_2 l1_2.length l1_2) (hc1_2 : l1_2.length ≤ c1_2) (hG : OpsLaid w) (h : ir_right.f a0_0 a0_1 a0_2 a0_3 a0_4 a0_5 a0_6 a0_7 a1_0 l1_1 l1_2 a2 = some r) :
    Calls Tryd.prog 60 #[.agg #[.int .i64 a0_0, .int .i64 a0_1, .int .i64 a0_2, .int .i64 a0_3, .int .i64 a0_4, .int .i64 a0_5, .int .i64 a0_6, .int .i64 a0_7], .agg #[.int .i64 a1_0, .slice A1_1 l1_1.length c1_1, .slice A1_2 l1_2.length c1_2], .int .i64 a2] w fun e w' => e = .returned (.bool r) ∧ Below w.heap.size w w' := by
  injection h with h
  subst h
  have hS : Eval.Tab.Sums Tryd.prog (envI a0_0 a0_1 a0_2 a0_3 a0_4 a0_5 a0_6 a0_7 a1_0 a2 (A1_1, l1_1.length, c1_1) (A1_2, l1_2.length, c1_2) w.heap.size) (fun W => Below w.heap.size w W) { tabS with sum := sumI } := by
    intro f vs v hv W hW
    simp only [sumI] at hv
    split at hv
    · injection hv with hv
      subst hv
      exact ⟨enters_ Tryd.func68 (by kernel_rfl) (by kernel_rfl) _ W, ir_has.calls _ _ _ _ _ _ _ _ _ _ W (hG.below (Nat.le_refl _) hW) rfl⟩
    · injection hv with hv
      subst hv
      exact ⟨enters_ Tryd.func69 (by kernel_rfl) (by kernel_rfl) _ W, (ir_within.calls _ _ _ _ W (within_some _ _ _)).mono fun e w' h => ⟨h.1, h.2.below⟩⟩
    · injection hv with hv
      subst hv
      exact ⟨enters_ Tryd.func70 (by kernel_rfl) (by kernel_rfl) _ W, (ir_fields.calls _ _ W (hG.below (Nat.le_refl _) hW) rfl).mono fun e w' h => ⟨h.1, h.2.below⟩⟩
    · injection hv with hv
      subst hv
      exact ⟨enters_ Tryd.func71 (by kernel_rfl) (by kernel_rfl) _ W, (ir_number.calls _ _ _ _ _ _ _ _ _ _ _ l1_1 _ _ l1_2 _ _ W (Kd.C_below hr1_1 hW) hc1_1 (Kd.C_below hr1_2 hW) hc1_2 (hG.below (Nat.le_refl _) hW) rfl).mono fun e w' h => ⟨h.1.trans (by simp [Eval.SV.den, Eval.BE.den, Eval.IE.den, envI]), h.2⟩⟩
    · injection hv with hv
      subst hv
      exact ⟨enters_ Tryd.func72 (by kernel_rfl) (by kernel_rfl) _ W, (ir_order.calls _ _ _ _ _ _ _ _ _ W (hG.below (Nat.le_refl _) hW) rfl).mono fun e w' h => ⟨h.1.trans (by simp [Eval.SV.den, Eval.BE.den, Eval.IE.den, envI]), h.2⟩⟩
    · cases hv
  exact Eval.fn_tree (ρ := envI a0_0 a0_1 a0_2 a0_3 a0_4 a0_5 a0_6 a0_7 a1_0 a2 (A1_1, l1_1.length, c1_1) (A1_2, l1_2.length, c1_2) w.heap.size) (M := { tabS with sum := sumI }) (G := fun W => Below w.heap.size w W) (ps := [.agg insC, .agg thrC, .i (.v 9)]) (T := T60) wide_on Tryd.func60 (by kernel_rfl) ⟨tabS_static.fields, tabS_static.one, tabS_static.many, tabS_static.lens, tabS_static.bools, tabS_static.boxes⟩ rfl hS (fun W hW => hW) (insB_sat a0_0 a0_1 a0_2 a0_3 a0_4 a0_5 a0_6 a0_7 a1_0 a2 _ _ _ _ _ _ _)


end Go.Proofs.YtgenmfbidpmneaaDoor.PFlowLoops
