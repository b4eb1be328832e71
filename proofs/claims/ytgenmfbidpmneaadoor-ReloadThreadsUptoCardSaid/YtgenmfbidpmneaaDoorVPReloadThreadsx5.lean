-- printed by a program of this session (wip/mp.py: the kit's printer, patched, over the session's own templates); checked by Lean alone
import Derived.Test.YtgenmfbidpmneaaDoorVPReloadThreadsx0
import Derived.Test.YtgenmfbidpmneaaDoorVPReloadThreadsx1
import Derived.Test.YtgenmfbidpmneaaDoorVPReloadThreadsx2
import Derived.Test.YtgenmfbidpmneaaDoorVPReloadThreadsx3
namespace Go.Proofs.YtgenmfbidpmneaaDoor.PReloadThreads
open Go.RowKit Go.Proofs.YtgenmfbidpmneaaDoorW.PrintWords Go.Proofs.YtgenmfbidpmneaaDoorW.PrintLast Go.Proofs.YtgenmfbidpmneaaDoorW.PrintMore
attribute [local go_sem] max2_int min2_int max_two min_two max_three min_three max_four min_four   -- for this text's walks alone
set_option linter.unusedVariables false
set_option linter.unusedSimpArgs false

attribute [local go_sem high] eqA34 eqA38
/-! ### spinnakerref01_Ints: function 16 -/
def spinnakerref01_Ints.l0 : Nat → List Int → List Int → Int → Option (Bool)
  | 0, _, _, _ => none
  | k + 1, x0, x1, x5 => if x5 < (x0.length : Int) then (if 0 ≤ x5 then (if x5 < (x1.length : Int) then (if (rd x0 x5) = (rd x1 x5) then (spinnakerref01_Ints.l0 k x0 x1 (wrap64 (x5 + 1))) else (some false)) else (none)) else (none)) else (some true)
def spinnakerref01_Ints.f (k : Nat) (l0 : List Int) (l1 : List Int) : Option (Bool) := if (l0.length : Int) = (l1.length : Int) then (spinnakerref01_Ints.l0 k l0 l1 0) else (some false)
theorem spinnakerref01_Ints.mono_l : ∀ k, (∀ y0 y1 y2, LeO (spinnakerref01_Ints.l0 k y0 y1 y2) (spinnakerref01_Ints.l0 (k + 1) y0 y1 y2))
  | 0 => fun _ _ _ r h => by simp [spinnakerref01_Ints.l0] at h
  | k + 1 => by
    have ih0 := spinnakerref01_Ints.mono_l k
    · intro y0 y1 y2
      unfold spinnakerref01_Ints.l0
      repeat' first
      | (with_reducible exact ih0 _ _ _)
      | (with_reducible exact LeO.refl _)
      | (with_reducible exact LeO.none _)
      | (with_reducible refine LeO.ite ?_ ?_)
      | (with_reducible refine LeO.bind ?_ (fun _ => ?_))
      | exact ih0 _ _ _
      | exact LeO.none _
      | refine LeO.ite ?_ ?_
      | refine LeO.bind ?_ (fun _ => ?_)
theorem spinnakerref01_Ints.mono : ∀ a0 a1 k, LeO (spinnakerref01_Ints.f k a0 a1) (spinnakerref01_Ints.f (k + 1) a0 a1) := by
  intro a0 a1 k
  have ih0 := spinnakerref01_Ints.mono_l k
  unfold spinnakerref01_Ints.f
  repeat' first
      | (with_reducible exact ih0 _ _ _)
      | (with_reducible exact LeO.refl _)
      | (with_reducible exact LeO.none _)
      | (with_reducible refine LeO.ite ?_ ?_)
      | (with_reducible refine LeO.bind ?_ (fun _ => ?_))
      | exact ih0 _ _ _
      | exact LeO.none _
      | refine LeO.ite ?_ ?_
      | refine LeO.bind ?_ (fun _ => ?_)
set_option maxHeartbeats 8000000 in
set_option maxRecDepth 100000 in
theorem spinnakerref01_Ints.calls (k : Nat) (A0 : Option Addr) (c0 : Nat) (l0 : List Int) (A1 : Option Addr) (c1 : Nat) (l1 : List Int) (r : Bool) (w : World) (hr0 : Kd.C (Kd.int .i64) w A0 l0.length l0) (hc0 : l0.length ≤ c0) (hr1 : Kd.C (Kd.int .i64) w A1 l1.length l1) (hc1 : l1.length ≤ c1) (h : spinnakerref01_Ints.f k l0 l1 = some r) :
    Calls Tryd.prog 16 #[.slice A0 l0.length c0, .slice A1 l1.length c1] w fun e w' => e = .returned (.bool r) ∧ Drawn0 w w' := by
  have HR0 := Aside0.mk hr0
  have HC0 := Aside0.mk hc0
  clear hr0 hc0
  have HR1 := Aside0.mk hr1
  have HC1 := Aside0.mk hc1
  clear hr1 hc1
  have H : (if (l0.length : Int) = (l1.length : Int) then (spinnakerref01_Ints.l0 k l0 l1 0) else (some false)) = some r := h
  clear h
  by_cases c3 : (l0.length : Int) = (l1.length : Int)
  · rw [if_pos c3] at H
    have c3b0 : ((l0.length : Int) == (l1.length : Int)) = true := beq_iff_eq.mpr c3
    have c3b1 : ((l0.length : Int) != (l1.length : Int)) = false := bne_eq_false_iff_eq.mpr c3
    have c3b2 : (l0.length == l1.length) = true := by first | simpa using c3 | (simp at c3 ⊢; omega)
    clear c3
    have H' := Aside0.mk H
    clear H
    go_enter Tryd.func16, Tryd.ntmps16
    go_wp2
    repeat (go_quiet (fail); try go_wp2)
    go_loopg [5] k (fun kq v5 w' => ∃ (x5_1 : Int), v5 = .int .i64 x5_1 ∧ Aside0 (spinnakerref01_Ints.l0 kq l0 l1 x5_1 = some r) ∧ Aside0 (kq ≤ k) ∧ Drawn0 w w')
    case atStart => exact ⟨(0), (by first | rfl | (simp; done) | (simp [*]; done)), H', ⟨Nat.le_refl _⟩, by repeat (first | exact Drawn0.refl _ | apply Drawn0.step)⟩
    case round =>
      clear H'
      try clear c3
      try clear c3b0
      try clear c3b1
      try clear c3b2
      obtain ⟨x5_1, rfl, HA, HK1, ⟨m1, rfl⟩⟩ := hrel
      cases gk with
      | zero => exact absurd HA.out (by simp [spinnakerref01_Ints.l0])
      | succ k1 =>
        have H := HA.out
        clear HA
        simp only [spinnakerref01_Ints.l0] at H
        by_cases c4 : x5_1 < (l0.length : Int)
        · rw [if_pos c4] at H
          have c4b0 : decide (x5_1 < (l0.length : Int)) = true := decide_eq_true c4
          clear c4
          by_cases c5 : 0 ≤ x5_1
          · rw [if_pos c5] at H
            have c5b0 : decide (0 ≤ x5_1) = true := decide_eq_true c5
            clear c5
            by_cases c6 : x5_1 < (l1.length : Int)
            · rw [if_pos c6] at H
              have c6b0 : decide (x5_1 < (l1.length : Int)) = true := decide_eq_true c6
              clear c6
              by_cases c7 : (rd l0 x5_1) = (rd l1 x5_1)
              · rw [if_pos c7] at H
                have c7b0 : ((rd l0 x5_1) == (rd l1 x5_1)) = true := beq_iff_eq.mpr c7
                have c7b1 : ((rd l0 x5_1) != (rd l1 x5_1)) = false := bne_eq_false_iff_eq.mpr c7
                clear c7
                have H' := Aside0.mk H
                clear H
                have p115 : 0 ≤ (x5_1 : Int) := of_decide_eq_true (by first | (with_reducible assumption) | assumption)
                have q115 : x5_1 < (l0.length : Int) := of_decide_eq_true (by first | (with_reducible assumption) | assumption)
                obtain ⟨ad115, e115, hx115_0⟩ := Kd.at_int HR0.out x5_1 p115 q115
                cases e115
                replace p115 := eq_true p115
                replace q115 := eq_true q115
                have p116 : 0 ≤ (x5_1 : Int) := of_decide_eq_true (by first | (with_reducible assumption) | assumption)
                have q116 : x5_1 < (l1.length : Int) := of_decide_eq_true (by first | (with_reducible assumption) | assumption)
                obtain ⟨ad116, e116, hx116_0⟩ := Kd.at_int HR1.out x5_1 p116 q116
                cases e116
                replace p116 := eq_true p116
                replace q116 := eq_true q116
                go_wp2
                repeat (go_quiet (fail); try go_wp2)
                go_roundg k1
                case measure => have := HK1.out; omega
                case rel => exact ⟨(wrap64 (x5_1 + 1)), (by first | rfl | (simp; done) | (simp [*]; done)), H', ⟨by have := HK1.out; omega⟩, by repeat (first | exact Drawn0.refl _ | apply Drawn0.step)⟩
              · rw [if_neg c7] at H
                have c7b0 : ((rd l0 x5_1) == (rd l1 x5_1)) = false := beq_eq_false_iff_ne.mpr c7
                have c7b1 : ((rd l0 x5_1) != (rd l1 x5_1)) = true := bne_iff_ne.mpr c7
                obtain rfl := Option.some.inj H
                have p115 : 0 ≤ (x5_1 : Int) := of_decide_eq_true (by first | (with_reducible assumption) | assumption)
                have q115 : x5_1 < (l0.length : Int) := of_decide_eq_true (by first | (with_reducible assumption) | assumption)
                obtain ⟨ad115, e115, hx115_0⟩ := Kd.at_int HR0.out x5_1 p115 q115
                cases e115
                replace p115 := eq_true p115
                replace q115 := eq_true q115
                have p116 : 0 ≤ (x5_1 : Int) := of_decide_eq_true (by first | (with_reducible assumption) | assumption)
                have q116 : x5_1 < (l1.length : Int) := of_decide_eq_true (by first | (with_reducible assumption) | assumption)
                obtain ⟨ad116, e116, hx116_0⟩ := Kd.at_int HR1.out x5_1 p116 q116
                cases e116
                replace p116 := eq_true p116
                replace q116 := eq_true q116
                go_wp2
                repeat (go_quiet (fail); try go_wp2)
                go_ret
                exact ⟨by first | rfl | (simp; done) | (simp [*]; done), by repeat (first | exact Drawn0.refl _ | apply Drawn0.step)⟩
            · rw [if_neg c6] at H
              exact absurd H (by simp)
          · rw [if_neg c5] at H
            exact absurd H (by simp)
        · rw [if_neg c4] at H
          have c4b0 : decide (x5_1 < (l0.length : Int)) = false := decide_eq_false c4
          clear c4
          obtain rfl := Option.some.inj H
          go_wp2
          repeat (go_quiet (fail); try go_wp2)
          go_ret
          exact ⟨by first | rfl | (simp; done) | (simp [*]; done), by repeat (first | exact Drawn0.refl _ | apply Drawn0.step)⟩
  · rw [if_neg c3] at H
    have c3b0 : ((l0.length : Int) == (l1.length : Int)) = false := beq_eq_false_iff_ne.mpr c3
    have c3b1 : ((l0.length : Int) != (l1.length : Int)) = true := bne_iff_ne.mpr c3
    have c3b2 : (l0.length == l1.length) = false := by first | simpa using c3 | (simp at c3 ⊢; omega)
    obtain rfl := Option.some.inj H
    go_enter Tryd.func16, Tryd.ntmps16
    go_wp2
    repeat (go_quiet (fail); try go_wp2)
    go_ret
    exact ⟨by first | rfl | (simp; done) | (simp [*]; done), by repeat (first | exact Drawn0.refl _ | apply Drawn0.step)⟩

/-! ### spinnakerref26_SameThread: function 11 -/
mutual
def spinnakerref26_SameThread.j0 : Nat → Bool → Int → List Int → List (S36) → Int → List Int → List (S36) → Option (Bool)
  | 0, _, _, _, _, _, _, _ => none
  | k + 1, x28, x118000, x118001, x118002, x119000, x119001, x119002 => if x28 = true then (some false) else (spinnakerref26_SameThread.l0 k 0 x118000 x118001 x118002 x119000 x119001 x119002)
def spinnakerref26_SameThread.l0 : Nat → Int → Int → List Int → List (S36) → Int → List Int → List (S36) → Option (Bool)
  | 0, _, _, _, _, _, _, _ => none
  | k + 1, x5, x118000, x118001, x118002, x119000, x119001, x119002 => if x5 < (x118002.length : Int) then (if 0 ≤ x5 then (if x5 < (x119002.length : Int) then (if (!(((rd_T36 x118002 x5).f1.f0) == ((rd_T36 x119002 x5).f1.f0)) || (!(((rd_T36 x118002 x5).f1.f1) == ((rd_T36 x119002 x5).f1.f1)) || (!(((rd_T36 x118002 x5).f1.f2) == ((rd_T36 x119002 x5).f1.f2)) || (!(((rd_T36 x118002 x5).f1.f3) == ((rd_T36 x119002 x5).f1.f3)))))) = true then (spinnakerref26_SameThread.j2 k x5 true x118000 x118001 x118002 x119000 x119001 x119002) else (spinnakerref26_SameThread.j2 k x5 ((((rd_T36 x118002 x5).f0).length : Int) != (((rd_T36 x119002 x5).f0).length : Int)) x118000 x118001 x118002 x119000 x119001 x119002)) else (none)) else (none)) else (some true)
def spinnakerref26_SameThread.j2 : Nat → Int → Bool → Int → List Int → List (S36) → Int → List Int → List (S36) → Option (Bool)
  | 0, _, _, _, _, _, _, _, _ => none
  | k + 1, x5, x65, x118000, x118001, x118002, x119000, x119001, x119002 => if x65 = true then (some false) else (spinnakerref26_SameThread.l1 k x5 0 x118000 x118001 x118002 x119000 x119001 x119002)
def spinnakerref26_SameThread.l1 : Nat → Int → Int → Int → List Int → List (S36) → Int → List Int → List (S36) → Option (Bool)
  | 0, _, _, _, _, _, _, _, _ => none
  | k + 1, x5, x6, x118000, x118001, x118002, x119000, x119001, x119002 => if 0 ≤ x5 then (if x5 < (x118002.length : Int) then (if x6 < (((rd_T36 x118002 x5).f0).length : Int) then (if 0 ≤ x6 then (if x5 < (x119002.length : Int) then (if x6 < (((rd_T36 x119002 x5).f0).length : Int) then (if (!(((rd_T38 ((rd_T36 x118002 x5).f0) x6).f0) == ((rd_T38 ((rd_T36 x119002 x5).f0) x6).f0)) || (!(((rd_T38 ((rd_T36 x118002 x5).f0) x6).f1) == ((rd_T38 ((rd_T36 x119002 x5).f0) x6).f1)) || (!(((rd_T38 ((rd_T36 x118002 x5).f0) x6).f2) == ((rd_T38 ((rd_T36 x119002 x5).f0) x6).f2)) || (!(((rd_T38 ((rd_T36 x118002 x5).f0) x6).f3) == ((rd_T38 ((rd_T36 x119002 x5).f0) x6).f3)) || (!(((rd_T38 ((rd_T36 x118002 x5).f0) x6).f4) == ((rd_T38 ((rd_T36 x119002 x5).f0) x6).f4)) || (!(((rd_T38 ((rd_T36 x118002 x5).f0) x6).f5) == ((rd_T38 ((rd_T36 x119002 x5).f0) x6).f5)) || (!(((rd_T38 ((rd_T36 x118002 x5).f0) x6).f6) == ((rd_T38 ((rd_T36 x119002 x5).f0) x6).f6)) || (!(((rd_T38 ((rd_T36 x118002 x5).f0) x6).f7) == ((rd_T38 ((rd_T36 x119002 x5).f0) x6).f7)))))))))) = true then (some false) else (spinnakerref26_SameThread.l1 k x5 (wrap64 (x6 + 1)) x118000 x118001 x118002 x119000 x119001 x119002)) else (none)) else (none)) else (none)) else (spinnakerref26_SameThread.l0 k (wrap64 (x5 + 1)) x118000 x118001 x118002 x119000 x119001 x119002)) else (none)) else (none)
end
def spinnakerref26_SameThread.f (k : Nat) (a0_0 : Int) (l0_1 : List Int) (l0_2 : List (S36)) (a1_0 : Int) (l1_1 : List Int) (l1_2 : List (S36)) : Option (Bool) := if a0_0 = a1_0 then ((spinnakerref01_Ints.f k l0_1 l1_1).bind fun t119 => (if t119 = true then (spinnakerref26_SameThread.j0 k ((l0_2.length : Int) != (l1_2.length : Int)) a0_0 l0_1 l0_2 a1_0 l1_1 l1_2) else (spinnakerref26_SameThread.j0 k true a0_0 l0_1 l0_2 a1_0 l1_1 l1_2))) else (spinnakerref26_SameThread.j0 k true a0_0 l0_1 l0_2 a1_0 l1_1 l1_2)
theorem spinnakerref26_SameThread.mono_l : ∀ k, (∀ y0 y1 y2 y3 y4 y5 y6, LeO (spinnakerref26_SameThread.j0 k y0 y1 y2 y3 y4 y5 y6) (spinnakerref26_SameThread.j0 (k + 1) y0 y1 y2 y3 y4 y5 y6)) ∧ (∀ y0 y1 y2 y3 y4 y5 y6, LeO (spinnakerref26_SameThread.l0 k y0 y1 y2 y3 y4 y5 y6) (spinnakerref26_SameThread.l0 (k + 1) y0 y1 y2 y3 y4 y5 y6)) ∧ (∀ y0 y1 y2 y3 y4 y5 y6 y7, LeO (spinnakerref26_SameThread.j2 k y0 y1 y2 y3 y4 y5 y6 y7) (spinnakerref26_SameThread.j2 (k + 1) y0 y1 y2 y3 y4 y5 y6 y7)) ∧ (∀ y0 y1 y2 y3 y4 y5 y6 y7, LeO (spinnakerref26_SameThread.l1 k y0 y1 y2 y3 y4 y5 y6 y7) (spinnakerref26_SameThread.l1 (k + 1) y0 y1 y2 y3 y4 y5 y6 y7))
  | 0 => ⟨fun _ _ _ _ _ _ _ r h => by simp [spinnakerref26_SameThread.j0] at h, fun _ _ _ _ _ _ _ r h => by simp [spinnakerref26_SameThread.l0] at h, fun _ _ _ _ _ _ _ _ r h => by simp [spinnakerref26_SameThread.j2] at h, fun _ _ _ _ _ _ _ _ r h => by simp [spinnakerref26_SameThread.l1] at h⟩
  | k + 1 => by
    obtain ⟨ih0, ih1, ih2, ih3⟩ := spinnakerref26_SameThread.mono_l k; refine ⟨?_, ?_, ?_, ?_⟩
    · intro y0 y1 y2 y3 y4 y5 y6
      unfold spinnakerref26_SameThread.j0
      repeat' first
 | (with_reducible exact ih0 _ _ _ _ _ _ _)
 | (with_reducible exact ih1 _ _ _ _ _ _ _)
 | (with_reducible exact ih2 _ _ _ _ _ _ _ _)
 | (with_reducible exact ih3 _ _ _ _ _ _ _ _)
 | (with_reducible exact spinnakerref01_Ints.mono _ _ _)
 | (with_reducible exact LeO.refl _)
 | (with_reducible exact LeO.none _)
 | (with_reducible refine LeO.ite ?_ ?_)
 | (with_reducible refine LeO.bind ?_ (fun _ => ?_))
    · intro y0 y1 y2 y3 y4 y5 y6
      unfold spinnakerref26_SameThread.l0
      repeat' first
 | (with_reducible exact ih0 _ _ _ _ _ _ _)
 | (with_reducible exact ih1 _ _ _ _ _ _ _)
 | (with_reducible exact ih2 _ _ _ _ _ _ _ _)
 | (with_reducible exact ih3 _ _ _ _ _ _ _ _)
 | (with_reducible exact spinnakerref01_Ints.mono _ _ _)
 | (with_reducible exact LeO.refl _)
 | (with_reducible exact LeO.none _)
 | (with_reducible refine LeO.ite ?_ ?_)
 | (with_reducible refine LeO.bind ?_ (fun _ => ?_))
    · intro y0 y1 y2 y3 y4 y5 y6 y7
      unfold spinnakerref26_SameThread.j2
      repeat' first
 | (with_reducible exact ih0 _ _ _ _ _ _ _)
 | (with_reducible exact ih1 _ _ _ _ _ _ _)
 | (with_reducible exact ih2 _ _ _ _ _ _ _ _)
 | (with_reducible exact ih3 _ _ _ _ _ _ _ _)
 | (with_reducible exact spinnakerref01_Ints.mono _ _ _)
 | (with_reducible exact LeO.refl _)
 | (with_reducible exact LeO.none _)
 | (with_reducible refine LeO.ite ?_ ?_)
 | (with_reducible refine LeO.bind ?_ (fun _ => ?_))
    · intro y0 y1 y2 y3 y4 y5 y6 y7
      unfold spinnakerref26_SameThread.l1
      repeat' first
 | (with_reducible exact ih0 _ _ _ _ _ _ _)
 | (with_reducible exact ih1 _ _ _ _ _ _ _)
 | (with_reducible exact ih2 _ _ _ _ _ _ _ _)
 | (with_reducible exact ih3 _ _ _ _ _ _ _ _)
 | (with_reducible exact spinnakerref01_Ints.mono _ _ _)
 | (with_reducible exact LeO.refl _)
 | (with_reducible exact LeO.none _)
 | (with_reducible refine LeO.ite ?_ ?_)
 | (with_reducible refine LeO.bind ?_ (fun _ => ?_))
theorem spinnakerref26_SameThread.mono : ∀ a0 a1 a2 a3 a4 a5 k, LeO (spinnakerref26_SameThread.f k a0 a1 a2 a3 a4 a5) (spinnakerref26_SameThread.f (k + 1) a0 a1 a2 a3 a4 a5) := by
  intro a0 a1 a2 a3 a4 a5 k; obtain ⟨ih0, ih1, ih2, ih3⟩ := spinnakerref26_SameThread.mono_l k; unfold spinnakerref26_SameThread.f
  repeat' first
 | (with_reducible exact ih0 _ _ _ _ _ _ _)
 | (with_reducible exact ih1 _ _ _ _ _ _ _)
 | (with_reducible exact ih2 _ _ _ _ _ _ _ _)
 | (with_reducible exact ih3 _ _ _ _ _ _ _ _)
 | (with_reducible exact spinnakerref01_Ints.mono _ _ _)
 | (with_reducible exact LeO.refl _)
 | (with_reducible exact LeO.none _)
 | (with_reducible refine LeO.ite ?_ ?_)
 | (with_reducible refine LeO.bind ?_ (fun _ => ?_))
theorem z11_0 {p : Prop} (h : p := by first | (with_reducible assumption) | assumption) : p := h
theorem z11_1 {p : Prop} (h : p := by repeat (first | (with_reducible first | exact HB.out | apply below_alloc | apply pw_below_drewN | apply below_drew1 | refine below_set ?_ GE117.out) | exact HB.out)) : p := h
theorem z11_2 {p : Prop} (h : p := by repeat (first | (with_reducible first | exact HB.out | apply below_alloc | apply pw_below_drewN | apply below_drew1) | exact HB.out)) : p := h
theorem z11_3 {p : Prop} (h : p := by (with_reducible repeat (first | refine blk_drewN ?_ _ | refine blk_drew ?_ | refine blk_alloc ?_ _)); exact BK117.out) : p := h
theorem z11_4 {p : Prop} (h : p := by first | rfl | (simp; done) | (simp [*]; done)) : p := h
set_option maxHeartbeats 8000000 in
set_option maxRecDepth 100000 in
theorem spinnakerref26_SameThread.calls (k : Nat) (a0_0 : Int) (A0_1 : Option Addr) (c0_1 : Nat) (l0_1 : List Int) (A0_2 : Option Addr) (c0_2 : Nat) (l0_2 : List (S36)) (a1_0 : Int) (A1_1 : Option Addr) (c1_1 : Nat) (l1_1 : List Int) (A1_2 : Option Addr) (c1_2 : Nat) (l1_2 : List (S36)) (r : Bool) (w : World) (hr0_1 : Kd.C (Kd.int .i64) w A0_1 l0_1.length l0_1) (hc0_1 : l0_1.length ≤ c0_1) (hr0_2 : Kd.C k36 w A0_2 l0_2.length l0_2) (hc0_2 : l0_2.length ≤ c0_2) (hr1_1 : Kd.C (Kd.int .i64) w A1_1 l1_1.length l1_1) (hc1_1 : l1_1.length ≤ c1_1) (hr1_2 : Kd.C k36 w A1_2 l1_2.length l1_2) (hc1_2 : l1_2.length ≤ c1_2) (h : spinnakerref26_SameThread.f k a0_0 l0_1 l0_2 a1_0 l1_1 l1_2 = some r) :
  Calls Tryd.prog 11 #[.agg #[.int .i64 a0_0, .slice A0_1 l0_1.length c0_1, .slice A0_2 l0_2.length c0_2], .agg #[.int .i64 a1_0, .slice A1_1 l1_1.length c1_1, .slice A1_2 l1_2.length c1_2]] w fun e w' => e = .returned (.bool r) ∧ Below w.heap.size w w' := by
 have hu25 := Tryd.underlying25; have hu34 := Tryd.underlying34; have hu38 := Tryd.underlying38; have HR0_1 := Aside0.mk hr0_1; have HC0_1 := Aside0.mk hc0_1; clear hr0_1 hc0_1; have HR0_2 := Aside0.mk hr0_2; have HC0_2 := Aside0.mk hc0_2; clear hr0_2 hc0_2; have HR1_1 := Aside0.mk hr1_1; have HC1_1 := Aside0.mk hc1_1; clear hr1_1 hc1_1; have HR1_2 := Aside0.mk hr1_2; have HC1_2 := Aside0.mk hc1_2; clear hr1_2 hc1_2; have HB := Aside0.mk (Below.refl w.heap.size w); have H : (if a0_0 = a1_0 then ((spinnakerref01_Ints.f k l0_1 l1_1).bind fun t119 => (if t119 = true then (spinnakerref26_SameThread.j0 k ((l0_2.length : Int) != (l1_2.length : Int)) a0_0 l0_1 l0_2 a1_0 l1_1 l1_2) else (spinnakerref26_SameThread.j0 k true a0_0 l0_1 l0_2 a1_0 l1_1 l1_2))) else (spinnakerref26_SameThread.j0 k true a0_0 l0_1 l0_2 a1_0 l1_1 l1_2)) = some r := h; clear h; have HC3 := Aside0.mk H; clear H
 go_enter Tryd.func11, Tryd.ntmps11
 go_upto_region 1 with (first | ((with_reducible refine gate_dst (N := 2) rfl ?_); (try (refine gate_guard (by rfl) ?_; dsimp only)); refine box_event ?hg (N := 2) ?hd (cs := #[.int .i64 a0_0, .slice A0_1 l0_1.length c0_1, .slice A0_2 l0_2.length c0_2]) (t := 25) ?hr ?_; (case hd => rfl); (case hg => rfl); (case hr => first | (go_simp; done) | (go_simp; rfl)); intro gb117 hg w4 hbox hb; have n0_ := Aside0.mk (below_step z11_2 hb); have n1_ := Aside0.mk (hbox); have n2_ := Aside0.mk ((by rw [hg]; exact (below_size z11_2) : w.heap.size ≤ gb117)); have n3_ := n2_; clear HB; revert n0_ n1_ n2_ n3_; intro HB BK117 GW117 GE117; clear hb hbox hg) | ((with_reducible refine gate_dst (N := 3) rfl ?_); (try (refine gate_guard (by rfl) ?_; dsimp only)); refine box_event ?hg (N := 3) ?hd (cs := #[.int .i64 a1_0, .slice A1_1 l1_1.length c1_1, .slice A1_2 l1_2.length c1_2]) (t := 25) ?hr ?_; (case hd => rfl); (case hg => rfl); (case hr => first | (go_simp; done) | (go_simp; rfl)); intro gb118 hg w5 hbox hb; have n0_ := Aside0.mk (blk_below (g := gb117) (o := .cells #[.int .i64 a0_0, .slice A0_1 l0_1.length c0_1, .slice A0_2 l0_2.length c0_2] 25 (0, 0)) z11_3 hb); have n1_ := Aside0.mk (below_step z11_1 hb); have n2_ := Aside0.mk (hbox); have n3_ := Aside0.mk ((by rw [hg]; exact (below_size z11_1) : w.heap.size ≤ gb118)); have n4_ := n3_; have n5_ := Aside0.mk ((by rw [hg]; exact Nat.ne_of_lt (blk_lt (g := gb117) (o := .cells #[.int .i64 a0_0, .slice A0_1 l0_1.length c0_1, .slice A0_2 l0_2.length c0_2] 25 (0, 0)) z11_3) : gb117 ≠ gb118)); have n6_ := Aside0.mk (Ne.symm n5_.out); clear BK117 HB; revert n0_ n1_ n2_ n3_ n4_ n5_ n6_; intro BK117 HB BK118 GW118 GE118 NB117_118 NB118_117; clear hb hbox hg))
 repeat (go_quiet (first | ((with_reducible refine gate_dst (N := 2) rfl ?_); (try (refine gate_guard (by rfl) ?_; dsimp only)); refine box_event ?hg (N := 2) ?hd (cs := #[.int .i64 a0_0, .slice A0_1 l0_1.length c0_1, .slice A0_2 l0_2.length c0_2]) (t := 25) ?hr ?_; (case hd => rfl); (case hg => rfl); (case hr => first | (go_simp; done) | (go_simp; rfl)); intro gb117 hg w4 hbox hb; have n0_ := Aside0.mk (below_step z11_2 hb); have n1_ := Aside0.mk (hbox); have n2_ := Aside0.mk ((by rw [hg]; exact (below_size z11_2) : w.heap.size ≤ gb117)); have n3_ := n2_; clear HB; revert n0_ n1_ n2_ n3_; intro HB BK117 GW117 GE117; clear hb hbox hg) | ((with_reducible refine gate_dst (N := 3) rfl ?_); (try (refine gate_guard (by rfl) ?_; dsimp only)); refine box_event ?hg (N := 3) ?hd (cs := #[.int .i64 a1_0, .slice A1_1 l1_1.length c1_1, .slice A1_2 l1_2.length c1_2]) (t := 25) ?hr ?_; (case hd => rfl); (case hg => rfl); (case hr => first | (go_simp; done) | (go_simp; rfl)); intro gb118 hg w5 hbox hb; have n0_ := Aside0.mk (blk_below (g := gb117) (o := .cells #[.int .i64 a0_0, .slice A0_1 l0_1.length c0_1, .slice A0_2 l0_2.length c0_2] 25 (0, 0)) z11_3 hb); have n1_ := Aside0.mk (below_step z11_1 hb); have n2_ := Aside0.mk (hbox); have n3_ := Aside0.mk ((by rw [hg]; exact (below_size z11_1) : w.heap.size ≤ gb118)); have n4_ := n3_; have n5_ := Aside0.mk ((by rw [hg]; exact Nat.ne_of_lt (blk_lt (g := gb117) (o := .cells #[.int .i64 a0_0, .slice A0_1 l0_1.length c0_1, .slice A0_2 l0_2.length c0_2] 25 (0, 0)) z11_3) : gb117 ≠ gb118)); have n6_ := Aside0.mk (Ne.symm n5_.out); clear BK117 HB; revert n0_ n1_ n2_ n3_ n4_ n5_ n6_; intro BK117 HB BK118 GW118 GE118 NB117_118 NB118_117; clear hb hbox hg)); go_upto_region 1 with (first | ((with_reducible refine gate_dst (N := 2) rfl ?_); (try (refine gate_guard (by rfl) ?_; dsimp only)); refine box_event ?hg (N := 2) ?hd (cs := #[.int .i64 a0_0, .slice A0_1 l0_1.length c0_1, .slice A0_2 l0_2.length c0_2]) (t := 25) ?hr ?_; (case hd => rfl); (case hg => rfl); (case hr => first | (go_simp; done) | (go_simp; rfl)); intro gb117 hg w4 hbox hb; have n0_ := Aside0.mk (below_step z11_2 hb); have n1_ := Aside0.mk (hbox); have n2_ := Aside0.mk ((by rw [hg]; exact (below_size z11_2) : w.heap.size ≤ gb117)); have n3_ := n2_; clear HB; revert n0_ n1_ n2_ n3_; intro HB BK117 GW117 GE117; clear hb hbox hg) | ((with_reducible refine gate_dst (N := 3) rfl ?_); (try (refine gate_guard (by rfl) ?_; dsimp only)); refine box_event ?hg (N := 3) ?hd (cs := #[.int .i64 a1_0, .slice A1_1 l1_1.length c1_1, .slice A1_2 l1_2.length c1_2]) (t := 25) ?hr ?_; (case hd => rfl); (case hg => rfl); (case hr => first | (go_simp; done) | (go_simp; rfl)); intro gb118 hg w5 hbox hb; have n0_ := Aside0.mk (blk_below (g := gb117) (o := .cells #[.int .i64 a0_0, .slice A0_1 l0_1.length c0_1, .slice A0_2 l0_2.length c0_2] 25 (0, 0)) z11_3 hb); have n1_ := Aside0.mk (below_step z11_1 hb); have n2_ := Aside0.mk (hbox); have n3_ := Aside0.mk ((by rw [hg]; exact (below_size z11_1) : w.heap.size ≤ gb118)); have n4_ := n3_; have n5_ := Aside0.mk ((by rw [hg]; exact Nat.ne_of_lt (blk_lt (g := gb117) (o := .cells #[.int .i64 a0_0, .slice A0_1 l0_1.length c0_1, .slice A0_2 l0_2.length c0_2] 25 (0, 0)) z11_3) : gb117 ≠ gb118)); have n6_ := Aside0.mk (Ne.symm n5_.out); clear BK117 HB; revert n0_ n1_ n2_ n3_ n4_ n5_ n6_; intro BK117 HB BK118 GW118 GE118 NB117_118 NB118_117; clear hb hbox hg)))
 (try simp only [Act.put, List.setIfInBounds_toArray, List.set_cons_zero, List.set_cons_succ])
 go_cut [28] (fun v28 wc => ∃ (kq : Nat) (x28_2 : Bool), v28 = .bool x28_2 ∧ Aside0 (spinnakerref26_SameThread.j0 kq x28_2 a0_0 l0_1 l0_2 a1_0 l1_1 l1_2 = some r) ∧ Aside0 (kq ≤ k) ∧ Aside0 (wc.heap[gb117]? = some (.cells #[.int .i64 a0_0, (.slice A0_1 l0_1.length c0_1), (.slice A0_2 l0_2.length c0_2)] 25 (0, 0))) ∧ Aside0 (wc.heap[gb118]? = some (.cells #[.int .i64 a1_0, (.slice A1_1 l1_1.length c1_1), (.slice A1_2 l1_2.length c1_2)] 25 (0, 0))) ∧ Aside0 (Below w.heap.size w wc))
 case first =>
  have H := HC3.out; clear HC3
  by_cases c6 : a0_0 = a1_0
  ·rw [if_pos c6] at H
   have c6b0 : (a0_0 == a1_0) = true := beq_iff_eq.mpr c6; have c6b1 : (a0_0 != a1_0) = false := bne_eq_false_iff_eq.mpr c6; clear c6; (first | rw [c6b0] | (simp only [i64_w, i32_w]; rw [c6b0]) | rw [c6b1] | skip); replace H := Option.bind_eq_some_iff.mp H; obtain ⟨t119, A70, H⟩ := H; replace H : (if t119 = true then (spinnakerref26_SameThread.j0 k ((l0_2.length : Int) != (l1_2.length : Int)) a0_0 l0_1 l0_2 a1_0 l1_1 l1_2) else (spinnakerref26_SameThread.j0 k true a0_0 l0_1 l0_2 a1_0 l1_1 l1_2)) = some r := H; have A7 := Aside0.mk A70; clear A70
   by_cases c8 : t119 = true
   ·subst c8
    have H1 : (spinnakerref26_SameThread.j0 k ((l0_2.length : Int) != (l1_2.length : Int)) a0_0 l0_1 l0_2 a1_0 l1_1 l1_2) = some r := by rw [if_pos rfl] at H; exact H
    clear H; have H := H1; clear H1; have H' := Aside0.mk H; clear H; have hnb9 := NB117_118.out; have hnc9 := NB118_117.out; obtain ⟨hcz10_0, hcz10_1, hcz10_2⟩ := bC3 BK117.out; obtain ⟨hfz10_0, hfz10_1, hfz10_2⟩ := bF3 BK117.out; obtain ⟨hcz11_0, hcz11_1, hcz11_2⟩ := bC3 BK118.out; obtain ⟨hfz11_0, hfz11_1, hfz11_2⟩ := bF3 BK118.out
    go_wp2_with (first | (go_at_call 16; (with_reducible refine (spinnakerref01_Ints.calls k _ _ l0_1 _ _ l1_1 true _ ?side1 ?side2 ?side3 ?side4 A7.out).mono ?_); (case side1 => repeat (first | exact (Kd.C_below HR0_1.out HB.out) | (with_reducible refine Kd.C_alloc ?_ _) | (with_reducible refine Kd.C_drewN ?_ _) | (with_reducible refine Kd.C_drew ?_))); (case side2 => exact HC0_1.out); (case side3 => repeat (first | exact (Kd.C_below HR1_1.out HB.out) | (with_reducible refine Kd.C_alloc ?_ _) | (with_reducible refine Kd.C_drewN ?_ _) | (with_reducible refine Kd.C_drew ?_))); (case side4 => exact HC1_1.out); rintro e w' ⟨rfl, ⟨nd, rfl⟩⟩; (try first | exact ⟨rfl, _, World.drewN_drewN _ _ _⟩ | exact ⟨rfl, _, Eq.trans (World.drewN_drewN _ _ _) (congrArg (World.drewN _) (Nat.add_assoc _ _ _))⟩)))
    repeat (go_quiet (first | (go_at_call 16; (with_reducible refine (spinnakerref01_Ints.calls k _ _ l0_1 _ _ l1_1 true _ ?side1 ?side2 ?side3 ?side4 A7.out).mono ?_); (case side1 => repeat (first | exact (Kd.C_below HR0_1.out HB.out) | (with_reducible refine Kd.C_alloc ?_ _) | (with_reducible refine Kd.C_drewN ?_ _) | (with_reducible refine Kd.C_drew ?_))); (case side2 => exact HC0_1.out); (case side3 => repeat (first | exact (Kd.C_below HR1_1.out HB.out) | (with_reducible refine Kd.C_alloc ?_ _) | (with_reducible refine Kd.C_drewN ?_ _) | (with_reducible refine Kd.C_drew ?_))); (case side4 => exact HC1_1.out); rintro e w' ⟨rfl, ⟨nd, rfl⟩⟩; (try first | exact ⟨rfl, _, World.drewN_drewN _ _ _⟩ | exact ⟨rfl, _, Eq.trans (World.drewN_drewN _ _ _) (congrArg (World.drewN _) (Nat.add_assoc _ _ _))⟩))); try go_wp2_with (first | (go_at_call 16; (with_reducible refine (spinnakerref01_Ints.calls k _ _ l0_1 _ _ l1_1 true _ ?side1 ?side2 ?side3 ?side4 A7.out).mono ?_); (case side1 => repeat (first | exact (Kd.C_below HR0_1.out HB.out) | (with_reducible refine Kd.C_alloc ?_ _) | (with_reducible refine Kd.C_drewN ?_ _) | (with_reducible refine Kd.C_drew ?_))); (case side2 => exact HC0_1.out); (case side3 => repeat (first | exact (Kd.C_below HR1_1.out HB.out) | (with_reducible refine Kd.C_alloc ?_ _) | (with_reducible refine Kd.C_drewN ?_ _) | (with_reducible refine Kd.C_drew ?_))); (case side4 => exact HC1_1.out); rintro e w' ⟨rfl, ⟨nd, rfl⟩⟩; (try first | exact ⟨rfl, _, World.drewN_drewN _ _ _⟩ | exact ⟨rfl, _, Eq.trans (World.drewN_drewN _ _ _) (congrArg (World.drewN _) (Nat.add_assoc _ _ _))⟩))))
    go_meet
    case rel => exact ⟨_, (((l0_2.length : Int) != (l1_2.length : Int))), z11_4, H', ⟨by first | omega | exact Nat.le_refl _⟩, ⟨by (with_reducible repeat (first | refine blk_drewN ?_ _ | refine blk_drew ?_ | refine blk_alloc ?_ _)); exact BK117.out⟩, ⟨by (with_reducible repeat (first | refine blk_drewN ?_ _ | refine blk_drew ?_ | refine blk_alloc ?_ _)); exact BK118.out⟩, ⟨by repeat (first | (with_reducible first | exact HB.out | apply below_alloc | apply pw_below_drewN | apply below_drew1 | refine below_set ?_ GE117.out | refine below_set ?_ GE118.out) | exact HB.out)⟩⟩
   ·replace c8 := Bool.eq_false_iff.mpr c8
    subst c8
    have H1 : (spinnakerref26_SameThread.j0 k true a0_0 l0_1 l0_2 a1_0 l1_1 l1_2) = some r := by rw [if_neg (show ¬ (false = true) by decide)] at H; exact H
    clear H; have H := H1; clear H1; have H' := Aside0.mk H; clear H; have hnb12 := NB117_118.out; have hnc12 := NB118_117.out; obtain ⟨hcz13_0, hcz13_1, hcz13_2⟩ := bC3 BK117.out; obtain ⟨hfz13_0, hfz13_1, hfz13_2⟩ := bF3 BK117.out; obtain ⟨hcz14_0, hcz14_1, hcz14_2⟩ := bC3 BK118.out; obtain ⟨hfz14_0, hfz14_1, hfz14_2⟩ := bF3 BK118.out
    go_wp2_with (first | (go_at_call 16; (with_reducible refine (spinnakerref01_Ints.calls k _ _ l0_1 _ _ l1_1 false _ ?side1 ?side2 ?side3 ?side4 A7.out).mono ?_); (case side1 => repeat (first | exact (Kd.C_below HR0_1.out HB.out) | (with_reducible refine Kd.C_alloc ?_ _) | (with_reducible refine Kd.C_drewN ?_ _) | (with_reducible refine Kd.C_drew ?_))); (case side2 => exact HC0_1.out); (case side3 => repeat (first | exact (Kd.C_below HR1_1.out HB.out) | (with_reducible refine Kd.C_alloc ?_ _) | (with_reducible refine Kd.C_drewN ?_ _) | (with_reducible refine Kd.C_drew ?_))); (case side4 => exact HC1_1.out); rintro e w' ⟨rfl, ⟨nd, rfl⟩⟩; (try first | exact ⟨rfl, _, World.drewN_drewN _ _ _⟩ | exact ⟨rfl, _, Eq.trans (World.drewN_drewN _ _ _) (congrArg (World.drewN _) (Nat.add_assoc _ _ _))⟩)))
    repeat (go_quiet (first | (go_at_call 16; (with_reducible refine (spinnakerref01_Ints.calls k _ _ l0_1 _ _ l1_1 false _ ?side1 ?side2 ?side3 ?side4 A7.out).mono ?_); (case side1 => repeat (first | exact (Kd.C_below HR0_1.out HB.out) | (with_reducible refine Kd.C_alloc ?_ _) | (with_reducible refine Kd.C_drewN ?_ _) | (with_reducible refine Kd.C_drew ?_))); (case side2 => exact HC0_1.out); (case side3 => repeat (first | exact (Kd.C_below HR1_1.out HB.out) | (with_reducible refine Kd.C_alloc ?_ _) | (with_reducible refine Kd.C_drewN ?_ _) | (with_reducible refine Kd.C_drew ?_))); (case side4 => exact HC1_1.out); rintro e w' ⟨rfl, ⟨nd, rfl⟩⟩; (try first | exact ⟨rfl, _, World.drewN_drewN _ _ _⟩ | exact ⟨rfl, _, Eq.trans (World.drewN_drewN _ _ _) (congrArg (World.drewN _) (Nat.add_assoc _ _ _))⟩))); try go_wp2_with (first | (go_at_call 16; (with_reducible refine (spinnakerref01_Ints.calls k _ _ l0_1 _ _ l1_1 false _ ?side1 ?side2 ?side3 ?side4 A7.out).mono ?_); (case side1 => repeat (first | exact (Kd.C_below HR0_1.out HB.out) | (with_reducible refine Kd.C_alloc ?_ _) | (with_reducible refine Kd.C_drewN ?_ _) | (with_reducible refine Kd.C_drew ?_))); (case side2 => exact HC0_1.out); (case side3 => repeat (first | exact (Kd.C_below HR1_1.out HB.out) | (with_reducible refine Kd.C_alloc ?_ _) | (with_reducible refine Kd.C_drewN ?_ _) | (with_reducible refine Kd.C_drew ?_))); (case side4 => exact HC1_1.out); rintro e w' ⟨rfl, ⟨nd, rfl⟩⟩; (try first | exact ⟨rfl, _, World.drewN_drewN _ _ _⟩ | exact ⟨rfl, _, Eq.trans (World.drewN_drewN _ _ _) (congrArg (World.drewN _) (Nat.add_assoc _ _ _))⟩))))
    go_meet
    case rel => exact ⟨_, (true), z11_4, H', ⟨by first | omega | exact Nat.le_refl _⟩, ⟨by (with_reducible repeat (first | refine blk_drewN ?_ _ | refine blk_drew ?_ | refine blk_alloc ?_ _)); exact BK117.out⟩, ⟨by (with_reducible repeat (first | refine blk_drewN ?_ _ | refine blk_drew ?_ | refine blk_alloc ?_ _)); exact BK118.out⟩, ⟨by repeat (first | (with_reducible first | exact HB.out | apply below_alloc | apply pw_below_drewN | apply below_drew1 | refine below_set ?_ GE117.out | refine below_set ?_ GE118.out) | exact HB.out)⟩⟩
  ·rw [if_neg c6] at H
   have c6b0 : (a0_0 == a1_0) = false := beq_eq_false_iff_ne.mpr c6; have c6b1 : (a0_0 != a1_0) = true := bne_iff_ne.mpr c6; (first | rw [c6b0] | (simp only [i64_w, i32_w]; rw [c6b0]) | rw [c6b1] | skip); have H' := Aside0.mk H; clear H; have hnb15 := NB117_118.out; have hnc15 := NB118_117.out; obtain ⟨hcz16_0, hcz16_1, hcz16_2⟩ := bC3 BK117.out; obtain ⟨hfz16_0, hfz16_1, hfz16_2⟩ := bF3 BK117.out; obtain ⟨hcz17_0, hcz17_1, hcz17_2⟩ := bC3 BK118.out; obtain ⟨hfz17_0, hfz17_1, hfz17_2⟩ := bF3 BK118.out
   go_wp2
   repeat (go_quiet (fail); try go_wp2)
   go_meet
   case rel => exact ⟨_, (true), z11_4, H', ⟨by first | omega | exact Nat.le_refl _⟩, ⟨by (with_reducible repeat (first | refine blk_drewN ?_ _ | refine blk_drew ?_ | refine blk_alloc ?_ _)); exact BK117.out⟩, ⟨by (with_reducible repeat (first | refine blk_drewN ?_ _ | refine blk_drew ?_ | refine blk_alloc ?_ _)); exact BK118.out⟩, ⟨by repeat (first | (with_reducible first | exact HB.out | apply below_alloc | apply pw_below_drewN | apply below_drew1 | refine below_set ?_ GE117.out | refine below_set ?_ GE118.out) | exact HB.out)⟩⟩
 case rest =>
  clear HC3; obtain ⟨kq, x28_2, rfl, HA, HJ2, BK117, BK118, HB⟩ := hcut
  cases kq with
  | zero => exact absurd HA.out (by simp [spinnakerref26_SameThread.j0])
  | succ kj2 =>
   have H := HA.out; clear HA; simp only [spinnakerref26_SameThread.j0] at H
   by_cases c18 : x28_2 = true
   ·subst c18
    have H1 : (some false) = some r := by rw [if_pos rfl] at H; exact H
    clear H; have H := H1; clear H1; obtain rfl := Option.some.inj H
    go_wp2
    repeat (go_quiet (fail); try go_wp2)
    go_ret
    exact ⟨by first | rfl | (simp [errW_none, errW_some] <;> rfl) | (simp [*, errW_none, errW_some] <;> rfl), by repeat (first | (with_reducible first | exact HB.out | apply below_alloc | apply pw_below_drewN | apply below_drew1 | refine below_set ?_ GE117.out | refine below_set ?_ GE118.out) | exact HB.out)⟩
   ·replace c18 := Bool.eq_false_iff.mpr c18
    subst c18
    have H1 : (spinnakerref26_SameThread.l0 kj2 0 a0_0 l0_1 l0_2 a1_0 l1_1 l1_2) = some r := by rw [if_neg (show ¬ (false = true) by decide)] at H; exact H
    clear H; have H := H1; clear H1; have H' := Aside0.mk H; clear H
    go_wp2
    repeat (go_quiet (fail); try go_wp2)
    go_loopg [5] kj2 (fun kq v5 w' => ∃ (x5_2 : Int), v5 = .int .i64 x5_2 ∧ Aside0 (spinnakerref26_SameThread.l0 kq x5_2 a0_0 l0_1 l0_2 a1_0 l1_1 l1_2 = some r) ∧ Aside0 (kq ≤ kj2) ∧ Aside0 (w'.heap[gb117]? = some (.cells #[.int .i64 a0_0, (.slice A0_1 l0_1.length c0_1), (.slice A0_2 l0_2.length c0_2)] 25 (0, 0))) ∧ Aside0 (w'.heap[gb118]? = some (.cells #[.int .i64 a1_0, (.slice A1_1 l1_1.length c1_1), (.slice A1_2 l1_2.length c1_2)] 25 (0, 0))) ∧ Aside0 (Below w.heap.size w w'))
    case atStart => exact ⟨(0), z11_4, H', ⟨Nat.le_refl _⟩, ⟨by (with_reducible repeat (first | refine blk_drewN ?_ _ | refine blk_drew ?_ | refine blk_alloc ?_ _)); exact BK117.out⟩, ⟨by (with_reducible repeat (first | refine blk_drewN ?_ _ | refine blk_drew ?_ | refine blk_alloc ?_ _)); exact BK118.out⟩, ⟨by repeat (first | (with_reducible first | exact HB.out | apply below_alloc | apply pw_below_drewN | apply below_drew1 | refine below_set ?_ GE117.out | refine below_set ?_ GE118.out) | exact HB.out)⟩⟩
    case round =>
     clear H'
     try clear c18
     obtain ⟨x5_2, rfl, HA, HK2, BK117, BK118, HB⟩ := hrel
     cases gk with
     | zero => exact absurd HA.out (by simp [spinnakerref26_SameThread.l0])
     | succ k2 =>
      have H := HA.out; clear HA; simp only [spinnakerref26_SameThread.l0] at H
      by_cases c19 : x5_2 < (l0_2.length : Int)
      ·rw [if_pos c19] at H
       have c19b0 : decide (x5_2 < (l0_2.length : Int)) = true := decide_eq_true c19; clear c19; have HC20 := Aside0.mk H; clear H; have hnb21 := NB117_118.out; have hnc21 := NB118_117.out; obtain ⟨hcz22_0, hcz22_1, hcz22_2⟩ := bC3 BK117.out; obtain ⟨hfz22_0, hfz22_1, hfz22_2⟩ := bF3 BK117.out
       go_upto_region 6 with (fail)
       repeat (go_quiet (fail); go_upto_region 6 with (fail))
       go_cut [65] (fun v65 wc => ∃ (kq : Nat) (x65_19 : Bool), v65 = .bool x65_19 ∧ Aside0 (spinnakerref26_SameThread.j2 kq x5_2 x65_19 a0_0 l0_1 l0_2 a1_0 l1_1 l1_2 = some r) ∧ Aside0 (kq ≤ k2) ∧ Aside0 (wc.heap[gb117]? = some (.cells #[.int .i64 a0_0, (.slice A0_1 l0_1.length c0_1), (.slice A0_2 l0_2.length c0_2)] 25 (0, 0))) ∧ Aside0 (wc.heap[gb118]? = some (.cells #[.int .i64 a1_0, (.slice A1_1 l1_1.length c1_1), (.slice A1_2 l1_2.length c1_2)] 25 (0, 0))) ∧ Aside0 (Below w.heap.size w wc))
       case first =>
        have H := HC20.out; clear HC20
        by_cases c23 : 0 ≤ x5_2
        ·rw [if_pos c23] at H
         have c23b0 : decide (0 ≤ x5_2) = true := decide_eq_true c23; clear c23; (first | rw [c23b0] | (simp only [i64_w, i32_w]; rw [c23b0]) | rw [c23b1] | skip)
         by_cases c24 : x5_2 < (l1_2.length : Int)
         ·rw [if_pos c24] at H
          have c24b0 : decide (x5_2 < (l1_2.length : Int)) = true := decide_eq_true c24; clear c24
          by_cases c25 : (!(((rd_T36 l0_2 x5_2).f1.f0) == ((rd_T36 l1_2 x5_2).f1.f0)) || (!(((rd_T36 l0_2 x5_2).f1.f1) == ((rd_T36 l1_2 x5_2).f1.f1)) || (!(((rd_T36 l0_2 x5_2).f1.f2) == ((rd_T36 l1_2 x5_2).f1.f2)) || (!(((rd_T36 l0_2 x5_2).f1.f3) == ((rd_T36 l1_2 x5_2).f1.f3)))))) = true
          ·rw [if_pos c25] at H
           have c25b0 : (!(((rd_T36 l0_2 x5_2).f1.f0) == ((rd_T36 l1_2 x5_2).f1.f0)) || (!(((rd_T36 l0_2 x5_2).f1.f1) == ((rd_T36 l1_2 x5_2).f1.f1)) || (!(((rd_T36 l0_2 x5_2).f1.f2) == ((rd_T36 l1_2 x5_2).f1.f2)) || (!(((rd_T36 l0_2 x5_2).f1.f3) == ((rd_T36 l1_2 x5_2).f1.f3)))))) = true := c25; clear c25; have H' := Aside0.mk H; clear H; have hnb26 := NB117_118.out; have hnc26 := NB118_117.out; obtain ⟨hcz27_0, hcz27_1, hcz27_2⟩ := bC3 BK117.out; obtain ⟨hfz27_0, hfz27_1, hfz27_2⟩ := bF3 BK117.out; have p120 : 0 ≤ (x5_2 : Int) := of_decide_eq_true z11_0; have q120 : x5_2 < (l0_2.length : Int) := of_decide_eq_true z11_0; obtain ⟨ad120, A120_0, c120_0, e120, hx120_0, hx120_1, hx120_2, hx120_3, hx120_4, hl120_0, hi120_0⟩ := at_T36 HR0_2.out x5_2 p120 q120
           cases e120
           replace hx120_0 := (HB.out.cell (World.block_lt_of_cell? w _ hx120_0)).trans hx120_0; replace hx120_1 := (HB.out.cell (World.block_lt_of_cell? w _ hx120_1)).trans hx120_1; replace hx120_2 := (HB.out.cell (World.block_lt_of_cell? w _ hx120_2)).trans hx120_2; replace hx120_3 := (HB.out.cell (World.block_lt_of_cell? w _ hx120_3)).trans hx120_3; replace hx120_4 := (HB.out.cell (World.block_lt_of_cell? w _ hx120_4)).trans hx120_4; have HR120_0 := Aside0.mk hi120_0; have HC120_0 := Aside0.mk hl120_0; clear hi120_0 hl120_0; replace p120 := eq_true p120; replace q120 := eq_true q120; obtain ⟨hcz28_0, hcz28_1, hcz28_2⟩ := bC3 BK118.out; obtain ⟨hfz28_0, hfz28_1, hfz28_2⟩ := bF3 BK118.out; have p121 : 0 ≤ (x5_2 : Int) := of_decide_eq_true z11_0; have q121 : x5_2 < (l1_2.length : Int) := of_decide_eq_true z11_0; obtain ⟨ad121, A121_0, c121_0, e121, hx121_0, hx121_1, hx121_2, hx121_3, hx121_4, hl121_0, hi121_0⟩ := at_T36 HR1_2.out x5_2 p121 q121
           cases e121
           replace hx121_0 := (HB.out.cell (World.block_lt_of_cell? w _ hx121_0)).trans hx121_0; replace hx121_1 := (HB.out.cell (World.block_lt_of_cell? w _ hx121_1)).trans hx121_1; replace hx121_2 := (HB.out.cell (World.block_lt_of_cell? w _ hx121_2)).trans hx121_2; replace hx121_3 := (HB.out.cell (World.block_lt_of_cell? w _ hx121_3)).trans hx121_3; replace hx121_4 := (HB.out.cell (World.block_lt_of_cell? w _ hx121_4)).trans hx121_4; have HR121_0 := Aside0.mk hi121_0; have HC121_0 := Aside0.mk hl121_0; clear hi121_0 hl121_0; replace p121 := eq_true p121; replace q121 := eq_true q121
           go_wp2
           repeat (go_quiet (fail); try go_wp2)
           go_meet
           case rel => exact ⟨_, (true), z11_4, H', ⟨by have := HJ2.out; have := HK2.out; first | omega | exact Nat.le_refl _⟩, ⟨by (with_reducible repeat (first | refine blk_drewN ?_ _ | refine blk_drew ?_ | refine blk_alloc ?_ _)); exact BK117.out⟩, ⟨by (with_reducible repeat (first | refine blk_drewN ?_ _ | refine blk_drew ?_ | refine blk_alloc ?_ _)); exact BK118.out⟩, ⟨by repeat (first | (with_reducible first | exact HB.out | apply below_alloc | apply pw_below_drewN | apply below_drew1 | refine below_set ?_ GE117.out | refine below_set ?_ GE118.out) | exact HB.out)⟩⟩
          ·rw [if_neg c25] at H
           have c25b0 : (!(((rd_T36 l0_2 x5_2).f1.f0) == ((rd_T36 l1_2 x5_2).f1.f0)) || (!(((rd_T36 l0_2 x5_2).f1.f1) == ((rd_T36 l1_2 x5_2).f1.f1)) || (!(((rd_T36 l0_2 x5_2).f1.f2) == ((rd_T36 l1_2 x5_2).f1.f2)) || (!(((rd_T36 l0_2 x5_2).f1.f3) == ((rd_T36 l1_2 x5_2).f1.f3)))))) = false := by simpa using c25
           clear c25; have H' := Aside0.mk H; clear H; have hnb29 := NB117_118.out; have hnc29 := NB118_117.out; obtain ⟨hcz30_0, hcz30_1, hcz30_2⟩ := bC3 BK117.out; obtain ⟨hfz30_0, hfz30_1, hfz30_2⟩ := bF3 BK117.out; have p120 : 0 ≤ (x5_2 : Int) := of_decide_eq_true z11_0; have q120 : x5_2 < (l0_2.length : Int) := of_decide_eq_true z11_0; obtain ⟨ad120, A120_0, c120_0, e120, hx120_0, hx120_1, hx120_2, hx120_3, hx120_4, hl120_0, hi120_0⟩ := at_T36 HR0_2.out x5_2 p120 q120
           cases e120
           replace hx120_0 := (HB.out.cell (World.block_lt_of_cell? w _ hx120_0)).trans hx120_0; replace hx120_1 := (HB.out.cell (World.block_lt_of_cell? w _ hx120_1)).trans hx120_1; replace hx120_2 := (HB.out.cell (World.block_lt_of_cell? w _ hx120_2)).trans hx120_2; replace hx120_3 := (HB.out.cell (World.block_lt_of_cell? w _ hx120_3)).trans hx120_3; replace hx120_4 := (HB.out.cell (World.block_lt_of_cell? w _ hx120_4)).trans hx120_4; have HR120_0 := Aside0.mk hi120_0; have HC120_0 := Aside0.mk hl120_0; clear hi120_0 hl120_0; replace p120 := eq_true p120; replace q120 := eq_true q120; obtain ⟨hcz31_0, hcz31_1, hcz31_2⟩ := bC3 BK118.out; obtain ⟨hfz31_0, hfz31_1, hfz31_2⟩ := bF3 BK118.out; have p121 : 0 ≤ (x5_2 : Int) := of_decide_eq_true z11_0; have q121 : x5_2 < (l1_2.length : Int) := of_decide_eq_true z11_0; obtain ⟨ad121, A121_0, c121_0, e121, hx121_0, hx121_1, hx121_2, hx121_3, hx121_4, hl121_0, hi121_0⟩ := at_T36 HR1_2.out x5_2 p121 q121
           cases e121
           replace hx121_0 := (HB.out.cell (World.block_lt_of_cell? w _ hx121_0)).trans hx121_0; replace hx121_1 := (HB.out.cell (World.block_lt_of_cell? w _ hx121_1)).trans hx121_1; replace hx121_2 := (HB.out.cell (World.block_lt_of_cell? w _ hx121_2)).trans hx121_2; replace hx121_3 := (HB.out.cell (World.block_lt_of_cell? w _ hx121_3)).trans hx121_3; replace hx121_4 := (HB.out.cell (World.block_lt_of_cell? w _ hx121_4)).trans hx121_4; have HR121_0 := Aside0.mk hi121_0; have HC121_0 := Aside0.mk hl121_0; clear hi121_0 hl121_0; replace p121 := eq_true p121; replace q121 := eq_true q121; have p122 : 0 ≤ (x5_2 : Int) := of_decide_eq_true z11_0; have q122 : x5_2 < (l0_2.length : Int) := of_decide_eq_true z11_0; obtain ⟨ad122, A122_0, c122_0, e122, hx122_0, hx122_1, hx122_2, hx122_3, hx122_4, hl122_0, hi122_0⟩ := at_T36 HR0_2.out x5_2 p122 q122; obtain rfl : ad120 = ad122 := (by injection e122); replace hx122_0 := (HB.out.cell (World.block_lt_of_cell? w _ hx122_0)).trans hx122_0; replace hx122_1 := (HB.out.cell (World.block_lt_of_cell? w _ hx122_1)).trans hx122_1; replace hx122_2 := (HB.out.cell (World.block_lt_of_cell? w _ hx122_2)).trans hx122_2; replace hx122_3 := (HB.out.cell (World.block_lt_of_cell? w _ hx122_3)).trans hx122_3; replace hx122_4 := (HB.out.cell (World.block_lt_of_cell? w _ hx122_4)).trans hx122_4; have HR122_0 := Aside0.mk hi122_0; have HC122_0 := Aside0.mk hl122_0; clear hi122_0 hl122_0; replace p122 := eq_true p122; replace q122 := eq_true q122; have ea_ := Option.some.inj (hx120_0.symm.trans hx122_0)
           injection ea_ with ea_ en_ ec_
           subst ea_; subst ec_; clear en_; have p123 : 0 ≤ (x5_2 : Int) := of_decide_eq_true z11_0; have q123 : x5_2 < (l1_2.length : Int) := of_decide_eq_true z11_0; obtain ⟨ad123, A123_0, c123_0, e123, hx123_0, hx123_1, hx123_2, hx123_3, hx123_4, hl123_0, hi123_0⟩ := at_T36 HR1_2.out x5_2 p123 q123; obtain rfl : ad121 = ad123 := (by injection e123); replace hx123_0 := (HB.out.cell (World.block_lt_of_cell? w _ hx123_0)).trans hx123_0; replace hx123_1 := (HB.out.cell (World.block_lt_of_cell? w _ hx123_1)).trans hx123_1; replace hx123_2 := (HB.out.cell (World.block_lt_of_cell? w _ hx123_2)).trans hx123_2; replace hx123_3 := (HB.out.cell (World.block_lt_of_cell? w _ hx123_3)).trans hx123_3; replace hx123_4 := (HB.out.cell (World.block_lt_of_cell? w _ hx123_4)).trans hx123_4; have HR123_0 := Aside0.mk hi123_0; have HC123_0 := Aside0.mk hl123_0; clear hi123_0 hl123_0; replace p123 := eq_true p123; replace q123 := eq_true q123; have ea_ := Option.some.inj (hx121_0.symm.trans hx123_0)
           injection ea_ with ea_ en_ ec_
           subst ea_; subst ec_; clear en_
           go_wp2
           repeat (go_quiet (fail); try go_wp2)
           go_meet
           case rel => exact ⟨_, (((((rd_T36 l0_2 x5_2).f0).length : Int) != (((rd_T36 l1_2 x5_2).f0).length : Int))), z11_4, H', ⟨by have := HJ2.out; have := HK2.out; first | omega | exact Nat.le_refl _⟩, ⟨by (with_reducible repeat (first | refine blk_drewN ?_ _ | refine blk_drew ?_ | refine blk_alloc ?_ _)); exact BK117.out⟩, ⟨by (with_reducible repeat (first | refine blk_drewN ?_ _ | refine blk_drew ?_ | refine blk_alloc ?_ _)); exact BK118.out⟩, ⟨by repeat (first | (with_reducible first | exact HB.out | apply below_alloc | apply pw_below_drewN | apply below_drew1 | refine below_set ?_ GE117.out | refine below_set ?_ GE118.out) | exact HB.out)⟩⟩
         ·rw [if_neg c24] at H
          exact absurd H (by simp)
        ·rw [if_neg c23] at H
         exact absurd H (by simp)
       case rest =>
        clear HC20
        try clear c18
        try clear c19
        try clear c19b0
        try clear hcz22_0
        try clear hcz22_1
        try clear hcz22_2
        try clear hfz22_0
        try clear hfz22_1
        try clear hfz22_2
        obtain ⟨kq, x65_19, rfl, HA, HJ19, BK117, BK118, HB⟩ := hcut
        cases kq with
        | zero => exact absurd HA.out (by simp [spinnakerref26_SameThread.j2])
        | succ kj19 =>
         have H := HA.out; clear HA; simp only [spinnakerref26_SameThread.j2] at H
         by_cases c32 : x65_19 = true
         ·subst c32
          have H1 : (some false) = some r := by rw [if_pos rfl] at H; exact H
          clear H; have H := H1; clear H1; obtain rfl := Option.some.inj H
          go_wp2
          repeat (go_quiet (fail); try go_wp2)
          go_ret
          exact ⟨by first | rfl | (simp [errW_none, errW_some] <;> rfl) | (simp [*, errW_none, errW_some] <;> rfl), by repeat (first | (with_reducible first | exact HB.out | apply below_alloc | apply pw_below_drewN | apply below_drew1 | refine below_set ?_ GE117.out | refine below_set ?_ GE118.out) | exact HB.out)⟩
         ·replace c32 := Bool.eq_false_iff.mpr c32
          subst c32
          have H1 : (spinnakerref26_SameThread.l1 kj19 x5_2 0 a0_0 l0_1 l0_2 a1_0 l1_1 l1_2) = some r := by rw [if_neg (show ¬ (false = true) by decide)] at H; exact H
          clear H; have H := H1; clear H1; have H' := Aside0.mk H; clear H
          go_wp2
          repeat (go_quiet (fail); try go_wp2)
          go_loopg [6] kj19 (fun kq v6 w' => ∃ (x6_4 : Int), v6 = .int .i64 x6_4 ∧ Aside0 (spinnakerref26_SameThread.l1 kq x5_2 x6_4 a0_0 l0_1 l0_2 a1_0 l1_1 l1_2 = some r) ∧ Aside0 (kq ≤ kj19) ∧ Aside0 (w'.heap[gb117]? = some (.cells #[.int .i64 a0_0, (.slice A0_1 l0_1.length c0_1), (.slice A0_2 l0_2.length c0_2)] 25 (0, 0))) ∧ Aside0 (w'.heap[gb118]? = some (.cells #[.int .i64 a1_0, (.slice A1_1 l1_1.length c1_1), (.slice A1_2 l1_2.length c1_2)] 25 (0, 0))) ∧ Aside0 (Below w.heap.size w w'))
          case atStart => exact ⟨(0), z11_4, H', ⟨Nat.le_refl _⟩, ⟨by (with_reducible repeat (first | refine blk_drewN ?_ _ | refine blk_drew ?_ | refine blk_alloc ?_ _)); exact BK117.out⟩, ⟨by (with_reducible repeat (first | refine blk_drewN ?_ _ | refine blk_drew ?_ | refine blk_alloc ?_ _)); exact BK118.out⟩, ⟨by repeat (first | (with_reducible first | exact HB.out | apply below_alloc | apply pw_below_drewN | apply below_drew1 | refine below_set ?_ GE117.out | refine below_set ?_ GE118.out) | exact HB.out)⟩⟩
          case round =>
           clear H'
           try clear c18
           try clear c19
           try clear c19b0
           try clear c32
           try clear hcz22_0
           try clear hcz22_1
           try clear hcz22_2
           try clear hfz22_0
           try clear hfz22_1
           try clear hfz22_2
           obtain ⟨x6_4, rfl, HA, HK4, BK117, BK118, HB⟩ := hrel
           cases gk with
           | zero => exact absurd HA.out (by simp [spinnakerref26_SameThread.l1])
           | succ k4 =>
            have H := HA.out; clear HA; simp only [spinnakerref26_SameThread.l1] at H
            by_cases c33 : 0 ≤ x5_2
            ·rw [if_pos c33] at H
             have c33b0 : decide (0 ≤ x5_2) = true := decide_eq_true c33; clear c33
             by_cases c34 : x5_2 < (l0_2.length : Int)
             ·rw [if_pos c34] at H
              have c34b0 : decide (x5_2 < (l0_2.length : Int)) = true := decide_eq_true c34; clear c34
              by_cases c35 : x6_4 < (((rd_T36 l0_2 x5_2).f0).length : Int)
              ·rw [if_pos c35] at H
               have c35b0 : decide (x6_4 < (((rd_T36 l0_2 x5_2).f0).length : Int)) = true := decide_eq_true c35; clear c35
               by_cases c36 : 0 ≤ x6_4
               ·rw [if_pos c36] at H
                have c36b0 : decide (0 ≤ x6_4) = true := decide_eq_true c36; clear c36
                by_cases c37 : x5_2 < (l1_2.length : Int)
                ·rw [if_pos c37] at H
                 have c37b0 : decide (x5_2 < (l1_2.length : Int)) = true := decide_eq_true c37; clear c37
                 by_cases c38 : x6_4 < (((rd_T36 l1_2 x5_2).f0).length : Int)
                 ·rw [if_pos c38] at H
                  have c38b0 : decide (x6_4 < (((rd_T36 l1_2 x5_2).f0).length : Int)) = true := decide_eq_true c38; clear c38
                  by_cases c39 : (!(((rd_T38 ((rd_T36 l0_2 x5_2).f0) x6_4).f0) == ((rd_T38 ((rd_T36 l1_2 x5_2).f0) x6_4).f0)) || (!(((rd_T38 ((rd_T36 l0_2 x5_2).f0) x6_4).f1) == ((rd_T38 ((rd_T36 l1_2 x5_2).f0) x6_4).f1)) || (!(((rd_T38 ((rd_T36 l0_2 x5_2).f0) x6_4).f2) == ((rd_T38 ((rd_T36 l1_2 x5_2).f0) x6_4).f2)) || (!(((rd_T38 ((rd_T36 l0_2 x5_2).f0) x6_4).f3) == ((rd_T38 ((rd_T36 l1_2 x5_2).f0) x6_4).f3)) || (!(((rd_T38 ((rd_T36 l0_2 x5_2).f0) x6_4).f4) == ((rd_T38 ((rd_T36 l1_2 x5_2).f0) x6_4).f4)) || (!(((rd_T38 ((rd_T36 l0_2 x5_2).f0) x6_4).f5) == ((rd_T38 ((rd_T36 l1_2 x5_2).f0) x6_4).f5)) || (!(((rd_T38 ((rd_T36 l0_2 x5_2).f0) x6_4).f6) == ((rd_T38 ((rd_T36 l1_2 x5_2).f0) x6_4).f6)) || (!(((rd_T38 ((rd_T36 l0_2 x5_2).f0) x6_4).f7) == ((rd_T38 ((rd_T36 l1_2 x5_2).f0) x6_4).f7)))))))))) = true
                  ·rw [if_pos c39] at H
                   have c39b0 : (!(((rd_T38 ((rd_T36 l0_2 x5_2).f0) x6_4).f0) == ((rd_T38 ((rd_T36 l1_2 x5_2).f0) x6_4).f0)) || (!(((rd_T38 ((rd_T36 l0_2 x5_2).f0) x6_4).f1) == ((rd_T38 ((rd_T36 l1_2 x5_2).f0) x6_4).f1)) || (!(((rd_T38 ((rd_T36 l0_2 x5_2).f0) x6_4).f2) == ((rd_T38 ((rd_T36 l1_2 x5_2).f0) x6_4).f2)) || (!(((rd_T38 ((rd_T36 l0_2 x5_2).f0) x6_4).f3) == ((rd_T38 ((rd_T36 l1_2 x5_2).f0) x6_4).f3)) || (!(((rd_T38 ((rd_T36 l0_2 x5_2).f0) x6_4).f4) == ((rd_T38 ((rd_T36 l1_2 x5_2).f0) x6_4).f4)) || (!(((rd_T38 ((rd_T36 l0_2 x5_2).f0) x6_4).f5) == ((rd_T38 ((rd_T36 l1_2 x5_2).f0) x6_4).f5)) || (!(((rd_T38 ((rd_T36 l0_2 x5_2).f0) x6_4).f6) == ((rd_T38 ((rd_T36 l1_2 x5_2).f0) x6_4).f6)) || (!(((rd_T38 ((rd_T36 l0_2 x5_2).f0) x6_4).f7) == ((rd_T38 ((rd_T36 l1_2 x5_2).f0) x6_4).f7)))))))))) = true := c39; clear c39; obtain rfl := Option.some.inj H; have hnb40 := NB117_118.out; have hnc40 := NB118_117.out; obtain ⟨hcz41_0, hcz41_1, hcz41_2⟩ := bC3 BK117.out; obtain ⟨hfz41_0, hfz41_1, hfz41_2⟩ := bF3 BK117.out; have p124 : 0 ≤ (x5_2 : Int) := of_decide_eq_true z11_0; have q124 : x5_2 < (l0_2.length : Int) := of_decide_eq_true z11_0; obtain ⟨ad124, A124_0, c124_0, e124, hx124_0, hx124_1, hx124_2, hx124_3, hx124_4, hl124_0, hi124_0⟩ := at_T36 HR0_2.out x5_2 p124 q124
                   cases e124
                   replace hx124_0 := (HB.out.cell (World.block_lt_of_cell? w _ hx124_0)).trans hx124_0; replace hx124_1 := (HB.out.cell (World.block_lt_of_cell? w _ hx124_1)).trans hx124_1; replace hx124_2 := (HB.out.cell (World.block_lt_of_cell? w _ hx124_2)).trans hx124_2; replace hx124_3 := (HB.out.cell (World.block_lt_of_cell? w _ hx124_3)).trans hx124_3; replace hx124_4 := (HB.out.cell (World.block_lt_of_cell? w _ hx124_4)).trans hx124_4; have HR124_0 := Aside0.mk hi124_0; have HC124_0 := Aside0.mk hl124_0; clear hi124_0 hl124_0; replace p124 := eq_true p124; replace q124 := eq_true q124; have p125 : 0 ≤ (x5_2 : Int) := of_decide_eq_true z11_0; have q125 : x5_2 < (l0_2.length : Int) := of_decide_eq_true z11_0; obtain ⟨ad125, A125_0, c125_0, e125, hx125_0, hx125_1, hx125_2, hx125_3, hx125_4, hl125_0, hi125_0⟩ := at_T36 HR0_2.out x5_2 p125 q125; obtain rfl : ad124 = ad125 := (by injection e125); replace hx125_0 := (HB.out.cell (World.block_lt_of_cell? w _ hx125_0)).trans hx125_0; replace hx125_1 := (HB.out.cell (World.block_lt_of_cell? w _ hx125_1)).trans hx125_1; replace hx125_2 := (HB.out.cell (World.block_lt_of_cell? w _ hx125_2)).trans hx125_2; replace hx125_3 := (HB.out.cell (World.block_lt_of_cell? w _ hx125_3)).trans hx125_3; replace hx125_4 := (HB.out.cell (World.block_lt_of_cell? w _ hx125_4)).trans hx125_4; have HR125_0 := Aside0.mk hi125_0; have HC125_0 := Aside0.mk hl125_0; clear hi125_0 hl125_0; replace p125 := eq_true p125; replace q125 := eq_true q125; have ea_ := Option.some.inj (hx124_0.symm.trans hx125_0)
                   injection ea_ with ea_ en_ ec_
                   subst ea_; subst ec_; clear en_; have p126 : 0 ≤ (x6_4 : Int) := of_decide_eq_true z11_0; have q126 : x6_4 < (((rd_T36 l0_2 x5_2).f0).length : Int) := of_decide_eq_true z11_0; obtain ⟨ad126, e126, hx126_0, hx126_1, hx126_2, hx126_3, hx126_4, hx126_5, hx126_6, hx126_7⟩ := at_T38 HR125_0.out x6_4 p126 q126
                   cases e126
                   replace hx126_0 := (HB.out.cell (World.block_lt_of_cell? w _ hx126_0)).trans hx126_0; replace hx126_1 := (HB.out.cell (World.block_lt_of_cell? w _ hx126_1)).trans hx126_1; replace hx126_2 := (HB.out.cell (World.block_lt_of_cell? w _ hx126_2)).trans hx126_2; replace hx126_3 := (HB.out.cell (World.block_lt_of_cell? w _ hx126_3)).trans hx126_3; replace hx126_4 := (HB.out.cell (World.block_lt_of_cell? w _ hx126_4)).trans hx126_4; replace hx126_5 := (HB.out.cell (World.block_lt_of_cell? w _ hx126_5)).trans hx126_5; replace hx126_6 := (HB.out.cell (World.block_lt_of_cell? w _ hx126_6)).trans hx126_6; replace hx126_7 := (HB.out.cell (World.block_lt_of_cell? w _ hx126_7)).trans hx126_7; replace p126 := eq_true p126; replace q126 := eq_true q126; obtain ⟨hcz42_0, hcz42_1, hcz42_2⟩ := bC3 BK118.out; obtain ⟨hfz42_0, hfz42_1, hfz42_2⟩ := bF3 BK118.out; have p127 : 0 ≤ (x5_2 : Int) := of_decide_eq_true z11_0; have q127 : x5_2 < (l1_2.length : Int) := of_decide_eq_true z11_0; obtain ⟨ad127, A127_0, c127_0, e127, hx127_0, hx127_1, hx127_2, hx127_3, hx127_4, hl127_0, hi127_0⟩ := at_T36 HR1_2.out x5_2 p127 q127
                   cases e127
                   replace hx127_0 := (HB.out.cell (World.block_lt_of_cell? w _ hx127_0)).trans hx127_0; replace hx127_1 := (HB.out.cell (World.block_lt_of_cell? w _ hx127_1)).trans hx127_1; replace hx127_2 := (HB.out.cell (World.block_lt_of_cell? w _ hx127_2)).trans hx127_2; replace hx127_3 := (HB.out.cell (World.block_lt_of_cell? w _ hx127_3)).trans hx127_3; replace hx127_4 := (HB.out.cell (World.block_lt_of_cell? w _ hx127_4)).trans hx127_4; have HR127_0 := Aside0.mk hi127_0; have HC127_0 := Aside0.mk hl127_0; clear hi127_0 hl127_0; replace p127 := eq_true p127; replace q127 := eq_true q127; have p128 : 0 ≤ (x6_4 : Int) := of_decide_eq_true z11_0; have q128 : x6_4 < (((rd_T36 l1_2 x5_2).f0).length : Int) := of_decide_eq_true z11_0; obtain ⟨ad128, e128, hx128_0, hx128_1, hx128_2, hx128_3, hx128_4, hx128_5, hx128_6, hx128_7⟩ := at_T38 HR127_0.out x6_4 p128 q128
                   cases e128
                   replace hx128_0 := (HB.out.cell (World.block_lt_of_cell? w _ hx128_0)).trans hx128_0; replace hx128_1 := (HB.out.cell (World.block_lt_of_cell? w _ hx128_1)).trans hx128_1; replace hx128_2 := (HB.out.cell (World.block_lt_of_cell? w _ hx128_2)).trans hx128_2; replace hx128_3 := (HB.out.cell (World.block_lt_of_cell? w _ hx128_3)).trans hx128_3; replace hx128_4 := (HB.out.cell (World.block_lt_of_cell? w _ hx128_4)).trans hx128_4; replace hx128_5 := (HB.out.cell (World.block_lt_of_cell? w _ hx128_5)).trans hx128_5; replace hx128_6 := (HB.out.cell (World.block_lt_of_cell? w _ hx128_6)).trans hx128_6; replace hx128_7 := (HB.out.cell (World.block_lt_of_cell? w _ hx128_7)).trans hx128_7; replace p128 := eq_true p128; replace q128 := eq_true q128
                   go_wp2
                   repeat (go_quiet (fail); try go_wp2)
                   go_ret
                   exact ⟨by first | rfl | (simp [errW_none, errW_some] <;> rfl) | (simp [*, errW_none, errW_some] <;> rfl), by repeat (first | (with_reducible first | exact HB.out | apply below_alloc | apply pw_below_drewN | apply below_drew1 | refine below_set ?_ GE117.out | refine below_set ?_ GE118.out) | exact HB.out)⟩
                  ·rw [if_neg c39] at H
                   have c39b0 : (!(((rd_T38 ((rd_T36 l0_2 x5_2).f0) x6_4).f0) == ((rd_T38 ((rd_T36 l1_2 x5_2).f0) x6_4).f0)) || (!(((rd_T38 ((rd_T36 l0_2 x5_2).f0) x6_4).f1) == ((rd_T38 ((rd_T36 l1_2 x5_2).f0) x6_4).f1)) || (!(((rd_T38 ((rd_T36 l0_2 x5_2).f0) x6_4).f2) == ((rd_T38 ((rd_T36 l1_2 x5_2).f0) x6_4).f2)) || (!(((rd_T38 ((rd_T36 l0_2 x5_2).f0) x6_4).f3) == ((rd_T38 ((rd_T36 l1_2 x5_2).f0) x6_4).f3)) || (!(((rd_T38 ((rd_T36 l0_2 x5_2).f0) x6_4).f4) == ((rd_T38 ((rd_T36 l1_2 x5_2).f0) x6_4).f4)) || (!(((rd_T38 ((rd_T36 l0_2 x5_2).f0) x6_4).f5) == ((rd_T38 ((rd_T36 l1_2 x5_2).f0) x6_4).f5)) || (!(((rd_T38 ((rd_T36 l0_2 x5_2).f0) x6_4).f6) == ((rd_T38 ((rd_T36 l1_2 x5_2).f0) x6_4).f6)) || (!(((rd_T38 ((rd_T36 l0_2 x5_2).f0) x6_4).f7) == ((rd_T38 ((rd_T36 l1_2 x5_2).f0) x6_4).f7)))))))))) = false := by simpa using c39
                   clear c39; have H' := Aside0.mk H; clear H; have hnb43 := NB117_118.out; have hnc43 := NB118_117.out; obtain ⟨hcz44_0, hcz44_1, hcz44_2⟩ := bC3 BK117.out; obtain ⟨hfz44_0, hfz44_1, hfz44_2⟩ := bF3 BK117.out; have p124 : 0 ≤ (x5_2 : Int) := of_decide_eq_true z11_0; have q124 : x5_2 < (l0_2.length : Int) := of_decide_eq_true z11_0; obtain ⟨ad124, A124_0, c124_0, e124, hx124_0, hx124_1, hx124_2, hx124_3, hx124_4, hl124_0, hi124_0⟩ := at_T36 HR0_2.out x5_2 p124 q124
                   cases e124
                   replace hx124_0 := (HB.out.cell (World.block_lt_of_cell? w _ hx124_0)).trans hx124_0; replace hx124_1 := (HB.out.cell (World.block_lt_of_cell? w _ hx124_1)).trans hx124_1; replace hx124_2 := (HB.out.cell (World.block_lt_of_cell? w _ hx124_2)).trans hx124_2; replace hx124_3 := (HB.out.cell (World.block_lt_of_cell? w _ hx124_3)).trans hx124_3; replace hx124_4 := (HB.out.cell (World.block_lt_of_cell? w _ hx124_4)).trans hx124_4; have HR124_0 := Aside0.mk hi124_0; have HC124_0 := Aside0.mk hl124_0; clear hi124_0 hl124_0; replace p124 := eq_true p124; replace q124 := eq_true q124; have p125 : 0 ≤ (x5_2 : Int) := of_decide_eq_true z11_0; have q125 : x5_2 < (l0_2.length : Int) := of_decide_eq_true z11_0; obtain ⟨ad125, A125_0, c125_0, e125, hx125_0, hx125_1, hx125_2, hx125_3, hx125_4, hl125_0, hi125_0⟩ := at_T36 HR0_2.out x5_2 p125 q125; obtain rfl : ad124 = ad125 := (by injection e125); replace hx125_0 := (HB.out.cell (World.block_lt_of_cell? w _ hx125_0)).trans hx125_0; replace hx125_1 := (HB.out.cell (World.block_lt_of_cell? w _ hx125_1)).trans hx125_1; replace hx125_2 := (HB.out.cell (World.block_lt_of_cell? w _ hx125_2)).trans hx125_2; replace hx125_3 := (HB.out.cell (World.block_lt_of_cell? w _ hx125_3)).trans hx125_3; replace hx125_4 := (HB.out.cell (World.block_lt_of_cell? w _ hx125_4)).trans hx125_4; have HR125_0 := Aside0.mk hi125_0; have HC125_0 := Aside0.mk hl125_0; clear hi125_0 hl125_0; replace p125 := eq_true p125; replace q125 := eq_true q125; have ea_ := Option.some.inj (hx124_0.symm.trans hx125_0)
                   injection ea_ with ea_ en_ ec_
                   subst ea_; subst ec_; clear en_; have p126 : 0 ≤ (x6_4 : Int) := of_decide_eq_true z11_0; have q126 : x6_4 < (((rd_T36 l0_2 x5_2).f0).length : Int) := of_decide_eq_true z11_0; obtain ⟨ad126, e126, hx126_0, hx126_1, hx126_2, hx126_3, hx126_4, hx126_5, hx126_6, hx126_7⟩ := at_T38 HR125_0.out x6_4 p126 q126
                   cases e126
                   replace hx126_0 := (HB.out.cell (World.block_lt_of_cell? w _ hx126_0)).trans hx126_0; replace hx126_1 := (HB.out.cell (World.block_lt_of_cell? w _ hx126_1)).trans hx126_1; replace hx126_2 := (HB.out.cell (World.block_lt_of_cell? w _ hx126_2)).trans hx126_2; replace hx126_3 := (HB.out.cell (World.block_lt_of_cell? w _ hx126_3)).trans hx126_3; replace hx126_4 := (HB.out.cell (World.block_lt_of_cell? w _ hx126_4)).trans hx126_4; replace hx126_5 := (HB.out.cell (World.block_lt_of_cell? w _ hx126_5)).trans hx126_5; replace hx126_6 := (HB.out.cell (World.block_lt_of_cell? w _ hx126_6)).trans hx126_6; replace hx126_7 := (HB.out.cell (World.block_lt_of_cell? w _ hx126_7)).trans hx126_7; replace p126 := eq_true p126; replace q126 := eq_true q126; obtain ⟨hcz45_0, hcz45_1, hcz45_2⟩ := bC3 BK118.out; obtain ⟨hfz45_0, hfz45_1, hfz45_2⟩ := bF3 BK118.out; have p127 : 0 ≤ (x5_2 : Int) := of_decide_eq_true z11_0; have q127 : x5_2 < (l1_2.length : Int) := of_decide_eq_true z11_0; obtain ⟨ad127, A127_0, c127_0, e127, hx127_0, hx127_1, hx127_2, hx127_3, hx127_4, hl127_0, hi127_0⟩ := at_T36 HR1_2.out x5_2 p127 q127
                   cases e127
                   replace hx127_0 := (HB.out.cell (World.block_lt_of_cell? w _ hx127_0)).trans hx127_0; replace hx127_1 := (HB.out.cell (World.block_lt_of_cell? w _ hx127_1)).trans hx127_1; replace hx127_2 := (HB.out.cell (World.block_lt_of_cell? w _ hx127_2)).trans hx127_2; replace hx127_3 := (HB.out.cell (World.block_lt_of_cell? w _ hx127_3)).trans hx127_3; replace hx127_4 := (HB.out.cell (World.block_lt_of_cell? w _ hx127_4)).trans hx127_4; have HR127_0 := Aside0.mk hi127_0; have HC127_0 := Aside0.mk hl127_0; clear hi127_0 hl127_0; replace p127 := eq_true p127; replace q127 := eq_true q127; have p128 : 0 ≤ (x6_4 : Int) := of_decide_eq_true z11_0; have q128 : x6_4 < (((rd_T36 l1_2 x5_2).f0).length : Int) := of_decide_eq_true z11_0; obtain ⟨ad128, e128, hx128_0, hx128_1, hx128_2, hx128_3, hx128_4, hx128_5, hx128_6, hx128_7⟩ := at_T38 HR127_0.out x6_4 p128 q128
                   cases e128
                   replace hx128_0 := (HB.out.cell (World.block_lt_of_cell? w _ hx128_0)).trans hx128_0; replace hx128_1 := (HB.out.cell (World.block_lt_of_cell? w _ hx128_1)).trans hx128_1; replace hx128_2 := (HB.out.cell (World.block_lt_of_cell? w _ hx128_2)).trans hx128_2; replace hx128_3 := (HB.out.cell (World.block_lt_of_cell? w _ hx128_3)).trans hx128_3; replace hx128_4 := (HB.out.cell (World.block_lt_of_cell? w _ hx128_4)).trans hx128_4; replace hx128_5 := (HB.out.cell (World.block_lt_of_cell? w _ hx128_5)).trans hx128_5; replace hx128_6 := (HB.out.cell (World.block_lt_of_cell? w _ hx128_6)).trans hx128_6; replace hx128_7 := (HB.out.cell (World.block_lt_of_cell? w _ hx128_7)).trans hx128_7; replace p128 := eq_true p128; replace q128 := eq_true q128
                   go_wp2
                   repeat (go_quiet (fail); try go_wp2)
                   go_roundg k4
                   case measure => have := HJ2.out; have := HK2.out; have := HJ19.out; have := HK4.out; omega
                   case rel => exact ⟨(wrap64 (x6_4 + 1)), z11_4, H', ⟨by have := HJ2.out; have := HK2.out; have := HJ19.out; have := HK4.out; omega⟩, ⟨by (with_reducible repeat (first | refine blk_drewN ?_ _ | refine blk_drew ?_ | refine blk_alloc ?_ _)); exact BK117.out⟩, ⟨by (with_reducible repeat (first | refine blk_drewN ?_ _ | refine blk_drew ?_ | refine blk_alloc ?_ _)); exact BK118.out⟩, ⟨by repeat (first | (with_reducible first | exact HB.out | apply below_alloc | apply pw_below_drewN | apply below_drew1 | refine below_set ?_ GE117.out | refine below_set ?_ GE118.out) | exact HB.out)⟩⟩
                 ·rw [if_neg c38] at H
                  exact absurd H (by simp)
                ·rw [if_neg c37] at H
                 exact absurd H (by simp)
               ·rw [if_neg c36] at H
                exact absurd H (by simp)
              ·rw [if_neg c35] at H
               have c35b0 : decide (x6_4 < (((rd_T36 l0_2 x5_2).f0).length : Int)) = false := decide_eq_false c35; clear c35; have H' := Aside0.mk H; clear H; have hnb46 := NB117_118.out; have hnc46 := NB118_117.out; obtain ⟨hcz47_0, hcz47_1, hcz47_2⟩ := bC3 BK117.out; obtain ⟨hfz47_0, hfz47_1, hfz47_2⟩ := bF3 BK117.out; have p124 : 0 ≤ (x5_2 : Int) := of_decide_eq_true z11_0; have q124 : x5_2 < (l0_2.length : Int) := of_decide_eq_true z11_0; obtain ⟨ad124, A124_0, c124_0, e124, hx124_0, hx124_1, hx124_2, hx124_3, hx124_4, hl124_0, hi124_0⟩ := at_T36 HR0_2.out x5_2 p124 q124
               cases e124
               replace hx124_0 := (HB.out.cell (World.block_lt_of_cell? w _ hx124_0)).trans hx124_0; replace hx124_1 := (HB.out.cell (World.block_lt_of_cell? w _ hx124_1)).trans hx124_1; replace hx124_2 := (HB.out.cell (World.block_lt_of_cell? w _ hx124_2)).trans hx124_2; replace hx124_3 := (HB.out.cell (World.block_lt_of_cell? w _ hx124_3)).trans hx124_3; replace hx124_4 := (HB.out.cell (World.block_lt_of_cell? w _ hx124_4)).trans hx124_4; have HR124_0 := Aside0.mk hi124_0; have HC124_0 := Aside0.mk hl124_0; clear hi124_0 hl124_0; replace p124 := eq_true p124; replace q124 := eq_true q124
               go_wp2
               repeat (go_quiet (fail); try go_wp2)
               go_roundg k4
               case measure => have := HJ2.out; have := HK2.out; have := HJ19.out; have := HK4.out; omega
               case rel => exact ⟨(wrap64 (x5_2 + 1)), z11_4, H', ⟨by have := HJ2.out; have := HK2.out; have := HJ19.out; have := HK4.out; omega⟩, ⟨by (with_reducible repeat (first | refine blk_drewN ?_ _ | refine blk_drew ?_ | refine blk_alloc ?_ _)); exact BK117.out⟩, ⟨by (with_reducible repeat (first | refine blk_drewN ?_ _ | refine blk_drew ?_ | refine blk_alloc ?_ _)); exact BK118.out⟩, ⟨by repeat (first | (with_reducible first | exact HB.out | apply below_alloc | apply pw_below_drewN | apply below_drew1 | refine below_set ?_ GE117.out | refine below_set ?_ GE118.out) | exact HB.out)⟩⟩
             ·rw [if_neg c34] at H
              exact absurd H (by simp)
            ·rw [if_neg c33] at H
             exact absurd H (by simp)
      ·rw [if_neg c19] at H
       have c19b0 : decide (x5_2 < (l0_2.length : Int)) = false := decide_eq_false c19; clear c19; obtain rfl := Option.some.inj H; have hnb48 := NB117_118.out; have hnc48 := NB118_117.out; obtain ⟨hcz49_0, hcz49_1, hcz49_2⟩ := bC3 BK117.out; obtain ⟨hfz49_0, hfz49_1, hfz49_2⟩ := bF3 BK117.out
       go_wp2
       repeat (go_quiet (fail); try go_wp2)
       go_ret
       exact ⟨by first | rfl | (simp [errW_none, errW_some] <;> rfl) | (simp [*, errW_none, errW_some] <;> rfl), by repeat (first | (with_reducible first | exact HB.out | apply below_alloc | apply pw_below_drewN | apply below_drew1 | refine below_set ?_ GE117.out | refine below_set ?_ GE118.out) | exact HB.out)⟩

/-! ### ir_ends: function 61 -/
def ir_ends.f (a0_0 : Int) (a0_1 : Int) (a0_2 : Int) (a0_3 : Int) (a1_0 : Int) (l1_1 : List Int) (l1_2 : List (S36)) : Option (Bool) := if a0_0 = 1 then ((ir_within.f true a0_2 (l1_2.length : Int)).bind fun t131 => (if t131 = true then (if a0_1 = 0 then (some (a0_3 == 0)) else (some false)) else (some false))) else (if a0_0 = 2 then ((ir_within.f true a0_2 (l1_2.length : Int)).bind fun t132 => (if t132 = true then ((ir_within.f true a0_3 (l1_2.length : Int)).bind fun t133 => (if t133 = true then ((ir_within.f true a0_1 a1_0).bind fun t134 => (some t134)) else (some false))) else (some false))) else (if a0_0 = 3 then (some (a0_0 == 3 && (a0_1 == 0 && (a0_2 == 0 && (a0_3 == 0))))) else (some false)))
theorem z61_0 {p : Prop} (h : p := by repeat (first | (with_reducible first | exact HB.out | apply below_alloc | apply pw_below_drewN | apply below_drew1 | refine below_set ?_ GE129.out) | exact HB.out)) : p := h
theorem z61_1 {p : Prop} (h : p := by repeat (first | (with_reducible first | exact HB.out | apply below_alloc | apply pw_below_drewN | apply below_drew1) | exact HB.out)) : p := h
theorem z61_2 {p : Prop} (h : p := by (with_reducible repeat (first | refine blk_drewN ?_ _ | refine blk_drew ?_ | refine blk_alloc ?_ _)); exact BK129.out) : p := h
theorem z61_3 {p : Prop} (h : p := by (try simp only [List.map_toArray, List.map_cons, List.map_nil]); first | done | rfl | (simp only [List.length_drop, List.length_take]; rfl)) : p := h
set_option maxHeartbeats 8000000 in
set_option maxRecDepth 100000 in
theorem ir_ends.calls (a0_0 : Int) (a0_1 : Int) (a0_2 : Int) (a0_3 : Int) (a1_0 : Int) (A1_1 : Option Addr) (c1_1 : Nat) (l1_1 : List Int) (A1_2 : Option Addr) (c1_2 : Nat) (l1_2 : List (S36)) (r : Bool) (w : World) (hr1_1 : Kd.C (Kd.int .i64) w A1_1 l1_1.length l1_1) (hc1_1 : l1_1.length ≤ c1_1) (hr1_2 : Kd.C k36 w A1_2 l1_2.length l1_2) (hc1_2 : l1_2.length ≤ c1_2) (h : ir_ends.f a0_0 a0_1 a0_2 a0_3 a1_0 l1_1 l1_2 = some r) :
  Calls Tryd.prog 61 #[.agg #[.int .i64 a0_0, .int .i64 a0_1, .int .i64 a0_2, .int .i64 a0_3], .agg #[.int .i64 a1_0, .slice A1_1 l1_1.length c1_1, .slice A1_2 l1_2.length c1_2]] w fun e w' => e = .returned (.bool r) ∧ Below w.heap.size w w' := by
 have hu34 := Tryd.underlying34; have hu25 := Tryd.underlying25; have HR1_1 := Aside0.mk hr1_1; have HC1_1 := Aside0.mk hc1_1; clear hr1_1 hc1_1; have HR1_2 := Aside0.mk hr1_2; have HC1_2 := Aside0.mk hc1_2; clear hr1_2 hc1_2; have HB := Aside0.mk (Below.refl w.heap.size w); have H : (if a0_0 = 1 then ((ir_within.f true a0_2 (l1_2.length : Int)).bind fun t131 => (if t131 = true then (if a0_1 = 0 then (some (a0_3 == 0)) else (some false)) else (some false))) else (if a0_0 = 2 then ((ir_within.f true a0_2 (l1_2.length : Int)).bind fun t132 => (if t132 = true then ((ir_within.f true a0_3 (l1_2.length : Int)).bind fun t133 => (if t133 = true then ((ir_within.f true a0_1 a1_0).bind fun t134 => (some t134)) else (some false))) else (some false))) else (if a0_0 = 3 then (some (a0_0 == 3 && (a0_1 == 0 && (a0_2 == 0 && (a0_3 == 0))))) else (some false)))) = some r := h; clear h
 by_cases c3 : a0_0 = 1
 ·rw [if_pos c3] at H
  have c3b0 : (a0_0 == 1) = true := beq_iff_eq.mpr c3; have c3b1 : (a0_0 != 1) = false := bne_eq_false_iff_eq.mpr c3; clear c3; replace H := Option.bind_eq_some_iff.mp H; obtain ⟨t131, A40, H⟩ := H; replace H : (if t131 = true then (if a0_1 = 0 then (some (a0_3 == 0)) else (some false)) else (some false)) = some r := H; have A4 := Aside0.mk A40; clear A40
  by_cases c5 : t131 = true
  ·subst c5
   have H1 : (if a0_1 = 0 then (some (a0_3 == 0)) else (some false)) = some r := by rw [if_pos rfl] at H; exact H
   clear H; have H := H1; clear H1
   by_cases c6 : a0_1 = 0
   ·rw [if_pos c6] at H
    have c6b0 : (a0_1 == 0) = true := beq_iff_eq.mpr c6; have c6b1 : (a0_1 != 0) = false := bne_eq_false_iff_eq.mpr c6; clear c6; obtain rfl := Option.some.inj H
    go_enter Tryd.func61, Tryd.ntmps61
    go_wp2_with (first | ((with_reducible refine gate_dst (N := 2) rfl ?_); refine box_event ?hg (N := 2) ?hd (cs := #[.int .i64 a0_0, .int .i64 a0_1, .int .i64 a0_2, .int .i64 a0_3]) (t := 34) ?hr ?_; (case hd => rfl); (case hg => rfl); (case hr => first | (go_simp; done) | (go_simp; rfl)); intro gb129 hg w7 hbox hb; have n0_ := Aside0.mk (below_step z61_1 hb); have n1_ := Aside0.mk (hbox); have n2_ := Aside0.mk ((by rw [hg]; exact (below_size z61_1) : w.heap.size ≤ gb129)); have n3_ := n2_; clear HB; revert n0_ n1_ n2_ n3_; intro HB BK129 GW129 GE129; clear hb hbox hg) | ((with_reducible refine gate_dst (N := 3) rfl ?_); refine box_event ?hg (N := 3) ?hd (cs := #[.int .i64 a1_0, .slice A1_1 l1_1.length c1_1, .slice A1_2 l1_2.length c1_2]) (t := 25) ?hr ?_; (case hd => rfl); (case hg => rfl); (case hr => first | (go_simp; done) | (go_simp; rfl)); intro gb130 hg w8 hbox hb; have n0_ := Aside0.mk (blk_below (g := gb129) (o := .cells #[.int .i64 a0_0, .int .i64 a0_1, .int .i64 a0_2, .int .i64 a0_3] 34 (0, 0)) z61_2 hb); have n1_ := Aside0.mk (below_step z61_0 hb); have n2_ := Aside0.mk (hbox); have n3_ := Aside0.mk ((by rw [hg]; exact (below_size z61_0) : w.heap.size ≤ gb130)); have n4_ := n3_; have n5_ := Aside0.mk ((by rw [hg]; exact Nat.ne_of_lt (blk_lt (g := gb129) (o := .cells #[.int .i64 a0_0, .int .i64 a0_1, .int .i64 a0_2, .int .i64 a0_3] 34 (0, 0)) z61_2) : gb129 ≠ gb130)); have n6_ := Aside0.mk (Ne.symm n5_.out); clear BK129 HB; revert n0_ n1_ n2_ n3_ n4_ n5_ n6_; intro BK129 HB BK130 GW130 GE130 NB129_130 NB130_129; clear hb hbox hg; have hnb9 := NB130_129.out; have hnc9 := NB129_130.out; have hcz10_0 : w8.cell? ⟨gb130, 0, none⟩ = some (.int .i64 a1_0) := (blk_cell BK130.out 0).trans rfl; have hcz10_1 : w8.cell? ⟨gb130, 1, none⟩ = some (.slice A1_1 l1_1.length c1_1) := (blk_cell BK130.out 1).trans rfl; have hcz10_2 : w8.cell? ⟨gb130, 2, none⟩ = some (.slice A1_2 l1_2.length c1_2) := (blk_cell BK130.out 2).trans rfl; have hfz10_0 := blk_frozen BK130.out 0; have hfz10_1 := blk_frozen BK130.out 1; have hfz10_2 := blk_frozen BK130.out 2; have hcz11_0 : w8.cell? ⟨gb129, 0, none⟩ = some (.int .i64 a0_0) := (blk_cell BK129.out 0).trans rfl; have hcz11_1 : w8.cell? ⟨gb129, 1, none⟩ = some (.int .i64 a0_1) := (blk_cell BK129.out 1).trans rfl; have hcz11_2 : w8.cell? ⟨gb129, 2, none⟩ = some (.int .i64 a0_2) := (blk_cell BK129.out 2).trans rfl; have hcz11_3 : w8.cell? ⟨gb129, 3, none⟩ = some (.int .i64 a0_3) := (blk_cell BK129.out 3).trans rfl; have hfz11_0 := blk_frozen BK129.out 0; have hfz11_1 := blk_frozen BK129.out 1; have hfz11_2 := blk_frozen BK129.out 2; have hfz11_3 := blk_frozen BK129.out 3) | ((with_reducible refine gate_callee (f := 69) rfl ?_); refine goesL_ (some 16) rfl rfl Tryd.func69 (by kernel_rfl) rfl #[.bool true, .int .i64 a0_2, .int .i64 (l1_2.length : Int)] rfl z61_3 ?_; (with_reducible refine (ir_within.calls true a0_2 (l1_2.length : Int) true _ A4.out).mono ?_); rintro e w' ⟨rfl, ⟨nd, rfl⟩⟩; refine ⟨_, rfl, ?_⟩))
    go_ret
    exact ⟨by first | rfl | (simp [errW_none, errW_some] <;> rfl) | (simp [*, errW_none, errW_some] <;> rfl), by repeat (first | (with_reducible first | exact HB.out | apply below_alloc | apply pw_below_drewN | apply below_drew1 | refine below_set ?_ GE129.out | refine below_set ?_ GE130.out) | exact HB.out)⟩
   ·rw [if_neg c6] at H
    have c6b0 : (a0_1 == 0) = false := beq_eq_false_iff_ne.mpr c6; have c6b1 : (a0_1 != 0) = true := bne_iff_ne.mpr c6; obtain rfl := Option.some.inj H
    go_enter Tryd.func61, Tryd.ntmps61
    go_wp2_with (first | ((with_reducible refine gate_dst (N := 2) rfl ?_); refine box_event ?hg (N := 2) ?hd (cs := #[.int .i64 a0_0, .int .i64 a0_1, .int .i64 a0_2, .int .i64 a0_3]) (t := 34) ?hr ?_; (case hd => rfl); (case hg => rfl); (case hr => first | (go_simp; done) | (go_simp; rfl)); intro gb129 hg w12 hbox hb; have n0_ := Aside0.mk (below_step z61_1 hb); have n1_ := Aside0.mk (hbox); have n2_ := Aside0.mk ((by rw [hg]; exact (below_size z61_1) : w.heap.size ≤ gb129)); have n3_ := n2_; clear HB; revert n0_ n1_ n2_ n3_; intro HB BK129 GW129 GE129; clear hb hbox hg) | ((with_reducible refine gate_dst (N := 3) rfl ?_); refine box_event ?hg (N := 3) ?hd (cs := #[.int .i64 a1_0, .slice A1_1 l1_1.length c1_1, .slice A1_2 l1_2.length c1_2]) (t := 25) ?hr ?_; (case hd => rfl); (case hg => rfl); (case hr => first | (go_simp; done) | (go_simp; rfl)); intro gb130 hg w13 hbox hb; have n0_ := Aside0.mk (blk_below (g := gb129) (o := .cells #[.int .i64 a0_0, .int .i64 a0_1, .int .i64 a0_2, .int .i64 a0_3] 34 (0, 0)) z61_2 hb); have n1_ := Aside0.mk (below_step z61_0 hb); have n2_ := Aside0.mk (hbox); have n3_ := Aside0.mk ((by rw [hg]; exact (below_size z61_0) : w.heap.size ≤ gb130)); have n4_ := n3_; have n5_ := Aside0.mk ((by rw [hg]; exact Nat.ne_of_lt (blk_lt (g := gb129) (o := .cells #[.int .i64 a0_0, .int .i64 a0_1, .int .i64 a0_2, .int .i64 a0_3] 34 (0, 0)) z61_2) : gb129 ≠ gb130)); have n6_ := Aside0.mk (Ne.symm n5_.out); clear BK129 HB; revert n0_ n1_ n2_ n3_ n4_ n5_ n6_; intro BK129 HB BK130 GW130 GE130 NB129_130 NB130_129; clear hb hbox hg; have hnb14 := NB130_129.out; have hnc14 := NB129_130.out; have hcz15_0 : w13.cell? ⟨gb130, 0, none⟩ = some (.int .i64 a1_0) := (blk_cell BK130.out 0).trans rfl; have hcz15_1 : w13.cell? ⟨gb130, 1, none⟩ = some (.slice A1_1 l1_1.length c1_1) := (blk_cell BK130.out 1).trans rfl; have hcz15_2 : w13.cell? ⟨gb130, 2, none⟩ = some (.slice A1_2 l1_2.length c1_2) := (blk_cell BK130.out 2).trans rfl; have hfz15_0 := blk_frozen BK130.out 0; have hfz15_1 := blk_frozen BK130.out 1; have hfz15_2 := blk_frozen BK130.out 2; have hcz16_0 : w13.cell? ⟨gb129, 0, none⟩ = some (.int .i64 a0_0) := (blk_cell BK129.out 0).trans rfl; have hcz16_1 : w13.cell? ⟨gb129, 1, none⟩ = some (.int .i64 a0_1) := (blk_cell BK129.out 1).trans rfl; have hcz16_2 : w13.cell? ⟨gb129, 2, none⟩ = some (.int .i64 a0_2) := (blk_cell BK129.out 2).trans rfl; have hcz16_3 : w13.cell? ⟨gb129, 3, none⟩ = some (.int .i64 a0_3) := (blk_cell BK129.out 3).trans rfl; have hfz16_0 := blk_frozen BK129.out 0; have hfz16_1 := blk_frozen BK129.out 1; have hfz16_2 := blk_frozen BK129.out 2; have hfz16_3 := blk_frozen BK129.out 3) | ((with_reducible refine gate_callee (f := 69) rfl ?_); refine goesL_ (some 16) rfl rfl Tryd.func69 (by kernel_rfl) rfl #[.bool true, .int .i64 a0_2, .int .i64 (l1_2.length : Int)] rfl z61_3 ?_; (with_reducible refine (ir_within.calls true a0_2 (l1_2.length : Int) true _ A4.out).mono ?_); rintro e w' ⟨rfl, ⟨nd, rfl⟩⟩; refine ⟨_, rfl, ?_⟩))
    go_ret
    exact ⟨by first | rfl | (simp [errW_none, errW_some] <;> rfl) | (simp [*, errW_none, errW_some] <;> rfl), by repeat (first | (with_reducible first | exact HB.out | apply below_alloc | apply pw_below_drewN | apply below_drew1 | refine below_set ?_ GE129.out | refine below_set ?_ GE130.out) | exact HB.out)⟩
  ·replace c5 := Bool.eq_false_iff.mpr c5
   subst c5
   have H1 : (some false) = some r := by rw [if_neg (show ¬ (false = true) by decide)] at H; exact H
   clear H; have H := H1; clear H1; obtain rfl := Option.some.inj H
   go_enter Tryd.func61, Tryd.ntmps61
   go_wp2_with (first | ((with_reducible refine gate_dst (N := 2) rfl ?_); refine box_event ?hg (N := 2) ?hd (cs := #[.int .i64 a0_0, .int .i64 a0_1, .int .i64 a0_2, .int .i64 a0_3]) (t := 34) ?hr ?_; (case hd => rfl); (case hg => rfl); (case hr => first | (go_simp; done) | (go_simp; rfl)); intro gb129 hg w17 hbox hb; have n0_ := Aside0.mk (below_step z61_1 hb); have n1_ := Aside0.mk (hbox); have n2_ := Aside0.mk ((by rw [hg]; exact (below_size z61_1) : w.heap.size ≤ gb129)); have n3_ := n2_; clear HB; revert n0_ n1_ n2_ n3_; intro HB BK129 GW129 GE129; clear hb hbox hg) | ((with_reducible refine gate_dst (N := 3) rfl ?_); refine box_event ?hg (N := 3) ?hd (cs := #[.int .i64 a1_0, .slice A1_1 l1_1.length c1_1, .slice A1_2 l1_2.length c1_2]) (t := 25) ?hr ?_; (case hd => rfl); (case hg => rfl); (case hr => first | (go_simp; done) | (go_simp; rfl)); intro gb130 hg w18 hbox hb; have n0_ := Aside0.mk (blk_below (g := gb129) (o := .cells #[.int .i64 a0_0, .int .i64 a0_1, .int .i64 a0_2, .int .i64 a0_3] 34 (0, 0)) z61_2 hb); have n1_ := Aside0.mk (below_step z61_0 hb); have n2_ := Aside0.mk (hbox); have n3_ := Aside0.mk ((by rw [hg]; exact (below_size z61_0) : w.heap.size ≤ gb130)); have n4_ := n3_; have n5_ := Aside0.mk ((by rw [hg]; exact Nat.ne_of_lt (blk_lt (g := gb129) (o := .cells #[.int .i64 a0_0, .int .i64 a0_1, .int .i64 a0_2, .int .i64 a0_3] 34 (0, 0)) z61_2) : gb129 ≠ gb130)); have n6_ := Aside0.mk (Ne.symm n5_.out); clear BK129 HB; revert n0_ n1_ n2_ n3_ n4_ n5_ n6_; intro BK129 HB BK130 GW130 GE130 NB129_130 NB130_129; clear hb hbox hg; have hnb19 := NB130_129.out; have hnc19 := NB129_130.out; have hcz20_0 : w18.cell? ⟨gb130, 0, none⟩ = some (.int .i64 a1_0) := (blk_cell BK130.out 0).trans rfl; have hcz20_1 : w18.cell? ⟨gb130, 1, none⟩ = some (.slice A1_1 l1_1.length c1_1) := (blk_cell BK130.out 1).trans rfl; have hcz20_2 : w18.cell? ⟨gb130, 2, none⟩ = some (.slice A1_2 l1_2.length c1_2) := (blk_cell BK130.out 2).trans rfl; have hfz20_0 := blk_frozen BK130.out 0; have hfz20_1 := blk_frozen BK130.out 1; have hfz20_2 := blk_frozen BK130.out 2; have hcz21_0 : w18.cell? ⟨gb129, 0, none⟩ = some (.int .i64 a0_0) := (blk_cell BK129.out 0).trans rfl; have hcz21_1 : w18.cell? ⟨gb129, 1, none⟩ = some (.int .i64 a0_1) := (blk_cell BK129.out 1).trans rfl; have hcz21_2 : w18.cell? ⟨gb129, 2, none⟩ = some (.int .i64 a0_2) := (blk_cell BK129.out 2).trans rfl; have hcz21_3 : w18.cell? ⟨gb129, 3, none⟩ = some (.int .i64 a0_3) := (blk_cell BK129.out 3).trans rfl; have hfz21_0 := blk_frozen BK129.out 0; have hfz21_1 := blk_frozen BK129.out 1; have hfz21_2 := blk_frozen BK129.out 2; have hfz21_3 := blk_frozen BK129.out 3) | ((with_reducible refine gate_callee (f := 69) rfl ?_); refine goesL_ (some 16) rfl rfl Tryd.func69 (by kernel_rfl) rfl #[.bool true, .int .i64 a0_2, .int .i64 (l1_2.length : Int)] rfl z61_3 ?_; (with_reducible refine (ir_within.calls true a0_2 (l1_2.length : Int) false _ A4.out).mono ?_); rintro e w' ⟨rfl, ⟨nd, rfl⟩⟩; refine ⟨_, rfl, ?_⟩))
   go_ret
   exact ⟨by first | rfl | (simp [errW_none, errW_some] <;> rfl) | (simp [*, errW_none, errW_some] <;> rfl), by repeat (first | (with_reducible first | exact HB.out | apply below_alloc | apply pw_below_drewN | apply below_drew1 | refine below_set ?_ GE129.out | refine below_set ?_ GE130.out) | exact HB.out)⟩
 ·rw [if_neg c3] at H
  have c3b0 : (a0_0 == 1) = false := beq_eq_false_iff_ne.mpr c3; have c3b1 : (a0_0 != 1) = true := bne_iff_ne.mpr c3
  by_cases c22 : a0_0 = 2
  ·rw [if_pos c22] at H
   have c22b0 : (a0_0 == 2) = true := beq_iff_eq.mpr c22; have c22b1 : (a0_0 != 2) = false := bne_eq_false_iff_eq.mpr c22; clear c22; replace H := Option.bind_eq_some_iff.mp H; obtain ⟨t132, A230, H⟩ := H; replace H : (if t132 = true then ((ir_within.f true a0_3 (l1_2.length : Int)).bind fun t133 => (if t133 = true then ((ir_within.f true a0_1 a1_0).bind fun t134 => (some t134)) else (some false))) else (some false)) = some r := H; have A23 := Aside0.mk A230; clear A230
   by_cases c24 : t132 = true
   ·subst c24
    have H1 : ((ir_within.f true a0_3 (l1_2.length : Int)).bind fun t133 => (if t133 = true then ((ir_within.f true a0_1 a1_0).bind fun t134 => (some t134)) else (some false))) = some r := by rw [if_pos rfl] at H; exact H
    clear H; have H := H1; clear H1; replace H := Option.bind_eq_some_iff.mp H; obtain ⟨t133, A250, H⟩ := H; replace H : (if t133 = true then ((ir_within.f true a0_1 a1_0).bind fun t134 => (some t134)) else (some false)) = some r := H; have A25 := Aside0.mk A250; clear A250
    by_cases c26 : t133 = true
    ·subst c26
     have H1 : ((ir_within.f true a0_1 a1_0).bind fun t134 => (some t134)) = some r := by rw [if_pos rfl] at H; exact H
     clear H; have H := H1; clear H1; replace H := Option.bind_eq_some_iff.mp H; obtain ⟨t134, A270, H⟩ := H; replace H : (some t134) = some r := H; have A27 := Aside0.mk A270; clear A270; obtain rfl := Option.some.inj H
     go_enter Tryd.func61, Tryd.ntmps61
     go_wp2_with (first | ((with_reducible refine gate_dst (N := 2) rfl ?_); refine box_event ?hg (N := 2) ?hd (cs := #[.int .i64 a0_0, .int .i64 a0_1, .int .i64 a0_2, .int .i64 a0_3]) (t := 34) ?hr ?_; (case hd => rfl); (case hg => rfl); (case hr => first | (go_simp; done) | (go_simp; rfl)); intro gb129 hg w28 hbox hb; have n0_ := Aside0.mk (below_step z61_1 hb); have n1_ := Aside0.mk (hbox); have n2_ := Aside0.mk ((by rw [hg]; exact (below_size z61_1) : w.heap.size ≤ gb129)); have n3_ := n2_; clear HB; revert n0_ n1_ n2_ n3_; intro HB BK129 GW129 GE129; clear hb hbox hg) | ((with_reducible refine gate_dst (N := 3) rfl ?_); refine box_event ?hg (N := 3) ?hd (cs := #[.int .i64 a1_0, .slice A1_1 l1_1.length c1_1, .slice A1_2 l1_2.length c1_2]) (t := 25) ?hr ?_; (case hd => rfl); (case hg => rfl); (case hr => first | (go_simp; done) | (go_simp; rfl)); intro gb130 hg w29 hbox hb; have n0_ := Aside0.mk (blk_below (g := gb129) (o := .cells #[.int .i64 a0_0, .int .i64 a0_1, .int .i64 a0_2, .int .i64 a0_3] 34 (0, 0)) z61_2 hb); have n1_ := Aside0.mk (below_step z61_0 hb); have n2_ := Aside0.mk (hbox); have n3_ := Aside0.mk ((by rw [hg]; exact (below_size z61_0) : w.heap.size ≤ gb130)); have n4_ := n3_; have n5_ := Aside0.mk ((by rw [hg]; exact Nat.ne_of_lt (blk_lt (g := gb129) (o := .cells #[.int .i64 a0_0, .int .i64 a0_1, .int .i64 a0_2, .int .i64 a0_3] 34 (0, 0)) z61_2) : gb129 ≠ gb130)); have n6_ := Aside0.mk (Ne.symm n5_.out); clear BK129 HB; revert n0_ n1_ n2_ n3_ n4_ n5_ n6_; intro BK129 HB BK130 GW130 GE130 NB129_130 NB130_129; clear hb hbox hg; have hnb30 := NB130_129.out; have hnc30 := NB129_130.out; have hcz31_0 : w29.cell? ⟨gb130, 0, none⟩ = some (.int .i64 a1_0) := (blk_cell BK130.out 0).trans rfl; have hcz31_1 : w29.cell? ⟨gb130, 1, none⟩ = some (.slice A1_1 l1_1.length c1_1) := (blk_cell BK130.out 1).trans rfl; have hcz31_2 : w29.cell? ⟨gb130, 2, none⟩ = some (.slice A1_2 l1_2.length c1_2) := (blk_cell BK130.out 2).trans rfl; have hfz31_0 := blk_frozen BK130.out 0; have hfz31_1 := blk_frozen BK130.out 1; have hfz31_2 := blk_frozen BK130.out 2; have hcz32_0 : w29.cell? ⟨gb129, 0, none⟩ = some (.int .i64 a0_0) := (blk_cell BK129.out 0).trans rfl; have hcz32_1 : w29.cell? ⟨gb129, 1, none⟩ = some (.int .i64 a0_1) := (blk_cell BK129.out 1).trans rfl; have hcz32_2 : w29.cell? ⟨gb129, 2, none⟩ = some (.int .i64 a0_2) := (blk_cell BK129.out 2).trans rfl; have hcz32_3 : w29.cell? ⟨gb129, 3, none⟩ = some (.int .i64 a0_3) := (blk_cell BK129.out 3).trans rfl; have hfz32_0 := blk_frozen BK129.out 0; have hfz32_1 := blk_frozen BK129.out 1; have hfz32_2 := blk_frozen BK129.out 2; have hfz32_3 := blk_frozen BK129.out 3) | ((with_reducible refine gate_callee (f := 69) rfl ?_); refine goesL_ (some 32) rfl rfl Tryd.func69 (by kernel_rfl) rfl #[.bool true, .int .i64 a0_2, .int .i64 (l1_2.length : Int)] rfl z61_3 ?_; (with_reducible refine (ir_within.calls true a0_2 (l1_2.length : Int) true _ A23.out).mono ?_); rintro e w' ⟨rfl, ⟨nd, rfl⟩⟩; refine ⟨_, rfl, ?_⟩) | (go_at_call 69; (with_reducible refine (ir_within.calls true a0_3 (l1_2.length : Int) true _ A25.out).mono ?_); rintro e w' ⟨rfl, ⟨nd, rfl⟩⟩) | (go_at_call 69; (with_reducible refine (ir_within.calls true a0_1 a1_0 t134 _ A27.out).mono ?_); rintro e w' ⟨rfl, ⟨nd, rfl⟩⟩))
     go_ret
     exact ⟨by first | rfl | (simp [errW_none, errW_some] <;> rfl) | (simp [*, errW_none, errW_some] <;> rfl), by repeat (first | (with_reducible first | exact HB.out | apply below_alloc | apply pw_below_drewN | apply below_drew1 | refine below_set ?_ GE129.out | refine below_set ?_ GE130.out) | exact HB.out)⟩
    ·replace c26 := Bool.eq_false_iff.mpr c26
     subst c26
     have H1 : (some false) = some r := by rw [if_neg (show ¬ (false = true) by decide)] at H; exact H
     clear H; have H := H1; clear H1; obtain rfl := Option.some.inj H
     go_enter Tryd.func61, Tryd.ntmps61
     go_wp2_with (first | ((with_reducible refine gate_dst (N := 2) rfl ?_); refine box_event ?hg (N := 2) ?hd (cs := #[.int .i64 a0_0, .int .i64 a0_1, .int .i64 a0_2, .int .i64 a0_3]) (t := 34) ?hr ?_; (case hd => rfl); (case hg => rfl); (case hr => first | (go_simp; done) | (go_simp; rfl)); intro gb129 hg w33 hbox hb; have n0_ := Aside0.mk (below_step z61_1 hb); have n1_ := Aside0.mk (hbox); have n2_ := Aside0.mk ((by rw [hg]; exact (below_size z61_1) : w.heap.size ≤ gb129)); have n3_ := n2_; clear HB; revert n0_ n1_ n2_ n3_; intro HB BK129 GW129 GE129; clear hb hbox hg) | ((with_reducible refine gate_dst (N := 3) rfl ?_); refine box_event ?hg (N := 3) ?hd (cs := #[.int .i64 a1_0, .slice A1_1 l1_1.length c1_1, .slice A1_2 l1_2.length c1_2]) (t := 25) ?hr ?_; (case hd => rfl); (case hg => rfl); (case hr => first | (go_simp; done) | (go_simp; rfl)); intro gb130 hg w34 hbox hb; have n0_ := Aside0.mk (blk_below (g := gb129) (o := .cells #[.int .i64 a0_0, .int .i64 a0_1, .int .i64 a0_2, .int .i64 a0_3] 34 (0, 0)) z61_2 hb); have n1_ := Aside0.mk (below_step z61_0 hb); have n2_ := Aside0.mk (hbox); have n3_ := Aside0.mk ((by rw [hg]; exact (below_size z61_0) : w.heap.size ≤ gb130)); have n4_ := n3_; have n5_ := Aside0.mk ((by rw [hg]; exact Nat.ne_of_lt (blk_lt (g := gb129) (o := .cells #[.int .i64 a0_0, .int .i64 a0_1, .int .i64 a0_2, .int .i64 a0_3] 34 (0, 0)) z61_2) : gb129 ≠ gb130)); have n6_ := Aside0.mk (Ne.symm n5_.out); clear BK129 HB; revert n0_ n1_ n2_ n3_ n4_ n5_ n6_; intro BK129 HB BK130 GW130 GE130 NB129_130 NB130_129; clear hb hbox hg; have hnb35 := NB130_129.out; have hnc35 := NB129_130.out; have hcz36_0 : w34.cell? ⟨gb130, 0, none⟩ = some (.int .i64 a1_0) := (blk_cell BK130.out 0).trans rfl; have hcz36_1 : w34.cell? ⟨gb130, 1, none⟩ = some (.slice A1_1 l1_1.length c1_1) := (blk_cell BK130.out 1).trans rfl; have hcz36_2 : w34.cell? ⟨gb130, 2, none⟩ = some (.slice A1_2 l1_2.length c1_2) := (blk_cell BK130.out 2).trans rfl; have hfz36_0 := blk_frozen BK130.out 0; have hfz36_1 := blk_frozen BK130.out 1; have hfz36_2 := blk_frozen BK130.out 2; have hcz37_0 : w34.cell? ⟨gb129, 0, none⟩ = some (.int .i64 a0_0) := (blk_cell BK129.out 0).trans rfl; have hcz37_1 : w34.cell? ⟨gb129, 1, none⟩ = some (.int .i64 a0_1) := (blk_cell BK129.out 1).trans rfl; have hcz37_2 : w34.cell? ⟨gb129, 2, none⟩ = some (.int .i64 a0_2) := (blk_cell BK129.out 2).trans rfl; have hcz37_3 : w34.cell? ⟨gb129, 3, none⟩ = some (.int .i64 a0_3) := (blk_cell BK129.out 3).trans rfl; have hfz37_0 := blk_frozen BK129.out 0; have hfz37_1 := blk_frozen BK129.out 1; have hfz37_2 := blk_frozen BK129.out 2; have hfz37_3 := blk_frozen BK129.out 3) | ((with_reducible refine gate_callee (f := 69) rfl ?_); refine goesL_ (some 32) rfl rfl Tryd.func69 (by kernel_rfl) rfl #[.bool true, .int .i64 a0_2, .int .i64 (l1_2.length : Int)] rfl z61_3 ?_; (with_reducible refine (ir_within.calls true a0_2 (l1_2.length : Int) true _ A23.out).mono ?_); rintro e w' ⟨rfl, ⟨nd, rfl⟩⟩; refine ⟨_, rfl, ?_⟩) | (go_at_call 69; (with_reducible refine (ir_within.calls true a0_3 (l1_2.length : Int) false _ A25.out).mono ?_); rintro e w' ⟨rfl, ⟨nd, rfl⟩⟩))
     go_ret
     exact ⟨by first | rfl | (simp [errW_none, errW_some] <;> rfl) | (simp [*, errW_none, errW_some] <;> rfl), by repeat (first | (with_reducible first | exact HB.out | apply below_alloc | apply pw_below_drewN | apply below_drew1 | refine below_set ?_ GE129.out | refine below_set ?_ GE130.out) | exact HB.out)⟩
   ·replace c24 := Bool.eq_false_iff.mpr c24
    subst c24
    have H1 : (some false) = some r := by rw [if_neg (show ¬ (false = true) by decide)] at H; exact H
    clear H; have H := H1; clear H1; obtain rfl := Option.some.inj H
    go_enter Tryd.func61, Tryd.ntmps61
    go_wp2_with (first | ((with_reducible refine gate_dst (N := 2) rfl ?_); refine box_event ?hg (N := 2) ?hd (cs := #[.int .i64 a0_0, .int .i64 a0_1, .int .i64 a0_2, .int .i64 a0_3]) (t := 34) ?hr ?_; (case hd => rfl); (case hg => rfl); (case hr => first | (go_simp; done) | (go_simp; rfl)); intro gb129 hg w38 hbox hb; have n0_ := Aside0.mk (below_step z61_1 hb); have n1_ := Aside0.mk (hbox); have n2_ := Aside0.mk ((by rw [hg]; exact (below_size z61_1) : w.heap.size ≤ gb129)); have n3_ := n2_; clear HB; revert n0_ n1_ n2_ n3_; intro HB BK129 GW129 GE129; clear hb hbox hg) | ((with_reducible refine gate_dst (N := 3) rfl ?_); refine box_event ?hg (N := 3) ?hd (cs := #[.int .i64 a1_0, .slice A1_1 l1_1.length c1_1, .slice A1_2 l1_2.length c1_2]) (t := 25) ?hr ?_; (case hd => rfl); (case hg => rfl); (case hr => first | (go_simp; done) | (go_simp; rfl)); intro gb130 hg w39 hbox hb; have n0_ := Aside0.mk (blk_below (g := gb129) (o := .cells #[.int .i64 a0_0, .int .i64 a0_1, .int .i64 a0_2, .int .i64 a0_3] 34 (0, 0)) z61_2 hb); have n1_ := Aside0.mk (below_step z61_0 hb); have n2_ := Aside0.mk (hbox); have n3_ := Aside0.mk ((by rw [hg]; exact (below_size z61_0) : w.heap.size ≤ gb130)); have n4_ := n3_; have n5_ := Aside0.mk ((by rw [hg]; exact Nat.ne_of_lt (blk_lt (g := gb129) (o := .cells #[.int .i64 a0_0, .int .i64 a0_1, .int .i64 a0_2, .int .i64 a0_3] 34 (0, 0)) z61_2) : gb129 ≠ gb130)); have n6_ := Aside0.mk (Ne.symm n5_.out); clear BK129 HB; revert n0_ n1_ n2_ n3_ n4_ n5_ n6_; intro BK129 HB BK130 GW130 GE130 NB129_130 NB130_129; clear hb hbox hg; have hnb40 := NB130_129.out; have hnc40 := NB129_130.out; have hcz41_0 : w39.cell? ⟨gb130, 0, none⟩ = some (.int .i64 a1_0) := (blk_cell BK130.out 0).trans rfl; have hcz41_1 : w39.cell? ⟨gb130, 1, none⟩ = some (.slice A1_1 l1_1.length c1_1) := (blk_cell BK130.out 1).trans rfl; have hcz41_2 : w39.cell? ⟨gb130, 2, none⟩ = some (.slice A1_2 l1_2.length c1_2) := (blk_cell BK130.out 2).trans rfl; have hfz41_0 := blk_frozen BK130.out 0; have hfz41_1 := blk_frozen BK130.out 1; have hfz41_2 := blk_frozen BK130.out 2; have hcz42_0 : w39.cell? ⟨gb129, 0, none⟩ = some (.int .i64 a0_0) := (blk_cell BK129.out 0).trans rfl; have hcz42_1 : w39.cell? ⟨gb129, 1, none⟩ = some (.int .i64 a0_1) := (blk_cell BK129.out 1).trans rfl; have hcz42_2 : w39.cell? ⟨gb129, 2, none⟩ = some (.int .i64 a0_2) := (blk_cell BK129.out 2).trans rfl; have hcz42_3 : w39.cell? ⟨gb129, 3, none⟩ = some (.int .i64 a0_3) := (blk_cell BK129.out 3).trans rfl; have hfz42_0 := blk_frozen BK129.out 0; have hfz42_1 := blk_frozen BK129.out 1; have hfz42_2 := blk_frozen BK129.out 2; have hfz42_3 := blk_frozen BK129.out 3) | ((with_reducible refine gate_callee (f := 69) rfl ?_); refine goesL_ (some 32) rfl rfl Tryd.func69 (by kernel_rfl) rfl #[.bool true, .int .i64 a0_2, .int .i64 (l1_2.length : Int)] rfl z61_3 ?_; (with_reducible refine (ir_within.calls true a0_2 (l1_2.length : Int) false _ A23.out).mono ?_); rintro e w' ⟨rfl, ⟨nd, rfl⟩⟩; refine ⟨_, rfl, ?_⟩))
    go_ret
    exact ⟨by first | rfl | (simp [errW_none, errW_some] <;> rfl) | (simp [*, errW_none, errW_some] <;> rfl), by repeat (first | (with_reducible first | exact HB.out | apply below_alloc | apply pw_below_drewN | apply below_drew1 | refine below_set ?_ GE129.out | refine below_set ?_ GE130.out) | exact HB.out)⟩
  ·rw [if_neg c22] at H
   have c22b0 : (a0_0 == 2) = false := beq_eq_false_iff_ne.mpr c22; have c22b1 : (a0_0 != 2) = true := bne_iff_ne.mpr c22
   by_cases c43 : a0_0 = 3
   ·rw [if_pos c43] at H
    have c43b0 : (a0_0 == 3) = true := beq_iff_eq.mpr c43; have c43b1 : (a0_0 != 3) = false := bne_eq_false_iff_eq.mpr c43; clear c43; obtain rfl := Option.some.inj H
    go_enter Tryd.func61, Tryd.ntmps61
    go_wp2_with (first | ((with_reducible refine gate_dst (N := 2) rfl ?_); refine box_event ?hg (N := 2) ?hd (cs := #[.int .i64 a0_0, .int .i64 a0_1, .int .i64 a0_2, .int .i64 a0_3]) (t := 34) ?hr ?_; (case hd => rfl); (case hg => rfl); (case hr => first | (go_simp; done) | (go_simp; rfl)); intro gb129 hg w44 hbox hb; have n0_ := Aside0.mk (below_step z61_1 hb); have n1_ := Aside0.mk (hbox); have n2_ := Aside0.mk ((by rw [hg]; exact (below_size z61_1) : w.heap.size ≤ gb129)); have n3_ := n2_; clear HB; revert n0_ n1_ n2_ n3_; intro HB BK129 GW129 GE129; clear hb hbox hg) | ((with_reducible refine gate_dst (N := 3) rfl ?_); refine box_event ?hg (N := 3) ?hd (cs := #[.int .i64 a1_0, .slice A1_1 l1_1.length c1_1, .slice A1_2 l1_2.length c1_2]) (t := 25) ?hr ?_; (case hd => rfl); (case hg => rfl); (case hr => first | (go_simp; done) | (go_simp; rfl)); intro gb130 hg w45 hbox hb; have n0_ := Aside0.mk (blk_below (g := gb129) (o := .cells #[.int .i64 a0_0, .int .i64 a0_1, .int .i64 a0_2, .int .i64 a0_3] 34 (0, 0)) z61_2 hb); have n1_ := Aside0.mk (below_step z61_0 hb); have n2_ := Aside0.mk (hbox); have n3_ := Aside0.mk ((by rw [hg]; exact (below_size z61_0) : w.heap.size ≤ gb130)); have n4_ := n3_; have n5_ := Aside0.mk ((by rw [hg]; exact Nat.ne_of_lt (blk_lt (g := gb129) (o := .cells #[.int .i64 a0_0, .int .i64 a0_1, .int .i64 a0_2, .int .i64 a0_3] 34 (0, 0)) z61_2) : gb129 ≠ gb130)); have n6_ := Aside0.mk (Ne.symm n5_.out); clear BK129 HB; revert n0_ n1_ n2_ n3_ n4_ n5_ n6_; intro BK129 HB BK130 GW130 GE130 NB129_130 NB130_129; clear hb hbox hg; have hnb46 := NB130_129.out; have hnc46 := NB129_130.out; have hcz47_0 : w45.cell? ⟨gb130, 0, none⟩ = some (.int .i64 a1_0) := (blk_cell BK130.out 0).trans rfl; have hcz47_1 : w45.cell? ⟨gb130, 1, none⟩ = some (.slice A1_1 l1_1.length c1_1) := (blk_cell BK130.out 1).trans rfl; have hcz47_2 : w45.cell? ⟨gb130, 2, none⟩ = some (.slice A1_2 l1_2.length c1_2) := (blk_cell BK130.out 2).trans rfl; have hfz47_0 := blk_frozen BK130.out 0; have hfz47_1 := blk_frozen BK130.out 1; have hfz47_2 := blk_frozen BK130.out 2; have hcz48_0 : w45.cell? ⟨gb129, 0, none⟩ = some (.int .i64 a0_0) := (blk_cell BK129.out 0).trans rfl; have hcz48_1 : w45.cell? ⟨gb129, 1, none⟩ = some (.int .i64 a0_1) := (blk_cell BK129.out 1).trans rfl; have hcz48_2 : w45.cell? ⟨gb129, 2, none⟩ = some (.int .i64 a0_2) := (blk_cell BK129.out 2).trans rfl; have hcz48_3 : w45.cell? ⟨gb129, 3, none⟩ = some (.int .i64 a0_3) := (blk_cell BK129.out 3).trans rfl; have hfz48_0 := blk_frozen BK129.out 0; have hfz48_1 := blk_frozen BK129.out 1; have hfz48_2 := blk_frozen BK129.out 2; have hfz48_3 := blk_frozen BK129.out 3))
    go_ret
    exact ⟨by first | rfl | (simp [errW_none, errW_some] <;> rfl) | (simp [*, errW_none, errW_some] <;> rfl), by repeat (first | (with_reducible first | exact HB.out | apply below_alloc | apply pw_below_drewN | apply below_drew1 | refine below_set ?_ GE129.out | refine below_set ?_ GE130.out) | exact HB.out)⟩
   ·rw [if_neg c43] at H
    have c43b0 : (a0_0 == 3) = false := beq_eq_false_iff_ne.mpr c43; have c43b1 : (a0_0 != 3) = true := bne_iff_ne.mpr c43; obtain rfl := Option.some.inj H
    go_enter Tryd.func61, Tryd.ntmps61
    go_wp2_with (first | ((with_reducible refine gate_dst (N := 2) rfl ?_); refine box_event ?hg (N := 2) ?hd (cs := #[.int .i64 a0_0, .int .i64 a0_1, .int .i64 a0_2, .int .i64 a0_3]) (t := 34) ?hr ?_; (case hd => rfl); (case hg => rfl); (case hr => first | (go_simp; done) | (go_simp; rfl)); intro gb129 hg w49 hbox hb; have n0_ := Aside0.mk (below_step z61_1 hb); have n1_ := Aside0.mk (hbox); have n2_ := Aside0.mk ((by rw [hg]; exact (below_size z61_1) : w.heap.size ≤ gb129)); have n3_ := n2_; clear HB; revert n0_ n1_ n2_ n3_; intro HB BK129 GW129 GE129; clear hb hbox hg) | ((with_reducible refine gate_dst (N := 3) rfl ?_); refine box_event ?hg (N := 3) ?hd (cs := #[.int .i64 a1_0, .slice A1_1 l1_1.length c1_1, .slice A1_2 l1_2.length c1_2]) (t := 25) ?hr ?_; (case hd => rfl); (case hg => rfl); (case hr => first | (go_simp; done) | (go_simp; rfl)); intro gb130 hg w50 hbox hb; have n0_ := Aside0.mk (blk_below (g := gb129) (o := .cells #[.int .i64 a0_0, .int .i64 a0_1, .int .i64 a0_2, .int .i64 a0_3] 34 (0, 0)) z61_2 hb); have n1_ := Aside0.mk (below_step z61_0 hb); have n2_ := Aside0.mk (hbox); have n3_ := Aside0.mk ((by rw [hg]; exact (below_size z61_0) : w.heap.size ≤ gb130)); have n4_ := n3_; have n5_ := Aside0.mk ((by rw [hg]; exact Nat.ne_of_lt (blk_lt (g := gb129) (o := .cells #[.int .i64 a0_0, .int .i64 a0_1, .int .i64 a0_2, .int .i64 a0_3] 34 (0, 0)) z61_2) : gb129 ≠ gb130)); have n6_ := Aside0.mk (Ne.symm n5_.out); clear BK129 HB; revert n0_ n1_ n2_ n3_ n4_ n5_ n6_; intro BK129 HB BK130 GW130 GE130 NB129_130 NB130_129; clear hb hbox hg; have hnb51 := NB130_129.out; have hnc51 := NB129_130.out; have hcz52_0 : w50.cell? ⟨gb130, 0, none⟩ = some (.int .i64 a1_0) := (blk_cell BK130.out 0).trans rfl; have hcz52_1 : w50.cell? ⟨gb130, 1, none⟩ = some (.slice A1_1 l1_1.length c1_1) := (blk_cell BK130.out 1).trans rfl; have hcz52_2 : w50.cell? ⟨gb130, 2, none⟩ = some (.slice A1_2 l1_2.length c1_2) := (blk_cell BK130.out 2).trans rfl; have hfz52_0 := blk_frozen BK130.out 0; have hfz52_1 := blk_frozen BK130.out 1; have hfz52_2 := blk_frozen BK130.out 2; have hcz53_0 : w50.cell? ⟨gb129, 0, none⟩ = some (.int .i64 a0_0) := (blk_cell BK129.out 0).trans rfl; have hcz53_1 : w50.cell? ⟨gb129, 1, none⟩ = some (.int .i64 a0_1) := (blk_cell BK129.out 1).trans rfl; have hcz53_2 : w50.cell? ⟨gb129, 2, none⟩ = some (.int .i64 a0_2) := (blk_cell BK129.out 2).trans rfl; have hcz53_3 : w50.cell? ⟨gb129, 3, none⟩ = some (.int .i64 a0_3) := (blk_cell BK129.out 3).trans rfl; have hfz53_0 := blk_frozen BK129.out 0; have hfz53_1 := blk_frozen BK129.out 1; have hfz53_2 := blk_frozen BK129.out 2; have hfz53_3 := blk_frozen BK129.out 3))
    go_ret
    exact ⟨by first | rfl | (simp [errW_none, errW_some] <;> rfl) | (simp [*, errW_none, errW_some] <;> rfl), by repeat (first | (with_reducible first | exact HB.out | apply below_alloc | apply pw_below_drewN | apply below_drew1 | refine below_set ?_ GE129.out | refine below_set ?_ GE130.out) | exact HB.out)⟩

end Go.Proofs.YtgenmfbidpmneaaDoor.PReloadThreads
