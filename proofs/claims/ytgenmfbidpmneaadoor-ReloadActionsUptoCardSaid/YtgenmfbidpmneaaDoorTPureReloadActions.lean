/- A thread that was gone through is right, has as many blocks and instructions and the same ends; only relaxed loads are others, and those are copies into the same variable. For every thread that can be read as data (where all that comes in weighs no more than the row's bound). -/
import Derived.Test.YtgenmfbidpmneaaDoorTPReloadActionsx10
namespace Go.Proofs.YtgenmfbidpmneaaDoor.Pure
open Go.RowKit Go.Proofs.YtgenmfbidpmneaaDoor.PReloadActions Go.Proofs.YtgenmfbidpmneaaDoorW.PrintWords Go.Proofs.YtgenmfbidpmneaaDoorW.PrintLast Go.Proofs.YtgenmfbidpmneaaDoorW.PrintMore

set_option linter.unusedVariables false
set_option linter.unusedSimpArgs false
theorem rd_nat (xs : List Int) (i : Nat) (h : i < xs.length) : rd xs (i : Int) = xs[i] := by
  simp [rd, h]
theorem wrap_succ (i : Nat) (h : i ≤ 4611686018427387904) : wrap64 ((i : Int) + 1) = ((i + 1 : Nat) : Int) := by
  unfold wrap64
  omega
/-- One round: by an equation for every number of rounds. -/
theorem Ev.by {α : Type} {g f : Nat → Option α} {r : α} (k : Ev f r) (h : ∀ k, g (k + 1) = f k) : Ev g r := Ev.step h k
theorem Ev.end_ {α : Type} {g : Nat → Option α} {r : α} (h : ∀ k, g (k + 1) = some r) : Ev g r := Ev.step (f := fun _ => some r) h (Ev.now r)
theorem Ev.if_pos {α : Type} {c : Prop} [Decidable c] {g f : Nat → Option α} {r : α} (hc : c) (h : Ev g r) : Ev (fun k => if c then g k else f k) r := by
  exact Ev.congr (fun _ => _root_.if_pos hc) h
theorem Ev.if_neg {α : Type} {c : Prop} [Decidable c] {g f : Nat → Option α} {r : α} (hc : ¬ c) (h : Ev f r) : Ev (fun k => if c then g k else f k) r := by
  exact Ev.congr (fun _ => _root_.if_neg hc) h
theorem drop_cons {α : Type} (l : List α) (i : Nat) (h : i < l.length) : l.drop i = l[i] :: l.drop (i + 1) := List.drop_eq_getElem_cons h

theorem ints_l0 (a b : List Int) (h : a.length = b.length) (hm : a.length ≤ 4611686018427387904) : ∀ d i, i ≤ a.length → a.length - i = d →
    Ev (fun k => spinnakerref01_Ints.l0 k a b (i : Int)) (decide (a.drop i = b.drop i)) := by
  intro d
  induction d with
  | zero =>
    intro i hi hd
    rw [List.drop_eq_nil_of_le (show a.length ≤ i by omega), List.drop_eq_nil_of_le (show b.length ≤ i by omega)]
    exact Ev.end_ fun k => by simp only [spinnakerref01_Ints.l0]; rw [if_neg (by omega)]; rfl
  | succ d ih =>
    intro i hi hd
    have h1 : i < a.length := by omega
    have h2 : i < b.length := by omega
    rw [drop_cons a i h1, drop_cons b i h2]
    by_cases e : a[i] = b[i]
    · have hr : decide (a[i] :: a.drop (i + 1) = b[i] :: b.drop (i + 1)) = decide (a.drop (i + 1) = b.drop (i + 1)) := by simp only [List.cons.injEq, e, true_and]
      rw [hr]
      exact Ev.by (ih (i + 1) (by omega) (by omega)) fun k => by
        simp only [spinnakerref01_Ints.l0]
        rw [if_pos (by omega), if_pos (by omega), if_pos (by omega), if_pos (by rw [rd_nat _ _ h1, rd_nat _ _ h2]; exact e), wrap_succ i (by omega)]
    · have hr : decide (a[i] :: a.drop (i + 1) = b[i] :: b.drop (i + 1)) = false := by simp only [List.cons.injEq, e, false_and, decide_false]
      rw [hr]
      exact Ev.end_ fun k => by
        simp only [spinnakerref01_Ints.l0]
        rw [if_pos (by omega), if_pos (by omega), if_pos (by omega), if_neg (by rw [rd_nat _ _ h1, rd_nat _ _ h2]; exact e)]
theorem ints_ev (a b : List Int) (hm : a.length ≤ 4611686018427387904) : Ev (fun k => spinnakerref01_Ints.f k a b) (decide (a = b)) := by
  unfold spinnakerref01_Ints.f
  by_cases h : a.length = b.length
  · refine Ev.if_pos (by omega) ?_
    have := ints_l0 a b h hm a.length 0 (by omega) (by omega)
    simpa using this
  · refine Ev.if_neg (by omega) ?_
    have : decide (a = b) = false := by simp; intro e; exact h (by rw [e])
    rw [this]
    exact Ev.now _

theorem cond_iff (c a b : Bool) : (cond c a b = true) ↔ (c = true ∧ a = true) ∨ (¬ c = true ∧ b = true) := by cases c <;> simp
/-- What an operation has, as both tell it. -/
theorem hb_0 : hasB 0 1 = false ∧ hasB 0 2 = false ∧ hasB 0 4 = false ∧ hasB 0 8 = false ∧ hasB 0 16 = false ∧ hasB 0 32 = false ∧ hasB 0 64 = false ∧ hasB 0 128 = false ∧ hasB 0 256 = false ∧ hasB 0 512 = false ∧ (fldB 0 != 0) = false ∧ dB 0 = false ∧ aB 0 = false ∧ bB 0 = false := ⟨by kernel_rfl, by kernel_rfl, by kernel_rfl, by kernel_rfl, by kernel_rfl, by kernel_rfl, by kernel_rfl, by kernel_rfl, by kernel_rfl, by kernel_rfl, by kernel_rfl, by kernel_rfl, by kernel_rfl, by kernel_rfl⟩
theorem hb_1 : hasB 1 1 = true ∧ hasB 1 2 = false ∧ hasB 1 4 = false ∧ hasB 1 8 = false ∧ hasB 1 16 = true ∧ hasB 1 32 = false ∧ hasB 1 64 = false ∧ hasB 1 128 = false ∧ hasB 1 256 = false ∧ hasB 1 512 = false ∧ (fldB 1 != 0) = true ∧ dB 1 = true ∧ aB 1 = false ∧ bB 1 = false := ⟨by kernel_rfl, by kernel_rfl, by kernel_rfl, by kernel_rfl, by kernel_rfl, by kernel_rfl, by kernel_rfl, by kernel_rfl, by kernel_rfl, by kernel_rfl, by kernel_rfl, by kernel_rfl, by kernel_rfl, by kernel_rfl⟩
theorem hb_2 : hasB 2 1 = true ∧ hasB 2 2 = true ∧ hasB 2 4 = false ∧ hasB 2 8 = false ∧ hasB 2 16 = false ∧ hasB 2 32 = false ∧ hasB 2 64 = false ∧ hasB 2 128 = false ∧ hasB 2 256 = false ∧ hasB 2 512 = false ∧ (fldB 2 != 0) = true ∧ dB 2 = true ∧ aB 2 = true ∧ bB 2 = false := ⟨by kernel_rfl, by kernel_rfl, by kernel_rfl, by kernel_rfl, by kernel_rfl, by kernel_rfl, by kernel_rfl, by kernel_rfl, by kernel_rfl, by kernel_rfl, by kernel_rfl, by kernel_rfl, by kernel_rfl, by kernel_rfl⟩
theorem hb_3 : hasB 3 1 = true ∧ hasB 3 2 = true ∧ hasB 3 4 = true ∧ hasB 3 8 = false ∧ hasB 3 16 = false ∧ hasB 3 32 = true ∧ hasB 3 64 = false ∧ hasB 3 128 = false ∧ hasB 3 256 = false ∧ hasB 3 512 = false ∧ (fldB 3 != 0) = true ∧ dB 3 = true ∧ aB 3 = true ∧ bB 3 = true := ⟨by kernel_rfl, by kernel_rfl, by kernel_rfl, by kernel_rfl, by kernel_rfl, by kernel_rfl, by kernel_rfl, by kernel_rfl, by kernel_rfl, by kernel_rfl, by kernel_rfl, by kernel_rfl, by kernel_rfl, by kernel_rfl⟩
theorem hb_4 : hasB 4 1 = true ∧ hasB 4 2 = true ∧ hasB 4 4 = false ∧ hasB 4 8 = false ∧ hasB 4 16 = false ∧ hasB 4 32 = false ∧ hasB 4 64 = true ∧ hasB 4 128 = false ∧ hasB 4 256 = false ∧ hasB 4 512 = false ∧ (fldB 4 != 0) = true ∧ dB 4 = true ∧ aB 4 = true ∧ bB 4 = false := ⟨by kernel_rfl, by kernel_rfl, by kernel_rfl, by kernel_rfl, by kernel_rfl, by kernel_rfl, by kernel_rfl, by kernel_rfl, by kernel_rfl, by kernel_rfl, by kernel_rfl, by kernel_rfl, by kernel_rfl, by kernel_rfl⟩
theorem hb_5 : hasB 5 1 = false ∧ hasB 5 2 = true ∧ hasB 5 4 = true ∧ hasB 5 8 = false ∧ hasB 5 16 = false ∧ hasB 5 32 = false ∧ hasB 5 64 = true ∧ hasB 5 128 = false ∧ hasB 5 256 = false ∧ hasB 5 512 = false ∧ (fldB 5 != 0) = true ∧ dB 5 = false ∧ aB 5 = true ∧ bB 5 = true := ⟨by kernel_rfl, by kernel_rfl, by kernel_rfl, by kernel_rfl, by kernel_rfl, by kernel_rfl, by kernel_rfl, by kernel_rfl, by kernel_rfl, by kernel_rfl, by kernel_rfl, by kernel_rfl, by kernel_rfl, by kernel_rfl⟩
theorem hb_6 : hasB 6 1 = true ∧ hasB 6 2 = false ∧ hasB 6 4 = false ∧ hasB 6 8 = false ∧ hasB 6 16 = false ∧ hasB 6 32 = false ∧ hasB 6 64 = false ∧ hasB 6 128 = true ∧ hasB 6 256 = true ∧ hasB 6 512 = true ∧ (fldB 6 != 0) = true ∧ dB 6 = true ∧ aB 6 = false ∧ bB 6 = false := ⟨by kernel_rfl, by kernel_rfl, by kernel_rfl, by kernel_rfl, by kernel_rfl, by kernel_rfl, by kernel_rfl, by kernel_rfl, by kernel_rfl, by kernel_rfl, by kernel_rfl, by kernel_rfl, by kernel_rfl, by kernel_rfl⟩
theorem hb_7 : hasB 7 1 = false ∧ hasB 7 2 = true ∧ hasB 7 4 = false ∧ hasB 7 8 = false ∧ hasB 7 16 = false ∧ hasB 7 32 = false ∧ hasB 7 64 = false ∧ hasB 7 128 = true ∧ hasB 7 256 = true ∧ hasB 7 512 = true ∧ (fldB 7 != 0) = true ∧ dB 7 = false ∧ aB 7 = true ∧ bB 7 = false := ⟨by kernel_rfl, by kernel_rfl, by kernel_rfl, by kernel_rfl, by kernel_rfl, by kernel_rfl, by kernel_rfl, by kernel_rfl, by kernel_rfl, by kernel_rfl, by kernel_rfl, by kernel_rfl, by kernel_rfl, by kernel_rfl⟩
theorem hb_8 : hasB 8 1 = true ∧ hasB 8 2 = true ∧ hasB 8 4 = false ∧ hasB 8 8 = true ∧ hasB 8 16 = false ∧ hasB 8 32 = false ∧ hasB 8 64 = false ∧ hasB 8 128 = true ∧ hasB 8 256 = true ∧ hasB 8 512 = true ∧ (fldB 8 != 0) = true ∧ dB 8 = true ∧ aB 8 = true ∧ bB 8 = false := ⟨by kernel_rfl, by kernel_rfl, by kernel_rfl, by kernel_rfl, by kernel_rfl, by kernel_rfl, by kernel_rfl, by kernel_rfl, by kernel_rfl, by kernel_rfl, by kernel_rfl, by kernel_rfl, by kernel_rfl, by kernel_rfl⟩
theorem hb_9 : hasB 9 1 = true ∧ hasB 9 2 = true ∧ hasB 9 4 = true ∧ hasB 9 8 = false ∧ hasB 9 16 = false ∧ hasB 9 32 = false ∧ hasB 9 64 = false ∧ hasB 9 128 = true ∧ hasB 9 256 = true ∧ hasB 9 512 = true ∧ (fldB 9 != 0) = true ∧ dB 9 = true ∧ aB 9 = true ∧ bB 9 = true := ⟨by kernel_rfl, by kernel_rfl, by kernel_rfl, by kernel_rfl, by kernel_rfl, by kernel_rfl, by kernel_rfl, by kernel_rfl, by kernel_rfl, by kernel_rfl, by kernel_rfl, by kernel_rfl, by kernel_rfl, by kernel_rfl⟩
theorem hb_10 : hasB 10 1 = false ∧ hasB 10 2 = false ∧ hasB 10 4 = false ∧ hasB 10 8 = false ∧ hasB 10 16 = false ∧ hasB 10 32 = false ∧ hasB 10 64 = false ∧ hasB 10 128 = false ∧ hasB 10 256 = true ∧ hasB 10 512 = false ∧ (fldB 10 != 0) = true ∧ dB 10 = false ∧ aB 10 = false ∧ bB 10 = false := ⟨by kernel_rfl, by kernel_rfl, by kernel_rfl, by kernel_rfl, by kernel_rfl, by kernel_rfl, by kernel_rfl, by kernel_rfl, by kernel_rfl, by kernel_rfl, by kernel_rfl, by kernel_rfl, by kernel_rfl, by kernel_rfl⟩
theorem hb_11 : hasB 11 1 = false ∧ hasB 11 2 = true ∧ hasB 11 4 = false ∧ hasB 11 8 = false ∧ hasB 11 16 = false ∧ hasB 11 32 = false ∧ hasB 11 64 = false ∧ hasB 11 128 = false ∧ hasB 11 256 = false ∧ hasB 11 512 = true ∧ (fldB 11 != 0) = true ∧ dB 11 = false ∧ aB 11 = true ∧ bB 11 = false := ⟨by kernel_rfl, by kernel_rfl, by kernel_rfl, by kernel_rfl, by kernel_rfl, by kernel_rfl, by kernel_rfl, by kernel_rfl, by kernel_rfl, by kernel_rfl, by kernel_rfl, by kernel_rfl, by kernel_rfl, by kernel_rfl⟩
theorem fld_out (x : Int) (h : ¬ (0 ≤ x ∧ x < 12)) : ir_fields.f x = some 0 := by unfold ir_fields.f; rw [if_neg h]
theorem hb_out (x : Int) (h : ¬ (0 ≤ x ∧ x < 12)) : hasB x 1 = false ∧ hasB x 2 = false ∧ hasB x 4 = false ∧ hasB x 8 = false ∧ hasB x 16 = false ∧ hasB x 32 = false ∧ hasB x 64 = false ∧ hasB x 128 = false ∧ hasB x 256 = false ∧ hasB x 512 = false ∧ (fldB x != 0) = false := by
  unfold hasB fldB
  rw [fld_out x h]
  exact ⟨by kernel_rfl, by kernel_rfl, by kernel_rfl, by kernel_rfl, by kernel_rfl, by kernel_rfl, by kernel_rfl, by kernel_rfl, by kernel_rfl, by kernel_rfl, by kernel_rfl⟩
theorem op_split (x : Int) : x = 1 ∨ x = 2 ∨ x = 3 ∨ x = 4 ∨ x = 5 ∨ x = 6 ∨ x = 7 ∨ x = 8 ∨ x = 9 ∨ x = 10 ∨ x = 11 ∨ x = 0 ∨ ¬ (0 ≤ x ∧ x < 12) := by omega
theorem ins_1 (a1 a2 a3 a4 a5 a6 a7 v c : Int) (k k2 : Nat) : insR 1 a1 a2 a3 a4 a5 a6 a7 v c k k2 = insB 1 a1 a2 a3 a4 a5 a6 a7 v c k k2 := by
  obtain ⟨h0, h1, h2, h3, h4, h5, h6, h7, h8, h9, h10, h11, h12, h13⟩ := hb_1
  simp only [insR, insB, T34, T60, envR, envI, numB, ordB, withinB, h0, h1, h2, h3, h4, h5, h6, h7, h8, h9, h10, h11, h12, h13, Eval.Tr.bval, Eval.BE.den, Eval.CO.den, Eval.IE.den, List.getD_cons_zero, List.getD_cons_succ, Nat.reduceEqDiff, if_true, if_false, reduceIte]
  simp only [Int.reduceBEq, Int.reduceBNe, Int.reduceEq, Bool.false_eq_true, reduceIte, cond_true, cond_false, Bool.cond_self]
  rw [Bool.eq_iff_iff]
  simp only [cond_iff, Bool.and_eq_true, Bool.or_eq_true, decide_eq_true_eq, beq_iff_eq, bne_iff_ne, decide_eq_false_iff_not, Bool.false_eq_true, and_false, and_true, true_and, false_and, or_false, false_or]
  first | done | omega | (simp; omega)
theorem ins_2 (a1 a2 a3 a4 a5 a6 a7 v c : Int) (k k2 : Nat) : insR 2 a1 a2 a3 a4 a5 a6 a7 v c k k2 = insB 2 a1 a2 a3 a4 a5 a6 a7 v c k k2 := by
  obtain ⟨h0, h1, h2, h3, h4, h5, h6, h7, h8, h9, h10, h11, h12, h13⟩ := hb_2
  simp only [insR, insB, T34, T60, envR, envI, numB, ordB, withinB, h0, h1, h2, h3, h4, h5, h6, h7, h8, h9, h10, h11, h12, h13, Eval.Tr.bval, Eval.BE.den, Eval.CO.den, Eval.IE.den, List.getD_cons_zero, List.getD_cons_succ, Nat.reduceEqDiff, if_true, if_false, reduceIte]
  simp only [Int.reduceBEq, Int.reduceBNe, Int.reduceEq, Bool.false_eq_true, reduceIte, cond_true, cond_false, Bool.cond_self]
  rw [Bool.eq_iff_iff]
  simp only [cond_iff, Bool.and_eq_true, Bool.or_eq_true, decide_eq_true_eq, beq_iff_eq, bne_iff_ne, decide_eq_false_iff_not, Bool.false_eq_true, and_false, and_true, true_and, false_and, or_false, false_or]
  first | done | omega | (simp; omega)
theorem ins_3 (a1 a2 a3 a4 a5 a6 a7 v c : Int) (k k2 : Nat) : insR 3 a1 a2 a3 a4 a5 a6 a7 v c k k2 = insB 3 a1 a2 a3 a4 a5 a6 a7 v c k k2 := by
  obtain ⟨h0, h1, h2, h3, h4, h5, h6, h7, h8, h9, h10, h11, h12, h13⟩ := hb_3
  simp only [insR, insB, T34, T60, envR, envI, numB, ordB, withinB, h0, h1, h2, h3, h4, h5, h6, h7, h8, h9, h10, h11, h12, h13, Eval.Tr.bval, Eval.BE.den, Eval.CO.den, Eval.IE.den, List.getD_cons_zero, List.getD_cons_succ, Nat.reduceEqDiff, if_true, if_false, reduceIte]
  simp only [Int.reduceBEq, Int.reduceBNe, Int.reduceEq, Bool.false_eq_true, reduceIte, cond_true, cond_false, Bool.cond_self]
  rw [Bool.eq_iff_iff]
  simp only [cond_iff, Bool.and_eq_true, Bool.or_eq_true, decide_eq_true_eq, beq_iff_eq, bne_iff_ne, decide_eq_false_iff_not, Bool.false_eq_true, and_false, and_true, true_and, false_and, or_false, false_or]
  first | done | omega | (simp; omega)
theorem ins_4 (a1 a2 a3 a4 a5 a6 a7 v c : Int) (k k2 : Nat) : insR 4 a1 a2 a3 a4 a5 a6 a7 v c k k2 = insB 4 a1 a2 a3 a4 a5 a6 a7 v c k k2 := by
  obtain ⟨h0, h1, h2, h3, h4, h5, h6, h7, h8, h9, h10, h11, h12, h13⟩ := hb_4
  simp only [insR, insB, T34, T60, envR, envI, numB, ordB, withinB, h0, h1, h2, h3, h4, h5, h6, h7, h8, h9, h10, h11, h12, h13, Eval.Tr.bval, Eval.BE.den, Eval.CO.den, Eval.IE.den, List.getD_cons_zero, List.getD_cons_succ, Nat.reduceEqDiff, if_true, if_false, reduceIte]
  simp only [Int.reduceBEq, Int.reduceBNe, Int.reduceEq, Bool.false_eq_true, reduceIte, cond_true, cond_false, Bool.cond_self]
  rw [Bool.eq_iff_iff]
  simp only [cond_iff, Bool.and_eq_true, Bool.or_eq_true, decide_eq_true_eq, beq_iff_eq, bne_iff_ne, decide_eq_false_iff_not, Bool.false_eq_true, and_false, and_true, true_and, false_and, or_false, false_or]
  first | done | omega | (simp; omega)
theorem ins_5 (a1 a2 a3 a4 a5 a6 a7 v c : Int) (k k2 : Nat) : insR 5 a1 a2 a3 a4 a5 a6 a7 v c k k2 = insB 5 a1 a2 a3 a4 a5 a6 a7 v c k k2 := by
  obtain ⟨h0, h1, h2, h3, h4, h5, h6, h7, h8, h9, h10, h11, h12, h13⟩ := hb_5
  simp only [insR, insB, T34, T60, envR, envI, numB, ordB, withinB, h0, h1, h2, h3, h4, h5, h6, h7, h8, h9, h10, h11, h12, h13, Eval.Tr.bval, Eval.BE.den, Eval.CO.den, Eval.IE.den, List.getD_cons_zero, List.getD_cons_succ, Nat.reduceEqDiff, if_true, if_false, reduceIte]
  simp only [Int.reduceBEq, Int.reduceBNe, Int.reduceEq, Bool.false_eq_true, reduceIte, cond_true, cond_false, Bool.cond_self]
  rw [Bool.eq_iff_iff]
  simp only [cond_iff, Bool.and_eq_true, Bool.or_eq_true, decide_eq_true_eq, beq_iff_eq, bne_iff_ne, decide_eq_false_iff_not, Bool.false_eq_true, and_false, and_true, true_and, false_and, or_false, false_or]
  first | done | omega | (simp; omega)
theorem ins_6 (a1 a2 a3 a4 a5 a6 a7 v c : Int) (k k2 : Nat) : insR 6 a1 a2 a3 a4 a5 a6 a7 v c k k2 = insB 6 a1 a2 a3 a4 a5 a6 a7 v c k k2 := by
  obtain ⟨h0, h1, h2, h3, h4, h5, h6, h7, h8, h9, h10, h11, h12, h13⟩ := hb_6
  simp only [insR, insB, T34, T60, envR, envI, numB, ordB, withinB, h0, h1, h2, h3, h4, h5, h6, h7, h8, h9, h10, h11, h12, h13, Eval.Tr.bval, Eval.BE.den, Eval.CO.den, Eval.IE.den, List.getD_cons_zero, List.getD_cons_succ, Nat.reduceEqDiff, if_true, if_false, reduceIte]
  simp only [Int.reduceBEq, Int.reduceBNe, Int.reduceEq, Bool.false_eq_true, reduceIte, cond_true, cond_false, Bool.cond_self]
  rw [Bool.eq_iff_iff]
  simp only [cond_iff, Bool.and_eq_true, Bool.or_eq_true, decide_eq_true_eq, beq_iff_eq, bne_iff_ne, decide_eq_false_iff_not, Bool.false_eq_true, and_false, and_true, true_and, false_and, or_false, false_or]
  first | done | omega | (simp; omega)
theorem ins_7 (a1 a2 a3 a4 a5 a6 a7 v c : Int) (k k2 : Nat) : insR 7 a1 a2 a3 a4 a5 a6 a7 v c k k2 = insB 7 a1 a2 a3 a4 a5 a6 a7 v c k k2 := by
  obtain ⟨h0, h1, h2, h3, h4, h5, h6, h7, h8, h9, h10, h11, h12, h13⟩ := hb_7
  simp only [insR, insB, T34, T60, envR, envI, numB, ordB, withinB, h0, h1, h2, h3, h4, h5, h6, h7, h8, h9, h10, h11, h12, h13, Eval.Tr.bval, Eval.BE.den, Eval.CO.den, Eval.IE.den, List.getD_cons_zero, List.getD_cons_succ, Nat.reduceEqDiff, if_true, if_false, reduceIte]
  simp only [Int.reduceBEq, Int.reduceBNe, Int.reduceEq, Bool.false_eq_true, reduceIte, cond_true, cond_false, Bool.cond_self]
  rw [Bool.eq_iff_iff]
  simp only [cond_iff, Bool.and_eq_true, Bool.or_eq_true, decide_eq_true_eq, beq_iff_eq, bne_iff_ne, decide_eq_false_iff_not, Bool.false_eq_true, and_false, and_true, true_and, false_and, or_false, false_or]
  first | done | omega | (simp; omega)
theorem ins_8 (a1 a2 a3 a4 a5 a6 a7 v c : Int) (k k2 : Nat) : insR 8 a1 a2 a3 a4 a5 a6 a7 v c k k2 = insB 8 a1 a2 a3 a4 a5 a6 a7 v c k k2 := by
  obtain ⟨h0, h1, h2, h3, h4, h5, h6, h7, h8, h9, h10, h11, h12, h13⟩ := hb_8
  simp only [insR, insB, T34, T60, envR, envI, numB, ordB, withinB, h0, h1, h2, h3, h4, h5, h6, h7, h8, h9, h10, h11, h12, h13, Eval.Tr.bval, Eval.BE.den, Eval.CO.den, Eval.IE.den, List.getD_cons_zero, List.getD_cons_succ, Nat.reduceEqDiff, if_true, if_false, reduceIte]
  simp only [Int.reduceBEq, Int.reduceBNe, Int.reduceEq, Bool.false_eq_true, reduceIte, cond_true, cond_false, Bool.cond_self]
  rw [Bool.eq_iff_iff]
  simp only [cond_iff, Bool.and_eq_true, Bool.or_eq_true, decide_eq_true_eq, beq_iff_eq, bne_iff_ne, decide_eq_false_iff_not, Bool.false_eq_true, and_false, and_true, true_and, false_and, or_false, false_or]
  first | done | omega | (simp; omega)
theorem ins_9 (a1 a2 a3 a4 a5 a6 a7 v c : Int) (k k2 : Nat) : insR 9 a1 a2 a3 a4 a5 a6 a7 v c k k2 = insB 9 a1 a2 a3 a4 a5 a6 a7 v c k k2 := by
  obtain ⟨h0, h1, h2, h3, h4, h5, h6, h7, h8, h9, h10, h11, h12, h13⟩ := hb_9
  simp only [insR, insB, T34, T60, envR, envI, numB, ordB, withinB, h0, h1, h2, h3, h4, h5, h6, h7, h8, h9, h10, h11, h12, h13, Eval.Tr.bval, Eval.BE.den, Eval.CO.den, Eval.IE.den, List.getD_cons_zero, List.getD_cons_succ, Nat.reduceEqDiff, if_true, if_false, reduceIte]
  simp only [Int.reduceBEq, Int.reduceBNe, Int.reduceEq, Bool.false_eq_true, reduceIte, cond_true, cond_false, Bool.cond_self]
  rw [Bool.eq_iff_iff]
  simp only [cond_iff, Bool.and_eq_true, Bool.or_eq_true, decide_eq_true_eq, beq_iff_eq, bne_iff_ne, decide_eq_false_iff_not, Bool.false_eq_true, and_false, and_true, true_and, false_and, or_false, false_or]
  first | done | omega | (simp; omega)
theorem ins_10 (a1 a2 a3 a4 a5 a6 a7 v c : Int) (k k2 : Nat) : insR 10 a1 a2 a3 a4 a5 a6 a7 v c k k2 = insB 10 a1 a2 a3 a4 a5 a6 a7 v c k k2 := by
  obtain ⟨h0, h1, h2, h3, h4, h5, h6, h7, h8, h9, h10, h11, h12, h13⟩ := hb_10
  simp only [insR, insB, T34, T60, envR, envI, numB, ordB, withinB, h0, h1, h2, h3, h4, h5, h6, h7, h8, h9, h10, h11, h12, h13, Eval.Tr.bval, Eval.BE.den, Eval.CO.den, Eval.IE.den, List.getD_cons_zero, List.getD_cons_succ, Nat.reduceEqDiff, if_true, if_false, reduceIte]
  simp only [Int.reduceBEq, Int.reduceBNe, Int.reduceEq, Bool.false_eq_true, reduceIte, cond_true, cond_false, Bool.cond_self]
  rw [Bool.eq_iff_iff]
  simp only [cond_iff, Bool.and_eq_true, Bool.or_eq_true, decide_eq_true_eq, beq_iff_eq, bne_iff_ne, decide_eq_false_iff_not, Bool.false_eq_true, and_false, and_true, true_and, false_and, or_false, false_or]
  first | done | omega | (simp; omega)
theorem ins_11 (a1 a2 a3 a4 a5 a6 a7 v c : Int) (k k2 : Nat) : insR 11 a1 a2 a3 a4 a5 a6 a7 v c k k2 = insB 11 a1 a2 a3 a4 a5 a6 a7 v c k k2 := by
  obtain ⟨h0, h1, h2, h3, h4, h5, h6, h7, h8, h9, h10, h11, h12, h13⟩ := hb_11
  simp only [insR, insB, T34, T60, envR, envI, numB, ordB, withinB, h0, h1, h2, h3, h4, h5, h6, h7, h8, h9, h10, h11, h12, h13, Eval.Tr.bval, Eval.BE.den, Eval.CO.den, Eval.IE.den, List.getD_cons_zero, List.getD_cons_succ, Nat.reduceEqDiff, if_true, if_false, reduceIte]
  simp only [Int.reduceBEq, Int.reduceBNe, Int.reduceEq, Bool.false_eq_true, reduceIte, cond_true, cond_false, Bool.cond_self]
  rw [Bool.eq_iff_iff]
  simp only [cond_iff, Bool.and_eq_true, Bool.or_eq_true, decide_eq_true_eq, beq_iff_eq, bne_iff_ne, decide_eq_false_iff_not, Bool.false_eq_true, and_false, and_true, true_and, false_and, or_false, false_or]
  first | done | omega | (simp; omega)
theorem ins_same (i : S38) (v c : Int) (k k2 : Nat) : refI i v c k k2 = insOf i v c k k2 := by
  obtain ⟨a0, a1, a2, a3, a4, a5, a6, a7⟩ := i
  show insR a0 a1 a2 a3 a4 a5 a6 a7 v c k k2 = insB a0 a1 a2 a3 a4 a5 a6 a7 v c k k2
  have hout : ∀ x : Int, (x = 0 ∨ ¬ (0 ≤ x ∧ x < 12)) → insR x a1 a2 a3 a4 a5 a6 a7 v c k k2 = insB x a1 a2 a3 a4 a5 a6 a7 v c k k2 := by
    intro x hx
    have h10 : (fldB x != 0) = false := by
      rcases hx with rfl | hx
      · exact hb_0.2.2.2.2.2.2.2.2.2.2.1
      · exact (hb_out x hx).2.2.2.2.2.2.2.2.2.2
    have e : ∀ n : Int, 1 ≤ n → n ≤ 11 → (x == n) = false := by
      intro n h1 h2
      rw [beq_eq_false_iff_ne]
      omega
    simp only [insR, insB, T34, T60, envR, envI, Eval.Tr.bval, Eval.BE.den, Eval.CO.den, Eval.IE.den, List.getD_cons_zero, List.getD_cons_succ, h10, e 1 (by decide) (by decide), e 2 (by decide) (by decide), e 3 (by decide) (by decide), e 4 (by decide) (by decide), e 5 (by decide) (by decide), e 6 (by decide) (by decide), e 7 (by decide) (by decide), e 8 (by decide) (by decide), e 9 (by decide) (by decide), e 10 (by decide) (by decide), e 11 (by decide) (by decide), cond_false, Bool.cond_self]
  rcases op_split a0 with rfl | rfl | rfl | rfl | rfl | rfl | rfl | rfl | rfl | rfl | rfl | h | h
  · exact ins_1 ..
  · exact ins_2 ..
  · exact ins_3 ..
  · exact ins_4 ..
  · exact ins_5 ..
  · exact ins_6 ..
  · exact ins_7 ..
  · exact ins_8 ..
  · exact ins_9 ..
  · exact ins_10 ..
  · exact ins_11 ..
  · exact hout a0 (.inl h)
  · exact hout a0 (.inr h)
theorem end_same (e : S34) (v : Int) (k : List Int) (k2 : List S36) : endR e v (k2.length : Int) = endOf e v k k2 := by
  obtain ⟨e0, e1, e2, e3⟩ := e
  unfold endR endR4 endOf ir_ends.f
  simp only [within_some, Option.bind_some]
  by_cases h1 : e0 = 1
  · subst h1
    simp only [reduceIte, Int.reduceBEq, cond_true]
    by_cases h2 : withinB true e2 (k2.length : Int) = true
    · rw [if_pos h2]
      simp only [withinB, cond_true, Bool.cond_false_right, Bool.and_eq_true, decide_eq_true_eq] at h2
      by_cases h3 : e1 = 0
      · rw [if_pos h3, Bool.eq_iff_iff]; simp [h3]; omega
      · rw [if_neg h3, Bool.eq_iff_iff]; simp [h3]
    · rw [if_neg h2, Bool.eq_iff_iff]
      simp only [withinB, cond_true, Bool.cond_false_right, Bool.and_eq_true, decide_eq_true_eq] at h2
      simp; omega
  by_cases h2 : e0 = 2
  · subst h2
    rw [if_neg (by decide)]
    simp only [reduceIte, Int.reduceBEq, cond_true, cond_false]
    by_cases h2 : withinB true e2 (k2.length : Int) = true
    · rw [if_pos h2]
      simp only [withinB, cond_true, Bool.cond_false_right, Bool.and_eq_true, decide_eq_true_eq] at h2
      by_cases h3 : withinB true e3 (k2.length : Int) = true
      · rw [if_pos h3, Bool.eq_iff_iff]
        simp only [withinB, cond_true, Bool.cond_false_right, Bool.and_eq_true, decide_eq_true_eq] at h3
        simp [withinB]; omega
      · rw [if_neg h3, Bool.eq_iff_iff]
        simp only [withinB, cond_true, Bool.cond_false_right, Bool.and_eq_true, decide_eq_true_eq] at h3
        simp; omega
    · rw [if_neg h2, Bool.eq_iff_iff]
      simp only [withinB, cond_true, Bool.cond_false_right, Bool.and_eq_true, decide_eq_true_eq] at h2
      simp; omega
  rw [if_neg h1, if_neg h2, beq_eq_false_iff_ne.2 h1, beq_eq_false_iff_ne.2 h2]
  simp only [cond_false]
  by_cases h3 : e0 = 3
  · subst h3
    rw [if_pos rfl, Bool.eq_iff_iff]; simp
  · rw [if_neg h3, beq_eq_false_iff_ne.2 h3]; rfl
/-- The two notes of which ids have come: they tell the same. -/
def Agree (ids : List Int) (g : Int → Option Int) : Prop := ∀ x, 0 < x → (ids.contains x = decide (0 < (g x).getD 0))
theorem go_ins (v c : Int) (k k2 : Nat) : ∀ (l : List S38) (ids : List Int) (g : Int → Option Int), Agree ids g →
    (goRI v c k k2 ids l = none ∧ goI v c k k2 g l = none) ∨ ∃ ids' g', goRI v c k k2 ids l = some ids' ∧ goI v c k k2 g l = some g' ∧ Agree ids' g'
  | [], ids, g, h => .inr ⟨ids, g, rfl, rfl, h⟩
  | i :: r, ids, g, h => by
    rw [goRI, goI, ins_same]
    cases insOf i v c k k2 with
    | false => exact .inl ⟨rfl, rfl⟩
    | true =>
      simp only [cond_true]
      by_cases h0 : 0 < i.f7
      · rw [decide_eq_true h0, ← h i.f7 h0]
        simp only [cond_true]
        cases ids.contains i.f7 with
        | true => exact .inl ⟨rfl, rfl⟩
        | false =>
          refine go_ins v c k k2 r _ _ fun x hx => ?_
          by_cases e : x = i.f7
          · subst e; simp
          · have := h x hx
            simp only [if_neg e, ← this]
            simp [e]
      · rw [decide_eq_false h0]
        simp only [cond_false]
        refine go_ins v c k k2 r _ _ fun x hx => ?_
        have e : x ≠ i.f7 := by omega
        simp only [if_neg e]
        exact h x hx
theorem go_blocks (v c : Int) (k : List Int) (k2 : List S36) : ∀ (l : List S36) (ids : List Int) (g : Int → Option Int), Agree ids g → goRB v c k.length k2.length ids l = goB v c k k2 g l
  | [], ids, g, h => rfl
  | b :: r, ids, g, h => by
    rw [goRB, goB]
    rcases go_ins v c k.length k2.length b.f0 ids g h with ⟨h1, h2⟩ | ⟨ids', g', h1, h2, h3⟩
    · rw [h1, h2]
    · rw [h1, h2]
      simp only [end_same b.f1 v k k2, go_blocks v c k k2 r ids' g' h3]
theorem right_same (v : Int) (k : List Int) (l : List S36) (c : Int) : refRB v k l c = rightB v k l c := by
  unfold refRB rightB
  rw [go_blocks v c k l l [] (fun _ => none) (fun x _ => by simp)]
  rfl

theorem sum_len {α : Type} {f : α → Nat} (hf : ∀ x, 1 ≤ f x) (l : List α) : l.length ≤ (l.map f).sum := by
  induction l with
  | nil => simp
  | cons x r ih => have := hf x; simp only [List.length_cons, List.map_cons, List.sum_cons]; omega
theorem sum_mem {α : Type} {f : α → Nat} {l : List α} {x : α} (h : x ∈ l) : f x ≤ (l.map f).sum := by
  induction l with
  | nil => cases h
  | cons y r ih =>
    simp only [List.map_cons, List.sum_cons]
    rcases List.mem_cons.1 h with rfl | h
    · omega
    · have := ih h; omega
/-- A thread of whole numbers of Go, and not too long. -/
structure Fine (v : Int) (k : List Int) (l : List S36) : Prop where
  fv : (Lit.int .i64 v).wf = true
  fk : k.length ≤ 1048576
  fkw : ∀ x ∈ k, (Lit.int .i64 x).wf = true
  fl : l.length ≤ 1048576
  fb : ∀ b ∈ l, b.f0.length ≤ 1048576
  fi : ∀ b ∈ l, ∀ i ∈ b.f0, ok_S38 i
  fe : ∀ b ∈ l, ok_S34 b.f1
theorem fine_of {v : Int} {k : List Int} {l : List S36} (h : ok_S25 ⟨v, k, l⟩) (hw : wt_S25 ⟨v, k, l⟩ ≤ 1048576) : Fine v k l := by
  obtain ⟨h1, h2, h3⟩ := h
  simp only [wt_S25, OpenB.wtSl] at hw
  have a1 := sum_len (f := fun _ : Int => 1) (fun _ => Nat.le_refl _) k
  have a2 := sum_len (f := wt_S36) (fun x => by simp only [wt_S36, OpenB.wtSl]; omega) l
  refine ⟨h1, by omega, h2.2, by omega, fun b hb => ?_, fun b hb => (h3.2 b hb).1.2, fun b hb => (h3.2 b hb).2⟩
  have a3 := sum_mem (f := wt_S36) hb
  have a4 := sum_len (f := wt_S38) (fun x => by simp only [wt_S38]; omega) b.f0
  simp only [wt_S36, OpenB.wtSl] at a3
  omega
theorem Fine.ids {v : Int} {k : List Int} {l : List S36} (h : Fine v k l) : okIds l :=
  ⟨by have := h.fl; omega, fun b hb => ⟨by have := h.fb b hb; omega, fun i hi => (h.fi b hb i hi).2.2.2.2.2.2.2⟩⟩
theorem Fine.len {v : Int} {k : List Int} {l : List S36} (h : Fine v k l) : okLen k l := ⟨by have := h.fk; omega, h.fb⟩
theorem right_f {v : Int} {k : List Int} {l : List S36} (h : Fine v k l) (c : Int) : spinnakerref26_Right.f v k l c = some (refRB v k l c) := by
  rw [spinnakerref26_Right.f, if_pos h.len]
/-- How large a thread is told to be. -/
def sizeB : Nat → List S36 → Nat
  | n, [] => n
  | n, b :: r => if n ≤ 1000 then sizeB (n + b.f0.length) r else n
theorem sizeB_le (l : List S36) : ∀ n, n ≤ sizeB n l := by
  induction l with
  | nil => intro n; exact Nat.le_refl _
  | cons b r ih =>
    intro n
    rw [sizeB]
    split
    · have := ih (n + b.f0.length); omega
    · exact Nat.le_refl _
theorem sizeB_b (l : List S36) : ∀ n, sizeB n l ≤ 1000 → ∀ b ∈ l, b.f0.length ≤ sizeB n l := by
  induction l with
  | nil => intro n _ b hb; cases hb
  | cons b r ih =>
    intro n h c hc
    rw [sizeB] at h ⊢
    split at h
    · rename_i hn
      rw [if_pos hn]
      rcases List.mem_cons.1 hc with rfl | hc
      · have := sizeB_le r (n + c.f0.length); omega
      · exact ih _ h c hc
    · rename_i hn
      omega
theorem wrap_id (x : Int) (h0 : 0 ≤ x) (h : x ≤ 9223372036854775807) : wrap64 x = x := by unfold wrap64; omega
theorem rdB (l : List S36) (i : Nat) (h : i < l.length) : rd_T36 l (i : Int) = l[i] := by simp [rd_T36, h]
theorem rdI (l : List S38) (i : Nat) (h : i < l.length) : rd_T38 l (i : Int) = l[i] := by simp [rd_T38, h]
theorem size_l1 (v : Int) (k : List Int) (l : List S36) (hl : l.length ≤ 1048576) (hb : ∀ b ∈ l, b.f0.length ≤ 1048576) : ∀ (d i n : Nat), i ≤ l.length → l.length - i = d → n ≤ 4611686018427387904 →
    Ev (fun q => spinnakerref26_Size.l1 q (n : Int) 0 (i : Int) [] [⟨v, k, l⟩]) (sizeB n (l.drop i) : Int) := by
  have hout : ∀ n : Nat, Ev (fun q => spinnakerref26_Size.l0 q (n : Int) (wrap64 (0 + 1)) [] [⟨v, k, l⟩]) (n : Int) := by
    intro n
    refine Ev.by (Ev.end_ (r := (n : Int)) (g := fun q => spinnakerref26_Size.j1 q (n : Int) 1 false [] [⟨v, k, l⟩]) fun q => ?_) fun q => ?_
    · simp only [spinnakerref26_Size.j1]
      rw [if_neg (by decide)]
    · rw [show wrap64 (0 + 1) = 1 by unfold wrap64; omega]
      simp only [spinnakerref26_Size.l0]
      rw [if_neg (by simp)]
  have hrd : rd_T25 [(⟨v, k, l⟩ : S25)] 0 = ⟨v, k, l⟩ := rfl
  intro d
  induction d with
  | zero =>
    intro i n hi hd hn
    rw [List.drop_eq_nil_of_le (show l.length ≤ i by omega), sizeB]
    refine Ev.by (hout n) fun q => ?_
    simp only [spinnakerref26_Size.l1, hrd]
    rw [if_pos (by decide), if_pos (by simp), if_neg (by omega)]
  | succ d ih =>
    intro i n hi hd hn
    have h1 : i < l.length := by omega
    rw [drop_cons l i h1, sizeB]
    have hbl := hb _ (List.getElem_mem h1)
    by_cases e : n ≤ 1000
    · rw [if_pos e]
      refine Ev.by (ih (i + 1) (n + l[i].f0.length) (by omega) (by omega) (by omega)) fun q => ?_
      simp only [spinnakerref26_Size.l1, hrd]
      rw [if_pos (by decide), if_pos (by simp), if_pos (by omega), if_pos (by omega), if_pos (by omega), rdB l i h1, wrap_succ i (by omega), wrap_id _ (by omega) (by omega)]
      rw [show ((n : Int) + (l[i].f0.length : Int)) = ((n + l[i].f0.length : Nat) : Int) by omega]
    · rw [if_neg e]
      refine Ev.by (hout n) fun q => ?_
      simp only [spinnakerref26_Size.l1, hrd]
      rw [if_pos (by decide), if_pos (by simp), if_pos (by omega), if_neg (by omega)]
def smallB (v : Int) (k : List Int) (l : List S36) : Bool := decide (sizeB (k.length + l.length) l ≤ 150) && (decide (v ≤ 60) && refRB v k l 200)
theorem small_ev {v : Int} {k : List Int} {l : List S36} (h : Fine v k l) : Ev (fun q => spinnakerref34_Small.f q v k l) (smallB v k l) := by
  unfold spinnakerref34_Small.f
  have hrd : rd_T25 [(⟨v, k, l⟩ : S25)] 0 = ⟨v, k, l⟩ := rfl
  have hk := h.fk
  have hl := h.fl
  have hs : Ev (fun q => spinnakerref26_Size.f q [] [⟨v, k, l⟩]) (sizeB (k.length + l.length) l : Int) := by
    unfold spinnakerref26_Size.f
    refine Ev.by (f := fun q => spinnakerref26_Size.j1 q 0 0 true [] [⟨v, k, l⟩]) ?_ fun q => ?_
    · refine Ev.by (size_l1 v k l h.fl h.fb l.length 0 (k.length + l.length) (by omega) (by omega) (by omega)) fun q => ?_
      simp only [spinnakerref26_Size.j1, hrd]
      rw [if_pos trivial, if_pos (by decide), if_pos (by simp), wrap_id (0 + _) (by omega) (by omega), wrap_id _ (by omega) (by omega)]
      rw [show ((0 : Int) + (k.length : Int) + (l.length : Int)) = ((k.length + l.length : Nat) : Int) by omega]
      rfl
    · simp only [spinnakerref26_Size.l0]
      rw [if_pos (by simp)]
      rfl
  refine Ev.bind hs ?_
  unfold smallB
  by_cases h1 : sizeB (k.length + l.length) l ≤ 150
  · rw [decide_eq_true h1, Bool.true_and]
    refine Ev.if_pos (by omega) ?_
    by_cases h2 : v ≤ 60
    · rw [decide_eq_true h2, Bool.true_and]
      refine Ev.if_pos h2 ?_
      rw [right_f h]
      exact Ev.bind (Ev.now _) (Ev.now _)
    · rw [decide_eq_false h2, Bool.false_and]
      exact Ev.if_neg h2 (Ev.now _)
  · rw [decide_eq_false h1, Bool.false_and]
    exact Ev.if_neg (by omega) (Ev.now _)
structure SmallT (v : Int) (k : List Int) (l : List S36) : Prop where
  sk : k.length ≤ 150
  sl : l.length ≤ 150
  sb : ∀ b ∈ l, b.f0.length ≤ 150
  sr : refRB v k l 200 = true
theorem small_of {v : Int} {k : List Int} {l : List S36} (h : smallB v k l = true) : SmallT v k l := by
  simp only [smallB, Bool.and_eq_true, decide_eq_true_eq] at h
  have h1 := sizeB_le l (k.length + l.length)
  exact ⟨by omega, by omega, fun b hb => by have := sizeB_b l (k.length + l.length) (by omega) b hb; omega, h.2.2⟩

def none0 : Int → Option Int := fun _ => none
/-- What an instruction becomes: itself, or, a relaxed load, a copy. -/
theorem stI_two (g : Int → Option Int) (i : S38) : stI g i = i ∨ (i.f0 = 6 ∧ i.f6 = 0 ∧ ∃ a, g i.f5 = some a ∧ stI g i = ⟨2, i.f1, a, 0, 0, 0, 0, 0⟩) := by
  unfold stI
  split
  · rename_i h
    simp only [Bool.and_eq_true, relB, beq_iff_eq] at h
    obtain ⟨a, ha⟩ := Option.isSome_iff_exists.1 h.1
    exact .inr ⟨h.2.1, h.2.2, a, ha, by rw [ha]; rfl⟩
  · exact .inl rfl
theorem stL_get : ∀ (l : List S38) (g : Int → Option Int) (x : Nat) (h : x < l.length) (h' : x < (stL g l).length), (stL g l)[x] = l[x] ∨ (l[x].f0 = 6 ∧ l[x].f6 = 0 ∧ ∃ a, (stL g l)[x] = ⟨2, l[x].f1, a, 0, 0, 0, 0, 0⟩)
  | i :: r, g, 0, _, _ => by
    rcases stI_two g i with h | ⟨h1, h2, a, _, h3⟩
    · exact .inl h
    · exact .inr ⟨h1, h2, a, h3⟩
  | i :: r, g, x + 1, h, h' => stL_get r (stG g i) x (by simpa using h) (by simpa [stL] using h')
/-- What is told of a load's and a store's variables. -/
theorem refI_6 {i : S38} {v c : Int} {k k2 : Nat} (h : refI i v c k k2 = true) (h6 : i.f0 = 6) : 0 ≤ i.f1 ∧ i.f1 < v ∧ 0 < i.f7 := by
  obtain ⟨a0, a1, a2, a3, a4, a5, a6, a7⟩ := i
  obtain rfl : a0 = 6 := h6
  obtain ⟨h0, h1, h2, h3, h4, h5, h6, h7, h8, h9, h10, h11, h12, h13⟩ := hb_6
  simp only [refI, insR, T34, envR, h11, h12, h13, Eval.Tr.bval, Eval.BE.den, Eval.CO.den, Eval.IE.den, List.getD_cons_zero, List.getD_cons_succ, Nat.reduceEqDiff, if_true, if_false, reduceIte] at h
  simp only [Int.reduceBEq, Int.reduceBNe, Int.reduceEq, Bool.false_eq_true, reduceIte, cond_true, cond_false, Bool.cond_self, cond_iff, Bool.and_eq_true, Bool.or_eq_true, decide_eq_true_eq, beq_iff_eq, bne_iff_ne, decide_eq_false_iff_not, and_false, and_true, true_and, false_and, or_false, false_or] at h
  show 0 ≤ a1 ∧ a1 < v ∧ 0 < a7
  omega
theorem refI_7 {i : S38} {v c : Int} {k k2 : Nat} (h : refI i v c k k2 = true) (h7 : i.f0 = 7) : 0 ≤ i.f2 ∧ i.f2 < v := by
  obtain ⟨a0, a1, a2, a3, a4, a5, a6, a7⟩ := i
  obtain rfl : a0 = 7 := h7
  obtain ⟨h0, h1, h2, h3, h4, h5, h6, h7, h8, h9, h10, h11, h12, h13⟩ := hb_7
  simp only [refI, insR, T34, envR, h11, h12, h13, Eval.Tr.bval, Eval.BE.den, Eval.CO.den, Eval.IE.den, List.getD_cons_zero, List.getD_cons_succ, Nat.reduceEqDiff, if_true, if_false, reduceIte] at h
  simp only [Int.reduceBEq, Int.reduceBNe, Int.reduceEq, Bool.false_eq_true, reduceIte, cond_true, cond_false, Bool.cond_self, cond_iff, Bool.and_eq_true, Bool.or_eq_true, decide_eq_true_eq, beq_iff_eq, bne_iff_ne, decide_eq_false_iff_not, and_false, and_true, true_and, false_and, or_false, false_or] at h
  show 0 ≤ a2 ∧ a2 < v
  omega
theorem refI_copy {d a v c : Int} {k k2 : Nat} (hd : 0 ≤ d ∧ d < v) (ha : 0 ≤ a ∧ a < v) : refI ⟨2, d, a, 0, 0, 0, 0, 0⟩ v c k k2 = true := by
  obtain ⟨h0, h1, h2, h3, h4, h5, h6, h7, h8, h9, h10, h11, h12, h13⟩ := hb_2
  simp only [refI, insR, T34, envR, h11, h12, h13, Eval.Tr.bval, Eval.BE.den, Eval.CO.den, Eval.IE.den, List.getD_cons_zero, List.getD_cons_succ, Nat.reduceEqDiff, if_true, if_false, reduceIte]
  simp [hd.1, hd.2, ha.1, ha.2]
theorem forget_val {G : Int → Option Int} {c : Bool} {d y a : Int} (h : (if c = true then fun y => if G y = some d then none else G y else G : Int → Option Int) y = some a) : G y = some a := by
  cases c with
  | false => simpa using h
  | true =>
    have h' : (if G y = some d then none else G y) = some a := h
    split at h'
    · cases h'
    · exact h'
theorem clear_val {g : Int → Option Int} {c : Bool} {y a : Int} (h : (if c = true then fun _ => none else g : Int → Option Int) y = some a) : g y = some a := by
  cases c with
  | false => simpa using h
  | true => simp at h
theorem put_val {g : Int → Option Int} {x d y a : Int} (h : (if y = x then some d else g y) = some a) : a = d ∨ g y = some a := by
  split at h
  · injection h with h; exact .inl h.symm
  · exact .inr h
theorem stK_in {v : Int} {g : Int → Option Int} {j : S38} (hg : ∀ y a, g y = some a → 0 ≤ a ∧ a < v) (h6 : j.f0 = 6 → 0 ≤ j.f1 ∧ j.f1 < v) (h7 : j.f0 = 7 → 0 ≤ j.f2 ∧ j.f2 < v) : ∀ y a, stK g j y = some a → 0 ≤ a ∧ a < v := by
  intro y a h
  unfold stK at h
  by_cases c1 : relB j 6 = true
  · rw [if_pos c1] at h
    rcases put_val h with rfl | h
    · simp only [relB, Bool.and_eq_true, beq_iff_eq] at c1
      exact h6 c1.1
    · exact hg y a (clear_val (forget_val h))
  · rw [if_neg c1] at h
    by_cases c2 : relB j 7 = true
    · rw [if_pos c2] at h
      rcases put_val h with rfl | h
      · simp only [relB, Bool.and_eq_true, beq_iff_eq] at c2
        exact h7 c2.1
      · exact hg y a (clear_val (forget_val h))
    · rw [if_neg c2] at h
      exact hg y a (clear_val (forget_val h))
/-- The ids behind a right block: the same, or fewer, behind the block that was gone through. -/
theorem goRI_re (v c : Int) (k k2 : Nat) : ∀ (l : List S38) (ids ids2 ids' : List Int) (g : Int → Option Int), (∀ x ∈ ids2, x ∈ ids) → (∀ y a, g y = some a → 0 ≤ a ∧ a < v) → goRI v c k k2 ids l = some ids' →
    ∃ ids2', goRI v c k k2 ids2 (stL g l) = some ids2' ∧ ∀ x ∈ ids2', x ∈ ids'
  | [], ids, ids2, ids', g, hs, hg, h => by
    simp only [goRI, Option.some.injEq] at h
    subst h
    exact ⟨ids2, rfl, hs⟩
  | i :: r, ids, ids2, ids', g, hs, hg, h => by
    rw [goRI] at h
    cases hi : refI i v c k k2 with
    | false => rw [hi] at h; cases h
    | true =>
      rw [hi] at h
      simp only [cond_true] at h
      have hc : ∀ x, ids.contains x = false → ids2.contains x = false := by
        intro x hx
        rw [Bool.eq_false_iff] at hx ⊢
        intro h2
        exact hx (List.contains_iff_mem.2 (hs x (List.contains_iff_mem.1 h2)))
      rw [stL, goRI]
      rcases stI_two g i with e | ⟨h6, h60, a, ha, e⟩
      · have hg' : ∀ y a, stG g i y = some a → 0 ≤ a ∧ a < v := by
          unfold stG
          rw [e]
          exact stK_in hg (fun h6 => ⟨(refI_6 hi h6).1, (refI_6 hi h6).2.1⟩) (fun h7 => refI_7 hi h7)
        rw [e, hi]
        simp only [cond_true]
        cases h0 : decide (0 < i.f7) with
        | true =>
          rw [h0] at h
          simp only [cond_true] at h ⊢
          cases hcc : ids.contains i.f7 with
          | true => rw [hcc] at h; cases h
          | false =>
            rw [hcc] at h
            rw [hc _ hcc]
            exact goRI_re v c k k2 r (ids ++ [i.f7]) (ids2 ++ [i.f7]) ids' (stG g i) (fun x hx => by simp only [List.mem_append] at hx ⊢; exact hx.imp (hs x) id) hg' h
        | false =>
          rw [h0] at h
          exact goRI_re v c k k2 r ids ids2 ids' (stG g i) hs hg' h
      · have h6' := refI_6 hi h6
        have hj : refI ⟨2, i.f1, a, 0, 0, 0, 0, 0⟩ v c k k2 = true := refI_copy ⟨h6'.1, h6'.2.1⟩ (hg _ _ ha)
        have hg' : ∀ y a, stG g i y = some a → 0 ≤ a ∧ a < v := by
          unfold stG
          rw [e]
          exact stK_in hg (fun h => absurd h (by simp)) (fun h => absurd h (by simp))
        rw [e, hj]
        rw [decide_eq_true h6'.2.2] at h
        simp only [cond_true] at h ⊢
        cases hcc : ids.contains i.f7 with
        | true => rw [hcc] at h; cases h
        | false =>
          rw [hcc] at h
          exact goRI_re v c k k2 r (ids ++ [i.f7]) ids2 ids' (stG g i) (fun x hx => List.mem_append_left _ (hs x hx)) hg' h
theorem goRB_re (v c : Int) (k k2 : Nat) : ∀ (l : List S36) (ids ids2 : List Int), (∀ x ∈ ids2, x ∈ ids) → goRB v c k k2 ids l = true → goRB v c k k2 ids2 (l.map reB) = true
  | [], _, _, _, _ => rfl
  | b :: r, ids, ids2, hs, h => by
    rw [goRB] at h
    rw [List.map_cons, goRB]
    cases e : goRI v c k k2 ids b.f0 with
    | none => rw [e] at h; cases h
    | some ids' =>
      rw [e] at h
      obtain ⟨ids2', e2, hs2⟩ := goRI_re v c k k2 b.f0 ids ids2 ids' none0 hs (fun _ _ h => by cases h) e
      rw [show (reB b).f0 = stL none0 b.f0 from rfl, e2, show (reB b).f1 = b.f1 from rfl]
      simp only at h ⊢
      cases he : endR b.f1 v k2 with
      | false => rw [he] at h; cases h
      | true =>
        rw [he] at h
        exact goRB_re v c k k2 r ids' ids2' hs2 h
theorem right_re {v : Int} {k : List Int} {l : List S36} {c : Int} (h : refRB v k l c = true) : refRB v k (l.map reB) c = true := by
  unfold refRB at h ⊢
  rw [List.length_map]
  rw [Bool.and_eq_true, Bool.and_eq_true] at h ⊢
  exact ⟨h.1, h.2.1, goRB_re v c k.length l.length l [] [] (fun _ hx => hx) h.2.2⟩
theorem Fine.okT {v : Int} {k : List Int} {l : List S36} (h : Fine v k l) (h4 : l.length ≤ 4000) : okT k l :=
  ⟨by have := h.fk; omega, h4, h.ids, fun b hb => ⟨by have := h.fb b hb; omega, fun i hi => ⟨(h.fi b hb i hi).2.1, (h.fi b hb i hi).2.2.1, (h.fi b hb i hi).2.2.2.2.2.1⟩⟩⟩
theorem reuse_ev {v : Int} {k : List Int} {l : List S36} (h : Fine v k l) (h4 : l.length ≤ 4000) (hr : refRB v k l 200 = true) : Ev (fun q => reload_Reuse.f q v k l) (v, k, l.map reB) :=
  Ev.of (fun q => reload_Reuse.mono v k l q) (reuse_f v k l (h.okT h4) (by rw [← right_same]; exact hr))
theorem re_get (l : List S36) (b : Nat) (h : b < l.length) : rd_T36 (l.map reB) (b : Int) = reB l[b] := by
  rw [rdB _ _ (by simpa using h), List.getElem_map]
theorem awake37_ev : Ev (fun q => spinnakerlaw37_awake.f q) true := by
  unfold spinnakerlaw37_awake.f
  have hg : reload_Gone.f 2 [] [⟨[⟨6, 0, 0, 0, 0, 0, 0, 1⟩, ⟨6, 1, 0, 0, 0, 0, 0, 2⟩], ⟨3, 0, 0, 0⟩⟩] = some [2] := by kernel_rfl
  rw [hg]
  refine Ev.bind (Ev.now _) ?_
  refine Ev.bind (ints_ev [2] [2] (by decide)) ?_
  exact Ev.now _

theorem acts_l1 (v : Int) (k : List Int) (l : List S36) (j : Nat) (hj : j < l.length) (hl : l.length ≤ 1048576) (hb : l[j].f0.length ≤ 1048576) (hn : Ev (fun q => spinnakerlaw37_ReloadActions.l0 q (wrap64 ((j : Int) + 1)) v k l v k (l.map reB)) true) : ∀ d x, x ≤ l[j].f0.length → l[j].f0.length - x = d →
    Ev (fun q => spinnakerlaw37_ReloadActions.l1 q (j : Int) (x : Int) v k l v k (l.map reB)) true := by
  have e1 : rd_T36 l (j : Int) = l[j] := rdB l j hj
  have e2 : rd_T36 (l.map reB) (j : Int) = reB l[j] := re_get l j hj
  have hsl : (stL none0 l[j].f0).length = l[j].f0.length := stL_len _ _
  intro d
  induction d with
  | zero =>
    intro x hx hd
    refine Ev.by hn fun q => ?_
    simp only [spinnakerlaw37_ReloadActions.l1, e1]
    rw [if_pos (by omega), if_pos (by omega), if_neg (by omega)]
  | succ d ih =>
    intro x hx hd
    have hx1 : x < l[j].f0.length := by omega
    have e3 : rd_T38 l[j].f0 (x : Int) = l[j].f0[x] := rdI _ x hx1
    have e4 : rd_T38 (reB l[j]).f0 (x : Int) = (stL none0 l[j].f0)[x] := rdI (stL none0 l[j].f0) x (by omega)
    have hrl : ((reB l[j]).f0.length : Int) = (l[j].f0.length : Int) := by rw [show (reB l[j]).f0 = stL none0 l[j].f0 from rfl, hsl]
    refine Ev.by (ih (x + 1) (by omega) (by omega)) fun q => ?_
    simp only [spinnakerlaw37_ReloadActions.l1, e1, e2, e3, e4]
    rw [if_pos (by omega), if_pos (by omega), if_pos (by omega), if_pos (by omega), if_pos (by rw [List.length_map]; omega), if_pos (by omega), wrap_succ x (by omega)]
    rcases stL_get l[j].f0 none0 x hx1 (by omega) with e | ⟨h6, h60, a, e⟩
    · rw [if_neg (by rw [e]; simp)]
    · rw [e, if_pos (by rw [h6]; rfl), if_pos h6, if_pos h60, if_pos rfl, if_pos rfl]
theorem acts_l0 (v : Int) (k : List Int) (l : List S36) (hl : l.length ≤ 1048576) (hb : ∀ b ∈ l, b.f0.length ≤ 1048576) : ∀ d j, j ≤ l.length → l.length - j = d →
    Ev (fun q => spinnakerlaw37_ReloadActions.l0 q (j : Int) v k l v k (l.map reB)) true := by
  intro d
  induction d with
  | zero =>
    intro j hj hd
    refine Ev.by (f := fun q => (spinnakerlaw37_awake.f q).bind fun t => some t) (Ev.bind awake37_ev (Ev.now _)) fun q => ?_
    simp only [spinnakerlaw37_ReloadActions.l0]
    rw [if_neg (by omega)]
  | succ d ih =>
    intro j hj hd
    have hj1 : j < l.length := by omega
    have e1 : rd_T36 l (j : Int) = l[j] := rdB l j hj1
    have e2 : rd_T36 (l.map reB) (j : Int) = reB l[j] := re_get l j hj1
    have hsl : (stL none0 l[j].f0).length = l[j].f0.length := stL_len _ _
    have hrl : ((reB l[j]).f0.length : Int) = (l[j].f0.length : Int) := by rw [show (reB l[j]).f0 = stL none0 l[j].f0 from rfl, hsl]
    have hn := ih (j + 1) (by omega) (by omega)
    rw [← wrap_succ j (by omega)] at hn
    refine Ev.by (acts_l1 v k l j hj1 hl (hb _ (List.getElem_mem hj1)) hn l[j].f0.length 0 (by omega) (by omega)) fun q => ?_
    simp only [spinnakerlaw37_ReloadActions.l0, e1, e2]
    rw [if_pos (by omega), if_pos (by omega), if_pos (by rw [List.length_map]; omega), if_pos hrl, if_neg (by rw [show (reB l[j]).f1 = l[j].f1 from rfl]; simp)]
    rfl
theorem ReloadActions : spinnakerlaw37_ReloadActions.Pure := by
  intro v k l ho hw
  have hF := fine_of ho hw
  apply Ev.rounds
  unfold spinnakerlaw37_ReloadActions.f
  refine Ev.bind (small_ev hF) ?_
  cases hs : smallB v k l with
  | false =>
    refine Ev.if_neg (by decide) ?_
    exact Ev.bind awake37_ev (Ev.now _)
  | true =>
    have hS := small_of hs
    refine Ev.if_pos rfl ?_
    refine Ev.bind (reuse_ev hF (by have := hS.sl; omega) hS.sr) ?_
    have hrf : spinnakerref26_Right.f v k (l.map reB) 200 = some true := by
      rw [spinnakerref26_Right.f, if_pos, right_re hS.sr]
      refine ⟨by have := hF.fk; omega, fun b hb => ?_⟩
      obtain ⟨c, hc, rfl⟩ := List.mem_map.1 hb
      rw [show (reB c).f0 = stL none0 c.f0 from rfl, stL_len]
      exact hF.fb c hc
    simp only [hrf]
    refine Ev.bind (Ev.now _) ?_
    refine Ev.if_pos rfl ?_
    refine Ev.if_pos (by rw [List.length_map]) ?_
    exact acts_l0 v k l hF.fl hF.fb l.length 0 (by omega) (by omega)

end Go.Proofs.YtgenmfbidpmneaaDoor.Pure
