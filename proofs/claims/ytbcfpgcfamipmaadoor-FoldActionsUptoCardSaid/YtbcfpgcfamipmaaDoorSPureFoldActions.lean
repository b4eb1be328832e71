/- A thread that was folded is right, has as many blocks and instructions, and the same accesses, fences, prints and array operations; what is a constant now was a copy or was reckoned. For every thread that can be read as data (where all that comes in weighs no more than the row's bound). -/
import Derived.Test.YtbcfpgcfamipmaaDoorSPFoldActionsx9
namespace Go.Proofs.YtbcfpgcfamipmaaDoor.Pure
open Go.RowKit Go.Proofs.YtbcfpgcfamipmaaDoor.PFoldActions Go.Proofs.YtbcfpgcfamipmaaDoorW.PrintWords Go.Proofs.YtbcfpgcfamipmaaDoorW.PrintLast Go.Proofs.YtbcfpgcfamipmaaDoorW.PrintMore

set_option linter.unusedVariables false
set_option linter.unusedSimpArgs false
theorem wrap_succ (i : Nat) (h : i ≤ 4611686018427387904) : wrap64 ((i : Int) + 1) = ((i + 1 : Nat) : Int) := by
  unfold wrap64
  omega
/-- One round: by an equation for every number of rounds. -/
theorem Ev.by {α : Type} {g f : Nat → Option α} {r : α} (k : Ev f r) (h : ∀ k, g (k + 1) = f k) : Ev g r := Ev.step h k
theorem Ev.end_ {α : Type} {g : Nat → Option α} {r : α} (h : ∀ k, g (k + 1) = some r) : Ev g r := Ev.step (f := fun _ => some r) h (Ev.now r)
theorem Ev.if_pos {α : Type} {c : Prop} [Decidable c] {g f : Nat → Option α} {r : α} (hc : c) (h : Ev g r) : Ev (fun k => if c then g k else f k) r := by
  exact Ev.congr (fun _ => _root_.if_pos hc) h
theorem Ev.if_neg {α : Type} {c : Prop} [Decidable c] {g f : Nat → Option α} {r : α} (hc : ¬ c) (h : Ev f r) : Ev (fun k => if c then g k else f k) r := by
  exact Ev.congr (fun _ => _root_.if_neg hc) h
theorem drop_cons {α : Type} (l : List α) (i : Nat) (h : i < l.length) : l.drop i = l[i] :: l.drop (i + 1) := List.drop_eq_getElem_cons h

theorem cond_iff (c a b : Bool) : (cond c a b = true) ↔ (c = true ∧ a = true) ∨ (¬ c = true ∧ b = true) := by cases c <;> simp
/-- What an operation has, as both tell it. -/
theorem hb_0 : hasB 0 1 = false ∧ hasB 0 2 = false ∧ hasB 0 4 = false ∧ hasB 0 8 = false ∧ hasB 0 16 = false ∧ hasB 0 32 = false ∧ hasB 0 64 = false ∧ hasB 0 128 = false ∧ hasB 0 256 = false ∧ hasB 0 512 = false ∧ (fldB 0 != 0) = false ∧ dB 0 = false ∧ aB 0 = false ∧ bB 0 = false := ⟨by kernel_rfl, by kernel_rfl, by kernel_rfl, by kernel_rfl, by kernel_rfl, by kernel_rfl, by kernel_rfl, by kernel_rfl, by kernel_rfl, by kernel_rfl, by kernel_rfl, by kernel_rfl, by kernel_rfl, by kernel_rfl⟩
theorem hb_1 : hasB 1 1 = true ∧ hasB 1 2 = false ∧ hasB 1 4 = false ∧ hasB 1 8 = false ∧ hasB 1 16 = true ∧ hasB 1 32 = false ∧ hasB 1 64 = false ∧ hasB 1 128 = false ∧ hasB 1 256 = false ∧ hasB 1 512 = false ∧ (fldB 1 != 0) = true ∧ dB 1 = true ∧ aB 1 = false ∧ bB 1 = false := ⟨by kernel_rfl, by kernel_rfl, by kernel_rfl, by kernel_rfl, by kernel_rfl, by kernel_rfl, by kernel_rfl, by kernel_rfl, by kernel_rfl, by kernel_rfl, by kernel_rfl, by kernel_rfl, by kernel_rfl, by kernel_rfl⟩
theorem hb_2 : hasB 2 1 = true ∧ hasB 2 2 = true ∧ hasB 2 4 = false ∧ hasB 2 8 = false ∧ hasB 2 16 = false ∧ hasB 2 32 = false ∧ hasB 2 64 = false ∧ hasB 2 128 = false ∧ hasB 2 256 = false ∧ hasB 2 512 = false ∧ (fldB 2 != 0) = true ∧ dB 2 = true ∧ aB 2 = true ∧ bB 2 = false := ⟨by kernel_rfl, by kernel_rfl, by kernel_rfl, by kernel_rfl, by kernel_rfl, by kernel_rfl, by kernel_rfl, by kernel_rfl, by kernel_rfl, by kernel_rfl, by kernel_rfl, by kernel_rfl, by kernel_rfl, by kernel_rfl⟩
theorem hb_3 : hasB 3 1 = true ∧ hasB 3 2 = true ∧ hasB 3 4 = true ∧ hasB 3 8 = false ∧ hasB 3 16 = false ∧ hasB 3 32 = true ∧ hasB 3 64 = false ∧ hasB 3 128 = false ∧ hasB 3 256 = false ∧ hasB 3 512 = false ∧ (fldB 3 != 0) = true ∧ dB 3 = true ∧ aB 3 = true ∧ bB 3 = true := ⟨by kernel_rfl, by kernel_rfl, by kernel_rfl, by kernel_rfl, by kernel_rfl, by kernel_rfl, by kernel_rfl, by kernel_rfl, by kernel_rfl, by kernel_rfl, by kernel_rfl, by kernel_rfl, by kernel_rfl, by kernel_rfl⟩
theorem hb_4 : hasB 4 1 = true ∧ hasB 4 2 = true ∧ hasB 4 4 = false ∧ hasB 4 8 = false ∧ hasB 4 16 = false ∧ hasB 4 32 = false ∧ hasB 4 64 = true ∧ hasB 4 128 = false ∧ hasB 4 256 = false ∧ hasB 4 512 = false ∧ (fldB 4 != 0) = true ∧ dB 4 = true ∧ aB 4 = true ∧ bB 4 = false := ⟨by kernel_rfl, by kernel_rfl, by kernel_rfl, by kernel_rfl, by kernel_rfl, by kernel_rfl, by kernel_rfl, by kernel_rfl, by kernel_rfl, by kernel_rfl, by kernel_rfl, by kernel_rfl, by kernel_rfl, by kernel_rfl⟩
theorem hb_5 : hasB 5 1 = false ∧ hasB 5 2 = true ∧ hasB 5 4 = true ∧ hasB 5 8 = false ∧ hasB 5 16 = false ∧ hasB 5 32 = false ∧ hasB 5 64 = true ∧ hasB 5 128 = false ∧ hasB 5 256 = false ∧ hasB 5 512 = false ∧ (fldB 5 != 0) = true ∧ dB 5 = false ∧ aB 5 = true ∧ bB 5 = true := ⟨by kernel_rfl, by kernel_rfl, by kernel_rfl, by kernel_rfl, by kernel_rfl, by kernel_rfl, by kernel_rfl, by kernel_rfl, by kernel_rfl, by kernel_rfl, by kernel_rfl, by kernel_rfl, by kernel_rfl, by kernel_rfl⟩
theorem hb_6 : hasB 6 1 = true ∧ hasB 6 2 = false ∧ hasB 6 4 = false ∧ hasB 6 8 = false ∧ hasB 6 16 = false ∧ hasB 6 32 = false ∧ hasB 6 64 = false ∧ hasB 6 128 = true ∧ hasB 6 256 = true ∧ hasB 6 512 = true ∧ (fldB 6 != 0) = true ∧ dB 6 = true ∧ aB 6 = false ∧ bB 6 = false := ⟨by kernel_rfl, by kernel_rfl, by kernel_rfl, by kernel_rfl, by kernel_rfl, by kernel_rfl, by kernel_rfl, by kernel_rfl, by kernel_rfl, by kernel_rfl, by kernel_rfl, by kernel_rfl, by kernel_rfl, by kernel_rfl⟩
theorem hb_7 : hasB 7 1 = false ∧ hasB 7 2 = true ∧ hasB 7 4 = false ∧ hasB 7 8 = false ∧ hasB 7 16 = false ∧ hasB 7 32 = false ∧ hasB 7 64 = false ∧ hasB 7 128 = true ∧ hasB 7 256 = true ∧ hasB 7 512 = true ∧ (fldB 7 != 0) = true ∧ dB 7 = false ∧ aB 7 = true ∧ bB 7 = false := ⟨by kernel_rfl, by kernel_rfl, by kernel_rfl, by kernel_rfl, by kernel_rfl, by kernel_rfl, by kernel_rfl, by kernel_rfl, by kernel_rfl, by kernel_rfl, by kernel_rfl, by kernel_rfl, by kernel_rfl, by kernel_rfl⟩
theorem hb_8 : hasB 8 1 = true ∧ hasB 8 2 = true ∧ hasB 8 4 = false ∧ hasB 8 8 = true ∧ hasB 8 16 = false ∧ hasB 8 32 = false ∧ hasB 8 64 = false ∧ hasB 8 128 = true ∧ hasB 8 256 = true ∧ hasB 8 512 = true ∧ (fldB 8 != 0) = true ∧ dB 8 = true ∧ aB 8 = true ∧ bB 8 = false := ⟨by kernel_rfl, by kernel_rfl, by kernel_rfl, by kernel_rfl, by kernel_rfl, by kernel_rfl, by kernel_rfl, by kernel_rfl, by kernel_rfl, by kernel_rfl, by kernel_rfl, by kernel_rfl, by kernel_rfl, by kernel_rfl⟩
theorem hb_9 : hasB 9 1 = true ∧ hasB 9 2 = true ∧ hasB 9 4 = true ∧ hasB 9 8 = false ∧ hasB 9 16 = false ∧ hasB 9 32 = false ∧ hasB 9 64 = false ∧ hasB 9 128 = true ∧ hasB 9 256 = true ∧ hasB 9 512 = true ∧ (fldB 9 != 0) = true ∧ dB 9 = true ∧ aB 9 = true ∧ bB 9 = true := ⟨by kernel_rfl, by kernel_rfl, by kernel_rfl, by kernel_rfl, by kernel_rfl, by kernel_rfl, by kernel_rfl, by kernel_rfl, by kernel_rfl, by kernel_rfl, by kernel_rfl, by kernel_rfl, by kernel_rfl, by kernel_rfl⟩
theorem hb_10 : hasB 10 1 = false ∧ hasB 10 2 = false ∧ hasB 10 4 = false ∧ hasB 10 8 = false ∧ hasB 10 16 = false ∧ hasB 10 32 = false ∧ hasB 10 64 = false ∧ hasB 10 128 = false ∧ hasB 10 256 = true ∧ hasB 10 512 = false ∧ (fldB 10 != 0) = true ∧ dB 10 = false ∧ aB 10 = false ∧ bB 10 = false := ⟨by kernel_rfl, by kernel_rfl, by kernel_rfl, by kernel_rfl, by kernel_rfl, by kernel_rfl, by kernel_rfl, by kernel_rfl, by kernel_rfl, by kernel_rfl, by kernel_rfl, by kernel_rfl, by kernel_rfl, by kernel_rfl⟩
theorem hb_11 : hasB 11 1 = false ∧ hasB 11 2 = true ∧ hasB 11 4 = false ∧ hasB 11 8 = false ∧ hasB 11 16 = false ∧ hasB 11 32 = false ∧ hasB 11 64 = false ∧ hasB 11 128 = false ∧ hasB 11 256 = false ∧ hasB 11 512 = true ∧ (fldB 11 != 0) = true ∧ dB 11 = false ∧ aB 11 = true ∧ bB 11 = false := ⟨by kernel_rfl, by kernel_rfl, by kernel_rfl, by kernel_rfl, by kernel_rfl, by kernel_rfl, by kernel_rfl, by kernel_rfl, by kernel_rfl, by kernel_rfl, by kernel_rfl, by kernel_rfl, by kernel_rfl, by kernel_rfl⟩
theorem fld_out (x : Int) (h : ¬ (0 ≤ x ∧ x < 12)) : ir_fields.f x = some 0 := by unfold ir_fields.f; rw [if_neg h]
theorem hb_out (x : Int) (h : ¬ (0 ≤ x ∧ x < 12)) : hasB x 1 = false ∧ hasB x 2 = false ∧ hasB x 4 = false ∧ hasB x 8 = false ∧ hasB x 16 = false ∧ hasB x 32 = false ∧ hasB x 64 = false ∧ hasB x 128 = false ∧ hasB x 256 = false ∧ hasB x 512 = false ∧ (fldB x != 0) = false := by
  unfold hasB fldB
  rw [fld_out x h]
  exact ⟨by kernel_rfl, by kernel_rfl, by kernel_rfl, by kernel_rfl, by kernel_rfl, by kernel_rfl, by kernel_rfl, by kernel_rfl, by kernel_rfl, by kernel_rfl, by kernel_rfl⟩
theorem op_split (x : Int) : x = 1 ∨ x = 2 ∨ x = 3 ∨ x = 4 ∨ x = 5 ∨ x = 6 ∨ x = 7 ∨ x = 8 ∨ x = 9 ∨ x = 10 ∨ x = 11 ∨ x = 0 ∨ ¬ (0 ≤ x ∧ x < 12) := by omega
theorem ins_1 (a1 a2 a3 a4 a5 a6 a7 v c : Int) (k k2 : Nat) : insR 1 a1 a2 a3 a4 a5 a6 a7 v c k k2 = insB 1 a1 a2 a3 a4 a5 a6 a7 v c k k2 := by
  obtain ⟨h0, h1, h2, h3, h4, h5, h6, h7, h8, h9, h10, h11, h12, h13⟩ := hb_1
  simp only [insR, insB, T34, T60, envR, envI, numB, ordB, withinB, h0, h1, h2, h3, h4, h5, h6, h7, h8, h9, h10, h11, h12, h13, Eval.Tr.bval, Eval.BE.den, Eval.CO.den, Eval.IE.den, List.getD_cons_zero, List.getD_cons_succ, Nat.reduceEqDiff, if_true, if_false, reduceIte]
  simp only [Int.reduceBEq, Int.reduceBNe, Int.reduceEq, Bool.false_eq_true, reduceIte, cond_true, cond_false, Bool.cond_self]
  rw [Bool.eq_iff_iff]
  simp only [cond_iff, Bool.and_eq_true, Bool.or_eq_true, decide_eq_true_eq, beq_iff_eq, bne_iff_ne, decide_eq_false_iff_not, Bool.false_eq_true, and_false, and_true, true_and, false_and, or_false, false_or]
  first | done | omega | (simp; omega)
theorem ins_2 (a1 a2 a3 a4 a5 a6 a7 v c : Int) (k k2 : Nat) : insR 2 a1 a2 a3 a4 a5 a6 a7 v c k k2 = insB 2 a1 a2 a3 a4 a5 a6 a7 v c k k2 := by
  obtain ⟨h0, h1, h2, h3, h4, h5, h6, h7, h8, h9, h10, h11, h12, h13⟩ := hb_2
  simp only [insR, insB, T34, T60, envR, envI, numB, ordB, withinB, h0, h1, h2, h3, h4, h5, h6, h7, h8, h9, h10, h11, h12, h13, Eval.Tr.bval, Eval.BE.den, Eval.CO.den, Eval.IE.den, List.getD_cons_zero, List.getD_cons_succ, Nat.reduceEqDiff, if_true, if_false, reduceIte]
  simp only [Int.reduceBEq, Int.reduceBNe, Int.reduceEq, Bool.false_eq_true, reduceIte, cond_true, cond_false, Bool.cond_self]
  rw [Bool.eq_iff_iff]
  simp only [cond_iff, Bool.and_eq_true, Bool.or_eq_true, decide_eq_true_eq, beq_iff_eq, bne_iff_ne, decide_eq_false_iff_not, Bool.false_eq_true, and_false, and_true, true_and, false_and, or_false, false_or]
  first | done | omega | (simp; omega)
theorem ins_3 (a1 a2 a3 a4 a5 a6 a7 v c : Int) (k k2 : Nat) : insR 3 a1 a2 a3 a4 a5 a6 a7 v c k k2 = insB 3 a1 a2 a3 a4 a5 a6 a7 v c k k2 := by
  obtain ⟨h0, h1, h2, h3, h4, h5, h6, h7, h8, h9, h10, h11, h12, h13⟩ := hb_3
  simp only [insR, insB, T34, T60, envR, envI, numB, ordB, withinB, h0, h1, h2, h3, h4, h5, h6, h7, h8, h9, h10, h11, h12, h13, Eval.Tr.bval, Eval.BE.den, Eval.CO.den, Eval.IE.den, List.getD_cons_zero, List.getD_cons_succ, Nat.reduceEqDiff, if_true, if_false, reduceIte]
  simp only [Int.reduceBEq, Int.reduceBNe, Int.reduceEq, Bool.false_eq_true, reduceIte, cond_true, cond_false, Bool.cond_self]
  rw [Bool.eq_iff_iff]
  simp only [cond_iff, Bool.and_eq_true, Bool.or_eq_true, decide_eq_true_eq, beq_iff_eq, bne_iff_ne, decide_eq_false_iff_not, Bool.false_eq_true, and_false, and_true, true_and, false_and, or_false, false_or]
  first | done | omega | (simp; omega)
theorem ins_4 (a1 a2 a3 a4 a5 a6 a7 v c : Int) (k k2 : Nat) : insR 4 a1 a2 a3 a4 a5 a6 a7 v c k k2 = insB 4 a1 a2 a3 a4 a5 a6 a7 v c k k2 := by
  obtain ⟨h0, h1, h2, h3, h4, h5, h6, h7, h8, h9, h10, h11, h12, h13⟩ := hb_4
  simp only [insR, insB, T34, T60, envR, envI, numB, ordB, withinB, h0, h1, h2, h3, h4, h5, h6, h7, h8, h9, h10, h11, h12, h13, Eval.Tr.bval, Eval.BE.den, Eval.CO.den, Eval.IE.den, List.getD_cons_zero, List.getD_cons_succ, Nat.reduceEqDiff, if_true, if_false, reduceIte]
  simp only [Int.reduceBEq, Int.reduceBNe, Int.reduceEq, Bool.false_eq_true, reduceIte, cond_true, cond_false, Bool.cond_self]
  rw [Bool.eq_iff_iff]
  simp only [cond_iff, Bool.and_eq_true, Bool.or_eq_true, decide_eq_true_eq, beq_iff_eq, bne_iff_ne, decide_eq_false_iff_not, Bool.false_eq_true, and_false, and_true, true_and, false_and, or_false, false_or]
  first | done | omega | (simp; omega)
theorem ins_5 (a1 a2 a3 a4 a5 a6 a7 v c : Int) (k k2 : Nat) : insR 5 a1 a2 a3 a4 a5 a6 a7 v c k k2 = insB 5 a1 a2 a3 a4 a5 a6 a7 v c k k2 := by
  obtain ⟨h0, h1, h2, h3, h4, h5, h6, h7, h8, h9, h10, h11, h12, h13⟩ := hb_5
  simp only [insR, insB, T34, T60, envR, envI, numB, ordB, withinB, h0, h1, h2, h3, h4, h5, h6, h7, h8, h9, h10, h11, h12, h13, Eval.Tr.bval, Eval.BE.den, Eval.CO.den, Eval.IE.den, List.getD_cons_zero, List.getD_cons_succ, Nat.reduceEqDiff, if_true, if_false, reduceIte]
  simp only [Int.reduceBEq, Int.reduceBNe, Int.reduceEq, Bool.false_eq_true, reduceIte, cond_true, cond_false, Bool.cond_self]
  rw [Bool.eq_iff_iff]
  simp only [cond_iff, Bool.and_eq_true, Bool.or_eq_true, decide_eq_true_eq, beq_iff_eq, bne_iff_ne, decide_eq_false_iff_not, Bool.false_eq_true, and_false, and_true, true_and, false_and, or_false, false_or]
  first | done | omega | (simp; omega)
theorem ins_6 (a1 a2 a3 a4 a5 a6 a7 v c : Int) (k k2 : Nat) : insR 6 a1 a2 a3 a4 a5 a6 a7 v c k k2 = insB 6 a1 a2 a3 a4 a5 a6 a7 v c k k2 := by
  obtain ⟨h0, h1, h2, h3, h4, h5, h6, h7, h8, h9, h10, h11, h12, h13⟩ := hb_6
  simp only [insR, insB, T34, T60, envR, envI, numB, ordB, withinB, h0, h1, h2, h3, h4, h5, h6, h7, h8, h9, h10, h11, h12, h13, Eval.Tr.bval, Eval.BE.den, Eval.CO.den, Eval.IE.den, List.getD_cons_zero, List.getD_cons_succ, Nat.reduceEqDiff, if_true, if_false, reduceIte]
  simp only [Int.reduceBEq, Int.reduceBNe, Int.reduceEq, Bool.false_eq_true, reduceIte, cond_true, cond_false, Bool.cond_self]
  rw [Bool.eq_iff_iff]
  simp only [cond_iff, Bool.and_eq_true, Bool.or_eq_true, decide_eq_true_eq, beq_iff_eq, bne_iff_ne, decide_eq_false_iff_not, Bool.false_eq_true, and_false, and_true, true_and, false_and, or_false, false_or]
  first | done | omega | (simp; omega)
theorem ins_7 (a1 a2 a3 a4 a5 a6 a7 v c : Int) (k k2 : Nat) : insR 7 a1 a2 a3 a4 a5 a6 a7 v c k k2 = insB 7 a1 a2 a3 a4 a5 a6 a7 v c k k2 := by
  obtain ⟨h0, h1, h2, h3, h4, h5, h6, h7, h8, h9, h10, h11, h12, h13⟩ := hb_7
  simp only [insR, insB, T34, T60, envR, envI, numB, ordB, withinB, h0, h1, h2, h3, h4, h5, h6, h7, h8, h9, h10, h11, h12, h13, Eval.Tr.bval, Eval.BE.den, Eval.CO.den, Eval.IE.den, List.getD_cons_zero, List.getD_cons_succ, Nat.reduceEqDiff, if_true, if_false, reduceIte]
  simp only [Int.reduceBEq, Int.reduceBNe, Int.reduceEq, Bool.false_eq_true, reduceIte, cond_true, cond_false, Bool.cond_self]
  rw [Bool.eq_iff_iff]
  simp only [cond_iff, Bool.and_eq_true, Bool.or_eq_true, decide_eq_true_eq, beq_iff_eq, bne_iff_ne, decide_eq_false_iff_not, Bool.false_eq_true, and_false, and_true, true_and, false_and, or_false, false_or]
  first | done | omega | (simp; omega)
theorem ins_8 (a1 a2 a3 a4 a5 a6 a7 v c : Int) (k k2 : Nat) : insR 8 a1 a2 a3 a4 a5 a6 a7 v c k k2 = insB 8 a1 a2 a3 a4 a5 a6 a7 v c k k2 := by
  obtain ⟨h0, h1, h2, h3, h4, h5, h6, h7, h8, h9, h10, h11, h12, h13⟩ := hb_8
  simp only [insR, insB, T34, T60, envR, envI, numB, ordB, withinB, h0, h1, h2, h3, h4, h5, h6, h7, h8, h9, h10, h11, h12, h13, Eval.Tr.bval, Eval.BE.den, Eval.CO.den, Eval.IE.den, List.getD_cons_zero, List.getD_cons_succ, Nat.reduceEqDiff, if_true, if_false, reduceIte]
  simp only [Int.reduceBEq, Int.reduceBNe, Int.reduceEq, Bool.false_eq_true, reduceIte, cond_true, cond_false, Bool.cond_self]
  rw [Bool.eq_iff_iff]
  simp only [cond_iff, Bool.and_eq_true, Bool.or_eq_true, decide_eq_true_eq, beq_iff_eq, bne_iff_ne, decide_eq_false_iff_not, Bool.false_eq_true, and_false, and_true, true_and, false_and, or_false, false_or]
  first | done | omega | (simp; omega)
theorem ins_9 (a1 a2 a3 a4 a5 a6 a7 v c : Int) (k k2 : Nat) : insR 9 a1 a2 a3 a4 a5 a6 a7 v c k k2 = insB 9 a1 a2 a3 a4 a5 a6 a7 v c k k2 := by
  obtain ⟨h0, h1, h2, h3, h4, h5, h6, h7, h8, h9, h10, h11, h12, h13⟩ := hb_9
  simp only [insR, insB, T34, T60, envR, envI, numB, ordB, withinB, h0, h1, h2, h3, h4, h5, h6, h7, h8, h9, h10, h11, h12, h13, Eval.Tr.bval, Eval.BE.den, Eval.CO.den, Eval.IE.den, List.getD_cons_zero, List.getD_cons_succ, Nat.reduceEqDiff, if_true, if_false, reduceIte]
  simp only [Int.reduceBEq, Int.reduceBNe, Int.reduceEq, Bool.false_eq_true, reduceIte, cond_true, cond_false, Bool.cond_self]
  rw [Bool.eq_iff_iff]
  simp only [cond_iff, Bool.and_eq_true, Bool.or_eq_true, decide_eq_true_eq, beq_iff_eq, bne_iff_ne, decide_eq_false_iff_not, Bool.false_eq_true, and_false, and_true, true_and, false_and, or_false, false_or]
  first | done | omega | (simp; omega)
theorem ins_10 (a1 a2 a3 a4 a5 a6 a7 v c : Int) (k k2 : Nat) : insR 10 a1 a2 a3 a4 a5 a6 a7 v c k k2 = insB 10 a1 a2 a3 a4 a5 a6 a7 v c k k2 := by
  obtain ⟨h0, h1, h2, h3, h4, h5, h6, h7, h8, h9, h10, h11, h12, h13⟩ := hb_10
  simp only [insR, insB, T34, T60, envR, envI, numB, ordB, withinB, h0, h1, h2, h3, h4, h5, h6, h7, h8, h9, h10, h11, h12, h13, Eval.Tr.bval, Eval.BE.den, Eval.CO.den, Eval.IE.den, List.getD_cons_zero, List.getD_cons_succ, Nat.reduceEqDiff, if_true, if_false, reduceIte]
  simp only [Int.reduceBEq, Int.reduceBNe, Int.reduceEq, Bool.false_eq_true, reduceIte, cond_true, cond_false, Bool.cond_self]
  rw [Bool.eq_iff_iff]
  simp only [cond_iff, Bool.and_eq_true, Bool.or_eq_true, decide_eq_true_eq, beq_iff_eq, bne_iff_ne, decide_eq_false_iff_not, Bool.false_eq_true, and_false, and_true, true_and, false_and, or_false, false_or]
  first | done | omega | (simp; omega)
theorem ins_11 (a1 a2 a3 a4 a5 a6 a7 v c : Int) (k k2 : Nat) : insR 11 a1 a2 a3 a4 a5 a6 a7 v c k k2 = insB 11 a1 a2 a3 a4 a5 a6 a7 v c k k2 := by
  obtain ⟨h0, h1, h2, h3, h4, h5, h6, h7, h8, h9, h10, h11, h12, h13⟩ := hb_11
  simp only [insR, insB, T34, T60, envR, envI, numB, ordB, withinB, h0, h1, h2, h3, h4, h5, h6, h7, h8, h9, h10, h11, h12, h13, Eval.Tr.bval, Eval.BE.den, Eval.CO.den, Eval.IE.den, List.getD_cons_zero, List.getD_cons_succ, Nat.reduceEqDiff, if_true, if_false, reduceIte]
  simp only [Int.reduceBEq, Int.reduceBNe, Int.reduceEq, Bool.false_eq_true, reduceIte, cond_true, cond_false, Bool.cond_self]
  rw [Bool.eq_iff_iff]
  simp only [cond_iff, Bool.and_eq_true, Bool.or_eq_true, decide_eq_true_eq, beq_iff_eq, bne_iff_ne, decide_eq_false_iff_not, Bool.false_eq_true, and_false, and_true, true_and, false_and, or_false, false_or]
  first | done | omega | (simp; omega)
theorem ins_same (i : S38) (v c : Int) (k k2 : Nat) : refI i v c k k2 = insOf i v c k k2 := by
  obtain ⟨a0, a1, a2, a3, a4, a5, a6, a7⟩ := i
  show insR a0 a1 a2 a3 a4 a5 a6 a7 v c k k2 = insB a0 a1 a2 a3 a4 a5 a6 a7 v c k k2
  have hout : ∀ x : Int, (x = 0 ∨ ¬ (0 ≤ x ∧ x < 12)) → insR x a1 a2 a3 a4 a5 a6 a7 v c k k2 = insB x a1 a2 a3 a4 a5 a6 a7 v c k k2 := by
    intro x hx
    have h10 : (fldB x != 0) = false := by
      rcases hx with rfl | hx
      · exact hb_0.2.2.2.2.2.2.2.2.2.2.1
      · exact (hb_out x hx).2.2.2.2.2.2.2.2.2.2
    have e : ∀ n : Int, 1 ≤ n → n ≤ 11 → (x == n) = false := by
      intro n h1 h2
      rw [beq_eq_false_iff_ne]
      omega
    simp only [insR, insB, T34, T60, envR, envI, Eval.Tr.bval, Eval.BE.den, Eval.CO.den, Eval.IE.den, List.getD_cons_zero, List.getD_cons_succ, h10, e 1 (by decide) (by decide), e 2 (by decide) (by decide), e 3 (by decide) (by decide), e 4 (by decide) (by decide), e 5 (by decide) (by decide), e 6 (by decide) (by decide), e 7 (by decide) (by decide), e 8 (by decide) (by decide), e 9 (by decide) (by decide), e 10 (by decide) (by decide), e 11 (by decide) (by decide), cond_false, Bool.cond_self]
  rcases op_split a0 with rfl | rfl | rfl | rfl | rfl | rfl | rfl | rfl | rfl | rfl | rfl | h | h
  · exact ins_1 ..
  · exact ins_2 ..
  · exact ins_3 ..
  · exact ins_4 ..
  · exact ins_5 ..
  · exact ins_6 ..
  · exact ins_7 ..
  · exact ins_8 ..
  · exact ins_9 ..
  · exact ins_10 ..
  · exact ins_11 ..
  · exact hout a0 (.inl h)
  · exact hout a0 (.inr h)
theorem end_same (e : S34) (v : Int) (k : List Int) (k2 : List S36) : endR e v (k2.length : Int) = endOf e v k k2 := by
  obtain ⟨e0, e1, e2, e3⟩ := e
  unfold endR endR4 endOf ir_ends.f
  simp only [within_some, Option.bind_some]
  by_cases h1 : e0 = 1
  · subst h1
    simp only [reduceIte, Int.reduceBEq, cond_true]
    by_cases h2 : withinB true e2 (k2.length : Int) = true
    · rw [if_pos h2]
      simp only [withinB, cond_true, Bool.cond_false_right, Bool.and_eq_true, decide_eq_true_eq] at h2
      by_cases h3 : e1 = 0
      · rw [if_pos h3, Bool.eq_iff_iff]; simp [h3]; omega
      · rw [if_neg h3, Bool.eq_iff_iff]; simp [h3]
    · rw [if_neg h2, Bool.eq_iff_iff]
      simp only [withinB, cond_true, Bool.cond_false_right, Bool.and_eq_true, decide_eq_true_eq] at h2
      simp; omega
  by_cases h2 : e0 = 2
  · subst h2
    rw [if_neg (by decide)]
    simp only [reduceIte, Int.reduceBEq, cond_true, cond_false]
    by_cases h2 : withinB true e2 (k2.length : Int) = true
    · rw [if_pos h2]
      simp only [withinB, cond_true, Bool.cond_false_right, Bool.and_eq_true, decide_eq_true_eq] at h2
      by_cases h3 : withinB true e3 (k2.length : Int) = true
      · rw [if_pos h3, Bool.eq_iff_iff]
        simp only [withinB, cond_true, Bool.cond_false_right, Bool.and_eq_true, decide_eq_true_eq] at h3
        simp [withinB]; omega
      · rw [if_neg h3, Bool.eq_iff_iff]
        simp only [withinB, cond_true, Bool.cond_false_right, Bool.and_eq_true, decide_eq_true_eq] at h3
        simp; omega
    · rw [if_neg h2, Bool.eq_iff_iff]
      simp only [withinB, cond_true, Bool.cond_false_right, Bool.and_eq_true, decide_eq_true_eq] at h2
      simp; omega
  rw [if_neg h1, if_neg h2, beq_eq_false_iff_ne.2 h1, beq_eq_false_iff_ne.2 h2]
  simp only [cond_false]
  by_cases h3 : e0 = 3
  · subst h3
    rw [if_pos rfl, Bool.eq_iff_iff]; simp
  · rw [if_neg h3, beq_eq_false_iff_ne.2 h3]; rfl
/-- The two notes of which ids have come: they tell the same. -/
def Agree (ids : List Int) (g : Int → Option Int) : Prop := ∀ x, 0 < x → (ids.contains x = decide (0 < (g x).getD 0))
theorem go_ins (v c : Int) (k k2 : Nat) : ∀ (l : List S38) (ids : List Int) (g : Int → Option Int), Agree ids g →
    (goRI v c k k2 ids l = none ∧ goI v c k k2 g l = none) ∨ ∃ ids' g', goRI v c k k2 ids l = some ids' ∧ goI v c k k2 g l = some g' ∧ Agree ids' g'
  | [], ids, g, h => .inr ⟨ids, g, rfl, rfl, h⟩
  | i :: r, ids, g, h => by
    rw [goRI, goI, ins_same]
    cases insOf i v c k k2 with
    | false => exact .inl ⟨rfl, rfl⟩
    | true =>
      simp only [cond_true]
      by_cases h0 : 0 < i.f7
      · rw [decide_eq_true h0, ← h i.f7 h0]
        simp only [cond_true]
        cases ids.contains i.f7 with
        | true => exact .inl ⟨rfl, rfl⟩
        | false =>
          refine go_ins v c k k2 r _ _ fun x hx => ?_
          by_cases e : x = i.f7
          · subst e; simp
          · have := h x hx
            simp only [if_neg e, ← this]
            simp [e]
      · rw [decide_eq_false h0]
        simp only [cond_false]
        refine go_ins v c k k2 r _ _ fun x hx => ?_
        have e : x ≠ i.f7 := by omega
        simp only [if_neg e]
        exact h x hx
theorem go_blocks (v c : Int) (k : List Int) (k2 : List S36) : ∀ (l : List S36) (ids : List Int) (g : Int → Option Int), Agree ids g → goRB v c k.length k2.length ids l = goB v c k k2 g l
  | [], ids, g, h => rfl
  | b :: r, ids, g, h => by
    rw [goRB, goB]
    rcases go_ins v c k.length k2.length b.f0 ids g h with ⟨h1, h2⟩ | ⟨ids', g', h1, h2, h3⟩
    · rw [h1, h2]
    · rw [h1, h2]
      simp only [end_same b.f1 v k k2, go_blocks v c k k2 r ids' g' h3]
theorem right_same (v : Int) (k : List Int) (l : List S36) (c : Int) : refRB v k l c = rightB v k l c := by
  unfold refRB rightB
  rw [go_blocks v c k l l [] (fun _ => none) (fun x _ => by simp)]
  rfl

theorem sum_len {α : Type} {f : α → Nat} (hf : ∀ x, 1 ≤ f x) (l : List α) : l.length ≤ (l.map f).sum := by
  induction l with
  | nil => simp
  | cons x r ih => have := hf x; simp only [List.length_cons, List.map_cons, List.sum_cons]; omega
theorem sum_mem {α : Type} {f : α → Nat} {l : List α} {x : α} (h : x ∈ l) : f x ≤ (l.map f).sum := by
  induction l with
  | nil => cases h
  | cons y r ih =>
    simp only [List.map_cons, List.sum_cons]
    rcases List.mem_cons.1 h with rfl | h
    · omega
    · have := ih h; omega
/-- A thread of whole numbers of Go, and not too long. -/
structure Fine (v : Int) (k : List Int) (l : List S36) : Prop where
  fv : (Lit.int .i64 v).wf = true
  fk : k.length ≤ 1048576
  fkw : ∀ x ∈ k, (Lit.int .i64 x).wf = true
  fl : l.length ≤ 1048576
  fb : ∀ b ∈ l, b.f0.length ≤ 1048576
  fi : ∀ b ∈ l, ∀ i ∈ b.f0, ok_S38 i
  fe : ∀ b ∈ l, ok_S34 b.f1
theorem fine_of {v : Int} {k : List Int} {l : List S36} (h : ok_S25 ⟨v, k, l⟩) (hw : wt_S25 ⟨v, k, l⟩ ≤ 1048576) : Fine v k l := by
  obtain ⟨h1, h2, h3⟩ := h
  simp only [wt_S25, OpenB.wtSl] at hw
  have a1 := sum_len (f := fun _ : Int => 1) (fun _ => Nat.le_refl _) k
  have a2 := sum_len (f := wt_S36) (fun x => by simp only [wt_S36, OpenB.wtSl]; omega) l
  refine ⟨h1, by omega, h2.2, by omega, fun b hb => ?_, fun b hb => (h3.2 b hb).1.2, fun b hb => (h3.2 b hb).2⟩
  have a3 := sum_mem (f := wt_S36) hb
  have a4 := sum_len (f := wt_S38) (fun x => by simp only [wt_S38]; omega) b.f0
  simp only [wt_S36, OpenB.wtSl] at a3
  omega
theorem Fine.ids {v : Int} {k : List Int} {l : List S36} (h : Fine v k l) : okIds l :=
  ⟨by have := h.fl; omega, fun b hb => ⟨by have := h.fb b hb; omega, fun i hi => (h.fi b hb i hi).2.2.2.2.2.2.2⟩⟩
theorem Fine.len {v : Int} {k : List Int} {l : List S36} (h : Fine v k l) : okLen k l := ⟨by have := h.fk; omega, h.fb⟩
theorem right_f {v : Int} {k : List Int} {l : List S36} (h : Fine v k l) (c : Int) : spinnakerref26_Right.f v k l c = some (refRB v k l c) := by
  rw [spinnakerref26_Right.f, if_pos h.len]
/-- How large a thread is told to be. -/
def sizeB : Nat → List S36 → Nat
  | n, [] => n
  | n, b :: r => if n ≤ 1000 then sizeB (n + b.f0.length) r else n
theorem sizeB_le (l : List S36) : ∀ n, n ≤ sizeB n l := by
  induction l with
  | nil => intro n; exact Nat.le_refl _
  | cons b r ih =>
    intro n
    rw [sizeB]
    split
    · have := ih (n + b.f0.length); omega
    · exact Nat.le_refl _
theorem sizeB_b (l : List S36) : ∀ n, sizeB n l ≤ 1000 → ∀ b ∈ l, b.f0.length ≤ sizeB n l := by
  induction l with
  | nil => intro n _ b hb; cases hb
  | cons b r ih =>
    intro n h c hc
    rw [sizeB] at h ⊢
    split at h
    · rename_i hn
      rw [if_pos hn]
      rcases List.mem_cons.1 hc with rfl | hc
      · have := sizeB_le r (n + c.f0.length); omega
      · exact ih _ h c hc
    · rename_i hn
      omega
theorem wrap_id (x : Int) (h0 : 0 ≤ x) (h : x ≤ 9223372036854775807) : wrap64 x = x := by unfold wrap64; omega
theorem rdB (l : List S36) (i : Nat) (h : i < l.length) : rd_T36 l (i : Int) = l[i] := by simp [rd_T36, h]
theorem rdI (l : List S38) (i : Nat) (h : i < l.length) : rd_T38 l (i : Int) = l[i] := by simp [rd_T38, h]
theorem size_l1 (v : Int) (k : List Int) (l : List S36) (hl : l.length ≤ 1048576) (hb : ∀ b ∈ l, b.f0.length ≤ 1048576) : ∀ (d i n : Nat), i ≤ l.length → l.length - i = d → n ≤ 4611686018427387904 →
    Ev (fun q => spinnakerref26_Size.l1 q (n : Int) 0 (i : Int) [] [⟨v, k, l⟩]) (sizeB n (l.drop i) : Int) := by
  have hout : ∀ n : Nat, Ev (fun q => spinnakerref26_Size.l0 q (n : Int) (wrap64 (0 + 1)) [] [⟨v, k, l⟩]) (n : Int) := by
    intro n
    refine Ev.by (Ev.end_ (r := (n : Int)) (g := fun q => spinnakerref26_Size.j1 q (n : Int) 1 false [] [⟨v, k, l⟩]) fun q => ?_) fun q => ?_
    · simp only [spinnakerref26_Size.j1]
      rw [if_neg (by decide)]
    · rw [show wrap64 (0 + 1) = 1 by unfold wrap64; omega]
      simp only [spinnakerref26_Size.l0]
      rw [if_neg (by simp)]
  have hrd : rd_T25 [(⟨v, k, l⟩ : S25)] 0 = ⟨v, k, l⟩ := rfl
  intro d
  induction d with
  | zero =>
    intro i n hi hd hn
    rw [List.drop_eq_nil_of_le (show l.length ≤ i by omega), sizeB]
    refine Ev.by (hout n) fun q => ?_
    simp only [spinnakerref26_Size.l1, hrd]
    rw [if_pos (by decide), if_pos (by simp), if_neg (by omega)]
  | succ d ih =>
    intro i n hi hd hn
    have h1 : i < l.length := by omega
    rw [drop_cons l i h1, sizeB]
    have hbl := hb _ (List.getElem_mem h1)
    by_cases e : n ≤ 1000
    · rw [if_pos e]
      refine Ev.by (ih (i + 1) (n + l[i].f0.length) (by omega) (by omega) (by omega)) fun q => ?_
      simp only [spinnakerref26_Size.l1, hrd]
      rw [if_pos (by decide), if_pos (by simp), if_pos (by omega), if_pos (by omega), if_pos (by omega), rdB l i h1, wrap_succ i (by omega), wrap_id _ (by omega) (by omega)]
      rw [show ((n : Int) + (l[i].f0.length : Int)) = ((n + l[i].f0.length : Nat) : Int) by omega]
    · rw [if_neg e]
      refine Ev.by (hout n) fun q => ?_
      simp only [spinnakerref26_Size.l1, hrd]
      rw [if_pos (by decide), if_pos (by simp), if_pos (by omega), if_neg (by omega)]
def smallB (v : Int) (k : List Int) (l : List S36) : Bool := decide (sizeB (k.length + l.length) l ≤ 150) && (decide (v ≤ 60) && refRB v k l 200)
theorem small_ev {v : Int} {k : List Int} {l : List S36} (h : Fine v k l) : Ev (fun q => spinnakerref34_Small.f q v k l) (smallB v k l) := by
  unfold spinnakerref34_Small.f
  have hrd : rd_T25 [(⟨v, k, l⟩ : S25)] 0 = ⟨v, k, l⟩ := rfl
  have hk := h.fk
  have hl := h.fl
  have hs : Ev (fun q => spinnakerref26_Size.f q [] [⟨v, k, l⟩]) (sizeB (k.length + l.length) l : Int) := by
    unfold spinnakerref26_Size.f
    refine Ev.by (f := fun q => spinnakerref26_Size.j1 q 0 0 true [] [⟨v, k, l⟩]) ?_ fun q => ?_
    · refine Ev.by (size_l1 v k l h.fl h.fb l.length 0 (k.length + l.length) (by omega) (by omega) (by omega)) fun q => ?_
      simp only [spinnakerref26_Size.j1, hrd]
      rw [if_pos trivial, if_pos (by decide), if_pos (by simp), wrap_id (0 + _) (by omega) (by omega), wrap_id _ (by omega) (by omega)]
      rw [show ((0 : Int) + (k.length : Int) + (l.length : Int)) = ((k.length + l.length : Nat) : Int) by omega]
      rfl
    · simp only [spinnakerref26_Size.l0]
      rw [if_pos (by simp)]
      rfl
  refine Ev.bind hs ?_
  unfold smallB
  by_cases h1 : sizeB (k.length + l.length) l ≤ 150
  · rw [decide_eq_true h1, Bool.true_and]
    refine Ev.if_pos (by omega) ?_
    by_cases h2 : v ≤ 60
    · rw [decide_eq_true h2, Bool.true_and]
      refine Ev.if_pos h2 ?_
      rw [right_f h]
      exact Ev.bind (Ev.now _) (Ev.now _)
    · rw [decide_eq_false h2, Bool.false_and]
      exact Ev.if_neg h2 (Ev.now _)
  · rw [decide_eq_false h1, Bool.false_and]
    exact Ev.if_neg (by omega) (Ev.now _)
structure SmallT (v : Int) (k : List Int) (l : List S36) : Prop where
  sk : k.length ≤ 150
  sl : l.length ≤ 150
  sb : ∀ b ∈ l, b.f0.length ≤ 150
  sr : refRB v k l 200 = true
theorem small_of {v : Int} {k : List Int} {l : List S36} (h : smallB v k l = true) : SmallT v k l := by
  simp only [smallB, Bool.and_eq_true, decide_eq_true_eq] at h
  have h1 := sizeB_le l (k.length + l.length)
  exact ⟨by omega, by omega, fun b hb => by have := sizeB_b l (k.length + l.length) (by omega) b hb; omega, h.2.2⟩

/-- Bin has an answer for any two numbers of 64 bits, and it is a number of 64 bits. -/
theorem rwf0 (a : Int) (h1 : -9223372036854775808 ≤ a) (h2 : a ≤ 9223372036854775807) : (Lit.int .i64 a).wf = true := by
  simp [Lit.wf, IntKind.min, IntKind.max, IntKind.signed, IntKind.bits]
  omega
theorem wfr0 (a : Int) (h : (Lit.int .i64 a).wf = true) : -9223372036854775808 ≤ a ∧ a ≤ 9223372036854775807 := by
  simpa [Lit.wf, IntKind.min, IntKind.max, IntKind.signed, IntKind.bits] using h
theorem wf_wrap (x : Int) : (Lit.int .i64 (wrap64 x)).wf = true := rwf0 _ (by unfold wrap64; omega) (by unfold wrap64; omega)
theorem wf_bits (o : BinOp) (a b : Int) : (Lit.int .i64 (Go.bits o .i64 a b)).wf = true := by
  have h := Go.bits_within o .i64 a b
  exact rwf0 _ h.1 h.2
theorem tmod_le (a b : Int) (h1 : -9223372036854775808 ≤ a) (h2 : a ≤ 9223372036854775807) : (Lit.int .i64 (Int.tmod a b)).wf = true := by
  have h := Int.tmod_add_mul_tdiv a b
  have key : (Int.tmod a b).natAbs ≤ a.natAbs := by
    rw [Int.natAbs_tmod]
    exact Nat.mod_le _ _
  by_cases h0 : 0 ≤ a
  · have h3 := Int.tmod_nonneg b h0
    exact rwf0 _ (by omega) (by omega)
  · have h3 := Int.tmod_nonneg b (show 0 ≤ -a by omega)
    rw [Int.neg_tmod] at h3
    exact rwf0 _ (by omega) (by omega)
theorem low6 (b : Int) : ∃ n : Nat, n ≤ 63 ∧ Go.bits .and .u64 (IntKind.u64.wrap b) 63 = (n : Int) := by
  have hu : IntKind.u64.wrap b = b % 18446744073709551616 := by simp [IntKind.wrap, IntKind.signed, IntKind.bits]
  obtain ⟨m, hm⟩ : ∃ m : Nat, b % 18446744073709551616 = (m : Int) := ⟨(b % 18446744073709551616).toNat, by omega⟩
  have hb := Go.bits_and_u64_nat m 63 (by omega) (by omega)
  refine ⟨m &&& 63, Nat.and_le_right, ?_⟩
  rw [hu, hm]
  exact hb
theorem shr_wf (a : Int) (n : Nat) (h1 : -9223372036854775808 ≤ a) (h2 : a ≤ 9223372036854775807) : (Lit.int .i64 (shr .i64 a (n : Int))).wf = true := by
  unfold shr
  generalize min (n : Int).toNat IntKind.i64.bits = m
  have hp : (0 : Int) < 2 ^ m := Int.pow_pos (by omega)
  have e := Int.mul_ediv_add_emod a (2 ^ m)
  have r1 := Int.emod_nonneg a (Int.ne_of_gt hp)
  have r2 := Int.emod_lt_of_pos a hp
  refine rwf0 _ ?_ ?_
  · rw [Int.le_ediv_iff_mul_le hp]
    generalize (2 : Int) ^ m = p at hp ⊢
    omega
  · by_cases h0 : 0 ≤ a
    · exact Int.le_trans (Int.ediv_le_self _ h0) h2
    · have := Int.ediv_neg_of_neg_of_pos (by omega : a < 0) hp
      omega
def BinW (op a b : Int) : Prop := ∃ m : Int × Bool, calc_Bin.f op a b = some m ∧ (Lit.int .i64 m.1).wf = true
theorem bin_w (op a b : Int) (ha : (Lit.int .i64 a).wf = true) (hb : (Lit.int .i64 b).wf = true) : BinW op a b := by
  have ra := wfr0 a ha
  obtain ⟨n, hn, hx⟩ := low6 b
  have z0 : (Lit.int .i64 0).wf = true := by decide
  have z1 : (Lit.int .i64 1).wf = true := by decide
  unfold BinW calc_Bin.f calc_Fails.f
  by_cases e4 : op = 4
  · by_cases h0 : b = 0
    · exact ⟨(0, false), by simp [e4, h0], z0⟩
    · by_cases h1 : b = -1
      · exact ⟨(wrap64 (-a), true), by simp [e4, h1, calc_parts.f], wf_wrap _⟩
      · exact ⟨(wrap64 (Int.tdiv a b), true), by simp [e4, h0, h1, calc_parts.f], wf_wrap _⟩
  by_cases e5 : op = 5
  · by_cases h0 : b = 0
    · exact ⟨(0, false), by simp [e5, h0], z0⟩
    · by_cases h1 : b = -1
      · exact ⟨(0, true), by simp [e5, h1, calc_parts.f], z0⟩
      · exact ⟨(Int.tmod a b, true), by simp [e5, h0, h1, calc_parts.f], tmod_le a b ra.1 ra.2⟩
  rw [if_neg e4, if_neg e5, Option.bind_some, if_neg (by decide)]
  by_cases e1 : op = 1
  · exact ⟨(wrap64 (a + b), true), if_pos e1, wf_wrap (a + b)⟩
  rw [if_neg e1]
  by_cases e2 : op = 2
  · exact ⟨(wrap64 (a - b), true), if_pos e2, wf_wrap (a - b)⟩
  rw [if_neg e2]
  by_cases e3 : op = 3
  · exact ⟨(wrap64 (a * b), true), if_pos e3, wf_wrap (a * b)⟩
  rw [if_neg e3, if_neg e4, if_neg e5]
  by_cases e6 : op = 6
  · exact ⟨(Go.bits .and .i64 a b, true), if_pos e6, wf_bits .and a b⟩
  rw [if_neg e6]
  by_cases e7 : op = 7
  · exact ⟨(Go.bits .or .i64 a b, true), if_pos e7, wf_bits .or a b⟩
  rw [if_neg e7]
  by_cases e8 : op = 8
  · exact ⟨(Go.bits .xor .i64 a b, true), if_pos e8, wf_bits .xor a b⟩
  rw [if_neg e8]
  by_cases e9 : op = 9
  · rw [if_pos e9, hx, if_pos (by omega)]
    refine ⟨_, rfl, ?_⟩
    unfold shl
    rw [i64_w]
    exact wf_wrap _
  rw [if_neg e9]
  by_cases e10 : op = 10
  · rw [if_pos e10, hx, if_pos (by omega)]
    exact ⟨_, rfl, shr_wf a n ra.1 ra.2⟩
  rw [if_neg e10]
  have hc : ∃ m : Int × Bool, calc_compares.f op a b = some m ∧ (m.1 = 0 ∨ m.1 = 1) := by
    unfold calc_compares.f
    split
    · exact ⟨_, rfl, by dsimp only; split <;> simp⟩
    split
    · exact ⟨_, rfl, by dsimp only; split <;> simp⟩
    split
    · exact ⟨_, rfl, by dsimp only; split <;> simp⟩
    split
    · exact ⟨_, rfl, by dsimp only; split <;> simp⟩
    exact ⟨_, rfl, .inl rfl⟩
  obtain ⟨m, hm, h01⟩ := hc
  rw [hm]
  exact ⟨m, rfl, by rcases h01 with h | h <;> rw [h] <;> assumption⟩

/-! ### What fold makes of a block: gone through twice it is as once -/
def none1 : Int → Option Int := fun _ => none
theorem drop0_some {g : Int → Option Int} {v y a : Int} (h : drop0 v g y = some a) : y ≠ v ∧ g y = some a := by
  unfold drop0 at h
  split at h
  · cases h
  · exact ⟨by assumption, h⟩
theorem drop1_some {g : Int → Option Int} {v y a : Int} (h : drop1 v g y = some a) : y ≠ v ∧ a ≠ v ∧ g y = some a := by
  unfold drop1 at h
  split at h
  · cases h
  · rename_i hn
    have h2 := drop0_some h
    exact ⟨h2.1, fun e => hn (by rw [h, e]), h2.2⟩
theorem readF_op (c : Int → Option Int) (i : S38) : (readF c i).f0 = i.f0 := by
  unfold readF
  split
  · rfl
  · split <;> rfl
/-- What an instruction becomes: what it reads, or a constant. -/
theorem constF_two {g : Int → Option Int} {i j : S38} (h : constF g i = some j) : j = i ∨ ((i.f0 = 2 ∨ i.f0 = 3) ∧ ∃ n, j = ⟨1, i.f1, 0, 0, 0, n, 0, 0⟩) := by
  unfold constF at h
  split at h
  · rename_i hc
    injection h with h
    exact .inr ⟨.inl hc.1, _, h.symm⟩
  · split at h
    · rename_i hc
      obtain ⟨r, _, hr⟩ := Option.bind_eq_some_iff.1 h
      split at hr
      · injection hr with hr
        exact .inr ⟨.inr hc.1, _, hr.symm⟩
      · injection hr with hr
        exact .inl hr.symm
    · injection h with h
      exact .inl h.symm
theorem stepR_of {g c : Int → Option Int} {i j : S38} (h : stepR g c i = some j) : constF g (readF c i) = some j ∧ (Lit.int .i64 j.f5).wf = true := by
  obtain ⟨p, hp, hq⟩ := Option.bind_eq_some_iff.1 h
  split at hq
  · injection hq with hq
    subst hq
    exact ⟨hp, by assumption⟩
  · cases hq
/-- What becomes of a block; none: it has no answer. -/
def foB (b : S36) : Option S36 := (runF none1 none1 b.f0).map fun p => ⟨p.1, ⟨(endF p.2.1 p.2.2 b.f1.f0 b.f1.f1 b.f1.f2 b.f1.f3).1, (endF p.2.1 p.2.2 b.f1.f0 b.f1.f1 b.f1.f2 b.f1.f3).2.1, (endF p.2.1 p.2.2 b.f1.f0 b.f1.f1 b.f1.f2 b.f1.f3).2.2.1, (endF p.2.1 p.2.2 b.f1.f0 b.f1.f1 b.f1.f2 b.f1.f3).2.2.2⟩⟩
/-- What becomes of a thread's blocks. -/
def foL : List S36 → Option (List S36)
  | [] => some []
  | b :: r => (foB b).bind fun x => (foL r).map fun s => x :: s

/-! ### What fold makes of a right thread is right -/
theorem aB_hasB (x : Int) : aB x = hasB x 2 := by
  rcases op_split x with rfl | rfl | rfl | rfl | rfl | rfl | rfl | rfl | rfl | rfl | rfl | rfl | h
  · exact hb_1.2.2.2.2.2.2.2.2.2.2.2.2.1.trans hb_1.2.1.symm
  · exact hb_2.2.2.2.2.2.2.2.2.2.2.2.2.1.trans hb_2.2.1.symm
  · exact hb_3.2.2.2.2.2.2.2.2.2.2.2.2.1.trans hb_3.2.1.symm
  · exact hb_4.2.2.2.2.2.2.2.2.2.2.2.2.1.trans hb_4.2.1.symm
  · exact hb_5.2.2.2.2.2.2.2.2.2.2.2.2.1.trans hb_5.2.1.symm
  · exact hb_6.2.2.2.2.2.2.2.2.2.2.2.2.1.trans hb_6.2.1.symm
  · exact hb_7.2.2.2.2.2.2.2.2.2.2.2.2.1.trans hb_7.2.1.symm
  · exact hb_8.2.2.2.2.2.2.2.2.2.2.2.2.1.trans hb_8.2.1.symm
  · exact hb_9.2.2.2.2.2.2.2.2.2.2.2.2.1.trans hb_9.2.1.symm
  · exact hb_10.2.2.2.2.2.2.2.2.2.2.2.2.1.trans hb_10.2.1.symm
  · exact hb_11.2.2.2.2.2.2.2.2.2.2.2.2.1.trans hb_11.2.1.symm
  · exact hb_0.2.2.2.2.2.2.2.2.2.2.2.2.1.trans hb_0.2.1.symm
  · rw [(hb_out x h).2.1]
    unfold aB spinnakerref26_hasA.f
    rw [if_neg (by omega), if_neg (by omega), if_neg (by omega), if_neg (by omega), if_neg (by omega), if_neg (by omega), if_neg (by omega)]
    simp
    omega
theorem bB_hasB (x : Int) : bB x = hasB x 4 := by
  rcases op_split x with rfl | rfl | rfl | rfl | rfl | rfl | rfl | rfl | rfl | rfl | rfl | rfl | h
  · exact hb_1.2.2.2.2.2.2.2.2.2.2.2.2.2.trans hb_1.2.2.1.symm
  · exact hb_2.2.2.2.2.2.2.2.2.2.2.2.2.2.trans hb_2.2.2.1.symm
  · exact hb_3.2.2.2.2.2.2.2.2.2.2.2.2.2.trans hb_3.2.2.1.symm
  · exact hb_4.2.2.2.2.2.2.2.2.2.2.2.2.2.trans hb_4.2.2.1.symm
  · exact hb_5.2.2.2.2.2.2.2.2.2.2.2.2.2.trans hb_5.2.2.1.symm
  · exact hb_6.2.2.2.2.2.2.2.2.2.2.2.2.2.trans hb_6.2.2.1.symm
  · exact hb_7.2.2.2.2.2.2.2.2.2.2.2.2.2.trans hb_7.2.2.1.symm
  · exact hb_8.2.2.2.2.2.2.2.2.2.2.2.2.2.trans hb_8.2.2.1.symm
  · exact hb_9.2.2.2.2.2.2.2.2.2.2.2.2.2.trans hb_9.2.2.1.symm
  · exact hb_10.2.2.2.2.2.2.2.2.2.2.2.2.2.trans hb_10.2.2.1.symm
  · exact hb_11.2.2.2.2.2.2.2.2.2.2.2.2.2.trans hb_11.2.2.1.symm
  · exact hb_0.2.2.2.2.2.2.2.2.2.2.2.2.2.trans hb_0.2.2.1.symm
  · rw [(hb_out x h).2.2.1]
    unfold bB spinnakerref26_hasB.f
    rw [if_neg (by omega), if_neg (by omega)]
    simp
    omega
theorem dB_hasB (x : Int) : dB x = hasB x 1 := by
  rcases op_split x with rfl | rfl | rfl | rfl | rfl | rfl | rfl | rfl | rfl | rfl | rfl | rfl | h
  · exact hb_1.2.2.2.2.2.2.2.2.2.2.2.1.trans hb_1.1.symm
  · exact hb_2.2.2.2.2.2.2.2.2.2.2.2.1.trans hb_2.1.symm
  · exact hb_3.2.2.2.2.2.2.2.2.2.2.2.1.trans hb_3.1.symm
  · exact hb_4.2.2.2.2.2.2.2.2.2.2.2.1.trans hb_4.1.symm
  · exact hb_5.2.2.2.2.2.2.2.2.2.2.2.1.trans hb_5.1.symm
  · exact hb_6.2.2.2.2.2.2.2.2.2.2.2.1.trans hb_6.1.symm
  · exact hb_7.2.2.2.2.2.2.2.2.2.2.2.1.trans hb_7.1.symm
  · exact hb_8.2.2.2.2.2.2.2.2.2.2.2.1.trans hb_8.1.symm
  · exact hb_9.2.2.2.2.2.2.2.2.2.2.2.1.trans hb_9.1.symm
  · exact hb_10.2.2.2.2.2.2.2.2.2.2.2.1.trans hb_10.1.symm
  · exact hb_11.2.2.2.2.2.2.2.2.2.2.2.1.trans hb_11.1.symm
  · exact hb_0.2.2.2.2.2.2.2.2.2.2.2.1.trans hb_0.1.symm
  · rw [(hb_out x h).1]
    unfold dB spinnakerref26_HasD.f
    rw [if_neg (by omega), if_neg (by omega), if_neg (by omega), if_neg (by omega), if_neg (by omega), if_neg (by omega)]
    simp
    omega
/-- In a right instruction what is a variable is one. -/
theorem refI_vars {i : S38} {v c : Int} {k k2 : Nat} (h : refI i v c k k2 = true) : (hasB i.f0 1 = true → 0 ≤ i.f1 ∧ i.f1 < v) ∧ (hasB i.f0 2 = true → 0 ≤ i.f2 ∧ i.f2 < v) ∧ (hasB i.f0 4 = true → 0 ≤ i.f3 ∧ i.f3 < v) := by
  rw [← dB_hasB, ← aB_hasB, ← bB_hasB]
  simp only [refI, insR, T34, envR, Eval.Tr.bval, Eval.BE.den, Eval.CO.den, Eval.IE.den, List.getD_cons_zero, List.getD_cons_succ, Nat.reduceEqDiff, if_true, if_false, reduceIte] at h
  simp only [cond_iff, Bool.false_eq_true, and_false, or_false] at h
  obtain ⟨h1, h2, h3, _⟩ := h
  simp only [decide_eq_true_eq] at h1 h2 h3
  exact ⟨fun e => h1.elim (fun x => x.2) (fun x => absurd e x.1), fun e => h2.elim (fun x => x.2) (fun x => absurd e x.1), fun e => h3.elim (fun x => x.2) (fun x => absurd e x.1)⟩
/-- Its variables may be others. -/
theorem refI_swap {i : S38} {v c : Int} {k k2 : Nat} (h : refI i v c k k2 = true) (a b : Int) (ha : if hasB i.f0 2 = true then 0 ≤ a ∧ a < v else a = i.f2) (hb : if hasB i.f0 4 = true then 0 ≤ b ∧ b < v else b = i.f3) : refI { i with f2 := a, f3 := b } v c k k2 = true := by
  rw [← aB_hasB] at ha
  rw [← bB_hasB] at hb
  simp only [refI, insR, T34, envR, Eval.Tr.bval, Eval.BE.den, Eval.CO.den, Eval.IE.den, List.getD_cons_zero, List.getD_cons_succ, Nat.reduceEqDiff, if_true, if_false, reduceIte] at h ⊢
  simp only [cond_iff, Bool.false_eq_true, and_false, or_false] at h ⊢
  obtain ⟨h1, h2, h3, h4⟩ := h
  refine ⟨h1, ?_, ?_, h4⟩
  · by_cases e : aB i.f0 = true
    · rw [if_pos e] at ha
      exact .inl ⟨e, by simpa using ha.1, by simpa using ha.2⟩
    · rw [if_neg e] at ha
      rw [ha]
      exact .inr (h2.elim (fun x => absurd x.1 e) id)
  · by_cases e : bB i.f0 = true
    · rw [if_pos e] at hb
      exact .inl ⟨e, by simpa using hb.1, by simpa using hb.2⟩
    · rw [if_neg e] at hb
      rw [hb]
      exact .inr (h3.elim (fun x => absurd x.1 e) id)
theorem refI_id {i : S38} {v c : Int} {k k2 : Nat} (h : refI i v c k k2 = true) (h0 : i.f0 = 2 ∨ i.f0 = 3) : i.f7 = 0 := by
  simp only [refI, insR, T34, envR, Eval.Tr.bval, Eval.BE.den, Eval.CO.den, Eval.IE.den, List.getD_cons_zero, List.getD_cons_succ, Nat.reduceEqDiff, if_true, if_false, reduceIte] at h
  simp only [cond_iff, Bool.false_eq_true, and_false, or_false] at h
  obtain ⟨_, _, _, h4⟩ := h
  simp only [beq_iff_eq, decide_eq_true_eq] at h4
  rcases h4 with h4 | ⟨_, h4⟩
  · omega
  · rcases h4 with h4 | ⟨_, h4⟩
    · exact h4.2.2.2.1
    · rcases h4 with h4 | ⟨_, h4⟩
      · exact h4.2.2.2.1
      · omega
theorem refI_const {d n v c : Int} {k k2 : Nat} (hd : 0 ≤ d ∧ d < v) : refI ⟨1, d, 0, 0, 0, n, 0, 0⟩ v c k k2 = true := by
  obtain ⟨h0, h1, h2, h3, h4, h5, h6, h7, h8, h9, h10, h11, h12, h13⟩ := hb_1
  simp only [refI, insR, T34, envR, h11, h12, h13, Eval.Tr.bval, Eval.BE.den, Eval.CO.den, Eval.IE.den, List.getD_cons_zero, List.getD_cons_succ, Nat.reduceEqDiff, if_true, if_false, reduceIte]
  simp [hd.1, hd.2]
theorem b_a (x : Int) (h : hasB x 4 = true) : hasB x 2 = true := by
  rcases op_split x with rfl | rfl | rfl | rfl | rfl | rfl | rfl | rfl | rfl | rfl | rfl | rfl | h2
  · rw [hb_1.2.2.1] at h; cases h
  · exact hb_2.2.1
  · exact hb_3.2.1
  · exact hb_4.2.1
  · exact hb_5.2.1
  · rw [hb_6.2.2.1] at h; cases h
  · exact hb_7.2.1
  · exact hb_8.2.1
  · exact hb_9.2.1
  · rw [hb_10.2.2.1] at h; cases h
  · exact hb_11.2.1
  · rw [hb_0.2.2.1] at h; cases h
  · rw [(hb_out x h2).2.2.1] at h; cases h
/-- What is a copy is one of a variable. -/
def CopyIn (v : Int) (c : Int → Option Int) : Prop := ∀ y a, c y = some a → 0 ≤ a ∧ a < v
theorem root_in {v : Int} {c : Int → Option Int} (hc : CopyIn v c) {x : Int} (hx : 0 ≤ x ∧ x < v) : 0 ≤ rootF c x ∧ rootF c x < v := by
  unfold rootF
  cases e : c x with
  | none => exact hx
  | some a => exact hc x a e
/-- How an instruction reads: by what it has. -/
theorem readF_eq (c : Int → Option Int) (i : S38) : readF c i = { i with f2 := if hasB i.f0 2 = true then rootF c i.f2 else i.f2, f3 := if hasB i.f0 4 = true then rootF c i.f3 else i.f3 } := by
  unfold readF usesL
  cases h2 : hasB i.f0 2 with
  | true => cases h4 : hasB i.f0 4 <;> simp
  | false =>
    cases h4 : hasB i.f0 4 with
    | true => rw [b_a _ h4] at h2; cases h2
    | false => simp
theorem readF_right {i : S38} {v cc : Int} {k k2 : Nat} {c : Int → Option Int} (h : refI i v cc k k2 = true) (hc : CopyIn v c) : refI (readF c i) v cc k k2 = true := by
  have hv := refI_vars h
  rw [readF_eq]
  refine refI_swap h _ _ ?_ ?_
  · by_cases e : hasB i.f0 2 = true
    · rw [if_pos e, if_pos e]; exact root_in hc (hv.2.1 e)
    · rw [if_neg e, if_neg e]
  · by_cases e : hasB i.f0 4 = true
    · rw [if_pos e, if_pos e]; exact root_in hc (hv.2.2 e)
    · rw [if_neg e, if_neg e]
theorem learn1_in {v : Int} {c : Int → Option Int} {j : S38} (hc : CopyIn v c) (hj : j.f0 = 2 → 0 ≤ j.f2 ∧ j.f2 < v) : CopyIn v (learn1 c j) := by
  intro y a h
  unfold learn1 at h
  by_cases hl : learns j = true
  · rw [if_pos hl] at h
    by_cases h2 : j.f0 = 2
    · rw [if_pos h2] at h
      split at h
      · injection h with h; subst h; exact hj h2
      · exact hc y a (drop1_some h).2.2
    · rw [if_neg h2] at h
      exact hc y a (drop1_some h).2.2
  · rw [if_neg hl] at h
    exact hc y a h
/-- What is told of an instruction and what became of it. -/
structure Like (i j : S38) : Prop where
  d : i.f1 = j.f1
  id : i.f7 = j.f7
  big : 4 ≤ i.f0 → i.f0 = j.f0 ∧ i.f5 = j.f5 ∧ i.f6 = j.f6
  low : j.f0 ≤ i.f0
theorem stepR_like {i j : S38} {v cc : Int} {k k2 : Nat} {g c : Int → Option Int} (h : refI i v cc k k2 = true) (hc : CopyIn v c) (hs : stepR g c i = some j) : refI j v cc k k2 = true ∧ Like i j := by
  have hr := readF_right h hc
  have hv := refI_vars h
  have he := readF_eq c i
  rcases constF_two (stepR_of hs).1 with e | ⟨h0, n, e⟩
  · subst e
    refine ⟨hr, ?_⟩
    rw [he]
    exact ⟨rfl, rfl, fun _ => ⟨rfl, rfl, rfl⟩, Int.le_refl _⟩
  · have h0' : i.f0 = 2 ∨ i.f0 = 3 := by rw [readF_op] at h0; exact h0
    have hd : 0 ≤ i.f1 ∧ i.f1 < v := hv.1 (by rcases h0' with e | e <;> rw [e]; exact hb_2.1; exact hb_3.1)
    have h1 : (readF c i).f1 = i.f1 := by rw [he]
    rw [h1] at e
    rw [e]
    exact ⟨refI_const hd, rfl, refI_id h h0', fun h4 => by omega, by show (1 : Int) ≤ i.f0; omega⟩
theorem goRI_all (v cc : Int) (k k2 : Nat) : ∀ (l : List S38) (ids ids' : List Int), goRI v cc k k2 ids l = some ids' → ∀ i ∈ l, refI i v cc k k2 = true
  | [], _, _, _, _, h => by cases h
  | i :: r, ids, ids', h, j, hj => by
    rw [goRI] at h
    cases hi : refI i v cc k k2 with
    | false => rw [hi] at h; cases h
    | true =>
      rw [hi] at h
      rcases List.mem_cons.1 hj with rfl | hj
      · exact hi
      · simp only [cond_true] at h
        cases h0 : decide (0 < i.f7) with
        | true =>
          rw [h0] at h
          cases hcc : ids.contains i.f7 with
          | true => rw [hcc] at h; cases h
          | false => rw [hcc] at h; exact goRI_all v cc k k2 r _ _ h j hj
        | false => rw [h0] at h; exact goRI_all v cc k k2 r _ _ h j hj
/-- A right block's instructions gone through. -/
theorem runF_like (v cc : Int) (k k2 : Nat) : ∀ (l r : List S38) (ids ids' : List Int) (g c G C : Int → Option Int), goRI v cc k k2 ids l = some ids' → CopyIn v c → runF g c l = some (r, G, C) →
    goRI v cc k k2 ids r = some ids' ∧ CopyIn v C ∧ r.length = l.length ∧ ∀ x (h : x < l.length) (h' : x < r.length), Like l[x] r[x]
  | [], r, ids, ids', g, c, G, C, h, hc, hr => by
    simp only [runF, Option.some.injEq, Prod.mk.injEq] at hr
    obtain ⟨rfl, rfl, rfl⟩ := hr
    exact ⟨h, hc, rfl, fun x h => absurd h (by simp)⟩
  | i :: l, r, ids, ids', g, c, G, C, h, hc, hr => by
    have hi := goRI_all v cc k k2 (i :: l) ids ids' h i (List.mem_cons_self ..)
    rw [runF] at hr
    obtain ⟨j, hj, hr⟩ := Option.bind_eq_some_iff.1 hr
    obtain ⟨⟨r', G', C'⟩, hrun, hr⟩ := Option.map_eq_some_iff.1 hr
    simp only [Prod.mk.injEq] at hr
    obtain ⟨rfl, rfl, rfl⟩ := hr
    obtain ⟨hrj, hlk⟩ := stepR_like hi hc hj
    have hin : CopyIn v (learn1 c j) := learn1_in hc fun h2 => (refI_vars hrj).2.1 (by rw [h2]; exact hb_2.2.1)
    rw [goRI, hi] at h
    simp only [cond_true] at h
    have tail : ∀ ids1, goRI v cc k k2 ids1 l = some ids' → goRI v cc k k2 ids1 r' = some ids' ∧ CopyIn v C' ∧ r'.length = l.length ∧ ∀ x (h : x < l.length) (h' : x < r'.length), Like l[x] r'[x] := fun ids1 h1 => runF_like v cc k k2 l r' ids1 ids' _ _ _ _ h1 hin hrun
    have fin : ∀ ids1, (goRI v cc k k2 ids1 r' = some ids' → goRI v cc k k2 ids (j :: r') = some ids') → goRI v cc k k2 ids1 l = some ids' → goRI v cc k k2 ids (j :: r') = some ids' ∧ CopyIn v C' ∧ (j :: r').length = (i :: l).length ∧ ∀ x (h : x < (i :: l).length) (h' : x < (j :: r').length), Like (i :: l)[x] (j :: r')[x] := by
      intro ids1 hg h1
      obtain ⟨t1, t2, t3, t4⟩ := tail ids1 h1
      refine ⟨hg t1, t2, by simp [t3], fun x hx hx' => ?_⟩
      cases x with
      | zero => exact hlk
      | succ x => exact t4 x (by simpa using hx) (by simpa using hx')
    cases h0 : decide (0 < i.f7) with
    | true =>
      rw [h0] at h
      simp only [cond_true] at h
      cases hcc : ids.contains i.f7 with
      | true => rw [hcc] at h; cases h
      | false =>
        rw [hcc] at h
        refine fin _ (fun hg => ?_) h
        rw [goRI, hrj, ← hlk.id, h0, hcc]
        exact hg
    | false =>
      rw [h0] at h
      simp only [cond_false] at h
      refine fin _ (fun hg => ?_) h
      rw [goRI, hrj, ← hlk.id, h0]
      exact hg
theorem endR_fold {e : S34} {v n : Int} {g c : Int → Option Int} (h : endR e v n = true) (hc : CopyIn v c) : endR ⟨(endF g c e.f0 e.f1 e.f2 e.f3).1, (endF g c e.f0 e.f1 e.f2 e.f3).2.1, (endF g c e.f0 e.f1 e.f2 e.f3).2.2.1, (endF g c e.f0 e.f1 e.f2 e.f3).2.2.2⟩ v n = true := by
  obtain ⟨e0, e1, e2, e3⟩ := e
  simp only at h ⊢
  by_cases h0 : e0 = 2
  · subst h0
    have hv : (0 ≤ e2 ∧ e2 < n) ∧ (0 ≤ e3 ∧ e3 < n) ∧ (0 ≤ e1 ∧ e1 < v) := by
      simp only [endR, endR4, cond_iff, beq_iff_eq, Bool.false_eq_true, and_false, or_false, false_or, decide_eq_true_eq] at h
      omega
    unfold endF
    rw [if_pos rfl]
    by_cases hs : (g (rootF c e1)).isSome = true
    · rw [if_pos hs]
      by_cases hz : (g (rootF c e1)).getD 0 = 0
      · rw [if_pos hz]
        simp only [endR, endR4, cond_iff, beq_iff_eq, Bool.false_eq_true, and_false, or_false, false_or, decide_eq_true_eq]
        simp
        omega
      · rw [if_neg hz]
        simp only [endR, endR4, cond_iff, beq_iff_eq, Bool.false_eq_true, and_false, or_false, false_or, decide_eq_true_eq]
        simp
        omega
    · rw [if_neg hs]
      have hr := root_in hc hv.2.2
      simp only [endR, endR4, cond_iff, beq_iff_eq, Bool.false_eq_true, and_false, or_false, false_or, decide_eq_true_eq]
      simp
      omega
  · unfold endF
    rw [if_neg h0]
    exact h
theorem goRB_fold (v cc : Int) (k k2 : Nat) : ∀ (l X : List S36) (ids : List Int), goRB v cc k k2 ids l = true → foL l = some X → goRB v cc k k2 ids X = true
  | [], X, _, _, h => by simp only [foL, Option.some.injEq] at h; subst h; rfl
  | b :: r, X, ids, h, hX => by
    rw [foL] at hX
    obtain ⟨x, hx, hX⟩ := Option.bind_eq_some_iff.1 hX
    obtain ⟨s, hs, rfl⟩ := Option.map_eq_some_iff.1 hX
    rw [goRB] at h
    cases e : goRI v cc k k2 ids b.f0 with
    | none => rw [e] at h; cases h
    | some ids' =>
      rw [e] at h
      simp only at h
      obtain ⟨⟨q, G, C⟩, hrun, rfl⟩ := Option.map_eq_some_iff.1 hx
      obtain ⟨h1, h2, _, _⟩ := runF_like v cc k k2 _ _ _ _ _ _ _ _ e (fun _ _ h => by cases h) hrun
      rw [goRB]
      simp only [h1]
      cases he : endR b.f1 v k2 with
      | false => rw [he] at h; cases h
      | true =>
        rw [he] at h
        rw [endR_fold he h2]
        exact goRB_fold v cc k k2 r s ids' h hs
theorem foL_len : ∀ {l X : List S36}, foL l = some X → X.length = l.length
  | [], X, h => by simp only [foL, Option.some.injEq] at h; subst h; rfl
  | b :: r, X, h => by
    rw [foL] at h
    obtain ⟨x, _, h⟩ := Option.bind_eq_some_iff.1 h
    obtain ⟨s, hs, rfl⟩ := Option.map_eq_some_iff.1 h
    simp [foL_len hs]
theorem right_fold {v : Int} {k : List Int} {l X : List S36} {cc : Int} (h : refRB v k l cc = true) (hX : foL l = some X) : refRB v k X cc = true := by
  unfold refRB at h ⊢
  rw [foL_len hX]
  rw [Bool.and_eq_true, Bool.and_eq_true] at h ⊢
  exact ⟨h.1, h.2.1, goRB_fold v cc k.length l.length l X [] h.2.2 hX⟩
theorem foL_get : ∀ {l X : List S36}, foL l = some X → ∀ j (h : j < l.length) (h' : j < X.length), foB l[j] = some X[j]
  | [], _, _, j, h, _ => absurd h (by simp)
  | b :: r, X, hX, j, h, h' => by
    rw [foL] at hX
    obtain ⟨x, hx, hX⟩ := Option.bind_eq_some_iff.1 hX
    obtain ⟨s, hs, rfl⟩ := Option.map_eq_some_iff.1 hX
    cases j with
    | zero => exact hx
    | succ j => exact foL_get hs j (by simpa using h) (by simpa using h')
theorem goRB_get (v cc : Int) (k k2 : Nat) : ∀ (l : List S36) (ids : List Int), goRB v cc k k2 ids l = true → ∀ j (h : j < l.length), ∃ ids1 ids2, goRI v cc k k2 ids1 l[j].f0 = some ids2
  | [], _, _, j, h => absurd h (by simp)
  | b :: r, ids, h, j, hj => by
    rw [goRB] at h
    cases e : goRI v cc k k2 ids b.f0 with
    | none => rw [e] at h; cases h
    | some ids' =>
      rw [e] at h
      simp only at h
      cases he : endR b.f1 v k2 with
      | false => rw [he] at h; cases h
      | true =>
        rw [he] at h
        cases j with
        | zero => exact ⟨_, _, e⟩
        | succ j => exact goRB_get v cc k k2 r ids' h j (by simpa using hj)
/-- What is told of each instruction of a right thread. -/
theorem like_of {v : Int} {k : List Int} {l X : List S36} {cc : Int} (h : refRB v k l cc = true) (hX : foL l = some X) (j : Nat) (hj : j < l.length) (hjX : j < X.length) : ∀ x (h : x < l[j].f0.length) (h' : x < X[j].f0.length), Like l[j].f0[x] X[j].f0[x] := by
  unfold refRB at h
  rw [Bool.and_eq_true, Bool.and_eq_true] at h
  obtain ⟨ids1, ids2, hg⟩ := goRB_get v cc k.length l.length l [] h.2.2 j hj
  have hx := foL_get hX j hj hjX
  obtain ⟨⟨q, G, C⟩, hrun, hq⟩ := Option.map_eq_some_iff.1 hx
  have hk := (runF_like v cc _ _ _ _ _ _ _ _ _ _ hg (fun _ _ h => by cases h) hrun).2.2.2
  intro x h1 h2
  have e : X[j].f0 = q := by rw [← hq]
  have hg2 := hk x h1 (by rw [← e]; exact h2)
  simp only [e]
  exact hg2

/-! ### fold has an answer for any thread of whole numbers of Go -/
theorem zwf : (Lit.int .i64 0).wf = true := by decide
theorem readF_ok {c : Int → Option Int} (hc : allWf c) {i : S38} (h : ok_S38 i) : ok_S38 (readF c i) := by
  obtain ⟨h0, h1, h2, h3, h4, h5, h6, h7⟩ := h
  rw [readF_eq]
  refine ⟨h0, h1, ?_, ?_, h4, h5, h6, h7⟩
  · show (Lit.int .i64 (if hasB i.f0 2 = true then rootF c i.f2 else i.f2)).wf = true
    split
    · exact rootF_wf h2 hc
    · exact h2
  · show (Lit.int .i64 (if hasB i.f0 4 = true then rootF c i.f3 else i.f3)).wf = true
    split
    · exact rootF_wf h3 hc
    · exact h3
theorem val_wf {g : Int → Option Int} (hg : allWf g) {x : Int} (h : (g x).isSome = true) : (Lit.int .i64 ((g x).getD 0)).wf = true := by
  obtain ⟨a, ha⟩ := Option.isSome_iff_exists.1 h
  rw [ha]
  exact hg x a ha
theorem constF_ok {g : Int → Option Int} (hg : allWf g) {i : S38} (h : ok_S38 i) : ∃ j, constF g i = some j ∧ ok_S38 j := by
  obtain ⟨h0, h1, h2, h3, h4, h5, h6, h7⟩ := h
  have z1 : (Lit.int .i64 1).wf = true := by decide
  unfold constF
  by_cases c1 : i.f0 = 2 ∧ (g i.f2).isSome = true
  · rw [if_pos c1]
    exact ⟨_, rfl, z1, h1, zwf, zwf, zwf, val_wf hg c1.2, zwf, zwf⟩
  · rw [if_neg c1]
    by_cases c2 : i.f0 = 3 ∧ (g i.f2).isSome = true ∧ (g i.f3).isSome = true
    · rw [if_pos c2]
      obtain ⟨m, hm, hw⟩ := bin_w i.f5 _ _ (val_wf hg c2.2.1) (val_wf hg c2.2.2)
      rw [hm, Option.bind_some]
      by_cases hk : m.2 = true
      · rw [if_pos hk]
        exact ⟨_, rfl, z1, h1, zwf, zwf, zwf, hw, zwf, zwf⟩
      · rw [if_neg hk]
        exact ⟨_, rfl, h0, h1, h2, h3, h4, h5, h6, h7⟩
    · rw [if_neg c2]
      exact ⟨_, rfl, h0, h1, h2, h3, h4, h5, h6, h7⟩
theorem stepR_ok {g c : Int → Option Int} (hg : allWf g) (hc : allWf c) {i : S38} (h : ok_S38 i) : ∃ j, stepR g c i = some j ∧ ok_S38 j := by
  obtain ⟨j, hj, ho⟩ := constF_ok hg (readF_ok hc h)
  refine ⟨j, ?_, ho⟩
  unfold stepR
  rw [hj, Option.bind_some, if_pos ho.2.2.2.2.2.1]
theorem runF_ok : ∀ (l : List S38) (g c : Int → Option Int), (∀ i ∈ l, ok_S38 i) → allWf g → allWf c → ∃ r G C, runF g c l = some (r, G, C) ∧ (∀ j ∈ r, ok_S38 j) ∧ allWf C ∧ r.length = l.length
  | [], g, c, _, _, hc => ⟨[], g, c, rfl, (fun _ h => by cases h), hc, rfl⟩
  | i :: l, g, c, hl, hg, hc => by
    obtain ⟨j, hj, hok⟩ := stepR_ok hg hc (hl i (List.mem_cons_self ..))
    obtain ⟨r, G, C, hr, h1, h2, h3⟩ := runF_ok l (learn0 g j) (learn1 c j) (fun x hx => hl x (List.mem_cons_of_mem _ hx)) (learn0_wf hg hok.2.2.2.2.2.1) (learn1_wf hc hok.2.2.1)
    refine ⟨j :: r, G, C, ?_, fun x hx => ?_, h2, by simp [h3]⟩
    · rw [runF, hj, Option.bind_some, hr]
      rfl
    · rcases List.mem_cons.1 hx with rfl | hx
      · exact hok
      · exact h1 x hx
theorem endF_ok {g c : Int → Option Int} (hc : allWf c) {e : S34} (h : ok_S34 e) : ok_S34 ⟨(endF g c e.f0 e.f1 e.f2 e.f3).1, (endF g c e.f0 e.f1 e.f2 e.f3).2.1, (endF g c e.f0 e.f1 e.f2 e.f3).2.2.1, (endF g c e.f0 e.f1 e.f2 e.f3).2.2.2⟩ := by
  obtain ⟨h0, h1, h2, h3⟩ := h
  have z1 : (Lit.int .i64 1).wf = true := by decide
  have z2 : (Lit.int .i64 2).wf = true := by decide
  unfold endF
  by_cases e0 : e.f0 = 2
  · rw [if_pos e0]
    by_cases hs : (g (rootF c e.f1)).isSome = true
    · rw [if_pos hs]
      by_cases hz : (g (rootF c e.f1)).getD 0 = 0
      · rw [if_pos hz]
        exact ⟨z1, zwf, h3, zwf⟩
      · rw [if_neg hz]
        exact ⟨z1, zwf, h2, zwf⟩
    · rw [if_neg hs]
      exact ⟨z2, rootF_wf h1 hc, h2, h3⟩
  · rw [if_neg e0]
    exact ⟨h0, h1, h2, h3⟩
theorem none1_wf : allWf none1 := fun _ _ h => by cases h
theorem foB_ok {b : S36} (hi : ∀ i ∈ b.f0, ok_S38 i) (he : ok_S34 b.f1) : ∃ x, foB b = some x ∧ (∀ j ∈ x.f0, ok_S38 j) ∧ ok_S34 x.f1 ∧ x.f0.length = b.f0.length := by
  obtain ⟨r, G, C, hr, h1, h2, h3⟩ := runF_ok b.f0 none1 none1 hi none1_wf none1_wf
  unfold foB
  rw [hr]
  exact ⟨_, rfl, h1, endF_ok h2 he, h3⟩
theorem foL_ok : ∀ (l : List S36), (∀ b ∈ l, ∀ i ∈ b.f0, ok_S38 i) → (∀ b ∈ l, ok_S34 b.f1) → ∃ X, foL l = some X ∧ (∀ b ∈ X, ∀ i ∈ b.f0, ok_S38 i) ∧ (∀ b ∈ X, ok_S34 b.f1)
  | [], _, _ => ⟨[], rfl, (fun _ h => by cases h), (fun _ h => by cases h)⟩
  | b :: r, hi, he => by
    obtain ⟨x, hx, h1, h2, _⟩ := foB_ok (hi b (List.mem_cons_self ..)) (he b (List.mem_cons_self ..))
    obtain ⟨s, hs, h4, h5⟩ := foL_ok r (fun b hb => hi b (List.mem_cons_of_mem _ hb)) (fun b hb => he b (List.mem_cons_of_mem _ hb))
    refine ⟨x :: s, ?_, fun c hc => ?_, fun c hc => ?_⟩
    · rw [foL, hx, Option.bind_some, hs]; rfl
    · rcases List.mem_cons.1 hc with rfl | hc
      · exact h1
      · exact h4 c hc
    · rcases List.mem_cons.1 hc with rfl | hc
      · exact h2
      · exact h5 c hc
theorem runF_len : ∀ (l r : List S38) (g c G C : Int → Option Int), runF g c l = some (r, G, C) → r.length = l.length
  | [], r, g, c, G, C, h => by simp only [runF, Option.some.injEq, Prod.mk.injEq] at h; obtain ⟨rfl, _, _⟩ := h; rfl
  | i :: l, r, g, c, G, C, h => by
    rw [runF] at h
    obtain ⟨j, hj, h⟩ := Option.bind_eq_some_iff.1 h
    obtain ⟨⟨r', G', C'⟩, hrun, h⟩ := Option.map_eq_some_iff.1 h
    simp only [Prod.mk.injEq] at h
    obtain ⟨rfl, rfl, rfl⟩ := h
    simp [runF_len l r' _ _ _ _ hrun]
theorem foB_len {b x : S36} (h : foB b = some x) : x.f0.length = b.f0.length := by
  obtain ⟨⟨r, G, C⟩, hr, rfl⟩ := Option.map_eq_some_iff.1 h
  exact runF_len _ _ _ _ _ _ hr
theorem Fine.fold {v : Int} {k : List Int} {l : List S36} (h : Fine v k l) : ∃ X, foL l = some X ∧ Fine v k X := by
  obtain ⟨X, hX, h1, h2⟩ := foL_ok l h.fi h.fe
  have hlen := foL_len hX
  refine ⟨X, hX, h.fv, h.fk, h.fkw, by rw [hlen]; exact h.fl, fun b hb => ?_, h1, h2⟩
  obtain ⟨j, hj, rfl⟩ := List.getElem_of_mem hb
  have e := foB_len (foL_get hX j (by omega) hj)
  rw [e]
  exact h.fb _ (List.getElem_mem _)
theorem Fine.okB {v : Int} {k : List Int} {l : List S36} (h : Fine v k l) (b : S36) (hb : b ∈ l) : okB b.f0 b.f1.f1 :=
  ⟨by have := h.fb b hb; omega, fun i hi => ⟨(h.fi b hb i hi).2.1, (h.fi b hb i hi).2.2.1, (h.fi b hb i hi).2.2.2.1⟩, (h.fe b hb).2.1⟩
theorem block_f {b x : S36} (h : foB b = some x) (hk : okB b.f0 b.f1.f1) : fold_block.f b.f0 b.f1.f0 b.f1.f1 b.f1.f2 b.f1.f3 = some (x.f0, x.f1.f0, x.f1.f1, x.f1.f2, x.f1.f3) := by
  obtain ⟨⟨r, G, C⟩, hr, rfl⟩ := Option.map_eq_some_iff.1 h
  unfold fold_block.f
  rw [if_pos hk, show runF (fun _ => none) (fun _ => none) b.f0 = some (r, G, C) from hr]
  rfl
theorem fold_l0 (l X : List S36) (v : Int) (k : List Int) (h4 : l.length ≤ 4000) (hX : foL l = some X) (hb : ∀ b ∈ l, okB b.f0 b.f1.f1) : ∀ (d j : Nat) (acc : List S36), j + d = l.length → acc.length = j → fold_Fold.l0 (d + 1) l (l.length : Int) (j : Int) v k acc = some (v, k, acc ++ X.drop j) := by
  have hlen := foL_len hX
  intro d
  induction d with
  | zero =>
    intro j acc hj ha
    rw [fold_Fold.l0, if_neg (by omega), List.drop_eq_nil_of_le (by omega)]
    simp
  | succ d ih =>
    intro j acc hj ha
    have hlt : j < l.length := by omega
    have hlx : j < X.length := by omega
    rw [fold_Fold.l0, if_pos (by omega), if_pos (by omega), if_pos (by omega), rdB l j hlt, block_f (foL_get hX j hlt hlx) (hb _ (List.getElem_mem hlt)), Option.bind_some, if_pos (by omega), wrap_succ j (by omega)]
    refine (ih (j + 1) _ (by omega) (by simp [ha])).trans ?_
    rw [drop_cons X j hlx]
    simp only [List.append_assoc, List.singleton_append]
theorem fold_f {v : Int} {k : List Int} {l X : List S36} (h : Fine v k l) (h4 : l.length ≤ 4000) (hX : foL l = some X) (hr : refRB v k l 200 = true) : fold_Fold.f (l.length + 1) v k l = some (v, k, X) := by
  have hr' : rightB v k l 200 = true := by rw [← right_same]; exact hr
  rw [fold_Fold.f, ir_Right.f, if_pos h.ids, Option.bind_some, hr', if_pos rfl, slices_Clone_int_int.f, if_pos (by have := h.fk; omega), Option.bind_some]
  exact fold_l0 l X v k h4 hX h.okB l.length 0 [] (by omega) rfl
theorem fold_ev {v : Int} {k : List Int} {l X : List S36} (h : Fine v k l) (h4 : l.length ≤ 4000) (hX : foL l = some X) (hr : refRB v k l 200 = true) : Ev (fun q => fold_Fold.f q v k l) (v, k, X) :=
  Ev.of (fun q => fold_Fold.mono v k l q) (fold_f h h4 hX hr)
theorem awake34_ev : Ev (fun q => spinnakerlaw34_awake.f q) true :=
  Ev.of (fun q => spinnakerlaw34_awake.mono q) (show spinnakerlaw34_awake.f 8 = some true by kernel_rfl)

theorem acts_l1 (v : Int) (k : List Int) (l X : List S36) (hX : foL l = some X) (hr : refRB v k l 200 = true) (j : Nat) (hj : j < l.length) (hl : l.length ≤ 1048576) (hb : l[j].f0.length ≤ 1048576) (hn : Ev (fun q => spinnakerlaw34_FoldActions.l0 q (wrap64 ((j : Int) + 1)) v k l v k X) true) : ∀ d x, x ≤ l[j].f0.length → l[j].f0.length - x = d →
    Ev (fun q => spinnakerlaw34_FoldActions.l1 q (j : Int) (x : Int) v k l v k X) true := by
  have hlen := foL_len hX
  have hjX : j < X.length := by omega
  have hg := foL_get hX j hj hjX
  have hsl := foB_len hg
  have e1 : rd_T36 l (j : Int) = l[j] := rdB l j hj
  have e2 : rd_T36 X (j : Int) = X[j] := rdB X j hjX
  have hlike := like_of hr hX j hj hjX
  generalize hl' : l[j] = b at *
  generalize X[j] = x' at *
  intro d
  induction d with
  | zero =>
    intro x hx hd
    refine Ev.by hn fun q => ?_
    simp only [spinnakerlaw34_FoldActions.l1, e1]
    rw [if_pos (by omega), if_pos (by omega), if_neg (by omega)]
  | succ d ih =>
    intro x hx hd
    have hx1 : x < b.f0.length := by omega
    have hx2 : x < x'.f0.length := by omega
    have e3 : rd_T38 b.f0 (x : Int) = b.f0[x] := rdI _ x hx1
    have e4 : rd_T38 x'.f0 (x : Int) = x'.f0[x] := rdI _ x hx2
    have hk := hlike x hx1 hx2
    refine Ev.by (Ev.by (ih (x + 1) (by omega) (by omega)) (g := fun q => spinnakerlaw34_FoldActions.j3 q (j : Int) (x : Int) false v k l v k X) fun q => ?_) fun q => ?_
    · simp only [spinnakerlaw34_FoldActions.j3]
      rw [if_neg (by decide), wrap_succ x (by omega)]
    · simp only [spinnakerlaw34_FoldActions.l1, e1, e2, e3, e4]
      rw [if_pos (by omega), if_pos (by omega), if_pos (by omega), if_pos (by omega), if_pos (by omega), if_pos (by omega), if_pos hk.d, if_pos hk.id]
      by_cases h4 : b.f0[x].f0 ≥ 4
      · obtain ⟨h1, h2, h3⟩ := hk.big h4
        rw [if_pos h4, if_pos h1, if_pos h2, if_pos h3, if_neg (by omega)]
      · rw [if_neg h4, if_pos (by omega), decide_eq_false (by have := hk.low; omega)]
theorem acts_l0 (v : Int) (k : List Int) (l X : List S36) (hX : foL l = some X) (hr : refRB v k l 200 = true) (hl : l.length ≤ 1048576) (hb : ∀ b ∈ l, b.f0.length ≤ 1048576) : ∀ d j, j ≤ l.length → l.length - j = d →
    Ev (fun q => spinnakerlaw34_FoldActions.l0 q (j : Int) v k l v k X) true := by
  have hlen := foL_len hX
  intro d
  induction d with
  | zero =>
    intro j hj hd
    refine Ev.by (f := fun q => (spinnakerlaw34_awake.f q).bind fun t => some t) (Ev.bind awake34_ev (Ev.now _)) fun q => ?_
    simp only [spinnakerlaw34_FoldActions.l0]
    rw [if_neg (by omega)]
  | succ d ih =>
    intro j hj hd
    have hj1 : j < l.length := by omega
    have hjX : j < X.length := by omega
    have e1 : rd_T36 l (j : Int) = l[j] := rdB l j hj1
    have e2 : rd_T36 X (j : Int) = X[j] := rdB X j hjX
    have hn := ih (j + 1) (by omega) (by omega)
    rw [← wrap_succ j (by omega)] at hn
    refine Ev.by (acts_l1 v k l X hX hr j hj1 hl (hb _ (List.getElem_mem hj1)) hn l[j].f0.length 0 (by omega) (by omega)) fun q => ?_
    simp only [spinnakerlaw34_FoldActions.l0, e1, e2]
    rw [if_pos (by omega), if_pos (by omega), if_pos (by omega), if_pos (by rw [foB_len (foL_get hX j hj1 hjX)])]
    rfl
theorem FoldActions : spinnakerlaw34_FoldActions.Pure := by
  intro v k l ho hw
  have hF := fine_of ho hw
  apply Ev.rounds
  unfold spinnakerlaw34_FoldActions.f
  refine Ev.bind (small_ev hF) ?_
  cases hs : smallB v k l with
  | false =>
    refine Ev.if_neg (by decide) ?_
    exact Ev.bind awake34_ev (Ev.now _)
  | true =>
    have hS := small_of hs
    obtain ⟨X, hX, hFX⟩ := hF.fold
    have hlen := foL_len hX
    refine Ev.if_pos rfl ?_
    refine Ev.bind (fold_ev hF (by have := hS.sl; omega) hX hS.sr) ?_
    refine Ev.bind (a := true) ?_ ?_
    · rw [right_f hFX, right_fold hS.sr hX]
      exact Ev.now _
    · refine Ev.if_pos rfl ?_
      refine Ev.by (acts_l0 v k l X hX hS.sr hF.fl hF.fb l.length 0 (by omega) (by omega)) fun q => ?_
      simp only [spinnakerlaw34_FoldActions.j0]
      rw [if_neg (by simp [hlen])]
      rfl

end Go.Proofs.YtbcfpgcfamipmaaDoor.Pure
