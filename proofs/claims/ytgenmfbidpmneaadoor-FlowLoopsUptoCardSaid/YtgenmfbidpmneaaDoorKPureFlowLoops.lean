/- The loops of a thread are the document's, and a head is ahead of its loop's blocks on all ways; of a thread that is not right the program tells nothing. For every thread that can be read as data (where all that comes in weighs no more than the row's bound). -/
import Derived.Test.YtgenmfbidpmneaaDoorKPFlowLoopsx9
namespace Go.Proofs.YtgenmfbidpmneaaDoor.Pure
open Go.RowKit Go.Proofs.YtgenmfbidpmneaaDoor.PFlowLoops Go.Proofs.YtgenmfbidpmneaaDoorW.PrintWords Go.Proofs.YtgenmfbidpmneaaDoorW.PrintLast Go.Proofs.YtgenmfbidpmneaaDoorW.PrintMore

set_option linter.unusedVariables false
set_option linter.unusedSimpArgs false
theorem rd_nat (xs : List Int) (i : Nat) (h : i < xs.length) : rd xs (i : Int) = xs[i] := by
  simp [rd, h]
theorem wrap_succ (i : Nat) (h : i ≤ 4611686018427387904) : wrap64 ((i : Int) + 1) = ((i + 1 : Nat) : Int) := by
  unfold wrap64
  omega
/-- One round: by an equation for every number of rounds. -/
theorem Ev.by {α : Type} {g f : Nat → Option α} {r : α} (k : Ev f r) (h : ∀ k, g (k + 1) = f k) : Ev g r := Ev.step h k
theorem Ev.end_ {α : Type} {g : Nat → Option α} {r : α} (h : ∀ k, g (k + 1) = some r) : Ev g r := Ev.step (f := fun _ => some r) h (Ev.now r)
theorem Ev.if_pos {α : Type} {c : Prop} [Decidable c] {g f : Nat → Option α} {r : α} (hc : c) (h : Ev g r) : Ev (fun k => if c then g k else f k) r := by
  exact Ev.congr (fun _ => _root_.if_pos hc) h
theorem Ev.if_neg {α : Type} {c : Prop} [Decidable c] {g f : Nat → Option α} {r : α} (hc : ¬ c) (h : Ev f r) : Ev (fun k => if c then g k else f k) r := by
  exact Ev.congr (fun _ => _root_.if_neg hc) h
theorem drop_cons {α : Type} (l : List α) (i : Nat) (h : i < l.length) : l.drop i = l[i] :: l.drop (i + 1) := List.drop_eq_getElem_cons h

theorem ints_l0 (a b : List Int) (h : a.length = b.length) (hm : a.length ≤ 4611686018427387904) : ∀ d i, i ≤ a.length → a.length - i = d →
    Ev (fun k => spinnakerref01_Ints.l0 k a b (i : Int)) (decide (a.drop i = b.drop i)) := by
  intro d
  induction d with
  | zero =>
    intro i hi hd
    rw [List.drop_eq_nil_of_le (show a.length ≤ i by omega), List.drop_eq_nil_of_le (show b.length ≤ i by omega)]
    exact Ev.end_ fun k => by simp only [spinnakerref01_Ints.l0]; rw [if_neg (by omega)]; rfl
  | succ d ih =>
    intro i hi hd
    have h1 : i < a.length := by omega
    have h2 : i < b.length := by omega
    rw [drop_cons a i h1, drop_cons b i h2]
    by_cases e : a[i] = b[i]
    · have hr : decide (a[i] :: a.drop (i + 1) = b[i] :: b.drop (i + 1)) = decide (a.drop (i + 1) = b.drop (i + 1)) := by simp only [List.cons.injEq, e, true_and]
      rw [hr]
      exact Ev.by (ih (i + 1) (by omega) (by omega)) fun k => by
        simp only [spinnakerref01_Ints.l0]
        rw [if_pos (by omega), if_pos (by omega), if_pos (by omega), if_pos (by rw [rd_nat _ _ h1, rd_nat _ _ h2]; exact e), wrap_succ i (by omega)]
    · have hr : decide (a[i] :: a.drop (i + 1) = b[i] :: b.drop (i + 1)) = false := by simp only [List.cons.injEq, e, false_and, decide_false]
      rw [hr]
      exact Ev.end_ fun k => by
        simp only [spinnakerref01_Ints.l0]
        rw [if_pos (by omega), if_pos (by omega), if_pos (by omega), if_neg (by rw [rd_nat _ _ h1, rd_nat _ _ h2]; exact e)]
theorem ints_ev (a b : List Int) (hm : a.length ≤ 4611686018427387904) : Ev (fun k => spinnakerref01_Ints.f k a b) (decide (a = b)) := by
  unfold spinnakerref01_Ints.f
  by_cases h : a.length = b.length
  · refine Ev.if_pos (by omega) ?_
    have := ints_l0 a b h hm a.length 0 (by omega) (by omega)
    simpa using this
  · refine Ev.if_neg (by omega) ?_
    have : decide (a = b) = false := by simp; intro e; exact h (by rw [e])
    rw [this]
    exact Ev.now _

theorem cond_iff (c a b : Bool) : (cond c a b = true) ↔ (c = true ∧ a = true) ∨ (¬ c = true ∧ b = true) := by cases c <;> simp
/-- What an operation has, as both tell it. -/
theorem hb_0 : hasB 0 1 = false ∧ hasB 0 2 = false ∧ hasB 0 4 = false ∧ hasB 0 8 = false ∧ hasB 0 16 = false ∧ hasB 0 32 = false ∧ hasB 0 64 = false ∧ hasB 0 128 = false ∧ hasB 0 256 = false ∧ hasB 0 512 = false ∧ (fldB 0 != 0) = false ∧ dB 0 = false ∧ aB 0 = false ∧ bB 0 = false := ⟨by kernel_rfl, by kernel_rfl, by kernel_rfl, by kernel_rfl, by kernel_rfl, by kernel_rfl, by kernel_rfl, by kernel_rfl, by kernel_rfl, by kernel_rfl, by kernel_rfl, by kernel_rfl, by kernel_rfl, by kernel_rfl⟩
theorem hb_1 : hasB 1 1 = true ∧ hasB 1 2 = false ∧ hasB 1 4 = false ∧ hasB 1 8 = false ∧ hasB 1 16 = true ∧ hasB 1 32 = false ∧ hasB 1 64 = false ∧ hasB 1 128 = false ∧ hasB 1 256 = false ∧ hasB 1 512 = false ∧ (fldB 1 != 0) = true ∧ dB 1 = true ∧ aB 1 = false ∧ bB 1 = false := ⟨by kernel_rfl, by kernel_rfl, by kernel_rfl, by kernel_rfl, by kernel_rfl, by kernel_rfl, by kernel_rfl, by kernel_rfl, by kernel_rfl, by kernel_rfl, by kernel_rfl, by kernel_rfl, by kernel_rfl, by kernel_rfl⟩
theorem hb_2 : hasB 2 1 = true ∧ hasB 2 2 = true ∧ hasB 2 4 = false ∧ hasB 2 8 = false ∧ hasB 2 16 = false ∧ hasB 2 32 = false ∧ hasB 2 64 = false ∧ hasB 2 128 = false ∧ hasB 2 256 = false ∧ hasB 2 512 = false ∧ (fldB 2 != 0) = true ∧ dB 2 = true ∧ aB 2 = true ∧ bB 2 = false := ⟨by kernel_rfl, by kernel_rfl, by kernel_rfl, by kernel_rfl, by kernel_rfl, by kernel_rfl, by kernel_rfl, by kernel_rfl, by kernel_rfl, by kernel_rfl, by kernel_rfl, by kernel_rfl, by kernel_rfl, by kernel_rfl⟩
theorem hb_3 : hasB 3 1 = true ∧ hasB 3 2 = true ∧ hasB 3 4 = true ∧ hasB 3 8 = false ∧ hasB 3 16 = false ∧ hasB 3 32 = true ∧ hasB 3 64 = false ∧ hasB 3 128 = false ∧ hasB 3 256 = false ∧ hasB 3 512 = false ∧ (fldB 3 != 0) = true ∧ dB 3 = true ∧ aB 3 = true ∧ bB 3 = true := ⟨by kernel_rfl, by kernel_rfl, by kernel_rfl, by kernel_rfl, by kernel_rfl, by kernel_rfl, by kernel_rfl, by kernel_rfl, by kernel_rfl, by kernel_rfl, by kernel_rfl, by kernel_rfl, by kernel_rfl, by kernel_rfl⟩
theorem hb_4 : hasB 4 1 = true ∧ hasB 4 2 = true ∧ hasB 4 4 = false ∧ hasB 4 8 = false ∧ hasB 4 16 = false ∧ hasB 4 32 = false ∧ hasB 4 64 = true ∧ hasB 4 128 = false ∧ hasB 4 256 = false ∧ hasB 4 512 = false ∧ (fldB 4 != 0) = true ∧ dB 4 = true ∧ aB 4 = true ∧ bB 4 = false := ⟨by kernel_rfl, by kernel_rfl, by kernel_rfl, by kernel_rfl, by kernel_rfl, by kernel_rfl, by kernel_rfl, by kernel_rfl, by kernel_rfl, by kernel_rfl, by kernel_rfl, by kernel_rfl, by kernel_rfl, by kernel_rfl⟩
theorem hb_5 : hasB 5 1 = false ∧ hasB 5 2 = true ∧ hasB 5 4 = true ∧ hasB 5 8 = false ∧ hasB 5 16 = false ∧ hasB 5 32 = false ∧ hasB 5 64 = true ∧ hasB 5 128 = false ∧ hasB 5 256 = false ∧ hasB 5 512 = false ∧ (fldB 5 != 0) = true ∧ dB 5 = false ∧ aB 5 = true ∧ bB 5 = true := ⟨by kernel_rfl, by kernel_rfl, by kernel_rfl, by kernel_rfl, by kernel_rfl, by kernel_rfl, by kernel_rfl, by kernel_rfl, by kernel_rfl, by kernel_rfl, by kernel_rfl, by kernel_rfl, by kernel_rfl, by kernel_rfl⟩
theorem hb_6 : hasB 6 1 = true ∧ hasB 6 2 = false ∧ hasB 6 4 = false ∧ hasB 6 8 = false ∧ hasB 6 16 = false ∧ hasB 6 32 = false ∧ hasB 6 64 = false ∧ hasB 6 128 = true ∧ hasB 6 256 = true ∧ hasB 6 512 = true ∧ (fldB 6 != 0) = true ∧ dB 6 = true ∧ aB 6 = false ∧ bB 6 = false := ⟨by kernel_rfl, by kernel_rfl, by kernel_rfl, by kernel_rfl, by kernel_rfl, by kernel_rfl, by kernel_rfl, by kernel_rfl, by kernel_rfl, by kernel_rfl, by kernel_rfl, by kernel_rfl, by kernel_rfl, by kernel_rfl⟩
theorem hb_7 : hasB 7 1 = false ∧ hasB 7 2 = true ∧ hasB 7 4 = false ∧ hasB 7 8 = false ∧ hasB 7 16 = false ∧ hasB 7 32 = false ∧ hasB 7 64 = false ∧ hasB 7 128 = true ∧ hasB 7 256 = true ∧ hasB 7 512 = true ∧ (fldB 7 != 0) = true ∧ dB 7 = false ∧ aB 7 = true ∧ bB 7 = false := ⟨by kernel_rfl, by kernel_rfl, by kernel_rfl, by kernel_rfl, by kernel_rfl, by kernel_rfl, by kernel_rfl, by kernel_rfl, by kernel_rfl, by kernel_rfl, by kernel_rfl, by kernel_rfl, by kernel_rfl, by kernel_rfl⟩
theorem hb_8 : hasB 8 1 = true ∧ hasB 8 2 = true ∧ hasB 8 4 = false ∧ hasB 8 8 = true ∧ hasB 8 16 = false ∧ hasB 8 32 = false ∧ hasB 8 64 = false ∧ hasB 8 128 = true ∧ hasB 8 256 = true ∧ hasB 8 512 = true ∧ (fldB 8 != 0) = true ∧ dB 8 = true ∧ aB 8 = true ∧ bB 8 = false := ⟨by kernel_rfl, by kernel_rfl, by kernel_rfl, by kernel_rfl, by kernel_rfl, by kernel_rfl, by kernel_rfl, by kernel_rfl, by kernel_rfl, by kernel_rfl, by kernel_rfl, by kernel_rfl, by kernel_rfl, by kernel_rfl⟩
theorem hb_9 : hasB 9 1 = true ∧ hasB 9 2 = true ∧ hasB 9 4 = true ∧ hasB 9 8 = false ∧ hasB 9 16 = false ∧ hasB 9 32 = false ∧ hasB 9 64 = false ∧ hasB 9 128 = true ∧ hasB 9 256 = true ∧ hasB 9 512 = true ∧ (fldB 9 != 0) = true ∧ dB 9 = true ∧ aB 9 = true ∧ bB 9 = true := ⟨by kernel_rfl, by kernel_rfl, by kernel_rfl, by kernel_rfl, by kernel_rfl, by kernel_rfl, by kernel_rfl, by kernel_rfl, by kernel_rfl, by kernel_rfl, by kernel_rfl, by kernel_rfl, by kernel_rfl, by kernel_rfl⟩
theorem hb_10 : hasB 10 1 = false ∧ hasB 10 2 = false ∧ hasB 10 4 = false ∧ hasB 10 8 = false ∧ hasB 10 16 = false ∧ hasB 10 32 = false ∧ hasB 10 64 = false ∧ hasB 10 128 = false ∧ hasB 10 256 = true ∧ hasB 10 512 = false ∧ (fldB 10 != 0) = true ∧ dB 10 = false ∧ aB 10 = false ∧ bB 10 = false := ⟨by kernel_rfl, by kernel_rfl, by kernel_rfl, by kernel_rfl, by kernel_rfl, by kernel_rfl, by kernel_rfl, by kernel_rfl, by kernel_rfl, by kernel_rfl, by kernel_rfl, by kernel_rfl, by kernel_rfl, by kernel_rfl⟩
theorem hb_11 : hasB 11 1 = false ∧ hasB 11 2 = true ∧ hasB 11 4 = false ∧ hasB 11 8 = false ∧ hasB 11 16 = false ∧ hasB 11 32 = false ∧ hasB 11 64 = false ∧ hasB 11 128 = false ∧ hasB 11 256 = false ∧ hasB 11 512 = true ∧ (fldB 11 != 0) = true ∧ dB 11 = false ∧ aB 11 = true ∧ bB 11 = false := ⟨by kernel_rfl, by kernel_rfl, by kernel_rfl, by kernel_rfl, by kernel_rfl, by kernel_rfl, by kernel_rfl, by kernel_rfl, by kernel_rfl, by kernel_rfl, by kernel_rfl, by kernel_rfl, by kernel_rfl, by kernel_rfl⟩
theorem fld_out (x : Int) (h : ¬ (0 ≤ x ∧ x < 12)) : ir_fields.f x = some 0 := by unfold ir_fields.f; rw [if_neg h]
theorem hb_out (x : Int) (h : ¬ (0 ≤ x ∧ x < 12)) : hasB x 1 = false ∧ hasB x 2 = false ∧ hasB x 4 = false ∧ hasB x 8 = false ∧ hasB x 16 = false ∧ hasB x 32 = false ∧ hasB x 64 = false ∧ hasB x 128 = false ∧ hasB x 256 = false ∧ hasB x 512 = false ∧ (fldB x != 0) = false := by
  unfold hasB fldB
  rw [fld_out x h]
  exact ⟨by kernel_rfl, by kernel_rfl, by kernel_rfl, by kernel_rfl, by kernel_rfl, by kernel_rfl, by kernel_rfl, by kernel_rfl, by kernel_rfl, by kernel_rfl, by kernel_rfl⟩
theorem op_split (x : Int) : x = 1 ∨ x = 2 ∨ x = 3 ∨ x = 4 ∨ x = 5 ∨ x = 6 ∨ x = 7 ∨ x = 8 ∨ x = 9 ∨ x = 10 ∨ x = 11 ∨ x = 0 ∨ ¬ (0 ≤ x ∧ x < 12) := by omega
theorem ins_1 (a1 a2 a3 a4 a5 a6 a7 v c : Int) (k k2 : Nat) : insR 1 a1 a2 a3 a4 a5 a6 a7 v c k k2 = insB 1 a1 a2 a3 a4 a5 a6 a7 v c k k2 := by
  obtain ⟨h0, h1, h2, h3, h4, h5, h6, h7, h8, h9, h10, h11, h12, h13⟩ := hb_1
  simp only [insR, insB, T34, T60, envR, envI, numB, ordB, withinB, h0, h1, h2, h3, h4, h5, h6, h7, h8, h9, h10, h11, h12, h13, Eval.Tr.bval, Eval.BE.den, Eval.CO.den, Eval.IE.den, List.getD_cons_zero, List.getD_cons_succ, Nat.reduceEqDiff, if_true, if_false, reduceIte]
  simp only [Int.reduceBEq, Int.reduceBNe, Int.reduceEq, Bool.false_eq_true, reduceIte, cond_true, cond_false, Bool.cond_self]
  rw [Bool.eq_iff_iff]
  simp only [cond_iff, Bool.and_eq_true, Bool.or_eq_true, decide_eq_true_eq, beq_iff_eq, bne_iff_ne, decide_eq_false_iff_not, Bool.false_eq_true, and_false, and_true, true_and, false_and, or_false, false_or]
  first | done | omega | (simp; omega)
theorem ins_2 (a1 a2 a3 a4 a5 a6 a7 v c : Int) (k k2 : Nat) : insR 2 a1 a2 a3 a4 a5 a6 a7 v c k k2 = insB 2 a1 a2 a3 a4 a5 a6 a7 v c k k2 := by
  obtain ⟨h0, h1, h2, h3, h4, h5, h6, h7, h8, h9, h10, h11, h12, h13⟩ := hb_2
  simp only [insR, insB, T34, T60, envR, envI, numB, ordB, withinB, h0, h1, h2, h3, h4, h5, h6, h7, h8, h9, h10, h11, h12, h13, Eval.Tr.bval, Eval.BE.den, Eval.CO.den, Eval.IE.den, List.getD_cons_zero, List.getD_cons_succ, Nat.reduceEqDiff, if_true, if_false, reduceIte]
  simp only [Int.reduceBEq, Int.reduceBNe, Int.reduceEq, Bool.false_eq_true, reduceIte, cond_true, cond_false, Bool.cond_self]
  rw [Bool.eq_iff_iff]
  simp only [cond_iff, Bool.and_eq_true, Bool.or_eq_true, decide_eq_true_eq, beq_iff_eq, bne_iff_ne, decide_eq_false_iff_not, Bool.false_eq_true, and_false, and_true, true_and, false_and, or_false, false_or]
  first | done | omega | (simp; omega)
theorem ins_3 (a1 a2 a3 a4 a5 a6 a7 v c : Int) (k k2 : Nat) : insR 3 a1 a2 a3 a4 a5 a6 a7 v c k k2 = insB 3 a1 a2 a3 a4 a5 a6 a7 v c k k2 := by
  obtain ⟨h0, h1, h2, h3, h4, h5, h6, h7, h8, h9, h10, h11, h12, h13⟩ := hb_3
  simp only [insR, insB, T34, T60, envR, envI, numB, ordB, withinB, h0, h1, h2, h3, h4, h5, h6, h7, h8, h9, h10, h11, h12, h13, Eval.Tr.bval, Eval.BE.den, Eval.CO.den, Eval.IE.den, List.getD_cons_zero, List.getD_cons_succ, Nat.reduceEqDiff, if_true, if_false, reduceIte]
  simp only [Int.reduceBEq, Int.reduceBNe, Int.reduceEq, Bool.false_eq_true, reduceIte, cond_true, cond_false, Bool.cond_self]
  rw [Bool.eq_iff_iff]
  simp only [cond_iff, Bool.and_eq_true, Bool.or_eq_true, decide_eq_true_eq, beq_iff_eq, bne_iff_ne, decide_eq_false_iff_not, Bool.false_eq_true, and_false, and_true, true_and, false_and, or_false, false_or]
  first | done | omega | (simp; omega)
theorem ins_4 (a1 a2 a3 a4 a5 a6 a7 v c : Int) (k k2 : Nat) : insR 4 a1 a2 a3 a4 a5 a6 a7 v c k k2 = insB 4 a1 a2 a3 a4 a5 a6 a7 v c k k2 := by
  obtain ⟨h0, h1, h2, h3, h4, h5, h6, h7, h8, h9, h10, h11, h12, h13⟩ := hb_4
  simp only [insR, insB, T34, T60, envR, envI, numB, ordB, withinB, h0, h1, h2, h3, h4, h5, h6, h7, h8, h9, h10, h11, h12, h13, Eval.Tr.bval, Eval.BE.den, Eval.CO.den, Eval.IE.den, List.getD_cons_zero, List.getD_cons_succ, Nat.reduceEqDiff, if_true, if_false, reduceIte]
  simp only [Int.reduceBEq, Int.reduceBNe, Int.reduceEq, Bool.false_eq_true, reduceIte, cond_true, cond_false, Bool.cond_self]
  rw [Bool.eq_iff_iff]
  simp only [cond_iff, Bool.and_eq_true, Bool.or_eq_true, decide_eq_true_eq, beq_iff_eq, bne_iff_ne, decide_eq_false_iff_not, Bool.false_eq_true, and_false, and_true, true_and, false_and, or_false, false_or]
  first | done | omega | (simp; omega)
theorem ins_5 (a1 a2 a3 a4 a5 a6 a7 v c : Int) (k k2 : Nat) : insR 5 a1 a2 a3 a4 a5 a6 a7 v c k k2 = insB 5 a1 a2 a3 a4 a5 a6 a7 v c k k2 := by
  obtain ⟨h0, h1, h2, h3, h4, h5, h6, h7, h8, h9, h10, h11, h12, h13⟩ := hb_5
  simp only [insR, insB, T34, T60, envR, envI, numB, ordB, withinB, h0, h1, h2, h3, h4, h5, h6, h7, h8, h9, h10, h11, h12, h13, Eval.Tr.bval, Eval.BE.den, Eval.CO.den, Eval.IE.den, List.getD_cons_zero, List.getD_cons_succ, Nat.reduceEqDiff, if_true, if_false, reduceIte]
  simp only [Int.reduceBEq, Int.reduceBNe, Int.reduceEq, Bool.false_eq_true, reduceIte, cond_true, cond_false, Bool.cond_self]
  rw [Bool.eq_iff_iff]
  simp only [cond_iff, Bool.and_eq_true, Bool.or_eq_true, decide_eq_true_eq, beq_iff_eq, bne_iff_ne, decide_eq_false_iff_not, Bool.false_eq_true, and_false, and_true, true_and, false_and, or_false, false_or]
  first | done | omega | (simp; omega)
theorem ins_6 (a1 a2 a3 a4 a5 a6 a7 v c : Int) (k k2 : Nat) : insR 6 a1 a2 a3 a4 a5 a6 a7 v c k k2 = insB 6 a1 a2 a3 a4 a5 a6 a7 v c k k2 := by
  obtain ⟨h0, h1, h2, h3, h4, h5, h6, h7, h8, h9, h10, h11, h12, h13⟩ := hb_6
  simp only [insR, insB, T34, T60, envR, envI, numB, ordB, withinB, h0, h1, h2, h3, h4, h5, h6, h7, h8, h9, h10, h11, h12, h13, Eval.Tr.bval, Eval.BE.den, Eval.CO.den, Eval.IE.den, List.getD_cons_zero, List.getD_cons_succ, Nat.reduceEqDiff, if_true, if_false, reduceIte]
  simp only [Int.reduceBEq, Int.reduceBNe, Int.reduceEq, Bool.false_eq_true, reduceIte, cond_true, cond_false, Bool.cond_self]
  rw [Bool.eq_iff_iff]
  simp only [cond_iff, Bool.and_eq_true, Bool.or_eq_true, decide_eq_true_eq, beq_iff_eq, bne_iff_ne, decide_eq_false_iff_not, Bool.false_eq_true, and_false, and_true, true_and, false_and, or_false, false_or]
  first | done | omega | (simp; omega)
theorem ins_7 (a1 a2 a3 a4 a5 a6 a7 v c : Int) (k k2 : Nat) : insR 7 a1 a2 a3 a4 a5 a6 a7 v c k k2 = insB 7 a1 a2 a3 a4 a5 a6 a7 v c k k2 := by
  obtain ⟨h0, h1, h2, h3, h4, h5, h6, h7, h8, h9, h10, h11, h12, h13⟩ := hb_7
  simp only [insR, insB, T34, T60, envR, envI, numB, ordB, withinB, h0, h1, h2, h3, h4, h5, h6, h7, h8, h9, h10, h11, h12, h13, Eval.Tr.bval, Eval.BE.den, Eval.CO.den, Eval.IE.den, List.getD_cons_zero, List.getD_cons_succ, Nat.reduceEqDiff, if_true, if_false, reduceIte]
  simp only [Int.reduceBEq, Int.reduceBNe, Int.reduceEq, Bool.false_eq_true, reduceIte, cond_true, cond_false, Bool.cond_self]
  rw [Bool.eq_iff_iff]
  simp only [cond_iff, Bool.and_eq_true, Bool.or_eq_true, decide_eq_true_eq, beq_iff_eq, bne_iff_ne, decide_eq_false_iff_not, Bool.false_eq_true, and_false, and_true, true_and, false_and, or_false, false_or]
  first | done | omega | (simp; omega)
theorem ins_8 (a1 a2 a3 a4 a5 a6 a7 v c : Int) (k k2 : Nat) : insR 8 a1 a2 a3 a4 a5 a6 a7 v c k k2 = insB 8 a1 a2 a3 a4 a5 a6 a7 v c k k2 := by
  obtain ⟨h0, h1, h2, h3, h4, h5, h6, h7, h8, h9, h10, h11, h12, h13⟩ := hb_8
  simp only [insR, insB, T34, T60, envR, envI, numB, ordB, withinB, h0, h1, h2, h3, h4, h5, h6, h7, h8, h9, h10, h11, h12, h13, Eval.Tr.bval, Eval.BE.den, Eval.CO.den, Eval.IE.den, List.getD_cons_zero, List.getD_cons_succ, Nat.reduceEqDiff, if_true, if_false, reduceIte]
  simp only [Int.reduceBEq, Int.reduceBNe, Int.reduceEq, Bool.false_eq_true, reduceIte, cond_true, cond_false, Bool.cond_self]
  rw [Bool.eq_iff_iff]
  simp only [cond_iff, Bool.and_eq_true, Bool.or_eq_true, decide_eq_true_eq, beq_iff_eq, bne_iff_ne, decide_eq_false_iff_not, Bool.false_eq_true, and_false, and_true, true_and, false_and, or_false, false_or]
  first | done | omega | (simp; omega)
theorem ins_9 (a1 a2 a3 a4 a5 a6 a7 v c : Int) (k k2 : Nat) : insR 9 a1 a2 a3 a4 a5 a6 a7 v c k k2 = insB 9 a1 a2 a3 a4 a5 a6 a7 v c k k2 := by
  obtain ⟨h0, h1, h2, h3, h4, h5, h6, h7, h8, h9, h10, h11, h12, h13⟩ := hb_9
  simp only [insR, insB, T34, T60, envR, envI, numB, ordB, withinB, h0, h1, h2, h3, h4, h5, h6, h7, h8, h9, h10, h11, h12, h13, Eval.Tr.bval, Eval.BE.den, Eval.CO.den, Eval.IE.den, List.getD_cons_zero, List.getD_cons_succ, Nat.reduceEqDiff, if_true, if_false, reduceIte]
  simp only [Int.reduceBEq, Int.reduceBNe, Int.reduceEq, Bool.false_eq_true, reduceIte, cond_true, cond_false, Bool.cond_self]
  rw [Bool.eq_iff_iff]
  simp only [cond_iff, Bool.and_eq_true, Bool.or_eq_true, decide_eq_true_eq, beq_iff_eq, bne_iff_ne, decide_eq_false_iff_not, Bool.false_eq_true, and_false, and_true, true_and, false_and, or_false, false_or]
  first | done | omega | (simp; omega)
theorem ins_10 (a1 a2 a3 a4 a5 a6 a7 v c : Int) (k k2 : Nat) : insR 10 a1 a2 a3 a4 a5 a6 a7 v c k k2 = insB 10 a1 a2 a3 a4 a5 a6 a7 v c k k2 := by
  obtain ⟨h0, h1, h2, h3, h4, h5, h6, h7, h8, h9, h10, h11, h12, h13⟩ := hb_10
  simp only [insR, insB, T34, T60, envR, envI, numB, ordB, withinB, h0, h1, h2, h3, h4, h5, h6, h7, h8, h9, h10, h11, h12, h13, Eval.Tr.bval, Eval.BE.den, Eval.CO.den, Eval.IE.den, List.getD_cons_zero, List.getD_cons_succ, Nat.reduceEqDiff, if_true, if_false, reduceIte]
  simp only [Int.reduceBEq, Int.reduceBNe, Int.reduceEq, Bool.false_eq_true, reduceIte, cond_true, cond_false, Bool.cond_self]
  rw [Bool.eq_iff_iff]
  simp only [cond_iff, Bool.and_eq_true, Bool.or_eq_true, decide_eq_true_eq, beq_iff_eq, bne_iff_ne, decide_eq_false_iff_not, Bool.false_eq_true, and_false, and_true, true_and, false_and, or_false, false_or]
  first | done | omega | (simp; omega)
theorem ins_11 (a1 a2 a3 a4 a5 a6 a7 v c : Int) (k k2 : Nat) : insR 11 a1 a2 a3 a4 a5 a6 a7 v c k k2 = insB 11 a1 a2 a3 a4 a5 a6 a7 v c k k2 := by
  obtain ⟨h0, h1, h2, h3, h4, h5, h6, h7, h8, h9, h10, h11, h12, h13⟩ := hb_11
  simp only [insR, insB, T34, T60, envR, envI, numB, ordB, withinB, h0, h1, h2, h3, h4, h5, h6, h7, h8, h9, h10, h11, h12, h13, Eval.Tr.bval, Eval.BE.den, Eval.CO.den, Eval.IE.den, List.getD_cons_zero, List.getD_cons_succ, Nat.reduceEqDiff, if_true, if_false, reduceIte]
  simp only [Int.reduceBEq, Int.reduceBNe, Int.reduceEq, Bool.false_eq_true, reduceIte, cond_true, cond_false, Bool.cond_self]
  rw [Bool.eq_iff_iff]
  simp only [cond_iff, Bool.and_eq_true, Bool.or_eq_true, decide_eq_true_eq, beq_iff_eq, bne_iff_ne, decide_eq_false_iff_not, Bool.false_eq_true, and_false, and_true, true_and, false_and, or_false, false_or]
  first | done | omega | (simp; omega)
theorem ins_same (i : S38) (v c : Int) (k k2 : Nat) : refI i v c k k2 = insOf i v c k k2 := by
  obtain ⟨a0, a1, a2, a3, a4, a5, a6, a7⟩ := i
  show insR a0 a1 a2 a3 a4 a5 a6 a7 v c k k2 = insB a0 a1 a2 a3 a4 a5 a6 a7 v c k k2
  have hout : ∀ x : Int, (x = 0 ∨ ¬ (0 ≤ x ∧ x < 12)) → insR x a1 a2 a3 a4 a5 a6 a7 v c k k2 = insB x a1 a2 a3 a4 a5 a6 a7 v c k k2 := by
    intro x hx
    have h10 : (fldB x != 0) = false := by
      rcases hx with rfl | hx
      · exact hb_0.2.2.2.2.2.2.2.2.2.2.1
      · exact (hb_out x hx).2.2.2.2.2.2.2.2.2.2
    have e : ∀ n : Int, 1 ≤ n → n ≤ 11 → (x == n) = false := by
      intro n h1 h2
      rw [beq_eq_false_iff_ne]
      omega
    simp only [insR, insB, T34, T60, envR, envI, Eval.Tr.bval, Eval.BE.den, Eval.CO.den, Eval.IE.den, List.getD_cons_zero, List.getD_cons_succ, h10, e 1 (by decide) (by decide), e 2 (by decide) (by decide), e 3 (by decide) (by decide), e 4 (by decide) (by decide), e 5 (by decide) (by decide), e 6 (by decide) (by decide), e 7 (by decide) (by decide), e 8 (by decide) (by decide), e 9 (by decide) (by decide), e 10 (by decide) (by decide), e 11 (by decide) (by decide), cond_false, Bool.cond_self]
  rcases op_split a0 with rfl | rfl | rfl | rfl | rfl | rfl | rfl | rfl | rfl | rfl | rfl | h | h
  · exact ins_1 ..
  · exact ins_2 ..
  · exact ins_3 ..
  · exact ins_4 ..
  · exact ins_5 ..
  · exact ins_6 ..
  · exact ins_7 ..
  · exact ins_8 ..
  · exact ins_9 ..
  · exact ins_10 ..
  · exact ins_11 ..
  · exact hout a0 (.inl h)
  · exact hout a0 (.inr h)
theorem end_same (e : S34) (v : Int) (k : List Int) (k2 : List S36) : endR e v (k2.length : Int) = endOf e v k k2 := by
  obtain ⟨e0, e1, e2, e3⟩ := e
  unfold endR endR4 endOf ir_ends.f
  simp only [within_some, Option.bind_some]
  by_cases h1 : e0 = 1
  · subst h1
    simp only [reduceIte, Int.reduceBEq, cond_true]
    by_cases h2 : withinB true e2 (k2.length : Int) = true
    · rw [if_pos h2]
      simp only [withinB, cond_true, Bool.cond_false_right, Bool.and_eq_true, decide_eq_true_eq] at h2
      by_cases h3 : e1 = 0
      · rw [if_pos h3, Bool.eq_iff_iff]; simp [h3]; omega
      · rw [if_neg h3, Bool.eq_iff_iff]; simp [h3]
    · rw [if_neg h2, Bool.eq_iff_iff]
      simp only [withinB, cond_true, Bool.cond_false_right, Bool.and_eq_true, decide_eq_true_eq] at h2
      simp; omega
  by_cases h2 : e0 = 2
  · subst h2
    rw [if_neg (by decide)]
    simp only [reduceIte, Int.reduceBEq, cond_true, cond_false]
    by_cases h2 : withinB true e2 (k2.length : Int) = true
    · rw [if_pos h2]
      simp only [withinB, cond_true, Bool.cond_false_right, Bool.and_eq_true, decide_eq_true_eq] at h2
      by_cases h3 : withinB true e3 (k2.length : Int) = true
      · rw [if_pos h3, Bool.eq_iff_iff]
        simp only [withinB, cond_true, Bool.cond_false_right, Bool.and_eq_true, decide_eq_true_eq] at h3
        simp [withinB]; omega
      · rw [if_neg h3, Bool.eq_iff_iff]
        simp only [withinB, cond_true, Bool.cond_false_right, Bool.and_eq_true, decide_eq_true_eq] at h3
        simp; omega
    · rw [if_neg h2, Bool.eq_iff_iff]
      simp only [withinB, cond_true, Bool.cond_false_right, Bool.and_eq_true, decide_eq_true_eq] at h2
      simp; omega
  rw [if_neg h1, if_neg h2, beq_eq_false_iff_ne.2 h1, beq_eq_false_iff_ne.2 h2]
  simp only [cond_false]
  by_cases h3 : e0 = 3
  · subst h3
    rw [if_pos rfl, Bool.eq_iff_iff]; simp
  · rw [if_neg h3, beq_eq_false_iff_ne.2 h3]; rfl
/-- The two notes of which ids have come: they tell the same. -/
def Agree (ids : List Int) (g : Int → Option Int) : Prop := ∀ x, 0 < x → (ids.contains x = decide (0 < (g x).getD 0))
theorem go_ins (v c : Int) (k k2 : Nat) : ∀ (l : List S38) (ids : List Int) (g : Int → Option Int), Agree ids g →
    (goRI v c k k2 ids l = none ∧ goI v c k k2 g l = none) ∨ ∃ ids' g', goRI v c k k2 ids l = some ids' ∧ goI v c k k2 g l = some g' ∧ Agree ids' g'
  | [], ids, g, h => .inr ⟨ids, g, rfl, rfl, h⟩
  | i :: r, ids, g, h => by
    rw [goRI, goI, ins_same]
    cases insOf i v c k k2 with
    | false => exact .inl ⟨rfl, rfl⟩
    | true =>
      simp only [cond_true]
      by_cases h0 : 0 < i.f7
      · rw [decide_eq_true h0, ← h i.f7 h0]
        simp only [cond_true]
        cases ids.contains i.f7 with
        | true => exact .inl ⟨rfl, rfl⟩
        | false =>
          refine go_ins v c k k2 r _ _ fun x hx => ?_
          by_cases e : x = i.f7
          · subst e; simp
          · have := h x hx
            simp only [if_neg e, ← this]
            simp [e]
      · rw [decide_eq_false h0]
        simp only [cond_false]
        refine go_ins v c k k2 r _ _ fun x hx => ?_
        have e : x ≠ i.f7 := by omega
        simp only [if_neg e]
        exact h x hx
theorem go_blocks (v c : Int) (k : List Int) (k2 : List S36) : ∀ (l : List S36) (ids : List Int) (g : Int → Option Int), Agree ids g → goRB v c k.length k2.length ids l = goB v c k k2 g l
  | [], ids, g, h => rfl
  | b :: r, ids, g, h => by
    rw [goRB, goB]
    rcases go_ins v c k.length k2.length b.f0 ids g h with ⟨h1, h2⟩ | ⟨ids', g', h1, h2, h3⟩
    · rw [h1, h2]
    · rw [h1, h2]
      simp only [end_same b.f1 v k k2, go_blocks v c k k2 r ids' g' h3]
theorem right_same (v : Int) (k : List Int) (l : List S36) (c : Int) : refRB v k l c = rightB v k l c := by
  unfold refRB rightB
  rw [go_blocks v c k l l [] (fun _ => none) (fun x _ => by simp)]
  rfl

theorem sum_len {α : Type} {f : α → Nat} (hf : ∀ x, 1 ≤ f x) (l : List α) : l.length ≤ (l.map f).sum := by
  induction l with
  | nil => simp
  | cons x r ih => have := hf x; simp only [List.length_cons, List.map_cons, List.sum_cons]; omega
theorem sum_mem {α : Type} {f : α → Nat} {l : List α} {x : α} (h : x ∈ l) : f x ≤ (l.map f).sum := by
  induction l with
  | nil => cases h
  | cons y r ih =>
    simp only [List.map_cons, List.sum_cons]
    rcases List.mem_cons.1 h with rfl | h
    · omega
    · have := ih h; omega
/-- A thread of whole numbers of Go, and not too long. -/
structure Fine (v : Int) (k : List Int) (l : List S36) : Prop where
  fv : (Lit.int .i64 v).wf = true
  fk : k.length ≤ 1048576
  fkw : ∀ x ∈ k, (Lit.int .i64 x).wf = true
  fl : l.length ≤ 1048576
  fb : ∀ b ∈ l, b.f0.length ≤ 1048576
  fi : ∀ b ∈ l, ∀ i ∈ b.f0, ok_S38 i
  fe : ∀ b ∈ l, ok_S34 b.f1
theorem fine_of {v : Int} {k : List Int} {l : List S36} (h : ok_S25 ⟨v, k, l⟩) (hw : wt_S25 ⟨v, k, l⟩ ≤ 1048576) : Fine v k l := by
  obtain ⟨h1, h2, h3⟩ := h
  simp only [wt_S25, OpenB.wtSl] at hw
  have a1 := sum_len (f := fun _ : Int => 1) (fun _ => Nat.le_refl _) k
  have a2 := sum_len (f := wt_S36) (fun x => by simp only [wt_S36, OpenB.wtSl]; omega) l
  refine ⟨h1, by omega, h2.2, by omega, fun b hb => ?_, fun b hb => (h3.2 b hb).1.2, fun b hb => (h3.2 b hb).2⟩
  have a3 := sum_mem (f := wt_S36) hb
  have a4 := sum_len (f := wt_S38) (fun x => by simp only [wt_S38]; omega) b.f0
  simp only [wt_S36, OpenB.wtSl] at a3
  omega
theorem Fine.ids {v : Int} {k : List Int} {l : List S36} (h : Fine v k l) : okIds l :=
  ⟨by have := h.fl; omega, fun b hb => ⟨by have := h.fb b hb; omega, fun i hi => (h.fi b hb i hi).2.2.2.2.2.2.2⟩⟩
theorem Fine.len {v : Int} {k : List Int} {l : List S36} (h : Fine v k l) : okLen k l := ⟨by have := h.fk; omega, h.fb⟩
theorem right_f {v : Int} {k : List Int} {l : List S36} (h : Fine v k l) (c : Int) : spinnakerref26_Right.f v k l c = some (refRB v k l c) := by
  rw [spinnakerref26_Right.f, if_pos h.len]

/-- Reached from some of a list, over the edges that nx tells, but not over one. -/
inductive ReachA (nx : Nat → List Int) (fr : List Int) (but : Int) : Nat → Prop
  | start (b : Nat) : (b : Int) ∈ fr → (b : Int) ≠ but → ReachA nx fr but b
  | step (a b : Nat) : ReachA nx fr but a → (b : Int) ∈ nx a → (b : Int) ≠ but → ReachA nx fr but b
/-- How many have not been met. -/
def unmet : List Bool → Nat
  | [] => 0
  | b :: r => (if b = true then 0 else 1) + unmet r
theorem unmet_le (l : List Bool) : unmet l ≤ l.length := by
  induction l with
  | nil => simp [unmet]
  | cons b r ih => simp only [unmet, List.length_cons]; split <;> omega
theorem unmet_set (l : List Bool) : ∀ i, i < l.length → l.getD i false = false → unmet (l.set i true) + 1 = unmet l := by
  induction l with
  | nil => intro i h; simp at h
  | cons b r ih =>
    intro i h hb
    cases i with
    | zero =>
      simp at hb
      subst hb
      simp [unmet, Nat.add_comm]
    | succ i =>
      simp only [List.length_cons] at h
      have := ih i (by omega) (by simpa using hb)
      simp only [List.set_cons_succ, unmet]
      omega
theorem getD_set (l : List Bool) (i j : Nat) (hi : i < l.length) : (l.set i true).getD j false = if j = i then true else l.getD j false := by
  by_cases h : j = i
  · subst h
    simp [hi]
  · rw [if_neg h]
    simp [List.getD_eq_getElem?_getD, List.getElem?_set_ne (Ne.symm h)]
theorem int_nat {x : Int} {N : Nat} (h0 : 0 ≤ x) (h1 : x < (N : Int)) : ∃ n : Nat, x = (n : Int) ∧ n < N ∧ x.toNat = n := ⟨x.toNat, by omega, by omega, rfl⟩
theorem getD_lt {l : List Bool} {i : Nat} (h : l.getD i false = true) : i < l.length := by
  rcases Nat.lt_or_ge i l.length with h1 | h1
  · exact h1
  · simp [List.getD_eq_getElem?_getD, List.getElem?_eq_none h1] at h
theorem walk_done {nx : Nat → List Int} {N : Nat} {fr : List Int} {but : Int} {met : List Bool} (hl : met.length = N) (hc : ∀ b, b < N → met.getD b false = true → ∀ x ∈ nx b, x ≠ but → met.getD x.toNat false = true) (hf : ∀ x ∈ fr, x ≠ but → met.getD x.toNat false = true) :
    ∀ b, ReachA nx fr but b → b < N ∧ met.getD b false = true := by
  intro b h
  induction h with
  | start b h1 h2 =>
    have h3 := hf _ h1 h2
    rw [Int.toNat_natCast] at h3
    exact ⟨by have := getD_lt h3; omega, h3⟩
  | step a b _ h1 h2 ih =>
    have h3 := hc a ih.1 ih.2 _ h1 h2
    rw [Int.toNat_natCast] at h3
    exact ⟨by have := getD_lt h3; omega, h3⟩
theorem walkL_spec (F : Int → Option (List Int)) (nx : Nat → List Int) (N D : Nat) (fr : List Int) (but : Int) (hF : ∀ b, b < N → F (b : Int) = some (nx b)) (hnx : ∀ b, b < N → ∀ x ∈ nx b, 0 ≤ x ∧ x < (N : Int)) (hD : ∀ b, b < N → (nx b).length ≤ D) (hDN : fr.length + D * N ≤ 4294967296) :
    ∀ M met todo, todo.length + (D + 1) * unmet met ≤ M → met.length = N → (∀ b, b < N → met.getD b false = true → ReachA nx fr but b) → (∀ x ∈ todo, 0 ≤ x ∧ x < (N : Int) ∧ (x ≠ but → ReachA nx fr but x.toNat)) →
      (∀ b, b < N → met.getD b false = true → ∀ x ∈ nx b, x ≠ but → met.getD x.toNat false = true ∨ x ∈ todo) → (∀ x ∈ fr, x ≠ but → met.getD x.toNat false = true ∨ x ∈ todo) → todo.length + D * unmet met ≤ fr.length + D * N →
      ∃ m, walkL F but (M + 1) met todo = some m ∧ m.length = N ∧ ∀ b, b < N → (m.getD b false = true ↔ ReachA nx fr but b) := by
  intro M
  induction M with
  | zero =>
    intro met todo hM hl hs ht hc hf hb
    have h0 : todo.length = 0 := by omega
    obtain rfl := List.length_eq_zero_iff.1 h0
    exact ⟨met, by simp [walkL], hl, fun b hbN => ⟨hs b hbN, fun h => (walk_done hl (fun b h1 h2 x hx hn => (hc b h1 h2 x hx hn).elim id (by simp)) (fun x hx hn => (hf x hx hn).elim id (by simp)) b h).2⟩⟩
  | succ M ih =>
    intro met todo hM hl hs ht hc hf hb
    by_cases h0 : todo.length = 0
    · obtain rfl := List.length_eq_zero_iff.1 h0
      exact ⟨met, by simp [walkL], hl, fun b hbN => ⟨hs b hbN, fun h => (walk_done hl (fun b h1 h2 x hx hn => (hc b h1 h2 x hx hn).elim id (by simp)) (fun x hx hn => (hf x hx hn).elim id (by simp)) b h).2⟩⟩
    obtain ⟨init, last, rfl⟩ : ∃ init last, todo = init ++ [last] := ⟨todo.dropLast, todo.getLast (by intro h; exact h0 (by simp [h])), (List.dropLast_concat_getLast _).symm⟩
    have hlen : (init ++ [last]).length = init.length + 1 := by simp
    have e1 : (init ++ [last]).getD ((init ++ [last]).length - 1) 0 = last := by rw [hlen]; simp [List.getD_eq_getElem?_getD]
    have e2 : (init ++ [last]).take ((init ++ [last]).length - 1) = init := by rw [hlen]; simp
    obtain ⟨hl0, hl1, hlr⟩ := ht last (by simp)
    rw [walkL, if_neg h0, e1, e2, if_pos ⟨hl0, by omega⟩]
    obtain ⟨n, rfl, hnN, hnt⟩ := int_nat hl0 hl1
    rw [hnt] at hlr ⊢
    by_cases hm : met.getD n false = true ∨ (n : Int) = but
    · rw [if_pos hm]
      refine ih met init (by rw [hlen] at hM; omega) hl hs (fun x hx => ht x (by simp [hx])) (fun b h1 h2 x hx hn => ?_) (fun x hx hn => ?_) (by rw [hlen] at hb; omega)
      · rcases hc b h1 h2 x hx hn with h | h
        · exact .inl h
        · rcases List.mem_append.1 h with h | h
          · exact .inr h
          · obtain rfl := List.mem_singleton.1 h
            exact .inl (hm.elim (by rw [Int.toNat_natCast]; exact id) (fun e => absurd e hn))
      · rcases hf x hx hn with h | h
        · exact .inl h
        · rcases List.mem_append.1 h with h | h
          · exact .inr h
          · obtain rfl := List.mem_singleton.1 h
            exact .inl (hm.elim (by rw [Int.toNat_natCast]; exact id) (fun e => absurd e hn))
    · have hm1 : met.getD n false = false := by
        cases h : met.getD n false
        · rfl
        · exact absurd (.inl h) hm
      have hnb : (n : Int) ≠ but := fun e => hm (.inr e)
      have hu := unmet_set met n (by omega) hm1
      have hd := hD n hnN
      rw [if_neg hm, hF n hnN]
      simp only [Option.bind_some]
      have hmul : D * unmet met = D * unmet (met.set n true) + D := by rw [← hu, Nat.mul_add, Nat.mul_one]
      have hmul2 : (D + 1) * unmet met = (D + 1) * unmet (met.set n true) + (D + 1) := by rw [← hu, Nat.mul_add, Nat.mul_one]
      rw [if_pos (by rw [hlen] at hb ⊢; omega)]
      have hgs := getD_set met n
      have hr := hlr hnb
      refine ih (met.set n true) (init ++ nx n) (by rw [List.length_append]; rw [hlen] at hM; omega) (by rw [List.length_set]; exact hl) (fun b h1 h2 => ?_) (fun x hx => ?_) (fun b h1 h2 x hx hn => ?_) (fun x hx hn => ?_) (by rw [List.length_append]; rw [hlen] at hb; omega)
      · rw [hgs b (by omega)] at h2
        split at h2
        · rename_i e; subst e; exact hr
        · exact hs b h1 h2
      · rcases List.mem_append.1 hx with hx | hx
        · exact ht x (by simp [hx])
        · obtain ⟨h1, h2⟩ := hnx n hnN x hx
          refine ⟨h1, h2, fun hn => ?_⟩
          obtain ⟨y, rfl, _, _⟩ := int_nat h1 h2
          rw [Int.toNat_natCast]
          exact .step n y hr hx hn
      · by_cases hbn : b = n
        · subst hbn
          exact .inr (List.mem_append.2 (.inr hx))
        · rw [hgs b (by omega), if_neg hbn] at h2
          rcases hc b h1 h2 x hx hn with h | h
          · exact .inl (by rw [hgs _ (by omega)]; split <;> first | rfl | exact h)
          · rcases List.mem_append.1 h with h | h
            · exact .inr (List.mem_append.2 (.inl h))
            · obtain rfl := List.mem_singleton.1 h
              exact .inl (by rw [hgs _ (by omega), Int.toNat_natCast, if_pos rfl])
      · rcases hf x hx hn with h | h
        · exact .inl (by rw [hgs _ (by omega)]; split <;> first | rfl | exact h)
        · rcases List.mem_append.1 h with h | h
          · exact .inr (List.mem_append.2 (.inl h))
          · obtain rfl := List.mem_singleton.1 h
            exact .inl (by rw [hgs _ (by omega), Int.toNat_natCast, if_pos rfl])
/-- What walk meets: what is reached. -/
theorem walk_ev (F : Int → Option (List Int)) (nx : Nat → List Int) (N D : Nat) (fr : List Int) (but : Int) (hF : ∀ b, b < N → F (b : Int) = some (nx b)) (hnx : ∀ b, b < N → ∀ x ∈ nx b, 0 ≤ x ∧ x < (N : Int)) (hD : ∀ b, b < N → (nx b).length ≤ D) (hfr : ∀ x ∈ fr, 0 ≤ x ∧ x < (N : Int)) (hDN : fr.length + D * N ≤ 4294967296) (hN : N ≤ 4294967296) :
    ∃ m, Ev (fun k => walkF F k (N : Int) fr but) m ∧ m.length = N ∧ ∀ b, b < N → (m.getD b false = true ↔ ReachA nx fr but b) := by
  have hrep : ∀ b, (List.replicate N false).getD b false = false := fun b => by
    rw [List.getD_eq_getElem?_getD]
    cases h : (List.replicate N false)[b]? with
    | none => rfl
    | some v => exact (List.mem_replicate.1 (List.mem_of_getElem? h)).2
  have hun : unmet (List.replicate N false) = N := by
    have : ∀ n, unmet (List.replicate n false) = n := by
      intro n
      induction n with
      | zero => rfl
      | succ n ih => rw [List.replicate_succ, unmet, ih]; simp [Nat.add_comm]
    exact this N
  obtain ⟨m, hm, hl, hs⟩ := walkL_spec F nx N D fr but hF hnx hD hDN (fr.length + (D + 1) * N) (List.replicate N false) fr (by rw [hun]; exact Nat.le_refl _) (by simp) (fun b _ h => by rw [hrep] at h; cases h)
    (fun x hx => by
      obtain ⟨h0, h1⟩ := hfr x hx
      refine ⟨h0, h1, fun hn => ?_⟩
      obtain ⟨y, rfl, _, _⟩ := int_nat h0 h1
      rw [Int.toNat_natCast]
      exact .start y hx hn)
    (fun b _ h => by rw [hrep] at h; cases h) (fun x hx _ => .inr hx) (by rw [hun]; exact Nat.le_refl _)
  refine ⟨m, Ev.of (fun k => walkF_mono F k _ _ _) (k := fr.length + (D + 1) * N + 1) ?_, hl, hs⟩
  show walkF F _ _ _ _ = _
  rw [walkF, if_pos ⟨by omega, by omega, by omega⟩, Int.toNat_natCast]
  exact hm

/-- A way of one step or more. -/
inductive Path1 (R : Nat → Nat → Prop) : Nat → Nat → Prop
  | one (a b : Nat) : R a b → Path1 R a b
  | more (a b c : Nat) : Path1 R a b → R b c → Path1 R a c
theorem Path1.trans {R : Nat → Nat → Prop} {a b c : Nat} (h : Path1 R a b) (k : Path1 R b c) : Path1 R a c := by
  induction k with
  | one c h1 => exact .more a b c h h1
  | more c d _ h1 ih => exact .more a c d ih h1
def at2 (At : List (List Bool)) (a b : Nat) : Bool := (At.getD a []).getD b false
theorem atB_nat (At : List (List Bool)) (a b : Nat) : atB At (a : Int) (b : Int) = at2 At a b := by simp [atB, at2]
structure Shape (N : Nat) (At : List (List Bool)) : Prop where
  len : At.length = N
  row : ∀ a, a < N → (At.getD a []).length = N
theorem shape_new (N : Nat) : Shape N (List.replicate N (List.replicate N false)) := ⟨by simp, fun a ha => by simp [List.getD_eq_getElem?_getD, List.getElem?_replicate, ha]⟩
theorem at2_new (N a b : Nat) : at2 (List.replicate N (List.replicate N false)) a b = false := by
  unfold at2
  by_cases ha : a < N
  · by_cases hb : b < N <;> simp [List.getD_eq_getElem?_getD, List.getElem?_replicate, ha, hb]
  · simp [List.getD_eq_getElem?_getD, List.getElem?_replicate, ha]
theorem set_row {N : Nat} {out : List (List Bool)} (h : Shape N out) {a : Nat} (b : Nat) (ha : a < N) (c : Nat) : (setB out (a : Int) (b : Int)).getD c [] = if c = a then (out.getD a []).set b true else out.getD c [] := by
  unfold setB
  rw [Int.toNat_natCast, Int.toNat_natCast]
  by_cases e : c = a
  · subst e
    simp [List.getD_eq_getElem?_getD, h.len, ha]
  · rw [if_neg e]
    simp [List.getD_eq_getElem?_getD, List.getElem?_set_ne (Ne.symm e)]
theorem shape_set {N : Nat} {out : List (List Bool)} (h : Shape N out) {a : Nat} (b : Nat) (ha : a < N) : Shape N (setB out (a : Int) (b : Int)) :=
  ⟨by unfold setB; rw [List.length_set]; exact h.len, fun c hc => by
    rw [set_row h b ha c]
    split
    · rw [List.length_set]; exact h.row a ha
    · exact h.row c hc⟩
theorem at2_set {N : Nat} {out : List (List Bool)} (h : Shape N out) {a b : Nat} (ha : a < N) (hb : b < N) (c d : Nat) : at2 (setB out (a : Int) (b : Int)) c d = if c = a ∧ d = b then true else at2 out c d := by
  unfold at2
  rw [set_row h b ha c]
  by_cases e : c = a
  · subst e
    rw [if_pos rfl, getD_set _ b d (by rw [h.row c ha]; exact hb)]
    by_cases e2 : d = b
    · rw [if_pos e2, if_pos ⟨rfl, e2⟩]
    · rw [if_neg e2, if_neg (fun k => e2 k.2)]
  · rw [if_neg e, if_neg (fun k => e k.1)]
def unm (out : List (List Bool)) (a : Nat) : Nat := unmet (out.getD a [])
theorem rowL_spec (At : List (List Bool)) {N a : Nat} (ha : a < N) (x : Nat) : ∀ d b out todo, b + d = N → Shape N out →
    Shape N (rowL At (a : Int) (x : Int) d b out todo).1 ∧
    (∀ c y, at2 (rowL At (a : Int) (x : Int) d b out todo).1 c y = true ↔ at2 out c y = true ∨ (c = a ∧ b ≤ y ∧ y < N ∧ at2 At x y = true)) ∧
    (∀ z, z ∈ (rowL At (a : Int) (x : Int) d b out todo).2 ↔ z ∈ todo ∨ ∃ y : Nat, z = (y : Int) ∧ b ≤ y ∧ y < N ∧ at2 At x y = true ∧ at2 out a y = false) ∧
    (rowL At (a : Int) (x : Int) d b out todo).2.length + unm (rowL At (a : Int) (x : Int) d b out todo).1 a = todo.length + unm out a := by
  intro d
  induction d with
  | zero =>
    intro b out todo hb hs
    refine ⟨hs, fun c y => ⟨.inl, fun h => h.elim id (fun h => by omega)⟩, fun z => ⟨.inl, fun h => h.elim id (fun ⟨y, h⟩ => by omega)⟩, rfl⟩
  | succ d ih =>
    intro b out todo hb hs
    rw [rowL, atB_nat, atB_nat]
    have hbN : b < N := by omega
    cases h1 : at2 At x b with
    | false =>
      obtain ⟨i1, i2, i3, i4⟩ := ih (b + 1) out todo (by omega) hs
      rw [if_neg (by simp)]
      refine ⟨i1, fun c y => (i2 c y).trans ⟨fun h => h.imp id (fun ⟨q, h⟩ => ⟨q, by omega, h.2⟩), fun h => h.imp id (fun ⟨q, h2, h3, h4⟩ => ⟨q, ?_, h3, h4⟩)⟩, fun z => (i3 z).trans ⟨fun h => h.imp id (fun ⟨y, q, h⟩ => ⟨y, q, by omega, h.2⟩), fun h => h.imp id (fun ⟨y, q, h2, h3, h4, h5⟩ => ⟨y, q, ?_, h3, h4, h5⟩)⟩, i4⟩
      · rcases Nat.lt_or_ge b y with h | h
        · exact h
        · obtain rfl : y = b := by omega
          rw [h1] at h4; cases h4
      · rcases Nat.lt_or_ge b y with h | h
        · exact h
        · obtain rfl : y = b := by omega
          rw [h1] at h4; cases h4
    | true =>
      cases h2 : at2 out a b with
      | true =>
        obtain ⟨i1, i2, i3, i4⟩ := ih (b + 1) out todo (by omega) hs
        rw [if_neg (by simp)]
        refine ⟨i1, fun c y => (i2 c y).trans ⟨fun h => h.imp id (fun ⟨q, h⟩ => ⟨q, by omega, h.2⟩), fun h => ?_⟩, fun z => (i3 z).trans ⟨fun h => h.imp id (fun ⟨y, q, h⟩ => ⟨y, q, by omega, h.2⟩), fun h => h.imp id (fun ⟨y, q, h2', h3, h4, h5⟩ => ⟨y, q, ?_, h3, h4, h5⟩)⟩, i4⟩
        · rcases h with h | ⟨rfl, h3, h4, h5⟩
          · exact .inl h
          · rcases Nat.lt_or_ge b y with h | h
            · exact .inr ⟨rfl, h, h4, h5⟩
            · obtain rfl : y = b := by omega
              exact .inl h2
        · rcases Nat.lt_or_ge b y with h | h
          · exact h
          · obtain rfl : y = b := by omega
            rw [h2] at h5; cases h5
      | false =>
        obtain ⟨i1, i2, i3, i4⟩ := ih (b + 1) (setB out (a : Int) (b : Int)) (todo ++ [(b : Int)]) (by omega) (shape_set hs b ha)
        have hat := at2_set hs ha hbN
        rw [if_pos (by simp)]
        refine ⟨i1, fun c y => (i2 c y).trans ⟨fun h => ?_, fun h => ?_⟩, fun z => (i3 z).trans ⟨fun h => ?_, fun h => ?_⟩, ?_⟩
        · rcases h with h | ⟨q, h⟩
          · rw [hat] at h
            split at h
            · rename_i e; obtain ⟨rfl, rfl⟩ := e; exact .inr ⟨rfl, Nat.le_refl _, hbN, h1⟩
            · exact .inl h
          · exact .inr ⟨q, by omega, h.2⟩
        · rcases h with h | ⟨rfl, h3, h4, h5⟩
          · exact .inl (by rw [hat]; split <;> first | rfl | exact h)
          · rcases Nat.lt_or_ge b y with h | h
            · exact .inr ⟨rfl, h, h4, h5⟩
            · obtain rfl : y = b := by omega
              exact .inl (by rw [hat, if_pos ⟨rfl, rfl⟩])
        · rcases h with h | ⟨y, rfl, h3, h4, h5, h6⟩
          · rcases List.mem_append.1 h with h | h
            · exact .inl h
            · exact .inr ⟨b, List.mem_singleton.1 h, Nat.le_refl _, hbN, h1, h2⟩
          · rw [hat] at h6
            split at h6
            · cases h6
            · exact .inr ⟨y, rfl, by omega, h4, h5, h6⟩
        · rcases h with h | ⟨y, rfl, h3, h4, h5, h6⟩
          · exact .inl (List.mem_append.2 (.inl h))
          · rcases Nat.lt_or_ge b y with h | h
            · exact .inr ⟨y, rfl, h, h4, h5, by rw [hat, if_neg (by omega)]; exact h6⟩
            · obtain rfl : y = b := by omega
              exact .inl (List.mem_append.2 (.inr (List.mem_singleton.2 rfl)))
        · rw [i4, List.length_append]
          have := unmet_set (out.getD a []) b (by rw [hs.row a ha]; exact hbN) h2
          unfold unm
          rw [set_row hs b ha a, if_pos rfl]
          simp only [List.length_singleton]
          omega
theorem workL_spec (At : List (List Bool)) {N a : Nat} (ha : a < N) (hN : N ≤ 1000) (out0 : List (List Bool)) : ∀ M out todo, todo.length + unm out a ≤ M → M ≤ N + 1 → Shape N out → (∀ c y, c ≠ a → at2 out c y = at2 out0 c y) →
    (∀ y, at2 out a y = true → y < N ∧ Path1 (fun p q => q < N ∧ at2 At p q = true) a y) → (∀ z ∈ todo, ∃ y : Nat, z = (y : Int) ∧ y < N ∧ (y = a ∨ at2 out a y = true)) →
    (∀ y, (y = a ∨ at2 out a y = true) → (y : Int) ∈ todo ∨ ∀ z, z < N → at2 At y z = true → at2 out a z = true) →
    ∃ r, workL At N (a : Int) (M + 1) out todo = some r ∧ Shape N r ∧ (∀ c y, c ≠ a → at2 r c y = at2 out0 c y) ∧ ∀ y, at2 r a y = true ↔ Path1 (fun p q => q < N ∧ at2 At p q = true) a y := by
  intro M
  induction M with
  | zero =>
    intro out todo hM _ hs ho hp _ hc
    obtain rfl := List.length_eq_zero_iff.1 (show todo.length = 0 by omega)
    refine ⟨out, by simp [workL], hs, ho, fun y => ⟨fun h => (hp y h).2, fun h => ?_⟩⟩
    induction h with
    | one z h => exact ((hc a (.inl rfl)).elim (by simp) id) z h.1 h.2
    | more y z _ h ih => exact ((hc y (.inr ih)).elim (by simp) id) z h.1 h.2
  | succ M ih =>
    intro out todo hM hMN hs ho hp ht hc
    cases todo with
    | nil =>
      refine ⟨out, by simp [workL], hs, ho, fun y => ⟨fun h => (hp y h).2, fun h => ?_⟩⟩
      induction h with
      | one z h => exact ((hc a (.inl rfl)).elim (by simp) id) z h.1 h.2
      | more y z _ h ih2 => exact ((hc y (.inr ih2)).elim (by simp) id) z h.1 h.2
    | cons x rest =>
      obtain ⟨x, rfl, hxN, hxr⟩ := ht x (by simp)
      rw [workL]
      rw [if_pos ⟨by omega, by omega, by rw [List.length_cons] at hM; omega⟩]
      obtain ⟨i1, i2, i3, i4⟩ := rowL_spec At ha x N 0 out rest (by omega) hs
      have hxp : ∀ z, z < N → at2 At x z = true → Path1 (fun p q => q < N ∧ at2 At p q = true) a z := fun z hz h => by
        rcases hxr with rfl | h2
        · exact .one _ _ ⟨hz, h⟩
        · exact .more _ _ _ (hp x h2).2 ⟨hz, h⟩
      refine ih _ _ (by rw [List.length_cons] at hM; omega) (by omega) i1 (fun c y hca => ?_) (fun y h => ?_) (fun z hz => ?_) (fun y h => ?_)
      · rw [← ho c y hca]
        have := i2 c y
        cases h : at2 out c y with
        | true => exact this.2 (.inl h)
        | false =>
          cases h3 : at2 (rowL At (a : Int) (x : Int) N 0 out rest).1 c y with
          | false => rfl
          | true => rcases this.1 h3 with h4 | h4
                    · rw [h] at h4; cases h4
                    · exact absurd h4.1 hca
      · rcases (i2 a y).1 h with h | ⟨_, _, h3, h4⟩
        · exact hp y h
        · exact ⟨h3, hxp y h3 h4⟩
      · rcases (i3 z).1 hz with h | ⟨y, rfl, _, h3, h4, _⟩
        · obtain ⟨y, rfl, h1, h2⟩ := ht z (by simp [h])
          exact ⟨y, rfl, h1, h2.imp id (fun h => (i2 a y).2 (.inl h))⟩
        · exact ⟨y, rfl, h3, .inr ((i2 a y).2 (.inr ⟨rfl, Nat.zero_le _, h3, h4⟩))⟩
      · by_cases hyx : y = x
        · subst hyx
          exact .inr fun z hz h => (i2 a z).2 (.inr ⟨rfl, Nat.zero_le _, hz, h⟩)
        · have hold : (y = a ∨ at2 out a y = true) ∨ (y < N ∧ at2 At x y = true ∧ at2 out a y = false) := by
            rcases h with h | h
            · exact .inl (.inl h)
            · rcases (i2 a y).1 h with h | ⟨_, _, h3, h4⟩
              · exact .inl (.inr h)
              · cases h5 : at2 out a y with
                | true => exact .inl (.inr rfl)
                | false => exact .inr ⟨h3, h4, rfl⟩
          rcases hold with h | ⟨h1, h2, h3⟩
          · rcases hc y h with h | h
            · rcases List.mem_cons.1 h with h | h
              · exact absurd (Int.ofNat.inj h) hyx
              · exact .inl ((i3 _).2 (.inl h))
            · exact .inr fun z hz h2 => (i2 a z).2 (.inl (h z hz h2))
          · exact .inl ((i3 _).2 (.inr ⟨y, rfl, Nat.zero_le _, h1, h2, h3⟩))
theorem workL_le (At : List (List Bool)) (N : Nat) (a : Int) (out : List (List Bool)) (todo : List Int) (r : List (List Bool)) {k k2 : Nat} (hk : k ≤ k2) (h : workL At N a k out todo = some r) : workL At N a k2 out todo = some r := by
  obtain ⟨d, rfl⟩ : ∃ d, k2 = k + d := ⟨k2 - k, by omega⟩
  clear hk
  induction d with
  | zero => exact h
  | succ d ih => exact workL_mono At N a (k + d) out todo r ih
theorem leadL_spec (At : List (List Bool)) {N : Nat} (hN : N ≤ 1000) (k : Nat) (hk : N + 2 ≤ k) : ∀ d a out, a + d = N → Shape N out → (∀ c y, c < a → (at2 out c y = true ↔ Path1 (fun p q => q < N ∧ at2 At p q = true) c y)) → (∀ c y, a ≤ c → at2 out c y = false) →
    ∃ r, leadL At N k d a out = some r ∧ Shape N r ∧ ∀ c y, c < N → (at2 r c y = true ↔ Path1 (fun p q => q < N ∧ at2 At p q = true) c y) := by
  intro d
  induction d with
  | zero => intro a out h hs hp _; exact ⟨out, rfl, hs, fun c y hc => hp c y (by omega)⟩
  | succ d ih =>
    intro a out h hs hp hz
    have ha : a < N := by omega
    have hu : unm out a ≤ N := by have := unmet_le (out.getD a []); rw [hs.row a ha] at this; exact this
    obtain ⟨r, hr, hs2, ho, hpa⟩ := workL_spec At ha hN out (N + 1) out [(a : Int)] (by simp; omega) (Nat.le_refl _) hs (fun _ _ _ => rfl) (fun y h => by rw [hz a y (Nat.le_refl _)] at h; cases h) (fun z hz => ⟨a, List.mem_singleton.1 hz, ha, .inl rfl⟩) (fun y h => by
      rcases h with rfl | h
      · exact .inl (List.mem_singleton.2 rfl)
      · rw [hz a y (Nat.le_refl _)] at h; cases h)
    rw [leadL, workL_le At N (a : Int) out [(a : Int)] r hk hr]
    refine ih (a + 1) r (by omega) hs2 (fun c y hc => ?_) (fun c y hc => by rw [ho c y (by omega)]; exact hz c y (by omega))
    by_cases e : c = a
    · subst e; exact hpa y
    · rw [ho c y e]; exact hp c y (by omega)
/-- What Leads tells: a way of one step or more. -/
theorem leads_ev (At : List (List Bool)) {N : Nat} (hN : N ≤ 1000) : ∃ c, Ev (fun k => leadsF k N At) c ∧ Shape N c ∧ ∀ a b, a < N → (at2 c a b = true ↔ Path1 (fun p q => q < N ∧ at2 At p q = true) a b) := by
  obtain ⟨r, hr, hs, hp⟩ := leadL_spec At hN (N + 2) (Nat.le_refl _) N 0 (List.replicate N (List.replicate N false)) (by omega) (shape_new N) (fun c y h => by omega) (fun c y _ => at2_new N c y)
  exact ⟨r, Ev.of (fun k => leadsF_mono k N At) (k := N + 2) hr, hs, fun a b => hp a b⟩

/-- Where a block's end leads. -/
def nextE (e : S34) : List Int := if e.f0 = 1 then [e.f2] else if e.f0 = 2 then [e.f2, e.f3] else []
def nxL (l : List S36) (b : Nat) : List Int := nextE (l.getD b z36).f1
theorem next_ref (e : S34) : spinnakerref26_Next.f e.f0 e.f1 e.f2 e.f3 = some (nextE e) := by
  unfold spinnakerref26_Next.f nextE
  split
  · rfl
  · split <;> rfl
theorem next_f (v : Int) (k : List Int) (l : List S36) (b : Nat) (h : b < l.length) : flow_next.f v k l (b : Int) = some (nxL l b) := by
  unfold flow_next.f nxL
  rw [if_pos (by omega), if_pos (by omega), show rd_T36 l (b : Int) = l.getD b z36 by simp [rd_T36]]
  generalize (l.getD b z36).f1 = e
  unfold ir_Next.f nextE
  split
  · rfl
  · split <;> rfl
theorem nextE_len (e : S34) : (nextE e).length ≤ 2 := by
  unfold nextE
  split
  · simp
  · split <;> simp
theorem endR_next {e : S34} {v n : Int} (h : endR e v n = true) : ∀ x ∈ nextE e, 0 ≤ x ∧ x < n := by
  intro x hx
  simp only [endR, endR4, cond_iff, beq_iff_eq, Bool.false_eq_true, and_false, or_false, false_or, decide_eq_true_eq] at h
  unfold nextE at hx
  split at hx
  · rename_i h1
    obtain rfl := List.mem_singleton.1 hx
    rcases h with h | h
    · omega
    · exact absurd h1 h.1
  · split at hx
    · rename_i h1 h2
      rcases h with h | ⟨_, h⟩
      · exact absurd h.1 h1
      rcases h with h | h
      · simp only [List.mem_cons, List.not_mem_nil, or_false] at hx
        rcases hx with rfl | rfl <;> omega
      · exact absurd h2 h.1
    · cases hx
theorem goRB_end (v c : Int) (k k2 : Nat) : ∀ (l : List S36) (ids : List Int), goRB v c k k2 ids l = true → ∀ b ∈ l, endR b.f1 v k2 = true
  | [], _, _, _, h => by cases h
  | a :: r, ids, h, b, hb => by
    rw [goRB] at h
    split at h
    · rename_i ids' _
      cases he : endR a.f1 v k2 with
      | false => rw [he] at h; cases h
      | true =>
        rw [he] at h
        rcases List.mem_cons.1 hb with rfl | hb
        · exact he
        · exact goRB_end v c k k2 r ids' h b hb
    · cases h
/-- A thread whose edges stay within, and not too long. -/
structure Edged (l : List S36) : Prop where
  pos : 1 ≤ l.length
  len : l.length ≤ 30
  tgt : ∀ b, b < l.length → ∀ x ∈ nxL l b, 0 ≤ x ∧ x < (l.length : Int)
theorem edged_of {v c : Int} {k : List Int} {l : List S36} (hl : l.length ≤ 30) (h : refRB v k l c = true) : Edged l := by
  unfold refRB at h
  simp only [Bool.and_eq_true, Bool.not_eq_true', Bool.or_eq_false_iff, decide_eq_false_iff_not] at h
  refine ⟨by omega, hl, fun b hb x hx => ?_⟩
  have hm : l.getD b z36 ∈ l := by rw [List.getD_eq_getElem?_getD, List.getElem?_eq_getElem hb]; exact List.getElem_mem hb
  exact endR_next (goRB_end v c _ _ l [] h.2.2 _ hm) x hx
def Ed (l : List S36) (but : Int) (p q : Nat) : Prop := (p : Int) ≠ but ∧ (q : Int) ≠ but ∧ (q : Int) ∈ nxL l p
theorem edgeRow_spec {N a : Nat} (but : Int) (ha : a < N) : ∀ (xs : List Int) (At : List (List Bool)), (∀ x ∈ xs, 0 ≤ x ∧ x < (N : Int)) → Shape N At →
    Shape N (edgeRow N but (a : Int) xs At) ∧ ∀ c y, at2 (edgeRow N but (a : Int) xs At) c y = true ↔ at2 At c y = true ∨ (c = a ∧ (a : Int) ≠ but ∧ (y : Int) ≠ but ∧ (y : Int) ∈ xs)
  | [], At, _, hs => ⟨hs, fun c y => ⟨.inl, fun h => h.elim id (fun h => by simp at h)⟩⟩
  | x :: r, At, hx, hs => by
    obtain ⟨h0, h1⟩ := hx x (by simp)
    obtain ⟨n, rfl, hn, _⟩ := int_nat h0 h1
    rw [edgeRow]
    by_cases hc : (a : Int) ≠ but ∧ (n : Int) ≠ but
    · have hadd : addR N At (a : Int) (n : Int) = setB At (a : Int) (n : Int) := by
        unfold addR
        rw [if_pos (by simp [mayB, ha, hn])]
      rw [if_pos hc, hadd]
      obtain ⟨i1, i2⟩ := edgeRow_spec but ha r (setB At (a : Int) (n : Int)) (fun x h => hx x (by simp [h])) (shape_set hs n ha)
      refine ⟨i1, fun c y => (i2 c y).trans ?_⟩
      rw [at2_set hs ha hn]
      constructor
      · rintro (h | ⟨h1, h2, h3, h4⟩)
        · split at h
          · rename_i e; obtain ⟨rfl, rfl⟩ := e; exact .inr ⟨rfl, hc.1, hc.2, by simp⟩
          · exact .inl h
        · exact .inr ⟨h1, h2, h3, by simp [h4]⟩
      · rintro (h | ⟨h1, h2, h3, h4⟩)
        · exact .inl (by split <;> first | rfl | exact h)
        · rcases List.mem_cons.1 h4 with h4 | h4
          · exact .inl (by rw [if_pos ⟨h1, Int.ofNat.inj h4⟩])
          · exact .inr ⟨h1, h2, h3, h4⟩
    · rw [if_neg hc]
      obtain ⟨i1, i2⟩ := edgeRow_spec but ha r At (fun x h => hx x (by simp [h])) hs
      refine ⟨i1, fun c y => (i2 c y).trans ⟨fun h => h.imp id (fun ⟨h1, h2, h3, h4⟩ => ⟨h1, h2, h3, by simp [h4]⟩), fun h => h.imp id (fun ⟨h1, h2, h3, h4⟩ => ⟨h1, h2, h3, ?_⟩)⟩⟩
      rcases List.mem_cons.1 h4 with h4 | h4
      · exact absurd ⟨h2, by rw [← h4]; exact h3⟩ hc
      · exact h4
theorem edgesL_spec (N : Nat) (but : Int) : ∀ (bs : List S36) (a : Nat) (At : List (List Bool)), a + bs.length = N → (∀ i, i < bs.length → ∀ x ∈ nextE (bs.getD i z36).f1, 0 ≤ x ∧ x < (N : Int)) → Shape N At →
    ∃ r, edgesL N but a bs At = some r ∧ Shape N r ∧ ∀ c y, at2 r c y = true ↔ at2 At c y = true ∨ (a ≤ c ∧ c < N ∧ (c : Int) ≠ but ∧ (y : Int) ≠ but ∧ (y : Int) ∈ nextE (bs.getD (c - a) z36).f1)
  | [], a, At, hl, _, hs => ⟨At, rfl, hs, fun c y => ⟨.inl, fun h => h.elim id (fun h => by simp at hl; omega)⟩⟩
  | b :: bs, a, At, hl, hx, hs => by
    rw [List.length_cons] at hl
    rw [edgesL, next_ref]
    simp only [Option.bind_some]
    rw [if_pos (by have := nextE_len b.f1; omega)]
    have haN : a < N := by omega
    obtain ⟨j1, j2⟩ := edgeRow_spec but haN (nextE b.f1) At (fun x h => hx 0 (by simp) x (by simpa using h)) hs
    obtain ⟨r, hr, i1, i2⟩ := edgesL_spec N but bs (a + 1) _ (by omega) (fun i hi x h => hx (i + 1) (by simp; omega) x (by simpa using h)) j1
    refine ⟨r, hr, i1, fun c y => (i2 c y).trans ?_⟩
    rw [j2]
    constructor
    · rintro ((h | ⟨rfl, h2, h3, h4⟩) | ⟨h1, h2, h3, h4, h5⟩)
      · exact .inl h
      · exact .inr ⟨Nat.le_refl _, haN, h2, h3, by simpa using h4⟩
      · refine .inr ⟨by omega, h2, h3, h4, ?_⟩
        rw [show c - a = (c - (a + 1)) + 1 by omega]
        simpa using h5
    · rintro (h | ⟨h1, h2, h3, h4, h5⟩)
      · exact .inl (.inl h)
      · by_cases e : c = a
        · subst e
          exact .inl (.inr ⟨rfl, h3, h4, by simpa using h5⟩)
        · refine .inr ⟨by omega, h2, h3, h4, ?_⟩
          rw [show c - a = (c - (a + 1)) + 1 by omega] at h5
          simpa using h5
theorem edges_spec {l : List S36} (h : Edged l) (but : Int) : ∃ e, edgesF but l = some e ∧ Shape l.length e ∧ ∀ a b, a < l.length → (at2 e a b = true ↔ Ed l but a b) := by
  obtain ⟨r, hr, hs, ha⟩ := edgesL_spec l.length but l 0 (List.replicate l.length (List.replicate l.length false)) (by omega) (fun i hi => h.tgt i hi) (shape_new _)
  refine ⟨r, ?_, hs, fun a b hab => (ha a b).trans ?_⟩
  · have := h.len
    rw [edgesF, if_pos (by omega)]
    exact hr
  · rw [at2_new]
    exact ⟨fun h => h.elim (fun h => by cases h) (fun ⟨_, _, h3, h4, h5⟩ => ⟨h3, h4, h5⟩), fun ⟨h3, h4, h5⟩ => .inr ⟨Nat.zero_le _, hab, h3, h4, h5⟩⟩
theorem path_same {l : List S36} (h : Edged l) {but : Int} {e : List (List Bool)} (he : ∀ a b, a < l.length → (at2 e a b = true ↔ Ed l but a b)) {a : Nat} (ha : a < l.length) (b : Nat) :
    Path1 (fun p q => q < l.length ∧ at2 e p q = true) a b ↔ Path1 (Ed l but) a b := by
  have ht : ∀ p q, p < l.length → Ed l but p q → q < l.length := fun p q hp hq => by have := h.tgt p hp _ hq.2.2; omega
  constructor
  · intro hp
    have : b < l.length ∧ Path1 (Ed l but) a b := by
      induction hp with
      | one b hb => exact ⟨hb.1, .one _ _ ((he a b ha).1 hb.2)⟩
      | more b c _ hc ih => exact ⟨hc.1, .more _ _ _ ih.2 ((he b c ih.1).1 hc.2)⟩
    exact this.2
  · intro hp
    have : b < l.length ∧ Path1 (fun p q => q < l.length ∧ at2 e p q = true) a b := by
      induction hp with
      | one b hb => exact ⟨ht a b ha hb, .one _ _ ⟨ht a b ha hb, (he a b ha).2 hb⟩⟩
      | more b c _ hc ih => exact ⟨ht b c ih.1 hc, .more _ _ _ ih.2 ⟨ht b c ih.1 hc, (he b c ih.1).2 hc⟩⟩
    exact this.2
/-- What Leads of the edges tells. -/
theorem way_ev {l : List S36} (h : Edged l) (but : Int) : ∃ e c, edgesF but l = some e ∧ Ev (fun q => leadsF q l.length e) c ∧ (∀ a b, a < l.length → (at2 e a b = true ↔ Ed l but a b)) ∧ ∀ a b, a < l.length → b < l.length → (hasP l.length c (a : Int) (b : Int) = true ↔ Path1 (Ed l but) a b) := by
  obtain ⟨e, he, hs, ha⟩ := edges_spec h but
  obtain ⟨c, hc, hs2, hp⟩ := leads_ev e (N := l.length) (by have := h.len; omega)
  refine ⟨e, c, he, hc, ha, fun a b haN hbN => ?_⟩
  rw [show hasP l.length c (a : Int) (b : Int) = at2 c a b by simp [hasP, mayB, haN, hbN, atB_nat]]
  exact (hp a b haN).trans (path_same h ha haN b)
theorem reach_way {nx : Nat → List Int} {fr : List Int} {but : Int} {b : Nat} : ReachA nx fr but b ↔ ∃ x : Nat, (x : Int) ∈ fr ∧ (x : Int) ≠ but ∧ (x = b ∨ Path1 (fun p q => (p : Int) ≠ but ∧ (q : Int) ≠ but ∧ (q : Int) ∈ nx p) x b) := by
  constructor
  · intro h
    have : (b : Int) ≠ but ∧ ∃ x : Nat, (x : Int) ∈ fr ∧ (x : Int) ≠ but ∧ (x = b ∨ Path1 (fun p q => (p : Int) ≠ but ∧ (q : Int) ≠ but ∧ (q : Int) ∈ nx p) x b) := by
      induction h with
      | start b h1 h2 => exact ⟨h2, b, h1, h2, .inl rfl⟩
      | step a b _ h1 h2 ih =>
        obtain ⟨h3, x, h4, h5, h6⟩ := ih
        refine ⟨h2, x, h4, h5, .inr ?_⟩
        rcases h6 with rfl | h6
        · exact .one _ _ ⟨h3, h2, h1⟩
        · exact .more _ _ _ h6 ⟨h3, h2, h1⟩
    exact this.2
  · rintro ⟨x, h1, h2, rfl | h3⟩
    · exact .start _ h1 h2
    · induction h3 with
      | one b hb => exact .step _ _ (.start _ h1 h2) hb.2.2 hb.2.1
      | more b c _ hc ih => exact .step _ _ ih hc.2.2 hc.2.1
/-- Is a block reached, not by way of another one? -/
def Rch (l : List S36) (but : Int) (b : Nat) : Prop := ReachA (nxL l) [0] but b
theorem rch_way {l : List S36} {but : Int} {b : Nat} : Rch l but b ↔ (but ≠ 0 ∧ (b : Int) ≠ but ∧ (b = 0 ∨ Path1 (Ed l but) 0 b)) := by
  unfold Rch
  rw [reach_way]
  constructor
  · rintro ⟨x, h1, h2, h3⟩
    have hx : x = 0 := by have := List.mem_singleton.1 h1; omega
    subst hx
    refine ⟨fun e => h2 (by rw [e]; rfl), ?_, h3.imp Eq.symm id⟩
    rcases h3 with rfl | h3
    · exact h2
    · cases h3 with
      | one _ h => exact h.2.1
      | more _ _ _ h => exact h.2.1
  · rintro ⟨h1, h2, h3⟩
    exact ⟨0, by simp, fun e => h1 e.symm, h3.imp Eq.symm id⟩
theorem refReached_ev (v : Int) (k : List Int) {l : List S36} (h : Edged l) (but : Int) : ∃ r, Ev (fun q => spinnakerref33_Reached.f q v k l but) r ∧ r.length = l.length ∧ ∀ b, b < l.length → (r.getD b false = true ↔ Rch l but b) := by
  obtain ⟨e, c, he, hc, _, hp⟩ := way_ev h but
  refine ⟨outR (reachB l.length but c) l.length, ?_, outR_length _ _, fun b hb => ?_⟩
  · refine Ev.bind (a := e) ⟨0, fun _ _ => he⟩ (Ev.bind hc (Ev.now _))
  · have : (outR (reachB l.length but c) l.length).getD b false = reachB l.length but c b := by
      unfold outR
      simp [List.getD_eq_getElem?_getD, hb]
    rw [this, rch_way, reachB]
    simp only [Bool.and_eq_true, Bool.or_eq_true, decide_eq_true_eq]
    have := hp 0 b h.pos hb
    rw [show ((0 : Nat) : Int) = 0 from rfl] at this
    rw [this]
    constructor
    · rintro ⟨h1, h2, h3⟩; exact ⟨h2, h1, h3.imp (fun h => by omega) id⟩
    · rintro ⟨h1, h2, h3⟩; exact ⟨h2, h1, h3.imp (fun h => by omega) id⟩
theorem thWalk_ev (v : Int) (k : List Int) {l : List S36} (h : Edged l) (but : Int) : ∃ r, Ev (fun q => walkF (fun b => flow_next.f v k l b) q (l.length : Int) [0] but) r ∧ r.length = l.length ∧ ∀ b, b < l.length → (r.getD b false = true ↔ Rch l but b) :=
  walk_ev (fun b => flow_next.f v k l b) (nxL l) l.length 2 [0] but (fun b hb => next_f v k l b hb) h.tgt (fun b _ => nextE_len _) (fun x hx => by obtain rfl := List.mem_singleton.1 hx; have := h.pos; omega) (by have := h.len; simp; omega) (by have := h.len; omega)

theorem index_ev (l : List Int) (a : Int) (hm : l.length ≤ 4611686018427387904) : ∀ d i, i ≤ l.length → l.length - i = d → ∃ r : Int, Ev (fun k => slices_Index_int_int.l0 k l a (l.length : Int) (i : Int)) r ∧ (r ≥ 0 ↔ a ∈ l.drop i) := by
  intro d
  induction d with
  | zero =>
    intro i hi hd
    refine ⟨-1, Ev.end_ fun k => by simp only [slices_Index_int_int.l0]; rw [if_neg (by omega)], ?_⟩
    rw [List.drop_eq_nil_of_le (by omega)]
    exact ⟨fun h => absurd h (by decide), fun h => by cases h⟩
  | succ d ih =>
    intro i hi hd
    have h1 : i < l.length := by omega
    rw [drop_cons l i h1]
    by_cases e : a = l[i]
    · exact ⟨i, Ev.end_ fun k => by
        simp only [slices_Index_int_int.l0]
        rw [if_pos (by omega), if_pos (by omega), if_pos (by omega), if_pos (by rw [rd_nat _ _ h1]; exact e)], fun _ => by rw [List.mem_cons]; exact .inl e, fun _ => by omega⟩
    · obtain ⟨r, hr, hp⟩ := ih (i + 1) (by omega) (by omega)
      refine ⟨r, Ev.by hr fun k => ?_, hp.trans (by rw [List.mem_cons]; exact ⟨.inr, fun h => h.elim (fun h => absurd h e) id⟩)⟩
      simp only [slices_Index_int_int.l0]
      rw [if_pos (by omega), if_pos (by omega), if_pos (by omega), if_neg (by rw [rd_nat _ _ h1]; exact e), wrap_succ i (by omega)]
theorem contains_ev (l : List Int) (a : Int) (hm : l.length ≤ 4611686018427387904) : Ev (fun k => slices_Contains_int_int.f k l a) (decide (a ∈ l)) := by
  obtain ⟨r, hr, hp⟩ := index_ev l a hm l.length 0 (by omega) (by omega)
  refine Ev.bind hr ?_
  rw [show decide (r ≥ 0) = decide (a ∈ l) by simpa using hp]
  exact Ev.now _
theorem outR_get {α : Type} (z : α) (F : Nat → α) {n i : Nat} (h : i < n) : (outR F n).getD i z = F i := by simp [outR, List.getD_eq_getElem?_getD, h]
theorem outR_congr {α : Type} {F G : Nat → α} {n : Nat} (h : ∀ i, i < n → F i = G i) : outR F n = outR G n := by
  unfold outR
  exact List.map_congr_left fun i hi => h i (List.mem_range.1 hi)
theorem outR_set {α : Type} (F : Nat → α) (n i : Nat) (x : α) : (outR F n).set i x = outR (fun j => if j = i then x else F j) n := by
  apply List.ext_getElem (by simp [outR])
  intro j h1 h2
  simp only [outR, List.getElem_set, List.getElem_map, List.getElem_range]
  by_cases e : i = j
  · rw [if_pos e, if_pos e.symm]
  · rw [if_neg e, if_neg (fun h => e h.symm)]
theorem befL_congr {F G : Nat → Bool} : ∀ {n : Nat}, (∀ i, i < n → F i = G i) → befL F n = befL G n
  | 0, _ => rfl
  | n + 1, h => by rw [befL_succ, befL_succ, befL_congr (n := n) (fun i hi => h i (by omega)), h n (by omega)]
theorem mem_befL {F : Nat → Bool} {n : Nat} {x : Int} : x ∈ befL F n ↔ ∃ b : Nat, x = (b : Int) ∧ b < n ∧ F b = true := by
  unfold befL
  simp only [List.mem_map, List.mem_filter, List.mem_range]
  exact ⟨fun ⟨b, ⟨h1, h2⟩, h3⟩ => ⟨b, h3.symm, h1, h2⟩, fun ⟨b, h1, h2, h3⟩ => ⟨b, ⟨h2, h3⟩, h1.symm⟩⟩
/-- Does a block lead to another one? -/
def toB (l : List S36) (i b : Nat) : Bool := decide ((i : Int) ∈ nxL l b)
def rowJ (l : List S36) (b j i : Nat) : List Int := befL (toB l i) b ++ (if (i : Int) ∈ (nxL l b).take j then [(b : Int)] else [])
def befTab (l : List S36) (b : Nat) : List (List Int) := outR (fun i => befL (toB l i) b) l.length
theorem before_l1 (v : Int) (k : List Int) {l : List S36} (h : Edged l) (b : Nat) (hb : b < l.length) (r : List (List Int)) (hn : Ev (fun q => flow_Before.l0 q (befTab l (b + 1)) (l.length : Int) ((b + 1 : Nat) : Int) v k l) r) :
    ∀ d j, j ≤ (nxL l b).length → (nxL l b).length - j = d → Ev (fun q => flow_Before.l1 q (outR (rowJ l b j) l.length) (b : Int) (l.length : Int) (b : Int) (nxL l b) ((nxL l b).length : Int) (j : Int) v k l) r := by
  have hll := h.len
  have h2 := nextE_len (l.getD b z36).f1
  have h2' : (nxL l b).length ≤ 2 := h2
  intro d
  induction d with
  | zero =>
    intro j hj hd
    refine Ev.by hn fun q => ?_
    simp only [flow_Before.l1]
    rw [if_neg (by omega), wrap_succ b (by omega)]
    congr 1
    refine outR_congr fun i _ => ?_
    show rowJ l b j i = _
    unfold rowJ
    rw [List.take_of_length_le (by omega), befL_succ]
    by_cases e : (i : Int) ∈ nxL l b
    · rw [if_pos e, if_pos (by simpa [toB] using e)]
    · rw [if_neg e, if_neg (by simpa [toB] using e), List.append_nil]
  | succ d ih =>
    intro j hj hd
    have hjl : j < (nxL l b).length := by omega
    obtain ⟨hx0, hx1⟩ := h.tgt b hb _ (List.getElem_mem hjl)
    obtain ⟨n, hxn, hnN, _⟩ := int_nat hx0 hx1
    have hih := ih (j + 1) (by omega) (by omega)
    have hrow : rd_L2 (outR (rowJ l b j) l.length) (n : Int) = rowJ l b j n := by
      show (outR (rowJ l b j) l.length).getD _ [] = _
      rw [Int.toNat_natCast]
      exact outR_get [] _ hnN
    have hlen : (rowJ l b j n).length ≤ 31 := by
      unfold rowJ
      rw [List.length_append]
      have := befL_length (toB l n) b
      split <;> simp <;> omega
    have htk : ∀ i : Nat, (i : Int) ∈ (nxL l b).take (j + 1) ↔ (i : Int) ∈ (nxL l b).take j ∨ i = n := fun i => by
      rw [List.take_succ_eq_append_getElem hjl, List.mem_append, List.mem_singleton, hxn]
      exact ⟨fun h => h.imp id (fun e => Int.ofNat.inj e), fun h => h.imp id (fun e => by rw [e])⟩
    have hbm : ((b : Int) ∈ rowJ l b j n) ↔ (n : Int) ∈ (nxL l b).take j := by
      unfold rowJ
      rw [List.mem_append, mem_befL]
      constructor
      · rintro (⟨x, h1, h2, _⟩ | h1)
        · have := Int.ofNat.inj h1; omega
        · split at h1
          · assumption
          · cases h1
      · intro h1
        rw [if_pos h1]
        exact .inr (by simp)
    refine Ev.by (f := fun q => (slices_Contains_int_int.f q (rowJ l b j n) (b : Int)).bind fun t => if t = true then flow_Before.l1 q (outR (rowJ l b j) l.length) (b : Int) (l.length : Int) (b : Int) (nxL l b) ((nxL l b).length : Int) ((j + 1 : Nat) : Int) v k l else if (rowJ l b j n).length < 17592186044416 then flow_Before.l1 q ((outR (rowJ l b j) l.length).set n (rowJ l b j n ++ [(b : Int)])) (b : Int) (l.length : Int) (b : Int) (nxL l b) ((nxL l b).length : Int) ((j + 1 : Nat) : Int) v k l else none) ?_ fun q => ?_
    · refine Ev.bind (contains_ev _ _ (by omega)) ?_
      by_cases hc : (n : Int) ∈ (nxL l b).take j
      · rw [show outR (rowJ l b j) l.length = outR (rowJ l b (j + 1)) l.length from outR_congr fun i _ => by
          unfold rowJ
          have : (i : Int) ∈ (nxL l b).take (j + 1) ↔ (i : Int) ∈ (nxL l b).take j := (htk i).trans ⟨fun h => h.elim id (fun e => by rw [e]; exact hc), .inl⟩
          simp only [this]]
        exact Ev.if_pos (by simpa using hbm.2 hc) hih
      · refine Ev.if_neg (by simpa using fun h => hc (hbm.1 h)) (Ev.if_pos (by omega) ?_)
        rw [outR_set, show outR (fun i => if i = n then rowJ l b j n ++ [(b : Int)] else rowJ l b j i) l.length = outR (rowJ l b (j + 1)) l.length from outR_congr fun i _ => by
          by_cases e : i = n
          · subst e
            rw [if_pos rfl]
            unfold rowJ
            rw [if_neg hc, if_pos ((htk i).2 (.inr rfl)), List.append_nil]
          · rw [if_neg e]
            unfold rowJ
            have : (i : Int) ∈ (nxL l b).take (j + 1) ↔ (i : Int) ∈ (nxL l b).take j := (htk i).trans ⟨fun h => h.elim id (fun h => absurd h e), .inl⟩
            simp only [this]]
        exact hih
    · simp only [flow_Before.l1]
      rw [if_pos (by omega), if_pos (by omega), if_pos (by omega), rd_nat _ _ hjl, hxn, if_pos (by omega), if_pos (by rw [outR_length]; omega), hrow, wrap_succ j (by omega), Int.toNat_natCast]
theorem before_l0 (v : Int) (k : List Int) {l : List S36} (h : Edged l) : ∀ d b, b ≤ l.length → l.length - b = d → Ev (fun q => flow_Before.l0 q (befTab l b) (l.length : Int) (b : Int) v k l) (befTab l l.length) := by
  have hll := h.len
  intro d
  induction d with
  | zero =>
    intro b hb hd
    obtain rfl : b = l.length := by omega
    exact Ev.end_ fun q => by simp only [flow_Before.l0]; rw [if_neg (by omega)]
  | succ d ih =>
    intro b hb hd
    have hbl : b < l.length := by omega
    refine Ev.by (f := fun q => flow_Before.l1 q (outR (rowJ l b 0) l.length) (b : Int) (l.length : Int) (b : Int) (nxL l b) ((nxL l b).length : Int) ((0 : Nat) : Int) v k l) (before_l1 v k h b hbl _ (ih (b + 1) (by omega) (by omega)) _ 0 (Nat.zero_le _) rfl) fun q => ?_
    simp only [flow_Before.l0]
    rw [if_pos (by omega), next_f v k l b hbl]
    simp only [Option.bind_some]
    congr 1
    refine outR_congr fun i _ => ?_
    show befL (toB l i) b = rowJ l b 0 i
    unfold rowJ
    simp
theorem flow_right_f {v : Int} {k : List Int} {l : List S36} (hF : Fine v k l) : flow_right.f v k l = some (refRB v k l 200) := by
  unfold flow_right.f ir_Right.f
  rw [if_pos hF.ids, right_same]
  rfl
theorem before_ev {v : Int} {k : List Int} {l : List S36} (hF : Fine v k l) (hr : refRB v k l 200 = true) (h : Edged l) : Ev (fun q => flow_Before.f q v k l) (befTab l l.length) := by
  unfold flow_Before.f
  rw [flow_right_f hF, hr]
  simp only [Option.bind_some]
  refine Ev.if_pos trivial (Ev.if_pos (by omega) (Ev.if_pos (by have := h.len; omega) ?_))
  rw [show List.replicate ((l.length : Int)).toNat ([] : List Int) = befTab l 0 by
    unfold befTab outR befL
    apply List.ext_getElem (by simp)
    intro i h1 h2
    simp]
  exact before_l0 v k h l.length 0 (Nat.zero_le _) rfl
theorem refBefore_ev (v : Int) (k : List Int) {l : List S36} (h : Edged l) (i : Nat) (hi : i < l.length) : spinnakerref33_Before.f v k l (i : Int) = some (befL (toB l i) l.length) := by
  obtain ⟨e, he, _, ha⟩ := edges_spec h (-1)
  unfold spinnakerref33_Before.f
  rw [he]
  simp only [Option.bind_some, Option.some.injEq]
  refine befL_congr fun b hb => ?_
  rw [show hasP l.length e (b : Int) (i : Int) = at2 e b i by simp [hasP, mayB, hb, hi, atB_nat]]
  rw [Bool.eq_iff_iff, ha b i hb]
  unfold toB Ed
  simp only [decide_eq_true_eq]
  exact ⟨fun h => h.2.2, fun h => ⟨by omega, by omega, h⟩⟩
theorem flowReached_ev {v : Int} {k : List Int} {l : List S36} (hF : Fine v k l) (hr : refRB v k l 200 = true) (h : Edged l) : ∃ r, Ev (fun q => flow_Reached.f q v k l) r ∧ r.length = l.length ∧ ∀ b, b < l.length → (r.getD b false = true ↔ Rch l (-1) b) := by
  obtain ⟨r, h1, h2, h3⟩ := thWalk_ev v k h (-1)
  refine ⟨r, ?_, h2, h3⟩
  unfold flow_Reached.f
  rw [flow_right_f hF, hr]
  simp only [Option.bind_some]
  exact Ev.if_pos trivial h1
theorem ahead_ev (v : Int) (k : List Int) {l : List S36} (h : Edged l) (a b : Nat) (hb : b < l.length) : ∃ t, Ev (fun q => flow_ahead.f q v k l (a : Int) (b : Int)) t ∧ (t = true ↔ a = b ∨ ¬ Rch l (a : Int) b) := by
  unfold flow_ahead.f
  by_cases e : a = b
  · exact ⟨true, Ev.if_pos (by rw [e]) (Ev.now _), by simp [e]⟩
  · obtain ⟨r, h1, h2, h3⟩ := thWalk_ev v k h (a : Int)
    refine ⟨!(r.getD b false), Ev.if_neg (by omega) (Ev.bind h1 (Ev.if_pos (by omega) ?_)), ?_⟩
    · rw [Int.toNat_natCast]; exact Ev.now _
    · rw [← h3 b hb]
      simp [e]
/-- Is a block ahead of another one on all ways? -/
def Dom (l : List S36) (x y : Int) : Prop := ∃ a b : Nat, x = (a : Int) ∧ y = (b : Int) ∧ a < l.length ∧ b < l.length ∧ Rch l (-1) a ∧ Rch l (-1) b ∧ (a = b ∨ ¬ Rch l (a : Int) b)
theorem rdB_nat (r : List Bool) (b : Nat) : rdOf false r (b : Int) = r.getD b false := by simp [rdOf]
theorem refAhead_ev (v : Int) (k : List Int) {l : List S36} (h : Edged l) (x y : Int) : ∃ t, Ev (fun q => spinnakerref33_Ahead.f q v k l x y) t ∧ (t = true ↔ Dom l x y) := by
  obtain ⟨r, h1, h2, h3⟩ := refReached_ev v k h (-1)
  unfold spinnakerref33_Ahead.f
  by_cases hx : 0 ≤ x ∧ x < (l.length : Int)
  · obtain ⟨a, rfl, ha, _⟩ := int_nat hx.1 hx.2
    by_cases hy : 0 ≤ y ∧ y < (l.length : Int)
    · obtain ⟨b, rfl, hb, _⟩ := int_nat hy.1 hy.2
      by_cases hra : r.getD a false = true
      · by_cases hrb : r.getD b false = true
        · by_cases e : a = b
          · refine ⟨true, Ev.bind h1 (Ev.if_pos (by omega) (Ev.if_pos (by omega) (Ev.if_pos (by omega) (Ev.if_pos (by omega) (Ev.if_pos (by omega) (Ev.if_pos (by rw [rdB_nat]; exact hra) (Ev.if_pos (by omega) (Ev.if_pos (by rw [rdB_nat]; exact hrb) (Ev.if_pos (by rw [e]) (Ev.now _)))))))))), fun _ => ⟨a, b, rfl, rfl, ha, hb, (h3 a ha).1 hra, (h3 b hb).1 hrb, .inl e⟩, fun _ => rfl⟩
          · obtain ⟨s, g1, g2, g3⟩ := refReached_ev v k h (a : Int)
            refine ⟨!(s.getD b false), Ev.bind h1 (Ev.if_pos (by omega) (Ev.if_pos (by omega) (Ev.if_pos (by omega) (Ev.if_pos (by omega) (Ev.if_pos (by omega) (Ev.if_pos (by rw [rdB_nat]; exact hra) (Ev.if_pos (by omega) (Ev.if_pos (by rw [rdB_nat]; exact hrb) (Ev.if_neg (by omega) (Ev.bind g1 (Ev.if_pos (by omega) ?_))))))))))), ⟨fun h => ⟨a, b, rfl, rfl, ha, hb, (h3 a ha).1 hra, (h3 b hb).1 hrb, .inr ?_⟩, fun ⟨a', b', e1, e2, _, _, _, _, h⟩ => ?_⟩⟩
            · rw [rdB_nat]; exact Ev.now _
            · rw [← g3 b hb]; simpa using h
            · obtain rfl := Int.ofNat.inj e1
              obtain rfl := Int.ofNat.inj e2
              rcases h with h | h
              · exact absurd h e
              · rw [← g3 b hb] at h; simpa using h
        · refine ⟨false, Ev.bind h1 (Ev.if_pos (by omega) (Ev.if_pos (by omega) (Ev.if_pos (by omega) (Ev.if_pos (by omega) (Ev.if_pos (by omega) (Ev.if_pos (by rw [rdB_nat]; exact hra) (Ev.if_pos (by omega) (Ev.if_neg (by rw [rdB_nat]; exact hrb) (Ev.now _))))))))), fun h => (by cases h), fun ⟨a', b', e1, e2, _, _, _, hb', _⟩ => ?_⟩
          obtain rfl := Int.ofNat.inj e2
          exact absurd ((h3 b hb).2 hb') hrb
      · refine ⟨false, Ev.bind h1 (Ev.if_pos (by omega) (Ev.if_pos (by omega) (Ev.if_pos (by omega) (Ev.if_pos (by omega) (Ev.if_pos (by omega) (Ev.if_neg (by rw [rdB_nat]; exact hra) (Ev.now _))))))), fun h => (by cases h), fun ⟨a', b', e1, e2, _, _, ha', _⟩ => ?_⟩
        obtain rfl := Int.ofNat.inj e1
        exact absurd ((h3 a ha).2 ha') hra
    · refine ⟨false, Ev.bind h1 ?_, fun h => (by cases h), fun ⟨a', b', e1, e2, h1, h2, _⟩ => by omega⟩
      by_cases hy0 : y ≥ 0
      · exact Ev.if_pos (by omega) (Ev.if_pos hy0 (Ev.if_pos (by omega) (Ev.if_neg (by omega) (Ev.now _))))
      · exact Ev.if_pos (by omega) (Ev.if_neg hy0 (Ev.now _))
  · refine ⟨false, Ev.bind h1 ?_, fun h => (by cases h), fun ⟨a', b', e1, e2, h1, h2, _⟩ => by omega⟩
    by_cases hx0 : x ≥ 0
    · refine Ev.if_pos hx0 ?_
      by_cases hy0 : y ≥ 0
      · exact Ev.if_pos hy0 (Ev.if_neg (by omega) (Ev.now _))
      · exact Ev.if_neg hy0 (Ev.now _)
    · exact Ev.if_neg hx0 (Ev.now _)

theorem awake33_ev : Ev (fun q => spinnakerlaw33_awake.f q) true := by
  have h1 : Ev (fun q => flow_Loops.f q 1 [] [(⟨[], ⟨1, 0, 0, 0⟩⟩ : S36)]) [⟨0, [0]⟩] := Ev.of (fun q => flow_Loops.mono _ _ _ q) (k := 12) (by kernel_rfl)
  have h2 : Ev (fun q => flow_Order.f q 1 [] [(⟨[], ⟨1, 0, 0, 0⟩⟩ : S36)]) [0] := Ev.of (fun q => flow_Order.mono _ _ _ q) (k := 12) (by kernel_rfl)
  have h3 : Ev (fun q => spinnakerref01_Ints.f q [0] [0]) true := by simpa using ints_ev [0] [0] (by simp)
  unfold spinnakerlaw33_awake.f
  refine Ev.bind (Ev.now _) (Ev.bind h1 (Ev.if_pos rfl (Ev.if_pos (by decide) (Ev.if_pos rfl (Ev.bind h2 (Ev.bind h3 (Ev.now _)))))))
theorem wrong33_ev {v : Int} {k : List Int} {l : List S36} (hF : Fine v k l) (h : ¬ (l.length ≤ 30 ∧ refRB v k l 200 = true)) : Ev (fun q => spinnakerlaw33_wrong.f q v k l) true := by
  unfold spinnakerlaw33_wrong.f
  by_cases hl : (l.length : Int) > 30
  · exact Ev.if_pos hl (Ev.end_ fun q => by simp only [spinnakerlaw33_wrong.j0]; rw [if_pos trivial])
  · have hr : refRB v k l 200 = false := by
      cases e : refRB v k l 200 with
      | false => rfl
      | true => exact absurd ⟨by omega, e⟩ h
    have h0 := flow_right_f hF
    rw [hr] at h0
    have hB : ∀ q, flow_Before.f q v k l = some [] := fun q => by unfold flow_Before.f; rw [h0]; rfl
    have hR : ∀ q, flow_Reached.f q v k l = some [] := fun q => by unfold flow_Reached.f; rw [h0]; rfl
    have hO : ∀ q, flow_Order.f q v k l = some [] := fun q => by unfold flow_Order.f; rw [h0]; rfl
    have hL : ∀ q, flow_Loops.f q v k l = some [] := fun q => by unfold flow_Loops.f; rw [hR, hB]; rfl
    have hA : ∀ q, flow_Ahead.f q v k l 0 0 = some false := fun q => by unfold flow_Ahead.f; rw [hR]; rfl
    refine Ev.if_neg hl ?_
    rw [right_f hF, hr]
    simp only [Option.bind_some]
    refine Ev.end_ fun q => ?_
    simp only [spinnakerlaw33_wrong.j0, hB, hR, hO, hL, hA, Option.bind_some]
    rfl

noncomputable def domI (l : List S36) (h : Nat) (x : Int) : Bool := @decide (Dom l (h : Int) x) (Classical.propDecidable _)
theorem domI_iff {l : List S36} {h : Nat} {x : Int} : domI l h x = true ↔ Dom l (h : Int) x := by unfold domI; simp
theorem dom_nat {l : List S36} {h b : Nat} (hb : b < l.length) (hh : h < l.length) : Dom l (h : Int) (b : Int) ↔ Rch l (-1) h ∧ Rch l (-1) b ∧ (h = b ∨ ¬ Rch l (h : Int) b) := by
  constructor
  · rintro ⟨a', b', e1, e2, _, _, h1, h2, h3⟩
    obtain rfl := Int.ofNat.inj e1
    obtain rfl := Int.ofNat.inj e2
    exact ⟨h1, h2, h3⟩
  · rintro ⟨h1, h2, h3⟩
    exact ⟨h, b, rfl, rfl, hh, hb, h1, h2, h3⟩
/-- The blocks from which a way back leads to a head. -/
noncomputable def frL (l : List S36) (h : Nat) : List Int := (befL (toB l h) l.length).filter (domI l h)
theorem mem_frL {l : List S36} {h : Nat} {x : Int} (hx : x ∈ frL l h) : ∃ n : Nat, x = (n : Int) ∧ n < l.length ∧ Dom l (h : Int) x := by
  obtain ⟨h1, h2⟩ := List.mem_filter.1 hx
  obtain ⟨b, e, hb, _⟩ := mem_befL.1 h1
  exact ⟨b, e, hb, domI_iff.1 h2⟩
theorem starts_l0 (v : Int) (k : List Int) {l : List S36} (hE : Edged l) (r : List Bool) (hr : r.length = l.length) (hc : ∀ b, b < l.length → (r.getD b false = true ↔ Rch l (-1) b)) (h : Nat) (hh : h < l.length) (hrh : Rch l (-1) h) (xs : List Int) (hxs : ∀ x ∈ xs, ∃ n : Nat, x = (n : Int) ∧ n < l.length) (hxl : xs.length ≤ 1000) :
    ∀ d i out, i ≤ xs.length → xs.length - i = d → out.length ≤ i → Ev (fun q => flow_starts.l0 q r (h : Int) out xs (xs.length : Int) (i : Int) v k l) (out ++ (xs.drop i).filter (domI l h)) := by
  intro d
  induction d with
  | zero =>
    intro i out hi hd ho
    rw [List.drop_eq_nil_of_le (by omega), List.filter_nil, List.append_nil]
    exact Ev.end_ fun q => by simp only [flow_starts.l0]; rw [if_neg (by omega)]
  | succ d ih =>
    intro i out hi hd ho
    have h1 : i < xs.length := by omega
    obtain ⟨n, hxn, hn⟩ := hxs _ (List.getElem_mem h1)
    rw [drop_cons xs i h1, List.filter_cons]
    have hD := dom_nat (h := h) hn hh
    by_cases hrn : r.getD n false = true
    · obtain ⟨t, ht, hp⟩ := ahead_ev v k hE h n hn
      have hdt : domI l h xs[i] = t := by
        rw [Bool.eq_iff_iff, domI_iff, hxn, hD, hp]
        exact ⟨fun h => h.2.2, fun h => ⟨hrh, (hc n hn).1 hrn, h⟩⟩
      rw [hdt]
      refine Ev.by (f := fun q => (flow_ahead.f q v k l (h : Int) (n : Int)).bind fun t => if t = true then (if out.length < 17592186044416 then flow_starts.l0 q r (h : Int) (out ++ [(n : Int)]) xs (xs.length : Int) ((i + 1 : Nat) : Int) v k l else none) else flow_starts.l0 q r (h : Int) out xs (xs.length : Int) ((i + 1 : Nat) : Int) v k l) (Ev.bind ht ?_) fun q => ?_
      · cases t with
        | true =>
          have := ih (i + 1) (out ++ [(n : Int)]) (by omega) (by omega) (by rw [List.length_append]; simp only [List.length_singleton]; omega)
          rw [List.append_assoc] at this
          rw [if_pos rfl, hxn]
          exact Ev.if_pos rfl (Ev.if_pos (by omega) this)
        | false =>
          rw [if_neg (by decide)]
          exact Ev.if_neg (by decide) (ih (i + 1) out (by omega) (by omega) (by omega))
      · simp only [flow_starts.l0]
        rw [if_pos (by omega), if_pos (by omega), if_pos (by omega), rd_nat _ _ h1, hxn, if_pos (by omega), if_pos (by omega), rdB_nat, if_pos hrn, wrap_succ i (by omega)]
    · have hdt : domI l h xs[i] = false := by
        cases e : domI l h xs[i] with
        | false => rfl
        | true =>
          rw [domI_iff, hxn, hD] at e
          exact absurd ((hc n hn).2 e.2.1) hrn
      rw [hdt, if_neg (by decide)]
      refine Ev.by (ih (i + 1) out (by omega) (by omega) (by omega)) fun q => ?_
      simp only [flow_starts.l0]
      rw [if_pos (by omega), if_pos (by omega), if_pos (by omega), rd_nat _ _ h1, hxn, if_pos (by omega), if_pos (by omega), rdB_nat, if_neg hrn, wrap_succ i (by omega)]
theorem befs_nat {l : List S36} (i : Nat) : ∀ x ∈ befL (toB l i) l.length, ∃ n : Nat, x = (n : Int) ∧ n < l.length := fun x hx => by
  obtain ⟨b, e, hb, _⟩ := mem_befL.1 hx
  exact ⟨b, e, hb⟩
theorem starts_ev (v : Int) (k : List Int) {l : List S36} (hE : Edged l) (r : List Bool) (hr : r.length = l.length) (hc : ∀ b, b < l.length → (r.getD b false = true ↔ Rch l (-1) b)) (h : Nat) (hh : h < l.length) (hrh : Rch l (-1) h) : Ev (fun q => flow_starts.f q v k l (befTab l l.length) r (h : Int)) (frL l h) := by
  have hrow : rd_L2 (befTab l l.length) (h : Int) = befL (toB l h) l.length := by
    show (befTab l l.length).getD _ [] = _
    rw [Int.toNat_natCast]
    exact outR_get [] _ hh
  unfold flow_starts.f
  refine Ev.if_pos (by omega) (Ev.if_pos (by rw [befTab, outR_length]; omega) ?_)
  rw [hrow]
  have hle := befL_length (toB l h) l.length
  have := hE.len
  exact starts_l0 v k hE r hr hc h hh hrh _ (befs_nat h) (by omega) _ 0 [] (Nat.zero_le _) rfl (Nat.le_refl _)
theorem fromL_ev (v : Int) (k : List Int) {l : List S36} (hE : Edged l) (r : List Bool) (hr : r.length = l.length) (hc : ∀ b, b < l.length → (r.getD b false = true ↔ Rch l (-1) b)) (h : Nat) (hh : h < l.length) : ∀ (xs acc : List Int), (∀ x ∈ xs, ∃ n : Nat, x = (n : Int) ∧ n < l.length) →
    Ev (fun q => fromL q v k l r (h : Int) xs acc) (acc ++ xs.filter (domI l h))
  | [], acc, _ => by rw [List.filter_nil, List.append_nil]; exact Ev.now _
  | x :: rest, acc, hx => by
    obtain ⟨n, rfl, hn⟩ := hx x (by simp)
    have hrest := fun acc' => fromL_ev v k hE r hr hc h hh rest acc' (fun y hy => hx y (by simp [hy]))
    unfold fromL
    refine Ev.if_pos ⟨by omega, by omega⟩ ?_
    rw [Int.toNat_natCast, List.filter_cons]
    by_cases hrn : r.getD n false = true
    · obtain ⟨t, ht, hp⟩ := refAhead_ev v k hE (h : Int) (n : Int)
      have hdt : domI l h (n : Int) = t := by rw [Bool.eq_iff_iff, domI_iff, hp]
      rw [hdt]
      refine Ev.if_pos hrn (Ev.bind ht ?_)
      cases t with
      | true =>
        have := hrest (acc ++ [(n : Int)])
        rw [List.append_assoc] at this
        exact this
      | false => exact hrest acc
    · have hdt : domI l h (n : Int) = false := by
        cases e : domI l h (n : Int) with
        | false => rfl
        | true =>
          rw [domI_iff, dom_nat hn hh] at e
          exact absurd ((hc n hn).2 e.2.1) hrn
      rw [hdt, if_neg (by decide)]
      exact Ev.if_neg hrn (hrest acc)
theorem Path1.flip {R : Nat → Nat → Prop} {a b : Nat} (h : Path1 R a b) : Path1 (fun p q => R q p) b a := by
  induction h with
  | one b h => exact .one _ _ h
  | more b c _ h ih => exact Path1.trans (.one _ _ h) ih
theorem Path1.imp {R S : Nat → Nat → Prop} (hi : ∀ p q, R p q → S p q) {a b : Nat} (h : Path1 R a b) : Path1 S a b := by
  induction h with
  | one b h => exact .one _ _ (hi _ _ h)
  | more b c _ h ih => exact .more _ _ _ ih (hi _ _ h)
/-- A way back to a block is a way from it. -/
theorem back_way {l : List S36} (hE : Edged l) (h : Int) {x b : Nat} (hb : b < l.length) : Path1 (fun p q => (p : Int) ≠ h ∧ (q : Int) ≠ h ∧ (q : Int) ∈ befL (toB l p) l.length) x b ↔ Path1 (Ed l h) b x := by
  constructor
  · intro hp
    refine Path1.imp (fun p q hpq => ?_) (Path1.flip hp)
    obtain ⟨n, e, hn, ht⟩ := mem_befL.1 hpq.2.2
    obtain rfl := Int.ofNat.inj e
    exact ⟨hpq.2.1, hpq.1, by simpa [toB] using ht⟩
  · intro hp
    have : x < l.length ∧ Path1 (fun p q => p < l.length ∧ Ed l h p q) b x := by
      induction hp with
      | one c hc => exact ⟨by have := hE.tgt b hb _ hc.2.2; omega, .one _ _ ⟨hb, hc⟩⟩
      | more c d _ hc ih => exact ⟨by have := hE.tgt c ih.1 _ hc.2.2; omega, .more _ _ _ ih.2 ⟨ih.1, hc⟩⟩
    refine Path1.imp (fun p q hpq => ?_) (Path1.flip this.2)
    exact ⟨hpq.2.2.1, hpq.2.1, mem_befL.2 ⟨q, rfl, hpq.1, by simpa [toB] using hpq.2.2.2⟩⟩
/-- Is a block one of a head's loop? -/
def InLoop (l : List S36) (h b : Nat) : Prop := b = h ∨ (Rch l (-1) b ∧ ∃ x : Nat, (x : Int) ∈ frL l h ∧ (x : Int) ≠ (h : Int) ∧ (b = x ∨ Path1 (Ed l (h : Int)) b x))
noncomputable def loopB (l : List S36) (h : Nat) : List Int := befL (fun b => @decide (InLoop l h b) (Classical.propDecidable _)) l.length
noncomputable def loopsS (l : List S36) : Nat → Nat → List (Int × List Int)
  | 0, _ => []
  | d + 1, h => (@ite _ (Rch l (-1) h ∧ (frL l h).length ≠ 0) (Classical.propDecidable _) [((h : Int), loopB l h)] []) ++ loopsS l d (h + 1)
theorem walkB_ev {l : List S36} (hE : Edged l) (r : List Bool) (hr : r.length = l.length) (hc : ∀ b, b < l.length → (r.getD b false = true ↔ Rch l (-1) b)) (h : Nat) : ∃ met, Ev (fun q => walkF (befF (befTab l l.length)) q (r.length : Int) (frL l h) (h : Int)) met ∧ blocksF r met h = loopB l h := by
  have hl := hE.len
  obtain ⟨m, h1, h2, h3⟩ := walk_ev (befF (befTab l l.length)) (fun b => befL (toB l b) l.length) l.length 30 (frL l h) (h : Int) (fun b hb => by
      unfold befF
      rw [if_pos ⟨by omega, by rw [befTab, outR_length]; omega⟩, Int.toNat_natCast, befTab, outR_get [] _ hb]) (fun b _ x hx => by obtain ⟨n, rfl, hn⟩ := befs_nat b x hx; omega) (fun b _ => by have := befL_length (toB l b) l.length; omega)
    (fun x hx => by obtain ⟨n, rfl, hn, _⟩ := mem_frL hx; omega)
    (by
      have h4 : (frL l h).length ≤ l.length := Nat.le_trans (List.length_filter_le _ _) (befL_length _ _)
      omega) (by omega)
  refine ⟨m, by rw [hr]; exact h1, ?_⟩
  unfold blocksF loopB
  rw [h2]
  refine befL_congr fun b hb => ?_
  rw [Bool.eq_iff_iff, @decide_eq_true_iff _ (Classical.propDecidable _)]
  unfold inF InLoop
  simp only [Bool.or_eq_true, Bool.and_eq_true, decide_eq_true_eq]
  rw [h3 b hb, hc b hb, reach_way]
  constructor
  · rintro (h | ⟨⟨x, g1, g2, g3⟩, g4⟩)
    · exact .inl (Int.ofNat.inj h)
    · exact .inr ⟨g4, x, g1, g2, g3.imp Eq.symm (back_way hE _ hb).1⟩
  · rintro (h | ⟨g4, x, g1, g2, g3⟩)
    · exact .inl (by rw [h])
    · exact .inr ⟨⟨x, g1, g2, g3.imp Eq.symm (back_way hE _ hb).2⟩, g4⟩
theorem flowLoopsL_ev (v : Int) (k : List Int) {l : List S36} (hE : Edged l) (r : List Bool) (hr : r.length = l.length) (hc : ∀ b, b < l.length → (r.getD b false = true ↔ Rch l (-1) b)) : ∀ d h out, h + d = l.length →
    Ev (fun q => loopsL q v k l r (befTab l l.length) d h out) (out ++ (loopsS l d h).map fun p => (⟨p.1, p.2⟩ : S55))
  | 0, h, out, _ => by rw [loopsS, List.map_nil, List.append_nil]; exact Ev.now _
  | d + 1, h, out, hd => by
    have hh : h < l.length := by omega
    unfold loopsL
    rw [loopsS]
    by_cases hrh : r.getD h false = true
    · have hR := (hc h hh).1 hrh
      refine Ev.if_pos hrh (Ev.bind (starts_ev v k hE r hr hc h hh hR) ?_)
      by_cases hz : (frL l h).length = 0
      · rw [if_neg (fun h => h.2 hz), List.nil_append]
        exact Ev.if_pos hz (flowLoopsL_ev v k hE r hr hc d (h + 1) out (by omega))
      · rw [if_pos ⟨hR, hz⟩]
        obtain ⟨met, hm, hb⟩ := walkB_ev hE r hr hc h
        refine Ev.if_neg hz (Ev.bind hm ?_)
        have := flowLoopsL_ev v k hE r hr hc d (h + 1) (out ++ [⟨(h : Int), loopB l h⟩]) (by omega)
        rw [hb]
        rw [List.append_assoc] at this
        exact this
    · rw [if_neg (fun h' => hrh ((hc h hh).2 h'.1)), List.nil_append]
      exact Ev.if_neg hrh (flowLoopsL_ev v k hE r hr hc d (h + 1) out (by omega))
theorem flowLoops_ev {v : Int} {k : List Int} {l : List S36} (hF : Fine v k l) (hr : refRB v k l 200 = true) (hE : Edged l) : Ev (fun q => flow_Loops.f q v k l) ((loopsS l l.length 0).map fun p => (⟨p.1, p.2⟩ : S55)) := by
  obtain ⟨r, h1, h2, h3⟩ := flowReached_ev hF hr hE
  have := hE.len
  unfold flow_Loops.f
  refine Ev.bind h1 (Ev.bind (before_ev hF hr hE) (Ev.if_pos (by omega) ?_))
  rw [h2]
  exact flowLoopsL_ev v k hE r h2 h3 l.length 0 [] (by omega)
theorem refBlocks {l : List S36} (hE : Edged l) (r : List Bool) (hc : ∀ b, b < l.length → (r.getD b false = true ↔ Rch l (-1) b)) (h : Nat) {c : List (List Bool)} (hp : ∀ a b, a < l.length → b < l.length → (hasP l.length c (a : Int) (b : Int) = true ↔ Path1 (Ed l (h : Int)) a b)) : befL (inB r l.length c h (frL l h)) l.length = loopB l h := by
  refine befL_congr fun b hb => ?_
  rw [Bool.eq_iff_iff, @decide_eq_true_iff _ (Classical.propDecidable _)]
  unfold inB InLoop memP
  simp only [Bool.or_eq_true, Bool.and_eq_true, beq_iff_eq, bne_iff_ne, List.any_eq_true]
  rw [hc b hb]
  constructor
  · rintro (h | ⟨x, g1, g2, g3, g4⟩)
    · exact .inl (Int.ofNat.inj h)
    · obtain ⟨n, rfl, hn, _⟩ := mem_frL g1
      exact .inr ⟨g2, n, g1, g3, g4.imp (fun e => Int.ofNat.inj e) (hp b n hb hn).1⟩
  · rintro (h | ⟨g2, n, g1, g3, g4⟩)
    · exact .inl (by rw [h])
    · obtain ⟨n', e, hn, _⟩ := mem_frL g1
      obtain rfl := Int.ofNat.inj e
      exact .inr ⟨n, g1, g2, g3, g4.imp (fun e => by rw [e]) (hp b n hb hn).2⟩
theorem refLoopsL_ev (v : Int) (k : List Int) {l : List S36} (hE : Edged l) (r : List Bool) (hr : r.length = l.length) (hc : ∀ b, b < l.length → (r.getD b false = true ↔ Rch l (-1) b)) : ∀ d h out, h + d = l.length →
    Ev (fun q => rloopsL q v k l r d h out) (out ++ (loopsS l d h).map fun p => (⟨p.1, p.2⟩ : S56))
  | 0, h, out, _ => by rw [loopsS, List.map_nil, List.append_nil]; exact Ev.now _
  | d + 1, h, out, hd => by
    have hh : h < l.length := by omega
    have hl := hE.len
    have hbl := befL_length (toB l h) l.length
    unfold rloopsL
    rw [loopsS, refBefore_ev v k hE h hh]
    simp only [Option.bind_some]
    have hfrom := fromL_ev v k hE r hr hc h hh (befL (toB l h) l.length) [] (befs_nat h)
    rw [List.nil_append] at hfrom
    refine Ev.if_pos (by omega) (Ev.bind (a := frL l h) hfrom ?_)
    by_cases hcnd : r.getD h false = true ∧ (frL l h).length ≠ 0
    · rw [if_pos ⟨(hc h hh).1 hcnd.1, hcnd.2⟩]
      obtain ⟨e, c, he, hcc, _, hp⟩ := way_ev hE (h : Int)
      refine Ev.if_pos hcnd ?_
      rw [he]
      simp only [Option.bind_some]
      refine Ev.bind hcc ?_
      have := refLoopsL_ev v k hE r hr hc d (h + 1) (out ++ [⟨(h : Int), loopB l h⟩]) (by omega)
      rw [refBlocks hE r hc h hp]
      rw [List.append_assoc] at this
      exact this
    · rw [if_neg (fun h' => hcnd ⟨(hc h hh).2 h'.1, h'.2⟩), List.nil_append]
      exact Ev.if_neg hcnd (refLoopsL_ev v k hE r hr hc d (h + 1) out (by omega))
theorem refLoops_ev (v : Int) (k : List Int) {l : List S36} (hE : Edged l) : Ev (fun q => spinnakerref33_Loops.f q v k l) ((loopsS l l.length 0).map fun p => (⟨p.1, p.2⟩ : S56)) := by
  obtain ⟨r, h1, h2, h3⟩ := refReached_ev v k hE (-1)
  unfold spinnakerref33_Loops.f
  exact Ev.bind h1 (refLoopsL_ev v k hE r h2 h3 l.length 0 [] (by omega))
theorem mem_loops {l : List S36} : ∀ {d h : Nat} {p : Int × List Int}, p ∈ loopsS l d h → h + d = l.length → ∃ n : Nat, n < l.length ∧ Rch l (-1) n ∧ p = ((n : Int), loopB l n)
  | 0, _, _, hp, _ => by rw [loopsS] at hp; cases hp
  | d + 1, h, p, hp, hd => by
    rw [loopsS] at hp
    rcases List.mem_append.1 hp with hp | hp
    · split at hp
      · rename_i hc
        exact ⟨h, by omega, hc.1, List.mem_singleton.1 hp⟩
      · cases hp
    · exact mem_loops hp (by omega)
theorem rch_on {l : List S36} {but : Int} {a b : Nat} (h : Rch l but a) (hp : Path1 (Ed l but) a b) : Rch l but b := by
  induction hp with
  | one b hb => exact .step _ _ h hb.2.2 hb.2.1
  | more b c _ hc ih => exact .step _ _ ih hc.2.2 hc.2.1
/-- A head is ahead of its loop's blocks. -/
theorem head_dom {l : List S36} {h : Nat} (hh : h < l.length) (hR : Rch l (-1) h) {x : Int} (hx : x ∈ loopB l h) : Dom l (h : Int) x := by
  obtain ⟨b, rfl, hb, hi⟩ := mem_befL.1 hx
  rw [@decide_eq_true_iff _ (Classical.propDecidable _)] at hi
  rcases hi with rfl | ⟨h1, n, h2, h3, h4⟩
  · exact (dom_nat hb hb).2 ⟨hR, hR, .inl rfl⟩
  · obtain ⟨n', e, hn, hD⟩ := mem_frL h2
    obtain rfl := Int.ofNat.inj e
    refine (dom_nat hb hh).2 ⟨hR, h1, .inr fun h5 => ?_⟩
    obtain ⟨_, _, h6⟩ := (dom_nat hn hh).1 hD
    rcases h6 with h6 | h6
    · exact h3 (by rw [h6])
    · rcases h4 with rfl | h4
      · exact h6 h5
      · exact h6 (rch_on h5 h4)

theorem loops_l1 (v : Int) (k : List Int) {l : List S36} (hE : Edged l) (L : List S55) (M : List S56) (i h : Nat) (hi : i < L.length) (hh : h < l.length) (hR : Rch l (-1) h) (hLi : rd_T55 L (i : Int) = ⟨(h : Int), loopB l h⟩) (hn : Ev (fun q => spinnakerlaw33_FlowLoops.l0 q L M ((i + 1 : Nat) : Int) v k l) true) (hil : i ≤ 1000) :
    ∀ d j, j ≤ (loopB l h).length → (loopB l h).length - j = d → Ev (fun q => spinnakerlaw33_FlowLoops.l1 q L M (i : Int) (j : Int) v k l) true := by
  have hll : (loopB l h).length ≤ l.length := befL_length _ _
  have hl := hE.len
  intro d
  induction d with
  | zero =>
    intro j hj hd
    refine Ev.by hn fun q => ?_
    simp only [spinnakerlaw33_FlowLoops.l1, hLi]
    rw [if_pos (by omega), if_pos (by omega), if_neg (by omega), wrap_succ i (by omega)]
  | succ d ih =>
    intro j hj hd
    have hjl : j < (loopB l h).length := by omega
    obtain ⟨t, ht, hp⟩ := refAhead_ev v k hE (h : Int) ((loopB l h)[j])
    obtain rfl : t = true := hp.2 (head_dom hh hR (List.getElem_mem hjl))
    refine Ev.by (f := fun q => (spinnakerref33_Ahead.f q v k l (h : Int) ((loopB l h)[j])).bind fun t => if t = true then spinnakerlaw33_FlowLoops.l1 q L M (i : Int) ((j + 1 : Nat) : Int) v k l else some false) (Ev.bind ht (Ev.if_pos rfl (ih (j + 1) (by omega) (by omega)))) fun q => ?_
    simp only [spinnakerlaw33_FlowLoops.l1, hLi]
    rw [if_pos (by omega), if_pos (by omega), if_pos (by omega), if_pos (by omega), rd_nat _ _ hjl, wrap_succ j (by omega)]
theorem loopsS_len (l : List S36) : ∀ d h, (loopsS l d h).length ≤ d
  | 0, _ => by rw [loopsS]; simp
  | d + 1, h => by
    rw [loopsS, List.length_append]
    have := loopsS_len l d (h + 1)
    split <;> simp <;> omega
theorem loops_l0 (v : Int) (k : List Int) {l : List S36} (hE : Edged l) : ∀ d i, i ≤ (loopsS l l.length 0).length → (loopsS l l.length 0).length - i = d →
    Ev (fun q => spinnakerlaw33_FlowLoops.l0 q ((loopsS l l.length 0).map fun p => (⟨p.1, p.2⟩ : S55)) ((loopsS l l.length 0).map fun p => (⟨p.1, p.2⟩ : S56)) (i : Int) v k l) true := by
  have hl := hE.len
  have hsl := loopsS_len l l.length 0
  intro d
  induction d with
  | zero =>
    intro i hi hd
    refine Ev.by (f := fun q => (spinnakerlaw33_awake.f q).bind fun t => some t) (Ev.bind awake33_ev (Ev.now _)) fun q => ?_
    simp only [spinnakerlaw33_FlowLoops.l0]
    rw [if_neg (by rw [List.length_map]; omega)]
  | succ d ih =>
    intro i hi hd
    have hil : i < (loopsS l l.length 0).length := by omega
    obtain ⟨h, hh, hR, hp⟩ := mem_loops (List.getElem_mem hil) (by omega)
    have e1 : rd_T55 ((loopsS l l.length 0).map fun p => (⟨p.1, p.2⟩ : S55)) (i : Int) = ⟨(h : Int), loopB l h⟩ := by simp [rd_T55, hil, hp]
    have e2 : rd_T56 ((loopsS l l.length 0).map fun p => (⟨p.1, p.2⟩ : S56)) (i : Int) = ⟨(h : Int), loopB l h⟩ := by simp [rd_T56, hil, hp]
    have hll : (loopB l h).length ≤ l.length := befL_length _ _
    have hl1 := loops_l1 v k hE _ ((loopsS l l.length 0).map fun p => (⟨p.1, p.2⟩ : S56)) i h (by rw [List.length_map]; exact hil) hh hR e1 (ih (i + 1) (by omega) (by omega)) (by omega) _ 0 (Nat.zero_le _) rfl
    refine Ev.by (f := fun q => (spinnakerref01_Ints.f q (loopB l h) (loopB l h)).bind fun t => spinnakerlaw33_FlowLoops.j1 q ((loopsS l l.length 0).map fun p => (⟨p.1, p.2⟩ : S55)) ((loopsS l l.length 0).map fun p => (⟨p.1, p.2⟩ : S56)) (i : Int) (!t) v k l) (Ev.bind (ints_ev _ _ (by omega)) ?_) fun q => ?_
    · refine Ev.by hl1 fun q => ?_
      simp only [spinnakerlaw33_FlowLoops.j1]
      rw [if_neg (by simp)]
      rfl
    · simp only [spinnakerlaw33_FlowLoops.l0, e1, e2]
      rw [if_pos (by rw [List.length_map]; omega), if_pos (by omega), if_pos (by rw [List.length_map]; omega), if_pos trivial]
theorem FlowLoops : spinnakerlaw33_FlowLoops.Pure := by
  intro v k l ho hw
  have hF := fine_of ho hw
  apply Ev.rounds
  unfold spinnakerlaw33_FlowLoops.f spinnakerlaw33_right.f
  by_cases hg : l.length ≤ 30 ∧ refRB v k l 200 = true
  · have hE := edged_of hg.1 hg.2
    rw [if_pos (by have := hg.1; omega), right_f hF, hg.2]
    simp only [Option.bind_some]
    exact Ev.if_pos trivial (Ev.bind (flowLoops_ev hF hg.2 hE) (Ev.bind (refLoops_ev v k hE) (Ev.if_pos (by rw [List.length_map, List.length_map]) (loops_l0 v k hE _ 0 (Nat.zero_le _) rfl))))
  · have hwr := wrong33_ev hF hg
    have hoff : (if (l.length : Int) ≤ 30 then (spinnakerref26_Right.f v k l 200).bind fun t => some t else some false) = some false := by
      split
      · rw [right_f hF]
        cases e : refRB v k l 200 with
        | false => rfl
        | true => exact absurd ⟨by omega, e⟩ hg
      · rfl
    rw [hoff]
    simp only [Option.bind_some]
    exact Ev.if_neg (by decide) (Ev.bind hwr (Ev.if_pos rfl (Ev.bind awake33_ev (Ev.now _))))

end Go.Proofs.YtgenmfbidpmneaaDoor.Pure
