/- The order of a thread's reached blocks is the document's, and where no way leads round, no block leads to one that stands ahead of it; of a thread that is not right the program tells nothing. For every thread that can be read as data (where all that comes in weighs no more than the row's bound). -/
import Derived.Test.YtgenmfbidpmneaaDoorOPFlowOrdersx9
namespace Go.Proofs.YtgenmfbidpmneaaDoor.Pure
open Go.RowKit Go.Proofs.YtgenmfbidpmneaaDoor.PFlowOrders Go.Proofs.YtgenmfbidpmneaaDoorW.PrintWords Go.Proofs.YtgenmfbidpmneaaDoorW.PrintLast Go.Proofs.YtgenmfbidpmneaaDoorW.PrintMore

set_option linter.unusedVariables false
set_option linter.unusedSimpArgs false
theorem rd_nat (xs : List Int) (i : Nat) (h : i < xs.length) : rd xs (i : Int) = xs[i] := by
  simp [rd, h]
theorem rd_getD (xs : List Int) (i : Nat) : rd xs (i : Int) = xs.getD i 0 := by simp [rd]
theorem wrap_succ (i : Nat) (h : i ≤ 4611686018427387904) : wrap64 ((i : Int) + 1) = ((i + 1 : Nat) : Int) := by
  unfold wrap64
  omega
/-- One round: by an equation for every number of rounds. -/
theorem Ev.by {α : Type} {g f : Nat → Option α} {r : α} (k : Ev f r) (h : ∀ k, g (k + 1) = f k) : Ev g r := Ev.step h k
theorem Ev.end_ {α : Type} {g : Nat → Option α} {r : α} (h : ∀ k, g (k + 1) = some r) : Ev g r := Ev.step (f := fun _ => some r) h (Ev.now r)
theorem Ev.if_pos {α : Type} {c : Prop} [Decidable c] {g f : Nat → Option α} {r : α} (hc : c) (h : Ev g r) : Ev (fun k => if c then g k else f k) r := by
  exact Ev.congr (fun _ => _root_.if_pos hc) h
theorem Ev.if_neg {α : Type} {c : Prop} [Decidable c] {g f : Nat → Option α} {r : α} (hc : ¬ c) (h : Ev f r) : Ev (fun k => if c then g k else f k) r := by
  exact Ev.congr (fun _ => _root_.if_neg hc) h
theorem drop_cons {α : Type} (l : List α) (i : Nat) (h : i < l.length) : l.drop i = l[i] :: l.drop (i + 1) := List.drop_eq_getElem_cons h

theorem ints_l0 (a b : List Int) (h : a.length = b.length) (hm : a.length ≤ 4611686018427387904) : ∀ d i, i ≤ a.length → a.length - i = d →
    Ev (fun k => spinnakerref01_Ints.l0 k a b (i : Int)) (decide (a.drop i = b.drop i)) := by
  intro d
  induction d with
  | zero =>
    intro i hi hd
    rw [List.drop_eq_nil_of_le (show a.length ≤ i by omega), List.drop_eq_nil_of_le (show b.length ≤ i by omega)]
    exact Ev.end_ fun k => by simp only [spinnakerref01_Ints.l0]; rw [if_neg (by omega)]; rfl
  | succ d ih =>
    intro i hi hd
    have h1 : i < a.length := by omega
    have h2 : i < b.length := by omega
    rw [drop_cons a i h1, drop_cons b i h2]
    by_cases e : a[i] = b[i]
    · have hr : decide (a[i] :: a.drop (i + 1) = b[i] :: b.drop (i + 1)) = decide (a.drop (i + 1) = b.drop (i + 1)) := by simp only [List.cons.injEq, e, true_and]
      rw [hr]
      exact Ev.by (ih (i + 1) (by omega) (by omega)) fun k => by
        simp only [spinnakerref01_Ints.l0]
        rw [if_pos (by omega), if_pos (by omega), if_pos (by omega), if_pos (by rw [rd_nat _ _ h1, rd_nat _ _ h2]; exact e), wrap_succ i (by omega)]
    · have hr : decide (a[i] :: a.drop (i + 1) = b[i] :: b.drop (i + 1)) = false := by simp only [List.cons.injEq, e, false_and, decide_false]
      rw [hr]
      exact Ev.end_ fun k => by
        simp only [spinnakerref01_Ints.l0]
        rw [if_pos (by omega), if_pos (by omega), if_pos (by omega), if_neg (by rw [rd_nat _ _ h1, rd_nat _ _ h2]; exact e)]
theorem ints_ev (a b : List Int) (hm : a.length ≤ 4611686018427387904) : Ev (fun k => spinnakerref01_Ints.f k a b) (decide (a = b)) := by
  unfold spinnakerref01_Ints.f
  by_cases h : a.length = b.length
  · refine Ev.if_pos (by omega) ?_
    have := ints_l0 a b h hm a.length 0 (by omega) (by omega)
    simpa using this
  · refine Ev.if_neg (by omega) ?_
    have : decide (a = b) = false := by simp; intro e; exact h (by rw [e])
    rw [this]
    exact Ev.now _

theorem cond_iff (c a b : Bool) : (cond c a b = true) ↔ (c = true ∧ a = true) ∨ (¬ c = true ∧ b = true) := by cases c <;> simp
/-- What an operation has, as both tell it. -/
theorem hb_0 : hasB 0 1 = false ∧ hasB 0 2 = false ∧ hasB 0 4 = false ∧ hasB 0 8 = false ∧ hasB 0 16 = false ∧ hasB 0 32 = false ∧ hasB 0 64 = false ∧ hasB 0 128 = false ∧ hasB 0 256 = false ∧ hasB 0 512 = false ∧ (fldB 0 != 0) = false ∧ dB 0 = false ∧ aB 0 = false ∧ bB 0 = false := ⟨by kernel_rfl, by kernel_rfl, by kernel_rfl, by kernel_rfl, by kernel_rfl, by kernel_rfl, by kernel_rfl, by kernel_rfl, by kernel_rfl, by kernel_rfl, by kernel_rfl, by kernel_rfl, by kernel_rfl, by kernel_rfl⟩
theorem hb_1 : hasB 1 1 = true ∧ hasB 1 2 = false ∧ hasB 1 4 = false ∧ hasB 1 8 = false ∧ hasB 1 16 = true ∧ hasB 1 32 = false ∧ hasB 1 64 = false ∧ hasB 1 128 = false ∧ hasB 1 256 = false ∧ hasB 1 512 = false ∧ (fldB 1 != 0) = true ∧ dB 1 = true ∧ aB 1 = false ∧ bB 1 = false := ⟨by kernel_rfl, by kernel_rfl, by kernel_rfl, by kernel_rfl, by kernel_rfl, by kernel_rfl, by kernel_rfl, by kernel_rfl, by kernel_rfl, by kernel_rfl, by kernel_rfl, by kernel_rfl, by kernel_rfl, by kernel_rfl⟩
theorem hb_2 : hasB 2 1 = true ∧ hasB 2 2 = true ∧ hasB 2 4 = false ∧ hasB 2 8 = false ∧ hasB 2 16 = false ∧ hasB 2 32 = false ∧ hasB 2 64 = false ∧ hasB 2 128 = false ∧ hasB 2 256 = false ∧ hasB 2 512 = false ∧ (fldB 2 != 0) = true ∧ dB 2 = true ∧ aB 2 = true ∧ bB 2 = false := ⟨by kernel_rfl, by kernel_rfl, by kernel_rfl, by kernel_rfl, by kernel_rfl, by kernel_rfl, by kernel_rfl, by kernel_rfl, by kernel_rfl, by kernel_rfl, by kernel_rfl, by kernel_rfl, by kernel_rfl, by kernel_rfl⟩
theorem hb_3 : hasB 3 1 = true ∧ hasB 3 2 = true ∧ hasB 3 4 = true ∧ hasB 3 8 = false ∧ hasB 3 16 = false ∧ hasB 3 32 = true ∧ hasB 3 64 = false ∧ hasB 3 128 = false ∧ hasB 3 256 = false ∧ hasB 3 512 = false ∧ (fldB 3 != 0) = true ∧ dB 3 = true ∧ aB 3 = true ∧ bB 3 = true := ⟨by kernel_rfl, by kernel_rfl, by kernel_rfl, by kernel_rfl, by kernel_rfl, by kernel_rfl, by kernel_rfl, by kernel_rfl, by kernel_rfl, by kernel_rfl, by kernel_rfl, by kernel_rfl, by kernel_rfl, by kernel_rfl⟩
theorem hb_4 : hasB 4 1 = true ∧ hasB 4 2 = true ∧ hasB 4 4 = false ∧ hasB 4 8 = false ∧ hasB 4 16 = false ∧ hasB 4 32 = false ∧ hasB 4 64 = true ∧ hasB 4 128 = false ∧ hasB 4 256 = false ∧ hasB 4 512 = false ∧ (fldB 4 != 0) = true ∧ dB 4 = true ∧ aB 4 = true ∧ bB 4 = false := ⟨by kernel_rfl, by kernel_rfl, by kernel_rfl, by kernel_rfl, by kernel_rfl, by kernel_rfl, by kernel_rfl, by kernel_rfl, by kernel_rfl, by kernel_rfl, by kernel_rfl, by kernel_rfl, by kernel_rfl, by kernel_rfl⟩
theorem hb_5 : hasB 5 1 = false ∧ hasB 5 2 = true ∧ hasB 5 4 = true ∧ hasB 5 8 = false ∧ hasB 5 16 = false ∧ hasB 5 32 = false ∧ hasB 5 64 = true ∧ hasB 5 128 = false ∧ hasB 5 256 = false ∧ hasB 5 512 = false ∧ (fldB 5 != 0) = true ∧ dB 5 = false ∧ aB 5 = true ∧ bB 5 = true := ⟨by kernel_rfl, by kernel_rfl, by kernel_rfl, by kernel_rfl, by kernel_rfl, by kernel_rfl, by kernel_rfl, by kernel_rfl, by kernel_rfl, by kernel_rfl, by kernel_rfl, by kernel_rfl, by kernel_rfl, by kernel_rfl⟩
theorem hb_6 : hasB 6 1 = true ∧ hasB 6 2 = false ∧ hasB 6 4 = false ∧ hasB 6 8 = false ∧ hasB 6 16 = false ∧ hasB 6 32 = false ∧ hasB 6 64 = false ∧ hasB 6 128 = true ∧ hasB 6 256 = true ∧ hasB 6 512 = true ∧ (fldB 6 != 0) = true ∧ dB 6 = true ∧ aB 6 = false ∧ bB 6 = false := ⟨by kernel_rfl, by kernel_rfl, by kernel_rfl, by kernel_rfl, by kernel_rfl, by kernel_rfl, by kernel_rfl, by kernel_rfl, by kernel_rfl, by kernel_rfl, by kernel_rfl, by kernel_rfl, by kernel_rfl, by kernel_rfl⟩
theorem hb_7 : hasB 7 1 = false ∧ hasB 7 2 = true ∧ hasB 7 4 = false ∧ hasB 7 8 = false ∧ hasB 7 16 = false ∧ hasB 7 32 = false ∧ hasB 7 64 = false ∧ hasB 7 128 = true ∧ hasB 7 256 = true ∧ hasB 7 512 = true ∧ (fldB 7 != 0) = true ∧ dB 7 = false ∧ aB 7 = true ∧ bB 7 = false := ⟨by kernel_rfl, by kernel_rfl, by kernel_rfl, by kernel_rfl, by kernel_rfl, by kernel_rfl, by kernel_rfl, by kernel_rfl, by kernel_rfl, by kernel_rfl, by kernel_rfl, by kernel_rfl, by kernel_rfl, by kernel_rfl⟩
theorem hb_8 : hasB 8 1 = true ∧ hasB 8 2 = true ∧ hasB 8 4 = false ∧ hasB 8 8 = true ∧ hasB 8 16 = false ∧ hasB 8 32 = false ∧ hasB 8 64 = false ∧ hasB 8 128 = true ∧ hasB 8 256 = true ∧ hasB 8 512 = true ∧ (fldB 8 != 0) = true ∧ dB 8 = true ∧ aB 8 = true ∧ bB 8 = false := ⟨by kernel_rfl, by kernel_rfl, by kernel_rfl, by kernel_rfl, by kernel_rfl, by kernel_rfl, by kernel_rfl, by kernel_rfl, by kernel_rfl, by kernel_rfl, by kernel_rfl, by kernel_rfl, by kernel_rfl, by kernel_rfl⟩
theorem hb_9 : hasB 9 1 = true ∧ hasB 9 2 = true ∧ hasB 9 4 = true ∧ hasB 9 8 = false ∧ hasB 9 16 = false ∧ hasB 9 32 = false ∧ hasB 9 64 = false ∧ hasB 9 128 = true ∧ hasB 9 256 = true ∧ hasB 9 512 = true ∧ (fldB 9 != 0) = true ∧ dB 9 = true ∧ aB 9 = true ∧ bB 9 = true := ⟨by kernel_rfl, by kernel_rfl, by kernel_rfl, by kernel_rfl, by kernel_rfl, by kernel_rfl, by kernel_rfl, by kernel_rfl, by kernel_rfl, by kernel_rfl, by kernel_rfl, by kernel_rfl, by kernel_rfl, by kernel_rfl⟩
theorem hb_10 : hasB 10 1 = false ∧ hasB 10 2 = false ∧ hasB 10 4 = false ∧ hasB 10 8 = false ∧ hasB 10 16 = false ∧ hasB 10 32 = false ∧ hasB 10 64 = false ∧ hasB 10 128 = false ∧ hasB 10 256 = true ∧ hasB 10 512 = false ∧ (fldB 10 != 0) = true ∧ dB 10 = false ∧ aB 10 = false ∧ bB 10 = false := ⟨by kernel_rfl, by kernel_rfl, by kernel_rfl, by kernel_rfl, by kernel_rfl, by kernel_rfl, by kernel_rfl, by kernel_rfl, by kernel_rfl, by kernel_rfl, by kernel_rfl, by kernel_rfl, by kernel_rfl, by kernel_rfl⟩
theorem hb_11 : hasB 11 1 = false ∧ hasB 11 2 = true ∧ hasB 11 4 = false ∧ hasB 11 8 = false ∧ hasB 11 16 = false ∧ hasB 11 32 = false ∧ hasB 11 64 = false ∧ hasB 11 128 = false ∧ hasB 11 256 = false ∧ hasB 11 512 = true ∧ (fldB 11 != 0) = true ∧ dB 11 = false ∧ aB 11 = true ∧ bB 11 = false := ⟨by kernel_rfl, by kernel_rfl, by kernel_rfl, by kernel_rfl, by kernel_rfl, by kernel_rfl, by kernel_rfl, by kernel_rfl, by kernel_rfl, by kernel_rfl, by kernel_rfl, by kernel_rfl, by kernel_rfl, by kernel_rfl⟩
theorem fld_out (x : Int) (h : ¬ (0 ≤ x ∧ x < 12)) : ir_fields.f x = some 0 := by unfold ir_fields.f; rw [if_neg h]
theorem hb_out (x : Int) (h : ¬ (0 ≤ x ∧ x < 12)) : hasB x 1 = false ∧ hasB x 2 = false ∧ hasB x 4 = false ∧ hasB x 8 = false ∧ hasB x 16 = false ∧ hasB x 32 = false ∧ hasB x 64 = false ∧ hasB x 128 = false ∧ hasB x 256 = false ∧ hasB x 512 = false ∧ (fldB x != 0) = false := by
  unfold hasB fldB
  rw [fld_out x h]
  exact ⟨by kernel_rfl, by kernel_rfl, by kernel_rfl, by kernel_rfl, by kernel_rfl, by kernel_rfl, by kernel_rfl, by kernel_rfl, by kernel_rfl, by kernel_rfl, by kernel_rfl⟩
theorem op_split (x : Int) : x = 1 ∨ x = 2 ∨ x = 3 ∨ x = 4 ∨ x = 5 ∨ x = 6 ∨ x = 7 ∨ x = 8 ∨ x = 9 ∨ x = 10 ∨ x = 11 ∨ x = 0 ∨ ¬ (0 ≤ x ∧ x < 12) := by omega
theorem ins_1 (a1 a2 a3 a4 a5 a6 a7 v c : Int) (k k2 : Nat) : insR 1 a1 a2 a3 a4 a5 a6 a7 v c k k2 = insB 1 a1 a2 a3 a4 a5 a6 a7 v c k k2 := by
  obtain ⟨h0, h1, h2, h3, h4, h5, h6, h7, h8, h9, h10, h11, h12, h13⟩ := hb_1
  simp only [insR, insB, T34, T60, envR, envI, numB, ordB, withinB, h0, h1, h2, h3, h4, h5, h6, h7, h8, h9, h10, h11, h12, h13, Eval.Tr.bval, Eval.BE.den, Eval.CO.den, Eval.IE.den, List.getD_cons_zero, List.getD_cons_succ, Nat.reduceEqDiff, if_true, if_false, reduceIte]
  simp only [Int.reduceBEq, Int.reduceBNe, Int.reduceEq, Bool.false_eq_true, reduceIte, cond_true, cond_false, Bool.cond_self]
  rw [Bool.eq_iff_iff]
  simp only [cond_iff, Bool.and_eq_true, Bool.or_eq_true, decide_eq_true_eq, beq_iff_eq, bne_iff_ne, decide_eq_false_iff_not, Bool.false_eq_true, and_false, and_true, true_and, false_and, or_false, false_or]
  first | done | omega | (simp; omega)
theorem ins_2 (a1 a2 a3 a4 a5 a6 a7 v c : Int) (k k2 : Nat) : insR 2 a1 a2 a3 a4 a5 a6 a7 v c k k2 = insB 2 a1 a2 a3 a4 a5 a6 a7 v c k k2 := by
  obtain ⟨h0, h1, h2, h3, h4, h5, h6, h7, h8, h9, h10, h11, h12, h13⟩ := hb_2
  simp only [insR, insB, T34, T60, envR, envI, numB, ordB, withinB, h0, h1, h2, h3, h4, h5, h6, h7, h8, h9, h10, h11, h12, h13, Eval.Tr.bval, Eval.BE.den, Eval.CO.den, Eval.IE.den, List.getD_cons_zero, List.getD_cons_succ, Nat.reduceEqDiff, if_true, if_false, reduceIte]
  simp only [Int.reduceBEq, Int.reduceBNe, Int.reduceEq, Bool.false_eq_true, reduceIte, cond_true, cond_false, Bool.cond_self]
  rw [Bool.eq_iff_iff]
  simp only [cond_iff, Bool.and_eq_true, Bool.or_eq_true, decide_eq_true_eq, beq_iff_eq, bne_iff_ne, decide_eq_false_iff_not, Bool.false_eq_true, and_false, and_true, true_and, false_and, or_false, false_or]
  first | done | omega | (simp; omega)
theorem ins_3 (a1 a2 a3 a4 a5 a6 a7 v c : Int) (k k2 : Nat) : insR 3 a1 a2 a3 a4 a5 a6 a7 v c k k2 = insB 3 a1 a2 a3 a4 a5 a6 a7 v c k k2 := by
  obtain ⟨h0, h1, h2, h3, h4, h5, h6, h7, h8, h9, h10, h11, h12, h13⟩ := hb_3
  simp only [insR, insB, T34, T60, envR, envI, numB, ordB, withinB, h0, h1, h2, h3, h4, h5, h6, h7, h8, h9, h10, h11, h12, h13, Eval.Tr.bval, Eval.BE.den, Eval.CO.den, Eval.IE.den, List.getD_cons_zero, List.getD_cons_succ, Nat.reduceEqDiff, if_true, if_false, reduceIte]
  simp only [Int.reduceBEq, Int.reduceBNe, Int.reduceEq, Bool.false_eq_true, reduceIte, cond_true, cond_false, Bool.cond_self]
  rw [Bool.eq_iff_iff]
  simp only [cond_iff, Bool.and_eq_true, Bool.or_eq_true, decide_eq_true_eq, beq_iff_eq, bne_iff_ne, decide_eq_false_iff_not, Bool.false_eq_true, and_false, and_true, true_and, false_and, or_false, false_or]
  first | done | omega | (simp; omega)
theorem ins_4 (a1 a2 a3 a4 a5 a6 a7 v c : Int) (k k2 : Nat) : insR 4 a1 a2 a3 a4 a5 a6 a7 v c k k2 = insB 4 a1 a2 a3 a4 a5 a6 a7 v c k k2 := by
  obtain ⟨h0, h1, h2, h3, h4, h5, h6, h7, h8, h9, h10, h11, h12, h13⟩ := hb_4
  simp only [insR, insB, T34, T60, envR, envI, numB, ordB, withinB, h0, h1, h2, h3, h4, h5, h6, h7, h8, h9, h10, h11, h12, h13, Eval.Tr.bval, Eval.BE.den, Eval.CO.den, Eval.IE.den, List.getD_cons_zero, List.getD_cons_succ, Nat.reduceEqDiff, if_true, if_false, reduceIte]
  simp only [Int.reduceBEq, Int.reduceBNe, Int.reduceEq, Bool.false_eq_true, reduceIte, cond_true, cond_false, Bool.cond_self]
  rw [Bool.eq_iff_iff]
  simp only [cond_iff, Bool.and_eq_true, Bool.or_eq_true, decide_eq_true_eq, beq_iff_eq, bne_iff_ne, decide_eq_false_iff_not, Bool.false_eq_true, and_false, and_true, true_and, false_and, or_false, false_or]
  first | done | omega | (simp; omega)
theorem ins_5 (a1 a2 a3 a4 a5 a6 a7 v c : Int) (k k2 : Nat) : insR 5 a1 a2 a3 a4 a5 a6 a7 v c k k2 = insB 5 a1 a2 a3 a4 a5 a6 a7 v c k k2 := by
  obtain ⟨h0, h1, h2, h3, h4, h5, h6, h7, h8, h9, h10, h11, h12, h13⟩ := hb_5
  simp only [insR, insB, T34, T60, envR, envI, numB, ordB, withinB, h0, h1, h2, h3, h4, h5, h6, h7, h8, h9, h10, h11, h12, h13, Eval.Tr.bval, Eval.BE.den, Eval.CO.den, Eval.IE.den, List.getD_cons_zero, List.getD_cons_succ, Nat.reduceEqDiff, if_true, if_false, reduceIte]
  simp only [Int.reduceBEq, Int.reduceBNe, Int.reduceEq, Bool.false_eq_true, reduceIte, cond_true, cond_false, Bool.cond_self]
  rw [Bool.eq_iff_iff]
  simp only [cond_iff, Bool.and_eq_true, Bool.or_eq_true, decide_eq_true_eq, beq_iff_eq, bne_iff_ne, decide_eq_false_iff_not, Bool.false_eq_true, and_false, and_true, true_and, false_and, or_false, false_or]
  first | done | omega | (simp; omega)
theorem ins_6 (a1 a2 a3 a4 a5 a6 a7 v c : Int) (k k2 : Nat) : insR 6 a1 a2 a3 a4 a5 a6 a7 v c k k2 = insB 6 a1 a2 a3 a4 a5 a6 a7 v c k k2 := by
  obtain ⟨h0, h1, h2, h3, h4, h5, h6, h7, h8, h9, h10, h11, h12, h13⟩ := hb_6
  simp only [insR, insB, T34, T60, envR, envI, numB, ordB, withinB, h0, h1, h2, h3, h4, h5, h6, h7, h8, h9, h10, h11, h12, h13, Eval.Tr.bval, Eval.BE.den, Eval.CO.den, Eval.IE.den, List.getD_cons_zero, List.getD_cons_succ, Nat.reduceEqDiff, if_true, if_false, reduceIte]
  simp only [Int.reduceBEq, Int.reduceBNe, Int.reduceEq, Bool.false_eq_true, reduceIte, cond_true, cond_false, Bool.cond_self]
  rw [Bool.eq_iff_iff]
  simp only [cond_iff, Bool.and_eq_true, Bool.or_eq_true, decide_eq_true_eq, beq_iff_eq, bne_iff_ne, decide_eq_false_iff_not, Bool.false_eq_true, and_false, and_true, true_and, false_and, or_false, false_or]
  first | done | omega | (simp; omega)
theorem ins_7 (a1 a2 a3 a4 a5 a6 a7 v c : Int) (k k2 : Nat) : insR 7 a1 a2 a3 a4 a5 a6 a7 v c k k2 = insB 7 a1 a2 a3 a4 a5 a6 a7 v c k k2 := by
  obtain ⟨h0, h1, h2, h3, h4, h5, h6, h7, h8, h9, h10, h11, h12, h13⟩ := hb_7
  simp only [insR, insB, T34, T60, envR, envI, numB, ordB, withinB, h0, h1, h2, h3, h4, h5, h6, h7, h8, h9, h10, h11, h12, h13, Eval.Tr.bval, Eval.BE.den, Eval.CO.den, Eval.IE.den, List.getD_cons_zero, List.getD_cons_succ, Nat.reduceEqDiff, if_true, if_false, reduceIte]
  simp only [Int.reduceBEq, Int.reduceBNe, Int.reduceEq, Bool.false_eq_true, reduceIte, cond_true, cond_false, Bool.cond_self]
  rw [Bool.eq_iff_iff]
  simp only [cond_iff, Bool.and_eq_true, Bool.or_eq_true, decide_eq_true_eq, beq_iff_eq, bne_iff_ne, decide_eq_false_iff_not, Bool.false_eq_true, and_false, and_true, true_and, false_and, or_false, false_or]
  first | done | omega | (simp; omega)
theorem ins_8 (a1 a2 a3 a4 a5 a6 a7 v c : Int) (k k2 : Nat) : insR 8 a1 a2 a3 a4 a5 a6 a7 v c k k2 = insB 8 a1 a2 a3 a4 a5 a6 a7 v c k k2 := by
  obtain ⟨h0, h1, h2, h3, h4, h5, h6, h7, h8, h9, h10, h11, h12, h13⟩ := hb_8
  simp only [insR, insB, T34, T60, envR, envI, numB, ordB, withinB, h0, h1, h2, h3, h4, h5, h6, h7, h8, h9, h10, h11, h12, h13, Eval.Tr.bval, Eval.BE.den, Eval.CO.den, Eval.IE.den, List.getD_cons_zero, List.getD_cons_succ, Nat.reduceEqDiff, if_true, if_false, reduceIte]
  simp only [Int.reduceBEq, Int.reduceBNe, Int.reduceEq, Bool.false_eq_true, reduceIte, cond_true, cond_false, Bool.cond_self]
  rw [Bool.eq_iff_iff]
  simp only [cond_iff, Bool.and_eq_true, Bool.or_eq_true, decide_eq_true_eq, beq_iff_eq, bne_iff_ne, decide_eq_false_iff_not, Bool.false_eq_true, and_false, and_true, true_and, false_and, or_false, false_or]
  first | done | omega | (simp; omega)
theorem ins_9 (a1 a2 a3 a4 a5 a6 a7 v c : Int) (k k2 : Nat) : insR 9 a1 a2 a3 a4 a5 a6 a7 v c k k2 = insB 9 a1 a2 a3 a4 a5 a6 a7 v c k k2 := by
  obtain ⟨h0, h1, h2, h3, h4, h5, h6, h7, h8, h9, h10, h11, h12, h13⟩ := hb_9
  simp only [insR, insB, T34, T60, envR, envI, numB, ordB, withinB, h0, h1, h2, h3, h4, h5, h6, h7, h8, h9, h10, h11, h12, h13, Eval.Tr.bval, Eval.BE.den, Eval.CO.den, Eval.IE.den, List.getD_cons_zero, List.getD_cons_succ, Nat.reduceEqDiff, if_true, if_false, reduceIte]
  simp only [Int.reduceBEq, Int.reduceBNe, Int.reduceEq, Bool.false_eq_true, reduceIte, cond_true, cond_false, Bool.cond_self]
  rw [Bool.eq_iff_iff]
  simp only [cond_iff, Bool.and_eq_true, Bool.or_eq_true, decide_eq_true_eq, beq_iff_eq, bne_iff_ne, decide_eq_false_iff_not, Bool.false_eq_true, and_false, and_true, true_and, false_and, or_false, false_or]
  first | done | omega | (simp; omega)
theorem ins_10 (a1 a2 a3 a4 a5 a6 a7 v c : Int) (k k2 : Nat) : insR 10 a1 a2 a3 a4 a5 a6 a7 v c k k2 = insB 10 a1 a2 a3 a4 a5 a6 a7 v c k k2 := by
  obtain ⟨h0, h1, h2, h3, h4, h5, h6, h7, h8, h9, h10, h11, h12, h13⟩ := hb_10
  simp only [insR, insB, T34, T60, envR, envI, numB, ordB, withinB, h0, h1, h2, h3, h4, h5, h6, h7, h8, h9, h10, h11, h12, h13, Eval.Tr.bval, Eval.BE.den, Eval.CO.den, Eval.IE.den, List.getD_cons_zero, List.getD_cons_succ, Nat.reduceEqDiff, if_true, if_false, reduceIte]
  simp only [Int.reduceBEq, Int.reduceBNe, Int.reduceEq, Bool.false_eq_true, reduceIte, cond_true, cond_false, Bool.cond_self]
  rw [Bool.eq_iff_iff]
  simp only [cond_iff, Bool.and_eq_true, Bool.or_eq_true, decide_eq_true_eq, beq_iff_eq, bne_iff_ne, decide_eq_false_iff_not, Bool.false_eq_true, and_false, and_true, true_and, false_and, or_false, false_or]
  first | done | omega | (simp; omega)
theorem ins_11 (a1 a2 a3 a4 a5 a6 a7 v c : Int) (k k2 : Nat) : insR 11 a1 a2 a3 a4 a5 a6 a7 v c k k2 = insB 11 a1 a2 a3 a4 a5 a6 a7 v c k k2 := by
  obtain ⟨h0, h1, h2, h3, h4, h5, h6, h7, h8, h9, h10, h11, h12, h13⟩ := hb_11
  simp only [insR, insB, T34, T60, envR, envI, numB, ordB, withinB, h0, h1, h2, h3, h4, h5, h6, h7, h8, h9, h10, h11, h12, h13, Eval.Tr.bval, Eval.BE.den, Eval.CO.den, Eval.IE.den, List.getD_cons_zero, List.getD_cons_succ, Nat.reduceEqDiff, if_true, if_false, reduceIte]
  simp only [Int.reduceBEq, Int.reduceBNe, Int.reduceEq, Bool.false_eq_true, reduceIte, cond_true, cond_false, Bool.cond_self]
  rw [Bool.eq_iff_iff]
  simp only [cond_iff, Bool.and_eq_true, Bool.or_eq_true, decide_eq_true_eq, beq_iff_eq, bne_iff_ne, decide_eq_false_iff_not, Bool.false_eq_true, and_false, and_true, true_and, false_and, or_false, false_or]
  first | done | omega | (simp; omega)
theorem ins_same (i : S38) (v c : Int) (k k2 : Nat) : refI i v c k k2 = insOf i v c k k2 := by
  obtain ⟨a0, a1, a2, a3, a4, a5, a6, a7⟩ := i
  show insR a0 a1 a2 a3 a4 a5 a6 a7 v c k k2 = insB a0 a1 a2 a3 a4 a5 a6 a7 v c k k2
  have hout : ∀ x : Int, (x = 0 ∨ ¬ (0 ≤ x ∧ x < 12)) → insR x a1 a2 a3 a4 a5 a6 a7 v c k k2 = insB x a1 a2 a3 a4 a5 a6 a7 v c k k2 := by
    intro x hx
    have h10 : (fldB x != 0) = false := by
      rcases hx with rfl | hx
      · exact hb_0.2.2.2.2.2.2.2.2.2.2.1
      · exact (hb_out x hx).2.2.2.2.2.2.2.2.2.2
    have e : ∀ n : Int, 1 ≤ n → n ≤ 11 → (x == n) = false := by
      intro n h1 h2
      rw [beq_eq_false_iff_ne]
      omega
    simp only [insR, insB, T34, T60, envR, envI, Eval.Tr.bval, Eval.BE.den, Eval.CO.den, Eval.IE.den, List.getD_cons_zero, List.getD_cons_succ, h10, e 1 (by decide) (by decide), e 2 (by decide) (by decide), e 3 (by decide) (by decide), e 4 (by decide) (by decide), e 5 (by decide) (by decide), e 6 (by decide) (by decide), e 7 (by decide) (by decide), e 8 (by decide) (by decide), e 9 (by decide) (by decide), e 10 (by decide) (by decide), e 11 (by decide) (by decide), cond_false, Bool.cond_self]
  rcases op_split a0 with rfl | rfl | rfl | rfl | rfl | rfl | rfl | rfl | rfl | rfl | rfl | h | h
  · exact ins_1 ..
  · exact ins_2 ..
  · exact ins_3 ..
  · exact ins_4 ..
  · exact ins_5 ..
  · exact ins_6 ..
  · exact ins_7 ..
  · exact ins_8 ..
  · exact ins_9 ..
  · exact ins_10 ..
  · exact ins_11 ..
  · exact hout a0 (.inl h)
  · exact hout a0 (.inr h)
theorem end_same (e : S34) (v : Int) (k : List Int) (k2 : List S36) : endR e v (k2.length : Int) = endOf e v k k2 := by
  obtain ⟨e0, e1, e2, e3⟩ := e
  unfold endR endR4 endOf ir_ends.f
  simp only [within_some, Option.bind_some]
  by_cases h1 : e0 = 1
  · subst h1
    simp only [reduceIte, Int.reduceBEq, cond_true]
    by_cases h2 : withinB true e2 (k2.length : Int) = true
    · rw [if_pos h2]
      simp only [withinB, cond_true, Bool.cond_false_right, Bool.and_eq_true, decide_eq_true_eq] at h2
      by_cases h3 : e1 = 0
      · rw [if_pos h3, Bool.eq_iff_iff]; simp [h3]; omega
      · rw [if_neg h3, Bool.eq_iff_iff]; simp [h3]
    · rw [if_neg h2, Bool.eq_iff_iff]
      simp only [withinB, cond_true, Bool.cond_false_right, Bool.and_eq_true, decide_eq_true_eq] at h2
      simp; omega
  by_cases h2 : e0 = 2
  · subst h2
    rw [if_neg (by decide)]
    simp only [reduceIte, Int.reduceBEq, cond_true, cond_false]
    by_cases h2 : withinB true e2 (k2.length : Int) = true
    · rw [if_pos h2]
      simp only [withinB, cond_true, Bool.cond_false_right, Bool.and_eq_true, decide_eq_true_eq] at h2
      by_cases h3 : withinB true e3 (k2.length : Int) = true
      · rw [if_pos h3, Bool.eq_iff_iff]
        simp only [withinB, cond_true, Bool.cond_false_right, Bool.and_eq_true, decide_eq_true_eq] at h3
        simp [withinB]; omega
      · rw [if_neg h3, Bool.eq_iff_iff]
        simp only [withinB, cond_true, Bool.cond_false_right, Bool.and_eq_true, decide_eq_true_eq] at h3
        simp; omega
    · rw [if_neg h2, Bool.eq_iff_iff]
      simp only [withinB, cond_true, Bool.cond_false_right, Bool.and_eq_true, decide_eq_true_eq] at h2
      simp; omega
  rw [if_neg h1, if_neg h2, beq_eq_false_iff_ne.2 h1, beq_eq_false_iff_ne.2 h2]
  simp only [cond_false]
  by_cases h3 : e0 = 3
  · subst h3
    rw [if_pos rfl, Bool.eq_iff_iff]; simp
  · rw [if_neg h3, beq_eq_false_iff_ne.2 h3]; rfl
/-- The two notes of which ids have come: they tell the same. -/
def Agree (ids : List Int) (g : Int → Option Int) : Prop := ∀ x, 0 < x → (ids.contains x = decide (0 < (g x).getD 0))
theorem go_ins (v c : Int) (k k2 : Nat) : ∀ (l : List S38) (ids : List Int) (g : Int → Option Int), Agree ids g →
    (goRI v c k k2 ids l = none ∧ goI v c k k2 g l = none) ∨ ∃ ids' g', goRI v c k k2 ids l = some ids' ∧ goI v c k k2 g l = some g' ∧ Agree ids' g'
  | [], ids, g, h => .inr ⟨ids, g, rfl, rfl, h⟩
  | i :: r, ids, g, h => by
    rw [goRI, goI, ins_same]
    cases insOf i v c k k2 with
    | false => exact .inl ⟨rfl, rfl⟩
    | true =>
      simp only [cond_true]
      by_cases h0 : 0 < i.f7
      · rw [decide_eq_true h0, ← h i.f7 h0]
        simp only [cond_true]
        cases ids.contains i.f7 with
        | true => exact .inl ⟨rfl, rfl⟩
        | false =>
          refine go_ins v c k k2 r _ _ fun x hx => ?_
          by_cases e : x = i.f7
          · subst e; simp
          · have := h x hx
            simp only [if_neg e, ← this]
            simp [e]
      · rw [decide_eq_false h0]
        simp only [cond_false]
        refine go_ins v c k k2 r _ _ fun x hx => ?_
        have e : x ≠ i.f7 := by omega
        simp only [if_neg e]
        exact h x hx
theorem go_blocks (v c : Int) (k : List Int) (k2 : List S36) : ∀ (l : List S36) (ids : List Int) (g : Int → Option Int), Agree ids g → goRB v c k.length k2.length ids l = goB v c k k2 g l
  | [], ids, g, h => rfl
  | b :: r, ids, g, h => by
    rw [goRB, goB]
    rcases go_ins v c k.length k2.length b.f0 ids g h with ⟨h1, h2⟩ | ⟨ids', g', h1, h2, h3⟩
    · rw [h1, h2]
    · rw [h1, h2]
      simp only [end_same b.f1 v k k2, go_blocks v c k k2 r ids' g' h3]
theorem right_same (v : Int) (k : List Int) (l : List S36) (c : Int) : refRB v k l c = rightB v k l c := by
  unfold refRB rightB
  rw [go_blocks v c k l l [] (fun _ => none) (fun x _ => by simp)]
  rfl

theorem sum_len {α : Type} {f : α → Nat} (hf : ∀ x, 1 ≤ f x) (l : List α) : l.length ≤ (l.map f).sum := by
  induction l with
  | nil => simp
  | cons x r ih => have := hf x; simp only [List.length_cons, List.map_cons, List.sum_cons]; omega
theorem sum_mem {α : Type} {f : α → Nat} {l : List α} {x : α} (h : x ∈ l) : f x ≤ (l.map f).sum := by
  induction l with
  | nil => cases h
  | cons y r ih =>
    simp only [List.map_cons, List.sum_cons]
    rcases List.mem_cons.1 h with rfl | h
    · omega
    · have := ih h; omega
/-- A thread of whole numbers of Go, and not too long. -/
structure Fine (v : Int) (k : List Int) (l : List S36) : Prop where
  fv : (Lit.int .i64 v).wf = true
  fk : k.length ≤ 1048576
  fkw : ∀ x ∈ k, (Lit.int .i64 x).wf = true
  fl : l.length ≤ 1048576
  fb : ∀ b ∈ l, b.f0.length ≤ 1048576
  fi : ∀ b ∈ l, ∀ i ∈ b.f0, ok_S38 i
  fe : ∀ b ∈ l, ok_S34 b.f1
theorem fine_of {v : Int} {k : List Int} {l : List S36} (h : ok_S25 ⟨v, k, l⟩) (hw : wt_S25 ⟨v, k, l⟩ ≤ 1048576) : Fine v k l := by
  obtain ⟨h1, h2, h3⟩ := h
  simp only [wt_S25, OpenB.wtSl] at hw
  have a1 := sum_len (f := fun _ : Int => 1) (fun _ => Nat.le_refl _) k
  have a2 := sum_len (f := wt_S36) (fun x => by simp only [wt_S36, OpenB.wtSl]; omega) l
  refine ⟨h1, by omega, h2.2, by omega, fun b hb => ?_, fun b hb => (h3.2 b hb).1.2, fun b hb => (h3.2 b hb).2⟩
  have a3 := sum_mem (f := wt_S36) hb
  have a4 := sum_len (f := wt_S38) (fun x => by simp only [wt_S38]; omega) b.f0
  simp only [wt_S36, OpenB.wtSl] at a3
  omega
theorem Fine.ids {v : Int} {k : List Int} {l : List S36} (h : Fine v k l) : okIds l :=
  ⟨by have := h.fl; omega, fun b hb => ⟨by have := h.fb b hb; omega, fun i hi => (h.fi b hb i hi).2.2.2.2.2.2.2⟩⟩
theorem Fine.len {v : Int} {k : List Int} {l : List S36} (h : Fine v k l) : okLen k l := ⟨by have := h.fk; omega, h.fb⟩
theorem right_f {v : Int} {k : List Int} {l : List S36} (h : Fine v k l) (c : Int) : spinnakerref26_Right.f v k l c = some (refRB v k l c) := by
  rw [spinnakerref26_Right.f, if_pos h.len]

/-- Reached from some of a list, over the edges that nx tells, but not over one. -/
inductive ReachA (nx : Nat → List Int) (fr : List Int) (but : Int) : Nat → Prop
  | start (b : Nat) : (b : Int) ∈ fr → (b : Int) ≠ but → ReachA nx fr but b
  | step (a b : Nat) : ReachA nx fr but a → (b : Int) ∈ nx a → (b : Int) ≠ but → ReachA nx fr but b
/-- How many have not been met. -/
def unmet : List Bool → Nat
  | [] => 0
  | b :: r => (if b = true then 0 else 1) + unmet r
theorem unmet_le (l : List Bool) : unmet l ≤ l.length := by
  induction l with
  | nil => simp [unmet]
  | cons b r ih => simp only [unmet, List.length_cons]; split <;> omega
theorem unmet_set (l : List Bool) : ∀ i, i < l.length → l.getD i false = false → unmet (l.set i true) + 1 = unmet l := by
  induction l with
  | nil => intro i h; simp at h
  | cons b r ih =>
    intro i h hb
    cases i with
    | zero =>
      simp at hb
      subst hb
      simp [unmet, Nat.add_comm]
    | succ i =>
      simp only [List.length_cons] at h
      have := ih i (by omega) (by simpa using hb)
      simp only [List.set_cons_succ, unmet]
      omega
theorem getD_set (l : List Bool) (i j : Nat) (hi : i < l.length) : (l.set i true).getD j false = if j = i then true else l.getD j false := by
  by_cases h : j = i
  · subst h
    simp [hi]
  · rw [if_neg h]
    simp [List.getD_eq_getElem?_getD, List.getElem?_set_ne (Ne.symm h)]
theorem int_nat {x : Int} {N : Nat} (h0 : 0 ≤ x) (h1 : x < (N : Int)) : ∃ n : Nat, x = (n : Int) ∧ n < N ∧ x.toNat = n := ⟨x.toNat, by omega, by omega, rfl⟩

/-- A way of one step or more. -/
inductive Path1 (R : Nat → Nat → Prop) : Nat → Nat → Prop
  | one (a b : Nat) : R a b → Path1 R a b
  | more (a b c : Nat) : Path1 R a b → R b c → Path1 R a c
theorem Path1.trans {R : Nat → Nat → Prop} {a b c : Nat} (h : Path1 R a b) (k : Path1 R b c) : Path1 R a c := by
  induction k with
  | one c h1 => exact .more a b c h h1
  | more c d _ h1 ih => exact .more a c d ih h1
def at2 (At : List (List Bool)) (a b : Nat) : Bool := (At.getD a []).getD b false
theorem atB_nat (At : List (List Bool)) (a b : Nat) : atB At (a : Int) (b : Int) = at2 At a b := by simp [atB, at2]
structure Shape (N : Nat) (At : List (List Bool)) : Prop where
  len : At.length = N
  row : ∀ a, a < N → (At.getD a []).length = N
theorem shape_new (N : Nat) : Shape N (List.replicate N (List.replicate N false)) := ⟨by simp, fun a ha => by simp [List.getD_eq_getElem?_getD, List.getElem?_replicate, ha]⟩
theorem at2_new (N a b : Nat) : at2 (List.replicate N (List.replicate N false)) a b = false := by
  unfold at2
  by_cases ha : a < N
  · by_cases hb : b < N <;> simp [List.getD_eq_getElem?_getD, List.getElem?_replicate, ha, hb]
  · simp [List.getD_eq_getElem?_getD, List.getElem?_replicate, ha]
theorem set_row {N : Nat} {out : List (List Bool)} (h : Shape N out) {a : Nat} (b : Nat) (ha : a < N) (c : Nat) : (setB out (a : Int) (b : Int)).getD c [] = if c = a then (out.getD a []).set b true else out.getD c [] := by
  unfold setB
  rw [Int.toNat_natCast, Int.toNat_natCast]
  by_cases e : c = a
  · subst e
    simp [List.getD_eq_getElem?_getD, h.len, ha]
  · rw [if_neg e]
    simp [List.getD_eq_getElem?_getD, List.getElem?_set_ne (Ne.symm e)]
theorem shape_set {N : Nat} {out : List (List Bool)} (h : Shape N out) {a : Nat} (b : Nat) (ha : a < N) : Shape N (setB out (a : Int) (b : Int)) :=
  ⟨by unfold setB; rw [List.length_set]; exact h.len, fun c hc => by
    rw [set_row h b ha c]
    split
    · rw [List.length_set]; exact h.row a ha
    · exact h.row c hc⟩
theorem at2_set {N : Nat} {out : List (List Bool)} (h : Shape N out) {a b : Nat} (ha : a < N) (hb : b < N) (c d : Nat) : at2 (setB out (a : Int) (b : Int)) c d = if c = a ∧ d = b then true else at2 out c d := by
  unfold at2
  rw [set_row h b ha c]
  by_cases e : c = a
  · subst e
    rw [if_pos rfl, getD_set _ b d (by rw [h.row c ha]; exact hb)]
    by_cases e2 : d = b
    · rw [if_pos e2, if_pos ⟨rfl, e2⟩]
    · rw [if_neg e2, if_neg (fun k => e2 k.2)]
  · rw [if_neg e, if_neg (fun k => e k.1)]
def unm (out : List (List Bool)) (a : Nat) : Nat := unmet (out.getD a [])
theorem rowL_spec (At : List (List Bool)) {N a : Nat} (ha : a < N) (x : Nat) : ∀ d b out todo, b + d = N → Shape N out →
    Shape N (rowL At (a : Int) (x : Int) d b out todo).1 ∧
    (∀ c y, at2 (rowL At (a : Int) (x : Int) d b out todo).1 c y = true ↔ at2 out c y = true ∨ (c = a ∧ b ≤ y ∧ y < N ∧ at2 At x y = true)) ∧
    (∀ z, z ∈ (rowL At (a : Int) (x : Int) d b out todo).2 ↔ z ∈ todo ∨ ∃ y : Nat, z = (y : Int) ∧ b ≤ y ∧ y < N ∧ at2 At x y = true ∧ at2 out a y = false) ∧
    (rowL At (a : Int) (x : Int) d b out todo).2.length + unm (rowL At (a : Int) (x : Int) d b out todo).1 a = todo.length + unm out a := by
  intro d
  induction d with
  | zero =>
    intro b out todo hb hs
    refine ⟨hs, fun c y => ⟨.inl, fun h => h.elim id (fun h => by omega)⟩, fun z => ⟨.inl, fun h => h.elim id (fun ⟨y, h⟩ => by omega)⟩, rfl⟩
  | succ d ih =>
    intro b out todo hb hs
    rw [rowL, atB_nat, atB_nat]
    have hbN : b < N := by omega
    cases h1 : at2 At x b with
    | false =>
      obtain ⟨i1, i2, i3, i4⟩ := ih (b + 1) out todo (by omega) hs
      rw [if_neg (by simp)]
      refine ⟨i1, fun c y => (i2 c y).trans ⟨fun h => h.imp id (fun ⟨q, h⟩ => ⟨q, by omega, h.2⟩), fun h => h.imp id (fun ⟨q, h2, h3, h4⟩ => ⟨q, ?_, h3, h4⟩)⟩, fun z => (i3 z).trans ⟨fun h => h.imp id (fun ⟨y, q, h⟩ => ⟨y, q, by omega, h.2⟩), fun h => h.imp id (fun ⟨y, q, h2, h3, h4, h5⟩ => ⟨y, q, ?_, h3, h4, h5⟩)⟩, i4⟩
      · rcases Nat.lt_or_ge b y with h | h
        · exact h
        · obtain rfl : y = b := by omega
          rw [h1] at h4; cases h4
      · rcases Nat.lt_or_ge b y with h | h
        · exact h
        · obtain rfl : y = b := by omega
          rw [h1] at h4; cases h4
    | true =>
      cases h2 : at2 out a b with
      | true =>
        obtain ⟨i1, i2, i3, i4⟩ := ih (b + 1) out todo (by omega) hs
        rw [if_neg (by simp)]
        refine ⟨i1, fun c y => (i2 c y).trans ⟨fun h => h.imp id (fun ⟨q, h⟩ => ⟨q, by omega, h.2⟩), fun h => ?_⟩, fun z => (i3 z).trans ⟨fun h => h.imp id (fun ⟨y, q, h⟩ => ⟨y, q, by omega, h.2⟩), fun h => h.imp id (fun ⟨y, q, h2', h3, h4, h5⟩ => ⟨y, q, ?_, h3, h4, h5⟩)⟩, i4⟩
        · rcases h with h | ⟨rfl, h3, h4, h5⟩
          · exact .inl h
          · rcases Nat.lt_or_ge b y with h | h
            · exact .inr ⟨rfl, h, h4, h5⟩
            · obtain rfl : y = b := by omega
              exact .inl h2
        · rcases Nat.lt_or_ge b y with h | h
          · exact h
          · obtain rfl : y = b := by omega
            rw [h2] at h5; cases h5
      | false =>
        obtain ⟨i1, i2, i3, i4⟩ := ih (b + 1) (setB out (a : Int) (b : Int)) (todo ++ [(b : Int)]) (by omega) (shape_set hs b ha)
        have hat := at2_set hs ha hbN
        rw [if_pos (by simp)]
        refine ⟨i1, fun c y => (i2 c y).trans ⟨fun h => ?_, fun h => ?_⟩, fun z => (i3 z).trans ⟨fun h => ?_, fun h => ?_⟩, ?_⟩
        · rcases h with h | ⟨q, h⟩
          · rw [hat] at h
            split at h
            · rename_i e; obtain ⟨rfl, rfl⟩ := e; exact .inr ⟨rfl, Nat.le_refl _, hbN, h1⟩
            · exact .inl h
          · exact .inr ⟨q, by omega, h.2⟩
        · rcases h with h | ⟨rfl, h3, h4, h5⟩
          · exact .inl (by rw [hat]; split <;> first | rfl | exact h)
          · rcases Nat.lt_or_ge b y with h | h
            · exact .inr ⟨rfl, h, h4, h5⟩
            · obtain rfl : y = b := by omega
              exact .inl (by rw [hat, if_pos ⟨rfl, rfl⟩])
        · rcases h with h | ⟨y, rfl, h3, h4, h5, h6⟩
          · rcases List.mem_append.1 h with h | h
            · exact .inl h
            · exact .inr ⟨b, List.mem_singleton.1 h, Nat.le_refl _, hbN, h1, h2⟩
          · rw [hat] at h6
            split at h6
            · cases h6
            · exact .inr ⟨y, rfl, by omega, h4, h5, h6⟩
        · rcases h with h | ⟨y, rfl, h3, h4, h5, h6⟩
          · exact .inl (List.mem_append.2 (.inl h))
          · rcases Nat.lt_or_ge b y with h | h
            · exact .inr ⟨y, rfl, h, h4, h5, by rw [hat, if_neg (by omega)]; exact h6⟩
            · obtain rfl : y = b := by omega
              exact .inl (List.mem_append.2 (.inr (List.mem_singleton.2 rfl)))
        · rw [i4, List.length_append]
          have := unmet_set (out.getD a []) b (by rw [hs.row a ha]; exact hbN) h2
          unfold unm
          rw [set_row hs b ha a, if_pos rfl]
          simp only [List.length_singleton]
          omega
theorem workL_spec (At : List (List Bool)) {N a : Nat} (ha : a < N) (hN : N ≤ 1000) (out0 : List (List Bool)) : ∀ M out todo, todo.length + unm out a ≤ M → M ≤ N + 1 → Shape N out → (∀ c y, c ≠ a → at2 out c y = at2 out0 c y) →
    (∀ y, at2 out a y = true → y < N ∧ Path1 (fun p q => q < N ∧ at2 At p q = true) a y) → (∀ z ∈ todo, ∃ y : Nat, z = (y : Int) ∧ y < N ∧ (y = a ∨ at2 out a y = true)) →
    (∀ y, (y = a ∨ at2 out a y = true) → (y : Int) ∈ todo ∨ ∀ z, z < N → at2 At y z = true → at2 out a z = true) →
    ∃ r, workL At N (a : Int) (M + 1) out todo = some r ∧ Shape N r ∧ (∀ c y, c ≠ a → at2 r c y = at2 out0 c y) ∧ ∀ y, at2 r a y = true ↔ Path1 (fun p q => q < N ∧ at2 At p q = true) a y := by
  intro M
  induction M with
  | zero =>
    intro out todo hM _ hs ho hp _ hc
    obtain rfl := List.length_eq_zero_iff.1 (show todo.length = 0 by omega)
    refine ⟨out, by simp [workL], hs, ho, fun y => ⟨fun h => (hp y h).2, fun h => ?_⟩⟩
    induction h with
    | one z h => exact ((hc a (.inl rfl)).elim (by simp) id) z h.1 h.2
    | more y z _ h ih => exact ((hc y (.inr ih)).elim (by simp) id) z h.1 h.2
  | succ M ih =>
    intro out todo hM hMN hs ho hp ht hc
    cases todo with
    | nil =>
      refine ⟨out, by simp [workL], hs, ho, fun y => ⟨fun h => (hp y h).2, fun h => ?_⟩⟩
      induction h with
      | one z h => exact ((hc a (.inl rfl)).elim (by simp) id) z h.1 h.2
      | more y z _ h ih2 => exact ((hc y (.inr ih2)).elim (by simp) id) z h.1 h.2
    | cons x rest =>
      obtain ⟨x, rfl, hxN, hxr⟩ := ht x (by simp)
      rw [workL]
      rw [if_pos ⟨by omega, by omega, by rw [List.length_cons] at hM; omega⟩]
      obtain ⟨i1, i2, i3, i4⟩ := rowL_spec At ha x N 0 out rest (by omega) hs
      have hxp : ∀ z, z < N → at2 At x z = true → Path1 (fun p q => q < N ∧ at2 At p q = true) a z := fun z hz h => by
        rcases hxr with rfl | h2
        · exact .one _ _ ⟨hz, h⟩
        · exact .more _ _ _ (hp x h2).2 ⟨hz, h⟩
      refine ih _ _ (by rw [List.length_cons] at hM; omega) (by omega) i1 (fun c y hca => ?_) (fun y h => ?_) (fun z hz => ?_) (fun y h => ?_)
      · rw [← ho c y hca]
        have := i2 c y
        cases h : at2 out c y with
        | true => exact this.2 (.inl h)
        | false =>
          cases h3 : at2 (rowL At (a : Int) (x : Int) N 0 out rest).1 c y with
          | false => rfl
          | true => rcases this.1 h3 with h4 | h4
                    · rw [h] at h4; cases h4
                    · exact absurd h4.1 hca
      · rcases (i2 a y).1 h with h | ⟨_, _, h3, h4⟩
        · exact hp y h
        · exact ⟨h3, hxp y h3 h4⟩
      · rcases (i3 z).1 hz with h | ⟨y, rfl, _, h3, h4, _⟩
        · obtain ⟨y, rfl, h1, h2⟩ := ht z (by simp [h])
          exact ⟨y, rfl, h1, h2.imp id (fun h => (i2 a y).2 (.inl h))⟩
        · exact ⟨y, rfl, h3, .inr ((i2 a y).2 (.inr ⟨rfl, Nat.zero_le _, h3, h4⟩))⟩
      · by_cases hyx : y = x
        · subst hyx
          exact .inr fun z hz h => (i2 a z).2 (.inr ⟨rfl, Nat.zero_le _, hz, h⟩)
        · have hold : (y = a ∨ at2 out a y = true) ∨ (y < N ∧ at2 At x y = true ∧ at2 out a y = false) := by
            rcases h with h | h
            · exact .inl (.inl h)
            · rcases (i2 a y).1 h with h | ⟨_, _, h3, h4⟩
              · exact .inl (.inr h)
              · cases h5 : at2 out a y with
                | true => exact .inl (.inr rfl)
                | false => exact .inr ⟨h3, h4, rfl⟩
          rcases hold with h | ⟨h1, h2, h3⟩
          · rcases hc y h with h | h
            · rcases List.mem_cons.1 h with h | h
              · exact absurd (Int.ofNat.inj h) hyx
              · exact .inl ((i3 _).2 (.inl h))
            · exact .inr fun z hz h2 => (i2 a z).2 (.inl (h z hz h2))
          · exact .inl ((i3 _).2 (.inr ⟨y, rfl, Nat.zero_le _, h1, h2, h3⟩))
theorem workL_le (At : List (List Bool)) (N : Nat) (a : Int) (out : List (List Bool)) (todo : List Int) (r : List (List Bool)) {k k2 : Nat} (hk : k ≤ k2) (h : workL At N a k out todo = some r) : workL At N a k2 out todo = some r := by
  obtain ⟨d, rfl⟩ : ∃ d, k2 = k + d := ⟨k2 - k, by omega⟩
  clear hk
  induction d with
  | zero => exact h
  | succ d ih => exact workL_mono At N a (k + d) out todo r ih
theorem leadL_spec (At : List (List Bool)) {N : Nat} (hN : N ≤ 1000) (k : Nat) (hk : N + 2 ≤ k) : ∀ d a out, a + d = N → Shape N out → (∀ c y, c < a → (at2 out c y = true ↔ Path1 (fun p q => q < N ∧ at2 At p q = true) c y)) → (∀ c y, a ≤ c → at2 out c y = false) →
    ∃ r, leadL At N k d a out = some r ∧ Shape N r ∧ ∀ c y, c < N → (at2 r c y = true ↔ Path1 (fun p q => q < N ∧ at2 At p q = true) c y) := by
  intro d
  induction d with
  | zero => intro a out h hs hp _; exact ⟨out, rfl, hs, fun c y hc => hp c y (by omega)⟩
  | succ d ih =>
    intro a out h hs hp hz
    have ha : a < N := by omega
    have hu : unm out a ≤ N := by have := unmet_le (out.getD a []); rw [hs.row a ha] at this; exact this
    obtain ⟨r, hr, hs2, ho, hpa⟩ := workL_spec At ha hN out (N + 1) out [(a : Int)] (by simp; omega) (Nat.le_refl _) hs (fun _ _ _ => rfl) (fun y h => by rw [hz a y (Nat.le_refl _)] at h; cases h) (fun z hz => ⟨a, List.mem_singleton.1 hz, ha, .inl rfl⟩) (fun y h => by
      rcases h with rfl | h
      · exact .inl (List.mem_singleton.2 rfl)
      · rw [hz a y (Nat.le_refl _)] at h; cases h)
    rw [leadL, workL_le At N (a : Int) out [(a : Int)] r hk hr]
    refine ih (a + 1) r (by omega) hs2 (fun c y hc => ?_) (fun c y hc => by rw [ho c y (by omega)]; exact hz c y (by omega))
    by_cases e : c = a
    · subst e; exact hpa y
    · rw [ho c y e]; exact hp c y (by omega)
/-- What Leads tells: a way of one step or more. -/
theorem leads_ev (At : List (List Bool)) {N : Nat} (hN : N ≤ 1000) : ∃ c, Ev (fun k => leadsF k N At) c ∧ Shape N c ∧ ∀ a b, a < N → (at2 c a b = true ↔ Path1 (fun p q => q < N ∧ at2 At p q = true) a b) := by
  obtain ⟨r, hr, hs, hp⟩ := leadL_spec At hN (N + 2) (Nat.le_refl _) N 0 (List.replicate N (List.replicate N false)) (by omega) (shape_new N) (fun c y h => by omega) (fun c y _ => at2_new N c y)
  exact ⟨r, Ev.of (fun k => leadsF_mono k N At) (k := N + 2) hr, hs, fun a b => hp a b⟩

/-- Where a block's end leads. -/
def nextE (e : S34) : List Int := if e.f0 = 1 then [e.f2] else if e.f0 = 2 then [e.f2, e.f3] else []
def nxL (l : List S36) (b : Nat) : List Int := nextE (l.getD b z36).f1
theorem next_ref (e : S34) : spinnakerref26_Next.f e.f0 e.f1 e.f2 e.f3 = some (nextE e) := by
  unfold spinnakerref26_Next.f nextE
  split
  · rfl
  · split <;> rfl
theorem next_f (v : Int) (k : List Int) (l : List S36) (b : Nat) (h : b < l.length) : flow_next.f v k l (b : Int) = some (nxL l b) := by
  unfold flow_next.f nxL
  rw [if_pos (by omega), if_pos (by omega), show rd_T36 l (b : Int) = l.getD b z36 by simp [rd_T36]]
  generalize (l.getD b z36).f1 = e
  unfold ir_Next.f nextE
  split
  · rfl
  · split <;> rfl
theorem nextE_len (e : S34) : (nextE e).length ≤ 2 := by
  unfold nextE
  split
  · simp
  · split <;> simp
theorem endR_next {e : S34} {v n : Int} (h : endR e v n = true) : ∀ x ∈ nextE e, 0 ≤ x ∧ x < n := by
  intro x hx
  simp only [endR, endR4, cond_iff, beq_iff_eq, Bool.false_eq_true, and_false, or_false, false_or, decide_eq_true_eq] at h
  unfold nextE at hx
  split at hx
  · rename_i h1
    obtain rfl := List.mem_singleton.1 hx
    rcases h with h | h
    · omega
    · exact absurd h1 h.1
  · split at hx
    · rename_i h1 h2
      rcases h with h | ⟨_, h⟩
      · exact absurd h.1 h1
      rcases h with h | h
      · simp only [List.mem_cons, List.not_mem_nil, or_false] at hx
        rcases hx with rfl | rfl <;> omega
      · exact absurd h2 h.1
    · cases hx
theorem goRB_end (v c : Int) (k k2 : Nat) : ∀ (l : List S36) (ids : List Int), goRB v c k k2 ids l = true → ∀ b ∈ l, endR b.f1 v k2 = true
  | [], _, _, _, h => by cases h
  | a :: r, ids, h, b, hb => by
    rw [goRB] at h
    split at h
    · rename_i ids' _
      cases he : endR a.f1 v k2 with
      | false => rw [he] at h; cases h
      | true =>
        rw [he] at h
        rcases List.mem_cons.1 hb with rfl | hb
        · exact he
        · exact goRB_end v c k k2 r ids' h b hb
    · cases h
/-- A thread whose edges stay within, and not too long. -/
structure Edged (l : List S36) : Prop where
  pos : 1 ≤ l.length
  len : l.length ≤ 30
  tgt : ∀ b, b < l.length → ∀ x ∈ nxL l b, 0 ≤ x ∧ x < (l.length : Int)
theorem edged_of {v c : Int} {k : List Int} {l : List S36} (hl : l.length ≤ 30) (h : refRB v k l c = true) : Edged l := by
  unfold refRB at h
  simp only [Bool.and_eq_true, Bool.not_eq_true', Bool.or_eq_false_iff, decide_eq_false_iff_not] at h
  refine ⟨by omega, hl, fun b hb x hx => ?_⟩
  have hm : l.getD b z36 ∈ l := by rw [List.getD_eq_getElem?_getD, List.getElem?_eq_getElem hb]; exact List.getElem_mem hb
  exact endR_next (goRB_end v c _ _ l [] h.2.2 _ hm) x hx
def Ed (l : List S36) (but : Int) (p q : Nat) : Prop := (p : Int) ≠ but ∧ (q : Int) ≠ but ∧ (q : Int) ∈ nxL l p
theorem edgeRow_spec {N a : Nat} (but : Int) (ha : a < N) : ∀ (xs : List Int) (At : List (List Bool)), (∀ x ∈ xs, 0 ≤ x ∧ x < (N : Int)) → Shape N At →
    Shape N (edgeRow N but (a : Int) xs At) ∧ ∀ c y, at2 (edgeRow N but (a : Int) xs At) c y = true ↔ at2 At c y = true ∨ (c = a ∧ (a : Int) ≠ but ∧ (y : Int) ≠ but ∧ (y : Int) ∈ xs)
  | [], At, _, hs => ⟨hs, fun c y => ⟨.inl, fun h => h.elim id (fun h => by simp at h)⟩⟩
  | x :: r, At, hx, hs => by
    obtain ⟨h0, h1⟩ := hx x (by simp)
    obtain ⟨n, rfl, hn, _⟩ := int_nat h0 h1
    rw [edgeRow]
    by_cases hc : (a : Int) ≠ but ∧ (n : Int) ≠ but
    · have hadd : addR N At (a : Int) (n : Int) = setB At (a : Int) (n : Int) := by
        unfold addR
        rw [if_pos (by simp [mayB, ha, hn])]
      rw [if_pos hc, hadd]
      obtain ⟨i1, i2⟩ := edgeRow_spec but ha r (setB At (a : Int) (n : Int)) (fun x h => hx x (by simp [h])) (shape_set hs n ha)
      refine ⟨i1, fun c y => (i2 c y).trans ?_⟩
      rw [at2_set hs ha hn]
      constructor
      · rintro (h | ⟨h1, h2, h3, h4⟩)
        · split at h
          · rename_i e; obtain ⟨rfl, rfl⟩ := e; exact .inr ⟨rfl, hc.1, hc.2, by simp⟩
          · exact .inl h
        · exact .inr ⟨h1, h2, h3, by simp [h4]⟩
      · rintro (h | ⟨h1, h2, h3, h4⟩)
        · exact .inl (by split <;> first | rfl | exact h)
        · rcases List.mem_cons.1 h4 with h4 | h4
          · exact .inl (by rw [if_pos ⟨h1, Int.ofNat.inj h4⟩])
          · exact .inr ⟨h1, h2, h3, h4⟩
    · rw [if_neg hc]
      obtain ⟨i1, i2⟩ := edgeRow_spec but ha r At (fun x h => hx x (by simp [h])) hs
      refine ⟨i1, fun c y => (i2 c y).trans ⟨fun h => h.imp id (fun ⟨h1, h2, h3, h4⟩ => ⟨h1, h2, h3, by simp [h4]⟩), fun h => h.imp id (fun ⟨h1, h2, h3, h4⟩ => ⟨h1, h2, h3, ?_⟩)⟩⟩
      rcases List.mem_cons.1 h4 with h4 | h4
      · exact absurd ⟨h2, by rw [← h4]; exact h3⟩ hc
      · exact h4
theorem edgesL_spec (N : Nat) (but : Int) : ∀ (bs : List S36) (a : Nat) (At : List (List Bool)), a + bs.length = N → (∀ i, i < bs.length → ∀ x ∈ nextE (bs.getD i z36).f1, 0 ≤ x ∧ x < (N : Int)) → Shape N At →
    ∃ r, edgesL N but a bs At = some r ∧ Shape N r ∧ ∀ c y, at2 r c y = true ↔ at2 At c y = true ∨ (a ≤ c ∧ c < N ∧ (c : Int) ≠ but ∧ (y : Int) ≠ but ∧ (y : Int) ∈ nextE (bs.getD (c - a) z36).f1)
  | [], a, At, hl, _, hs => ⟨At, rfl, hs, fun c y => ⟨.inl, fun h => h.elim id (fun h => by simp at hl; omega)⟩⟩
  | b :: bs, a, At, hl, hx, hs => by
    rw [List.length_cons] at hl
    rw [edgesL, next_ref]
    simp only [Option.bind_some]
    rw [if_pos (by have := nextE_len b.f1; omega)]
    have haN : a < N := by omega
    obtain ⟨j1, j2⟩ := edgeRow_spec but haN (nextE b.f1) At (fun x h => hx 0 (by simp) x (by simpa using h)) hs
    obtain ⟨r, hr, i1, i2⟩ := edgesL_spec N but bs (a + 1) _ (by omega) (fun i hi x h => hx (i + 1) (by simp; omega) x (by simpa using h)) j1
    refine ⟨r, hr, i1, fun c y => (i2 c y).trans ?_⟩
    rw [j2]
    constructor
    · rintro ((h | ⟨rfl, h2, h3, h4⟩) | ⟨h1, h2, h3, h4, h5⟩)
      · exact .inl h
      · exact .inr ⟨Nat.le_refl _, haN, h2, h3, by simpa using h4⟩
      · refine .inr ⟨by omega, h2, h3, h4, ?_⟩
        rw [show c - a = (c - (a + 1)) + 1 by omega]
        simpa using h5
    · rintro (h | ⟨h1, h2, h3, h4, h5⟩)
      · exact .inl (.inl h)
      · by_cases e : c = a
        · subst e
          exact .inl (.inr ⟨rfl, h3, h4, by simpa using h5⟩)
        · refine .inr ⟨by omega, h2, h3, h4, ?_⟩
          rw [show c - a = (c - (a + 1)) + 1 by omega] at h5
          simpa using h5
theorem edges_spec {l : List S36} (h : Edged l) (but : Int) : ∃ e, edgesF but l = some e ∧ Shape l.length e ∧ ∀ a b, a < l.length → (at2 e a b = true ↔ Ed l but a b) := by
  obtain ⟨r, hr, hs, ha⟩ := edgesL_spec l.length but l 0 (List.replicate l.length (List.replicate l.length false)) (by omega) (fun i hi => h.tgt i hi) (shape_new _)
  refine ⟨r, ?_, hs, fun a b hab => (ha a b).trans ?_⟩
  · have := h.len
    rw [edgesF, if_pos (by omega)]
    exact hr
  · rw [at2_new]
    exact ⟨fun h => h.elim (fun h => by cases h) (fun ⟨_, _, h3, h4, h5⟩ => ⟨h3, h4, h5⟩), fun ⟨h3, h4, h5⟩ => .inr ⟨Nat.zero_le _, hab, h3, h4, h5⟩⟩
theorem path_same {l : List S36} (h : Edged l) {but : Int} {e : List (List Bool)} (he : ∀ a b, a < l.length → (at2 e a b = true ↔ Ed l but a b)) {a : Nat} (ha : a < l.length) (b : Nat) :
    Path1 (fun p q => q < l.length ∧ at2 e p q = true) a b ↔ Path1 (Ed l but) a b := by
  have ht : ∀ p q, p < l.length → Ed l but p q → q < l.length := fun p q hp hq => by have := h.tgt p hp _ hq.2.2; omega
  constructor
  · intro hp
    have : b < l.length ∧ Path1 (Ed l but) a b := by
      induction hp with
      | one b hb => exact ⟨hb.1, .one _ _ ((he a b ha).1 hb.2)⟩
      | more b c _ hc ih => exact ⟨hc.1, .more _ _ _ ih.2 ((he b c ih.1).1 hc.2)⟩
    exact this.2
  · intro hp
    have : b < l.length ∧ Path1 (fun p q => q < l.length ∧ at2 e p q = true) a b := by
      induction hp with
      | one b hb => exact ⟨ht a b ha hb, .one _ _ ⟨ht a b ha hb, (he a b ha).2 hb⟩⟩
      | more b c _ hc ih => exact ⟨ht b c ih.1 hc, .more _ _ _ ih.2 ⟨ht b c ih.1 hc, (he b c ih.1).2 hc⟩⟩
    exact this.2

theorem outR_get {α : Type} (z : α) (F : Nat → α) {n i : Nat} (h : i < n) : (outR F n).getD i z = F i := by simp [outR, List.getD_eq_getElem?_getD, h]
theorem outR_congr {α : Type} {F G : Nat → α} {n : Nat} (h : ∀ i, i < n → F i = G i) : outR F n = outR G n := by
  unfold outR
  exact List.map_congr_left fun i hi => h i (List.mem_range.1 hi)
theorem outR_set {α : Type} (F : Nat → α) (n i : Nat) (x : α) : (outR F n).set i x = outR (fun j => if j = i then x else F j) n := by
  apply List.ext_getElem (by simp [outR])
  intro j h1 h2
  simp only [outR, List.getElem_set, List.getElem_map, List.getElem_range]
  by_cases e : i = j
  · rw [if_pos e, if_pos e.symm]
  · rw [if_neg e, if_neg (fun h => e h.symm)]
theorem flow_right_f {v : Int} {k : List Int} {l : List S36} (hF : Fine v k l) : flow_right.f v k l = some (refRB v k l 200) := by
  unfold flow_right.f ir_Right.f
  rw [if_pos hF.ids, right_same]
  rfl
theorem rdB_nat (r : List Bool) (b : Nat) : rdOf false r (b : Int) = r.getD b false := by simp [rdOf]

theorem awake33_ev : Ev (fun q => spinnakerlaw33_awake.f q) true := by
  have h1 : Ev (fun q => flow_Loops.f q 1 [] [(⟨[], ⟨1, 0, 0, 0⟩⟩ : S36)]) [⟨0, [0]⟩] := Ev.of (fun q => flow_Loops.mono _ _ _ q) (k := 12) (by kernel_rfl)
  have h2 : Ev (fun q => flow_Order.f q 1 [] [(⟨[], ⟨1, 0, 0, 0⟩⟩ : S36)]) [0] := Ev.of (fun q => flow_Order.mono _ _ _ q) (k := 12) (by kernel_rfl)
  have h3 : Ev (fun q => spinnakerref01_Ints.f q [0] [0]) true := by simpa using ints_ev [0] [0] (by simp)
  unfold spinnakerlaw33_awake.f
  refine Ev.bind (Ev.now _) (Ev.bind h1 (Ev.if_pos rfl (Ev.if_pos (by decide) (Ev.if_pos rfl (Ev.bind h2 (Ev.bind h3 (Ev.now _)))))))
theorem wrong33_ev {v : Int} {k : List Int} {l : List S36} (hF : Fine v k l) (h : ¬ (l.length ≤ 30 ∧ refRB v k l 200 = true)) : Ev (fun q => spinnakerlaw33_wrong.f q v k l) true := by
  unfold spinnakerlaw33_wrong.f
  by_cases hl : (l.length : Int) > 30
  · exact Ev.if_pos hl (Ev.end_ fun q => by simp only [spinnakerlaw33_wrong.j0]; rw [if_pos trivial])
  · have hr : refRB v k l 200 = false := by
      cases e : refRB v k l 200 with
      | false => rfl
      | true => exact absurd ⟨by omega, e⟩ h
    have h0 := flow_right_f hF
    rw [hr] at h0
    have hB : ∀ q, flow_Before.f q v k l = some [] := fun q => by unfold flow_Before.f; rw [h0]; rfl
    have hR : ∀ q, flow_Reached.f q v k l = some [] := fun q => by unfold flow_Reached.f; rw [h0]; rfl
    have hO : ∀ q, flow_Order.f q v k l = some [] := fun q => by unfold flow_Order.f; rw [h0]; rfl
    have hL : ∀ q, flow_Loops.f q v k l = some [] := fun q => by unfold flow_Loops.f; rw [hR, hB]; rfl
    have hA : ∀ q, flow_Ahead.f q v k l 0 0 = some false := fun q => by unfold flow_Ahead.f; rw [hR]; rfl
    refine Ev.if_neg hl ?_
    rw [right_f hF, hr]
    simp only [Option.bind_some]
    refine Ev.end_ fun q => ?_
    simp only [spinnakerlaw33_wrong.j0, hB, hR, hO, hL, hA, Option.bind_some]
    rfl

theorem rev_l0 (o : List Int) (hm : o.length ≤ 4611686018427387904) : ∀ d i, i ≤ o.length → o.length - i = d →
    Ev (fun q => slices_Reverse_int_int.l0 q (outR (fun p => if p < i ∨ o.length - 1 - i < p then o.getD (o.length - 1 - p) 0 else o.getD p 0) o.length) (i : Int) ((o.length : Int) - 1 - (i : Int))) o.reverse := by
  have hfin : ∀ i, o.length ≤ 2 * i + 1 → outR (fun p => if p < i ∨ o.length - 1 - i < p then o.getD (o.length - 1 - p) 0 else o.getD p 0) o.length = o.reverse := fun i hi => by
    apply List.ext_getElem (by simp [outR])
    intro p h1 h2
    have hp : p < o.length := by simpa [outR] using h1
    rw [List.getElem_reverse]
    simp only [outR, List.getElem_map, List.getElem_range]
    have hq : o.length - 1 - p < o.length := by omega
    split
    · simp [List.getD_eq_getElem?_getD, hq]
    · rename_i hc
      have : p = o.length - 1 - p := by omega
      rw [List.getD_eq_getElem?_getD, List.getElem?_eq_getElem hp, Option.getD_some]
      congr 1
  intro d
  induction d with
  | zero =>
    intro i hi hd
    rw [← hfin i (by omega)]
    exact Ev.end_ fun q => by simp only [slices_Reverse_int_int.l0]; rw [if_neg (by omega)]
  | succ d ih =>
    intro i hi hd
    by_cases hlt : (i : Int) < (o.length : Int) - 1 - (i : Int)
    · have hj : (o.length : Int) - 1 - (i : Int) = ((o.length - 1 - i : Nat) : Int) := by omega
      refine Ev.by (ih (i + 1) (by omega) (by omega)) fun q => ?_
      simp only [slices_Reverse_int_int.l0]
      have hil : i < o.length := by omega
      have hjl : o.length - 1 - i < o.length := by omega
      rw [if_pos hlt, hj, if_pos (by omega), if_pos (by rw [outR_length]; omega), if_pos (by omega), if_pos (by rw [outR_length]; omega), rd_getD, rd_getD, outR_get 0 _ hil, outR_get 0 _ hjl, Int.toNat_natCast, Int.toNat_natCast, outR_set, outR_set, wrap_succ i (by omega), show wrap64 (((o.length - 1 - i : Nat) : Int) - 1) = (o.length : Int) - 1 - ((i + 1 : Nat) : Int) by unfold wrap64; omega]
      congr 1
      refine outR_congr fun p hp => ?_
      by_cases e1 : p = o.length - 1 - i
      · subst e1
        rw [if_pos rfl, if_neg (by omega), if_pos (by omega)]
        congr 1
        omega
      · rw [if_neg e1]
        by_cases e2 : p = i
        · subst e2
          rw [if_pos rfl, if_neg (by omega), if_pos (by omega)]
        · rw [if_neg e2]
          by_cases hc : p < i ∨ o.length - 1 - i < p
          · rw [if_pos hc, if_pos (by omega)]
          · rw [if_neg hc, if_neg (by omega)]
    · rw [← hfin i (by omega)]
      exact Ev.end_ fun q => by simp only [slices_Reverse_int_int.l0]; rw [if_neg hlt]
theorem rev_ev (o : List Int) (hm : o.length ≤ 4611686018427387904) : Ev (fun q => slices_Reverse_int_int.f q o) o.reverse := by
  have h := rev_l0 o hm o.length 0 (Nat.zero_le _) rfl
  rw [show outR (fun p => if p < 0 ∨ o.length - 1 - 0 < p then o.getD (o.length - 1 - p) 0 else o.getD p 0) o.length = o from by
    apply List.ext_getElem (by simp [outR])
    intro p h1 h2
    simp only [outR, List.getElem_map, List.getElem_range]
    rw [if_neg (by omega), List.getD_eq_getElem?_getD, List.getElem?_eq_getElem h2, Option.getD_some]] at h
  unfold slices_Reverse_int_int.f
  rw [show wrap64 ((o.length : Int) - 1) = (o.length : Int) - 1 - ((0 : Nat) : Int) by unfold wrap64; omega]
  exact h
theorem refRev_l0 (o : List Int) (hm : o.length ≤ 1000) : ∀ d acc, d ≤ o.length → acc.length + d = o.length → Ev (fun q => spinnakerref33_Order.l0 q o acc ((d : Int) - 1)) (acc ++ (o.take d).reverse) := by
  intro d
  induction d with
  | zero =>
    intro acc _ _
    rw [List.take_zero, List.reverse_nil, List.append_nil]
    exact Ev.end_ fun q => by simp only [spinnakerref33_Order.l0]; rw [if_neg (by omega)]
  | succ d ih =>
    intro acc hd ha
    have hdl : d < o.length := by omega
    have := ih (acc ++ [o[d]]) (by omega) (by rw [List.length_append]; simp only [List.length_singleton]; omega)
    rw [List.append_assoc] at this
    rw [List.take_succ_eq_append_getElem hdl, List.reverse_append]
    refine Ev.by this fun q => ?_
    simp only [spinnakerref33_Order.l0]
    rw [show ((d + 1 : Nat) : Int) - 1 = (d : Int) by omega, if_pos (by omega), if_pos (by omega), if_pos (by omega), if_pos (by omega), rd_nat _ _ hdl, show wrap64 ((d : Int) - 1) = (d : Int) - 1 by unfold wrap64; omega]
theorem left_f (v : Int) (k : List Int) {l : List S36} (n b : Nat) (met : List Bool) (out : List Int) (hb : b < l.length) (hm : met.length = l.length) : spinnakerref33_left.f (n + 1) v k l (b : Int) met out = spinnakerref33_left.l0 n (b : Int) (met.set b true) out (nxL l b) 0 v k l := by
  simp only [spinnakerref33_left.f]
  rw [if_pos (by omega), if_pos (by omega), if_pos (by omega), show rd_T36 l (b : Int) = l.getD b z36 by simp [rd_T36], next_ref, Int.toNat_natCast]
  rfl
/-- What is known midway: met is what has been left or is under way; each block left stands behind those that it leads to. -/
structure Mid (l : List S36) (met : List Bool) (out : List Int) (G : List Nat) : Prop where
  met_iff : ∀ x : Nat, met.getD x false = true ↔ (x : Int) ∈ out ∨ x ∈ G
  disj : ∀ x : Nat, x ∈ G → (x : Int) ∉ out
  topo : ∀ A (x : Nat) B, out = A ++ (x : Int) :: B → ∀ y ∈ nxL l x, y ∈ A
  nodup : out.Nodup
  gnd : G.Nodup
  rng : ∀ x ∈ out, ∃ n : Nat, x = (n : Int) ∧ n < l.length
theorem ed1 {l : List S36} {p q : Nat} (h : (q : Int) ∈ nxL l p) : Ed l (-1) p q := ⟨by omega, by omega, h⟩
theorem mid_end {l : List S36} (hE : Edged l) (hac : ∀ a, a < l.length → ¬ Path1 (Ed l (-1)) a a) {met : List Bool} {out : List Int} {b : Nat} {G : List Nat} (h : Mid l met out (b :: G)) (hb : b < l.length) (hg : ∀ g ∈ G, Path1 (Ed l (-1)) g b) (hs : ∀ y ∈ nxL l b, ∃ n : Nat, y = (n : Int) ∧ met.getD n false = true) : Mid l met (out ++ [(b : Int)]) G := by
  have hbo : (b : Int) ∉ out := h.disj b (by simp)
  have hbG : b ∉ G := (List.nodup_cons.1 h.gnd).1
  refine ⟨fun x => (h.met_iff x).trans ?_, fun x hx hin => ?_, fun A x B he y hy => ?_, ?_, (List.nodup_cons.1 h.gnd).2, fun x hx => ?_⟩
  · simp only [List.mem_append, List.mem_cons, List.not_mem_nil, or_false]
    constructor
    · rintro (h | rfl | h)
      · exact .inl (.inl h)
      · exact .inl (.inr rfl)
      · exact .inr h
    · rintro ((h | h) | h)
      · exact .inl h
      · exact .inr (.inl (Int.ofNat.inj h))
      · exact .inr (.inr h)
  · rcases List.mem_append.1 hin with h1 | h1
    · exact h.disj x (by simp [hx]) h1
    · have := Int.ofNat.inj (List.mem_singleton.1 h1)
      subst this
      exact hbG hx
  · rcases List.eq_nil_or_concat B with rfl | ⟨B', z, rfl⟩
    · obtain ⟨hA, hx⟩ := List.append_inj' he (by simp)
      have hx : b = x := Int.ofNat.inj (by simpa using hx)
      subst hx
      subst hA
      obtain ⟨n, rfl, hn⟩ := hs y hy
      rcases (h.met_iff n).1 hn with h1 | h1
      · exact h1
      · exfalso
        rcases List.mem_cons.1 h1 with rfl | h1
        · exact hac _ hb (.one _ _ (ed1 hy))
        · have hnl : n < l.length := by have := hE.tgt b hb _ hy; omega
          exact hac n hnl (.more _ _ _ (hg n h1) (ed1 hy))
    · have he2 : out ++ [(b : Int)] = (A ++ (x : Int) :: B') ++ [z] := by rw [he]; simp
      obtain ⟨h1, _⟩ := List.append_inj' he2 rfl
      exact h.topo A x B' h1 y hy
  · rw [List.nodup_append]
    refine ⟨h.nodup, by simp, fun a ha c hc e => ?_⟩
    rw [e, List.mem_singleton.1 hc] at ha
    exact hbo ha
  · rcases List.mem_append.1 hx with h1 | h1
    · exact h.rng x h1
    · exact ⟨b, List.mem_singleton.1 h1, hb⟩
theorem mid_push {l : List S36} {met : List Bool} {out : List Int} {x : Nat} {G : List Nat} (h : Mid l met out G) (hx : x < met.length) (hm : met.getD x false = false) : Mid l (met.set x true) out (x :: G) := by
  have hn : ¬ ((x : Int) ∈ out ∨ x ∈ G) := fun hc => by rw [(h.met_iff x).2 hc] at hm; cases hm
  refine ⟨fun y => ?_, fun y hy hin => ?_, h.topo, h.nodup, List.nodup_cons.2 ⟨fun hc => hn (.inr hc), h.gnd⟩, h.rng⟩
  · rw [getD_set met x y hx]
    by_cases e : y = x
    · rw [if_pos e]; simp [e]
    · rw [if_neg e, h.met_iff y]
      simp [e]
  · rcases List.mem_cons.1 hy with rfl | hy
    · exact hn (.inl hin)
    · exact h.disj y hy hin
theorem order_b (s : List Int) (b : Int) (hs : s.length ≤ 4611686018427387904) : wrap64 (((s ++ [b]).length : Int) - 1) = (s.length : Int) ∧ rd (s ++ [b]) (s.length : Int) = b := by
  refine ⟨by rw [List.length_append]; unfold wrap64; simp only [List.length_singleton]; omega, ?_⟩
  rw [rd_getD]
  simp [List.getD_eq_getElem?_getD]
theorem order_pop (v : Int) (k : List Int) {l : List S36} {b : Nat} (hb : b < l.length) {met : List Bool} {at_ s out R : List Int} (ha : at_.length = l.length) (hj : at_.getD b 0 = ((nxL l b).length : Int)) (hs : s.length ≤ 1000000) (ho : out.length ≤ 1000) (h : Ev (fun q => flow_Order.l0 q met at_ s (out ++ [(b : Int)]) v k l) R) : Ev (fun q => flow_Order.l0 q met at_ (s ++ [(b : Int)]) out v k l) R := by
  obtain ⟨e1, e2⟩ := order_b s (b : Int) (by omega)
  have hl : (s ++ [(b : Int)]).length = s.length + 1 := by simp
  refine Ev.by h fun q => ?_
  simp only [flow_Order.l0, e1, e2]
  rw [if_pos (by omega), if_pos (by omega), if_pos (by omega), next_f v k l b hb]
  simp only [Option.bind_some]
  rw [if_pos (by omega), if_pos (by omega), rd_getD, if_pos hj, if_pos (by omega), if_pos (by omega), Int.toNat_natCast, List.take_left' rfl]
theorem order_next (v : Int) (k : List Int) {l : List S36} (hE : Edged l) {b j x : Nat} (hb : b < l.length) {met : List Bool} {at_ s out R : List Int} (ha : at_.length = l.length) (hm : met.length = l.length) (hj : at_.getD b 0 = (j : Int)) (hjl : j < (nxL l b).length) (hx : (nxL l b)[j] = (x : Int)) (hxl : x < l.length) (hs : s.length ≤ 1000000)
    (h : Ev (fun q => if met.getD x false = true then flow_Order.l0 q met (at_.set b ((j + 1 : Nat) : Int)) (s ++ [(b : Int)]) out v k l else flow_Order.l0 q (met.set x true) (at_.set b ((j + 1 : Nat) : Int)) (s ++ [(b : Int)] ++ [(x : Int)]) out v k l) R) : Ev (fun q => flow_Order.l0 q met at_ (s ++ [(b : Int)]) out v k l) R := by
  obtain ⟨e1, e2⟩ := order_b s (b : Int) (by omega)
  have hl : (s ++ [(b : Int)]).length = s.length + 1 := by simp
  have h2 : (nxL l b).length ≤ 2 := nextE_len _
  refine Ev.by h fun q => ?_
  simp only [flow_Order.l0, e1, e2]
  rw [if_pos (by omega), if_pos (by omega), if_pos (by omega), next_f v k l b hb]
  simp only [Option.bind_some]
  rw [if_pos (by omega), if_pos (by omega), rd_getD, hj, if_neg (by omega), if_pos (by omega), if_pos (by omega), rd_nat _ _ hjl, hx, if_pos (by omega), if_pos (by omega), rdB_nat, wrap_succ j (by omega), Int.toNat_natCast, Int.toNat_natCast]
  split
  · rfl
  · rw [if_pos (by omega)]

theorem getD_setI (l : List Int) (i j : Nat) (v : Int) (hi : i < l.length) : (l.set i v).getD j 0 = if j = i then v else l.getD j 0 := by
  by_cases h : j = i
  · subst h
    simp [hi]
  · rw [if_neg h]
    simp [List.getD_eq_getElem?_getD, List.getElem?_set_ne (Ne.symm h)]
theorem left_spec (v : Int) (k : List Int) {l : List S36} (hE : Edged l) : ∀ (n b : Nat) (met : List Bool) (out : List Int) (j : Nat), b < l.length → met.length = l.length → met.getD b false = true → j ≤ (nxL l b).length → 1 + ((nxL l b).length - j) + 4 * unmet met ≤ n → out.length + unmet met ≤ 900 →
    ∃ out' met', spinnakerref33_left.l0 n (b : Int) met out (nxL l b) (j : Int) v k l = some (out', met') ∧ met'.length = l.length ∧ (∀ x, met.getD x false = true → met'.getD x false = true) ∧ unmet met' ≤ unmet met ∧ out'.length + unmet met' ≤ out.length + unmet met + 1 ∧
      ((∀ a, a < l.length → ¬ Path1 (Ed l (-1)) a a) → ∀ G, Mid l met out (b :: G) → (∀ g ∈ G, Path1 (Ed l (-1)) g b) → (∀ y ∈ (nxL l b).take j, ∃ m : Nat, y = (m : Int) ∧ met.getD m false = true) → Mid l met' out' G) ∧
      (∀ at_ s : List Int, at_.length = l.length → (∀ x, met.getD x false = false → at_.getD x 0 = 0) → at_.getD b 0 = (j : Int) → s.length + n ≤ 1000000 → ∃ at' : List Int, at'.length = l.length ∧ (∀ x, met'.getD x false = false → at'.getD x 0 = 0) ∧ (∀ x, x ≠ b → met.getD x false = true → at'.getD x 0 = at_.getD x 0) ∧
        ∀ R, Ev (fun q => flow_Order.l0 q met' at' s out' v k l) R → Ev (fun q => flow_Order.l0 q met at_ (s ++ [(b : Int)]) out v k l) R) := by
  intro n
  induction n using Nat.strongRecOn with
  | ind n ih =>
    intro b met out j hb hm hbm hj hn ho
    have h2 : (nxL l b).length ≤ 2 := nextE_len _
    obtain ⟨n, rfl⟩ : ∃ n', n = n' + 1 := ⟨n - 1, by omega⟩
    by_cases hjl : j < (nxL l b).length
    · obtain ⟨hx0, hx1⟩ := hE.tgt b hb _ (List.getElem_mem hjl)
      obtain ⟨x, hx, hxN, _⟩ := int_nat hx0 hx1
      have htk : ∀ y, y ∈ (nxL l b).take (j + 1) → y ∈ (nxL l b).take j ∨ y = (x : Int) := fun y hy => by
        rw [List.take_succ_eq_append_getElem hjl, List.mem_append, List.mem_singleton, hx] at hy
        exact hy
      by_cases hmx : met.getD x false = true
      · obtain ⟨out', met', e, i1, i2, i3, i4, i5, i6⟩ := ih n (by omega) b met out (j + 1) hb hm hbm (by omega) (by omega) ho
        refine ⟨out', met', ?_, i1, i2, i3, i4, fun hac G hM hg hs => i5 hac G hM hg (fun y hy => ?_), fun at_ s a1 a2 a3 a4 => ?_⟩
        · simp only [spinnakerref33_left.l0]
          rw [if_pos (by omega), if_pos (by omega), rd_nat _ _ hjl, hx, if_pos (by omega), if_pos (by omega), rdB_nat, if_pos hmx, wrap_succ j (by omega)]
          exact e
        · rcases htk y hy with h | h
          · exact hs y h
          · exact ⟨x, h, hmx⟩
        · have hset := fun y => getD_setI at_ b y ((j + 1 : Nat) : Int) (by omega)
          obtain ⟨at', b1, b2, b3, b4⟩ := i6 (at_.set b ((j + 1 : Nat) : Int)) s (by rw [List.length_set]; exact a1) (fun y hy => by
            rw [hset y]
            split
            · rename_i hyb; rw [hyb] at hy; rw [hbm] at hy; cases hy
            · exact a2 y hy) (by rw [hset b, if_pos rfl]) (by omega)
          refine ⟨at', b1, b2, fun y hyb hy => by rw [b3 y hyb hy, hset y, if_neg hyb], fun R hR => ?_⟩
          refine order_next v k hE hb a1 hm a3 hjl hx hxN (by omega) (Ev.if_pos hmx (b4 R hR))
      · have hmx : met.getD x false = false := by cases h : met.getD x false with | false => rfl | true => exact absurd h hmx
        have hxb : x ≠ b := fun e => by rw [e, hbm] at hmx; cases hmx
        have hu := unmet_set met x (by omega) hmx
        have hgs := fun y => getD_set met x y (by omega)
        have h2x : (nxL l x).length ≤ 2 := nextE_len _
        obtain ⟨n1, rfl⟩ : ∃ n', n = n' + 1 := ⟨n - 1, by omega⟩
        obtain ⟨out1, met1, e1, i1, i2, i3, i4, i5, i6⟩ := ih n1 (by omega) x (met.set x true) out 0 hxN (by rw [List.length_set]; exact hm) (by rw [hgs x, if_pos rfl]) (Nat.zero_le _) (by omega) (by omega)
        have hb1 : met1.getD b false = true := i2 b (by rw [hgs b, if_neg (Ne.symm hxb)]; exact hbm)
        have hkeep : ∀ y, met.getD y false = true → met1.getD y false = true := fun y hy => i2 y (by rw [hgs y]; split <;> first | rfl | exact hy)
        obtain ⟨out', met', e2, j1, j2, j3, j4, j5, j6⟩ := ih (n1 + 1) (by omega) b met1 out1 (j + 1) hb i1 hb1 (by omega) (by omega) (by omega)
        refine ⟨out', met', ?_, j1, fun y hy => j2 y (hkeep y hy), by omega, by omega, fun hac G hM hg hs => ?_, fun at_ s a1 a2 a3 a4 => ?_⟩
        · rw [spinnakerref33_left.l0]
          rw [if_pos (by omega), if_pos (by omega), rd_nat _ _ hjl, hx, if_pos (by omega), if_pos (by omega), rdB_nat, if_neg (by rw [hmx]; decide), wrap_succ j (by omega), left_f v k n1 x met out hxN hm]
          rw [show ((0 : Nat) : Int) = 0 from rfl] at e1
          rw [e1]
          simp only [Option.bind_some]
          exact e2
        · have hM1 := i5 hac (b :: G) (mid_push hM (by omega) hmx) (fun g hgb => by
            rcases List.mem_cons.1 hgb with rfl | hgb
            · exact .one _ _ (ed1 (by rw [← hx]; exact List.getElem_mem hjl))
            · exact .more _ _ _ (hg g hgb) (ed1 (by rw [← hx]; exact List.getElem_mem hjl))) (fun y hy => by rw [List.take_zero] at hy; cases hy)
          refine j5 hac G hM1 hg (fun y hy => ?_)
          rcases htk y hy with h | h
          · obtain ⟨m, rfl, hmm⟩ := hs y h
            exact ⟨m, rfl, hkeep m hmm⟩
          · exact ⟨x, h, i2 x (by rw [hgs x, if_pos rfl])⟩
        · have hset := fun y => getD_setI at_ b y ((j + 1 : Nat) : Int) (by omega)
          obtain ⟨at1, b1, b2, b3, b4⟩ := i6 (at_.set b ((j + 1 : Nat) : Int)) (s ++ [(b : Int)]) (by rw [List.length_set]; exact a1) (fun y hy => by
            rw [hgs y] at hy
            split at hy
            · cases hy
            · rw [hset y]
              split
              · rename_i hyb; rw [hyb, hbm] at hy; cases hy
              · exact a2 y hy) (by rw [hset x, if_neg hxb]; exact a2 x hmx) (by rw [List.length_append]; simp only [List.length_singleton]; omega)
          have hb1' : at1.getD b 0 = ((j + 1 : Nat) : Int) := by rw [b3 b (Ne.symm hxb) (by rw [hgs b, if_neg (Ne.symm hxb)]; exact hbm), hset b, if_pos rfl]
          obtain ⟨at', c1, c2, c3, c4⟩ := j6 at1 s b1 b2 hb1' (by omega)
          refine ⟨at', c1, c2, fun y hyb hy => ?_, fun R hR => ?_⟩
          · have hyx : y ≠ x := fun e => by rw [e, hmx] at hy; cases hy
            rw [c3 y hyb (hkeep y hy), b3 y hyx (by rw [hgs y, if_neg hyx]; exact hy), hset y, if_neg hyb]
          · exact order_next v k hE hb a1 hm a3 hjl hx hxN (by omega) (Ev.if_neg (by rw [hmx]; decide) (b4 R (c4 R hR)))
    · have hjj : j = (nxL l b).length := by omega
      refine ⟨out ++ [(b : Int)], met, ?_, hm, fun _ h => h, Nat.le_refl _, by rw [List.length_append]; simp only [List.length_singleton]; omega, fun hac G hM hg hs => ?_, fun at_ s a1 a2 a3 a4 => ⟨at_, a1, a2, fun _ _ _ => rfl, fun R hR => ?_⟩⟩
      · simp only [spinnakerref33_left.l0]
        rw [if_neg (by omega), if_pos (by omega)]
      · rw [hjj, List.take_of_length_le (Nat.le_refl _)] at hs
        exact mid_end hE hac hM hb hg hs
      · exact order_pop v k hb a1 (by rw [a3, hjj]) (by omega) (by omega) hR

theorem rep_getD (n x : Nat) : (List.replicate n false).getD x false = false := by
  rw [List.getD_eq_getElem?_getD]
  cases h : (List.replicate n false)[x]? with
  | none => rfl
  | some w => exact (List.mem_replicate.1 (List.mem_of_getElem? h)).2
theorem rep_getI (n x : Nat) : (List.replicate n (0 : Int)).getD x 0 = 0 := by
  rw [List.getD_eq_getElem?_getD]
  cases h : (List.replicate n (0 : Int))[x]? with
  | none => rfl
  | some w => exact (List.mem_replicate.1 (List.mem_of_getElem? h)).2
theorem orders_ev {v : Int} {k : List Int} {l : List S36} (hF : Fine v k l) (hr : refRB v k l 200 = true) (hE : Edged l) : ∃ out : List Int, Ev (fun q => flow_Order.f q v k l) out.reverse ∧ Ev (fun q => spinnakerref33_Order.f q v k l) out.reverse ∧ out.length ≤ 1000 ∧
    ((∀ a, a < l.length → ¬ Path1 (Ed l (-1)) a a) → ∃ met, Mid l met out []) := by
  have hl := hE.len
  have hp := hE.pos
  have h2 : (nxL l 0).length ≤ 2 := nextE_len _
  have hlen : ((List.replicate l.length false).set 0 true).length = l.length := by simp
  have hun : unmet ((List.replicate l.length false).set 0 true) ≤ l.length := by have := unmet_le ((List.replicate l.length false).set 0 true); omega
  have hg0 := fun y => getD_set (List.replicate l.length false) 0 y (by simp; omega)
  obtain ⟨out, met, e, i1, _, _, i4, i5, i6⟩ := left_spec v k hE 200 0 ((List.replicate l.length false).set 0 true) [] 0 (by omega) hlen (by rw [hg0 0, if_pos rfl]) (Nat.zero_le _) (by omega) (by simp; omega)
  rw [show ((0 : Nat) : Int) = 0 from rfl] at e
  have ho : out.length ≤ 1000 := by simp at i4; omega
  refine ⟨out, ?_, ?_, ho, fun hac => ⟨met, i5 hac [] (mid_push (by
    refine ⟨fun x => ?_, fun x hx => (by cases hx), fun A x B hA => (by simp at hA), List.nodup_nil, List.nodup_nil, fun x hx => (by cases hx)⟩
    rw [rep_getD]; simp) (by simp; omega) (rep_getD _ _)) (fun g hg => by cases hg) (fun y hy => by rw [List.take_zero] at hy; cases hy)⟩⟩
  · obtain ⟨at', b1, _, _, b4⟩ := i6 (List.replicate l.length 0) [] (by simp) (fun x _ => rep_getI _ x) (rep_getI _ 0) (by simp)
    have hend : Ev (fun q => flow_Order.l0 q met at' [] out v k l) out.reverse := by
      refine Ev.by (f := fun q => (slices_Reverse_int_int.f q out).bind fun t => some t) (Ev.bind (rev_ev out (by omega)) (Ev.now _)) fun q => ?_
      simp only [flow_Order.l0]
      rw [if_neg (by simp)]
    have hst := b4 _ hend
    unfold flow_Order.f
    rw [flow_right_f hF, hr]
    simp only [Option.bind_some]
    refine Ev.if_pos trivial (Ev.if_pos (by omega) (Ev.if_pos (by omega) (Ev.if_pos (by omega) (Ev.if_pos (by simp; omega) ?_))))
    rw [Int.toNat_natCast]
    exact hst
  · unfold spinnakerref33_Order.f
    refine Ev.if_pos (by omega) (Ev.if_pos (by omega) (Ev.bind (a := (out, met)) (Ev.of (fun q => spinnakerref33_left.mono _ _ _ _ _ _ q) (k := 201) ?_) ?_))
    · rw [Int.toNat_natCast]
      have := left_f v k (l := l) 200 0 (List.replicate l.length false) [] (by omega) (by simp)
      rw [show ((0 : Nat) : Int) = 0 from rfl] at this
      rw [this]
      exact e
    · have := refRev_l0 out ho out.length [] (Nat.le_refl _) (by simp)
      rw [List.take_length, List.nil_append] at this
      show Ev (fun q => spinnakerref33_Order.l0 q out [] (wrap64 ((out.length : Int) - 1))) _
      rw [show wrap64 ((out.length : Int) - 1) = (out.length : Int) - 1 by unfold wrap64; omega]
      exact this
theorem rndL_spec (c : List (List Bool)) : ∀ d a, rndL c d a = true ↔ ∃ x, a ≤ x ∧ x < a + d ∧ at2 c x x = true
  | 0, a => by
    rw [rndL]
    exact ⟨fun h => (by cases h), fun ⟨x, h1, h2, _⟩ => by omega⟩
  | d + 1, a => by
    rw [rndL, Bool.or_eq_true, rndL_spec c d (a + 1), atB_nat]
    constructor
    · rintro (h | ⟨x, h1, h2, h3⟩)
      · exact ⟨a, Nat.le_refl _, by omega, h⟩
      · exact ⟨x, by omega, by omega, h3⟩
    · rintro ⟨x, h1, h2, h3⟩
      by_cases e : x = a
      · subst e; exact .inl h3
      · exact .inr ⟨x, by omega, by omega, h3⟩
theorem ordD_true (N : Nat) (e : List (List Bool)) (o : List Int) (h : ∀ i (hi : i < o.length), ∀ y ∈ o.take (i + 1), hasP N e o[i] y = false) : ∀ d i, i + d = o.length → ordD N e o d i = true
  | 0, _, _ => rfl
  | d + 1, i, hd => by
    have hi : i < o.length := by omega
    rw [ordD, ordD_true N e o h d (i + 1) (by omega), Bool.and_true, List.all_eq_true]
    intro y hy
    rw [show o.getD i 0 = o[i] by rw [List.getD_eq_getElem?_getD, List.getElem?_eq_getElem hi]; rfl, h i hi y hy]
    rfl
theorem FlowOrders : spinnakerlaw33_FlowOrders.Pure := by
  intro v k l ho hw
  have hF := fine_of ho hw
  apply Ev.rounds
  unfold spinnakerlaw33_FlowOrders.f spinnakerlaw33_right.f
  by_cases hg : l.length ≤ 30 ∧ refRB v k l 200 = true
  · have hE := edged_of hg.1 hg.2
    rw [if_pos (by have := hg.1; omega), right_f hF, hg.2]
    simp only [Option.bind_some]
    obtain ⟨out, h1, h2, h3, h4⟩ := orders_ev hF hg.2 hE
    obtain ⟨e, he, _, ha⟩ := edges_spec hE (-1)
    obtain ⟨c, hc, _, hp⟩ := leads_ev e (N := l.length) (by have := hg.1; omega)
    refine Ev.if_pos trivial (Ev.bind h1 (Ev.bind h2 (Ev.bind (ints_ev _ _ (by rw [List.length_reverse]; omega)) (Ev.if_pos (by simp) ?_))))
    rw [he]
    simp only [Option.bind_some]
    refine Ev.bind (a := rndL c l.length 0) (Ev.bind hc (Ev.now _)) ?_
    cases hrd : rndL c l.length 0 with
    | true => exact Ev.if_pos rfl awake33_ev
    | false =>
      have hac : ∀ a, a < l.length → ¬ Path1 (Ed l (-1)) a a := fun a haN hpa => by
        have : rndL c l.length 0 = true := (rndL_spec c l.length 0).2 ⟨a, Nat.zero_le _, by omega, (hp a a haN).2 ((path_same hE ha haN a).2 hpa)⟩
        rw [hrd] at this; cases this
      obtain ⟨met, hM⟩ := h4 hac
      refine Ev.if_neg (by decide) (Ev.if_pos (by rw [List.length_reverse]; exact h3) ?_)
      rw [ordD_true l.length e out.reverse (fun i hi y hy => ?_) out.reverse.length 0 (by omega)]
      · exact Ev.if_pos rfl awake33_ev
      · have hsplit : out.reverse = out.reverse.take i ++ out.reverse[i] :: out.reverse.drop (i + 1) := by rw [← List.drop_eq_getElem_cons hi, List.take_append_drop]
        have hout : out = (out.reverse.drop (i + 1)).reverse ++ out.reverse[i] :: (out.reverse.take i).reverse := by
          have := congrArg List.reverse hsplit
          rw [List.reverse_reverse, List.reverse_append, List.reverse_cons, List.append_assoc, List.singleton_append] at this
          exact this
        have hxm : out.reverse[i] ∈ out := List.mem_reverse.1 (List.getElem_mem hi)
        obtain ⟨x, hx, hxN⟩ := hM.rng _ hxm
        have hym : y ∈ out := List.mem_reverse.1 (List.mem_of_mem_take hy)
        obtain ⟨y', rfl, hyN⟩ := hM.rng _ hym
        cases hh : hasP l.length e out.reverse[i] (y' : Int) with
        | false => rfl
        | true =>
          exfalso
          rw [hx, show hasP l.length e (x : Int) (y' : Int) = at2 e x y' by simp [hasP, mayB, hxN, hyN, atB_nat], ha x y' hxN] at hh
          rw [hx] at hout
          have hin := hM.topo _ x _ hout _ hh.2.2
          have hnd := hM.nodup
          rw [hout, List.nodup_append] at hnd
          rw [List.take_succ_eq_append_getElem hi, hx] at hy
          refine hnd.2.2 _ hin _ ?_ rfl
          rcases List.mem_append.1 hy with h | h
          · exact List.mem_cons.2 (.inr (List.mem_reverse.2 h))
          · exact List.mem_cons.2 (.inl (List.mem_singleton.1 h))
  · have hwr := wrong33_ev hF hg
    have hoff : (if (l.length : Int) ≤ 30 then (spinnakerref26_Right.f v k l 200).bind fun t => some t else some false) = some false := by
      split
      · rw [right_f hF]
        cases e : refRB v k l 200 with
        | false => rfl
        | true => exact absurd ⟨by omega, e⟩ hg
      · rfl
    rw [hoff]
    simp only [Option.bind_some]
    exact Ev.if_neg (by decide) (Ev.bind hwr (Ev.if_pos rfl awake33_ev))

end Go.Proofs.YtgenmfbidpmneaaDoor.Pure
