/- Rmw of any operation, and of any two numbers, is the document's, or tells that there is none. For every three 64 bit numbers. -/
import Derived.Test.YtdnphnicdhcafaaPCalcRmwsx2
namespace Go.Proofs.Ytdnphnicdhcafaa.Pure
open Go.RowKit Go.Proofs.Ytdnphnicdhcafaa.PCalcRmws Go.Proofs.YtdnphnicdhcafaaW.PrintWords Go.Proofs.YtdnphnicdhcafaaW.PrintLast Go.Proofs.YtdnphnicdhcafaaW.PrintMore

set_option linter.unusedVariables false
set_option linter.unusedSimpArgs false
theorem rd_nat (xs : List Int) (i : Nat) (h : i < xs.length) : rd xs (i : Int) = xs[i] := by
  simp [rd, h]
theorem rd_getD (xs : List Int) (i : Nat) : rd xs (i : Int) = xs.getD i 0 := by simp [rd]
theorem wrap_succ (i : Nat) (h : i ≤ 4611686018427387904) : wrap64 ((i : Int) + 1) = ((i + 1 : Nat) : Int) := by
  unfold wrap64
  omega
theorem mx_self (a : Int) : mx a a = a := by unfold mx; split <;> rfl
/-- One round: by an equation for every number of rounds. -/
theorem Ev.by {α : Type} {g f : Nat → Option α} {r : α} (k : Ev f r) (h : ∀ k, g (k + 1) = f k) : Ev g r := Ev.step h k
theorem Ev.end_ {α : Type} {g : Nat → Option α} {r : α} (h : ∀ k, g (k + 1) = some r) : Ev g r := Ev.step (f := fun _ => some r) h (Ev.now r)
theorem Ev.if_pos {α : Type} {c : Prop} [Decidable c] {g f : Nat → Option α} {r : α} (hc : c) (h : Ev g r) : Ev (fun k => if c then g k else f k) r := by
  exact Ev.congr (fun _ => _root_.if_pos hc) h
theorem Ev.if_neg {α : Type} {c : Prop} [Decidable c] {g f : Nat → Option α} {r : α} (hc : ¬ c) (h : Ev f r) : Ev (fun k => if c then g k else f k) r := by
  exact Ev.congr (fun _ => _root_.if_neg hc) h
theorem drop_cons {α : Type} (l : List α) (i : Nat) (h : i < l.length) : l.drop i = l[i] :: l.drop (i + 1) := List.drop_eq_getElem_cons h

theorem awake28 : spinnakerlaw28_awake.f = some true := by rfl
theorem name79 : spinnakerref03_Name.f 79 = some (⟨#[97, 109, 111, 115, 119, 97, 112, 46, 100]⟩ : ByteArray) := by kernel_rfl
theorem name80 : spinnakerref03_Name.f 80 = some (⟨#[97, 109, 111, 97, 100, 100, 46, 100]⟩ : ByteArray) := by kernel_rfl
theorem name81 : spinnakerref03_Name.f 81 = some (⟨#[97, 109, 111, 120, 111, 114, 46, 100]⟩ : ByteArray) := by kernel_rfl
theorem name82 : spinnakerref03_Name.f 82 = some (⟨#[97, 109, 111, 97, 110, 100, 46, 100]⟩ : ByteArray) := by kernel_rfl
theorem name83 : spinnakerref03_Name.f 83 = some (⟨#[97, 109, 111, 111, 114, 46, 100]⟩ : ByteArray) := by kernel_rfl
theorem name84 : spinnakerref03_Name.f 84 = some (⟨#[97, 109, 111, 109, 105, 110, 46, 100]⟩ : ByteArray) := by kernel_rfl
theorem name85 : spinnakerref03_Name.f 85 = some (⟨#[97, 109, 111, 109, 97, 120, 46, 100]⟩ : ByteArray) := by kernel_rfl
theorem refAmo1 (a b : Int) : spinnakerref07_Amo.f 79 a b = some b := by simp [spinnakerref07_Amo.f, name79]
theorem refAmo2 (a b : Int) : spinnakerref07_Amo.f 80 a b = some (wrap64 (a + b)) := by simp [spinnakerref07_Amo.f, name80]
theorem refAmo3 (a b : Int) : spinnakerref07_Amo.f 82 a b = some (Go.bits .and .i64 a b) := by simp [spinnakerref07_Amo.f, name82]
theorem refAmo4 (a b : Int) : spinnakerref07_Amo.f 83 a b = some (Go.bits .or .i64 a b) := by simp [spinnakerref07_Amo.f, name83]
theorem refAmo5 (a b : Int) : spinnakerref07_Amo.f 81 a b = some (Go.bits .xor .i64 a b) := by simp [spinnakerref07_Amo.f, name81]
theorem refAmo6 (a b : Int) : spinnakerref07_Amo.f 84 a b = if a < b then some a else some b := by simp [spinnakerref07_Amo.f, name84]
theorem refAmo7 (a b : Int) : spinnakerref07_Amo.f 85 a b = if a < b then some b else some a := by simp [spinnakerref07_Amo.f, name85]
theorem CalcRmws : spinnakerlaw28_CalcRmws.Pure := by
  intro op a b _ _ _
  unfold spinnakerlaw28_CalcRmws.f calc_Rmw.f spinnakerref28_Rmw.f
  simp only [Option.bind_some, awake28]
  by_cases h1 : op = 1
  · subst h1; simp [rd, refAmo1]
  by_cases h2 : op = 2
  · subst h2; simp [rd, refAmo2]
  by_cases h3 : op = 3
  · subst h3; simp [rd, refAmo3]
  by_cases h4 : op = 4
  · subst h4; simp [rd, refAmo4]
  by_cases h5 : op = 5
  · subst h5; simp [rd, refAmo5]
  by_cases h6 : op = 6
  · subst h6
    simp [rd, refAmo6, mn]
    by_cases e : a < b
    · rw [if_pos e, if_neg (by omega)]; simp
    · rw [if_neg e]
      by_cases e2 : b < a
      · rw [if_pos e2]; simp
      · rw [if_neg e2]; simp; omega
  by_cases h7 : op = 7
  · subst h7
    simp [rd, refAmo7, mx]
    by_cases e : a < b
    · rw [if_pos e, if_pos e]; simp
    · rw [if_neg e, if_neg e]; simp
  rw [if_neg h1, if_neg h2, if_neg h3, if_neg h4, if_neg h5, if_neg h6, if_neg h7]
  by_cases g1 : op < 1
  · rw [if_pos g1]; rfl
  · rw [if_neg g1, if_pos (by omega)]; rfl

end Go.Proofs.Ytdnphnicdhcafaa.Pure
