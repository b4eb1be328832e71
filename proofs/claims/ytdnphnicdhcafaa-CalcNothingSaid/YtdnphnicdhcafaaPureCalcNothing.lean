/- Adding 0, or with 0, exclusive or with 0, and with -1, the lesser and the greater of itself change no cell. For every 64 bit number. -/
import Derived.Test.YtdnphnicdhcafaaPCalcNothingx1
namespace Go.Proofs.Ytdnphnicdhcafaa.Pure
open Go.RowKit Go.Proofs.Ytdnphnicdhcafaa.PCalcNothing Go.Proofs.YtdnphnicdhcafaaW.PrintWords Go.Proofs.YtdnphnicdhcafaaW.PrintLast Go.Proofs.YtdnphnicdhcafaaW.PrintMore

set_option linter.unusedVariables false
set_option linter.unusedSimpArgs false
theorem rd_nat (xs : List Int) (i : Nat) (h : i < xs.length) : rd xs (i : Int) = xs[i] := by
  simp [rd, h]
theorem rd_getD (xs : List Int) (i : Nat) : rd xs (i : Int) = xs.getD i 0 := by simp [rd]
theorem wrap_succ (i : Nat) (h : i ≤ 4611686018427387904) : wrap64 ((i : Int) + 1) = ((i + 1 : Nat) : Int) := by
  unfold wrap64
  omega
theorem mx_self (a : Int) : mx a a = a := by unfold mx; split <;> rfl
/-- One round: by an equation for every number of rounds. -/
theorem Ev.by {α : Type} {g f : Nat → Option α} {r : α} (k : Ev f r) (h : ∀ k, g (k + 1) = f k) : Ev g r := Ev.step h k
theorem Ev.end_ {α : Type} {g : Nat → Option α} {r : α} (h : ∀ k, g (k + 1) = some r) : Ev g r := Ev.step (f := fun _ => some r) h (Ev.now r)
theorem Ev.if_pos {α : Type} {c : Prop} [Decidable c] {g f : Nat → Option α} {r : α} (hc : c) (h : Ev g r) : Ev (fun k => if c then g k else f k) r := by
  exact Ev.congr (fun _ => _root_.if_pos hc) h
theorem Ev.if_neg {α : Type} {c : Prop} [Decidable c] {g f : Nat → Option α} {r : α} (hc : ¬ c) (h : Ev f r) : Ev (fun k => if c then g k else f k) r := by
  exact Ev.congr (fun _ => _root_.if_neg hc) h
theorem drop_cons {α : Type} (l : List α) (i : Nat) (h : i < l.length) : l.drop i = l[i] :: l.drop (i + 1) := List.drop_eq_getElem_cons h

theorem awake28 : spinnakerlaw28_awake.f = some true := by rfl
theorem wrap_in (a : Int) (h : (Lit.int .i64 a).wf = true) : wrap64 a = a := by
  have h2 : -9223372036854775808 ≤ a ∧ a ≤ 9223372036854775807 := by
    simpa [Lit.wf, IntKind.min, IntKind.max, IntKind.signed, IntKind.bits] using h
  unfold wrap64
  omega
theorem back_in (a : Int) (h : (Lit.int .i64 a).wf = true) : IntKind.i64.wrap ((BitVec.ofInt 64 a).toNat : Int) = a := by
  have h1 := wrap_in a h
  rw [BitVec.toNat_ofInt, IntKind.wrap_i64]
  rw [← h1]
  unfold wrap64
  omega
theorem bits_or (a : Int) (h : (Lit.int .i64 a).wf = true) : Go.bits .or .i64 a 0 = a := by
  show IntKind.i64.wrap ((BitVec.ofInt 64 a ||| BitVec.ofInt 64 0).toNat : Int) = a
  have : BitVec.ofInt 64 0 = 0#64 := rfl
  rw [this, BitVec.or_zero]
  exact back_in a h
theorem bits_xor (a : Int) (h : (Lit.int .i64 a).wf = true) : Go.bits .xor .i64 a 0 = a := by
  show IntKind.i64.wrap ((BitVec.ofInt 64 a ^^^ BitVec.ofInt 64 0).toNat : Int) = a
  have : BitVec.ofInt 64 0 = 0#64 := rfl
  rw [this, BitVec.xor_zero]
  exact back_in a h
theorem bits_and (a : Int) (h : (Lit.int .i64 a).wf = true) : Go.bits .and .i64 a (-1) = a := by
  show IntKind.i64.wrap ((BitVec.ofInt 64 a &&& BitVec.ofInt 64 (-1)).toNat : Int) = a
  have : BitVec.ofInt 64 (-1) = BitVec.allOnes 64 := rfl
  rw [this, BitVec.and_allOnes]
  exact back_in a h
theorem CalcNothing : spinnakerlaw28_CalcNothing.Pure := by
  intro a h
  have h1 := wrap_in a h
  simp [spinnakerlaw28_CalcNothing.f, calc_Rmw.f, awake28, bits_or a h, bits_xor a h, bits_and a h, h1, mn, mx]

end Go.Proofs.Ytdnphnicdhcafaa.Pure
