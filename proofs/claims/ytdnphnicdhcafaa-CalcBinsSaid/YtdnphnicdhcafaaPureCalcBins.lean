/- Bin reckons what the machine's operations reckon, or tells that it cannot. For any operation and any two 64 bit numbers. -/
import Derived.Test.YtdnphnicdhcafaaPCalcBinsx4
namespace Go.Proofs.Ytdnphnicdhcafaa.Pure
open Go.RowKit Go.Proofs.Ytdnphnicdhcafaa.PCalcBins Go.Proofs.YtdnphnicdhcafaaW.PrintWords Go.Proofs.YtdnphnicdhcafaaW.PrintLast Go.Proofs.YtdnphnicdhcafaaW.PrintMore

set_option linter.unusedVariables false
set_option linter.unusedSimpArgs false
theorem rd_nat (xs : List Int) (i : Nat) (h : i < xs.length) : rd xs (i : Int) = xs[i] := by
  simp [rd, h]
theorem rd_getD (xs : List Int) (i : Nat) : rd xs (i : Int) = xs.getD i 0 := by simp [rd]
theorem wrap_succ (i : Nat) (h : i ≤ 4611686018427387904) : wrap64 ((i : Int) + 1) = ((i + 1 : Nat) : Int) := by
  unfold wrap64
  omega
theorem mx_self (a : Int) : mx a a = a := by unfold mx; split <;> rfl
/-- One round: by an equation for every number of rounds. -/
theorem Ev.by {α : Type} {g f : Nat → Option α} {r : α} (k : Ev f r) (h : ∀ k, g (k + 1) = f k) : Ev g r := Ev.step h k
theorem Ev.end_ {α : Type} {g : Nat → Option α} {r : α} (h : ∀ k, g (k + 1) = some r) : Ev g r := Ev.step (f := fun _ => some r) h (Ev.now r)
theorem Ev.if_pos {α : Type} {c : Prop} [Decidable c] {g f : Nat → Option α} {r : α} (hc : c) (h : Ev g r) : Ev (fun k => if c then g k else f k) r := by
  exact Ev.congr (fun _ => _root_.if_pos hc) h
theorem Ev.if_neg {α : Type} {c : Prop} [Decidable c] {g f : Nat → Option α} {r : α} (hc : ¬ c) (h : Ev f r) : Ev (fun k => if c then g k else f k) r := by
  exact Ev.congr (fun _ => _root_.if_neg hc) h
theorem drop_cons {α : Type} (l : List α) (i : Nat) (h : i < l.length) : l.drop i = l[i] :: l.drop (i + 1) := List.drop_eq_getElem_cons h

theorem uw (x : Int) : IntKind.u64.wrap x = x % 18446744073709551616 := by
  simp [IntKind.wrap, IntKind.bits, IntKind.signed]
theorem wfr (a : Int) (h : (Lit.int .i64 a).wf = true) : -9223372036854775808 ≤ a ∧ a ≤ 9223372036854775807 := by
  simpa [Lit.wf, IntKind.min, IntKind.max, IntKind.signed, IntKind.bits] using h
theorem ua_abs (a : Int) (h1 : -9223372036854775808 ≤ a) (h2 : a ≤ 9223372036854775807) : spinnakerref07_Div.ua a = if a < 0 then -a else a := by
  unfold spinnakerref07_Div.ua
  rw [uw, uw]
  split <;> omega
theorem tdiv_le (x y : Int) (hx : 0 ≤ x) (hy : 0 < y) : 0 ≤ Int.tdiv x y ∧ Int.tdiv x y ≤ x ∧ 0 ≤ Int.tmod x y ∧ Int.tmod x y ≤ x := by
  rw [Int.tdiv_eq_ediv_of_nonneg hx, Int.tmod_eq_emod_of_nonneg hx]
  have h0 := Int.ediv_nonneg hx (Int.le_of_lt hy)
  have h1 := Int.ediv_le_self y hx
  have h2 := Int.emod_nonneg x (Int.ne_of_gt hy)
  have h3 := Int.emod_add_mul_ediv x y
  have h4 : 0 ≤ y * (x / y) := Int.mul_nonneg (Int.le_of_lt hy) h0
  omega
theorem div_ok (a b : Int) (ha1 : -9223372036854775808 ≤ a) (ha2 : a ≤ 9223372036854775807) (hb1 : -9223372036854775808 ≤ b) (hb2 : b ≤ 9223372036854775807) (hb : b ≠ 0) :
    spinnakerref07_Div.q (decide (a < 0)) (decide (b < 0)) (spinnakerref07_Div.ua a) (spinnakerref07_Div.ua b) = wrap64 (Int.tdiv a b) ∧ spinnakerref07_Div.r (decide (a < 0)) (spinnakerref07_Div.ua a) (spinnakerref07_Div.ua b) = Int.tmod a b ∧ spinnakerref07_Div.ua b ≠ 0 := by
  rw [ua_abs a ha1 ha2, ua_abs b hb1 hb2]
  unfold spinnakerref07_Div.q spinnakerref07_Div.r
  by_cases sa : a < 0 <;> by_cases sb : b < 0
  · obtain ⟨x, rfl⟩ : ∃ x, a = -x := ⟨-a, by omega⟩
    obtain ⟨y, rfl⟩ : ∃ y, b = -y := ⟨-b, by omega⟩
    rw [if_pos sa, if_pos sb, decide_eq_true sa, decide_eq_true sb, Int.neg_neg, Int.neg_neg, Int.neg_tdiv, Int.tdiv_neg, Int.neg_neg, Int.neg_tmod, Int.tmod_neg]
    have := tdiv_le x y (by omega) (by omega)
    generalize Int.tdiv x y = q at *
    generalize Int.tmod x y = r at *
    simp only [bne_self_eq_false, Bool.false_eq_true, if_false, if_true, uw]
    unfold wrap64
    omega
  · obtain ⟨x, rfl⟩ : ∃ x, a = -x := ⟨-a, by omega⟩
    rw [if_pos sa, if_neg sb, decide_eq_true sa, decide_eq_false sb, Int.neg_neg, Int.neg_tdiv, Int.neg_tmod]
    have := tdiv_le x b (by omega) (by omega)
    generalize Int.tdiv x b = q at *
    generalize Int.tmod x b = r at *
    simp only [Bool.bne_false, if_true, uw]
    unfold wrap64
    omega
  · obtain ⟨y, rfl⟩ : ∃ y, b = -y := ⟨-b, by omega⟩
    rw [if_neg sa, if_pos sb, decide_eq_false sa, decide_eq_true sb, Int.neg_neg, Int.tdiv_neg, Int.tmod_neg]
    have := tdiv_le a y (by omega) (by omega)
    generalize Int.tdiv a y = q at *
    generalize Int.tmod a y = r at *
    simp only [Bool.bne_true, Bool.not_false, Bool.false_eq_true, if_false, if_true, uw]
    unfold wrap64
    omega
  · rw [if_neg sa, if_neg sb, decide_eq_false sa, decide_eq_false sb]
    have := tdiv_le a b (by omega) (by omega)
    generalize Int.tdiv a b = q at *
    generalize Int.tmod a b = r at *
    simp only [bne_self_eq_false, Bool.false_eq_true, if_false, uw]
    unfold wrap64
    omega
/-- What a list of digits stands for. -/
def vs (s : List Int) : Nat → Int
  | 0 => 0
  | m + 1 => vs s m + s.getD m 0 * 65536 ^ m
theorem getD_set (s : List Int) (j m : Nat) (v : Int) (h : j < s.length) : (s.set j v).getD m 0 = if j = m then v else s.getD m 0 := by
  simp only [List.getD, List.getElem?_set]
  by_cases e : j = m
  · subst e; simp [h]
  · simp [e]
theorem vs_set (s : List Int) (j : Nat) (v : Int) (h : j < s.length) : ∀ m, vs (s.set j v) m = vs s m + if j < m then (v - s.getD j 0) * 65536 ^ j else 0
  | 0 => by simp [vs]
  | m + 1 => by
    simp only [vs]
    rw [vs_set s j v h m, getD_set s j m v h]
    by_cases e : j = m
    · subst e
      rw [if_neg (by omega), if_pos rfl, if_pos (by omega), Int.sub_mul]
      omega
    · by_cases e2 : j < m
      · rw [if_pos e2, if_neg e, if_pos (by omega)]; omega
      · rw [if_neg e2, if_neg e, if_neg (by omega)]; omega
def small (s : List Int) (c : Int) : Prop := ∀ j, 0 ≤ s.getD j 0 ∧ s.getD j 0 ≤ c
theorem prod_small (a b : Int) (ha : 0 ≤ a ∧ a < 65536) (hb : 0 ≤ b ∧ b < 65536) : 0 ≤ a * b ∧ a * b < 4294967296 := by
  have h1 := Int.mul_nonneg ha.1 hb.1
  have h2 : a * b ≤ 65535 * b := Int.mul_le_mul_of_nonneg_right (by omega) hb.1
  omega
theorem one_vs (x y s : List Int) (i k : Nat) (c : Int) (hl : s.length = 8) (hik : i + k + 1 < 8) (hx : 0 ≤ x.getD i 0 ∧ x.getD i 0 < 65536) (hy : 0 ≤ y.getD k 0 ∧ y.getD k 0 < 65536) (hs : small s c) (hc : c ≤ 1099511627776) :
    vs (spinnakerref07_Mul.one x y s i k) 8 = vs s 8 + x.getD i 0 * y.getD k 0 * 65536 ^ (i + k) ∧ small (spinnakerref07_Mul.one x y s i k) (c + 65536) := by
  have hp := prod_small _ _ hx hy
  unfold spinnakerref07_Mul.one
  generalize x.getD i 0 * y.getD k 0 = p at *
  generalize hj : i + k = j at *
  have s0 := hs j
  have s1 := hs (j + 1)
  rw [uw p, Int.emod_eq_of_lt hp.1 (by omega), Int.tmod_eq_emod_of_nonneg hp.1, Int.tdiv_eq_ediv_of_nonneg hp.1]
  have hpl : 0 ≤ p % 65536 ∧ p % 65536 < 65536 := by omega
  have hph : 0 ≤ p / 65536 ∧ p / 65536 < 65536 := by omega
  have hpp : p = p % 65536 + 65536 * (p / 65536) := by omega
  generalize p % 65536 = pl at *
  generalize p / 65536 = ph at *
  have e1 : IntKind.u64.wrap (s.getD j 0 + pl) = s.getD j 0 + pl := by rw [uw]; omega
  have e2 : IntKind.u64.wrap ph = ph := by rw [uw]; omega
  have e3 : IntKind.u64.wrap (s.getD (j + 1) 0 + ph) = s.getD (j + 1) 0 + ph := by rw [uw]; omega
  rw [e1, e2, e3]
  have hl2 : j + 1 < (s.set j (s.getD j 0 + pl)).length := by rw [List.length_set]; omega
  refine ⟨?_, fun m => ?_⟩
  · rw [vs_set _ _ _ hl2, vs_set _ _ _ (by omega), if_pos (by omega), if_pos (by omega), getD_set _ _ _ _ (by omega), if_neg (by omega)]
    have a1 : s.getD j 0 + pl - s.getD j 0 = pl := by omega
    have a2 : s.getD (j + 1) 0 + ph - s.getD (j + 1) 0 = ph := by omega
    rw [a1, a2, hpp, Int.add_mul, Int.pow_succ, Int.mul_comm 65536 ph, Int.mul_assoc, Int.mul_comm (65536 ^ j) 65536]
    omega
  · rw [getD_set _ _ _ _ hl2, getD_set _ _ _ _ (by omega)]
    have sm := hs m
    by_cases g1 : j + 1 = m
    · rw [if_pos g1]; omega
    · rw [if_neg g1]
      by_cases g2 : j = m
      · rw [if_pos g2]; omega
      · rw [if_neg g2]; omega
theorem row_vs (x y s : List Int) (i : Nat) (c : Int) (hl : s.length = 8) (hi : i < 4) (hx : ∀ j, 0 ≤ x.getD j 0 ∧ x.getD j 0 < 65536) (hy : ∀ j, 0 ≤ y.getD j 0 ∧ y.getD j 0 < 65536) (hs : small s c) (hc : c ≤ 549755813888) :
    ∀ k, k ≤ 4 → vs (spinnakerref07_Mul.row x y s i k) 8 = vs s 8 + x.getD i 0 * 65536 ^ i * vs y k ∧ small (spinnakerref07_Mul.row x y s i k) (c + 65536 * k)
  | 0, _ => ⟨by simp [spinnakerref07_Mul.row, vs], by simpa [spinnakerref07_Mul.row] using hs⟩
  | k + 1, hk => by
    have ih := row_vs x y s i c hl hi hx hy hs hc k (by omega)
    have h := one_vs x y (spinnakerref07_Mul.row x y s i k) i k (c + 65536 * k) (by rw [spinnakerref07_Mul.row_len, hl]) (by omega) (hx i) (hy k) ih.2 (by omega)
    simp only [spinnakerref07_Mul.row]
    refine ⟨?_, fun m => ?_⟩
    · rw [h.1, ih.1]
      simp only [vs]
      rw [Int.mul_add, Int.add_assoc]
      congr 2
      rw [Int.pow_add, Int.mul_assoc, Int.mul_assoc, ← Int.mul_assoc (y.getD k 0), Int.mul_comm (y.getD k 0) (65536 ^ i), Int.mul_assoc]
    · have := h.2 m
      omega
theorem all_vs (x y : List Int) (hx : ∀ j, 0 ≤ x.getD j 0 ∧ x.getD j 0 < 65536) (hy : ∀ j, 0 ≤ y.getD j 0 ∧ y.getD j 0 < 65536) : ∀ i, i ≤ 4 → vs (spinnakerref07_Mul.all x y i) 8 = vs x i * vs y 4 ∧ small (spinnakerref07_Mul.all x y i) (262144 * i)
  | 0, _ => ⟨by simp [spinnakerref07_Mul.all, vs], fun j => by
      have : (spinnakerref07_Mul.all x y 0).getD j 0 = 0 := by
        rcases j with _ | _ | _ | _ | _ | _ | _ | _ | j <;> rfl
      rw [this]; omega⟩
  | i + 1, hi => by
    have ih := all_vs x y hx hy i (by omega)
    have h := row_vs x y (spinnakerref07_Mul.all x y i) i (262144 * i) (spinnakerref07_Mul.all_len x y i) (by omega) hx hy ih.2 (by omega) 4 (by omega)
    simp only [spinnakerref07_Mul.all]
    refine ⟨?_, fun m => ?_⟩
    · rw [h.1, ih.1]
      simp only [vs]
      rw [← Int.add_mul]
    · have := h.2 m
      omega
theorem car_ok (s : List Int) (c : Int) (hs : small s c) (hc : c ≤ 1099511627776) : ∀ m, 0 ≤ spinnakerref07_Mul.car s m ∧ spinnakerref07_Mul.car s m ≤ c
  | 0 => ⟨Int.le_refl 0, by have := hs 0; simp only [spinnakerref07_Mul.car]; omega⟩
  | m + 1 => by
    have ih := car_ok s c hs hc m
    have h := hs m
    simp only [spinnakerref07_Mul.car]
    rw [uw, uw, Int.emod_eq_of_lt (a := s.getD m 0 + spinnakerref07_Mul.car s m) (by omega) (by omega), Int.tdiv_eq_ediv_of_nonneg (by omega)]
    omega
theorem car_step (s : List Int) (c : Int) (hs : small s c) (hc : c ≤ 1099511627776) (m : Nat) : spinnakerref07_Mul.dig s m + 65536 * spinnakerref07_Mul.car s (m + 1) = s.getD m 0 + spinnakerref07_Mul.car s m ∧ 0 ≤ spinnakerref07_Mul.dig s m ∧ spinnakerref07_Mul.dig s m < 65536 := by
  have ih := car_ok s c hs hc m
  have h := hs m
  simp only [spinnakerref07_Mul.car, spinnakerref07_Mul.dig]
  rw [uw, uw, Int.emod_eq_of_lt (by omega) (by omega), Int.tdiv_eq_ediv_of_nonneg (by omega), Int.tmod_eq_emod_of_nonneg (by omega)]
  omega
theorem four_ok (s : List Int) (c : Int) (hs : small s c) (hc : c ≤ 1099511627776) : spinnakerref07_Mul.four (spinnakerref07_Mul.dig s 0) (spinnakerref07_Mul.dig s 1) (spinnakerref07_Mul.dig s 2) (spinnakerref07_Mul.dig s 3) = vs s 8 % 18446744073709551616 := by
  have h0 := car_step s c hs hc 0
  have h1 := car_step s c hs hc 1
  have h2 := car_step s c hs hc 2
  have h3 := car_step s c hs hc 3
  have e0 : spinnakerref07_Mul.car s 0 = 0 := rfl
  rw [e0] at h0
  unfold spinnakerref07_Mul.four
  simp only [uw]
  simp only [vs]
  generalize spinnakerref07_Mul.dig s 0 = d0 at *
  generalize spinnakerref07_Mul.dig s 1 = d1 at *
  generalize spinnakerref07_Mul.dig s 2 = d2 at *
  generalize spinnakerref07_Mul.dig s 3 = d3 at *
  generalize spinnakerref07_Mul.car s (0 + 1) = c1 at *
  generalize spinnakerref07_Mul.car s (1 + 1) = c2 at *
  generalize spinnakerref07_Mul.car s (2 + 1) = c3 at *
  generalize spinnakerref07_Mul.car s (3 + 1) = c4 at *
  generalize spinnakerref07_Mul.car s 1 = k1 at *
  generalize spinnakerref07_Mul.car s 2 = k2 at *
  generalize spinnakerref07_Mul.car s 3 = k3 at *
  omega
theorem xs_ok (a : Int) (h0 : 0 ≤ a) (h1 : a < 18446744073709551616) : (∀ j, 0 ≤ (spinnakerref07_Mul.xs a).getD j 0 ∧ (spinnakerref07_Mul.xs a).getD j 0 < 65536) ∧ vs (spinnakerref07_Mul.xs a) 4 = a := by
  have e : spinnakerref07_Mul.xs a = [a % 65536, a / 65536 % 65536, a / 4294967296 % 65536, a / 281474976710656] := by
    unfold spinnakerref07_Mul.xs
    rw [uw, uw, uw, Int.tmod_eq_emod_of_nonneg h0, Int.tdiv_eq_ediv_of_nonneg h0, Int.tdiv_eq_ediv_of_nonneg h0, Int.tdiv_eq_ediv_of_nonneg h0, Int.emod_eq_of_lt (a := a / 65536) (by omega) (by omega), Int.emod_eq_of_lt (a := a / 4294967296) (by omega) (by omega), Int.emod_eq_of_lt (a := a / 281474976710656) (by omega) (by omega), Int.tmod_eq_emod_of_nonneg (by omega), Int.tmod_eq_emod_of_nonneg (by omega)]
  rw [e]
  refine ⟨fun j => ?_, ?_⟩
  · rcases j with _ | _ | _ | _ | j
    · show 0 ≤ a % 65536 ∧ a % 65536 < 65536; omega
    · show 0 ≤ a / 65536 % 65536 ∧ a / 65536 % 65536 < 65536; omega
    · show 0 ≤ a / 4294967296 % 65536 ∧ a / 4294967296 % 65536 < 65536; omega
    · show 0 ≤ a / 281474976710656 ∧ a / 281474976710656 < 65536; omega
    · show (0 : Int) ≤ 0 ∧ (0 : Int) < 65536; omega
  · show 0 + a % 65536 * 65536 ^ 0 + a / 65536 % 65536 * 65536 ^ 1 + a / 4294967296 % 65536 * 65536 ^ 2 + a / 281474976710656 * 65536 ^ 3 = a
    omega
theorem mul_ok (a b : Int) : wrap64 (spinnakerref07_Mul.four (spinnakerref07_Mul.dig (spinnakerref07_Mul.all (spinnakerref07_Mul.xs (IntKind.u64.wrap a)) (spinnakerref07_Mul.xs (IntKind.u64.wrap b)) 4) 0) (spinnakerref07_Mul.dig (spinnakerref07_Mul.all (spinnakerref07_Mul.xs (IntKind.u64.wrap a)) (spinnakerref07_Mul.xs (IntKind.u64.wrap b)) 4) 1) (spinnakerref07_Mul.dig (spinnakerref07_Mul.all (spinnakerref07_Mul.xs (IntKind.u64.wrap a)) (spinnakerref07_Mul.xs (IntKind.u64.wrap b)) 4) 2) (spinnakerref07_Mul.dig (spinnakerref07_Mul.all (spinnakerref07_Mul.xs (IntKind.u64.wrap a)) (spinnakerref07_Mul.xs (IntKind.u64.wrap b)) 4) 3)) = wrap64 (a * b) := by
  have ha := xs_ok (IntKind.u64.wrap a) (by rw [uw]; omega) (by rw [uw]; omega)
  have hb := xs_ok (IntKind.u64.wrap b) (by rw [uw]; omega) (by rw [uw]; omega)
  have h := all_vs _ _ ha.1 hb.1 4 (by omega)
  rw [four_ok _ _ h.2 (by omega), h.1, ha.2, hb.2, uw, uw, ← Int.mul_emod]
  unfold wrap64
  omega
theorem p2 (i : Nat) : (0 : Int) < 2 ^ i := Int.pow_pos (by omega)
theorem p63 (i : Nat) (h : i ≤ 63) : (2 : Int) ^ i ≤ 9223372036854775808 := (by decide +kernel : ∀ i : Fin 64, (2 : Int) ^ i.val ≤ 9223372036854775808) ⟨i, by omega⟩
/-- A sum of bits. -/
def ob (f : Nat → Int) : Nat → Int
  | 0 => 0
  | i + 1 => ob f i + f i * 2 ^ i
theorem ob_range (f : Nat → Int) (n : Nat) (h : ∀ i, i < n → f i = 0 ∨ f i = 1) : 0 ≤ ob f n ∧ ob f n < 2 ^ n := by
  induction n with
  | zero => simp [ob]
  | succ n ih =>
    have hn := ih fun i hi => h i (by omega)
    have hp := p2 n
    have hs : (2 : Int) ^ (n + 1) = 2 ^ n * 2 := Int.pow_succ ..
    simp only [ob]
    rcases h n (by omega) with e | e <;> rw [e, hs] <;> omega
theorem ob_congr (f g : Nat → Int) (n : Nat) (h : ∀ i, i < n → f i = g i) : ob f n = ob g n := by
  induction n with
  | zero => rfl
  | succ n ih => simp only [ob]; rw [ih fun i hi => h i (by omega), h n (by omega)]
theorem ob_bits (x : Int) (n : Nat) : ob (fun i => x / 2 ^ i % 2) n = x % 2 ^ n := by
  induction n with
  | zero => simp [ob]
  | succ n ih =>
    simp only [ob]
    rw [ih, Int.pow_succ]
    have hp := p2 n
    have h2 := Int.emod_add_mul_ediv (x / 2 ^ n) 2
    have h1 := Int.emod_add_mul_ediv x (2 ^ n)
    have e : x = (x % 2 ^ n + (x / 2 ^ n % 2) * 2 ^ n) + (2 ^ n * 2) * (x / 2 ^ n / 2) := by
      have : 2 ^ n * (x / 2 ^ n) = 2 ^ n * (x / 2 ^ n % 2) + 2 ^ n * (2 * (x / 2 ^ n / 2)) := by rw [← Int.mul_add, h2]
      rw [Int.mul_comm (x / 2 ^ n % 2), Int.mul_assoc]
      omega
    have g0 := Int.emod_nonneg x (Int.ne_of_gt hp)
    have g1 := Int.emod_lt_of_pos x hp
    have gb : x / 2 ^ n % 2 = 0 ∨ x / 2 ^ n % 2 = 1 := by omega
    have lt : x % 2 ^ n + (x / 2 ^ n % 2) * 2 ^ n < 2 ^ n * 2 := by rcases gb with e | e <;> rw [e] <;> omega
    have nn : 0 ≤ x % 2 ^ n + (x / 2 ^ n % 2) * 2 ^ n := by rcases gb with e | e <;> rw [e] <;> omega
    generalize hb : x % 2 ^ n + (x / 2 ^ n % 2) * 2 ^ n = y at *
    rw [e, Int.add_mul_emod_self_left, Int.emod_eq_of_lt nn lt]
theorem power_l0 (n : Nat) (hn : n ≤ 63) : ∀ d i, i ≤ n → n - i = d → Ev (fun k => spinnakerref01_Power.l0 k (n : Int) (2 ^ i) (i : Int)) (2 ^ n) := by
  intro d
  induction d with
  | zero =>
    intro i hi hd
    have : i = n := by omega
    subst this
    exact Ev.end_ fun k => by simp only [spinnakerref01_Power.l0]; rw [_root_.if_neg (by omega)]
  | succ d ih =>
    intro i hi hd
    refine Ev.by (ih (i + 1) (by omega) (by omega)) fun k => ?_
    simp only [spinnakerref01_Power.l0]
    have h1 := p63 (i + 1) (by omega)
    have h2 := p2 i
    rw [Int.pow_succ] at h1
    rw [_root_.if_pos (by omega), wrap_succ i (by omega), uw, Int.pow_succ, Int.mul_comm 2, Int.emod_eq_of_lt (by omega) (by omega)]
theorem power_ev (n : Nat) (hn : n ≤ 63) : Ev (fun k => spinnakerref01_Power.f k (n : Int)) (2 ^ n) := by
  have := power_l0 n hn n 0 (by omega) (by omega)
  simpa [spinnakerref01_Power.f] using this
theorem num_l0 (l : List Int) (f : Nat → Int) (hl : l.length = 64) (hf : ∀ i : Nat, i < 64 → rd l (i : Int) = f i) (hb : ∀ i, i < 64 → f i = 0 ∨ f i = 1) : ∀ d i, i ≤ 64 → 64 - i = d → Ev (fun k => spinnakerref07_num.l0 k l (ob f i) (i : Int)) (wrap64 (ob f 64)) := by
  intro d
  induction d with
  | zero =>
    intro i hi hd
    have : i = 64 := by omega
    subst this
    exact Ev.end_ fun k => by simp only [spinnakerref07_num.l0]; rw [_root_.if_neg (by omega)]
  | succ d ih =>
    intro i hi hd
    refine Ev.step (fun k => spinnakerref07_num.l0.eq_2 _ _ _ k) ?_
    refine Ev.if_pos (by omega) (Ev.if_pos (by omega) (Ev.if_pos (by omega) (Ev.bind (power_ev i (by omega)) ?_)))
    have h1 := p63 i (by omega)
    have h2 := p2 i
    have h3 := ob_range f i fun j hj => hb j (by omega)
    have e : IntKind.u64.wrap (ob f i + IntKind.u64.wrap (IntKind.u64.wrap (rd l (i : Int)) * 2 ^ i)) = ob f (i + 1) := by
      rw [hf i (by omega), uw, uw, uw]
      simp only [ob]
      rcases hb i (by omega) with e | e <;> rw [e] <;> omega
    rw [e, wrap_succ i (by omega)]
    exact ih (i + 1) (by omega) (by omega)
theorem num_ev (l : List Int) (f : Nat → Int) (hl : l.length = 64) (hf : ∀ i : Nat, i < 64 → rd l (i : Int) = f i) (hb : ∀ i, i < 64 → f i = 0 ∨ f i = 1) : Ev (fun k => spinnakerref07_num.f k l) (wrap64 (ob f 64)) := by
  have := num_l0 l f hl hf hb 64 0 (by omega) (by omega)
  simpa [spinnakerref07_num.f, ob] using this
theorem bit_l0 (n : Nat) (hn : n ≤ 63) : ∀ d i (x : Int), 0 ≤ x → x < 18446744073709551616 → i ≤ n → n - i = d → Ev (fun k => spinnakerref01_Bit.l0 k x (n : Int) (i : Int)) (x / 2 ^ d % 2) := by
  intro d
  induction d with
  | zero =>
    intro i x h0 h1 hi hd
    refine Ev.end_ fun k => ?_
    simp only [spinnakerref01_Bit.l0]
    rw [_root_.if_neg (by omega), Int.tmod_eq_emod_of_nonneg h0]
    have : wrap64 (x % 2) = x % 2 := by unfold wrap64; omega
    rw [this]
    simp
  | succ d ih =>
    intro i x h0 h1 hi hd
    have hq := ih (i + 1) (x / 2) (by omega) (by omega) (by omega) (by omega)
    have e : x / 2 / 2 ^ d = x / 2 ^ (d + 1) := by rw [Int.ediv_ediv_of_nonneg (by omega), Int.pow_succ, Int.mul_comm]
    rw [e] at hq
    refine Ev.by hq fun k => ?_
    simp only [spinnakerref01_Bit.l0]
    rw [_root_.if_pos (by omega), wrap_succ i (by omega), uw, Int.tdiv_eq_ediv_of_nonneg h0, Int.emod_eq_of_lt (by omega) (by omega)]
theorem bit_ev (n : Nat) (hn : n ≤ 63) (x : Int) (h0 : 0 ≤ x) (h1 : x < 18446744073709551616) : Ev (fun k => spinnakerref01_Bit.f k x (n : Int)) (x / 2 ^ n % 2) := by
  have := bit_l0 n hn n 0 x h0 h1 (by omega) (by omega)
  simpa [spinnakerref01_Bit.f] using this
/-- The first i of 64 bits. -/
def fill (F : Nat → Int) (i : Nat) : List Int := (List.range 64).map fun j => if j < i then F j else 0
theorem fill_len (F : Nat → Int) (i : Nat) : (fill F i).length = 64 := by simp [fill]
theorem fill_set (F : Nat → Int) (i : Nat) (h : i < 64) : (fill F i).set i (F i) = fill F (i + 1) := by
  apply List.ext_getElem
  · simp [fill]
  · intro j h1 h2
    simp [fill, List.getElem_set]
    by_cases e : i = j
    · subst e; simp
    · by_cases e2 : j < i
      · simp [e, e2, show j < i + 1 by omega]
      · simp [e, e2, show ¬ j < i + 1 by omega]
theorem fill_zero (F : Nat → Int) : fill F 0 = List.replicate 64 0 := by
  apply List.ext_getElem
  · simp [fill]
  · intro j h1 h2
    rw [List.getElem_replicate]
    simp [fill]
theorem fill_rd (F : Nat → Int) (j : Nat) (h : j < 64) : rd (fill F 64) (j : Int) = F j := by
  rw [rd_nat _ _ (by rw [fill_len]; exact h)]
  simp [fill, h]
theorem wrapM (x : Int) : wrap64 (x % 18446744073709551616) = wrap64 x := by
  unfold wrap64
  omega
/-- What comes in at a place when a number goes up by n places. -/
def upF (u : Int) (n j : Nat) : Int := if n ≤ j then u / 2 ^ (j - n) % 2 else 0
def dnF (u s : Int) (n j : Nat) : Int := if j + n < 64 then u / 2 ^ (j + n) % 2 else s
theorem up_l0 (a : Int) (n : Nat) (hn : n ≤ 63) (R : Int) (hR : Ev (fun k => spinnakerref07_num.f k (fill (upF (IntKind.u64.wrap a) n) 64)) R) : ∀ d i, i ≤ 64 → 64 - i = d →
    Ev (fun k => spinnakerref07_moved.l0 k a (n : Int) true 0 64 (fill (upF (IntKind.u64.wrap a) n) i) (i : Int)) R := by
  intro d
  induction d with
  | zero =>
    intro i hi hd
    have : i = 64 := by omega
    subst this
    refine Ev.step (fun k => spinnakerref07_moved.l0.eq_2 _ _ _ _ _ _ _ k) ?_
    exact Ev.if_neg (by omega) (Ev.bind hR (Ev.now _))
  | succ d ih =>
    intro i hi hd
    have h1 : i < 64 := by omega
    have hn2 := ih (i + 1) (by omega) (by omega)
    rw [← fill_set _ i h1] at hn2
    refine Ev.step (fun k => spinnakerref07_moved.l0.eq_2 _ _ _ _ _ _ _ k) ?_
    refine Ev.if_pos (by omega) (Ev.if_pos rfl (Ev.if_pos (by omega) (Ev.if_pos (by rw [fill_len]; omega) ?_)))
    simp only [Option.bind_some, Int.toNat_natCast]
    have hu : 0 ≤ IntKind.u64.wrap a ∧ IntKind.u64.wrap a < 18446744073709551616 := by rw [uw]; omega
    have hw : wrap64 ((i : Int) - (n : Int)) = (i : Int) - (n : Int) := by unfold wrap64; omega
    rw [hw, wrap_succ i (by omega)]
    by_cases e : n ≤ i
    · refine Ev.if_pos (by omega) (Ev.if_pos (by omega) ?_)
      have hi2 : (i : Int) - (n : Int) = ((i - n : Nat) : Int) := by omega
      rw [hi2]
      refine Ev.bind (bit_ev (i - n) (by omega) _ hu.1 hu.2) ?_
      rw [List.set_set]
      have e2 : upF (IntKind.u64.wrap a) n i = IntKind.u64.wrap a / 2 ^ (i - n) % 2 := if_pos e
      rw [e2] at hn2
      exact hn2
    · refine Ev.if_neg (by omega) ?_
      have e2 : upF (IntKind.u64.wrap a) n i = 0 := if_neg e
      rw [e2] at hn2
      exact hn2
theorem dn_l0 (a s : Int) (n : Nat) (hn : n ≤ 63) (R : Int) (hR : Ev (fun k => spinnakerref07_num.f k (fill (dnF (IntKind.u64.wrap a) s n) 64)) R) : ∀ d i, i ≤ 64 → 64 - i = d →
    Ev (fun k => spinnakerref07_moved.l0 k a (n : Int) false s 64 (fill (dnF (IntKind.u64.wrap a) s n) i) (i : Int)) R := by
  intro d
  induction d with
  | zero =>
    intro i hi hd
    have : i = 64 := by omega
    subst this
    refine Ev.step (fun k => spinnakerref07_moved.l0.eq_2 _ _ _ _ _ _ _ k) ?_
    exact Ev.if_neg (by omega) (Ev.bind hR (Ev.now _))
  | succ d ih =>
    intro i hi hd
    have h1 : i < 64 := by omega
    have hn2 := ih (i + 1) (by omega) (by omega)
    rw [← fill_set _ i h1] at hn2
    refine Ev.step (fun k => spinnakerref07_moved.l0.eq_2 _ _ _ _ _ _ _ k) ?_
    refine Ev.if_pos (by omega) (Ev.if_neg (by simp) (Ev.if_pos (by omega) (Ev.if_pos (by rw [fill_len]; omega) ?_)))
    refine Ev.bind (Ev.now _) ?_
    rw [Int.toNat_natCast]
    have hu : 0 ≤ IntKind.u64.wrap a ∧ IntKind.u64.wrap a < 18446744073709551616 := by rw [uw]; omega
    rw [wrap_succ i (by omega)]
    have hq2 : wrap64 ((i : Int) + (n : Int)) = ((i + n : Nat) : Int) := by unfold wrap64; omega
    generalize wrap64 ((i : Int) + (n : Int)) = q at hq2 ⊢
    refine Ev.if_pos (show q ≥ 0 by omega) ?_
    by_cases e : i + n < 64
    · refine Ev.if_pos (by omega) ?_
      rw [hq2]
      refine Ev.bind (bit_ev (i + n) (by omega) _ hu.1 hu.2) ?_
      rw [List.set_set]
      have e2 : dnF (IntKind.u64.wrap a) s n i = IntKind.u64.wrap a / 2 ^ (i + n) % 2 := if_pos e
      rw [e2] at hn2
      exact hn2
    · refine Ev.if_neg (by omega) ?_
      have e2 : dnF (IntKind.u64.wrap a) s n i = s := if_neg e
      rw [e2] at hn2
      exact hn2
theorem up_ob (a : Int) (n : Nat) (hn : n ≤ 63) : wrap64 (ob (upF (IntKind.u64.wrap a) n) 64) = wrap64 (a * 2 ^ n) := by
  have e : ob (upF (IntKind.u64.wrap a) n) 64 = ob (fun i => IntKind.u64.wrap a * 2 ^ n / 2 ^ i % 2) 64 := by
    refine ob_congr _ _ _ fun j hj => ?_
    unfold upF
    by_cases g : n ≤ j
    · rw [if_pos g]
      have : (2 : Int) ^ j = 2 ^ (j - n) * 2 ^ n := by rw [← Int.pow_add]; congr 1; omega
      rw [this, Int.mul_ediv_mul_of_pos_left _ _ (p2 n)]
    · rw [if_neg g]
      have : (2 : Int) ^ n = 2 * 2 ^ (n - j - 1) * 2 ^ j := by
        rw [Int.mul_comm 2, ← Int.pow_succ, ← Int.pow_add]; congr 1; omega
      rw [this, ← Int.mul_assoc, Int.mul_ediv_cancel _ (Int.ne_of_gt (p2 j)), Int.mul_comm 2, ← Int.mul_assoc, Int.mul_emod_left]
  rw [e, ob_bits]
  have m64 : (2 : Int) ^ 64 = 18446744073709551616 := by decide
  rw [m64, wrapM, uw]
  have h : a * 2 ^ n = a % 18446744073709551616 * 2 ^ n + 18446744073709551616 * (a / 18446744073709551616 * 2 ^ n) := by
    rw [← Int.mul_assoc, ← Int.add_mul, Int.emod_add_mul_ediv]
  rw [h]
  generalize a / 18446744073709551616 * 2 ^ n = t
  generalize a % 18446744073709551616 * 2 ^ n = y
  unfold wrap64
  omega
theorem bit_same (a : Int) (m : Nat) (hm : m ≤ 63) : IntKind.u64.wrap a / 2 ^ m % 2 = a / 2 ^ m % 2 := by
  rw [uw]
  have h : a = a % 18446744073709551616 + 2 ^ m * (2 * 2 ^ (63 - m) * (a / 18446744073709551616)) := by
    have : (18446744073709551616 : Int) = 2 ^ m * (2 * 2 ^ (63 - m)) := by
      rw [Int.mul_comm 2, ← Int.pow_succ, ← Int.pow_add]
      have : m + (63 - m + 1) = 64 := by omega
      rw [this]; decide
    rw [← Int.mul_assoc, ← this, Int.emod_add_mul_ediv]
  have h2 : a / 2 ^ m = a % 18446744073709551616 / 2 ^ m + 2 * 2 ^ (63 - m) * (a / 18446744073709551616) := by
    conv => lhs; rw [h]
    rw [Int.add_mul_ediv_left _ _ (Int.ne_of_gt (p2 m))]
  rw [h2, Int.mul_assoc]
  generalize 2 ^ (63 - m) * (a / 18446744073709551616) = t
  omega
theorem dn_ob (a : Int) (n : Nat) (hn : n ≤ 63) (h1 : -9223372036854775808 ≤ a) (h2 : a ≤ 9223372036854775807) : wrap64 (ob (dnF (IntKind.u64.wrap a) (IntKind.u64.wrap a / 2 ^ 63 % 2) n) 64) = a / 2 ^ n := by
  have e : ob (dnF (IntKind.u64.wrap a) (IntKind.u64.wrap a / 2 ^ 63 % 2) n) 64 = ob (fun i => a / 2 ^ n / 2 ^ i % 2) 64 := by
    refine ob_congr _ _ _ fun j hj => ?_
    unfold dnF
    have hd : a / 2 ^ n / 2 ^ j = a / 2 ^ (j + n) := by rw [Int.ediv_ediv_of_nonneg (Int.le_of_lt (p2 n)), ← Int.pow_add, Nat.add_comm]
    rw [hd]
    by_cases g : j + n < 64
    · rw [if_pos g, bit_same a _ (by omega)]
    · rw [if_neg g, bit_same a _ (by omega)]
      have hp : (2 : Int) ^ (j + n) = 2 ^ 63 * 2 ^ (j + n - 63) := by rw [← Int.pow_add]; congr 1; omega
      have hq := p2 (j + n - 63)
      rw [hp, ← Int.ediv_ediv_of_nonneg (by decide)]
      have m63 : (2 : Int) ^ 63 = 9223372036854775808 := by decide
      rw [m63]
      have hs : a / 9223372036854775808 = 0 ∨ a / 9223372036854775808 = -1 := by omega
      rcases hs with e | e
      · rw [e, Int.zero_ediv]
      · rw [e, Int.ediv_eq_neg_one_of_neg_of_le (by omega) (by omega)]
  rw [e, ob_bits]
  have m64 : (2 : Int) ^ 64 = 18446744073709551616 := by decide
  rw [m64, wrapM]
  have hp := p2 n
  have b : -9223372036854775808 ≤ a / 2 ^ n ∧ a / 2 ^ n ≤ 9223372036854775807 := by
    by_cases g : a < 0
    · have q1 := Int.ediv_neg_of_neg_of_pos g hp
      have q2 := Int.mul_nonneg (show 0 ≤ -a by omega) (show (0 : Int) ≤ 2 ^ n - 1 by omega)
      rw [Int.neg_mul, Int.mul_sub, Int.mul_one] at q2
      have q3 : a ≤ a / 2 ^ n := (Int.le_ediv_iff_mul_le hp).2 (by omega)
      omega
    · have q1 := Int.ediv_nonneg (show 0 ≤ a by omega) (Int.le_of_lt hp)
      have q2 := Int.ediv_le_self (2 ^ n) (show 0 ≤ a by omega)
      omega
  unfold wrap64
  omega
theorem Ev.const {α : Type} {x : Option α} {r : α} (h : x = some r) : Ev (fun _ => x) r := by
  rw [h]
  exact Ev.now r
theorem Ev.from (K : Nat) {α : Type} {g : Nat → Option α} {r : α} (h : ∀ k, g (k + K) = some r) : Ev g r := ⟨K, fun n hn => by
  obtain ⟨k, rfl⟩ : ∃ k, n = k + K := ⟨n - K, by omega⟩
  exact h k⟩
theorem awake28 : spinnakerlaw28_awake.f = some true := by rfl
theorem by_ (b : Int) : ∃ n : Nat, n ≤ 63 ∧ wrap64 (Int.tmod (IntKind.u64.wrap b) 64) = (n : Int) ∧ Go.bits .and .u64 (IntKind.u64.wrap b) 63 = (n : Int) := by
  refine ⟨(b % 64).toNat, by omega, ?_, ?_⟩
  · rw [uw, Int.tmod_eq_emod_of_nonneg (by omega)]
    unfold wrap64
    omega
  · have h1 : IntKind.u64.wrap b = ((b % 18446744073709551616).toNat : Int) := by rw [uw]; omega
    rw [h1]
    simp only [Go.bits]
    have h2 : (BitVec.ofInt IntKind.u64.bits ((b % 18446744073709551616).toNat : Int) &&& BitVec.ofInt IntKind.u64.bits 63).toNat = (b % 18446744073709551616).toNat % 64 := by
      rw [BitVec.toNat_and, BitVec.toNat_ofInt, BitVec.toNat_ofInt]
      have e1 : (((b % 18446744073709551616).toNat : Int) % ((2 ^ IntKind.u64.bits : Nat) : Int)).toNat = (b % 18446744073709551616).toNat := by
        show (((b % 18446744073709551616).toNat : Int) % 18446744073709551616).toNat = _
        omega
      have e2 : ((63 : Int) % ((2 ^ IntKind.u64.bits : Nat) : Int)).toNat = 2 ^ 6 - 1 := by decide
      rw [e1, e2, Nat.and_two_pow_sub_one_eq_mod]
    rw [h2, uw]
    omega
theorem sll_ev (a : Int) (n : Nat) (hn : n ≤ 63) : Ev (fun k => spinnakerref07_moved.f k a (n : Int) true 0 64) (wrap64 (a * 2 ^ n)) := by
  unfold spinnakerref07_moved.f
  refine Ev.if_pos (by omega) ?_
  have hb : ∀ i, i < 64 → upF (IntKind.u64.wrap a) n i = 0 ∨ upF (IntKind.u64.wrap a) n i = 1 := fun i _ => by unfold upF; split <;> omega
  have h := up_l0 a n hn _ (num_ev _ (upF (IntKind.u64.wrap a) n) (fill_len _ _) (fun i hi => fill_rd _ i hi) hb) 64 0 (by omega) (by omega)
  rw [up_ob a n hn, fill_zero] at h
  exact h
theorem sra_ev (a : Int) (n : Nat) (hn : n ≤ 63) (h1 : -9223372036854775808 ≤ a) (h2 : a ≤ 9223372036854775807) : Ev (fun k => (spinnakerref01_Bit.f k (IntKind.u64.wrap a) 63).bind fun t173 => ((spinnakerref07_moved.f k a (n : Int) false t173 64).bind fun t174 => (some t174))) (a / 2 ^ n) := by
  have hu : 0 ≤ IntKind.u64.wrap a ∧ IntKind.u64.wrap a < 18446744073709551616 := by rw [uw]; omega
  refine Ev.bind (bit_ev 63 (by omega) _ hu.1 hu.2) (Ev.bind ?_ (Ev.now _))
  unfold spinnakerref07_moved.f
  refine Ev.if_pos (by omega) ?_
  have hb : ∀ i, i < 64 → dnF (IntKind.u64.wrap a) (IntKind.u64.wrap a / 2 ^ 63 % 2) n i = 0 ∨ dnF (IntKind.u64.wrap a) (IntKind.u64.wrap a / 2 ^ 63 % 2) n i = 1 := fun i _ => by unfold dnF; split <;> omega
  have h := dn_l0 a (IntKind.u64.wrap a / 2 ^ 63 % 2) n hn _ (num_ev _ (dnF (IntKind.u64.wrap a) (IntKind.u64.wrap a / 2 ^ 63 % 2) n) (fill_len _ _) (fun i hi => fill_rd _ i hi) hb) 64 0 (by omega) (by omega)
  rw [dn_ob a n hn h1 h2, fill_zero] at h
  exact h
theorem n_add : spinnakerref03_Name.f 35 = some (⟨#[97, 100, 100]⟩ : ByteArray) := by kernel_rfl
theorem b_add : Ev (fun k => spinnakerref07_base.f k (⟨#[97, 100, 100]⟩ : ByteArray)) (⟨#[97, 100, 100]⟩ : ByteArray) := Ev.from 3 fun k => by simp [spinnakerref07_base.f, spinnakerref07_base.j0]
theorem n_sub : spinnakerref03_Name.f 36 = some (⟨#[115, 117, 98]⟩ : ByteArray) := by kernel_rfl
theorem b_sub : Ev (fun k => spinnakerref07_base.f k (⟨#[115, 117, 98]⟩ : ByteArray)) (⟨#[115, 117, 98]⟩ : ByteArray) := Ev.from 3 fun k => by simp [spinnakerref07_base.f, spinnakerref07_base.j0]
theorem n_mul : spinnakerref03_Name.f 50 = some (⟨#[109, 117, 108]⟩ : ByteArray) := by kernel_rfl
theorem b_mul : Ev (fun k => spinnakerref07_base.f k (⟨#[109, 117, 108]⟩ : ByteArray)) (⟨#[109, 117, 108]⟩ : ByteArray) := Ev.from 3 fun k => by simp [spinnakerref07_base.f, spinnakerref07_base.j0]
theorem n_div : spinnakerref03_Name.f 54 = some (⟨#[100, 105, 118]⟩ : ByteArray) := by kernel_rfl
theorem b_div : Ev (fun k => spinnakerref07_base.f k (⟨#[100, 105, 118]⟩ : ByteArray)) (⟨#[100, 105, 118]⟩ : ByteArray) := Ev.from 3 fun k => by simp [spinnakerref07_base.f, spinnakerref07_base.j0]
theorem n_rem : spinnakerref03_Name.f 56 = some (⟨#[114, 101, 109]⟩ : ByteArray) := by kernel_rfl
theorem b_rem : Ev (fun k => spinnakerref07_base.f k (⟨#[114, 101, 109]⟩ : ByteArray)) (⟨#[114, 101, 109]⟩ : ByteArray) := Ev.from 3 fun k => by simp [spinnakerref07_base.f, spinnakerref07_base.j0]
theorem n_and : spinnakerref03_Name.f 44 = some (⟨#[97, 110, 100]⟩ : ByteArray) := by kernel_rfl
theorem b_and : Ev (fun k => spinnakerref07_base.f k (⟨#[97, 110, 100]⟩ : ByteArray)) (⟨#[97, 110, 100]⟩ : ByteArray) := Ev.from 3 fun k => by simp [spinnakerref07_base.f, spinnakerref07_base.j0]
theorem n_or : spinnakerref03_Name.f 43 = some (⟨#[111, 114]⟩ : ByteArray) := by kernel_rfl
theorem b_or : Ev (fun k => spinnakerref07_base.f k (⟨#[111, 114]⟩ : ByteArray)) (⟨#[111, 114]⟩ : ByteArray) := Ev.from 3 fun k => by simp [spinnakerref07_base.f, spinnakerref07_base.j0]
theorem n_xor : spinnakerref03_Name.f 40 = some (⟨#[120, 111, 114]⟩ : ByteArray) := by kernel_rfl
theorem b_xor : Ev (fun k => spinnakerref07_base.f k (⟨#[120, 111, 114]⟩ : ByteArray)) (⟨#[120, 111, 114]⟩ : ByteArray) := Ev.from 3 fun k => by simp [spinnakerref07_base.f, spinnakerref07_base.j0]
theorem n_sll : spinnakerref03_Name.f 37 = some (⟨#[115, 108, 108]⟩ : ByteArray) := by kernel_rfl
theorem b_sll : Ev (fun k => spinnakerref07_base.f k (⟨#[115, 108, 108]⟩ : ByteArray)) (⟨#[115, 108, 108]⟩ : ByteArray) := Ev.from 3 fun k => by simp [spinnakerref07_base.f, spinnakerref07_base.j0]
theorem n_sra : spinnakerref03_Name.f 42 = some (⟨#[115, 114, 97]⟩ : ByteArray) := by kernel_rfl
theorem b_sra : Ev (fun k => spinnakerref07_base.f k (⟨#[115, 114, 97]⟩ : ByteArray)) (⟨#[115, 114, 97]⟩ : ByteArray) := Ev.from 3 fun k => by simp [spinnakerref07_base.f, spinnakerref07_base.j0]
theorem n_slt : spinnakerref03_Name.f 38 = some (⟨#[115, 108, 116]⟩ : ByteArray) := by kernel_rfl
theorem b_slt : Ev (fun k => spinnakerref07_base.f k (⟨#[115, 108, 116]⟩ : ByteArray)) (⟨#[115, 108, 116]⟩ : ByteArray) := Ev.from 3 fun k => by simp [spinnakerref07_base.f, spinnakerref07_base.j0]
theorem e_add (a b : Int) : Ev (fun k => spinnakerref07_Eval.f k 35 a b) (wrap64 (a + b)) := by
  unfold spinnakerref07_Eval.f
  refine Ev.bind (Ev.const n_add) (Ev.bind b_add ?_)
  refine Ev.if_pos (by simp) ?_
  exact Ev.now _
theorem e_sub (a b : Int) : Ev (fun k => spinnakerref07_Eval.f k 36 a b) (wrap64 (a - b)) := by
  unfold spinnakerref07_Eval.f
  refine Ev.bind (Ev.const n_sub) (Ev.bind b_sub ?_)
  refine Ev.if_neg (by simp) ?_
  refine Ev.if_pos (by simp) ?_
  exact Ev.now _
theorem e_and (a b : Int) : Ev (fun k => spinnakerref07_Eval.f k 44 a b) (Go.bits .and .i64 a b) := by
  unfold spinnakerref07_Eval.f
  refine Ev.bind (Ev.const n_and) (Ev.bind b_and ?_)
  refine Ev.if_neg (by simp) ?_
  refine Ev.if_neg (by simp) ?_
  refine Ev.if_neg (by simp) ?_
  refine Ev.if_neg (by simp) ?_
  refine Ev.if_neg (by simp) ?_
  refine Ev.if_neg (by simp) ?_
  refine Ev.if_neg (by simp) ?_
  refine Ev.if_neg (by simp) ?_
  refine Ev.if_neg (by simp) ?_
  refine Ev.if_pos (by simp) ?_
  exact Ev.now _
theorem e_or (a b : Int) : Ev (fun k => spinnakerref07_Eval.f k 43 a b) (Go.bits .or .i64 a b) := by
  unfold spinnakerref07_Eval.f
  refine Ev.bind (Ev.const n_or) (Ev.bind b_or ?_)
  refine Ev.if_neg (by simp) ?_
  refine Ev.if_neg (by simp) ?_
  refine Ev.if_neg (by simp) ?_
  refine Ev.if_neg (by simp) ?_
  refine Ev.if_neg (by simp) ?_
  refine Ev.if_neg (by simp) ?_
  refine Ev.if_neg (by simp) ?_
  refine Ev.if_neg (by simp) ?_
  refine Ev.if_pos (by simp) ?_
  exact Ev.now _
theorem e_xor (a b : Int) : Ev (fun k => spinnakerref07_Eval.f k 40 a b) (Go.bits .xor .i64 a b) := by
  unfold spinnakerref07_Eval.f
  refine Ev.bind (Ev.const n_xor) (Ev.bind b_xor ?_)
  refine Ev.if_neg (by simp) ?_
  refine Ev.if_neg (by simp) ?_
  refine Ev.if_neg (by simp) ?_
  refine Ev.if_neg (by simp) ?_
  refine Ev.if_neg (by simp) ?_
  refine Ev.if_pos (by simp) ?_
  exact Ev.now _
theorem e_slt (a b : Int) : Ev (fun k => spinnakerref07_Eval.f k 38 a b) (if a < b then 1 else 0) := by
  unfold spinnakerref07_Eval.f
  refine Ev.bind (Ev.const n_slt) (Ev.bind b_slt ?_)
  refine Ev.if_neg (by simp) ?_
  refine Ev.if_neg (by simp) ?_
  refine Ev.if_neg (by simp) ?_
  refine Ev.if_pos (by simp) ?_
  refine Ev.bind (Ev.const (r := if a < b then 1 else 0) ?_) (Ev.now _)
  unfold spinnakerref07_one.f
  by_cases e : a < b <;> simp [e]
theorem e_sll (a b : Int) (n : Nat) (hn : n ≤ 63) (hb : wrap64 (Int.tmod (IntKind.u64.wrap b) 64) = (n : Int)) : Ev (fun k => spinnakerref07_Eval.f k 37 a b) (wrap64 (a * 2 ^ n)) := by
  unfold spinnakerref07_Eval.f
  refine Ev.bind (Ev.const n_sll) (Ev.bind b_sll ?_)
  refine Ev.if_neg (by simp) ?_
  refine Ev.if_neg (by simp) ?_
  refine Ev.if_pos (by simp) ?_
  rw [hb]
  exact Ev.bind (sll_ev a n hn) (Ev.now _)
theorem e_sra (a b : Int) (n : Nat) (hn : n ≤ 63) (hb : wrap64 (Int.tmod (IntKind.u64.wrap b) 64) = (n : Int)) (h1 : -9223372036854775808 ≤ a) (h2 : a ≤ 9223372036854775807) : Ev (fun k => spinnakerref07_Eval.f k 42 a b) (a / 2 ^ n) := by
  unfold spinnakerref07_Eval.f
  refine Ev.bind (Ev.const n_sra) (Ev.bind b_sra ?_)
  refine Ev.if_neg (by simp) ?_
  refine Ev.if_neg (by simp) ?_
  refine Ev.if_neg (by simp) ?_
  refine Ev.if_neg (by simp) ?_
  refine Ev.if_neg (by simp) ?_
  refine Ev.if_neg (by simp) ?_
  refine Ev.if_neg (by simp) ?_
  refine Ev.if_pos (by simp) ?_
  rw [hb]
  exact sra_ev a n hn h1 h2
theorem e_mul (a b : Int) (hb1 : -9223372036854775808 ≤ b) (hb2 : b ≤ 9223372036854775807) : Ev (fun k => spinnakerref07_Eval.f k 50 a b) (wrap64 (a * b)) := by
  unfold spinnakerref07_Eval.f
  refine Ev.bind (Ev.const n_mul) (Ev.bind b_mul ?_)
  refine Ev.if_neg (by simp) ?_
  refine Ev.if_neg (by simp) ?_
  refine Ev.if_neg (by simp) ?_
  refine Ev.if_neg (by simp) ?_
  refine Ev.if_neg (by simp) ?_
  refine Ev.if_neg (by simp) ?_
  refine Ev.if_neg (by simp) ?_
  refine Ev.if_neg (by simp) ?_
  refine Ev.if_neg (by simp) ?_
  refine Ev.if_neg (by simp) ?_
  have hz : wrap64 (((⟨#[109, 117, 108]⟩ : ByteArray).size : Int) - 1) = 2 := by unfold wrap64; decide
  rw [hz]
  refine Ev.if_pos (by decide) (Ev.if_pos (by decide) (Ev.if_neg (by first | decide | simp [bt]) (Ev.bind ?_ (Ev.now _))))
  unfold spinnakerref07_products.f
  obtain ⟨q, hq⟩ : ∃ q, spinnakerref07_Div.f a b = some q := by
    unfold spinnakerref07_Div.f
    by_cases e : b = 0
    · exact ⟨_, if_pos e⟩
    · have hne : spinnakerref07_Div.ua b ≠ 0 := by rw [ua_abs b hb1 hb2]; split <;> omega
      exact ⟨_, by rw [if_neg e, if_neg hne]⟩
  obtain ⟨q2, hq2⟩ : ∃ q2, spinnakerref07_DivU.f (IntKind.u64.wrap a) (IntKind.u64.wrap b) = some q2 := by
    unfold spinnakerref07_DivU.f
    split <;> exact ⟨_, rfl⟩
  refine Ev.bind (Ev.const hq) (Ev.bind (Ev.const hq2) ?_)
  refine Ev.if_pos (by simp) (Ev.bind (Ev.const rfl) ?_)
  rw [show wrap64 (spinnakerref07_Mul.pr (spinnakerref07_Mul.all (spinnakerref07_Mul.xs (IntKind.u64.wrap a)) (spinnakerref07_Mul.xs (IntKind.u64.wrap b)) 4)).1 = wrap64 (a * b) from mul_ok a b]
  exact Ev.now _
theorem e_div (a b : Int) (ha1 : -9223372036854775808 ≤ a) (ha2 : a ≤ 9223372036854775807) (hb1 : -9223372036854775808 ≤ b) (hb2 : b ≤ 9223372036854775807) (hb : b ≠ 0) : Ev (fun k => spinnakerref07_Eval.f k 54 a b) (wrap64 (Int.tdiv a b)) := by
  unfold spinnakerref07_Eval.f
  refine Ev.bind (Ev.const n_div) (Ev.bind b_div ?_)
  refine Ev.if_neg (by simp) ?_
  refine Ev.if_neg (by simp) ?_
  refine Ev.if_neg (by simp) ?_
  refine Ev.if_neg (by simp) ?_
  refine Ev.if_neg (by simp) ?_
  refine Ev.if_neg (by simp) ?_
  refine Ev.if_neg (by simp) ?_
  refine Ev.if_neg (by simp) ?_
  refine Ev.if_neg (by simp) ?_
  refine Ev.if_neg (by simp) ?_
  have hz : wrap64 (((⟨#[100, 105, 118]⟩ : ByteArray).size : Int) - 1) = 2 := by unfold wrap64; decide
  rw [hz]
  refine Ev.if_pos (by decide) (Ev.if_pos (by decide) (Ev.if_neg (by first | decide | simp [bt]) (Ev.bind ?_ (Ev.now _))))
  unfold spinnakerref07_products.f
  have hd := div_ok a b ha1 ha2 hb1 hb2 hb
  have hq : spinnakerref07_Div.f a b = some (wrap64 (Int.tdiv a b), Int.tmod a b) := by
    unfold spinnakerref07_Div.f
    rw [if_neg hb, if_neg hd.2.2, hd.1, hd.2.1]
  obtain ⟨q2, hq2⟩ : ∃ q2, spinnakerref07_DivU.f (IntKind.u64.wrap a) (IntKind.u64.wrap b) = some q2 := by
    unfold spinnakerref07_DivU.f
    split <;> exact ⟨_, rfl⟩
  refine Ev.bind (Ev.const hq) (Ev.bind (Ev.const hq2) ?_)
  refine Ev.if_neg (by simp) (Ev.if_neg (by simp) (Ev.if_neg (by simp) (Ev.if_neg (by simp) (Ev.if_pos (by simp) (Ev.now _)))))
theorem e_rem (a b : Int) (ha1 : -9223372036854775808 ≤ a) (ha2 : a ≤ 9223372036854775807) (hb1 : -9223372036854775808 ≤ b) (hb2 : b ≤ 9223372036854775807) (hb : b ≠ 0) : Ev (fun k => spinnakerref07_Eval.f k 56 a b) (Int.tmod a b) := by
  unfold spinnakerref07_Eval.f
  refine Ev.bind (Ev.const n_rem) (Ev.bind b_rem ?_)
  refine Ev.if_neg (by simp) ?_
  refine Ev.if_neg (by simp) ?_
  refine Ev.if_neg (by simp) ?_
  refine Ev.if_neg (by simp) ?_
  refine Ev.if_neg (by simp) ?_
  refine Ev.if_neg (by simp) ?_
  refine Ev.if_neg (by simp) ?_
  refine Ev.if_neg (by simp) ?_
  refine Ev.if_neg (by simp) ?_
  refine Ev.if_neg (by simp) ?_
  have hz : wrap64 (((⟨#[114, 101, 109]⟩ : ByteArray).size : Int) - 1) = 2 := by unfold wrap64; decide
  rw [hz]
  refine Ev.if_pos (by decide) (Ev.if_pos (by decide) (Ev.if_neg (by first | decide | simp [bt]) (Ev.bind ?_ (Ev.now _))))
  unfold spinnakerref07_products.f
  have hd := div_ok a b ha1 ha2 hb1 hb2 hb
  have hq : spinnakerref07_Div.f a b = some (wrap64 (Int.tdiv a b), Int.tmod a b) := by
    unfold spinnakerref07_Div.f
    rw [if_neg hb, if_neg hd.2.2, hd.1, hd.2.1]
  obtain ⟨q2, hq2⟩ : ∃ q2, spinnakerref07_DivU.f (IntKind.u64.wrap a) (IntKind.u64.wrap b) = some q2 := by
    unfold spinnakerref07_DivU.f
    split <;> exact ⟨_, rfl⟩
  refine Ev.bind (Ev.const hq) (Ev.bind (Ev.const hq2) ?_)
  refine Ev.if_neg (by simp) (Ev.if_neg (by simp) (Ev.if_neg (by simp) (Ev.if_neg (by simp) (Ev.if_neg (by simp) (Ev.if_neg (by simp) (Ev.if_pos (by simp) (Ev.now _)))))))
theorem fails_f (op b : Int) : calc_Fails.f op b = some (if op = 4 then b == 0 else if op = 5 then b == 0 else false) := by
  unfold calc_Fails.f
  by_cases e4 : op = 4
  · simp [e4]
  · by_cases e5 : op = 5
    · simp [e5]
    · simp [e4, e5]
theorem bins_tail (op a b : Int) (m : Int × Bool) (h1 : calc_Bin.f op a b = some m) (h2 : Ev (fun k => spinnakerref28_Bin.f k op a b) m) : Ev (fun k => spinnakerlaw28_CalcBins.f k op a b) true := by
  unfold spinnakerlaw28_CalcBins.f
  refine Ev.bind (Ev.const h1) (Ev.bind h2 (Ev.if_pos rfl (Ev.if_pos (beq_self_eq_true _) (Ev.bind (Ev.const (fails_f op b)) ?_))))
  by_cases e4 : op = 4
  · exact Ev.if_pos e4 (Ev.if_pos (by rw [_root_.if_pos e4]; exact beq_self_eq_true _) (Ev.bind (Ev.const awake28) (Ev.now _)))
  · refine Ev.if_neg e4 ?_
    by_cases e5 : op = 5
    · exact Ev.if_pos e5 (Ev.if_pos (by rw [_root_.if_neg e4, _root_.if_pos e5]; exact beq_self_eq_true _) (Ev.bind (Ev.const awake28) (Ev.now _)))
    · exact Ev.if_neg e5 (Ev.if_pos (by rw [_root_.if_neg e4, _root_.if_neg e5]; exact beq_self_eq_true _) (Ev.bind (Ev.const awake28) (Ev.now _)))
theorem ref_true (op a b : Int) : Ev (fun k => spinnakerref28_Bin.j0 k op a b true) (0, false) := Ev.end_ fun k => by simp only [spinnakerref28_Bin.j0]; rw [_root_.if_pos trivial]
theorem ref_false (op a b : Int) (h1 : 1 ≤ op) (h2 : op ≤ 14) (hd : op = 4 ∨ op = 5 → b ≠ 0) (R : Int × Bool) (h : Ev (fun k => spinnakerref28_Bin.j0 k op a b false) R) : Ev (fun k => spinnakerref28_Bin.f k op a b) R := by
  unfold spinnakerref28_Bin.f
  refine Ev.if_neg (by omega) (Ev.if_neg (by omega) ?_)
  by_cases e4 : op = 4
  · refine Ev.if_pos e4 ?_
    rw [beq_eq_false_iff_ne.2 (hd (.inl e4))]
    exact h
  · refine Ev.if_neg e4 ?_
    by_cases e5 : op = 5
    · refine Ev.if_pos e5 ?_
      rw [beq_eq_false_iff_ne.2 (hd (.inr e5))]
      exact h
    · exact Ev.if_neg e5 h
theorem ref_op (op a b v : Int) (h1 : 1 ≤ op) (h2 : op ≤ 11) (hE : Ev (fun k => spinnakerref07_Eval.f k (rd [0, 35, 36, 50, 54, 56, 44, 43, 40, 37, 42, 38] op) a b) v) : Ev (fun k => spinnakerref28_Bin.j0 k op a b false) (v, true) := by
  refine Ev.step (fun k => spinnakerref28_Bin.j0.eq_2 _ _ _ _ k) ?_
  refine Ev.if_neg (by simp) (Ev.bind (e_slt a b) (Ev.bind (e_slt b a) (Ev.if_neg (by omega) (Ev.if_neg (by omega) (Ev.if_neg (by omega) (Ev.bind (Ev.const (r := [0, 35, 36, 50, 54, 56, 44, 43, 40, 37, 42, 38]) rfl) (Ev.if_pos (by omega) (Ev.if_pos (by show op < 12; omega) (Ev.bind hE (Ev.now _))))))))))
theorem parts_f (a b : Int) (hb : b ≠ 0) : calc_parts.f a b = some (wrap64 (Int.tdiv a b), Int.tmod a b) := by
  unfold calc_parts.f
  by_cases e : b = -1
  · subst e
    rw [if_pos rfl, Int.tdiv_neg, Int.tdiv_one, Int.tmod_neg, Int.tmod_one]
  · rw [if_neg e, if_neg hb]
theorem CalcBins : spinnakerlaw28_CalcBins.Pure := by
  intro op a b _ ha hb
  apply Ev.rounds
  have ra := wfr a ha
  have rb := wfr b hb
  obtain ⟨n, hn, hw, hx⟩ := by_ b
  by_cases hr : 1 ≤ op ∧ op ≤ 14
  · have hc : op = 1 ∨ op = 2 ∨ op = 3 ∨ op = 4 ∨ op = 5 ∨ op = 6 ∨ op = 7 ∨ op = 8 ∨ op = 9 ∨ op = 10 ∨ op = 11 ∨ op = 12 ∨ op = 13 ∨ op = 14 := by omega
    rcases hc with rfl | rfl | rfl | rfl | rfl | rfl | rfl | rfl | rfl | rfl | rfl | rfl | rfl | rfl
    · exact bins_tail 1 a b (wrap64 (a + b), true) (by simp [calc_Bin.f, fails_f, calc_compares.f]) (ref_false 1 a b (by omega) (by omega) (by omega) _ (ref_op 1 a b _ (by omega) (by omega) (e_add a b)))
    · exact bins_tail 2 a b (wrap64 (a - b), true) (by simp [calc_Bin.f, fails_f, calc_compares.f]) (ref_false 2 a b (by omega) (by omega) (by omega) _ (ref_op 2 a b _ (by omega) (by omega) (e_sub a b)))
    · exact bins_tail 3 a b (wrap64 (a * b), true) (by simp [calc_Bin.f, fails_f, calc_compares.f]) (ref_false 3 a b (by omega) (by omega) (by omega) _ (ref_op 3 a b _ (by omega) (by omega) (e_mul a b rb.1 rb.2)))
    · by_cases h0 : b = 0
      · refine bins_tail 4 a b (0, false) (by simp [calc_Bin.f, fails_f, h0]) ?_
        have h := ref_true 4 a b
        unfold spinnakerref28_Bin.f
        refine Ev.if_neg (by omega) (Ev.if_neg (by omega) ?_)
        refine Ev.if_pos rfl ?_
        rw [beq_iff_eq.2 h0]
        exact h
      · exact bins_tail 4 a b (wrap64 (Int.tdiv a b), true) (by simp [calc_Bin.f, fails_f, h0, parts_f]) (ref_false 4 a b (by omega) (by omega) (fun _ => h0) _ (ref_op 4 a b _ (by omega) (by omega) (e_div a b ra.1 ra.2 rb.1 rb.2 h0)))
    · by_cases h0 : b = 0
      · refine bins_tail 5 a b (0, false) (by simp [calc_Bin.f, fails_f, h0]) ?_
        have h := ref_true 5 a b
        unfold spinnakerref28_Bin.f
        refine Ev.if_neg (by omega) (Ev.if_neg (by omega) ?_)
        refine Ev.if_neg (by omega) (Ev.if_pos rfl ?_)
        rw [beq_iff_eq.2 h0]
        exact h
      · exact bins_tail 5 a b (Int.tmod a b, true) (by simp [calc_Bin.f, fails_f, h0, parts_f]) (ref_false 5 a b (by omega) (by omega) (fun _ => h0) _ (ref_op 5 a b _ (by omega) (by omega) (e_rem a b ra.1 ra.2 rb.1 rb.2 h0)))
    · exact bins_tail 6 a b (Go.bits .and .i64 a b, true) (by simp [calc_Bin.f, fails_f, calc_compares.f]) (ref_false 6 a b (by omega) (by omega) (by omega) _ (ref_op 6 a b _ (by omega) (by omega) (e_and a b)))
    · exact bins_tail 7 a b (Go.bits .or .i64 a b, true) (by simp [calc_Bin.f, fails_f, calc_compares.f]) (ref_false 7 a b (by omega) (by omega) (by omega) _ (ref_op 7 a b _ (by omega) (by omega) (e_or a b)))
    · exact bins_tail 8 a b (Go.bits .xor .i64 a b, true) (by simp [calc_Bin.f, fails_f, calc_compares.f]) (ref_false 8 a b (by omega) (by omega) (by omega) _ (ref_op 8 a b _ (by omega) (by omega) (e_xor a b)))
    · have hs : shl .i64 a (n : Int) = wrap64 (a * 2 ^ n) := by
        unfold shl
        rw [i64_w, Int.toNat_natCast, Nat.min_eq_left (by show n ≤ 64; omega)]
      exact bins_tail 9 a b (wrap64 (a * 2 ^ n), true) (by simp [calc_Bin.f, fails_f, hx, hs]) (ref_false 9 a b (by omega) (by omega) (by omega) _ (ref_op 9 a b _ (by omega) (by omega) (e_sll a b n hn hw)))
    · have hs : shr .i64 a (n : Int) = a / 2 ^ n := by
        unfold shr
        rw [Int.toNat_natCast, Nat.min_eq_left (by show n ≤ 64; omega)]
      exact bins_tail 10 a b (a / 2 ^ n, true) (by simp [calc_Bin.f, fails_f, hx, hs]) (ref_false 10 a b (by omega) (by omega) (by omega) _ (ref_op 10 a b _ (by omega) (by omega) (e_sra a b n hn hw ra.1 ra.2)))
    · exact bins_tail 11 a b (if a < b then 1 else 0, true) (by simp [calc_Bin.f, fails_f, calc_compares.f]) (ref_false 11 a b (by omega) (by omega) (by omega) _ (ref_op 11 a b _ (by omega) (by omega) (e_slt a b)))
    · refine bins_tail 12 a b (if a ≤ b then 1 else 0, true) (by simp [calc_Bin.f, fails_f, calc_compares.f]) (ref_false 12 a b (by omega) (by omega) (by omega) _ ?_)
      refine Ev.step (fun k => spinnakerref28_Bin.j0.eq_2 _ _ _ _ k) ?_
      refine Ev.if_neg (by simp) (Ev.bind (e_slt a b) (Ev.bind (e_slt b a) (Ev.if_pos rfl ?_)))
      refine Ev.const ?_
      congr 2
      unfold wrap64
      repeat (first | omega | split)
    · refine bins_tail 13 a b (if a = b then 1 else 0, true) (by simp [calc_Bin.f, fails_f, calc_compares.f]) (ref_false 13 a b (by omega) (by omega) (by omega) _ ?_)
      refine Ev.step (fun k => spinnakerref28_Bin.j0.eq_2 _ _ _ _ k) ?_
      refine Ev.if_neg (by simp) (Ev.bind (e_slt a b) (Ev.bind (e_slt b a) (Ev.if_neg (by omega) (Ev.if_pos rfl ?_))))
      refine Ev.const ?_
      congr 2
      unfold wrap64
      repeat (first | omega | split)
    · refine bins_tail 14 a b (if a = b then 0 else 1, true) (by simp [calc_Bin.f, fails_f, calc_compares.f]) (ref_false 14 a b (by omega) (by omega) (by omega) _ ?_)
      refine Ev.step (fun k => spinnakerref28_Bin.j0.eq_2 _ _ _ _ k) ?_
      refine Ev.if_neg (by simp) (Ev.bind (e_slt a b) (Ev.bind (e_slt b a) (Ev.if_neg (by omega) (Ev.if_neg (by omega) (Ev.if_pos rfl ?_)))))
      refine Ev.const ?_
      congr 2
      unfold wrap64
      repeat (first | omega | split)
  · refine bins_tail op a b (0, false) ?_ ?_
    · have h4 : op ≠ 4 := by omega
      have h5 : op ≠ 5 := by omega
      simp [calc_Bin.f, fails_f, calc_compares.f, h4, h5, show op ≠ 1 by omega, show op ≠ 2 by omega, show op ≠ 3 by omega, show op ≠ 6 by omega, show op ≠ 7 by omega, show op ≠ 8 by omega, show op ≠ 9 by omega, show op ≠ 10 by omega, show op ≠ 11 by omega, show op ≠ 12 by omega, show op ≠ 13 by omega, show op ≠ 14 by omega]
    · unfold spinnakerref28_Bin.f
      by_cases g : op < 1
      · exact Ev.if_pos g (ref_true op a b)
      · exact Ev.if_neg g (Ev.if_pos (by omega) (ref_true op a b))

end Go.Proofs.Ytdnphnicdhcafaa.Pure
