/- Rows and tables of truths: their words, the pairs that they hold, where they lead, their order: plain lists, no program. Written by an AI agent in this seat's session; checked by Lean alone. No axiom, no sorry. -/
import Derived.Test.YtoieemaheadjdaaDoorRelP
import Derived.Lib.TrailingZeros
namespace Go.Proofs.YtoieemaheadjdaaDoor.PRel
open Go.RowKit Go.Proofs.YtoieemaheadjdaaDoorW.PrintWords Go.Proofs.YtoieemaheadjdaaDoorW.PrintLast Go.Proofs.YtoieemaheadjdaaDoorW.PrintMore Go.Proofs.YtoieemaheadjdaaDoor.PRelOrders
set_option linter.unusedVariables false
set_option linter.unusedSimpArgs false
def mayB (N : Nat) (i : Int) : Bool := decide (0 ≤ i) && decide (i < (N : Int))
def atB (At : List (List Bool)) (a b : Int) : Bool := (At.getD a.toNat []).getD b.toNat false
def setB (At : List (List Bool)) (a b : Int) : List (List Bool) := At.set a.toNat ((At.getD a.toNat []).set b.toNat true)
def addR (N : Nat) (At : List (List Bool)) (a b : Int) : List (List Bool) := if (mayB N a && mayB N b) = true then setB At a b else At
/-- The bits of a word, rising. -/
def bitsN (x : Nat) : List Nat := (List.range 64).filter fun i => x.testBit i
/-- The truths of a row, rising. -/
def trues (r : List Bool) : List Nat := (List.range r.length).filter fun i => r.getD i false
theorem filter_least {p : Nat → Bool} {k : Nat} (h1 : p k = true) : ∀ n, k < n → (∀ i, i < k → p i = false) → (List.range n).filter p = k :: (List.range n).filter (fun i => p i && decide (k < i))
  | 0, h, _ => by omega
  | n + 1, h, h0 => by
    rw [List.range_succ, List.filter_append, List.filter_append]
    by_cases e : k = n
    · subst e
      have a : (List.range k).filter p = [] := List.filter_eq_nil_iff.2 fun i hi => by rw [h0 i (List.mem_range.1 hi)]; simp
      have b : (List.range k).filter (fun i => p i && decide (k < i)) = [] := List.filter_eq_nil_iff.2 fun i hi => by rw [h0 i (List.mem_range.1 hi)]; simp
      rw [a, b]
      simp [h1]
    · rw [filter_least h1 n (by omega) h0, List.cons_append]
      have : decide (k < n) = true := by simp; omega
      simp [List.filter_cons, this]
theorem and_pred_bit {x k m : Nat} (h : x = 2 ^ k * (2 * m + 1)) (i : Nat) : (x &&& (x - 1)).testBit i = (x.testBit i && decide (k < i)) := by
  have hp : 0 < 2 ^ k := Nat.two_pow_pos k
  have e1 : x - 1 = 2 ^ k * (2 * m) + (2 ^ k - 1) := by
    rw [h, Nat.mul_add, Nat.mul_one]; omega
  rw [Nat.testBit_and, e1, h, Nat.testBit_two_pow_mul_add (2 * m) (by omega) i, Nat.testBit_two_pow_mul]
  by_cases h1 : i < k
  · have : decide (i ≥ k) = false := by simp; omega
    simp [this, h1]
  · have h2 : decide (i ≥ k) = true := by simp; omega
    rw [if_neg h1, h2]
    by_cases h3 : i = k
    · subst h3
      simp
    · obtain ⟨j, hj⟩ : ∃ j, i - k = j + 1 := ⟨i - k - 1, by omega⟩
      have : decide (k < i) = true := by simp; omega
      rw [hj, this]
      have e2 : (2 * m).testBit (j + 1) = m.testBit j := by rw [Nat.testBit_succ]; congr 1; omega
      have e3 : (2 * m + 1).testBit (j + 1) = m.testBit j := by rw [Nat.testBit_succ]; congr 1; omega
      rw [e2, e3]; simp
theorem bit_k {x k m : Nat} (h : x = 2 ^ k * (2 * m + 1)) : x.testBit k = true ∧ ∀ i, i < k → x.testBit i = false := by
  refine ⟨?_, fun i hi => ?_⟩
  · rw [h, Nat.testBit_two_pow_mul]; simp
  · rw [h, Nat.testBit_two_pow_mul]
    have : decide (i ≥ k) = false := by simp; omega
    rw [this]; rfl
/-- The lowest bit is told, and taken away. -/
theorem bits_step {x : Nat} (h0 : x ≠ 0) (h : x < 2 ^ 64) : bitsN x = Lib.ctz 64 x :: bitsN (x &&& (x - 1)) ∧ (x &&& (x - 1)) < x ∧ Lib.ctz 64 x < 64 := by
  obtain ⟨m, hm, hk⟩ := Lib.ctzFrom_spec 64 x (by omega) h
  have hc : Lib.ctz 64 x = Lib.ctzFrom 64 x := by unfold Lib.ctz; rw [if_neg h0]
  rw [hc]
  obtain ⟨b1, b2⟩ := bit_k hm
  refine ⟨?_, ?_, hk⟩
  · unfold bitsN
    rw [filter_least b1 64 hk b2]
    congr 1
    exact List.filter_congr fun i _ => (and_pred_bit hm i).symm
  · exact Nat.lt_of_le_of_lt (Nat.and_le_right) (by omega)
theorem bits_zero : bitsN 0 = [] := by decide
/-- The things of the first n words. -/
def wordsN (ws : List Int) (n : Nat) : List Nat := (List.range n).flatMap fun i => (bitsN (ws.getD i 0).toNat).map fun j => i * 64 + j
theorem words_succ (ws : List Int) (n : Nat) : wordsN ws (n + 1) = wordsN ws n ++ (bitsN (ws.getD n 0).toNat).map fun j => n * 64 + j := by
  unfold wordsN; rw [List.range_succ, List.flatMap_append]; simp
/-- Words that hold a row of truths. -/
structure Words (r : List Bool) (ws : List Int) : Prop where
  len : ws.length = (r.length + 63) / 64
  rng : ∀ i, i < ws.length → 0 ≤ ws.getD i 0 ∧ ws.getD i 0 < 18446744073709551616
  bit : ∀ i j, i < ws.length → j < 64 → (ws.getD i 0).toNat.testBit j = r.getD (i * 64 + j) false
theorem range_add (a b : Nat) : List.range (a + b) = List.range a ++ (List.range b).map (a + ·) := by
  rw [List.range_add]
theorem words_upto {r : List Bool} {ws : List Int} (h : Words r ws) : ∀ n, n ≤ ws.length → wordsN ws n = (List.range (n * 64)).filter fun i => r.getD i false
  | 0, _ => by simp [wordsN]
  | n + 1, hn => by
    rw [words_succ, words_upto h n (by omega), Nat.succ_mul, range_add, List.filter_append]
    congr 1
    unfold bitsN
    rw [List.filter_map]
    congr 1
    exact List.filter_congr fun j hj => h.bit n j (by omega) (List.mem_range.1 hj)
theorem words_trues {r : List Bool} {ws : List Int} (h : Words r ws) : wordsN ws ws.length = trues r := by
  have hl := h.len
  rw [words_upto h _ (Nat.le_refl _)]
  obtain ⟨d, hd⟩ : ∃ d, ws.length * 64 = r.length + d := ⟨ws.length * 64 - r.length, by omega⟩
  rw [hd, range_add, List.filter_append]
  have : ((List.range d).map (r.length + ·)).filter (fun i => r.getD i false) = [] := List.filter_eq_nil_iff.2 fun i hi => by
    obtain ⟨j, _, rfl⟩ := List.mem_map.1 hi
    simp [List.getD_eq_getElem?_getD]
  rw [this, List.append_nil]; rfl
theorem words_len {r : List Bool} {ws : List Int} (h : Words r ws) {i : Nat} (hi : i < r.length) : i / 64 < ws.length := by
  have := h.len; omega
theorem Words.at {r : List Bool} {ws : List Int} (h : Words r ws) {i : Nat} (hi : i < r.length) : (ws.getD (i / 64) 0).toNat.testBit (i % 64) = r.getD i false := by
  rw [h.bit _ _ (words_len h hi) (Nat.mod_lt _ (by omega))]
  congr 1
  omega
/-- Nothing stands in a row of zeros. -/
theorem words_none (n : Nat) : Words (List.replicate n false) (List.replicate ((n + 63) / 64) 0) := by
  refine ⟨by simp, fun i hi => ?_, fun i j hi _ => ?_⟩
  · have : (List.replicate ((n + 63) / 64) (0 : Int)).getD i 0 = 0 := by simp [List.getD_eq_getElem?_getD, List.getElem?_replicate]; split <;> rfl
    rw [this]; omega
  · have e1 : (List.replicate ((n + 63) / 64) (0 : Int)).getD i 0 = 0 := by simp [List.getD_eq_getElem?_getD, List.getElem?_replicate]; split <;> rfl
    have e2 : (List.replicate n false).getD (i * 64 + j) false = false := by simp [List.getD_eq_getElem?_getD, List.getElem?_replicate]; split <;> rfl
    rw [e1, e2]; simp
theorem getD_set_nat {α : Type} (l : List α) (i j : Nat) (x d : α) (hi : i < l.length) : (l.set i x).getD j d = if j = i then x else l.getD j d := by
  simp only [List.getD_eq_getElem?_getD, List.getElem?_set]
  split
  · subst_vars; simp [hi]
  · rw [if_neg (fun e => by subst e; contradiction)]
theorem or_lt {a b n : Nat} (ha : a < 2 ^ n) (hb : b < 2 ^ n) : a ||| b < 2 ^ n := Nat.or_lt_two_pow ha hb
/-- A thing put in. -/
theorem words_set {r : List Bool} {ws : List Int} (h : Words r ws) {i : Nat} (hi : i < r.length) :
    Words (r.set i true) (ws.set (i / 64) (((ws.getD (i / 64) 0).toNat ||| 2 ^ (i % 64) : Nat) : Int)) := by
  have hw := words_len h hi
  have h0 := h.rng _ hw
  have hm : i % 64 < 64 := Nat.mod_lt _ (by omega)
  have h2 : (ws.getD (i / 64) 0).toNat ||| 2 ^ (i % 64) < 2 ^ 64 := or_lt (by omega) (Nat.pow_lt_pow_right (by omega) hm)
  refine ⟨by simp [h.len], fun j hj => ?_, fun j b hj hb => ?_⟩
  · rw [getD_set_nat _ _ _ _ _ hw]
    split
    · omega
    · exact h.rng j (by simpa using hj)
  · rw [getD_set_nat _ _ _ _ _ hw, getD_set_nat _ _ _ _ _ hi]
    have hj' : j < ws.length := by simpa using hj
    by_cases e : j = i / 64
    · subst e
      rw [if_pos rfl, Int.toNat_natCast, Nat.testBit_or, h.bit _ _ hj' hb, Nat.testBit_two_pow]
      by_cases e2 : b = i % 64
      · subst e2
        rw [if_pos (by omega)]; simp
      · rw [if_neg (by omega)]
        have : decide (i % 64 = b) = false := by simp; omega
        rw [this]; simp
    · rw [if_neg e, if_neg (fun e3 => e (by omega)), h.bit j b hj' hb]
def orB (r s : List Bool) : List Bool := (List.range r.length).map fun i => r.getD i false || s.getD i false
theorem orB_length (r s : List Bool) : (orB r s).length = r.length := by simp [orB]
theorem orB_getD {r s : List Bool} (hl : s.length = r.length) (i : Nat) : (orB r s).getD i false = (r.getD i false || s.getD i false) := by
  unfold orB
  by_cases h : i < r.length
  · simp [List.getD_eq_getElem?_getD, h]
  · simp [List.getD_eq_getElem?_getD, h, List.getElem?_eq_none (show s.length ≤ i by omega)]
/-- The words of both. -/
def orW (ws xs : List Int) : List Int := (List.range ws.length).map fun i => (((ws.getD i 0).toNat ||| (xs.getD i 0).toNat : Nat) : Int)
theorem orW_getD {ws xs : List Int} {i : Nat} (h : i < ws.length) : (orW ws xs).getD i 0 = (((ws.getD i 0).toNat ||| (xs.getD i 0).toNat : Nat) : Int) := by
  unfold orW; simp [List.getD_eq_getElem?_getD, h]
theorem words_or {r s : List Bool} {ws xs : List Int} (h : Words r ws) (g : Words s xs) (hl : s.length = r.length) : Words (orB r s) (orW ws xs) := by
  have hx : xs.length = ws.length := by rw [g.len, h.len, hl]
  have hL : (orW ws xs).length = ws.length := by simp [orW]
  refine ⟨by rw [hL, orB_length, h.len], fun i hi => ?_, fun i j hi hj => ?_⟩
  · rw [hL] at hi
    rw [orW_getD hi]
    have a := h.rng i hi
    have b := g.rng i (by omega)
    have := or_lt (a := (ws.getD i 0).toNat) (b := (xs.getD i 0).toNat) (n := 64) (by omega) (by omega)
    omega
  · rw [hL] at hi
    rw [orW_getD hi, Int.toNat_natCast, Nat.testBit_or, h.bit i j hi hj, g.bit i j (by omega) hj, orB_getD hl]
def unmet : List Bool → Nat
  | [] => 0
  | b :: r => (if b = true then 0 else 1) + unmet r
theorem unmet_le (l : List Bool) : unmet l ≤ l.length := by
  induction l with
  | nil => simp [unmet]
  | cons b r ih => simp only [unmet, List.length_cons]; split <;> omega
theorem unmet_set (l : List Bool) : ∀ i, i < l.length → l.getD i false = false → unmet (l.set i true) + 1 = unmet l := by
  induction l with
  | nil => intro i h; simp at h
  | cons b r ih =>
    intro i h hb
    cases i with
    | zero =>
      simp at hb
      subst hb
      simp [unmet, Nat.add_comm]
    | succ i =>
      simp only [List.length_cons] at h
      have := ih i (by omega) (by simpa using hb)
      simp only [List.set_cons_succ, unmet]
      omega
theorem getD_set (l : List Bool) (i j : Nat) (hi : i < l.length) : (l.set i true).getD j false = if j = i then true else l.getD j false := by
  by_cases h : j = i
  · subst h
    simp [hi]
  · rw [if_neg h]
    simp [List.getD_eq_getElem?_getD, List.getElem?_set_ne (Ne.symm h)]
theorem int_nat {x : Int} {N : Nat} (h0 : 0 ≤ x) (h1 : x < (N : Int)) : ∃ n : Nat, x = (n : Int) ∧ n < N ∧ x.toNat = n := ⟨x.toNat, by omega, by omega, rfl⟩
theorem getD_lt {l : List Bool} {i : Nat} (h : l.getD i false = true) : i < l.length := by
  rcases Nat.lt_or_ge i l.length with h1 | h1
  · exact h1
  · simp [List.getD_eq_getElem?_getD, List.getElem?_eq_none h1] at h
/-- A way of one step or more. -/
inductive Path1 (R : Nat → Nat → Prop) : Nat → Nat → Prop
  | one (a b : Nat) : R a b → Path1 R a b
  | more (a b c : Nat) : Path1 R a b → R b c → Path1 R a c
theorem Path1.trans {R : Nat → Nat → Prop} {a b c : Nat} (h : Path1 R a b) (k : Path1 R b c) : Path1 R a c := by
  induction k with
  | one c h1 => exact .more a b c h h1
  | more c d _ h1 ih => exact .more a c d ih h1
def at2 (At : List (List Bool)) (a b : Nat) : Bool := (At.getD a []).getD b false
theorem atB_nat (At : List (List Bool)) (a b : Nat) : atB At (a : Int) (b : Int) = at2 At a b := by simp [atB, at2]
structure Shape (N : Nat) (At : List (List Bool)) : Prop where
  len : At.length = N
  row : ∀ a, a < N → (At.getD a []).length = N
theorem shape_new (N : Nat) : Shape N (List.replicate N (List.replicate N false)) := ⟨by simp, fun a ha => by simp [List.getD_eq_getElem?_getD, List.getElem?_replicate, ha]⟩
theorem at2_new (N a b : Nat) : at2 (List.replicate N (List.replicate N false)) a b = false := by
  unfold at2
  by_cases ha : a < N
  · by_cases hb : b < N <;> simp [List.getD_eq_getElem?_getD, List.getElem?_replicate, ha, hb]
  · simp [List.getD_eq_getElem?_getD, List.getElem?_replicate, ha]
theorem set_row {N : Nat} {out : List (List Bool)} (h : Shape N out) {a : Nat} (b : Nat) (ha : a < N) (c : Nat) : (setB out (a : Int) (b : Int)).getD c [] = if c = a then (out.getD a []).set b true else out.getD c [] := by
  unfold setB
  rw [Int.toNat_natCast, Int.toNat_natCast]
  by_cases e : c = a
  · subst e
    simp [List.getD_eq_getElem?_getD, h.len, ha]
  · rw [if_neg e]
    simp [List.getD_eq_getElem?_getD, List.getElem?_set_ne (Ne.symm e)]
theorem shape_set {N : Nat} {out : List (List Bool)} (h : Shape N out) {a : Nat} (b : Nat) (ha : a < N) : Shape N (setB out (a : Int) (b : Int)) :=
  ⟨by unfold setB; rw [List.length_set]; exact h.len, fun c hc => by
    rw [set_row h b ha c]
    split
    · rw [List.length_set]; exact h.row a ha
    · exact h.row c hc⟩
theorem at2_set {N : Nat} {out : List (List Bool)} (h : Shape N out) {a b : Nat} (ha : a < N) (hb : b < N) (c d : Nat) : at2 (setB out (a : Int) (b : Int)) c d = if c = a ∧ d = b then true else at2 out c d := by
  unfold at2
  rw [set_row h b ha c]
  by_cases e : c = a
  · subst e
    rw [if_pos rfl, getD_set _ b d (by rw [h.row c ha]; exact hb)]
    by_cases e2 : d = b
    · rw [if_pos e2, if_pos ⟨rfl, e2⟩]
    · rw [if_neg e2, if_neg (fun k => e2 k.2)]
  · rw [if_neg e, if_neg (fun k => e k.1)]
def tab0 (N : Nat) : List (List Bool) := List.replicate N (List.replicate N false)
/-- Pairs put in, one after the other. -/
def addAll (N : Nat) (ps : List (Nat × Nat)) (T : List (List Bool)) : List (List Bool) := ps.foldl (fun t p => addR N t (p.1 : Int) (p.2 : Int)) T
theorem at2_lt {N : Nat} {T : List (List Bool)} (h : Shape N T) {x y : Nat} (e : at2 T x y = true) : x < N ∧ y < N := by
  have hx : x < N := by
    rcases Nat.lt_or_ge x N with h1 | h1
    · exact h1
    · unfold at2 at e
      rw [show T.getD x [] = [] by simp [List.getD_eq_getElem?_getD, List.getElem?_eq_none (show T.length ≤ x by rw [h.len]; exact h1)]] at e
      simp at e
  exact ⟨hx, by have := getD_lt e; rwa [h.row x hx] at this⟩
theorem shape_add {N : Nat} {T : List (List Bool)} (h : Shape N T) (a b : Nat) : Shape N (addR N T (a : Int) (b : Int)) := by
  unfold addR
  split
  · rename_i hm
    have : a < N := by simp [mayB] at hm; omega
    exact shape_set h b this
  · exact h
theorem at2_add {N : Nat} {T : List (List Bool)} (h : Shape N T) (a b x y : Nat) : at2 (addR N T (a : Int) (b : Int)) x y = (at2 T x y || decide ((x, y) = (a, b) ∧ x < N ∧ y < N)) := by
  unfold addR
  by_cases hm : (mayB N (a : Int) && mayB N (b : Int)) = true
  · rw [if_pos hm]
    have hab : a < N ∧ b < N := by simp [mayB] at hm; omega
    rw [at2_set h hab.1 hab.2]
    by_cases e : x = a ∧ y = b
    · obtain ⟨rfl, rfl⟩ := e
      simp [hab.1, hab.2]
    · rw [if_neg e]
      have : decide ((x, y) = (a, b) ∧ x < N ∧ y < N) = false := by simp; intro h1 h2; exact absurd ⟨h1, h2⟩ e
      rw [this, Bool.or_false]
  · rw [if_neg hm]
    have : decide ((x, y) = (a, b) ∧ x < N ∧ y < N) = false := by
      simp
      rintro rfl rfl h1
      simp [mayB, h1] at hm
      omega
    rw [this, Bool.or_false]
theorem addAll_spec {N : Nat} : ∀ (ps : List (Nat × Nat)) (T : List (List Bool)), Shape N T → Shape N (addAll N ps T) ∧ ∀ x y, at2 (addAll N ps T) x y = (at2 T x y || decide ((x, y) ∈ ps ∧ x < N ∧ y < N))
  | [], T, h => ⟨h, fun x y => by simp [addAll]⟩
  | p :: ps, T, h => by
    obtain ⟨h1, h2⟩ := addAll_spec ps _ (shape_add h p.1 p.2)
    refine ⟨h1, fun x y => ?_⟩
    show at2 (addAll N ps (addR N T (p.1 : Int) (p.2 : Int))) x y = _
    rw [h2, at2_add h, Bool.or_assoc, ← Bool.decide_or]
    congr 1
    have : ((x, y) = (p.1, p.2) ∧ x < N ∧ y < N ∨ (x, y) ∈ ps ∧ x < N ∧ y < N) ↔ ((x, y) ∈ p :: ps ∧ x < N ∧ y < N) := by
      rw [List.mem_cons]
      constructor
      · rintro (⟨a, b⟩ | ⟨a, b⟩)
        · exact ⟨.inl a, b⟩
        · exact ⟨.inr a, b⟩
      · rintro ⟨a | a, b⟩
        · exact .inl ⟨a, b⟩
        · exact .inr ⟨a, b⟩
    exact decide_eq_decide.2 this
theorem shape_ext {N : Nat} {S T : List (List Bool)} (hs : Shape N S) (ht : Shape N T) (h : ∀ x y, x < N → y < N → at2 S x y = at2 T x y) : S = T := by
  refine List.ext_getElem (by rw [hs.len, ht.len]) fun x h1 h2 => ?_
  have hx : x < N := by rw [← hs.len]; exact h1
  have e1 : S.getD x [] = S[x] := by simp [List.getD_eq_getElem?_getD, h1]
  have e2 : T.getD x [] = T[x] := by simp [List.getD_eq_getElem?_getD, h2]
  have l1 := hs.row x hx
  have l2 := ht.row x hx
  rw [e1] at l1
  rw [e2] at l2
  refine List.ext_getElem (by rw [l1, l2]) fun y g1 g2 => ?_
  have := h x y hx (by rw [← l1]; exact g1)
  unfold at2 at this
  rw [e1, e2] at this
  simpa [List.getD_eq_getElem?_getD, g1, g2] using this
/-- All pairs, rising. -/
def pairsL (N : Nat) (At : List (List Bool)) : List (Nat × Nat) := (List.range N).flatMap fun a => (trues (At.getD a [])).map fun b => (a, b)
theorem mem_trues {r : List Bool} {i : Nat} : i ∈ trues r ↔ r.getD i false = true := by
  unfold trues
  rw [List.mem_filter, List.mem_range]
  exact ⟨fun h => h.2, fun h => ⟨getD_lt h, h⟩⟩
theorem mem_pairs {N : Nat} {At : List (List Bool)} (h : Shape N At) (x y : Nat) : (x, y) ∈ pairsL N At ↔ at2 At x y = true := by
  unfold pairsL
  rw [List.mem_flatMap]
  constructor
  · rintro ⟨a, ha, hb⟩
    obtain ⟨c, hc, e⟩ := List.mem_map.1 hb
    cases e
    exact mem_trues.1 hc
  · intro e
    exact ⟨x, List.mem_range.2 (at2_lt h e).1, List.mem_map.2 ⟨y, mem_trues.2 e, rfl⟩⟩
theorem shape_tab0 (N : Nat) : Shape N (tab0 N) := shape_new N
theorem at2_tab0 (N a b : Nat) : at2 (tab0 N) a b = false := at2_new N a b
/-- What pairs put into an empty table make is told by them alone. -/
theorem addAll_eq {N : Nat} {ps : List (Nat × Nat)} {T : List (List Bool)} (hT : Shape N T) (h : ∀ x y, x < N → y < N → (at2 T x y = true ↔ (x, y) ∈ ps)) : addAll N ps (tab0 N) = T := by
  obtain ⟨h1, h2⟩ := addAll_spec ps (tab0 N) (shape_tab0 N)
  refine shape_ext h1 hT fun x y hx hy => ?_
  rw [h2, at2_tab0, Bool.false_or]
  by_cases e : (x, y) ∈ ps
  · rw [(h x y hx hy).2 e]; simp [e, hx, hy]
  · have : at2 T x y = false := by
      cases e2 : at2 T x y with
      | false => rfl
      | true => exact absurd ((h x y hx hy).1 e2) e
    rw [this]; simp [e]
theorem addAll_pairs {N : Nat} {At : List (List Bool)} (h : Shape N At) : addAll N (pairsL N At) (tab0 N) = At := addAll_eq h fun x y _ _ => (mem_pairs h x y).symm
/-! The pairs between which it leads. -/
def wRow (k : Nat) (T : List (List Bool)) (i : Nat) : List (List Bool) := if at2 T i k = true then T.set i (orB (T.getD i []) (T.getD k [])) else T
def wK (N k : Nat) (T : List (List Bool)) : Nat → List (List Bool)
  | 0 => T
  | i + 1 => wRow k (wK N k T i) i
def wAll (N : Nat) (T : List (List Bool)) : Nat → List (List Bool)
  | 0 => T
  | k + 1 => wK N k (wAll N T k) N
theorem wRow_spec {N k i : Nat} {T : List (List Bool)} (h : Shape N T) (hk : k < N) (hi : i < N) : Shape N (wRow k T i) ∧ ∀ x y, at2 (wRow k T i) x y = if x = i then (at2 T i y || (at2 T i k && at2 T k y)) else at2 T x y := by
  unfold wRow
  have hl : (T.getD k []).length = (T.getD i []).length := by rw [h.row k hk, h.row i hi]
  split
  · rename_i e
    have hg : ∀ x, (T.set i (orB (T.getD i []) (T.getD k []))).getD x [] = if x = i then orB (T.getD i []) (T.getD k []) else T.getD x [] := fun x => getD_set_nat _ _ _ _ _ (by rw [h.len]; exact hi)
    refine ⟨⟨by rw [List.length_set]; exact h.len, fun a ha => ?_⟩, fun x y => ?_⟩
    · rw [hg]; split
      · rw [orB_length]; exact h.row i hi
      · exact h.row a ha
    · unfold at2
      rw [hg]
      split
      · rw [orB_getD hl]
        have : (T.getD i []).getD k false = true := e
        rw [this, Bool.true_and]
      · rfl
  · rename_i e
    refine ⟨h, fun x y => ?_⟩
    split
    · subst_vars
      rw [Bool.eq_false_iff.2 e, Bool.false_and, Bool.or_false]
    · rfl
theorem wK_spec {N k : Nat} {T : List (List Bool)} (h : Shape N T) (hk : k < N) : ∀ n, n ≤ N → Shape N (wK N k T n) ∧ ∀ x y, at2 (wK N k T n) x y = if x < n then (at2 T x y || (at2 T x k && at2 T k y)) else at2 T x y
  | 0, _ => ⟨h, fun x y => by simp [wK]⟩
  | n + 1, hn => by
    obtain ⟨h1, h2⟩ := wK_spec h hk n (by omega)
    obtain ⟨h3, h4⟩ := wRow_spec h1 hk (show n < N by omega)
    refine ⟨h3, fun x y => ?_⟩
    have hkk : ∀ y, at2 (wK N k T n) k y = at2 T k y := fun y => by
      rw [h2]; split
      · cases at2 T k y <;> cases at2 T k k <;> rfl
      · rfl
    show at2 (wRow k (wK N k T n) n) x y = _
    rw [h4]
    by_cases e : x = n
    · subst e
      rw [if_pos rfl, if_pos (by omega), h2 x y, if_neg (by omega), h2 x k, if_neg (by omega), hkk]
    · rw [if_neg e, h2]
      by_cases e2 : x < n
      · rw [if_pos e2, if_pos (by omega)]
      · rw [if_neg e2, if_neg (by omega)]
theorem wAll_spec {N : Nat} {T : List (List Bool)} (h : Shape N T) : ∀ n, n ≤ N → Shape N (wAll N T n) ∧ (∀ x y, at2 T x y = true → at2 (wAll N T n) x y = true) ∧ (∀ x y, at2 (wAll N T n) x y = true → Path1 (fun p q => q < N ∧ at2 T p q = true) x y) ∧ ∀ j, j < n → ∀ x y, at2 (wAll N T n) x j = true → at2 (wAll N T n) j y = true → at2 (wAll N T n) x y = true
  | 0, _ => ⟨h, fun x y e => e, fun x y e => .one x y ⟨(at2_lt h e).2, e⟩, fun j hj => by omega⟩
  | k + 1, hk => by
    obtain ⟨h1, h2, h3, h4⟩ := wAll_spec h k (by omega)
    obtain ⟨g1, g2⟩ := wK_spec h1 (show k < N by omega) N (Nat.le_refl _)
    have g3 : ∀ x y, at2 (wAll N T (k + 1)) x y = true ↔ (at2 (wAll N T k) x y = true ∨ (at2 (wAll N T k) x k = true ∧ at2 (wAll N T k) k y = true)) := fun x y => by
      show at2 (wK N k (wAll N T k) N) x y = true ↔ _
      rw [g2]
      by_cases e : x < N
      · rw [if_pos e]; simp
      · rw [if_neg e]
        exact ⟨.inl, fun e2 => e2.elim id fun e3 => absurd (at2_lt h1 e3.1).1 e⟩
    refine ⟨g1, fun x y e => (g3 x y).2 (.inl (h2 x y e)), fun x y e => ?_, fun j hj x y e1 e2 => ?_⟩
    · rcases (g3 x y).1 e with e | ⟨e, e'⟩
      · exact h3 x y e
      · exact (h3 _ _ e).trans (h3 _ _ e')
    · rw [g3] at e1 e2 ⊢
      by_cases hjk : j = k
      · subst hjk
        have a1 : at2 (wAll N T j) x j = true := e1.elim id And.left
        have a2 : at2 (wAll N T j) j y = true := e2.elim id And.right
        exact .inr ⟨a1, a2⟩
      · have hj' : j < k := by omega
        rcases e1 with e1 | ⟨e1, e1'⟩ <;> rcases e2 with e2 | ⟨e2, e2'⟩
        · exact .inl (h4 j hj' x y e1 e2)
        · exact .inr ⟨h4 j hj' x k e1 e2, e2'⟩
        · exact .inr ⟨e1, h4 j hj' k y e1' e2⟩
        · exact .inr ⟨e1, e2'⟩
theorem wAll_path {N : Nat} {T : List (List Bool)} (h : Shape N T) (x y : Nat) : at2 (wAll N T N) x y = true ↔ Path1 (fun p q => q < N ∧ at2 T p q = true) x y := by
  obtain ⟨h1, h2, h3, h4⟩ := wAll_spec h N (Nat.le_refl _)
  refine ⟨h3 x y, fun p => ?_⟩
  induction p with
  | one b hb => exact h2 _ _ hb.2
  | more b c _ hc ih => exact h4 b (at2_lt h hc.2).1 _ _ ih (h2 _ _ hc.2)
/-! The order. -/
def freeB (N : Nat) (At : List (List Bool)) (told : List Bool) (i : Nat) : Bool := !told.getD i false && (List.range N).all fun a => told.getD a false || !at2 At a i
def pickF (N : Nat) (At : List (List Bool)) (told : List Bool) : Option Nat := (List.range N).find? (freeB N At told)
def orderL (N : Nat) (At : List (List Bool)) : Nat → List Bool → List Int → Option (List Int)
  | 0, _, out => some out
  | d + 1, told, out => (pickF N At told).bind fun i => orderL N At d (told.set i true) (out ++ [(i : Int)])
def orderF (N : Nat) (At : List (List Bool)) : Option (List Int) := orderL N At N (List.replicate N false) []
theorem pick_some {N : Nat} {At : List (List Bool)} {told : List Bool} {i : Nat} (h : pickF N At told = some i) : i < N ∧ told.getD i false = false ∧ ∀ a, a < N → at2 At a i = true → told.getD a false = true := by
  have h1 := List.mem_of_find?_eq_some h
  have h2 := List.find?_some h
  unfold freeB at h2
  rw [Bool.and_eq_true, List.all_eq_true] at h2
  refine ⟨List.mem_range.1 h1, by simpa using h2.1, fun a ha hat => ?_⟩
  have := h2.2 a (List.mem_range.2 ha)
  rw [hat] at this
  simpa using this
theorem filter_len_lt {p q : Nat → Bool} (h : ∀ x, p x = true → q x = true) : ∀ (l : List Nat) (z : Nat), z ∈ l → q z = true → p z = false → (l.filter p).length < (l.filter q).length
  | [], z, hz, _, _ => by cases hz
  | x :: l, z, hz, hq, hp => by
    have mono : ∀ l : List Nat, (l.filter p).length ≤ (l.filter q).length := fun l => by
      rw [← List.countP_eq_length_filter, ← List.countP_eq_length_filter]; exact List.countP_mono_left fun x _ => h x
    rcases List.mem_cons.1 hz with e | e
    · subst e
      rw [List.filter_cons_of_neg (by simp [hp]), List.filter_cons_of_pos hq, List.length_cons]
      have := mono l; omega
    · have ih := filter_len_lt h l z e hq hp
      rw [List.filter_cons, List.filter_cons]
      by_cases e2 : p x = true
      · rw [if_pos e2, if_pos (h x e2)]; simpa using ih
      · rw [if_neg e2]
        split
        · rw [List.length_cons]; omega
        · exact ih
open Classical in
noncomputable def anc (R : Nat → Nat → Prop) (N x : Nat) : Nat := ((List.range N).filter fun y => decide (Path1 R y x)).length
theorem anc_lt {R : Nat → Nat → Prop} {N a x : Nat} (ha : a < N) (h : R a x) (hac : ¬ Path1 R a a) : anc R N a < anc R N x := by
  unfold anc
  refine filter_len_lt (fun y hy => ?_) _ a (List.mem_range.2 ha) ?_ ?_
  · simp at hy ⊢; exact .more _ _ _ hy h
  · simp; exact .one _ _ h
  · simp; exact hac
/-- Where no way leads round, one is free as long as one is left. -/
theorem pick_free {N : Nat} {At : List (List Bool)} (hS : Shape N At) {told : List Bool} (hac : ∀ a, a < N → ¬ Path1 (fun p q => q < N ∧ at2 At p q = true) a a) :
    ∀ m x, x < N → told.getD x false = false → anc (fun p q => q < N ∧ at2 At p q = true) N x ≤ m → ∃ i, pickF N At told = some i := by
  intro m
  induction m with
  | zero =>
    intro x hx ht hm
    cases hp : pickF N At told with
    | some i => exact ⟨i, rfl⟩
    | none =>
      exfalso
      have := List.find?_eq_none.1 hp x (List.mem_range.2 hx)
      unfold freeB at this
      rw [ht] at this
      simp at this
      obtain ⟨a, ha, _, hat⟩ := this
      have := anc_lt (N := N) ha (show (fun p q => q < N ∧ at2 At p q = true) a x from ⟨hx, hat⟩) (hac a ha)
      omega
  | succ m ih =>
    intro x hx ht hm
    cases hp : pickF N At told with
    | some i => exact ⟨i, rfl⟩
    | none =>
      have := List.find?_eq_none.1 hp x (List.mem_range.2 hx)
      unfold freeB at this
      rw [ht] at this
      simp at this
      obtain ⟨a, ha, hta, hat⟩ := this
      have h2 := anc_lt (N := N) ha (show (fun p q => q < N ∧ at2 At p q = true) a x from ⟨hx, hat⟩) (hac a ha)
      have := ih a ha (by simpa [List.getD_eq_getElem?_getD] using hta) (by omega)
      rwa [hp] at this
theorem unmet_pos : ∀ {l : List Bool}, 0 < unmet l → ∃ x, x < l.length ∧ l.getD x false = false
  | [], h => by simp [unmet] at h
  | false :: r, _ => ⟨0, by simp, rfl⟩
  | true :: r, h => by
    obtain ⟨x, h1, h2⟩ := unmet_pos (l := r) (by simpa [unmet] using h)
    exact ⟨x + 1, by simpa using h1, by simpa using h2⟩
theorem order_some {N : Nat} {At : List (List Bool)} (hS : Shape N At) (hac : ∀ a, a < N → ¬ Path1 (fun p q => q < N ∧ at2 At p q = true) a a) : ∀ d told out, told.length = N → unmet told = d → ∃ l, orderL N At d told out = some l
  | 0, told, out, _, _ => ⟨out, rfl⟩
  | d + 1, told, out, hl, hu => by
    obtain ⟨x, hx, ht⟩ := unmet_pos (l := told) (by omega)
    obtain ⟨i, hi⟩ := pick_free hS hac _ x (by omega) ht (Nat.le_refl _)
    obtain ⟨h1, h2, _⟩ := pick_some hi
    obtain ⟨l, e⟩ := order_some hS hac d (told.set i true) (out ++ [(i : Int)]) (by simpa using hl) (by have := unmet_set told i (by omega) h2; omega)
    exact ⟨l, by rw [orderL, hi]; exact e⟩
theorem order_none {N : Nat} {At : List (List Bool)} (hS : Shape N At) : ∀ d told out l, told.length = N → unmet told = d → orderL N At d told out = some l →
    (∀ i a, told.getD i false = true → at2 At a i = true → told.getD a false = true) → (∀ i, told.getD i false = true → ¬ Path1 (fun p q => q < N ∧ at2 At p q = true) i i) → ∀ a, a < N → ¬ Path1 (fun p q => q < N ∧ at2 At p q = true) a a
  | 0, told, out, l, hl, hu, _, hc, hn => fun a ha => by
    refine hn a ?_
    cases e : told.getD a false with
    | true => rfl
    | false =>
      have := unmet_set told a (by omega) e
      omega
  | d + 1, told, out, l, hl, hu, h, hc, hn => by
    rw [orderL] at h
    obtain ⟨i, hi, h⟩ := Option.bind_eq_some_iff.1 h
    obtain ⟨h1, h2, h3⟩ := pick_some hi
    have hg : ∀ j, (told.set i true).getD j false = if j = i then true else told.getD j false := fun j => getD_set _ _ _ (by omega)
    have back : ∀ a b, Path1 (fun p q => q < N ∧ at2 At p q = true) a b → told.getD b false = true → told.getD a false = true := by
      intro a b hp
      induction hp with
      | one b hb => exact fun ht => hc b _ ht hb.2
      | more b c _ hcc ih => exact fun ht => ih (hc c b ht hcc.2)
    refine order_none hS d (told.set i true) _ l (by simpa using hl) (by have := unmet_set told i (by omega) h2; omega) h (fun j a hj hat => ?_) (fun j hj => ?_)
    · rw [hg] at hj ⊢
      by_cases e : a = i
      · rw [if_pos e]
      · rw [if_neg e]
        by_cases e2 : j = i
        · subst e2; exact h3 a (at2_lt hS hat).1 hat
        · rw [if_neg e2] at hj; exact hc j a hj hat
    · rw [hg] at hj
      by_cases e2 : j = i
      · subst e2
        intro hp
        cases hp with
        | one _ hb => rw [h3 j h1 hb.2] at h2; cases h2
        | more b _ hp hb =>
          have := back _ _ hp (h3 b (at2_lt hS hb.2).1 hb.2)
          rw [this] at h2; cases h2
      · rw [if_neg e2] at hj; exact hn j hj
theorem unmet_new (N : Nat) : unmet (List.replicate N false) = N := by
  induction N with
  | zero => rfl
  | succ n ih => rw [List.replicate_succ, unmet, ih]; simp; omega
/-- There is an order just if no way leads round. -/
theorem order_iff {N : Nat} {At : List (List Bool)} (hS : Shape N At) : (∃ l, orderF N At = some l) ↔ ∀ a, a < N → ¬ Path1 (fun p q => q < N ∧ at2 At p q = true) a a := by
  have e0 : ∀ i, (List.replicate N false).getD i false = false := fun i => by simp [List.getD_eq_getElem?_getD, List.getElem?_replicate]; split <;> rfl
  constructor
  · rintro ⟨l, h⟩
    exact order_none hS N _ _ l (by simp) (unmet_new N) h (fun i a hi => by rw [e0] at hi; cases hi) (fun i hi => by rw [e0] at hi; cases hi)
  · exact fun h => order_some hS h N _ _ (by simp) (unmet_new N)
/-! How many are left ahead of each. -/
def cntF (N : Nat) (At : List (List Bool)) (told : List Bool) (i : Nat) : Nat := ((List.range N).filter fun a => !told.getD a false && at2 At a i).length
def leftF (N : Nat) (At : List (List Bool)) (told : List Bool) : List Int := (List.range N).map fun i => if told.getD i false = true then -1 else (cntF N At told i : Int)
def decAll (ps : List Nat) (L : List Int) : List Int := ps.foldl (fun l b => l.set b (l.getD b 0 - 1)) L
def incAll (ps : List (Nat × Nat)) (L : List Int) : List Int := ps.foldl (fun l p => l.set p.2 (l.getD p.2 0 + 1)) L
theorem decAll_snoc (ps : List Nat) (b : Nat) (L : List Int) : decAll (ps ++ [b]) L = (decAll ps L).set b ((decAll ps L).getD b 0 - 1) := by unfold decAll; rw [List.foldl_append]; rfl
theorem incAll_snoc (ps : List (Nat × Nat)) (p : Nat × Nat) (L : List Int) : incAll (ps ++ [p]) L = (incAll ps L).set p.2 ((incAll ps L).getD p.2 0 + 1) := by unfold incAll; rw [List.foldl_append]; rfl
theorem decAll_spec : ∀ (ps : List Nat) (L : List Int), (∀ b ∈ ps, b < L.length) → (decAll ps L).length = L.length ∧ ∀ b, (decAll ps L).getD b 0 = L.getD b 0 - (ps.count b : Int)
  | [], L, _ => ⟨rfl, fun b => by simp [decAll]⟩
  | p :: ps, L, h => by
    obtain ⟨h1, h2⟩ := decAll_spec ps (L.set p (L.getD p 0 - 1)) (fun b hb => by rw [List.length_set]; exact h b (List.mem_cons_of_mem _ hb))
    refine ⟨by show (decAll ps (L.set p (L.getD p 0 - 1))).length = _; rw [h1, List.length_set], fun b => ?_⟩
    show (decAll ps (L.set p (L.getD p 0 - 1))).getD b 0 = _
    rw [h2, getD_set_nat _ _ _ _ _ (h p (List.mem_cons_self ..)), List.count_cons]
    by_cases e : b = p
    · subst e; simp; omega
    · rw [if_neg e]
      have : (p == b) = false := by simp; exact fun k => e k.symm
      rw [this]; simp
theorem incAll_spec : ∀ (ps : List (Nat × Nat)) (L : List Int), (∀ p ∈ ps, p.2 < L.length) → (incAll ps L).length = L.length ∧ ∀ b, (incAll ps L).getD b 0 = L.getD b 0 + ((ps.map Prod.snd).count b : Int)
  | [], L, _ => ⟨rfl, fun b => by simp [incAll]⟩
  | p :: ps, L, h => by
    obtain ⟨h1, h2⟩ := incAll_spec ps (L.set p.2 (L.getD p.2 0 + 1)) (fun b hb => by rw [List.length_set]; exact h b (List.mem_cons_of_mem _ hb))
    refine ⟨by show (incAll ps (L.set p.2 (L.getD p.2 0 + 1))).length = _; rw [h1, List.length_set], fun b => ?_⟩
    show (incAll ps (L.set p.2 (L.getD p.2 0 + 1))).getD b 0 = _
    rw [h2, getD_set_nat _ _ _ _ _ (h p (List.mem_cons_self ..)), List.map_cons, List.count_cons]
    by_cases e : b = p.2
    · subst e; simp; omega
    · rw [if_neg e]
      have : (p.2 == b) = false := by simp; exact fun k => e k.symm
      rw [this]; simp
theorem trues_nodup (r : List Bool) : (trues r).Nodup := List.Nodup.sublist List.filter_sublist List.nodup_range
theorem count_trues (r : List Bool) (b : Nat) : (trues r).count b = if r.getD b false = true then 1 else 0 := by
  split
  · rename_i h
    exact (trues_nodup r).count.trans (by rw [if_pos (mem_trues.2 h)])
  · rename_i h
    exact List.count_eq_zero.2 fun k => h (mem_trues.1 k)
theorem leftF_getD {N : Nat} {At : List (List Bool)} {told : List Bool} {i : Nat} (h : i < N) : (leftF N At told).getD i 0 = if told.getD i false = true then -1 else (cntF N At told i : Int) := by
  unfold leftF; simp [List.getD_eq_getElem?_getD, h]
theorem leftF_len (N : Nat) (At : List (List Bool)) (told : List Bool) : (leftF N At told).length = N := by simp [leftF]
theorem cnt_zero {N : Nat} {At : List (List Bool)} {told : List Bool} {i : Nat} : cntF N At told i = 0 ↔ ∀ a, a < N → told.getD a false = true ∨ at2 At a i = false := by
  unfold cntF
  rw [List.length_eq_zero_iff, List.filter_eq_nil_iff]
  constructor
  · intro h a ha
    have := h a (List.mem_range.2 ha)
    cases e : told.getD a false <;> cases e2 : at2 At a i <;> simp_all
  · intro h a ha
    rcases h a (List.mem_range.1 ha) with e | e <;> rw [e] <;> simp
/-- One is free just if nothing is left ahead of it. -/
theorem left_zero {N : Nat} {At : List (List Bool)} {told : List Bool} {i : Nat} (h : i < N) : (leftF N At told).getD i 0 = 0 ↔ freeB N At told i = true := by
  rw [leftF_getD h]
  unfold freeB
  rw [Bool.and_eq_true, List.all_eq_true]
  by_cases e : told.getD i false = true
  · rw [if_pos e, e]; simp
  · rw [if_neg e]
    rw [Bool.eq_false_iff.2 e]
    constructor
    · intro h0
      refine ⟨rfl, fun a ha => ?_⟩
      have hz : cntF N At told i = 0 := by omega
      rcases cnt_zero.1 hz a (List.mem_range.1 ha) with e | e <;> rw [e] <;> simp
    · rintro ⟨_, h0⟩
      have : cntF N At told i = 0 := cnt_zero.2 fun a ha => by
        have := h0 a (List.mem_range.2 ha)
        cases e : told.getD a false <;> cases e2 : at2 At a i <;> simp_all
      omega
theorem filter_but {p p' : Nat → Bool} {i : Nat} (h : ∀ a, a ≠ i → p' a = p a) (hi : p' i = false) : ∀ n, ((List.range n).filter p).length = ((List.range n).filter p').length + (if i < n ∧ p i = true then 1 else 0)
  | 0 => by simp
  | n + 1 => by
    rw [List.range_succ, List.filter_append, List.filter_append, List.length_append, List.length_append, filter_but h hi n]
    by_cases e : n = i
    · subst e
      rw [if_neg (by omega)]
      cases hp : p n <;> simp [hp, hi]
    · have : p' n = p n := h n e
      rw [show (List.filter p [n]).length = (List.filter p' [n]).length by simp only [List.filter_cons, List.filter_nil, this]]
      by_cases e2 : i < n ∧ p i = true
      · rw [if_pos e2, if_pos ⟨by omega, e2.2⟩]; omega
      · rw [if_neg e2, if_neg (fun k => e2 ⟨by omega, k.2⟩)]; omega
theorem cnt_set {N : Nat} {At : List (List Bool)} {told : List Bool} {i : Nat} (hi : i < N) (hl : told.length = N) (ht : told.getD i false = false) (b : Nat) : (cntF N At (told.set i true) b : Int) = cntF N At told b - (if at2 At i b = true then 1 else 0) := by
  have hg : ∀ a, (told.set i true).getD a false = if a = i then true else told.getD a false := fun a => getD_set _ _ _ (by omega)
  have := filter_but (p := fun a => !told.getD a false && at2 At a b) (p' := fun a => !(told.set i true).getD a false && at2 At a b) (i := i) (fun a ha => by show (!(told.set i true).getD a false && at2 At a b) = _; rw [hg, if_neg ha]) (by show (!(told.set i true).getD i false && at2 At i b) = _; rw [hg, if_pos rfl]; rfl) N
  unfold cntF
  rw [this]
  have h2 : (i < N ∧ (!told.getD i false && at2 At i b) = true) ↔ at2 At i b = true := by rw [ht]; simp [hi]
  by_cases e : at2 At i b = true
  · rw [if_pos (h2.2 e), if_pos e]; omega
  · rw [if_neg (fun k => e (h2.1 k)), if_neg e]; omega
/-- One has been told: what is left ahead of those behind it. -/
theorem left_step {N : Nat} {At : List (List Bool)} {told : List Bool} {i : Nat} (hS : Shape N At) (hl : told.length = N) (hf : freeB N At told i = true) (hi : i < N) (hc : ∀ j a, told.getD j false = true → at2 At a j = true → told.getD a false = true) :
    decAll (trues (At.getD i [])) ((leftF N At told).set i (-1)) = leftF N At (told.set i true) := by
  have hg : ∀ a, (told.set i true).getD a false = if a = i then true else told.getD a false := fun a => getD_set _ _ _ (by omega)
  unfold freeB at hf
  rw [Bool.and_eq_true, List.all_eq_true] at hf
  have ht : told.getD i false = false := by simpa using hf.1
  have hlen := leftF_len N At told
  obtain ⟨d1, d2⟩ := decAll_spec (trues (At.getD i [])) ((leftF N At told).set i (-1)) (fun b hb => by rw [List.length_set, hlen]; exact (at2_lt hS (mem_trues.1 hb : at2 At i b = true)).2)
  have hii : at2 At i i = false := by
    have := hf.2 i (List.mem_range.2 hi)
    rw [ht] at this
    simpa using this
  refine List.ext_getElem (by rw [d1, List.length_set, hlen, leftF_len]) fun b h1 h2 => ?_
  have hb : b < N := by rw [leftF_len] at h2; exact h2
  have e1 : ∀ (l : List Int) (h : b < l.length), l[b] = l.getD b 0 := fun l h => by simp [List.getD_eq_getElem?_getD, h]
  rw [e1 _ h1, e1 _ h2, d2, getD_set_nat _ _ _ _ _ (by rw [hlen]; exact hi), leftF_getD hb, leftF_getD hb, hg, count_trues]
  have hcnt := cnt_set (At := At) hi hl ht b
  by_cases e : b = i
  · subst e
    rw [if_pos rfl, if_pos rfl, if_pos rfl]
    have : (At.getD b []).getD b false = false := hii
    rw [if_neg (by rw [this]; decide)]; rfl
  · rw [if_neg e, if_neg e]
    by_cases e2 : told.getD b false = true
    · rw [if_pos e2, if_pos e2]
      have : (At.getD i []).getD b false ≠ true := fun k => by
        have := hc b i e2 k
        rw [ht] at this; cases this
      rw [if_neg this]; rfl
    · rw [if_neg e2, if_neg e2, hcnt]
      show _ - ((if at2 At i b = true then 1 else 0 : Nat) : Int) = _
      split <;> rfl
theorem count_pairs (N : Nat) (At : List (List Bool)) (b : Nat) : ((pairsL N At).map Prod.snd).count b = cntF N At [] b := by
  unfold pairsL cntF
  induction N with
  | zero => rfl
  | succ n ih =>
    rw [List.range_succ, List.flatMap_append, List.map_append, List.count_append, ih, List.filter_append, List.length_append]
    congr 1
    have : (([n] : List Nat).flatMap fun a => (trues (At.getD a [])).map fun b => (a, b)).map Prod.snd = trues (At.getD n []) := by simp [Function.comp_def]
    rw [this, count_trues]
    have h2 : (!([] : List Bool).getD n false && at2 At n b) = at2 At n b := by simp
    rw [List.filter_cons, List.filter_nil, h2]
    show (if at2 At n b = true then 1 else 0) = _
    split <;> rfl
theorem cnt_none (N : Nat) (At : List (List Bool)) (b : Nat) : cntF N At (List.replicate N false) b = cntF N At [] b := by
  unfold cntF
  congr 1
  refine List.filter_congr fun a _ => ?_
  have : (List.replicate N false).getD a false = false := by simp [List.getD_eq_getElem?_getD, List.getElem?_replicate]; split <;> rfl
  rw [this]; simp
theorem left_new {N : Nat} {At : List (List Bool)} (hS : Shape N At) : incAll (pairsL N At) (List.replicate N 0) = leftF N At (List.replicate N false) := by
  obtain ⟨h1, h2⟩ := incAll_spec (pairsL N At) (List.replicate N 0) (fun p hp => by rw [List.length_replicate]; exact (at2_lt hS ((mem_pairs hS p.1 p.2).1 hp)).2)
  refine List.ext_getElem (by rw [h1, leftF_len, List.length_replicate]) fun b g1 g2 => ?_
  have hb : b < N := by rw [leftF_len] at g2; exact g2
  have e1 : ∀ (l : List Int) (h : b < l.length), l[b] = l.getD b 0 := fun l h => by simp [List.getD_eq_getElem?_getD, h]
  have e2 : (List.replicate N false).getD b false = false := by simp [List.getD_eq_getElem?_getD, List.getElem?_replicate]; split <;> rfl
  have e3 : (List.replicate N (0 : Int)).getD b 0 = 0 := by simp [List.getD_eq_getElem?_getD, List.getElem?_replicate]; split <;> rfl
  rw [e1 _ g1, e1 _ g2, h2, leftF_getD hb, e2, e3, count_pairs, cnt_none]
  simp
end Go.Proofs.YtoieemaheadjdaaDoor.PRel
