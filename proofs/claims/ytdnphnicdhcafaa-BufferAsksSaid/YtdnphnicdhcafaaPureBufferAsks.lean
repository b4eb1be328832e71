/- Forward is a copy of the last store of the cell, Ready, Clear and May tell what the document tells. For every buffer and any two 64 bit numbers. -/
import Derived.Test.YtdnphnicdhcafaaPBufferAsksx4
namespace Go.Proofs.Ytdnphnicdhcafaa.Pure
open Go.RowKit Go.Proofs.Ytdnphnicdhcafaa.PBufferAsks Go.Proofs.YtdnphnicdhcafaaW.PrintWords Go.Proofs.YtdnphnicdhcafaaW.PrintLast Go.Proofs.YtdnphnicdhcafaaW.PrintMore

set_option linter.unusedVariables false
set_option linter.unusedSimpArgs false
theorem rd_nat (xs : List Int) (i : Nat) (h : i < xs.length) : rd xs (i : Int) = xs[i] := by
  simp [rd, h]
theorem rd_getD (xs : List Int) (i : Nat) : rd xs (i : Int) = xs.getD i 0 := by simp [rd]
theorem wrap_succ (i : Nat) (h : i ≤ 4611686018427387904) : wrap64 ((i : Int) + 1) = ((i + 1 : Nat) : Int) := by
  unfold wrap64
  omega
theorem mx_self (a : Int) : mx a a = a := by unfold mx; split <;> rfl
/-- One round: by an equation for every number of rounds. -/
theorem Ev.by {α : Type} {g f : Nat → Option α} {r : α} (k : Ev f r) (h : ∀ k, g (k + 1) = f k) : Ev g r := Ev.step h k
theorem Ev.end_ {α : Type} {g : Nat → Option α} {r : α} (h : ∀ k, g (k + 1) = some r) : Ev g r := Ev.step (f := fun _ => some r) h (Ev.now r)
theorem Ev.if_pos {α : Type} {c : Prop} [Decidable c] {g f : Nat → Option α} {r : α} (hc : c) (h : Ev g r) : Ev (fun k => if c then g k else f k) r := by
  exact Ev.congr (fun _ => _root_.if_pos hc) h
theorem Ev.if_neg {α : Type} {c : Prop} [Decidable c] {g f : Nat → Option α} {r : α} (hc : ¬ c) (h : Ev f r) : Ev (fun k => if c then g k else f k) r := by
  exact Ev.congr (fun _ => _root_.if_neg hc) h
theorem drop_cons {α : Type} (l : List α) (i : Nat) (h : i < l.length) : l.drop i = l[i] :: l.drop (i + 1) := List.drop_eq_getElem_cons h

theorem ints_l0 (a b : List Int) (h : a.length = b.length) (hm : a.length ≤ 4611686018427387904) : ∀ d i, i ≤ a.length → a.length - i = d →
    Ev (fun k => spinnakerref01_Ints.l0 k a b (i : Int)) (decide (a.drop i = b.drop i)) := by
  intro d
  induction d with
  | zero =>
    intro i hi hd
    rw [List.drop_eq_nil_of_le (show a.length ≤ i by omega), List.drop_eq_nil_of_le (show b.length ≤ i by omega)]
    exact Ev.end_ fun k => by simp only [spinnakerref01_Ints.l0]; rw [if_neg (by omega)]; rfl
  | succ d ih =>
    intro i hi hd
    have h1 : i < a.length := by omega
    have h2 : i < b.length := by omega
    rw [drop_cons a i h1, drop_cons b i h2]
    by_cases e : a[i] = b[i]
    · have hr : decide (a[i] :: a.drop (i + 1) = b[i] :: b.drop (i + 1)) = decide (a.drop (i + 1) = b.drop (i + 1)) := by simp only [List.cons.injEq, e, true_and]
      rw [hr]
      exact Ev.by (ih (i + 1) (by omega) (by omega)) fun k => by
        simp only [spinnakerref01_Ints.l0]
        rw [if_pos (by omega), if_pos (by omega), if_pos (by omega), if_pos (by rw [rd_nat _ _ h1, rd_nat _ _ h2]; exact e), wrap_succ i (by omega)]
    · have hr : decide (a[i] :: a.drop (i + 1) = b[i] :: b.drop (i + 1)) = false := by simp only [List.cons.injEq, e, false_and, decide_false]
      rw [hr]
      exact Ev.end_ fun k => by
        simp only [spinnakerref01_Ints.l0]
        rw [if_pos (by omega), if_pos (by omega), if_pos (by omega), if_neg (by rw [rd_nat _ _ h1, rd_nat _ _ h2]; exact e)]
theorem ints_ev (a b : List Int) (hm : a.length ≤ 4611686018427387904) : Ev (fun k => spinnakerref01_Ints.f k a b) (decide (a = b)) := by
  unfold spinnakerref01_Ints.f
  by_cases h : a.length = b.length
  · refine Ev.if_pos (by omega) ?_
    have := ints_l0 a b h hm a.length 0 (by omega) (by omega)
    simpa using this
  · refine Ev.if_neg (by omega) ?_
    have : decide (a = b) = false := by simp; intro e; exact h (by rw [e])
    rw [this]
    exact Ev.now _

theorem T44_nat (l : List S44) (i : Nat) (h : i < l.length) : rd_T44 l (i : Int) = l[i] := by simp [rd_T44, h]
theorem T43_nat (l : List S43) (i : Nat) (h : i < l.length) : rd_T43 l (i : Int) = l[i] := by simp [rd_T43, h]
/-- The views are not too long. -/
def slim (l : List S44) : Prop := ∀ e ∈ l, e.f4.length ≤ 100
/-- A stored entry, as the document's. -/
def conv (e : S43) : S44 := ⟨e.f0, e.f1, e.f2, e.f3, e.f4⟩
theorem own_in (l : List S43) (hl : l.length ≤ maxLen) : ∀ d i, i ≤ l.length → i ≤ 50 → min l.length 50 - i = d → (∀ e ∈ l.take i, e.f4.length ≤ 100) →
    ∃ x b, Ev (fun k => spinnakerlaw30_own.l0 k l ((l.take i).map conv) (i : Int)) (x, b) ∧ (b = true → l.length ≤ 50 ∧ x = l.map conv ∧ slim x) := by
  intro d
  induction d with
  | zero =>
    intro i hi h50 hd hs
    refine ⟨(l.take i).map conv, decide ((l.length : Int) ≤ 50), ?_, ?_⟩
    · refine Ev.step (fun k => spinnakerlaw30_own.l0.eq_2 _ _ _ k) ?_
      by_cases h1 : (i : Int) < l.length
      · refine Ev.if_pos h1 ?_
        rw [decide_eq_false (by omega)]
        exact Ev.end_ fun k => by simp only [spinnakerlaw30_own.j1]; rfl
      · refine Ev.if_neg h1 ?_
        exact Ev.end_ fun k => by simp only [spinnakerlaw30_own.j1]; rfl
    · intro hb
      have hle : l.length ≤ 50 := by have := of_decide_eq_true hb; omega
      have ht : l.take i = l := List.take_of_length_le (by omega)
      rw [ht] at hs ⊢
      refine ⟨hle, rfl, fun e he => ?_⟩
      obtain ⟨y, hy, rfl⟩ := List.mem_map.1 he
      exact hs y hy
  | succ d ih =>
    intro i hi h50 hd hs
    have h1 : i < l.length := by omega
    by_cases hv : l[i].f4.length > 100
    · refine ⟨[], false, ?_, fun h => by cases h⟩
      refine Ev.step (fun k => spinnakerlaw30_own.l0.eq_2 _ _ _ k) ?_
      refine Ev.if_pos (by omega) ?_
      rw [decide_eq_true (by omega)]
      refine Ev.end_ fun k => ?_
      simp only [spinnakerlaw30_own.j1]
      rw [_root_.if_pos trivial, _root_.if_pos (by omega), _root_.if_pos (by omega), T43_nat _ _ h1, _root_.if_pos (by omega)]
    · have ht : l.take (i + 1) = l.take i ++ [l[i]] := List.take_succ_eq_append_getElem h1
      obtain ⟨x, b, hx, hb⟩ := ih (i + 1) (by omega) (by omega) (by omega) (by
        intro e he
        rw [ht] at he
        rcases List.mem_append.1 he with he | he
        · exact hs e he
        · have : e = l[i] := by simpa using he
          rw [this]; omega)
      refine ⟨x, b, ?_, hb⟩
      refine Ev.step (fun k => spinnakerlaw30_own.l0.eq_2 _ _ _ k) ?_
      refine Ev.if_pos (by omega) ?_
      rw [decide_eq_true (by omega)]
      refine Ev.by hx fun k => ?_
      simp only [spinnakerlaw30_own.j1]
      rw [_root_.if_pos trivial, _root_.if_pos (by omega), _root_.if_pos (by omega), T43_nat _ _ h1, _root_.if_neg (by omega)]
      simp only [Option.bind_some, List.nil_append, List.length_nil]
      rw [_root_.if_pos (by omega), _root_.if_pos (by simp; omega), wrap_succ i (by omega), ht, List.map_append]
      rfl
theorem own_ev (l : List S43) (hl : l.length ≤ maxLen) : ∃ x b, Ev (fun k => spinnakerlaw30_own.f k l) (x, b) ∧ (b = true → l.length ≤ 50 ∧ x = l.map conv ∧ slim x) := by
  have := own_in l hl (min l.length 50) 0 (by omega) (by omega) (by omega) (by simp)
  simpa [spinnakerlaw30_own.f] using this
/-- Do the numbers rise? -/
def rise : List S44 → Bool
  | [] => true
  | [_] => true
  | a :: b :: l => decide (a.f0 < b.f0) && rise (b :: l)
theorem rise_drop (l : List S44) (i : Nat) (h0 : 0 < i) (h : i < l.length) : rise (l.drop (i - 1)) = (decide (l[i - 1].f0 < l[i].f0) && rise (l.drop i)) := by
  have h1 : i - 1 < l.length := by omega
  rw [drop_cons l (i - 1) h1]
  have e : i - 1 + 1 = i := by omega
  rw [e, drop_cons l i h]
  rfl
theorem may_l0 (l : List S44) (hl : l.length ≤ 1000) : ∀ d i, i ≤ l.length → l.length - i = d → Ev (fun k => buffer_May.l0 k l (l.length : Int) (i : Int)) (rise (l.drop (i - 1))) := by
  intro d
  induction d with
  | zero =>
    intro i hi hd
    have hr : rise (l.drop (i - 1)) = true := by
      have : (l.drop (i - 1)).length ≤ 1 := by rw [List.length_drop]; omega
      cases hq : l.drop (i - 1) with
      | nil => rfl
      | cons a t => cases t with
        | nil => rfl
        | cons b t => rw [hq] at this; simp at this
    rw [hr]
    exact Ev.end_ fun k => by simp only [buffer_May.l0]; rw [_root_.if_neg (by omega)]
  | succ d ih =>
    intro i hi hd
    have h1 : i < l.length := by omega
    have hn := ih (i + 1) (by omega) (by omega)
    rw [Nat.add_sub_cancel] at hn
    by_cases h0 : 0 < i
    · rw [rise_drop l i h0 h1]
      have hw : wrap64 ((i : Int) - 1) = ((i - 1 : Nat) : Int) := by unfold wrap64; omega
      by_cases e : l[i].f0 ≤ l[i - 1].f0
      · rw [decide_eq_false (by omega), Bool.false_and]
        refine Ev.end_ fun k => ?_
        simp only [buffer_May.l0]
        rw [_root_.if_pos (by omega), _root_.if_pos (by omega), _root_.if_pos (by omega), _root_.if_pos (by omega), hw, _root_.if_pos (by omega), _root_.if_pos (by omega), T44_nat _ _ h1, T44_nat _ _ (by omega), _root_.if_pos e]
      · rw [decide_eq_true (by omega), Bool.true_and]
        refine Ev.by hn fun k => ?_
        simp only [buffer_May.l0]
        rw [_root_.if_pos (by omega), _root_.if_pos (by omega), _root_.if_pos (by omega), _root_.if_pos (by omega), hw, _root_.if_pos (by omega), _root_.if_pos (by omega), T44_nat _ _ h1, T44_nat _ _ (by omega), _root_.if_neg e, wrap_succ i (by omega)]
    · have hz : i = 0 := by omega
      subst hz
      refine Ev.by hn fun k => ?_
      simp only [buffer_May.l0]
      rw [_root_.if_pos (by omega), _root_.if_neg (by omega), wrap_succ 0 (by omega)]
theorem may_ev (l : List S44) (hl : l.length ≤ 1000) : Ev (fun k => buffer_May.f k l) (rise l) := by
  have := may_l0 l hl l.length 0 (by omega) (by omega)
  simpa [buffer_May.f] using this
theorem awake30_ev : Ev (fun k => spinnakerlaw30_awake.f k) true := by
  unfold spinnakerlaw30_awake.f
  simp only [Option.bind_some]
  have h1 : buffer_Ready.f [(⟨1, 0, 0, 0, []⟩ : S44), ⟨2, 1, 0, 2, []⟩] 1 = some true := by rfl
  have h2 : buffer_Ready.f [(⟨1, 0, 0, 0, []⟩ : S44), ⟨2, 1, 0, 2, []⟩] 2 = some false := by rfl
  rw [h1, h2]
  simp only [Option.bind_some]
  refine Ev.if_pos (by simp) ?_
  refine Ev.if_neg (by simp) ?_
  have := may_ev [(⟨1, 0, 0, 0, []⟩ : S44), ⟨2, 1, 0, 2, []⟩] (by decide)
  exact Ev.bind this (Ev.now _)

theorem same_ev (e : S43) (h : e.f4.length ≤ 1000) : Ev (fun k => spinnakerref30_Same.f k e.f0 e.f1 e.f2 e.f3 e.f4 e.f0 e.f1 e.f2 e.f3 e.f4) true := by
  unfold spinnakerref30_Same.f
  refine Ev.if_pos rfl (Ev.if_pos rfl (Ev.if_pos rfl (Ev.if_pos rfl ?_)))
  have := ints_ev e.f4 e.f4 (by omega)
  rw [decide_eq_true rfl] at this
  exact Ev.bind this (Ev.now _)
theorem place_l0 (l : List S43) (hl : l.length ≤ 1000) (no : Int) : ∀ d i, i ≤ l.length → l.length - i = d →
    Ev (fun k => spinnakerref30_Place.l0 k l no (i : Int)) (if (l.drop i).findIdx (fun e => e.f0 == no) < (l.drop i).length then ((i + (l.drop i).findIdx (fun e => e.f0 == no) : Nat) : Int) else -1) := by
  intro d
  induction d with
  | zero =>
    intro i hi hd
    rw [List.drop_eq_nil_of_le (by omega)]
    exact Ev.end_ fun k => by simp only [spinnakerref30_Place.l0]; rw [_root_.if_neg (by omega)]; rfl
  | succ d ih =>
    intro i hi hd
    have h1 : i < l.length := by omega
    have hn := ih (i + 1) (by omega) (by omega)
    rw [drop_cons l i h1, List.findIdx_cons]
    by_cases e : l[i].f0 = no
    · have eb : (l[i].f0 == no) = true := by simpa using e
      rw [eb, cond_true, _root_.if_pos (by simp; omega), Nat.add_zero]
      exact Ev.end_ fun k => by
        simp only [spinnakerref30_Place.l0]
        rw [_root_.if_pos (by omega), _root_.if_pos (by omega), T43_nat _ _ h1, _root_.if_pos e]
    · have eb : (l[i].f0 == no) = false := by simpa using e
      rw [eb, cond_false]
      have hr : (if (l.drop (i + 1)).findIdx (fun e => e.f0 == no) + 1 < (l[i] :: l.drop (i + 1)).length then ((i + ((l.drop (i + 1)).findIdx (fun e => e.f0 == no) + 1) : Nat) : Int) else -1) = (if (l.drop (i + 1)).findIdx (fun e => e.f0 == no) < (l.drop (i + 1)).length then ((i + 1 + (l.drop (i + 1)).findIdx (fun e => e.f0 == no) : Nat) : Int) else -1) := by
        rw [List.length_cons]
        by_cases hc : (l.drop (i + 1)).findIdx (fun e => e.f0 == no) < (l.drop (i + 1)).length
        · rw [_root_.if_pos (by omega), _root_.if_pos hc]; omega
        · rw [_root_.if_neg (by omega), _root_.if_neg hc]
      rw [hr]
      exact Ev.by hn fun k => by
        simp only [spinnakerref30_Place.l0]
        rw [_root_.if_pos (by omega), _root_.if_pos (by omega), T43_nat _ _ h1, _root_.if_neg e, wrap_succ i (by omega)]
theorem place_ev (l : List S43) (hl : l.length ≤ 1000) (no : Int) : Ev (fun k => spinnakerref30_Place.f k l no) (ixf_e (fun e => e.f0 == no) (l.map conv)) := by
  have := place_l0 l hl no l.length 0 (by omega) (by omega)
  rw [List.drop_zero, Nat.zero_add] at this
  unfold ixf_e
  rw [List.findIdx_map, List.length_map]
  exact this
/-- Does the entry at place j let the one at place p go? -/
def lets (l : List S44) (p j : Nat) : Bool := decide (j = p) || (!(decide (j < p) && ((l.getD j z44).f1 == (l.getD p z44).f1)) && !decide ((l.getD j z44).f0 < (l.getD p z44).f3))
theorem lets_all (l : List S44) (p : Nat) (hp : p < l.length) : (List.range l.length).all (lets l p) = rdy l p := by
  rw [Bool.eq_iff_iff, List.all_eq_true]
  simp only [rdy, Bool.and_eq_true, Bool.not_eq_true', List.any_eq_false, beq_iff_eq, decide_eq_true_eq]
  constructor
  · intro h
    refine ⟨⟨fun e he => ?_, fun e he => ?_⟩, fun e he => ?_⟩
    · obtain ⟨j, hj, rfl⟩ := List.getElem_of_mem he
      have hj2 : j < p := by simp at hj; omega
      have h2 := h j (by simp; omega)
      simp only [lets, Bool.or_eq_true, decide_eq_true_eq, Bool.and_eq_true, Bool.not_eq_true', Bool.and_eq_false_iff, decide_eq_false_iff_not, beq_eq_false_iff_ne] at h2
      rcases h2 with h2 | ⟨h2, h3⟩
      · omega
      · rcases h2 with h2 | h2
        · omega
        · rw [List.getElem_take]
          have : l.getD j z44 = l[j] := by simp [show j < l.length by omega]
          rw [this] at h2
          exact h2
    · obtain ⟨j, hj, rfl⟩ := List.getElem_of_mem he
      have hj2 : j < p := by simp at hj; omega
      have h2 := h j (by simp; omega)
      simp only [lets, Bool.or_eq_true, decide_eq_true_eq, Bool.and_eq_true, Bool.not_eq_true', Bool.and_eq_false_iff, decide_eq_false_iff_not, beq_eq_false_iff_ne] at h2
      rcases h2 with h2 | ⟨h2, h3⟩
      · omega
      · rw [List.getElem_take]
        have : l.getD j z44 = l[j] := by simp [show j < l.length by omega]
        rw [this] at h3
        exact h3
    · obtain ⟨j, hj, rfl⟩ := List.getElem_of_mem he
      have hj2 : p + 1 + j < l.length := by simp at hj; omega
      have h2 := h (p + 1 + j) (by simp; omega)
      simp only [lets, Bool.or_eq_true, decide_eq_true_eq, Bool.and_eq_true, Bool.not_eq_true', Bool.and_eq_false_iff, decide_eq_false_iff_not, beq_eq_false_iff_ne] at h2
      rcases h2 with h2 | ⟨h2, h3⟩
      · omega
      · rw [List.getElem_drop]
        have : l.getD (p + 1 + j) z44 = l[p + 1 + j] := by simp [hj2]
        rw [this] at h3
        exact h3
  · rintro ⟨⟨h1, h2⟩, h3⟩ j hj
    have hjl : j < l.length := by simpa using hj
    have e : l.getD j z44 = l[j] := by simp [hjl]
    simp only [lets, Bool.or_eq_true, decide_eq_true_eq, Bool.and_eq_true, Bool.not_eq_true', Bool.and_eq_false_iff, decide_eq_false_iff_not, beq_eq_false_iff_ne]
    rcases Nat.lt_trichotomy j p with hc | hc | hc
    · have hm : l[j] ∈ l.take p := by
        have : (l.take p)[j]'(by simp; omega) = l[j] := List.getElem_take
        rw [← this]
        exact List.getElem_mem _
      rw [e]
      exact .inr ⟨.inr (h1 _ hm), h2 _ hm⟩
    · exact .inl hc
    · have hm : l[j] ∈ l.drop (p + 1) := by
        have : (l.drop (p + 1))[j - (p + 1)]'(by simp; omega) = l[p + 1 + (j - (p + 1))]'(by omega) := List.getElem_drop
        have e2 : p + 1 + (j - (p + 1)) = j := by omega
        simp only [e2] at this
        rw [← this]
        exact List.getElem_mem _
      rw [e]
      exact .inr ⟨.inl (by omega), h3 _ hm⟩
theorem conv_getD (l : List S43) (j : Nat) (h : j < l.length) : (l.map conv).getD j z44 = conv l[j] := by simp [h]
theorem ready_l0 (l : List S43) (hl : l.length ≤ 1000) (p : Nat) (hp : p < l.length) : ∀ d i, i ≤ l.length → l.length - i = d →
    Ev (fun k => spinnakerref30_Ready.l0 k l (p : Int) (i : Int)) (((List.range l.length).drop i).all (lets (l.map conv) p)) := by
  intro d
  induction d with
  | zero =>
    intro i hi hd
    rw [List.drop_eq_nil_of_le (by simp; omega)]
    exact Ev.end_ fun k => by simp only [spinnakerref30_Ready.l0]; rw [_root_.if_neg (by omega)]; rfl
  | succ d ih =>
    intro i hi hd
    have h1 : i < l.length := by omega
    have hn := ih (i + 1) (by omega) (by omega)
    rw [drop_cons (List.range l.length) i (by simpa using h1), List.getElem_range, List.all_cons]
    have hl1 : lets (l.map conv) p i = (decide (i = p) || (!(decide (i < p) && (l[i].f1 == l[p].f1)) && !decide (l[i].f0 < l[p].f3))) := by
      unfold lets
      rw [conv_getD l i h1, conv_getD l p hp]
      rfl
    rw [hl1]
    by_cases c1 : i = p
    · rw [decide_eq_true c1, Bool.true_or, Bool.true_and]
      exact Ev.by hn fun k => by
        simp only [spinnakerref30_Ready.l0]
        rw [_root_.if_pos (by omega), _root_.if_pos (by omega), wrap_succ i (by omega)]
    · rw [decide_eq_false c1, Bool.false_or]
      by_cases c2 : i < p
      · rw [decide_eq_true c2, Bool.true_and]
        by_cases c3 : l[i].f1 = l[p].f1
        · have : (l[i].f1 == l[p].f1) = true := by simpa using c3
          rw [this, Bool.not_true, Bool.false_and, Bool.false_and]
          exact Ev.end_ fun k => by
            simp only [spinnakerref30_Ready.l0]
            rw [_root_.if_pos (by omega), _root_.if_neg (by omega), _root_.if_pos (by omega), _root_.if_pos (by omega), _root_.if_pos (by omega), _root_.if_pos (by omega), T43_nat _ _ h1, T43_nat _ _ hp, _root_.if_pos c3]
        · have : (l[i].f1 == l[p].f1) = false := by simpa using c3
          rw [this, Bool.not_false, Bool.true_and]
          by_cases c4 : l[i].f0 < l[p].f3
          · rw [decide_eq_true c4, Bool.not_true, Bool.false_and]
            exact Ev.end_ fun k => by
              simp only [spinnakerref30_Ready.l0]
              rw [_root_.if_pos (by omega), _root_.if_neg (by omega), _root_.if_pos (by omega), _root_.if_pos (by omega), _root_.if_pos (by omega), _root_.if_pos (by omega), T43_nat _ _ h1, T43_nat _ _ hp, _root_.if_neg c3, _root_.if_pos c4]
          · rw [decide_eq_false c4, Bool.not_false, Bool.true_and]
            exact Ev.by hn fun k => by
              simp only [spinnakerref30_Ready.l0]
              rw [_root_.if_pos (by omega), _root_.if_neg (by omega), _root_.if_pos (by omega), _root_.if_pos (by omega), _root_.if_pos (by omega), _root_.if_pos (by omega), T43_nat _ _ h1, T43_nat _ _ hp, _root_.if_neg c3, _root_.if_neg c4, wrap_succ i (by omega)]
      · rw [decide_eq_false c2, Bool.false_and, Bool.not_false, Bool.true_and]
        by_cases c4 : l[i].f0 < l[p].f3
        · rw [decide_eq_true c4, Bool.not_true, Bool.false_and]
          exact Ev.end_ fun k => by
            simp only [spinnakerref30_Ready.l0]
            rw [_root_.if_pos (by omega), _root_.if_neg (by omega), _root_.if_neg (by omega), _root_.if_pos (by omega), _root_.if_pos (by omega), _root_.if_pos (by omega), T43_nat _ _ h1, T43_nat _ _ hp, _root_.if_pos c4]
        · rw [decide_eq_false c4, Bool.not_false, Bool.true_and]
          exact Ev.by hn fun k => by
            simp only [spinnakerref30_Ready.l0]
            rw [_root_.if_pos (by omega), _root_.if_neg (by omega), _root_.if_neg (by omega), _root_.if_pos (by omega), _root_.if_pos (by omega), _root_.if_pos (by omega), T43_nat _ _ h1, T43_nat _ _ hp, _root_.if_neg c4, wrap_succ i (by omega)]
/-- May the store of this number go? -/
def ready (x : List S44) (no : Int) : Bool := if ixf_e (fun e => e.f0 == no) x < 0 then false else rdy x (ixf_e (fun e => e.f0 == no) x).toNat
theorem refReady_ev (l : List S43) (hl : l.length ≤ 1000) (no : Int) : Ev (fun k => spinnakerref30_Ready.f k l no) (ready (l.map conv) no) := by
  unfold spinnakerref30_Ready.f
  refine Ev.bind (place_ev l hl no) ?_
  have hr := ixf_e_range (fun e => e.f0 == no) (l.map conv)
  unfold ready
  generalize ixf_e (fun e => e.f0 == no) (l.map conv) = n at hr ⊢
  by_cases c : n < 0
  · rw [_root_.if_pos c]
    exact Ev.if_pos c (Ev.now _)
  · rw [_root_.if_neg c]
    obtain ⟨p, rfl⟩ := Int.eq_ofNat_of_zero_le (by omega : 0 ≤ n)
    have hp : p < l.length := by rw [List.length_map] at hr; omega
    rw [Int.toNat_natCast]
    refine Ev.if_neg c ?_
    have := ready_l0 l hl p hp l.length 0 (by omega) (by omega)
    rw [List.drop_zero] at this
    rw [← lets_all _ p (by rw [List.length_map]; exact hp), List.length_map]
    exact this

theorem clear_l0 (l : List S43) (hl : l.length ≤ 1000) (no : Int) : ∀ d i, i ≤ l.length → l.length - i = d → Ev (fun k => spinnakerref30_Clear.l0 k l no (i : Int)) (!((l.drop i).map conv).any (fun x => decide (x.f0 < no))) := by
  intro d
  induction d with
  | zero =>
    intro i hi hd
    rw [List.drop_eq_nil_of_le (by omega)]
    exact Ev.end_ fun k => by simp only [spinnakerref30_Clear.l0]; rw [_root_.if_neg (by omega)]; rfl
  | succ d ih =>
    intro i hi hd
    have h1 : i < l.length := by omega
    have hn := ih (i + 1) (by omega) (by omega)
    rw [drop_cons l i h1, List.map_cons, List.any_cons]
    by_cases e : l[i].f0 < no
    · have e2 : decide ((conv l[i]).f0 < no) = true := decide_eq_true e
      rw [e2, Bool.true_or, Bool.not_true]
      refine Ev.end_ fun k => ?_
      simp only [spinnakerref30_Clear.l0]
      rw [_root_.if_pos (by omega), _root_.if_pos (by omega), T43_nat _ _ h1, _root_.if_pos e]
    · have e2 : decide ((conv l[i]).f0 < no) = false := decide_eq_false e
      rw [e2, Bool.false_or]
      refine Ev.by hn fun k => ?_
      simp only [spinnakerref30_Clear.l0]
      rw [_root_.if_pos (by omega), _root_.if_pos (by omega), T43_nat _ _ h1, _root_.if_neg e, wrap_succ i (by omega)]
theorem clear_ev (l : List S43) (hl : l.length ≤ 1000) (no : Int) : Ev (fun k => spinnakerref30_Clear.f k l no) (!(l.map conv).any (fun x => decide (x.f0 < no))) := by
  have := clear_l0 l hl no l.length 0 (by omega) (by omega)
  simpa [spinnakerref30_Clear.f] using this
/-- The place of the last store of a cell among the first i; -1: none. -/
def lastOf (l : List S43) (c : Int) : Nat → Int
  | 0 => -1
  | i + 1 => if (rd_T43 l (i : Int)).f1 = c then (i : Int) else lastOf l c i
theorem last_l0 (l : List S43) (hl : l.length ≤ 1000) (c : Int) : ∀ d i, i ≤ l.length → l.length - i = d → Ev (fun k => spinnakerref30_Last.l0 k l c (lastOf l c i) (i : Int)) (lastOf l c l.length) := by
  intro d
  induction d with
  | zero =>
    intro i hi hd
    have : i = l.length := by omega
    subst this
    exact Ev.end_ fun k => by simp only [spinnakerref30_Last.l0]; rw [_root_.if_neg (by omega)]
  | succ d ih =>
    intro i hi hd
    have h1 : i < l.length := by omega
    have hn := ih (i + 1) (by omega) (by omega)
    by_cases e : (rd_T43 l (i : Int)).f1 = c
    · have e2 : lastOf l c (i + 1) = (i : Int) := by simp only [lastOf]; rw [_root_.if_pos e]
      rw [e2] at hn
      refine Ev.by hn fun k => ?_
      simp only [spinnakerref30_Last.l0]
      rw [_root_.if_pos (by omega), _root_.if_pos (by omega), _root_.if_pos e, wrap_succ i (by omega)]
    · have e2 : lastOf l c (i + 1) = lastOf l c i := by simp only [lastOf]; rw [_root_.if_neg e]
      rw [e2] at hn
      refine Ev.by hn fun k => ?_
      simp only [spinnakerref30_Last.l0]
      rw [_root_.if_pos (by omega), _root_.if_pos (by omega), _root_.if_neg e, wrap_succ i (by omega)]
theorem last_ev (l : List S43) (hl : l.length ≤ 1000) (c : Int) : Ev (fun k => spinnakerref30_Last.f k l c) (lastOf l c l.length) := by
  have := last_l0 l hl c l.length 0 (by omega) (by omega)
  simpa [spinnakerref30_Last.f, lastOf] using this
theorem last_find (l : List S43) (c : Int) : ∀ i, i ≤ l.length → (lastOf l c i = -1 ∧ ((l.take i).map conv).reverse.find? (fun e => e.f1 == c) = none) ∨ ∃ j, ∃ h : j < l.length, lastOf l c i = (j : Int) ∧ ((l.take i).map conv).reverse.find? (fun e => e.f1 == c) = some (conv l[j]) := by
  intro i
  induction i with
  | zero => exact fun _ => .inl ⟨rfl, rfl⟩
  | succ i ih =>
    intro hi
    have h1 : i < l.length := by omega
    have hr := ih (by omega)
    rw [List.take_succ_eq_append_getElem h1, List.map_append, List.reverse_append]
    show (lastOf l c (i + 1) = -1 ∧ (conv l[i] :: ((l.take i).map conv).reverse).find? (fun e => e.f1 == c) = none) ∨ ∃ j, ∃ h : j < l.length, lastOf l c (i + 1) = (j : Int) ∧ (conv l[i] :: ((l.take i).map conv).reverse).find? (fun e => e.f1 == c) = some (conv l[j])
    rw [List.find?_cons]
    simp only [lastOf]
    rw [T43_nat _ _ h1]
    by_cases e : l[i].f1 = c
    · have e2 : ((conv l[i]).f1 == c) = true := by rw [beq_iff_eq]; exact e
      rw [e2, _root_.if_pos e]
      exact .inr ⟨i, h1, rfl, rfl⟩
    · have e2 : ((conv l[i]).f1 == c) = false := by rw [beq_eq_false_iff_ne]; exact e
      rw [e2, _root_.if_neg e]
      exact hr
theorem forward_f (x : List S44) (hs : slim x) (c : Int) : buffer_Forward.f x c = some (buffer_Forward.pick x c) := by
  unfold buffer_Forward.f
  rw [_root_.if_pos]
  rw [List.all_eq_true]
  intro e he
  have := hs e he
  exact decide_eq_true (by omega)
theorem Ev.const {α : Type} {x : Option α} {r : α} (h : x = some r) : Ev (fun _ => x) r := by
  rw [h]
  exact Ev.now r
theorem asks_j (l : List S43) (hl : l.length ≤ 50) (hs : slim (l.map conv)) (no : Int) (at_ : Int) (b : Bool) (hb : b = decide (at_ ≥ 0)) (e : S43) (he : e.f4.length ≤ 1000) :
    Ev (fun k => spinnakerlaw30_BufferAsks.j1 k l no (l.map conv) (rise (l.map conv)) b at_ e.f0 e.f1 e.f2 e.f3 e.f4 e.f0 e.f1 e.f2 e.f3 e.f4) true := by
  refine Ev.step (fun k => spinnakerlaw30_BufferAsks.j1.eq_2 _ _ _ _ _ _ _ _ _ _ _ _ _ _ _ _ k) ?_
  refine Ev.if_pos (by rw [hb]; exact beq_self_eq_true _) ?_
  refine Ev.bind (same_ev e he) ?_
  refine Ev.if_pos rfl ?_
  refine Ev.bind (Ev.const (r := !(l.map conv).any (fun x => decide (x.f0 < no))) rfl) ?_
  refine Ev.bind (clear_ev l (by omega) no) ?_
  refine Ev.if_pos (beq_self_eq_true _) ?_
  refine Ev.bind (Ev.const (r := ready (l.map conv) no) rfl) ?_
  refine Ev.bind (refReady_ev l (by omega) no) ?_
  refine Ev.if_pos (beq_self_eq_true _) ?_
  refine Ev.bind (may_ev (l.map conv) (by rw [List.length_map]; omega)) ?_
  refine Ev.if_pos (beq_self_eq_true _) ?_
  exact Ev.bind awake30_ev (Ev.now _)
theorem asks_end (l : List S43) (hl : l.length ≤ 50) (hs : slim (l.map conv)) (c no : Int) (i : Nat) (hi : l.length ≤ i) (h5 : i ≤ 100) :
    Ev (fun k => spinnakerlaw30_BufferAsks.l0 k l c no (l.map conv) (rise (l.map conv)) (i : Int)) true := by
  refine Ev.step (fun k => spinnakerlaw30_BufferAsks.l0.eq_2 _ _ _ _ _ _ k) ?_
  refine Ev.if_neg (by omega) ?_
  refine Ev.bind (Ev.const (forward_f _ hs c)) ?_
  refine Ev.bind (last_ev l (by omega) c) ?_
  have hf := last_find l c l.length (Nat.le_refl _)
  rw [List.take_length] at hf
  rcases hf with ⟨h1, h2⟩ | ⟨j, hj, h1, h2⟩
  · rw [h1]
    refine Ev.if_neg (by omega) ?_
    have hp : buffer_Forward.pick (l.map conv) c = (0, 0, 0, 0, [], false) := by unfold buffer_Forward.pick; rw [h2]
    rw [hp]
    exact asks_j l hl hs no (-1) false rfl ⟨0, 0, 0, 0, []⟩ (by simp)
  · rw [h1]
    refine Ev.if_pos (by omega) ?_
    refine Ev.if_pos (by omega) ?_
    refine Ev.if_pos (by omega) ?_
    rw [T43_nat _ _ hj]
    have hp : buffer_Forward.pick (l.map conv) c = (l[j].f0, l[j].f1, l[j].f2, l[j].f3, l[j].f4, true) := by unfold buffer_Forward.pick; rw [h2]; rfl
    rw [hp]
    have he := hs (conv l[j]) (List.mem_map_of_mem (List.getElem_mem hj))
    exact asks_j l hl hs no (j : Int) true (decide_eq_true (by omega)).symm l[j] (by show (conv l[j]).f4.length ≤ 1000; omega)
theorem asks_l0 (l : List S43) (hl : l.length ≤ 50) (hs : slim (l.map conv)) (c no : Int) : ∀ d i b, 1 ≤ i → i ≤ 51 → 51 - i = d → (b && rise ((l.map conv).drop (i - 1))) = rise (l.map conv) →
    Ev (fun k => spinnakerlaw30_BufferAsks.l0 k l c no (l.map conv) b (i : Int)) true := by
  have hend : ∀ i b, l.length ≤ i → i ≤ 51 → 1 ≤ i → (b && rise ((l.map conv).drop (i - 1))) = rise (l.map conv) → Ev (fun k => spinnakerlaw30_BufferAsks.l0 k l c no (l.map conv) b (i : Int)) true := by
    intro i b h1 h2 h3 hb
    have hr : rise ((l.map conv).drop (i - 1)) = true := by
      have : ((l.map conv).drop (i - 1)).length ≤ 1 := by rw [List.length_drop, List.length_map]; omega
      cases hq : (l.map conv).drop (i - 1) with
      | nil => rfl
      | cons a t => cases t with
        | nil => rfl
        | cons b t => rw [hq] at this; simp at this
    rw [hr, Bool.and_true] at hb
    rw [hb]
    exact asks_end l hl hs c no i h1 (by omega)
  intro d
  induction d with
  | zero =>
    intro i b h1 h2 hd hb
    exact hend i b (by omega) h2 h1 hb
  | succ d ih =>
    intro i b h1 h2 hd hb
    by_cases hlt : i < l.length
    · have hw : wrap64 ((i : Int) - 1) = ((i - 1 : Nat) : Int) := by unfold wrap64; omega
      cases b with
      | false =>
        rw [Bool.false_and] at hb
        refine Ev.by (ih (i + 1) false (by omega) (by omega) (by omega) (by rw [Bool.false_and]; exact hb)) fun k => ?_
        simp only [spinnakerlaw30_BufferAsks.l0]
        rw [_root_.if_pos (by omega), _root_.if_neg (by simp), wrap_succ i (by omega)]
      | true =>
        have hx : i < (l.map conv).length := by rw [List.length_map]; exact hlt
        rw [Bool.true_and, rise_drop _ i (by omega) hx] at hb
        have hg : ∀ j (h : j < l.length), ((l.map conv)[j]'(by rw [List.length_map]; exact h)).f0 = l[j].f0 := fun j h => by rw [List.getElem_map]; rfl
        rw [hg i hlt, hg (i - 1) (by omega)] at hb
        refine Ev.by (ih (i + 1) (decide (l[i].f0 > l[i - 1].f0)) (by omega) (by omega) (by omega) (by rw [Nat.add_sub_cancel]; exact hb)) fun k => ?_
        simp only [spinnakerlaw30_BufferAsks.l0]
        rw [_root_.if_pos (by omega), _root_.if_pos trivial, _root_.if_pos (by omega), hw, _root_.if_pos (by omega), _root_.if_pos (by omega), T43_nat _ _ hlt, T43_nat _ _ (by omega), wrap_succ i (by omega)]
    · exact hend i b (by omega) (by omega) h1 hb
theorem BufferAsks : spinnakerlaw30_BufferAsks.Pure := by
  intro l c no hok _ _
  apply Ev.rounds
  unfold spinnakerlaw30_BufferAsks.f
  obtain ⟨x, b, hx, hb⟩ := own_ev l hok.1
  refine Ev.bind hx ?_
  cases b with
  | false => exact Ev.if_neg (by simp) (Ev.bind awake30_ev (Ev.now _))
  | true =>
    obtain ⟨hl, hxe, hs⟩ := hb rfl
    subst hxe
    refine Ev.if_pos rfl ?_
    exact asks_l0 l hl hs c no 50 1 true (by omega) (by omega) (by omega) (by rw [Bool.true_and]; rfl)

end Go.Proofs.Ytdnphnicdhcafaa.Pure
