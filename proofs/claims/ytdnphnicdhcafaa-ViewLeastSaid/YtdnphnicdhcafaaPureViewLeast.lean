/- Of three views of one length: the join of the first two is the least view that both are at most. For every three lists of 64 bit numbers. -/
import Derived.Test.YtdnphnicdhcafaaPViewLeastx2
namespace Go.Proofs.Ytdnphnicdhcafaa.Pure
open Go.RowKit Go.Proofs.Ytdnphnicdhcafaa.PViewLeast Go.Proofs.YtdnphnicdhcafaaW.PrintWords Go.Proofs.YtdnphnicdhcafaaW.PrintLast Go.Proofs.YtdnphnicdhcafaaW.PrintMore

set_option linter.unusedVariables false
set_option linter.unusedSimpArgs false
theorem rd_nat (xs : List Int) (i : Nat) (h : i < xs.length) : rd xs (i : Int) = xs[i] := by
  simp [rd, h]
theorem rd_getD (xs : List Int) (i : Nat) : rd xs (i : Int) = xs.getD i 0 := by simp [rd]
theorem wrap_succ (i : Nat) (h : i ≤ 4611686018427387904) : wrap64 ((i : Int) + 1) = ((i + 1 : Nat) : Int) := by
  unfold wrap64
  omega
theorem mx_self (a : Int) : mx a a = a := by unfold mx; split <;> rfl
/-- One round: by an equation for every number of rounds. -/
theorem Ev.by {α : Type} {g f : Nat → Option α} {r : α} (k : Ev f r) (h : ∀ k, g (k + 1) = f k) : Ev g r := Ev.step h k
theorem Ev.end_ {α : Type} {g : Nat → Option α} {r : α} (h : ∀ k, g (k + 1) = some r) : Ev g r := Ev.step (f := fun _ => some r) h (Ev.now r)
theorem Ev.if_pos {α : Type} {c : Prop} [Decidable c] {g f : Nat → Option α} {r : α} (hc : c) (h : Ev g r) : Ev (fun k => if c then g k else f k) r := by
  exact Ev.congr (fun _ => _root_.if_pos hc) h
theorem Ev.if_neg {α : Type} {c : Prop} [Decidable c] {g f : Nat → Option α} {r : α} (hc : ¬ c) (h : Ev f r) : Ev (fun k => if c then g k else f k) r := by
  exact Ev.congr (fun _ => _root_.if_neg hc) h
theorem drop_cons {α : Type} (l : List α) (i : Nat) (h : i < l.length) : l.drop i = l[i] :: l.drop (i + 1) := List.drop_eq_getElem_cons h

theorem ints_l0 (a b : List Int) (h : a.length = b.length) (hm : a.length ≤ 4611686018427387904) : ∀ d i, i ≤ a.length → a.length - i = d →
    Ev (fun k => spinnakerref01_Ints.l0 k a b (i : Int)) (decide (a.drop i = b.drop i)) := by
  intro d
  induction d with
  | zero =>
    intro i hi hd
    rw [List.drop_eq_nil_of_le (show a.length ≤ i by omega), List.drop_eq_nil_of_le (show b.length ≤ i by omega)]
    exact Ev.end_ fun k => by simp only [spinnakerref01_Ints.l0]; rw [if_neg (by omega)]; rfl
  | succ d ih =>
    intro i hi hd
    have h1 : i < a.length := by omega
    have h2 : i < b.length := by omega
    rw [drop_cons a i h1, drop_cons b i h2]
    by_cases e : a[i] = b[i]
    · have hr : decide (a[i] :: a.drop (i + 1) = b[i] :: b.drop (i + 1)) = decide (a.drop (i + 1) = b.drop (i + 1)) := by simp only [List.cons.injEq, e, true_and]
      rw [hr]
      exact Ev.by (ih (i + 1) (by omega) (by omega)) fun k => by
        simp only [spinnakerref01_Ints.l0]
        rw [if_pos (by omega), if_pos (by omega), if_pos (by omega), if_pos (by rw [rd_nat _ _ h1, rd_nat _ _ h2]; exact e), wrap_succ i (by omega)]
    · have hr : decide (a[i] :: a.drop (i + 1) = b[i] :: b.drop (i + 1)) = false := by simp only [List.cons.injEq, e, false_and, decide_false]
      rw [hr]
      exact Ev.end_ fun k => by
        simp only [spinnakerref01_Ints.l0]
        rw [if_pos (by omega), if_pos (by omega), if_pos (by omega), if_neg (by rw [rd_nat _ _ h1, rd_nat _ _ h2]; exact e)]
theorem ints_ev (a b : List Int) (hm : a.length ≤ 4611686018427387904) : Ev (fun k => spinnakerref01_Ints.f k a b) (decide (a = b)) := by
  unfold spinnakerref01_Ints.f
  by_cases h : a.length = b.length
  · refine Ev.if_pos (by omega) ?_
    have := ints_l0 a b h hm a.length 0 (by omega) (by omega)
    simpa using this
  · refine Ev.if_neg (by omega) ?_
    have : decide (a = b) = false := by simp; intro e; exact h (by rw [e])
    rw [this]
    exact Ev.now _

/-- The greatest of two lists, cell by cell; what one lacks is the other's. -/
def jn : List Int → List Int → List Int
  | [], v => v
  | x, [] => x
  | a :: x, b :: v => mx a b :: jn x v
theorem jn_nil (x : List Int) : jn x [] = x := by cases x <;> rfl
theorem jn_nil_left (x : List Int) : jn [] x = x := by cases x <;> rfl
theorem jn_len (x v : List Int) : (jn x v).length = max x.length v.length := by
  induction x generalizing v with
  | nil => simp [jn_nil_left]
  | cons a x ih =>
    cases v with
    | nil => simp [jn_nil]
    | cons b v => simp only [jn, List.length_cons, ih]; omega
theorem jn_take (x v : List Int) (i : Nat) (h : i < v.length) :
    jn x (v.take (i + 1)) = if i = (jn x (v.take i)).length then jn x (v.take i) ++ [v[i]] else (jn x (v.take i)).set i (mx ((jn x (v.take i)).getD i 0) v[i]) := by
  induction x generalizing v i with
  | nil =>
    rw [jn_nil_left, jn_nil_left, if_pos (by simp; omega)]
    rw [List.take_succ_eq_append_getElem h]
  | cons a x ih =>
    cases v with
    | nil => simp at h
    | cons b v =>
      cases i with
      | zero => simp [jn, jn_nil]
      | succ i =>
        have h' : i < v.length := by simpa using h
        simp only [List.take_succ_cons, jn, List.getElem_cons_succ]
        rw [ih v i h']
        by_cases e : i = (jn x (v.take i)).length
        · rw [if_pos e, if_pos (by simp [← e])]
          rfl
        · rw [if_neg e, if_neg (by simp; exact e)]
          simp
theorem jn_take_len (x v : List Int) (i : Nat) (h : i ≤ v.length) : i ≤ (jn x (v.take i)).length := by rw [jn_len]; simp; omega
/-- All lists of ls, joined to x. -/
def jns (x : List Int) (ls : List (List Int)) : List Int := ls.foldl jn x
def small (ls : List (List Int)) : Prop := ∀ v ∈ ls, v.length ≤ 1000000
theorem rd_L1_nat (ls : List (List Int)) (i : Nat) (h : i < ls.length) : rd_L1 ls (i : Int) = ls[i] := by simp [rd_L1, h]
theorem join_in (ls : List (List Int)) (hl : ls.length ≤ 1000) (n : Nat) (hn : n < ls.length) (hs : ls[n].length ≤ 1000000) (x : List Int) (hx : x.length ≤ 1000000) (r : List Int)
    (hnext : Ev (fun k => view_Join.l0 k (jn x ls[n]) ls (ls.length : Int) ((n + 1 : Nat) : Int)) r) : ∀ d i, i ≤ ls[n].length → ls[n].length - i = d →
    Ev (fun k => view_Join.l1 k (jn x (ls[n].take i)) ls (ls.length : Int) (n : Int) ls[n] (ls[n].length : Int) (i : Int)) r := by
  intro d
  induction d with
  | zero =>
    intro i hi hd
    have e : ls[n].take i = ls[n] := List.take_of_length_le (by omega)
    rw [e]
    exact Ev.by hnext fun k => by simp only [view_Join.l1]; rw [if_neg (by omega), wrap_succ n (by omega)]
  | succ d ih =>
    intro i hi hd
    have h1 : i < ls[n].length := by omega
    have hle := jn_take_len x ls[n] i (by omega)
    have hlen := jn_len x (ls[n].take i)
    have htl : (ls[n].take i).length = i := by rw [List.length_take]; omega
    have hst := jn_take x ls[n] i h1
    refine Ev.by (ih (i + 1) (by omega) (by omega)) fun k => ?_
    simp only [view_Join.l1]
    rw [if_pos (by omega), if_pos (by omega), if_pos (by omega), wrap_succ i (by omega), rd_nat _ _ h1]
    by_cases e : i = (jn x (ls[n].take i)).length
    · rw [if_pos e] at hst
      rw [if_pos (by omega), if_pos (by omega)]
      simp only [Option.bind_some]
      rw [if_pos (by simp; omega)]
      have hset : (jn x (ls[n].take i) ++ [ls[n][i]]).set ((i : Int)).toNat (mx (rd (jn x (ls[n].take i) ++ [ls[n][i]]) (i : Int)) ls[n][i]) = jn x (ls[n].take i) ++ [ls[n][i]] := by
        have hr : rd (jn x (ls[n].take i) ++ [ls[n][i]]) (i : Int) = ls[n][i] := by
          rw [rd_nat _ _ (by simp; omega), List.getElem_append_right (by omega)]; simp [← e]
        rw [hr, mx_self, Int.toNat_natCast, List.set_append_right _ _ (by omega)]
        simp [← e]
      rw [hset, hst]
    · rw [if_neg e] at hst
      rw [if_neg (by omega), if_pos (by omega), rd_getD, Int.toNat_natCast, hst]
theorem join_out (ls : List (List Int)) (hl : ls.length ≤ 1000) (hs : small ls) : ∀ d n (x : List Int), x.length ≤ 1000000 → n ≤ ls.length → ls.length - n = d →
    Ev (fun k => view_Join.l0 k x ls (ls.length : Int) (n : Int)) (jns x (ls.drop n)) := by
  intro d
  induction d with
  | zero =>
    intro n x hx hn hd
    rw [List.drop_eq_nil_of_le (by omega)]
    exact Ev.end_ fun k => by simp only [view_Join.l0]; rw [if_neg (by omega)]; rfl
  | succ d ih =>
    intro n x hx hn hd
    have h1 : n < ls.length := by omega
    have hln := hs ls[n] (List.getElem_mem h1)
    rw [drop_cons ls n h1]
    have hnext := ih (n + 1) (jn x ls[n]) (by rw [jn_len]; omega) (by omega) (by omega)
    have := join_in ls hl n h1 hln x hx _ hnext ls[n].length 0 (by omega) (by omega)
    rw [List.take_zero, jn_nil] at this
    exact Ev.by this fun k => by
      simp only [view_Join.l0]
      rw [if_pos (by omega), if_pos (by omega), if_pos (by omega), rd_L1_nat _ _ h1]
      rfl
theorem join_ev (ls : List (List Int)) (hl : ls.length ≤ 1000) (hs : small ls) : Ev (fun k => view_Join.f k ls) (jns [] ls) := by
  have := join_out ls hl hs ls.length 0 [] (by simp) (by omega) (by omega)
  simpa [view_Join.f] using this
/-- One list is at most another one, cell by cell. -/
def le2 : List Int → List Int → Bool
  | [], [] => true
  | a :: x, b :: y => decide (a ≤ b) && le2 x y
  | _, _ => false
theorem le2_len {a b : List Int} (h : a.length ≠ b.length) : le2 a b = false := by
  induction a generalizing b with
  | nil => cases b with
    | nil => exact absurd rfl h
    | cons b y => rfl
  | cons a x ih => cases b with
    | nil => rfl
    | cons b y => simp only [le2]; rw [ih (by simpa using h)]; simp
theorem atMost_l0 (a b : List Int) (h : a.length = b.length) (hm : a.length ≤ 4611686018427387904) : ∀ d i, i ≤ a.length → a.length - i = d →
    Ev (fun k => view_AtMost.l0 k b a (a.length : Int) (i : Int)) (le2 (a.drop i) (b.drop i)) := by
  intro d
  induction d with
  | zero =>
    intro i hi hd
    rw [List.drop_eq_nil_of_le (show a.length ≤ i by omega), List.drop_eq_nil_of_le (show b.length ≤ i by omega)]
    exact Ev.end_ fun k => by simp only [view_AtMost.l0]; rw [if_neg (by omega)]; rfl
  | succ d ih =>
    intro i hi hd
    have h1 : i < a.length := by omega
    have h2 : i < b.length := by omega
    rw [drop_cons a i h1, drop_cons b i h2]
    simp only [le2]
    by_cases e : a[i] ≤ b[i]
    · rw [decide_eq_true e, Bool.true_and]
      exact Ev.by (ih (i + 1) (by omega) (by omega)) fun k => by
        simp only [view_AtMost.l0]
        rw [if_pos (by omega), if_pos (by omega), if_pos (by omega), if_pos (by omega), if_neg (by rw [rd_nat _ _ h1, rd_nat _ _ h2]; omega), wrap_succ i (by omega)]
    · rw [decide_eq_false e, Bool.false_and]
      exact Ev.end_ fun k => by
        simp only [view_AtMost.l0]
        rw [if_pos (by omega), if_pos (by omega), if_pos (by omega), if_pos (by omega), if_pos (by rw [rd_nat _ _ h1, rd_nat _ _ h2]; omega)]
theorem atMost_ev (a b : List Int) (hm : a.length ≤ 4611686018427387904) : Ev (fun k => view_AtMost.f k a b) (le2 a b) := by
  unfold view_AtMost.f
  by_cases h : a.length = b.length
  · refine Ev.if_pos (by omega) ?_
    have := atMost_l0 a b h hm a.length 0 (by omega) (by omega)
    simpa using this
  · refine Ev.if_neg (by omega) ?_
    rw [le2_len h]
    exact Ev.now _
theorem awake29_ev : Ev (fun k => spinnakerlaw29_awake.f k) true := by
  unfold spinnakerlaw29_awake.f
  refine Ev.bind (join_ev [[1, 0], [0, 2]] (by simp) (by intro v hv; simp at hv; rcases hv with rfl | rfl <;> simp)) ?_
  refine Ev.bind (ints_ev (jns [] [[1, 0], [0, 2]]) [1, 2] (by decide)) ?_
  refine Ev.if_pos (by decide) ?_
  exact Ev.bind (atMost_ev [1] [1] (by simp)) (Ev.now _)

theorem refAtMost_l0 (a b : List Int) (h : a.length = b.length) (hm : a.length ≤ 4611686018427387904) : ∀ d i, i ≤ a.length → a.length - i = d →
    Ev (fun k => spinnakerref29_AtMost.l0 k a b (i : Int)) (le2 (a.drop i) (b.drop i)) := by
  intro d
  induction d with
  | zero =>
    intro i hi hd
    rw [List.drop_eq_nil_of_le (show a.length ≤ i by omega), List.drop_eq_nil_of_le (show b.length ≤ i by omega)]
    exact Ev.end_ fun k => by simp only [spinnakerref29_AtMost.l0]; rw [if_neg (by omega)]; rfl
  | succ d ih =>
    intro i hi hd
    have h1 : i < a.length := by omega
    have h2 : i < b.length := by omega
    rw [drop_cons a i h1, drop_cons b i h2]
    simp only [le2]
    by_cases e : a[i] ≤ b[i]
    · rw [decide_eq_true e, Bool.true_and]
      exact Ev.by (ih (i + 1) (by omega) (by omega)) fun k => by
        simp only [spinnakerref29_AtMost.l0]
        rw [if_pos (by omega), if_pos (by omega), if_pos (by omega), if_neg (by rw [rd_nat _ _ h1, rd_nat _ _ h2]; omega), wrap_succ i (by omega)]
    · rw [decide_eq_false e, Bool.false_and]
      exact Ev.end_ fun k => by
        simp only [spinnakerref29_AtMost.l0]
        rw [if_pos (by omega), if_pos (by omega), if_pos (by omega), if_pos (by rw [rd_nat _ _ h1, rd_nat _ _ h2]; omega)]
theorem refAtMost_ev (a b : List Int) (hm : a.length ≤ 4611686018427387904) : Ev (fun k => spinnakerref29_AtMost.f k a b) (le2 a b) := by
  unfold spinnakerref29_AtMost.f
  by_cases h : a.length = b.length
  · refine Ev.if_pos (by omega) ?_
    have := refAtMost_l0 a b h hm a.length 0 (by omega) (by omega)
    simpa using this
  · refine Ev.if_neg (by omega) ?_
    rw [le2_len h]
    exact Ev.now _

theorem le2_left (a b : List Int) (h : a.length = b.length) : le2 a (jn a b) = true := by
  induction a generalizing b with
  | nil => cases b with
    | nil => rfl
    | cons b y => simp at h
  | cons a x ih => cases b with
    | nil => simp at h
    | cons b y => simp only [jn, le2]; rw [ih y (by simpa using h)]; unfold mx; split <;> simp <;> omega
theorem le2_right (a b : List Int) (h : a.length = b.length) : le2 b (jn a b) = true := by
  induction a generalizing b with
  | nil => cases b with
    | nil => rfl
    | cons b y => simp at h
  | cons a x ih => cases b with
    | nil => simp at h
    | cons b y => simp only [jn, le2]; rw [ih y (by simpa using h)]; unfold mx; split <;> simp <;> omega
theorem le2_join (a b c : List Int) (h : a.length = b.length) : le2 (jn a b) c = (le2 a c && le2 b c) := by
  induction a generalizing b c with
  | nil => cases b with
    | nil => cases c <;> rfl
    | cons b y => simp at h
  | cons a x ih => cases b with
    | nil => simp at h
    | cons b y => cases c with
      | nil => rfl
      | cons c z =>
        simp only [jn, le2]
        rw [ih y z (by simpa using h)]
        have : decide (mx a b ≤ c) = (decide (a ≤ c) && decide (b ≤ c)) := by
          unfold mx
          rw [Bool.eq_iff_iff]
          split <;> simp <;> omega
        rw [this]
        cases decide (a ≤ c) <;> cases decide (b ≤ c) <;> cases le2 x z <;> cases le2 y z <;> rfl
theorem jn_same (a : List Int) : jn a a = a := by
  induction a with
  | nil => rfl
  | cons a x ih => simp only [jn, mx_self, ih]
theorem least_in (a b c : List Int) (ha : a.length ≤ 500) (hb : a.length = b.length) (hc : a.length = c.length) : Ev (fun k => spinnakerlaw29_ViewLeast.j0 k a b c false) true := by
  refine Ev.step (fun k => spinnakerlaw29_ViewLeast.j0.eq_2 a b c false k) ?_
  refine Ev.if_neg (by decide) ?_
  have hj : jns [] [a, b] = jn a b := by simp [jns, jn_nil_left]
  have hjl := jn_len a b
  refine Ev.bind (join_ev [a, b] (by simp) (by intro v hv; simp at hv; rcases hv with rfl | rfl <;> omega)) ?_
  rw [hj]
  refine Ev.bind (atMost_ev a _ (by omega)) ?_
  refine Ev.if_pos (le2_left a b hb) ?_
  refine Ev.bind (atMost_ev b _ (by omega)) ?_
  refine Ev.if_pos (le2_right a b hb) ?_
  refine Ev.bind (atMost_ev _ c (by omega)) ?_
  rw [le2_join a b c hb]
  refine Ev.bind (refAtMost_ev a c (by omega)) ?_
  have hlast : Ev (fun k => ((view_Join.f k (([a, a] : List (List Int)))).bind fun t154 => ((spinnakerref01_Ints.f k t154 a).bind fun t157 => (if t157 = true then ((spinnakerlaw29_awake.f k).bind fun t158 => (some t158)) else (some false))))) true := by
    refine Ev.bind (join_ev [a, a] (by simp) (by intro v hv; simp at hv; subst hv; omega)) ?_
    have : jns [] [a, a] = a := by simp [jns, jn_nil_left, jn_same]
    rw [this]
    refine Ev.bind (ints_ev a a (by omega)) ?_
    refine Ev.if_pos (by simp) ?_
    exact Ev.bind awake29_ev (Ev.now _)
  cases h1 : le2 a c with
  | true =>
    refine Ev.if_pos rfl ?_
    refine Ev.bind (refAtMost_ev b c (by omega)) ?_
    refine Ev.if_pos (by simp) ?_
    exact hlast
  | false =>
    refine Ev.if_neg (by decide) ?_
    refine Ev.if_pos (by simp) ?_
    exact hlast
theorem least_out (a b c : List Int) : Ev (fun k => spinnakerlaw29_ViewLeast.j0 k a b c true) true := by
  refine Ev.step (fun k => spinnakerlaw29_ViewLeast.j0.eq_2 a b c true k) ?_
  refine Ev.if_pos rfl ?_
  exact Ev.bind awake29_ev (Ev.now _)
theorem ViewLeast : spinnakerlaw29_ViewLeast.Pure := by
  intro a b c _ _ _ _ _ _ _ _ _
  apply Ev.rounds
  unfold spinnakerlaw29_ViewLeast.f
  by_cases h0 : (a.length : Int) > 500
  · exact Ev.if_pos h0 (least_out a b c)
  refine Ev.if_neg h0 ?_
  by_cases h1 : (a.length : Int) = b.length
  · refine Ev.if_pos h1 ?_
    by_cases h2 : (a.length : Int) = c.length
    · have : ((a.length : Int) != c.length) = false := by simp [h2]
      rw [this]
      exact least_in a b c (by omega) (by omega) (by omega)
    · have : ((a.length : Int) != c.length) = true := by simp [h2]
      rw [this]
      exact least_out a b c
  · exact Ev.if_neg h1 (least_out a b c)

end Go.Proofs.Ytdnphnicdhcafaa.Pure
