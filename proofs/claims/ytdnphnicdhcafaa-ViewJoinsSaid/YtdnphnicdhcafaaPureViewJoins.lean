/- Join of any lists of numbers is the document's, and AtMost tells the same as the document's. For every three lists of 64 bit numbers. -/
import Derived.Test.YtdnphnicdhcafaaPViewJoinsx2
namespace Go.Proofs.Ytdnphnicdhcafaa.Pure
open Go.RowKit Go.Proofs.Ytdnphnicdhcafaa.PViewJoins Go.Proofs.YtdnphnicdhcafaaW.PrintWords Go.Proofs.YtdnphnicdhcafaaW.PrintLast Go.Proofs.YtdnphnicdhcafaaW.PrintMore

set_option linter.unusedVariables false
set_option linter.unusedSimpArgs false
theorem rd_nat (xs : List Int) (i : Nat) (h : i < xs.length) : rd xs (i : Int) = xs[i] := by
  simp [rd, h]
theorem rd_getD (xs : List Int) (i : Nat) : rd xs (i : Int) = xs.getD i 0 := by simp [rd]
theorem wrap_succ (i : Nat) (h : i ≤ 4611686018427387904) : wrap64 ((i : Int) + 1) = ((i + 1 : Nat) : Int) := by
  unfold wrap64
  omega
theorem mx_self (a : Int) : mx a a = a := by unfold mx; split <;> rfl
/-- One round: by an equation for every number of rounds. -/
theorem Ev.by {α : Type} {g f : Nat → Option α} {r : α} (k : Ev f r) (h : ∀ k, g (k + 1) = f k) : Ev g r := Ev.step h k
theorem Ev.end_ {α : Type} {g : Nat → Option α} {r : α} (h : ∀ k, g (k + 1) = some r) : Ev g r := Ev.step (f := fun _ => some r) h (Ev.now r)
theorem Ev.if_pos {α : Type} {c : Prop} [Decidable c] {g f : Nat → Option α} {r : α} (hc : c) (h : Ev g r) : Ev (fun k => if c then g k else f k) r := by
  exact Ev.congr (fun _ => _root_.if_pos hc) h
theorem Ev.if_neg {α : Type} {c : Prop} [Decidable c] {g f : Nat → Option α} {r : α} (hc : ¬ c) (h : Ev f r) : Ev (fun k => if c then g k else f k) r := by
  exact Ev.congr (fun _ => _root_.if_neg hc) h
theorem drop_cons {α : Type} (l : List α) (i : Nat) (h : i < l.length) : l.drop i = l[i] :: l.drop (i + 1) := List.drop_eq_getElem_cons h

theorem ints_l0 (a b : List Int) (h : a.length = b.length) (hm : a.length ≤ 4611686018427387904) : ∀ d i, i ≤ a.length → a.length - i = d →
    Ev (fun k => spinnakerref01_Ints.l0 k a b (i : Int)) (decide (a.drop i = b.drop i)) := by
  intro d
  induction d with
  | zero =>
    intro i hi hd
    rw [List.drop_eq_nil_of_le (show a.length ≤ i by omega), List.drop_eq_nil_of_le (show b.length ≤ i by omega)]
    exact Ev.end_ fun k => by simp only [spinnakerref01_Ints.l0]; rw [if_neg (by omega)]; rfl
  | succ d ih =>
    intro i hi hd
    have h1 : i < a.length := by omega
    have h2 : i < b.length := by omega
    rw [drop_cons a i h1, drop_cons b i h2]
    by_cases e : a[i] = b[i]
    · have hr : decide (a[i] :: a.drop (i + 1) = b[i] :: b.drop (i + 1)) = decide (a.drop (i + 1) = b.drop (i + 1)) := by simp only [List.cons.injEq, e, true_and]
      rw [hr]
      exact Ev.by (ih (i + 1) (by omega) (by omega)) fun k => by
        simp only [spinnakerref01_Ints.l0]
        rw [if_pos (by omega), if_pos (by omega), if_pos (by omega), if_pos (by rw [rd_nat _ _ h1, rd_nat _ _ h2]; exact e), wrap_succ i (by omega)]
    · have hr : decide (a[i] :: a.drop (i + 1) = b[i] :: b.drop (i + 1)) = false := by simp only [List.cons.injEq, e, false_and, decide_false]
      rw [hr]
      exact Ev.end_ fun k => by
        simp only [spinnakerref01_Ints.l0]
        rw [if_pos (by omega), if_pos (by omega), if_pos (by omega), if_neg (by rw [rd_nat _ _ h1, rd_nat _ _ h2]; exact e)]
theorem ints_ev (a b : List Int) (hm : a.length ≤ 4611686018427387904) : Ev (fun k => spinnakerref01_Ints.f k a b) (decide (a = b)) := by
  unfold spinnakerref01_Ints.f
  by_cases h : a.length = b.length
  · refine Ev.if_pos (by omega) ?_
    have := ints_l0 a b h hm a.length 0 (by omega) (by omega)
    simpa using this
  · refine Ev.if_neg (by omega) ?_
    have : decide (a = b) = false := by simp; intro e; exact h (by rw [e])
    rw [this]
    exact Ev.now _

/-- The greatest of two lists, cell by cell; what one lacks is the other's. -/
def jn : List Int → List Int → List Int
  | [], v => v
  | x, [] => x
  | a :: x, b :: v => mx a b :: jn x v
theorem jn_nil (x : List Int) : jn x [] = x := by cases x <;> rfl
theorem jn_nil_left (x : List Int) : jn [] x = x := by cases x <;> rfl
theorem jn_len (x v : List Int) : (jn x v).length = max x.length v.length := by
  induction x generalizing v with
  | nil => simp [jn_nil_left]
  | cons a x ih =>
    cases v with
    | nil => simp [jn_nil]
    | cons b v => simp only [jn, List.length_cons, ih]; omega
theorem jn_take (x v : List Int) (i : Nat) (h : i < v.length) :
    jn x (v.take (i + 1)) = if i = (jn x (v.take i)).length then jn x (v.take i) ++ [v[i]] else (jn x (v.take i)).set i (mx ((jn x (v.take i)).getD i 0) v[i]) := by
  induction x generalizing v i with
  | nil =>
    rw [jn_nil_left, jn_nil_left, if_pos (by simp; omega)]
    rw [List.take_succ_eq_append_getElem h]
  | cons a x ih =>
    cases v with
    | nil => simp at h
    | cons b v =>
      cases i with
      | zero => simp [jn, jn_nil]
      | succ i =>
        have h' : i < v.length := by simpa using h
        simp only [List.take_succ_cons, jn, List.getElem_cons_succ]
        rw [ih v i h']
        by_cases e : i = (jn x (v.take i)).length
        · rw [if_pos e, if_pos (by simp [← e])]
          rfl
        · rw [if_neg e, if_neg (by simp; exact e)]
          simp
theorem jn_take_len (x v : List Int) (i : Nat) (h : i ≤ v.length) : i ≤ (jn x (v.take i)).length := by rw [jn_len]; simp; omega
/-- All lists of ls, joined to x. -/
def jns (x : List Int) (ls : List (List Int)) : List Int := ls.foldl jn x
def small (ls : List (List Int)) : Prop := ∀ v ∈ ls, v.length ≤ 1000000
theorem rd_L1_nat (ls : List (List Int)) (i : Nat) (h : i < ls.length) : rd_L1 ls (i : Int) = ls[i] := by simp [rd_L1, h]
theorem join_in (ls : List (List Int)) (hl : ls.length ≤ 1000) (n : Nat) (hn : n < ls.length) (hs : ls[n].length ≤ 1000000) (x : List Int) (hx : x.length ≤ 1000000) (r : List Int)
    (hnext : Ev (fun k => view_Join.l0 k (jn x ls[n]) ls (ls.length : Int) ((n + 1 : Nat) : Int)) r) : ∀ d i, i ≤ ls[n].length → ls[n].length - i = d →
    Ev (fun k => view_Join.l1 k (jn x (ls[n].take i)) ls (ls.length : Int) (n : Int) ls[n] (ls[n].length : Int) (i : Int)) r := by
  intro d
  induction d with
  | zero =>
    intro i hi hd
    have e : ls[n].take i = ls[n] := List.take_of_length_le (by omega)
    rw [e]
    exact Ev.by hnext fun k => by simp only [view_Join.l1]; rw [if_neg (by omega), wrap_succ n (by omega)]
  | succ d ih =>
    intro i hi hd
    have h1 : i < ls[n].length := by omega
    have hle := jn_take_len x ls[n] i (by omega)
    have hlen := jn_len x (ls[n].take i)
    have htl : (ls[n].take i).length = i := by rw [List.length_take]; omega
    have hst := jn_take x ls[n] i h1
    refine Ev.by (ih (i + 1) (by omega) (by omega)) fun k => ?_
    simp only [view_Join.l1]
    rw [if_pos (by omega), if_pos (by omega), if_pos (by omega), wrap_succ i (by omega), rd_nat _ _ h1]
    by_cases e : i = (jn x (ls[n].take i)).length
    · rw [if_pos e] at hst
      rw [if_pos (by omega), if_pos (by omega)]
      simp only [Option.bind_some]
      rw [if_pos (by simp; omega)]
      have hset : (jn x (ls[n].take i) ++ [ls[n][i]]).set ((i : Int)).toNat (mx (rd (jn x (ls[n].take i) ++ [ls[n][i]]) (i : Int)) ls[n][i]) = jn x (ls[n].take i) ++ [ls[n][i]] := by
        have hr : rd (jn x (ls[n].take i) ++ [ls[n][i]]) (i : Int) = ls[n][i] := by
          rw [rd_nat _ _ (by simp; omega), List.getElem_append_right (by omega)]; simp [← e]
        rw [hr, mx_self, Int.toNat_natCast, List.set_append_right _ _ (by omega)]
        simp [← e]
      rw [hset, hst]
    · rw [if_neg e] at hst
      rw [if_neg (by omega), if_pos (by omega), rd_getD, Int.toNat_natCast, hst]
theorem join_out (ls : List (List Int)) (hl : ls.length ≤ 1000) (hs : small ls) : ∀ d n (x : List Int), x.length ≤ 1000000 → n ≤ ls.length → ls.length - n = d →
    Ev (fun k => view_Join.l0 k x ls (ls.length : Int) (n : Int)) (jns x (ls.drop n)) := by
  intro d
  induction d with
  | zero =>
    intro n x hx hn hd
    rw [List.drop_eq_nil_of_le (by omega)]
    exact Ev.end_ fun k => by simp only [view_Join.l0]; rw [if_neg (by omega)]; rfl
  | succ d ih =>
    intro n x hx hn hd
    have h1 : n < ls.length := by omega
    have hln := hs ls[n] (List.getElem_mem h1)
    rw [drop_cons ls n h1]
    have hnext := ih (n + 1) (jn x ls[n]) (by rw [jn_len]; omega) (by omega) (by omega)
    have := join_in ls hl n h1 hln x hx _ hnext ls[n].length 0 (by omega) (by omega)
    rw [List.take_zero, jn_nil] at this
    exact Ev.by this fun k => by
      simp only [view_Join.l0]
      rw [if_pos (by omega), if_pos (by omega), if_pos (by omega), rd_L1_nat _ _ h1]
      rfl
theorem join_ev (ls : List (List Int)) (hl : ls.length ≤ 1000) (hs : small ls) : Ev (fun k => view_Join.f k ls) (jns [] ls) := by
  have := join_out ls hl hs ls.length 0 [] (by simp) (by omega) (by omega)
  simpa [view_Join.f] using this
/-- One list is at most another one, cell by cell. -/
def le2 : List Int → List Int → Bool
  | [], [] => true
  | a :: x, b :: y => decide (a ≤ b) && le2 x y
  | _, _ => false
theorem le2_len {a b : List Int} (h : a.length ≠ b.length) : le2 a b = false := by
  induction a generalizing b with
  | nil => cases b with
    | nil => exact absurd rfl h
    | cons b y => rfl
  | cons a x ih => cases b with
    | nil => rfl
    | cons b y => simp only [le2]; rw [ih (by simpa using h)]; simp
theorem atMost_l0 (a b : List Int) (h : a.length = b.length) (hm : a.length ≤ 4611686018427387904) : ∀ d i, i ≤ a.length → a.length - i = d →
    Ev (fun k => view_AtMost.l0 k b a (a.length : Int) (i : Int)) (le2 (a.drop i) (b.drop i)) := by
  intro d
  induction d with
  | zero =>
    intro i hi hd
    rw [List.drop_eq_nil_of_le (show a.length ≤ i by omega), List.drop_eq_nil_of_le (show b.length ≤ i by omega)]
    exact Ev.end_ fun k => by simp only [view_AtMost.l0]; rw [if_neg (by omega)]; rfl
  | succ d ih =>
    intro i hi hd
    have h1 : i < a.length := by omega
    have h2 : i < b.length := by omega
    rw [drop_cons a i h1, drop_cons b i h2]
    simp only [le2]
    by_cases e : a[i] ≤ b[i]
    · rw [decide_eq_true e, Bool.true_and]
      exact Ev.by (ih (i + 1) (by omega) (by omega)) fun k => by
        simp only [view_AtMost.l0]
        rw [if_pos (by omega), if_pos (by omega), if_pos (by omega), if_pos (by omega), if_neg (by rw [rd_nat _ _ h1, rd_nat _ _ h2]; omega), wrap_succ i (by omega)]
    · rw [decide_eq_false e, Bool.false_and]
      exact Ev.end_ fun k => by
        simp only [view_AtMost.l0]
        rw [if_pos (by omega), if_pos (by omega), if_pos (by omega), if_pos (by omega), if_pos (by rw [rd_nat _ _ h1, rd_nat _ _ h2]; omega)]
theorem atMost_ev (a b : List Int) (hm : a.length ≤ 4611686018427387904) : Ev (fun k => view_AtMost.f k a b) (le2 a b) := by
  unfold view_AtMost.f
  by_cases h : a.length = b.length
  · refine Ev.if_pos (by omega) ?_
    have := atMost_l0 a b h hm a.length 0 (by omega) (by omega)
    simpa using this
  · refine Ev.if_neg (by omega) ?_
    rw [le2_len h]
    exact Ev.now _
theorem awake29_ev : Ev (fun k => spinnakerlaw29_awake.f k) true := by
  unfold spinnakerlaw29_awake.f
  refine Ev.bind (join_ev [[1, 0], [0, 2]] (by simp) (by intro v hv; simp at hv; rcases hv with rfl | rfl <;> simp)) ?_
  refine Ev.bind (ints_ev (jns [] [[1, 0], [0, 2]]) [1, 2] (by decide)) ?_
  refine Ev.if_pos (by decide) ?_
  exact Ev.bind (atMost_ev [1] [1] (by simp)) (Ev.now _)

theorem refAtMost_l0 (a b : List Int) (h : a.length = b.length) (hm : a.length ≤ 4611686018427387904) : ∀ d i, i ≤ a.length → a.length - i = d →
    Ev (fun k => spinnakerref29_AtMost.l0 k a b (i : Int)) (le2 (a.drop i) (b.drop i)) := by
  intro d
  induction d with
  | zero =>
    intro i hi hd
    rw [List.drop_eq_nil_of_le (show a.length ≤ i by omega), List.drop_eq_nil_of_le (show b.length ≤ i by omega)]
    exact Ev.end_ fun k => by simp only [spinnakerref29_AtMost.l0]; rw [if_neg (by omega)]; rfl
  | succ d ih =>
    intro i hi hd
    have h1 : i < a.length := by omega
    have h2 : i < b.length := by omega
    rw [drop_cons a i h1, drop_cons b i h2]
    simp only [le2]
    by_cases e : a[i] ≤ b[i]
    · rw [decide_eq_true e, Bool.true_and]
      exact Ev.by (ih (i + 1) (by omega) (by omega)) fun k => by
        simp only [spinnakerref29_AtMost.l0]
        rw [if_pos (by omega), if_pos (by omega), if_pos (by omega), if_neg (by rw [rd_nat _ _ h1, rd_nat _ _ h2]; omega), wrap_succ i (by omega)]
    · rw [decide_eq_false e, Bool.false_and]
      exact Ev.end_ fun k => by
        simp only [spinnakerref29_AtMost.l0]
        rw [if_pos (by omega), if_pos (by omega), if_pos (by omega), if_pos (by rw [rd_nat _ _ h1, rd_nat _ _ h2]; omega)]
theorem refAtMost_ev (a b : List Int) (hm : a.length ≤ 4611686018427387904) : Ev (fun k => spinnakerref29_AtMost.f k a b) (le2 a b) := by
  unfold spinnakerref29_AtMost.f
  by_cases h : a.length = b.length
  · refine Ev.if_pos (by omega) ?_
    have := refAtMost_l0 a b h hm a.length 0 (by omega) (by omega)
    simpa using this
  · refine Ev.if_neg (by omega) ?_
    rw [le2_len h]
    exact Ev.now _

theorem jn_take_len2 (x v : List Int) (i : Nat) (h1 : i ≤ max x.length v.length) : (jn x v).take i = (jn (x.take i) (v.take i)) := by
  induction x generalizing v i with
  | nil => simp [jn_nil_left]
  | cons a x ih =>
    cases v with
    | nil => simp [jn_nil]
    | cons b v =>
      cases i with
      | zero => simp [jn]
      | succ i => simp only [jn, List.take_succ_cons]; rw [ih v i (by simp at h1; omega)]
/-- What the document's join lays at a place. -/
def at2 (a b : List Int) (i : Nat) : Int := if a.length ≤ i then b.getD i 0 else if b.length ≤ i then a.getD i 0 else if a.getD i 0 > b.getD i 0 then a.getD i 0 else b.getD i 0
theorem jn_at (a b : List Int) (i : Nat) (h : i < max a.length b.length) : (jn a b)[i]? = some (at2 a b i) := by
  induction a generalizing b i with
  | nil => 
    rw [jn_nil_left]
    have : i < b.length := by simpa using h
    simp [at2, this]
  | cons x a ih =>
    cases b with
    | nil =>
      rw [jn_nil]
      have : i < (x :: a).length := by simpa using h
      have h3 : ¬ (x :: a).length ≤ i := by omega
      unfold at2
      rw [if_neg h3, if_pos (by simp), List.getElem?_eq_getElem this, List.getD_eq_getElem?_getD, List.getElem?_eq_getElem this]
      rfl
    | cons y b =>
      cases i with
      | zero =>
        simp only [jn, at2, mx]
        simp
        by_cases e : x < y
        · rw [if_pos e, if_neg (by omega)]
        · rw [if_neg e]
          by_cases e2 : y < x
          · rw [if_pos e2]
          · rw [if_neg e2]; omega
      | succ i =>
        simp only [jn, List.getElem?_cons_succ]
        rw [ih b i (by simp at h; omega)]
        simp [at2]
/-- The list under way: the first i places are laid. -/
def under (a b : List Int) (n i : Nat) : List Int := (List.range n).map fun j => if j < i then at2 a b j else 0
theorem under_len (a b : List Int) (n i : Nat) : (under a b n i).length = n := by simp [under]
theorem under_set (a b : List Int) (n i : Nat) (h : i < n) : (under a b n i).set i (at2 a b i) = under a b n (i + 1) := by
  apply List.ext_getElem?
  intro j
  rw [List.getElem?_set]
  by_cases e : i = j
  · subst e
    rw [if_pos rfl, if_pos (by rw [under_len]; exact h)]
    simp [under, h]
  · rw [if_neg e]
    by_cases hj : j < n
    · have : (j < i) ↔ (j < i + 1) := by omega
      simp [under, hj, this]
    · simp [under, hj]
theorem under_zero (a b : List Int) (n : Nat) : under a b n 0 = List.replicate n 0 := by
  apply List.ext_getElem?
  intro j
  by_cases hj : j < n <;> simp [under, hj]
theorem under_all (a b : List Int) : under a b (max a.length b.length) (max a.length b.length) = jn a b := by
  apply List.ext_getElem?
  intro j
  by_cases hj : j < max a.length b.length
  · rw [jn_at a b j hj]
    simp only [under, List.getElem?_map, List.getElem?_range hj, Option.map_some]
    rw [if_pos hj]
  · rw [List.getElem?_eq_none (by rw [under_len]; omega), List.getElem?_eq_none (by rw [jn_len]; omega)]
theorem refJoin_l0 (a b : List Int) (n : Nat) (hn : n = max a.length b.length) (hs : n ≤ 1000000) : ∀ d i, i ≤ n → n - i = d →
    Ev (fun k => spinnakerref29_Join.l0 k a b (n : Int) (under a b n i) (i : Int)) (jn a b) := by
  intro d
  induction d with
  | zero =>
    intro i hi hd
    have : i = n := by omega
    rw [this, hn, under_all]
    exact Ev.end_ fun k => by simp only [spinnakerref29_Join.l0]; rw [if_neg (by omega)]
  | succ d ih =>
    intro i hi hd
    have h1 : i < n := by omega
    have hl := under_len a b n i
    refine Ev.by (ih (i + 1) (by omega) (by omega)) fun k => ?_
    rw [← under_set a b n i h1]
    simp only [spinnakerref29_Join.l0]
    rw [if_pos (by omega), wrap_succ i (by omega), rd_getD, rd_getD, Int.toNat_natCast]
    by_cases ha : a.length ≤ i
    · rw [if_pos (by omega), if_pos (by omega), if_pos (by omega), if_pos (by omega)]
      have : at2 a b i = b.getD i 0 := by unfold at2; rw [if_pos ha]
      rw [this]
    · rw [if_neg (by omega)]
      by_cases hb : b.length ≤ i
      · rw [if_pos (by omega), if_pos (by omega), if_pos (by omega), if_pos (by omega)]
        have : at2 a b i = a.getD i 0 := by unfold at2; rw [if_neg ha, if_pos hb]
        rw [this]
      · rw [if_neg (by omega), if_pos (by omega), if_pos (by omega), if_pos (by omega)]
        by_cases hc : a.getD i 0 > b.getD i 0
        · rw [if_pos hc, if_pos (by omega)]
          have : at2 a b i = a.getD i 0 := by unfold at2; rw [if_neg ha, if_neg hb, if_pos hc]
          rw [this]
        · rw [if_neg hc, if_pos (by omega)]
          have : at2 a b i = b.getD i 0 := by unfold at2; rw [if_neg ha, if_neg hb, if_neg hc]
          rw [this]
theorem refJoin_j0 (a b : List Int) (n : Nat) (hn : n = max a.length b.length) (hs : n ≤ 1000000) : Ev (fun k => spinnakerref29_Join.j0 k a b (n : Int)) (jn a b) := by
  have := refJoin_l0 a b n hn hs n 0 (by omega) (by omega)
  rw [under_zero] at this
  exact Ev.by this fun k => by
    simp only [spinnakerref29_Join.j0]
    rw [if_pos (by omega), Int.toNat_natCast, if_pos (by omega)]
    rfl
theorem refJoin_ev (a b : List Int) (ha : a.length ≤ 1000000) (hb : b.length ≤ 1000000) : Ev (fun k => spinnakerref29_Join.f k a b) (jn a b) := by
  unfold spinnakerref29_Join.f
  by_cases h : (b.length : Int) > a.length
  · exact Ev.if_pos h (refJoin_j0 a b b.length (by omega) hb)
  · exact Ev.if_neg h (refJoin_j0 a b a.length (by omega) ha)
theorem joins_out (a b c : List Int) : Ev (fun k => spinnakerlaw29_ViewJoins.j0 k a b c true) true := by
  refine Ev.step (fun k => spinnakerlaw29_ViewJoins.j0.eq_2 a b c true k) ?_
  refine Ev.if_pos rfl ?_
  exact Ev.bind awake29_ev (Ev.now _)
theorem joins_in (a b c : List Int) (ha : a.length ≤ 500) (hb : b.length ≤ 500) (hc : c.length ≤ 500) : Ev (fun k => spinnakerlaw29_ViewJoins.j0 k a b c false) true := by
  refine Ev.step (fun k => spinnakerlaw29_ViewJoins.j0.eq_2 a b c false k) ?_
  refine Ev.if_neg (by decide) ?_
  have hj : jns [] [a, b] = jn a b := by simp [jns, jn_nil_left]
  have hj3 : jns [] [a, b, c] = jn (jn a b) c := by simp [jns, jn_nil_left]
  have hjl := jn_len a b
  have hjl3 := jn_len (jn a b) c
  refine Ev.bind (join_ev [a, b] (by simp) (by intro v hv; simp at hv; rcases hv with rfl | rfl <;> omega)) ?_
  rw [hj]
  refine Ev.bind (refJoin_ev a b (by omega) (by omega)) ?_
  refine Ev.bind (ints_ev _ _ (by omega)) ?_
  refine Ev.if_pos (by simp) ?_
  refine Ev.bind (join_ev [a, b, c] (by simp) (by intro v hv; simp at hv; rcases hv with rfl | rfl | rfl <;> omega)) ?_
  rw [hj3]
  refine Ev.bind (refJoin_ev (jn a b) c (by omega) (by omega)) ?_
  refine Ev.bind (ints_ev _ _ (by omega)) ?_
  refine Ev.if_pos (by simp) ?_
  refine Ev.bind (join_ev [] (by simp) (by intro v hv; simp at hv)) ?_
  refine Ev.if_pos (by simp [jns]) ?_
  refine Ev.bind (atMost_ev a b (by omega)) ?_
  refine Ev.bind (refAtMost_ev a b (by omega)) ?_
  refine Ev.if_pos (by simp) ?_
  exact Ev.bind awake29_ev (Ev.now _)
theorem ViewJoins : spinnakerlaw29_ViewJoins.Pure := by
  intro a b c _ _ _ _ _ _ _ _ _
  apply Ev.rounds
  unfold spinnakerlaw29_ViewJoins.f
  by_cases h0 : (a.length : Int) > 500
  · exact Ev.if_pos h0 (joins_out a b c)
  refine Ev.if_neg h0 ?_
  by_cases h1 : (b.length : Int) > 500
  · exact Ev.if_pos h1 (joins_out a b c)
  refine Ev.if_neg h1 ?_
  by_cases h2 : (c.length : Int) > 500
  · rw [decide_eq_true h2]
    exact joins_out a b c
  · rw [decide_eq_false h2]
    exact joins_in a b c (by omega) (by omega) (by omega)

end Go.Proofs.Ytdnphnicdhcafaa.Pure
