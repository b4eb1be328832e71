/- With, Seen, New and May of any list of numbers are the document's, and With leaves the list that it is given as it was. For every list and any two 64 bit numbers. -/
import Derived.Test.YtdnphnicdhcafaaPViewChangesx2
namespace Go.Proofs.Ytdnphnicdhcafaa.Pure
open Go.RowKit Go.Proofs.Ytdnphnicdhcafaa.PViewChanges Go.Proofs.YtdnphnicdhcafaaW.PrintWords Go.Proofs.YtdnphnicdhcafaaW.PrintLast Go.Proofs.YtdnphnicdhcafaaW.PrintMore

set_option linter.unusedVariables false
set_option linter.unusedSimpArgs false
theorem rd_nat (xs : List Int) (i : Nat) (h : i < xs.length) : rd xs (i : Int) = xs[i] := by
  simp [rd, h]
theorem rd_getD (xs : List Int) (i : Nat) : rd xs (i : Int) = xs.getD i 0 := by simp [rd]
theorem wrap_succ (i : Nat) (h : i ≤ 4611686018427387904) : wrap64 ((i : Int) + 1) = ((i + 1 : Nat) : Int) := by
  unfold wrap64
  omega
theorem mx_self (a : Int) : mx a a = a := by unfold mx; split <;> rfl
/-- One round: by an equation for every number of rounds. -/
theorem Ev.by {α : Type} {g f : Nat → Option α} {r : α} (k : Ev f r) (h : ∀ k, g (k + 1) = f k) : Ev g r := Ev.step h k
theorem Ev.end_ {α : Type} {g : Nat → Option α} {r : α} (h : ∀ k, g (k + 1) = some r) : Ev g r := Ev.step (f := fun _ => some r) h (Ev.now r)
theorem Ev.if_pos {α : Type} {c : Prop} [Decidable c] {g f : Nat → Option α} {r : α} (hc : c) (h : Ev g r) : Ev (fun k => if c then g k else f k) r := by
  exact Ev.congr (fun _ => _root_.if_pos hc) h
theorem Ev.if_neg {α : Type} {c : Prop} [Decidable c] {g f : Nat → Option α} {r : α} (hc : ¬ c) (h : Ev f r) : Ev (fun k => if c then g k else f k) r := by
  exact Ev.congr (fun _ => _root_.if_neg hc) h
theorem drop_cons {α : Type} (l : List α) (i : Nat) (h : i < l.length) : l.drop i = l[i] :: l.drop (i + 1) := List.drop_eq_getElem_cons h

theorem ints_l0 (a b : List Int) (h : a.length = b.length) (hm : a.length ≤ 4611686018427387904) : ∀ d i, i ≤ a.length → a.length - i = d →
    Ev (fun k => spinnakerref01_Ints.l0 k a b (i : Int)) (decide (a.drop i = b.drop i)) := by
  intro d
  induction d with
  | zero =>
    intro i hi hd
    rw [List.drop_eq_nil_of_le (show a.length ≤ i by omega), List.drop_eq_nil_of_le (show b.length ≤ i by omega)]
    exact Ev.end_ fun k => by simp only [spinnakerref01_Ints.l0]; rw [if_neg (by omega)]; rfl
  | succ d ih =>
    intro i hi hd
    have h1 : i < a.length := by omega
    have h2 : i < b.length := by omega
    rw [drop_cons a i h1, drop_cons b i h2]
    by_cases e : a[i] = b[i]
    · have hr : decide (a[i] :: a.drop (i + 1) = b[i] :: b.drop (i + 1)) = decide (a.drop (i + 1) = b.drop (i + 1)) := by simp only [List.cons.injEq, e, true_and]
      rw [hr]
      exact Ev.by (ih (i + 1) (by omega) (by omega)) fun k => by
        simp only [spinnakerref01_Ints.l0]
        rw [if_pos (by omega), if_pos (by omega), if_pos (by omega), if_pos (by rw [rd_nat _ _ h1, rd_nat _ _ h2]; exact e), wrap_succ i (by omega)]
    · have hr : decide (a[i] :: a.drop (i + 1) = b[i] :: b.drop (i + 1)) = false := by simp only [List.cons.injEq, e, false_and, decide_false]
      rw [hr]
      exact Ev.end_ fun k => by
        simp only [spinnakerref01_Ints.l0]
        rw [if_pos (by omega), if_pos (by omega), if_pos (by omega), if_neg (by rw [rd_nat _ _ h1, rd_nat _ _ h2]; exact e)]
theorem ints_ev (a b : List Int) (hm : a.length ≤ 4611686018427387904) : Ev (fun k => spinnakerref01_Ints.f k a b) (decide (a = b)) := by
  unfold spinnakerref01_Ints.f
  by_cases h : a.length = b.length
  · refine Ev.if_pos (by omega) ?_
    have := ints_l0 a b h hm a.length 0 (by omega) (by omega)
    simpa using this
  · refine Ev.if_neg (by omega) ?_
    have : decide (a = b) = false := by simp; intro e; exact h (by rw [e])
    rw [this]
    exact Ev.now _

/-- The greatest of two lists, cell by cell; what one lacks is the other's. -/
def jn : List Int → List Int → List Int
  | [], v => v
  | x, [] => x
  | a :: x, b :: v => mx a b :: jn x v
theorem jn_nil (x : List Int) : jn x [] = x := by cases x <;> rfl
theorem jn_nil_left (x : List Int) : jn [] x = x := by cases x <;> rfl
theorem jn_len (x v : List Int) : (jn x v).length = max x.length v.length := by
  induction x generalizing v with
  | nil => simp [jn_nil_left]
  | cons a x ih =>
    cases v with
    | nil => simp [jn_nil]
    | cons b v => simp only [jn, List.length_cons, ih]; omega
theorem jn_take (x v : List Int) (i : Nat) (h : i < v.length) :
    jn x (v.take (i + 1)) = if i = (jn x (v.take i)).length then jn x (v.take i) ++ [v[i]] else (jn x (v.take i)).set i (mx ((jn x (v.take i)).getD i 0) v[i]) := by
  induction x generalizing v i with
  | nil =>
    rw [jn_nil_left, jn_nil_left, if_pos (by simp; omega)]
    rw [List.take_succ_eq_append_getElem h]
  | cons a x ih =>
    cases v with
    | nil => simp at h
    | cons b v =>
      cases i with
      | zero => simp [jn, jn_nil]
      | succ i =>
        have h' : i < v.length := by simpa using h
        simp only [List.take_succ_cons, jn, List.getElem_cons_succ]
        rw [ih v i h']
        by_cases e : i = (jn x (v.take i)).length
        · rw [if_pos e, if_pos (by simp [← e])]
          rfl
        · rw [if_neg e, if_neg (by simp; exact e)]
          simp
theorem jn_take_len (x v : List Int) (i : Nat) (h : i ≤ v.length) : i ≤ (jn x (v.take i)).length := by rw [jn_len]; simp; omega
/-- All lists of ls, joined to x. -/
def jns (x : List Int) (ls : List (List Int)) : List Int := ls.foldl jn x
def small (ls : List (List Int)) : Prop := ∀ v ∈ ls, v.length ≤ 1000000
theorem rd_L1_nat (ls : List (List Int)) (i : Nat) (h : i < ls.length) : rd_L1 ls (i : Int) = ls[i] := by simp [rd_L1, h]
theorem join_in (ls : List (List Int)) (hl : ls.length ≤ 1000) (n : Nat) (hn : n < ls.length) (hs : ls[n].length ≤ 1000000) (x : List Int) (hx : x.length ≤ 1000000) (r : List Int)
    (hnext : Ev (fun k => view_Join.l0 k (jn x ls[n]) ls (ls.length : Int) ((n + 1 : Nat) : Int)) r) : ∀ d i, i ≤ ls[n].length → ls[n].length - i = d →
    Ev (fun k => view_Join.l1 k (jn x (ls[n].take i)) ls (ls.length : Int) (n : Int) ls[n] (ls[n].length : Int) (i : Int)) r := by
  intro d
  induction d with
  | zero =>
    intro i hi hd
    have e : ls[n].take i = ls[n] := List.take_of_length_le (by omega)
    rw [e]
    exact Ev.by hnext fun k => by simp only [view_Join.l1]; rw [if_neg (by omega), wrap_succ n (by omega)]
  | succ d ih =>
    intro i hi hd
    have h1 : i < ls[n].length := by omega
    have hle := jn_take_len x ls[n] i (by omega)
    have hlen := jn_len x (ls[n].take i)
    have htl : (ls[n].take i).length = i := by rw [List.length_take]; omega
    have hst := jn_take x ls[n] i h1
    refine Ev.by (ih (i + 1) (by omega) (by omega)) fun k => ?_
    simp only [view_Join.l1]
    rw [if_pos (by omega), if_pos (by omega), if_pos (by omega), wrap_succ i (by omega), rd_nat _ _ h1]
    by_cases e : i = (jn x (ls[n].take i)).length
    · rw [if_pos e] at hst
      rw [if_pos (by omega), if_pos (by omega)]
      simp only [Option.bind_some]
      rw [if_pos (by simp; omega)]
      have hset : (jn x (ls[n].take i) ++ [ls[n][i]]).set ((i : Int)).toNat (mx (rd (jn x (ls[n].take i) ++ [ls[n][i]]) (i : Int)) ls[n][i]) = jn x (ls[n].take i) ++ [ls[n][i]] := by
        have hr : rd (jn x (ls[n].take i) ++ [ls[n][i]]) (i : Int) = ls[n][i] := by
          rw [rd_nat _ _ (by simp; omega), List.getElem_append_right (by omega)]; simp [← e]
        rw [hr, mx_self, Int.toNat_natCast, List.set_append_right _ _ (by omega)]
        simp [← e]
      rw [hset, hst]
    · rw [if_neg e] at hst
      rw [if_neg (by omega), if_pos (by omega), rd_getD, Int.toNat_natCast, hst]
theorem join_out (ls : List (List Int)) (hl : ls.length ≤ 1000) (hs : small ls) : ∀ d n (x : List Int), x.length ≤ 1000000 → n ≤ ls.length → ls.length - n = d →
    Ev (fun k => view_Join.l0 k x ls (ls.length : Int) (n : Int)) (jns x (ls.drop n)) := by
  intro d
  induction d with
  | zero =>
    intro n x hx hn hd
    rw [List.drop_eq_nil_of_le (by omega)]
    exact Ev.end_ fun k => by simp only [view_Join.l0]; rw [if_neg (by omega)]; rfl
  | succ d ih =>
    intro n x hx hn hd
    have h1 : n < ls.length := by omega
    have hln := hs ls[n] (List.getElem_mem h1)
    rw [drop_cons ls n h1]
    have hnext := ih (n + 1) (jn x ls[n]) (by rw [jn_len]; omega) (by omega) (by omega)
    have := join_in ls hl n h1 hln x hx _ hnext ls[n].length 0 (by omega) (by omega)
    rw [List.take_zero, jn_nil] at this
    exact Ev.by this fun k => by
      simp only [view_Join.l0]
      rw [if_pos (by omega), if_pos (by omega), if_pos (by omega), rd_L1_nat _ _ h1]
      rfl
theorem join_ev (ls : List (List Int)) (hl : ls.length ≤ 1000) (hs : small ls) : Ev (fun k => view_Join.f k ls) (jns [] ls) := by
  have := join_out ls hl hs ls.length 0 [] (by simp) (by omega) (by omega)
  simpa [view_Join.f] using this
/-- One list is at most another one, cell by cell. -/
def le2 : List Int → List Int → Bool
  | [], [] => true
  | a :: x, b :: y => decide (a ≤ b) && le2 x y
  | _, _ => false
theorem le2_len {a b : List Int} (h : a.length ≠ b.length) : le2 a b = false := by
  induction a generalizing b with
  | nil => cases b with
    | nil => exact absurd rfl h
    | cons b y => rfl
  | cons a x ih => cases b with
    | nil => rfl
    | cons b y => simp only [le2]; rw [ih (by simpa using h)]; simp
theorem atMost_l0 (a b : List Int) (h : a.length = b.length) (hm : a.length ≤ 4611686018427387904) : ∀ d i, i ≤ a.length → a.length - i = d →
    Ev (fun k => view_AtMost.l0 k b a (a.length : Int) (i : Int)) (le2 (a.drop i) (b.drop i)) := by
  intro d
  induction d with
  | zero =>
    intro i hi hd
    rw [List.drop_eq_nil_of_le (show a.length ≤ i by omega), List.drop_eq_nil_of_le (show b.length ≤ i by omega)]
    exact Ev.end_ fun k => by simp only [view_AtMost.l0]; rw [if_neg (by omega)]; rfl
  | succ d ih =>
    intro i hi hd
    have h1 : i < a.length := by omega
    have h2 : i < b.length := by omega
    rw [drop_cons a i h1, drop_cons b i h2]
    simp only [le2]
    by_cases e : a[i] ≤ b[i]
    · rw [decide_eq_true e, Bool.true_and]
      exact Ev.by (ih (i + 1) (by omega) (by omega)) fun k => by
        simp only [view_AtMost.l0]
        rw [if_pos (by omega), if_pos (by omega), if_pos (by omega), if_pos (by omega), if_neg (by rw [rd_nat _ _ h1, rd_nat _ _ h2]; omega), wrap_succ i (by omega)]
    · rw [decide_eq_false e, Bool.false_and]
      exact Ev.end_ fun k => by
        simp only [view_AtMost.l0]
        rw [if_pos (by omega), if_pos (by omega), if_pos (by omega), if_pos (by omega), if_pos (by rw [rd_nat _ _ h1, rd_nat _ _ h2]; omega)]
theorem atMost_ev (a b : List Int) (hm : a.length ≤ 4611686018427387904) : Ev (fun k => view_AtMost.f k a b) (le2 a b) := by
  unfold view_AtMost.f
  by_cases h : a.length = b.length
  · refine Ev.if_pos (by omega) ?_
    have := atMost_l0 a b h hm a.length 0 (by omega) (by omega)
    simpa using this
  · refine Ev.if_neg (by omega) ?_
    rw [le2_len h]
    exact Ev.now _
theorem awake29_ev : Ev (fun k => spinnakerlaw29_awake.f k) true := by
  unfold spinnakerlaw29_awake.f
  refine Ev.bind (join_ev [[1, 0], [0, 2]] (by simp) (by intro v hv; simp at hv; rcases hv with rfl | rfl <;> simp)) ?_
  refine Ev.bind (ints_ev (jns [] [[1, 0], [0, 2]]) [1, 2] (by decide)) ?_
  refine Ev.if_pos (by decide) ?_
  exact Ev.bind (atMost_ev [1] [1] (by simp)) (Ev.now _)

theorem set_same (l : List Int) (i : Nat) (h : i < l.length) : l.set i l[i] = l := by
  apply List.ext_getElem?
  intro j
  rw [List.getElem?_set]
  by_cases e : i = j
  · subst e; rw [if_pos rfl, if_pos h, List.getElem?_eq_getElem h]
  · rw [if_neg e]
/-- A view that has seen more of a cell. -/
def wi (l : List Int) (c at_ : Int) : List Int := if 0 ≤ c ∧ c < (l.length : Int) then l.set c.toNat (mx (rd l c) at_) else l
theorem wi_len (l : List Int) (c at_ : Int) : (wi l c at_).length = l.length := by unfold wi; split <;> simp
theorem with_f (l : List Int) (c at_ : Int) (h : l.length ≤ 1000000) : view_With.f l c at_ = some (wi l c at_) := by
  unfold view_With.f slices_Clone_int_int.f wi
  rw [if_pos (by omega)]
  simp only [Option.bind_some]
  by_cases h1 : 0 ≤ c
  · rw [if_pos h1]
    by_cases h2 : c < (l.length : Int)
    · rw [if_pos h2, if_pos h1, if_pos ⟨h1, h2⟩]
    · rw [if_neg h2, if_neg (by omega)]
  · rw [if_neg h1, if_neg (by omega)]
theorem refWith_f (l : List Int) (c at_ : Int) (h : l.length ≤ 1000000) : spinnakerref29_With.f l c at_ = some (wi l c at_) := by
  unfold spinnakerref29_With.f wi
  simp only [Option.bind_some, List.nil_append, List.length_nil]
  rw [if_pos (by omega)]
  by_cases h1 : 0 ≤ c
  · rw [if_pos h1]
    by_cases h2 : c < (l.length : Int)
    · rw [if_pos h2, if_pos h1, if_pos (show 0 ≤ c ∧ c < (l.length : Int) from ⟨h1, h2⟩)]
      by_cases h3 : rd l c < at_
      · rw [if_pos h3]
        unfold mx
        rw [if_pos h3]
      · rw [if_neg h3]
        unfold mx
        rw [if_neg h3]
        obtain ⟨i, rfl⟩ := Int.eq_ofNat_of_zero_le h1
        have hi : i < l.length := by omega
        rw [rd_nat _ _ hi, Int.toNat_natCast, set_same l i hi]
    · rw [if_neg h2, if_neg (by omega)]
  · rw [if_neg h1, if_neg (by omega)]
theorem seen_at (l : List Int) (c : Int) : ∃ t, view_Seen.f l c = some t ∧ spinnakerref29_At.f l c = some t := by
  unfold view_Seen.f spinnakerref29_At.f
  by_cases h1 : c < 0
  · exact ⟨0, by rw [if_pos h1], by rw [if_pos h1]⟩
  · by_cases h2 : c ≥ (l.length : Int)
    · exact ⟨0, by rw [if_neg h1, if_pos h2], by rw [if_neg h1, if_pos h2]⟩
    · exact ⟨rd l c, by rw [if_neg h1, if_neg h2, if_pos (by omega), if_pos (by omega)], by rw [if_neg h1, if_neg h2, if_pos (by omega), if_pos (by omega)]⟩
/-- Are the first i numbers those of a view? -/
def so (l : List Int) (i : Nat) : Bool := decide ((l.length : Int) ≤ 200) && (l.take i).all (fun n => decide (n ≥ 0))
theorem so_succ (l : List Int) (i : Nat) (h : i < l.length) : so l (i + 1) = (so l i && decide (l[i] ≥ 0)) := by
  unfold so
  rw [List.take_succ_eq_append_getElem h, List.all_append]
  simp [Bool.and_assoc]
theorem so_all (l : List Int) : so l l.length = (decide (l.length ≤ 200) && !l.any (fun n => decide (n < 0))) := by
  unfold so
  rw [List.take_length, List.not_any_eq_all_not]
  congr 1
  · rw [Bool.eq_iff_iff]; simp; omega
  · congr 1
    funext n
    rw [Bool.eq_iff_iff]; simp
theorem new_f (c : Int) : view_New.f c = some (List.replicate (mn (mx c 0) 200).toNat 0) := by
  unfold view_New.f
  have h : 0 ≤ mn (mx c 0) 200 ∧ mn (mx c 0) 200 ≤ 200 := by unfold mn mx; split <;> split <;> omega
  rw [if_pos h.1, if_pos (by omega)]
theorem changes_j (l : List Int) (c at_ : Int) (hl : l.length ≤ 500) (n : Int) (hn : n = mn (mx c 0) 200) : Ev (fun k => spinnakerlaw29_ViewChanges.j1 k l c at_ l (wi l c at_) (so l l.length) (List.replicate (mn (mx c 0) 200).toNat 0) n) true := by
  have hb : 0 ≤ mn (mx c 0) 200 ∧ mn (mx c 0) 200 ≤ 200 := by unfold mn mx; split <;> split <;> omega
  subst hn
  refine Ev.step (fun k => spinnakerlaw29_ViewChanges.j1.eq_2 l c at_ l (wi l c at_) (so l l.length) (List.replicate (mn (mx c 0) 200).toNat 0) _ k) ?_
  rw [refWith_f l c at_ (by omega)]
  simp only [Option.bind_some]
  have hwl := wi_len l c at_
  refine Ev.bind (ints_ev _ _ (by omega)) ?_
  refine Ev.if_pos (by simp) ?_
  refine Ev.bind (ints_ev _ _ (by omega)) ?_
  refine Ev.if_pos (by simp) ?_
  obtain ⟨t, h1, h2⟩ := seen_at l c
  rw [h1, h2]
  simp only [Option.bind_some, view_May.f]
  refine Ev.if_pos (by simp) ?_
  refine Ev.if_pos (by rw [so_all]; simp) ?_
  refine Ev.if_pos hb.1 ?_
  refine Ev.if_pos (by omega) ?_
  refine Ev.bind (ints_ev _ _ (by simp; omega)) ?_
  refine Ev.if_pos (by simp) ?_
  exact Ev.bind awake29_ev (Ev.now _)
theorem changes_l (l : List Int) (c at_ : Int) (hl : l.length ≤ 500) : ∀ d i, i ≤ l.length → l.length - i = d →
    Ev (fun k => spinnakerlaw29_ViewChanges.l0 k l c at_ l (wi l c at_) (so l i) (i : Int)) true := by
  intro d
  induction d with
  | zero =>
    intro i hi hd
    have : i = l.length := by omega
    subst this
    refine Ev.step (fun k => spinnakerlaw29_ViewChanges.l0.eq_2 l c at_ l (wi l c at_) _ _ k) ?_
    refine Ev.if_neg (by omega) ?_
    rw [new_f]
    simp only [Option.bind_some]
    by_cases h : c > 0
    · refine Ev.if_pos h (changes_j l c at_ hl _ ?_)
      have : mx c 0 = c := by unfold mx; rw [_root_.if_neg (by omega)]
      rw [this]
    · refine Ev.if_neg h (changes_j l c at_ hl _ ?_)
      have : mx c 0 = 0 := by unfold mx; split <;> omega
      rw [this]
      rfl
  | succ d ih =>
    intro i hi hd
    have h1 : i < l.length := by omega
    have hs := so_succ l i h1
    refine Ev.by (ih (i + 1) (by omega) (by omega)) fun k => ?_
    simp only [spinnakerlaw29_ViewChanges.l0]
    rw [if_pos (by omega), wrap_succ i (by omega), hs]
    cases so l i with
    | true => rw [if_pos rfl, if_pos (by omega), rd_nat _ _ h1, Bool.true_and]
    | false => rw [if_neg (by decide), Bool.false_and]
theorem ViewChanges : spinnakerlaw29_ViewChanges.Pure := by
  intro l c at_ _ _ _ _ _
  apply Ev.rounds
  unfold spinnakerlaw29_ViewChanges.f
  by_cases h0 : (l.length : Int) > 500
  · exact Ev.if_pos h0 (Ev.bind awake29_ev (Ev.now _))
  refine Ev.if_neg h0 ?_
  simp only [Option.bind_some, List.nil_append, List.length_nil]
  refine Ev.if_pos (by omega) ?_
  rw [with_f l c at_ (by omega)]
  simp only [Option.bind_some]
  have := changes_l l c at_ (by omega) l.length 0 (by omega) (by omega)
  have hz : so l 0 = decide ((l.length : Int) ≤ 200) := by simp [so]
  rw [hz] at this
  exact this

end Go.Proofs.Ytdnphnicdhcafaa.Pure
