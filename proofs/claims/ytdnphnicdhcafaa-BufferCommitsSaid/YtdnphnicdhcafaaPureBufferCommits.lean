/- Commit lets just the stores go that the document lets go, returns the same remaining stores and the same store, and leaves the buffer as it was. For every buffer and any two 64 bit numbers. -/
import Derived.Test.YtdnphnicdhcafaaPBufferCommitsx5
namespace Go.Proofs.Ytdnphnicdhcafaa.Pure
open Go.RowKit Go.Proofs.Ytdnphnicdhcafaa.PBufferCommits Go.Proofs.YtdnphnicdhcafaaW.PrintWords Go.Proofs.YtdnphnicdhcafaaW.PrintLast Go.Proofs.YtdnphnicdhcafaaW.PrintMore

set_option linter.unusedVariables false
set_option linter.unusedSimpArgs false
theorem rd_nat (xs : List Int) (i : Nat) (h : i < xs.length) : rd xs (i : Int) = xs[i] := by
  simp [rd, h]
theorem rd_getD (xs : List Int) (i : Nat) : rd xs (i : Int) = xs.getD i 0 := by simp [rd]
theorem wrap_succ (i : Nat) (h : i ≤ 4611686018427387904) : wrap64 ((i : Int) + 1) = ((i + 1 : Nat) : Int) := by
  unfold wrap64
  omega
theorem mx_self (a : Int) : mx a a = a := by unfold mx; split <;> rfl
/-- One round: by an equation for every number of rounds. -/
theorem Ev.by {α : Type} {g f : Nat → Option α} {r : α} (k : Ev f r) (h : ∀ k, g (k + 1) = f k) : Ev g r := Ev.step h k
theorem Ev.end_ {α : Type} {g : Nat → Option α} {r : α} (h : ∀ k, g (k + 1) = some r) : Ev g r := Ev.step (f := fun _ => some r) h (Ev.now r)
theorem Ev.if_pos {α : Type} {c : Prop} [Decidable c] {g f : Nat → Option α} {r : α} (hc : c) (h : Ev g r) : Ev (fun k => if c then g k else f k) r := by
  exact Ev.congr (fun _ => _root_.if_pos hc) h
theorem Ev.if_neg {α : Type} {c : Prop} [Decidable c] {g f : Nat → Option α} {r : α} (hc : ¬ c) (h : Ev f r) : Ev (fun k => if c then g k else f k) r := by
  exact Ev.congr (fun _ => _root_.if_neg hc) h
theorem drop_cons {α : Type} (l : List α) (i : Nat) (h : i < l.length) : l.drop i = l[i] :: l.drop (i + 1) := List.drop_eq_getElem_cons h

theorem ints_l0 (a b : List Int) (h : a.length = b.length) (hm : a.length ≤ 4611686018427387904) : ∀ d i, i ≤ a.length → a.length - i = d →
    Ev (fun k => spinnakerref01_Ints.l0 k a b (i : Int)) (decide (a.drop i = b.drop i)) := by
  intro d
  induction d with
  | zero =>
    intro i hi hd
    rw [List.drop_eq_nil_of_le (show a.length ≤ i by omega), List.drop_eq_nil_of_le (show b.length ≤ i by omega)]
    exact Ev.end_ fun k => by simp only [spinnakerref01_Ints.l0]; rw [if_neg (by omega)]; rfl
  | succ d ih =>
    intro i hi hd
    have h1 : i < a.length := by omega
    have h2 : i < b.length := by omega
    rw [drop_cons a i h1, drop_cons b i h2]
    by_cases e : a[i] = b[i]
    · have hr : decide (a[i] :: a.drop (i + 1) = b[i] :: b.drop (i + 1)) = decide (a.drop (i + 1) = b.drop (i + 1)) := by simp only [List.cons.injEq, e, true_and]
      rw [hr]
      exact Ev.by (ih (i + 1) (by omega) (by omega)) fun k => by
        simp only [spinnakerref01_Ints.l0]
        rw [if_pos (by omega), if_pos (by omega), if_pos (by omega), if_pos (by rw [rd_nat _ _ h1, rd_nat _ _ h2]; exact e), wrap_succ i (by omega)]
    · have hr : decide (a[i] :: a.drop (i + 1) = b[i] :: b.drop (i + 1)) = false := by simp only [List.cons.injEq, e, false_and, decide_false]
      rw [hr]
      exact Ev.end_ fun k => by
        simp only [spinnakerref01_Ints.l0]
        rw [if_pos (by omega), if_pos (by omega), if_pos (by omega), if_neg (by rw [rd_nat _ _ h1, rd_nat _ _ h2]; exact e)]
theorem ints_ev (a b : List Int) (hm : a.length ≤ 4611686018427387904) : Ev (fun k => spinnakerref01_Ints.f k a b) (decide (a = b)) := by
  unfold spinnakerref01_Ints.f
  by_cases h : a.length = b.length
  · refine Ev.if_pos (by omega) ?_
    have := ints_l0 a b h hm a.length 0 (by omega) (by omega)
    simpa using this
  · refine Ev.if_neg (by omega) ?_
    have : decide (a = b) = false := by simp; intro e; exact h (by rw [e])
    rw [this]
    exact Ev.now _

/-- A view that has seen more of a cell. -/
def wi (l : List Int) (c at_ : Int) : List Int := if 0 ≤ c ∧ c < (l.length : Int) then l.set c.toNat (mx (rd l c) at_) else l
theorem wi_len (l : List Int) (c at_ : Int) : (wi l c at_).length = l.length := by unfold wi; split <;> simp
theorem with_f (l : List Int) (c at_ : Int) (h : l.length ≤ 1000000) : view_With.f l c at_ = some (wi l c at_) := by
  unfold view_With.f slices_Clone_int_int.f wi
  rw [_root_.if_pos (by omega)]
  simp only [Option.bind_some]
  by_cases h1 : 0 ≤ c
  · rw [_root_.if_pos h1]
    by_cases h2 : c < (l.length : Int)
    · rw [_root_.if_pos h2, _root_.if_pos h1, _root_.if_pos ⟨h1, h2⟩]
    · rw [_root_.if_neg h2, _root_.if_neg (by omega)]
  · rw [_root_.if_neg h1, _root_.if_neg (by omega)]

theorem T44_nat (l : List S44) (i : Nat) (h : i < l.length) : rd_T44 l (i : Int) = l[i] := by simp [rd_T44, h]
theorem T43_nat (l : List S43) (i : Nat) (h : i < l.length) : rd_T43 l (i : Int) = l[i] := by simp [rd_T43, h]
/-- The views are not too long. -/
def slim (l : List S44) : Prop := ∀ e ∈ l, e.f4.length ≤ 100
/-- A stored entry, as the document's. -/
def conv (e : S43) : S44 := ⟨e.f0, e.f1, e.f2, e.f3, e.f4⟩
theorem own_in (l : List S43) (hl : l.length ≤ maxLen) : ∀ d i, i ≤ l.length → i ≤ 50 → min l.length 50 - i = d → (∀ e ∈ l.take i, e.f4.length ≤ 100) →
    ∃ x b, Ev (fun k => spinnakerlaw30_own.l0 k l ((l.take i).map conv) (i : Int)) (x, b) ∧ (b = true → l.length ≤ 50 ∧ x = l.map conv ∧ slim x) := by
  intro d
  induction d with
  | zero =>
    intro i hi h50 hd hs
    refine ⟨(l.take i).map conv, decide ((l.length : Int) ≤ 50), ?_, ?_⟩
    · refine Ev.step (fun k => spinnakerlaw30_own.l0.eq_2 _ _ _ k) ?_
      by_cases h1 : (i : Int) < l.length
      · refine Ev.if_pos h1 ?_
        rw [decide_eq_false (by omega)]
        exact Ev.end_ fun k => by simp only [spinnakerlaw30_own.j1]; rfl
      · refine Ev.if_neg h1 ?_
        exact Ev.end_ fun k => by simp only [spinnakerlaw30_own.j1]; rfl
    · intro hb
      have hle : l.length ≤ 50 := by have := of_decide_eq_true hb; omega
      have ht : l.take i = l := List.take_of_length_le (by omega)
      rw [ht] at hs ⊢
      refine ⟨hle, rfl, fun e he => ?_⟩
      obtain ⟨y, hy, rfl⟩ := List.mem_map.1 he
      exact hs y hy
  | succ d ih =>
    intro i hi h50 hd hs
    have h1 : i < l.length := by omega
    by_cases hv : l[i].f4.length > 100
    · refine ⟨[], false, ?_, fun h => by cases h⟩
      refine Ev.step (fun k => spinnakerlaw30_own.l0.eq_2 _ _ _ k) ?_
      refine Ev.if_pos (by omega) ?_
      rw [decide_eq_true (by omega)]
      refine Ev.end_ fun k => ?_
      simp only [spinnakerlaw30_own.j1]
      rw [_root_.if_pos trivial, _root_.if_pos (by omega), _root_.if_pos (by omega), T43_nat _ _ h1, _root_.if_pos (by omega)]
    · have ht : l.take (i + 1) = l.take i ++ [l[i]] := List.take_succ_eq_append_getElem h1
      obtain ⟨x, b, hx, hb⟩ := ih (i + 1) (by omega) (by omega) (by omega) (by
        intro e he
        rw [ht] at he
        rcases List.mem_append.1 he with he | he
        · exact hs e he
        · have : e = l[i] := by simpa using he
          rw [this]; omega)
      refine ⟨x, b, ?_, hb⟩
      refine Ev.step (fun k => spinnakerlaw30_own.l0.eq_2 _ _ _ k) ?_
      refine Ev.if_pos (by omega) ?_
      rw [decide_eq_true (by omega)]
      refine Ev.by hx fun k => ?_
      simp only [spinnakerlaw30_own.j1]
      rw [_root_.if_pos trivial, _root_.if_pos (by omega), _root_.if_pos (by omega), T43_nat _ _ h1, _root_.if_neg (by omega)]
      simp only [Option.bind_some, List.nil_append, List.length_nil]
      rw [_root_.if_pos (by omega), _root_.if_pos (by simp; omega), wrap_succ i (by omega), ht, List.map_append]
      rfl
theorem own_ev (l : List S43) (hl : l.length ≤ maxLen) : ∃ x b, Ev (fun k => spinnakerlaw30_own.f k l) (x, b) ∧ (b = true → l.length ≤ 50 ∧ x = l.map conv ∧ slim x) := by
  have := own_in l hl (min l.length 50) 0 (by omega) (by omega) (by omega) (by simp)
  simpa [spinnakerlaw30_own.f] using this
/-- Do the numbers rise? -/
def rise : List S44 → Bool
  | [] => true
  | [_] => true
  | a :: b :: l => decide (a.f0 < b.f0) && rise (b :: l)
theorem rise_drop (l : List S44) (i : Nat) (h0 : 0 < i) (h : i < l.length) : rise (l.drop (i - 1)) = (decide (l[i - 1].f0 < l[i].f0) && rise (l.drop i)) := by
  have h1 : i - 1 < l.length := by omega
  rw [drop_cons l (i - 1) h1]
  have e : i - 1 + 1 = i := by omega
  rw [e, drop_cons l i h]
  rfl
theorem may_l0 (l : List S44) (hl : l.length ≤ 1000) : ∀ d i, i ≤ l.length → l.length - i = d → Ev (fun k => buffer_May.l0 k l (l.length : Int) (i : Int)) (rise (l.drop (i - 1))) := by
  intro d
  induction d with
  | zero =>
    intro i hi hd
    have hr : rise (l.drop (i - 1)) = true := by
      have : (l.drop (i - 1)).length ≤ 1 := by rw [List.length_drop]; omega
      cases hq : l.drop (i - 1) with
      | nil => rfl
      | cons a t => cases t with
        | nil => rfl
        | cons b t => rw [hq] at this; simp at this
    rw [hr]
    exact Ev.end_ fun k => by simp only [buffer_May.l0]; rw [_root_.if_neg (by omega)]
  | succ d ih =>
    intro i hi hd
    have h1 : i < l.length := by omega
    have hn := ih (i + 1) (by omega) (by omega)
    rw [Nat.add_sub_cancel] at hn
    by_cases h0 : 0 < i
    · rw [rise_drop l i h0 h1]
      have hw : wrap64 ((i : Int) - 1) = ((i - 1 : Nat) : Int) := by unfold wrap64; omega
      by_cases e : l[i].f0 ≤ l[i - 1].f0
      · rw [decide_eq_false (by omega), Bool.false_and]
        refine Ev.end_ fun k => ?_
        simp only [buffer_May.l0]
        rw [_root_.if_pos (by omega), _root_.if_pos (by omega), _root_.if_pos (by omega), _root_.if_pos (by omega), hw, _root_.if_pos (by omega), _root_.if_pos (by omega), T44_nat _ _ h1, T44_nat _ _ (by omega), _root_.if_pos e]
      · rw [decide_eq_true (by omega), Bool.true_and]
        refine Ev.by hn fun k => ?_
        simp only [buffer_May.l0]
        rw [_root_.if_pos (by omega), _root_.if_pos (by omega), _root_.if_pos (by omega), _root_.if_pos (by omega), hw, _root_.if_pos (by omega), _root_.if_pos (by omega), T44_nat _ _ h1, T44_nat _ _ (by omega), _root_.if_neg e, wrap_succ i (by omega)]
    · have hz : i = 0 := by omega
      subst hz
      refine Ev.by hn fun k => ?_
      simp only [buffer_May.l0]
      rw [_root_.if_pos (by omega), _root_.if_neg (by omega), wrap_succ 0 (by omega)]
theorem may_ev (l : List S44) (hl : l.length ≤ 1000) : Ev (fun k => buffer_May.f k l) (rise l) := by
  have := may_l0 l hl l.length 0 (by omega) (by omega)
  simpa [buffer_May.f] using this
theorem awake30_ev : Ev (fun k => spinnakerlaw30_awake.f k) true := by
  unfold spinnakerlaw30_awake.f
  simp only [Option.bind_some]
  have h1 : buffer_Ready.f [(⟨1, 0, 0, 0, []⟩ : S44), ⟨2, 1, 0, 2, []⟩] 1 = some true := by rfl
  have h2 : buffer_Ready.f [(⟨1, 0, 0, 0, []⟩ : S44), ⟨2, 1, 0, 2, []⟩] 2 = some false := by rfl
  rw [h1, h2]
  simp only [Option.bind_some]
  refine Ev.if_pos (by simp) ?_
  refine Ev.if_neg (by simp) ?_
  have := may_ev [(⟨1, 0, 0, 0, []⟩ : S44), ⟨2, 1, 0, 2, []⟩] (by decide)
  exact Ev.bind this (Ev.now _)
/-- An entry of which more of a cell was seen, if it waits for the one that goes. -/
def upd (no cell at_ : Int) (e : S44) : S44 := if e.f3 > no then ⟨e.f0, e.f1, e.f2, e.f3, wi e.f4 cell at_⟩ else e
theorem upd_core (no cell at_ : Int) (e : S44) : (upd no cell at_ e).f0 = e.f0 ∧ (upd no cell at_ e).f1 = e.f1 ∧ (upd no cell at_ e).f2 = e.f2 ∧ (upd no cell at_ e).f3 = e.f3 ∧ (upd no cell at_ e).f4.length = e.f4.length := by
  unfold upd
  split
  · exact ⟨rfl, rfl, rfl, rfl, wi_len _ _ _⟩
  · exact ⟨rfl, rfl, rfl, rfl, rfl⟩
theorem erase_take (l : List S44) (p i : Nat) (h : i < l.length) : ((l.take (i + 1)).eraseIdx p) = if i = p then (l.take i).eraseIdx p else (l.take i).eraseIdx p ++ [l[i]] := by
  rw [List.take_succ_eq_append_getElem h]
  by_cases e : i = p
  · subst e
    have ht : (List.take i l).length = i := by rw [List.length_take]; omega
    have h2 : (List.take i l).eraseIdx i = List.take i l := List.eraseIdx_of_length_le (by omega)
    rw [_root_.if_pos rfl, List.eraseIdx_append_of_length_le (by omega), ht, Nat.sub_self, h2]
    simp
  · rw [_root_.if_neg e]
    rcases Nat.lt_or_ge p i with h2 | h2
    · rw [List.eraseIdx_append_of_lt_length (by simp; omega)]
    · rw [List.eraseIdx_append_of_length_le (by simp; omega), List.eraseIdx_of_length_le (by simp; omega)]
      rw [List.eraseIdx_of_length_le (by simp; omega)]
theorem commit_l0 (l : List S44) (hl : l.length ≤ 50) (hs : slim l) (no at_ : Int) (p : Nat) (e : S44) (he : e.f4.length ≤ 100) : ∀ d i, i ≤ l.length → l.length - i = d →
    Ev (fun k => buffer_Commit.l0 k no at_ (p : Int) (((l.take i).eraseIdx p).map (upd no e.f1 at_)) l (l.length : Int) (i : Int) e.f0 e.f1 e.f2 e.f3 e.f4) ((l.eraseIdx p).map (upd no e.f1 at_), e.f0, e.f1, e.f2, e.f3, wi e.f4 e.f1 at_, true) := by
  intro d
  induction d with
  | zero =>
    intro i hi hd
    have ht : l.take i = l := List.take_of_length_le (by omega)
    rw [ht]
    refine Ev.end_ fun k => ?_
    simp only [buffer_Commit.l0]
    rw [_root_.if_neg (by omega)]
    simp only [buffer_Entry_sees.f, with_f e.f4 e.f1 at_ (by omega), Option.bind_some]
  | succ d ih =>
    intro i hi hd
    have h1 : i < l.length := by omega
    have hli : l[i].f4.length ≤ 100 := hs _ (List.getElem_mem h1)
    have hlen : ((l.take i).eraseIdx p).length ≤ 50 := by have := List.length_eraseIdx_le (l.take i) p; simp at this; omega
    have hn := ih (i + 1) (by omega) (by omega)
    rw [erase_take l p i h1] at hn
    refine Ev.by hn fun k => ?_
    simp only [buffer_Commit.l0]
    rw [_root_.if_pos (by omega), _root_.if_pos (by omega), _root_.if_pos (by omega), wrap_succ i (by omega), T44_nat _ _ h1]
    by_cases ep : i = p
    · rw [_root_.if_pos (by omega), _root_.if_pos ep]
    · rw [_root_.if_neg (by omega), _root_.if_neg ep, List.map_append]
      by_cases eb : l[i].f3 > no
      · rw [_root_.if_pos eb]
        have hu : List.map (upd no e.f1 at_) [l[i]] = [(⟨l[i].f0, l[i].f1, l[i].f2, l[i].f3, wi l[i].f4 e.f1 at_⟩ : S44)] := by simp [upd, eb]
        simp only [buffer_Entry_sees.f, with_f l[i].f4 e.f1 at_ (by omega), Option.bind_some]
        rw [_root_.if_pos (by simp; omega), hu]
      · rw [_root_.if_neg eb]
        have hu : List.map (upd no e.f1 at_) [l[i]] = [(⟨l[i].f0, l[i].f1, l[i].f2, l[i].f3, l[i].f4⟩ : S44)] := by simp [upd, eb]
        simp only [buffer_Entry_copied.f, slices_Clone_int_int.f]
        rw [_root_.if_pos (by omega)]
        simp only [Option.bind_some]
        rw [_root_.if_pos (by simp; omega), hu]
theorem commit_ev (l : List S44) (hl : l.length ≤ 50) (hs : slim l) (no at_ : Int) (p : Nat) (hp : p < l.length) (hf : ixf_e (fun x => x.f0 == no) l = (p : Int)) (hr : rdy l p = true) :
    Ev (fun k => buffer_Commit.f k l no at_) ((l.eraseIdx p).map (upd no l[p].f1 at_), l[p].f0, l[p].f1, l[p].f2, l[p].f3, wi l[p].f4 l[p].f1 at_, true) := by
  have h1 : buffer_Ready.f l no = some true := by
    unfold buffer_Ready.f
    rw [hf, _root_.if_neg (by omega), Int.toNat_natCast, hr]
  have h2 : buffer_find.f l no = some (p : Int) := by
    unfold buffer_find.f
    rw [hf]
  unfold buffer_Commit.f
  rw [h1, h2]
  simp only [Option.bind_some]
  refine Ev.if_pos (by simp) ?_
  refine Ev.if_pos (by omega) ?_
  refine Ev.if_pos (by omega) ?_
  rw [T44_nat _ _ hp]
  have := commit_l0 l hl hs no at_ p l[p] (hs _ (List.getElem_mem hp)) l.length 0 (by omega) (by omega)
  simpa using this

/-- The document's form of a stored entry. -/
def bk (e : S44) : S43 := ⟨e.f0, e.f1, e.f2, e.f3, e.f4⟩
theorem bk_conv (l : List S43) : (l.map conv).map bk = l := by
  rw [List.map_map]
  have : (bk ∘ conv) = id := rfl
  rw [this, List.map_id]
theorem back_l0 (x : List S44) (hl : x.length ≤ 1000) : ∀ d i, i ≤ x.length → x.length - i = d → Ev (fun k => spinnakerlaw30_back.l0 k x ((x.take i).map bk) (i : Int)) (x.map bk) := by
  intro d
  induction d with
  | zero =>
    intro i hi hd
    rw [List.take_of_length_le (by omega)]
    exact Ev.end_ fun k => by simp only [spinnakerlaw30_back.l0]; rw [_root_.if_neg (by omega)]
  | succ d ih =>
    intro i hi hd
    have h1 : i < x.length := by omega
    have hn := ih (i + 1) (by omega) (by omega)
    rw [List.take_succ_eq_append_getElem h1, List.map_append] at hn
    refine Ev.by hn fun k => ?_
    simp only [spinnakerlaw30_back.l0]
    rw [_root_.if_pos (by omega), _root_.if_pos (by omega), _root_.if_pos (by simp; omega), T44_nat _ _ h1, wrap_succ i (by omega)]
    rfl
theorem back_ev (x : List S44) (hl : x.length ≤ 1000) : Ev (fun k => spinnakerlaw30_back.f k x) (x.map bk) := by
  have := back_l0 x hl x.length 0 (by omega) (by omega)
  simpa [spinnakerlaw30_back.f] using this
theorem same_ev (e : S43) (h : e.f4.length ≤ 1000) : Ev (fun k => spinnakerref30_Same.f k e.f0 e.f1 e.f2 e.f3 e.f4 e.f0 e.f1 e.f2 e.f3 e.f4) true := by
  unfold spinnakerref30_Same.f
  refine Ev.if_pos rfl (Ev.if_pos rfl (Ev.if_pos rfl (Ev.if_pos rfl ?_)))
  have := ints_ev e.f4 e.f4 (by omega)
  rw [decide_eq_true rfl] at this
  exact Ev.bind this (Ev.now _)
theorem all_l0 (a : List S43) (hl : a.length ≤ 1000) (hs : ∀ e ∈ a, e.f4.length ≤ 1000) : ∀ d i, i ≤ a.length → a.length - i = d → Ev (fun k => spinnakerref30_All.l0 k a a (i : Int)) true := by
  intro d
  induction d with
  | zero =>
    intro i hi hd
    exact Ev.end_ fun k => by simp only [spinnakerref30_All.l0]; rw [_root_.if_neg (by omega)]
  | succ d ih =>
    intro i hi hd
    have h1 : i < a.length := by omega
    refine Ev.step (fun k => spinnakerref30_All.l0.eq_2 _ _ _ k) ?_
    refine Ev.if_pos (by omega) (Ev.if_pos (by omega) (Ev.if_pos (by omega) ?_))
    rw [T43_nat _ _ h1, wrap_succ i (by omega)]
    refine Ev.bind (same_ev a[i] (hs _ (List.getElem_mem h1))) ?_
    exact Ev.if_pos rfl (ih (i + 1) (by omega) (by omega))
theorem all_ev (a : List S43) (hl : a.length ≤ 1000) (hs : ∀ e ∈ a, e.f4.length ≤ 1000) : Ev (fun k => spinnakerref30_All.f k a a) true := by
  unfold spinnakerref30_All.f
  exact Ev.if_pos rfl (all_l0 a hl hs a.length 0 (by omega) (by omega))
theorem place_l0 (l : List S43) (hl : l.length ≤ 1000) (no : Int) : ∀ d i, i ≤ l.length → l.length - i = d →
    Ev (fun k => spinnakerref30_Place.l0 k l no (i : Int)) (if (l.drop i).findIdx (fun e => e.f0 == no) < (l.drop i).length then ((i + (l.drop i).findIdx (fun e => e.f0 == no) : Nat) : Int) else -1) := by
  intro d
  induction d with
  | zero =>
    intro i hi hd
    rw [List.drop_eq_nil_of_le (by omega)]
    exact Ev.end_ fun k => by simp only [spinnakerref30_Place.l0]; rw [_root_.if_neg (by omega)]; rfl
  | succ d ih =>
    intro i hi hd
    have h1 : i < l.length := by omega
    have hn := ih (i + 1) (by omega) (by omega)
    rw [drop_cons l i h1, List.findIdx_cons]
    by_cases e : l[i].f0 = no
    · have eb : (l[i].f0 == no) = true := by simpa using e
      rw [eb, cond_true, _root_.if_pos (by simp; omega), Nat.add_zero]
      exact Ev.end_ fun k => by
        simp only [spinnakerref30_Place.l0]
        rw [_root_.if_pos (by omega), _root_.if_pos (by omega), T43_nat _ _ h1, _root_.if_pos e]
    · have eb : (l[i].f0 == no) = false := by simpa using e
      rw [eb, cond_false]
      have hr : (if (l.drop (i + 1)).findIdx (fun e => e.f0 == no) + 1 < (l[i] :: l.drop (i + 1)).length then ((i + ((l.drop (i + 1)).findIdx (fun e => e.f0 == no) + 1) : Nat) : Int) else -1) = (if (l.drop (i + 1)).findIdx (fun e => e.f0 == no) < (l.drop (i + 1)).length then ((i + 1 + (l.drop (i + 1)).findIdx (fun e => e.f0 == no) : Nat) : Int) else -1) := by
        rw [List.length_cons]
        by_cases hc : (l.drop (i + 1)).findIdx (fun e => e.f0 == no) < (l.drop (i + 1)).length
        · rw [_root_.if_pos (by omega), _root_.if_pos hc]; omega
        · rw [_root_.if_neg (by omega), _root_.if_neg hc]
      rw [hr]
      exact Ev.by hn fun k => by
        simp only [spinnakerref30_Place.l0]
        rw [_root_.if_pos (by omega), _root_.if_pos (by omega), T43_nat _ _ h1, _root_.if_neg e, wrap_succ i (by omega)]
theorem place_ev (l : List S43) (hl : l.length ≤ 1000) (no : Int) : Ev (fun k => spinnakerref30_Place.f k l no) (ixf_e (fun e => e.f0 == no) (l.map conv)) := by
  have := place_l0 l hl no l.length 0 (by omega) (by omega)
  rw [List.drop_zero, Nat.zero_add] at this
  unfold ixf_e
  rw [List.findIdx_map, List.length_map]
  exact this
/-- Does the entry at place j let the one at place p go? -/
def lets (l : List S44) (p j : Nat) : Bool := decide (j = p) || (!(decide (j < p) && ((l.getD j z44).f1 == (l.getD p z44).f1)) && !decide ((l.getD j z44).f0 < (l.getD p z44).f3))
theorem lets_all (l : List S44) (p : Nat) (hp : p < l.length) : (List.range l.length).all (lets l p) = rdy l p := by
  rw [Bool.eq_iff_iff, List.all_eq_true]
  simp only [rdy, Bool.and_eq_true, Bool.not_eq_true', List.any_eq_false, beq_iff_eq, decide_eq_true_eq]
  constructor
  · intro h
    refine ⟨⟨fun e he => ?_, fun e he => ?_⟩, fun e he => ?_⟩
    · obtain ⟨j, hj, rfl⟩ := List.getElem_of_mem he
      have hj2 : j < p := by simp at hj; omega
      have h2 := h j (by simp; omega)
      simp only [lets, Bool.or_eq_true, decide_eq_true_eq, Bool.and_eq_true, Bool.not_eq_true', Bool.and_eq_false_iff, decide_eq_false_iff_not, beq_eq_false_iff_ne] at h2
      rcases h2 with h2 | ⟨h2, h3⟩
      · omega
      · rcases h2 with h2 | h2
        · omega
        · rw [List.getElem_take]
          have : l.getD j z44 = l[j] := by simp [show j < l.length by omega]
          rw [this] at h2
          exact h2
    · obtain ⟨j, hj, rfl⟩ := List.getElem_of_mem he
      have hj2 : j < p := by simp at hj; omega
      have h2 := h j (by simp; omega)
      simp only [lets, Bool.or_eq_true, decide_eq_true_eq, Bool.and_eq_true, Bool.not_eq_true', Bool.and_eq_false_iff, decide_eq_false_iff_not, beq_eq_false_iff_ne] at h2
      rcases h2 with h2 | ⟨h2, h3⟩
      · omega
      · rw [List.getElem_take]
        have : l.getD j z44 = l[j] := by simp [show j < l.length by omega]
        rw [this] at h3
        exact h3
    · obtain ⟨j, hj, rfl⟩ := List.getElem_of_mem he
      have hj2 : p + 1 + j < l.length := by simp at hj; omega
      have h2 := h (p + 1 + j) (by simp; omega)
      simp only [lets, Bool.or_eq_true, decide_eq_true_eq, Bool.and_eq_true, Bool.not_eq_true', Bool.and_eq_false_iff, decide_eq_false_iff_not, beq_eq_false_iff_ne] at h2
      rcases h2 with h2 | ⟨h2, h3⟩
      · omega
      · rw [List.getElem_drop]
        have : l.getD (p + 1 + j) z44 = l[p + 1 + j] := by simp [hj2]
        rw [this] at h3
        exact h3
  · rintro ⟨⟨h1, h2⟩, h3⟩ j hj
    have hjl : j < l.length := by simpa using hj
    have e : l.getD j z44 = l[j] := by simp [hjl]
    simp only [lets, Bool.or_eq_true, decide_eq_true_eq, Bool.and_eq_true, Bool.not_eq_true', Bool.and_eq_false_iff, decide_eq_false_iff_not, beq_eq_false_iff_ne]
    rcases Nat.lt_trichotomy j p with hc | hc | hc
    · have hm : l[j] ∈ l.take p := by
        have : (l.take p)[j]'(by simp; omega) = l[j] := List.getElem_take
        rw [← this]
        exact List.getElem_mem _
      rw [e]
      exact .inr ⟨.inr (h1 _ hm), h2 _ hm⟩
    · exact .inl hc
    · have hm : l[j] ∈ l.drop (p + 1) := by
        have : (l.drop (p + 1))[j - (p + 1)]'(by simp; omega) = l[p + 1 + (j - (p + 1))]'(by omega) := List.getElem_drop
        have e2 : p + 1 + (j - (p + 1)) = j := by omega
        simp only [e2] at this
        rw [← this]
        exact List.getElem_mem _
      rw [e]
      exact .inr ⟨.inl (by omega), h3 _ hm⟩
theorem conv_getD (l : List S43) (j : Nat) (h : j < l.length) : (l.map conv).getD j z44 = conv l[j] := by simp [h]
theorem ready_l0 (l : List S43) (hl : l.length ≤ 1000) (p : Nat) (hp : p < l.length) : ∀ d i, i ≤ l.length → l.length - i = d →
    Ev (fun k => spinnakerref30_Ready.l0 k l (p : Int) (i : Int)) (((List.range l.length).drop i).all (lets (l.map conv) p)) := by
  intro d
  induction d with
  | zero =>
    intro i hi hd
    rw [List.drop_eq_nil_of_le (by simp; omega)]
    exact Ev.end_ fun k => by simp only [spinnakerref30_Ready.l0]; rw [_root_.if_neg (by omega)]; rfl
  | succ d ih =>
    intro i hi hd
    have h1 : i < l.length := by omega
    have hn := ih (i + 1) (by omega) (by omega)
    rw [drop_cons (List.range l.length) i (by simpa using h1), List.getElem_range, List.all_cons]
    have hl1 : lets (l.map conv) p i = (decide (i = p) || (!(decide (i < p) && (l[i].f1 == l[p].f1)) && !decide (l[i].f0 < l[p].f3))) := by
      unfold lets
      rw [conv_getD l i h1, conv_getD l p hp]
      rfl
    rw [hl1]
    by_cases c1 : i = p
    · rw [decide_eq_true c1, Bool.true_or, Bool.true_and]
      exact Ev.by hn fun k => by
        simp only [spinnakerref30_Ready.l0]
        rw [_root_.if_pos (by omega), _root_.if_pos (by omega), wrap_succ i (by omega)]
    · rw [decide_eq_false c1, Bool.false_or]
      by_cases c2 : i < p
      · rw [decide_eq_true c2, Bool.true_and]
        by_cases c3 : l[i].f1 = l[p].f1
        · have : (l[i].f1 == l[p].f1) = true := by simpa using c3
          rw [this, Bool.not_true, Bool.false_and, Bool.false_and]
          exact Ev.end_ fun k => by
            simp only [spinnakerref30_Ready.l0]
            rw [_root_.if_pos (by omega), _root_.if_neg (by omega), _root_.if_pos (by omega), _root_.if_pos (by omega), _root_.if_pos (by omega), _root_.if_pos (by omega), T43_nat _ _ h1, T43_nat _ _ hp, _root_.if_pos c3]
        · have : (l[i].f1 == l[p].f1) = false := by simpa using c3
          rw [this, Bool.not_false, Bool.true_and]
          by_cases c4 : l[i].f0 < l[p].f3
          · rw [decide_eq_true c4, Bool.not_true, Bool.false_and]
            exact Ev.end_ fun k => by
              simp only [spinnakerref30_Ready.l0]
              rw [_root_.if_pos (by omega), _root_.if_neg (by omega), _root_.if_pos (by omega), _root_.if_pos (by omega), _root_.if_pos (by omega), _root_.if_pos (by omega), T43_nat _ _ h1, T43_nat _ _ hp, _root_.if_neg c3, _root_.if_pos c4]
          · rw [decide_eq_false c4, Bool.not_false, Bool.true_and]
            exact Ev.by hn fun k => by
              simp only [spinnakerref30_Ready.l0]
              rw [_root_.if_pos (by omega), _root_.if_neg (by omega), _root_.if_pos (by omega), _root_.if_pos (by omega), _root_.if_pos (by omega), _root_.if_pos (by omega), T43_nat _ _ h1, T43_nat _ _ hp, _root_.if_neg c3, _root_.if_neg c4, wrap_succ i (by omega)]
      · rw [decide_eq_false c2, Bool.false_and, Bool.not_false, Bool.true_and]
        by_cases c4 : l[i].f0 < l[p].f3
        · rw [decide_eq_true c4, Bool.not_true, Bool.false_and]
          exact Ev.end_ fun k => by
            simp only [spinnakerref30_Ready.l0]
            rw [_root_.if_pos (by omega), _root_.if_neg (by omega), _root_.if_neg (by omega), _root_.if_pos (by omega), _root_.if_pos (by omega), _root_.if_pos (by omega), T43_nat _ _ h1, T43_nat _ _ hp, _root_.if_pos c4]
        · rw [decide_eq_false c4, Bool.not_false, Bool.true_and]
          exact Ev.by hn fun k => by
            simp only [spinnakerref30_Ready.l0]
            rw [_root_.if_pos (by omega), _root_.if_neg (by omega), _root_.if_neg (by omega), _root_.if_pos (by omega), _root_.if_pos (by omega), _root_.if_pos (by omega), T43_nat _ _ h1, T43_nat _ _ hp, _root_.if_neg c4, wrap_succ i (by omega)]
/-- May the store of this number go? -/
def ready (x : List S44) (no : Int) : Bool := if ixf_e (fun e => e.f0 == no) x < 0 then false else rdy x (ixf_e (fun e => e.f0 == no) x).toNat
theorem refReady_ev (l : List S43) (hl : l.length ≤ 1000) (no : Int) : Ev (fun k => spinnakerref30_Ready.f k l no) (ready (l.map conv) no) := by
  unfold spinnakerref30_Ready.f
  refine Ev.bind (place_ev l hl no) ?_
  have hr := ixf_e_range (fun e => e.f0 == no) (l.map conv)
  unfold ready
  generalize ixf_e (fun e => e.f0 == no) (l.map conv) = n at hr ⊢
  by_cases c : n < 0
  · rw [_root_.if_pos c]
    exact Ev.if_pos c (Ev.now _)
  · rw [_root_.if_neg c]
    obtain ⟨p, rfl⟩ := Int.eq_ofNat_of_zero_le (by omega : 0 ≤ n)
    have hp : p < l.length := by rw [List.length_map] at hr; omega
    rw [Int.toNat_natCast]
    refine Ev.if_neg c ?_
    have := ready_l0 l hl p hp l.length 0 (by omega) (by omega)
    rw [List.drop_zero] at this
    rw [← lets_all _ p (by rw [List.length_map]; exact hp), List.length_map]
    exact this
theorem refWith_f (l : List Int) (c at_ : Int) (h : l.length ≤ 1000000) : spinnakerref29_With.f l c at_ = some (wi l c at_) := by
  unfold spinnakerref29_With.f wi
  simp only [Option.bind_some, List.nil_append, List.length_nil]
  rw [_root_.if_pos (by omega)]
  by_cases h1 : 0 ≤ c
  · rw [_root_.if_pos h1]
    by_cases h2 : c < (l.length : Int)
    · rw [_root_.if_pos h2, _root_.if_pos h1, _root_.if_pos (show 0 ≤ c ∧ c < (l.length : Int) from ⟨h1, h2⟩)]
      by_cases h3 : rd l c < at_
      · rw [_root_.if_pos h3]
        unfold mx
        rw [_root_.if_pos h3]
      · rw [_root_.if_neg h3]
        unfold mx
        rw [_root_.if_neg h3]
        obtain ⟨i, rfl⟩ := Int.eq_ofNat_of_zero_le h1
        have hi : i < l.length := by omega
        rw [rd_nat _ _ hi, Int.toNat_natCast]
        congr 1
        apply List.ext_getElem?
        intro j
        rw [List.getElem?_set]
        by_cases e : i = j
        · subst e; rw [_root_.if_pos rfl, _root_.if_pos hi, List.getElem?_eq_getElem hi]
        · rw [_root_.if_neg e]
    · rw [_root_.if_neg h2, _root_.if_neg (by omega)]
  · rw [_root_.if_neg h1, _root_.if_neg (by omega)]
theorem refCommit_l0 (l : List S43) (hl : l.length ≤ 50) (hs : slim (l.map conv)) (no at_ : Int) (p : Nat) (hp : p < l.length) : ∀ d i, i ≤ l.length → l.length - i = d →
    Ev (fun k => spinnakerref30_Commit.l0 k l no at_ (p : Int) (((((l.map conv).take i).eraseIdx p).map (upd no l[p].f1 at_)).map bk) (i : Int)) ((((l.map conv).eraseIdx p).map (upd no l[p].f1 at_)).map bk, l[p].f0, l[p].f1, l[p].f2, l[p].f3, wi l[p].f4 l[p].f1 at_) := by
  have hv : ∀ e ∈ l, e.f4.length ≤ 100 := fun e he => hs (conv e) (List.mem_map.2 ⟨e, he, rfl⟩)
  intro d
  induction d with
  | zero =>
    intro i hi hd
    have ht : (l.map conv).take i = l.map conv := List.take_of_length_le (by simp; omega)
    rw [ht]
    refine Ev.end_ fun k => ?_
    simp only [spinnakerref30_Commit.l0]
    rw [_root_.if_neg (by omega), _root_.if_pos (by omega), _root_.if_pos (by omega), T43_nat _ _ hp, refWith_f _ _ _ (by have := hv _ (List.getElem_mem hp); omega)]
    rfl
  | succ d ih =>
    intro i hi hd
    have h1 : i < l.length := by omega
    have hli := hv _ (List.getElem_mem h1)
    have hlen : (((l.map conv).take i).eraseIdx p).length ≤ 50 := by have := List.length_eraseIdx_le ((l.map conv).take i) p; simp at this; omega
    have hn := ih (i + 1) (by omega) (by omega)
    rw [erase_take (l.map conv) p i (by simpa using h1)] at hn
    refine Ev.by hn fun k => ?_
    simp only [spinnakerref30_Commit.l0]
    rw [_root_.if_pos (by omega), wrap_succ i (by omega), T43_nat _ _ h1, T43_nat _ _ hp]
    by_cases ep : i = p
    · rw [_root_.if_pos (by omega), _root_.if_pos ep]
    · rw [_root_.if_neg (by omega), _root_.if_neg ep, _root_.if_pos (by omega), List.map_append, List.map_append]
      have hc : (l.map conv)[i]'(by simpa using h1) = conv l[i] := by simp
      rw [hc]
      by_cases eb : l[i].f3 > no
      · rw [_root_.if_pos eb, _root_.if_pos (by omega), _root_.if_pos (by omega), refWith_f _ _ _ (by omega)]
        have hu : List.map bk (List.map (upd no l[p].f1 at_) [conv l[i]]) = [(⟨l[i].f0, l[i].f1, l[i].f2, l[i].f3, wi l[i].f4 l[p].f1 at_⟩ : S43)] := by simp [upd, conv, bk, eb]
        simp only [Option.bind_some]
        rw [_root_.if_pos (by simp; omega), hu]
      · rw [_root_.if_neg eb]
        have hu : List.map bk (List.map (upd no l[p].f1 at_) [conv l[i]]) = [(⟨l[i].f0, l[i].f1, l[i].f2, l[i].f3, l[i].f4⟩ : S43)] := by simp [upd, conv, bk, eb]
        rw [_root_.if_pos (by simp; omega), hu]
theorem commits_in (l : List S43) (hl : l.length ≤ 50) (hs : slim (l.map conv)) (no at_ : Int) : Ev (fun k => (buffer_Commit.f k (l.map conv) no at_).bind fun bt223 => ((spinnakerref30_Ready.f k l no).bind fun t235 => (if (bt223.2.2.2.2.2.2 != t235) = true then (spinnakerlaw30_BufferCommits.j0 k l no at_ bt223.1 bt223.2.2.2.2.2.2 true bt223.2.1 bt223.2.2.1 bt223.2.2.2.1 bt223.2.2.2.2.1 bt223.2.2.2.2.2.1) else ((spinnakerlaw30_back.f k (l.map conv)).bind fun t236 => ((spinnakerref30_All.f k t236 l).bind fun t239 => (spinnakerlaw30_BufferCommits.j0 k l no at_ bt223.1 bt223.2.2.2.2.2.2 (!t239) bt223.2.1 bt223.2.2.1 bt223.2.2.2.1 bt223.2.2.2.2.1 bt223.2.2.2.2.2.1)))))) true := by
  have hv : ∀ e ∈ l, e.f4.length ≤ 1000 := fun e he => by have := hs (conv e) (List.mem_map.2 ⟨e, he, rfl⟩); simp only [conv] at this; omega
  have hml : (l.map conv).length = l.length := List.length_map _
  have hready := refReady_ev l (by omega) no
  have hback := back_ev (l.map conv) (by omega)
  rw [bk_conv] at hback
  cases hr : ready (l.map conv) no with
  | false =>
    rw [hr] at hready
    have h1 : buffer_Ready.f (l.map conv) no = some false := by
      have : buffer_Ready.f (l.map conv) no = some (ready (l.map conv) no) := rfl
      rw [this, hr]
    have hc : Ev (fun k => buffer_Commit.f k (l.map conv) no at_) (([], 0, 0, 0, 0, [], false) : (List (S44)) × Int × Int × Int × Int × List Int × Bool) := by
      unfold buffer_Commit.f
      rw [h1]
      simp only [Option.bind_some]
      exact Ev.if_neg (by simp) (Ev.now _)
    refine Ev.bind hc ?_
    refine Ev.bind hready ?_
    refine Ev.if_neg (by simp) ?_
    refine Ev.bind hback ?_
    refine Ev.bind (all_ev l (by omega) hv) ?_
    refine Ev.step (fun k => spinnakerlaw30_BufferCommits.j0.eq_2 _ _ _ _ _ _ _ _ _ _ _ k) ?_
    refine Ev.if_neg (by simp) ?_
    refine Ev.if_neg (by simp) ?_
    refine Ev.if_pos (by simp) ?_
    refine Ev.bind (same_ev ⟨0, 0, 0, 0, []⟩ (by simp)) ?_
    exact Ev.if_pos rfl (Ev.bind awake30_ev (Ev.now _))
  | true =>
    rw [hr] at hready
    have hrg := ixf_e_range (fun e => e.f0 == no) (l.map conv)
    unfold ready at hr
    have hplace := place_ev l (by omega) no
    obtain ⟨n, hn⟩ : ∃ n, ixf_e (fun e => e.f0 == no) (l.map conv) = n := ⟨_, rfl⟩
    rw [hn] at hr hrg hplace
    by_cases c : n < 0
    · rw [_root_.if_pos c] at hr; cases hr
    rw [_root_.if_neg c] at hr
    obtain ⟨p, rfl⟩ := Int.eq_ofNat_of_zero_le (by omega : 0 ≤ n)
    rw [Int.toNat_natCast] at hr
    have hp : p < l.length := by omega
    have hpe : (l.map conv)[p]'(by omega) = conv l[p] := by simp
    have hc := commit_ev (l.map conv) (by omega) hs no at_ p (by omega) hn hr
    rw [hpe] at hc
    refine Ev.bind hc ?_
    refine Ev.bind hready ?_
    refine Ev.if_neg (by simp) ?_
    refine Ev.bind hback ?_
    refine Ev.bind (all_ev l (by omega) hv) ?_
    refine Ev.step (fun k => spinnakerlaw30_BufferCommits.j0.eq_2 _ _ _ _ _ _ _ _ _ _ _ k) ?_
    refine Ev.if_neg (by simp) ?_
    refine Ev.if_pos rfl ?_
    have href : Ev (fun k => spinnakerref30_Commit.f k l no at_) ((((l.map conv).eraseIdx p).map (upd no l[p].f1 at_)).map bk, l[p].f0, l[p].f1, l[p].f2, l[p].f3, wi l[p].f4 l[p].f1 at_) := by
      unfold spinnakerref30_Commit.f
      refine Ev.bind hplace ?_
      have := refCommit_l0 l hl hs no at_ p hp l.length 0 (by omega) (by omega)
      simpa using this
    refine Ev.bind href ?_
    have hol : (((l.map conv).eraseIdx p).map (upd no l[p].f1 at_)).length ≤ 50 := by
      have := List.length_eraseIdx_le (l.map conv) p
      rw [List.length_map]
      omega
    refine Ev.bind (back_ev _ (by show (((l.map conv).eraseIdx p).map (upd no l[p].f1 at_)).length ≤ 1000; omega)) ?_
    have hos : ∀ e ∈ (((l.map conv).eraseIdx p).map (upd no l[p].f1 at_)).map bk, e.f4.length ≤ 1000 := by
      intro e he
      obtain ⟨y, hy, rfl⟩ := List.mem_map.1 he
      obtain ⟨z, hz, rfl⟩ := List.mem_map.1 hy
      have h4 := (upd_core no l[p].f1 at_ z).2.2.2.2
      have := hs z (List.mem_of_mem_eraseIdx hz)
      simp only [bk]
      omega
    refine Ev.bind (all_ev ((((l.map conv).eraseIdx p).map (upd no l[p].f1 at_)).map bk) (by rw [List.length_map]; omega) hos) ?_
    refine Ev.if_pos rfl ?_
    have hpv := hv l[p] (List.getElem_mem hp)
    refine Ev.bind (same_ev ⟨l[p].f0, l[p].f1, l[p].f2, l[p].f3, wi l[p].f4 l[p].f1 at_⟩ (by show (wi l[p].f4 l[p].f1 at_).length ≤ 1000; rw [wi_len]; exact hpv)) ?_
    exact Ev.if_pos rfl (Ev.bind awake30_ev (Ev.now _))
theorem BufferCommits : spinnakerlaw30_BufferCommits.Pure := by
  intro l no at_ hok _ _
  apply Ev.rounds
  unfold spinnakerlaw30_BufferCommits.f
  obtain ⟨x, b, hx, hb⟩ := own_ev l hok.1
  refine Ev.bind hx ?_
  cases b with
  | false => exact Ev.if_neg (by simp) (Ev.bind awake30_ev (Ev.now _))
  | true =>
    obtain ⟨hl, hxe, hs⟩ := hb rfl
    subst hxe
    exact Ev.if_pos rfl (commits_in l hl hs no at_)

end Go.Proofs.Ytdnphnicdhcafaa.Pure
