/- If no store's bound exceeds its number and the numbers rise, the oldest store may go, again and again, in order, till none is left. For every buffer that is read as data. -/
import Derived.Test.YtdnphnicdhcafaaPBufferGoesx3
namespace Go.Proofs.Ytdnphnicdhcafaa.Pure
open Go.RowKit Go.Proofs.Ytdnphnicdhcafaa.PBufferGoes Go.Proofs.YtdnphnicdhcafaaW.PrintWords Go.Proofs.YtdnphnicdhcafaaW.PrintLast Go.Proofs.YtdnphnicdhcafaaW.PrintMore

set_option linter.unusedVariables false
set_option linter.unusedSimpArgs false
theorem rd_nat (xs : List Int) (i : Nat) (h : i < xs.length) : rd xs (i : Int) = xs[i] := by
  simp [rd, h]
theorem rd_getD (xs : List Int) (i : Nat) : rd xs (i : Int) = xs.getD i 0 := by simp [rd]
theorem wrap_succ (i : Nat) (h : i ≤ 4611686018427387904) : wrap64 ((i : Int) + 1) = ((i + 1 : Nat) : Int) := by
  unfold wrap64
  omega
theorem mx_self (a : Int) : mx a a = a := by unfold mx; split <;> rfl
/-- One round: by an equation for every number of rounds. -/
theorem Ev.by {α : Type} {g f : Nat → Option α} {r : α} (k : Ev f r) (h : ∀ k, g (k + 1) = f k) : Ev g r := Ev.step h k
theorem Ev.end_ {α : Type} {g : Nat → Option α} {r : α} (h : ∀ k, g (k + 1) = some r) : Ev g r := Ev.step (f := fun _ => some r) h (Ev.now r)
theorem Ev.if_pos {α : Type} {c : Prop} [Decidable c] {g f : Nat → Option α} {r : α} (hc : c) (h : Ev g r) : Ev (fun k => if c then g k else f k) r := by
  exact Ev.congr (fun _ => _root_.if_pos hc) h
theorem Ev.if_neg {α : Type} {c : Prop} [Decidable c] {g f : Nat → Option α} {r : α} (hc : ¬ c) (h : Ev f r) : Ev (fun k => if c then g k else f k) r := by
  exact Ev.congr (fun _ => _root_.if_neg hc) h
theorem drop_cons {α : Type} (l : List α) (i : Nat) (h : i < l.length) : l.drop i = l[i] :: l.drop (i + 1) := List.drop_eq_getElem_cons h

/-- A view that has seen more of a cell. -/
def wi (l : List Int) (c at_ : Int) : List Int := if 0 ≤ c ∧ c < (l.length : Int) then l.set c.toNat (mx (rd l c) at_) else l
theorem wi_len (l : List Int) (c at_ : Int) : (wi l c at_).length = l.length := by unfold wi; split <;> simp
theorem with_f (l : List Int) (c at_ : Int) (h : l.length ≤ 1000000) : view_With.f l c at_ = some (wi l c at_) := by
  unfold view_With.f slices_Clone_int_int.f wi
  rw [_root_.if_pos (by omega)]
  simp only [Option.bind_some]
  by_cases h1 : 0 ≤ c
  · rw [_root_.if_pos h1]
    by_cases h2 : c < (l.length : Int)
    · rw [_root_.if_pos h2, _root_.if_pos h1, _root_.if_pos ⟨h1, h2⟩]
    · rw [_root_.if_neg h2, _root_.if_neg (by omega)]
  · rw [_root_.if_neg h1, _root_.if_neg (by omega)]

theorem T44_nat (l : List S44) (i : Nat) (h : i < l.length) : rd_T44 l (i : Int) = l[i] := by simp [rd_T44, h]
theorem T43_nat (l : List S43) (i : Nat) (h : i < l.length) : rd_T43 l (i : Int) = l[i] := by simp [rd_T43, h]
/-- The views are not too long. -/
def slim (l : List S44) : Prop := ∀ e ∈ l, e.f4.length ≤ 100
/-- A stored entry, as the document's. -/
def conv (e : S43) : S44 := ⟨e.f0, e.f1, e.f2, e.f3, e.f4⟩
theorem own_in (l : List S43) (hl : l.length ≤ maxLen) : ∀ d i, i ≤ l.length → i ≤ 50 → min l.length 50 - i = d → (∀ e ∈ l.take i, e.f4.length ≤ 100) →
    ∃ x b, Ev (fun k => spinnakerlaw30_own.l0 k l ((l.take i).map conv) (i : Int)) (x, b) ∧ (b = true → l.length ≤ 50 ∧ x = l.map conv ∧ slim x) := by
  intro d
  induction d with
  | zero =>
    intro i hi h50 hd hs
    refine ⟨(l.take i).map conv, decide ((l.length : Int) ≤ 50), ?_, ?_⟩
    · refine Ev.step (fun k => spinnakerlaw30_own.l0.eq_2 _ _ _ k) ?_
      by_cases h1 : (i : Int) < l.length
      · refine Ev.if_pos h1 ?_
        rw [decide_eq_false (by omega)]
        exact Ev.end_ fun k => by simp only [spinnakerlaw30_own.j1]; rfl
      · refine Ev.if_neg h1 ?_
        exact Ev.end_ fun k => by simp only [spinnakerlaw30_own.j1]; rfl
    · intro hb
      have hle : l.length ≤ 50 := by have := of_decide_eq_true hb; omega
      have ht : l.take i = l := List.take_of_length_le (by omega)
      rw [ht] at hs ⊢
      refine ⟨hle, rfl, fun e he => ?_⟩
      obtain ⟨y, hy, rfl⟩ := List.mem_map.1 he
      exact hs y hy
  | succ d ih =>
    intro i hi h50 hd hs
    have h1 : i < l.length := by omega
    by_cases hv : l[i].f4.length > 100
    · refine ⟨[], false, ?_, fun h => by cases h⟩
      refine Ev.step (fun k => spinnakerlaw30_own.l0.eq_2 _ _ _ k) ?_
      refine Ev.if_pos (by omega) ?_
      rw [decide_eq_true (by omega)]
      refine Ev.end_ fun k => ?_
      simp only [spinnakerlaw30_own.j1]
      rw [_root_.if_pos trivial, _root_.if_pos (by omega), _root_.if_pos (by omega), T43_nat _ _ h1, _root_.if_pos (by omega)]
    · have ht : l.take (i + 1) = l.take i ++ [l[i]] := List.take_succ_eq_append_getElem h1
      obtain ⟨x, b, hx, hb⟩ := ih (i + 1) (by omega) (by omega) (by omega) (by
        intro e he
        rw [ht] at he
        rcases List.mem_append.1 he with he | he
        · exact hs e he
        · have : e = l[i] := by simpa using he
          rw [this]; omega)
      refine ⟨x, b, ?_, hb⟩
      refine Ev.step (fun k => spinnakerlaw30_own.l0.eq_2 _ _ _ k) ?_
      refine Ev.if_pos (by omega) ?_
      rw [decide_eq_true (by omega)]
      refine Ev.by hx fun k => ?_
      simp only [spinnakerlaw30_own.j1]
      rw [_root_.if_pos trivial, _root_.if_pos (by omega), _root_.if_pos (by omega), T43_nat _ _ h1, _root_.if_neg (by omega)]
      simp only [Option.bind_some, List.nil_append, List.length_nil]
      rw [_root_.if_pos (by omega), _root_.if_pos (by simp; omega), wrap_succ i (by omega), ht, List.map_append]
      rfl
theorem own_ev (l : List S43) (hl : l.length ≤ maxLen) : ∃ x b, Ev (fun k => spinnakerlaw30_own.f k l) (x, b) ∧ (b = true → l.length ≤ 50 ∧ x = l.map conv ∧ slim x) := by
  have := own_in l hl (min l.length 50) 0 (by omega) (by omega) (by omega) (by simp)
  simpa [spinnakerlaw30_own.f] using this
/-- Do the numbers rise? -/
def rise : List S44 → Bool
  | [] => true
  | [_] => true
  | a :: b :: l => decide (a.f0 < b.f0) && rise (b :: l)
theorem rise_drop (l : List S44) (i : Nat) (h0 : 0 < i) (h : i < l.length) : rise (l.drop (i - 1)) = (decide (l[i - 1].f0 < l[i].f0) && rise (l.drop i)) := by
  have h1 : i - 1 < l.length := by omega
  rw [drop_cons l (i - 1) h1]
  have e : i - 1 + 1 = i := by omega
  rw [e, drop_cons l i h]
  rfl
theorem may_l0 (l : List S44) (hl : l.length ≤ 1000) : ∀ d i, i ≤ l.length → l.length - i = d → Ev (fun k => buffer_May.l0 k l (l.length : Int) (i : Int)) (rise (l.drop (i - 1))) := by
  intro d
  induction d with
  | zero =>
    intro i hi hd
    have hr : rise (l.drop (i - 1)) = true := by
      have : (l.drop (i - 1)).length ≤ 1 := by rw [List.length_drop]; omega
      cases hq : l.drop (i - 1) with
      | nil => rfl
      | cons a t => cases t with
        | nil => rfl
        | cons b t => rw [hq] at this; simp at this
    rw [hr]
    exact Ev.end_ fun k => by simp only [buffer_May.l0]; rw [_root_.if_neg (by omega)]
  | succ d ih =>
    intro i hi hd
    have h1 : i < l.length := by omega
    have hn := ih (i + 1) (by omega) (by omega)
    rw [Nat.add_sub_cancel] at hn
    by_cases h0 : 0 < i
    · rw [rise_drop l i h0 h1]
      have hw : wrap64 ((i : Int) - 1) = ((i - 1 : Nat) : Int) := by unfold wrap64; omega
      by_cases e : l[i].f0 ≤ l[i - 1].f0
      · rw [decide_eq_false (by omega), Bool.false_and]
        refine Ev.end_ fun k => ?_
        simp only [buffer_May.l0]
        rw [_root_.if_pos (by omega), _root_.if_pos (by omega), _root_.if_pos (by omega), _root_.if_pos (by omega), hw, _root_.if_pos (by omega), _root_.if_pos (by omega), T44_nat _ _ h1, T44_nat _ _ (by omega), _root_.if_pos e]
      · rw [decide_eq_true (by omega), Bool.true_and]
        refine Ev.by hn fun k => ?_
        simp only [buffer_May.l0]
        rw [_root_.if_pos (by omega), _root_.if_pos (by omega), _root_.if_pos (by omega), _root_.if_pos (by omega), hw, _root_.if_pos (by omega), _root_.if_pos (by omega), T44_nat _ _ h1, T44_nat _ _ (by omega), _root_.if_neg e, wrap_succ i (by omega)]
    · have hz : i = 0 := by omega
      subst hz
      refine Ev.by hn fun k => ?_
      simp only [buffer_May.l0]
      rw [_root_.if_pos (by omega), _root_.if_neg (by omega), wrap_succ 0 (by omega)]
theorem may_ev (l : List S44) (hl : l.length ≤ 1000) : Ev (fun k => buffer_May.f k l) (rise l) := by
  have := may_l0 l hl l.length 0 (by omega) (by omega)
  simpa [buffer_May.f] using this
theorem awake30_ev : Ev (fun k => spinnakerlaw30_awake.f k) true := by
  unfold spinnakerlaw30_awake.f
  simp only [Option.bind_some]
  have h1 : buffer_Ready.f [(⟨1, 0, 0, 0, []⟩ : S44), ⟨2, 1, 0, 2, []⟩] 1 = some true := by rfl
  have h2 : buffer_Ready.f [(⟨1, 0, 0, 0, []⟩ : S44), ⟨2, 1, 0, 2, []⟩] 2 = some false := by rfl
  rw [h1, h2]
  simp only [Option.bind_some]
  refine Ev.if_pos (by simp) ?_
  refine Ev.if_neg (by simp) ?_
  have := may_ev [(⟨1, 0, 0, 0, []⟩ : S44), ⟨2, 1, 0, 2, []⟩] (by decide)
  exact Ev.bind this (Ev.now _)
/-- An entry of which more of a cell was seen, if it waits for the one that goes. -/
def upd (no cell at_ : Int) (e : S44) : S44 := if e.f3 > no then ⟨e.f0, e.f1, e.f2, e.f3, wi e.f4 cell at_⟩ else e
theorem upd_core (no cell at_ : Int) (e : S44) : (upd no cell at_ e).f0 = e.f0 ∧ (upd no cell at_ e).f1 = e.f1 ∧ (upd no cell at_ e).f2 = e.f2 ∧ (upd no cell at_ e).f3 = e.f3 ∧ (upd no cell at_ e).f4.length = e.f4.length := by
  unfold upd
  split
  · exact ⟨rfl, rfl, rfl, rfl, wi_len _ _ _⟩
  · exact ⟨rfl, rfl, rfl, rfl, rfl⟩
theorem erase_take (l : List S44) (p i : Nat) (h : i < l.length) : ((l.take (i + 1)).eraseIdx p) = if i = p then (l.take i).eraseIdx p else (l.take i).eraseIdx p ++ [l[i]] := by
  rw [List.take_succ_eq_append_getElem h]
  by_cases e : i = p
  · subst e
    have ht : (List.take i l).length = i := by rw [List.length_take]; omega
    have h2 : (List.take i l).eraseIdx i = List.take i l := List.eraseIdx_of_length_le (by omega)
    rw [_root_.if_pos rfl, List.eraseIdx_append_of_length_le (by omega), ht, Nat.sub_self, h2]
    simp
  · rw [_root_.if_neg e]
    rcases Nat.lt_or_ge p i with h2 | h2
    · rw [List.eraseIdx_append_of_lt_length (by simp; omega)]
    · rw [List.eraseIdx_append_of_length_le (by simp; omega), List.eraseIdx_of_length_le (by simp; omega)]
      rw [List.eraseIdx_of_length_le (by simp; omega)]
theorem commit_l0 (l : List S44) (hl : l.length ≤ 50) (hs : slim l) (no at_ : Int) (p : Nat) (e : S44) (he : e.f4.length ≤ 100) : ∀ d i, i ≤ l.length → l.length - i = d →
    Ev (fun k => buffer_Commit.l0 k no at_ (p : Int) (((l.take i).eraseIdx p).map (upd no e.f1 at_)) l (l.length : Int) (i : Int) e.f0 e.f1 e.f2 e.f3 e.f4) ((l.eraseIdx p).map (upd no e.f1 at_), e.f0, e.f1, e.f2, e.f3, wi e.f4 e.f1 at_, true) := by
  intro d
  induction d with
  | zero =>
    intro i hi hd
    have ht : l.take i = l := List.take_of_length_le (by omega)
    rw [ht]
    refine Ev.end_ fun k => ?_
    simp only [buffer_Commit.l0]
    rw [_root_.if_neg (by omega)]
    simp only [buffer_Entry_sees.f, with_f e.f4 e.f1 at_ (by omega), Option.bind_some]
  | succ d ih =>
    intro i hi hd
    have h1 : i < l.length := by omega
    have hli : l[i].f4.length ≤ 100 := hs _ (List.getElem_mem h1)
    have hlen : ((l.take i).eraseIdx p).length ≤ 50 := by have := List.length_eraseIdx_le (l.take i) p; simp at this; omega
    have hn := ih (i + 1) (by omega) (by omega)
    rw [erase_take l p i h1] at hn
    refine Ev.by hn fun k => ?_
    simp only [buffer_Commit.l0]
    rw [_root_.if_pos (by omega), _root_.if_pos (by omega), _root_.if_pos (by omega), wrap_succ i (by omega), T44_nat _ _ h1]
    by_cases ep : i = p
    · rw [_root_.if_pos (by omega), _root_.if_pos ep]
    · rw [_root_.if_neg (by omega), _root_.if_neg ep, List.map_append]
      by_cases eb : l[i].f3 > no
      · rw [_root_.if_pos eb]
        have hu : List.map (upd no e.f1 at_) [l[i]] = [(⟨l[i].f0, l[i].f1, l[i].f2, l[i].f3, wi l[i].f4 e.f1 at_⟩ : S44)] := by simp [upd, eb]
        simp only [buffer_Entry_sees.f, with_f l[i].f4 e.f1 at_ (by omega), Option.bind_some]
        rw [_root_.if_pos (by simp; omega), hu]
      · rw [_root_.if_neg eb]
        have hu : List.map (upd no e.f1 at_) [l[i]] = [(⟨l[i].f0, l[i].f1, l[i].f2, l[i].f3, l[i].f4⟩ : S44)] := by simp [upd, eb]
        simp only [buffer_Entry_copied.f, slices_Clone_int_int.f]
        rw [_root_.if_pos (by omega)]
        simp only [Option.bind_some]
        rw [_root_.if_pos (by simp; omega), hu]
theorem commit_ev (l : List S44) (hl : l.length ≤ 50) (hs : slim l) (no at_ : Int) (p : Nat) (hp : p < l.length) (hf : ixf_e (fun x => x.f0 == no) l = (p : Int)) (hr : rdy l p = true) :
    Ev (fun k => buffer_Commit.f k l no at_) ((l.eraseIdx p).map (upd no l[p].f1 at_), l[p].f0, l[p].f1, l[p].f2, l[p].f3, wi l[p].f4 l[p].f1 at_, true) := by
  have h1 : buffer_Ready.f l no = some true := by
    unfold buffer_Ready.f
    rw [hf, _root_.if_neg (by omega), Int.toNat_natCast, hr]
  have h2 : buffer_find.f l no = some (p : Int) := by
    unfold buffer_find.f
    rw [hf]
  unfold buffer_Commit.f
  rw [h1, h2]
  simp only [Option.bind_some]
  refine Ev.if_pos (by simp) ?_
  refine Ev.if_pos (by omega) ?_
  refine Ev.if_pos (by omega) ?_
  rw [T44_nat _ _ hp]
  have := commit_l0 l hl hs no at_ p l[p] (hs _ (List.getElem_mem hp)) l.length 0 (by omega) (by omega)
  simpa using this

/-- The same stores but for their views. -/
def core (e : S44) : Int × Int × Int × Int := (e.f0, e.f1, e.f2, e.f3)
theorem rise_head (a : S44) (l : List S44) (h : rise (a :: l) = true) : ∀ b ∈ l, a.f0 < b.f0 := by
  induction l generalizing a with
  | nil => intro b hb; cases hb
  | cons c l ih =>
    simp only [rise, Bool.and_eq_true, decide_eq_true_eq] at h
    intro b hb
    rcases List.mem_cons.1 hb with rfl | hb
    · exact h.1
    · have := ih c h.2 b hb
      omega
theorem rise_tail (a : S44) (l : List S44) (h : rise (a :: l) = true) : rise l = true := by
  cases l with
  | nil => rfl
  | cons b l => simp only [rise, Bool.and_eq_true] at h; exact h.2
theorem rise_core (l l' : List S44) (h : l.map core = l'.map core) : rise l = rise l' := by
  induction l generalizing l' with
  | nil => cases l' with
    | nil => rfl
    | cons b t => simp at h
  | cons a l ih =>
    cases l' with
    | nil => simp at h
    | cons b t =>
      simp only [List.map_cons, List.cons.injEq] at h
      have h0 := ih t h.2
      cases l with
      | nil => cases t with
        | nil => rfl
        | cons c t => simp at h
      | cons c l => cases t with
        | nil => simp at h
        | cons d t =>
          have e1 : a.f0 = b.f0 := congrArg (·.1) h.1
          simp only [List.map_cons, List.cons.injEq] at h
          have e2 : c.f0 = d.f0 := congrArg (·.1) h.2.1
          simp only [rise]
          rw [e1, e2, h0]
theorem upd_map_core (no c a : Int) (l : List S44) : (l.map (upd no c a)).map core = l.map core := by
  rw [List.map_map]
  refine List.map_congr_left fun e _ => ?_
  obtain ⟨h0, h1, h2, h3, _⟩ := upd_core no c a e
  simp only [Function.comp_apply, core, h0, h1, h2, h3]
theorem upd_slim (no c a : Int) (l : List S44) (h : slim l) : slim (l.map (upd no c a)) := by
  intro e he
  obtain ⟨y, hy, rfl⟩ := List.mem_map.1 he
  rw [(upd_core no c a y).2.2.2.2]
  exact h y hy
theorem goes_out (l : List S43) (x : List S44) : Ev (fun k => spinnakerlaw30_BufferGoes.j0 k l x true) true := by
  refine Ev.step (fun k => spinnakerlaw30_BufferGoes.j0.eq_2 _ _ _ k) ?_
  exact Ev.if_pos rfl (Ev.bind awake30_ev (Ev.now _))
theorem goes_l1 (l : List S43) (hl : l.length ≤ 50) (hb : ∀ e ∈ l, e.f3 ≤ e.f0) : ∀ d i (x : List S44), i ≤ l.length → l.length - i = d → x.map core = (l.drop i).map (fun e => core (conv e)) → slim x → rise x = true →
    Ev (fun k => spinnakerlaw30_BufferGoes.l1 k l x (i : Int)) true := by
  intro d
  induction d with
  | zero =>
    intro i x hi hd hx hs hr
    have hx0 : x = [] := by
      rw [List.drop_eq_nil_of_le (by omega)] at hx
      simpa using hx
    subst hx0
    refine Ev.step (fun k => spinnakerlaw30_BufferGoes.l1.eq_2 _ _ _ k) ?_
    refine Ev.if_neg (by omega) ?_
    refine Ev.if_pos (by simp) ?_
    exact Ev.bind awake30_ev (Ev.now _)
  | succ d ih =>
    intro i x hi hd hx hs hr
    have h1 : i < l.length := by omega
    rw [drop_cons l i h1] at hx
    cases x with
    | nil => simp at hx; omega
    | cons a t =>
      simp only [List.map_cons, List.cons.injEq] at hx
      obtain ⟨ha, ht⟩ := hx
      have hat : (a :: t).length ≤ 50 := by
        have := congrArg List.length ht
        simp at this
        simp
        omega
      have e0 : a.f0 = l[i].f0 := congrArg (·.1) ha
      have e2 : a.f2 = l[i].f2 := congrArg (·.2.2.1) ha
      have e3 : a.f3 = l[i].f3 := congrArg (·.2.2.2) ha
      have hbi := hb l[i] (List.getElem_mem h1)
      have hhd := rise_head a t hr
      have hf : ixf_e (fun x => x.f0 == a.f0) (a :: t) = ((0 : Nat) : Int) := ixf_e_hit _ _ 0 (by simp) (by simp) (fun j hj => absurd hj (Nat.not_lt_zero _))
      have hrd : rdy (a :: t) 0 = true := by
        simp only [rdy, List.take_zero, List.any_nil, Bool.not_false, Bool.true_and, List.drop_succ_cons, List.drop_zero, List.getD_cons_zero, Bool.not_eq_true', List.any_eq_false, decide_eq_true_eq]
        intro y hy
        have := hhd y hy
        omega
      have hc := commit_ev (a :: t) hat hs a.f0 (i : Int) 0 (by simp) hf hrd
      have hn := ih (i + 1) ((List.eraseIdx (a :: t) 0).map (upd a.f0 a.f1 (i : Int))) (by omega) (by omega) (by rw [upd_map_core]; exact ht) (upd_slim _ _ _ _ (fun e he => hs e (List.mem_cons_of_mem _ he))) (by
        rw [rise_core _ t (by rw [upd_map_core]; rfl)]; exact rise_tail a t hr)
      refine Ev.step (fun k => spinnakerlaw30_BufferGoes.l1.eq_2 _ _ _ k) ?_
      refine Ev.if_pos (by omega) ?_
      refine Ev.if_neg (by first | (simp; done) | (simp; omega)) ?_
      refine Ev.if_pos (by first | (simp; done) | (simp; omega)) ?_
      have hz : (rd_T44 (a :: t) 0).f0 = a.f0 := by rfl
      rw [hz]
      refine Ev.bind hc ?_
      refine Ev.if_pos rfl ?_
      refine Ev.if_pos (by omega) ?_
      rw [T43_nat _ _ h1, wrap_succ i (by omega)]
      refine Ev.if_pos e0 ?_
      refine Ev.if_pos e2 ?_
      exact hn
theorem goes_l0 (l : List S43) (hl : l.length ≤ 50) (x : List S44) (hx : x = l.map conv) (hs : slim x) (hr : rise x = true) : ∀ d i, i ≤ l.length → l.length - i = d → (∀ e ∈ l.take i, e.f3 ≤ e.f0) →
    Ev (fun k => spinnakerlaw30_BufferGoes.l0 k l x (i : Int)) true := by
  intro d
  induction d with
  | zero =>
    intro i hi hd hb
    rw [List.take_of_length_le (by omega)] at hb
    refine Ev.step (fun k => spinnakerlaw30_BufferGoes.l0.eq_2 _ _ _ k) ?_
    refine Ev.if_neg (by omega) ?_
    exact goes_l1 l hl hb l.length 0 x (by omega) (by omega) (by rw [hx, List.map_map]; rfl) hs hr
  | succ d ih =>
    intro i hi hd hb
    have h1 : i < l.length := by omega
    refine Ev.step (fun k => spinnakerlaw30_BufferGoes.l0.eq_2 _ _ _ k) ?_
    refine Ev.if_pos (by omega) ?_
    refine Ev.if_pos (by omega) ?_
    rw [T43_nat _ _ h1, wrap_succ i (by omega)]
    by_cases e : l[i].f3 > l[i].f0
    · exact Ev.if_pos e (Ev.bind awake30_ev (Ev.now _))
    · refine Ev.if_neg e (ih (i + 1) (by omega) (by omega) ?_)
      intro y hy
      rw [List.take_succ_eq_append_getElem h1] at hy
      rcases List.mem_append.1 hy with hy | hy
      · exact hb y hy
      · have : y = l[i] := by simpa using hy
        rw [this]; omega
theorem BufferGoes : spinnakerlaw30_BufferGoes.Pure := by
  intro l hok
  apply Ev.rounds
  unfold spinnakerlaw30_BufferGoes.f
  obtain ⟨x, b, hx, hb⟩ := own_ev l hok.1
  refine Ev.bind hx ?_
  cases b with
  | false => exact Ev.if_neg (by simp) (goes_out l x)
  | true =>
    obtain ⟨hl, hxe, hs⟩ := hb rfl
    refine Ev.if_pos rfl ?_
    refine Ev.bind (may_ev x (by rw [hxe, List.length_map]; omega)) ?_
    cases hr : rise x with
    | false => exact goes_out l x
    | true =>
      refine Ev.step (fun k => spinnakerlaw30_BufferGoes.j0.eq_2 _ _ _ k) ?_
      refine Ev.if_neg (by decide) ?_
      exact goes_l0 l hl x hxe hs hr l.length 0 (by omega) (by omega) (by simp)

end Go.Proofs.Ytdnphnicdhcafaa.Pure
