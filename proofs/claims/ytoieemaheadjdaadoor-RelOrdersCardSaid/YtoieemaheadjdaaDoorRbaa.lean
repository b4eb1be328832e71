/- The document's Leads tells the ways of one step or more; Rounds, whether one leads back. slices.Index over what is left finds the one that is picked. Written by an AI agent in this seat's session; checked by Lean alone. No axiom, no sorry. -/
import Derived.Test.YtoieemaheadjdaaDoorRelP
import Derived.Test.YtoieemaheadjdaaDoorEvalM
import Derived.Test.YtoieemaheadjdaaDoorRbz
namespace Go.Proofs.YtoieemaheadjdaaDoor.PRel
open Go.RowKit Go.Proofs.YtoieemaheadjdaaDoorW.PrintWords Go.Proofs.YtoieemaheadjdaaDoorW.PrintLast Go.Proofs.YtoieemaheadjdaaDoorW.PrintMore Go.Proofs.YtoieemaheadjdaaDoor.PRelOrders
set_option linter.unusedVariables false
set_option linter.unusedSimpArgs false
namespace Lds
theorem workL_mono (At : List (List Bool)) (N : Nat) (a : Int) : ∀ k out todo, LeO (workL At N a k out todo) (workL At N a (k + 1) out todo)
  | 0, _, _ => fun r h => by cases h
  | k + 1, out, [] => LeO.refl _
  | k + 1, out, x :: rest => by
    unfold workL
    exact LeO.ite (workL_mono At N a k _ _) (LeO.refl _)
theorem leadL_mono (At : List (List Bool)) (N k : Nat) : ∀ d a out, LeO (leadL At N k d a out) (leadL At N (k + 1) d a out)
  | 0, _, _ => LeO.refl _
  | d + 1, a, out => by
    unfold leadL
    exact LeO.bind (workL_mono At N _ k _ _) fun _ => leadL_mono At N k d _ _
theorem leadsF_mono (k N : Nat) (At : List (List Bool)) : LeO (leadsF k N At) (leadsF (k + 1) N At) := leadL_mono At N k N 0 _
def unm (out : List (List Bool)) (a : Nat) : Nat := unmet (out.getD a [])
theorem rowL_spec (At : List (List Bool)) {N a : Nat} (ha : a < N) (x : Nat) : ∀ d b out todo, b + d = N → Shape N out →
    Shape N (rowL At (a : Int) (x : Int) d b out todo).1 ∧
    (∀ c y, at2 (rowL At (a : Int) (x : Int) d b out todo).1 c y = true ↔ at2 out c y = true ∨ (c = a ∧ b ≤ y ∧ y < N ∧ at2 At x y = true)) ∧
    (∀ z, z ∈ (rowL At (a : Int) (x : Int) d b out todo).2 ↔ z ∈ todo ∨ ∃ y : Nat, z = (y : Int) ∧ b ≤ y ∧ y < N ∧ at2 At x y = true ∧ at2 out a y = false) ∧
    (rowL At (a : Int) (x : Int) d b out todo).2.length + unm (rowL At (a : Int) (x : Int) d b out todo).1 a = todo.length + unm out a := by
  intro d
  induction d with
  | zero =>
    intro b out todo hb hs
    refine ⟨hs, fun c y => ⟨.inl, fun h => h.elim id (fun h => by omega)⟩, fun z => ⟨.inl, fun h => h.elim id (fun ⟨y, h⟩ => by omega)⟩, rfl⟩
  | succ d ih =>
    intro b out todo hb hs
    rw [rowL, atB_nat, atB_nat]
    have hbN : b < N := by omega
    cases h1 : at2 At x b with
    | false =>
      obtain ⟨i1, i2, i3, i4⟩ := ih (b + 1) out todo (by omega) hs
      rw [if_neg (by simp)]
      refine ⟨i1, fun c y => (i2 c y).trans ⟨fun h => h.imp id (fun ⟨q, h⟩ => ⟨q, by omega, h.2⟩), fun h => h.imp id (fun ⟨q, h2, h3, h4⟩ => ⟨q, ?_, h3, h4⟩)⟩, fun z => (i3 z).trans ⟨fun h => h.imp id (fun ⟨y, q, h⟩ => ⟨y, q, by omega, h.2⟩), fun h => h.imp id (fun ⟨y, q, h2, h3, h4, h5⟩ => ⟨y, q, ?_, h3, h4, h5⟩)⟩, i4⟩
      · rcases Nat.lt_or_ge b y with h | h
        · exact h
        · obtain rfl : y = b := by omega
          rw [h1] at h4; cases h4
      · rcases Nat.lt_or_ge b y with h | h
        · exact h
        · obtain rfl : y = b := by omega
          rw [h1] at h4; cases h4
    | true =>
      cases h2 : at2 out a b with
      | true =>
        obtain ⟨i1, i2, i3, i4⟩ := ih (b + 1) out todo (by omega) hs
        rw [if_neg (by simp)]
        refine ⟨i1, fun c y => (i2 c y).trans ⟨fun h => h.imp id (fun ⟨q, h⟩ => ⟨q, by omega, h.2⟩), fun h => ?_⟩, fun z => (i3 z).trans ⟨fun h => h.imp id (fun ⟨y, q, h⟩ => ⟨y, q, by omega, h.2⟩), fun h => h.imp id (fun ⟨y, q, h2', h3, h4, h5⟩ => ⟨y, q, ?_, h3, h4, h5⟩)⟩, i4⟩
        · rcases h with h | ⟨rfl, h3, h4, h5⟩
          · exact .inl h
          · rcases Nat.lt_or_ge b y with h | h
            · exact .inr ⟨rfl, h, h4, h5⟩
            · obtain rfl : y = b := by omega
              exact .inl h2
        · rcases Nat.lt_or_ge b y with h | h
          · exact h
          · obtain rfl : y = b := by omega
            rw [h2] at h5; cases h5
      | false =>
        obtain ⟨i1, i2, i3, i4⟩ := ih (b + 1) (setB out (a : Int) (b : Int)) (todo ++ [(b : Int)]) (by omega) (shape_set hs b ha)
        have hat := at2_set hs ha hbN
        rw [if_pos (by simp)]
        refine ⟨i1, fun c y => (i2 c y).trans ⟨fun h => ?_, fun h => ?_⟩, fun z => (i3 z).trans ⟨fun h => ?_, fun h => ?_⟩, ?_⟩
        · rcases h with h | ⟨q, h⟩
          · rw [hat] at h
            split at h
            · rename_i e; obtain ⟨rfl, rfl⟩ := e; exact .inr ⟨rfl, Nat.le_refl _, hbN, h1⟩
            · exact .inl h
          · exact .inr ⟨q, by omega, h.2⟩
        · rcases h with h | ⟨rfl, h3, h4, h5⟩
          · exact .inl (by rw [hat]; split <;> first | rfl | exact h)
          · rcases Nat.lt_or_ge b y with h | h
            · exact .inr ⟨rfl, h, h4, h5⟩
            · obtain rfl : y = b := by omega
              exact .inl (by rw [hat, if_pos ⟨rfl, rfl⟩])
        · rcases h with h | ⟨y, rfl, h3, h4, h5, h6⟩
          · rcases List.mem_append.1 h with h | h
            · exact .inl h
            · exact .inr ⟨b, List.mem_singleton.1 h, Nat.le_refl _, hbN, h1, h2⟩
          · rw [hat] at h6
            split at h6
            · cases h6
            · exact .inr ⟨y, rfl, by omega, h4, h5, h6⟩
        · rcases h with h | ⟨y, rfl, h3, h4, h5, h6⟩
          · exact .inl (List.mem_append.2 (.inl h))
          · rcases Nat.lt_or_ge b y with h | h
            · exact .inr ⟨y, rfl, h, h4, h5, by rw [hat, if_neg (by omega)]; exact h6⟩
            · obtain rfl : y = b := by omega
              exact .inl (List.mem_append.2 (.inr (List.mem_singleton.2 rfl)))
        · rw [i4, List.length_append]
          have := unmet_set (out.getD a []) b (by rw [hs.row a ha]; exact hbN) h2
          unfold unm
          rw [set_row hs b ha a, if_pos rfl]
          simp only [List.length_singleton]
          omega
theorem workL_spec (At : List (List Bool)) {N a : Nat} (ha : a < N) (hN : N ≤ 1000) (out0 : List (List Bool)) : ∀ M out todo, todo.length + unm out a ≤ M → M ≤ N + 1 → Shape N out → (∀ c y, c ≠ a → at2 out c y = at2 out0 c y) →
    (∀ y, at2 out a y = true → y < N ∧ Path1 (fun p q => q < N ∧ at2 At p q = true) a y) → (∀ z ∈ todo, ∃ y : Nat, z = (y : Int) ∧ y < N ∧ (y = a ∨ at2 out a y = true)) →
    (∀ y, (y = a ∨ at2 out a y = true) → (y : Int) ∈ todo ∨ ∀ z, z < N → at2 At y z = true → at2 out a z = true) →
    ∃ r, workL At N (a : Int) (M + 1) out todo = some r ∧ Shape N r ∧ (∀ c y, c ≠ a → at2 r c y = at2 out0 c y) ∧ ∀ y, at2 r a y = true ↔ Path1 (fun p q => q < N ∧ at2 At p q = true) a y := by
  intro M
  induction M with
  | zero =>
    intro out todo hM _ hs ho hp _ hc
    obtain rfl := List.length_eq_zero_iff.1 (show todo.length = 0 by omega)
    refine ⟨out, by simp [workL], hs, ho, fun y => ⟨fun h => (hp y h).2, fun h => ?_⟩⟩
    induction h with
    | one z h => exact ((hc a (.inl rfl)).elim (by simp) id) z h.1 h.2
    | more y z _ h ih => exact ((hc y (.inr ih)).elim (by simp) id) z h.1 h.2
  | succ M ih =>
    intro out todo hM hMN hs ho hp ht hc
    cases todo with
    | nil =>
      refine ⟨out, by simp [workL], hs, ho, fun y => ⟨fun h => (hp y h).2, fun h => ?_⟩⟩
      induction h with
      | one z h => exact ((hc a (.inl rfl)).elim (by simp) id) z h.1 h.2
      | more y z _ h ih2 => exact ((hc y (.inr ih2)).elim (by simp) id) z h.1 h.2
    | cons x rest =>
      obtain ⟨x, rfl, hxN, hxr⟩ := ht x (by simp)
      rw [workL]
      rw [if_pos ⟨by omega, by omega, by rw [List.length_cons] at hM; omega⟩]
      obtain ⟨i1, i2, i3, i4⟩ := rowL_spec At ha x N 0 out rest (by omega) hs
      have hxp : ∀ z, z < N → at2 At x z = true → Path1 (fun p q => q < N ∧ at2 At p q = true) a z := fun z hz h => by
        rcases hxr with rfl | h2
        · exact .one _ _ ⟨hz, h⟩
        · exact .more _ _ _ (hp x h2).2 ⟨hz, h⟩
      refine ih _ _ (by rw [List.length_cons] at hM; omega) (by omega) i1 (fun c y hca => ?_) (fun y h => ?_) (fun z hz => ?_) (fun y h => ?_)
      · rw [← ho c y hca]
        have := i2 c y
        cases h : at2 out c y with
        | true => exact this.2 (.inl h)
        | false =>
          cases h3 : at2 (rowL At (a : Int) (x : Int) N 0 out rest).1 c y with
          | false => rfl
          | true => rcases this.1 h3 with h4 | h4
                    · rw [h] at h4; cases h4
                    · exact absurd h4.1 hca
      · rcases (i2 a y).1 h with h | ⟨_, _, h3, h4⟩
        · exact hp y h
        · exact ⟨h3, hxp y h3 h4⟩
      · rcases (i3 z).1 hz with h | ⟨y, rfl, _, h3, h4, _⟩
        · obtain ⟨y, rfl, h1, h2⟩ := ht z (by simp [h])
          exact ⟨y, rfl, h1, h2.imp id (fun h => (i2 a y).2 (.inl h))⟩
        · exact ⟨y, rfl, h3, .inr ((i2 a y).2 (.inr ⟨rfl, Nat.zero_le _, h3, h4⟩))⟩
      · by_cases hyx : y = x
        · subst hyx
          exact .inr fun z hz h => (i2 a z).2 (.inr ⟨rfl, Nat.zero_le _, hz, h⟩)
        · have hold : (y = a ∨ at2 out a y = true) ∨ (y < N ∧ at2 At x y = true ∧ at2 out a y = false) := by
            rcases h with h | h
            · exact .inl (.inl h)
            · rcases (i2 a y).1 h with h | ⟨_, _, h3, h4⟩
              · exact .inl (.inr h)
              · cases h5 : at2 out a y with
                | true => exact .inl (.inr rfl)
                | false => exact .inr ⟨h3, h4, rfl⟩
          rcases hold with h | ⟨h1, h2, h3⟩
          · rcases hc y h with h | h
            · rcases List.mem_cons.1 h with h | h
              · exact absurd (Int.ofNat.inj h) hyx
              · exact .inl ((i3 _).2 (.inl h))
            · exact .inr fun z hz h2 => (i2 a z).2 (.inl (h z hz h2))
          · exact .inl ((i3 _).2 (.inr ⟨y, rfl, Nat.zero_le _, h1, h2, h3⟩))
theorem workL_le (At : List (List Bool)) (N : Nat) (a : Int) (out : List (List Bool)) (todo : List Int) (r : List (List Bool)) {k k2 : Nat} (hk : k ≤ k2) (h : workL At N a k out todo = some r) : workL At N a k2 out todo = some r := by
  obtain ⟨d, rfl⟩ : ∃ d, k2 = k + d := ⟨k2 - k, by omega⟩
  clear hk
  induction d with
  | zero => exact h
  | succ d ih => exact workL_mono At N a (k + d) out todo r ih
theorem leadL_spec (At : List (List Bool)) {N : Nat} (hN : N ≤ 1000) (k : Nat) (hk : N + 2 ≤ k) : ∀ d a out, a + d = N → Shape N out → (∀ c y, c < a → (at2 out c y = true ↔ Path1 (fun p q => q < N ∧ at2 At p q = true) c y)) → (∀ c y, a ≤ c → at2 out c y = false) →
    ∃ r, leadL At N k d a out = some r ∧ Shape N r ∧ ∀ c y, c < N → (at2 r c y = true ↔ Path1 (fun p q => q < N ∧ at2 At p q = true) c y) := by
  intro d
  induction d with
  | zero => intro a out h hs hp _; exact ⟨out, rfl, hs, fun c y hc => hp c y (by omega)⟩
  | succ d ih =>
    intro a out h hs hp hz
    have ha : a < N := by omega
    have hu : unm out a ≤ N := by have := unmet_le (out.getD a []); rw [hs.row a ha] at this; exact this
    obtain ⟨r, hr, hs2, ho, hpa⟩ := workL_spec At ha hN out (N + 1) out [(a : Int)] (by simp; omega) (Nat.le_refl _) hs (fun _ _ _ => rfl) (fun y h => by rw [hz a y (Nat.le_refl _)] at h; cases h) (fun z hz => ⟨a, List.mem_singleton.1 hz, ha, .inl rfl⟩) (fun y h => by
      rcases h with rfl | h
      · exact .inl (List.mem_singleton.2 rfl)
      · rw [hz a y (Nat.le_refl _)] at h; cases h)
    rw [leadL, workL_le At N (a : Int) out [(a : Int)] r hk hr]
    refine ih (a + 1) r (by omega) hs2 (fun c y hc => ?_) (fun c y hc => by rw [ho c y (by omega)]; exact hz c y (by omega))
    by_cases e : c = a
    · subst e; exact hpa y
    · rw [ho c y e]; exact hp c y (by omega)
/-- What Leads tells: a way of one step or more. -/
theorem leads_ev (At : List (List Bool)) {N : Nat} (hN : N ≤ 1000) : ∃ c, Ev (fun k => leadsF k N At) c ∧ Shape N c ∧ ∀ a b, a < N → (at2 c a b = true ↔ Path1 (fun p q => q < N ∧ at2 At p q = true) a b) := by
  obtain ⟨r, hr, hs, hp⟩ := leadL_spec At hN (N + 2) (Nat.le_refl _) N 0 (List.replicate N (List.replicate N false)) (by omega) (shape_new N) (fun c y h => by omega) (fun c y _ => at2_new N c y)
  exact ⟨r, Ev.of (fun k => leadsF_mono k N At) (k := N + 2) hr, hs, fun a b => hp a b⟩
/-- Rounds enough, and the table that Leads gives. -/
theorem leads_k (At : List (List Bool)) {N : Nat} (hN : N ≤ 512) : ∃ k c, leadsF k N At = some c ∧ Shape N c ∧ ∀ a b, a < N → (at2 c a b = true ↔ Path1 (fun p q => q < N ∧ at2 At p q = true) a b) := by
  obtain ⟨c, h1, h2, h3⟩ := leads_ev At (N := N) (by omega)
  obtain ⟨k, hk⟩ := h1.rounds
  exact ⟨k, c, hk, h2, h3⟩
end Lds
/-- Leads' table is the closure's. -/
theorem leads_same {N : Nat} {At c : List (List Bool)} (hS : Shape N At) (hc : Shape N c) (h : ∀ a b, a < N → (at2 c a b = true ↔ Path1 (fun p q => q < N ∧ at2 At p q = true) a b)) : c = wAll N At N := by
  have hW : Shape N (wAll N At N) := (wAll_spec hS N (Nat.le_refl _)).1
  refine shape_ext hc hW fun a b ha hb => ?_
  exact Bool.eq_iff_iff.2 ((h a b ha).trans (wAll_path hS a b).symm)
theorem refIs_rel {w : World} {lo hi p N : Nat} {At : List (List Bool)} (h : RefIs w lo hi p N At) : Lds.RelIs w lo p N At := by
  obtain ⟨v, h1, h2, h3, h4⟩ := h
  exact ⟨v, h1, Kd.S_mono h2 (fun _ _ => trivial), h3.1, h4⟩
theorem rel_refIs {w : World} {lo p N : Nat} {At : List (List Bool)} (h : Lds.RelIs w lo p N At) : RefIs w lo w.heap.size p N At := by
  obtain ⟨v, h1, h2, h3, h4⟩ := h
  exact ⟨v, h1, Kd.S_mono (Kd.S_bound h2) (fun k hk => hk.2.2.1), ⟨h3, (Array.getElem?_eq_some_iff.1 h1).1⟩, h4⟩
/-- The document's Leads. -/
theorem rleads_walk {lo hi p N : Nat} {At : List (List Bool)} (w : World) (hR : RefIs w lo hi p N At) :
    Calls Tryd.prog 31 #[.pointer (some ⟨p, 0, none⟩)] w fun e w' => ∃ q : Nat, e = .returned (.pointer (some ⟨q, 0, none⟩)) ∧ RefIs w' w.heap.size w'.heap.size q N (wAll N At N) ∧ Below w.heap.size w w' := by
  obtain ⟨k, c, hk, hc, hp⟩ := Lds.leads_k At hR.shape.2
  refine (Lds.leads_walk k c w (refIs_rel hR) hk).mono ?_
  rintro e w' ⟨q, h1, h2, h3⟩
  rw [leads_same hR.shape.1 hc hp] at h2
  exact ⟨q, h1, rel_refIs h2, h3⟩
/-- Does a table lead from something to itself? -/
def loopB (N : Nat) (At : List (List Bool)) : Bool := (List.range N).any fun a => at2 (wAll N At N) a a
theorem rnd_any (c : List (List Bool)) (N : Nat) : ∀ d a, a + d = N → Lds.rndL c d a = (List.range' a d).any fun b => at2 c b b
  | 0, a, _ => rfl
  | d + 1, a, h => by
    rw [Lds.rndL, rnd_any c N d (a + 1) (by omega), List.range'_succ, List.any_cons, atB_nat]
/-- The document's Rounds. -/
theorem rrounds_walk {lo hi p N : Nat} {At : List (List Bool)} (w : World) (hR : RefIs w lo hi p N At) :
    Calls Tryd.prog 27 #[.pointer (some ⟨p, 0, none⟩)] w fun e w' => e = .returned (.bool (loopB N At)) ∧ Below w.heap.size w w' := by
  obtain ⟨k, c, hk, hc, hp⟩ := Lds.leads_k At hR.shape.2
  have hr : Lds.roundsF k N At = some (loopB N At) := by
    unfold Lds.roundsF
    rw [hk, Option.bind_some, rnd_any c N N 0 (by omega), leads_same hR.shape.1 hc hp, ← List.range_eq_range']
    rfl
  exact Lds.rounds_walk k _ w (refIs_rel hR) hr
theorem loop_iff {N : Nat} {At : List (List Bool)} (hS : Shape N At) : loopB N At = true ↔ ¬ ∃ l, orderF N At = some l := by
  rw [order_iff hS]
  unfold loopB
  rw [List.any_eq_true]
  constructor
  · rintro ⟨a, ha, h⟩ hn
    exact hn a (List.mem_range.1 ha) ((wAll_path hS a a).1 h)
  · intro hn
    refine Classical.byContradiction fun hc => hn fun a ha hp => hc ⟨a, List.mem_range.2 ha, (wAll_path hS a a).2 hp⟩
theorem find_same {p q : Nat → Bool} : ∀ (l : List Nat), (∀ x ∈ l, p x = q x) → l.find? p = l.find? q
  | [], _ => rfl
  | x :: l, h => by
    rw [List.find?_cons, List.find?_cons, h x List.mem_cons_self, find_same l fun y hy => h y (List.mem_cons_of_mem _ hy)]
def orM1 : Option Nat → Int
  | some i => (i : Int)
  | none => -1
theorem index_l0 (L : List Int) (hL : L.length ≤ 512) : ∀ d i, i + d = L.length → slices_Index_int_int.l0 (d + 1) L 0 (L.length : Int) (i : Int) = some (orM1 ((List.range' i d).find? fun j => decide (L.getD j 0 = 0)))
  | 0, i, h => by
    unfold slices_Index_int_int.l0
    rw [if_neg (by omega)]
    rfl
  | d + 1, i, h => by
    have hw : wrap64 ((i : Int) + 1) = ((i + 1 : Nat) : Int) := by unfold wrap64; omega
    unfold slices_Index_int_int.l0
    rw [if_pos (by omega), if_pos (by omega), if_pos (by omega), hw, index_l0 L hL d (i + 1) (by omega), List.range'_succ, List.find?_cons]
    have hr : rd L (i : Int) = L.getD i 0 := by unfold rd; rw [Int.toNat_natCast]
    rw [hr]
    by_cases e : L.getD i 0 = 0
    · rw [if_pos e.symm, decide_eq_true e]
      rfl
    · rw [if_neg (fun h => e h.symm), decide_eq_false e]
theorem index_left {N : Nat} {At : List (List Bool)} {told : List Bool} (hN : N ≤ 512) : slices_Index_int_int.f (N + 1) (leftF N At told) 0 = some (orM1 (pickF N At told)) := by
  have hl : (leftF N At told).length = N := leftF_len ..
  unfold slices_Index_int_int.f
  have := index_l0 (leftF N At told) (by omega) N 0 (by omega)
  rw [show ((0 : Nat) : Int) = 0 from rfl] at this
  rw [this]
  unfold pickF
  rw [List.range_eq_range']
  congr 2
  refine find_same _ fun x hx => ?_
  have hxN : x < N := by have := List.mem_range'.1 hx; omega
  have hz := left_zero (At := At) (told := told) hxN
  by_cases e : (leftF N At told).getD x 0 = 0
  · rw [decide_eq_true e, hz.1 e]
  · rw [decide_eq_false e]
    cases h : freeB N At told x with
    | true => exact absurd (hz.2 h) e
    | false => rfl
end Go.Proofs.YtoieemaheadjdaaDoor.PRel
