/- RelJoins: what stands in memory while the document's loops lay out the union, the turned and what leads over both. Written by an AI agent in this seat's session; checked by Lean alone. No axiom, no sorry. -/
import Derived.Test.YtoieemaheadjdaaDoorRelP
import Derived.Test.YtoieemaheadjdaaDoorRbu
import Derived.Test.YtoieemaheadjdaaDoorRbga
namespace Go.Proofs.YtoieemaheadjdaaDoor.PRel
open Go.RowKit Go.Proofs.YtoieemaheadjdaaDoorW.PrintWords Go.Proofs.YtoieemaheadjdaaDoorW.PrintLast Go.Proofs.YtoieemaheadjdaaDoorW.PrintMore Go.Proofs.YtoieemaheadjdaaDoor.PRelOrders
set_option linter.unusedVariables false
set_option linter.unusedSimpArgs false
/-- What does not change: the two pairs of relations, the three new ones' places. -/
structure JC where
  w0 : World
  lo : Nat
  p : Nat
  q : Nat
  h1 : Nat
  h2 : Nat
  N : Nat
  T1 : List (List Bool)
  lo2 : Nat
  p2 : Nat
  q2 : Nat
  g1 : Nat
  g2 : Nat
  M : Nat
  T2 : List (List Bool)
  pu : Nat
  pt : Nat
  pa : Nat
  k1 : Nat
  k2 : Nat
  k3 : Nat
  k4 : Nat
def overN (c : JC) (x y : Nat) : Bool := overP c.T1 c.T2 x y c.N
/-- The memory in the loops: at a, b; what has been put there. -/
structure JAt (c : JC) (w : World) (a b : Nat) (r1 r2 r3 : Bool) (U1 U2 U3 : List (List Bool)) : Prop where
  b1 : Both w c.lo c.h1 c.h2 c.p c.q c.N c.T1
  b2 : Both w c.lo2 c.g1 c.g2 c.p2 c.q2 c.M c.T2
  u1 : RefIs w c.k1 c.k2 c.pu c.N U1
  u2 : RefIs w c.k2 c.k3 c.pt c.N U2
  u3 : RefIs w c.k3 c.k4 c.pa c.N U3
  t1 : Part c.N (uniP c.T1 c.T2) a b r1 U1
  t2 : Part c.N (turnP c.T1) a b r2 U2
  t3 : Part c.N (overN c) a b r3 U3
  l1 : c.h2 ≤ c.k1 ∧ c.g2 ≤ c.k1 ∧ c.k1 ≤ c.k2 ∧ c.k2 ≤ c.k3 ∧ c.k3 ≤ c.k4 ∧ c.k4 ≤ w.heap.size ∧ c.lo ≤ c.k1
  bel : Below c.lo c.w0 w
def J (c : JC) (w : World) (a b : Nat) (r1 r2 r3 : Bool) : Prop := ∃ U1 U2 U3, JAt c w a b r1 r2 r3 U1 U2 U3
theorem both_only {w w' : World} {lo h1 h2 p q N k k' : Nat} {T : List (List Bool)} (h : Both w lo h1 h2 p q N T) (ho : Only k k' w w') (hk : h2 ≤ k) : Both w' lo h1 h2 p q N T :=
  ⟨h.1.only ho (.inl (Nat.le_trans h.2.2.1 hk)), h.2.1.only ho (.inl hk), h.2.2.1, Nat.le_trans h.2.2.2 ho.size⟩
theorem both_grow {w w' : World} {lo h1 h2 p q N : Nat} {T : List (List Bool)} (h : Both w lo h1 h2 p q N T) (hb : Below w.heap.size w w') : Both w' lo h1 h2 p q N T :=
  ⟨h.1.grow hb, h.2.1.grow hb, h.2.2.1, Nat.le_trans h.2.2.2 hb.size⟩
theorem may_nat {N x : Nat} (h : x < N) : mayB N (x : Int) = true := by unfold mayB; simp [h]
theorem J.grow {c : JC} {w w' : World} {a b : Nat} {r1 r2 r3 : Bool} (h : J c w a b r1 r2 r3) (hb : Below w.heap.size w w') : J c w' a b r1 r2 r3 := by
  obtain ⟨U1, U2, U3, h⟩ := h
  have l := h.l1
  exact ⟨U1, U2, U3, both_grow h.b1 hb, both_grow h.b2 hb, h.u1.grow hb, h.u2.grow hb, h.u3.grow hb, h.t1, h.t2, h.t3, ⟨l.1, l.2.1, l.2.2.1, l.2.2.2.1, l.2.2.2.2.1, Nat.le_trans l.2.2.2.2.2.1 hb.size, l.2.2.2.2.2.2⟩, below_then h.bel (Nat.le_trans (Nat.le_trans l.2.2.2.2.2.2 (Nat.le_trans l.2.2.1 (Nat.le_trans l.2.2.2.1 l.2.2.2.2.1))) l.2.2.2.2.2.1) hb⟩
theorem J.add1 {c : JC} {w : World} {a b : Nat} {r1 r2 r3 : Bool} (h : J c w a b r1 r2 r3) (ha : a < c.N) (hb : b < c.N) :
    Calls Tryd.prog 22 #[.pointer (some ⟨c.pu, 0, none⟩), .int .i64 (a : Int), .int .i64 (b : Int)] w fun e w' => e = .returned (.bool true) ∧ J c w' a b true r2 r3 := by
  obtain ⟨U1, U2, U3, h⟩ := h
  refine (radd_walk (a : Int) (b : Int) w h.u1).mono ?_
  rintro e w' ⟨rfl, hr, ho⟩
  have l := h.l1
  have hs : w.heap.size ≤ w'.heap.size := ho.size
  refine ⟨by rw [may_nat ha, may_nat hb]; rfl, _, U2, U3, both_only h.b1 ho l.1, both_only h.b2 ho l.2.1, hr, h.u2.only ho (.inr (Nat.le_refl _)), h.u3.only ho (.inr l.2.2.2.1), part_add h.t1, h.t2, h.t3, ⟨l.1, l.2.1, l.2.2.1, l.2.2.2.1, l.2.2.2.2.1, by omega, l.2.2.2.2.2.2⟩, ho.below h.bel l.2.2.2.2.2.2 (by omega)⟩
theorem J.add2 {c : JC} {w : World} {a b : Nat} {r1 r2 r3 : Bool} (h : J c w a b r1 r2 r3) (ha : a < c.N) (hb : b < c.N) :
    Calls Tryd.prog 22 #[.pointer (some ⟨c.pt, 0, none⟩), .int .i64 (a : Int), .int .i64 (b : Int)] w fun e w' => e = .returned (.bool true) ∧ J c w' a b r1 true r3 := by
  obtain ⟨U1, U2, U3, h⟩ := h
  refine (radd_walk (a : Int) (b : Int) w h.u2).mono ?_
  rintro e w' ⟨rfl, hr, ho⟩
  have l := h.l1
  have hs : w.heap.size ≤ w'.heap.size := ho.size
  refine ⟨by rw [may_nat ha, may_nat hb]; rfl, U1, _, U3, both_only h.b1 ho (by omega), both_only h.b2 ho (by omega), h.u1.only ho (.inl (Nat.le_refl _)), hr, h.u3.only ho (.inr (Nat.le_refl _)), h.t1, part_add h.t2, h.t3, ⟨l.1, l.2.1, l.2.2.1, l.2.2.2.1, l.2.2.2.2.1, by omega, l.2.2.2.2.2.2⟩, ho.below h.bel (by omega) (by omega)⟩
theorem J.add3 {c : JC} {w : World} {a b : Nat} {r1 r2 r3 : Bool} (h : J c w a b r1 r2 r3) (ha : a < c.N) (hb : b < c.N) :
    Calls Tryd.prog 22 #[.pointer (some ⟨c.pa, 0, none⟩), .int .i64 (a : Int), .int .i64 (b : Int)] w fun e w' => e = .returned (.bool true) ∧ J c w' a b r1 r2 true := by
  obtain ⟨U1, U2, U3, h⟩ := h
  refine (radd_walk (a : Int) (b : Int) w h.u3).mono ?_
  rintro e w' ⟨rfl, hr, ho⟩
  have l := h.l1
  have hs : w.heap.size ≤ w'.heap.size := ho.size
  refine ⟨by rw [may_nat ha, may_nat hb]; rfl, U1, U2, _, both_only h.b1 ho (by omega), both_only h.b2 ho (by omega), h.u1.only ho (.inl l.2.2.2.1), h.u2.only ho (.inl (Nat.le_refl _)), hr, h.t1, h.t2, part_add h.t3, ⟨l.1, l.2.1, l.2.2.1, l.2.2.2.1, l.2.2.2.2.1, by omega, l.2.2.2.2.2.2⟩, ho.below h.bel (by omega) (by omega)⟩
theorem J.has {c : JC} {w : World} {a b : Nat} {r1 r2 r3 : Bool} (x y : Nat) (h : J c w a b r1 r2 r3) :
    Calls Tryd.prog 20 #[.pointer (some ⟨c.q2, 0, none⟩), .int .i64 (x : Int), .int .i64 (y : Int)] w fun e w' => e = .returned (.bool (at2 c.T2 x y)) ∧ w' = w := by
  obtain ⟨U1, U2, U3, h⟩ := h
  refine (rhas_walk (x : Int) (y : Int) w h.b2.2.1).mono ?_
  rintro e w' ⟨rfl, hw⟩
  exact ⟨by rw [has_at h.b2.2.1.shape.1], hw⟩
theorem J.num {c : JC} {w : World} {a b : Nat} {r1 r2 r3 : Bool} (h : J c w a b r1 r2 r3) : w.cell? ⟨c.q, 0, none⟩ = some (.int .i64 (c.N : Int)) := by
  obtain ⟨U1, U2, U3, h⟩ := h
  obtain ⟨v, h1, _⟩ := h.b1.2.1
  exact (blk_cell h1 0).trans rfl
theorem J.read {c : JC} {w : World} {a b : Nat} {r1 r2 r3 : Bool} (h : J c w a b r1 r2 r3) {x y : Nat} (hx : x < c.N) (hy : y < c.N) :
    ∃ (ad : Addr) (cap : Nat) (ai : Addr) (ci : Nat), w.cell? ⟨c.q, 1, none⟩ = some (.slice (some ad) c.N cap) ∧ w.cell? (ad.add x) = some (.slice (some ai) c.N ci) ∧ w.cell? (ai.add y) = some (.bool (at2 c.T1 x y)) := by
  obtain ⟨U1, U2, U3, h⟩ := h
  obtain ⟨ad, cap, ai, ci, _, e1, e2, e3⟩ := ref_read h.b1.2.1 (a := (x : Int)) (b := (y : Int)) ⟨by omega, by omega⟩ ⟨by omega, by omega⟩
  rw [Int.toNat_natCast] at e2 e3
  rw [atB_nat] at e3
  exact ⟨ad, cap, ai, ci, e1, e2, e3⟩
theorem J.next {c : JC} {w : World} {a b : Nat} {r1 r2 r3 : Bool} (h : J c w a b r1 r2 r3) (e1 : r1 = uniP c.T1 c.T2 a b) (e2 : r2 = turnP c.T1 a b) (e3 : r3 = overP c.T1 c.T2 a b c.N) : J c w a (b + 1) false false false := by
  obtain ⟨U1, U2, U3, h⟩ := h
  exact ⟨U1, U2, U3, h.b1, h.b2, h.u1, h.u2, h.u3, upto_part (part_end h.t1 e1), upto_part (part_end h.t2 e2), upto_part (part_end h.t3 e3), h.l1, h.bel⟩
theorem part_upto {N : Nat} {P : Nat → Nat → Bool} {a b : Nat} {U : List (List Bool)} (h : Part N P a b false U) : Upto N P a b U := ⟨h.1, fun x y hx hy => by rw [h.2 x y hx hy, Bool.false_and, Bool.or_false]⟩
theorem J.row {c : JC} {w : World} {a : Nat} (h : J c w a c.N false false false) : J c w (a + 1) 0 false false false := by
  obtain ⟨U1, U2, U3, h⟩ := h
  exact ⟨U1, U2, U3, h.b1, h.b2, h.u1, h.u2, h.u3, upto_part (upto_row (part_upto h.t1)), upto_part (upto_row (part_upto h.t2)), upto_part (upto_row (part_upto h.t3)), h.l1, h.bel⟩
/-- The loops have ended: the three new relations are the union, the turned, what leads over both. -/
theorem J.done {c : JC} {w : World} (h : J c w c.N 0 false false false) :
    Both w c.lo c.h1 c.h2 c.p c.q c.N c.T1 ∧ Both w c.lo2 c.g1 c.g2 c.p2 c.q2 c.M c.T2 ∧ RefIs w c.k1 c.k2 c.pu c.N (addAll c.N (pairsL c.N c.T1 :: [pairsL c.M c.T2]).flatten (tab0 c.N)) ∧ RefIs w c.k2 c.k3 c.pt c.N (turnedT c.N c.T1) ∧ RefIs w c.k3 c.k4 c.pa c.N (afterT c.N c.T1 c.T2) ∧ (c.h2 ≤ w.heap.size ∧ c.g2 ≤ w.heap.size ∧ c.k2 ≤ w.heap.size ∧ c.k3 ≤ w.heap.size ∧ c.k4 ≤ w.heap.size ∧ c.lo ≤ w.heap.size) ∧ Below c.lo c.w0 w := by
  obtain ⟨U1, U2, U3, h⟩ := h
  have s1 := h.b1.2.1.shape.1
  have s2 := h.b2.2.1.shape.1
  have l := h.l1
  exact ⟨h.b1, h.b2, by rw [uni_eq s1 s2 (part_upto h.t1)]; exact h.u1, by rw [turn_eq s1 (part_upto h.t2)]; exact h.u2, by rw [over_eq s1 (part_upto h.t3)]; exact h.u3, ⟨by omega, by omega, by omega, by omega, by omega, by omega⟩, h.bel⟩
theorem J.conv {c : JC} {w : World} {a b : Nat} {r1 r2 r3 s1 s2 s3 : Bool} (h : J c w a b r1 r2 r3) (e1 : r1 = s1) (e2 : r2 = s2) (e3 : r3 = s3) : J c w a b s1 s2 s3 := by
  subst e1 e2 e3
  exact h
theorem J.small {c : JC} {w : World} {a b : Nat} {r1 r2 r3 : Bool} (h : J c w a b r1 r2 r3) : c.N ≤ 512 := by
  obtain ⟨U1, U2, U3, h⟩ := h
  exact h.u1.shape.2
end Go.Proofs.YtoieemaheadjdaaDoor.PRel
