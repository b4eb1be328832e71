/- The relation's own memory, and the functions that read and write one pair. Written by an AI agent in this seat's session; checked by Lean alone. No axiom, no sorry. -/
import Derived.Test.YtoieemaheadjdaaDoorRelP
import Derived.Test.YtoieemaheadjdaaDoorRba
import Derived.Test.YtoieemaheadjdaaDoorRbl
namespace Go.Proofs.YtoieemaheadjdaaDoor.PRel
open Go.RowKit Go.Proofs.YtoieemaheadjdaaDoorW.PrintWords Go.Proofs.YtoieemaheadjdaaDoorW.PrintLast Go.Proofs.YtoieemaheadjdaaDoorW.PrintMore Go.Proofs.YtoieemaheadjdaaDoor.PRelOrders
set_option linter.unusedVariables false
set_option linter.unusedSimpArgs false
def fml_ : Nat → Nat → List Bool
  | 0, _ => []
  | n + 1, b => (b % 2 == 1) :: fml_ n (b / 2)
def fm_ (n b : Nat) : Array Bool := ⟨fml_ n b⟩
theorem fP {P : Program} {ops : Array Oper} {Q : Exit → Act → World → Prop} {md : Region.Mode} {S : World → Prop} {ds : List Nat} {i : Nat} {N : Option Tmp} {oi : Oper} {v : Value} {fuel : Nat} {l : Array Bool} {a : Act} {w : World} {a' : Act} (l' : Array Bool) (h : wpAnyLast P md ops Q S ds fuel l' a' w) (hi : ops[i]? = some oi := by rfl) (hN : oi.dst = N := by rfl) (hc : anyB md ops l l' i = true := by kernel_rfl) (hQ : ∀ c a w, Q (.panic c) (a.put oi.dst v) w → Q (.panic c) a w := by exact fun _ _ _ h => h) (hy : Yields P ops oi v a := by (refine Or.inl ⟨by rfl, ?_⟩; intro w'; go_simp; with_reducible rfl)) (ha : a.put N v = a' := by (simp only [Act.put, List.setIfInBounds_toArray, List.set_cons_zero, List.set_cons_succ, i64_w, i32_w]; rfl)) : wpAnyLast P md ops Q S ds (fuel + 1) l a w := pure_ l' hi hN hc hQ hy ha h
theorem fT1 {P : Program} {ops : Array Oper} {Q : Exit → Act → World → Prop} {md : Region.Mode} {S : World → Prop} {ds : List Nat} {i : Nat} {N : Option Tmp} {oi : Oper} {v : Value} {fuel : Nat} {l : Array Bool} {a : Act} {w : World} {a' : Act} (l' : Array Bool) (h : wpAnyLast P md ops Q S ds fuel l' a' w) (hS : S w := by exact hHeld) (hi : ops[i]? = some oi := by rfl) (hN : oi.dst = N := by rfl) (hc : takeB md ops ds l l' i = true := by kernel_rfl) (hQ : ∀ c a w, Q (.panic c) (a.put oi.dst v) w → Q (.panic c) a w := by exact fun _ _ _ h => h) (hy : YieldsIf P ops S oi v a := by (refine Or.inl ⟨by rfl, ?_⟩; rintro w' s0; go_simp; with_reducible rfl)) (ha : a.put N v = a' := by (simp only [Act.put, List.setIfInBounds_toArray, List.set_cons_zero, List.set_cons_succ, i64_w, i32_w]; rfl)) : wpAnyLast P md ops Q S ds (fuel + 1) l a w := take_ l' hi hN hc hQ hy hS ha h
/-- What lies outside of some blocks has not turned. -/
structure Only (lo hi : Nat) (w w' : World) : Prop where
  os : w'.os = w.os
  tape : w'.tape = w.tape
  output : w'.output = w.output
  size : w.heap.size ≤ w'.heap.size
  block : ∀ k, k < w.heap.size → ¬ (lo ≤ k ∧ k < hi) → w'.heap[k]? = w.heap[k]?
theorem Only.refl (lo hi : Nat) (w : World) : Only lo hi w w := ⟨rfl, rfl, rfl, Nat.le_refl _, fun _ _ _ => rfl⟩
theorem Only.trans {lo hi : Nat} {a b c : World} (h : Only lo hi a b) (g : Only lo hi b c) : Only lo hi a c := ⟨g.os.trans h.os, g.tape.trans h.tape, g.output.trans h.output, Nat.le_trans h.size g.size, fun k hk hn => (g.block k (Nat.lt_of_lt_of_le hk h.size) hn).trans (h.block k hk hn)⟩
theorem Only.of_below {lo hi : Nat} {a b : World} (h : Below a.heap.size a b) : Only lo hi a b := ⟨h.os, h.tape, h.output, h.size, fun k hk _ => h.block k hk⟩
theorem Only.wider {lo hi lo' hi' : Nat} {a b : World} (h : Only lo hi a b) (h1 : lo' ≤ lo) (h2 : hi ≤ hi') : Only lo' hi' a b := ⟨h.os, h.tape, h.output, h.size, fun k hk hn => h.block k hk (fun g => hn ⟨by omega, by omega⟩)⟩
theorem Only.below {lo hi n : Nat} {w0 a b : World} (h : Only lo hi a b) (hb : Below n w0 a) (hn : n ≤ lo) (hs : n ≤ a.heap.size) : Below n w0 b := ⟨h.os.trans hb.os, h.tape.trans hb.tape, h.output.trans hb.output, Nat.le_trans hb.size h.size, fun k hk => (h.block k (by omega) (by omega)).trans (hb.block k hk)⟩
theorem Only.set {lo hi : Nat} (w : World) {p : Addr} (h : lo ≤ p.block ∧ p.block < hi) (u : Value) : Only lo hi w (w.setCell p u) := ⟨by simp [World.setCell], by simp [World.setCell], by simp [World.setCell], by simp, fun k _ hn => Below.heap_setCell w p u k (fun e => hn (by rw [e]; exact h))⟩
theorem Only.drew {lo hi : Nat} {a b : World} (h : Only lo hi a b) : Only lo hi a b := h
theorem Only.cell {lo hi : Nat} {a b : World} (h : Only lo hi a b) {p : Addr} {v : Value} (hc : a.cell? p = some v) (hn : ¬ (lo ≤ p.block ∧ p.block < hi)) : b.cell? p = some v := by
  rw [← hc]; exact World.cell?_of_block (h.block _ (World.block_lt_of_cell? a _ hc) hn)
theorem Only.blk {lo hi : Nat} {a b : World} (h : Only lo hi a b) {k : Nat} {o : Obj} (hc : a.heap[k]? = some o) (hn : ¬ (lo ≤ k ∧ k < hi)) : b.heap[k]? = some o := (h.block k (Array.getElem?_eq_some_iff.1 hc).1 hn).trans hc
/-- A relation in memory: a slice of rows of words, all of it between two marks. -/
def RelW (w : World) (lo hi p N : Nat) (At : List (List Bool)) : Prop := ∃ v wss, w.heap[p]? = some (.cells #[v] 75 (0, 0)) ∧ Kd.S (Kd.slice 101 (Kd.int .u64)) 77 w lo (fun k => k < hi) v wss ∧ (lo ≤ p ∧ p < hi) ∧ wss.length = N ∧ N ≤ 512 ∧ Shape N At ∧ ∀ a, a < N → Words (At.getD a []) (wss.getD a [])
theorem RelW.keep {w w1 : World} {lo hi p N : Nat} {At : List (List Bool)} (h : RelW w lo hi p N At) (hk : ∀ k, lo ≤ k → k < hi → k < w.heap.size → w1.heap[k]? = w.heap[k]?) : RelW w1 lo hi p N At := by
  obtain ⟨v, wss, h1, h2, h3, h4⟩ := h
  exact ⟨v, wss, (hk p h3.1 h3.2 (Array.getElem?_eq_some_iff.1 h1).1).trans h1, Kd.S_mono (Kd.S_move (Kd.S_bound h2) (fun k hk' => hk k hk'.2.1 hk'.1 hk'.2.2.1)) (fun _ hk' => hk'.1), h3, h4⟩
theorem RelW.below {w w1 : World} {lo hi p N n : Nat} {At : List (List Bool)} (h : RelW w lo hi p N At) (hb : Below n w w1) (hn : hi ≤ n) : RelW w1 lo hi p N At := h.keep fun k _ hk _ => hb.block k (by omega)
theorem RelW.grow {w w1 : World} {lo hi p N : Nat} {At : List (List Bool)} (h : RelW w lo hi p N At) (hb : Below w.heap.size w w1) : RelW w1 lo hi p N At := h.keep fun k _ _ hk => hb.block k hk
theorem RelW.only {w w1 : World} {lo hi lo' hi' p N : Nat} {At : List (List Bool)} (h : RelW w lo hi p N At) (ho : Only lo' hi' w w1) (hn : hi ≤ lo' ∨ hi' ≤ lo) : RelW w1 lo hi p N At := h.keep fun k h1 h2 h3 => ho.block k h3 (by omega)
/-- A relation that may be nil: of no things then. -/
def RelV (w : World) (lo hi : Nat) (pv : Option Addr) (N : Nat) (At : List (List Bool)) : Prop := (pv = none ∧ N = 0 ∧ At = []) ∨ ∃ p, pv = some ⟨p, 0, none⟩ ∧ RelW w lo hi p N At
theorem RelV.keep {w w1 : World} {lo hi N : Nat} {pv : Option Addr} {At : List (List Bool)} (h : RelV w lo hi pv N At) (hk : ∀ k, lo ≤ k → k < hi → k < w.heap.size → w1.heap[k]? = w.heap[k]?) : RelV w1 lo hi pv N At := h.imp id fun ⟨p, e, g⟩ => ⟨p, e, g.keep hk⟩
theorem RelV.below {w w1 : World} {lo hi N n : Nat} {pv : Option Addr} {At : List (List Bool)} (h : RelV w lo hi pv N At) (hb : Below n w w1) (hn : hi ≤ n) : RelV w1 lo hi pv N At := h.keep fun k _ hk _ => hb.block k (by omega)
theorem RelV.grow {w w1 : World} {lo hi N : Nat} {pv : Option Addr} {At : List (List Bool)} (h : RelV w lo hi pv N At) (hb : Below w.heap.size w w1) : RelV w1 lo hi pv N At := h.keep fun k _ _ hk => hb.block k hk
theorem RelV.shape {w : World} {lo hi N : Nat} {pv : Option Addr} {At : List (List Bool)} (h : RelV w lo hi pv N At) : Shape N At ∧ N ≤ 512 := by
  rcases h with ⟨_, rfl, rfl⟩ | ⟨p, _, v, wss, _, _, _, _, h5, h6, _⟩
  · exact ⟨⟨rfl, fun a ha => by omega⟩, by omega⟩
  · exact ⟨h6, h5⟩
set_option maxRecDepth 100000 in
theorem len_walk {lo hi N : Nat} {pv : Option Addr} {At : List (List Bool)} (w : World) (hR : RelV w lo hi pv N At) :
    Calls Tryd.prog 13 #[.pointer pv] w fun e w' => e = .returned (.int .i64 (N : Int)) ∧ w' = w := by
  have hu := Tryd.underlying75
  rcases hR with ⟨rfl, rfl, rfl⟩ | ⟨p, rfl, v, wss, hb, hS, _, hl, _⟩
  · go_enter Tryd.func13, Tryd.ntmps13
    go_wp2
    go_ret
    exact ⟨rfl, rfl⟩
  · obtain ⟨A, c, rfl⟩ := Kd.S_slice hS
    rw [hl] at hb
    have hc0 : w.cell? ⟨p, 0, none⟩ = some (.slice A N c) := (blk_cell hb 0).trans rfl
    go_enter Tryd.func13, Tryd.ntmps13
    go_wp2
    go_ret
    exact ⟨rfl, rfl⟩
theorem may_iff {N : Nat} {i : Int} (h : mayB N i = true) : 0 ≤ i ∧ i < (N : Int) := by simpa [mayB] using h
set_option maxRecDepth 100000 in
theorem may_walk {lo hi N : Nat} {pv : Option Addr} {At : List (List Bool)} (i : Int) (w : World) (hR : RelV w lo hi pv N At) :
    Calls Tryd.prog 44 #[.pointer pv, .int .i64 i] w fun e w' => e = .returned (.bool (mayB N i)) ∧ w' = w := by
  have HR := Aside0.mk hR
  clear hR
  by_cases h0 : 0 ≤ i
  · go_enter Tryd.func44, Tryd.ntmps44
    go_wp2_with (go_at_call 13; refine (len_walk _ HR.out).mono ?_; rintro e w1 ⟨rfl, hw_⟩; subst w1)
    go_ret
    exact ⟨by simp [mayB, h0], rfl⟩
  · have hm : mayB N i = false := by unfold mayB; rw [decide_eq_false h0]; rfl
    go_enter Tryd.func44, Tryd.ntmps44
    go_wp2
    go_ret
    exact ⟨by first | rfl | rw [hm], rfl⟩

theorem shr_bit (x j : Nat) (hx : x < 18446744073709551616) : (Go.bits .and .u64 ((x : Int) / 2 ^ j) 1 == 1) = x.testBit j := by
  have e1 : (x : Int) / 2 ^ j = ((x / 2 ^ j : Nat) : Int) := by simp
  have h2 : x / 2 ^ j < 18446744073709551616 := Nat.lt_of_le_of_lt (Nat.div_le_self _ _) hx
  rw [e1, show (1 : Int) = ((1 : Nat) : Int) from rfl, bits_and_u64_nat _ _ h2 (by omega)]
  rw [Nat.testBit_eq_decide_div_mod_eq, Nat.and_one_is_mod]
  by_cases e : x / 2 ^ j % 2 = 1
  · simp [e]
  · have : x / 2 ^ j % 2 = 0 := by omega
    simp [this]
set_option maxRecDepth 100000 in
theorem rowhas_walk (x i m c : Nat) (ai : Addr) (w : World) (hi : i / 64 < m) (hx : x < 18446744073709551616) (hc : w.cell? (ai.add (i / 64)) = some (.int .u64 (x : Int))) (hi2 : i < 4611686018427387904) :
    Calls Tryd.prog 45 #[.slice (some ai) m c, .int .i64 (i : Int)] w fun e w' => e = .returned (.bool (x.testBit (i % 64))) ∧ w' = w := by
  have e1 : wrap64 (Int.tdiv (i : Int) 64) = ((i / 64 : Nat) : Int) := by
    rw [Int.tdiv_eq_ediv_of_nonneg (by omega)]; unfold wrap64; omega
  have e2 : Int.tmod (i : Int) 64 = ((i % 64 : Nat) : Int) := by
    rw [Int.tmod_eq_emod_of_nonneg (by omega)]; omega
  have hi3 : ((i / 64 : Nat) : Int) < (m : Int) := by omega
  go_enter Tryd.func45, Tryd.ntmps45
  go_wp2_with (simp only [e1, e2])
  go_ret
  exact ⟨by rw [← shr_bit x _ hx]; rfl, rfl⟩

/-- Where a word stands. -/
theorem relw_row {w : World} {lo hi p N : Nat} {At : List (List Bool)} (h : RelW w lo hi p N At) {a : Nat} (ha : a < N) :
    ∃ (ad : Addr) (cap gi ci : Nat) (ws : List Int), w.cell? ⟨p, 0, none⟩ = some (.slice (some ad) N cap) ∧ w.cell? (ad.add a) = some (.slice (some ⟨gi, 0, none⟩) ws.length ci) ∧ Words (At.getD a []) ws ∧ (∀ j, j < ws.length → w.cell? ⟨gi, j, none⟩ = some (.int .u64 (ws.getD j 0))) ∧ gi < hi := by
  obtain ⟨v, wss, h1, h2, _, hN, h5, hsh, hW⟩ := h
  obtain ⟨A, cap, hv⟩ := Kd.S_slice h2
  rw [hN] at hv
  subst hv
  obtain ⟨g, cp, e, _⟩ := Kd.S_form h2 (by omega)
  injection e with e _ _
  subst e
  obtain ⟨c, hcl, hM, hcc⟩ := Kd.S_get h2 [] (a : Int) (by omega) (by omega)
  obtain ⟨u, rfl, hu⟩ := hM
  rw [Int.toNat_natCast] at hu hcc
  have hw := hW a ha
  have hpos : 0 < (wss.getD a []).length := by have := hw.len; have := hsh.row a ha; omega
  obtain ⟨gi, ci, rfl, _, _, _⟩ := Kd.R_form hu hpos
  refine ⟨_, cap, gi, ci, wss.getD a [], (blk_cell h1 0).trans rfl, ?_, hw, fun j hj => ?_, (hu.1 gi (by simp [Value.ownBlock])).1⟩
  · have := hcc 0 _ rfl
    simpa [Kd.slice] using this
  · obtain ⟨ai, e2, hc3⟩ := Kd.at_int (Kd.R_reads' hu).2.2 (j : Int) (by omega) (by omega)
    injection e2 with e2
    subst e2
    rw [Int.toNat_natCast, add_at, Nat.zero_add] at hc3
    rw [hc3]
    simp [rd]
theorem relw_read {w : World} {lo hi p N : Nat} {At : List (List Bool)} (h : RelW w lo hi p N At) {a : Nat} (ha : a < N) :
    ∃ (ad : Addr) (cap : Nat) (ai : Addr) (ci : Nat) (ws : List Int), w.cell? ⟨p, 0, none⟩ = some (.slice (some ad) N cap) ∧ w.cell? (ad.add a) = some (.slice (some ai) ws.length ci) ∧ Words (At.getD a []) ws ∧ (∀ j, j < ws.length → w.cell? (ai.add j) = some (.int .u64 (ws.getD j 0))) ∧ ai.block < hi := by
  obtain ⟨ad, cap, gi, ci, ws, h1, h2, h3, h4, h5⟩ := relw_row h ha
  exact ⟨ad, cap, ⟨gi, 0, none⟩, ci, ws, h1, h2, h3, fun j hj => by rw [add_at, Nat.zero_add]; exact h4 j hj, h5⟩
set_option maxRecDepth 100000 in
set_option maxHeartbeats 1000000 in
theorem has_walk {lo hi N : Nat} {pv : Option Addr} {At : List (List Bool)} (a b : Int) (w : World) (hR : RelV w lo hi pv N At) :
    Calls Tryd.prog 19 #[.pointer pv, .int .i64 a, .int .i64 b] w fun e w' => e = .returned (.bool (mayB N a && (mayB N b && atB At a b))) ∧ w' = w := by
  have hu := Tryd.underlying75
  have HR := Aside0.mk hR
  have hs := hR.shape
  clear hR
  go_enter Tryd.func19, Tryd.ntmps19
  go_upto_region 1 with (fail)
  go_upto_region 2 with (fail)
  refine (may_walk a _ HR.out).mono ?_; rintro e w1 ⟨rfl, hw_⟩; subst w1
  cases ha : mayB N a with
  | false =>
    go_wp2_with (fail)
    go_ret
    exact ⟨by rw [ha]; rfl, rfl⟩
  | true =>
    go_upto_region 2 with (fail)
    refine (may_walk b _ HR.out).mono ?_; rintro e w1 ⟨rfl, hw_⟩; subst w1
    cases hb : mayB N b with
    | false =>
      go_wp2_with (fail)
      go_ret
      exact ⟨by rw [ha, hb]; rfl, rfl⟩
    | true =>
      obtain ⟨x, rfl⟩ : ∃ x : Nat, a = (x : Int) := ⟨a.toNat, by have := may_iff ha; omega⟩
      obtain ⟨y, rfl⟩ : ∃ y : Nat, b = (y : Int) := ⟨b.toNat, by have := may_iff hb; omega⟩
      have hx : x < N := by have := may_iff ha; omega
      have hy : y < N := by have := may_iff hb; omega
      rcases HR.out with ⟨_, rfl, _⟩ | ⟨p, rfl, hp⟩
      · omega
      obtain ⟨ad, cap, ai, ci, ws, hc0, hc1, hW, hcw, _⟩ := relw_read hp hx
      have hlen := hs.1.row x hx
      have hyw : y / 64 < ws.length := words_len hW (by omega)
      have hrng := hW.rng _ hyw
      have hat := hW.at (i := y) (by omega)
      have hcy := hcw _ hyw
      obtain ⟨z, hz⟩ : ∃ z : Nat, ws.getD (y / 64) 0 = (z : Int) := ⟨(ws.getD (y / 64) 0).toNat, by omega⟩
      rw [hz] at hcy hat hrng
      rw [Int.toNat_natCast] at hat
      have HX := Aside0.mk (And.intro hs hat)
      have hxN : (x : Int) < (N : Int) := by omega
      have HC := Aside0.mk (rowhas_walk z y ws.length ci ai w hyw (by omega) hcy (by have := hs.2; omega))
      clear hs hat hcw hrng hcy hlen
      go_upto_region 2 with (fail)
      go_wp2_with (first | (refine (HC.out).mono ?_; rintro e w1 ⟨rfl, hw_⟩; subst w1))
      go_ret
      exact ⟨by rw [ha, hb]; simp [atB_nat, at2, HX.out.2], rfl⟩
end Go.Proofs.YtoieemaheadjdaaDoor.PRel
