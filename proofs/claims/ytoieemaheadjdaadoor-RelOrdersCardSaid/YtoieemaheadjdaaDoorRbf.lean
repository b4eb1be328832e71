/- The things of a row, told one after the other: the iterator's own walk. Written by an AI agent in this seat's session; checked by Lean alone. No axiom, no sorry. -/
import Derived.Test.YtoieemaheadjdaaDoorRelP
import Derived.RangeFuncNested
import Derived.RangeFuncLeaves
import Derived.Shelf.Abstract
import Derived.Shelf.RegionOpen
import Derived.WalkKit
import Derived.OwnWalkIn
import Derived.TacticsInMore
import Derived.LoopNIn
import Derived.LoopIn
import Derived.Lib.TrailingZeros
import Derived.Test.YtoieemaheadjdaaDoorRbe
namespace Go.Proofs.YtoieemaheadjdaaDoor.PRel
open Go.RowKit Go.Proofs.YtoieemaheadjdaaDoorW.PrintWords Go.Proofs.YtoieemaheadjdaaDoorW.PrintLast Go.Proofs.YtoieemaheadjdaaDoorW.PrintMore Go.Proofs.YtoieemaheadjdaaDoor.PRelOrders
set_option linter.unusedVariables false
set_option linter.unusedSimpArgs false
attribute [local go_sem] Oper.semAt_some
theorem words_prefix (ws : List Int) : ∀ d i, ∃ q, wordsN ws i ++ q = wordsN ws (i + d)
  | 0, i => ⟨[], by simp⟩
  | d + 1, i => by
    obtain ⟨q, hq⟩ := words_prefix ws d i
    exact ⟨q ++ (bitsN (ws.getD (i + d) 0).toNat).map fun j => (i + d) * 64 + j, by rw [← List.append_assoc, hq, ← Nat.add_assoc, words_succ]⟩
theorem words_mid {r : List Bool} {ws : List Int} (hW : Words r ws) {i : Nat} (hi : i < ws.length) {pre : List Nat} {x : Nat} (h : pre ++ bitsN x = bitsN (ws.getD i 0).toNat) (h0 : x ≠ 0) (hx : x < 18446744073709551616) :
    ∃ q, (wordsN ws i ++ pre.map fun j => i * 64 + j) ++ (i * 64 + Lib.ctz 64 x) :: q = trues r := by
  obtain ⟨q, hq⟩ := words_prefix ws (ws.length - (i + 1)) (i + 1)
  rw [show i + 1 + (ws.length - (i + 1)) = ws.length by omega, words_trues hW, words_succ, ← h, (bits_step h0 hx).1] at hq
  refine ⟨(bitsN (x &&& (x - 1))).map (fun j => i * 64 + j) ++ q, ?_⟩
  rw [← hq]
  simp
theorem and_less (x : Nat) (hx : x < 18446744073709551616) (h0 : x ≠ 0) : bits BinOp.and IntKind.u64 (x : Int) (IntKind.u64.wrap ((x : Int) - 1)) = ((x &&& (x - 1) : Nat) : Int) ∧ bits BinOp.and IntKind.u64 (x : Int) ((x : Int) - 1) = ((x &&& (x - 1) : Nat) : Int) := by
  have e : (x : Int) - 1 = ((x - 1 : Nat) : Int) := by omega
  have e2 : IntKind.u64.wrap ((x : Int) - 1) = ((x - 1 : Nat) : Int) := by rw [IntKind.wrap_u64]; omega
  rw [e2, e, bits_and_u64_nat x _ hx (by omega)]
  exact ⟨rfl, rfl⟩
theorem wsucc (i : Nat) (h : i ≤ 4611686018427387904) : wrap64 ((i : Int) + 1) = ((i + 1 : Nat) : Int) := by unfold wrap64; omega
set_option maxRecDepth 100000 in
set_option maxHeartbeats 4000000 in
theorem all_any (n Bs n₁ gi c : Nat) (ws : List Int) (r : List Bool) (w : World) (Kp : World → World → Prop) (hKp : ∀ A B, Kp A B → Below n₁ A B) (hW : Words r ws) (hlen : ws.length ≤ 8) (hbox : w.cell? ⟨Bs, 0, none⟩ = some (.slice (some ⟨gi, 0, none⟩) ws.length c)) (hcells : ∀ j, j < ws.length → w.cell? ⟨gi, j, none⟩ = some (.int .u64 (ws.getD j 0))) (hgi : gi < n₁) (hn₁ : n₁ ≤ w.heap.size) (hG : TabLaid w) (h01 : 0 < n₁) :
    ∀ (l : Nat) (J Jx : List Nat → World → Prop) (W : World), Below w.heap.size w W →
    (∀ pre x W1, J pre W1 → (∃ q, pre ++ x :: q = trues r) → YieldAt Fence.wide n Tryd.prog l #[.int .i64 ((x : Nat) : Int)] W1 fun e W' => (e = .returned (.bool true) ∧ J (pre ++ [x]) W' ∧ Kp W1 W') ∨ (e = .returned (.bool false) ∧ Jx (pre ++ [x]) W')) →
    J [] W → CallsIn Fence.wide n Tryd.prog 59 (#[.func (.yield l) #[] #[]] ++ #[.pointer (some ⟨Bs, 0, none⟩)]) W fun e W' => (∃ v, e = .returned v) ∧ (J (trues r) W' ∨ ∃ pre, pre <+: trues r ∧ Jx pre W') := by
  intro l J Jx W hB hY h0
  have hbW : W.cell? ⟨Bs, 0, none⟩ = some (.slice (some ⟨gi, 0, none⟩) ws.length c) := (hB.cell (p := ⟨Bs, 0, none⟩) (World.block_lt_of_cell? w _ hbox)).trans hbox
  have hGW : TabLaid W := hG.below h01 (hB.mono hn₁)
  have hcW : ∀ j, j < ws.length → W.cell? ⟨gi, j, none⟩ = some (.int .u64 (ws.getD j 0)) := fun j hj => (hB.cell (p := ⟨gi, j, none⟩) (by show gi < _; omega)).trans (hcells j hj)
  have HW := Aside0.mk hW
  have HC := Aside0.mk hcW
  have HG := Aside0.mk hGW
  have HL := Aside0.mk hlen
  have hJ0 : J (wordsN ws 0) W := h0
  clear hbox hcells hG hB h0 hW hcW hGW hlen
  refine callsIn_of_wp Tryd.func59 rfl trivial ?_ rfl
  simp only [Tryd.ntmps59, List.size_toArray, List.length_cons, List.length_nil, Nat.reduceAdd, Nat.reduceSub, Array.replicate_succ, Array.replicate_zero, List.push_toArray, List.append_toArray, List.nil_append, List.cons_append]
  gi_wp2
  clear hbW
  gi_loopw [7] (fun v7 wr => ∃ i : Nat, i ≤ ws.length ∧ v7 = .int .i64 (i : Int) ∧ J (wordsN ws i) wr ∧ Below n₁ W wr) (fun v7 _ => ws.length - (intOf v7).toNat)
  case atStart => exact ⟨0, Nat.zero_le _, rfl, hJ0, Below.refl _ _⟩
  case round =>
    obtain ⟨i, hi, rfl, hJs, hBn⟩ := hrel
    by_cases hlt : i < ws.length
    · have hltz : (i : Int) < (ws.length : Int) := by omega
      have hci : wr.cell? ⟨gi, i, none⟩ = some (.int .u64 (ws.getD i 0)) := (hBn.cell (p := ⟨gi, i, none⟩) hgi).trans (HC.out i hlt)
      have hrng := HW.out.rng i hlt
      obtain ⟨x0, hx0⟩ : ∃ x0 : Nat, ws.getD i 0 = (x0 : Int) := ⟨(ws.getD i 0).toNat, by omega⟩
      rw [hx0] at hci
      have HX := Aside0.mk hx0
      have hlt0 : x0 < 18446744073709551616 := by omega
      have HXL := Aside0.mk hlt0
      clear hrng hx0 hlt0
      gi_wp2
      gi_loopw [4] (fun v4 wq => ∃ (x : Nat) (pre : List Nat), v4 = .int .u64 (x : Int) ∧ Aside0 (x < 18446744073709551616) ∧ Aside0 (pre ++ bitsN x = bitsN (ws.getD i 0).toNat) ∧ J (wordsN ws i ++ pre.map fun j => i * 64 + j) wq ∧ Below n₁ W wq) (fun v4 _ => (intOf v4).toNat)
      case atStart => exact ⟨x0, [], rfl, HXL, ⟨by rw [HX.out]; rfl⟩, by simpa using hJs, hBn⟩
      case round =>
        clear hJs hBn hci
        obtain ⟨x, pre, rfl, HXX, HPR, hJs, hBn⟩ := hrel
        by_cases hx : x = 0
        · subst hx
          have hJ2 : J (wordsN ws (i + 1)) wr := by
            have := HPR.out
            rw [bits_zero, List.append_nil] at this
            rw [words_succ, ← this]; exact hJs
          have hws := wsucc i (by have := HL.out; omega)
          gi_wp2
          go_roundw
          case rel => exact ⟨i + 1, by omega, by first | rfl | rw [← hws], hJ2, hBn⟩
          case measure =>
            show ws.length - (intOf (.int .i64 (wrap64 ((i : Int) + 1)))).toNat < ws.length - (intOf (.int .i64 (i : Int))).toNat
            rw [hws]; clear hws
            show ws.length - (((i + 1 : Nat) : Int)).toNat < ws.length - ((i : Int)).toNat
            omega
        · obtain ⟨hand1, hand2⟩ := and_less x HXX.out hx
          obtain ⟨hb1, hb2, hb3⟩ := bits_step hx HXX.out
          obtain ⟨fn, tmps, assign, body, hy, hR⟩ := hY _ (i * 64 + Lib.ctz 64 x) wr hJs (words_mid HW.out hlt HPR.out hx HXX.out)
          have HT := Aside0.mk (tz_walk x HXX.out hx wr (HG.out.below h01 (hBn)))
          have hxi : (x : Int) ≠ 0 := by omega
          have hctz : Lib.ctz 64 x < 64 := hb3
          have hi8 : i < 8 := by have := HL.out; omega
          have HX2 := Aside0.mk (And.intro hb1 hb2)
          clear hb1 hb2 hb3
          obtain ⟨tz, htz⟩ : ∃ tz, Lib.ctz 64 x = tz := ⟨_, rfl⟩
          rw [htz] at hy hR HT hctz HX2
          have hsum : (i : Int) * 64 + (tz : Int) = ((i * 64 + tz : Nat) : Int) := by omega
          rw [← hsum] at hy
          clear hsum
          gi_wp2_with (refine ⟨trivial, fun h => (by cases h), ?_⟩; refine (callsIn_wide.2 HT.out).mono ?_; rintro e w1 ⟨rfl, hw_⟩; subst w1)
          refine ⟨fun h => (by cases h), (round_depth rfl hR).mono ?_⟩
          rintro e W3 (⟨rfl, hJ3, hk3⟩ | ⟨rfl, hJx3⟩)
          · have hB3 := hBn.trans (hKp _ _ hk3)
            have hp3 : (wordsN ws i ++ pre.map fun j => i * 64 + j) ++ [i * 64 + tz] = wordsN ws i ++ (pre ++ [tz]).map fun j => i * 64 + j := by simp
            rw [hp3] at hJ3
            gi_wp2_with (first | simp only [hand1] | simp only [hand2])
            go_roundw
            case rel => exact ⟨x &&& (x - 1), pre ++ [tz], rfl, ⟨Nat.lt_trans HX2.out.2 HXX.out⟩, ⟨by rw [← HPR.out, HX2.out.1, List.append_assoc]; rfl⟩, hJ3, hB3⟩
            case measure =>
              show (((x &&& (x - 1) : Nat) : Int)).toNat < ((x : Nat) : Int).toNat
              rw [Int.toNat_natCast, Int.toNat_natCast]
              exact HX2.out.2
          · have hp3 : (wordsN ws i ++ pre.map fun j => i * 64 + j) ++ [i * 64 + tz] <+: trues r := by
              obtain ⟨q, hq⟩ := words_mid HW.out hlt HPR.out hx HXX.out
              rw [htz] at hq
              exact ⟨q, by rw [← hq]; simp⟩
            gi_wp2
            refine bodyPost_ret (results_none rfl _ _ _) rfl ?_
            exact ⟨⟨_, rfl⟩, .inr ⟨_, hp3, hJx3⟩⟩
    · obtain rfl : i = ws.length := by omega
      rw [words_trues HW.out] at hJs
      gi_wp2
      go_end0
      exact ⟨⟨_, rfl⟩, .inl hJs⟩
end Go.Proofs.YtoieemaheadjdaaDoor.PRel
