/- The pairs of the document's relation as a list, and two lists of pairs compared. Written by an AI agent in this seat's session; checked by Lean alone. No axiom, no sorry. -/
import Derived.Test.YtoieemaheadjdaaDoorRelP
import Derived.WalkKit
import Derived.Test.YtoieemaheadjdaaDoorRbo
namespace Go.Proofs.YtoieemaheadjdaaDoor.PRel
open Go.RowKit Go.Proofs.YtoieemaheadjdaaDoorW.PrintWords Go.Proofs.YtoieemaheadjdaaDoorW.PrintLast Go.Proofs.YtoieemaheadjdaaDoorW.PrintMore Go.Proofs.YtoieemaheadjdaaDoor.PRelOrders
set_option linter.unusedVariables false
set_option linter.unusedSimpArgs false
theorem below_app {w w0 w1 : World} {row : Option Nat} (hb : Below w0.heap.size w0 w) (hg : w.grownBy w1 row) (hr : ∀ k, row = some k → w0.heap.size ≤ k) : Below w0.heap.size w0 w1 := hb.grown hg hb.size hr
def pairsB (At : List (List Bool)) (a b : Nat) : List (Nat × Nat) := ((List.range b).filter fun j => (At.getD a []).getD j false).map fun j => (a, j)
theorem pairsB_succ (At : List (List Bool)) (a b : Nat) : pairsB At a (b + 1) = pairsB At a b ++ (if at2 At a b = true then [(a, b)] else []) := by
  unfold pairsB
  rw [List.range_succ, List.filter_append, List.map_append]
  congr 1
  show List.map _ (List.filter _ [b]) = if (At.getD a []).getD b false = true then _ else _
  rw [List.filter_cons, List.filter_nil]
  split <;> rfl
theorem pairsB_full {N : Nat} {At : List (List Bool)} (h : Shape N At) {a : Nat} (ha : a < N) : pairsU At a ++ pairsB At a N = pairsU At (a + 1) := by
  rw [pairsU_succ]
  unfold pairsB trues
  rw [h.row a ha]
theorem pairsB_len {N : Nat} {At : List (List Bool)} (h : Shape N At) (hN : N ≤ 512) {a b : Nat} (ha : a < N) (hb : b ≤ N) : (pairsU At a ++ pairsB At a b).length ≤ 262144 := by
  have h1 := pairsU_len h a (by omega)
  have h2 : (pairsB At a b).length ≤ b := by unfold pairsB; rw [List.length_map]; have := List.length_filter_le (fun j => (At.getD a []).getD j false) (List.range b); rwa [List.length_range] at this
  have h3 : a * N + N ≤ 512 * 512 := by rw [← Nat.succ_mul]; exact Nat.mul_le_mul (by omega) hN
  rw [List.length_append]
  omega
set_option maxRecDepth 100000 in
set_option maxHeartbeats 4000000 in
theorem rpairs_walk {lo hi p N : Nat} {At : List (List Bool)} (w : World) (hR : RefIs w lo hi p N At) (hhi : hi ≤ w.heap.size) :
    Calls Tryd.prog 18 #[.pointer (some ⟨p, 0, none⟩)] w fun e w' => ∃ v, e = .returned v ∧ PRow w' w.heap.size v (pairsL N At) ∧ Below w.heap.size w w' := by
  have hu := Tryd.underlying39
  have hsh := hR.shape
  have HR := Aside0.mk hR
  clear hR
  go_enter Tryd.func18, Tryd.ntmps18
  go_upto_region 3 with (fail)
  go_loopg [3, 4] N (fun gg v3 v4 wr => ∃ (a : Nat), a ≤ N ∧ N - a ≤ gg ∧ v4 = .int .i64 (a : Int) ∧ Aside0 (RefIs wr lo hi p N At ∧ PRow wr w.heap.size v3 (pairsU At a) ∧ Below w.heap.size w wr))
  case atStart => exact ⟨0, Nat.zero_le _, by omega, rfl, ⟨HR.out, ⟨rfl, .inl ⟨rfl, rfl⟩⟩, Below.refl _ _⟩⟩
  case round =>
    obtain ⟨a, ha, hgg, rfl, HX⟩ := hrel
    have hc0 : wr.cell? ⟨p, 0, none⟩ = some (.int .i64 (N : Int)) := by
      obtain ⟨v, h1, _⟩ := HX.out.1
      exact (blk_cell h1 0).trans rfl
    by_cases hlt : a < N
    · have hltz : (a : Int) < (N : Int) := by omega
      go_upto_region 6 with (fail)
      clear hc0
      go_loopg [3, 5] N (fun gg v3 v5 wq => ∃ (b : Nat), b ≤ N ∧ N - b ≤ gg ∧ v5 = .int .i64 (b : Int) ∧ Aside0 (RefIs wq lo hi p N At ∧ PRow wq w.heap.size v3 (pairsU At a ++ pairsB At a b) ∧ Below w.heap.size w wq))
      case atStart => exact ⟨0, Nat.zero_le _, by omega, rfl, ⟨HX.out.1, by simpa [pairsB] using HX.out.2.1, HX.out.2.2⟩⟩
      case round =>
        clear HX
        rename_i gk2 gk3
        obtain ⟨b, hb, hgg2, rfl, HX⟩ := hrel
        have hc0 : wr.cell? ⟨p, 0, none⟩ = some (.int .i64 (N : Int)) := by
          obtain ⟨v, h1, _⟩ := HX.out.1
          exact (blk_cell h1 0).trans rfl
        by_cases hlt2 : b < N
        · have hltz2 : (b : Int) < (N : Int) := by omega
          obtain ⟨ad, cap, ai, ci, _, hc1, hc2, hc3⟩ := ref_read HX.out.1 (a := (a : Int)) (b := (b : Int)) ⟨by omega, hltz⟩ ⟨by omega, hltz2⟩
          rw [Int.toNat_natCast] at hc2 hc3
          rw [atB_nat] at hc3
          have hpl := pairsB_len hsh.1 hsh.2 hlt hb
          cases hat : at2 At a b with
          | true =>
            have hnx : pairsU At a ++ pairsB At a (b + 1) = (pairsU At a ++ pairsB At a b) ++ [(a, b)] := by rw [pairsB_succ, if_pos hat, List.append_assoc]
            rw [hat] at hc3
            have HN := Aside0.mk (And.intro hnx hpl)
            clear hnx hat hpl
            go_wp2_with (first | ((with_reducible refine gate_builtin (b := .append) (xs := #[.tmp 32, .tmp 36]) rfl ?_); at_builtin; refine print_append_cells (w0 := w) w.heap.size rfl (.tmp 32) (.tmp 36) 22 23 _ 2 16 rfl Tryd.underlying22 info23 rfl (by decide) (by decide) u3 (pairsU At a ++ pairsB At a b).length (cells2 (pairsU At a ++ pairsB At a b)) [.int .i64 (a : Int), .int .i64 (b : Int)] rfl rfl rfl (by simp [Value.oneCell']) HX.out.2.1 HX.out.2.2 HX.out.2.2.size (by have := HN.out.2; omega) ?_; intro v1 w1 hown hbel hgr _))
            have hR1 : RefIs w1 lo hi p N At := HX.out.1.keep fun k _ h2 h3 => hgr.block k h3 fun e => by have := (HX.out.2.1.typed k e.symm).1; omega
            have hP1 : PRow w1 w.heap.size v1 (pairsU At a ++ pairsB At a (b + 1)) := by
              rw [HN.out.1]
              unfold PRow
              rw [List.length_append, List.length_singleton, cells2_snoc]
              exact hown
            go_roundg (N - (b + 1))
            case measure => omega
            case rel => exact ⟨b + 1, by omega, by omega, by first | rfl | (simp; done), ⟨hR1, hP1, hbel⟩⟩
          | false =>
            have hnx : pairsU At a ++ pairsB At a (b + 1) = pairsU At a ++ pairsB At a b := by rw [pairsB_succ, if_neg (by rw [hat]; decide), List.append_nil]
            rw [hat] at hc3
            have HN := Aside0.mk hnx
            clear hnx hat hpl
            go_wp2_with (fail)
            go_roundg (N - (b + 1))
            case measure => omega
            case rel => exact ⟨b + 1, by omega, by omega, by first | rfl | (simp; done), ⟨HX.out.1, by rw [HN.out]; exact HX.out.2.1, HX.out.2.2⟩⟩
        · obtain rfl : b = N := by omega
          have hfl := pairsB_full hsh.1 hlt
          have HF := Aside0.mk hfl
          clear hfl
          go_wp2_with (fail)
          go_roundg (b - (a + 1))
          case measure => omega
          case rel => exact ⟨a + 1, by omega, by omega, by first | rfl | (simp; done), ⟨HX.out.1, by rw [← HF.out]; exact HX.out.2.1, HX.out.2.2⟩⟩
    · obtain rfl : a = N := by omega
      go_wp2_with (fail)
      go_ret
      exact ⟨_, rfl, HX.out.2.1, HX.out.2.2⟩
end Go.Proofs.YtoieemaheadjdaaDoor.PRel
