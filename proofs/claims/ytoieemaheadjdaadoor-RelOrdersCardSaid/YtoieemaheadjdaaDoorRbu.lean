/- Both relations laid out of the same pairs. Written by an AI agent in this seat's session; checked by Lean alone. No axiom, no sorry. -/
import Derived.Test.YtoieemaheadjdaaDoorRelP
import Derived.WalkKit
import Derived.BigQuiet
import Derived.OwnWalk
import Derived.Test.YtoieemaheadjdaaDoorRbt
namespace Go.Proofs.YtoieemaheadjdaaDoor.PRel
open Go.RowKit Go.Proofs.YtoieemaheadjdaaDoorW.PrintWords Go.Proofs.YtoieemaheadjdaaDoorW.PrintLast Go.Proofs.YtoieemaheadjdaaDoorW.PrintMore Go.Proofs.YtoieemaheadjdaaDoor.PRelOrders
set_option linter.unusedVariables false
set_option linter.unusedSimpArgs false
attribute [local go_sem] Oper.semAt_some
def addI (N : Nat) (l : List (Int × Int)) (T : List (List Bool)) : List (List Bool) := l.foldl (fun T q => addR N T q.1 q.2) T
theorem addI_snoc (N : Nat) (l : List (Int × Int)) (x : Int × Int) (T : List (List Bool)) : addI N (l ++ [x]) T = addR N (addI N l T) x.1 x.2 := by unfold addI; rw [List.foldl_append]; rfl
/-- The two relations, one behind the other in memory. -/
def Both (w : World) (lo h1 h2 p q N : Nat) (T : List (List Bool)) : Prop := RelW w lo h1 p N T ∧ RefIs w h1 h2 q N T ∧ h1 ≤ h2 ∧ h2 ≤ w.heap.size
theorem both_add_r {w w' : World} {lo h1 h2 q N : Nat} {T : List (List Bool)} (h : RefIs w h1 h2 q N T) (ho : Only lo h1 w w') : RefIs w' h1 h2 q N T := h.only ho (.inr (Nat.le_refl _))
set_option maxRecDepth 100000 in
set_option maxHeartbeats 1000000 in
theorem both_walk {v : Value} {l : List (Int × Int)} (n : Int) (hn : n ≤ 80) (w : World) (hv : PSees w v l) :
    Calls Tryd.prog 15 #[.int .i64 n, v] w fun e w' => ∃ p q h1 h2, e = .returned (.tuple #[.pointer (some ⟨p, 0, none⟩), .pointer (some ⟨q, 0, none⟩), .bool true]) ∧ Both w' w.heap.size h1 h2 p q (clampN n) (addI (clampN n) l (tab0 (clampN n))) ∧ Below w.heap.size w w' := by
  have hu := Tryd.underlying39
  have hN : clampN n ≤ 80 := by unfold clampN; split <;> (try split) <;> omega
  have HV := Aside0.mk hv
  obtain ⟨hl0, A, c, rfl, hlc, _⟩ := hv
  generalize hNN : clampN n = N at hN
  have HNN := Aside0.mk hNN
  clear hNN
  go_enter Tryd.func15, Tryd.ntmps15
  go_upto_region 2 with (first
    | (go_at_call 12; refine (new_walk n _).mono ?_; rintro e w1 ⟨p, rfl, hr, hb⟩; rw [HNN.out] at hr; have HR := Aside0.mk hr; have HB := Aside0.mk hb; clear hr hb)
    | (go_at_call 21; refine (rnew_all n (by omega) _).mono ?_; rintro e w2 ⟨q, rfl, hx, hb2⟩; rw [HNN.out] at hx; have HX := Aside0.mk hx; have HB2 := Aside0.mk hb2; clear hx hb2))
  have hR2 : RelV w2 w.heap.size w1.heap.size (some ⟨p, 0, none⟩) N (tab0 N) := .inr ⟨p, rfl, HR.out.grow HB2.out⟩
  have hc0 : w2.cell? ⟨q, 0, none⟩ = some (.int .i64 (N : Int)) := by
    obtain ⟨v, h1, _⟩ := HX.out
    exact (blk_cell h1 0).trans rfl
  have hBB : Both w2 w.heap.size w1.heap.size w2.heap.size p q N (tab0 N) := ⟨HR.out.grow HB2.out, HX.out, HB2.out.size, Nat.le_refl _⟩
  have hBW : Below w.heap.size w w2 := below_then HB.out HB.out.size HB2.out
  have HR2 := Aside0.mk hR2
  have HBB := Aside0.mk (And.intro hBB hBW)
  clear hR2 hBB hBW
  generalize w1.heap.size = h1 at HBB HR2 HX HR HB2
  generalize hh2 : w2.heap.size = h2 at HBB HX
  clear hh2 HX HR HB2
  go_big_quiet (first | (go_at_call 13; refine Calls.quiet_of_same (len_walk _ (HR2.out.grow (pw_below_drewN (Below.refl _ _) _)))))
  go_upto_region 4 with (fail)
  have HV := HV
  have hBB3 : Aside0 (Both (w2.drewN nq) w.heap.size h1 h2 p q N (tab0 N) ∧ Below w.heap.size w (w2.drewN nq)) := ⟨⟨HBB.out.1.1.grow (pw_below_drewN (Below.refl _ _) _), HBB.out.1.2.1.grow (pw_below_drewN (Below.refl _ _) _), HBB.out.1.2.2.1, HBB.out.1.2.2.2⟩, pw_below_drewN HBB.out.2 _⟩
  generalize w2.drewN nq = wl at hBB3 ⊢
  clear HBB HR2 hc0 HB
  go_loopg [9, 10] l.length (fun gg v9 v10 wr => ∃ (a : Nat), a ≤ l.length ∧ l.length - a ≤ gg ∧ v9 = .bool true ∧ v10 = .int .i64 (a : Int) ∧ Aside0 (Both wr w.heap.size h1 h2 p q N (addI N (l.take a) (tab0 N)) ∧ Below w.heap.size w wr))
  case atStart => exact ⟨0, Nat.zero_le _, by omega, by first | rfl | (simp; done), rfl, by simpa [addI] using hBB3⟩
  case round =>
    clear hBB3
    obtain ⟨a, ha, hgg, rfl, rfl, HX⟩ := hrel
    by_cases hlt : a < l.length
    · have hltz : (a : Int) < (l.length : Int) := by omega
      obtain ⟨_, A', c', hA, _, hcs⟩ := HV.out
      injection hA with hA1 hA2 hA3
      subst hA1 hA3
      obtain ⟨ad, rfl, e1, e2⟩ := hcs a _ (List.getElem?_eq_getElem hlt)
      have hadlt : (ad.add (a * 2)).block < w.heap.size := World.block_lt_of_cell? w _ e1
      have htk : l.take (a + 1) = l.take a ++ [l[a]] := List.take_succ_eq_append_getElem hlt
      have hsn := addI_snoc N (l.take a) l[a] (tab0 N)
      rw [← htk] at hsn
      generalize hx : l[a] = x at e1 e2 hsn
      have HSN := Aside0.mk hsn
      have hd1 : Below w.heap.size w wr := HX.out.2
      have f1 : wr.drew.cell? (ad.add (a * 2)) = some (.int .i64 x.1) := ((below_drew1 hd1).cell hadlt).trans e1
      have f2 : wr.drew.cell? ⟨(ad.add (a * 2)).block, (ad.add (a * 2)).off + 1, none⟩ = some (.int .i64 x.2) := by rw [show (⟨(ad.add (a * 2)).block, (ad.add (a * 2)).off + 1, none⟩ : Addr) = (ad.add (a * 2)).add 1 from rfl, add_add]; exact ((below_drew1 hd1).cell (World.block_lt_of_cell? w _ e2)).trans e2
      have HD : Aside0 (Both wr.drew w.heap.size h1 h2 p q N (addI N (l.take a) (tab0 N)) ∧ Below w.heap.size w wr.drew) := ⟨⟨HX.out.1.1.grow (below_drew1 (Below.refl _ _)), HX.out.1.2.1.grow (below_drew1 (Below.refl _ _)), HX.out.1.2.2.1, HX.out.1.2.2.2⟩, below_drew1 HX.out.2⟩
      have HLT := Aside0.mk hadlt
      clear hadlt e1 e2 hsn htk hcs hd1 HX hx
      go_upto_region 6 with (fail)
      refine start_ (n := 26) (S := fun w' => w'.cell? (ad.add (a * 2)) = some (.int .i64 x.1) ∧ w'.cell? ⟨(ad.add (a * 2)).block, (ad.add (a * 2)).off + 1, none⟩ = some (.int .i64 x.2)) (ds := [23]) (fm_ 26 0) (by kernel_rfl) rfl rfl ⟨f1, f2⟩ (fun hHeld => ?_)
      clear f1 f2
      generalize wr.drew = wd at HD hHeld ⊢
      refine fP (i := 0) (N := some 35) (fm_ 26 1) ?_
      refine fP (i := 1) (N := some 36) (fm_ 26 3) ?_
      refine fP (i := 2) (N := some 37) (fm_ 26 7) ?_
      refine fP (i := 3) (N := some 38) (fm_ 26 15) ?_
      refine fP (i := 4) (N := some 39) (fm_ 26 31) ?_
      refine fT1 (i := 5) (N := some 40) (fm_ 26 63) ?_
      refine fP (i := 6) (N := some 41) (fm_ 26 127) ?_
      refine fP (i := 7) (N := some 42) (fm_ 26 255) ?_
      refine fP (i := 8) (N := some 43) (fm_ 26 511) ?_
      refine fP (i := 9) (N := some 44) (fm_ 26 1023) ?_
      refine fT1 (i := 10) (N := some 45) (fm_ 26 2047) ?_
      refine fP (i := 12) (N := some 47) (fm_ 26 6143) ?_
      refine fP (i := 13) (N := some 48) (fm_ 26 14335) ?_
      refine fP (i := 14) (N := some 49) (fm_ 26 30719) ?_
      refine fP (i := 15) (N := some 50) (fm_ 26 63487) ?_
      refine fP (i := 16) (N := some 51) (fm_ 26 129023) ?_
      refine fT1 (i := 17) (N := some 52) (fm_ 26 260095) ?_
      refine fP (i := 18) (N := some 53) (fm_ 26 522239) ?_
      refine fP (i := 19) (N := some 54) (fm_ 26 1046527) ?_
      refine fP (i := 20) (N := some 55) (fm_ 26 2095103) ?_
      refine fP (i := 21) (N := some 56) (fm_ 26 4192255) ?_
      refine fT1 (i := 22) (N := some 57) (fm_ 26 8386559) ?_
      refine one_ (i := 11) (N := some 46) (fm_ 26 8388607) rfl rfl (by kernel_rfl) (by decide) (fun K hK => ?_)
      refine goes_ Tryd.func33 (by kernel_rfl) rfl #[.pointer (some ⟨p, 0, none⟩), .int .i64 x.1, .int .i64 x.2] (by rfl) rfl rfl (by simp [Act.eval]) ?_
      refine (add_walk x.1 x.2 _ (.inr ⟨p, rfl, HD.out.1.1⟩)).mono ?_
      rintro e w3 ⟨rfl, hr3, ho3⟩
      refine ⟨_, rfl, ?_⟩
      have H3 := Aside0.mk (And.intro hr3 ho3)
      clear hr3 ho3
      refine hK.out _ _ ⟨H3.out.2.cell hHeld.1 (by show ¬ (w.heap.size ≤ (ad.add (a * 2)).block ∧ (ad.add (a * 2)).block < h1); have := HLT.out; omega), H3.out.2.cell hHeld.2 (by show ¬ (w.heap.size ≤ (ad.add (a * 2)).block ∧ (ad.add (a * 2)).block < h1); have := HLT.out; omega)⟩ (fun hHeld => ?_)
      clear hK K
      refine norm_ (a' := ?_) ?_ ?_
      rotate_left
      · show Act.put _ (some 46) _ = _
        go_frame <;> try simp only [i64_w, i32_w]
        rfl
      refine last_ (i := 23) (N := some 58) (fm_ 26 16777215) rfl rfl (by kernel_rfl) (by decide) (fun K hK => ?_)
      refine goes_ Tryd.func22 (by kernel_rfl) rfl #[.pointer (some ⟨q, 0, none⟩), .int .i64 x.1, .int .i64 x.2] (by rfl) rfl rfl (by simp [Act.eval]) ?_
      refine (radd_walk x.1 x.2 _ (both_add_r HD.out.1.2.1 H3.out.2)).mono ?_
      rintro e w4 ⟨rfl, hr4, ho4⟩
      refine ⟨_, rfl, ?_⟩
      have H4 := Aside0.mk (And.intro hr4 ho4)
      clear hr4 ho4
      refine hK.out _ _ ?_
      clear hK K
      refine norm_ (a' := ?_) ?_ ?_
      rotate_left
      · show Act.put _ (some 58) _ = _
        go_frame <;> try simp only [i64_w, i32_w]
        rfl
      generalize (mayB N x.1 && mayB N x.2) = bb
      refine fP (i := 24) (N := some 59) (fm_ 26 33554431) ?_
      refine fP (i := 25) (N := some 9) (fm_ 26 67108863) ?_
      refine done_ (by kernel_rfl) ?_
      have HJ : Aside0 (Both w4 w.heap.size h1 h2 p q N (addI N (l.take (a + 1)) (tab0 N)) ∧ Below w.heap.size w w4) := by
        have hb3 := H3.out.2.below HD.out.2 (Nat.le_refl _) HD.out.2.size
        have hle := (H3.out.2.size : wd.heap.size ≤ w3.heap.size)
        have hle2 := (H4.out.2.size : w3.heap.size ≤ w4.heap.size)
        rw [HSN.out]
        refine ⟨⟨?_, H4.out.1, HD.out.1.2.2.1, Nat.le_trans HD.out.1.2.2.2 (Nat.le_trans hle hle2)⟩, H4.out.2.below hb3 ?_ hb3.size⟩
        · obtain h | ⟨p', hp', h⟩ := H3.out.1
          · exact absurd h.1 (by simp)
          · cases hp'
            exact h.only H4.out.2 (.inl (Nat.le_refl _))
        · obtain ⟨_, _, _, hlo, _⟩ := HD.out.1.1
          omega
      clear H3 H4 HD HSN hHeld
      go_wp2_with (fail)
      go_roundg (l.length - (a + 1))
      case measure => omega
      case rel => exact ⟨a + 1, by omega, by omega, by first | rfl | (simp; done), by first | rfl | (simp; done) | rw [show wrap64 ((a : Int) + 1) = ((a + 1 : Nat) : Int) by unfold wrap64; omega], HJ⟩
    · obtain rfl : a = l.length := by omega
      rw [List.take_length] at HX
      go_wp2_with (fail)
      go_ret3
      exact ⟨p, q, h1, h2, rfl, HX.out.1, HX.out.2⟩
end Go.Proofs.YtoieemaheadjdaaDoor.PRel
