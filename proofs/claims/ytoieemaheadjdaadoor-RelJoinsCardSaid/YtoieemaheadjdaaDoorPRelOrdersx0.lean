-- printed by a program of this session (wip/mp.py: the kit's printer, patched, over the session's own templates); checked by Lean alone
import Derived.Test.YtoieemaheadjdaaDoorProg
import Derived.Below
import Derived.Deep.Draws
import Derived.Deep.AppendLies
import Derived.Maps.AppendAt
import Derived.OwnWalk
import Derived.Laws.BytesArg
import Derived.Laws.MakeOwn
import Derived.Laws.OwnMore
import Derived.Deep.OwnRows
import Derived.Tactics
import Derived.Lib.ConvBytes
import Derived.Laws.Slices
import Derived.WalkKit
import Derived.KernelRfl
import Derived.RowKit3
import Derived.Deep.LoopGhost
import Derived.Deep.QuietTactic
import Derived.BigQuiet
import Derived.WideLaws
import Derived.Deep.DeepCutAuto
import Derived.Deep.CutBlock
import Derived.Deep.RegionHeld3
import Derived.Laws.Rows
import Derived.Lib.AppendStr
import Derived.ArgAppend
import Derived.Laws.IdiomCopy
import Derived.OrdersHeld
import Derived.Laws.BitsLemmas
import Derived.RowKit
import Derived.Maps.RangeWalk
import Derived.Test.YtoieemaheadjdaaDoorWWords
import Derived.Test.YtoieemaheadjdaaDoorWLast
import Derived.Test.YtoieemaheadjdaaDoorWTab
import Derived.Test.YtoieemaheadjdaaDoorWFour
import Derived.Test.YtoieemaheadjdaaDoorWQPut
import Derived.Test.YtoieemaheadjdaaDoorWApart
import Derived.Test.YtoieemaheadjdaaDoorWArr
import Derived.Test.YtoieemaheadjdaaDoorWZeros
import Derived.Test.YtoieemaheadjdaaDoorWFoot
import Derived.Test.YtoieemaheadjdaaDoorWKept
import Derived.Test.YtoieemaheadjdaaDoorWShare
import Derived.Test.YtoieemaheadjdaaDoorWN
import Derived.Test.YtoieemaheadjdaaDoorWFootNe
import Derived.Test.YtoieemaheadjdaaDoorWAt
import Derived.Test.YtoieemaheadjdaaDoorWEqStruct
import Derived.Test.YtoieemaheadjdaaDoorWRepsOne
import Derived.Test.YtoieemaheadjdaaDoorWInv
import Derived.Test.YtoieemaheadjdaaDoorWInvWords
import Derived.Test.YtoieemaheadjdaaDoorWGuard
import Derived.Test.YtoieemaheadjdaaDoorWNEv
import Derived.Test.YtoieemaheadjdaaDoorWMore
namespace Go.Proofs.YtoieemaheadjdaaDoor.PRelOrders
open Go.RowKit Go.Proofs.YtoieemaheadjdaaDoorW.PrintWords Go.Proofs.YtoieemaheadjdaaDoorW.PrintLast Go.Proofs.YtoieemaheadjdaaDoorW.PrintMore
attribute [local go_sem] max2_int min2_int max_two min_two max_three min_three max_four min_four   -- for this text's walks alone
set_option linter.unusedVariables false
set_option linter.unusedSimpArgs false

theorem MB_R {α : Type} {d : Kd α} {e base : Nat} {ok ok' : Nat → Prop} {W W1 : World} {v : Value} {xs : List α} (h : Kd.R d e W base ok v xs) (hb : Below W.heap.size W W1) (hok : ∀ k, ok k → ok' k) : Kd.R d e W1 base ok' v xs := Kd.R_mono (Kd.R_below h hb) hok
theorem MB_Q {α : Type} {d : Kd α} {e base : Nat} {ok ok' : Nat → Prop} {W W1 : World} {v : Value} {xs : List α} (h : Kd.Q d e W base ok v xs) (hb : Below W.heap.size W W1) (hok : ∀ k, ok k → ok' k) : Kd.Q d e W1 base ok' v xs := Kd.Q_mono (Kd.Q_below h hb) hok
theorem MB_S {α : Type} {d : Kd α} {e base : Nat} {ok ok' : Nat → Prop} {W W1 : World} {v : Value} {xs : List α} (h : Kd.S d e W base ok v xs) (hb : Below W.heap.size W W1) (hok : ∀ k, ok k → ok' k) : Kd.S d e W1 base ok' v xs := Kd.S_mono (Kd.S_below h hb) hok
theorem MB_N {α : Type} {d : Kd α} {e base : Nat} {ok ok' : Nat → Prop} {W W1 : World} {v : Value} {xs : List α} (h : Kd.N d e W base ok v xs) (hb : Below W.heap.size W W1) (hok : ∀ k, ok k → ok' k) : Kd.N d e W1 base ok' v xs := Kd.N_mono (Kd.N_below h hb) hok
theorem MB_V {α : Type} {d : Kd α} {e base : Nat} {ok ok' : Nat → Prop} {W W1 : World} {v : Value} {xs : List α} (h : Kd.V d e W base ok v xs) (hb : Below W.heap.size W W1) (hok : ∀ k, ok k → ok' k) : Kd.V d e W1 base ok' v xs := Kd.V_mono (Kd.V_below h hb) hok
theorem V_blk {α : Type} {d : Kd α} {e base n c g : Nat} {ok : Nat → Prop} {W : World} {ad : Addr} {xs : List α} (h : Kd.V d e W base ok (.slice (some ad) n c) xs) (hn : 0 < n) (hs : 0 < d.sz) (hok : ∀ k, ok k → k ≠ g) : ad.block ≠ g := by
  rintro rfl
  have hl := (Kd.V_reads' h).1
  have hC : d.C { W with heap := W.heap.setIfInBounds ad.block (.map #[] 0) } (some ad) n xs := Kd.F_now (Kd.F_step (Kd.V_F h) (fun k hk _ => by simp [Array.getElem?_setIfInBounds_ne (Ne.symm (hok k hk))]))
  obtain ⟨ad', c', e', _, hK, hc⟩ := Kd.C_get hC (xs[0]'(by omega)) 0 (by decide) (by omega)
  injection e' with e'
  subst e'
  obtain ⟨u, hu⟩ : ∃ u, c'[0]? = some u := ⟨_, List.getElem?_eq_getElem (by rw [d.K_len hK]; exact hs)⟩
  have h1 := hc 0 u hu
  unfold World.cell? at h1
  by_cases hb : ad.block < W.heap.size
  · simp [Addr.add, hb] at h1
  · simp [Addr.add, hb] at h1
def setAll (W : World) (g : Nat) : Nat → List Value → World
  | _, [] => W
  | i, v :: r => setAll (W.setCell ⟨g, i, none⟩ v) g (i + 1) r
def putAll_ (c : Array Value) : Nat → List Value → Array Value
  | _, [] => c
  | i, v :: r => putAll_ (c.setIfInBounds i v) (i + 1) r
theorem setAll_row (g : Nat) (t : TypeId) : ∀ (l : List Value) (i : Nat) (W : World) (old : Array Value), W.heap[g]? = some (.cells old t (0, 0)) → setAll W g i l = W.setRow g (putAll_ old i l)
  | [], i, W, old, hb => by
    have hl := blk_lt hb
    have he : W.heap[g]'hl = .cells old t (0, 0) := (Array.getElem?_eq_some_iff.1 hb).2
    have key : W.heap = W.heap.modify g fun | .cells _ elem frozen => .cells old elem frozen | o => o := by
      apply Array.ext
      · simp
      · intro k h1 h2
        rw [Array.getElem_modify]
        split
        · rename_i e
          subst e
          rw [he]
        · rfl
    show W = { W with heap := W.heap.modify g fun | .cells _ elem frozen => .cells old elem frozen | o => o }
    rw [← key]
  | v :: r, i, W, old, hb => by
    have hl := blk_lt hb
    have he : W.heap[g]'hl = .cells old t (0, 0) := (Array.getElem?_eq_some_iff.1 hb).2
    rw [setAll, putAll_, setAll_row g t r (i + 1) _ _ (blk_set hb i v)]
    unfold World.setRow World.setCell
    congr 1
    apply Array.ext
    · simp
    · intro k h1 h2
      simp only [Array.getElem_modify]
      by_cases e : g = k
      · subst e
        simp [he]
      · simp [e]
theorem stRun {P : Program} {W W1 : World} {o : Oper} {a : Act} {t : TypeId} {x v : Operand} {g : Nat} {old cs : Array Value} (hop : o.op = .store t x v) (hx : a.eval x = .pointer (some ⟨g, 0, none⟩)) (hv : a.eval v = .agg cs)
    (hb : W.heap[g]? = some (.cells old t (0, 0))) (hi : (P.info? t).map (·.size) = some cs.size) (ho : old.size = cs.size) (h1 : cs.all (·.oneCell') = true) (hp : putAll_ old 0 cs.toList = cs) (he : setAll W g 0 cs.toList = W1) : (execOp a.eval o).run P W = .ok .skip W1 := by
  have hrow := run_storeVar_row (P := P) W g t t old cs hb hi ho h1
  rw [← he, setAll_row g t _ 0 W old hb, hp]
  simp [execOp, hop, hx, hv, Instr.storeAt, Instr.sureAddr, hrow, Result.andThen]
def mkl_ : Nat → Nat → List Bool
  | 0, _ => []
  | n + 1, b => (b % 2 == 1) :: mkl_ n (b / 2)
def mk_ (n b : Nat) : Array Bool := ⟨mkl_ n b⟩
theorem cF {W : World} {g : Nat} {a : Addr} {j : Nat} {u : Value} {x : Option Value} (h : a.block ≠ g) (e : W.cell? a = x) : (W.setCell ⟨g, j, none⟩ u).cell? a = x := (cell_far (p := ⟨g, j, none⟩) h u).trans e
theorem pI {P : Program} {ops : Array Oper} {Q : Exit → Act → World → Prop} {md : Region.Mode} {S : World → Prop} {ds : List Nat} {i : Nat} {N : Option Tmp} {oi : Oper} {v : Value} {fuel : Nat} {l : Array Bool} {a : Act} {w : World} {a' : Act} (l' : Array Bool) (h : wpAnyLast P md ops Q S ds fuel l' a' w) (hi : ops[i]? = some oi := by rfl) (hN : oi.dst = N := by rfl) (hc : anyB md ops l l' i = true := by exact any_of HT_.out (by kernel_rfl)) (hQ : ∀ c a w, Q (.panic c) (a.put oi.dst v) w → Q (.panic c) a w := by exact fun _ _ _ h => h) (hy : Yields P ops oi v a := by (refine Or.inl ⟨by rfl, ?_⟩; intro w'; go_simp; with_reducible rfl)) (ha : a.put N v = a' := by (simp only [Act.put, List.setIfInBounds_toArray, List.set_cons_zero, List.set_cons_succ, i64_w, i32_w]; rfl)) : wpAnyLast P md ops Q S ds (fuel + 1) l a w := pure_ l' hi hN hc hQ hy ha h
theorem pU {P : Program} {ops : Array Oper} {Q : Exit → Act → World → Prop} {md : Region.Mode} {S : World → Prop} {ds : List Nat} {i : Nat} {N : Option Tmp} {oi : Oper} {fuel : Nat} {l : Array Bool} {a : Act} {w : World} {a' : Act} (l' : Array Bool) (h : wpAnyLast P md ops Q S ds fuel l' a' w) (hi : ops[i]? = some oi := by rfl) (hN : oi.dst = N := by rfl) (hc : anyB md ops l l' i = true := by exact any_of HT_.out (by kernel_rfl)) (hQ : ∀ c a w, Q (.panic c) (a.put oi.dst undef) w → Q (.panic c) a w := by exact fun _ _ _ h => h) (hy : Yields P ops oi undef a := by exact Or.inr ⟨by rfl, rfl⟩) (ha : a.put N undef = a' := by (simp only [Act.put, List.setIfInBounds_toArray, List.set_cons_zero, List.set_cons_succ, i64_w, i32_w]; rfl)) : wpAnyLast P md ops Q S ds (fuel + 1) l a w := pure_ l' hi hN hc hQ hy ha h
theorem nP {P : Program} {md : Region.Mode} {ops : Array Oper} {Q : Exit → Act → World → Prop} {S : World → Prop} {ds : List Nat} {fuel : Nat} {l : Array Bool} {a a' : Act} {N : Option Tmp} {v : Value} {w : World} (h : wpAnyLast P md ops Q S ds fuel l a' w) (ha : a.put N v = a' := by (go_frame <;> (try simp only [i64_w, i32_w]); rfl)) : wpAnyLast P md ops Q S ds fuel l (a.put N v) w := norm_ ha h
theorem nA {P : Program} {md : Region.Mode} {ops : Array Oper} {Q : Exit → Act → World → Prop} {S : World → Prop} {ds : List Nat} {fuel : Nat} {l : Array Bool} {a a' : Act} {N : List (Tmp × Value)} {w : World} (h : wpAnyLast P md ops Q S ds fuel l a' w) (ha : putAll a N = a' := by (simp only [putAll, Act.put, List.setIfInBounds_toArray, List.set_cons_zero, List.set_cons_succ]; rfl)) : wpAnyLast P md ops Q S ds fuel l (putAll a N) w := norm_ ha h



def errW : Option Int → Value
  | none => .nilIface
  | some c => .iface 0 (.int .i64 c)
theorem errW_none : errW none = .nilIface := rfl
theorem errW_some (c : Int) : errW (some c) = .iface 0 (.int .i64 c) := rfl

theorem info3 : (Tryd.prog.info? 3).map (fun i => (i.zero, i.size, i.bytes)) = some (some (.int .i64 0), 1, 8) := by kernel_rfl
theorem info4 : (Tryd.prog.info? 4).map (fun i => (i.zero, i.size, i.bytes)) = some (some (.bool false), 1, 1) := by kernel_rfl
theorem info40 : (Tryd.prog.info? 40).map (fun i => (i.zero, i.size, i.bytes)) = some (some (.slice none 0 0), 1, 24) := by kernel_rfl
theorem info77 : (Tryd.prog.info? 77).map (fun i => (i.zero, i.size, i.bytes)) = some (some (.slice none 0 0), 1, 24) := by kernel_rfl
theorem info101 : (Tryd.prog.info? 101).map (fun i => (i.zero, i.size, i.bytes)) = some (some (.int .u64 0), 1, 8) := by kernel_rfl
-- the values' own types
def rd_L1 (xs : List (List Int)) (i : Int) : (List Int) := xs.getD i.toNat ([] : List Int)
theorem at_L1 {w : World} {A : Option Addr} {n : Nat} {xs : List (List Int)} (h : Kd.C (Kd.slice 101 (Kd.int .u64)) w A n xs) (i : Int) (h0 : 0 ≤ i) (h1 : i < n) : ∃ ad A0 c0, A = some ad ∧ w.cell? (ad.add i.toNat) = some (.slice A0 (rd_L1 xs i).length c0) ∧ (rd_L1 xs i).length ≤ c0 ∧ (Kd.int .u64).C w A0 (rd_L1 xs i).length (rd_L1 xs i) := by
  obtain ⟨ad, c, e, _, hK, hc0⟩ := Kd.C_get h ([] : List Int) i h0 h1
  have hc : ∀ j u, c[j]? = some u → w.cell? (ad.add (i.toNat * 1 + j)) = some u := hc0
  obtain ⟨A0, c0, rfl, l0, g0⟩ := hK
  exact ⟨ad, A0, c0, e, by have hq := hc 0 _ rfl; rwa [Nat.mul_one, Nat.add_zero] at hq, l0, g0⟩

def rd_L3 (xs : List (List Bool)) (i : Int) : (List Bool) := xs.getD i.toNat ([] : List Bool)
theorem at_L3 {w : World} {A : Option Addr} {n : Nat} {xs : List (List Bool)} (h : Kd.C (Kd.slice 4 Kd.bool) w A n xs) (i : Int) (h0 : 0 ≤ i) (h1 : i < n) : ∃ ad A0 c0, A = some ad ∧ w.cell? (ad.add i.toNat) = some (.slice A0 (rd_L3 xs i).length c0) ∧ (rd_L3 xs i).length ≤ c0 ∧ Kd.bool.C w A0 (rd_L3 xs i).length (rd_L3 xs i) := by
  obtain ⟨ad, c, e, _, hK, hc0⟩ := Kd.C_get h ([] : List Bool) i h0 h1
  have hc : ∀ j u, c[j]? = some u → w.cell? (ad.add (i.toNat * 1 + j)) = some u := hc0
  obtain ⟨A0, c0, rfl, l0, g0⟩ := hK
  exact ⟨ad, A0, c0, e, by have hq := hc 0 _ rfl; rwa [Nat.mul_one, Nat.add_zero] at hq, l0, g0⟩

end Go.Proofs.YtoieemaheadjdaaDoor.PRelOrders
