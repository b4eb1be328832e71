-- printed by a program of this session (wip/mp.py: the kit's printer, patched, over the session's own templates); checked by Lean alone
import Derived.Test.YtdnphnicdhcafaaProg
import Derived.Below
import Derived.Deep.Draws
import Derived.Deep.AppendLies
import Derived.Maps.AppendAt
import Derived.OwnWalk
import Derived.Laws.BytesArg
import Derived.Laws.MakeOwn
import Derived.Laws.OwnMore
import Derived.Deep.OwnRows
import Derived.Tactics
import Derived.Lib.ConvBytes
import Derived.Laws.Slices
import Derived.WalkKit
import Derived.KernelRfl
import Derived.RowKit3
import Derived.Deep.LoopGhost
import Derived.Deep.QuietTactic
import Derived.BigQuiet
import Derived.WideLaws
import Derived.Deep.DeepCutAuto
import Derived.Deep.CutBlock
import Derived.Deep.RegionHeld3
import Derived.Laws.Rows
import Derived.Lib.AppendStr
import Derived.ArgAppend
import Derived.Laws.IdiomCopy
import Derived.OrdersHeld
import Derived.Laws.BitsLemmas
import Derived.RowKit
import Derived.Shelf.Abstract
import Derived.RangeFuncRecord
import Derived.Test.YtdnphnicdhcafaaWWords
import Derived.Test.YtdnphnicdhcafaaWLast
import Derived.Test.YtdnphnicdhcafaaWTab
import Derived.Test.YtdnphnicdhcafaaWFour
import Derived.Test.YtdnphnicdhcafaaWQPut
import Derived.Test.YtdnphnicdhcafaaWApart
import Derived.Test.YtdnphnicdhcafaaWArr
import Derived.Test.YtdnphnicdhcafaaWZeros
import Derived.Test.YtdnphnicdhcafaaWFoot
import Derived.Test.YtdnphnicdhcafaaWKept
import Derived.Test.YtdnphnicdhcafaaWShare
import Derived.Test.YtdnphnicdhcafaaWN
import Derived.Test.YtdnphnicdhcafaaWFootNe
import Derived.Test.YtdnphnicdhcafaaWAt
import Derived.Test.YtdnphnicdhcafaaWEqStruct
import Derived.Test.YtdnphnicdhcafaaWRepsOne
import Derived.Test.YtdnphnicdhcafaaWInv
import Derived.Test.YtdnphnicdhcafaaWInvWords
import Derived.Test.YtdnphnicdhcafaaWGuard
import Derived.Test.YtdnphnicdhcafaaWNEv
import Derived.Test.YtdnphnicdhcafaaWMore
namespace Go.Proofs.Ytdnphnicdhcafaa.PCalcBins
open Go.RowKit Go.Proofs.YtdnphnicdhcafaaW.PrintWords Go.Proofs.YtdnphnicdhcafaaW.PrintLast Go.Proofs.YtdnphnicdhcafaaW.PrintMore
attribute [local go_sem] max2_int min2_int max_two min_two max_three min_three max_four min_four   -- for this text's walks alone
set_option linter.unusedVariables false
set_option linter.unusedSimpArgs false

theorem MB_R {α : Type} {d : Kd α} {e base : Nat} {ok ok' : Nat → Prop} {W W1 : World} {v : Value} {xs : List α} (h : Kd.R d e W base ok v xs) (hb : Below W.heap.size W W1) (hok : ∀ k, ok k → ok' k) : Kd.R d e W1 base ok' v xs := Kd.R_mono (Kd.R_below h hb) hok
theorem MB_Q {α : Type} {d : Kd α} {e base : Nat} {ok ok' : Nat → Prop} {W W1 : World} {v : Value} {xs : List α} (h : Kd.Q d e W base ok v xs) (hb : Below W.heap.size W W1) (hok : ∀ k, ok k → ok' k) : Kd.Q d e W1 base ok' v xs := Kd.Q_mono (Kd.Q_below h hb) hok
theorem MB_S {α : Type} {d : Kd α} {e base : Nat} {ok ok' : Nat → Prop} {W W1 : World} {v : Value} {xs : List α} (h : Kd.S d e W base ok v xs) (hb : Below W.heap.size W W1) (hok : ∀ k, ok k → ok' k) : Kd.S d e W1 base ok' v xs := Kd.S_mono (Kd.S_below h hb) hok
theorem MB_N {α : Type} {d : Kd α} {e base : Nat} {ok ok' : Nat → Prop} {W W1 : World} {v : Value} {xs : List α} (h : Kd.N d e W base ok v xs) (hb : Below W.heap.size W W1) (hok : ∀ k, ok k → ok' k) : Kd.N d e W1 base ok' v xs := Kd.N_mono (Kd.N_below h hb) hok
theorem MB_V {α : Type} {d : Kd α} {e base : Nat} {ok ok' : Nat → Prop} {W W1 : World} {v : Value} {xs : List α} (h : Kd.V d e W base ok v xs) (hb : Below W.heap.size W W1) (hok : ∀ k, ok k → ok' k) : Kd.V d e W1 base ok' v xs := Kd.V_mono (Kd.V_below h hb) hok



def errW : Option Int → Value
  | none => .nilIface
  | some c => .iface 0 (.int .i64 c)
theorem errW_none : errW none = .nilIface := rfl
theorem errW_some (c : Int) : errW (some c) = .iface 0 (.int .i64 c) := rfl

theorem info3 : (Try.prog.info? 3).map (fun i => (i.zero, i.size, i.bytes)) = some (some (.int .i64 0), 1, 8) := by kernel_rfl
theorem info9 : (Try.prog.info? 9).map (fun i => (i.zero, i.size, i.bytes)) = some (some (.string ⟨#[]⟩), 1, 16) := by kernel_rfl
-- the values' own types

end Go.Proofs.Ytdnphnicdhcafaa.PCalcBins
