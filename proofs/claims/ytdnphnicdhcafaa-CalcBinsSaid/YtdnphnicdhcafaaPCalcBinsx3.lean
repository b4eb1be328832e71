-- printed by a program of this session (wip/mp.py: the kit's printer, patched, over the session's own templates); checked by Lean alone
import Derived.Test.YtdnphnicdhcafaaPCalcBinsx0
import Derived.Test.YtdnphnicdhcafaaPCalcBinsx2
namespace Go.Proofs.Ytdnphnicdhcafaa.PCalcBins
open Go.RowKit Go.Proofs.YtdnphnicdhcafaaW.PrintWords Go.Proofs.YtdnphnicdhcafaaW.PrintLast Go.Proofs.YtdnphnicdhcafaaW.PrintMore
attribute [local go_sem] max2_int min2_int max_two min_two max_three min_three max_four min_four   -- for this text's walks alone
set_option linter.unusedVariables false
set_option linter.unusedSimpArgs false

/-! ### spinnakerref07_shorts: function 68 -/
def spinnakerref07_shorts.f (k : Nat) (a0 : ByteArray) (a1 : Int) (a2 : Int) : Option (Int) := (spinnakerref07_Half.f k a1).bind fun t130 => ((spinnakerref07_Half.f k a2).bind fun t131 => ((spinnakerref07_Div.f t130 t131).bind fun bt132 => ((spinnakerref07_DivU.f (Int.tmod (IntKind.u64.wrap (a1)) 4294967296) (Int.tmod (IntKind.u64.wrap (a2)) 4294967296)).bind fun bt134 => (if a0.toList = ([97, 100, 100, 119] : List UInt8) then ((spinnakerref07_Half.f k (wrap64 (a1 + a2))).bind fun t136 => (some t136)) else (if a0.toList = ([115, 117, 98, 119] : List UInt8) then ((spinnakerref07_Half.f k (wrap64 (a1 - a2))).bind fun t137 => (some t137)) else (if a0.toList = ([115, 108, 108, 119] : List UInt8) then ((spinnakerref07_moved.f k a1 (wrap64 (Int.tmod (IntKind.u64.wrap (a2)) 32)) true 0 32).bind fun t138 => ((spinnakerref07_Half.f k t138).bind fun t139 => (some t139))) else (if a0.toList = ([115, 114, 108, 119] : List UInt8) then ((spinnakerref07_moved.f k a1 (wrap64 (Int.tmod (IntKind.u64.wrap (a2)) 32)) false 0 32).bind fun t140 => ((spinnakerref07_Half.f k t140).bind fun t141 => (some t141))) else (if a0.toList = ([115, 114, 97, 119] : List UInt8) then ((spinnakerref01_Bit.f k (IntKind.u64.wrap (a1)) 31).bind fun t142 => ((spinnakerref07_moved.f k a1 (wrap64 (Int.tmod (IntKind.u64.wrap (a2)) 32)) false t142 32).bind fun t143 => ((spinnakerref07_Half.f k t143).bind fun t144 => (some t144)))) else (if a0.toList = ([109, 117, 108, 119] : List UInt8) then ((spinnakerref07_Half.f k (wrap64 (a1 * a2))).bind fun t145 => (some t145)) else (if a0.toList = ([100, 105, 118, 119] : List UInt8) then ((spinnakerref07_Half.f k bt132.1).bind fun t146 => (some t146)) else (if a0.toList = ([100, 105, 118, 117, 119] : List UInt8) then ((spinnakerref07_Half.f k bt134.1).bind fun t147 => (some t147)) else (if a0.toList = ([114, 101, 109, 119] : List UInt8) then ((spinnakerref07_Half.f k bt132.2).bind fun t148 => (some t148)) else ((spinnakerref07_Half.f k bt134.2).bind fun t149 => (some t149))))))))))))))
theorem spinnakerref07_shorts.mono : ∀ a0 a1 a2 k, LeO (spinnakerref07_shorts.f k a0 a1 a2) (spinnakerref07_shorts.f (k + 1) a0 a1 a2) := by
  intro a0 a1 a2 k
  unfold spinnakerref07_shorts.f
  repeat' first
      | (with_reducible exact spinnakerref01_Bit.mono _ _ _)
      | (with_reducible exact spinnakerref07_Half.mono _ _)
      | (with_reducible exact spinnakerref07_moved.mono _ _ _ _ _ _)
      | (with_reducible exact LeO.refl _)
      | (with_reducible exact LeO.none _)
      | (with_reducible refine LeO.ite ?_ ?_)
      | (with_reducible refine LeO.bind ?_ (fun _ => ?_))
      | exact spinnakerref01_Bit.mono _ _ _
      | exact spinnakerref07_Half.mono _ _
      | exact spinnakerref07_moved.mono _ _ _ _ _ _
      | exact LeO.none _
      | refine LeO.ite ?_ ?_
      | refine LeO.bind ?_ (fun _ => ?_)
set_option maxHeartbeats 8000000 in
set_option maxRecDepth 100000 in
theorem spinnakerref07_shorts.calls (k : Nat) (a0 : ByteArray) (a1 : Int) (a2 : Int) (r : Int) (w : World) (h : spinnakerref07_shorts.f k a0 a1 a2 = some r) :
    Calls Try.prog 68 #[.string a0, .int .i64 a1, .int .i64 a2] w fun e w' => e = .returned (.int .i64 r) ∧ Below w.heap.size w w' := by
  have HB := Aside0.mk (Below.refl w.heap.size w)
  have H : ((spinnakerref07_Half.f k a1).bind fun t130 => ((spinnakerref07_Half.f k a2).bind fun t131 => ((spinnakerref07_Div.f t130 t131).bind fun bt132 => ((spinnakerref07_DivU.f (Int.tmod (IntKind.u64.wrap (a1)) 4294967296) (Int.tmod (IntKind.u64.wrap (a2)) 4294967296)).bind fun bt134 => (if a0.toList = ([97, 100, 100, 119] : List UInt8) then ((spinnakerref07_Half.f k (wrap64 (a1 + a2))).bind fun t136 => (some t136)) else (if a0.toList = ([115, 117, 98, 119] : List UInt8) then ((spinnakerref07_Half.f k (wrap64 (a1 - a2))).bind fun t137 => (some t137)) else (if a0.toList = ([115, 108, 108, 119] : List UInt8) then ((spinnakerref07_moved.f k a1 (wrap64 (Int.tmod (IntKind.u64.wrap (a2)) 32)) true 0 32).bind fun t138 => ((spinnakerref07_Half.f k t138).bind fun t139 => (some t139))) else (if a0.toList = ([115, 114, 108, 119] : List UInt8) then ((spinnakerref07_moved.f k a1 (wrap64 (Int.tmod (IntKind.u64.wrap (a2)) 32)) false 0 32).bind fun t140 => ((spinnakerref07_Half.f k t140).bind fun t141 => (some t141))) else (if a0.toList = ([115, 114, 97, 119] : List UInt8) then ((spinnakerref01_Bit.f k (IntKind.u64.wrap (a1)) 31).bind fun t142 => ((spinnakerref07_moved.f k a1 (wrap64 (Int.tmod (IntKind.u64.wrap (a2)) 32)) false t142 32).bind fun t143 => ((spinnakerref07_Half.f k t143).bind fun t144 => (some t144)))) else (if a0.toList = ([109, 117, 108, 119] : List UInt8) then ((spinnakerref07_Half.f k (wrap64 (a1 * a2))).bind fun t145 => (some t145)) else (if a0.toList = ([100, 105, 118, 119] : List UInt8) then ((spinnakerref07_Half.f k bt132.1).bind fun t146 => (some t146)) else (if a0.toList = ([100, 105, 118, 117, 119] : List UInt8) then ((spinnakerref07_Half.f k bt134.1).bind fun t147 => (some t147)) else (if a0.toList = ([114, 101, 109, 119] : List UInt8) then ((spinnakerref07_Half.f k bt132.2).bind fun t148 => (some t148)) else ((spinnakerref07_Half.f k bt134.2).bind fun t149 => (some t149))))))))))))))) = some r := h
  clear h
  replace H := Option.bind_eq_some_iff.mp H
  obtain ⟨t130, A40, H⟩ := H
  replace H : ((spinnakerref07_Half.f k a2).bind fun t131 => ((spinnakerref07_Div.f t130 t131).bind fun bt132 => ((spinnakerref07_DivU.f (Int.tmod (IntKind.u64.wrap (a1)) 4294967296) (Int.tmod (IntKind.u64.wrap (a2)) 4294967296)).bind fun bt134 => (if a0.toList = ([97, 100, 100, 119] : List UInt8) then ((spinnakerref07_Half.f k (wrap64 (a1 + a2))).bind fun t136 => (some t136)) else (if a0.toList = ([115, 117, 98, 119] : List UInt8) then ((spinnakerref07_Half.f k (wrap64 (a1 - a2))).bind fun t137 => (some t137)) else (if a0.toList = ([115, 108, 108, 119] : List UInt8) then ((spinnakerref07_moved.f k a1 (wrap64 (Int.tmod (IntKind.u64.wrap (a2)) 32)) true 0 32).bind fun t138 => ((spinnakerref07_Half.f k t138).bind fun t139 => (some t139))) else (if a0.toList = ([115, 114, 108, 119] : List UInt8) then ((spinnakerref07_moved.f k a1 (wrap64 (Int.tmod (IntKind.u64.wrap (a2)) 32)) false 0 32).bind fun t140 => ((spinnakerref07_Half.f k t140).bind fun t141 => (some t141))) else (if a0.toList = ([115, 114, 97, 119] : List UInt8) then ((spinnakerref01_Bit.f k (IntKind.u64.wrap (a1)) 31).bind fun t142 => ((spinnakerref07_moved.f k a1 (wrap64 (Int.tmod (IntKind.u64.wrap (a2)) 32)) false t142 32).bind fun t143 => ((spinnakerref07_Half.f k t143).bind fun t144 => (some t144)))) else (if a0.toList = ([109, 117, 108, 119] : List UInt8) then ((spinnakerref07_Half.f k (wrap64 (a1 * a2))).bind fun t145 => (some t145)) else (if a0.toList = ([100, 105, 118, 119] : List UInt8) then ((spinnakerref07_Half.f k bt132.1).bind fun t146 => (some t146)) else (if a0.toList = ([100, 105, 118, 117, 119] : List UInt8) then ((spinnakerref07_Half.f k bt134.1).bind fun t147 => (some t147)) else (if a0.toList = ([114, 101, 109, 119] : List UInt8) then ((spinnakerref07_Half.f k bt132.2).bind fun t148 => (some t148)) else ((spinnakerref07_Half.f k bt134.2).bind fun t149 => (some t149)))))))))))))) = some r := H
  have A4 := Aside0.mk A40
  clear A40
  replace H := Option.bind_eq_some_iff.mp H
  obtain ⟨t131, A50, H⟩ := H
  replace H : ((spinnakerref07_Div.f t130 t131).bind fun bt132 => ((spinnakerref07_DivU.f (Int.tmod (IntKind.u64.wrap (a1)) 4294967296) (Int.tmod (IntKind.u64.wrap (a2)) 4294967296)).bind fun bt134 => (if a0.toList = ([97, 100, 100, 119] : List UInt8) then ((spinnakerref07_Half.f k (wrap64 (a1 + a2))).bind fun t136 => (some t136)) else (if a0.toList = ([115, 117, 98, 119] : List UInt8) then ((spinnakerref07_Half.f k (wrap64 (a1 - a2))).bind fun t137 => (some t137)) else (if a0.toList = ([115, 108, 108, 119] : List UInt8) then ((spinnakerref07_moved.f k a1 (wrap64 (Int.tmod (IntKind.u64.wrap (a2)) 32)) true 0 32).bind fun t138 => ((spinnakerref07_Half.f k t138).bind fun t139 => (some t139))) else (if a0.toList = ([115, 114, 108, 119] : List UInt8) then ((spinnakerref07_moved.f k a1 (wrap64 (Int.tmod (IntKind.u64.wrap (a2)) 32)) false 0 32).bind fun t140 => ((spinnakerref07_Half.f k t140).bind fun t141 => (some t141))) else (if a0.toList = ([115, 114, 97, 119] : List UInt8) then ((spinnakerref01_Bit.f k (IntKind.u64.wrap (a1)) 31).bind fun t142 => ((spinnakerref07_moved.f k a1 (wrap64 (Int.tmod (IntKind.u64.wrap (a2)) 32)) false t142 32).bind fun t143 => ((spinnakerref07_Half.f k t143).bind fun t144 => (some t144)))) else (if a0.toList = ([109, 117, 108, 119] : List UInt8) then ((spinnakerref07_Half.f k (wrap64 (a1 * a2))).bind fun t145 => (some t145)) else (if a0.toList = ([100, 105, 118, 119] : List UInt8) then ((spinnakerref07_Half.f k bt132.1).bind fun t146 => (some t146)) else (if a0.toList = ([100, 105, 118, 117, 119] : List UInt8) then ((spinnakerref07_Half.f k bt134.1).bind fun t147 => (some t147)) else (if a0.toList = ([114, 101, 109, 119] : List UInt8) then ((spinnakerref07_Half.f k bt132.2).bind fun t148 => (some t148)) else ((spinnakerref07_Half.f k bt134.2).bind fun t149 => (some t149))))))))))))) = some r := H
  have A5 := Aside0.mk A50
  clear A50
  replace H := Option.bind_eq_some_iff.mp H
  obtain ⟨⟨t132, t133⟩, A60, H⟩ := H
  replace H : ((spinnakerref07_DivU.f (Int.tmod (IntKind.u64.wrap (a1)) 4294967296) (Int.tmod (IntKind.u64.wrap (a2)) 4294967296)).bind fun bt134 => (if a0.toList = ([97, 100, 100, 119] : List UInt8) then ((spinnakerref07_Half.f k (wrap64 (a1 + a2))).bind fun t136 => (some t136)) else (if a0.toList = ([115, 117, 98, 119] : List UInt8) then ((spinnakerref07_Half.f k (wrap64 (a1 - a2))).bind fun t137 => (some t137)) else (if a0.toList = ([115, 108, 108, 119] : List UInt8) then ((spinnakerref07_moved.f k a1 (wrap64 (Int.tmod (IntKind.u64.wrap (a2)) 32)) true 0 32).bind fun t138 => ((spinnakerref07_Half.f k t138).bind fun t139 => (some t139))) else (if a0.toList = ([115, 114, 108, 119] : List UInt8) then ((spinnakerref07_moved.f k a1 (wrap64 (Int.tmod (IntKind.u64.wrap (a2)) 32)) false 0 32).bind fun t140 => ((spinnakerref07_Half.f k t140).bind fun t141 => (some t141))) else (if a0.toList = ([115, 114, 97, 119] : List UInt8) then ((spinnakerref01_Bit.f k (IntKind.u64.wrap (a1)) 31).bind fun t142 => ((spinnakerref07_moved.f k a1 (wrap64 (Int.tmod (IntKind.u64.wrap (a2)) 32)) false t142 32).bind fun t143 => ((spinnakerref07_Half.f k t143).bind fun t144 => (some t144)))) else (if a0.toList = ([109, 117, 108, 119] : List UInt8) then ((spinnakerref07_Half.f k (wrap64 (a1 * a2))).bind fun t145 => (some t145)) else (if a0.toList = ([100, 105, 118, 119] : List UInt8) then ((spinnakerref07_Half.f k t132).bind fun t146 => (some t146)) else (if a0.toList = ([100, 105, 118, 117, 119] : List UInt8) then ((spinnakerref07_Half.f k bt134.1).bind fun t147 => (some t147)) else (if a0.toList = ([114, 101, 109, 119] : List UInt8) then ((spinnakerref07_Half.f k t133).bind fun t148 => (some t148)) else ((spinnakerref07_Half.f k bt134.2).bind fun t149 => (some t149)))))))))))) = some r := H
  have A6 := Aside0.mk A60
  clear A60
  replace H := Option.bind_eq_some_iff.mp H
  obtain ⟨⟨t134, t135⟩, A70, H⟩ := H
  replace H : (if a0.toList = ([97, 100, 100, 119] : List UInt8) then ((spinnakerref07_Half.f k (wrap64 (a1 + a2))).bind fun t136 => (some t136)) else (if a0.toList = ([115, 117, 98, 119] : List UInt8) then ((spinnakerref07_Half.f k (wrap64 (a1 - a2))).bind fun t137 => (some t137)) else (if a0.toList = ([115, 108, 108, 119] : List UInt8) then ((spinnakerref07_moved.f k a1 (wrap64 (Int.tmod (IntKind.u64.wrap (a2)) 32)) true 0 32).bind fun t138 => ((spinnakerref07_Half.f k t138).bind fun t139 => (some t139))) else (if a0.toList = ([115, 114, 108, 119] : List UInt8) then ((spinnakerref07_moved.f k a1 (wrap64 (Int.tmod (IntKind.u64.wrap (a2)) 32)) false 0 32).bind fun t140 => ((spinnakerref07_Half.f k t140).bind fun t141 => (some t141))) else (if a0.toList = ([115, 114, 97, 119] : List UInt8) then ((spinnakerref01_Bit.f k (IntKind.u64.wrap (a1)) 31).bind fun t142 => ((spinnakerref07_moved.f k a1 (wrap64 (Int.tmod (IntKind.u64.wrap (a2)) 32)) false t142 32).bind fun t143 => ((spinnakerref07_Half.f k t143).bind fun t144 => (some t144)))) else (if a0.toList = ([109, 117, 108, 119] : List UInt8) then ((spinnakerref07_Half.f k (wrap64 (a1 * a2))).bind fun t145 => (some t145)) else (if a0.toList = ([100, 105, 118, 119] : List UInt8) then ((spinnakerref07_Half.f k t132).bind fun t146 => (some t146)) else (if a0.toList = ([100, 105, 118, 117, 119] : List UInt8) then ((spinnakerref07_Half.f k t134).bind fun t147 => (some t147)) else (if a0.toList = ([114, 101, 109, 119] : List UInt8) then ((spinnakerref07_Half.f k t133).bind fun t148 => (some t148)) else ((spinnakerref07_Half.f k t135).bind fun t149 => (some t149))))))))))) = some r := H
  have A7 := Aside0.mk A70
  clear A70
  by_cases c8 : a0.toList = ([97, 100, 100, 119] : List UInt8)
  · rw [if_pos c8] at H
    have c8b0 : (a0.toList == ([97, 100, 100, 119] : List UInt8)) = true := beq_iff_eq.mpr c8
    have c8b1 : (a0.toList != ([97, 100, 100, 119] : List UInt8)) = false := bne_eq_false_iff_eq.mpr c8
    clear c8
    replace H := Option.bind_eq_some_iff.mp H
    obtain ⟨t136, A90, H⟩ := H
    replace H : (some t136) = some r := H
    have A9 := Aside0.mk A90
    clear A90
    obtain rfl := Option.some.inj H
    go_enter Try.func68, Try.ntmps68
    go_wp2_with (first | ((with_reducible refine gate_callee (f := 77) rfl ?_); refine goesL_ (some 18) rfl rfl Try.func77 (by kernel_rfl) rfl #[.int .i64 a1] rfl (by (try simp only [List.map_toArray, List.map_cons, List.map_nil]); first | done | rfl | (simp only [List.length_drop, List.length_take]; rfl)) ?_; (with_reducible refine (spinnakerref07_Half.calls k a1 t130 _ A4.out).mono ?_); rintro e w' ⟨rfl, ⟨nd, rfl⟩⟩; refine ⟨_, rfl, ?_⟩) | ((with_reducible refine gate_callee (f := 77) rfl ?_); refine goesL_ (some 20) rfl rfl Try.func77 (by kernel_rfl) rfl #[.int .i64 a2] rfl (by (try simp only [List.map_toArray, List.map_cons, List.map_nil]); first | done | rfl | (simp only [List.length_drop, List.length_take]; rfl)) ?_; (with_reducible refine (spinnakerref07_Half.calls k a2 t131 _ A5.out).mono ?_); rintro e w' ⟨rfl, ⟨nd, rfl⟩⟩; refine ⟨_, rfl, ?_⟩) | ((with_reducible refine gate_callee (f := 76) rfl ?_); refine goesL_ (some 21) rfl rfl Try.func76 (by kernel_rfl) rfl #[.int .i64 t130, .int .i64 t131] rfl (by (try simp only [List.map_toArray, List.map_cons, List.map_nil]); first | done | rfl | (simp only [List.length_drop, List.length_take]; rfl)) ?_; (with_reducible refine (spinnakerref07_Div.calls t130 t131 t132 t133 _ A6.out).mono ?_); rintro e w' ⟨rfl, ⟨nd, rfl⟩⟩; refine ⟨_, rfl, ?_⟩) | ((with_reducible refine gate_callee (f := 78) rfl ?_); refine goesL_ (some 31) rfl rfl Try.func78 (by kernel_rfl) rfl #[.int .u64 (Int.tmod (IntKind.u64.wrap (a1)) 4294967296), .int .u64 (Int.tmod (IntKind.u64.wrap (a2)) 4294967296)] rfl (by (try simp only [List.map_toArray, List.map_cons, List.map_nil]); first | done | rfl | (simp only [List.length_drop, List.length_take]; rfl)) ?_; (with_reducible refine (spinnakerref07_DivU.calls (Int.tmod (IntKind.u64.wrap (a1)) 4294967296) (Int.tmod (IntKind.u64.wrap (a2)) 4294967296) t134 t135 _ A7.out).mono ?_); rintro e w' ⟨rfl, ⟨nd, rfl⟩⟩; refine ⟨_, rfl, ?_⟩) | ((with_reducible refine gate_callee (f := 77) rfl ?_); refine goesL_ (some 40) rfl rfl Try.func77 (by kernel_rfl) rfl #[.int .i64 (wrap64 (a1 + a2))] rfl (by (try simp only [List.map_toArray, List.map_cons, List.map_nil]); first | done | rfl | (simp only [List.length_drop, List.length_take]; rfl)) ?_; (with_reducible refine (spinnakerref07_Half.calls k (wrap64 (a1 + a2)) t136 _ A9.out).mono ?_); rintro e w' ⟨rfl, ⟨nd, rfl⟩⟩; refine ⟨_, rfl, ?_⟩))
    go_ret
    exact ⟨by first | rfl | (simp [errW_none, errW_some] <;> rfl) | (simp [*, errW_none, errW_some] <;> rfl), by repeat (first | (with_reducible first | exact HB.out | apply below_alloc | apply pw_below_drewN | apply below_drew1) | exact HB.out)⟩
  · rw [if_neg c8] at H
    have c8b0 : (a0.toList == ([97, 100, 100, 119] : List UInt8)) = false := beq_eq_false_iff_ne.mpr c8
    have c8b1 : (a0.toList != ([97, 100, 100, 119] : List UInt8)) = true := bne_iff_ne.mpr c8
    by_cases c10 : a0.toList = ([115, 117, 98, 119] : List UInt8)
    · rw [if_pos c10] at H
      have c10b0 : (a0.toList == ([115, 117, 98, 119] : List UInt8)) = true := beq_iff_eq.mpr c10
      have c10b1 : (a0.toList != ([115, 117, 98, 119] : List UInt8)) = false := bne_eq_false_iff_eq.mpr c10
      clear c10
      replace H := Option.bind_eq_some_iff.mp H
      obtain ⟨t137, A110, H⟩ := H
      replace H : (some t137) = some r := H
      have A11 := Aside0.mk A110
      clear A110
      obtain rfl := Option.some.inj H
      go_enter Try.func68, Try.ntmps68
      go_wp2_with (first | ((with_reducible refine gate_callee (f := 77) rfl ?_); refine goesL_ (some 18) rfl rfl Try.func77 (by kernel_rfl) rfl #[.int .i64 a1] rfl (by (try simp only [List.map_toArray, List.map_cons, List.map_nil]); first | done | rfl | (simp only [List.length_drop, List.length_take]; rfl)) ?_; (with_reducible refine (spinnakerref07_Half.calls k a1 t130 _ A4.out).mono ?_); rintro e w' ⟨rfl, ⟨nd, rfl⟩⟩; refine ⟨_, rfl, ?_⟩) | ((with_reducible refine gate_callee (f := 77) rfl ?_); refine goesL_ (some 20) rfl rfl Try.func77 (by kernel_rfl) rfl #[.int .i64 a2] rfl (by (try simp only [List.map_toArray, List.map_cons, List.map_nil]); first | done | rfl | (simp only [List.length_drop, List.length_take]; rfl)) ?_; (with_reducible refine (spinnakerref07_Half.calls k a2 t131 _ A5.out).mono ?_); rintro e w' ⟨rfl, ⟨nd, rfl⟩⟩; refine ⟨_, rfl, ?_⟩) | ((with_reducible refine gate_callee (f := 76) rfl ?_); refine goesL_ (some 21) rfl rfl Try.func76 (by kernel_rfl) rfl #[.int .i64 t130, .int .i64 t131] rfl (by (try simp only [List.map_toArray, List.map_cons, List.map_nil]); first | done | rfl | (simp only [List.length_drop, List.length_take]; rfl)) ?_; (with_reducible refine (spinnakerref07_Div.calls t130 t131 t132 t133 _ A6.out).mono ?_); rintro e w' ⟨rfl, ⟨nd, rfl⟩⟩; refine ⟨_, rfl, ?_⟩) | ((with_reducible refine gate_callee (f := 78) rfl ?_); refine goesL_ (some 31) rfl rfl Try.func78 (by kernel_rfl) rfl #[.int .u64 (Int.tmod (IntKind.u64.wrap (a1)) 4294967296), .int .u64 (Int.tmod (IntKind.u64.wrap (a2)) 4294967296)] rfl (by (try simp only [List.map_toArray, List.map_cons, List.map_nil]); first | done | rfl | (simp only [List.length_drop, List.length_take]; rfl)) ?_; (with_reducible refine (spinnakerref07_DivU.calls (Int.tmod (IntKind.u64.wrap (a1)) 4294967296) (Int.tmod (IntKind.u64.wrap (a2)) 4294967296) t134 t135 _ A7.out).mono ?_); rintro e w' ⟨rfl, ⟨nd, rfl⟩⟩; refine ⟨_, rfl, ?_⟩) | ((with_reducible refine gate_callee (f := 77) rfl ?_); refine goesL_ (some 46) rfl rfl Try.func77 (by kernel_rfl) rfl #[.int .i64 (wrap64 (a1 - a2))] rfl (by (try simp only [List.map_toArray, List.map_cons, List.map_nil]); first | done | rfl | (simp only [List.length_drop, List.length_take]; rfl)) ?_; (with_reducible refine (spinnakerref07_Half.calls k (wrap64 (a1 - a2)) t137 _ A11.out).mono ?_); rintro e w' ⟨rfl, ⟨nd, rfl⟩⟩; refine ⟨_, rfl, ?_⟩))
      go_ret
      exact ⟨by first | rfl | (simp [errW_none, errW_some] <;> rfl) | (simp [*, errW_none, errW_some] <;> rfl), by repeat (first | (with_reducible first | exact HB.out | apply below_alloc | apply pw_below_drewN | apply below_drew1) | exact HB.out)⟩
    · rw [if_neg c10] at H
      have c10b0 : (a0.toList == ([115, 117, 98, 119] : List UInt8)) = false := beq_eq_false_iff_ne.mpr c10
      have c10b1 : (a0.toList != ([115, 117, 98, 119] : List UInt8)) = true := bne_iff_ne.mpr c10
      by_cases c12 : a0.toList = ([115, 108, 108, 119] : List UInt8)
      · rw [if_pos c12] at H
        have c12b0 : (a0.toList == ([115, 108, 108, 119] : List UInt8)) = true := beq_iff_eq.mpr c12
        have c12b1 : (a0.toList != ([115, 108, 108, 119] : List UInt8)) = false := bne_eq_false_iff_eq.mpr c12
        clear c12
        replace H := Option.bind_eq_some_iff.mp H
        obtain ⟨t138, A130, H⟩ := H
        replace H : ((spinnakerref07_Half.f k t138).bind fun t139 => (some t139)) = some r := H
        have A13 := Aside0.mk A130
        clear A130
        replace H := Option.bind_eq_some_iff.mp H
        obtain ⟨t139, A140, H⟩ := H
        replace H : (some t139) = some r := H
        have A14 := Aside0.mk A140
        clear A140
        obtain rfl := Option.some.inj H
        go_enter Try.func68, Try.ntmps68
        go_wp2_with (first | ((with_reducible refine gate_callee (f := 77) rfl ?_); refine goesL_ (some 18) rfl rfl Try.func77 (by kernel_rfl) rfl #[.int .i64 a1] rfl (by (try simp only [List.map_toArray, List.map_cons, List.map_nil]); first | done | rfl | (simp only [List.length_drop, List.length_take]; rfl)) ?_; (with_reducible refine (spinnakerref07_Half.calls k a1 t130 _ A4.out).mono ?_); rintro e w' ⟨rfl, ⟨nd, rfl⟩⟩; refine ⟨_, rfl, ?_⟩) | ((with_reducible refine gate_callee (f := 77) rfl ?_); refine goesL_ (some 20) rfl rfl Try.func77 (by kernel_rfl) rfl #[.int .i64 a2] rfl (by (try simp only [List.map_toArray, List.map_cons, List.map_nil]); first | done | rfl | (simp only [List.length_drop, List.length_take]; rfl)) ?_; (with_reducible refine (spinnakerref07_Half.calls k a2 t131 _ A5.out).mono ?_); rintro e w' ⟨rfl, ⟨nd, rfl⟩⟩; refine ⟨_, rfl, ?_⟩) | ((with_reducible refine gate_callee (f := 76) rfl ?_); refine goesL_ (some 21) rfl rfl Try.func76 (by kernel_rfl) rfl #[.int .i64 t130, .int .i64 t131] rfl (by (try simp only [List.map_toArray, List.map_cons, List.map_nil]); first | done | rfl | (simp only [List.length_drop, List.length_take]; rfl)) ?_; (with_reducible refine (spinnakerref07_Div.calls t130 t131 t132 t133 _ A6.out).mono ?_); rintro e w' ⟨rfl, ⟨nd, rfl⟩⟩; refine ⟨_, rfl, ?_⟩) | ((with_reducible refine gate_callee (f := 78) rfl ?_); refine goesL_ (some 31) rfl rfl Try.func78 (by kernel_rfl) rfl #[.int .u64 (Int.tmod (IntKind.u64.wrap (a1)) 4294967296), .int .u64 (Int.tmod (IntKind.u64.wrap (a2)) 4294967296)] rfl (by (try simp only [List.map_toArray, List.map_cons, List.map_nil]); first | done | rfl | (simp only [List.length_drop, List.length_take]; rfl)) ?_; (with_reducible refine (spinnakerref07_DivU.calls (Int.tmod (IntKind.u64.wrap (a1)) 4294967296) (Int.tmod (IntKind.u64.wrap (a2)) 4294967296) t134 t135 _ A7.out).mono ?_); rintro e w' ⟨rfl, ⟨nd, rfl⟩⟩; refine ⟨_, rfl, ?_⟩) | ((with_reducible refine gate_callee (f := 65) rfl ?_); refine goesL_ (some 51) rfl rfl Try.func65 (by kernel_rfl) rfl #[.int .i64 a1, .int .i64 (wrap64 (Int.tmod (IntKind.u64.wrap (a2)) 32)), .bool true, .int .i64 0, .int .i64 32] rfl (by (try simp only [List.map_toArray, List.map_cons, List.map_nil]); first | done | rfl | (simp only [List.length_drop, List.length_take]; rfl)) ?_; (with_reducible refine (spinnakerref07_moved.calls k a1 (wrap64 (Int.tmod (IntKind.u64.wrap (a2)) 32)) true 0 32 t138 _ A13.out).mono ?_); rintro e w15 ⟨rfl, hb⟩; refine ⟨_, rfl, ?_⟩; have n0_ := Aside0.mk (below_step (by repeat (first | (with_reducible first | exact HB.out | apply below_alloc | apply pw_below_drewN | apply below_drew1) | exact HB.out)) hb); clear HB; have HB := n0_; clear n0_; (try clear hb); (try clear hb2); (try clear hk); (try clear hi)) | ((with_reducible refine gate_callee (f := 77) rfl ?_); refine goesL_ (some 52) rfl rfl Try.func77 (by kernel_rfl) rfl #[.int .i64 t138] rfl (by (try simp only [List.map_toArray, List.map_cons, List.map_nil]); first | done | rfl | (simp only [List.length_drop, List.length_take]; rfl)) ?_; (with_reducible refine (spinnakerref07_Half.calls k t138 t139 _ A14.out).mono ?_); rintro e w' ⟨rfl, ⟨nd, rfl⟩⟩; refine ⟨_, rfl, ?_⟩))
        go_ret
        exact ⟨by first | rfl | (simp [errW_none, errW_some] <;> rfl) | (simp [*, errW_none, errW_some] <;> rfl), by repeat (first | (with_reducible first | exact HB.out | apply below_alloc | apply pw_below_drewN | apply below_drew1) | exact HB.out)⟩
      · rw [if_neg c12] at H
        have c12b0 : (a0.toList == ([115, 108, 108, 119] : List UInt8)) = false := beq_eq_false_iff_ne.mpr c12
        have c12b1 : (a0.toList != ([115, 108, 108, 119] : List UInt8)) = true := bne_iff_ne.mpr c12
        by_cases c16 : a0.toList = ([115, 114, 108, 119] : List UInt8)
        · rw [if_pos c16] at H
          have c16b0 : (a0.toList == ([115, 114, 108, 119] : List UInt8)) = true := beq_iff_eq.mpr c16
          have c16b1 : (a0.toList != ([115, 114, 108, 119] : List UInt8)) = false := bne_eq_false_iff_eq.mpr c16
          clear c16
          replace H := Option.bind_eq_some_iff.mp H
          obtain ⟨t140, A170, H⟩ := H
          replace H : ((spinnakerref07_Half.f k t140).bind fun t141 => (some t141)) = some r := H
          have A17 := Aside0.mk A170
          clear A170
          replace H := Option.bind_eq_some_iff.mp H
          obtain ⟨t141, A180, H⟩ := H
          replace H : (some t141) = some r := H
          have A18 := Aside0.mk A180
          clear A180
          obtain rfl := Option.some.inj H
          go_enter Try.func68, Try.ntmps68
          go_wp2_with (first | ((with_reducible refine gate_callee (f := 77) rfl ?_); refine goesL_ (some 18) rfl rfl Try.func77 (by kernel_rfl) rfl #[.int .i64 a1] rfl (by (try simp only [List.map_toArray, List.map_cons, List.map_nil]); first | done | rfl | (simp only [List.length_drop, List.length_take]; rfl)) ?_; (with_reducible refine (spinnakerref07_Half.calls k a1 t130 _ A4.out).mono ?_); rintro e w' ⟨rfl, ⟨nd, rfl⟩⟩; refine ⟨_, rfl, ?_⟩) | ((with_reducible refine gate_callee (f := 77) rfl ?_); refine goesL_ (some 20) rfl rfl Try.func77 (by kernel_rfl) rfl #[.int .i64 a2] rfl (by (try simp only [List.map_toArray, List.map_cons, List.map_nil]); first | done | rfl | (simp only [List.length_drop, List.length_take]; rfl)) ?_; (with_reducible refine (spinnakerref07_Half.calls k a2 t131 _ A5.out).mono ?_); rintro e w' ⟨rfl, ⟨nd, rfl⟩⟩; refine ⟨_, rfl, ?_⟩) | ((with_reducible refine gate_callee (f := 76) rfl ?_); refine goesL_ (some 21) rfl rfl Try.func76 (by kernel_rfl) rfl #[.int .i64 t130, .int .i64 t131] rfl (by (try simp only [List.map_toArray, List.map_cons, List.map_nil]); first | done | rfl | (simp only [List.length_drop, List.length_take]; rfl)) ?_; (with_reducible refine (spinnakerref07_Div.calls t130 t131 t132 t133 _ A6.out).mono ?_); rintro e w' ⟨rfl, ⟨nd, rfl⟩⟩; refine ⟨_, rfl, ?_⟩) | ((with_reducible refine gate_callee (f := 78) rfl ?_); refine goesL_ (some 31) rfl rfl Try.func78 (by kernel_rfl) rfl #[.int .u64 (Int.tmod (IntKind.u64.wrap (a1)) 4294967296), .int .u64 (Int.tmod (IntKind.u64.wrap (a2)) 4294967296)] rfl (by (try simp only [List.map_toArray, List.map_cons, List.map_nil]); first | done | rfl | (simp only [List.length_drop, List.length_take]; rfl)) ?_; (with_reducible refine (spinnakerref07_DivU.calls (Int.tmod (IntKind.u64.wrap (a1)) 4294967296) (Int.tmod (IntKind.u64.wrap (a2)) 4294967296) t134 t135 _ A7.out).mono ?_); rintro e w' ⟨rfl, ⟨nd, rfl⟩⟩; refine ⟨_, rfl, ?_⟩) | ((with_reducible refine gate_callee (f := 65) rfl ?_); refine goesL_ (some 57) rfl rfl Try.func65 (by kernel_rfl) rfl #[.int .i64 a1, .int .i64 (wrap64 (Int.tmod (IntKind.u64.wrap (a2)) 32)), .bool false, .int .i64 0, .int .i64 32] rfl (by (try simp only [List.map_toArray, List.map_cons, List.map_nil]); first | done | rfl | (simp only [List.length_drop, List.length_take]; rfl)) ?_; (with_reducible refine (spinnakerref07_moved.calls k a1 (wrap64 (Int.tmod (IntKind.u64.wrap (a2)) 32)) false 0 32 t140 _ A17.out).mono ?_); rintro e w19 ⟨rfl, hb⟩; refine ⟨_, rfl, ?_⟩; have n0_ := Aside0.mk (below_step (by repeat (first | (with_reducible first | exact HB.out | apply below_alloc | apply pw_below_drewN | apply below_drew1) | exact HB.out)) hb); clear HB; have HB := n0_; clear n0_; (try clear hb); (try clear hb2); (try clear hk); (try clear hi)) | ((with_reducible refine gate_callee (f := 77) rfl ?_); refine goesL_ (some 58) rfl rfl Try.func77 (by kernel_rfl) rfl #[.int .i64 t140] rfl (by (try simp only [List.map_toArray, List.map_cons, List.map_nil]); first | done | rfl | (simp only [List.length_drop, List.length_take]; rfl)) ?_; (with_reducible refine (spinnakerref07_Half.calls k t140 t141 _ A18.out).mono ?_); rintro e w' ⟨rfl, ⟨nd, rfl⟩⟩; refine ⟨_, rfl, ?_⟩))
          go_ret
          exact ⟨by first | rfl | (simp [errW_none, errW_some] <;> rfl) | (simp [*, errW_none, errW_some] <;> rfl), by repeat (first | (with_reducible first | exact HB.out | apply below_alloc | apply pw_below_drewN | apply below_drew1) | exact HB.out)⟩
        · rw [if_neg c16] at H
          have c16b0 : (a0.toList == ([115, 114, 108, 119] : List UInt8)) = false := beq_eq_false_iff_ne.mpr c16
          have c16b1 : (a0.toList != ([115, 114, 108, 119] : List UInt8)) = true := bne_iff_ne.mpr c16
          by_cases c20 : a0.toList = ([115, 114, 97, 119] : List UInt8)
          · rw [if_pos c20] at H
            have c20b0 : (a0.toList == ([115, 114, 97, 119] : List UInt8)) = true := beq_iff_eq.mpr c20
            have c20b1 : (a0.toList != ([115, 114, 97, 119] : List UInt8)) = false := bne_eq_false_iff_eq.mpr c20
            clear c20
            replace H := Option.bind_eq_some_iff.mp H
            obtain ⟨t142, A210, H⟩ := H
            replace H : ((spinnakerref07_moved.f k a1 (wrap64 (Int.tmod (IntKind.u64.wrap (a2)) 32)) false t142 32).bind fun t143 => ((spinnakerref07_Half.f k t143).bind fun t144 => (some t144))) = some r := H
            have A21 := Aside0.mk A210
            clear A210
            replace H := Option.bind_eq_some_iff.mp H
            obtain ⟨t143, A220, H⟩ := H
            replace H : ((spinnakerref07_Half.f k t143).bind fun t144 => (some t144)) = some r := H
            have A22 := Aside0.mk A220
            clear A220
            replace H := Option.bind_eq_some_iff.mp H
            obtain ⟨t144, A230, H⟩ := H
            replace H : (some t144) = some r := H
            have A23 := Aside0.mk A230
            clear A230
            obtain rfl := Option.some.inj H
            go_enter Try.func68, Try.ntmps68
            go_wp2_with (first | ((with_reducible refine gate_callee (f := 77) rfl ?_); refine goesL_ (some 18) rfl rfl Try.func77 (by kernel_rfl) rfl #[.int .i64 a1] rfl (by (try simp only [List.map_toArray, List.map_cons, List.map_nil]); first | done | rfl | (simp only [List.length_drop, List.length_take]; rfl)) ?_; (with_reducible refine (spinnakerref07_Half.calls k a1 t130 _ A4.out).mono ?_); rintro e w' ⟨rfl, ⟨nd, rfl⟩⟩; refine ⟨_, rfl, ?_⟩) | ((with_reducible refine gate_callee (f := 77) rfl ?_); refine goesL_ (some 20) rfl rfl Try.func77 (by kernel_rfl) rfl #[.int .i64 a2] rfl (by (try simp only [List.map_toArray, List.map_cons, List.map_nil]); first | done | rfl | (simp only [List.length_drop, List.length_take]; rfl)) ?_; (with_reducible refine (spinnakerref07_Half.calls k a2 t131 _ A5.out).mono ?_); rintro e w' ⟨rfl, ⟨nd, rfl⟩⟩; refine ⟨_, rfl, ?_⟩) | ((with_reducible refine gate_callee (f := 76) rfl ?_); refine goesL_ (some 21) rfl rfl Try.func76 (by kernel_rfl) rfl #[.int .i64 t130, .int .i64 t131] rfl (by (try simp only [List.map_toArray, List.map_cons, List.map_nil]); first | done | rfl | (simp only [List.length_drop, List.length_take]; rfl)) ?_; (with_reducible refine (spinnakerref07_Div.calls t130 t131 t132 t133 _ A6.out).mono ?_); rintro e w' ⟨rfl, ⟨nd, rfl⟩⟩; refine ⟨_, rfl, ?_⟩) | ((with_reducible refine gate_callee (f := 78) rfl ?_); refine goesL_ (some 31) rfl rfl Try.func78 (by kernel_rfl) rfl #[.int .u64 (Int.tmod (IntKind.u64.wrap (a1)) 4294967296), .int .u64 (Int.tmod (IntKind.u64.wrap (a2)) 4294967296)] rfl (by (try simp only [List.map_toArray, List.map_cons, List.map_nil]); first | done | rfl | (simp only [List.length_drop, List.length_take]; rfl)) ?_; (with_reducible refine (spinnakerref07_DivU.calls (Int.tmod (IntKind.u64.wrap (a1)) 4294967296) (Int.tmod (IntKind.u64.wrap (a2)) 4294967296) t134 t135 _ A7.out).mono ?_); rintro e w' ⟨rfl, ⟨nd, rfl⟩⟩; refine ⟨_, rfl, ?_⟩) | ((with_reducible refine gate_callee (f := 67) rfl ?_); refine goesL_ (some 65) rfl rfl Try.func67 (by kernel_rfl) rfl #[.int .u64 (IntKind.u64.wrap (a1)), .int .i64 31] rfl (by (try simp only [List.map_toArray, List.map_cons, List.map_nil]); first | done | rfl | (simp only [List.length_drop, List.length_take]; rfl)) ?_; (with_reducible refine (spinnakerref01_Bit.calls k (IntKind.u64.wrap (a1)) 31 t142 _ A21.out).mono ?_); rintro e w' ⟨rfl, ⟨nd, rfl⟩⟩; refine ⟨_, rfl, ?_⟩) | ((with_reducible refine gate_callee (f := 65) rfl ?_); refine goesL_ (some 66) rfl rfl Try.func65 (by kernel_rfl) rfl #[.int .i64 a1, .int .i64 (wrap64 (Int.tmod (IntKind.u64.wrap (a2)) 32)), .bool false, .int .i64 t142, .int .i64 32] rfl (by (try simp only [List.map_toArray, List.map_cons, List.map_nil]); first | done | rfl | (simp only [List.length_drop, List.length_take]; rfl)) ?_; (with_reducible refine (spinnakerref07_moved.calls k a1 (wrap64 (Int.tmod (IntKind.u64.wrap (a2)) 32)) false t142 32 t143 _ A22.out).mono ?_); rintro e w24 ⟨rfl, hb⟩; refine ⟨_, rfl, ?_⟩; have n0_ := Aside0.mk (below_step (by repeat (first | (with_reducible first | exact HB.out | apply below_alloc | apply pw_below_drewN | apply below_drew1) | exact HB.out)) hb); clear HB; have HB := n0_; clear n0_; (try clear hb); (try clear hb2); (try clear hk); (try clear hi)) | ((with_reducible refine gate_callee (f := 77) rfl ?_); refine goesL_ (some 67) rfl rfl Try.func77 (by kernel_rfl) rfl #[.int .i64 t143] rfl (by (try simp only [List.map_toArray, List.map_cons, List.map_nil]); first | done | rfl | (simp only [List.length_drop, List.length_take]; rfl)) ?_; (with_reducible refine (spinnakerref07_Half.calls k t143 t144 _ A23.out).mono ?_); rintro e w' ⟨rfl, ⟨nd, rfl⟩⟩; refine ⟨_, rfl, ?_⟩))
            go_ret
            exact ⟨by first | rfl | (simp [errW_none, errW_some] <;> rfl) | (simp [*, errW_none, errW_some] <;> rfl), by repeat (first | (with_reducible first | exact HB.out | apply below_alloc | apply pw_below_drewN | apply below_drew1) | exact HB.out)⟩
          · rw [if_neg c20] at H
            have c20b0 : (a0.toList == ([115, 114, 97, 119] : List UInt8)) = false := beq_eq_false_iff_ne.mpr c20
            have c20b1 : (a0.toList != ([115, 114, 97, 119] : List UInt8)) = true := bne_iff_ne.mpr c20
            by_cases c25 : a0.toList = ([109, 117, 108, 119] : List UInt8)
            · rw [if_pos c25] at H
              have c25b0 : (a0.toList == ([109, 117, 108, 119] : List UInt8)) = true := beq_iff_eq.mpr c25
              have c25b1 : (a0.toList != ([109, 117, 108, 119] : List UInt8)) = false := bne_eq_false_iff_eq.mpr c25
              clear c25
              replace H := Option.bind_eq_some_iff.mp H
              obtain ⟨t145, A260, H⟩ := H
              replace H : (some t145) = some r := H
              have A26 := Aside0.mk A260
              clear A260
              obtain rfl := Option.some.inj H
              go_enter Try.func68, Try.ntmps68
              go_wp2_with (first | ((with_reducible refine gate_callee (f := 77) rfl ?_); refine goesL_ (some 18) rfl rfl Try.func77 (by kernel_rfl) rfl #[.int .i64 a1] rfl (by (try simp only [List.map_toArray, List.map_cons, List.map_nil]); first | done | rfl | (simp only [List.length_drop, List.length_take]; rfl)) ?_; (with_reducible refine (spinnakerref07_Half.calls k a1 t130 _ A4.out).mono ?_); rintro e w' ⟨rfl, ⟨nd, rfl⟩⟩; refine ⟨_, rfl, ?_⟩) | ((with_reducible refine gate_callee (f := 77) rfl ?_); refine goesL_ (some 20) rfl rfl Try.func77 (by kernel_rfl) rfl #[.int .i64 a2] rfl (by (try simp only [List.map_toArray, List.map_cons, List.map_nil]); first | done | rfl | (simp only [List.length_drop, List.length_take]; rfl)) ?_; (with_reducible refine (spinnakerref07_Half.calls k a2 t131 _ A5.out).mono ?_); rintro e w' ⟨rfl, ⟨nd, rfl⟩⟩; refine ⟨_, rfl, ?_⟩) | ((with_reducible refine gate_callee (f := 76) rfl ?_); refine goesL_ (some 21) rfl rfl Try.func76 (by kernel_rfl) rfl #[.int .i64 t130, .int .i64 t131] rfl (by (try simp only [List.map_toArray, List.map_cons, List.map_nil]); first | done | rfl | (simp only [List.length_drop, List.length_take]; rfl)) ?_; (with_reducible refine (spinnakerref07_Div.calls t130 t131 t132 t133 _ A6.out).mono ?_); rintro e w' ⟨rfl, ⟨nd, rfl⟩⟩; refine ⟨_, rfl, ?_⟩) | ((with_reducible refine gate_callee (f := 78) rfl ?_); refine goesL_ (some 31) rfl rfl Try.func78 (by kernel_rfl) rfl #[.int .u64 (Int.tmod (IntKind.u64.wrap (a1)) 4294967296), .int .u64 (Int.tmod (IntKind.u64.wrap (a2)) 4294967296)] rfl (by (try simp only [List.map_toArray, List.map_cons, List.map_nil]); first | done | rfl | (simp only [List.length_drop, List.length_take]; rfl)) ?_; (with_reducible refine (spinnakerref07_DivU.calls (Int.tmod (IntKind.u64.wrap (a1)) 4294967296) (Int.tmod (IntKind.u64.wrap (a2)) 4294967296) t134 t135 _ A7.out).mono ?_); rintro e w' ⟨rfl, ⟨nd, rfl⟩⟩; refine ⟨_, rfl, ?_⟩) | ((with_reducible refine gate_callee (f := 77) rfl ?_); refine goesL_ (some 73) rfl rfl Try.func77 (by kernel_rfl) rfl #[.int .i64 (wrap64 (a1 * a2))] rfl (by (try simp only [List.map_toArray, List.map_cons, List.map_nil]); first | done | rfl | (simp only [List.length_drop, List.length_take]; rfl)) ?_; (with_reducible refine (spinnakerref07_Half.calls k (wrap64 (a1 * a2)) t145 _ A26.out).mono ?_); rintro e w' ⟨rfl, ⟨nd, rfl⟩⟩; refine ⟨_, rfl, ?_⟩))
              go_ret
              exact ⟨by first | rfl | (simp [errW_none, errW_some] <;> rfl) | (simp [*, errW_none, errW_some] <;> rfl), by repeat (first | (with_reducible first | exact HB.out | apply below_alloc | apply pw_below_drewN | apply below_drew1) | exact HB.out)⟩
            · rw [if_neg c25] at H
              have c25b0 : (a0.toList == ([109, 117, 108, 119] : List UInt8)) = false := beq_eq_false_iff_ne.mpr c25
              have c25b1 : (a0.toList != ([109, 117, 108, 119] : List UInt8)) = true := bne_iff_ne.mpr c25
              by_cases c27 : a0.toList = ([100, 105, 118, 119] : List UInt8)
              · rw [if_pos c27] at H
                have c27b0 : (a0.toList == ([100, 105, 118, 119] : List UInt8)) = true := beq_iff_eq.mpr c27
                have c27b1 : (a0.toList != ([100, 105, 118, 119] : List UInt8)) = false := bne_eq_false_iff_eq.mpr c27
                clear c27
                replace H := Option.bind_eq_some_iff.mp H
                obtain ⟨t146, A280, H⟩ := H
                replace H : (some t146) = some r := H
                have A28 := Aside0.mk A280
                clear A280
                obtain rfl := Option.some.inj H
                go_enter Try.func68, Try.ntmps68
                go_wp2_with (first | ((with_reducible refine gate_callee (f := 77) rfl ?_); refine goesL_ (some 18) rfl rfl Try.func77 (by kernel_rfl) rfl #[.int .i64 a1] rfl (by (try simp only [List.map_toArray, List.map_cons, List.map_nil]); first | done | rfl | (simp only [List.length_drop, List.length_take]; rfl)) ?_; (with_reducible refine (spinnakerref07_Half.calls k a1 t130 _ A4.out).mono ?_); rintro e w' ⟨rfl, ⟨nd, rfl⟩⟩; refine ⟨_, rfl, ?_⟩) | ((with_reducible refine gate_callee (f := 77) rfl ?_); refine goesL_ (some 20) rfl rfl Try.func77 (by kernel_rfl) rfl #[.int .i64 a2] rfl (by (try simp only [List.map_toArray, List.map_cons, List.map_nil]); first | done | rfl | (simp only [List.length_drop, List.length_take]; rfl)) ?_; (with_reducible refine (spinnakerref07_Half.calls k a2 t131 _ A5.out).mono ?_); rintro e w' ⟨rfl, ⟨nd, rfl⟩⟩; refine ⟨_, rfl, ?_⟩) | ((with_reducible refine gate_callee (f := 76) rfl ?_); refine goesL_ (some 21) rfl rfl Try.func76 (by kernel_rfl) rfl #[.int .i64 t130, .int .i64 t131] rfl (by (try simp only [List.map_toArray, List.map_cons, List.map_nil]); first | done | rfl | (simp only [List.length_drop, List.length_take]; rfl)) ?_; (with_reducible refine (spinnakerref07_Div.calls t130 t131 t132 t133 _ A6.out).mono ?_); rintro e w' ⟨rfl, ⟨nd, rfl⟩⟩; refine ⟨_, rfl, ?_⟩) | ((with_reducible refine gate_callee (f := 78) rfl ?_); refine goesL_ (some 31) rfl rfl Try.func78 (by kernel_rfl) rfl #[.int .u64 (Int.tmod (IntKind.u64.wrap (a1)) 4294967296), .int .u64 (Int.tmod (IntKind.u64.wrap (a2)) 4294967296)] rfl (by (try simp only [List.map_toArray, List.map_cons, List.map_nil]); first | done | rfl | (simp only [List.length_drop, List.length_take]; rfl)) ?_; (with_reducible refine (spinnakerref07_DivU.calls (Int.tmod (IntKind.u64.wrap (a1)) 4294967296) (Int.tmod (IntKind.u64.wrap (a2)) 4294967296) t134 t135 _ A7.out).mono ?_); rintro e w' ⟨rfl, ⟨nd, rfl⟩⟩; refine ⟨_, rfl, ?_⟩) | ((with_reducible refine gate_callee (f := 77) rfl ?_); refine goesL_ (some 77) rfl rfl Try.func77 (by kernel_rfl) rfl #[.int .i64 t132] rfl (by (try simp only [List.map_toArray, List.map_cons, List.map_nil]); first | done | rfl | (simp only [List.length_drop, List.length_take]; rfl)) ?_; (with_reducible refine (spinnakerref07_Half.calls k t132 t146 _ A28.out).mono ?_); rintro e w' ⟨rfl, ⟨nd, rfl⟩⟩; refine ⟨_, rfl, ?_⟩))
                go_ret
                exact ⟨by first | rfl | (simp [errW_none, errW_some] <;> rfl) | (simp [*, errW_none, errW_some] <;> rfl), by repeat (first | (with_reducible first | exact HB.out | apply below_alloc | apply pw_below_drewN | apply below_drew1) | exact HB.out)⟩
              · rw [if_neg c27] at H
                have c27b0 : (a0.toList == ([100, 105, 118, 119] : List UInt8)) = false := beq_eq_false_iff_ne.mpr c27
                have c27b1 : (a0.toList != ([100, 105, 118, 119] : List UInt8)) = true := bne_iff_ne.mpr c27
                by_cases c29 : a0.toList = ([100, 105, 118, 117, 119] : List UInt8)
                · rw [if_pos c29] at H
                  have c29b0 : (a0.toList == ([100, 105, 118, 117, 119] : List UInt8)) = true := beq_iff_eq.mpr c29
                  have c29b1 : (a0.toList != ([100, 105, 118, 117, 119] : List UInt8)) = false := bne_eq_false_iff_eq.mpr c29
                  clear c29
                  replace H := Option.bind_eq_some_iff.mp H
                  obtain ⟨t147, A300, H⟩ := H
                  replace H : (some t147) = some r := H
                  have A30 := Aside0.mk A300
                  clear A300
                  obtain rfl := Option.some.inj H
                  go_enter Try.func68, Try.ntmps68
                  go_wp2_with (first | ((with_reducible refine gate_callee (f := 77) rfl ?_); refine goesL_ (some 18) rfl rfl Try.func77 (by kernel_rfl) rfl #[.int .i64 a1] rfl (by (try simp only [List.map_toArray, List.map_cons, List.map_nil]); first | done | rfl | (simp only [List.length_drop, List.length_take]; rfl)) ?_; (with_reducible refine (spinnakerref07_Half.calls k a1 t130 _ A4.out).mono ?_); rintro e w' ⟨rfl, ⟨nd, rfl⟩⟩; refine ⟨_, rfl, ?_⟩) | ((with_reducible refine gate_callee (f := 77) rfl ?_); refine goesL_ (some 20) rfl rfl Try.func77 (by kernel_rfl) rfl #[.int .i64 a2] rfl (by (try simp only [List.map_toArray, List.map_cons, List.map_nil]); first | done | rfl | (simp only [List.length_drop, List.length_take]; rfl)) ?_; (with_reducible refine (spinnakerref07_Half.calls k a2 t131 _ A5.out).mono ?_); rintro e w' ⟨rfl, ⟨nd, rfl⟩⟩; refine ⟨_, rfl, ?_⟩) | ((with_reducible refine gate_callee (f := 76) rfl ?_); refine goesL_ (some 21) rfl rfl Try.func76 (by kernel_rfl) rfl #[.int .i64 t130, .int .i64 t131] rfl (by (try simp only [List.map_toArray, List.map_cons, List.map_nil]); first | done | rfl | (simp only [List.length_drop, List.length_take]; rfl)) ?_; (with_reducible refine (spinnakerref07_Div.calls t130 t131 t132 t133 _ A6.out).mono ?_); rintro e w' ⟨rfl, ⟨nd, rfl⟩⟩; refine ⟨_, rfl, ?_⟩) | ((with_reducible refine gate_callee (f := 78) rfl ?_); refine goesL_ (some 31) rfl rfl Try.func78 (by kernel_rfl) rfl #[.int .u64 (Int.tmod (IntKind.u64.wrap (a1)) 4294967296), .int .u64 (Int.tmod (IntKind.u64.wrap (a2)) 4294967296)] rfl (by (try simp only [List.map_toArray, List.map_cons, List.map_nil]); first | done | rfl | (simp only [List.length_drop, List.length_take]; rfl)) ?_; (with_reducible refine (spinnakerref07_DivU.calls (Int.tmod (IntKind.u64.wrap (a1)) 4294967296) (Int.tmod (IntKind.u64.wrap (a2)) 4294967296) t134 t135 _ A7.out).mono ?_); rintro e w' ⟨rfl, ⟨nd, rfl⟩⟩; refine ⟨_, rfl, ?_⟩) | ((with_reducible refine gate_callee (f := 77) rfl ?_); refine goesL_ (some 81) rfl rfl Try.func77 (by kernel_rfl) rfl #[.int .i64 t134] rfl (by (try simp only [List.map_toArray, List.map_cons, List.map_nil]); first | done | rfl | (simp only [List.length_drop, List.length_take]; rfl)) ?_; (with_reducible refine (spinnakerref07_Half.calls k t134 t147 _ A30.out).mono ?_); rintro e w' ⟨rfl, ⟨nd, rfl⟩⟩; refine ⟨_, rfl, ?_⟩))
                  go_ret
                  exact ⟨by first | rfl | (simp [errW_none, errW_some] <;> rfl) | (simp [*, errW_none, errW_some] <;> rfl), by repeat (first | (with_reducible first | exact HB.out | apply below_alloc | apply pw_below_drewN | apply below_drew1) | exact HB.out)⟩
                · rw [if_neg c29] at H
                  have c29b0 : (a0.toList == ([100, 105, 118, 117, 119] : List UInt8)) = false := beq_eq_false_iff_ne.mpr c29
                  have c29b1 : (a0.toList != ([100, 105, 118, 117, 119] : List UInt8)) = true := bne_iff_ne.mpr c29
                  by_cases c31 : a0.toList = ([114, 101, 109, 119] : List UInt8)
                  · rw [if_pos c31] at H
                    have c31b0 : (a0.toList == ([114, 101, 109, 119] : List UInt8)) = true := beq_iff_eq.mpr c31
                    have c31b1 : (a0.toList != ([114, 101, 109, 119] : List UInt8)) = false := bne_eq_false_iff_eq.mpr c31
                    clear c31
                    replace H := Option.bind_eq_some_iff.mp H
                    obtain ⟨t148, A320, H⟩ := H
                    replace H : (some t148) = some r := H
                    have A32 := Aside0.mk A320
                    clear A320
                    obtain rfl := Option.some.inj H
                    go_enter Try.func68, Try.ntmps68
                    go_wp2_with (first | ((with_reducible refine gate_callee (f := 77) rfl ?_); refine goesL_ (some 18) rfl rfl Try.func77 (by kernel_rfl) rfl #[.int .i64 a1] rfl (by (try simp only [List.map_toArray, List.map_cons, List.map_nil]); first | done | rfl | (simp only [List.length_drop, List.length_take]; rfl)) ?_; (with_reducible refine (spinnakerref07_Half.calls k a1 t130 _ A4.out).mono ?_); rintro e w' ⟨rfl, ⟨nd, rfl⟩⟩; refine ⟨_, rfl, ?_⟩) | ((with_reducible refine gate_callee (f := 77) rfl ?_); refine goesL_ (some 20) rfl rfl Try.func77 (by kernel_rfl) rfl #[.int .i64 a2] rfl (by (try simp only [List.map_toArray, List.map_cons, List.map_nil]); first | done | rfl | (simp only [List.length_drop, List.length_take]; rfl)) ?_; (with_reducible refine (spinnakerref07_Half.calls k a2 t131 _ A5.out).mono ?_); rintro e w' ⟨rfl, ⟨nd, rfl⟩⟩; refine ⟨_, rfl, ?_⟩) | ((with_reducible refine gate_callee (f := 76) rfl ?_); refine goesL_ (some 21) rfl rfl Try.func76 (by kernel_rfl) rfl #[.int .i64 t130, .int .i64 t131] rfl (by (try simp only [List.map_toArray, List.map_cons, List.map_nil]); first | done | rfl | (simp only [List.length_drop, List.length_take]; rfl)) ?_; (with_reducible refine (spinnakerref07_Div.calls t130 t131 t132 t133 _ A6.out).mono ?_); rintro e w' ⟨rfl, ⟨nd, rfl⟩⟩; refine ⟨_, rfl, ?_⟩) | ((with_reducible refine gate_callee (f := 78) rfl ?_); refine goesL_ (some 31) rfl rfl Try.func78 (by kernel_rfl) rfl #[.int .u64 (Int.tmod (IntKind.u64.wrap (a1)) 4294967296), .int .u64 (Int.tmod (IntKind.u64.wrap (a2)) 4294967296)] rfl (by (try simp only [List.map_toArray, List.map_cons, List.map_nil]); first | done | rfl | (simp only [List.length_drop, List.length_take]; rfl)) ?_; (with_reducible refine (spinnakerref07_DivU.calls (Int.tmod (IntKind.u64.wrap (a1)) 4294967296) (Int.tmod (IntKind.u64.wrap (a2)) 4294967296) t134 t135 _ A7.out).mono ?_); rintro e w' ⟨rfl, ⟨nd, rfl⟩⟩; refine ⟨_, rfl, ?_⟩) | ((with_reducible refine gate_callee (f := 77) rfl ?_); refine goesL_ (some 85) rfl rfl Try.func77 (by kernel_rfl) rfl #[.int .i64 t133] rfl (by (try simp only [List.map_toArray, List.map_cons, List.map_nil]); first | done | rfl | (simp only [List.length_drop, List.length_take]; rfl)) ?_; (with_reducible refine (spinnakerref07_Half.calls k t133 t148 _ A32.out).mono ?_); rintro e w' ⟨rfl, ⟨nd, rfl⟩⟩; refine ⟨_, rfl, ?_⟩))
                    go_ret
                    exact ⟨by first | rfl | (simp [errW_none, errW_some] <;> rfl) | (simp [*, errW_none, errW_some] <;> rfl), by repeat (first | (with_reducible first | exact HB.out | apply below_alloc | apply pw_below_drewN | apply below_drew1) | exact HB.out)⟩
                  · rw [if_neg c31] at H
                    have c31b0 : (a0.toList == ([114, 101, 109, 119] : List UInt8)) = false := beq_eq_false_iff_ne.mpr c31
                    have c31b1 : (a0.toList != ([114, 101, 109, 119] : List UInt8)) = true := bne_iff_ne.mpr c31
                    replace H := Option.bind_eq_some_iff.mp H
                    obtain ⟨t149, A330, H⟩ := H
                    replace H : (some t149) = some r := H
                    have A33 := Aside0.mk A330
                    clear A330
                    obtain rfl := Option.some.inj H
                    go_enter Try.func68, Try.ntmps68
                    go_wp2_with (first | ((with_reducible refine gate_callee (f := 77) rfl ?_); refine goesL_ (some 18) rfl rfl Try.func77 (by kernel_rfl) rfl #[.int .i64 a1] rfl (by (try simp only [List.map_toArray, List.map_cons, List.map_nil]); first | done | rfl | (simp only [List.length_drop, List.length_take]; rfl)) ?_; (with_reducible refine (spinnakerref07_Half.calls k a1 t130 _ A4.out).mono ?_); rintro e w' ⟨rfl, ⟨nd, rfl⟩⟩; refine ⟨_, rfl, ?_⟩) | ((with_reducible refine gate_callee (f := 77) rfl ?_); refine goesL_ (some 20) rfl rfl Try.func77 (by kernel_rfl) rfl #[.int .i64 a2] rfl (by (try simp only [List.map_toArray, List.map_cons, List.map_nil]); first | done | rfl | (simp only [List.length_drop, List.length_take]; rfl)) ?_; (with_reducible refine (spinnakerref07_Half.calls k a2 t131 _ A5.out).mono ?_); rintro e w' ⟨rfl, ⟨nd, rfl⟩⟩; refine ⟨_, rfl, ?_⟩) | ((with_reducible refine gate_callee (f := 76) rfl ?_); refine goesL_ (some 21) rfl rfl Try.func76 (by kernel_rfl) rfl #[.int .i64 t130, .int .i64 t131] rfl (by (try simp only [List.map_toArray, List.map_cons, List.map_nil]); first | done | rfl | (simp only [List.length_drop, List.length_take]; rfl)) ?_; (with_reducible refine (spinnakerref07_Div.calls t130 t131 t132 t133 _ A6.out).mono ?_); rintro e w' ⟨rfl, ⟨nd, rfl⟩⟩; refine ⟨_, rfl, ?_⟩) | ((with_reducible refine gate_callee (f := 78) rfl ?_); refine goesL_ (some 31) rfl rfl Try.func78 (by kernel_rfl) rfl #[.int .u64 (Int.tmod (IntKind.u64.wrap (a1)) 4294967296), .int .u64 (Int.tmod (IntKind.u64.wrap (a2)) 4294967296)] rfl (by (try simp only [List.map_toArray, List.map_cons, List.map_nil]); first | done | rfl | (simp only [List.length_drop, List.length_take]; rfl)) ?_; (with_reducible refine (spinnakerref07_DivU.calls (Int.tmod (IntKind.u64.wrap (a1)) 4294967296) (Int.tmod (IntKind.u64.wrap (a2)) 4294967296) t134 t135 _ A7.out).mono ?_); rintro e w' ⟨rfl, ⟨nd, rfl⟩⟩; refine ⟨_, rfl, ?_⟩) | ((with_reducible refine gate_callee (f := 77) rfl ?_); refine goesL_ (some 87) rfl rfl Try.func77 (by kernel_rfl) rfl #[.int .i64 t135] rfl (by (try simp only [List.map_toArray, List.map_cons, List.map_nil]); first | done | rfl | (simp only [List.length_drop, List.length_take]; rfl)) ?_; (with_reducible refine (spinnakerref07_Half.calls k t135 t149 _ A33.out).mono ?_); rintro e w' ⟨rfl, ⟨nd, rfl⟩⟩; refine ⟨_, rfl, ?_⟩))
                    go_ret
                    exact ⟨by first | rfl | (simp [errW_none, errW_some] <;> rfl) | (simp [*, errW_none, errW_some] <;> rfl), by repeat (first | (with_reducible first | exact HB.out | apply below_alloc | apply pw_below_drewN | apply below_drew1) | exact HB.out)⟩

/-! ### given: ref07_Mul.lean -/
-- GIVEN spinnaker/spinnakerref07.Mul rounds=0 making=1
-- IMPORT Derived.Shelf.Abstract
-- IMPORT Derived.RangeFuncRecord
def spinnakerref07_Mul.xs (a : Int) : List Int := [Int.tmod a 65536, Int.tmod (IntKind.u64.wrap (Int.tdiv a 65536)) 65536, Int.tmod (IntKind.u64.wrap (Int.tdiv a 4294967296)) 65536, IntKind.u64.wrap (Int.tdiv a 281474976710656)]
def spinnakerref07_Mul.one (x y s : List Int) (i k : Nat) : List Int :=
  (s.set (i + k) (IntKind.u64.wrap (s.getD (i + k) 0 + Int.tmod (IntKind.u64.wrap (x.getD i 0 * y.getD k 0)) 65536))).set (i + k + 1) (IntKind.u64.wrap (s.getD (i + k + 1) 0 + IntKind.u64.wrap (Int.tdiv (IntKind.u64.wrap (x.getD i 0 * y.getD k 0)) 65536)))
def spinnakerref07_Mul.row (x y s : List Int) (i : Nat) : Nat → List Int
  | 0 => s
  | k + 1 => spinnakerref07_Mul.one x y (spinnakerref07_Mul.row x y s i k) i k
def spinnakerref07_Mul.all (x y : List Int) : Nat → List Int
  | 0 => [0, 0, 0, 0, 0, 0, 0, 0]
  | i + 1 => spinnakerref07_Mul.row x y (spinnakerref07_Mul.all x y i) i 4
theorem spinnakerref07_Mul.one_len (x y s : List Int) (i k : Nat) : (spinnakerref07_Mul.one x y s i k).length = s.length := by simp [spinnakerref07_Mul.one]
theorem spinnakerref07_Mul.row_len (x y s : List Int) (i : Nat) : ∀ k, (spinnakerref07_Mul.row x y s i k).length = s.length
  | 0 => rfl
  | k + 1 => by rw [spinnakerref07_Mul.row, spinnakerref07_Mul.one_len, spinnakerref07_Mul.row_len x y s i k]
theorem spinnakerref07_Mul.all_len (x y : List Int) : ∀ i, (spinnakerref07_Mul.all x y i).length = 8
  | 0 => rfl
  | i + 1 => by rw [spinnakerref07_Mul.all, spinnakerref07_Mul.row_len, spinnakerref07_Mul.all_len x y i]
def spinnakerref07_Mul.car (s : List Int) : Nat → Int
  | 0 => 0
  | i + 1 => IntKind.u64.wrap (Int.tdiv (IntKind.u64.wrap (s.getD i 0 + spinnakerref07_Mul.car s i)) 65536)
def spinnakerref07_Mul.dig (s : List Int) (i : Nat) : Int := Int.tmod (IntKind.u64.wrap (s.getD i 0 + spinnakerref07_Mul.car s i)) 65536
def spinnakerref07_Mul.ds (s : List Int) (i : Nat) : List Int := [if 0 < i then spinnakerref07_Mul.dig s 0 else 0, if 1 < i then spinnakerref07_Mul.dig s 1 else 0, if 2 < i then spinnakerref07_Mul.dig s 2 else 0, if 3 < i then spinnakerref07_Mul.dig s 3 else 0]
def spinnakerref07_Mul.hs (s : List Int) (i : Nat) : List Int := [if 4 < i then spinnakerref07_Mul.dig s 4 else 0, if 5 < i then spinnakerref07_Mul.dig s 5 else 0, if 6 < i then spinnakerref07_Mul.dig s 6 else 0, if 7 < i then spinnakerref07_Mul.dig s 7 else 0]
theorem spinnakerref07_Mul.ds_lo (s : List Int) (i : Nat) (h : i < 4) : (spinnakerref07_Mul.ds s i).set i (spinnakerref07_Mul.dig s i) = spinnakerref07_Mul.ds s (i + 1) ∧ spinnakerref07_Mul.hs s i = spinnakerref07_Mul.hs s (i + 1) := by
  rcases i with _ | _ | _ | _ | i
  · exact ⟨rfl, rfl⟩
  · exact ⟨rfl, rfl⟩
  · exact ⟨rfl, rfl⟩
  · exact ⟨rfl, rfl⟩
  · omega
theorem spinnakerref07_Mul.ds_hi (s : List Int) (i : Nat) (h : i < 4) : (spinnakerref07_Mul.hs s (i + 4)).set i (spinnakerref07_Mul.dig s (i + 4)) = spinnakerref07_Mul.hs s (i + 4 + 1) ∧ spinnakerref07_Mul.ds s (i + 4) = spinnakerref07_Mul.ds s (i + 4 + 1) := by
  rcases i with _ | _ | _ | _ | i
  · exact ⟨rfl, rfl⟩
  · exact ⟨rfl, rfl⟩
  · exact ⟨rfl, rfl⟩
  · exact ⟨rfl, rfl⟩
  · omega
/-- A block of 64 bit numbers without signs. -/
def spinnakerref07_Mul.Blk (W : World) (g t : Nat) (s : List Int) : Prop := W.heap[g]? = some (.cells (s.map (Value.int .u64)).toArray t (0, 0))
theorem spinnakerref07_Mul.Blk.at {W : World} {g t : Nat} {s : List Int} (h : spinnakerref07_Mul.Blk W g t s) (i : Nat) (hi : i < s.length) : W.cell? ⟨g, i, none⟩ = some (.int .u64 (s.getD i 0)) := by
  rw [blk_cell h i]
  simp [hi]
theorem spinnakerref07_Mul.Blk.put {W : World} {g t : Nat} {s : List Int} (h : spinnakerref07_Mul.Blk W g t s) (i : Nat) (v : Int) : spinnakerref07_Mul.Blk (W.setCell ⟨g, i, none⟩ (.int .u64 v)) g t (s.set i v) :=
  blk_put h i _ (by simp [List.map_set])
theorem spinnakerref07_Mul.Blk.other {W : World} {g t : Nat} {s : List Int} (h : spinnakerref07_Mul.Blk W g t s) (p : Addr) (hp : g ≠ p.block) (u : Value) : spinnakerref07_Mul.Blk (W.setCell p u) g t s := (Below.heap_setCell W p u g hp).trans h
structure spinnakerref07_Mul.Own (w W : World) (n : Nat) (x y s d : List Int) : Prop where
  hd : spinnakerref07_Mul.Blk W n 96 d
  hx : spinnakerref07_Mul.Blk W (n + 1) 96 x
  hy : spinnakerref07_Mul.Blk W (n + 1 + 1) 96 y
  hs : spinnakerref07_Mul.Blk W (n + 1 + 1 + 1) 97 s
  hb : Below w.heap.size w W
def spinnakerref07_Mul.four (a b c d : Int) : Int := IntKind.u64.wrap (IntKind.u64.wrap (IntKind.u64.wrap (a + IntKind.u64.wrap (b * 65536)) + IntKind.u64.wrap (c * 4294967296)) + IntKind.u64.wrap (d * 281474976710656))
def spinnakerref07_Mul.pr (s : List Int) : Int × Int := (spinnakerref07_Mul.four (spinnakerref07_Mul.dig s 0) (spinnakerref07_Mul.dig s 1) (spinnakerref07_Mul.dig s 2) (spinnakerref07_Mul.dig s 3), spinnakerref07_Mul.four (spinnakerref07_Mul.dig s 4) (spinnakerref07_Mul.dig s 5) (spinnakerref07_Mul.dig s 6) (spinnakerref07_Mul.dig s 7))
def spinnakerref07_Mul.f (a0 : Int) (a1 : Int) : Option (Int × Int) := some (spinnakerref07_Mul.pr (spinnakerref07_Mul.all (spinnakerref07_Mul.xs a0) (spinnakerref07_Mul.xs a1) 4))
set_option maxHeartbeats 4000000 in
theorem spinnakerref07_Mul.calls (a0 : Int) (a1 : Int) (r1 : Int) (r2 : Int) (w : World) (h : spinnakerref07_Mul.f a0 a1 = some (r1, r2)) :
    Calls Try.prog 79 #[.int .u64 a0, .int .u64 a1] w fun e w' => e = .returned (.tuple #[.int .u64 r1, .int .u64 r2]) ∧ Below w.heap.size w w' := by
  have HF := Aside0.mk (Option.some.inj h)
  clear h
  go_enter Try.func79, Try.ntmps79
  go_wp2
  have HO : spinnakerref07_Mul.Own w ((((w.alloc (.cells #[.int .u64 0, .int .u64 0, .int .u64 0, .int .u64 0] 96)).alloc (.cells ((spinnakerref07_Mul.xs a0).map (Value.int .u64)).toArray 96)).alloc (.cells ((spinnakerref07_Mul.xs a1).map (Value.int .u64)).toArray 96)).alloc (.cells #[.int .u64 0, .int .u64 0, .int .u64 0, .int .u64 0, .int .u64 0, .int .u64 0, .int .u64 0, .int .u64 0] 97)) w.heap.size (spinnakerref07_Mul.xs a0) (spinnakerref07_Mul.xs a1) (spinnakerref07_Mul.all (spinnakerref07_Mul.xs a0) (spinnakerref07_Mul.xs a1) 0) [0, 0, 0, 0] := by
    have k0 : ∀ (W : World) (o : Obj), (W.alloc o).heap[W.heap.size]? = some o := fun W o => World.alloc_heap_new W o
    have k1 : ∀ (W : World) (o : Obj) (g : Nat) (q : Obj), W.heap[g]? = some q → (W.alloc o).heap[g]? = some q := fun W o g q h => (Below.heap_alloc W o g (Array.getElem?_eq_some_iff.1 h).1).trans h
    refine ⟨k1 _ _ _ _ (k1 _ _ _ _ (k1 _ _ _ _ (k0 _ _))), ?_, ?_, ?_, ?_⟩
    · have := k1 _ (.cells #[.int .u64 0, .int .u64 0, .int .u64 0, .int .u64 0, .int .u64 0, .int .u64 0, .int .u64 0, .int .u64 0] 97) _ _ (k1 _ (.cells ((spinnakerref07_Mul.xs a1).map (Value.int .u64)).toArray 96) _ _ (k0 (w.alloc (.cells #[.int .u64 0, .int .u64 0, .int .u64 0, .int .u64 0] 96)) (.cells ((spinnakerref07_Mul.xs a0).map (Value.int .u64)).toArray 96)))
      rw [World.size_alloc] at this
      exact this
    · have := k1 _ (.cells #[.int .u64 0, .int .u64 0, .int .u64 0, .int .u64 0, .int .u64 0, .int .u64 0, .int .u64 0, .int .u64 0] 97) _ _ (k0 ((w.alloc (.cells #[.int .u64 0, .int .u64 0, .int .u64 0, .int .u64 0] 96)).alloc (.cells ((spinnakerref07_Mul.xs a0).map (Value.int .u64)).toArray 96)) (.cells ((spinnakerref07_Mul.xs a1).map (Value.int .u64)).toArray 96))
      rw [World.size_alloc, World.size_alloc] at this
      exact this
    · have := k0 (((w.alloc (.cells #[.int .u64 0, .int .u64 0, .int .u64 0, .int .u64 0] 96)).alloc (.cells ((spinnakerref07_Mul.xs a0).map (Value.int .u64)).toArray 96)).alloc (.cells ((spinnakerref07_Mul.xs a1).map (Value.int .u64)).toArray 96)) (.cells #[.int .u64 0, .int .u64 0, .int .u64 0, .int .u64 0, .int .u64 0, .int .u64 0, .int .u64 0, .int .u64 0] 97)
      rw [World.size_alloc, World.size_alloc, World.size_alloc] at this
      exact this
    · exact below_alloc (below_alloc (below_alloc (below_alloc (Below.refl _ _) _) _) _) _
  have HL : (spinnakerref07_Mul.xs a0).length = 4 ∧ (spinnakerref07_Mul.xs a1).length = 4 := ⟨rfl, rfl⟩
  show Code.wp _ _ _ _ ((((w.alloc _).alloc (.cells ((spinnakerref07_Mul.xs a0).map (Value.int .u64)).toArray 96)).alloc (.cells ((spinnakerref07_Mul.xs a1).map (Value.int .u64)).toArray 96)).alloc _)
  obtain ⟨W0, hW0⟩ : ∃ W0, ((((w.alloc (.cells #[.int .u64 0, .int .u64 0, .int .u64 0, .int .u64 0] 96)).alloc (.cells ((spinnakerref07_Mul.xs a0).map (Value.int .u64)).toArray 96)).alloc (.cells ((spinnakerref07_Mul.xs a1).map (Value.int .u64)).toArray 96)).alloc (.cells #[.int .u64 0, .int .u64 0, .int .u64 0, .int .u64 0, .int .u64 0, .int .u64 0, .int .u64 0, .int .u64 0] 97)) = W0 := ⟨_, rfl⟩
  rw [hW0] at HO ⊢
  clear hW0
  obtain ⟨x, hx⟩ : ∃ x, Aside0 (spinnakerref07_Mul.xs a0 = x) := ⟨_, ⟨rfl⟩⟩
  obtain ⟨y, hy⟩ : ∃ y, Aside0 (spinnakerref07_Mul.xs a1 = y) := ⟨_, ⟨rfl⟩⟩
  rw [hx.out, hy.out] at HO HL
  have HO := Aside0.mk HO
  have HL := Aside0.mk HL
  obtain ⟨n, hn⟩ : ∃ n, Aside0 (w.heap.size = n) := ⟨_, ⟨rfl⟩⟩
  rw [hn.out] at HO ⊢
  go_loopg [10, 11, 12] 5 (fun gg v10 v11 v12 wr => ∃ i : Nat, i ≤ 4 ∧ 4 - i ≤ gg ∧ v10 = .int .i64 i ∧ Aside0 (spinnakerref07_Mul.Own w wr n x y (spinnakerref07_Mul.all x y i) [0, 0, 0, 0]))
  case atStart => exact ⟨0, by omega, by omega, rfl, HO⟩
  case round =>
    obtain ⟨i, hi, hg, rfl, HO⟩ := hrel
    by_cases hlt : i < 4
    · have hltz : (i : Int) < 4 := by omega
      go_wp2
      go_loopg [11, 12] 5 (fun gg v11 v12 wr => ∃ k : Nat, k ≤ 4 ∧ 4 - k ≤ gg ∧ v11 = .int .i64 k ∧ Aside0 (spinnakerref07_Mul.Own w wr n x y (spinnakerref07_Mul.row x y (spinnakerref07_Mul.all x y i) i k) [0, 0, 0, 0]))
      case atStart => exact ⟨0, by omega, by omega, rfl, HO⟩
      case round =>
        clear HO
        obtain ⟨k, hk, hg2, rfl, HO⟩ := hrel
        by_cases hltk : k < 4
        · have hltkz : (k : Int) < 4 := by omega
          obtain ⟨s, hs⟩ : ∃ s, Aside0 (spinnakerref07_Mul.row x y (spinnakerref07_Mul.all x y i) i k = s) := ⟨_, ⟨rfl⟩⟩
          rw [hs.out] at HO
          have hsl : Aside0 (s.length = 8) := ⟨by rw [← hs.out, spinnakerref07_Mul.row_len, spinnakerref07_Mul.all_len]⟩
          have e1 := HO.out.hx.at i (by rw [HL.out.1]; exact hlt)
          have e2 := HO.out.hy.at k (by rw [HL.out.2]; exact hltk)
          have e3 := HO.out.hs.at (i + k) (by rw [hsl.out]; omega)
          have e4 := HO.out.hs.at (i + k + 1) (by rw [hsl.out]; omega)
          have hw : wrap64 ((i : Int) + (k : Int)) = ((i + k : Nat) : Int) := by unfold wrap64; omega
          have hw1 : wrap64 (((i + k : Nat) : Int) + 1) = ((i + k + 1 : Nat) : Int) := by unfold wrap64; omega
          have f3 := blk_frozen HO.out.hs (i + k)
          have f4 := blk_frozen HO.out.hs (i + k + 1)
          go_wp2
          repeat (go_quiet (fail); try go_wp2)
          go_roundg (4 - (k + 1))
          case measure => omega
          case rel =>
            have hlx : i < x.length := by rw [HL.out.1]; exact hlt
            have hly : k < y.length := by rw [HL.out.2]; exact hltk
            refine ⟨k + 1, by omega, by omega, by go_num, ⟨⟨(spinnakerref07_Mul.Blk.other (spinnakerref07_Mul.Blk.other (W := wr.drewN nq) HO.out.hd _ (by show n ≠ n + 1 + 1 + 1; omega) _) _ (by show n ≠ n + 1 + 1 + 1; omega) _), (spinnakerref07_Mul.Blk.other (spinnakerref07_Mul.Blk.other (W := wr.drewN nq) HO.out.hx _ (by show n + 1 ≠ n + 1 + 1 + 1; omega) _) _ (by show n + 1 ≠ n + 1 + 1 + 1; omega) _), (spinnakerref07_Mul.Blk.other (spinnakerref07_Mul.Blk.other (W := wr.drewN nq) HO.out.hy _ (by show n + 1 + 1 ≠ n + 1 + 1 + 1; omega) _) _ (by show n + 1 + 1 ≠ n + 1 + 1 + 1; omega) _), ?_, below_set (below_set (W := wr.drewN nq) (pw_below_drewN HO.out.hb nq) (by rw [hn.out]; omega)) (by rw [hn.out]; omega)⟩⟩⟩
            refine Eq.mp (congrArg (spinnakerref07_Mul.Blk _ _ _) ?_) (spinnakerref07_Mul.Blk.put (spinnakerref07_Mul.Blk.put (W := wr.drewN nq) HO.out.hs (i + k) _) (i + k + 1) _)
            rw [spinnakerref07_Mul.row, hs.out]
            simp [spinnakerref07_Mul.one, hlx, hly]
        · obtain rfl : k = 4 := by omega
          go_wp2
          go_roundg (4 - (i + 1))
          case measure => omega
          case rel => exact ⟨i + 1, by omega, by omega, by go_num, HO⟩
    · obtain rfl : i = 4 := by omega
      have hsl : Aside0 ((spinnakerref07_Mul.all x y 4).length = 8) := ⟨spinnakerref07_Mul.all_len x y 4⟩
      obtain ⟨s, hs⟩ : ∃ s, Aside0 (spinnakerref07_Mul.all x y 4 = s) := ⟨_, ⟨rfl⟩⟩
      rw [hs.out] at HO hsl
      go_wp2
      have hnw : n + 1 + 1 + 1 < wr.heap.size := (Array.getElem?_eq_some_iff.1 HO.out.hs).1
      have HO2 : Aside0 (spinnakerref07_Mul.Own w (wr.alloc (.cells #[.int .u64 0, .int .u64 0, .int .u64 0, .int .u64 0] 96)) n x y s (spinnakerref07_Mul.ds s 0) ∧ spinnakerref07_Mul.Blk (wr.alloc (.cells #[.int .u64 0, .int .u64 0, .int .u64 0, .int .u64 0] 96)) wr.heap.size 96 (spinnakerref07_Mul.hs s 0)) := by
        have k1 : ∀ (W : World) (o : Obj) (g : Nat) (q : Obj), W.heap[g]? = some q → (W.alloc o).heap[g]? = some q := fun W o g q h => (Below.heap_alloc W o g (Array.getElem?_eq_some_iff.1 h).1).trans h
        exact ⟨⟨k1 _ _ _ _ HO.out.hd, k1 _ _ _ _ HO.out.hx, k1 _ _ _ _ HO.out.hy, k1 _ _ _ _ HO.out.hs, below_alloc HO.out.hb _⟩, World.alloc_heap_new _ _⟩
      clear HO
      obtain ⟨m, hm⟩ : ∃ m, Aside0 (wr.heap.size = m) := ⟨_, ⟨rfl⟩⟩
      rw [hm.out] at HO2 hnw ⊢
      have hc0 : (spinnakerref07_Mul.car s 0) = 0 := rfl
      go_loopg [14, 15, 16] 9 (fun gg v14 v15 v16 wr => ∃ i : Nat, i ≤ 8 ∧ 8 - i ≤ gg ∧ v14 = .int .u64 (spinnakerref07_Mul.car s i) ∧ v15 = .int .i64 i ∧ Aside0 (spinnakerref07_Mul.Own w wr n x y s (spinnakerref07_Mul.ds s i) ∧ spinnakerref07_Mul.Blk wr m 96 (spinnakerref07_Mul.hs s i)))
      case atStart => exact ⟨0, by omega, by omega, rfl, rfl, HO2⟩
      case round =>
        clear HO2 hlt hi hg
        obtain ⟨i, hi, hg, rfl, rfl, HO2⟩ := hrel
        by_cases hlt : i < 8
        · have hltz : (i : Int) < 8 := by omega
          have e1 := HO2.out.1.hs.at i (by rw [hsl.out]; exact hlt)
          by_cases h4 : i < 4
          · have h4z : (i : Int) < 4 := by omega
            have f1 := blk_frozen HO2.out.1.hd i
            have e2 := HO2.out.1.hd.at i (by show i < 4; exact h4)
            go_wp2
            go_roundg (8 - (i + 1))
            case measure => omega
            case rel =>
              have hq := spinnakerref07_Mul.ds_lo s i h4
              refine ⟨i + 1, by omega, by omega, rfl, by go_num, ⟨⟨?_, HO2.out.1.hx.other _ (by show n + 1 ≠ n; omega) _, HO2.out.1.hy.other _ (by show n + 1 + 1 ≠ n; omega) _, HO2.out.1.hs.other _ (by show n + 1 + 1 + 1 ≠ n; omega) _, below_set HO2.out.1.hb (by rw [hn.out]; omega)⟩, ?_⟩⟩
              · rw [← hq.1]; exact HO2.out.1.hd.put i _
              · rw [← hq.2]; exact HO2.out.2.other _ (by show m ≠ n; omega) _
          · obtain ⟨j, rfl⟩ : ∃ j, i = j + 4 := ⟨i - 4, by omega⟩
            have h4z : ¬ ((j + 4 : Nat) : Int) < 4 := by omega
            have hw : wrap64 (((j + 4 : Nat) : Int) - 4) = (j : Int) := by unfold wrap64; omega
            have f1 := blk_frozen HO2.out.2 j
            have e2 := HO2.out.2.at j (by show j < 4; omega)
            go_wp2
            go_roundg (8 - (j + 4 + 1))
            case measure => omega
            case rel =>
              have hq := spinnakerref07_Mul.ds_hi s j (by omega)
              refine ⟨j + 4 + 1, by omega, by omega, rfl, by go_num, ⟨⟨?_, HO2.out.1.hx.other _ (by show n + 1 ≠ m; omega) _, HO2.out.1.hy.other _ (by show n + 1 + 1 ≠ m; omega) _, HO2.out.1.hs.other _ (by show n + 1 + 1 + 1 ≠ m; omega) _, below_set HO2.out.1.hb (by rw [hn.out]; omega)⟩, ?_⟩⟩
              · rw [← hq.2]; exact HO2.out.1.hd.other _ (by show n ≠ m; omega) _
              · rw [← hq.1]; exact HO2.out.2.put j _
        · obtain rfl : i = 8 := by omega
          have c0 : wr.cell? ⟨n, 0, none⟩ = some (.int .u64 (spinnakerref07_Mul.dig s 0)) := HO2.out.1.hd.at 0 (by show 0 < 4; omega)
          have c1 : wr.cell? ⟨n, 1, none⟩ = some (.int .u64 (spinnakerref07_Mul.dig s 1)) := HO2.out.1.hd.at 1 (by show 1 < 4; omega)
          have c2 : wr.cell? ⟨n, 2, none⟩ = some (.int .u64 (spinnakerref07_Mul.dig s 2)) := HO2.out.1.hd.at 2 (by show 2 < 4; omega)
          have c3 : wr.cell? ⟨n, 3, none⟩ = some (.int .u64 (spinnakerref07_Mul.dig s 3)) := HO2.out.1.hd.at 3 (by show 3 < 4; omega)
          have d0 : wr.cell? ⟨m, 0, none⟩ = some (.int .u64 (spinnakerref07_Mul.dig s 4)) := HO2.out.2.at 0 (by show 0 < 4; omega)
          have d1 : wr.cell? ⟨m, 1, none⟩ = some (.int .u64 (spinnakerref07_Mul.dig s 5)) := HO2.out.2.at 1 (by show 1 < 4; omega)
          have d2 : wr.cell? ⟨m, 2, none⟩ = some (.int .u64 (spinnakerref07_Mul.dig s 6)) := HO2.out.2.at 2 (by show 2 < 4; omega)
          have d3 : wr.cell? ⟨m, 3, none⟩ = some (.int .u64 (spinnakerref07_Mul.dig s 7)) := HO2.out.2.at 3 (by show 3 < 4; omega)
          go_wp2
          repeat (go_quiet (fail); try go_wp2)
          go_ret2
          have hf := HF.out
          rw [hx.out, hy.out, hs.out] at hf
          obtain ⟨h1, h2⟩ := Prod.mk.inj hf
          subst h1
          subst h2
          exact ⟨rfl, by repeat (first | exact HO2.out.1.hb | refine pw_below_drewN ?_ _)⟩


/-! ### spinnakerref07_Upper: function 80 -/
mutual
def spinnakerref07_Upper.j0 : Nat → Int → Int → Bool → Int → Int → Bool → Bool → Option (Int)
  | 0, _, _, _, _, _, _, _ => none
  | k + 1, x0, x1, x3, x9, x10, x11, x22 => if x22 = true then ((spinnakerref07_abs.f x0).bind fun t150 => (spinnakerref07_Upper.j1 k x1 x3 t150 x10 (!x11))) else (spinnakerref07_Upper.j1 k x1 x3 x9 x10 x11)
def spinnakerref07_Upper.j1 : Nat → Int → Bool → Int → Int → Bool → Option (Int)
  | 0, _, _, _, _, _ => none
  | k + 1, x1, x3, x9, x10, x11 => if x3 = true then (spinnakerref07_Upper.j2 k x1 x9 x10 x11 (decide (x1 < 0))) else (spinnakerref07_Upper.j2 k x1 x9 x10 x11 false)
def spinnakerref07_Upper.j2 : Nat → Int → Int → Int → Bool → Bool → Option (Int)
  | 0, _, _, _, _, _ => none
  | k + 1, x1, x9, x10, x11, x31 => if x31 = true then ((spinnakerref07_abs.f x1).bind fun t151 => (spinnakerref07_Upper.j3 k x9 t151 (!x11))) else (spinnakerref07_Upper.j3 k x9 x10 x11)
def spinnakerref07_Upper.j3 : Nat → Int → Int → Bool → Option (Int)
  | 0, _, _, _ => none
  | k + 1, x9, x10, x11 => (spinnakerref07_Mul.f x9 x10).bind fun bt152 => (if x11 = true then (if bt152.1 = 0 then (some (wrap64 (IntKind.u64.wrap ((Go.bits .xor .u64 18446744073709551615 bt152.2) + 1)))) else (some (wrap64 (Go.bits .xor .u64 18446744073709551615 bt152.2)))) else (some (wrap64 (bt152.2))))
end
def spinnakerref07_Upper.f (k : Nat) (a0 : Int) (a1 : Int) (a2 : Bool) (a3 : Bool) : Option (Int) := if a2 = true then (spinnakerref07_Upper.j0 k a0 a1 a3 (IntKind.u64.wrap (a0)) (IntKind.u64.wrap (a1)) false (decide (a0 < 0))) else (spinnakerref07_Upper.j0 k a0 a1 a3 (IntKind.u64.wrap (a0)) (IntKind.u64.wrap (a1)) false false)
theorem spinnakerref07_Upper.mono_l : ∀ k, (∀ y0 y1 y2 y3 y4 y5 y6, LeO (spinnakerref07_Upper.j0 k y0 y1 y2 y3 y4 y5 y6) (spinnakerref07_Upper.j0 (k + 1) y0 y1 y2 y3 y4 y5 y6)) ∧ (∀ y0 y1 y2 y3 y4, LeO (spinnakerref07_Upper.j1 k y0 y1 y2 y3 y4) (spinnakerref07_Upper.j1 (k + 1) y0 y1 y2 y3 y4)) ∧ (∀ y0 y1 y2 y3 y4, LeO (spinnakerref07_Upper.j2 k y0 y1 y2 y3 y4) (spinnakerref07_Upper.j2 (k + 1) y0 y1 y2 y3 y4)) ∧ (∀ y0 y1 y2, LeO (spinnakerref07_Upper.j3 k y0 y1 y2) (spinnakerref07_Upper.j3 (k + 1) y0 y1 y2))
  | 0 => ⟨fun _ _ _ _ _ _ _ r h => by simp [spinnakerref07_Upper.j0] at h, fun _ _ _ _ _ r h => by simp [spinnakerref07_Upper.j1] at h, fun _ _ _ _ _ r h => by simp [spinnakerref07_Upper.j2] at h, fun _ _ _ r h => by simp [spinnakerref07_Upper.j3] at h⟩
  | k + 1 => by
    obtain ⟨ih0, ih1, ih2, ih3⟩ := spinnakerref07_Upper.mono_l k
    refine ⟨?_, ?_, ?_, ?_⟩
    · intro y0 y1 y2 y3 y4 y5 y6
      unfold spinnakerref07_Upper.j0
      repeat' first
      | (with_reducible exact ih0 _ _ _ _ _ _ _)
      | (with_reducible exact ih1 _ _ _ _ _)
      | (with_reducible exact ih2 _ _ _ _ _)
      | (with_reducible exact ih3 _ _ _)
      | (with_reducible exact LeO.refl _)
      | (with_reducible exact LeO.none _)
      | (with_reducible refine LeO.ite ?_ ?_)
      | (with_reducible refine LeO.bind ?_ (fun _ => ?_))
      | exact ih0 _ _ _ _ _ _ _
      | exact ih1 _ _ _ _ _
      | exact ih2 _ _ _ _ _
      | exact ih3 _ _ _
      | exact LeO.none _
      | refine LeO.ite ?_ ?_
      | refine LeO.bind ?_ (fun _ => ?_)
    · intro y0 y1 y2 y3 y4
      unfold spinnakerref07_Upper.j1
      repeat' first
      | (with_reducible exact ih0 _ _ _ _ _ _ _)
      | (with_reducible exact ih1 _ _ _ _ _)
      | (with_reducible exact ih2 _ _ _ _ _)
      | (with_reducible exact ih3 _ _ _)
      | (with_reducible exact LeO.refl _)
      | (with_reducible exact LeO.none _)
      | (with_reducible refine LeO.ite ?_ ?_)
      | (with_reducible refine LeO.bind ?_ (fun _ => ?_))
      | exact ih0 _ _ _ _ _ _ _
      | exact ih1 _ _ _ _ _
      | exact ih2 _ _ _ _ _
      | exact ih3 _ _ _
      | exact LeO.none _
      | refine LeO.ite ?_ ?_
      | refine LeO.bind ?_ (fun _ => ?_)
    · intro y0 y1 y2 y3 y4
      unfold spinnakerref07_Upper.j2
      repeat' first
      | (with_reducible exact ih0 _ _ _ _ _ _ _)
      | (with_reducible exact ih1 _ _ _ _ _)
      | (with_reducible exact ih2 _ _ _ _ _)
      | (with_reducible exact ih3 _ _ _)
      | (with_reducible exact LeO.refl _)
      | (with_reducible exact LeO.none _)
      | (with_reducible refine LeO.ite ?_ ?_)
      | (with_reducible refine LeO.bind ?_ (fun _ => ?_))
      | exact ih0 _ _ _ _ _ _ _
      | exact ih1 _ _ _ _ _
      | exact ih2 _ _ _ _ _
      | exact ih3 _ _ _
      | exact LeO.none _
      | refine LeO.ite ?_ ?_
      | refine LeO.bind ?_ (fun _ => ?_)
    · intro y0 y1 y2
      unfold spinnakerref07_Upper.j3
      repeat' first
      | (with_reducible exact ih0 _ _ _ _ _ _ _)
      | (with_reducible exact ih1 _ _ _ _ _)
      | (with_reducible exact ih2 _ _ _ _ _)
      | (with_reducible exact ih3 _ _ _)
      | (with_reducible exact LeO.refl _)
      | (with_reducible exact LeO.none _)
      | (with_reducible refine LeO.ite ?_ ?_)
      | (with_reducible refine LeO.bind ?_ (fun _ => ?_))
      | exact ih0 _ _ _ _ _ _ _
      | exact ih1 _ _ _ _ _
      | exact ih2 _ _ _ _ _
      | exact ih3 _ _ _
      | exact LeO.none _
      | refine LeO.ite ?_ ?_
      | refine LeO.bind ?_ (fun _ => ?_)
theorem spinnakerref07_Upper.mono : ∀ a0 a1 a2 a3 k, LeO (spinnakerref07_Upper.f k a0 a1 a2 a3) (spinnakerref07_Upper.f (k + 1) a0 a1 a2 a3) := by
  intro a0 a1 a2 a3 k
  obtain ⟨ih0, ih1, ih2, ih3⟩ := spinnakerref07_Upper.mono_l k
  unfold spinnakerref07_Upper.f
  repeat' first
      | (with_reducible exact ih0 _ _ _ _ _ _ _)
      | (with_reducible exact ih1 _ _ _ _ _)
      | (with_reducible exact ih2 _ _ _ _ _)
      | (with_reducible exact ih3 _ _ _)
      | (with_reducible exact LeO.refl _)
      | (with_reducible exact LeO.none _)
      | (with_reducible refine LeO.ite ?_ ?_)
      | (with_reducible refine LeO.bind ?_ (fun _ => ?_))
      | exact ih0 _ _ _ _ _ _ _
      | exact ih1 _ _ _ _ _
      | exact ih2 _ _ _ _ _
      | exact ih3 _ _ _
      | exact LeO.none _
      | refine LeO.ite ?_ ?_
      | refine LeO.bind ?_ (fun _ => ?_)
set_option maxHeartbeats 8000000 in
set_option maxRecDepth 100000 in
theorem spinnakerref07_Upper.calls (k : Nat) (a0 : Int) (a1 : Int) (a2 : Bool) (a3 : Bool) (r : Int) (w : World) (h : spinnakerref07_Upper.f k a0 a1 a2 a3 = some r) :
    Calls Try.prog 80 #[.int .i64 a0, .int .i64 a1, .bool a2, .bool a3] w fun e w' => e = .returned (.int .i64 r) ∧ Below w.heap.size w w' := by
  have HB := Aside0.mk (Below.refl w.heap.size w)
  have H : (if a2 = true then (spinnakerref07_Upper.j0 k a0 a1 a3 (IntKind.u64.wrap (a0)) (IntKind.u64.wrap (a1)) false (decide (a0 < 0))) else (spinnakerref07_Upper.j0 k a0 a1 a3 (IntKind.u64.wrap (a0)) (IntKind.u64.wrap (a1)) false false)) = some r := h
  clear h
  have HC5 := Aside0.mk H
  clear H
  go_enter Try.func80, Try.ntmps80
  go_upto_region 2 with (fail)
  go_cut [22] (fun v22 wc => ∃ (kq : Nat) (x22_4 : Bool), v22 = .bool x22_4 ∧ Aside0 (spinnakerref07_Upper.j0 kq a0 a1 a3 (IntKind.u64.wrap (a0)) (IntKind.u64.wrap (a1)) false x22_4 = some r) ∧ Aside0 (kq ≤ k) ∧ Aside0 (Below w.heap.size w wc))
  case first =>
    have H := HC5.out
    clear HC5
    by_cases c6 : a2 = true
    · subst c6
      have H1 : (spinnakerref07_Upper.j0 k a0 a1 a3 (IntKind.u64.wrap (a0)) (IntKind.u64.wrap (a1)) false (decide (a0 < 0))) = some r := by rw [if_pos rfl] at H; exact H
      clear H
      have H := H1
      clear H1
      have H' := Aside0.mk H
      clear H
      go_wp2
      go_meet
      case rel => exact ⟨_, (decide (a0 < 0)), (by first | rfl | (simp; done) | (simp [*]; done)), H', ⟨by first | omega | exact Nat.le_refl _⟩, ⟨by repeat (first | (with_reducible first | exact HB.out | apply below_alloc | apply pw_below_drewN | apply below_drew1) | exact HB.out)⟩⟩
    · replace c6 := Bool.eq_false_iff.mpr c6
      subst c6
      have H1 : (spinnakerref07_Upper.j0 k a0 a1 a3 (IntKind.u64.wrap (a0)) (IntKind.u64.wrap (a1)) false false) = some r := by rw [if_neg (show ¬ (false = true) by decide)] at H; exact H
      clear H
      have H := H1
      clear H1
      have H' := Aside0.mk H
      clear H
      go_wp2
      go_meet
      case rel => exact ⟨_, (false), (by first | rfl | (simp; done) | (simp [*]; done)), H', ⟨by first | omega | exact Nat.le_refl _⟩, ⟨by repeat (first | (with_reducible first | exact HB.out | apply below_alloc | apply pw_below_drewN | apply below_drew1) | exact HB.out)⟩⟩
  case rest =>
    clear HC5
    try clear p2
    try clear c6
    obtain ⟨kq, x22_4, rfl, HA, HJ4, HB⟩ := hcut
    cases kq with
    | zero => exact absurd HA.out (by simp [spinnakerref07_Upper.j0])
    | succ kj4 =>
      have H := HA.out
      clear HA
      simp only [spinnakerref07_Upper.j0] at H
      have HC7 := Aside0.mk H
      clear H
      go_upto_if 22 with (fail)
      go_cut [9, 11] (fun v9 v11 wc => ∃ (kq : Nat) (x9_6 : Int) (x11_6 : Bool), v9 = .int .u64 x9_6 ∧ v11 = .bool x11_6 ∧ Aside0 (spinnakerref07_Upper.j1 kq a1 a3 x9_6 (IntKind.u64.wrap (a1)) x11_6 = some r) ∧ Aside0 (kq ≤ kj4) ∧ Aside0 (Below w.heap.size w wc))
      case first =>
        have H := HC7.out
        clear HC7
        by_cases c8 : x22_4 = true
        · subst c8
          have H1 : ((spinnakerref07_abs.f a0).bind fun t150 => (spinnakerref07_Upper.j1 kj4 a1 a3 t150 (IntKind.u64.wrap (a1)) (!false))) = some r := by rw [if_pos rfl] at H; exact H
          clear H
          have H := H1
          clear H1
          replace H := Option.bind_eq_some_iff.mp H
          obtain ⟨t150, A90, H⟩ := H
          replace H : (spinnakerref07_Upper.j1 kj4 a1 a3 t150 (IntKind.u64.wrap (a1)) (!false)) = some r := H
          have A9 := Aside0.mk A90
          clear A90
          have H' := Aside0.mk H
          clear H
          go_wp2_with (first | ((with_reducible refine gate_callee (f := 82) rfl ?_); refine goesL_ (some 24) rfl rfl Try.func82 (by kernel_rfl) rfl #[.int .i64 a0] rfl (by (try simp only [List.map_toArray, List.map_cons, List.map_nil]); first | done | rfl | (simp only [List.length_drop, List.length_take]; rfl)) ?_; (with_reducible refine (spinnakerref07_abs.calls a0 t150 _ A9.out).mono ?_); rintro e w' ⟨rfl, ⟨nd, rfl⟩⟩; refine ⟨_, rfl, ?_⟩))
          go_meet
          case rel => exact ⟨_, (t150), (!false), (by first | rfl | (simp; done) | (simp [*]; done)), (by first | rfl | (simp; done) | (simp [*]; done)), H', ⟨by have := HJ4.out; first | omega | exact Nat.le_refl _⟩, ⟨by repeat (first | (with_reducible first | exact HB.out | apply below_alloc | apply pw_below_drewN | apply below_drew1) | exact HB.out)⟩⟩
        · replace c8 := Bool.eq_false_iff.mpr c8
          subst c8
          have H1 : (spinnakerref07_Upper.j1 kj4 a1 a3 (IntKind.u64.wrap (a0)) (IntKind.u64.wrap (a1)) false) = some r := by rw [if_neg (show ¬ (false = true) by decide)] at H; exact H
          clear H
          have H := H1
          clear H1
          have H' := Aside0.mk H
          clear H
          go_wp2
          go_meet
          case rel => exact ⟨_, ((IntKind.u64.wrap (a0))), (false), (by first | rfl | (simp; done) | (simp [*]; done)), (by first | rfl | (simp; done) | (simp [*]; done)), H', ⟨by have := HJ4.out; first | omega | exact Nat.le_refl _⟩, ⟨by repeat (first | (with_reducible first | exact HB.out | apply below_alloc | apply pw_below_drewN | apply below_drew1) | exact HB.out)⟩⟩
      case rest =>
        clear HC7
        try clear p2
        try clear c6
        try clear c8
        try clear p2
        obtain ⟨kq, x9_6, x11_6, rfl, rfl, HA, HJ6, HB⟩ := hcut
        cases kq with
        | zero => exact absurd HA.out (by simp [spinnakerref07_Upper.j1])
        | succ kj6 =>
          have H := HA.out
          clear HA
          simp only [spinnakerref07_Upper.j1] at H
          have HC10 := Aside0.mk H
          clear H
          go_upto_region 4 with (fail)
          go_cut [31] (fun v31 wc => ∃ (kq : Nat) (x31_9 : Bool), v31 = .bool x31_9 ∧ Aside0 (spinnakerref07_Upper.j2 kq a1 x9_6 (IntKind.u64.wrap (a1)) x11_6 x31_9 = some r) ∧ Aside0 (kq ≤ kj6) ∧ Aside0 (Below w.heap.size w wc))
          case first =>
            have H := HC10.out
            clear HC10
            by_cases c11 : a3 = true
            · subst c11
              have H1 : (spinnakerref07_Upper.j2 kj6 a1 x9_6 (IntKind.u64.wrap (a1)) x11_6 (decide (a1 < 0))) = some r := by rw [if_pos rfl] at H; exact H
              clear H
              have H := H1
              clear H1
              have H' := Aside0.mk H
              clear H
              go_wp2
              go_meet
              case rel => exact ⟨_, (decide (a1 < 0)), (by first | rfl | (simp; done) | (simp [*]; done)), H', ⟨by have := HJ4.out; have := HJ6.out; first | omega | exact Nat.le_refl _⟩, ⟨by repeat (first | (with_reducible first | exact HB.out | apply below_alloc | apply pw_below_drewN | apply below_drew1) | exact HB.out)⟩⟩
            · replace c11 := Bool.eq_false_iff.mpr c11
              subst c11
              have H1 : (spinnakerref07_Upper.j2 kj6 a1 x9_6 (IntKind.u64.wrap (a1)) x11_6 false) = some r := by rw [if_neg (show ¬ (false = true) by decide)] at H; exact H
              clear H
              have H := H1
              clear H1
              have H' := Aside0.mk H
              clear H
              go_wp2
              go_meet
              case rel => exact ⟨_, (false), (by first | rfl | (simp; done) | (simp [*]; done)), H', ⟨by have := HJ4.out; have := HJ6.out; first | omega | exact Nat.le_refl _⟩, ⟨by repeat (first | (with_reducible first | exact HB.out | apply below_alloc | apply pw_below_drewN | apply below_drew1) | exact HB.out)⟩⟩
          case rest =>
            clear HC10
            try clear c1
            try clear p2
            try clear c6
            try clear c8
            try clear c11
            try clear p2
            obtain ⟨kq, x31_9, rfl, HA, HJ9, HB⟩ := hcut
            cases kq with
            | zero => exact absurd HA.out (by simp [spinnakerref07_Upper.j2])
            | succ kj9 =>
              have H := HA.out
              clear HA
              simp only [spinnakerref07_Upper.j2] at H
              have HC12 := Aside0.mk H
              clear H
              go_upto_if 31 with (fail)
              go_cut [10, 11] (fun v10 v11 wc => ∃ (kq : Nat) (x10_11 : Int) (x11_11 : Bool), v10 = .int .u64 x10_11 ∧ v11 = .bool x11_11 ∧ Aside0 (spinnakerref07_Upper.j3 kq x9_6 x10_11 x11_11 = some r) ∧ Aside0 (kq ≤ kj9) ∧ Aside0 (Below w.heap.size w wc))
              case first =>
                have H := HC12.out
                clear HC12
                by_cases c13 : x31_9 = true
                · subst c13
                  have H1 : ((spinnakerref07_abs.f a1).bind fun t151 => (spinnakerref07_Upper.j3 kj9 x9_6 t151 (!x11_6))) = some r := by rw [if_pos rfl] at H; exact H
                  clear H
                  have H := H1
                  clear H1
                  replace H := Option.bind_eq_some_iff.mp H
                  obtain ⟨t151, A140, H⟩ := H
                  replace H : (spinnakerref07_Upper.j3 kj9 x9_6 t151 (!x11_6)) = some r := H
                  have A14 := Aside0.mk A140
                  clear A140
                  have H' := Aside0.mk H
                  clear H
                  go_wp2_with (first | ((with_reducible refine gate_callee (f := 82) rfl ?_); refine goesL_ (some 33) rfl rfl Try.func82 (by kernel_rfl) rfl #[.int .i64 a1] rfl (by (try simp only [List.map_toArray, List.map_cons, List.map_nil]); first | done | rfl | (simp only [List.length_drop, List.length_take]; rfl)) ?_; (with_reducible refine (spinnakerref07_abs.calls a1 t151 _ A14.out).mono ?_); rintro e w' ⟨rfl, ⟨nd, rfl⟩⟩; refine ⟨_, rfl, ?_⟩))
                  go_meet
                  case rel => exact ⟨_, (t151), (!x11_6), (by first | rfl | (simp; done) | (simp [*]; done)), (by first | rfl | (simp; done) | (simp [*]; done)), H', ⟨by have := HJ4.out; have := HJ6.out; have := HJ9.out; first | omega | exact Nat.le_refl _⟩, ⟨by repeat (first | (with_reducible first | exact HB.out | apply below_alloc | apply pw_below_drewN | apply below_drew1) | exact HB.out)⟩⟩
                · replace c13 := Bool.eq_false_iff.mpr c13
                  subst c13
                  have H1 : (spinnakerref07_Upper.j3 kj9 x9_6 (IntKind.u64.wrap (a1)) x11_6) = some r := by rw [if_neg (show ¬ (false = true) by decide)] at H; exact H
                  clear H
                  have H := H1
                  clear H1
                  have H' := Aside0.mk H
                  clear H
                  go_wp2
                  go_meet
                  case rel => exact ⟨_, ((IntKind.u64.wrap (a1))), (x11_6), (by first | rfl | (simp; done) | (simp [*]; done)), (by first | rfl | (simp; done) | (simp [*]; done)), H', ⟨by have := HJ4.out; have := HJ6.out; have := HJ9.out; first | omega | exact Nat.le_refl _⟩, ⟨by repeat (first | (with_reducible first | exact HB.out | apply below_alloc | apply pw_below_drewN | apply below_drew1) | exact HB.out)⟩⟩
              case rest =>
                clear HC12
                try clear c1
                try clear p2
                try clear c6
                try clear c8
                try clear c11
                try clear c13
                try clear p2
                obtain ⟨kq, x10_11, x11_11, rfl, rfl, HA, HJ11, HB⟩ := hcut
                cases kq with
                | zero => exact absurd HA.out (by simp [spinnakerref07_Upper.j3])
                | succ kj11 =>
                  have H := HA.out
                  clear HA
                  simp only [spinnakerref07_Upper.j3] at H
                  replace H := Option.bind_eq_some_iff.mp H
                  obtain ⟨⟨t152, t153⟩, A150, H⟩ := H
                  replace H : (if x11_11 = true then (if t152 = 0 then (some (wrap64 (IntKind.u64.wrap ((Go.bits .xor .u64 18446744073709551615 t153) + 1)))) else (some (wrap64 (Go.bits .xor .u64 18446744073709551615 t153)))) else (some (wrap64 (t153)))) = some r := H
                  have A15 := Aside0.mk A150
                  clear A150
                  by_cases c16 : x11_11 = true
                  · subst c16
                    have H1 : (if t152 = 0 then (some (wrap64 (IntKind.u64.wrap ((Go.bits .xor .u64 18446744073709551615 t153) + 1)))) else (some (wrap64 (Go.bits .xor .u64 18446744073709551615 t153)))) = some r := by rw [if_pos rfl] at H; exact H
                    clear H
                    have H := H1
                    clear H1
                    by_cases c17 : t152 = 0
                    · rw [if_pos c17] at H
                      have c17b0 : (t152 == 0) = true := beq_iff_eq.mpr c17
                      have c17b1 : (t152 != 0) = false := bne_eq_false_iff_eq.mpr c17
                      clear c17
                      obtain rfl := Option.some.inj H
                      go_wp2_with (first | ((with_reducible refine gate_callee (f := 79) rfl ?_); refine goesL_ (some 39) rfl rfl Try.func79 (by kernel_rfl) rfl #[.int .u64 x9_6, .int .u64 x10_11] rfl (by (try simp only [List.map_toArray, List.map_cons, List.map_nil]); first | done | rfl | (simp only [List.length_drop, List.length_take]; rfl)) ?_; (with_reducible refine (spinnakerref07_Mul.calls x9_6 x10_11 t152 t153 _ A15.out).mono ?_); rintro e w18 ⟨rfl, hb⟩; refine ⟨_, rfl, ?_⟩; have n0_ := Aside0.mk (below_step (by repeat (first | (with_reducible first | exact HB.out | apply below_alloc | apply pw_below_drewN | apply below_drew1) | exact HB.out)) hb); clear HB; have HB := n0_; clear n0_; (try clear hb); (try clear hb2); (try clear hk); (try clear hi)))
                      go_ret
                      exact ⟨by first | rfl | (simp [errW_none, errW_some] <;> rfl) | (simp [*, errW_none, errW_some] <;> rfl), by repeat (first | (with_reducible first | exact HB.out | apply below_alloc | apply pw_below_drewN | apply below_drew1) | exact HB.out)⟩
                    · rw [if_neg c17] at H
                      have c17b0 : (t152 == 0) = false := beq_eq_false_iff_ne.mpr c17
                      have c17b1 : (t152 != 0) = true := bne_iff_ne.mpr c17
                      obtain rfl := Option.some.inj H
                      go_wp2_with (first | ((with_reducible refine gate_callee (f := 79) rfl ?_); refine goesL_ (some 39) rfl rfl Try.func79 (by kernel_rfl) rfl #[.int .u64 x9_6, .int .u64 x10_11] rfl (by (try simp only [List.map_toArray, List.map_cons, List.map_nil]); first | done | rfl | (simp only [List.length_drop, List.length_take]; rfl)) ?_; (with_reducible refine (spinnakerref07_Mul.calls x9_6 x10_11 t152 t153 _ A15.out).mono ?_); rintro e w19 ⟨rfl, hb⟩; refine ⟨_, rfl, ?_⟩; have n0_ := Aside0.mk (below_step (by repeat (first | (with_reducible first | exact HB.out | apply below_alloc | apply pw_below_drewN | apply below_drew1) | exact HB.out)) hb); clear HB; have HB := n0_; clear n0_; (try clear hb); (try clear hb2); (try clear hk); (try clear hi)))
                      go_ret
                      exact ⟨by first | rfl | (simp [errW_none, errW_some] <;> rfl) | (simp [*, errW_none, errW_some] <;> rfl), by repeat (first | (with_reducible first | exact HB.out | apply below_alloc | apply pw_below_drewN | apply below_drew1) | exact HB.out)⟩
                  · replace c16 := Bool.eq_false_iff.mpr c16
                    subst c16
                    have H1 : (some (wrap64 (t153))) = some r := by rw [if_neg (show ¬ (false = true) by decide)] at H; exact H
                    clear H
                    have H := H1
                    clear H1
                    obtain rfl := Option.some.inj H
                    go_wp2_with (first | ((with_reducible refine gate_callee (f := 79) rfl ?_); refine goesL_ (some 39) rfl rfl Try.func79 (by kernel_rfl) rfl #[.int .u64 x9_6, .int .u64 x10_11] rfl (by (try simp only [List.map_toArray, List.map_cons, List.map_nil]); first | done | rfl | (simp only [List.length_drop, List.length_take]; rfl)) ?_; (with_reducible refine (spinnakerref07_Mul.calls x9_6 x10_11 t152 t153 _ A15.out).mono ?_); rintro e w20 ⟨rfl, hb⟩; refine ⟨_, rfl, ?_⟩; have n0_ := Aside0.mk (below_step (by repeat (first | (with_reducible first | exact HB.out | apply below_alloc | apply pw_below_drewN | apply below_drew1) | exact HB.out)) hb); clear HB; have HB := n0_; clear n0_; (try clear hb); (try clear hb2); (try clear hk); (try clear hi)))
                    go_ret
                    exact ⟨by first | rfl | (simp [errW_none, errW_some] <;> rfl) | (simp [*, errW_none, errW_some] <;> rfl), by repeat (first | (with_reducible first | exact HB.out | apply below_alloc | apply pw_below_drewN | apply below_drew1) | exact HB.out)⟩

end Go.Proofs.Ytdnphnicdhcafaa.PCalcBins
