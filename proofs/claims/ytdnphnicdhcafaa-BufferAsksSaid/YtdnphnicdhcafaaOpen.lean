/- A value that can be read as data is what a printed kind says of its cells: kind by kind. No condition. -/
import Derived.Test.YtdnphnicdhcafaaWWords
import Derived.ChangeArms
import Derived.ChangeSlices
import Derived.OpenShut
import Derived.WideShapes
namespace Go.Proofs.Ytdnphnicdhcafaa.Open
open Go.RowKit Go.Proofs.YtdnphnicdhcafaaW.PrintWords Go.ChangeShapes Go.WideShapes
set_option linter.unusedVariables false
set_option linter.unusedSimpArgs false
/-- Whatever reads as data at this type is told by this kind, and is as 'ok' says. -/
def Opens {α : Type} (P : Program) (t : TypeId) (d : Kd α) (ok : α → Prop) : Prop :=
  ∀ (H : Type) (enc : TypeId × Value → H) (W : World) (base : Nat) (spare : Nat → Bool) (held : Bool) (fuel : Nat) (cs : List Value) (y : DataW H × List MemPlace), DataW.trod enc P W base spare held fuel t cs = some y → ∃ x : α, d.K W x cs ∧ ok x
theorem opens_int {P : Program} {t : TypeId} {k : IntKind} (ht : P.underlying t = some (.int k)) : Opens P t (Kd.int k) (fun x => (Lit.int k x).wf = true) := by
  intro H enc W base spare held fuel cs y h
  obtain ⟨n, rfl, _, hw⟩ := DataW.trod_int ht h
  exact ⟨n, rfl, hw⟩
theorem opens_bool {P : Program} {t : TypeId} (ht : P.underlying t = some .bool) : Opens P t Kd.bool (fun _ => True) := by
  intro H enc W base spare held fuel cs y h
  obtain ⟨b, rfl, _⟩ := DataW.trod_bool ht h
  exact ⟨b, rfl, trivial⟩
theorem opens_string {P : Program} {t : TypeId} (ht : P.underlying t = some .string) : Opens P t Kd.string (fun s => s.size ≤ maxLen) := by
  intro H enc W base spare held fuel cs y h
  obtain ⟨s, rfl, _, hs⟩ := DataW.trod_string ht h
  exact ⟨s, rfl, hs⟩
def okSl {α : Type} (ok : α → Prop) (l : List α) : Prop := l.length ≤ maxLen ∧ ∀ x ∈ l, ok x
theorem add_mul_ (a : Addr) (i j : Nat) : (a.add i).add j = a.add (i + j) := add_add a i j
theorem opens_slice {α : Type} {P : Program} {t e : TypeId} {d : Kd α} {ok : α → Prop} (ht : P.underlying t = some (.slice e)) (hs : P.cellsOf e = d.sz) (h : Opens P e d ok) : Opens P t (Kd.slice e d) (okSl ok) := by
  intro H enc W base spare held fuel cs y hy
  rcases DataW.trod_slice ht hy with ⟨rfl, _⟩ | ⟨a, len, cap, elems, rest, n, _, rfl, _, _, hl, hm, hlen, hel, _, _⟩
  · exact ⟨[], ⟨none, 0, rfl, Nat.le_refl _, rfl, by simp, fun h => absurd h (Nat.lt_irrefl 0)⟩, by simp [okSl]⟩
  · have key : ∀ i, i < len → ∃ (x : α) (c : List Value), d.K W x c ∧ ok x ∧ c.length = d.sz ∧ ∀ j u, c[j]? = some u → W.cell? (a.add (i * d.sz + j)) = some u := by
      intro i hi
      have h1 := hel i hi
      rw [List.getElem?_eq_getElem (by omega)] at h1
      obtain ⟨c, hc, hd⟩ := Option.bind_eq_some_iff.1 h1
      obtain ⟨x, hx, hok⟩ := h H enc W base spare held n c _ hd
      obtain ⟨_, hcl, hcell⟩ := World.cells?_some hc
      refine ⟨x, c, hx, hok, d.K_len hx, fun j u hu => ?_⟩
      have hj : j < c.length := (List.getElem?_eq_some_iff.1 hu).1
      have h2 := hcell j (by omega)
      rw [hs, add_add, hu] at h2
      exact h2
    have hall : ∃ xs : List α, xs.length = len ∧ ∀ i x, xs[i]? = some x → ∃ c : List Value, d.K W x c ∧ ok x ∧ c.length = d.sz ∧ ∀ j u, c[j]? = some u → W.cell? (a.add (i * d.sz + j)) = some u := by
      have : ∀ m, m ≤ len → ∃ xs : List α, xs.length = m ∧ ∀ i x, xs[i]? = some x → ∃ c : List Value, d.K W x c ∧ ok x ∧ c.length = d.sz ∧ ∀ j u, c[j]? = some u → W.cell? (a.add (i * d.sz + j)) = some u := by
        intro m
        induction m with
        | zero => exact fun _ => ⟨[], rfl, fun i x hx => by simp at hx⟩
        | succ m ih =>
          intro hm
          obtain ⟨xs, hxl, hxs⟩ := ih (by omega)
          obtain ⟨x, c, h1⟩ := key m (by omega)
          refine ⟨xs ++ [x], by simp [hxl], fun i z hz => ?_⟩
          rcases Nat.lt_or_ge i xs.length with hi | hi
          · rw [List.getElem?_append_left hi] at hz
            exact hxs i z hz
          · have hi2 : i = xs.length := by
              have := (List.getElem?_eq_some_iff.1 hz).1
              simp at this
              omega
            subst hi2
            have : x = z := by simpa using hz
            subst this
            rw [hxl]
            exact ⟨c, h1⟩
      exact this len (Nat.le_refl _)
    obtain ⟨xs, hxl, hxs⟩ := hall
    have hm' : cap ≤ 9223372036854775807 := by unfold maxLen at hm; omega
    refine ⟨xs, ⟨some a, cap, by rw [hxl], by omega, rfl, by omega, fun _ => ⟨a, rfl, fun j p hj => ?_⟩⟩, by unfold maxLen at *; omega, fun x hx => ?_⟩
    · obtain ⟨c, h1, _, h2, h3⟩ := hxs j p hj
      exact ⟨c, h2, h1, h3⟩
    · obtain ⟨i, hi⟩ := List.getElem?_of_mem hx
      obtain ⟨c, _, h1, _⟩ := hxs i x hi
      exact h1
/-- The fields of a struct from cell o on. -/
def OpensAt {α : Type} (P : Program) (fs : List Field) (o n : Nat) (d : Kd α) (ok : α → Prop) : Prop :=
  ∀ (H : Type) (enc : TypeId × Value → H) (W : World) (base : Nat) (spare : Nat → Bool) (held : Bool) (fuel : Nat) (cs : List Value), cs.length = n →
    (∀ f ∈ fs, ∃ y, DataW.trod enc P W base spare held fuel f.type ((cs.drop f.offset).take (P.cellsOf f.type)) = some y) → ∃ x : α, d.K W x (cs.drop o) ∧ ok x
theorem opensAt_one {α : Type} {P : Program} {f : Field} {o n : Nat} {d : Kd α} {ok : α → Prop} (h : Opens P f.type d ok) (ho : f.offset = o) (hs : P.cellsOf f.type = d.sz) (hn : n = o + d.sz) : OpensAt P [f] o n d ok := by
  intro H enc W base spare held fuel cs hl hf
  obtain ⟨y, hy⟩ := hf f (by simp)
  rw [ho, hs, List.take_of_length_le (by rw [List.length_drop]; omega)] at hy
  exact h H enc W base spare held fuel _ y hy
theorem opensAt_cons {α β : Type} {P : Program} {f : Field} {fs : List Field} {o n : Nat} {a : Kd α} {b : Kd β} {okA : α → Prop} {okB : β → Prop} (h : Opens P f.type a okA) (ho : f.offset = o) (hs : P.cellsOf f.type = a.sz) (hr : OpensAt P fs (o + a.sz) n b okB) :
    OpensAt P (f :: fs) o n (Kd.pair a b) (fun x => okA x.1 ∧ okB x.2) := by
  intro H enc W base spare held fuel cs hl hf
  obtain ⟨y, hy⟩ := hf f (by simp)
  obtain ⟨x2, hx2, hok2⟩ := hr H enc W base spare held fuel cs hl (fun g hg => hf g (by simp [hg]))
  rw [ho, hs] at hy
  obtain ⟨x1, hx1, hok1⟩ := h H enc W base spare held fuel _ y hy
  refine ⟨(x1, x2), ⟨_, _, ?_, hx1, hx2⟩, hok1, hok2⟩
  rw [← List.drop_drop, List.take_append_drop]
theorem opens_struct {α : Type} {P : Program} {t : TypeId} {fs : Array Field} {n : Nat} {d : Kd α} {ok : α → Prop} (ht : P.underlying t = some (.struct fs)) (hn : P.cellsOf t = n) (h : OpensAt P fs.toList 0 n d ok) : Opens P t d ok := by
  intro H enc W base spare held fuel cs y hy
  obtain ⟨xs, m, _, _, hl, hxl, hf⟩ := DataW.trod_struct ht hy
  have := h H enc W base spare held m cs (by omega) (fun f hfm => by
    obtain ⟨i, hi⟩ := List.getElem?_of_mem hfm
    have h1 := hf i f (by rw [← Array.getElem?_toList]; exact hi)
    have h2 : i < fs.size := by have := (List.getElem?_eq_some_iff.1 hi).1; simpa using this
    rw [List.getElem?_eq_getElem (by omega)] at h1
    exact ⟨_, h1⟩)
  simpa using this
theorem opens_iso {α β : Type} {P : Program} {t : TypeId} {d : Kd α} {ok : α → Prop} (h : Opens P t d ok) (f : β → α) (g : α → β) (hfg : ∀ x, f (g x) = x) : Opens P t (Kd.iso d f) (fun y => ok (f y)) := by
  intro H enc W base spare held fuel cs y hy
  obtain ⟨x, hx, hok⟩ := h H enc W base spare held fuel cs y hy
  exact ⟨g x, by show d.K W (f (g x)) cs; rw [hfg]; exact hx, by show ok (f (g x)); rw [hfg]; exact hok⟩
/-- A slice that came in. -/
theorem slice_in {α : Type} {P : Program} {t e : TypeId} {d : Kd α} {ok : List α → Prop} {H : Type} {enc : TypeId × Value → H} {W : World} {base : Nat} {spare : Nat → Bool} {held : Bool} {a : Option Addr} {len cap : Nat} {D : DataW H} {ps : List MemPlace}
    (ho : Opens P t (Kd.slice e d) ok) (h : DataW.Trod enc P W base spare held t (.slice a len cap) D ps) : ∃ l : List α, l.length = len ∧ l.length ≤ cap ∧ d.C W a l.length l ∧ ok l := by
  obtain ⟨fuel, hf⟩ := h
  obtain ⟨l, ⟨A, c, hcs, hl, hC⟩, hok⟩ := ho H enc W base spare held fuel _ _ hf
  simp [Value.cells] at hcs
  obtain ⟨rfl, rfl, rfl⟩ := hcs
  exact ⟨l, rfl, hl, hC, hok⟩
/-- A struct that came in. -/
theorem struct_in {α : Type} {P : Program} {t : TypeId} {d : Kd α} {ok : α → Prop} {H : Type} {enc : TypeId × Value → H} {W : World} {base : Nat} {spare : Nat → Bool} {held : Bool} {cs : Array Value} {D : DataW H} {ps : List MemPlace}
    (ho : Opens P t d ok) (h : DataW.Trod enc P W base spare held t (.agg cs) D ps) : ∃ x : α, d.K W x cs.toList ∧ ok x := by
  obtain ⟨fuel, hf⟩ := h
  exact ho H enc W base spare held fuel _ _ hf
end Go.Proofs.Ytdnphnicdhcafaa.Open
