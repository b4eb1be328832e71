/- A value that can be read as data is what a printed kind says of its cells, and weighs no more than the datum: kind by kind. No condition. -/
import Derived.Test.YtoieemaheadjdaaDoorWWords
import Derived.Test.YtoieemaheadjdaaDoorRows
import Derived.ChangeArms
import Derived.ChangeSlices
import Derived.OpenShut
import Derived.WideShapes
namespace Go.Proofs.YtoieemaheadjdaaDoor.OpenB
open Go.RowKit Go.Proofs.YtoieemaheadjdaaDoorW.PrintWords Go.ChangeShapes Go.WideShapes
set_option linter.unusedVariables false
set_option linter.unusedSimpArgs false
theorem one_le {H : Type} (d : DataW H) : 1 ≤ Rows.uptoBulk d := by
  cases d with
  | lit l => cases l <;> simp [Rows.uptoBulk]
  | nil => simp [Rows.uptoBulk]
  | ptr d => simp [Rows.uptoBulk]
  | slice elems spare => simp [Rows.uptoBulk]
  | agg parts => simp [Rows.uptoBulk]
  | iface t d => simp [Rows.uptoBulk]
  | map entries => simp [Rows.uptoBulk]
  | held h => simp [Rows.uptoBulk]
theorem bulk_append {H : Type} (l r : List (DataW H)) : Rows.uptoBulkAll (l ++ r) = Rows.uptoBulkAll l + Rows.uptoBulkAll r := by
  induction l with
  | nil => simp [Rows.uptoBulkAll]
  | cons x l ih => simp only [List.cons_append, Rows.uptoBulkAll, ih]; omega
theorem part_le {H : Type} {d : DataW H} {l : List (DataW H)} (h : d ∈ l) : Rows.uptoBulk d ≤ Rows.uptoBulkAll l := by
  induction l with
  | nil => cases h
  | cons x r ih =>
    simp only [Rows.uptoBulkAll]
    cases List.mem_cons.1 h with
    | inl e => subst e; omega
    | inr e => have := ih e; omega
/-- Whatever reads as data at this type is told by this kind, is as 'ok' says, and weighs no more than the datum. -/
def Opens {α : Type} (P : Program) (t : TypeId) (d : Kd α) (ok : α → Prop) (wt : α → Nat) : Prop :=
  ∀ (H : Type) (enc : TypeId × Value → H) (W : World) (base : Nat) (spare : Nat → Bool) (held : Bool) (fuel : Nat) (cs : List Value) (y : DataW H × List MemPlace), DataW.trod enc P W base spare held fuel t cs = some y → ∃ x : α, d.K W x cs ∧ ok x ∧ wt x ≤ Rows.uptoBulk y.1
theorem opens_int {P : Program} {t : TypeId} {k : IntKind} (ht : P.underlying t = some (.int k)) : Opens P t (Kd.int k) (fun x => (Lit.int k x).wf = true) (fun _ => 1) := by
  intro H enc W base spare held fuel cs y h
  obtain ⟨n, rfl, _, hw⟩ := DataW.trod_int ht h
  exact ⟨n, rfl, hw, one_le _⟩
theorem opens_bool {P : Program} {t : TypeId} (ht : P.underlying t = some .bool) : Opens P t Kd.bool (fun _ => True) (fun _ => 1) := by
  intro H enc W base spare held fuel cs y h
  obtain ⟨b, rfl, _⟩ := DataW.trod_bool ht h
  exact ⟨b, rfl, trivial, one_le _⟩
theorem opens_string {P : Program} {t : TypeId} (ht : P.underlying t = some .string) : Opens P t Kd.string (fun s => s.size ≤ maxLen) (fun _ => 1) := by
  intro H enc W base spare held fuel cs y h
  obtain ⟨s, rfl, _, hs⟩ := DataW.trod_string ht h
  exact ⟨s, rfl, hs, one_le _⟩
def okSl {α : Type} (ok : α → Prop) (l : List α) : Prop := l.length ≤ maxLen ∧ ∀ x ∈ l, ok x
def wtSl {α : Type} (wt : α → Nat) (l : List α) : Nat := (l.map wt).sum + 1
theorem opens_slice {α : Type} {P : Program} {t e : TypeId} {d : Kd α} {ok : α → Prop} {wt : α → Nat} (ht : P.underlying t = some (.slice e)) (hs : P.cellsOf e = d.sz) (h : Opens P e d ok wt) : Opens P t (Kd.slice e d) (okSl ok) (wtSl wt) := by
  intro H enc W base spare held fuel cs y hy
  rcases DataW.trod_slice ht hy with ⟨rfl, rfl⟩ | ⟨a, len, cap, elems, rest, n, _, rfl, rfl, _, hl, hm, hlen, hel, _, _⟩
  · exact ⟨[], ⟨none, 0, rfl, Nat.le_refl _, rfl, by simp, fun h => absurd h (Nat.lt_irrefl 0)⟩, by simp [okSl], by simpa [wtSl] using one_le (DataW.nil (H := H))⟩
  · have key : ∀ i, i < len → ∃ (x : α) (c : List Value) (z : DataW H × List MemPlace), elems[i]? = some z ∧ wt x ≤ Rows.uptoBulk z.1 ∧ d.K W x c ∧ ok x ∧ c.length = d.sz ∧ ∀ j u, c[j]? = some u → W.cell? (a.add (i * d.sz + j)) = some u := by
      intro i hi
      have h1 := hel i hi
      rw [List.getElem?_eq_getElem (by omega)] at h1
      obtain ⟨c, hc, hd⟩ := Option.bind_eq_some_iff.1 h1
      obtain ⟨x, hx, hok, hwt⟩ := h H enc W base spare held n c _ hd
      obtain ⟨_, hcl, hcell⟩ := World.cells?_some hc
      refine ⟨x, c, _, List.getElem?_eq_getElem (by omega), hwt, hx, hok, d.K_len hx, fun j u hu => ?_⟩
      have hj : j < c.length := (List.getElem?_eq_some_iff.1 hu).1
      have h2 := hcell j (by omega)
      rw [hs, add_add, hu] at h2
      exact h2
    have hall : ∃ xs : List α, xs.length = len ∧ (xs.map wt).sum ≤ Rows.uptoBulkAll ((elems.take len).map (·.1)) ∧ ∀ i x, xs[i]? = some x → ∃ c : List Value, d.K W x c ∧ ok x ∧ c.length = d.sz ∧ ∀ j u, c[j]? = some u → W.cell? (a.add (i * d.sz + j)) = some u := by
      have : ∀ m, m ≤ len → ∃ xs : List α, xs.length = m ∧ (xs.map wt).sum ≤ Rows.uptoBulkAll ((elems.take m).map (·.1)) ∧ ∀ i x, xs[i]? = some x → ∃ c : List Value, d.K W x c ∧ ok x ∧ c.length = d.sz ∧ ∀ j u, c[j]? = some u → W.cell? (a.add (i * d.sz + j)) = some u := by
        intro m
        induction m with
        | zero => exact fun _ => ⟨[], rfl, by simp, fun i x hx => by simp at hx⟩
        | succ m ih =>
          intro hm
          obtain ⟨xs, hxl, hsum, hxs⟩ := ih (by omega)
          obtain ⟨x, c, z, hz, hwt, h1⟩ := key m (by omega)
          refine ⟨xs ++ [x], by simp [hxl], ?_, fun i z hz => ?_⟩
          · rw [List.take_add_one, hz]
            simp only [Option.toList_some, List.map_append, List.sum_append, List.map_cons, List.map_nil, List.sum_cons, List.sum_nil, bulk_append, Rows.uptoBulkAll]
            omega
          rcases Nat.lt_or_ge i xs.length with hi | hi
          · rw [List.getElem?_append_left hi] at hz
            exact hxs i z hz
          · have hi2 : i = xs.length := by
              have := (List.getElem?_eq_some_iff.1 hz).1
              simp at this
              omega
            subst hi2
            have : x = z := by simpa using hz
            subst this
            rw [hxl]
            exact ⟨c, h1⟩
      exact this len (Nat.le_refl _)
    obtain ⟨xs, hxl, hsum, hxs⟩ := hall
    have hm' : cap ≤ 9223372036854775807 := by unfold maxLen at hm; omega
    refine ⟨xs, ⟨some a, cap, by rw [hxl], by omega, rfl, by omega, fun _ => ⟨a, rfl, fun j p hj => ?_⟩⟩, ⟨by unfold maxLen at *; omega, fun x hx => ?_⟩, ?_⟩
    · obtain ⟨c, h1, _, h2, h3⟩ := hxs j p hj
      exact ⟨c, h2, h1, h3⟩
    · obtain ⟨i, hi⟩ := List.getElem?_of_mem hx
      obtain ⟨c, _, h1, _⟩ := hxs i x hi
      exact h1
    · rw [List.take_of_length_le (by omega)] at hsum
      simp only [wtSl, Rows.uptoBulk]
      omega
/-- The fields of a struct from cell o on. -/
def OpensAt {α : Type} (P : Program) (fs : List Field) (o n : Nat) (d : Kd α) (ok : α → Prop) (wt : α → Nat) : Prop :=
  ∀ (H : Type) (enc : TypeId × Value → H) (W : World) (base : Nat) (spare : Nat → Bool) (held : Bool) (fuel : Nat) (cs : List Value) (ys : List (DataW H × List MemPlace)), cs.length = n → ys.length = fs.length →
    (∀ (i : Nat) (f : Field), fs[i]? = some f → DataW.trod enc P W base spare held fuel f.type ((cs.drop f.offset).take (P.cellsOf f.type)) = ys[i]?) → ∃ x : α, d.K W x (cs.drop o) ∧ ok x ∧ wt x ≤ Rows.uptoBulkAll (ys.map (·.1))
theorem opensAt_one {α : Type} {P : Program} {f : Field} {o n : Nat} {d : Kd α} {ok : α → Prop} {wt : α → Nat} (h : Opens P f.type d ok wt) (ho : f.offset = o) (hs : P.cellsOf f.type = d.sz) (hn : n = o + d.sz) : OpensAt P [f] o n d ok wt := by
  intro H enc W base spare held fuel cs ys hl hy hf
  match ys, hy with
  | [y], _ =>
    have h1 := hf 0 f rfl
    rw [ho, hs, List.take_of_length_le (by rw [List.length_drop]; omega)] at h1
    obtain ⟨x, a, b, c⟩ := h H enc W base spare held fuel _ y h1
    exact ⟨x, a, b, by simpa [Rows.uptoBulkAll] using c⟩
theorem opensAt_cons {α β : Type} {P : Program} {f : Field} {fs : List Field} {o n : Nat} {a : Kd α} {b : Kd β} {okA : α → Prop} {okB : β → Prop} {wA : α → Nat} {wB : β → Nat} (h : Opens P f.type a okA wA) (ho : f.offset = o) (hs : P.cellsOf f.type = a.sz) (hr : OpensAt P fs (o + a.sz) n b okB wB) :
    OpensAt P (f :: fs) o n (Kd.pair a b) (fun x => okA x.1 ∧ okB x.2) (fun x => wA x.1 + wB x.2) := by
  intro H enc W base spare held fuel cs ys hl hy hf
  match ys, hy with
  | y :: ys, hy =>
    have h1 := hf 0 f rfl
    obtain ⟨x2, hx2, hok2, hw2⟩ := hr H enc W base spare held fuel cs ys hl (by simpa using hy) (fun i g hg => hf (i + 1) g (by simpa using hg))
    rw [ho, hs] at h1
    obtain ⟨x1, hx1, hok1, hw1⟩ := h H enc W base spare held fuel _ y h1
    refine ⟨(x1, x2), ⟨_, _, ?_, hx1, hx2⟩, ⟨hok1, hok2⟩, ?_⟩
    · rw [← List.drop_drop, List.take_append_drop]
    · simp only [List.map_cons, Rows.uptoBulkAll]
      omega
theorem opens_struct {α : Type} {P : Program} {t : TypeId} {fs : Array Field} {n : Nat} {d : Kd α} {ok : α → Prop} {wt : α → Nat} (ht : P.underlying t = some (.struct fs)) (hn : P.cellsOf t = n) (h : OpensAt P fs.toList 0 n d ok wt) : Opens P t d ok wt := by
  intro H enc W base spare held fuel cs y hy
  obtain ⟨xs, m, _, rfl, hl, hxl, hf⟩ := DataW.trod_struct ht hy
  obtain ⟨x, h1, h2, h3⟩ := h H enc W base spare held m cs xs (by omega) (by simpa using hxl) (fun i f hi => hf i f (by rw [← Array.getElem?_toList]; exact hi))
  refine ⟨x, by simpa using h1, h2, ?_⟩
  simp only [Rows.uptoBulk]
  omega
theorem opens_iso {α β : Type} {P : Program} {t : TypeId} {d : Kd α} {ok : α → Prop} {wt : α → Nat} (h : Opens P t d ok wt) (f : β → α) (g : α → β) (hfg : ∀ x, f (g x) = x) : Opens P t (Kd.iso d f) (fun y => ok (f y)) (fun y => wt (f y)) := by
  intro H enc W base spare held fuel cs y hy
  obtain ⟨x, hx, hok, hw⟩ := h H enc W base spare held fuel cs y hy
  exact ⟨g x, by show d.K W (f (g x)) cs; rw [hfg]; exact hx, by show ok (f (g x)); rw [hfg]; exact hok, by show wt (f (g x)) ≤ _; rw [hfg]; exact hw⟩
/-- A slice that came in. -/
theorem slice_in {α : Type} {P : Program} {t e : TypeId} {d : Kd α} {ok : List α → Prop} {wt : List α → Nat} {H : Type} {enc : TypeId × Value → H} {W : World} {base : Nat} {spare : Nat → Bool} {held : Bool} {a : Option Addr} {len cap : Nat} {D : DataW H} {ps : List MemPlace}
    (ho : Opens P t (Kd.slice e d) ok wt) (h : DataW.Trod enc P W base spare held t (.slice a len cap) D ps) : ∃ l : List α, l.length = len ∧ l.length ≤ cap ∧ d.C W a l.length l ∧ ok l ∧ wt l ≤ Rows.uptoBulk D := by
  obtain ⟨fuel, hf⟩ := h
  obtain ⟨l, ⟨A, c, hcs, hl, hC⟩, hok, hw⟩ := ho H enc W base spare held fuel _ _ hf
  simp [Value.cells] at hcs
  obtain ⟨rfl, rfl, rfl⟩ := hcs
  exact ⟨l, rfl, hl, hC, hok, hw⟩
/-- A struct that came in. -/
theorem struct_in {α : Type} {P : Program} {t : TypeId} {d : Kd α} {ok : α → Prop} {wt : α → Nat} {H : Type} {enc : TypeId × Value → H} {W : World} {base : Nat} {spare : Nat → Bool} {held : Bool} {cs : Array Value} {D : DataW H} {ps : List MemPlace}
    (ho : Opens P t d ok wt) (h : DataW.Trod enc P W base spare held t (.agg cs) D ps) : ∃ x : α, d.K W x cs.toList ∧ ok x ∧ wt x ≤ Rows.uptoBulk D := by
  obtain ⟨fuel, hf⟩ := h
  exact ho H enc W base spare held fuel _ _ hf
end Go.Proofs.YtoieemaheadjdaaDoor.OpenB
