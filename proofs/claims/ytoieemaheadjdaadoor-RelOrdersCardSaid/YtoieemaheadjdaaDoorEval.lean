/- Code without loops that writes no memory, walked by the kernel: what it comes to is a tree of tests; one theorem says that the code does what its tree says. No condition on the code: where it isn't of this kind there is no tree. -/
import Derived.Test.YtoieemaheadjdaaDoorWWords
import Derived.Deep.Quiet
namespace Go.Proofs.YtoieemaheadjdaaDoor.Eval
open Go.RowKit Go.Proofs.YtoieemaheadjdaaDoorW.PrintWords
set_option linter.unusedVariables false
set_option linter.unusedSimpArgs false
inductive CO where
  | eq | ne | lt | le | gt | ge
/-- A number: a letter, a literal, a length. -/
inductive IE where
  | v (n : Nat) | lit (z : Int) | len (n : Nat) | f (n : Nat) (x : IE) | f2 (n : Nat) (x y : IE)
/-- A truth value. -/
inductive BE where
  | lit (b : Bool) | v (n : Nat) | cmp (o : CO) (x y : IE) | not (e : BE) | beq (x y : BE) | ite (c x y : BE) | fn (n : Nat) (x y z u : IE)
/-- A cell. -/
inductive CV where
  | i (e : IE) | b (e : BE) | sl (n : Nat)
/-- A slot. -/
inductive SV where
  | i (e : IE) | b (e : BE) | sl (n : Nat) | ptr (k off : Nat) | agg (l : List CV) | tup (l : List CV) | raw (n : Nat) | u
structure Env where
  iv : List Int
  bv : List Bool
  sv : List (Option Addr × Nat × Nat)
  bk : Nat → Nat
  rv : List Value
  fn : Nat → Int → Int → Int → Int → Bool
  fi : Nat → Int → Int
  fi2 : Nat → Int → Int → Int
def CO.den : CO → Int → Int → Bool
  | .eq, x, y => x == y
  | .ne, x, y => x != y
  | .lt, x, y => decide (x < y)
  | .le, x, y => decide (x ≤ y)
  | .gt, x, y => decide (y < x)
  | .ge, x, y => decide (y ≤ x)
def IE.den (ρ : Env) : IE → Int
  | .v n => ρ.iv.getD n 0
  | .lit z => z
  | .len n => ((ρ.sv.getD n (none, 0, 0)).2.1 : Int)
  | .f n x => ρ.fi n (x.den ρ)
  | .f2 n x y => ρ.fi2 n (x.den ρ) (y.den ρ)
def BE.den (ρ : Env) : BE → Bool
  | .lit b => b
  | .v n => ρ.bv.getD n false
  | .cmp o x y => o.den (x.den ρ) (y.den ρ)
  | .not e => !(e.den ρ)
  | .beq x y => x.den ρ == y.den ρ
  | .ite c x y => cond (c.den ρ) (x.den ρ) (y.den ρ)
  | .fn n x y z u => ρ.fn n (x.den ρ) (y.den ρ) (z.den ρ) (u.den ρ)
def slV (x : Option Addr × Nat × Nat) : Value := .slice x.1 x.2.1 x.2.2
def CV.den (ρ : Env) : CV → Value
  | .i e => .int .i64 (e.den ρ)
  | .b e => .bool (e.den ρ)
  | .sl n => slV (ρ.sv.getD n (none, 0, 0))
def CV.up : CV → SV
  | .i e => .i e
  | .b e => .b e
  | .sl n => .sl n
def SV.den (ρ : Env) : SV → Value
  | .i e => .int .i64 (e.den ρ)
  | .b e => .bool (e.den ρ)
  | .sl n => slV (ρ.sv.getD n (none, 0, 0))
  | .ptr k off => .pointer (some ⟨ρ.bk k, off, none⟩)
  | .agg l => .agg (l.map (CV.den ρ)).toArray
  | .tup l => .tuple (l.map (CV.den ρ)).toArray
  | .raw n => ρ.rv.getD n undef
  | .u => undef
theorem CV.up_den (ρ : Env) (c : CV) : c.up.den ρ = c.den ρ := by cases c <;> rfl
/-! ### the same test -/
def CO.same : CO → CO → Bool
  | .eq, .eq | .ne, .ne | .lt, .lt | .le, .le | .gt, .gt | .ge, .ge => true
  | _, _ => false
theorem CO.same_eq {a b : CO} (h : CO.same a b = true) : a = b := by cases a <;> cases b <;> first | rfl | cases h
def IE.same : IE → IE → Bool
  | .v m, .v n => m == n
  | .lit x, .lit y => x == y
  | .len m, .len n => m == n
  | .f m x, .f n y => m == n && IE.same x y
  | .f2 m x y, .f2 n x' y' => m == n && IE.same x x' && IE.same y y'
  | _, _ => false
theorem IE.same_eq : ∀ {a b : IE}, IE.same a b = true → a = b
  | .v m, .v n, h => by simp [IE.same] at h; rw [h]
  | .lit m, .lit n, h => by simp [IE.same] at h; rw [h]
  | .len m, .len n, h => by simp [IE.same] at h; rw [h]
  | .f m x, .f n y, h => by
    simp only [IE.same, Bool.and_eq_true, beq_iff_eq] at h
    rw [h.1, IE.same_eq h.2]
  | .f2 m x y, .f2 n x' y', h => by
    simp only [IE.same, Bool.and_eq_true, beq_iff_eq] at h
    rw [h.1.1, IE.same_eq h.1.2, IE.same_eq h.2]
def BE.same : BE → BE → Bool
  | .lit x, .lit y => x == y
  | .v m, .v n => m == n
  | .cmp o x y, .cmp o' x' y' => CO.same o o' && IE.same x x' && IE.same y y'
  | .not x, .not y => BE.same x y
  | .beq x y, .beq x' y' => BE.same x x' && BE.same y y'
  | .ite c x y, .ite c' x' y' => BE.same c c' && BE.same x x' && BE.same y y'
  | .fn m x y z u, .fn n x' y' z' u' => m == n && IE.same x x' && IE.same y y' && IE.same z z' && IE.same u u'
  | _, _ => false
theorem BE.same_eq : ∀ {a b : BE}, BE.same a b = true → a = b
  | .lit x, .lit y, h => by simp [BE.same] at h; rw [h]
  | .v m, .v n, h => by simp [BE.same] at h; rw [h]
  | .cmp o x y, .cmp o' x' y', h => by
    simp only [BE.same, Bool.and_eq_true] at h
    rw [CO.same_eq h.1.1, IE.same_eq h.1.2, IE.same_eq h.2]
  | .not x, .not y, h => by
    simp only [BE.same] at h
    rw [BE.same_eq h]
  | .beq x y, .beq x' y', h => by
    simp only [BE.same, Bool.and_eq_true] at h
    rw [BE.same_eq h.1, BE.same_eq h.2]
  | .ite c x y, .ite c' x' y', h => by
    simp only [BE.same, Bool.and_eq_true] at h
    rw [BE.same_eq h.1.1, BE.same_eq h.1.2, BE.same_eq h.2]
  | .fn m x y z u, .fn n x' y' z' u', h => by
    simp only [BE.same, Bool.and_eq_true, beq_iff_eq] at h
    rw [h.1.1.1.1, IE.same_eq h.1.1.1.2, IE.same_eq h.1.1.2, IE.same_eq h.1.2, IE.same_eq h.2]
abbrev Kn := List (BE × Bool)
def look (e : BE) : Kn → Option Bool
  | [] => none
  | p :: r => if BE.same p.1 e then some p.2 else look e r
/-- Is it known that x is another number than a? -/
def other (x : IE) (a : Int) : Kn → Bool
  | [] => false
  | p :: r => (match p with
    | (.cmp .eq x' (.lit b), true) => IE.same x' x && b != a
    | _ => false) || other x a r
def known (kn : Kn) : BE → Option Bool
  | .lit b => some b
  | .not e => (known kn e).map (!·)
  | .ite c x y => match known kn c with
    | some true => known kn x
    | some false => known kn y
    | none => look (.ite c x y) kn
  | .cmp o x y => match o, x, y with
    | o, .lit a, .lit b => some (o.den a b)
    | .eq, x, .lit a => if other x a kn then some false else look (.cmp .eq x (.lit a)) kn
    | o, x, y => look (.cmp o x y) kn
  | e => look e kn
def KnOk (ρ : Env) (kn : Kn) : Prop := ∀ p ∈ kn, p.1.den ρ = p.2
theorem look_den {ρ : Env} {e : BE} {b : Bool} : ∀ {kn : Kn}, KnOk ρ kn → look e kn = some b → e.den ρ = b
  | [], _, h => by cases h
  | p :: r, hk, h => by
    simp only [look] at h
    by_cases hs : BE.same p.1 e = true
    · rw [if_pos hs] at h
      injection h with h
      rw [← h, ← hk p (by simp), BE.same_eq hs]
    · rw [if_neg hs] at h
      exact look_den (fun q hq => hk q (by simp [hq])) h
theorem other_den {ρ : Env} {x : IE} {a : Int} : ∀ {kn : Kn}, KnOk ρ kn → other x a kn = true → x.den ρ ≠ a
  | [], _, h => by cases h
  | p :: r, hk, h => by
    simp only [other, Bool.or_eq_true] at h
    rcases h with h | h
    · split at h
      · rename_i x' b
        simp only [Bool.and_eq_true, bne_iff_ne] at h
        have := hk (.cmp .eq x' (.lit b), true) (by simp)
        simp only [BE.den, CO.den, IE.den, beq_iff_eq] at this
        rw [← IE.same_eq h.1, this]
        exact h.2
      · cases h
    · exact other_den (fun q hq => hk q (by simp [hq])) h
theorem known_den {ρ : Env} {kn : Kn} (hk : KnOk ρ kn) : ∀ {e : BE} {b : Bool}, known kn e = some b → e.den ρ = b
  | .lit x, b, h => by simpa [known, BE.den] using h
  | .not e, b, h => by
    simp only [known, Option.map_eq_some_iff] at h
    obtain ⟨c, hc, rfl⟩ := h
    simp only [BE.den, known_den hk hc]
  | .v n, b, h => look_den hk h
  | .cmp o x y, b, h => by
    simp only [known] at h
    split at h
    · injection h
    · split at h
      · rename_i hc
        injection h with h
        subst h
        simp only [BE.den, CO.den, IE.den, beq_eq_false_iff_ne]
        exact other_den hk hc
      · exact look_den hk h
    · exact look_den hk h
  | .beq x y, b, h => look_den hk h
  | .ite c x y, b, h => by
    simp only [known] at h
    split at h
    · rename_i hc
      simp only [BE.den, known_den hk hc, cond_true]
      exact known_den hk h
    · rename_i hc
      simp only [BE.den, known_den hk hc, cond_false]
      exact known_den hk h
    · exact look_den hk h
  | .fn n x y z u, b, h => look_den hk h
/-! ### trees -/
inductive Tr where
  | leaf (t : Nat) (b : BE) (l : List SV)
  | node (e : BE) (x y : Tr)
def Tr.sat (ρ : Env) (R : Nat → Bool → List Value → Prop) : Tr → Prop
  | .leaf t b l => R t (b.den ρ) (l.map (SV.den ρ))
  | .node e x y => match e.den ρ with
    | true => x.sat ρ R
    | false => y.sat ρ R
/-- The truth that a tree comes to. -/
def Tr.bval (ρ : Env) : Tr → Bool
  | .leaf _ b _ => b.den ρ
  | .node e x y => cond (e.den ρ) (x.bval ρ) (y.bval ρ)
theorem Tr.sat_bval (ρ : Env) : ∀ T : Tr, T.sat ρ fun _ b _ => b = T.bval ρ
  | .leaf _ b _ => rfl
  | .node e x y => by
    simp only [Tr.sat, Tr.bval]
    cases e.den ρ with
    | true => exact Tr.sat_bval ρ x
    | false => exact Tr.sat_bval ρ y
structure Alike (ρ σ : Env) : Prop where
  iv : ρ.iv = σ.iv
  bv : ρ.bv = σ.bv
  sv : ∀ n, (ρ.sv.getD n (none, 0, 0)).2.1 = (σ.sv.getD n (none, 0, 0)).2.1
  fn : ρ.fn = σ.fn
  fi : ρ.fi = σ.fi
  fi2 : ρ.fi2 = σ.fi2
theorem IE.den_alike {ρ σ : Env} (h : Alike ρ σ) : ∀ e : IE, e.den ρ = e.den σ
  | .v n => by simp only [IE.den, h.iv]
  | .lit z => rfl
  | .len n => by simp only [IE.den, h.sv]
  | .f n x => by simp only [IE.den, h.fi, IE.den_alike h x]
  | .f2 n x y => by simp only [IE.den, h.fi2, IE.den_alike h x, IE.den_alike h y]
theorem BE.den_alike {ρ σ : Env} (h : Alike ρ σ) : ∀ e : BE, e.den ρ = e.den σ
  | .lit b => rfl
  | .v n => by simp only [BE.den, h.bv]
  | .cmp o x y => by simp only [BE.den, IE.den_alike h]
  | .not e => by simp only [BE.den, BE.den_alike h e]
  | .beq x y => by simp only [BE.den, BE.den_alike h x, BE.den_alike h y]
  | .ite c x y => by simp only [BE.den, BE.den_alike h c, BE.den_alike h x, BE.den_alike h y]
  | .fn n x y z u => by simp only [BE.den, h.fn, IE.den_alike h]
theorem Tr.bval_alike {ρ σ : Env} (h : Alike ρ σ) : ∀ T : Tr, T.bval ρ = T.bval σ
  | .leaf _ b _ => BE.den_alike h b
  | .node e x y => by simp only [Tr.bval, BE.den_alike h e, Tr.bval_alike h x, Tr.bval_alike h y]
def dec1 (kn : Kn) (e : BE) (k : Bool → Kn → Option Tr) : Option Tr :=
  match known kn e with
  | some b => k b kn
  | none => match k true ((e, true) :: kn), k false ((e, false) :: kn) with
    | some x, some y => some (.node e x y)
    | _, _ => none
def dec (kn : Kn) : BE → (Bool → Kn → Option Tr) → Option Tr
  | .not e, k => dec kn e (fun b kn' => k (!b) kn')
  | e, k => dec1 kn e k
theorem dec1_sound {ρ : Env} {R : Nat → Bool → List Value → Prop} {kn : Kn} {e : BE} {k : Bool → Kn → Option Tr} {T : Tr} (h : dec1 kn e k = some T) (hs : T.sat ρ R) (hk : KnOk ρ kn) :
    ∃ kn' T', k (e.den ρ) kn' = some T' ∧ T'.sat ρ R ∧ KnOk ρ kn' := by
  unfold dec1 at h
  cases hq : known kn e with
  | some b =>
    rw [hq] at h
    rw [known_den hk hq]
    exact ⟨kn, T, h, hs, hk⟩
  | none =>
    rw [hq] at h
    simp only at h
    cases hx : k true ((e, true) :: kn) with
    | none => rw [hx] at h; cases h
    | some x =>
      cases hy : k false ((e, false) :: kn) with
      | none => rw [hx, hy] at h; cases h
      | some y =>
        rw [hx, hy] at h
        injection h with h
        subst h
        simp only [Tr.sat] at hs
        cases hb : e.den ρ with
        | true =>
          rw [hb] at hs
          exact ⟨_, x, hx, hs, fun p hp => by
            rcases List.mem_cons.1 hp with rfl | hp
            · exact hb
            · exact hk p hp⟩
        | false =>
          rw [hb] at hs
          exact ⟨_, y, hy, hs, fun p hp => by
            rcases List.mem_cons.1 hp with rfl | hp
            · exact hb
            · exact hk p hp⟩
theorem dec_sound {ρ : Env} {R : Nat → Bool → List Value → Prop} {kn : Kn} {T : Tr} {e : BE} {k : Bool → Kn → Option Tr} (h : dec kn e k = some T) (hs : T.sat ρ R) (hk : KnOk ρ kn) : ∃ kn' T', k (e.den ρ) kn' = some T' ∧ T'.sat ρ R ∧ KnOk ρ kn' := by
  induction e generalizing k with
  | not e ih =>
    simp only [dec] at h
    exact ih h
  | _ => exact dec1_sound h hs hk
/-! ### the tables -/
structure Tab where
  fields : List (TypeId × Nat × Nat)
  one : List TypeId
  many : List (TypeId × Nat)
  lens : List TypeId
  bools : List TypeId
  sum : FuncId → List SV → Option SV
  mem : List (List CV)
  boxes : List TypeId
structure Tab.Ok (P : Program) (ρ : Env) (C : World → Prop) (M : Tab) : Prop where
  fields : ∀ q ∈ M.fields, ∀ (w : World) (g off : Nat), (Instr.fieldAt q.1 (.pointer (some ⟨g, off, none⟩)) q.2.1).run P w = .ok (.pointer (some ⟨g, off + q.2.2, none⟩)) w
  one : ∀ t ∈ M.one, ∀ w : World, (isAgg t).run P w = .ok false w
  many : ∀ q ∈ M.many, ∀ w : World, (isAgg q.1).run P w = .ok true w ∧ (sizeOf q.1).run P w = .ok q.2 w
  lens : ∀ t ∈ M.lens, ∀ (w : World) (ty : TypeId) (A : Option Addr) (n c : Nat), (Builtin.len_ #[t] ty #[.slice A n c]).run P w = .ok (.int .i64 n) w
  bools : ∀ t ∈ M.bools, ∀ (w : World) (p q : Bool), (Op.equal t (.bool p) (.bool q)).run P w = .ok (p == q) w
  sum : ∀ f as v, M.sum f as = some v → ∀ w, C w → (callFunc f (as.map (SV.den ρ)).toArray).run P w = .ok (.enter f (as.map (SV.den ρ)).toArray) w ∧ Calls P f (as.map (SV.den ρ)).toArray w (fun e w' => e = .returned (v.den ρ) ∧ C w')
  mem : ∀ w, C w → ∀ (k : Nat) (cs : List CV), M.mem[k]? = some cs → ∀ (j : Nat) (c : CV), cs[j]? = some c → w.cell? ⟨ρ.bk k, j, none⟩ = some (c.den ρ)
def opnd (s : List SV) : Operand → Option SV
  | .tmp t => s[t]?
  | .const (.int .i64 z) => some (.i (.lit z))
  | .const (.bool b) => some (.b (.lit b))
  | _ => none
def opnds (s : List SV) : List Operand → Option (List SV)
  | [] => some []
  | x :: r => match opnd s x, opnds s r with
    | some v, some l => some (v :: l)
    | _, _ => none
def coOf : BinOp → Option CO
  | .eql => some .eq
  | .neq => some .ne
  | .lss => some .lt
  | .leq => some .le
  | .gtr => some .gt
  | .geq => some .ge
  | _ => none
def find2 (t i : Nat) : List (TypeId × Nat × Nat) → Option Nat
  | [] => none
  | q :: r => if q.1 == t && q.2.1 == i then some q.2.2 else find2 t i r
def find1 (t : Nat) : List (TypeId × Nat) → Option Nat
  | [] => none
  | q :: r => if q.1 == t then some q.2 else find1 t r
def fieldE (M : Tab) (t i : Nat) : Option SV → Option SV
  | some (.ptr k off) => match find2 t i M.fields with
    | some d => some (.ptr k (off + d))
    | none => none
  | _ => none
def loadE (M : Tab) (t : Nat) : Option SV → Option SV
  | some (.ptr k off) =>
    if M.one.contains t then match M.mem[k]? with
      | some cs => match cs[off]? with
        | some c => some c.up
        | none => none
      | none => none
    else match find1 t M.many with
      | some n => match M.mem[k]? with
        | some cs => if off + n ≤ cs.length then some (.agg ((cs.drop off).take n)) else none
        | none => none
      | none => none
  | _ => none
def binE (M : Tab) (o : BinOp) (t : Nat) : Option SV → Option SV → Option SV
  | some (.i x), some (.i y) => match coOf o with
    | some c => some (.b (.cmp c x y))
    | none => none
  | some (.b x), some (.b y) => match o with
    | .eql => if M.bools.contains t then some (.b (.beq x y)) else none
    | _ => none
  | _, _ => none
def notE : Option SV → Option SV
  | some (.b x) => some (.b (.not x))
  | _ => none
def extE (i : Nat) : Option SV → Option SV
  | some (.tup l) => match l[i]? with
    | some c => some c.up
    | none => none
  | _ => none
def callE (M : Tab) (s : List SV) (c : Call) : Option SV :=
  match c.callee with
  | .value (.func f) => match opnds s c.args.toList with
    | some as => M.sum f as
    | none => none
  | .builtin .len => match c.args.toList, c.argTypes.toList with
    | [x], [t] => if M.lens.contains t then match opnd s x with
      | some (.sl n) => some (.i (.len n))
      | _ => none
      else none
    | _, _ => none
  | _ => none
def evalOp (M : Tab) (s : List SV) : Op → Option SV
  | .move x => opnd s x
  | .assign x => opnd s x
  | .fieldAddr t x i => fieldE M t i (opnd s x)
  | .load t x => loadE M t (opnd s x)
  | .binOp o t x y _ => binE M o t (opnd s x) (opnd s y)
  | .unOp o _ x => match o with
    | .not => notE (opnd s x)
    | _ => none
  | .call c => callE M s c
  | .extract x i => extE i (opnd s x)
  | _ => none
def putE (s : List SV) : Option Tmp → SV → List SV
  | some d, v => s.set d v
  | none, _ => s
def stepE (M : Tab) (s : List SV) (kn : Kn) (o : Oper) (k : SV → Kn → Option Tr) : Option Tr :=
  match o.op with
  | .pick c x y => match opnd s c with
    | some (.b e) => dec kn e (fun b kn' => match opnd s (if b then x else y) with
      | some v => k v kn'
      | none => none)
    | _ => none
  | op => match evalOp M s op with
    | some v => k v kn
    | none => none
def evalOps (M : Tab) (ops : Array Oper) : List Oper → List SV → Kn → (List SV → Kn → Option Tr) → Option Tr
  | [], s, kn, k => k s kn
  | o :: rest, s, kn, k =>
    match o.guard with
    | none => stepE M s kn o (fun v kn' => evalOps M ops rest (putE s o.dst v) kn' k)
    | some (j, want) => match ((ops[j]?).bind (·.dst)).bind (s[·]?) with
      | some (.b e) => dec kn e (fun b kn' => if b == want then stepE M s kn' o (fun v kn'' => evalOps M ops rest (putE s o.dst v) kn'' k) else evalOps M ops rest (putE s o.dst .u) kn' k)
      | some .u => evalOps M ops rest (putE s o.dst .u) kn k
      | _ => none
inductive Ex where
  | normal | exit (id : Nat) | ret
def Ex.den : Ex → Exit
  | .normal => .normal
  | .exit id => .exit id
  | .ret => .ret
def evalC (M : Tab) : Code → List SV → Kn → (Ex → List SV → Kn → Option Tr) → Option Tr
  | .skip, s, kn, k => k .normal s kn
  | .region _ ops draw, s, kn, k => if !draw || Region.lexB .any ops then evalOps M ops ops.toList s kn (k .normal) else none
  | .seq x y, s, kn, k => evalC M x s kn (fun e s' kn' => match e with
    | .normal => evalC M y s' kn' k
    | e => k e s' kn')
  | .cond c x y, s, kn, k => match opnd s c with
    | some (.b e) => dec kn e (fun b kn' => if b then evalC M x s kn' k else evalC M y s kn' k)
    | _ => none
  | .block id c, s, kn, k => evalC M c s kn (fun e s' kn' => match e with
    | .exit j => if j = id then k .normal s' kn' else k (.exit j) s' kn'
    | e => k e s' kn')
  | .exit id, s, kn, k => k (.exit id) s kn
  | .ret, s, kn, k => k .ret s kn
  | _, _, _, _ => none
/-! ### it is so -/
structure Ok (ρ : Env) (D : List Deferred) (s : List SV) (a : Act) : Prop where
  tmps : a.tmps.toList = s.map (SV.den ρ)
  defers : a.defers = D
section
variable {P : Program} {ρ : Env} {D : List Deferred} {C : World → Prop} {M : Tab} {s : List SV} {a : Act} {R : Nat → Bool → List Value → Prop}
theorem Ok.slot (h : Ok ρ D s a) (t : Nat) : a.tmps[t]? = (s[t]?).map (SV.den ρ) := by
  rw [← Array.getElem?_toList, h.tmps, List.getElem?_map]
theorem opnd_den (h : Ok ρ D s a) {x : Operand} {v : SV} (hx : opnd s x = some v) : a.eval x = v.den ρ := by
  unfold opnd at hx
  split at hx
  · rename_i t
    have := h.slot t
    rw [hx] at this
    simp [Act.eval, Array.getD_eq_getD_getElem?, this]
  · injection hx with hx; subst hx; rfl
  · injection hx with hx; subst hx; rfl
  · cases hx
theorem opnds_den (h : Ok ρ D s a) : ∀ {l : List Operand} {vs : List SV}, opnds s l = some vs → l.map a.eval = vs.map (SV.den ρ)
  | [], vs, hx => by injection hx with hx; subst hx; rfl
  | x :: r, vs, hx => by
    simp only [opnds] at hx
    split at hx
    · rename_i v l' h1 h2
      injection hx with hx
      subst hx
      simp only [List.map_cons, opnd_den h h1, opnds_den h h2]
    · cases hx
theorem put_ok (h : Ok ρ D s a) (d : Option Tmp) (v : SV) : Ok ρ D (putE s d v) (a.put d (v.den ρ)) := by
  cases d with
  | none => exact h
  | some d => exact ⟨by simp [Act.put, putE, h.tmps, List.map_set], by simpa [Act.put] using h.defers⟩
theorem quiet_value {o : Oper} {w : World} {v : Value} (h : (execOp a.eval o).run P w = .ok (.value v) w) : o.quietAt P a C w v := by
  unfold Oper.quietAt
  rw [h]
  exact ⟨rfl, rfl⟩
theorem run_cmp {σ : Operand → Value} {w : World} {o : Oper} {op : BinOp} {t u : TypeId} {x y : Operand} {p q : Int} {c : CO} (h : o.op = .binOp op t x y u) (hx : σ x = .int .i64 p) (hy : σ y = .int .i64 q) (hc : coOf op = some c) :
    (execOp σ o).run P w = .ok (.value (.bool (c.den p q))) w := by
  cases op <;> simp [coOf] at hc <;> subst hc <;> simp [execOp, h, hx, hy, eqGuard, binOp, Op.intCmp, CO.den]
theorem run_beq {σ : Operand → Value} {w : World} {o : Oper} {t u : TypeId} {x y : Operand} {p q : Bool} (h : o.op = .binOp .eql t x y u) (hx : σ x = .bool p) (hy : σ y = .bool q) (he : (Op.equal t (.bool p) (.bool q)).run P w = .ok (p == q) w) :
    (execOp σ o).run P w = .ok (.value (.bool (p == q))) w := by
  simp [execOp, h, hx, hy, eqGuard, binOp, he, Result.andThen]
theorem run_not {σ : Operand → Value} {w : World} {o : Oper} {t : TypeId} {x : Operand} {p : Bool} (h : o.op = .unOp .not t x) (hx : σ x = .bool p) :
    (execOp σ o).run P w = .ok (.value (.bool (!p))) w := by
  simp [execOp, h, hx, go_sem]
theorem run_field {σ : Operand → Value} {w : World} {o : Oper} {t : TypeId} {x : Operand} {i d g off : Nat} (h : o.op = .fieldAddr t x i) (hx : σ x = .pointer (some ⟨g, off, none⟩))
    (he : (Instr.fieldAt t (.pointer (some ⟨g, off, none⟩)) i).run P w = .ok (.pointer (some ⟨g, off + d, none⟩)) w) : (execOp σ o).run P w = .ok (.value (.pointer (some ⟨g, off + d, none⟩))) w := by
  simp only [execOp, h, hx]
  simp [he, Result.andThen]
theorem run_load1 {σ : Operand → Value} {w : World} {o : Oper} {t : TypeId} {x : Operand} {g off : Nat} {v : Value} (h : o.op = .load t x) (hx : σ x = .pointer (some ⟨g, off, none⟩)) (he : (isAgg t).run P w = .ok false w) (hc : w.cell? ⟨g, off, none⟩ = some v) :
    (execOp σ o).run P w = .ok (.value v) w := by
  simp [execOp, h, hx, go_sem, he, hc, Result.andThen]
theorem run_loadN {σ : Operand → Value} {w : World} {o : Oper} {t : TypeId} {x : Operand} {g off : Nat} {cs : List Value} (h : o.op = .load t x) (hx : σ x = .pointer (some ⟨g, off, none⟩)) (he : (isAgg t).run P w = .ok true w) (hn : (sizeOf t).run P w = .ok cs.length w)
    (hc : ∀ j v, cs[j]? = some v → w.cell? ⟨g, off + j, none⟩ = some v) : (execOp σ o).run P w = .ok (.value (.agg cs.toArray)) w := by
  have hl : (loadCellsFrom ⟨g, off, none⟩ 0 cs.length #[]).run P w = .ok cs.toArray w := by
    have := run_loadCells_list (P := P) w ⟨g, off, none⟩ cs (fun j v hj => by
      have e1 : (⟨g, off, none⟩ : Addr).add j = ⟨g, off + j, none⟩ := by unfold Addr.add; split <;> simp_all
      rw [e1]; exact hc j v hj)
    simpa [loadCells] using this
  simp [execOp, h, hx, go_sem, he, hn, hl, Result.andThen]
theorem run_len {σ : Operand → Value} {w : World} {o : Oper} {x : Operand} {t : TypeId} {A : Option Addr} {n c : Nat} (h : o.op = .call { callee := .builtin .len, args := #[x], argTypes := #[t] }) (hx : σ x = .slice A n c)
    (he : (Builtin.len_ #[t] o.type #[.slice A n c]).run P w = .ok (.int .i64 n) w) : (execOp σ o).run P w = .ok (.value (.int .i64 n)) w := by
  simp [execOp, h, hx, go_sem, resolve, invoke, builtin, he, Result.andThen]
theorem run_ext {σ : Operand → Value} {w : World} {o : Oper} {x : Operand} {i : Nat} {cs : Array Value} {v : Value} (h : o.op = .extract x i) (hx : σ x = .tuple cs) (hv : cs[i]? = some v) : (execOp σ o).run P w = .ok (.value v) w := by
  simp [execOp, h, hx, go_sem, hv]
theorem run_pick {σ : Operand → Value} {w : World} {o : Oper} {c x y : Operand} {b : Bool} (h : o.op = .pick c x y) (hc : σ c = .bool b) : (execOp σ o).run P w = .ok (.value (if b then σ x else σ y)) w := by
  simp [execOp, h, hc, asBool]
theorem find2_mem {t i d : Nat} : ∀ {l : List (TypeId × Nat × Nat)}, find2 t i l = some d → (t, i, d) ∈ l
  | [], h => by cases h
  | q :: r, h => by
    simp only [find2] at h
    split at h
    · rename_i hc
      simp only [Bool.and_eq_true, beq_iff_eq] at hc
      injection h with h
      have : q = (t, i, d) := by rw [← hc.1, ← hc.2, ← h]
      simp [this]
    · exact List.mem_cons_of_mem _ (find2_mem h)
theorem find1_mem {t d : Nat} : ∀ {l : List (TypeId × Nat)}, find1 t l = some d → (t, d) ∈ l
  | [], h => by cases h
  | q :: r, h => by
    simp only [find1] at h
    split at h
    · rename_i hc
      simp only [beq_iff_eq] at hc
      injection h with h
      have : q = (t, d) := by rw [← hc, ← h]
      simp [this]
    · exact List.mem_cons_of_mem _ (find1_mem h)
theorem evalOp_sound (hM : M.Ok P ρ C) (h : Ok ρ D s a) {o : Oper} {v : SV} (he : evalOp M s o.op = some v) {w : World} (hw : C w) : o.quietAt P a C w (v.den ρ) := by
  cases hop : o.op <;> rw [hop] at he <;> simp only [evalOp] at he <;> try (cases he; done)
  case move x =>
    rw [← opnd_den h he]
    exact quiet_value (by simp [execOp, hop])
  case assign x =>
    rw [← opnd_den h he]
    exact quiet_value (by simp [execOp, hop])
  case fieldAddr t x i =>
    unfold fieldE at he
    split at he
    · rename_i k off hx
      split at he
      · rename_i d hd
        injection he with he
        subst he
        exact quiet_value (run_field hop (opnd_den h hx) (hM.fields _ (find2_mem hd) w _ _))
      · cases he
    · cases he
  case load t x =>
    unfold loadE at he
    split at he
    · rename_i k off hx
      split at he
      · rename_i h1
        split at he
        · rename_i cs hcs
          split at he
          · rename_i c hc
            injection he with he
            subst he
            rw [CV.up_den]
            exact quiet_value (run_load1 hop (opnd_den h hx) (hM.one t (by simpa using h1) w) (hM.mem w hw k cs hcs off c hc))
          · cases he
        · cases he
      · split at he
        · rename_i n hn
          split at he
          · rename_i cs hcs
            split at he
            · rename_i hle
              injection he with he
              subst he
              have hl : (((cs.drop off).take n).map (CV.den ρ)).length = n := by simp; omega
              obtain ⟨m1, m2⟩ := hM.many _ (find1_mem hn) w
              refine quiet_value (run_loadN hop (opnd_den h hx) m1 (by rw [hl]; exact m2) (fun j u hj => ?_))
              rw [List.getElem?_map, Option.map_eq_some_iff] at hj
              obtain ⟨c, hc, rfl⟩ := hj
              have hj2 : j < n := by have := (List.getElem?_eq_some_iff.1 hc).1; simp at this; omega
              rw [List.getElem?_take_of_lt hj2, List.getElem?_drop] at hc
              exact hM.mem w hw k cs hcs (off + j) c hc
            · cases he
          · cases he
        · cases he
    · cases he
  case binOp op t x y u =>
    unfold binE at he
    split at he
    · rename_i p q hx hy
      split at he
      · rename_i c hc
        injection he with he
        subst he
        exact quiet_value (run_cmp hop (opnd_den h hx) (opnd_den h hy) hc)
      · cases he
    · rename_i p q hx hy
      split at he
      · split at he
        · rename_i hb
          injection he with he
          subst he
          exact quiet_value (run_beq hop (opnd_den h hx) (opnd_den h hy) (hM.bools t (by simpa using hb) w _ _))
        · cases he
      · cases he
    · cases he
  case unOp op t x =>
    split at he
    · unfold notE at he
      split at he
      · rename_i p hx
        injection he with he
        subst he
        exact quiet_value (run_not hop (opnd_den h hx))
      · cases he
    · cases he
  case extract x i =>
    unfold extE at he
    split at he
    · rename_i l hx
      split at he
      · rename_i c hc
        injection he with he
        subst he
        rw [CV.up_den]
        exact quiet_value (run_ext hop (opnd_den h hx) (by simp [hc]))
      · cases he
    · cases he
  case call c =>
    unfold callE at he
    split at he
    · rename_i f hf
      split at he
      · rename_i as has
        obtain ⟨h1, h2⟩ := hM.sum f as v he w hw
        have hargs : c.args.map a.eval = (as.map (SV.den ρ)).toArray := by
          rw [← opnds_den h has]
          apply Array.ext'
          simp
        have hrun : (execOp a.eval o).run P w = .ok (.enter f (as.map (SV.den ρ)).toArray) w := by
          obtain ⟨c1, c2, c3⟩ := c
          simp only at hf hargs
          unfold execOp
          simp [hop, resolve, hf, Deferred.ofValue, invoke, Act.eval]
          have : c2.map (fun x => a.eval x) = (as.map (SV.den ρ)).toArray := hargs
          first
          | (rw [show (Array.map (fun x => match x with | Operand.tmp t => a.tmps.getD t undef | Operand.const v => v | Operand.global g => Value.pointer (some ⟨g, 0, none⟩) | Operand.func f => Value.func (Fn.func f) #[] #[]) c2) = (as.map (SV.den ρ)).toArray from this]; exact h1)
          | (rw [this]; exact h1)
          | simp [hargs, h1]
        unfold Oper.quietAt
        rw [hrun]
        exact ⟨rfl, h2⟩
      · cases he
    · rename_i hf
      split at he
      · rename_i x t hx ht
        split at he
        · rename_i hl
          split at he
          · rename_i n hn
            injection he with he
            subst he
            obtain ⟨c1, c2, c3⟩ := c
            simp only at hf hx ht
            subst hf
            obtain rfl : c2 = #[x] := Array.ext' (by simpa using hx)
            obtain rfl : c3 = #[t] := Array.ext' (by simpa using ht)
            exact quiet_value (run_len hop (opnd_den h hn) (hM.lens t (by simpa using hl) w _ _ _ _))
          · cases he
        · cases he
      · cases he
    · cases he
theorem stepE_sound (hM : M.Ok P ρ C) (h : Ok ρ D s a) {kn : Kn} (hk : KnOk ρ kn) {o : Oper} {k : SV → Kn → Option Tr} {T : Tr} (he : stepE M s kn o k = some T) (hs : T.sat ρ R) {K : Act → Prop}
    (hK : ∀ v kn' T', k v kn' = some T' → T'.sat ρ R → KnOk ρ kn' → K (a.put o.dst (v.den ρ))) : o.quiet P a C K := by
  unfold stepE at he
  split at he
  · rename_i c x y hop
    split at he
    · rename_i e hc
      obtain ⟨kn', T', h1, h2, h3⟩ := dec_sound he hs hk
      split at h1
      · rename_i v hv
        refine ⟨v.den ρ, fun w hw => quiet_value ?_, hK v kn' T' h1 h2 h3⟩
        rw [← opnd_den h hv, run_pick hop (opnd_den h hc)]
        cases e.den ρ <;> rfl
      · cases h1
    · cases he
  · split at he
    · rename_i v hv
      exact ⟨v.den ρ, fun w hw => evalOp_sound hM h hv hw, hK v kn T he hs hk⟩
    · cases he
theorem evalOps_sound (hM : M.Ok P ρ C) {ops : Array Oper} {Q : Act → Prop} : ∀ (l : List Oper) (s : List SV) (kn : Kn) (k : List SV → Kn → Option Tr) (T : Tr) (a : Act), evalOps M ops l s kn k = some T → T.sat ρ R → Ok ρ D s a → KnOk ρ kn →
    (∀ s' kn' T' a', k s' kn' = some T' → T'.sat ρ R → Ok ρ D s' a' → KnOk ρ kn' → Q a') → wpQuiet P ops C Q l a
  | [], s, kn, k, T, a, he, hs, h, hk, hQ => hQ s kn T a he hs h hk
  | o :: rest, s, kn, k, T, a, he, hs, h, hk, hQ => by
    simp only [evalOps] at he
    refine wpQuiet_step fun K hK => ?_
    cases hg : o.guard with
    | none =>
      rw [hg] at he
      rw [if_pos (by simp [Region.wanted, hg])]
      exact stepE_sound hM h hk he hs (fun v kn' T' h1 h2 h3 => hK _ (evalOps_sound hM rest _ kn' k T' _ h1 h2 (put_ok h o.dst v) h3 hQ))
    | some g =>
      obtain ⟨j, want⟩ := g
      rw [hg] at he
      simp only at he
      have hy : yielded ops a.tmps j = match ((ops[j]?).bind (·.dst)).bind (s[·]?) with
        | some v => (match v.den ρ with | .bool b => some b | _ => none)
        | none => none := by
        unfold yielded
        cases hd : (ops[j]?).bind (·.dst) with
        | none => rfl
        | some d =>
          simp only [Option.bind_some, h.slot d]
          cases s[d]? with
          | none => rfl
          | some v => simp only [Option.map_some]; cases SV.den ρ v <;> rfl
      split at he
      · rename_i e hq
        rw [hq] at hy
        simp only [SV.den] at hy
        obtain ⟨kn', T', h1, h2, h3⟩ := dec_sound he hs hk
        by_cases hb : e.den ρ = want
        · rw [if_pos (by simp [hb])] at h1
          rw [if_pos (by simp [Region.wanted, hg, hy, hb])]
          exact stepE_sound hM h h3 h1 h2 (fun v kn'' T'' g1 g2 g3 => hK _ (evalOps_sound hM rest _ kn'' k T'' _ g1 g2 (put_ok h o.dst v) g3 hQ))
        · rw [if_neg (by simp [hb])] at h1
          rw [if_neg (by simp [Region.wanted, hg, hy, hb])]
          exact hK _ (evalOps_sound hM rest _ kn' k T' _ h1 h2 (put_ok h o.dst .u) h3 hQ)
      · rename_i hq
        rw [hq] at hy
        have hy2 : yielded ops a.tmps j = none := by rw [hy]; rfl
        rw [if_neg (by simp [Region.wanted, hg, hy2])]
        exact hK _ (evalOps_sound hM rest _ kn k T _ he hs (put_ok h o.dst .u) hk hQ)
      · cases he
theorem wpList_of_quiet {ops : Array Oper} {Q' : Act → Prop} {Q : Exit → Act → World → Prop} (hQ : ∀ a w, C w → Q' a → Q .normal a w) : ∀ (l : List Oper) (a : Act) (w : World), C w → wpQuiet P ops C Q' l a → wpList P ops Q l a w
  | [], a, w, hw, h => hQ a w hw h
  | o :: rest, a, w, hw, h => by
    refine wpList_step fun K hK => ?_
    simp only [wpQuiet] at h
    split
    · rename_i hc
      rw [if_pos hc] at h
      exact Oper.wp_of_quiet hw (fun a' w' hw' h' => hK a' w' (wpList_of_quiet hQ rest a' w' hw' h')) h
    · rename_i hc
      rw [if_neg hc] at h
      exact hK _ _ (wpList_of_quiet hQ rest _ w hw h)
/-- THE CODE DOES WHAT ITS TREE SAYS. -/
theorem evalC_sound (hP : P.follows .mixedOrders = true) (hM : M.Ok P ρ C) (hdr : ∀ w, C w → C { w with drawn := w.drawn + 1 }) : ∀ (c : Code) (s : List SV) (kn : Kn) (k : Ex → List SV → Kn → Option Tr) (T : Tr) (a : Act) (w : World) (Q : Exit → Act → World → Prop), evalC M c s kn k = some T → T.sat ρ R → Ok ρ D s a → KnOk ρ kn → C w →
    (∀ e s' kn' T' a' w', k e s' kn' = some T' → T'.sat ρ R → Ok ρ D s' a' → KnOk ρ kn' → C w' → Q e.den a' w') → c.wp P Q a w := by
  intro c
  induction c with
  | skip => intro s kn k T a w Q he hs h hk hw hQ; exact wp_skip (hQ .normal s kn T a w he hs h hk hw)
  | exit id => intro s kn k T a w Q he hs h hk hw hQ; exact wp_exit (hQ (.exit id) s kn T a w he hs h hk hw)
  | ret => intro s kn k T a w Q he hs h hk hw hQ; exact wp_ret (hQ .ret s kn T a w he hs h hk hw)
  | region id ops draw =>
    intro s kn k T a w Q he hs h hk hw hQ
    simp only [evalC] at he
    split at he
    · rename_i hc
      have hq := evalOps_sound (Q := fun a' => ∀ w', C w' → Q .normal a' w') hM ops.toList s kn _ T a he hs h hk (fun s' kn' T' a' h1 h2 h3 h4 w' hw' => hQ .normal s' kn' T' a' w' h1 h2 h3 h4 hw')
      cases draw with
      | true => exact wp_region_quiet hP (by simpa using hc) (hdr w hw) hq
      | false => exact wp_region_list (wpList_of_quiet (fun a' w' hw' h' => h' w' hw') _ a w hw hq)
    · cases he
  | seq x y ihx ihy =>
    intro s kn k T a w Q he hs h hk hw hQ
    simp only [evalC] at he
    refine wp_seq (ihx s kn _ T a w _ he hs h hk hw fun e s' kn' T' a' w' h1 h2 h3 h4 h5 => ?_)
    cases e with
    | normal => exact ihy s' kn' k T' a' w' Q h1 h2 h3 h4 h5 hQ
    | exit id => exact hQ (.exit id) s' kn' T' a' w' h1 h2 h3 h4 h5
    | ret => exact hQ .ret s' kn' T' a' w' h1 h2 h3 h4 h5
  | cond c x y ihx ihy =>
    intro s kn k T a w Q he hs h hk hw hQ
    simp only [evalC] at he
    split at he
    · rename_i e hc
      obtain ⟨kn', T', h1, h2, h3⟩ := dec_sound he hs hk
      refine wp_cond (t := e.den ρ) (opnd_den h hc) ?_
      cases hb : e.den ρ with
      | true => rw [hb] at h1; exact ihx s kn' k T' a w Q h1 h2 h h3 hw hQ
      | false => rw [hb] at h1; exact ihy s kn' k T' a w Q h1 h2 h h3 hw hQ
    · cases he
  | block id c ih =>
    intro s kn k T a w Q he hs h hk hw hQ
    simp only [evalC] at he
    refine wp_block (ih s kn _ T a w _ he hs h hk hw fun e s' kn' T' a' w' h1 h2 h3 h4 h5 => ?_)
    cases e with
    | normal => exact hQ .normal s' kn' T' a' w' h1 h2 h3 h4 h5
    | exit j =>
      simp only [Ex.den, Exit.inBlock]
      simp only at h1
      split at h1
      · rename_i hj; rw [if_pos hj]; exact hQ .normal s' kn' T' a' w' h1 h2 h3 h4 h5
      · rename_i hj; rw [if_neg hj]; exact hQ (.exit j) s' kn' T' a' w' h1 h2 h3 h4 h5
    | ret => exact hQ .ret s' kn' T' a' w' h1 h2 h3 h4 h5
  | _ => intro s kn k T a w Q he; simp [evalC] at he

/-! ### whole functions: what is boxed at the beginning, then code of this kind -/
/-- What a table says of the program alone. -/
structure Tab.Static (P : Program) (M : Tab) : Prop where
  fields : ∀ q ∈ M.fields, ∀ (w : World) (g off : Nat), (Instr.fieldAt q.1 (.pointer (some ⟨g, off, none⟩)) q.2.1).run P w = .ok (.pointer (some ⟨g, off + q.2.2, none⟩)) w
  one : ∀ t ∈ M.one, ∀ w : World, (isAgg t).run P w = .ok false w
  many : ∀ q ∈ M.many, ∀ w : World, (isAgg q.1).run P w = .ok true w ∧ (sizeOf q.1).run P w = .ok q.2 w
  lens : ∀ t ∈ M.lens, ∀ (w : World) (ty : TypeId) (A : Option Addr) (n c : Nat), (Builtin.len_ #[t] ty #[.slice A n c]).run P w = .ok (.int .i64 n) w
  bools : ∀ t ∈ M.bools, ∀ (w : World) (p q : Bool), (Op.equal t (.bool p) (.bool q)).run P w = .ok (p == q) w
  boxes : ∀ t ∈ M.boxes, ∀ (w : World) (cs : Array Value), (Instr.box t (.agg cs)).run P w = .ok (.pointer (some ⟨w.heap.size, 0, none⟩)) (w.alloc (.cells cs t (0, 0)))
/-- What is known of the functions that are called. -/
def Tab.Sums (P : Program) (ρ : Env) (G : World → Prop) (M : Tab) : Prop := ∀ f as v, M.sum f as = some v → ∀ w, G w → (callFunc f (as.map (SV.den ρ)).toArray).run P w = .ok (.enter f (as.map (SV.den ρ)).toArray) w ∧ Calls P f (as.map (SV.den ρ)).toArray w (fun e w' => e = .returned (v.den ρ) ∧ Below w.heap.size w w')
def Holds (ρ : Env) (m : List (List CV)) (w : World) : Prop := ∀ (k : Nat) (cs : List CV), m[k]? = some cs → ∀ (j : Nat) (c : CV), cs[j]? = some c → w.cell? ⟨ρ.bk k, j, none⟩ = some (c.den ρ)
def proE (M : Tab) : List Oper → List SV → List (List CV) → Option (List SV × List (List CV))
  | [], s, m => some (s, m)
  | o :: r, s, m => match o.guard with
    | some _ => none
    | none => match o.op with
      | .box t x => match opnd s x with
        | some (.agg cs) => if M.boxes.contains t then proE M r (putE s o.dst (.ptr m.length 0)) (m ++ [cs]) else none
        | _ => none
      | .assign x => match opnd s x with
        | some v => proE M r (putE s o.dst v) m
        | none => none
      | _ => none
theorem proE_sound (hM : M.Static P) {ops : Array Oper} {Q : Exit → Act → World → Prop} {b : Nat} (hb : ρ.bk = fun k => b + k) : ∀ (l : List Oper) (s s' : List SV) (m m' : List (List CV)) (a : Act) (w : World), proE M l s m = some (s', m') → Ok ρ D s a → w.heap.size = b + m.length → Holds ρ m w →
    (∀ a' w', Ok ρ D s' a' → Holds ρ m' w' → Below w.heap.size w w' → Q .normal a' w') → wpList P ops Q l a w
  | [], s, s', m, m', a, w, he, h, hs, hm, hQ => by
    simp only [proE, Option.some.injEq, Prod.mk.injEq] at he
    obtain ⟨rfl, rfl⟩ := he
    exact hQ a w h hm (Below.refl _ _)
  | o :: r, s, s', m, m', a, w, he, h, hs, hm, hQ => by
    simp only [proE] at he
    cases hg : o.guard with
    | some g => rw [hg] at he; cases he
    | none =>
      rw [hg] at he
      refine wpList_plain hg fun K hK => ?_
      simp only at he
      split at he
      · rename_i t x hop
        split at he
        · rename_i cs hx
          split at he
          · rename_i hc
            have hbox := hM.boxes t (by simpa using hc) w (cs.map (CV.den ρ)).toArray
            have hrun : (execOp a.eval o).run P w = .ok (.value (.pointer (some ⟨w.heap.size, 0, none⟩))) (w.alloc (.cells (cs.map (CV.den ρ)).toArray t (0, 0))) := by
              simp only [execOp, hop, opnd_den h hx, SV.den]
              simp [hbox, Result.andThen]
            have hptr : Value.pointer (some ⟨w.heap.size, 0, none⟩) = (SV.ptr m.length 0).den ρ := by simp [SV.den, hb, hs]
            unfold Oper.wp
            rw [hrun]
            show K _ _
            rw [hptr]
            have hnew : (w.alloc (.cells (cs.map (CV.den ρ)).toArray t (0, 0))).heap[w.heap.size]? = some (.cells (cs.map (CV.den ρ)).toArray t (0, 0)) := blk_new w _
            have hsz : (w.alloc (.cells (cs.map (CV.den ρ)).toArray t (0, 0))).heap.size = w.heap.size + 1 := Array.size_push _
            have hbel : Below w.heap.size w (w.alloc (.cells (cs.map (CV.den ρ)).toArray t (0, 0))) := (Below.refl _ _).alloc (Nat.le_refl _) _
            refine hK _ _ (proE_sound hM hb r _ s' _ m' _ _ he (put_ok h _ _) (by rw [hsz, hs, List.length_append]; simp; omega) (fun k ds hk j c hj => ?_) (fun a' w' h1 h2 h3 => hQ a' w' h1 h2 (hbel.trans (h3.mono (by rw [hsz]; omega)))))
            by_cases hkm : k < m.length
            · rw [List.getElem?_append_left hkm] at hk
              have h0 := hm k ds hk j c hj
              exact (hbel.cell (p := ⟨ρ.bk k, j, none⟩) (World.block_lt_of_cell? w _ h0)).trans h0
            · have hk2 : k = m.length := by
                have := (List.getElem?_eq_some_iff.1 hk).1
                simp at this
                omega
              subst hk2
              have : ds = cs := by simpa using hk.symm
              subst this
              have e1 : ρ.bk m.length = w.heap.size := by rw [hb, hs]
              rw [e1]
              unfold World.cell?
              rw [hnew]
              simp [hj]
          · cases he
        · cases he
      · rename_i x hop
        split at he
        · rename_i v hx
          have hrun : (execOp a.eval o).run P w = .ok (.value (v.den ρ)) w := by simp [execOp, hop, opnd_den h hx]
          unfold Oper.wp
          rw [hrun]
          exact hK _ _ (proE_sound hM hb r _ s' _ m' _ _ he (put_ok h _ _) hs hm hQ)
        · cases he
      · cases he
/-- The code ends with this slot's truth. -/
def retB (t : Nat) : Ex → List SV → Kn → Option Tr
  | .ret, s, kn => match s[t]? with
    | some (.b e) => some (match known kn e with | some b => .leaf 0 (.lit b) [] | none => .leaf 0 e [])
    | _ => none
  | _, _, _ => none
/-- A function that boxes its arguments, goes through code of this kind, and returns a truth. -/
theorem fn_bool {f : FuncId} {fn : Func} {id : Nat} {ops : Array Oper} {rest : Code} {t : Nat} {ps s1 : List SV} {m1 : List (List CV)} {T : Tr} {r : Bool} {w : World} {G : World → Prop} (hP : P.follows .mixedOrders = true) (hf : P.funcs[f]? = some fn) (hb : fn.body = some (.seq (.region id ops false) rest)) (hr : fn.results = #[.tmp t])
    (hM : M.Static P) (hbk : ρ.bk = fun k => w.heap.size + k) (hS : M.Sums P ρ G) (hG : ∀ W, Below w.heap.size w W → G W)
    (h0 : proE M ops.toList (ps ++ List.replicate (fn.ntmps - ps.length) .u) [] = some (s1, m1)) (h1 : evalC { M with mem := m1 } rest s1 [] (retB t) = some T) (hT : T.sat ρ fun _ b _ => b = r) :
    Calls P f (ps.map (SV.den ρ)).toArray w fun e w' => e = .returned (.bool r) ∧ Below w.heap.size w w' := by
  refine calls_of_wp hf hb ?_
  refine wp_seq (wp_region_list ?_)
  refine proE_sound (D := []) hM hbk ops.toList _ s1 [] m1 _ w h0 ⟨?_, rfl⟩ (by simp) (by intro k cs hk; simp at hk) ?_
  · simp [SV.den]
  · intro a' w' hok hmem hbel
    show Code.wp P rest _ a' w'
    refine evalC_sound (M := { M with mem := m1 }) (C := fun W => Below w'.heap.size w' W) (R := fun _ b _ => b = r) hP ⟨hM.fields, hM.one, hM.many, hM.lens, hM.bools, fun f as v hv W hW => ?_, fun W hW k cs hk j c hj => ?_⟩ (fun W hW => ⟨hW.os, hW.tape, hW.output, hW.size, hW.block⟩) rest s1 [] (retB t) T a' w' _ h1 hT hok (fun p hp => by cases hp) (Below.refl _ _) ?_
    · obtain ⟨g1, g2⟩ := hS f as v hv W (hG W (hbel.trans (hW.mono hbel.size)))
      exact ⟨g1, g2.mono fun e W' ⟨e1, e2⟩ => ⟨e1, hW.trans (e2.mono hW.size)⟩⟩
    · have hc := hmem k cs hk j c hj
      exact (hW.cell (p := ⟨ρ.bk k, j, none⟩) (World.block_lt_of_cell? w' _ hc)).trans hc
    · intro e s' kn' T' a2 w2 hk hs h2 hkn hW
      unfold retB at hk
      split at hk
      · split at hk
        · rename_i be hbe
          have hval : be.den ρ = r := by
            injection hk with hk
            cases hq : known kn' be with
            | none => rw [hq] at hk; subst hk; exact hs
            | some b => rw [hq] at hk; subst hk; rw [known_den hkn hq]; exact hs
          refine ⟨h2.defers, .bool r, ?_, rfl, hbel.trans (hW.mono hbel.size)⟩
          have hsl := h2.slot t
          rw [hbe] at hsl
          simp [results, hr, Array.getD_eq_getD_getElem?, hsl, SV.den, hval]
        · cases hk
      · cases hk
/-- The tree of a whole function. -/
def treeB (M : Tab) (fn : Func) (ps : List SV) : Option Tr :=
  match fn.body, fn.results.toList with
  | some (.seq (.region _ ops false) rest), [.tmp t] => match proE M ops.toList (ps ++ List.replicate (fn.ntmps - ps.length) .u) [] with
    | some q => evalC { M with mem := q.2 } rest q.1 [] (retB t)
    | none => none
  | _, _ => none
theorem fn_tree {f : FuncId} {fn : Func} {ps : List SV} {T : Tr} {r : Bool} {w : World} {G : World → Prop} (hP : P.follows .mixedOrders = true) (hf : P.funcs[f]? = some fn) (h1 : treeB M fn ps = some T)
    (hM : M.Static P) (hbk : ρ.bk = fun k => w.heap.size + k) (hS : M.Sums P ρ G) (hG : ∀ W, Below w.heap.size w W → G W) (hT : T.sat ρ fun _ b _ => b = r) :
    Calls P f (ps.map (SV.den ρ)).toArray w fun e w' => e = .returned (.bool r) ∧ Below w.heap.size w w' := by
  unfold treeB at h1
  split at h1
  · rename_i id ops rest t hb hr
    split at h1
    · rename_i q hq
      exact fn_bool hP hf hb (Array.ext' (by simpa using hr)) hM hbk hS hG hq h1 hT
    · cases h1
  · cases h1
end
end Go.Proofs.YtoieemaheadjdaaDoor.Eval
