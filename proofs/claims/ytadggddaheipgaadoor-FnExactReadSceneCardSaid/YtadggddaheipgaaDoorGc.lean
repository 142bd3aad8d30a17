/- The calculus' rules for a function's begin and end, and for operations that compute. No condition. -/
import Derived.Test.YtadggddaheipgaaDoorGb
namespace Go.Proofs.YtadggddaheipgaaDoor
open Go Go.RowKit
namespace G

/-- The operation yields this value, and leaves the world as it was. -/
def OpV (P : Program) (N : Nat) (M : List Nat) (w0 : World) (ps : List (Nat × Value)) (es : List Ent) (o : Oper) (v : Value) : Prop :=
  ∀ a w, Sees N a ps → Own M w0 w es → (execOp a.eval o).run P w = .ok (.value v) w

def keepsA : List (Nat × Value) → Array Value → Prop
  | [], _ => True
  | (t, v) :: r, as => as[t]? = some v ∧ keepsA r as

theorem lk_of_keepsA {as : Array Value} : ∀ {qs : List (Nat × Value)}, keepsA qs as → ∀ t v, lk qs t = some v → as[t]? = some v
  | [], _, t, v, h => by simp [lk] at h
  | (s, u) :: r, hk, t, v, h => by
    rw [lk_cons] at h
    by_cases e : s = t
    · rw [if_pos e] at h; rw [← e, ← Option.some.inj h]; exact hk.1
    · rw [if_neg e] at h; exact lk_of_keepsA hk.2 t v h

def likesA : List (Nat × Value) → List Value → Option (List (Nat × Value))
  | [], _ => some []
  | (t, _) :: r, as => (as[t]?).bind fun v => (likesA r as).bind fun l => some ((t, v) :: l)

theorem keepsA_of_likesA {as : List Value} : ∀ {qs qs' : List (Nat × Value)}, likesA qs as = some qs' → keepsA qs' as.toArray
  | [], _, h => by simp only [likesA, Option.some.injEq] at h; subst h; trivial
  | (t, u) :: r, _, h => by
    simp only [likesA, Option.bind_eq_some_iff] at h
    obtain ⟨v, hv, l, hl, he⟩ := h
    simp only [Option.some.injEq] at he
    subst he
    exact ⟨by simpa using hv, keepsA_of_likesA hl⟩

/-! ### The pure side, step by step -/

section
variable {α β ρ : Type} {Z : α → Option ρ} {r : ρ} {B : Bool} {X Y : Option α}
theorem B.top {X : Option ρ} (h : X = some r) : X.bind some = some r := by rw [h]; rfl
theorem B.t (hB : B = true) (h : (bif B then X else Y).bind Z = some r) : X.bind Z = some r := by rw [hB] at h; exact h
theorem B.f (hB : B = false) (h : (bif B then X else Y).bind Z = some r) : Y.bind Z = some r := by rw [hB] at h; exact h
theorem B.chk (h : (bif B then X else none).bind Z = some r) : B = true ∧ X.bind Z = some r := by
  cases B with
  | true => exact ⟨rfl, h⟩
  | false => simp at h
theorem B.bind {W : Option β} {f : β → Option α} (h : (W.bind f).bind Z = some r) : ∃ x, W = some x ∧ (f x).bind Z = some r := by
  cases W with
  | none => simp at h
  | some x => exact ⟨x, rfl, h⟩
theorem B.lt {e : β} {f : β → Option α} (h : ((some e).bind f).bind Z = some r) : ∃ x, e = x ∧ (f x).bind Z = some r := ⟨e, rfl, h⟩
theorem B.s {x : α} (h : (some x).bind Z = some r) : Z x = some r := h
theorem B.e {x : ρ} (h : (some x).bind some = some r) : x = r := Option.some.inj h
theorem B.d {σ : Type} {rec : σ → Option ρ} {x : ρ} (h : (some (Step.done x)).bind (Step.run rec) = some r) : x = r := Option.some.inj h
theorem B.n {σ : Type} {rec : σ → Option ρ} {s : σ} (h : (some (Step.next s)).bind (Step.run rec) = some r) : rec s = some r := h
theorem B.inl {γ δ : Type} {F : γ → Option α} {G : δ → Option α} {o : γ ⊕ δ} {y : γ} (e : o = .inl y) (h : (Sum.elim F G o).bind Z = some r) : (F y).bind Z = some r := by subst e; exact h
theorem B.inr {γ δ : Type} {F : γ → Option α} {G : δ → Option α} {y : δ} (h : (Sum.elim F G (.inr y)).bind Z = some r) : (G y).bind Z = some r := h
theorem nz {n : Int} (h : (!(n == 0)) = true) : (n == 0) = false := by simpa using h
end

/-- Values of several operands. -/
def evs (ps : List (Nat × Value)) : List Operand → Option (List Value)
  | [] => some []
  | x :: r => (ev ps x).bind fun v => (evs ps r).bind fun vs => some (v :: vs)

theorem Sees.evals {N : Nat} {a : Act} {ps : List (Nat × Value)} (h : Sees N a ps) : ∀ {xs : List Operand} {vs : List Value}, evs ps xs = some vs → xs.map a.eval = vs
  | [], vs, hv => by simp [evs] at hv; simp [hv]
  | x :: r, vs, hv => by
    simp only [evs] at hv
    cases h1 : ev ps x with
    | none => rw [h1] at hv; simp at hv
    | some v =>
      rw [h1] at hv
      cases h2 : evs ps r with
      | none => rw [h2] at hv; simp at hv
      | some us =>
        rw [h2] at hv
        simp at hv
        rw [List.map_cons, h.eval h1, h.evals h2, hv]

section
variable {P : Program} {N : Nat} {M : List Nat} {w0 : World} {ps : List (Nat × Value)} {es : List Ent} {K : Act → World → Prop} {Q : Exit → Act → World → Prop}
  {ops : Array Oper} {o : Oper} {rest : List Oper}

/-! ### A function's begin and end -/

theorem calls_of_J {f : FuncId} {fn : Func} {c : Code} {args : List Value} {w : World} {R : Ending → World → Prop} (hf : P.funcs[f]? = some fn) (hb : fn.body = some c)
    (hN : fn.ntmps = N) (hsz : Nat.ble args.length N = true) (qs : List (Nat × Value)) (hq : likesA qs args = some qs) (H : Own M w w es) (h : J N M w qs es (c.wp P (bodyPost P fn R))) :
    Calls P f args.toArray w R := by
  refine calls_of_wp hf hb (h _ w ⟨?_, rfl, fun t v hv => ?_⟩ H)
  · have := Nat.le_of_ble_eq_true hsz
    simp [hN]; omega
  · have := lk_of_keepsA (keepsA_of_likesA hq) t v hv
    have hlt : t < args.length := by
      have := (Array.getElem?_eq_some_iff.1 this).1
      simpa using this
    simpa [Array.getElem?_append, hlt] using this

theorem results_one {fn : Func} {t : Tmp} (h : fn.results = #[.tmp t]) {a : Act} {v : Value} (hv : a.tmps[t]? = some v) (w : World) : (results fn a.tmps).run P w = .ok v w := by
  rw [results_tmp h]; simp [Array.getD_eq_getD_getElem?, hv]

theorem J.ret1 {fn : Func} {R : Ending → World → Prop} {t : Tmp} {v : Value} (h : fn.results = #[.tmp t]) (hv : lk ps t = some v) (hR : ∀ w, Own M w0 w es → R (.returned v) w) :
    J N M w0 ps es (bodyPost P fn R .ret) := fun _ w hs ho => ⟨hs.defs, v, results_one h (hs.has t v hv) w, hR w ho⟩

theorem J.ret2 {fn : Func} {R : Ending → World → Prop} {t u : Tmp} {v v' : Value} (h : fn.results = #[.tmp t, .tmp u]) (hv : lk ps t = some v) (hv' : lk ps u = some v')
    (hR : ∀ w, Own M w0 w es → R (.returned (.tuple #[v, v'])) w) : J N M w0 ps es (bodyPost P fn R .ret) := fun a w hs ho =>
  ⟨hs.defs, _, by simp [results, h, Array.getD_eq_getD_getElem?, hs.has t v hv, hs.has u v' hv'], hR w ho⟩

theorem J.ret3 {fn : Func} {R : Ending → World → Prop} {t u s : Tmp} {v v' v'' : Value} (h : fn.results = #[.tmp t, .tmp u, .tmp s]) (hv : lk ps t = some v) (hv' : lk ps u = some v') (hv'' : lk ps s = some v'')
    (hR : ∀ w, Own M w0 w es → R (.returned (.tuple #[v, v', v''])) w) : J N M w0 ps es (bodyPost P fn R .ret) := fun a w hs ho =>
  ⟨hs.defs, _, by simp [results, h, Array.getD_eq_getD_getElem?, hs.has t v hv, hs.has u v' hv', hs.has s v'' hv''], hR w ho⟩

theorem J.ret4 {fn : Func} {R : Ending → World → Prop} {t u s r : Tmp} {v v' v'' v3 : Value} (h : fn.results = #[.tmp t, .tmp u, .tmp s, .tmp r]) (hv : lk ps t = some v) (hv' : lk ps u = some v') (hv'' : lk ps s = some v'') (hv3 : lk ps r = some v3)
    (hR : ∀ w, Own M w0 w es → R (.returned (.tuple #[v, v', v'', v3])) w) : J N M w0 ps es (bodyPost P fn R .ret) := fun a w hs ho =>
  ⟨hs.defs, _, by simp [results, h, Array.getD_eq_getD_getElem?, hs.has t v hv, hs.has u v' hv', hs.has s v'' hv'', hs.has r v3 hv3], hR w ho⟩

theorem J.ret0 {fn : Func} {R : Ending → World → Prop} (h : fn.results = #[]) (hR : ∀ w, Own M w0 w es → R (.returned (.tuple #[])) w) :
    J N M w0 ps es (bodyPost P fn R .ret) := fun a w hs ho => ⟨hs.defs, _, by simp [results, h], hR w ho⟩
/-- The body's end is a return, too. -/
theorem J.fin {fn : Func} {R : Ending → World → Prop} (h : J N M w0 ps es (bodyPost P fn R .ret)) : J N M w0 ps es (bodyPost P fn R .normal) := h

/-! ### One operation -/

theorem blt_lt {a b : Nat} (h : Nat.blt a b = true) : a < b := by simpa using h


theorem J.op {d : Nat} {v : Value} (hg : o.guard = none) (hd : o.dst = some d) (hN : Nat.blt d N = true) (hv : OpV P N M w0 ps es o v) (h : J N M w0 ((d, v) :: ps) es (wpList P ops Q rest)) :
    J N M w0 ps es (wpList P ops Q (o :: rest)) := fun a w hs ho =>
  wpList_plain hg fun K hK => by
    unfold Oper.wp
    rw [hv a w hs ho, Oper.upon_value, hd]
    exact hK _ _ (h _ w (hs.put v (blt_lt hN)) ho)

theorem wanted_on {j : Nat} {b : Bool} {t : Nat} {a : Act} (hs : Sees N a ps) (hg : o.guard = some (j, b)) (ht : (ops[j]?).bind (·.dst) = some t) {c : Bool} (hc : lk ps t = some (.bool c)) :
    Region.wanted o (yielded ops a.tmps) = (c == b) := by
  simp only [Region.wanted, hg, yielded, ht, Option.bind_some, hs.has t _ hc]
  cases b <;> cases c <;> rfl

theorem wN (hg : o.guard = none) : ∀ a, Sees N a ps → Region.wanted o (yielded ops a.tmps) = true := fun a _ => by simp [Region.wanted, hg]
theorem wY {j t : Nat} {b : Bool} (hg : o.guard = some (j, b)) (ht : (ops[j]?).bind (·.dst) = some t) (hc : lk ps t = some (.bool b)) : ∀ a, Sees N a ps → Region.wanted o (yielded ops a.tmps) = true := fun a hs => by
  rw [wanted_on hs hg ht hc]; simp

theorem J.opOn {d : Nat} {v : Value} {j t : Nat} {b : Bool} (hg : o.guard = some (j, b)) (ht : (ops[j]?).bind (·.dst) = some t) (hc : lk ps t = some (.bool b)) (hd : o.dst = some d) (hN : Nat.blt d N = true) (hv : OpV P N M w0 ps es o v)
    (h : J N M w0 ((d, v) :: ps) es (wpList P ops Q rest)) : J N M w0 ps es (wpList P ops Q (o :: rest)) := fun a w hs ho =>
  wpList_step fun K hK => by
    rw [if_pos (by rw [wanted_on hs hg ht hc]; simp)]
    unfold Oper.wp
    rw [hv a w hs ho, Oper.upon_value, hd]
    exact hK _ _ (h _ w (hs.put v (blt_lt hN)) ho)

theorem J.opOff {d : Nat} {j t : Nat} {b c : Bool} (hg : o.guard = some (j, b)) (ht : (ops[j]?).bind (·.dst) = some t) (hc : lk ps t = some (.bool c)) (hne : (c == b) = false) (hd : o.dst = some d) (hN : Nat.blt d N = true)
    (h : J N M w0 ((d, undef) :: ps) es (wpList P ops Q rest)) : J N M w0 ps es (wpList P ops Q (o :: rest)) := fun a w hs ho =>
  wpList_step fun K hK => by
    rw [if_neg (by rw [wanted_on hs hg ht hc, hne]; simp), hd]
    exact hK _ _ (h _ w (hs.put undef (blt_lt hN)) ho)

theorem wanted_u {j : Nat} {b : Bool} {t : Nat} {a : Act} (hs : Sees N a ps) (hg : o.guard = some (j, b)) (ht : (ops[j]?).bind (·.dst) = some t) (hc : lk ps t = some undef) :
    Region.wanted o (yielded ops a.tmps) = false := by
  simp only [Region.wanted, hg, yielded, ht, Option.bind_some, hs.has t _ hc]
  rfl
theorem J.opOffU {d : Nat} {j t : Nat} {b : Bool} (hg : o.guard = some (j, b)) (ht : (ops[j]?).bind (·.dst) = some t) (hc : lk ps t = some undef) (hd : o.dst = some d) (hN : Nat.blt d N = true)
    (h : J N M w0 ((d, undef) :: ps) es (wpList P ops Q rest)) : J N M w0 ps es (wpList P ops Q (o :: rest)) := fun a w hs ho =>
  wpList_step fun K hK => by
    rw [if_neg (by rw [wanted_u hs hg ht hc]; simp), hd]
    exact hK _ _ (h _ w (hs.put undef (blt_lt hN)) ho)
theorem J.opOff0U {j t : Nat} {b : Bool} (hg : o.guard = some (j, b)) (ht : (ops[j]?).bind (·.dst) = some t) (hc : lk ps t = some undef) (hd : o.dst = none)
    (h : J N M w0 ps es (wpList P ops Q rest)) : J N M w0 ps es (wpList P ops Q (o :: rest)) := fun a w hs ho =>
  wpList_step fun K hK => by
    rw [if_neg (by rw [wanted_u hs hg ht hc]; simp), hd]
    exact hK _ _ (h _ w hs ho)

theorem J.opOff0 {j t : Nat} {b c : Bool} (hg : o.guard = some (j, b)) (ht : (ops[j]?).bind (·.dst) = some t) (hc : lk ps t = some (.bool c)) (hne : (c == b) = false) (hd : o.dst = none)
    (h : J N M w0 ps es (wpList P ops Q rest)) : J N M w0 ps es (wpList P ops Q (o :: rest)) := fun a w hs ho =>
  wpList_step fun K hK => by
    rw [if_neg (by rw [wanted_on hs hg ht hc, hne]; simp), hd]
    exact hK _ _ (h _ w hs ho)

/-- One value for another that it equals. -/
theorem J.val {d : Nat} {v v' : Value} (e : v = v') (h : J N M w0 ((d, v') :: ps) es K) : J N M w0 ((d, v) :: ps) es K := e ▸ h

/-! ### Operations that compute -/

theorem V.mv {x : Operand} {v : Value} (ho : o.op = .move x) (hx : ev ps x = some v) : OpV P N M w0 ps es o v := fun a w hs _ => by simp [execOp, ho, hs.eval hx]
theorem V.as {x : Operand} {v : Value} (ho : o.op = .assign x) (hx : ev ps x = some v) : OpV P N M w0 ps es o v := fun a w hs _ => by simp [execOp, ho, hs.eval hx]
theorem V.pk {c x y : Operand} {B : Bool} {u v : Value} (ho : o.op = .pick c x y) (hc : ev ps c = some (.bool B)) (hx : ev ps x = some u) (hy : ev ps y = some v) : OpV P N M w0 ps es o (bif B then u else v) := fun a w hs _ => by
  cases B <;> simp [execOp, ho, hs.eval hc, hs.eval hx, hs.eval hy, asBool]
theorem V.pkT {c x y : Operand} {u : Value} (ho : o.op = .pick c x y) (hc : ev ps c = some (.bool true)) (hx : ev ps x = some u) : OpV P N M w0 ps es o u := fun a w hs _ => by
  simp [execOp, ho, hs.eval hc, hs.eval hx, asBool]
theorem V.pkF {c x y : Operand} {u : Value} (ho : o.op = .pick c x y) (hc : ev ps c = some (.bool false)) (hy : ev ps y = some u) : OpV P N M w0 ps es o u := fun a w hs _ => by
  simp [execOp, ho, hs.eval hc, hs.eval hy, asBool]
theorem V.nt {T : TypeId} {x : Operand} {B : Bool} (ho : o.op = .unOp .not T x) (hx : ev ps x = some (.bool B)) : OpV P N M w0 ps es o (.bool !B) := fun a w hs _ => by simp [execOp, ho, hs.eval hx, Op.unary]
theorem V.ng {T : TypeId} {x : Operand} {k : IntKind} {m : Int} (ho : o.op = .unOp .neg T x) (hx : ev ps x = some (.int k m)) : OpV P N M w0 ps es o (.int k (k.wrap (0 - m))) := fun a w hs _ => by simp [execOp, ho, hs.eval hx, Op.unary, Op.intArith]
theorem V.cpl {T : TypeId} {x : Operand} {k : IntKind} {m : Int} (ho : o.op = .unOp .xor T x) (hx : ev ps x = some (.int k m)) : OpV P N M w0 ps es o (.int k (Go.bits .xor k (if k.signed then -1 else k.max) m)) := fun a w hs _ => by simp [execOp, ho, hs.eval hx, Op.unary, intBits_xor]
theorem V.ex {x : Operand} {vs : Array Value} {i : Nat} {v : Value} (ho : o.op = .extract x i) (hx : ev ps x = some (.tuple vs)) (hi : vs[i]? = some v) : OpV P N M w0 ps es o v := fun a w hs _ => by
  simp [execOp, ho, hs.eval hx, Instr.extract, hi]
theorem V.fn {f : Fn} {l : List Operand} {vs : List Value} (ho : o.op = .makeFunc f #[] l.toArray) (hx : evs ps l = some vs) : OpV P N M w0 ps es o (.func f #[] vs.toArray) := fun a w hs _ => by
  simp [execOp, ho, Instr.makeFunc, hs.evals hx]
theorem V.conv {S T : TypeId} {x : Operand} {k k' : IntKind} {m : Int} (ho : o.op = .convert S T x) (hx : ev ps x = some (.int k m)) (hS : P.underlying S = some (.int k)) (hT : P.underlying T = some (.int k')) :
    OpV P N M w0 ps es o (.int k' (k'.wrap m)) := fun a w hs _ => by simp [execOp, ho, hs.eval hx, convert, run_underlying hS, run_underlying hT, Conv.intToInt]

/-- arithmetic on two whole numbers -/
def arith : BinOp → IntKind → Int → Int → Option Int
  | .add, k, a, b => some (k.wrap (a + b))
  | .sub, k, a, b => some (k.wrap (a - b))
  | .mul, k, a, b => some (k.wrap (a * b))
  | .and, k, a, b => some (Go.bits .and k a b)
  | .or, k, a, b => some (Go.bits .or k a b)
  | .xor, k, a, b => some (Go.bits .xor k a b)
  | .andNot, k, a, b => some (Go.bits .andNot k a b)
  | _, _, _, _ => none

theorem V.ar {op : BinOp} {T T' : TypeId} {x y : Operand} {k : IntKind} {m n r : Int} (ho : o.op = .binOp op T x y T') (hx : ev ps x = some (.int k m)) (hy : ev ps y = some (.int k n)) (hr : arith op k m n = some r) :
    OpV P N M w0 ps es o (.int k r) := fun a w hs _ => by
  cases op <;> simp only [arith, Option.some.injEq, reduceCtorEq] at hr <;> subst hr <;>
    simp [execOp, ho, hs.eval hx, hs.eval hy, eqGuard, binOp, Op.intArith, intBits_and, intBits_or, intBits_xor, intBits_andNot]

theorem V.quo {T T' : TypeId} {x y : Operand} {k : IntKind} {m n : Int} (ho : o.op = .binOp .quo T x y T') (hx : ev ps x = some (.int k m)) (hy : ev ps y = some (.int k n)) (hn : (n == 0) = false) :
    OpV P N M w0 ps es o (.int k (k.wrap (m.tdiv n))) := fun a w hs _ => by
  have hn' : n ≠ 0 := by simpa using hn
  simp [execOp, ho, hs.eval hx, hs.eval hy, eqGuard, binOp, Op.intDiv, hn']
theorem V.rem {T T' : TypeId} {x y : Operand} {k : IntKind} {m n : Int} (ho : o.op = .binOp .rem T x y T') (hx : ev ps x = some (.int k m)) (hy : ev ps y = some (.int k n)) (hn : (n == 0) = false) :
    OpV P N M w0 ps es o (.int k (m.tmod n)) := fun a w hs _ => by
  have hn' : n ≠ 0 := by simpa using hn
  simp [execOp, ho, hs.eval hx, hs.eval hy, eqGuard, binOp, Op.intDiv, hn']
def shR (k : IntKind) (m n : Int) : Int := m.fdiv (2 ^ (min n.toNat k.bits))
def shL (k : IntKind) (m n : Int) : Int := k.wrap (m * 2 ^ (min n.toNat k.bits))
theorem V.shr {T T' : TypeId} {x y : Operand} {k k' : IntKind} {m n : Int} (ho : o.op = .binOp .shr T x y T') (hx : ev ps x = some (.int k m)) (hy : ev ps y = some (.int k' n)) (hn : decide (0 ≤ n) = true) :
    OpV P N M w0 ps es o (.int k (shR k m n)) := fun a w hs _ => by
  have hn' : ¬ n < 0 := by have := of_decide_eq_true hn; omega
  simp [execOp, ho, hs.eval hx, hs.eval hy, eqGuard, binOp, Op.shift, hn', shR]
theorem V.shl {T T' : TypeId} {x y : Operand} {k k' : IntKind} {m n : Int} (ho : o.op = .binOp .shl T x y T') (hx : ev ps x = some (.int k m)) (hy : ev ps y = some (.int k' n)) (hn : decide (0 ≤ n) = true) :
    OpV P N M w0 ps es o (.int k (shL k m n)) := fun a w hs _ => by
  have hn' : ¬ n < 0 := by have := of_decide_eq_true hn; omega
  simp [execOp, ho, hs.eval hx, hs.eval hy, eqGuard, binOp, Op.shift, hn', shL]

/-- comparison of two whole numbers -/
def cmp : BinOp → Int → Int → Option Bool
  | .eql, a, b => some (a == b)
  | .neq, a, b => some (a != b)
  | .lss, a, b => some (decide (a < b))
  | .leq, a, b => some (decide (a ≤ b))
  | .gtr, a, b => some (decide (b < a))
  | .geq, a, b => some (decide (b ≤ a))
  | _, _, _ => none

theorem V.cmp {op : BinOp} {T T' : TypeId} {x y : Operand} {k : IntKind} {m n : Int} {r : Bool} (ho : o.op = .binOp op T x y T') (hx : ev ps x = some (.int k m)) (hy : ev ps y = some (.int k n)) (hr : G.cmp op m n = some r) :
    OpV P N M w0 ps es o (.bool r) := fun a w hs _ => by
  cases op <;> simp only [G.cmp, Option.some.injEq, reduceCtorEq] at hr <;> subst hr <;>
    simp [execOp, ho, hs.eval hx, hs.eval hy, eqGuard, binOp, Op.intCmp]

theorem V.eqS {T T' : TypeId} {x y : Operand} {m n : ByteArray} (ho : o.op = .binOp .eql T x y T') (hx : ev ps x = some (.string m)) (hy : ev ps y = some (.string n)) : OpV P N M w0 ps es o (.bool (m.toList == n.toList)) := fun a w hs _ => by
  simp [execOp, ho, hs.eval hx, hs.eval hy, eqGuard, binOp, Op.stringOp]
theorem V.neS {T T' : TypeId} {x y : Operand} {m n : ByteArray} (ho : o.op = .binOp .neq T x y T') (hx : ev ps x = some (.string m)) (hy : ev ps y = some (.string n)) : OpV P N M w0 ps es o (.bool !(m.toList == n.toList)) := fun a w hs _ => by
  simp [execOp, ho, hs.eval hx, hs.eval hy, eqGuard, binOp, Op.stringOp]
theorem V.eqB {T T' : TypeId} {x y : Operand} {m n : Bool} (ho : o.op = .binOp .eql T x y T') (hx : ev ps x = some (.bool m)) (hy : ev ps y = some (.bool n)) (hT : P.underlying T = some .bool) : OpV P N M w0 ps es o (.bool (m == n)) := fun a w hs _ => by
  have h1 := run_equalIn_bool' (P := P) w 9999 T m n hT
  simp [execOp, ho, hs.eval hx, hs.eval hy, eqGuard, binOp, Op.equal, Op.maxDepth, h1]
theorem V.neB {T T' : TypeId} {x y : Operand} {m n : Bool} (ho : o.op = .binOp .neq T x y T') (hx : ev ps x = some (.bool m)) (hy : ev ps y = some (.bool n)) (hT : P.underlying T = some .bool) : OpV P N M w0 ps es o (.bool !(m == n)) := fun a w hs _ => by
  have h1 := run_equalIn_bool' (P := P) w 9999 T m n hT
  simp [execOp, ho, hs.eval hx, hs.eval hy, eqGuard, binOp, Op.equal, Op.maxDepth, h1]

/-- whatever reckons in itself: by evaluation (operands of any make; the value as told) -/
theorem V.ev1 {x : Operand} {u v : Value} (s : Value → Sem Value) (hx : ev ps x = some u) (ho : ∀ ρ, execOp ρ o = (do pure (.value (← s (ρ x))))) (hr : ∀ w, (s u).run P w = .ok v w) : OpV P N M w0 ps es o v := fun a w hs _ => by
  rw [ho]; simp [hs.eval hx, hr]

/-! ### A call of a Go function -/

theorem J.call {γ : Type} {d f : Nat} {c : Call} {x : Operand} {l : List Operand} {cap : Array Value} {args : List Value} {fn : Func} {V : γ → Value} (esA esB : List Ent) (esR : γ → List Ent) (M' : List Nat)
    (hw : ∀ a, Sees N a ps → Region.wanted o (yielded ops a.tmps) = true) (hd : o.dst = some d) (hN : Nat.blt d N = true) (ho : o.op = .call { callee := .value x, args := l.toArray, argTypes := c.argTypes })
    (hx : ev ps x = some (.func (.func f) #[] cap)) (hl : evs ps l = some args) (hfn : P.funcs[f]? = some fn) (hnm : (fn.name == "runtime.NumGoroutine") = false) (hbd : fn.body.isNone = false)
    (hes : es = esA ++ esB) (hM : ∀ k ∈ M', ∃ e ∈ esA, k ∈ e.foot)
    (hc : ∀ w, Own M w0 w es → Calls P f (args.toArray ++ cap) w (fun e w' => ∃ g, e = .returned (V g) ∧ Own M' w w' (esR g)))
    (h : ∀ g, J N M w0 ((d, V g) :: ps) (esR g ++ esB) (wpList P ops Q rest)) : J N M w0 ps es (wpList P ops Q (o :: rest)) := fun a w hs ho' =>
  wpList_step fun K hK => by
    rw [if_pos (hw a hs)]
    have hcf : (callFunc f (args.toArray ++ cap)).run P w = .ok (.enter f (args.toArray ++ cap)) w := by
      have h1 : ¬ fn.name = "runtime.NumGoroutine" := by simpa using hnm
      have h2 : ¬ fn.body = none := by intro e; rw [e] at hbd; simp at hbd
      simp [callFunc, program, hfn, Sem.run, h1, h2]
    have hrun : (execOp a.eval o).run P w = .ok (.enter f (args.toArray ++ cap)) w := by
      simp [execOp, ho, resolve, Deferred.ofValue, invoke, hs.eval hx, hs.evals hl, hcf]
    unfold Oper.wp
    rw [hrun, Oper.upon_enter]
    refine (hc w ho').mono ?_
    rintro e w' ⟨g, rfl, hown⟩
    rw [hd]
    refine hK _ _ (h g _ w' (hs.put _ (blt_lt hN)) ?_)
    subst hes
    exact ho'.frameCall hown hM

end
end G
end Go.Proofs.YtadggddaheipgaaDoor
