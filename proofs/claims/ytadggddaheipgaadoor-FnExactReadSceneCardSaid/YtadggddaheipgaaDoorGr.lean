/- Strings: joined, made of bytes; a part of an array. No condition. -/
import Derived.Test.YtadggddaheipgaaDoorGq
import Derived.Laws.BytesArg
import Derived.Laws.Concat
set_option linter.unusedVariables false
namespace Go.Proofs.YtadggddaheipgaaDoor
open Go Go.RowKit
namespace G
section
variable {P : Program} {N : Nat} {M : List Nat} {w0 : World} {ps : List (Nat × Value)} {es : List Ent} {o : Oper} {α : Type}

def catB (a b : ByteArray) : Bool := decide (a.size + b.size ≤ 9223372036854775807)
theorem V.cat {T T' : TypeId} {x y : Operand} {a b : ByteArray} (ho : o.op = .binOp .add T x y T') (hx : ev ps x = some (.string a)) (hy : ev ps y = some (.string b)) (hb : catB a b = true) : OpV P N M w0 ps es o (.string (a ++ b)) := fun ac w hs _ => by
  have h := run_string_add_sum (P := P) w a b (of_decide_eq_true hb)
  simp [execOp, ho, hs.eval hx, hs.eval hy, eqGuard, binOp, h]

/-- a string of bytes -/
def strB (xs : List Int) : ByteArray := strOfNums xs
theorem V.b2s {T T' E E' : TypeId} {x : Operand} {v : Value} {xs : List Int} (hS : ∀ w, Own M w0 w es → SlE [] w v E' (eI .u8) xs) (ho : o.op = .convert T T' x) (hx : ev ps x = some v) (hT : slE P T = some E) (hE : P.underlying E = some (.int .u8)) (hT' : P.underlying T' = some .string) : OpV P N M w0 ps es o (.string (strB xs)) := fun a w hs how => by
  obtain ⟨hl, A, c, rfl, hc, hz, hr⟩ := hS w how
  have key : (convert T T' (.slice A xs.length c)).run P w = .ok (.string (strB xs)) w := by
    by_cases hn : 0 < xs.length
    · obtain ⟨ad, cur, T2, fr, rfl, hsp, hm, hbk, hcell⟩ := hr hn
      obtain ⟨b, off, sp⟩ := ad
      simp only at hsp
      subst hsp
      refine run_convert_bytes_arg w T E (slE_und hT) hE b off xs.length c xs rfl (fun i hi => ?_) T' hT'
      refine (cell_of_row w b (off + i) cur T2 fr hbk).trans (hcell i _ ?_)
      rw [← map_cells]
      simp [hi]
    · have h0 : xs = [] := by cases xs with | nil => rfl | cons => simp at hn
      subst h0
      rw [run_convert_bytes_string w T T' E A _ c (slE_und hT) hE hT']
      cases A with
      | none => simp [Conv.bytesToString, strB, strOfNums]; rfl
      | some ad =>
        show (Conv.bytesToString (.slice (some ad) 0 c)).run P w = _
        rw [run_bytesToString w ad 0 c [] (by simpa using run_loadCells_list (P := P) w ad [] (by simp))]
        simp [strB, strOfNums]; rfl
  simp [execOp, ho, hs.eval hx, key]

/-! ### A part of an array -/

theorem V.arrSub {T E : TypeId} {x : Operand} {lo hi : Option Operand} {b n m : Nat} {l h : Int} {L H : Option Int} (ho : o.op = .slice T x lo hi none) (hx : ev ps x = some (bp b 0)) (hlo : bnd ps lo = some L) (hhi : bnd ps hi = some H)
    (hL : L.getD 0 = l) (hH : H.getD n = h) (hT : arE P T = some (n, E)) (hE : sizeP P E = some m) (hb : inS l h n = true) : OpV P N M w0 ps es o (subV m (.slice (some ⟨b, 0, none⟩) n n) l h) := fun a w hs how => by
  have hb' := inS_iff.1 hb
  cases lo with
  | none =>
    simp only [bnd, Option.some.injEq] at hlo
    subst hlo; subst hL
    cases hi with
    | none =>
      simp only [bnd, Option.some.injEq] at hhi
      subst hhi; subst hH
      simp [execOp, ho, hs.eval hx, Instr.sliceAt, Instr.sureAddr, bp, Instr.sliceBounds, run_underlying (arE_und hT), run_sizeOf hE, subV]
      split <;> rfl
    | some y =>
      simp only [bnd] at hhi
      split at hhi
      · rename_i k i hy
        simp only [Option.some.injEq] at hhi
        subst hhi; subst hH
        simp only [Option.getD_some, Option.getD_none] at *
        have := run_bound (P := P) (i := i) (k := k) (n := n) (c := .sliceAlen) (by omega) (by omega) w
        simp [execOp, ho, hs.eval hx, Instr.sliceAt, Instr.sureAddr, bp, Instr.sliceBounds, run_underlying (arE_und hT), run_sizeOf hE, subV, hs.eval hy, this]
        split <;> rfl
      · cases hhi
  | some z =>
    simp only [bnd] at hlo
    split at hlo
    · rename_i k i hz
      simp only [Option.some.injEq] at hlo
      subst hlo; subst hL
      cases hi with
      | none =>
        simp only [bnd, Option.some.injEq] at hhi
        subst hhi; subst hH
        simp only [Option.getD_some, Option.getD_none] at *
        have := run_bound (P := P) (i := i) (k := k) (n := n) (c := .sliceB) (by omega) (by omega) w
        simp [execOp, ho, hs.eval hx, Instr.sliceAt, Instr.sureAddr, bp, Instr.sliceBounds, run_underlying (arE_und hT), run_sizeOf hE, subV, hs.eval hz, this]
        split <;> rfl
      | some y =>
        simp only [bnd] at hhi
        split at hhi
        · rename_i k' i' hy
          simp only [Option.some.injEq] at hhi
          subst hhi; subst hH
          simp only [Option.getD_some] at *
          have h1 := run_bound (P := P) (i := i') (k := k') (n := n) (c := .sliceAlen) (by omega) (by omega) w
          have h2 := run_bound (P := P) (i := i) (k := k) (n := i'.toNat) (c := .sliceB) (by omega) (by omega) w
          simp [execOp, ho, hs.eval hx, Instr.sliceAt, Instr.sureAddr, bp, Instr.sliceBounds, run_underlying (arE_und hT), run_sizeOf hE, subV, hs.eval hy, hs.eval hz, h1, h2]
          split <;> rfl
        · cases hhi
    · cases hlo
theorem V.lenSub {T : TypeId} {x : Operand} {b n m : Nat} {l h : Int} {q : TypeId} (ho : o.op = .call { callee := .builtin .len, args := #[x], argTypes := #[T] }) (hx : ev ps x = some (subV m (.slice (some ⟨b, 0, none⟩) n n) l h)) (hT : slE P T = some q) (hb : inS l h n = true) :
    OpV P N M w0 ps es o (.int .i64 (h - l)) := fun a w hs how => by
  have hb' := inS_iff.1 hb
  have h1 := slE_und hT
  have e := hs.eval hx
  simp only [subV] at e
  have e2 : ((h.toNat - l.toNat : Nat) : Int) = h - l := by omega
  simp [execOp, ho, resolve, invoke, builtin, e, Builtin.len_, run_underlying h1, goInt, e2]
theorem inB_sub {l h i : Int} {n : Nat} (hb : inS l h n = true) (hi : inB i (h - l).toNat = true) : inB (l + i) n = true := by
  have := inS_iff.1 hb
  have := inB_iff.1 hi
  exact inB_iff.2 ⟨by omega, by omega⟩
theorem V.ixSub {T E : TypeId} {x y : Operand} {b n m : Nat} {kk : IntKind} {l h i : Int} (ho : o.op = .indexAddr T x y) (hx : ev ps x = some (subV m (.slice (some ⟨b, 0, none⟩) n n) l h)) (hy : ev ps y = some (.int kk i)) (hT : slE P T = some E) (hE : sizeP P E = some m)
    (hb : inS l h n = true) (hi : inB i (h - l).toNat = true) : OpV P N M w0 ps es o (bp b (0 + (l + i).toNat * m)) := fun a w hs _ => by
  have h0 := inS_iff.1 hb
  have h1 := inB_iff.1 hi
  have e := hs.eval hx
  have hne : ¬ n = l.toNat := by omega
  simp only [subV, if_neg hne, Option.map_some, add_none] at e
  have h2 : i < ((h.toNat - l.toNat : Nat) : Int) := by omega
  have e2 : (l + i).toNat = l.toNat + i.toNat := by omega
  simp [execOp, ho, e, hs.eval hy, Instr.indexAt, asIntOf, run_underlying (slE_und hT), bp, h1.1, h2, run_sizeOf hE, add_none, e2, Nat.add_mul]

/-! ### A part of a string; errors; the world that the law met -/

def subT (s : ByteArray) (l h : Int) : ByteArray := s.extract l.toNat h.toNat
theorem V.subT {T : TypeId} {x : Operand} {lo hi : Option Operand} {s : ByteArray} {l h : Int} {L H : Option Int} (ho : o.op = .slice T x lo hi none) (hx : ev ps x = some (.string s)) (hlo : bnd ps lo = some L) (hhi : bnd ps hi = some H)
    (hL : L.getD 0 = l) (hH : H.getD s.size = h) (hT : P.underlying T = some .string) (hb : inS l h s.size = true) : OpV P N M w0 ps es o (.string (subT s l h)) := fun a w hs how => by
  have hb' := inS_iff.1 hb
  cases lo with
  | none =>
    simp only [bnd, Option.some.injEq] at hlo
    subst hlo; subst hL
    cases hi with
    | none =>
      simp only [bnd, Option.some.injEq] at hhi
      subst hhi; subst hH
      simp [execOp, ho, hs.eval hx, Instr.sliceAt, Instr.slice, Instr.sliceBounds, run_underlying hT, G.subT]
    | some y =>
      simp only [bnd] at hhi
      split at hhi
      · rename_i k i hy
        simp only [Option.some.injEq] at hhi
        subst hhi; subst hH
        simp only [Option.getD_some, Option.getD_none] at *
        have := run_bound (P := P) (i := i) (k := k) (n := s.size) (c := .sliceAlen) (by omega) (by omega) w
        simp [execOp, ho, hs.eval hx, Instr.sliceAt, Instr.slice, Instr.sliceBounds, run_underlying hT, G.subT, hs.eval hy, this]
      · cases hhi
  | some z =>
    simp only [bnd] at hlo
    split at hlo
    · rename_i k i hz
      simp only [Option.some.injEq] at hlo
      subst hlo; subst hL
      cases hi with
      | none =>
        simp only [bnd, Option.some.injEq] at hhi
        subst hhi; subst hH
        simp only [Option.getD_some, Option.getD_none] at *
        have := run_bound (P := P) (i := i) (k := k) (n := s.size) (c := .sliceB) (by omega) (by omega) w
        simp [execOp, ho, hs.eval hx, Instr.sliceAt, Instr.slice, Instr.sliceBounds, run_underlying hT, G.subT, hs.eval hz, this]
      | some y =>
        simp only [bnd] at hhi
        split at hhi
        · rename_i k' i' hy
          simp only [Option.some.injEq] at hhi
          subst hhi; subst hH
          simp only [Option.getD_some] at *
          have h1 := run_bound (P := P) (i := i') (k := k') (n := s.size) (c := .sliceAlen) (by omega) (by omega) w
          have h2 := run_bound (P := P) (i := i) (k := k) (n := i'.toNat) (c := .sliceB) (by omega) (by omega) w
          simp [execOp, ho, hs.eval hx, Instr.sliceAt, Instr.slice, Instr.sliceBounds, run_underlying hT, G.subT, hs.eval hy, hs.eval hz, h1, h2]
        · cases hhi
    · cases hlo

/-- an error or nil -/
def errV (b : Bool) (g : TypeId × Value) : Value := bif b then .iface g.1 g.2 else .nilIface
theorem run_eq_nil (w : World) (d : Nat) {T : TypeId} {ms : Array (String × TypeId)} (hT : P.underlying T = some (.interface ms)) (b : Bool) (g : TypeId × Value) : (Op.equalIn (d + 1) T (errV b g) .nilIface).run P w = .ok (!b) w := by
  cases b <;> simp [errV, Op.equalIn, run_underlying hT]
theorem errV_guard (op : BinOp) (T : TypeId) (x : Operand) (b : Bool) (g : TypeId × Value) : eqGuard op T x (.const .nilIface) (errV b g) .nilIface = pure () := by
  cases b
  · exact eqGuard_nil_constR _ _ _ _
  · cases op <;> rfl
theorem binop_nil (w : World) {T : TypeId} {ms : Array (String × TypeId)} (hT : P.underlying T = some (.interface ms)) (b : Bool) (g : TypeId × Value) : (binOp .eql T (errV b g) .nilIface).run P w = .ok (.bool !b) w ∧ (binOp .neq T (errV b g) .nilIface).run P w = .ok (.bool b) w := by
  have h1 := run_eq_nil (P := P) w 9999 hT b g
  cases b <;> simp only [errV, cond_true, cond_false] at h1 ⊢ <;> simp [binOp, Op.equal, Op.maxDepth, h1]
theorem V.neErr {T T' : TypeId} {x : Operand} {b : Bool} {g : TypeId × Value} (ho : o.op = .binOp .neq T x (.const .nilIface) T') (hx : ev ps x = some (errV b g)) (hT : ∃ ms, P.underlying T = some (.interface ms)) : OpV P N M w0 ps es o (.bool b) := fun a w hs _ => by
  obtain ⟨ms, hT⟩ := hT
  have e := hs.eval hx
  have e2 : a.eval (.const .nilIface) = .nilIface := rfl
  simp [execOp, ho, e, e2, errV_guard, (binop_nil (P := P) w hT b g).2]
theorem V.eqErr {T T' : TypeId} {x : Operand} {b : Bool} {g : TypeId × Value} (ho : o.op = .binOp .eql T x (.const .nilIface) T') (hx : ev ps x = some (errV b g)) (hT : ∃ ms, P.underlying T = some (.interface ms)) : OpV P N M w0 ps es o (.bool !b) := fun a w hs _ => by
  obtain ⟨ms, hT⟩ := hT
  have e := hs.eval hx
  have e2 : a.eval (.const .nilIface) = .nilIface := rfl
  simp [execOp, ho, e, e2, errV_guard, (binop_nil (P := P) w hT b g).1]

/-- what was there when the law began is there still -/
def Glob (wG : World) (M : List Nat) (w : World) : Prop := wG.heap.size ≤ w.heap.size ∧ ∀ k, k < wG.heap.size → k ∉ M ∧ w.heap[k]? = wG.heap[k]?
theorem Glob.refl (w : World) : Glob w [] w := ⟨Nat.le_refl _, fun _ _ => ⟨by simp, rfl⟩⟩
theorem Glob.later {wG w : World} {M' : List Nat} (h : Glob wG M w0) (ho : Own M w0 w es) (hM : ∀ k ∈ M', k ∈ M ∨ w0.heap.size ≤ k) : Glob wG M' w :=
  ⟨Nat.le_trans h.1 ho.size, fun k hk => ⟨fun hm => by
    rcases hM k hm with a | b
    · exact (h.2 k hk).1 a
    · have := h.1; omega, (ho.frame k (Nat.lt_of_lt_of_le hk h.1) (h.2 k hk).1).trans (h.2 k hk).2⟩⟩
theorem Glob.laterA {wG w : World} {esA esB : List Ent} (h : Glob wG M w0) (H : Own M w0 w (esA ++ esB)) : Glob wG (Mof esA) w := h.later H (mineA H)
theorem Glob.cell {wG w : World} (h : Glob wG M w) {a : Addr} {v : Value} (hc : wG.cell? a = some v) : w.cell? a = some v := by
  have hk : a.block < wG.heap.size := by
    apply Classical.byContradiction
    intro hh
    have : wG.heap[a.block]? = none := Array.getElem?_eq_none (by omega)
    unfold World.cell? at hc
    rw [this] at hc
    cases hc
  unfold World.cell? at hc ⊢
  rw [(h.2 _ hk).2]
  exact hc
end
end G
end Go.Proofs.YtadggddaheipgaaDoor
