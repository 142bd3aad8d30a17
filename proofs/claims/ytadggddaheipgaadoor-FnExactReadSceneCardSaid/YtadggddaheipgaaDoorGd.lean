/- The calculus' rules for memory: new blocks, loads, stores, slices, append. No condition. -/
import Derived.Test.YtadggddaheipgaaDoorGc
import Derived.Laws.OwnMore
namespace Go.Proofs.YtadggddaheipgaaDoor
open Go Go.RowKit
namespace G

/-! ### Pointers -/

def bp (b k : Nat) : Value := .pointer (some ⟨b, k, none⟩)
/-- the pointer to cell k behind a slice's begin -/
def sp (v : Value) (k : Nat) : Value := match v with
  | .slice (some ad) _ _ => .pointer (some (ad.add k))
  | _ => undef

/-- 'p' is a pointer behind which the cells 'cs' lie. -/
def Pt (w : World) (p : Value) (cs : List Value) : Prop := ∃ a : Addr, p = .pointer (some a) ∧ ∀ j u, cs[j]? = some u → w.cell? (a.add j) = some u

theorem add_none (b k j : Nat) : (⟨b, k, none⟩ : Addr).add j = ⟨b, k + j, none⟩ := by unfold Addr.add; split <;> simp_all
theorem add_of {ad : Addr} (h : ad.spot = none) (j : Nat) : ad.add j = ⟨ad.block, ad.off + j, none⟩ := by
  obtain ⟨b, k, s⟩ := ad
  simp only at h
  subst h
  exact add_none b k j

theorem Pt.blk {w : World} {b k : Nat} {cs : List Value} {T : Nat} (h : Ent.holds w (.blk b cs T)) : Pt w (bp b k) (cs.drop k) :=
  ⟨⟨b, k, none⟩, rfl, fun j u hu => by
    rw [add_none, cell_of_row w b (k + j) cs.toArray T (0, 0) h]
    rw [List.getElem?_drop] at hu
    simpa using hu⟩

theorem Pt.sl {M : List Nat} {w : World} {v : Value} {E sz n k : Nat} {cs : List Value} (h : Sl M w v E sz n cs) (hn : Nat.blt 0 n = true) : Pt w (sp v k) (cs.drop k) := by
  obtain ⟨hl, A, c, rfl, hc, _, hr⟩ := h
  obtain ⟨ad, cur, T, fr, rfl, hs, _, hb, hcell⟩ := hr (blt_lt hn)
  refine ⟨ad.add k, rfl, fun j u hu => ?_⟩
  rw [List.getElem?_drop] at hu
  have := hcell _ _ hu
  rw [add_of hs, add_none, cell_of_row w ad.block (ad.off + k + j) cur T fr hb, Nat.add_assoc]
  exact this

theorem Pt.row {w : World} {v : Value} {E sz n k : Nat} {cs : List Value} (h : Ent.holds w (.row v E sz n cs)) (hn : Nat.blt 0 n = true) : Pt w (sp v k) (cs.drop k) :=
  Pt.sl (Sl.ofRow (M' := []) h (by simp)) hn

/-! ### What is asked of types -/

def aggB (P : Program) (T : TypeId) : Bool := match P.underlying T with
  | some (.struct _) | some (.array _ _) => true
  | _ => false
def sizeP (P : Program) (T : TypeId) : Option Nat := (P.info? T).map (·.size)
def zeroP (P : Program) (T : TypeId) : Option Value := (P.info? T).bind (·.zero)
/-- where a field begins (of a struct type; a field that has cells) -/
def fieldP (P : Program) (S : TypeId) (f : Nat) : Option Nat := match P.underlying S with
  | some (.struct fs) => (fs[f]?).bind fun fd => (sizeP P fd.type).bind fun m => if m = 0 then none else some fd.offset
  | _ => none
/-- the same, and the field's type -/
def fieldT (P : Program) (S : TypeId) (f : Nat) : Option (Nat × TypeId) := match P.underlying S with
  | some (.struct fs) => (fs[f]?).map fun fd => (fd.offset, fd.type)
  | _ => none
def slE (P : Program) (T : TypeId) : Option TypeId := match P.underlying T with
  | some (.slice E) => some E
  | _ => none
def arE (P : Program) (T : TypeId) : Option (Nat × TypeId) := match P.underlying T with
  | some (.array n E) => some (n, E)
  | _ => none

theorem slE_und {P : Program} {T E : TypeId} (h : slE P T = some E) : P.underlying T = some (.slice E) := by
  unfold slE at h; split at h <;> simp_all
theorem arE_und {P : Program} {T : TypeId} {n : Nat} {E : TypeId} (h : arE P T = some (n, E)) : P.underlying T = some (.array n E) := by
  unfold arE at h; split at h <;> simp_all

section
variable {P : Program}

theorem und_of_size {T : TypeId} {m : Nat} (h : sizeP P T = some m) : ∃ i, P.info? T = some i ∧ i.size = m := by
  unfold sizeP at h
  cases hi : P.info? T with
  | none => rw [hi] at h; simp at h
  | some i => rw [hi] at h; simp at h; exact ⟨i, rfl, h⟩

theorem run_sizeOf {T : TypeId} {m : Nat} (h : sizeP P T = some m) (w : World) : (sizeOf T).run P w = .ok m w := by
  obtain ⟨i, hi, rfl⟩ := und_of_size h
  simp [sizeOf, typeInfo, hi]

theorem run_zero {T : TypeId} {z : Value} (h : zeroP P T = some z) (w : World) : (zeroValue T).run P w = .ok z w := by
  unfold zeroP at h
  cases hi : P.info? T with
  | none => rw [hi] at h; simp at h
  | some i => rw [hi] at h; simp at h; simp [zeroValue, typeInfo, hi, h]

theorem run_isAgg {T : TypeId} {d : TypeDesc} (h : P.underlying T = some d) (w : World) : (isAgg T).run P w = .ok (aggB P T) w := by
  unfold isAgg aggB
  rw [Sem.run_bind, run_underlying h w, h]
  cases d <;> rfl

theorem und_some {T : TypeId} (h2 : aggB P T = true) : ∃ d, P.underlying T = some d := by
  unfold aggB at h2
  cases hu : P.underlying T with
  | none => rw [hu] at h2; simp at h2
  | some d => exact ⟨d, rfl⟩

theorem run_load1 {w : World} {T : TypeId} {d : TypeDesc} (hu : P.underlying T = some d) (ha : aggB P T = false) {a : Addr} {u : Value} (hc : w.cell? a = some u) : (loadVar T a).run P w = .ok u w := by
  simp [loadVar, Sem.run_bind, run_isAgg hu, ha, load, Sem.run, hc]

theorem run_loadA {w : World} {T : TypeId} {m : Nat} (hs : sizeP P T = some m) (ha : aggB P T = true) {a : Addr} {cs : List Value} (hl : cs.length = m) (hc : ∀ j u, cs[j]? = some u → w.cell? (a.add j) = some u) :
    (loadVar T a).run P w = .ok (.agg cs.toArray) w := by
  obtain ⟨d, hu⟩ := und_some ha
  have h1 := run_loadCells_list (P := P) w a cs hc
  subst hl
  simp [loadVar, Sem.run_bind, run_isAgg hu, ha, run_sizeOf hs, h1]
end

section
variable {P : Program} {N : Nat} {M : List Nat} {w0 : World} {ps : List (Nat × Value)} {es : List Ent} {K : Act → World → Prop} {Q : Exit → Act → World → Prop}
  {ops : Array Oper} {o : Oper} {rest : List Oper}

theorem Own.at {M : List Nat} {w0 w : World} {es : List Ent} (h : Own M w0 w es) {i : Nat} {e : Ent} (hi : es[i]? = some e) : Ent.holds w e := h.holds e (List.mem_of_getElem? hi)

/-! ### Loads -/

theorem V.ld {T : TypeId} {d : TypeDesc} {x : Operand} {p u : Value} {cs : List Value} (ho : o.op = .load T x) (hx : ev ps x = some p) (hu : P.underlying T = some d) (ha : aggB P T = false) (hc : cs[0]? = some u)
    (hp : ∀ w, Own M w0 w es → Pt w p cs) : OpV P N M w0 ps es o u := fun a w hs how => by
  obtain ⟨ad, rfl, hcell⟩ := hp w how
  have h1 := hcell 0 u hc
  have h0 : ad.add 0 = ad := rfl
  rw [h0] at h1
  simp [execOp, ho, hs.eval hx, Instr.loadAt, Instr.sureAddr, run_load1 hu ha h1]

theorem V.ldA {T : TypeId} {m : Nat} {x : Operand} {p : Value} {cs : List Value} (ho : o.op = .load T x) (hx : ev ps x = some p) (hsz : sizeP P T = some m) (ha : aggB P T = true) (hl : cs.length = m)
    (hp : ∀ w, Own M w0 w es → Pt w p cs) : OpV P N M w0 ps es o (.agg cs.toArray) := fun a w hs how => by
  obtain ⟨ad, rfl, hcell⟩ := hp w how
  simp [execOp, ho, hs.eval hx, Instr.loadAt, Instr.sureAddr, run_loadA hsz ha hl hcell]

/-- one cell of a block -/
theorem V.ldB {T : TypeId} {d : TypeDesc} {x : Operand} {b k T0 : Nat} {u : Value} {cs : List Value} (i : Nat) (ho : o.op = .load T x) (hx : ev ps x = some (bp b k)) (hi : es[i]? = some (.blk b cs T0))
    (hu : P.underlying T = some d) (ha : aggB P T = false) (hc : cs[k]? = some u) : OpV P N M w0 ps es o u :=
  V.ld (cs := cs.drop k) ho hx hu ha (by rw [List.getElem?_drop]; simpa using hc) fun w how => Pt.blk (how.at hi)
/-- a whole block -/
theorem V.ldW {T : TypeId} {m : Nat} {x : Operand} {b T0 : Nat} {cs : List Value} (i : Nat) (ho : o.op = .load T x) (hx : ev ps x = some (bp b 0)) (hi : es[i]? = some (.blk b cs T0))
    (hsz : sizeP P T = some m) (ha : aggB P T = true) (hl : cs.length = m) : OpV P N M w0 ps es o (.agg cs.toArray) :=
  V.ldA (cs := cs) ho hx hsz ha hl fun w how => by simpa using Pt.blk (k := 0) (how.at hi)
/-- one cell of a slice that is read -/
theorem V.ldS {T : TypeId} {d : TypeDesc} {x : Operand} {v u : Value} {k E sz n : Nat} {cs : List Value} (hS : Sl M w0 v E sz n cs) (ho : o.op = .load T x) (hx : ev ps x = some (sp v k))
    (hu : P.underlying T = some d) (ha : aggB P T = false) (hn : Nat.blt 0 n = true) (hc : cs[k]? = some u) : OpV P N M w0 ps es o u :=
  V.ld (cs := cs.drop k) ho hx hu ha (by rw [List.getElem?_drop]; simpa using hc) fun w how => Pt.sl (hS.later (M' := M) how (fun k hk => .inl hk)) hn
/-- some cells of a slice that is read -/
theorem V.ldSA {T : TypeId} {m : Nat} {x : Operand} {v : Value} {k E sz n : Nat} {cs cs' : List Value} (hS : Sl M w0 v E sz n cs) (ho : o.op = .load T x) (hx : ev ps x = some (sp v k))
    (hsz : sizeP P T = some m) (ha : aggB P T = true) (hn : Nat.blt 0 n = true) (hc : (cs.drop k).take m = cs') (hl : cs'.length = m) : OpV P N M w0 ps es o (.agg cs'.toArray) :=
  V.ldA (cs := cs') ho hx hsz ha hl fun w how => by
    obtain ⟨ad, h1, h2⟩ := Pt.sl (k := k) (hS.later (M' := M) how (fun k hk => .inl hk)) hn
    refine ⟨ad, h1, fun j u hu => h2 j u ?_⟩
    rw [← hc, List.getElem?_take] at hu
    split at hu <;> simp_all
/-- one cell of an owned row -/
theorem V.ldR {T : TypeId} {d : TypeDesc} {x : Operand} {v u : Value} {k E sz n : Nat} {cs : List Value} (i : Nat) (ho : o.op = .load T x) (hx : ev ps x = some (sp v k)) (hi : es[i]? = some (.row v E sz n cs))
    (hu : P.underlying T = some d) (ha : aggB P T = false) (hn : Nat.blt 0 n = true) (hc : cs[k]? = some u) : OpV P N M w0 ps es o u :=
  V.ld (cs := cs.drop k) ho hx hu ha (by rw [List.getElem?_drop]; simpa using hc) fun w how => Pt.row (how.at hi) hn
theorem V.ldRA {T : TypeId} {m : Nat} {x : Operand} {v : Value} {k E sz n : Nat} {cs cs' : List Value} (i : Nat) (ho : o.op = .load T x) (hx : ev ps x = some (sp v k)) (hi : es[i]? = some (.row v E sz n cs))
    (hsz : sizeP P T = some m) (ha : aggB P T = true) (hn : Nat.blt 0 n = true) (hc : (cs.drop k).take m = cs') (hl : cs'.length = m) : OpV P N M w0 ps es o (.agg cs'.toArray) :=
  V.ldA (cs := cs') ho hx hsz ha hl fun w how => by
    obtain ⟨ad, h1, h2⟩ := Pt.row (k := k) (how.at hi) hn
    refine ⟨ad, h1, fun j u hu => h2 j u ?_⟩
    rw [← hc, List.getElem?_take] at hu
    split at hu <;> simp_all

/-! ### Addresses -/

/-- an index lies within -/
def inB (i : Int) (n : Nat) : Bool := decide (0 ≤ i) && decide (i < n)
theorem inB_iff {i : Int} {n : Nat} : inB i n = true ↔ 0 ≤ i ∧ i < n := by simp [inB]
theorem inB_nat {i : Int} {n : Nat} (h : inB i n = true) : i.toNat < n := by have := inB_iff.1 h; omega

theorem V.ixB {T E : TypeId} {x y : Operand} {b k n m : Nat} {kk : IntKind} {i : Int} (ho : o.op = .indexAddr T x y) (hx : ev ps x = some (bp b k)) (hy : ev ps y = some (.int kk i)) (hT : arE P T = some (n, E)) (hE : sizeP P E = some m)
    (hi : inB i n = true) : OpV P N M w0 ps es o (bp b (k + i.toNat * m)) := fun a w hs _ => by
  have h1 := inB_iff.1 hi
  simp [execOp, ho, hs.eval hx, hs.eval hy, Instr.indexAt, asIntOf, run_underlying (arE_und hT), Instr.sureAddr, bp, h1, run_sizeOf hE, add_none]

theorem sl_shape {M : List Nat} {w : World} {v : Value} {E sz n : Nat} {cs : List Value} (h : Sl M w v E sz n cs) (hn : 0 < n) : ∃ ad c, v = .slice (some ad) n c := by
  obtain ⟨_, A, c, rfl, _, _, hr⟩ := h
  obtain ⟨ad, _, _, _, rfl, _⟩ := hr hn
  exact ⟨ad, c, rfl⟩

theorem V.ixV {T E : TypeId} {x y : Operand} {v : Value} {n m : Nat} {kk : IntKind} {i : Int} (ho : o.op = .indexAddr T x y) (hx : ev ps x = some v) (hy : ev ps y = some (.int kk i)) (hT : slE P T = some E) (hE : sizeP P E = some m)
    (hi : inB i n = true) (hv : ∀ w, Own M w0 w es → ∃ ad c, v = .slice (some ad) n c) : OpV P N M w0 ps es o (sp v (i.toNat * m)) := fun a w hs how => by
  have h1 := inB_iff.1 hi
  obtain ⟨ad, c, rfl⟩ := hv w how
  simp [execOp, ho, hs.eval hx, hs.eval hy, Instr.indexAt, asIntOf, run_underlying (slE_und hT), sp, h1, run_sizeOf hE]

theorem V.ixS {T E : TypeId} {x y : Operand} {v : Value} {E' sz n m : Nat} {cs : List Value} {kk : IntKind} {i : Int} (hS : Sl M w0 v E' sz n cs) (ho : o.op = .indexAddr T x y) (hx : ev ps x = some v) (hy : ev ps y = some (.int kk i)) (hT : slE P T = some E) (hE : sizeP P E = some m)
    (hi : inB i n = true) : OpV P N M w0 ps es o (sp v (i.toNat * m)) :=
  V.ixV ho hx hy hT hE hi fun _ _ => sl_shape hS (by have := inB_iff.1 hi; omega)
theorem V.ixR {T E : TypeId} {x y : Operand} {v : Value} {E' sz n m : Nat} {cs : List Value} {kk : IntKind} {i : Int} (j : Nat) (ho : o.op = .indexAddr T x y) (hx : ev ps x = some v) (hy : ev ps y = some (.int kk i)) (hj : es[j]? = some (.row v E' sz n cs)) (hT : slE P T = some E) (hE : sizeP P E = some m)
    (hi : inB i n = true) : OpV P N M w0 ps es o (sp v (i.toNat * m)) :=
  V.ixV ho hx hy hT hE hi fun _ how => sl_shape (Sl.ofRow (M' := []) (how.at hj) (by simp)) (by have := inB_iff.1 hi; omega)

theorem fieldP_spec {S : TypeId} {f off : Nat} (h : fieldP P S f = some off) : ∃ fs fd m, P.underlying S = some (.struct fs) ∧ fs[f]? = some fd ∧ sizeP P fd.type = some m ∧ m ≠ 0 ∧ fd.offset = off := by
  unfold fieldP at h
  split at h
  · rename_i fs hu
    cases hf : fs[f]? with
    | none => rw [hf] at h; simp at h
    | some fd =>
      rw [hf] at h
      simp only [Option.bind_some] at h
      cases hm : sizeP P fd.type with
      | none => rw [hm] at h; simp at h
      | some m =>
        rw [hm] at h
        simp only [Option.bind_some] at h
        split at h
        · cases h
        · rename_i hne
          exact ⟨fs, fd, m, hu, hf, hm, hne, Option.some.inj h⟩
  · cases h

theorem run_fieldPlace {fd : Field} {m : Nat} (hm : sizeP P fd.type = some m) (hne : m ≠ 0) (a : Addr) (w : World) : (fieldPlace a fd).run P w = .ok (a.add fd.offset) w := by
  simp [fieldPlace, run_sizeOf hm, hne]

theorem V.faB {S : TypeId} {x : Operand} {b k f off : Nat} (ho : o.op = .fieldAddr S x f) (hx : ev ps x = some (bp b k)) (hf : fieldP P S f = some off) : OpV P N M w0 ps es o (bp b (k + off)) := fun a w hs _ => by
  obtain ⟨fs, fd, m, hu, hfd, hm, hne, rfl⟩ := fieldP_spec hf
  simp [execOp, ho, hs.eval hx, Instr.fieldAt, run_underlying hu, hfd, Instr.sureAddr, bp, run_fieldPlace hm hne, add_none]
theorem V.faS {M' : List Nat} {S : TypeId} {x : Operand} {v : Value} {E sz n : Nat} {cs : List Value} {k f off : Nat} (hS : Sl M' w0 v E sz n cs) (hn : Nat.blt 0 n = true) (ho : o.op = .fieldAddr S x f) (hx : ev ps x = some (sp v k)) (hf : fieldP P S f = some off) :
    OpV P N M w0 ps es o (sp v (k + off)) := fun a w hs _ => by
  obtain ⟨fs, fd, m, hu, hfd, hm, hne, rfl⟩ := fieldP_spec hf
  obtain ⟨_, A, c, rfl, _, _, hr⟩ := hS
  obtain ⟨ad, _, _, _, rfl, hsp, _⟩ := hr (blt_lt hn)
  simp [execOp, ho, hs.eval hx, Instr.fieldAt, run_underlying hu, hfd, Instr.sureAddr, sp, run_fieldPlace hm hne, add_of hsp, Nat.add_assoc, add_none]
theorem V.faR {S : TypeId} {x : Operand} {v : Value} {E sz n : Nat} {cs : List Value} {k f off : Nat} (i : Nat) (hi : es[i]? = some (.row v E sz n cs)) (hn : Nat.blt 0 n = true) (ho : o.op = .fieldAddr S x f) (hx : ev ps x = some (sp v k)) (hf : fieldP P S f = some off) :
    OpV P N M w0 ps es o (sp v (k + off)) := fun a w hs how => by
  obtain ⟨fs, fd, m, hu, hfd, hm, hne, rfl⟩ := fieldP_spec hf
  obtain ⟨_, A, c, rfl, _, _, hr⟩ := Sl.ofRow (M' := []) (how.at hi) (by simp)
  obtain ⟨ad, _, _, _, rfl, hsp, _⟩ := hr (blt_lt hn)
  simp [execOp, ho, hs.eval hx, Instr.fieldAt, run_underlying hu, hfd, Instr.sureAddr, sp, run_fieldPlace hm hne, add_of hsp, Nat.add_assoc, add_none]
theorem V.nc {x : Operand} {b k : Nat} (ho : o.op = .nilCheck x) (hx : ev ps x = some (bp b k)) : OpV P N M w0 ps es o (bp b k) := fun a w hs _ => by
  simp [execOp, ho, hs.eval hx, bp]

/-! ### Values of several cells -/

/-- a field of a struct that is at hand -/
theorem V.fl {S T : TypeId} {d : TypeDesc} {x : Operand} {cs : List Value} {f off : Nat} {u : Value} (ho : o.op = .field S x f) (hx : ev ps x = some (.agg cs.toArray)) (hf : fieldT P S f = some (off, T)) (hu : P.underlying T = some d) (ha : aggB P T = false) (hc : cs[off]? = some u) :
    OpV P N M w0 ps es o u := fun a w hs _ => by
  unfold fieldT at hf
  split at hf
  · rename_i fs hS
    cases hfd : fs[f]? with
    | none => rw [hfd] at hf; simp at hf
    | some fd =>
      rw [hfd] at hf
      simp only [Option.map_some, Option.some.injEq, Prod.mk.injEq] at hf
      obtain ⟨rfl, rfl⟩ := hf
      simp [execOp, ho, hs.eval hx, Instr.field, run_underlying hS, hfd, asAgg, part, run_isAgg hu, ha, hc]
  · cases hf
/-- an element of an array that is at hand -/
theorem V.ixA {T E : TypeId} {d : TypeDesc} {x y : Operand} {cs : List Value} {n : Nat} {kk : IntKind} {i : Int} {u : Value} (ho : o.op = .index T x y) (hx : ev ps x = some (.agg cs.toArray)) (hy : ev ps y = some (.int kk i)) (hT : arE P T = some (n, E)) (hE : sizeP P E = some 1)
    (hu : P.underlying E = some d) (ha : aggB P E = false) (hi : inB i n = true) (hc : cs[i.toNat]? = some u) : OpV P N M w0 ps es o u := fun a w hs _ => by
  have h1 := inB_iff.1 hi
  simp [execOp, ho, hs.eval hx, hs.eval hy, Instr.index, asIntOf, run_underlying (arE_und hT), h1, run_sizeOf hE, part, run_isAgg hu, ha, hc]
/-- a value that is put together -/
theorem V.bd {T : TypeId} {l : List (Nat × Operand)} {vs : List Value} {v : Value} (ho : o.op = .build T l.toArray) (hl : evs ps (l.map (·.2)) = some vs) (hr : ∀ w, Own M w0 w es → (Instr.build T ((l.map (·.1)).zip vs).toArray).run P w = .ok v w) : OpV P N M w0 ps es o v := fun a w hs how => by
  have h1 : (l.map fun q => (q.1, a.eval q.2)) = (l.map (·.1)).zip vs := by
    rw [← hs.evals hl, List.map_map]
    clear hl hr ho
    induction l with
    | nil => rfl
    | cons q l ih => simp [ih]
  have h2 : (l.toArray.map fun q => (q.1, a.eval q.2)) = ((l.map (·.1)).zip vs).toArray := by simp [← h1]
  simp only [execOp, ho]
  rw [h2]
  simp [hr w how]
theorem V.lenS {M' : List Nat} {T : TypeId} {x : Operand} {v : Value} {E sz n : Nat} {cs : List Value} {q : TypeId} (hS : Sl M' w0 v E sz n cs) (ho : o.op = .call { callee := .builtin .len, args := #[x], argTypes := #[T] }) (hx : ev ps x = some v) (hT : slE P T = some q) :
    OpV P N M w0 ps es o (.int .i64 n) := fun a w hs _ => by
  obtain ⟨A, c, rfl, _⟩ := hS.len
  simp [execOp, ho, resolve, invoke, builtin, hs.eval hx, Builtin.len_, run_underlying (slE_und hT), goInt]
theorem V.lenR {T : TypeId} {x : Operand} {v : Value} {E sz n : Nat} {cs : List Value} {q : TypeId} (i : Nat) (hi : es[i]? = some (.row v E sz n cs)) (ho : o.op = .call { callee := .builtin .len, args := #[x], argTypes := #[T] }) (hx : ev ps x = some v) (hT : slE P T = some q) :
    OpV P N M w0 ps es o (.int .i64 n) := fun a w hs how => by
  obtain ⟨A, c, rfl, _⟩ := (Sl.ofRow (M' := []) (how.at hi) (by simp)).len
  simp [execOp, ho, resolve, invoke, builtin, hs.eval hx, Builtin.len_, run_underlying (slE_und hT), goInt]
theorem V.lenT {T : TypeId} {x : Operand} {s : ByteArray} (ho : o.op = .call { callee := .builtin .len, args := #[x], argTypes := #[T] }) (hx : ev ps x = some (.string s)) (hT : P.underlying T = some .string) :
    OpV P N M w0 ps es o (.int .i64 s.size) := fun a w hs _ => by
  simp [execOp, ho, resolve, invoke, builtin, hs.eval hx, Builtin.len_, run_underlying hT, goInt]
theorem Sl.one {M : List Nat} {w : World} {v : Value} {E sz n : Nat} {cs : List Value} (h : Sl M w v E sz n cs) : v.oneCell' = true := by obtain ⟨A, c, rfl, _⟩ := h.len; rfl
theorem Sl.asCells {M : List Nat} {w : World} {v : Value} {E sz n : Nat} {cs : List Value} (h : Sl M w v E sz n cs) : v.cells = #[v] := by obtain ⟨A, c, rfl, _⟩ := h.len; rfl
def mx (a b : Int) : Int := if b > a then b else a
def mn (a b : Int) : Int := if b < a then b else a

theorem run_max {x y : Int} {k : IntKind} (w : World) (ats : Array TypeId) (t : TypeId) : (Builtin.max_ ats t #[.int k x, .int k y]).run P w = .ok (.int k (mx x y)) w := by simp [Builtin.max_, Builtin.max2, mx]
theorem run_min {x y : Int} {k : IntKind} (w : World) (ats : Array TypeId) (t : TypeId) : (Builtin.min_ ats t #[.int k x, .int k y]).run P w = .ok (.int k (mn x y)) w := by simp [Builtin.min_, Builtin.min2, mn]
theorem V.mx {ats : Array TypeId} {x y : Operand} {k : IntKind} {m n : Int} (ho : o.op = .call { callee := .builtin .max, args := #[x, y], argTypes := ats }) (hx : ev ps x = some (.int k m)) (hy : ev ps y = some (.int k n)) : OpV P N M w0 ps es o (.int k (G.mx m n)) := fun a w hs _ => by
  simp [execOp, ho, resolve, invoke, builtin, hs.eval hx, hs.eval hy, run_max]
theorem V.mn {ats : Array TypeId} {x y : Operand} {k : IntKind} {m n : Int} (ho : o.op = .call { callee := .builtin .min, args := #[x, y], argTypes := ats }) (hx : ev ps x = some (.int k m)) (hy : ev ps y = some (.int k n)) : OpV P N M w0 ps es o (.int k (G.mn m n)) := fun a w hs _ => by
  simp [execOp, ho, resolve, invoke, builtin, hs.eval hx, hs.eval hy, run_min]

/-- 'arr[:]' -/
theorem V.arr {T E : TypeId} {x : Operand} {b n m : Nat} (ho : o.op = .slice T x none none none) (hx : ev ps x = some (bp b 0)) (hT : arE P T = some (n, E)) (hE : sizeP P E = some m) : OpV P N M w0 ps es o (.slice (some ⟨b, 0, none⟩) n n) := fun a w hs _ => by
  simp [execOp, ho, hs.eval hx, Instr.sliceAt, run_underlying (arE_und hT), Instr.sureAddr, bp, Instr.sliceBounds, run_sizeOf hE, add_none]

/-! ### New blocks -/

theorem J.box {d : Nat} {T : TypeId} {x : Operand} {v : Value} {cs : List Value} (hg : o.guard = none) (hd : o.dst = some d) (hN : Nat.blt d N = true) (ho : o.op = .box T x) (hx : ev ps x = some v) (hc' : ∀ w, Own M w0 w es → v.cells = cs.toArray)
    (h : ∀ b, J N M w0 ((d, bp b 0) :: ps) (.blk b cs T :: es) (wpList P ops Q rest)) : J N M w0 ps es (wpList P ops Q (o :: rest)) := fun a w hs how =>
  wpList_plain hg fun K hK => by
    have hc := hc' w how
    have hr : (execOp a.eval o).run P w = .ok (.value (bp w.heap.size 0)) (w.alloc (.cells cs.toArray T)) := by
      simp [execOp, ho, hs.eval hx, Instr.box, newVar, newRow, newObj, hc, bp, Sem.run]
    unfold Oper.wp
    rw [hr, Oper.upon_value, hd]
    exact hK _ _ (h _ _ _ (hs.put _ (blt_lt hN)) (how.alloc cs T))

theorem J.alloc {d : Nat} {T : TypeId} {z : Value} {cs : List Value} (hg : o.guard = none) (hd : o.dst = some d) (hN : Nat.blt d N = true) (ho : o.op = .alloc T) (hz : zeroP P T = some z) (hc : z.cells = cs.toArray)
    (h : ∀ b, J N M w0 ((d, bp b 0) :: ps) (.blk b cs T :: es) (wpList P ops Q rest)) : J N M w0 ps es (wpList P ops Q (o :: rest)) := fun a w hs how =>
  wpList_plain hg fun K hK => by
    have hr : (execOp a.eval o).run P w = .ok (.value (bp w.heap.size 0)) (w.alloc (.cells cs.toArray T)) := by
      simp [execOp, ho, Instr.alloc, run_zero hz, newVar, newRow, newObj, hc, bp, Sem.run]
    unfold Oper.wp
    rw [hr, Oper.upon_value, hd]
    exact hK _ _ (h _ _ _ (hs.put _ (blt_lt hN)) (how.alloc cs T))

theorem J.bs {d : Nat} {T E : TypeId} {n : Nat} {l : List (Nat × Operand)} {vs cs : List Value} (hg : o.guard = none) (hd : o.dst = some d) (hN : Nat.blt d N = true) (ho : o.op = .buildSlice T n l.toArray) (hl : evs ps (l.map (·.2)) = some vs)
    (hr : ∀ w, (Instr.buildSlice T n ((l.map (·.1)).zip vs).toArray).run P w = .ok (.slice (some ⟨w.heap.size, 0, none⟩) n n) (w.alloc (.cells cs.toArray E)))
    (h : ∀ b, J N M w0 ((d, .slice (some ⟨b, 0, none⟩) n n) :: ps) (.blk b cs E :: es) (wpList P ops Q rest)) : J N M w0 ps es (wpList P ops Q (o :: rest)) := fun a w hs how =>
  wpList_plain hg fun K hK => by
    have h1 : (l.map fun q => (q.1, a.eval q.2)) = (l.map (·.1)).zip vs := by
      rw [← hs.evals hl, List.map_map]
      clear hl hr ho
      induction l with
      | nil => rfl
      | cons q l ih => simp [ih]
    have h2 : (l.toArray.map fun q => (q.1, a.eval q.2)) = ((l.map (·.1)).zip vs).toArray := by simp [← h1]
    have hr' : (execOp a.eval o).run P w = .ok (.value (.slice (some ⟨w.heap.size, 0, none⟩) n n)) (w.alloc (.cells cs.toArray E)) := by
      simp only [execOp, ho]
      rw [h2]
      simp [hr]
    unfold Oper.wp
    rw [hr', Oper.upon_value, hd]
    exact hK _ _ (h _ _ _ (hs.put _ (blt_lt hN)) (how.alloc cs E))

/-- A block of the call's own that is a slice's array: as a row. -/
theorem Own.blkRow {M : List Nat} {w0 w : World} {es : List Ent} {b : Nat} {cs : List Value} {E sz n : Nat} (h : Own M w0 w (.blk b cs E :: es)) (hl : cs.length = n * sz) (hm : n ≤ maxLen) :
    Own M w0 w (.row (.slice (some ⟨b, 0, none⟩) n n) E sz n cs :: es) := by
  have hb : w.heap[b]? = some (.cells cs.toArray E (0, 0)) := h.holds (.blk b cs E) (by simp)
  refine h.turn rfl rfl rfl (Nat.le_refl _) (fun _ _ _ => rfl) ?_ ?_
  · exact ⟨hl, .inr ⟨b, n, cs.toArray, rfl, Nat.zero_le _, hb, Nat.le_refl _, hm, by simp [hl], by simp [← hl]⟩⟩
  · intro k hk
    simp only [Ent.foot, Value.ownBlock, Option.toList_some, List.mem_singleton] at hk ⊢
    exact .inl hk
theorem J.blkRow {b : Nat} {cs : List Value} {E n : Nat} (sz : Nat) (hl : cs.length = n * sz) (hm : Nat.ble n 9223372036854775807 = true) (h : ∀ v, v = .slice (some ⟨b, 0, none⟩) n n → J N M w0 ps (.row v E sz n cs :: es) K) : J N M w0 ps (.blk b cs E :: es) K :=
  fun a w hs how => h _ rfl a w hs (how.blkRow hl (by have := Nat.le_of_ble_eq_true hm; unfold maxLen; omega))

end
end G
end Go.Proofs.YtadggddaheipgaaDoor
