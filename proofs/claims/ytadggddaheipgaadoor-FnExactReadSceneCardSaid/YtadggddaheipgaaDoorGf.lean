/- How lists, arrays and structs lie in cells; reads, stores and appends in those words. No condition. -/
import Derived.Test.YtadggddaheipgaaDoorGe
namespace Go.Proofs.YtadggddaheipgaaDoor
open Go Go.RowKit
namespace G

/-! ### Arrays of whole numbers -/

def encA (k : IntKind) {n : Nat} (v : Vector Int n) : List Value := v.toList.map (.int k)
def rdA {n : Nat} (v : Vector Int n) (i : Int) : Int := v.toList.getD i.toNat 0
def wrA {n : Nat} (v : Vector Int n) (i : Int) (x : Int) : Vector Int n := v.setIfInBounds i.toNat x
def zA (n : Nat) : Vector Int n := Vector.replicate n 0

theorem encA_len (k : IntKind) {n : Nat} (v : Vector Int n) : (encA k v).length = n := by simp [encA]
theorem encA_get (k : IntKind) {n : Nat} (v : Vector Int n) {i : Int} (h : inB i n = true) : (encA k v)[i.toNat]? = some (.int k (rdA v i)) := by
  have h1 := inB_nat h
  simp [encA, rdA, h1]
theorem encA_get0 (k : IntKind) {n : Nat} (v : Vector Int n) {i : Int} (h : inB i n = true) : (encA k v)[0 + i.toNat * 1]? = some (.int k (rdA v i)) := by
  rw [Nat.zero_add, Nat.mul_one]; exact encA_get k v h
theorem encA_lt (k : IntKind) {n : Nat} (v : Vector Int n) {i : Int} (h : inB i n = true) : Nat.blt (0 + i.toNat * 1) (encA k v).length = true := by
  rw [encA_len, Nat.zero_add, Nat.mul_one]; have := inB_nat h; simpa using this
theorem encA_set (k : IntKind) {n : Nat} (v : Vector Int n) (i : Int) (x : Int) : (encA k v).set (0 + i.toNat * 1) (.int k x) = encA k (wrA v i x) := by
  rw [Nat.zero_add, Nat.mul_one]
  simp [encA, wrA, List.map_set]
theorem encA_one (k : IntKind) {n : Nat} (v : Vector Int n) : ∀ u ∈ encA k v, u.oneCell' = true := by
  intro u hu
  obtain ⟨x, _, rfl⟩ := List.mem_map.1 hu
  rfl

/-! ### Elements -/

structure Enc (α : Type) where
  enc : α → List Value
  sz : Nat
  dflt : α
  len : ∀ x, (enc x).length = sz
  one : ∀ x, ∀ u ∈ enc x, u.oneCell' = true

def eI (k : IntKind) : Enc Int := ⟨fun x => [.int k x], 1, 0, fun _ => rfl, fun _ u hu => by simp at hu; subst hu; rfl⟩
def eB : Enc Bool := ⟨fun x => [.bool x], 1, false, fun _ => rfl, fun _ u hu => by simp at hu; subst hu; rfl⟩
def eT : Enc ByteArray := ⟨fun x => [.string x], 1, ByteArray.empty, fun _ => rfl, fun _ u hu => by simp at hu; subst hu; rfl⟩
def eA (k : IntKind) (n : Nat) : Enc (Vector Int n) := ⟨encA k, n, zA n, encA_len k, encA_one k⟩

def cells {α : Type} (e : Enc α) (xs : List α) : List Value := xs.flatMap e.enc
def rd {α : Type} (e : Enc α) (xs : List α) (i : Int) : α := xs.getD i.toNat e.dflt

theorem cells_nil {α : Type} (e : Enc α) : cells e [] = [] := rfl
theorem cells_cons {α : Type} (e : Enc α) (x : α) (xs : List α) : cells e (x :: xs) = e.enc x ++ cells e xs := rfl
theorem cells_append {α : Type} (e : Enc α) (xs ys : List α) : cells e (xs ++ ys) = cells e xs ++ cells e ys := by simp [cells]
theorem cells_snoc {α : Type} (e : Enc α) (xs : List α) (x : α) : cells e (xs ++ [x]) = cells e xs ++ e.enc x := by simp [cells]
theorem cells_len {α : Type} (e : Enc α) : ∀ xs : List α, (cells e xs).length = xs.length * e.sz
  | [] => by simp [cells]
  | x :: xs => by rw [cells_cons, List.length_append, e.len, cells_len e xs, List.length_cons, Nat.add_mul, Nat.one_mul, Nat.add_comm]
theorem cells_one {α : Type} (e : Enc α) (xs : List α) : ∀ u ∈ cells e xs, u.oneCell' = true := by
  intro u hu
  obtain ⟨x, _, hx⟩ := List.mem_flatMap.1 hu
  exact e.one x u hx
theorem cells_drop {α : Type} (e : Enc α) : ∀ (i : Nat) (xs : List α), (cells e xs).drop (i * e.sz) = cells e (xs.drop i)
  | 0, xs => by simp
  | i + 1, [] => by simp [cells]
  | i + 1, x :: xs => by
    rw [cells_cons, List.drop_succ_cons, Nat.add_mul, Nat.one_mul, Nat.add_comm, ← List.drop_drop, ← cells_drop e i xs]
    congr 1
    rw [List.drop_append_of_le_length (by rw [e.len]; exact Nat.le_refl _)]
    simp [List.drop_of_length_le, e.len]
theorem cells_take {α : Type} (e : Enc α) : ∀ (i : Nat) (xs : List α), (cells e xs).take (i * e.sz) = cells e (xs.take i)
  | 0, xs => by simp [cells]
  | i + 1, [] => by simp [cells]
  | i + 1, x :: xs => by
    rw [cells_cons, List.take_succ_cons, cells_cons, Nat.add_mul, Nat.one_mul, Nat.add_comm, ← cells_take e i xs]
    rw [show e.sz + i * e.sz = (e.enc x).length + i * e.sz by rw [e.len], List.take_length_add_append]
theorem rd_at {α : Type} (e : Enc α) (xs : List α) {i : Int} (h : inB i xs.length = true) : xs.drop i.toNat = rd e xs i :: xs.drop (i.toNat + 1) := by
  have h1 := inB_nat h
  rw [List.drop_eq_getElem_cons h1]
  simp [rd, List.getD_eq_getElem?_getD, h1]
theorem cells_get {α : Type} (e : Enc α) (xs : List α) {i : Int} {j : Nat} {u : Value} (h : inB i xs.length = true) (hu : (e.enc (rd e xs i))[j]? = some u) : (cells e xs)[i.toNat * e.sz + j]? = some u := by
  have h2 : ((cells e xs).drop (i.toNat * e.sz))[j]? = some u := by
    rw [cells_drop, rd_at e xs h, cells_cons]
    rw [List.getElem?_append_left (List.getElem?_eq_some_iff.1 hu).1]
    exact hu
  rwa [List.getElem?_drop] at h2
theorem cells_whole {α : Type} (e : Enc α) (xs : List α) {i : Int} (h : inB i xs.length = true) : ((cells e xs).drop (i.toNat * e.sz)).take e.sz = e.enc (rd e xs i) := by
  rw [cells_drop, rd_at e xs h, cells_cons, List.take_append_of_le_length (by rw [e.len]; exact Nat.le_refl _), List.take_of_length_le (by rw [e.len]; exact Nat.le_refl _)]
theorem cells_set {α : Type} (e : Enc α) : ∀ (xs : List α) (i : Nat) (j : Nat) (u : Value) (x' : α), (h : i < xs.length) → j < e.sz → e.enc x' = (e.enc (xs[i])).set j u → (cells e xs).set (i * e.sz + j) u = cells e (xs.set i x')
  | [], _, _, _, _, h, _, _ => by simp at h
  | x :: xs, 0, j, u, x', _, hj, hx => by
    simp only [List.getElem_cons_zero] at hx
    rw [Nat.zero_mul, Nat.zero_add, cells_cons, List.set_cons_zero, cells_cons, hx, List.set_append_left _ _ (by rw [e.len]; exact hj)]
  | x :: xs, i + 1, j, u, x', h, hj, hx => by
    simp only [List.getElem_cons_succ] at hx
    rw [cells_cons, List.set_cons_succ, cells_cons, ← cells_set e xs i j u x' (by simpa using h) hj hx, List.set_append_right _ _ (by rw [e.len, Nat.add_mul]; omega)]
    congr 2
    rw [e.len, Nat.add_mul]; omega
theorem lt_of_in {i : Int} {n : Nat} (h : inB i n = true) : Nat.blt 0 n = true := by have := inB_iff.1 h; simp; omega

/-- a slice of such elements that is read -/
abbrev SlE {α : Type} (M : List Nat) (w : World) (v : Value) (E : Nat) (e : Enc α) (xs : List α) : Prop := Sl M w v E e.sz xs.length (cells e xs)
abbrev Ent.rowE {α : Type} (v : Value) (E : Nat) (e : Enc α) (xs : List α) : Ent := .row v E e.sz xs.length (cells e xs)

section
variable {P : Program} {N : Nat} {M : List Nat} {w0 : World} {ps : List (Nat × Value)} {es : List Ent} {K : Act → World → Prop} {Q : Exit → Act → World → Prop}
  {ops : Array Oper} {o : Oper} {rest : List Oper} {α : Type}

theorem J.setEnt (i : Nat) {e' : Ent} {e : Ent} (hi : es[i]? = some e) (he : e = e') (h : J N M w0 ps (es.set i e') K) : J N M w0 ps es K := by
  subst he
  have : es.set i e = es := by
    apply List.ext_getElem?
    intro j
    rw [List.getElem?_set]
    split
    · rename_i e1; subst e1
      split
      · exact hi.symm
      · rename_i hlt; simp [List.getElem?_eq_none (Nat.le_of_not_lt hlt)] at hi
    · rfl
  rw [this] at h
  exact h

/-- field j of element i of a slice that is read -/
theorem V.elS {T : TypeId} {d : TypeDesc} {x : Operand} {v u : Value} {E j : Nat} {e : Enc α} {xs : List α} {i : Int} (hS : SlE M w0 v E e xs) (hi : inB i xs.length = true) (ho : o.op = .load T x) (hx : ev ps x = some (sp v (i.toNat * e.sz + j)))
    (hu : P.underlying T = some d) (ha : aggB P T = false) (hc : (e.enc (rd e xs i))[j]? = some u) : OpV P N M w0 ps es o u :=
  V.ldS hS ho hx hu ha (lt_of_in hi) (cells_get e xs hi hc)
/-- element i (of one cell) -/
theorem V.elS0 {T : TypeId} {d : TypeDesc} {x : Operand} {v u : Value} {E : Nat} {e : Enc α} {xs : List α} {i : Int} (hS : SlE M w0 v E e xs) (hi : inB i xs.length = true) (ho : o.op = .load T x) (hx : ev ps x = some (sp v (i.toNat * e.sz)))
    (hu : P.underlying T = some d) (ha : aggB P T = false) (hc : (e.enc (rd e xs i))[0]? = some u) : OpV P N M w0 ps es o u :=
  V.ldS hS ho hx hu ha (lt_of_in hi) (cells_get e xs (j := 0) hi hc)
/-- element i, whole (of several cells) -/
theorem V.elSA {T : TypeId} {x : Operand} {v : Value} {E : Nat} {e : Enc α} {xs : List α} {i : Int} (hS : SlE M w0 v E e xs) (hi : inB i xs.length = true) (ho : o.op = .load T x) (hx : ev ps x = some (sp v (i.toNat * e.sz)))
    (hsz : sizeP P T = some e.sz) (ha : aggB P T = true) : OpV P N M w0 ps es o (.agg (e.enc (rd e xs i)).toArray) :=
  V.ldSA hS ho hx hsz ha (lt_of_in hi) (cells_whole e xs hi) (e.len _)
theorem V.elR {T : TypeId} {d : TypeDesc} {x : Operand} {v u : Value} {E j : Nat} {e : Enc α} {xs : List α} {i : Int} (k : Nat) (hk : es[k]? = some (.rowE v E e xs)) (hi : inB i xs.length = true) (ho : o.op = .load T x) (hx : ev ps x = some (sp v (i.toNat * e.sz + j)))
    (hu : P.underlying T = some d) (ha : aggB P T = false) (hc : (e.enc (rd e xs i))[j]? = some u) : OpV P N M w0 ps es o u :=
  V.ldR k ho hx hk hu ha (lt_of_in hi) (cells_get e xs hi hc)
theorem V.elR0 {T : TypeId} {d : TypeDesc} {x : Operand} {v u : Value} {E : Nat} {e : Enc α} {xs : List α} {i : Int} (k : Nat) (hk : es[k]? = some (.rowE v E e xs)) (hi : inB i xs.length = true) (ho : o.op = .load T x) (hx : ev ps x = some (sp v (i.toNat * e.sz)))
    (hu : P.underlying T = some d) (ha : aggB P T = false) (hc : (e.enc (rd e xs i))[0]? = some u) : OpV P N M w0 ps es o u :=
  V.ldR k ho hx hk hu ha (lt_of_in hi) (cells_get e xs (j := 0) hi hc)
theorem V.elRA {T : TypeId} {x : Operand} {v : Value} {E : Nat} {e : Enc α} {xs : List α} {i : Int} (k : Nat) (hk : es[k]? = some (.rowE v E e xs)) (hi : inB i xs.length = true) (ho : o.op = .load T x) (hx : ev ps x = some (sp v (i.toNat * e.sz)))
    (hsz : sizeP P T = some e.sz) (ha : aggB P T = true) : OpV P N M w0 ps es o (.agg (e.enc (rd e xs i)).toArray) :=
  V.ldRA k ho hx hk hsz ha (lt_of_in hi) (cells_whole e xs hi) (e.len _)

/-- 'xs = append(xs, x)', x just laid -/
theorem J.ap1 {T E bytes d b : Nat} {x y : Operand} {v : Value} {e : Enc α} {xs : List α} {inf : TypeInfo} {z : Value} (i j : Nat) (el : α) (hroom : roomB xs.length 1 bytes = true) (hinf : P.info? E = some inf) (hT : slE P T = some E) (hz : inf.zero = some z) (hsz : inf.size = e.sz) (hby : inf.bytes = bytes) (hzs : z.cells.size = e.sz) (h0 : Nat.blt 0 e.sz = true)
    (hg : o.guard = none) (hd : o.dst = some d) (hN : Nat.blt d N = true)
    (ho : o.op = .call { callee := .builtin .append, args := #[x, y], argTypes := #[T, T] }) (hx : ev ps x = some v) (hy : ev ps y = some (.slice (some ⟨b, 0, none⟩) 1 1)) (hi : es[i]? = some (.rowE v E e xs)) (hj : es[j]? = some (.blk b (e.enc el) E))
    (h : ∀ v', J N M w0 ((d, v') :: ps) (es.set i (.rowE v' E e (xs ++ [el]))) (wpList P ops Q rest)) : J N M w0 ps es (wpList P ops Q (o :: rest)) :=
  J.apB i j hg hd hN ho hx hy hi hj hT hinf hz hsz hby hzs h0 (by rw [e.len, Nat.one_mul]) (e.one el) hroom fun v' => by
    have := h v'
    unfold Ent.rowE at this
    rw [cells_snoc, List.length_append] at this
    exact this

/-- 'xs = append(xs, ys...)', ys a slice that is read -/
theorem J.ap2 {T E bytes d : Nat} {x y : Operand} {v vy : Value} {e : Enc α} {xs ys : List α} {inf : TypeInfo} {z : Value} (i : Nat) (hS : SlE M w0 vy E e ys) (hroom : roomB xs.length ys.length bytes = true) (hinf : P.info? E = some inf) (hT : slE P T = some E) (hz : inf.zero = some z) (hsz : inf.size = e.sz) (hby : inf.bytes = bytes) (hzs : z.cells.size = e.sz) (h0 : Nat.blt 0 e.sz = true)
    (hg : o.guard = none) (hd : o.dst = some d) (hN : Nat.blt d N = true)
    (ho : o.op = .call { callee := .builtin .append, args := #[x, y], argTypes := #[T, T] }) (hx : ev ps x = some v) (hy : ev ps y = some vy) (hi : es[i]? = some (.rowE v E e xs))
    (h : ∀ v', J N M w0 ((d, v') :: ps) (es.set i (.rowE v' E e (xs ++ ys))) (wpList P ops Q rest)) : J N M w0 ps es (wpList P ops Q (o :: rest)) :=
  J.apS i hS hg hd hN ho hx hy hi hT hinf hz hsz hby hzs h0 (cells_one e ys) hroom fun v' => by
    have := h v'
    unfold Ent.rowE at this
    rw [cells_append, List.length_append] at this
    exact this

/-- 'xs = append(xs, ys...)', ys another row of the call's own -/
theorem J.ap3 {T E bytes d : Nat} {x y : Operand} {v vy : Value} {e : Enc α} {xs ys : List α} {inf : TypeInfo} {z : Value} (i j : Nat) (hj : es[j]? = some (.rowE vy E e ys)) (hroom : roomB xs.length ys.length bytes = true) (hinf : P.info? E = some inf) (hT : slE P T = some E) (hz : inf.zero = some z) (hsz : inf.size = e.sz) (hby : inf.bytes = bytes) (hzs : z.cells.size = e.sz) (h0 : Nat.blt 0 e.sz = true)
    (hg : o.guard = none) (hd : o.dst = some d) (hN : Nat.blt d N = true)
    (ho : o.op = .call { callee := .builtin .append, args := #[x, y], argTypes := #[T, T] }) (hx : ev ps x = some v) (hy : ev ps y = some vy) (hi : es[i]? = some (.rowE v E e xs))
    (h : ∀ v', J N M w0 ((d, v') :: ps) (es.set i (.rowE v' E e (xs ++ ys))) (wpList P ops Q rest)) : J N M w0 ps es (wpList P ops Q (o :: rest)) :=
  J.apR i j hj hg hd hN ho hx hy hi hT hinf hz hsz hby hzs h0 (cells_len e ys) (cells_one e ys) hroom fun v' => by
    have := h v'
    unfold Ent.rowE at this
    rw [cells_append, List.length_append] at this
    exact this

theorem J.nilRow (E : Nat) (e : Enc α) (h : J N M w0 ps (.rowE (.slice none 0 0) E e [] :: es) K) : J N M w0 ps es K := fun a w hs how => h a w hs
  ⟨how.os, how.tape, how.output, how.size, how.frame, fun x hx => by
    rcases List.mem_cons.1 hx with rfl | hx
    · exact ⟨by simp [cells], .inl ⟨rfl, rfl⟩⟩
    · exact how.holds x hx, fun x hx k hk => by
    rcases List.mem_cons.1 hx with rfl | hx
    · simp [Ent.foot, Value.ownBlock] at hk
    · exact how.mine x hx k hk, List.Pairwise.cons (fun x _ k hk => by simp [Ent.foot, Value.ownBlock] at hk) how.apart⟩

/-- a block just laid ('[]T{..}') as a row -/
theorem J.blkRowE {b E : Nat} (e : Enc α) (xs : List α) {cs : List Value} (n : Nat) (hc : cs = cells e xs) (hn : n = xs.length) (hm : Nat.ble n 9223372036854775807 = true) (h : J N M w0 ps (.rowE (.slice (some ⟨b, 0, none⟩) n n) E e xs :: es) K) : J N M w0 ps (.blk b cs E :: es) K := by
  subst hc hn
  exact J.blkRow e.sz (cells_len e xs) hm fun v hv => hv ▸ h

/-! ### What calls are given and leave -/

theorem Sl.later0 {w : World} {v : Value} {E sz n : Nat} {cs : List Value} (h : Sl M w0 v E sz n cs) (H : Own M w0 w es) : Sl [] w v E sz n cs := h.later H (by simp)
theorem Own.sl0 {w : World} {v : Value} {E sz n : Nat} {cs : List Value} (i : Nat) (H : Own M w0 w es) (hi : es[i]? = some (.row v E sz n cs)) : Sl [] w v E sz n cs := Sl.ofRow (H.at hi) (by simp)
theorem Sl.nil {w : World} {E : Nat} (e : Enc α) : SlE M w (.slice none 0 0) E e [] := ⟨by simp [cells], none, 0, rfl, Nat.le_refl _, fun _ => ⟨rfl, rfl⟩, fun h => absurd h (Nat.lt_irrefl _)⟩
theorem Sl.arr {w : World} {b T E : Nat} {k : IntKind} {n : Nat} {v : Vector Int n} (h : Ent.holds w (.blk b (encA k v) T)) : SlE [] w (.slice (some ⟨b, 0, none⟩) n n) E (eI k) v.toList := by
  have hc : encA k v = cells (eI k) v.toList := by
    unfold encA cells
    induction v.toList with
    | nil => rfl
    | cons x l ih => simp [ih, eI]
  rw [hc] at h
  have hl : v.toList.length = n := by simp
  have := Sl.ofBlk (M' := []) (E := E) (sz := 1) (n := n) h (by rw [cells_len, hl]; rfl) (by simp)
  unfold SlE
  rw [hl]
  exact this
/-- What a call of 'f' must find in the program. -/
def CallsFn (P : Program) (f : FuncId) : Prop := ∃ fn, P.funcs[f]? = some fn ∧ (fn.name == "runtime.NumGoroutine") = false ∧ fn.body.isNone = false
theorem callsFn {f : FuncId} {fn : Func} (h : P.funcs[f]? = some fn) (h1 : (fn.name == "runtime.NumGoroutine") = false) (h2 : fn.body.isNone = false) : CallsFn P f := ⟨fn, h, h1, h2⟩

theorem J.cl {γ : Type} {d f : Nat} {at_ : Array TypeId} {x : Operand} {l : List Operand} {cap : Array Value} {args : List Value} {V : γ → Value} (esA esB : List Ent) {esR : γ → List Ent} {M' : List Nat} (hfn : CallsFn P f)
    (hw : ∀ a, Sees N a ps → Region.wanted o (yielded ops a.tmps) = true) (hd : o.dst = some d) (hN : Nat.blt d N = true) (ho : o.op = .call { callee := .value x, args := l.toArray, argTypes := at_ })
    (hx : ev ps x = some (.func (.func f) #[] cap)) (hl : evs ps l = some args) (hes : es = esA ++ esB) (hM : ∀ k ∈ M', ∃ e ∈ esA, k ∈ e.foot)
    (hc : ∀ w, Own M w0 w es → Calls P f (args.toArray ++ cap) w (fun e w' => ∃ g, e = .returned (V g) ∧ Own M' w w' (esR g)))
    (h : ∀ g, J N M w0 ((d, V g) :: ps) (esR g ++ esB) (wpList P ops Q rest)) : J N M w0 ps es (wpList P ops Q (o :: rest)) := by
  obtain ⟨fn, h1, h2, h3⟩ := hfn
  exact J.call (c := ⟨.value x, l.toArray, at_⟩) esA esB esR M' hw hd hN ho hx hl h1 h2 h3 hes hM hc h

/-! ### Results that lie in variables -/

theorem J.retC {fn : Func} {R : Ending → World → Prop} {t T m b T0 : Nat} {cs : List Value} (i : Nat) (h : fn.results = #[.cell t T]) (ht : lk ps t = some (bp b 0)) (hi : es[i]? = some (.blk b cs T0)) (hsz : sizeP P T = some m) (ha : aggB P T = true) (hl : cs.length = m)
    (hR : ∀ w, Own M w0 w es → R (.returned (.agg cs.toArray)) w) : J N M w0 ps es (bodyPost P fn R .ret) := fun a w hs how => by
  refine ⟨hs.defs, _, ?_, hR w how⟩
  obtain ⟨ad, hp, hcell⟩ := Pt.blk (k := 0) (how.at hi)
  have h1 : a.tmps.getD t undef = bp b 0 := by simp [Array.getD_eq_getD_getElem?, hs.has t _ ht]
  rw [hp] at h1
  have h2 := run_loadA (P := P) (w := w) hsz ha (a := ad) (cs := cs) hl (by simpa using hcell)
  simp only [Array.getD_eq_getD_getElem?] at h1
  simp [results, h, h1, asAddr, h2]

theorem J.retC0 {fn : Func} {R : Ending → World → Prop} {t T b T0 : Nat} {d : TypeDesc} {u : Value} {cs : List Value} (i : Nat) (h : fn.results = #[.cell t T]) (ht : lk ps t = some (bp b 0)) (hi : es[i]? = some (.blk b cs T0)) (hu : P.underlying T = some d) (ha : aggB P T = false) (hc : cs[0]? = some u)
    (hR : ∀ w, Own M w0 w es → R (.returned u) w) : J N M w0 ps es (bodyPost P fn R .ret) := fun a w hs how => by
  refine ⟨hs.defs, _, ?_, hR w how⟩
  obtain ⟨ad, hp, hcell⟩ := Pt.blk (k := 0) (how.at hi)
  have h1 : a.tmps.getD t undef = bp b 0 := by simp [Array.getD_eq_getD_getElem?, hs.has t _ ht]
  rw [hp] at h1
  have h2 := run_load1 (P := P) (w := w) hu ha (a := ad) (u := u) (by have := hcell 0 u (by simpa using hc); exact this)
  simp only [Array.getD_eq_getD_getElem?] at h1
  simp [results, h, h1, asAddr, h2]

theorem J.retC_1 {fn : Func} {R : Ending → World → Prop} {t T m b T0 u0 : Nat} {cs : List Value} {v0 : Value} (i : Nat) (h : fn.results = #[.cell t T, .tmp u0]) (ht : lk ps t = some (bp b 0)) (hi : es[i]? = some (.blk b cs T0)) (hsz : sizeP P T = some m) (ha : aggB P T = true) (hl : cs.length = m)
    (hu0 : lk ps u0 = some v0) (hR : ∀ w, Own M w0 w es → R (.returned (.tuple #[.agg cs.toArray, v0])) w) : J N M w0 ps es (bodyPost P fn R .ret) := fun a w hs how => by
  refine ⟨hs.defs, _, ?_, hR w how⟩
  obtain ⟨ad, hp, hcell⟩ := Pt.blk (k := 0) (how.at hi)
  have h1 : a.tmps.getD t undef = bp b 0 := by simp [Array.getD_eq_getD_getElem?, hs.has t _ ht]
  rw [hp] at h1
  have h2 := run_loadA (P := P) (w := w) hsz ha (a := ad) (cs := cs) hl (by simpa using hcell)
  simp only [Array.getD_eq_getD_getElem?] at h1
  simp [results, h, h1, asAddr, h2, hs.has u0 _ hu0]

theorem J.retC_2 {fn : Func} {R : Ending → World → Prop} {t T m b T0 u0 u1 : Nat} {cs : List Value} {v0 v1 : Value} (i : Nat) (h : fn.results = #[.cell t T, .tmp u0, .tmp u1]) (ht : lk ps t = some (bp b 0)) (hi : es[i]? = some (.blk b cs T0)) (hsz : sizeP P T = some m) (ha : aggB P T = true) (hl : cs.length = m)
    (hu0 : lk ps u0 = some v0) (hu1 : lk ps u1 = some v1) (hR : ∀ w, Own M w0 w es → R (.returned (.tuple #[.agg cs.toArray, v0, v1])) w) : J N M w0 ps es (bodyPost P fn R .ret) := fun a w hs how => by
  refine ⟨hs.defs, _, ?_, hR w how⟩
  obtain ⟨ad, hp, hcell⟩ := Pt.blk (k := 0) (how.at hi)
  have h1 : a.tmps.getD t undef = bp b 0 := by simp [Array.getD_eq_getD_getElem?, hs.has t _ ht]
  rw [hp] at h1
  have h2 := run_loadA (P := P) (w := w) hsz ha (a := ad) (cs := cs) hl (by simpa using hcell)
  simp only [Array.getD_eq_getD_getElem?] at h1
  simp [results, h, h1, asAddr, h2, hs.has u0 _ hu0, hs.has u1 _ hu1]

theorem J.retC_3 {fn : Func} {R : Ending → World → Prop} {t T m b T0 u0 u1 u2 : Nat} {cs : List Value} {v0 v1 v2 : Value} (i : Nat) (h : fn.results = #[.cell t T, .tmp u0, .tmp u1, .tmp u2]) (ht : lk ps t = some (bp b 0)) (hi : es[i]? = some (.blk b cs T0)) (hsz : sizeP P T = some m) (ha : aggB P T = true) (hl : cs.length = m)
    (hu0 : lk ps u0 = some v0) (hu1 : lk ps u1 = some v1) (hu2 : lk ps u2 = some v2) (hR : ∀ w, Own M w0 w es → R (.returned (.tuple #[.agg cs.toArray, v0, v1, v2])) w) : J N M w0 ps es (bodyPost P fn R .ret) := fun a w hs how => by
  refine ⟨hs.defs, _, ?_, hR w how⟩
  obtain ⟨ad, hp, hcell⟩ := Pt.blk (k := 0) (how.at hi)
  have h1 : a.tmps.getD t undef = bp b 0 := by simp [Array.getD_eq_getD_getElem?, hs.has t _ ht]
  rw [hp] at h1
  have h2 := run_loadA (P := P) (w := w) hsz ha (a := ad) (cs := cs) hl (by simpa using hcell)
  simp only [Array.getD_eq_getD_getElem?] at h1
  simp [results, h, h1, asAddr, h2, hs.has u0 _ hu0, hs.has u1 _ hu1, hs.has u2 _ hu2]

/-! ### Function values that only read -/

theorem Ent.later {w w' : World} {e : Ent} (h : e.holds w) (H : Own [] w w' []) : e.holds w' :=
  Ent.kept h fun k hk => H.frame k (Ent.lt h hk) (by simp)
theorem Own.none {w : World} (H : Own [] w0 w es) : Own [] w0 w [] := H.drop (List.nil_sublist _)

end
end G
end Go.Proofs.YtadggddaheipgaaDoor
