/- What a call is given and leaves, for whatever entries; pointers that are only read; parts of slices; 'make'; stores into elements. No condition. -/
import Derived.Test.YtadggddaheipgaaDoorGm
set_option linter.unusedVariables false
namespace Go.Proofs.YtadggddaheipgaaDoor
open Go Go.RowKit
namespace G

/-- the blocks of some entries -/
def Mof (es : List Ent) : List Nat := es.flatMap Ent.foot
theorem mem_Mof {es : List Ent} {k : Nat} : k ∈ Mof es ↔ ∃ e ∈ es, k ∈ e.foot := by simp [Mof, List.mem_flatMap]

/-- 'v' points to the cells 'cs'; their block is none of 'M'. -/
def Rp (M : List Nat) (w : World) (v : Value) (cs : List Value) : Prop := ∃ ad cur T fr, v = .pointer (some ad) ∧ ad.spot = none ∧ ad.block ∉ M ∧ w.heap[ad.block]? = some (.cells cur T fr) ∧ ∀ j u, cs[j]? = some u → cur[ad.off + j]? = some u

def pp (v : Value) (k : Nat) : Value := match v with
  | .pointer (some ad) => .pointer (some (ad.add k))
  | _ => undef
def slp (v : Value) (n : Nat) : Value := match v with
  | .pointer (some ad) => .slice (some ad) n n
  | _ => undef

/-! ### Arrays' cells, and slices of whole numbers as vectors -/

theorem encA_get1 (k : IntKind) {n : Nat} (v : Vector Int n) {i : Int} (h : inB i n = true) : (encA k v)[i.toNat * 1]? = some (.int k (rdA v i)) := by
  rw [Nat.mul_one]; exact encA_get k v h
theorem encA_lt1 (k : IntKind) {n : Nat} (v : Vector Int n) {i : Int} (h : inB i n = true) : Nat.blt (i.toNat * 1) (encA k v).length = true := by
  rw [encA_len, Nat.mul_one]; have := inB_nat h; simpa using this
theorem encA_set1 (k : IntKind) {n : Nat} (v : Vector Int n) (i : Int) (x : Int) : (encA k v).set (i.toNat * 1) (.int k x) = encA k (wrA v i x) := by
  have := encA_set k v i x
  rwa [Nat.zero_add] at this
theorem map_cells (k : IntKind) : ∀ l : List Int, l.map (Value.int k) = cells (eI k) l
  | [] => rfl
  | x :: l => by rw [List.map_cons, cells_cons, map_cells k l]; rfl
def vecOf (xs : List Int) : Vector Int xs.length := ⟨xs.toArray, by simp⟩
theorem encA_vecOf (k : IntKind) (xs : List Int) : encA k (vecOf xs) = cells (eI k) xs := by
  have : (vecOf xs).toList = xs := by simp [vecOf]
  unfold encA
  rw [this]
  exact map_cells k xs
theorem cells_toList (k : IntKind) {n : Nat} (v : Vector Int n) : cells (eI k) v.toList = encA k v := (map_cells k v.toList).symm

section
variable {P : Program} {N : Nat} {M : List Nat} {w0 : World} {ps : List (Nat × Value)} {es esA esB : List Ent} {K : Act → World → Prop} {Q : Exit → Act → World → Prop}
  {ops : Array Oper} {o : Oper} {rest : List Oper} {α : Type}

theorem Own.enterA {w : World} (H : Own M w0 w (esA ++ esB)) : Own (Mof esA) w w esA :=
  H.enter (List.sublist_append_left _ _) (fun e he k hk => mem_Mof.2 ⟨e, he, hk⟩)
theorem mineA {w : World} (H : Own M w0 w (esA ++ esB)) : ∀ k ∈ Mof esA, k ∈ M ∨ w0.heap.size ≤ k := fun k hk => by
  obtain ⟨e, he, hf⟩ := mem_Mof.1 hk
  exact H.mine e (List.mem_append_left _ he) k hf
theorem apartA {w : World} {i : Nat} {e : Ent} (H : Own M w0 w (esA ++ esB)) (hi : esB[i]? = some e) : ∀ k ∈ Mof esA, k ∉ e.foot := fun k hk hv => by
  obtain ⟨e', he, hf⟩ := mem_Mof.1 hk
  exact (List.pairwise_append.1 H.apart).2.2 e' he e (List.mem_of_getElem? hi) k hf hv
theorem atB {w : World} {i : Nat} {e : Ent} (H : Own M w0 w (esA ++ esB)) (hi : esB[i]? = some e) : Ent.holds w e := H.holds e (List.mem_append_right _ (List.mem_of_getElem? hi))
theorem Sl.laterA {w : World} {v : Value} {E sz n : Nat} {cs : List Value} (h : Sl M w0 v E sz n cs) (H : Own M w0 w (esA ++ esB)) : Sl (Mof esA) w v E sz n cs := h.later H (mineA H)
theorem Own.slA {w : World} {v : Value} {E sz n : Nat} {cs : List Value} (i : Nat) (H : Own M w0 w (esA ++ esB)) (hi : esB[i]? = some (.row v E sz n cs)) : Sl (Mof esA) w v E sz n cs :=
  Sl.ofRow (atB H hi) fun k hk hv => apartA H hi k hk (mem_foot_row.2 hv)
theorem Own.arrA {w : World} {b T E : Nat} {k : IntKind} {n : Nat} {v : Vector Int n} (i : Nat) (H : Own M w0 w (esA ++ esB)) (hi : esB[i]? = some (.blk b (encA k v) T)) : SlE (Mof esA) w (.slice (some ⟨b, 0, Option.none⟩) n n) E (eI k) v.toList := by
  have h := atB H hi
  have hc : encA k v = cells (eI k) v.toList := by
    unfold encA cells
    induction v.toList with
    | nil => rfl
    | cons x l ih => simp [ih, eI]
  rw [hc] at h
  have hl : v.toList.length = n := by simp
  have := Sl.ofBlk (M' := Mof esA) (E := E) (sz := 1) (n := n) h (by rw [cells_len, hl]; rfl) (fun hm => apartA H hi b hm (by simp [Ent.foot]))
  unfold SlE
  rw [hl]
  exact this

/-! ### Pointers that are only read -/

theorem Rp.later {M' : List Nat} {w : World} {v : Value} {cs : List Value} (h : Rp M w0 v cs) (ho : Own M w0 w es) (hM : ∀ k ∈ M', k ∈ M ∨ w0.heap.size ≤ k) : Rp M' w v cs := by
  obtain ⟨ad, cur, T, fr, hv, hs, hm, hb, hc⟩ := h
  have hlt : ad.block < w0.heap.size := (Array.getElem?_eq_some_iff.1 hb).1
  refine ⟨ad, cur, T, fr, hv, hs, fun hmem => ?_, ?_, hc⟩
  · rcases hM _ hmem with h1 | h1
    · exact hm h1
    · omega
  · rw [ho.frame _ hlt hm]; exact hb
theorem Rp.laterA {w : World} {v : Value} {cs : List Value} (h : Rp M w0 v cs) (H : Own M w0 w (esA ++ esB)) : Rp (Mof esA) w v cs := h.later H (mineA H)
theorem Rp.none {w : World} {v : Value} {cs : List Value} (h : Rp M w v cs) {w' : World} (H : Own [] w w' []) : Rp [] w' v cs := by
  obtain ⟨ad, cur, T, fr, hv, hs, hm, hb, hc⟩ := h
  have hlt : ad.block < w.heap.size := (Array.getElem?_eq_some_iff.1 hb).1
  exact ⟨ad, cur, T, fr, hv, hs, by simp, by rw [H.frame _ hlt (by simp)]; exact hb, hc⟩
theorem Sl.none {w w' : World} {v : Value} {E sz n : Nat} {cs : List Value} (h : Sl M w v E sz n cs) (H : Own [] w w' []) : Sl [] w' v E sz n cs := h.drop.later H (by simp)
theorem Own.rpA {w : World} {b T : Nat} {cs : List Value} (i : Nat) (H : Own M w0 w (esA ++ esB)) (hi : esB[i]? = some (.blk b cs T)) : Rp (Mof esA) w (bp b 0) cs :=
  ⟨⟨b, 0, Option.none⟩, cs.toArray, T, (0, 0), rfl, rfl, fun hm => apartA H hi b hm (by simp [Ent.foot]), atB H hi, fun j u hu => by simpa using hu⟩
theorem Sl.rp {w : World} {v : Value} {E : Nat} {e : Enc α} {xs : List α} {i : Int} (h : SlE M w v E e xs) (hi : inB i xs.length = true) : Rp M w (sp v (i.toNat * e.sz)) (e.enc (rd e xs i)) := by
  obtain ⟨hl, A, c, rfl, hc, _, hr⟩ := h
  obtain ⟨ad, cur, T, fr, rfl, hs, hm, hb, hcell⟩ := hr (blt_lt (lt_of_in hi))
  have e1 := add_of hs (i.toNat * e.sz)
  refine ⟨ad.add (i.toNat * e.sz), cur, T, fr, rfl, by rw [e1], by rw [e1]; exact hm, by rw [e1]; exact hb, fun j u hu => ?_⟩
  have := hcell _ _ (cells_get e xs hi hu)
  rw [e1, Nat.add_assoc]
  exact this
theorem Pt.rp {w : World} {v : Value} {cs : List Value} (h : Rp M w v cs) : Pt w v cs := by
  obtain ⟨ad, cur, T, fr, rfl, hs, _, hb, hc⟩ := h
  refine ⟨ad, rfl, fun j u hu => ?_⟩
  rw [add_of hs, cell_of_row w ad.block (ad.off + j) cur T fr hb]
  exact hc j u hu
theorem Pt.rpk {w : World} {v : Value} {cs : List Value} (h : Rp M w v cs) (k : Nat) : Pt w (pp v k) (cs.drop k) := by
  obtain ⟨ad, cur, T, fr, rfl, hs, _, hb, hc⟩ := h
  refine ⟨ad.add k, rfl, fun j u hu => ?_⟩
  rw [List.getElem?_drop] at hu
  rw [add_of hs, add_none, cell_of_row w ad.block (ad.off + k + j) cur T fr hb, Nat.add_assoc]
  exact hc _ u hu
theorem Rp.same {w : World} {v : Value} {cs : List Value} (h : Rp M w0 v cs) (ho : Own M w0 w es) : Rp M w v cs := h.later ho (fun k hk => .inl hk)

theorem V.ldP0 {T : TypeId} {d : TypeDesc} {x : Operand} {v u : Value} {cs : List Value} (hP : Rp M w0 v cs) (ho : o.op = .load T x) (hx : ev ps x = some v) (hu : P.underlying T = some d) (ha : aggB P T = false) (hc : cs[0]? = some u) : OpV P N M w0 ps es o u :=
  V.ld (cs := cs) ho hx hu ha hc fun w how => Pt.rp (hP.same how)
theorem V.ldPk {T : TypeId} {d : TypeDesc} {x : Operand} {v u : Value} {k : Nat} {cs : List Value} (hP : Rp M w0 v cs) (ho : o.op = .load T x) (hx : ev ps x = some (pp v k)) (hu : P.underlying T = some d) (ha : aggB P T = false) (hc : cs[k]? = some u) : OpV P N M w0 ps es o u :=
  V.ld (cs := cs.drop k) ho hx hu ha (by rw [List.getElem?_drop]; simpa using hc) fun w how => Pt.rpk (hP.same how) k
theorem V.ldPW {T : TypeId} {m : Nat} {x : Operand} {v : Value} {cs : List Value} (hP : Rp M w0 v cs) (ho : o.op = .load T x) (hx : ev ps x = some v) (hsz : sizeP P T = some m) (ha : aggB P T = true) (hl : cs.length = m) : OpV P N M w0 ps es o (.agg cs.toArray) :=
  V.ldA (cs := cs) ho hx hsz ha hl fun w how => Pt.rp (hP.same how)
theorem V.faP0 {S : TypeId} {x : Operand} {v : Value} {f off : Nat} {cs : List Value} (hP : Rp M w0 v cs) (ho : o.op = .fieldAddr S x f) (hx : ev ps x = some v) (hf : fieldP P S f = some off) : OpV P N M w0 ps es o (pp v off) := fun a w hs _ => by
  obtain ⟨fs, fd, m, hu, hfd, hm, hne, rfl⟩ := fieldP_spec hf
  obtain ⟨ad, cur, T, fr, rfl, hsp, _⟩ := hP
  simp [execOp, ho, hs.eval hx, Instr.fieldAt, run_underlying hu, hfd, Instr.sureAddr, pp, run_fieldPlace hm hne]
theorem V.ixP0 {T E : TypeId} {x y : Operand} {v : Value} {n m : Nat} {kk : IntKind} {i : Int} {cs : List Value} (hP : Rp M w0 v cs) (ho : o.op = .indexAddr T x y) (hx : ev ps x = some v) (hy : ev ps y = some (.int kk i)) (hT : arE P T = some (n, E)) (hE : sizeP P E = some m)
    (hi : inB i n = true) : OpV P N M w0 ps es o (pp v (i.toNat * m)) := fun a w hs _ => by
  have h1 := inB_iff.1 hi
  obtain ⟨ad, cur, T, fr, rfl, hsp, _⟩ := hP
  simp [execOp, ho, hs.eval hx, hs.eval hy, Instr.indexAt, asIntOf, run_underlying (arE_und hT), Instr.sureAddr, pp, h1, run_sizeOf hE]
theorem V.ncP {x : Operand} {v : Value} {cs : List Value} (hP : Rp M w0 v cs) (ho : o.op = .nilCheck x) (hx : ev ps x = some v) : OpV P N M w0 ps es o v := fun a w hs _ => by
  obtain ⟨ad, cur, T, fr, rfl, hsp, _⟩ := hP
  simp [execOp, ho, hs.eval hx]
theorem V.arrP {T E : TypeId} {x : Operand} {v : Value} {n m : Nat} {cs : List Value} (hP : Rp M w0 v cs) (ho : o.op = .slice T x none none none) (hx : ev ps x = some v) (hT : arE P T = some (n, E)) (hE : sizeP P E = some m) : OpV P N M w0 ps es o (slp v n) := fun a w hs _ => by
  obtain ⟨ad, cur, T, fr, rfl, hsp, _⟩ := hP
  simp [execOp, ho, hs.eval hx, Instr.sliceAt, run_underlying (arE_und hT), Instr.sureAddr, slp, Instr.sliceBounds, run_sizeOf hE]
  exact fun _ => rfl
theorem Rp.sl {w : World} {v : Value} {E : Nat} {k : IntKind} {n : Nat} {a : Vector Int n} (h : Rp M w v (encA k a)) : SlE M w (slp v n) E (eI k) a.toList := by
  have hc : encA k a = cells (eI k) a.toList := by
    unfold encA cells
    induction a.toList with
    | nil => rfl
    | cons x l ih => simp [ih, eI]
  have hl : a.toList.length = n := by simp
  obtain ⟨ad, cur, T, fr, rfl, hs, hm, hb, hcell⟩ := h
  rw [hc] at hcell
  refine ⟨cells_len _ _, some ad, n, by rw [hl]; rfl, by rw [hl]; exact Nat.le_refl _, (fun e => by cases e), fun _ => ⟨ad, cur, T, fr, rfl, hs, hm, hb, hcell⟩⟩

/-! ### A call -/

theorem J.clA {γ : Type} {d f : Nat} {at_ : Array TypeId} {x : Operand} {l : List Operand} {cap : Array Value} {args : List Value} {V : γ → Value} (esA esB : List Ent) {esR : γ → List Ent} (hfn : CallsFn P f)
    (hw : ∀ a, Sees N a ps → Region.wanted o (yielded ops a.tmps) = true) (hd : o.dst = some d) (hN : Nat.blt d N = true) (ho : o.op = .call { callee := .value x, args := l.toArray, argTypes := at_ })
    (hx : ev ps x = some (.func (.func f) #[] cap)) (hl : evs ps l = some args) (hes : es = esA ++ esB)
    (hc : ∀ w, Own M w0 w (esA ++ esB) → Calls P f (args.toArray ++ cap) w (fun e w' => ∃ g, e = .returned (V g) ∧ Own (Mof esA) w w' (esR g)))
    (h : ∀ g, J N M w0 ((d, V g) :: ps) (esR g ++ esB) (wpList P ops Q rest)) : J N M w0 ps es (wpList P ops Q (o :: rest)) :=
  J.cl esA esB hfn hw hd hN ho hx hl hes (fun _ hk => mem_Mof.1 hk) (fun w H => hc w (hes ▸ H)) h

theorem JQ.clA {KQ : Act → Prop} {d f : Nat} {at_ : Array TypeId} {x : Operand} {l : List Operand} {cap : Array Value} {args : List Value} {V : Unit → Value} (hfn : CallsFn P f)
    (hw : ∀ a, Sees N a ps → Region.wanted o (yielded ops a.tmps) = true) (hd : o.dst = some d) (hN : Nat.blt d N = true) (ho : o.op = .call { callee := .value x, args := l.toArray, argTypes := at_ })
    (hx : ev ps x = some (.func (.func f) #[] cap)) (hl : evs ps l = some args)
    (hc : ∀ w, Own M w0 w ([] ++ es) → Calls P f (args.toArray ++ cap) w (fun e w' => ∃ g, e = .returned (V g) ∧ Own [] w w' []))
    (h : JQ N ((d, V ()) :: ps) (wpQF P ops (fam M w0 es) KQ rest)) : JQ N ps (wpQF P ops (fam M w0 es) KQ (o :: rest)) := by
  obtain ⟨fn, h1, h2, h3⟩ := hfn
  exact JQ.cl h1 h2 h3 hw hd hN ho hx hl hc h

/-! ### Parts of slices that are read -/

def inS (l h : Int) (n : Nat) : Bool := decide (0 ≤ l) && decide (l ≤ h) && decide (h ≤ n)
theorem inS_iff {l h : Int} {n : Nat} : inS l h n = true ↔ 0 ≤ l ∧ l ≤ h ∧ h ≤ n := by simp [inS, and_assoc]
def subL (xs : List α) (l h : Int) : List α := (xs.drop l.toNat).take (h.toNat - l.toNat)
def subV (m : Nat) (v : Value) (l h : Int) : Value := match v with
  | .slice a _ c => .slice (if c = l.toNat then a else a.map (·.add (l.toNat * m))) (h.toNat - l.toNat) (c - l.toNat)
  | u => u
theorem subL_len {xs : List α} {l h : Int} (hb : inS l h xs.length = true) : (subL xs l h).length = h.toNat - l.toNat := by
  have := inS_iff.1 hb
  simp [subL]; omega
theorem Sl.sub {w : World} {v : Value} {E : Nat} {e : Enc α} {xs : List α} {l h : Int} (hS : SlE M w v E e xs) (hb : inS l h xs.length = true) : SlE M w (subV e.sz v l h) E e (subL xs l h) := by
  have hlen := subL_len hb
  have hb' := inS_iff.1 hb
  obtain ⟨hl, A, c, rfl, hc, hz, hr⟩ := hS
  refine ⟨cells_len _ _, _, _, by rw [hlen]; rfl, by rw [hlen]; omega, fun hA => ?_, fun hn => ?_⟩
  · split at hA
    · have := hz hA; rw [hlen]; omega
    · cases A with
      | none => have := hz rfl; rw [hlen]; omega
      | some ad => cases hA
  · rw [hlen] at hn
    obtain ⟨ad, cur, T, fr, rfl, hs, hm, hbk, hcell⟩ := hr (by omega)
    have hne : ¬ c = l.toNat := by omega
    rw [if_neg hne]
    have e1 := add_of hs (l.toNat * e.sz)
    refine ⟨ad.add (l.toNat * e.sz), cur, T, fr, rfl, by rw [e1], by rw [e1]; exact hm, by rw [e1]; exact hbk, fun j u hu => ?_⟩
    rw [e1]
    show cur[ad.off + l.toNat * e.sz + j]? = some u
    rw [Nat.add_assoc]
    refine hcell _ _ ?_
    rw [← List.getElem?_drop, cells_drop]
    unfold subL at hu
    rw [← cells_take, List.getElem?_take] at hu
    split at hu
    · exact hu
    · cases hu

def bnd (ps : List (Nat × Value)) : Option Operand → Option (Option Int)
  | none => some none
  | some x => match ev ps x with
    | some (.int _ i) => some (some i)
    | _ => none
theorem run_bound {i : Int} {k : IntKind} {n : Nat} {c : BoundsCode} (h0 : 0 ≤ i) (hn : i ≤ n) (w : World) : (Instr.sliceBound (.int k i) n c).run P w = .ok i.toNat w := by
  simp [Instr.sliceBound, asIntOf, h0, hn]

theorem V.sub {T E : TypeId} {x : Operand} {lo hi : Option Operand} {v : Value} {n m : Nat} {l h : Int} {L H : Option Int} (hv : ∀ w, Own M w0 w es → ∃ A c, v = .slice A n c ∧ n ≤ c) (ho : o.op = .slice T x lo hi none) (hx : ev ps x = some v) (hlo : bnd ps lo = some L) (hhi : bnd ps hi = some H)
    (hL : L.getD 0 = l) (hH : H.getD n = h) (hT : slE P T = some E) (hE : sizeP P E = some m) (hb : inS l h n = true) : OpV P N M w0 ps es o (subV m v l h) := fun a w hs how => by
  have hb' := inS_iff.1 hb
  obtain ⟨A, c, rfl, hc⟩ := hv w how
  have e1 : ∀ {z : Operand} {k : IntKind} {i : Int}, ev ps z = some (.int k i) → a.eval z = .int k i := fun h => hs.eval h
  cases lo with
  | none =>
    simp only [bnd, Option.some.injEq] at hlo
    subst hlo; subst hL
    cases hi with
    | none =>
      simp only [bnd, Option.some.injEq] at hhi
      subst hhi; subst hH
      simp [execOp, ho, hs.eval hx, Instr.slice, Instr.sliceAt, Instr.sliceBounds, run_underlying (slE_und hT), run_sizeOf hE, subV]
    | some y =>
      simp only [bnd] at hhi
      split at hhi
      · rename_i k i hy
        simp only [Option.some.injEq] at hhi
        subst hhi; subst hH
        simp only [Option.getD_some, Option.getD_none] at *
        have := run_bound (P := P) (i := i) (k := k) (n := c) (c := .sliceAcap) (by omega) (by omega) w
        simp [execOp, ho, hs.eval hx, Instr.slice, Instr.sliceAt, Instr.sliceBounds, run_underlying (slE_und hT), run_sizeOf hE, subV, hs.eval hy, this]
      · cases hhi
  | some z =>
    simp only [bnd] at hlo
    split at hlo
    · rename_i k i hz
      simp only [Option.some.injEq] at hlo
      subst hlo; subst hL
      cases hi with
      | none =>
        simp only [bnd, Option.some.injEq] at hhi
        subst hhi; subst hH
        simp only [Option.getD_some, Option.getD_none] at *
        have := run_bound (P := P) (i := i) (k := k) (n := n) (c := .sliceB) (by omega) (by omega) w
        simp [execOp, ho, hs.eval hx, Instr.slice, Instr.sliceAt, Instr.sliceBounds, run_underlying (slE_und hT), run_sizeOf hE, subV, hs.eval hz, this]
      | some y =>
        simp only [bnd] at hhi
        split at hhi
        · rename_i k' i' hy
          simp only [Option.some.injEq] at hhi
          subst hhi; subst hH
          simp only [Option.getD_some] at *
          have h1 := run_bound (P := P) (i := i') (k := k') (n := c) (c := .sliceAcap) (by omega) (by omega) w
          have h2 := run_bound (P := P) (i := i) (k := k) (n := i'.toNat) (c := .sliceB) (by omega) (by omega) w
          simp [execOp, ho, hs.eval hx, Instr.slice, Instr.sliceAt, Instr.sliceBounds, run_underlying (slE_und hT), run_sizeOf hE, subV, hs.eval hy, hs.eval hz, h1, h2]
        · cases hhi
    · cases hlo
theorem V.subS {T E : TypeId} {x : Operand} {lo hi : Option Operand} {v : Value} {E' : Nat} {e : Enc α} {xs : List α} {l h : Int} {L H : Option Int} (hS : SlE M w0 v E' e xs) (hb : inS l h xs.length = true) (ho : o.op = .slice T x lo hi none) (hx : ev ps x = some v) (hlo : bnd ps lo = some L) (hhi : bnd ps hi = some H)
    (hL : L.getD 0 = l) (hH : H.getD xs.length = h) (hT : slE P T = some E) (hE : sizeP P E = some e.sz) : OpV P N M w0 ps es o (subV e.sz v l h) :=
  V.sub (fun _ _ => hS.len) ho hx hlo hhi hL hH hT hE hb

/-! ### 'make' -/

theorem madeCells_dflt {e : Enc α} {z : Value} (hz : z.cells = (e.enc e.dflt).toArray) (h0 : 0 < e.sz) (n : Nat) : (madeCells z.cells (n * e.sz)).toList = cells e (List.replicate n e.dflt) := by
  have hl := e.len e.dflt
  apply List.ext_getElem?
  intro j
  have hzl : z.cells.size = e.sz := by rw [hz]; simp [hl]
  induction n generalizing j with
  | zero => simp [madeCells, cells]
  | succ n ih =>
    rw [List.replicate_succ, cells_cons]
    by_cases hj : j < e.sz
    · rw [List.getElem?_append_left (by rw [hl]; exact hj)]
      have hj2 : j < (n + 1) * e.sz := by rw [Nat.add_mul]; omega
      have hm : j % e.sz = j := Nat.mod_eq_of_lt hj
      simp [madeCells, hj2, hzl, hm]
      simp [hz, hl, hj]
    · rw [List.getElem?_append_right (by rw [hl]; omega), hl, ← ih]
      have hm : (j - e.sz) % e.sz = j % e.sz := by
        conv => rhs; rw [show j = (j - e.sz) + e.sz by omega, Nat.add_mod_right]
      by_cases hj2 : j < (n + 1) * e.sz
      · have hj3 : j - e.sz < n * e.sz := by rw [Nat.add_mul] at hj2; omega
        simp [madeCells, hj2, hj3, hzl, hm]
      · have hj3 : ¬ j - e.sz < n * e.sz := by rw [Nat.add_mul] at hj2; omega
        simp [madeCells, hj2, hj3]

def mkB (n : Int) (bytes : Nat) : Bool := decide (0 ≤ n) && decide (n ≤ 9223372036854775807) && decide (bytes * n ≤ 281474976710656)

theorem Own.grown {w w' : World} {v : Value} {E sz n : Nat} {cs : List Value} (h : Own M w0 w es) (hg : w.grownBy w' Option.none) (hr : w'.ownsRow 0 E sz v n cs) (hf : ∀ k, v.ownBlock = some k → w.heap.size ≤ k) : Own M w0 w' (.row v E sz n cs :: es) := by
  refine ⟨hg.os.trans h.os, hg.tape.trans h.tape, hg.output.trans h.output, Nat.le_trans h.size hg.size, fun k hk hm => (hg.block k (Nat.lt_of_lt_of_le hk h.size) (by simp)).trans (h.frame k hk hm), ?_, ?_, ?_⟩
  · intro x hx
    rcases List.mem_cons.1 hx with rfl | hx
    · exact hr
    · exact Ent.kept (h.holds x hx) fun k hk => hg.block k (Ent.lt (h.holds x hx) hk) (by simp)
  · intro x hx k hk
    rcases List.mem_cons.1 hx with rfl | hx
    · exact .inr (Nat.le_trans h.size (hf k (mem_foot_row.1 hk)))
    · exact h.mine x hx k hk
  · refine List.Pairwise.cons (fun x hx k hk hk' => ?_) h.apart
    have h1 := hf k (mem_foot_row.1 hk)
    have h2 := Ent.lt (h.holds x hx) hk'
    omega

theorem J.mk {T E bytes d : Nat} {x y : Operand} {kx ky : IntKind} {n : Int} {e : Enc α} {inf : TypeInfo} {z : Value} (hn : mkB n bytes = true) (hinf : P.info? E = some inf) (hT : slE P T = some E) (hz : inf.zero = some z) (hsz : inf.size = e.sz) (hby : inf.bytes = bytes) (hzc : z.cells = (e.enc e.dflt).toArray) (h0 : Nat.blt 0 e.sz = true)
    (hg : o.guard = none) (hd : o.dst = some d) (hN : Nat.blt d N = true) (ho : o.op = .makeSlice T x y) (hx : ev ps x = some (.int kx n)) (hy : ev ps y = some (.int ky n))
    (h : ∀ v', J N M w0 ((d, v') :: ps) (.rowE v' E e (List.replicate n.toNat e.dflt) :: es) (wpList P ops Q rest)) : J N M w0 ps es (wpList P ops Q (o :: rest)) := fun a w hs how =>
  wpList_plain hg fun K hK => by
    simp only [mkB, Bool.and_eq_true, decide_eq_true_eq] at hn
    obtain ⟨⟨h1, h2⟩, h3⟩ := hn
    obtain ⟨m, rfl⟩ : ∃ m : Nat, n = m := ⟨n.toNat, by omega⟩
    subst hby
    have h3' : inf.bytes * m ≤ 281474976710656 := by
      have : ((inf.bytes * m : Nat) : Int) ≤ 281474976710656 := by rw [Int.natCast_mul]; exact h3
      omega
    obtain ⟨w', hr, r1, r2⟩ := run_make_full (P := P) w 0 T E inf z e.sz (slE_und hT) hinf hz hsz kx ky m h3' (by unfold maxLen; omega) (Nat.zero_le _)
    have hop : (execOp a.eval o).run P w = .ok (.value (.slice (some ⟨w.heap.size, 0, none⟩) m m)) w' := by
      rw [show execOp a.eval o = (do pure (.value (← Instr.makeSlice T (a.eval x) (a.eval y)))) by simp [execOp, ho]]
      simp [hs.eval hx, hs.eval hy, hr]
    unfold Oper.wp
    rw [hop, Oper.upon_value, hd]
    refine hK _ _ (h _ _ _ (hs.put _ (blt_lt hN)) ?_)
    rw [madeCells_dflt hzc (blt_lt h0)] at r1
    have hl : (List.replicate ((m : Int).toNat) e.dflt).length = m := by simp
    unfold Ent.rowE
    rw [hl]
    exact Own.grown how r2 r1 (fun k hk => by simp [Value.ownBlock] at hk; omega)

/-! ### Stores into elements -/

theorem rd_get {e : Enc α} {xs : List α} {i : Int} (h : inB i xs.length = true) : rd e xs i = xs[i.toNat]'(inB_nat h) := by
  simp [rd, List.getD_eq_getElem?_getD, inB_nat h]

/-- cell j of element i -/
theorem J.stEj {T E : Nat} {x y : Operand} {v u : Value} {e : Enc α} {xs : List α} {ix : Int} {j : Nat} (i : Nat) (x' : α) (hi : inB ix xs.length = true) (hx' : e.enc x' = (e.enc (rd e xs ix)).set j u) (hj : Nat.blt j e.sz = true) (hg : o.guard = none) (hd : o.dst = none) (ho : o.op = .store T x y)
    (hx : ev ps x = some (sp v (ix.toNat * e.sz + j))) (hy : ev ps y = some u) (hes : es[i]? = some (.rowE v E e xs)) (hT : sizeP P T = some 1) (hv' : ∀ w, Own M w0 w es → u.oneCell' = true)
    (h : J N M w0 ps (es.set i (.rowE v E e (xs.set ix.toNat x'))) (wpList P ops Q rest)) : J N M w0 ps es (wpList P ops Q (o :: rest)) := by
  have hlt := inB_nat hi
  have hjj := blt_lt hj
  refine J.stR i hg hd ho hx hy hes hT hv' ?_ ?_
  · rw [cells_len]
    have : ix.toNat * e.sz + e.sz ≤ xs.length * e.sz := by rw [← Nat.succ_mul]; exact Nat.mul_le_mul_right _ hlt
    have h2 : ix.toNat * e.sz + j < xs.length * e.sz := by omega
    simpa using h2
  · unfold Ent.rowE at h
    rw [List.length_set] at h
    rw [cells_set e xs ix.toNat j u x' hlt hjj (by rw [hx', rd_get hi])]
    exact h
/-- element i, of one cell -/
theorem J.stE0 {T E : Nat} {x y : Operand} {v u : Value} {e : Enc α} {xs : List α} {ix : Int} (i : Nat) (x' : α) (hi : inB ix xs.length = true) (hx' : e.enc x' = [u]) (hj : Nat.beq e.sz 1 = true) (hg : o.guard = none) (hd : o.dst = none) (ho : o.op = .store T x y)
    (hx : ev ps x = some (sp v (ix.toNat * e.sz))) (hy : ev ps y = some u) (hes : es[i]? = some (.rowE v E e xs)) (hT : sizeP P T = some 1) (hv' : ∀ w, Own M w0 w es → u.oneCell' = true)
    (h : J N M w0 ps (es.set i (.rowE v E e (xs.set ix.toNat x'))) (wpList P ops Q rest)) : J N M w0 ps es (wpList P ops Q (o :: rest)) := by
  have h1 : e.sz = 1 := Nat.eq_of_beq_eq_true hj
  refine J.stEj (j := 0) i x' hi ?_ (by rw [h1]; rfl) hg hd ho hx hy hes hT hv' h
  have := e.len (rd e xs ix)
  rw [hx']
  rw [h1] at this
  obtain ⟨q, hq⟩ := List.length_eq_one_iff.1 this
  rw [hq]; rfl

theorem cells_set_whole (e : Enc α) : ∀ (xs : List α) (i : Nat) (x' : α), i < xs.length → cells e (xs.set i x') = (cells e xs).take (i * e.sz) ++ e.enc x' ++ (cells e xs).drop (i * e.sz + e.sz)
  | [], _, _, h => by simp at h
  | x :: xs, 0, x', _ => by
    rw [List.set_cons_zero, cells_cons, cells_cons, Nat.zero_mul, Nat.zero_add, List.take_zero, List.nil_append, List.drop_append_of_le_length (by rw [e.len]; exact Nat.le_refl _), List.drop_of_length_le (by rw [e.len]; exact Nat.le_refl _), List.nil_append]
  | x :: xs, i + 1, x', h => by
    have ih := cells_set_whole e xs i x' (by simpa using h)
    have hl := e.len x
    rw [List.set_cons_succ, cells_cons, ih, cells_cons, Nat.add_mul, Nat.one_mul]
    rw [show i * e.sz + e.sz = (e.enc x).length + i * e.sz by rw [hl]; omega, List.take_length_add_append, List.append_assoc, List.append_assoc, List.append_assoc]
    congr 2
    rw [show (e.enc x).length + i * e.sz + e.sz = (e.enc x).length + (i * e.sz + e.sz) by omega, List.drop_length_add_append]
    rw [show (e.enc x).length + i * e.sz = i * e.sz + e.sz by rw [hl]; omega]

/-- element i, whole -/
theorem J.stEA {T E : Nat} {x y : Operand} {v : Value} {e : Enc α} {xs : List α} {ix : Int} (i : Nat) (x' : α) (hi : inB ix xs.length = true) (hg : o.guard = none) (hd : o.dst = none) (ho : o.op = .store T x y)
    (hx : ev ps x = some (sp v (ix.toNat * e.sz))) (hy : ev ps y = some (.agg (e.enc x').toArray)) (hes : es[i]? = some (.rowE v E e xs)) (hT : sizeP P T = some e.sz)
    (h : J N M w0 ps (es.set i (.rowE v E e (xs.set ix.toNat x'))) (wpList P ops Q rest)) : J N M w0 ps es (wpList P ops Q (o :: rest)) := fun a w hs how =>
  wpList_plain hg fun K hK => by
    have hlt := inB_nat hi
    have hrow : w.ownsRow 0 E e.sz v xs.length (cells e xs) := how.at hes
    have hlen := hrow.1
    rcases hrow.2 with ⟨rfl, hn⟩ | ⟨g, cap, cur, rfl, h0, hb, hnc, hcm, hsz, htake⟩
    · omega
    have hle : ix.toNat * e.sz + e.sz ≤ xs.length * e.sz := by rw [← Nat.succ_mul]; exact Nat.mul_le_mul_right _ hlt
    have hle2 : xs.length * e.sz ≤ cur.size := by rw [hsz]; exact Nat.mul_le_mul_right _ hnc
    have hel := e.len x'
    have hst := run_storeCells_at P g (ix.toNat * e.sz) E (e.enc x') 0 cur w hb (by omega) (e.one x')
    have hr : (execOp a.eval o).run P w = .ok .skip (w.setRow g (cur.toList.take (ix.toNat * e.sz + 0) ++ e.enc x' ++ cur.toList.drop (ix.toNat * e.sz + 0 + (e.enc x').length)).toArray) := by
      have h9 : (storeVar T ⟨g, ix.toNat * e.sz, none⟩ (.agg (e.enc x').toArray)).run P w = .ok () (w.setRow g (cur.toList.take (ix.toNat * e.sz + 0) ++ e.enc x' ++ cur.toList.drop (ix.toNat * e.sz + 0 + (e.enc x').length)).toArray) := by
        rw [← hst]
        simp [storeVar, Value.cells, run_sizeOf hT, hel]
      simp only [execOp, ho, hs.eval hx, hs.eval hy, Instr.storeAt, Instr.sureAddr, sp, add_none, Nat.zero_add, Sem.run_bind, Sem.run_pure, Result.andThen_ok, h9]
    unfold Oper.wp
    rw [hr, Oper.upon_skip, hd]
    refine hK _ _ (h _ _ (hs.put_none _) (Own.turnAt hes how rfl rfl rfl (by simp [World.setRow]) ?_ ?_ fun k hk => .inl hk))
    · intro k' _ hne
      simp only [World.setRow, Array.getElem?_modify]
      rw [if_neg (fun e => hne (by simp [Ent.foot, Value.ownBlock, e]))]
    · refine ⟨cells_len _ _, .inr ⟨g, cap, (cur.toList.take (ix.toNat * e.sz + 0) ++ e.enc x' ++ cur.toList.drop (ix.toNat * e.sz + 0 + (e.enc x').length)).toArray, by simp, h0, ?_, by simpa using hnc, hcm, ?_, ?_⟩⟩
      · simp [World.setRow, Array.getElem?_modify, hb]
      · simp [hel]; omega
      · rw [List.length_set, cells_set_whole e xs ix.toNat x' hlt, ← htake, Nat.add_zero, hel]
        have e1 : (cur.toList.take (xs.length * e.sz)).take (ix.toNat * e.sz) = cur.toList.take (ix.toNat * e.sz) := by rw [List.take_take]; congr 1; omega
        have e2 : (cur.toList.take (xs.length * e.sz)).drop (ix.toNat * e.sz + e.sz) = (cur.toList.drop (ix.toNat * e.sz + e.sz)).take (xs.length * e.sz - (ix.toNat * e.sz + e.sz)) := by rw [List.drop_take]
        rw [e1, e2]
        have e3 : (cur.toList.take (ix.toNat * e.sz) ++ e.enc x').length = ix.toNat * e.sz + e.sz := by simp [hel]; omega
        show (cur.toList.take (ix.toNat * e.sz) ++ e.enc x' ++ cur.toList.drop (ix.toNat * e.sz + e.sz)).take (xs.length * e.sz) = _
        rw [List.take_append, List.take_of_length_le (by rw [e3]; exact hle), e3]

/-! ### A cell of an element that is an array -/

theorem V.ixEl {T E : TypeId} {x y : Operand} {v : Value} {n n' m k0 : Nat} {kk : IntKind} {i : Int} {E' sz : Nat} {cs : List Value} (hv : ∀ w, Own M w0 w es → ∃ M', Sl M' w v E' sz n' cs) (hn : Nat.blt 0 n' = true) (ho : o.op = .indexAddr T x y) (hx : ev ps x = some (sp v k0)) (hy : ev ps y = some (.int kk i)) (hT : arE P T = some (n, E)) (hE : sizeP P E = some m)
    (hi : inB i n = true) : OpV P N M w0 ps es o (sp v (k0 + i.toNat * m)) := fun a w hs how => by
  have h1 := inB_iff.1 hi
  obtain ⟨M', _, A, c, rfl, _, _, hr⟩ := hv w how
  obtain ⟨ad, _, _, _, rfl, hsp, _⟩ := hr (blt_lt hn)
  simp [execOp, ho, hs.eval hx, hs.eval hy, Instr.indexAt, asIntOf, run_underlying (arE_und hT), Instr.sureAddr, sp, h1, run_sizeOf hE, add_of hsp, add_none, Nat.add_assoc]
theorem V.ixES {T E : TypeId} {x y : Operand} {v : Value} {n m k0 : Nat} {kk : IntKind} {i ix : Int} {E' : Nat} {e : Enc α} {xs : List α} (hS : SlE M w0 v E' e xs) (hix : inB ix xs.length = true) (ho : o.op = .indexAddr T x y) (hx : ev ps x = some (sp v k0)) (hy : ev ps y = some (.int kk i)) (hT : arE P T = some (n, E)) (hE : sizeP P E = some m)
    (hi : inB i n = true) : OpV P N M w0 ps es o (sp v (k0 + i.toNat * m)) :=
  V.ixEl (fun w how => ⟨M, hS.later (M' := M) how fun k hk => .inl hk⟩) (lt_of_in hix) ho hx hy hT hE hi
theorem V.ixER {T E : TypeId} {x y : Operand} {v : Value} {n m k0 : Nat} {kk : IntKind} {i ix : Int} {E' : Nat} {e : Enc α} {xs : List α} (j : Nat) (hj : es[j]? = some (.rowE v E' e xs)) (hix : inB ix xs.length = true) (ho : o.op = .indexAddr T x y) (hx : ev ps x = some (sp v k0)) (hy : ev ps y = some (.int kk i)) (hT : arE P T = some (n, E)) (hE : sizeP P E = some m)
    (hi : inB i n = true) : OpV P N M w0 ps es o (sp v (k0 + i.toNat * m)) :=
  V.ixEl (fun w how => ⟨[], Sl.ofRow (M' := []) (how.at hj) (by simp)⟩) (lt_of_in hix) ho hx hy hT hE hi
theorem encA_ltE {k : IntKind} {n : Nat} {i : Int} (h : inB i n = true) : Nat.blt (i.toNat * 1) (eA k n).sz = true := by
  have := inB_nat h
  show Nat.blt (i.toNat * 1) n = true
  simpa using this

/-! ### A slice of whole numbers that is written in place -/

theorem Own.vslA {w : World} {v : Value} {T n : Nat} {k : IntKind} {a : Vector Int n} (E : Nat) (i : Nat) (H : Own M w0 w (esA ++ esB)) (hi : esB[i]? = some (.row v T 1 n (encA k a))) : SlE (Mof esA) w v E (eI k) a.toList := by
  have h := Own.slA i H hi
  have hl : a.toList.length = n := by simp
  unfold SlE
  rw [hl, cells_toList]
  exact h
/-- an array's block, as a slice of itself -/
theorem J.blkV {b T n : Nat} {k : IntKind} {a : Vector Int n} (hm : Nat.ble n 9223372036854775807 = true) (h : J N M w0 ps (.row (.slice (some ⟨b, 0, none⟩) n n) T 1 n (encA k a) :: es) K) : J N M w0 ps (.blk b (encA k a) T :: es) K :=
  fun x w hs how => h x w hs (how.blkRow (by rw [encA_len, Nat.mul_one]) (by have := Nat.le_of_ble_eq_true hm; unfold maxLen; omega))
theorem Own.rowBlk {w : World} {b T n : Nat} {cs : List Value} (h : Own M w0 w (.row (.slice (some ⟨b, 0, Option.none⟩) n n) T 1 n cs :: es)) : Own M w0 w (.blk b cs T :: es) := by
  have hr : w.ownsRow 0 T 1 (.slice (some ⟨b, 0, Option.none⟩) n n) n cs := h.holds _ (List.mem_cons_self ..)
  refine h.turn rfl rfl rfl (Nat.le_refl _) (fun _ _ _ => rfl) ?_ ?_
  · rcases hr.2 with ⟨e, _⟩ | ⟨g, cap, cur, e, _, hb, hn, _, hsz, ht⟩
    · cases e
    · cases e
      show w.heap[b]? = some (.cells cs.toArray T (0, 0))
      rw [hb]
      have : cur.toList = cs := by rw [← ht, List.take_of_length_le (by simp [hsz])]
      rw [← this]
  · intro k hk
    simp only [Ent.foot, Value.ownBlock, Option.toList_some, List.mem_singleton] at hk ⊢
    exact .inl hk
theorem J.vBlk {b T n : Nat} {k : IntKind} {a : Vector Int n} (h : J N M w0 ps (.blk b (encA k a) T :: es) K) : J N M w0 ps (.row (.slice (some ⟨b, 0, Option.none⟩) n n) T 1 n (encA k a) :: es) K :=
  fun x w hs how => h x w hs how.rowBlk
theorem J.rowV {v : Value} {E : Nat} {k : IntKind} {xs : List Int} (h : J N M w0 ps (.row v E 1 xs.length (encA k (vecOf xs)) :: es) K) : J N M w0 ps (.rowE v E (eI k) xs :: es) K := by
  rw [encA_vecOf] at h
  exact h
theorem J.vRow {v : Value} {E n : Nat} {k : IntKind} {a : Vector Int n} (h : J N M w0 ps (.rowE v E (eI k) a.toList :: es) K) : J N M w0 ps (.row v E 1 n (encA k a) :: es) K := by
  unfold Ent.rowE at h
  rw [cells_toList, show a.toList.length = n by simp] at h
  exact h

end
end G
end Go.Proofs.YtadggddaheipgaaDoor
