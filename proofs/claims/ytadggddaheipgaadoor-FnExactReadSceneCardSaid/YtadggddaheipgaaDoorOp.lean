/- How arguments that came in are read: arrays, structs, slices of them. No condition. -/
import Derived.Test.YtadggddaheipgaaDoorRows
import Derived.WalkKit
import Derived.ProofKit
import Derived.OpenShut
import Derived.ChangeOld
import Derived.Below
import Derived.WideKeyArr2
import Derived.Test.YtadggddaheipgaaDoorGp
import Derived.Test.YtadggddaheipgaaDoorGq
namespace Go.Proofs.YtadggddaheipgaaDoor.Open
open Go Go.ChangeShapes Go.WideShapes Go.ChangeAt Go.RowKit Go.Proofs.YtadggddaheipgaaDoor.G
set_option linter.unusedVariables false

section
variable {H : Type} {enc : TypeId × Value → H} {P : Program} {W : World} {base : Nat} {sp : Nat → Bool} {held : Bool} {α : Type}

/-- Whatever reads as an element of type 'E' is one, as 'e' lays it. -/
def Opens (enc : TypeId × Value → H) (P : Program) (W : World) (base : Nat) (sp : Nat → Bool) (held : Bool) (E : TypeId) (e : Enc α) (wf : α → Prop) : Prop :=
  ∀ fuel cs x, DataW.trod enc P W base sp held fuel E cs = some x → ∃ a, cs = e.enc a ∧ wf a

def wfI (k : IntKind) (n : Int) : Prop := (Lit.int k n).wf = true
def wfA (k : IntKind) {n : Nat} (v : Vector Int n) : Prop := ∀ i : Nat, i < n → (Lit.int k (rdA v i)).wf = true

theorem opens_int {E : TypeId} {k : IntKind} (he : P.underlying E = some (.int k)) : Opens enc P W base sp held E (eI k) (wfI k) := fun fuel cs x h => by
  obtain ⟨a, rfl, _, wa⟩ := DataW.trod_int he h
  exact ⟨a, rfl, wa⟩

theorem mapM_ints {e : TypeId} {q : IntKind} {m : Nat} {cs : List Value} (he : P.underlying e = some (.int q)) : ∀ (L : List Nat) (xs : List (DataW H × List MemPlace)),
    L.mapM (fun i => DataW.trod enc P W base sp held m e ((cs.drop (i * 1)).take 1)) = some xs → ∀ i ∈ L, ∃ z : Int, cs[i]? = some (.int q z) ∧ (Lit.int q z).wf = true
  | [], _, _, i, hi => by simp at hi
  | j :: L, xs, h, i, hi => by
    rw [List.mapM_cons] at h
    simp only [bind, Option.bind_eq_some_iff, pure, Option.some.injEq] at h
    obtain ⟨y, hy, ys, hys, rfl⟩ := h
    simp only [List.mem_cons] at hi
    rcases hi with rfl | hi
    · obtain ⟨a, ea, _, wa⟩ := DataW.trod_int he hy
      refine ⟨a, ?_, wa⟩
      have := congrArg (·[0]?) ea
      simpa using this
    · exact mapM_ints he L ys hys i hi

theorem opens_arr {E e : TypeId} {q : IntKind} {n : Nat} (hu : P.underlying E = some (.array n e)) (he : P.underlying e = some (.int q)) (h1 : P.cellsOf e = 1) (hk : P.cellsOf E = n) : Opens enc P W base sp held E (eA q n) (wfA q) := fun fuel cs x hf => by
  cases fuel with
  | zero => simp [DataW.trod] at hf
  | succ m =>
    rw [DataW.trod_step] at hf
    unfold DataW.trodStep at hf
    simp only [hu] at hf
    split at hf
    · rename_i hn
      rw [hk] at hn
      simp only [Option.map_eq_some_iff, h1] at hf
      obtain ⟨ys, hy, _⟩ := hf
      have hz := mapM_ints he _ ys hy
      have hz' : ∀ i : Nat, i < n → ∃ z : Int, cs[i]? = some (.int q z) ∧ (Lit.int q z).wf = true := fun i hi => hz i (by simpa using hi)
      let f : Nat → Int := fun i => match cs[i]? with | some (.int _ z) => z | _ => 0
      refine ⟨Vector.ofFn fun i : Fin n => f i, ?_, fun i hi => ?_⟩
      · apply List.ext_getElem?
        intro i
        show cs[i]? = (encA q _)[i]?
        by_cases hi : i < n
        · obtain ⟨z, e1, _⟩ := hz' i hi
          rw [e1]
          simp [encA, hi, f, e1]
        · rw [List.getElem?_eq_none (by omega), List.getElem?_eq_none (by simp [encA]; omega)]
      · obtain ⟨z, e1, w1⟩ := hz' i hi
        rw [rdA_ofFn _ hi]
        simp only [f, e1]
        exact w1
    · cases hf

theorem open_field {t T : TypeId} {fs : Array Field} {f : Field} {cs : List Value} {x : DataW H × List MemPlace} {off m fuel : Nat} (i : Nat) (hu : P.underlying t = some (.struct fs)) (hf : fs[i]? = some f) (hT : f.type = T) (ho : f.offset = off) (hm : P.cellsOf T = m)
    (h : DataW.trod enc P W base sp held fuel t cs = some x) : ∃ n y, DataW.trod enc P W base sp held n T ((cs.drop off).take m) = some y := by
  subst hT ho hm
  cases fuel with
  | zero => simp [DataW.trod] at h
  | succ k =>
    rw [DataW.trod_step] at h
    unfold DataW.trodStep at h
    simp only [hu] at h
    split at h
    · simp only [Option.map_eq_some_iff] at h
      obtain ⟨ys, hy, _⟩ := h
      have hf' : fs.toList[i]? = some f := by simpa using hf
      have hget := mapM_some_get hy i f hf'
      have hlen := mapM_some_length hy
      have hlt : i < ys.length := by have := (List.getElem?_eq_some_iff.1 hf').1; omega
      exact ⟨k, ys[i], by rw [hget]; simp [hlt]⟩
    · cases h

/-- two whole numbers -/
theorem opens_two {E T1 T2 : TypeId} {fs : Array Field} {f1 f2 : Field} {k1 k2 : IntKind} {e : Enc α} (mk : Int → Int → α) (hmk : ∀ a b, e.enc (mk a b) = [.int k1 a, .int k2 b]) (hu : P.underlying E = some (.struct fs)) (h1 : fs[0]? = some f1) (h2 : fs[1]? = some f2) (t1 : f1.type = T1) (t2 : f2.type = T2) (o1 : f1.offset = 0) (o2 : f2.offset = 1)
    (u1 : P.underlying T1 = some (.int k1)) (u2 : P.underlying T2 = some (.int k2)) (c1 : P.cellsOf T1 = 1) (c2 : P.cellsOf T2 = 1) (hc : P.cellsOf E = 2) : Opens enc P W base sp held E e (fun x => ∃ a b, x = mk a b ∧ wfI k1 a ∧ wfI k2 b) := fun fuel cs x h => by
  obtain ⟨n1, y1, g1⟩ := open_field 0 hu h1 t1 o1 c1 h
  obtain ⟨n2, y2, g2⟩ := open_field 1 hu h2 t2 o2 c2 h
  obtain ⟨a, ea, _, wa⟩ := DataW.trod_int u1 g1
  obtain ⟨b, eb, _, wb⟩ := DataW.trod_int u2 g2
  have hl : cs.length = 2 := by
    cases fuel with
    | zero => simp [DataW.trod] at h
    | succ k =>
      rw [DataW.trod_step] at h
      unfold DataW.trodStep at h
      simp only [hu] at h
      split at h
      · rename_i h7; rw [hc] at h7; exact h7
      · cases h
  match cs, hl with
  | [c0, c1], _ =>
    simp at ea eb
    subst ea eb
    exact ⟨mk a b, (hmk a b).symm, a, b, rfl, wa, wb⟩

theorem sl_of_cells {a : Addr} {n cap sz : Nat} (E : Nat) {cs : List Value} (hl : cs.length = n * sz) (h0 : 0 < sz) (hc : n ≤ cap) (hcell : ∀ j u, cs[j]? = some u → W.cell? (a.add j) = some u) : Sl [] W (.slice (some a) n cap) E sz n cs := by
  refine ⟨hl, some a, cap, rfl, hc, (fun h => by cases h), fun hn => ?_⟩
  have hp : 0 < cs.length := by rw [hl]; exact Nat.mul_pos hn h0
  have hz := hcell 0 cs[0] (by simp [hp])
  have hx : a.spot = none ∧ ∃ cur T fr, W.heap[a.block]? = some (.cells cur T fr) := by
    unfold World.cell? at hz
    have hb : (a.add 0).block = a.block := by unfold Addr.add; split <;> rfl
    rw [hb] at hz
    split at hz
    · rename_i c T fr hc
      split at hz
      · cases hz
      · rename_i hs
        refine ⟨?_, c, T, fr, hc⟩
        obtain ⟨b, o, s⟩ := a
        cases s with
        | none => rfl
        | some s => exfalso; apply hs; unfold Addr.add; rfl
    · cases hz
  obtain ⟨hs, cur, T, fr, hb⟩ := hx
  refine ⟨a, cur, T, fr, rfl, hs, by simp, hb, fun j u hu => ?_⟩
  have := hcell j u hu
  rwa [add_of hs, cell_of_row W a.block (a.off + j) cur T fr hb] at this

theorem open_slE {t E : TypeId} {e : Enc α} {wf : α → Prop} {fuel : Nat} {cs : List Value} {x : DataW H × List MemPlace} (ht : P.underlying t = some (.slice E)) (hc : P.cellsOf E = e.sz) (h0 : 0 < e.sz) (ho : Opens enc P W base sp held E e wf)
    (h : DataW.trod enc P W base sp held fuel t cs = some x) : ∃ v xs, cs = [v] ∧ SlE [] W v E e xs ∧ xs.length ≤ maxLen ∧ ∀ a ∈ xs, wf a := by
  rcases DataW.trod_slice ht h with ⟨rfl, _⟩ | ⟨a, len, cap, elems, rest, n, _, rfl, _, hb, hl, hm, hlen, hel, _, _⟩
  · exact ⟨_, [], rfl, Sl.nil e, Nat.zero_le _, by simp⟩
  · have each : ∀ i, i < len → ∃ y : α, wf y ∧ ∀ j u, (e.enc y)[j]? = some u → W.cell? ((a.add (i * e.sz)).add j) = some u := fun i hi => by
      have h1 := hel i hi
      have hlt : i < elems.length := by omega
      rw [List.getElem?_eq_getElem hlt, Option.bind_eq_some_iff] at h1
      obtain ⟨cs', h2, h3⟩ := h1
      obtain ⟨y, rfl, wy⟩ := ho _ _ _ h3
      rw [hc] at h2
      have h4 := World.cells?_some h2
      refine ⟨y, wy, fun j u hu => ?_⟩
      have hj : j < e.sz := by have := (List.getElem?_eq_some_iff.1 hu).1; rw [e.len] at this; exact this
      rw [h4.2.2 j hj]; exact hu
    let g : Nat → α := fun i => if hi : i < len then Classical.choose (each i hi) else e.dflt
    have hg : ∀ i, i < len → wf (g i) ∧ ∀ j u, (e.enc (g i))[j]? = some u → W.cell? ((a.add (i * e.sz)).add j) = some u := fun i hi => by
      simp only [g, dif_pos hi]
      exact Classical.choose_spec (each i hi)
    have hxl : ((List.range len).map g).length = len := by simp
    refine ⟨_, (List.range len).map g, rfl, ?_, by rw [hxl]; omega, ?_⟩
    · have key : ∀ j u, (cells e ((List.range len).map g))[j]? = some u → W.cell? (a.add j) = some u := by
        intro j u hu
        have hjl : j < len * e.sz := by
          have := (List.getElem?_eq_some_iff.1 hu).1
          rw [cells_len, hxl] at this
          exact this
        have hq : j / e.sz < len := Nat.div_lt_of_lt_mul (by rw [Nat.mul_comm]; exact hjl)
        have hr : j % e.sz < e.sz := Nat.mod_lt _ h0
        have hj : j = j / e.sz * e.sz + j % e.sz := by rw [Nat.mul_comm]; exact (Nat.div_add_mod j e.sz).symm
        have hin : inB ((j / e.sz : Nat) : Int) ((List.range len).map g).length = true := inB_ofNat (by rw [hxl]; exact hq)
        have hrd : rd e ((List.range len).map g) ((j / e.sz : Nat) : Int) = g (j / e.sz) := by rw [rd_ofNat (by rw [hxl]; exact hq)]; simp
        obtain ⟨u', hu'⟩ : ∃ u', (e.enc (g (j / e.sz)))[j % e.sz]? = some u' := ⟨_, List.getElem?_eq_getElem (by rw [e.len]; exact hr)⟩
        have hcg := cells_get e ((List.range len).map g) hin (j := j % e.sz) (u := u') (by rw [hrd]; exact hu')
        rw [Int.toNat_natCast, ← hj, hu] at hcg
        cases hcg
        have hc9 := (hg _ hq).2 _ u hu'
        -- the address
        have hs0 : a.spot = none := by
          obtain ⟨u0, hu0⟩ : ∃ u0, (e.enc (g 0))[0]? = some u0 := ⟨_, List.getElem?_eq_getElem (by rw [e.len]; exact h0)⟩
          have hz := (hg 0 (Nat.lt_of_le_of_lt (Nat.zero_le _) hq)).2 0 u0 hu0
          unfold World.cell? at hz
          split at hz
          · split at hz
            · cases hz
            · rename_i hs
              obtain ⟨b, o, s⟩ := a
              cases s with
              | none => rfl
              | some s => exfalso; apply hs; simp [Addr.add]
          · cases hz
        rw [add_of hs0, add_none, Nat.add_assoc] at hc9
        rw [← hj] at hc9
        rw [add_of hs0]
        exact hc9
      have := sl_of_cells (sz := e.sz) E (cs := cells e ((List.range len).map g)) (n := len) (cap := cap) (by rw [cells_len, hxl]) h0 hl key
      unfold SlE
      rw [hxl]
      exact this
    · intro y hy
      obtain ⟨i, hi, rfl⟩ := List.mem_map.1 hy
      exact (hg i (List.mem_range.1 hi)).1

/-- a slice of slices -/
theorem open_slN {t E E2 : TypeId} {e : Enc α} {wf : α → Prop} {fuel : Nat} {cs : List Value} {x : DataW H × List MemPlace} (ht : P.underlying t = some (.slice E)) (hE : P.underlying E = some (.slice E2)) (h1 : P.cellsOf E = 1) (hc : P.cellsOf E2 = e.sz) (h0 : 0 < e.sz) (ho : Opens enc P W base sp held E2 e wf)
    (h : DataW.trod enc P W base sp held fuel t cs = some x) : ∃ v xss, cs = [v] ∧ SlN [] W v E E2 e xss ∧ xss.length ≤ maxLen ∧ ∀ xs ∈ xss, xs.length ≤ maxLen ∧ ∀ a ∈ xs, wf a := by
  rcases DataW.trod_slice ht h with ⟨rfl, _⟩ | ⟨a, len, cap, elems, rest, n, _, rfl, _, hb, hl, hm, hlen, hel, _, _⟩
  · refine ⟨_, [], rfl, ⟨[], (Sl.nil (eI .i64) : SlE [] W (.slice none 0 0) E (eI .i64) []), fun i hi => ?_⟩, Nat.zero_le _, by simp⟩
    have := inB_nat hi
    simp at this
  · have each : ∀ i, i < len → ∃ z : Value × List α, W.cell? (a.add i) = some z.1 ∧ SlE [] W z.1 E2 e z.2 ∧ z.2.length ≤ maxLen ∧ ∀ y ∈ z.2, wf y := fun i hi => by
      have g1 := hel i hi
      have hlt : i < elems.length := by omega
      rw [List.getElem?_eq_getElem hlt, Option.bind_eq_some_iff] at g1
      obtain ⟨cs', g2, g3⟩ := g1
      obtain ⟨v, xs, rfl, s1, s2, s3⟩ := open_slE hE hc h0 ho g3
      rw [h1, Nat.mul_one] at g2
      have g4 := (World.cells?_some g2).2.2 0 (by decide)
      refine ⟨(v, xs), ?_, s1, s2, s3⟩
      have e9 : (a.add i).add 0 = a.add i := by
        obtain ⟨b, o, s⟩ := a
        cases s <;> rfl
      rw [e9] at g4
      rw [g4]; rfl
    let g : Nat → Value × List α := fun i => if hi : i < len then Classical.choose (each i hi) else (.slice none 0 0, [])
    have hg : ∀ i, i < len → W.cell? (a.add i) = some (g i).1 ∧ SlE [] W (g i).1 E2 e (g i).2 ∧ (g i).2.length ≤ maxLen ∧ ∀ y ∈ (g i).2, wf y := fun i hi => by
      simp only [g, dif_pos hi]
      exact Classical.choose_spec (each i hi)
    have hxl : ((List.range len).map fun i => (g i).2).length = len := by simp
    refine ⟨_, (List.range len).map fun i => (g i).2, rfl, ⟨(List.range len).map fun i => (g i).1, ?_, fun i hi => ?_⟩, by rw [hxl]; omega, fun xs hxs => ?_⟩
    · rw [hxl]
      refine sl_of_cells (sz := 1) E (by simp) (by decide) hl fun j u hu => ?_
      have hj : j < len := by have := (List.getElem?_eq_some_iff.1 hu).1; simpa using this
      simp [hj] at hu
      rw [(hg j hj).1, hu]
    · have hn := inB_nat hi
      rw [hxl] at hn
      refine ⟨(g i.toNat).1, by simp [hn], ?_⟩
      have : rdN ((List.range len).map fun i => (g i).2) i = (g i.toNat).2 := by simp [rdN, List.getD_eq_getElem?_getD, hn]
      rw [this]
      exact (hg _ hn).2.1
    · obtain ⟨i, hi, rfl⟩ := List.mem_map.1 hxs
      exact (hg i (List.mem_range.1 hi)).2.2

theorem trod_of {t : TypeId} {v : Value} {d : DataW H} {ps : List MemPlace} (h : DataW.Trod enc P W base sp held t v d ps) : ∃ n x, DataW.trod enc P W base sp held n t v.cells.toList = some x := by
  obtain ⟨n, hn⟩ := h
  exact ⟨n, _, hn⟩
theorem arr1 {xs : Array Value} (h : xs.size = 1) : ∃ c0, xs = #[c0] := by
  obtain ⟨l⟩ := xs
  match l, (show l.length = 1 by simpa using h) with
  | [c0], _ => exact ⟨_, rfl⟩
theorem arr2 {xs : Array Value} (h : xs.size = 2) : ∃ c0 c1, xs = #[c0, c1] := by
  obtain ⟨l⟩ := xs
  match l, (show l.length = 2 by simpa using h) with
  | [c0, c1], _ => exact ⟨_, _, rfl⟩
theorem arr3 {xs : Array Value} (h : xs.size = 3) : ∃ c0 c1 c2, xs = #[c0, c1, c2] := by
  obtain ⟨l⟩ := xs
  match l, (show l.length = 3 by simpa using h) with
  | [c0, c1, c2], _ => exact ⟨_, _, _, rfl⟩
theorem arr4 {xs : Array Value} (h : xs.size = 4) : ∃ c0 c1 c2 c3, xs = #[c0, c1, c2, c3] := by
  obtain ⟨l⟩ := xs
  match l, (show l.length = 4 by simpa using h) with
  | [c0, c1, c2, c3], _ => exact ⟨_, _, _, _, rfl⟩
theorem arr5 {xs : Array Value} (h : xs.size = 5) : ∃ c0 c1 c2 c3 c4, xs = #[c0, c1, c2, c3, c4] := by
  obtain ⟨l⟩ := xs
  match l, (show l.length = 5 by simpa using h) with
  | [c0, c1, c2, c3, c4], _ => exact ⟨_, _, _, _, _, rfl⟩
theorem i8_of {n : Int} (h : wfI .i8 n) : -128 ≤ n ∧ n ≤ 127 := by
  simp [wfI, Lit.wf, IntKind.min, IntKind.max, IntKind.signed, IntKind.bits] at h
  omega
theorem i16_of {n : Int} (h : wfI .i16 n) : -32768 ≤ n ∧ n ≤ 32767 := by
  simp [wfI, Lit.wf, IntKind.min, IntKind.max, IntKind.signed, IntKind.bits] at h
  omega
theorem i64_of {n : Int} (h : wfI .i64 n) : -9223372036854775808 ≤ n ∧ n ≤ 9223372036854775807 := by
  simp [wfI, Lit.wf, IntKind.min, IntKind.max, IntKind.signed, IntKind.bits] at h
  omega
end
end Go.Proofs.YtadggddaheipgaaDoor.Open
