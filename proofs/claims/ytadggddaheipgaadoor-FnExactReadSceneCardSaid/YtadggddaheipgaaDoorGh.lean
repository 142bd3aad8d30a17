/- Arrays and structs compared by '=='. No condition. -/
import Derived.Test.YtadggddaheipgaaDoorGf
import Derived.ChangeKeysEq
import Derived.Laws.StructEq
set_option linter.unusedVariables false
set_option linter.unusedSimpArgs false
namespace Go.Proofs.YtadggddaheipgaaDoor
open Go Go.RowKit
namespace G
section
variable {P : Program} {N : Nat} {M : List Nat} {w0 : World} {ps : List (Nat × Value)} {es : List Ent} {o : Oper}

theorem part1 {E : TypeId} {cs : Array Value} {i : Nat} {v : Value} {w : World} {d : TypeDesc} (hu : P.underlying E = some d) (hE : aggB P E = false) (h : cs[i]? = some v) : (part E cs i).run P w = .ok v w := by
  unfold aggB at hE
  rw [hu] at hE
  cases d <;> simp_all [part, isAgg, run_underlying hu]

theorem V.eq_of {T T' : TypeId} {x y : Operand} {xs ys : Array Value} {r : Bool} (ho : o.op = .binOp .eql T x y T') (hx : ev ps x = some (.agg xs)) (hy : ev ps y = some (.agg ys)) (hg : P.eqGuardType P.depth T = false)
    (h : ∀ w, (Op.equalIn 10000 T (.agg xs) (.agg ys)).run P w = .ok r w) : OpV P N M w0 ps es o (.bool r) := fun a w hs _ => by
  simp [execOp, ho, hs.eval hx, hs.eval hy, eqGuard, hg, binOp, Op.equal, Op.maxDepth, h]
theorem V.ne_of {T T' : TypeId} {x y : Operand} {xs ys : Array Value} {r : Bool} (ho : o.op = .binOp .neq T x y T') (hx : ev ps x = some (.agg xs)) (hy : ev ps y = some (.agg ys)) (hg : P.eqGuardType P.depth T = false)
    (h : ∀ w, (Op.equalIn 10000 T (.agg xs) (.agg ys)).run P w = .ok r w) : OpV P N M w0 ps es o (.bool !r) := fun a w hs _ => by
  simp [execOp, ho, hs.eval hx, hs.eval hy, eqGuard, hg, binOp, Op.equal, Op.maxDepth, h]

theorem eqItems_ints {E : TypeId} {k : IntKind} {n : Nat} (v v' : Vector Int n) (hu : P.underlying E = some (.int k)) (w : World) : ∀ is : List Nat, (∀ i ∈ is, i < n) →
    (Op.eqItems 9999 E 1 (encA k v).toArray (encA k v').toArray is).run P w = .ok (is.all fun i => v.toList.getD i 0 == v'.toList.getD i 0) w
  | [], _ => by simp [Op.eqItems]
  | i :: is, h => by
    have hE : aggB P E = false := by unfold aggB; rw [hu]
    have h1 : ∀ v : Vector Int n, (encA k v).toArray[i * 1]? = some (.int k (v.toList.getD i 0)) := by
      intro v
      have := h i (by simp)
      simp [encA, this]
    simp only [Op.eqItems, Sem.run_bind, part1 hu hE (h1 v), part1 hu hE (h1 v'), Result.andThen_ok, run_equalIn_int w 9998 E k k _ _ hu, List.all_cons]
    have ih := eqItems_ints v v' hu w is (fun j hj => h j (by simp [hj]))
    generalize (is.all fun i => v.toList.getD i 0 == v'.toList.getD i 0) = rest at *
    generalize v.toList.getD i 0 = p at *
    generalize v'.toList.getD i 0 = q at *
    by_cases e : p = q
    · simp [e, ih]
    · simp [e]

theorem all_eq {n : Nat} (v v' : Vector Int n) : ((List.range n).all fun i => v.toList.getD i 0 == v'.toList.getD i 0) = (v == v') := by
  rw [Bool.eq_iff_iff, beq_iff_eq, List.all_eq_true]
  constructor
  · intro h
    apply Vector.toList_inj.1
    apply List.ext_getElem (by simp)
    intro i h1 h2
    have := h i (by simpa using h1)
    simp at h1
    simpa [h1] using this
  · rintro rfl; simp

theorem equal_arr {T E : TypeId} {k : IntKind} {n : Nat} {v v' : Vector Int n} (hu : arE P T = some (n, E)) (hs : sizeP P E = some 1) (hE : P.underlying E = some (.int k)) (w : World) :
    (Op.equalIn 10000 T (.agg (encA k v).toArray) (.agg (encA k v').toArray)).run P w = .ok (v == v') w := by
  have hu' : P.underlying T = some (.array n E) := by
    unfold arE at hu
    split at hu
    · rename_i h; cases hu; exact h
    · cases hu
  obtain ⟨i, hi, hi2⟩ : ∃ i, P.info? E = some i ∧ i.size = 1 := by
    unfold sizeP at hs
    cases h : P.info? E with
    | none => rw [h] at hs; cases hs
    | some i => rw [h] at hs; exact ⟨i, rfl, by simpa using hs⟩
  have hc : P.cellsOf E = 1 := by simp [Program.cellsOf, hi, hi2]
  rw [run_equalIn_array w 9999 _ _ hu' hi, hc, eqItems_ints v v' hE w _ (fun i hi => List.mem_range.1 hi), all_eq]

theorem V.eqA {T T' E : TypeId} {x y : Operand} {k : IntKind} {n : Nat} {v v' : Vector Int n} (ho : o.op = .binOp .eql T x y T') (hx : ev ps x = some (.agg (encA k v).toArray)) (hy : ev ps y = some (.agg (encA k v').toArray))
    (hu : arE P T = some (n, E)) (hs : sizeP P E = some 1) (hE : P.underlying E = some (.int k)) (ha : aggB P E = false) (hg : P.eqGuardType P.depth T = false) : OpV P N M w0 ps es o (.bool (v == v')) :=
  V.eq_of ho hx hy hg (equal_arr hu hs hE)
theorem V.neA {T T' E : TypeId} {x y : Operand} {k : IntKind} {n : Nat} {v v' : Vector Int n} (ho : o.op = .binOp .neq T x y T') (hx : ev ps x = some (.agg (encA k v).toArray)) (hy : ev ps y = some (.agg (encA k v').toArray))
    (hu : arE P T = some (n, E)) (hs : sizeP P E = some 1) (hE : P.underlying E = some (.int k)) (ha : aggB P E = false) (hg : P.eqGuardType P.depth T = false) : OpV P N M w0 ps es o (.bool !(v == v')) :=
  V.ne_of ho hx hy hg (equal_arr hu hs hE)

/-! ### Structs -/

theorem eqf1 {d : Nat} {xs ys : Array Value} {f : Field} {a b : Value} {r : Bool} {w : World} {t : TypeDesc} (hn : (f.name == "_") = false) (hu : P.underlying f.type = some t) (hE : aggB P f.type = false) (ha : xs[f.offset]? = some a) (hb : ys[f.offset]? = some b)
    (he : (Op.equalIn d f.type a b).run P w = .ok r w) : (Op.eqFields d xs ys [f]).run P w = .ok r w := by
  have hn' : f.name ≠ "_" := by simpa using hn
  simp only [Op.eqFields, if_pos hn', Sem.run_bind, part1 hu hE ha, part1 hu hE hb, he, Result.andThen_ok]
  cases r <;> simp
theorem eqfc {d : Nat} {xs ys : Array Value} {f : Field} {fs : List Field} {a b : Value} {r s : Bool} {w : World} {t : TypeDesc} (hn : (f.name == "_") = false) (hu : P.underlying f.type = some t) (hE : aggB P f.type = false) (ha : xs[f.offset]? = some a) (hb : ys[f.offset]? = some b)
    (he : (Op.equalIn d f.type a b).run P w = .ok r w) (hr : (Op.eqFields d xs ys fs).run P w = .ok s w) : (Op.eqFields d xs ys (f :: fs)).run P w = .ok (r && s) w := by
  have hn' : f.name ≠ "_" := by simpa using hn
  rw [Op.eqFields]
  simp only [if_pos hn', Sem.run_bind, part1 hu hE ha, part1 hu hE hb, he, Result.andThen_ok]
  cases r
  · simp
  · simpa using hr
theorem equal_st {t : TypeId} {fs : Array Field} {xs ys : Array Value} {r : Bool} {w : World} (hu : P.underlying t = some (.struct fs)) (hp : P.stoodInHeld t = false) (h : (Op.eqFields 9999 xs ys fs.toList).run P w = .ok r w) : (Op.equalIn 10000 t (.agg xs) (.agg ys)).run P w = .ok r w := by
  have hf : P.fieldsOf t = fs := by simp [Program.fieldsOf, hu]
  rw [run_equalIn_struct (P := P) w 9999 t xs ys (by rw [hf]; exact hu) hp, hf]
  exact h
end
end G
end Go.Proofs.YtadggddaheipgaaDoor
