/- Proved here: the statement 'FnExactContrastOfSaid': the Go function 'laws.FnExactContrastOf' returns true for every input, and its input reads as it did. Conditions: none beyond the statement's own. -/
import Derived.Test.YtopmellnegcfpaaRows
import Derived.WalkKit
import Derived.ProofKit
import Derived.OpenShut
import Derived.ChangeOld
import Derived.Below
import Derived.WideKeyArr2
import Derived.Test.YtopmellnegcfpaaTf
namespace Go.Proofs.Ytopmellnegcfpaa.fnExactContrastOf
open Go.ChangeShapes Go.WideShapes Go.ChangeAt Go.RowKit
set_option linter.unusedVariables false

theorem own : ownKnob Try.prog.godebug = none := by kernel_rfl
theorem laidOut : laidOutB Try.prog = true := by kernel_rfl

theorem mapM_ints {H : Type} {enc : TypeId × Value → H} {P : Program} {e : TypeId} {q : IntKind} {W : World} {base : Nat} {sp : Nat → Bool} {held : Bool} {m : Nat} {cs : List Value} (he : P.underlying e = some (.int q)) : ∀ (L : List Nat) (xs : List (DataW H × List MemPlace)),
    L.mapM (fun i => DataW.trod enc P W base sp held m e ((cs.drop (i * 1)).take 1)) = some xs → ∀ i ∈ L, ∃ z : Int, cs[i]? = some (.int q z) ∧ (Lit.int q z).wf = true
  | [], _, _, i, hi => by simp at hi
  | j :: L, xs, h, i, hi => by
    rw [List.mapM_cons] at h
    simp only [bind, Option.bind_eq_some_iff, pure, Option.some.injEq] at h
    obtain ⟨y, hy, ys, hys, rfl⟩ := h
    simp only [List.mem_cons] at hi
    rcases hi with rfl | hi
    · obtain ⟨a, ea, _, wa⟩ := DataW.trod_int he hy
      refine ⟨a, ?_, wa⟩
      have := congrArg (·[0]?) ea
      simpa using this
    · exact mapM_ints he L ys hys i hi

theorem open_arr8 {H : Type} {enc : TypeId × Value → H} {P : Program} {k e : TypeId} {q : IntKind} {W : World} {base : Nat} {sp : Nat → Bool} {held : Bool} {n : Nat} (hu : P.underlying k = some (.array n e)) (he : P.underlying e = some (.int q)) (h1 : P.cellsOf e = 1) (hk : P.cellsOf k = n) {xs : Array Value} {d : DataW H} {ps : List MemPlace}
    (hn : xs.size = n) (hd : DataW.Trod enc P W base sp held k (.agg xs) d ps) : ∃ v : Vector Int n, xs = (G.encA q v).toArray ∧ ∀ i : Nat, i < n → (Lit.int q (G.rdA v i)).wf = true := by
  obtain ⟨fuel, hf⟩ := hd
  cases fuel with
  | zero => simp [DataW.trod] at hf
  | succ m =>
    rw [DataW.trod_step] at hf
    unfold DataW.trodStep at hf
    simp only [hu, Value.cells] at hf
    rw [if_pos (by rw [hk]; simpa using hn)] at hf
    simp only [Option.map_eq_some_iff, h1] at hf
    obtain ⟨ys, hy, _⟩ := hf
    have hz := mapM_ints he _ ys hy
    have hz' : ∀ i : Nat, i < n → ∃ z : Int, xs.toList[i]? = some (.int q z) ∧ (Lit.int q z).wf = true := fun i hi => hz i (by simpa using hi)
    let f : Nat → Int := fun i => match xs.toList[i]? with | some (.int _ z) => z | _ => 0
    refine ⟨Vector.ofFn fun i : Fin n => f i, ?_, fun i hi => ?_⟩
    · apply Array.toList_inj.1
      apply List.ext_getElem?
      intro i
      by_cases hi : i < n
      · obtain ⟨z, e1, _⟩ := hz' i hi
        have e2 : xs[i]? = some (.int q z) := by simpa using e1
        rw [e1]
        simp [G.encA, hi, f, e2]
      · rw [List.getElem?_eq_none (by simpa [hn] using hi), List.getElem?_eq_none (by simp [G.encA]; omega)]
    · obtain ⟨z, e1, w1⟩ := hz' i hi
      have e2 : xs[i]? = some (.int q z) := by simpa using e1
      have : G.rdA (Vector.ofFn fun i : Fin n => f i) (i : Int) = z := by simp [G.rdA, hi, f, e2]
      rw [this]; exact w1

theorem i8_of_wf {n : Int} (h : (Lit.int .i8 n).wf = true) : -128 ≤ n ∧ n ≤ 127 := by
  simp [Lit.wf, IntKind.min, IntKind.max, IntKind.signed, IntKind.bits] at h
  omega

set_option maxRecDepth 100000 in
theorem lifted (os : Os) (started : os.Started) (H : Type) (enc : TypeId × Value → H) :
    ReturnsInHanded {} Try.checked os 4 .any (Rows.fnExactContrastOfSpec.pre6 enc Try.prog Try.f4 Rows.fnExactContrastOfRow.domain false) (Rows.fnExactContrastOfSpec.post enc Try.prog Try.f4 false true false false) := by
  refine returnsInHanded_of_change (C := Try.checked) own started (by kernel_rfl) Try.func4
    (ChangeSpec.witness6 (enc := enc) (C := Try.checked) false ⟨#[], #[.agg (Array.replicate 24 (.int .i8 0)), .int .i64 0, .int .i64 0], []⟩ 8 (by kernel_rfl) (by kernel_rfl) (by kernel_rfl) (by kernel_rfl)) ?_
  intro W base args ds gs before hval0 hW hcnd _
  have hval : ∀ (j : Nat) t v, Try.f4.params[j]? = some t → args[j]? = some v → Value.okWide Try.prog W .any base t v := hval0
  have hW' := hW
  obtain ⟨p, q, hA0, hV, rfl, hfz, hnd⟩ := hW
  have hA : DataW.TrodAll enc Try.prog W 0 (fun _ => true) true Try.f4.params.toList args.toList ds p := hA0
  rw [Try.params4] at hA hval
  obtain ⟨v0, vs0, d0, ds0, p0, q0, hargs, rfl, rfl, h0, r0⟩ := trodAll_cons hA
  obtain ⟨v1, vs1, d1, ds1, p1, q1, rfl, rfl, rfl, h1, r1⟩ := trodAll_cons r0
  obtain ⟨v2, vs2, d2, ds2, p2, q2, rfl, rfl, rfl, h2, r2⟩ := trodAll_cons r1
  obtain ⟨rfl, rfl, rfl⟩ := trodAll_nil r2
  obtain rfl : args = #[v0, v1, v2] := by cases args; simp_all
  obtain ⟨z1, rfl⟩ : ∃ z, v1 = .int .i64 z := by
    exact okWide_int Try.underlying2 (hval 1 2 v1 rfl rfl)
  obtain ⟨z2, rfl⟩ : ∃ z, v2 = .int .i64 z := by
    exact okWide_int Try.underlying2 (hval 2 2 v2 rfl rfl)
  have k1 := h1
  have lt1 : ∀ x ∈ p1, x.block < W.heap.size := by obtain ⟨m, hm⟩ := k1; exact DataW.trod_lt m _ _ _ hm
  have k2 := h2
  have lt2 : ∀ x ∈ p2, x.block < W.heap.size := by obtain ⟨m, hm⟩ := k2; exact DataW.trod_lt m _ _ _ hm
  obtain ⟨rfl, rfl⟩ := trodVars_none hV
  have hu23 : Try.prog.underlying 23 = some (.array 24 22) := by kernel_rfl
  have hu22 : Try.prog.underlying 22 = some (.int .i8) := by kernel_rfl
  have hc22 : Try.prog.cellsOf 22 = 1 := by kernel_rfl
  have hc23 : Try.prog.cellsOf 23 = 24 := by kernel_rfl
  obtain ⟨xs, rfl, hxs⟩ : ∃ xs : Array Value, v0 = .agg xs ∧ xs.size = 24 := by
    have h := hval 0 23 v0 rfl rfl
    simp only [Value.okWide, hu23] at h
    obtain ⟨cs, h1, h2, _⟩ := h
    exact ⟨cs, h1, by rw [h2, hc23]⟩
  have k0 := h0
  have lt0 : ∀ x ∈ p0, x.block < W.heap.size := by obtain ⟨m, hm⟩ := k0; exact DataW.trod_lt m _ _ _ hm
  obtain ⟨v, rfl, hwf⟩ := open_arr8 hu23 hu22 hc22 hc23 hxs h0
  clear hA0 hval0
  refine (laws_FnExactContrastOf.calls v z1 z2 true W (G.Own.refl W) (contrastOf_true v (fun i hi => i8_of_wf (hwf i hi)) z1 z2)).mono fun e W' hh => ?_
  obtain ⟨_, he, ho⟩ := hh
  have bel := ho.below
  subst he
  exact ⟨_, rfl, _, _, _, [], _, [], hW', trodAll_mk1 (shut_bool Try.underlying4 _), (trodAll_cons_mk (Below.trod laidOut (by kernel_rfl) (of_decide_eq_true (by kernel_rfl)) k0 bel lt0) (trodAll_cons_mk (Below.trod laidOut (by kernel_rfl) (of_decide_eq_true (by kernel_rfl)) k1 bel lt1) (trodAll_cons_mk (Below.trod laidOut (by kernel_rfl) (of_decide_eq_true (by kernel_rfl)) k2 bel lt2) trodAll_mk0))), rfl, bel.frame _, fun h => by cases h⟩

theorem over : Rows.fnExactContrastOfRow.holds Try.pinned (OpenSpec.ofChange Rows.fnExactContrastOfSpec) :=
  OpenClaim.holds_of_wide 4 Try.f4 rfl rfl rfl rfl rfl rfl rfl ⟨rfl, rfl, rfl, rfl, rfl⟩ rfl rfl rfl rfl rfl (by kernel_rfl) Try.func4 (by kernel_rfl)
    (of_decide_eq_true (by kernel_rfl)) (by unfold Func.isWrapper; first | (rw [if_pos (by decide +kernel)]; kernel_rfl) | (rw [if_neg (by decide +kernel)]; exact ⟨rfl, rfl⟩))
    (fun os started H enc _ => lifted os started H enc)

/-- The statement. -/
theorem proved : Rows.FnExactContrastOfSaid := over
#print axioms proved
end Go.Proofs.Ytopmellnegcfpaa.fnExactContrastOf
