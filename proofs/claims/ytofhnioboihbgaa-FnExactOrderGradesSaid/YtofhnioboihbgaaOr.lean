/- Proved here: the statement 'FnExactOrderGradesSaid': the Go function 'laws.FnExactOrderGrades' returns true for every input, and its input reads as it did. Conditions: none beyond the statement's own. -/
import Derived.Test.YtofhnioboihbgaaRows
import Derived.WalkKit
import Derived.ProofKit
import Derived.OpenShut
import Derived.ChangeOld
import Derived.Below
import Derived.WideKeyArr2
import Derived.Test.YtofhnioboihbgaaOp
import Derived.Test.YtofhnioboihbgaaCd
namespace Go.Proofs.Ytofhnioboihbgaa.fnExactOrderGrades
open Go.ChangeShapes Go.WideShapes Go.ChangeAt Go.RowKit Go.Proofs.Ytofhnioboihbgaa.Open
set_option linter.unusedVariables false

theorem own : ownKnob Try.prog.godebug = none := by kernel_rfl
theorem laidOut : laidOutB Try.prog = true := by kernel_rfl

set_option maxHeartbeats 1000000 in
set_option maxRecDepth 100000 in
theorem lifted (os : Os) (started : os.Started) (H : Type) (enc : TypeId × Value → H) :
    ReturnsInHanded {} Try.checked os 4 .any (Rows.fnExactOrderGradesSpec.pre6 enc Try.prog Try.f4 Rows.fnExactOrderGradesRow.domain false) (Rows.fnExactOrderGradesSpec.post enc Try.prog Try.f4 false true false false) := by
  refine returnsInHanded_of_change (C := Try.checked) own started (by kernel_rfl) Try.func4
    (ChangeSpec.witness6 (enc := enc) (C := Try.checked) false ⟨#[], #[.slice none 0 0, .int .i64 0, .int .i64 0], []⟩ 8 (by kernel_rfl) (by kernel_rfl) (by kernel_rfl) (by kernel_rfl)) ?_
  intro W base args ds gs before hval0 hW hcnd _
  have hval : ∀ (j : Nat) t v, Try.f4.params[j]? = some t → args[j]? = some v → Value.okWide Try.prog W .any base t v := hval0
  have hW' := hW
  obtain ⟨p, q, hA0, hV, rfl, hfz, hnd⟩ := hW
  have hA : DataW.TrodAll enc Try.prog W 0 (fun _ => true) true Try.f4.params.toList args.toList ds p := hA0
  rw [Try.params4] at hA hval
  obtain ⟨v0, vs0, d0, ds0, p0, q0, hargs, rfl, rfl, h0, r0⟩ := trodAll_cons hA
  obtain ⟨v1, vs1, d1, ds1, p1, q1, rfl, rfl, rfl, h1, r1⟩ := trodAll_cons r0
  obtain ⟨v2, vs2, d2, ds2, p2, q2, rfl, rfl, rfl, h2, r2⟩ := trodAll_cons r1
  obtain ⟨rfl, rfl, rfl⟩ := trodAll_nil r2
  obtain rfl : args = #[v0, v1, v2] := by cases args; simp_all
  obtain ⟨rfl, rfl⟩ := trodVars_none hV
  have k0 := h0
  have lt0 : ∀ x ∈ p0, x.block < W.heap.size := by obtain ⟨m, hm⟩ := k0; exact DataW.trod_lt m _ _ _ hm
  have k1 := h1
  have lt1 : ∀ x ∈ p1, x.block < W.heap.size := by obtain ⟨m, hm⟩ := k1; exact DataW.trod_lt m _ _ _ hm
  have k2 := h2
  have lt2 : ∀ x ∈ p2, x.block < W.heap.size := by obtain ⟨m, hm⟩ := k2; exact DataW.trod_lt m _ _ _ hm
  obtain ⟨z0, m0, c0, rfl⟩ := okWide_slice Try.underlying22 (hval 0 22 v0 rfl rfl)
  obtain ⟨n0, x0, g0⟩ := trod_of h0
  obtain ⟨u0, a0, eu0, s0, l0, w0⟩ := open_slN (e := enc_laws_Point) (E := 52) (E2 := 80) Try.underlying22 Try.underlying52 (by kernel_rfl) (by kernel_rfl) (by decide) (opens_two (fun a b => (⟨a, b⟩ : laws_Point)) (fun _ _ => rfl) Try.underlying80 rfl rfl rfl rfl rfl rfl Try.underlying76 Try.underlying76 (by kernel_rfl) (by kernel_rfl) (by kernel_rfl)) g0
  obtain rfl : (Value.slice z0 m0 c0) = u0 := by have e9 : [Value.slice z0 m0 c0] = [u0] := eu0; simpa using e9
  obtain ⟨n1, x1, g1⟩ := trod_of h1
  obtain ⟨a1, ea1, w1⟩ := opens_int Try.underlying2 _ _ _ g1
  obtain ⟨z1, rfl⟩ : ∃ z, v1 = .int .i64 z := okWide_int Try.underlying2 (hval 1 2 v1 rfl rfl)
  obtain rfl : a1 = z1 := by have e9 : [Value.int .i64 z1] = [Value.int .i64 a1] := ea1; simp only [List.cons.injEq, Value.int.injEq, true_and, and_true] at e9; exact e9.symm
  obtain ⟨n2, x2, g2⟩ := trod_of h2
  obtain ⟨a2, ea2, w2⟩ := opens_int Try.underlying2 _ _ _ g2
  obtain ⟨z2, rfl⟩ : ∃ z, v2 = .int .i64 z := okWide_int Try.underlying2 (hval 2 2 v2 rfl rfl)
  obtain rfl : a2 = z2 := by have e9 : [Value.int .i64 z2] = [Value.int .i64 a2] := ea2; simp only [List.cons.injEq, Value.int.injEq, true_and, and_true] at e9; exact e9.symm
  clear hA0 hval0
  refine (laws_FnExactOrderGrades.calls _ a0 a1 a2 true W (G.Own.refl W) s0 (orderGrades_true ⟨Nat.le_trans l0 (by unfold maxLen; decide), fun c hc => ⟨Nat.le_trans (w0 c hc).1 (by unfold maxLen; decide), fun p hp => by obtain ⟨x, y, rfl, g1, g2⟩ := (w0 c hc).2 p hp; exact ⟨i16_of g1, i16_of g2⟩⟩⟩ a1 a2)).mono fun e W' hh => ?_
  obtain ⟨_, he, ho⟩ := hh
  have bel := ho.below
  subst he
  exact ⟨_, rfl, _, _, _, [], _, [], hW', trodAll_mk1 (shut_bool Try.underlying4 _), (trodAll_cons_mk (Below.trod laidOut (by kernel_rfl) (of_decide_eq_true (by kernel_rfl)) k0 bel lt0) (trodAll_cons_mk (Below.trod laidOut (by kernel_rfl) (of_decide_eq_true (by kernel_rfl)) k1 bel lt1) (trodAll_cons_mk (Below.trod laidOut (by kernel_rfl) (of_decide_eq_true (by kernel_rfl)) k2 bel lt2) trodAll_mk0))), rfl, bel.frame _, fun h => by cases h⟩

theorem over : Rows.fnExactOrderGradesRow.holds Try.pinned (OpenSpec.ofChange Rows.fnExactOrderGradesSpec) :=
  OpenClaim.holds_of_wide 4 Try.f4 rfl rfl rfl rfl rfl rfl rfl ⟨rfl, rfl, rfl, rfl, rfl⟩ rfl rfl rfl rfl rfl (by kernel_rfl) Try.func4 (by kernel_rfl)
    (of_decide_eq_true (by kernel_rfl)) (by unfold Func.isWrapper; first | (rw [if_pos (by decide +kernel)]; kernel_rfl) | (rw [if_neg (by decide +kernel)]; exact ⟨rfl, rfl⟩))
    (fun os started H enc _ => lifted os started H enc)

/-- The statement. -/
theorem proved : Rows.FnExactOrderGradesSaid := over
#print axioms proved
end Go.Proofs.Ytofhnioboihbgaa.fnExactOrderGrades
