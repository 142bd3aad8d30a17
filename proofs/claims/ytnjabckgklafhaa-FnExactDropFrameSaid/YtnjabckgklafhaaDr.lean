/- Proved here: the statement 'FnExactDropFrameSaid': the Go function 'laws.FnExactDropFrame' returns true for every input, and its input reads as it did. Conditions: none beyond the statement's own. -/
import Derived.Test.YtnjabckgklafhaaRows
import Derived.WalkKit
import Derived.ProofKit
import Derived.OpenShut
import Derived.ChangeOld
import Derived.Below
import Derived.WideKeyArr2
import Derived.Test.YtnjabckgklafhaaOp
import Derived.Test.YtnjabckgklafhaaDb
namespace Go.Proofs.Ytnjabckgklafhaa.fnExactDropFrame
open Go.ChangeShapes Go.WideShapes Go.ChangeAt Go.RowKit Go.Proofs.Ytnjabckgklafhaa.Open
set_option linter.unusedVariables false

theorem own : ownKnob Try.prog.godebug = none := by kernel_rfl
theorem laidOut : laidOutB Try.prog = true := by kernel_rfl

set_option maxHeartbeats 1000000 in
set_option maxRecDepth 100000 in
theorem lifted (os : Os) (started : os.Started) (H : Type) (enc : TypeId × Value → H) :
    ReturnsInHanded {} Try.checked os 3 .any (Rows.fnExactDropFrameSpec.pre6 enc Try.prog Try.f3 Rows.fnExactDropFrameRow.domain false) (Rows.fnExactDropFrameSpec.post enc Try.prog Try.f3 false true false false) := by
  refine returnsInHanded_of_change (C := Try.checked) own started (by kernel_rfl) Try.func3
    (ChangeSpec.witness6 (enc := enc) (C := Try.checked) false ⟨#[], #[.agg #[.int .i8 0, .slice none 0 0], .int .i64 0], []⟩ 8 (by kernel_rfl) (by kernel_rfl) (by kernel_rfl) (by kernel_rfl)) ?_
  intro W base args ds gs before hval0 hW hcnd _
  have hval : ∀ (j : Nat) t v, Try.f3.params[j]? = some t → args[j]? = some v → Value.okWide Try.prog W .any base t v := hval0
  have hW' := hW
  obtain ⟨p, q, hA0, hV, rfl, hfz, hnd⟩ := hW
  have hA : DataW.TrodAll enc Try.prog W 0 (fun _ => true) true Try.f3.params.toList args.toList ds p := hA0
  rw [Try.params3] at hA hval
  obtain ⟨v0, vs0, d0, ds0, p0, q0, hargs, rfl, rfl, h0, r0⟩ := trodAll_cons hA
  obtain ⟨v1, vs1, d1, ds1, p1, q1, rfl, rfl, rfl, h1, r1⟩ := trodAll_cons r0
  obtain ⟨rfl, rfl, rfl⟩ := trodAll_nil r1
  obtain rfl : args = #[v0, v1] := by cases args; simp_all
  obtain ⟨rfl, rfl⟩ := trodVars_none hV
  have k0 := h0
  have lt0 : ∀ x ∈ p0, x.block < W.heap.size := by obtain ⟨m, hm⟩ := k0; exact DataW.trod_lt m _ _ _ hm
  have k1 := h1
  have lt1 : ∀ x ∈ p1, x.block < W.heap.size := by obtain ⟨m, hm⟩ := k1; exact DataW.trod_lt m _ _ _ hm
  obtain ⟨xs0, rfl, hx0⟩ := okWide_struct Try.underlying25 (hval 0 25 v0 rfl rfl)
  rw [(show Try.prog.cellsOf 25 = 2 by kernel_rfl)] at hx0
  obtain ⟨n0, x0, g0⟩ := trod_of h0
  obtain ⟨c0_0, c0_1, ex0⟩ := arr2 hx0
  subst ex0
  obtain ⟨n0_0, x0_0, g0_0⟩ := open_field 0 Try.underlying25 rfl rfl rfl (show Try.prog.cellsOf 22 = 1 by kernel_rfl) g0
  have g0_0 : DataW.trod enc Try.prog W 0 (fun _ => true) true n0_0 22 [c0_0] = some x0_0 := g0_0
  obtain ⟨a0_0, ea0_0, w0_0⟩ := opens_int Try.underlying22 _ _ _ g0_0
  obtain rfl : c0_0 = .int .i8 a0_0 := by simpa [G.eI] using ea0_0
  obtain ⟨n0_1, x0_1, g0_1⟩ := open_field 1 Try.underlying25 rfl rfl rfl (show Try.prog.cellsOf 23 = 1 by kernel_rfl) g0
  have g0_1 : DataW.trod enc Try.prog W 0 (fun _ => true) true n0_1 23 [c0_1] = some x0_1 := g0_1
  obtain ⟨u0_1, a0_1, eu0_1, s0_1, l0_1, w0_1⟩ := open_slE (e := (G.eA .i16 64)) (E := 59) Try.underlying23 (by kernel_rfl) (by decide) (opens_arr Try.underlying59 Try.underlying58 (by kernel_rfl) (by kernel_rfl)) g0_1
  obtain rfl : c0_1 = u0_1 := by simpa using eu0_1
  obtain ⟨n1, x1, g1⟩ := trod_of h1
  obtain ⟨a1, ea1, w1⟩ := opens_int Try.underlying2 _ _ _ g1
  obtain ⟨z1, rfl⟩ : ∃ z, v1 = .int .i64 z := okWide_int Try.underlying2 (hval 1 2 v1 rfl rfl)
  obtain rfl : a1 = z1 := by have e9 : [Value.int .i64 z1] = [Value.int .i64 a1] := ea1; simp only [List.cons.injEq, Value.int.injEq, true_and, and_true] at e9; exact e9.symm
  clear hA0 hval0
  refine (laws_FnExactDropFrame.calls ⟨a0_0, a0_1⟩ c0_1 a1 true W (G.Own.refl W) s0_1 (dropFrame_true ⟨a0_0, a0_1⟩ (by have h9 := l0_1; unfold maxLen at h9; exact Nat.le_trans h9 (by decide)) a1)).mono fun e W' hh => ?_
  obtain ⟨_, he, ho⟩ := hh
  have bel := ho.below
  subst he
  exact ⟨_, rfl, _, _, _, [], _, [], hW', trodAll_mk1 (shut_bool Try.underlying4 _), (trodAll_cons_mk (Below.trod laidOut (by kernel_rfl) (of_decide_eq_true (by kernel_rfl)) k0 bel lt0) (trodAll_cons_mk (Below.trod laidOut (by kernel_rfl) (of_decide_eq_true (by kernel_rfl)) k1 bel lt1) trodAll_mk0)), rfl, bel.frame _, fun h => by cases h⟩

theorem over : Rows.fnExactDropFrameRow.holds Try.pinned (OpenSpec.ofChange Rows.fnExactDropFrameSpec) :=
  OpenClaim.holds_of_wide 3 Try.f3 rfl rfl rfl rfl rfl rfl rfl ⟨rfl, rfl, rfl, rfl, rfl⟩ rfl rfl rfl rfl rfl (by kernel_rfl) Try.func3 (by kernel_rfl)
    (of_decide_eq_true (by kernel_rfl)) (by unfold Func.isWrapper; first | (rw [if_pos (by decide +kernel)]; kernel_rfl) | (rw [if_neg (by decide +kernel)]; exact ⟨rfl, rfl⟩))
    (fun os started H enc _ => lifted os started H enc)

/-- The statement. -/
theorem proved : Rows.FnExactDropFrameSaid := over
#print axioms proved
end Go.Proofs.Ytnjabckgklafhaa.fnExactDropFrame
