/- Go functions as Lean functions, and that each call of theirs comes to just that: by a program written for this work (walk.py). No condition. -/
import Derived.Test.YtadggddaheipgaaDoorF0
namespace Go.Proofs.YtadggddaheipgaaDoor
open Go Go.RowKit G
set_option linter.unusedVariables false

/-! ### laws.FnExactSceneText: function 3 -/
noncomputable def laws_FnExactSceneText.f (p0_aS : (Vector Int 24)) : Option (Bool) := (laws_toScene.f p0_aS).bind fun r3 => (spec_SceneText.f r3).bind fun r6 => (laws_toScene.f p0_aS).bind fun r9 => (impl_SceneText.f r9).bind fun r12 => bif (!(r12.toList == r6.toList)) then (some false) else (some true)
set_option maxRecDepth 100000 in
theorem laws_FnExactSceneText.calls (p0_aS : (Vector Int 24)) (r : Bool) (w : World) (H0 : Own [] w w []) (h0 : laws_FnExactSceneText.f p0_aS = some r) :
    Calls Tryd.prog 3 #[.agg (encA .i8 p0_aS).toArray] w (fun e w' => ∃ _ : Unit, e = .returned (.bool r) ∧ Own [] w w' []) := by
  unfold laws_FnExactSceneText.f at h0
  replace h0 := B.top h0
  refine calls_of_J (args := [.agg (encA .i8 p0_aS).toArray]) Tryd.func3 rfl Tryd.ntmps3 rfl [(0, .agg (encA .i8 p0_aS).toArray)] rfl H0 ?_
  refine J.seq ?_
  refine J.region ?_
  refine J.box rfl rfl rfl rfl rfl (fun _ _ => rfl) fun b1 => ?_
  refine J.op rfl rfl rfl (V.as rfl rfl) ?_
  refine J.nil ?_
  refine J.tN ?_
  refine J.seq ?_
  refine J.region ?_
  refine J.op rfl rfl rfl (V.ldW 0 rfl rfl rfl ts23 ta23 (encA_len _ _)) ?_
  obtain ⟨r3, hr4, h0⟩ := B.bind h0
  refine J.clA (l := [.tmp 5]) [] [.blk b1 (encA .i8 p0_aS) 23] cf6 (wN rfl) rfl rfl rfl rfl rfl rfl (fun w H => laws_toScene.calls p0_aS r3 w (Own.refl w)  hr4) fun g5 => ?_
  obtain ⟨r6, hr7, h0⟩ := B.bind h0
  refine J.clA (l := [.tmp 6]) [] [.blk b1 (encA .i8 p0_aS) 23] cf5 (wN rfl) rfl rfl rfl rfl rfl rfl (fun w H => spec_SceneText.calls r3 r6 w (Own.refl w)  hr7) fun g8 => ?_
  refine J.op rfl rfl rfl (V.as rfl rfl) ?_
  refine J.nil ?_
  refine J.tN ?_
  refine J.seq ?_
  refine J.region ?_
  refine J.op rfl rfl rfl (V.ldW 0 rfl rfl rfl ts23 ta23 (encA_len _ _)) ?_
  obtain ⟨r9, hr10, h0⟩ := B.bind h0
  refine J.clA (l := [.tmp 8]) [] [.blk b1 (encA .i8 p0_aS) 23] cf6 (wN rfl) rfl rfl rfl rfl rfl rfl (fun w H => laws_toScene.calls p0_aS r9 w (Own.refl w)  hr10) fun g11 => ?_
  obtain ⟨r12, hr13, h0⟩ := B.bind h0
  refine J.clA (l := [.tmp 9]) [] [.blk b1 (encA .i8 p0_aS) 23] cf7 (wN rfl) rfl rfl rfl rfl rfl rfl (fun w H => impl_SceneText.calls r9 r12 w (Own.refl w)  hr13) fun g14 => ?_
  refine J.op rfl rfl rfl (V.as rfl rfl) ?_
  refine J.nil ?_
  refine J.tN ?_
  refine J.seq ?_
  refine J.seq ?_
  refine J.region ?_
  refine J.op rfl rfl rfl (V.mv rfl rfl) ?_
  refine J.op rfl rfl rfl (V.mv rfl rfl) ?_
  refine J.op rfl rfl rfl (V.neS rfl rfl rfl) ?_
  refine J.nil ?_
  refine J.tN ?_
  refine J.cond rfl (fun hB15 => ?_) (fun hB15 => ?_)
  · replace h0 := B.t hB15 h0
    refine J.seq ?_
    refine J.region ?_
    refine J.op rfl rfl rfl (V.as rfl rfl) ?_
    refine J.nil ?_
    refine J.tN ?_
    refine J.ret ?_
    refine J.tR ?_
    obtain rfl := B.e h0
    exact J.ret1 rfl rfl fun w H => ⟨(), rfl, H.pick [] (by decide)⟩
  · replace h0 := B.f hB15 h0
    refine J.skip ?_
    refine J.tN ?_
    refine J.seq ?_
    refine J.region ?_
    refine J.op rfl rfl rfl (V.as rfl rfl) ?_
    refine J.nil ?_
    refine J.tN ?_
    refine J.ret ?_
    obtain rfl := B.e h0
    exact J.ret1 rfl rfl fun w H => ⟨(), rfl, H.pick [] (by decide)⟩

end Go.Proofs.YtadggddaheipgaaDoor
