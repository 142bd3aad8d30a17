/- Scenes whose readings are 0 to 60: both sides call them valid. -/
import Derived.Test.YtopmellnegcfpaaGg
import Derived.Test.YtopmellnegcfpaaFz
set_option linter.unusedVariables false
set_option linter.unusedSimpArgs false
namespace Go.Proofs.Ytopmellnegcfpaa
open Go.Proofs.Ytopmellnegcfpaa.G

def Scn (s : Vector Int 24) : Prop := ∀ i : Nat, i < 24 → 0 ≤ rdA s i ∧ rdA s i ≤ 60

theorem Scn.at {s : Vector Int 24} (h : Scn s) {i : Int} (h0 : 0 ≤ i) (h1 : i < 24) : 0 ≤ rdA s i ∧ rdA s i ≤ 60 := by
  obtain ⟨j, rfl⟩ := Int.eq_ofNat_of_zero_le h0
  exact h j (by omega)

/-! ### Whether a scene is one -/

theorem isReading_ok (n : Int) : impl_isReading.f n = some (decide (0 ≤ n) && decide (n ≤ 60)) := by
  unfold impl_isReading.f impl_within.f
  by_cases h : 0 ≤ n <;> simp [h]
theorem l06Reading_ok (n : Int) : spec_l06Reading.f n = some (decide (0 ≤ n) && decide (n ≤ 60)) := by
  unfold spec_l06Reading.f spec_l00In.f
  by_cases h : 0 ≤ n <;> simp [h]

theorem l06Ok_ok {s : Vector Int 24} (hs : Scn s) : spec_l06Ok.f s = some true := by
  unfold spec_l06Ok.f
  have e : loopW (spec_l06Ok.b1 s) 0 = some (.inl ()) := by
    refine loopW_for (fun i => (i : Int)) (n := 24) (fun i hi => ?_) rfl rfl
    unfold spec_l06Ok.b1
    have g1 : decide ((i : Int) < 24) = true := by simp; omega
    have g2 : inB (i : Int) 24 = true := inB_iff.2 ⟨by omega, by omega⟩
    have r1 := hs i hi
    have v1 : IntKind.wrap .i64 (rdA s i) = rdA s i := w64 (by omega) (by omega)
    have v5 : IntKind.wrap .i64 ((i : Int) + 1) = (i : Int) + 1 := w64 (by omega) (by omega)
    have g3 : (decide (0 ≤ rdA s i) && decide (rdA s i ≤ 60)) = true := by simp; omega
    simp only [g1, g2, cond_true, v1, l06Reading_ok, g3, Option.bind_some, v5, Bool.not_true, cond_false]
    rfl
  rw [e]
  rfl

theorem ValidScene_ok {s : Vector Int 24} (hs : Scn s) : impl_ValidScene.f s = some true := by
  unfold impl_ValidScene.f slices_ContainsFunc_int8_int8.f slices_IndexFunc_int8_int8.f
  have e : loopW (slices_IndexFunc_int8_int8.b1 s.toList (fun z => impl_ValidScene_1.f z)) 0 = some (.inl ()) := by
    refine loopW_for (fun i => (i : Int)) (n := 24) (fun i hi => ?_) ?_ rfl
    · unfold slices_IndexFunc_int8_int8.b1
      have g1 : decide ((i : Int) < (s.toList.length : Int)) = true := by simp; omega
      have g2 : inB (i : Int) s.toList.length = true := inB_iff.2 ⟨by omega, by simp; omega⟩
      have r1 := hs i hi
      have r2 : rd (eI .i8) s.toList i = rdA s i := rfl
      have v1 : IntKind.wrap .i64 (rdA s i) = rdA s i := w64 (by omega) (by omega)
      have v5 : IntKind.wrap .i64 ((i : Int) + 1) = (i : Int) + 1 := w64 (by omega) (by omega)
      have g3 : (decide (0 ≤ rdA s i) && decide (rdA s i ≤ 60)) = true := by simp; omega
      simp only [g1, g2, cond_true, r2, impl_ValidScene_1.f, v1, isReading_ok, g3, Option.bind_some, v5, Bool.not_true, cond_false]
      rfl
    · unfold slices_IndexFunc_int8_int8.b1
      have g1 : decide (((24 : Nat) : Int) < (s.toList.length : Int)) = false := by simp
      simp only [g1, cond_false]
  rw [e]
  rfl

end Go.Proofs.Ytopmellnegcfpaa
