/- What the drawn scenes are: readings of 0 to 60; such a scene is valid. -/
import Derived.Test.YtopmellnegcfpaaPa
import Derived.Test.YtopmellnegcfpaaFz
set_option linter.unusedVariables false
set_option linter.unusedSimpArgs false
namespace Go.Proofs.Ytopmellnegcfpaa
open Go.Proofs.Ytopmellnegcfpaa.G

def Scn (s : Vector Int 24) : Prop := ∀ i : Nat, i < 24 → 0 ≤ rdA s i ∧ rdA s i ≤ 60

theorem Scn.at {s : Vector Int 24} (h : Scn s) {i : Int} (h0 : 0 ≤ i) (h1 : i < 24) : 0 ≤ rdA s i ∧ rdA s i ≤ 60 := by
  obtain ⟨j, rfl⟩ := Int.eq_ofNat_of_zero_le h0
  exact h j (by omega)

theorem Scn.wr {s : Vector Int 24} (h : Scn s) {i x : Int} (h0 : 0 ≤ i) (h1 : i < 24) (hx0 : 0 ≤ x) (hx : x ≤ 60) : Scn (wrA s i x) := by
  intro j hj
  rw [rdA_wrA' s x h0 h1 (by omega)]
  split
  · exact ⟨hx0, hx⟩
  · exact h j hj

theorem drawn_ok {s : spec_l00Src} (hc : Bytes s.code) (h0 : 0 ≤ s.at_) (h1 : s.at_ ≤ 1000000) :
    Ok (spec_l06Drawn.f s) fun r => Scn r.1 ∧ r.2.code = s.code ∧ 0 ≤ r.2.at_ ∧ r.2.at_ ≤ s.at_ + 100 := by
  obtain ⟨code, p, d⟩ := s
  unfold spec_l06Drawn.f
  dsimp only at *
  refine Ok.let ?_
  refine Ok.bind (pick_ok 40 (by omega) hc h0 (by dsimp only; omega)) fun r6 hr6 => ?_
  dsimp only at hr6
  refine Ok.bind (pick_ok 21 (by omega) hc hr6.2.2.2.2.1 (by dsimp only; omega)) fun r9 hr9 => ?_
  dsimp only at hr9
  refine Ok.let ?_
  have e1 : IntKind.wrap .i64 (1 + r9.1) = 1 + r9.1 := w64 (by omega) (by omega)
  rw [e1]
  refine Ok.bind (Q := fun y => Scn y.2.2 ∧ 0 ≤ y.1 ∧ y.1 ≤ p + 60) ?_ fun y23 hy => ?_
  · refine Ok.loop (fun s => 0 ≤ s.1 ∧ s.1 ≤ 24 ∧ 0 ≤ s.2.1 ∧ s.2.1 ≤ p + 4 + 2 * s.1 ∧ Scn s.2.2.2) (fun s => (24 - s.1).toNat) ?_ ?_
    · dsimp only
      refine ⟨by omega, by omega, by omega, by omega, fun i hi => ?_⟩
      rw [rdA_zA]; omega
    · rintro ⟨i, at', seed', m⟩ ⟨i0, i1, a0, a1, hm⟩
      unfold spec_l06Drawn.b1
      dsimp only at *
      refine Ok.dif (fun h => ?_) fun h => Ok.some ⟨hm, a0, by dsimp only; omega⟩
      refine Ok.bind (pick_ok (1 + r9.1) (by omega) hc a0 (by dsimp only; omega)) fun r17 hr => ?_
      dsimp only at hr
      refine Ok.must (inB_iff.2 ⟨i0, by omega⟩) (Ok.let (Ok.let (Ok.some ?_)))
      have e2 : IntKind.wrap .i64 (i + 1) = i + 1 := w64 (by omega) (by omega)
      have e3 : IntKind.wrap .i64 (r6.1 + r17.1) = r6.1 + r17.1 := w64 (by omega) (by omega)
      have e4 : IntKind.wrap .i8 (r6.1 + r17.1) = r6.1 + r17.1 := w8 (by omega) (by omega)
      rw [e2, e3, e4]
      dsimp only
      exact ⟨⟨by omega, by omega, by omega, by omega, hm.wr i0 (by omega) (by omega) (by omega)⟩, by omega⟩
  obtain ⟨hm, a0, a1⟩ := hy
  refine Ok.bind (pick_ok 5 (by omega) hc a0 (by dsimp only; omega)) fun r26 hr => ?_
  dsimp only at hr
  refine Ok.bind (Q := fun y => Scn y.2.2 ∧ 0 ≤ y.1 ∧ y.1 ≤ p + 90) ?_ fun y hy => Ok.some ⟨hy.1, rfl, hy.2.1, by dsimp only; omega⟩
  refine Ok.loop (fun s => 0 ≤ s.1 ∧ s.1 ≤ 4 ∧ 0 ≤ s.2.1 ∧ s.2.1 ≤ p + 62 + 4 * (4 - s.1) ∧ Scn s.2.2.2) (fun s => s.1.toNat) ?_ ?_
  · dsimp only
    exact ⟨by omega, by omega, by omega, by omega, hm⟩
  · rintro ⟨k, at', seed', m⟩ ⟨i0, i1, b0, b1, hm⟩
    unfold spec_l06Drawn.b2
    dsimp only at *
    refine Ok.dif (fun h => ?_) fun h => Ok.some ⟨hm, b0, by dsimp only; omega⟩
    refine Ok.bind (pick_ok 24 (by omega) hc b0 (by dsimp only; omega)) fun r33 hr33 => ?_
    dsimp only at hr33
    refine Ok.bind (pick_ok 61 (by omega) hc hr33.2.2.2.2.1 (by dsimp only; omega)) fun r36 hr36 => ?_
    dsimp only at hr36
    refine Ok.must (inB_iff.2 ⟨hr33.1, by omega⟩) (Ok.let (Ok.let (Ok.some ?_)))
    have e2 : IntKind.wrap .i64 (k - 1) = k - 1 := w64 (by omega) (by omega)
    have e3 : IntKind.wrap .i8 r36.1 = r36.1 := w8 (by omega) (by omega)
    rw [e2, e3]
    dsimp only
    exact ⟨⟨by omega, by omega, by omega, by omega, hm.wr (by omega) (by omega) (by omega) (by omega)⟩, by omega⟩

theorem A2Scene_ok {code : List Int} (hc : Bytes code) : Ok (spec_A2Scene.f code) Scn := by
  unfold spec_A2Scene.f spec_l00From.f
  refine Ok.let (Ok.bind (drawn_ok (s := ⟨code, 0, 0⟩) hc (Int.le_refl _) (by simp)) fun r hr => Ok.some hr.1)

/-! ### Whether a scene is one -/

theorem isReading_ok (n : Int) : impl_isReading.f n = some (decide (0 ≤ n) && decide (n ≤ 60)) := by
  unfold impl_isReading.f impl_within.f
  by_cases h : 0 ≤ n <;> simp [h]
theorem l06Reading_ok (n : Int) : spec_l06Reading.f n = some (decide (0 ≤ n) && decide (n ≤ 60)) := by
  unfold spec_l06Reading.f spec_l00In.f
  by_cases h : 0 ≤ n <;> simp [h]

theorem l06Ok_ok {s : Vector Int 24} (hs : Scn s) : spec_l06Ok.f s = some true := by
  unfold spec_l06Ok.f
  have e : loopW (spec_l06Ok.b1 s) 0 = some (.inl ()) := by
    refine loopW_for (fun i => (i : Int)) (n := 24) (fun i hi => ?_) rfl rfl
    unfold spec_l06Ok.b1
    have g1 : decide ((i : Int) < 24) = true := by simp; omega
    have g2 : inB (i : Int) 24 = true := inB_iff.2 ⟨by omega, by omega⟩
    have r1 := hs i hi
    have v1 : IntKind.wrap .i64 (rdA s i) = rdA s i := w64 (by omega) (by omega)
    have v5 : IntKind.wrap .i64 ((i : Int) + 1) = (i : Int) + 1 := w64 (by omega) (by omega)
    have g3 : (decide (0 ≤ rdA s i) && decide (rdA s i ≤ 60)) = true := by simp; omega
    simp only [g1, g2, cond_true, v1, l06Reading_ok, g3, Option.bind_some, v5, Bool.not_true, cond_false]
    rfl
  rw [e]
  rfl

theorem ValidScene_ok {s : Vector Int 24} (hs : Scn s) : impl_ValidScene.f s = some true := by
  unfold impl_ValidScene.f slices_ContainsFunc_int8_int8.f slices_IndexFunc_int8_int8.f
  have e : loopW (slices_IndexFunc_int8_int8.b1 s.toList (fun z => impl_ValidScene_1.f z)) 0 = some (.inl ()) := by
    refine loopW_for (fun i => (i : Int)) (n := 24) (fun i hi => ?_) ?_ rfl
    · unfold slices_IndexFunc_int8_int8.b1
      have g1 : decide ((i : Int) < (s.toList.length : Int)) = true := by simp; omega
      have g2 : inB (i : Int) s.toList.length = true := inB_iff.2 ⟨by omega, by simp; omega⟩
      have r1 := hs i hi
      have r2 : rd (eI .i8) s.toList i = rdA s i := rfl
      have v1 : IntKind.wrap .i64 (rdA s i) = rdA s i := w64 (by omega) (by omega)
      have v5 : IntKind.wrap .i64 ((i : Int) + 1) = (i : Int) + 1 := w64 (by omega) (by omega)
      have g3 : (decide (0 ≤ rdA s i) && decide (rdA s i ≤ 60)) = true := by simp; omega
      simp only [g1, g2, cond_true, r2, impl_ValidScene_1.f, v1, isReading_ok, g3, Option.bind_some, v5, Bool.not_true, cond_false]
      rfl
    · unfold slices_IndexFunc_int8_int8.b1
      have g1 : decide (((24 : Nat) : Int) < (s.toList.length : Int)) = false := by simp
      simp only [g1, cond_false]
  rw [e]
  rfl

end Go.Proofs.Ytopmellnegcfpaa
