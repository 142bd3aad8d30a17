/- FnContrast's law: what its Go text computes is true for all bytes. -/
import Derived.Test.YtfbkabcpmcofpaaPb
import Derived.Test.YtfbkabcpmcofpaaF2
set_option linter.unusedVariables false
set_option linter.unusedSimpArgs false
namespace Go.Proofs.Ytfbkabcpmcofpaa
open Go.Proofs.Ytfbkabcpmcofpaa.G

theorem ZoneOf_ok {x y : Int} (x0 : 0 ≤ x) (x1 : x ≤ 60) (y0 : x ≤ y) (y1 : y ≤ 60) : impl_ZoneOf.f ⟨x, 3⟩ y = some (3 + (y - x + 1) / 3, 0) := by
  unfold impl_ZoneOf.f impl_isPlacement.f impl_isZone.f impl_within.f impl_Placement_zone.f impl_floor.f
  have e1 : IntKind.wrap .i64 x = x := w64 (by omega) (by omega)
  have e2 : IntKind.wrap .i64 3 = 3 := w64 (by omega) (by omega)
  have e3 : IntKind.wrap .i64 (y - x) = y - x := w64 (by omega) (by omega)
  have e4 : IntKind.wrap .i64 (y - x + 1) = y - x + 1 := w64 (by omega) (by omega)
  have e5 : decide (y - x + 1 < 0) = false := by simp; omega
  have e6 : (y - x + 1).tdiv 3 = (y - x + 1) / 3 := tdiv_nn (by omega)
  have e7 : IntKind.wrap .i64 ((y - x + 1) / 3) = (y - x + 1) / 3 := w64 (by omega) (by omega)
  have e8 : IntKind.wrap .i64 (3 + (y - x + 1) / 3) = 3 + (y - x + 1) / 3 := w64 (by omega) (by omega)
  have g1 : (decide (0 ≤ x) && decide (x ≤ 60)) = true := by simp; omega
  have g2 : (decide (0 ≤ y) && decide (y ≤ 60)) = true := by simp; omega
  simp only [e1, e2, isReading_ok, Option.bind_some, g1, g2, cond_true, e3, e4, e5, e6, e7, e8, cond_false, Bool.not_true]
  simp [e8]

theorem contrast_true (code more : List Int) (h1 : Bytes code) (h2 : Bytes more) : laws_FnContrast.f code more = some true := by
  refine Ok.eq ?_
  unfold laws_FnContrast.f laws_a2Long.f
  refine Ok.bind (Q := fun r => r = false → code.length ≤ 3000 ∧ more.length ≤ 3000) ?_ fun r hr => Ok.bif (fun _ => Ok.some rfl) fun hr0 => ?_
  · refine Ok.dif (fun h => Ok.some (fun h => by cases h)) fun h => Ok.let (Ok.some fun h2 => ?_)
    have := of_decide_eq_false h2
    omega
  obtain ⟨l1, l2⟩ := hr hr0
  refine Ok.bind (A2Scene_ok h1) fun s hs => Ok.bind (A2Field_ok h2) fun a ha => Ok.must (by simp [roomB]; omega) ?_
  refine Ok.bind (A2Field_ok (code := [3] ++ more) ?_) fun b hb => ?_
  · intro n hn; simp at hn
    rcases hn with rfl | hn
    · decide
    · exact h2 n hn
  have ma := FieldMean_impl hs ha.1 ha.2
  have mb := FieldMean_impl hs hb.1 hb.2
  have sa := Field_spec hs ha.1 ha.2
  have sb := Field_spec hs hb.1 hb.2
  rcases fmOf_rng hs ha.1 ha.2 with ⟨ea, fa⟩ | ⟨ea, x, fa, x0, x1⟩ <;> rcases fmOf_rng hs hb.1 hb.2 with ⟨eb, fb⟩ | ⟨eb, y, fb, y0, y1⟩ <;> rw [fa] at ma sa <;> rw [fb] at mb sb <;>
    (unfold impl_BrighterField.f impl_twoMeans.f spec_BrighterField.f spec_l06Fields.f impl_DevelopBy.f impl_twoMeans.f spec_DevelopBy.f spec_l06Fields.f spec_FieldMean.f
     simp only [ma, mb, sa, sb, Option.bind_some])
  · simp [ea, eb, Ok]
  · simp [ea, eb, Ok]
  · simp [ea, eb, Ok]
  · have na : (a == 0) = false := by simpa using ea
    have nb : (b == 0) = false := by simpa using eb
    have w1 : IntKind.wrap .i64 (0 - 1) = -1 := w64 (by omega) (by omega)
    have w2 : IntKind.wrap .i64 (0 - -1) = 1 := w64 (by omega) (by omega)
    have w3 : IntKind.wrap .i64 (0 - 0) = 0 := w64 (by omega) (by omega)
    have k0 : IntKind.wrap .i64 0 = 0 := w64 (by omega) (by omega)
    have k1 : IntKind.wrap .i64 1 = 1 := w64 (by omega) (by omega)
    have km : IntKind.wrap .i64 (-1) = -1 := w64 (by omega) (by omega)
    have k5 : IntKind.wrap .i64 5 = 5 := w64 (by omega) (by omega)
    have w4 : IntKind.wrap .i8 x = x := w8 (by omega) (by omega)
    rcases Int.lt_trichotomy x y with h | h | h
    · have h' : ¬ y < x := by omega
      have v1 : IntKind.wrap .i64 (y - x) = y - x := w64 (by omega) (by omega)
      have v2 : IntKind.wrap .i64 (y - x + 1) = y - x + 1 := w64 (by omega) (by omega)
      have v3 : (y - x + 1).tdiv 3 = (y - x + 1) / 3 := tdiv_nn (by omega)
      have v4 : IntKind.wrap .i64 ((y - x + 1) / 3) = (y - x + 1) / 3 := w64 (by omega) (by omega)
      have v5 : IntKind.wrap .i64 (5 - (y - x + 1) / 3) = 5 - (y - x + 1) / 3 := w64 (by omega) (by omega)
      have v6 : IntKind.wrap .i64 (8 - (3 + (y - x + 1) / 3)) = 5 - (y - x + 1) / 3 := by rw [w64 (by omega) (by omega)]; omega
      have v7 : IntKind.wrap .i64 1 = 1 := w64 (by omega) (by omega)
      simp [Ok, na, nb, k0, k1, km, k5, h, h', w1, w2, w4, v1, v2, v3, v4, v5, v6, ZoneOf_ok x0 x1 (Int.le_of_lt h) y1]
    · subst h
      have v1 : IntKind.wrap .i64 (x - x) = x - x := w64 (by omega) (by omega)
      have v2 : IntKind.wrap .i64 (x - x + 1) = x - x + 1 := w64 (by omega) (by omega)
      have v5 : IntKind.wrap .i64 (8 - (3 + (x - x + 1) / 3)) = 5 - (x - x + 1) / 3 := by rw [w64 (by omega) (by omega)]; omega
      have z := ZoneOf_ok x0 x1 (Int.le_refl x) y1
      simp [Ok, na, nb, k0, k1, km, k5, w1, w2, w3, w4, v1, v2, v5, z]
    · have h' : ¬ x < y := by omega
      simp [Ok, na, nb, k0, k1, km, k5, h, h', w1, w2, w4]
end Go.Proofs.Ytfbkabcpmcofpaa
