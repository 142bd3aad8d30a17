/- FnExactContrastOf's law: what its Go text computes is true for all arrays and numbers. -/
import Derived.Test.YtopmellnegcfpaaTe
set_option linter.unusedVariables false
set_option linter.unusedSimpArgs false
namespace Go.Proofs.Ytopmellnegcfpaa
open Go.Proofs.Ytopmellnegcfpaa.G

theorem within_val (n a b : Int) : impl_within.f n a b = some (decide (a ≤ n) && decide (n ≤ b)) := by
  unfold impl_within.f
  by_cases h : a ≤ n <;> simp [h]
theorem l00In_val (n a b : Int) : spec_l00In.f n a b = some (decide (a ≤ n) && decide (n ≤ b)) := by
  unfold spec_l00In.f
  by_cases h : a ≤ n <;> simp [h]

theorem mem_rd {s r : Vector Int 24} (hr : r.toArray.toList = s.toList.mergeSort (fun x y => decide (x ≤ y))) (hs : Scn s) {i : Int} (h0 : 0 ≤ i) (h1 : i < 24) : 0 ≤ rdA r i ∧ rdA r i ≤ 60 := by
  obtain ⟨j, rfl⟩ := Int.eq_ofNat_of_zero_le h0
  have hj : j < r.toList.length := by simp; omega
  have e : rdA r (j : Int) = r.toList[j] := by simp only [rdA, Int.toNat_natCast, List.getD_eq_getElem?_getD, List.getElem?_eq_getElem hj, Option.getD_some]
  have hm : r.toList[j] ∈ s.toList := by
    have h2 : r.toList[j] ∈ r.toArray.toList := List.getElem_mem hj
    rw [hr] at h2
    simpa using h2
  obtain ⟨k, hk, ek⟩ := List.mem_iff_getElem.1 hm
  have hk' : k < 24 := by simpa using hk
  have := hs k hk'
  have e2 : rdA s (k : Int) = s.toList[k] := by simp only [rdA, Int.toNat_natCast, List.getD_eq_getElem?_getD, List.getElem?_eq_getElem hk, Option.getD_some]
  omega

theorem contrastOf_true (s : Vector Int 24) (h8 : I8 s) (lw hg : Int) : laws_FnExactContrastOf.f s lw hg = some true := by
  unfold laws_FnExactContrastOf.f
  rw [toScene_ok]
  refine Ok.eq (Ok.let ?_)
  suffices h : ∃ y, spec_ContrastOf.f s lw hg = some y ∧ impl_ContrastOf.f s lw hg = some y by
    obtain ⟨y, e1, e2⟩ := h
    rw [e1]
    refine Ok.let (Ok.let ?_)
    rw [e2]
    exact ⟨true, by simp, rfl⟩
  unfold spec_ContrastOf.f impl_ContrastOf.f
  by_cases hs : Scn s
  · rw [l06Ok_ok hs, ValidScene_ok hs]
    simp only [Option.bind_some, Bool.not_true, cond_false, l00In_val, within_val]
    cases hl : (decide (0 ≤ lw) && decide (lw ≤ 23)) with
    | false => exact ⟨(0, 2), rfl, rfl⟩
    | true =>
      have hl' : 0 ≤ lw ∧ lw ≤ 23 := by simpa using hl
      rw [w64 (n := 23 - lw) (by omega) (by omega)]
      cases hh : (decide (0 ≤ hg) && decide (hg ≤ 23 - lw)) with
      | false => exact ⟨(0, 2), rfl, rfl⟩
      | true =>
        have hh' : 0 ≤ hg ∧ hg ≤ 23 - lw := by simpa using hh
        obtain ⟨r, er, hr⟩ := sort24 s
        have hlen : (s.toList.mergeSort (fun x y => decide (x ≤ y))).length = 24 := by simp
        rw [w64 (n := 23 - hg) (by omega) (by omega), sorted_spec hs, er]
        have m1 := mem_rd hr hs (i := 23 - hg) (by omega) (by omega)
        have m2 := mem_rd hr hs (i := lw) (by omega) (by omega)
        have i1 : inB (23 - hg) 24 = true := inB_iff.2 ⟨by omega, by omega⟩
        have i2 : inB lw 24 = true := inB_iff.2 ⟨by omega, by omega⟩
        refine ⟨(rdA r (23 - hg) - rdA r lw, 0), ?_, ?_⟩
        · simp only [Bool.not_true, cond_false, Option.bind_some, hlen, i1, i2, cond_true, ← rd_sorted hr]
          rw [w64 (by omega) (by omega)]
        · simp only [Bool.not_true, cond_false, Option.bind_some, i1, i2, cond_true]
          rw [w64 (n := rdA r (23 - hg)) (by omega) (by omega), w64 (n := rdA r lw) (by omega) (by omega), w64 (by omega) (by omega)]
  · rw [l06Ok_not h8 hs, Valid_not h8 hs]
    exact ⟨(0, 1), rfl, rfl⟩
end Go.Proofs.Ytopmellnegcfpaa
