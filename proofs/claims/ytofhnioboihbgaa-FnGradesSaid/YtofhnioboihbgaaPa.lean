/- What the source of drawn numbers gives: always an answer, in bounds. -/
import Derived.Test.YtofhnioboihbgaaGg
import Derived.Test.YtofhnioboihbgaaFz
set_option linter.unusedVariables false
set_option linter.unusedSimpArgs false
namespace Go.Proofs.Ytofhnioboihbgaa
open Go.Proofs.Ytofhnioboihbgaa.G

def Bytes (xs : List Int) : Prop := ∀ n ∈ xs, 0 ≤ n ∧ n ≤ 255

theorem rd_byte {xs : List Int} (h : Bytes xs) {i : Int} (h0 : 0 ≤ i) (h1 : i < xs.length) : 0 ≤ rd (eI .u8) xs i ∧ rd (eI .u8) xs i ≤ 255 := by
  obtain ⟨j, rfl⟩ := Int.eq_ofNat_of_zero_le h0
  have hj : j < xs.length := by omega
  have : rd (eI .u8) xs (j : Int) = xs[j] := by simp [rd, List.getD_eq_getElem?_getD, hj]
  rw [this]; exact h _ (List.getElem_mem hj)

theorem next_ok {s : spec_l00Src} (hc : Bytes s.code) (h0 : 0 ≤ s.at_) (h1 : s.at_ ≤ 1000000000000000) :
    Ok (spec_l00Src_next.f s) fun r => 0 ≤ r.1 ∧ r.1 ≤ 255 ∧ r.2.code = s.code ∧ 0 ≤ r.2.at_ ∧ r.2.at_ ≤ s.at_ + 1 := by
  obtain ⟨code, p, d⟩ := s
  unfold spec_l00Src_next.f
  dsimp only at *
  have e1 : IntKind.wrap .i64 (p + 1) = p + 1 := w64 (by omega) (by omega)
  rw [e1]
  refine Ok.bind (Q := fun y => 0 ≤ y ∧ y ≤ 255) ?_ fun y hy => ?_
  · refine Ok.dif (fun h => ?_) fun h => Ok.some (by decide)
    refine Ok.must (inB_iff.2 ⟨h0, h⟩) (Ok.some ?_)
    have := rd_byte hc h0 h
    rw [w64 (by omega) (by omega)]; exact this
  · refine Ok.dif (fun h => Ok.some ⟨hy.1, hy.2, rfl, ?_, ?_⟩) fun h => Ok.let (Ok.some ?_)
    · show 0 ≤ p + 1; omega
    · show p + 1 ≤ p + 1; omega
    · have hz := u64_rng ((IntKind.wrap .u64 ((IntKind.wrap .u64 (d * 6364136223846793005)) + (IntKind.wrap .u64 y))) + 1442695040888963407)
      revert hz
      generalize IntKind.wrap .u64 ((IntKind.wrap .u64 ((IntKind.wrap .u64 (d * 6364136223846793005)) + (IntKind.wrap .u64 y))) + 1442695040888963407) = z
      intro hz
      have h2 := shR_rng (k := .u64) (n := 40) hz.1
      have h3 := and64_255 (x := shR .u64 z 40) h2.1 (by omega)
      have e := w64 (n := Go.bits .and .u64 (shR .u64 z 40) 255) (by omega) (by omega)
      simp only [e]
      exact ⟨h3.1, h3.2, trivial, by omega, by omega⟩

theorem pick_ok {s : spec_l00Src} (n : Int) (hn : n ≤ 1000000000000000) (hc : Bytes s.code) (h0 : 0 ≤ s.at_) (h1 : s.at_ ≤ 100000000000000) :
    Ok (spec_l00Src_pick.f s n) fun r => 0 ≤ r.1 ∧ (1 ≤ n → r.1 < n) ∧ (n ≤ 1 → r.1 = 0) ∧ r.2.code = s.code ∧ 0 ≤ r.2.at_ ∧ r.2.at_ ≤ s.at_ + 2 := by
  obtain ⟨code, p, d⟩ := s
  unfold spec_l00Src_pick.f
  dsimp only at *
  refine Ok.dif (fun h => Ok.some ⟨Int.le_refl _, ?_, ?_, rfl, h0, ?_⟩) fun h => ?_
  · intro h; simp; omega
  · intro _; rfl
  · show p ≤ p + 2; omega
  refine Ok.bind (next_ok hc h0 (by dsimp only; omega)) fun r2 hr2 => ?_
  dsimp only at hr2
  obtain ⟨a1, a2, a3, a4, a5⟩ := hr2
  refine Ok.bind (Q := fun y => 0 ≤ y.1 ∧ y.1 ≤ 1000000 ∧ 0 ≤ y.2.1 ∧ y.2.1 ≤ p + 2) ?_ fun y5 hy => ?_
  · refine Ok.dif (fun h => ?_) fun h => Ok.some ⟨by simp; omega, by simp; omega, by simp; omega, by simp; omega⟩
    refine Ok.bind (next_ok (s := ⟨code, r2.2.at_, r2.2.seed⟩) hc a4 (by simp; omega)) fun r8 hr8 => ?_
    simp only at hr8
    have e1 : IntKind.wrap .i64 (r2.1 * 256) = r2.1 * 256 := w64 (by omega) (by omega)
    have e2 : IntKind.wrap .i64 (r2.1 * 256 + r8.1) = r2.1 * 256 + r8.1 := w64 (by omega) (by omega)
    rw [e1, e2]
    exact Ok.let (Ok.some ⟨by simp; omega, by simp; omega, by simp; omega, by simp; omega⟩)
  · obtain ⟨b1, b2, b3, b4⟩ := hy
    refine Ok.must (by simp; omega) (Ok.let (Ok.some ⟨?_, fun hh => ?_, fun hh => ?_, rfl, b3, b4⟩))
    · exact Int.tmod_nonneg _ b1
    · rw [tmod_nn b1]; exact Int.emod_lt_of_pos _ (by omega)
    · omega
end Go.Proofs.Ytofhnioboihbgaa
