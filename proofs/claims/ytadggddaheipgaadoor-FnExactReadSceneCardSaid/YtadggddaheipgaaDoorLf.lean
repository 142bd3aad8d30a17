/- strconv.FormatInt at 0 to 99, by the kit's contract. No condition. -/
import Derived.Test.YtadggddaheipgaaDoorLe
set_option linter.unusedVariables false
namespace Go.Proofs.YtadggddaheipgaaDoor
open Go Go.RowKit G

def strconv_FormatInt.f (n b : Int) : Option ByteArray := bif (decide (0 ≤ n) && decide (n < 100)) && b == 10 then some ⟨(Lib.decDigits n.toNat).toArray⟩ else none
theorem strconv_FormatInt.calls (n b : Int) (r : ByteArray) (w : World) (H0 : Own [] w w []) (h0 : strconv_FormatInt.f n b = some r) :
    Calls Tryd.prog 34 #[.int .i64 n, .int .i64 b] w (fun e w' => ∃ _ : Unit, e = .returned (.string r) ∧ Own [] w w' []) := by
  unfold strconv_FormatInt.f at h0
  cases hc : ((decide (0 ≤ n) && decide (n < 100)) && b == 10) with
  | false => rw [hc] at h0; cases h0
  | true =>
    rw [hc] at h0
    simp only [cond_true, Option.some.injEq] at h0
    simp only [Bool.and_eq_true, decide_eq_true_eq, beq_iff_eq] at hc
    obtain ⟨⟨h1, h2⟩, rfl⟩ := hc
    obtain ⟨m, rfl⟩ := Int.eq_ofNat_of_zero_le h1
    subst h0
    refine (Tryd.strconv_FormatInt_10_small m (by omega) w).mono fun e w' h => ?_
    obtain ⟨rfl, rfl⟩ := h
    exact ⟨(), rfl, Own.refl _⟩

end Go.Proofs.YtadggddaheipgaaDoor
