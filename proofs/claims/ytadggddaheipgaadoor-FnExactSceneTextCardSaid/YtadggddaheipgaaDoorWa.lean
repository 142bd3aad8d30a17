/- Numbers in decimal: what the reference writes. Condition: numbers that an int64 may be, not negative. -/
import Derived.Test.YtadggddaheipgaaDoorFz
import Derived.Test.YtadggddaheipgaaDoorGp
set_option linter.unusedVariables false
set_option linter.unusedSimpArgs false
namespace Go.Proofs.YtadggddaheipgaaDoor
open Go.Proofs.YtadggddaheipgaaDoor.G

/-- a string of a list of bytes -/
def ba (l : List UInt8) : ByteArray := ⟨l.toArray⟩
theorem ba_app (a b : List UInt8) : ba a ++ ba b = ba (a ++ b) := by
  apply ByteArray.ext
  simp [ba]
theorem ba_size (a : List UInt8) : (ba a).size = a.length := by simp [ba, ByteArray.size]
theorem strB_one (n : Int) : strB [n] = ba [UInt8.ofNat n.toNat] := by simp [strB, strOfNums, ba]

theorem dec_digit {n : Nat} (h : n < 10) : strB [IntKind.wrap .u8 (IntKind.wrap .i64 (48 + (n : Int)))] = ba [UInt8.ofNat (48 + n)] := by
  rw [w64 (n := 48 + (n : Int)) (by omega) (by omega), wu8 (n := 48 + (n : Int)) (by omega) (by omega), strB_one]
  rfl
theorem dec_fuel : ∀ (k n : Nat), n ≤ 9223372036854775807 → n < 10 ^ k → 0 < k → k ≤ 1000 → spec_Decimal.fuel k (n : Int) = some (ba (Lib.decDigits n)) ∧ (Lib.decDigits n).length ≤ k
  | 0, n, _, _, h, _ => by omega
  | k + 1, n, hn, hk, _, hK => by
    show spec_Decimal.step (spec_Decimal.fuel k) (n : Int) = _ ∧ _
    unfold spec_Decimal.step
    rw [Lib.decDigits]
    have e1 : Int.tmod (n : Int) 10 = ((n % 10 : Nat) : Int) := by rw [tmod_nn (by omega)]; omega
    have e2 : Int.tdiv (n : Int) 10 = ((n / 10 : Nat) : Int) := by rw [tdiv_nn (by omega)]; omega
    by_cases h : n < 10
    · have e3 : n % 10 = n := Nat.mod_eq_of_lt h
      rw [dif_pos h, e1, e3, dec_digit h, decide_eq_true (by omega : (n : Int) < 10)]
      exact ⟨rfl, by simp⟩
    · have hk' : 0 < k := by
        apply Nat.pos_of_ne_zero
        intro e
        subst e
        simp at hk
        omega
      have hpow : n / 10 < 10 ^ k := by
        rw [Nat.pow_succ] at hk
        omega
      obtain ⟨i1, i2⟩ := dec_fuel k (n / 10) (by omega) hpow hk' (by omega)
      rw [dif_neg h, e1, e2, dec_digit (Nat.mod_lt _ (by omega)), decide_eq_false (by omega : ¬ (n : Int) < 10), w64 (n := ((n / 10 : Nat) : Int)) (by omega) (by omega), i1]
      have hc : catB (ba (Lib.decDigits (n / 10))) (ba [UInt8.ofNat (48 + n % 10)]) = true := by
        unfold catB
        rw [ba_size, ba_size]
        simp
        omega
      simp only [Option.bind_some, cond_false, hc, cond_true, ba_app]
      refine ⟨trivial, ?_⟩
      simp
      omega
theorem Decimal_val {n : Nat} (hn : n ≤ 9223372036854775807) : spec_Decimal.f (n : Int) = some (ba (Lib.decDigits n)) :=
  (dec_fuel 64 n hn (Nat.lt_of_le_of_lt hn (by decide)) (by decide) (by decide)).1
theorem decDigits_len {n : Nat} (h : n < 100) : (Lib.decDigits n).length ≤ 2 := (dec_fuel 2 n (by omega) h (by decide) (by decide)).2
theorem FormatInt_val {n : Nat} (h : n < 100) : strconv_FormatInt.f (n : Int) 10 = some (ba (Lib.decDigits n)) := by
  unfold strconv_FormatInt.f
  have : ((decide (0 ≤ (n : Int)) && decide ((n : Int) < 100)) && (10 : Int) == 10) = true := by simp; omega
  rw [this]
  rfl
end Go.Proofs.YtadggddaheipgaaDoor
