/- Strings as lists of bytes; decimals of 0 to 99. No condition. -/
import Derived.Test.YtadggddaheipgaaDoorFz
import Derived.Test.YtadggddaheipgaaDoorGp
set_option linter.unusedVariables false
set_option linter.unusedSimpArgs false
namespace Go.Proofs.YtadggddaheipgaaDoor
open Go.Proofs.YtadggddaheipgaaDoor.G

/-- a string of a list of bytes -/
def ba (l : List UInt8) : ByteArray := ⟨l.toArray⟩
theorem ba_app (a b : List UInt8) : ba a ++ ba b = ba (a ++ b) := by
  apply ByteArray.ext
  simp [ba]
theorem ba_size (a : List UInt8) : (ba a).size = a.length := by simp [ba, ByteArray.size]
theorem dec_one {n : Nat} (h : n < 10) : Lib.decDigits n = [UInt8.ofNat (48 + n)] := by
  rw [Lib.decDigits, dif_pos h]
theorem dec_two {n : Nat} (h : ¬ n < 10) (h2 : n < 100) : Lib.decDigits n = [UInt8.ofNat (48 + n / 10), UInt8.ofNat (48 + n % 10)] := by
  rw [Lib.decDigits, dif_neg h, dec_one (by omega)]; rfl
theorem decDigits_len {n : Nat} (h : n < 100) : (Lib.decDigits n).length ≤ 2 := by
  by_cases h1 : n < 10
  · rw [dec_one h1]; simp
  · rw [dec_two h1 h]; simp
theorem FormatInt_val {n : Nat} (h : n < 100) : strconv_FormatInt.f (n : Int) 10 = some (ba (Lib.decDigits n)) := by
  unfold strconv_FormatInt.f
  have : ((decide (0 ≤ (n : Int)) && decide ((n : Int) < 100)) && (10 : Int) == 10) = true := by simp; omega
  rw [this]
  rfl
theorem cat_ok {a b : List UInt8} (h : a.length + b.length ≤ 1000000) : catB (ba a) (ba b) = true := by
  unfold catB
  rw [ba_size, ba_size]
  simp
  omega
end Go.Proofs.YtadggddaheipgaaDoor
