/- Masks of bits, and how many bits are set: plain arithmetic. No condition. -/
import Derived.Test.YtopmellnegcfpaaGg
set_option linter.unusedVariables false
set_option linter.unusedSimpArgs false
namespace Go.Proofs.Ytopmellnegcfpaa.G

/-- the bits j < n with f j -/
def mk (f : Nat → Bool) : Nat → Nat
  | 0 => 0
  | n + 1 => if f n then mk f n ||| 2 ^ n else mk f n

theorem mk_lt (f : Nat → Bool) : ∀ n, mk f n < 2 ^ n
  | 0 => by simp [mk]
  | n + 1 => by
    have h := mk_lt f n
    have h2 : mk f n < 2 ^ (n + 1) := Nat.lt_trans h (Nat.pow_lt_pow_right (by decide) (by omega))
    unfold mk
    split
    · exact Nat.or_lt_two_pow h2 (Nat.pow_lt_pow_right (by decide) (by omega))
    · exact h2

theorem mk_bit (f : Nat → Bool) (j : Nat) : ∀ n, (mk f n).testBit j = (decide (j < n) && f j)
  | 0 => by simp [mk]
  | n + 1 => by
    have ih := mk_bit f j n
    unfold mk
    by_cases hj : j = n
    · subst hj
      split
      · rename_i h; simp [Nat.testBit_or, ih, Nat.testBit_two_pow, h]
      · rename_i h; simp [ih, h]
    · have e : decide (j < n + 1) = decide (j < n) := by
        have : (j < n + 1) ↔ (j < n) := by omega
        simp [this]
      rw [e]
      split
      · have e2 : (2 ^ n).testBit j = false := by rw [Nat.testBit_two_pow]; simp; omega
        rw [Nat.testBit_or, ih, e2, Bool.or_false]
      · exact ih

theorem mk_and {f g : Nat → Bool} (n : Nat) (h : ∀ j, f j = true → g j = false) : mk f n &&& mk g n = 0 := by
  apply Nat.eq_of_testBit_eq
  intro j
  rw [Nat.testBit_and, mk_bit, mk_bit, Nat.zero_testBit]
  cases hf : f j
  · simp
  · simp [h j hf]

theorem mk_or (f g : Nat → Bool) (n : Nat) : mk f n ||| mk g n = mk (fun j => f j || g j) n := by
  apply Nat.eq_of_testBit_eq
  intro j
  rw [Nat.testBit_or, mk_bit, mk_bit, mk_bit]
  cases decide (j < n) <;> simp

theorem mk_odd (f : Nat → Bool) {i n : Nat} (hi : i < n) : (mk f n / 2 ^ i % 2 == 1) = f i := by
  have h := mk_bit f i n
  rw [Nat.testBit_eq_decide_div_mod_eq] at h
  simp only [hi, decide_true, Bool.true_and] at h
  rw [← h]
  by_cases e : mk f n / 2 ^ i % 2 = 1 <;> simp [e]

/-- how many of the first k bits are set -/
def pc : Nat → Nat → Nat
  | 0, _ => 0
  | k + 1, m => m % 2 + pc k (m / 2)

/-- how many j < n have f j -/
def cnt (f : Nat → Bool) : Nat → Nat
  | 0 => 0
  | n + 1 => cnt f n + (if f n then 1 else 0)

theorem cnt_succ' (f : Nat → Bool) : ∀ n, cnt f (n + 1) = (if f 0 then 1 else 0) + cnt (fun j => f (j + 1)) n
  | 0 => by simp [cnt]
  | n + 1 => by
    rw [cnt, cnt_succ' f n, cnt]
    omega

theorem cnt_congr {f g : Nat → Bool} : ∀ {n : Nat}, (∀ j, j < n → f j = g j) → cnt f n = cnt g n
  | 0, _ => rfl
  | n + 1, h => by rw [cnt, cnt, cnt_congr fun j hj => h j (by omega), h n (by omega)]

theorem cnt_or {f g : Nat → Bool} (h : ∀ j, f j = true → g j = false) : ∀ n, cnt (fun j => f j || g j) n = cnt f n + cnt g n
  | 0 => rfl
  | n + 1 => by
    rw [cnt, cnt, cnt, cnt_or h n]
    cases hf : f n
    · simp; omega
    · simp [h n hf]; omega

theorem cnt_le (f : Nat → Bool) : ∀ n, cnt f n ≤ n
  | 0 => Nat.le_refl _
  | n + 1 => by have := cnt_le f n; unfold cnt; split <;> omega

theorem pc_bits : ∀ k m, pc k m = cnt (fun j => m.testBit j) k
  | 0, _ => rfl
  | k + 1, m => by
    rw [pc, cnt_succ', pc_bits k (m / 2)]
    have h1 : (if m.testBit 0 = true then 1 else 0) = m % 2 := by
      rw [Nat.testBit_zero]
      have := Nat.mod_two_eq_zero_or_one m
      rcases this with h | h <;> simp [h]
    rw [h1]
    congr 1
    exact cnt_congr fun j _ => by rw [Nat.testBit_succ]

theorem pc_mk (f : Nat → Bool) (n : Nat) : pc n (mk f n) = cnt f n := by
  rw [pc_bits]
  exact cnt_congr fun j hj => by rw [mk_bit]; simp [hj]

/-- the last bit that is set falls away -/
theorem pc_drop : ∀ k m, 0 < m → m < 2 ^ k → pc k (m &&& (m - 1)) + 1 = pc k m
  | 0, m, h0, h1 => by simp at h1; omega
  | k + 1, m, h0, h1 => by
    have e1 : (m &&& (m - 1)) / 2 = m / 2 &&& (m - 1) / 2 := Nat.and_div_two
    have e2 : (m &&& (m - 1)) % 2 = m % 2 * ((m - 1) % 2) := by
      have hb := Nat.testBit_and m (m - 1) 0
      rw [Nat.testBit_zero, Nat.testBit_zero, Nat.testBit_zero] at hb
      rcases Nat.mod_two_eq_zero_or_one (m &&& (m - 1)) with h | h <;> rcases Nat.mod_two_eq_zero_or_one m with h2 | h2 <;> rcases Nat.mod_two_eq_zero_or_one (m - 1) with h3 | h3 <;> simp [h, h2, h3] at hb ⊢
    rw [pc, pc, e1, e2]
    rcases Nat.mod_two_eq_zero_or_one m with h | h
    · have h3 : (m - 1) / 2 = m / 2 - 1 := by omega
      have := pc_drop k (m / 2) (by omega) (by rw [Nat.pow_succ] at h1; omega)
      rw [h, h3]; omega
    · have h3 : (m - 1) / 2 = m / 2 := by omega
      rw [h, h3, Nat.and_self]; omega

theorem pc_zero : ∀ k, pc k 0 = 0
  | 0 => rfl
  | k + 1 => by rw [pc, pc_zero k]
end Go.Proofs.Ytopmellnegcfpaa.G
