/- slices.Sort at int8, as the plain function of the sort's own text, for at most 24 elements. -/
import Derived.Test.YtopmellnegcfpaaTb
set_option linter.unusedVariables false
set_option linter.unusedSimpArgs false
namespace Go.Proofs.Ytopmellnegcfpaa
open Go.Proofs.Ytopmellnegcfpaa.G
open Go.Sort (swp ltInt partEqLoop scanUp scanDown xorNext breakStep bitsLen pdq Hint)

/-! ### breakPatternsOrdered -/

theorem xor_ok (u : UInt64) : slices_xorshift_Next.f (u.toNat : Int) = some (((xorNext u).toNat : Int), ((xorNext u).toNat : Int)) := by
  unfold slices_xorshift_Next.f xorNext
  have hs : ∀ (x : UInt64) (k : Nat), k ≤ 17 → shL .u64 (x.toNat : Int) (k : Int) = (((x <<< (UInt64.ofNat k)).toNat : Nat) : Int) := by
    intro x k hk
    unfold shL
    have e : min (Int.toNat (k : Int)) (IntKind.bits .u64) = k := by simp [IntKind.bits]; omega
    rw [e]
    have h1 : (x <<< (UInt64.ofNat k)).toNat = x.toNat * 2 ^ k % 18446744073709551616 := by
      rw [UInt64.toNat_shiftLeft]
      have : (UInt64.ofNat k).toNat % 64 = k := by simp; omega
      rw [this, Nat.shiftLeft_eq]
    rw [h1]
    have e2 : (x.toNat : Int) * 2 ^ k = ((x.toNat * 2 ^ k : Nat) : Int) := by simp
    rw [e2]
    generalize x.toNat * 2 ^ k = m
    simp only [IntKind.wrap, IntKind.signed, IntKind.bits, Int.reducePow, Bool.false_and, Bool.false_eq_true, ite_false]
    omega
  have hr : ∀ (x : UInt64) (k : Nat), k ≤ 17 → shR .u64 (x.toNat : Int) (k : Int) = (((x >>> (UInt64.ofNat k)).toNat : Nat) : Int) := by
    intro x k hk
    rw [shR_nn (by omega)]
    have e : min (Int.toNat (k : Int)) (IntKind.bits .u64) = k := by simp [IntKind.bits]; omega
    rw [e]
    have h1 : (x >>> (UInt64.ofNat k)).toNat = x.toNat / 2 ^ k := by
      rw [UInt64.toNat_shiftRight]
      have : (UInt64.ofNat k).toNat % 64 = k := by simp; omega
      rw [this, Nat.shiftRight_eq_div_pow]
    rw [h1]; simp
  have hx : ∀ x y : UInt64, Go.bits .xor .u64 (x.toNat : Int) (y.toNat : Int) = (((x ^^^ y).toNat : Nat) : Int) := by
    intro x y
    have h1 := UInt64.toNat_lt x
    have h2 := UInt64.toNat_lt y
    rw [u64_xor_nat _ _ (by omega) (by omega), UInt64.toNat_xor]
  have s13 : ∀ x : UInt64, shL .u64 (x.toNat : Int) 13 = (((x <<< (13 : UInt64)).toNat : Nat) : Int) := fun x => hs x 13 (by omega)
  have s17 : ∀ x : UInt64, shL .u64 (x.toNat : Int) 17 = (((x <<< (17 : UInt64)).toNat : Nat) : Int) := fun x => hs x 17 (by omega)
  have r7 : ∀ x : UInt64, shR .u64 (x.toNat : Int) 7 = (((x >>> (7 : UInt64)).toNat : Nat) : Int) := fun x => hr x 7 (by omega)
  dsimp only [Option.bind_some]
  rw [s13, hx, r7, hx, s17, hx]

theorem next_pow {l : Nat} (h : 13 ≤ l) (h2 : l ≤ 24) : slices_nextPowerOfTwo.f (l : Int) = some ((1 <<< bitsLen l : Nat) : Int) ∧ 1 <<< bitsLen l ≤ 32 ∧ 1 <<< bitsLen l ≤ 2 * l ∧ 1 ≤ 1 <<< bitsLen l := by
  have : l = 13 ∨ l = 14 ∨ l = 15 ∨ l = 16 ∨ l = 17 ∨ l = 18 ∨ l = 19 ∨ l = 20 ∨ l = 21 ∨ l = 22 ∨ l = 23 ∨ l = 24 := by omega
  rcases this with rfl | rfl | rfl | rfl | rfl | rfl | rfl | rfl | rfl | rfl | rfl | rfl <;> exact ⟨by decide +kernel, by decide +kernel, by decide +kernel, by decide +kernel⟩

theorem len24 : math_bits_Len.f 24 = some ((bitsLen 24 : Nat) : Int) := by decide +kernel

theorem break_round {n a l idx M : Nat} (hn : n ≤ 1000000000) (hl : 13 ≤ l) (hl2 : l ≤ 24) (hM1 : 1 ≤ M) (hM : M ≤ 32) (hM2 : M ≤ 2 * l) (hal : a + l ≤ n) (hi : idx < n) (hlim : idx ≤ a + l / 4 * 2 + 1) (u : UInt64) (v : Vector Int n) :
    Ok (slices_breakPatternsOrdered_int8.b1 n (a : Int) (l : Int) (M : Int) ((idx : Int), (u.toNat : Int), v)) fun st => ∃ v', st = .next (((idx + 1 : Nat) : Int), (((breakStep a l M (u, v.toArray) idx).1.toNat : Nat) : Int), v') ∧ v'.toArray = (breakStep a l M (u, v.toArray) idx).2 := by
  unfold slices_breakPatternsOrdered_int8.b1 breakStep
  dsimp only
  have e1 : IntKind.wrap .i64 ((l : Int).tdiv 4) = ((l / 4 : Nat) : Int) := by rw [tdiv_nn (by omega), w64 (by omega) (by omega)]; omega
  have e2 : IntKind.wrap .i64 (IntKind.wrap .i64 ((a : Int) + IntKind.wrap .i64 (((l / 4 : Nat) : Int) * 2)) + 1) = ((a + l / 4 * 2 + 1 : Nat) : Int) := by
    rw [w64 (n := ((l / 4 : Nat) : Int) * 2) (by omega) (by omega), w64 (n := (a : Int) + ((l / 4 : Nat) : Int) * 2) (by omega) (by omega), w64 (by omega) (by omega)]; omega
  rw [e1, e2, xor_ok]
  refine Ok.dif (fun h => ?_) fun h => absurd h (by simp; omega)
  refine Ok.let ?_
  dsimp only
  have e3 : IntKind.wrap .u64 ((M : Int) - 1) = ((M - 1 : Nat) : Int) := by rw [wu64 (by omega) (by omega)]; omega
  have hlt := UInt64.toNat_lt (xorNext u)
  have e4 : Go.bits .and .u64 ((xorNext u).toNat : Int) ((M - 1 : Nat) : Int) = (((xorNext u).toNat &&& (M - 1) : Nat) : Int) := u64_and_nat _ _ (by omega) (by omega)
  have hle : (xorNext u).toNat &&& (M - 1) ≤ M - 1 := Nat.and_le_right
  rw [e3, e4, w64 (n := (((xorNext u).toNat &&& (M - 1) : Nat) : Int)) (by omega) (by omega)]
  refine Ok.let ?_
  generalize (xorNext u).toNat &&& (M - 1) = ot at *
  refine Ok.bind (Q := fun y => y = ((if ot ≥ l then ot - l else ot : Nat) : Int)) ?_ fun y hy => ?_
  · refine Ok.dif (fun h => ?_) fun h => ?_
    · rw [w64 (n := (ot : Int) - (l : Int)) (by omega) (by omega)]
      exact Ok.let (Ok.some (by rw [if_pos (by omega)]; omega))
    · exact Ok.some (by rw [if_neg (by omega)])
  · subst hy
    have ho : (if ot ≥ l then ot - l else ot : Nat) < l := by split <;> omega
    generalize (if ot ≥ l then ot - l else ot : Nat) = o2 at *
    have e5 : IntKind.wrap .i64 ((a : Int) + (o2 : Int)) = ((a + o2 : Nat) : Int) := by rw [w64 (by omega) (by omega)]; omega
    rw [e5, in_nat (show a + o2 < n by omega), in_nat hi, w_succ (by omega)]
    refine Ok.must rfl (Ok.must rfl (Ok.must rfl (Ok.let (Ok.must rfl (Ok.let (Ok.let (Ok.some ⟨_, rfl, ?_⟩)))))))
    rw [swp_arr]

theorem break_ok {n a b : Nat} (hn : n ≤ 1000000000) (hab : a + 12 < b) (h24 : b - a ≤ 24) (hb : b ≤ n) (v : Vector Int n) : Arr (slices_breakPatternsOrdered_int8.f n v (a : Int) (b : Int)) (Go.Sort.breakPatterns v.toArray a b) := by
  unfold slices_breakPatternsOrdered_int8.f Go.Sort.breakPatterns
  have e0 : IntKind.wrap .i64 ((b : Int) - (a : Int)) = ((b - a : Nat) : Int) := by rw [w64 (by omega) (by omega)]; omega
  rw [e0]
  refine Ok.let ?_
  dsimp only
  have hl1 : 13 ≤ b - a := by omega
  have hl3 : a + (b - a) ≤ n := by omega
  generalize b - a = l at *
  rw [if_pos (by omega)]
  refine Ok.dif (fun h => ?_) fun h => absurd h (by simp; omega)
  obtain ⟨p1, p2, p3, p4⟩ := next_pow hl1 h24
  rw [p1, wu64 (n := (l : Int)) (by omega) (by omega)]
  generalize 1 <<< bitsLen l = M at *
  refine Ok.let (Ok.let ?_)
  have e1 : IntKind.wrap .i64 ((l : Int).tdiv 4) = ((l / 4 : Nat) : Int) := by rw [tdiv_nn (by omega), w64 (by omega) (by omega)]; omega
  have e2 : IntKind.wrap .i64 (IntKind.wrap .i64 ((a : Int) + IntKind.wrap .i64 (((l / 4 : Nat) : Int) * 2)) - 1) = ((a + l / 4 * 2 - 1 : Nat) : Int) := by
    rw [w64 (n := ((l / 4 : Nat) : Int) * 2) (by omega) (by omega), w64 (n := (a : Int) + ((l / 4 : Nat) : Int) * 2) (by omega) (by omega), w64 (by omega) (by omega)]; omega
  rw [e1, e2]
  refine Ok.let ?_
  have eu : (l : Int) = ((UInt64.ofNat l).toNat : Int) := by
    have : (UInt64.ofNat l).toNat = l := by simp; omega
    rw [this]
  refine Ok.bind (Q := fun y => y.2.toArray = (breakStep a l M (breakStep a l M (breakStep a l M (UInt64.ofNat l, v.toArray) (a + l / 4 * 2 - 1)) (a + l / 4 * 2 - 1 + 1)) (a + l / 4 * 2 - 1 + 2)).2) ?_ fun y hy => Ok.some hy
  have hq : l / 4 * 2 ≥ 6 := by omega
  have hq2 : l / 4 * 2 + 2 ≤ l := by omega
  have start : ((((a + l / 4 * 2 - 1 : Nat) : Int), (l : Int), v) : Int × Int × Vector Int n) = (((a + l / 4 * 2 - 1 : Nat) : Int), ((UInt64.ofNat l).toNat : Int), v) := by rw [← eu]
  rw [start]
  have hi0 : a + l / 4 * 2 - 1 + 3 ≤ n := by omega
  have hl0 : a + l / 4 * 2 - 1 + 1 = a + l / 4 * 2 := by omega
  generalize a + l / 4 * 2 - 1 = x at *
  generalize UInt64.ofNat l = u
  refine Ok.round fun L hL => (break_round (idx := x) hn hl1 h24 p4 p2 p3 hl3 (by omega) (by omega) u v).mono fun st hst => ?_
  obtain ⟨v1, rfl, h1⟩ := hst
  show Ok (L _) _
  rw [hL]
  have q1 : breakStep a l M (u, v.toArray) x = ((breakStep a l M (u, v.toArray) x).1, v1.toArray) := Prod.ext rfl h1.symm
  rw [q1]
  generalize (breakStep a l M (u, v.toArray) x).1 = u1
  try dsimp only
  refine Ok.round fun L hL => (break_round (idx := x + 1) hn hl1 h24 p4 p2 p3 hl3 (by omega) (by omega) u1 v1).mono fun st hst => ?_
  obtain ⟨v2, rfl, h2⟩ := hst
  show Ok (L _) _
  rw [hL]
  have q2 : breakStep a l M (u1, v1.toArray) (x + 1) = ((breakStep a l M (u1, v1.toArray) (x + 1)).1, v2.toArray) := Prod.ext rfl h2.symm
  rw [q2]
  generalize (breakStep a l M (u1, v1.toArray) (x + 1)).1 = u2
  refine Ok.round fun L hL => (break_round (idx := x + 2) hn hl1 h24 p4 p2 p3 hl3 (by omega) (by omega) u2 v2).mono fun st hst => ?_
  obtain ⟨v3, rfl, h3⟩ := hst
  show Ok (L _) _
  rw [hL]
  refine Ok.round fun L hL => ?_
  unfold slices_breakPatternsOrdered_int8.b1
  dsimp only
  have e3 : IntKind.wrap .i64 (IntKind.wrap .i64 ((a : Int) + IntKind.wrap .i64 (((l / 4 : Nat) : Int) * 2)) + 1) = ((a + l / 4 * 2 + 1 : Nat) : Int) := by
    rw [w64 (n := ((l / 4 : Nat) : Int) * 2) (by omega) (by omega), w64 (n := (a : Int) + ((l / 4 : Nat) : Int) * 2) (by omega) (by omega), w64 (by omega) (by omega)]; omega
  rw [e1, e3]
  exact Ok.dif (fun h => absurd h (by omega)) fun h => Ok.stop h3
end Go.Proofs.Ytopmellnegcfpaa
