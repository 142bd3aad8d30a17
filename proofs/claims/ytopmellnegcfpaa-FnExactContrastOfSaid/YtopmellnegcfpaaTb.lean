/- slices.Sort's parts at int8, as the plain functions of the sort's own text: the pivot, what is nearly sorted. -/
import Derived.Test.YtopmellnegcfpaaTa
set_option linter.unusedVariables false
set_option linter.unusedSimpArgs false
namespace Go.Proofs.Ytopmellnegcfpaa
open Go.Proofs.Ytopmellnegcfpaa.G
open Go.Sort (swp ltInt order2 median Hint scanSorted partialIns)

theorem order2_ok {n i j s : Nat} (hi : i < n) (hj : j < n) (hs : s ≤ 1000) (v : Vector Int n) :
    slices_order2Ordered_int8.f v.toList (i : Int) (j : Int) (s : Int) = some (((order2 ltInt v.toArray i j s).1 : Int), ((order2 ltInt v.toArray i j s).2.1 : Int), ((order2 ltInt v.toArray i j s).2.2 : Int)) := by
  unfold slices_order2Ordered_int8.f order2
  have e1 : rd (eI .i8) v.toList (j : Int) = rdA v (j : Int) := rfl
  have e2 : rd (eI .i8) v.toList (i : Int) = rdA v (i : Int) := rfl
  rw [Vector.length_toList, in_nat hi, in_nat hj, e1, e2, less_nat, w_succ (by omega)]
  cases ltInt v.toArray[j]! v.toArray[i]! <;> rfl

theorem order2_in (d : Array Int) (i j s n : Nat) (hi : i < n) (hj : j < n) : (order2 ltInt d i j s).1 < n ∧ (order2 ltInt d i j s).2.1 < n ∧ (order2 ltInt d i j s).2.2 ≤ s + 1 := by
  unfold order2; split
  · exact ⟨hj, hi, Nat.le_refl _⟩
  · exact ⟨hi, hj, Nat.le_succ _⟩

theorem median_ok {n i j k s : Nat} (hi : i < n) (hj : j < n) (hk : k < n) (hs : s ≤ 900) (v : Vector Int n) :
    slices_medianOrdered_int8.f v.toList (i : Int) (j : Int) (k : Int) (s : Int) = some (((median ltInt v.toArray i j k s).1 : Int), ((median ltInt v.toArray i j k s).2 : Int)) ∧ (median ltInt v.toArray i j k s).1 < n := by
  unfold slices_medianOrdered_int8.f median
  have a1 := order2_in v.toArray i j s n hi hj
  rw [order2_ok hi hj (by omega) v]
  dsimp only [Option.bind_some]
  generalize order2 ltInt v.toArray i j s = r1 at *
  have a2 := order2_in v.toArray r1.2.1 k r1.2.2 n a1.2.1 hk
  rw [order2_ok a1.2.1 hk (by omega) v]
  dsimp only [Option.bind_some]
  generalize order2 ltInt v.toArray r1.2.1 k r1.2.2 = r2 at *
  have a3 := order2_in v.toArray r1.1 r2.1 r2.2.2 n a1.1 a2.1
  rw [order2_ok a1.1 a2.1 (by omega) v]
  exact ⟨rfl, a3.2.1⟩

def hc : Hint → Int
  | .unknown => 0
  | .increasing => 1
  | .decreasing => 2

theorem choose_ok {n a b : Nat} (hn : n ≤ 1000000000) (hab : a + 12 < b) (h50 : b - a < 50) (hb : b ≤ n) (v : Vector Int n) :
    slices_choosePivotOrdered_int8.f v.toList (a : Int) (b : Int) = some (((Go.Sort.choosePivot ltInt v.toArray a b).1 : Int), hc (Go.Sort.choosePivot ltInt v.toArray a b).2) ∧ (Go.Sort.choosePivot ltInt v.toArray a b).1 < n := by
  unfold slices_choosePivotOrdered_int8.f Go.Sort.choosePivot
  have e0 : IntKind.wrap .i64 ((b : Int) - (a : Int)) = ((b - a : Nat) : Int) := by rw [w64 (by omega) (by omega)]; omega
  have e1 : IntKind.wrap .i64 (((b - a : Nat) : Int).tdiv 4) = (((b - a) / 4 : Nat) : Int) := by rw [tdiv_nn (by omega), w64 (by omega) (by omega)]; omega
  have f1 : IntKind.wrap .i64 ((a : Int) + IntKind.wrap .i64 ((((b - a) / 4 : Nat) : Int) * 1)) = ((a + (b - a) / 4 * 1 : Nat) : Int) := by rw [w64 (n := (((b - a) / 4 : Nat) : Int) * 1) (by omega) (by omega), w64 (by omega) (by omega)]; omega
  have f2 : IntKind.wrap .i64 ((a : Int) + IntKind.wrap .i64 ((((b - a) / 4 : Nat) : Int) * 2)) = ((a + (b - a) / 4 * 2 : Nat) : Int) := by rw [w64 (n := (((b - a) / 4 : Nat) : Int) * 2) (by omega) (by omega), w64 (by omega) (by omega)]; omega
  have f3 : IntKind.wrap .i64 ((a : Int) + IntKind.wrap .i64 ((((b - a) / 4 : Nat) : Int) * 3)) = ((a + (b - a) / 4 * 3 : Nat) : Int) := by rw [w64 (n := (((b - a) / 4 : Nat) : Int) * 3) (by omega) (by omega), w64 (by omega) (by omega)]; omega
  have g1 : decide (8 ≤ ((b - a : Nat) : Int)) = true := by simp; omega
  have g2 : decide (50 ≤ ((b - a : Nat) : Int)) = false := by simp; omega
  dsimp only
  rw [if_pos (by omega), if_neg (by omega)]
  obtain ⟨m1, m2⟩ := median_ok (i := a + (b - a) / 4 * 1) (j := a + (b - a) / 4 * 2) (k := a + (b - a) / 4 * 3) (s := 0) (n := n) (by omega) (by omega) (by omega) (by omega) v
  refine ⟨?_, m2⟩
  rw [e0]
  dsimp only [Option.bind_some]
  rw [e1, f1, f2, f3, g1, g2]
  dsimp only [Option.bind_some, cond_true, cond_false]
  have m1' : slices_medianOrdered_int8.f v.toList ((a + (b - a) / 4 * 1 : Nat) : Int) ((a + (b - a) / 4 * 2 : Nat) : Int) ((a + (b - a) / 4 * 3 : Nat) : Int) 0 = _ := m1
  rw [m1']
  generalize median ltInt v.toArray (a + (b - a) / 4 * 1) (a + (b - a) / 4 * 2) (a + (b - a) / 4 * 3) 0 = r
  dsimp only [Option.bind_some]
  by_cases h0 : r.2 = 0
  · rw [h0]; rfl
  · have k0 : (((r.2 : Nat) : Int) == 0) = false := by simp; omega
    rw [k0, if_neg h0]
    dsimp only [cond_false]
    by_cases h12 : r.2 = 12
    · rw [h12]; rfl
    · have k12 : (((r.2 : Nat) : Int) == 12) = false := by simp; omega
      rw [k12, if_neg h12]; rfl

/-! ### partialInsertionSortOrdered, where it is short -/

theorem sorted_scan {n b : Nat} (hn : n ≤ 1000000000) (hb : b ≤ n) (v : Vector Int n) (s0 s1 : Int) : ∀ (k i : Nat), b - i = k → 1 ≤ i → loopW (slices_partialInsertionSortOrdered_int8.b2 n (b : Int) (s0, s1, v)) (i : Int) = some ((scanSorted ltInt v.toArray b i : Nat) : Int)
  | 0, i, hk, hi => by
    rw [loopW_eq, scanSorted, if_neg (by simp; omega)]
    unfold slices_partialInsertionSortOrdered_int8.b2
    rw [show decide ((i : Int) < (b : Int)) = false by simp; omega]; rfl
  | k + 1, i, hk, hi => by
    rw [loopW_eq, scanSorted]
    have hL : loopW (slices_partialInsertionSortOrdered_int8.b2 n (b : Int) (s0, s1, v)) ((i + 1 : Nat) : Int) = some ((scanSorted ltInt v.toArray b (i + 1) : Nat) : Int) := sorted_scan hn hb v s0 s1 k (i + 1) (by omega) (by omega)
    generalize hLL : loopW (slices_partialInsertionSortOrdered_int8.b2 n (b : Int) (s0, s1, v)) = L at *
    unfold slices_partialInsertionSortOrdered_int8.b2
    dsimp only
    have e : (i : Int) - 1 = ((i - 1 : Nat) : Int) := by omega
    rw [show decide ((i : Int) < (b : Int)) = true by simp; omega, w_pred (by omega), e, in_nat (show i < n by omega), in_nat (show i - 1 < n by omega), less_nat, w_succ (by omega)]
    cases hl : ltInt v.toArray[i]! v.toArray[i - 1]! with
    | true => rw [if_neg (by simp)]; rfl
    | false =>
      rw [if_pos (by simp; omega)]
      exact hL

theorem partial_ok {n a b : Nat} (hn : n ≤ 1000000000) (hab : a < b) (h50 : b - a < 50) (hb : b ≤ n) (v : Vector Int n) :
    Ok (slices_partialInsertionSortOrdered_int8.f n v (a : Int) (b : Int)) fun y => y.1 = (Go.Sort.partialInsertionSort ltInt v.toArray a b).2 ∧ y.2.toArray = (Go.Sort.partialInsertionSort ltInt v.toArray a b).1 := by
  unfold slices_partialInsertionSortOrdered_int8.f Go.Sort.partialInsertionSort
  rw [w_succ (by omega)]
  refine Ok.let ?_
  refine Ok.bind (Q := fun y => y = .inr ((partialIns ltInt a b 5 (a + 1) v.toArray).2, v) ∧ (partialIns ltInt a b 5 (a + 1) v.toArray).1 = v.toArray) ?_ fun y hy => ?_
  · refine Ok.round fun L hL => ?_
    unfold slices_partialInsertionSortOrdered_int8.b1
    dsimp only
    rw [sorted_scan hn hb v _ _ _ (a + 1) rfl (by omega), partialIns]
    refine Ok.must rfl (Ok.let ?_)
    dsimp only
    generalize scanSorted ltInt v.toArray b (a + 1) = i
    refine Ok.bif (fun h => ?_) fun h => ?_
    · have hi : i = b := by simp at h; omega
      rw [if_pos hi]
      exact Ok.stop ⟨rfl, rfl⟩
    · have hi : ¬ i = b := by simp at h; omega
      rw [if_neg hi, if_pos h50]
      have e0 : IntKind.wrap .i64 ((b : Int) - (a : Int)) = ((b - a : Nat) : Int) := by rw [w64 (by omega) (by omega)]; omega
      rw [e0]
      exact Ok.dif (fun h => Ok.stop ⟨rfl, rfl⟩) fun h => absurd h (by simp; omega)
  · obtain ⟨rfl, h2⟩ := hy
    exact ⟨_, rfl, rfl, h2.symm⟩
end Go.Proofs.Ytopmellnegcfpaa
