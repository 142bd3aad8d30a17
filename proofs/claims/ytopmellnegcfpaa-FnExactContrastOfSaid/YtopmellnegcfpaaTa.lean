/- slices.Sort's parts at int8, as the plain functions of the sort's own text: the two partitions. -/
import Derived.Test.YtopmellnegcfpaaSb
set_option linter.unusedVariables false
set_option linter.unusedSimpArgs false
namespace Go.Proofs.Ytopmellnegcfpaa
open Go.Proofs.Ytopmellnegcfpaa.G
open Go.Sort (swp ltInt scanUp scanDown partLoop partEqLoop)

theorem up_gen {bd : Int → Option (Step Int Int)} {p : Int → Bool} {d : Array Int} {j : Nat} (h : ∀ i : Nat, i ≤ j → bd (i : Int) = some (if p d[i]! then .next ((i + 1 : Nat) : Int) else .done (i : Int)))
    (h2 : ∀ i : Nat, j < i → bd (i : Int) = some (.done (i : Int))) : ∀ (k i : Nat), j + 1 - i = k → loopW bd (i : Int) = some ((scanUp p d j i : Nat) : Int)
  | 0, i, hk => by
    rw [loopW_eq, h2 i (by omega), scanUp, if_neg (by simp; omega)]; rfl
  | k + 1, i, hk => by
    rw [loopW_eq, h i (by omega), scanUp]
    cases hp : p d[i]! with
    | true =>
      rw [if_pos rfl, if_pos (by simp; omega)]
      exact up_gen h h2 k (i + 1) (by omega)
    | false => rw [if_neg (by simp), if_neg (by simp)]; rfl

theorem down_gen {bd : Int → Option (Step Int Int)} {p : Int → Bool} {d : Array Int} {i : Nat} (hi : 1 ≤ i) : ∀ (j : Nat), (∀ j' : Nat, i ≤ j' → j' ≤ j → bd (j' : Int) = some (if p d[j']! then .next ((j' : Int) - 1) else .done (j' : Int))) →
    (∀ j' : Nat, j' < i → bd (j' : Int) = some (.done (j' : Int))) → loopW bd (j : Int) = some ((scanDown p d i j : Nat) : Int)
  | 0, h, h2 => by rw [loopW_eq, h2 0 (by omega)]; rfl
  | j + 1, h, h2 => by
    by_cases hij : i ≤ j + 1
    · rw [loopW_eq, h (j + 1) hij (by omega), scanDown]
      have e : ((j + 1 : Nat) : Int) - 1 = (j : Int) := by omega
      cases hp : p d[j + 1]! with
      | true =>
        rw [if_pos rfl, if_pos (by simp [hij]), e]
        exact down_gen hi j (fun j' h1 h3 => h j' h1 (by omega)) h2
      | false => rw [if_neg (by simp), if_neg (by simp)]; rfl
    · rw [loopW_eq, h2 (j + 1) (by omega), scanDown, if_neg (by simp [hij])]; rfl

theorem up_ge (p : Int → Bool) (d : Array Int) (j : Nat) : ∀ (k i : Nat), j + 1 - i = k → i ≤ scanUp p d j i ∧ (i ≤ j + 1 → scanUp p d j i ≤ j + 1)
  | 0, i, hk => by rw [scanUp, if_neg (by simp; omega)]; exact ⟨Nat.le_refl _, id⟩
  | k + 1, i, hk => by
    rw [scanUp]
    split
    · have := up_ge p d j k (i + 1) (by omega)
      exact ⟨by omega, fun _ => this.2 (by omega)⟩
    · exact ⟨Nat.le_refl _, id⟩

theorem down_le (p : Int → Bool) (d : Array Int) (i : Nat) : ∀ (j : Nat), scanDown p d i j ≤ j
  | 0 => Nat.le_refl _
  | j + 1 => by
    rw [scanDown]
    split
    · have := down_le p d i j; omega
    · exact Nat.le_refl _

theorem less_nat {n : Nat} (v : Vector Int n) (i j : Nat) : cmp_Less_int8.f (rdA v (i : Int)) (rdA v (j : Int)) = some (ltInt v.toArray[i]! v.toArray[j]!) := by rw [less_ok, rd_arr, rd_arr]

theorem w_succ {i : Nat} (h : i ≤ 1000000000) : IntKind.wrap .i64 ((i : Int) + 1) = ((i + 1 : Nat) : Int) := by rw [w64 (by omega) (by omega)]; omega
theorem w_pred {i : Nat} (h : i ≤ 1000000000) : IntKind.wrap .i64 ((i : Int) - 1) = (i : Int) - 1 := w64 (by omega) (by omega)

theorem p_b1 {n a j : Nat} (hn : n ≤ 1000000000) (ha : a < n) (hj : j < n) (v : Vector Int n) (i : Nat) : loopW (slices_partitionOrdered_int8.b1 n (a : Int) v (j : Int)) (i : Int) = some ((scanUp (fun x => ltInt x v.toArray[a]!) v.toArray j i : Nat) : Int) := by
  refine up_gen (fun i hi => ?_) (fun i hi => ?_) _ i rfl
  · unfold slices_partitionOrdered_int8.b1
    rw [show decide ((i : Int) ≤ (j : Int)) = true by simp; omega, in_nat (show i < n by omega), in_nat ha, less_nat, w_succ (by omega)]
    cases ltInt v.toArray[i]! v.toArray[a]! <;> rfl
  · unfold slices_partitionOrdered_int8.b1
    rw [show decide ((i : Int) ≤ (j : Int)) = false by simp; omega]; rfl

theorem p_b2 {n a i j : Nat} (hn : n ≤ 1000000000) (ha : a < n) (hj : j < n) (hi : 1 ≤ i) (v : Vector Int n) : loopW (slices_partitionOrdered_int8.b2 n (a : Int) v (i : Int)) (j : Int) = some ((scanDown (fun x => !ltInt x v.toArray[a]!) v.toArray i j : Nat) : Int) := by
  refine down_gen hi j (fun j' h1 h2 => ?_) (fun j' h1 => ?_)
  · unfold slices_partitionOrdered_int8.b2
    rw [show decide ((i : Int) ≤ (j' : Int)) = true by simp; omega, in_nat (show j' < n by omega), in_nat ha, less_nat, w_pred (by omega)]
    cases ltInt v.toArray[j']! v.toArray[a]! <;> rfl
  · unfold slices_partitionOrdered_int8.b2
    rw [show decide ((i : Int) ≤ (j' : Int)) = false by simp; omega]; rfl

theorem p_b4 {n a j : Nat} (hn : n ≤ 1000000000) (ha : a < n) (hj : j < n) (v : Vector Int n) (i0 : Int) (i : Nat) : loopW (slices_partitionOrdered_int8.b4 n (a : Int) (i0, (j : Int), v)) (i : Int) = some ((scanUp (fun x => ltInt x v.toArray[a]!) v.toArray j i : Nat) : Int) := by
  refine up_gen (fun i hi => ?_) (fun i hi => ?_) _ i rfl
  · unfold slices_partitionOrdered_int8.b4
    dsimp only
    rw [show decide ((i : Int) ≤ (j : Int)) = true by simp; omega, in_nat (show i < n by omega), in_nat ha, less_nat, w_succ (by omega)]
    cases ltInt v.toArray[i]! v.toArray[a]! <;> rfl
  · unfold slices_partitionOrdered_int8.b4
    dsimp only
    rw [show decide ((i : Int) ≤ (j : Int)) = false by simp; omega]; rfl

theorem p_b5 {n a i j : Nat} (hn : n ≤ 1000000000) (ha : a < n) (hj : j < n) (hi : 1 ≤ i) (v : Vector Int n) (i0 j0 : Int) : loopW (slices_partitionOrdered_int8.b5 n (a : Int) (i0, j0, v) (i : Int)) (j : Int) = some ((scanDown (fun x => !ltInt x v.toArray[a]!) v.toArray i j : Nat) : Int) := by
  refine down_gen hi j (fun j' h1 h2 => ?_) (fun j' h1 => ?_)
  · unfold slices_partitionOrdered_int8.b5
    dsimp only
    rw [show decide ((i : Int) ≤ (j' : Int)) = true by simp; omega, in_nat (show j' < n by omega), in_nat ha, less_nat, w_pred (by omega)]
    cases ltInt v.toArray[j']! v.toArray[a]! <;> rfl
  · unfold slices_partitionOrdered_int8.b5
    dsimp only
    rw [show decide ((i : Int) ≤ (j' : Int)) = false by simp; omega]; rfl

theorem part_loop {n a : Nat} (hn : n ≤ 1000000000) (ha : a < n) : ∀ (k i j : Nat) (v : Vector Int n), j + 1 - i = k → 1 ≤ i → j < n → i ≤ n + 1 →
    Ok (loopW (slices_partitionOrdered_int8.b3 n (a : Int)) ((i : Int), (j : Int), v)) fun y => y.1 = ((partLoop ltInt a i j v.toArray).1 : Int) ∧ y.2.toArray = (partLoop ltInt a i j v.toArray).2 ∧ (partLoop ltInt a i j v.toArray).1 ≤ j := by
  intro k
  induction k using Nat.strongRecOn with
  | _ k ih =>
    intro i j v hk hi hj hin
    refine Ok.round fun L hL => ?_
    unfold slices_partitionOrdered_int8.b3
    dsimp only
    rw [p_b4 hn ha hj v, partLoop]
    refine Ok.let ?_
    have h1 := up_ge (fun x => ltInt x v.toArray[a]!) v.toArray j _ i rfl
    generalize scanUp (fun x => ltInt x v.toArray[a]!) v.toArray j i = i2 at *
    rw [p_b5 hn ha hj (by omega) v]
    refine Ok.let ?_
    have h2 := down_le (fun x => !ltInt x v.toArray[a]!) v.toArray i2 j
    generalize scanDown (fun x => !ltInt x v.toArray[a]!) v.toArray i2 j = j2 at *
    refine Ok.dif (fun h => ?_) fun h => ?_
    · refine Ok.stop ?_
      rw [if_pos (by omega)]; exact ⟨rfl, rfl, h2⟩
    · rw [if_neg (by omega), dif_pos (by omega), in_nat (show j2 < n by omega), in_nat (show i2 < n by omega), w_succ (by omega), w_pred (by omega)]
      have e : (j2 : Int) - 1 = ((j2 - 1 : Nat) : Int) := by omega
      rw [e]
      refine Ok.let (Ok.let (Ok.let (Ok.let (Ok.go ?_))))
      rw [← swp_arr, hL]
      exact (ih (j2 - 1 + 1 - (i2 + 1)) (by omega) _ _ _ rfl (by omega) (by omega) (by omega)).mono fun y hy => ⟨hy.1, hy.2.1, by have := hy.2.2; omega⟩

theorem partition_ok {n a b pv : Nat} (hn : n ≤ 1000000000) (hab : a + 1 < b) (hb : b ≤ n) (hp : pv < n) (v : Vector Int n) :
    Ok (slices_partitionOrdered_int8.f n v (a : Int) (b : Int) (pv : Int)) fun y => y.1 = ((Go.Sort.partition ltInt v.toArray a b pv).1 : Int) ∧ y.2.1 = (Go.Sort.partition ltInt v.toArray a b pv).2.1 ∧ y.2.2.toArray = (Go.Sort.partition ltInt v.toArray a b pv).2.2 := by
  unfold slices_partitionOrdered_int8.f Go.Sort.partition
  rw [in_nat hp, in_nat (show a < n by omega), ← swp_arr]
  refine Ok.must rfl (Ok.must rfl (Ok.must rfl (Ok.let (Ok.must rfl (Ok.let ?_)))))
  generalize wrA (wrA v (a : Int) (rdA v (pv : Int))) (pv : Int) (rdA v (a : Int)) = u
  rw [w_succ (by omega), w_pred (by omega)]
  refine Ok.let (Ok.let ?_)
  have e : (b : Int) - 1 = ((b - 1 : Nat) : Int) := by omega
  rw [e, p_b1 hn (by omega) (by omega) u]
  refine Ok.let ?_
  have h1 := up_ge (fun x => ltInt x u.toArray[a]!) u.toArray (b - 1) _ (a + 1) rfl
  dsimp only
  generalize scanUp (fun x => ltInt x u.toArray[a]!) u.toArray (b - 1) (a + 1) = i at *
  rw [p_b2 hn (by omega) (by omega) (by omega) u]
  refine Ok.let ?_
  have h2 := down_le (fun x => !ltInt x u.toArray[a]!) u.toArray i (b - 1)
  generalize scanDown (fun x => !ltInt x u.toArray[a]!) u.toArray i (b - 1) = j at *
  refine Ok.dif (fun h => ?_) fun h => ?_
  · rw [if_pos (by omega), in_nat (show j < n by omega)]
    refine Ok.must rfl (Ok.must rfl (Ok.must rfl (Ok.let (Ok.must rfl (Ok.let (Ok.some ⟨rfl, rfl, ?_⟩))))))
    rw [swp_arr]
  · rw [if_neg (by omega), in_nat (show j < n by omega), in_nat (show i < n by omega), w_succ (by omega), w_pred (by omega), ← swp_arr]
    have e2 : (j : Int) - 1 = ((j - 1 : Nat) : Int) := by omega
    rw [e2]
    refine Ok.must rfl (Ok.must rfl (Ok.must rfl (Ok.let (Ok.must rfl (Ok.let (Ok.let (Ok.let ?_)))))))
    refine Ok.bind (part_loop hn (show a < n by omega) _ (i + 1) (j - 1) _ rfl (by omega) (by omega) (by omega)) fun y hy => ?_
    obtain ⟨y1, y2⟩ := y
    obtain ⟨hy1, hy2, hle⟩ := hy
    dsimp only at hy1 hy2 ⊢
    subst hy1
    rw [in_nat (show (partLoop ltInt a (i + 1) (j - 1) (wrA (wrA u (i : Int) (rdA u (j : Int))) (j : Int) (rdA u (i : Int))).toArray).1 < n by omega)]
    refine Ok.must rfl (Ok.must rfl (Ok.must rfl (Ok.let (Ok.must rfl (Ok.let (Ok.some ⟨rfl, rfl, ?_⟩))))))
    dsimp only
    rw [swp_arr, hy2]

/-! ### partitionEqualOrdered -/

theorem q_b2 {n a j : Nat} (hn : n ≤ 1000000000) (ha : a < n) (hj : j < n) (v : Vector Int n) (i0 : Int) (i : Nat) : loopW (slices_partitionEqualOrdered_int8.b2 n (a : Int) (i0, (j : Int), v)) (i : Int) = some ((scanUp (fun x => !ltInt v.toArray[a]! x) v.toArray j i : Nat) : Int) := by
  refine up_gen (fun i hi => ?_) (fun i hi => ?_) _ i rfl
  · unfold slices_partitionEqualOrdered_int8.b2
    dsimp only
    rw [show decide ((i : Int) ≤ (j : Int)) = true by simp; omega, in_nat (show i < n by omega), in_nat ha, less_nat, w_succ (by omega)]
    cases ltInt v.toArray[a]! v.toArray[i]! <;> rfl
  · unfold slices_partitionEqualOrdered_int8.b2
    dsimp only
    rw [show decide ((i : Int) ≤ (j : Int)) = false by simp; omega]; rfl

theorem q_b3 {n a i j : Nat} (hn : n ≤ 1000000000) (ha : a < n) (hj : j < n) (hi : 1 ≤ i) (v : Vector Int n) (i0 j0 : Int) : loopW (slices_partitionEqualOrdered_int8.b3 n (a : Int) (i0, j0, v) (i : Int)) (j : Int) = some ((scanDown (fun x => ltInt v.toArray[a]! x) v.toArray i j : Nat) : Int) := by
  refine down_gen hi j (fun j' h1 h2 => ?_) (fun j' h1 => ?_)
  · unfold slices_partitionEqualOrdered_int8.b3
    dsimp only
    rw [show decide ((i : Int) ≤ (j' : Int)) = true by simp; omega, in_nat (show j' < n by omega), in_nat ha, less_nat, w_pred (by omega)]
    cases ltInt v.toArray[a]! v.toArray[j']! <;> rfl
  · unfold slices_partitionEqualOrdered_int8.b3
    dsimp only
    rw [show decide ((i : Int) ≤ (j' : Int)) = false by simp; omega]; rfl

theorem partEq_loop {n a : Nat} (hn : n ≤ 1000000000) (ha : a < n) : ∀ (k i j : Nat) (v : Vector Int n), j + 1 - i = k → 1 ≤ i → j < n → i ≤ n + 1 →
    Ok (loopW (slices_partitionEqualOrdered_int8.b1 n (a : Int)) ((i : Int), (j : Int), v)) fun y => y.1 = ((partEqLoop ltInt a i j v.toArray).1 : Int) ∧ y.2.toArray = (partEqLoop ltInt a i j v.toArray).2 := by
  intro k
  induction k using Nat.strongRecOn with
  | _ k ih =>
    intro i j v hk hi hj hin
    refine Ok.round fun L hL => ?_
    unfold slices_partitionEqualOrdered_int8.b1
    dsimp only
    rw [q_b2 hn ha hj v, partEqLoop]
    refine Ok.let ?_
    have h1 := up_ge (fun x => !ltInt v.toArray[a]! x) v.toArray j _ i rfl
    generalize scanUp (fun x => !ltInt v.toArray[a]! x) v.toArray j i = i2 at *
    rw [q_b3 hn ha hj (by omega) v]
    refine Ok.let ?_
    have h2 := down_le (fun x => ltInt v.toArray[a]! x) v.toArray i2 j
    generalize scanDown (fun x => ltInt v.toArray[a]! x) v.toArray i2 j = j2 at *
    refine Ok.dif (fun h => ?_) fun h => ?_
    · refine Ok.stop ?_
      rw [if_pos (by omega)]; exact ⟨rfl, rfl⟩
    · rw [if_neg (by omega), dif_pos (by omega), in_nat (show j2 < n by omega), in_nat (show i2 < n by omega), w_succ (by omega), w_pred (by omega)]
      have e : (j2 : Int) - 1 = ((j2 - 1 : Nat) : Int) := by omega
      rw [e]
      refine Ok.let (Ok.let (Ok.let (Ok.let (Ok.go ?_))))
      rw [← swp_arr, hL]
      exact ih (j2 - 1 + 1 - (i2 + 1)) (by omega) _ _ _ rfl (by omega) (by omega) (by omega)

theorem partitionEqual_ok {n a b pv : Nat} (hn : n ≤ 1000000000) (hab : a + 1 < b) (hb : b ≤ n) (hp : pv < n) (v : Vector Int n) :
    Ok (slices_partitionEqualOrdered_int8.f n v (a : Int) (b : Int) (pv : Int)) fun y => y.1 = ((Go.Sort.partitionEqual ltInt v.toArray a b pv).1 : Int) ∧ y.2.toArray = (Go.Sort.partitionEqual ltInt v.toArray a b pv).2 := by
  unfold slices_partitionEqualOrdered_int8.f Go.Sort.partitionEqual
  rw [in_nat hp, in_nat (show a < n by omega), ← swp_arr]
  refine Ok.must rfl (Ok.must rfl (Ok.must rfl (Ok.let (Ok.must rfl (Ok.let ?_)))))
  rw [w_succ (by omega), w_pred (by omega)]
  refine Ok.let (Ok.let ?_)
  have e : (b : Int) - 1 = ((b - 1 : Nat) : Int) := by omega
  rw [e]
  exact Ok.bind (partEq_loop hn (show a < n by omega) _ (a + 1) (b - 1) _ rfl (by omega) (by omega) (by omega)) fun y hy => Ok.some hy
end Go.Proofs.Ytopmellnegcfpaa
