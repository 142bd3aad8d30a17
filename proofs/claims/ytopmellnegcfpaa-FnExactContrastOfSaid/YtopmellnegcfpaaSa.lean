/- slices.Sort's parts at int8, as the plain functions of the sort's own text: comparing, exchanging, insertion, sifting, heaps. -/
import Derived.Test.YtopmellnegcfpaaGg
import Derived.Test.YtopmellnegcfpaaFz
import Derived.Sort.AssemblyPlain
set_option linter.unusedVariables false
set_option linter.unusedSimpArgs false
namespace Go.Proofs.Ytopmellnegcfpaa
open Go.Proofs.Ytopmellnegcfpaa.G
open Go.Sort (swp ltInt insInner insOuter siftDown heapBuild heapPop)

theorem rd_arr {n : Nat} (v : Vector Int n) (i : Nat) : rdA v (i : Int) = v.toArray[i]! := by
  simp only [rdA, Int.toNat_natCast, List.getD_eq_getElem?_getD, Vector.getElem?_toList]
  rw [getElem!_def]
  have : v.toArray[i]? = v[i]? := by simp
  rw [this]
  cases v[i]? <;> rfl

theorem swp_arr {n : Nat} (v : Vector Int n) (i j : Nat) : (wrA (wrA v (i : Int) (rdA v (j : Int))) (j : Int) (rdA v (i : Int))).toArray = swp v.toArray i j := by
  rw [rd_arr, rd_arr]
  simp [wrA, swp]

theorem less_ok (x y : Int) : cmp_Less_int8.f x y = some (ltInt x y) := by
  unfold cmp_Less_int8.f cmp_isNaN_int8.f ltInt
  simp

/-- the answer is a vector whose cells are 'd' -/
def Arr {n : Nat} (o : Option (Vector Int n)) (d : Array Int) : Prop := Ok o fun v => v.toArray = d

theorem in_nat {i n : Nat} (h : i < n) : inB (i : Int) n = true := inB_iff.2 ⟨by omega, by omega⟩

/-! ### insertionSortOrdered -/

theorem ins_inner {n a : Nat} (hn : n ≤ 1000000000) : ∀ (j : Nat) (v : Vector Int n), j < n → Arr (loopW (slices_insertionSortOrdered_int8.b2 n (a : Int)) ((j : Int), v)) (insInner ltInt a j v.toArray)
  | 0, v, hj => by
    rw [loopW_eq]
    unfold slices_insertionSortOrdered_int8.b2
    have g : decide ((a : Int) < ((0 : Nat) : Int)) = false := by simp
    dsimp only
    rw [g]
    exact ⟨v, rfl, rfl⟩
  | j + 1, v, hj => by
    rw [loopW_eq]
    unfold slices_insertionSortOrdered_int8.b2
    dsimp only
    have e1 : ((j + 1 : Nat) : Int) - 1 = (j : Int) := by omega
    have e2 : IntKind.wrap .i64 (((j + 1 : Nat) : Int) - 1) = (j : Int) := by rw [e1]; exact w64 (by omega) (by omega)
    by_cases h : a < j + 1
    · have g : decide ((a : Int) < ((j + 1 : Nat) : Int)) = true := by simp; omega
      rw [g, e2, in_nat hj, in_nat (show j < n by omega), less_ok, rd_arr, rd_arr]
      cases hl : ltInt v.toArray[j + 1]! v.toArray[j]! with
      | false =>
        have em : insInner ltInt a (j + 1) v.toArray = v.toArray := by
          rw [insInner, hl]; simp
        rw [em]
        exact ⟨v, rfl, rfl⟩
      | true =>
        have ih := ins_inner (a := a) hn j (wrA (wrA v ((j + 1 : Nat) : Int) (rdA v (j : Int))) (j : Int) (rdA v ((j + 1 : Nat) : Int))) (by omega)
        have em : insInner ltInt a (j + 1) v.toArray = insInner ltInt a j (swp v.toArray (j + 1) j) := by
          rw [insInner, hl]; simp [h]
        rw [em, ← swp_arr]
        rw [rd_arr, rd_arr] at ih ⊢
        exact ih
    · have g : decide ((a : Int) < ((j + 1 : Nat) : Int)) = false := by simp; omega
      rw [g]
      have em : insInner ltInt a (j + 1) v.toArray = v.toArray := by
        rw [insInner]; simp [show ¬ a < j + 1 from h]
      rw [em]
      exact ⟨v, rfl, rfl⟩

theorem Arr.bind {n : Nat} {β : Type} {o : Option (Vector Int n)} {d : Array Int} {f : Vector Int n → Option β} {P : β → Prop} (h : Arr o d) (hf : ∀ v, v.toArray = d → Ok (f v) P) : Ok (o.bind f) P := Ok.bind h hf

theorem ins_outer {n a b : Nat} (hn : n ≤ 1000000000) (hb : b ≤ n) : ∀ (k i : Nat) (v : Vector Int n), b - i = k → Arr (loopW (slices_insertionSortOrdered_int8.b1 n (a : Int) (b : Int)) ((i : Int), v)) (insOuter ltInt a b i v.toArray)
  | 0, i, v, hk => by
    rw [loopW_eq]
    unfold slices_insertionSortOrdered_int8.b1
    have g : decide ((i : Int) < (b : Int)) = false := by simp; omega
    dsimp only
    rw [g]
    have em : insOuter ltInt a b i v.toArray = v.toArray := by rw [insOuter, if_neg (by omega)]
    rw [em]
    exact ⟨v, rfl, rfl⟩
  | k + 1, i, v, hk => by
    rw [loopW_eq]
    unfold slices_insertionSortOrdered_int8.b1
    have g : decide ((i : Int) < (b : Int)) = true := by simp; omega
    dsimp only
    rw [g, insOuter, if_pos (by omega)]
    obtain ⟨v2, e, hv2⟩ := ins_inner (a := a) hn i v (by omega)
    rw [cond_true, e, ← hv2]
    have e2 : IntKind.wrap .i64 ((i : Int) + 1) = ((i + 1 : Nat) : Int) := by rw [w64 (by omega) (by omega)]; omega
    have ih := ins_outer (a := a) hn hb k (i + 1) v2 (by omega)
    show Ok (loopW _ (IntKind.wrap .i64 ((i : Int) + 1), v2)) _
    rw [e2]
    exact ih

theorem insertion_ok {n a b : Nat} (hn : n ≤ 1000000000) (hb : b ≤ n) (v : Vector Int n) (ha : a ≤ n) : Arr (slices_insertionSortOrdered_int8.f n v (a : Int) (b : Int)) (Go.Sort.insertionSort ltInt v.toArray a b) := by
  unfold slices_insertionSortOrdered_int8.f
  have e2 : IntKind.wrap .i64 ((a : Int) + 1) = ((a + 1 : Nat) : Int) := by rw [w64 (by omega) (by omega)]; omega
  rw [e2]
  refine Ok.let ?_
  exact Ok.bind (ins_outer (a := a) hn hb (b - (a + 1)) (a + 1) v rfl) fun r hr => Ok.some hr
end Go.Proofs.Ytopmellnegcfpaa
