/- slices.Sort's parts at int8, as the plain functions of the sort's own text: sifting, heaps, turning round. -/
import Derived.Test.YtopmellnegcfpaaSa
set_option linter.unusedVariables false
set_option linter.unusedSimpArgs false
namespace Go.Proofs.Ytopmellnegcfpaa
open Go.Proofs.Ytopmellnegcfpaa.G
open Go.Sort (swp ltInt siftDown heapBuild heapPop reverseLoop)

/-- one round of a loop -/
theorem Ok.round {σ β : Type} {bd : σ → Option (Step σ β)} {s : σ} {P : β → Prop} (h : ∀ L, L = loopW bd → Ok (bd s) fun st => Ok (Step.run L st) P) : Ok (loopW bd s) P := by
  rw [loopW_eq]; exact Ok.bind (h _ rfl) fun st h => h
theorem Ok.stop {σ β : Type} {L : σ → Option β} {y : β} {P : β → Prop} (h : P y) : Ok (some (Step.done y : Step σ β)) fun st => Ok (Step.run L st) P := ⟨_, rfl, y, rfl, h⟩
theorem Ok.go {σ β : Type} {L : σ → Option β} {s : σ} {P : β → Prop} (h : Ok (L s) P) : Ok (some (Step.next s : Step σ β)) fun st => Ok (Step.run L st) P := ⟨_, rfl, h⟩

theorem less_in {n : Nat} {v : Vector Int n} {i j : Nat} {P : Bool → Prop} (h : P (ltInt v.toArray[i]! v.toArray[j]!)) : Ok (cmp_Less_int8.f (rdA v (i : Int)) (rdA v (j : Int))) P := by
  rw [less_ok, rd_arr, rd_arr]; exact ⟨_, rfl, h⟩

theorem sift_ok {n hi first : Nat} (hn : n ≤ 1000000000) (hf : first + hi ≤ n) : ∀ (k root : Nat) (v : Vector Int n), hi - root = k → root ≤ 1000000000 →
    Ok (loopW (slices_siftDownOrdered_int8.b1 n (hi : Int) (first : Int)) ((root : Int), v)) fun y => (Sum.elim (fun v => v) (fun v => v) y).toArray = siftDown ltInt hi first root v.toArray := by
  intro k
  induction k using Nat.strongRecOn with
  | _ k ih =>
    intro root v hk hr
    refine Ok.round fun L hL => ?_
    unfold slices_siftDownOrdered_int8.b1
    dsimp only
    have c1 : IntKind.wrap .i64 (IntKind.wrap .i64 (2 * (root : Int)) + 1) = ((2 * root + 1 : Nat) : Int) := by
      rw [w64 (n := 2 * (root : Int)) (by omega) (by omega), w64 (by omega) (by omega)]; omega
    rw [c1]
    refine Ok.let (Ok.dif (fun h => ?_) fun h => ?_)
    · have h1 : hi ≤ 2 * root + 1 := by omega
      refine Ok.stop ?_
      rw [siftDown, dif_pos h1]; rfl
    · have h1 : ¬ hi ≤ 2 * root + 1 := by omega
      have e1 : IntKind.wrap .i64 (((2 * root + 1 : Nat) : Int) + 1) = ((2 * root + 2 : Nat) : Int) := by rw [w64 (by omega) (by omega)]; omega
      have e2 : IntKind.wrap .i64 ((first : Int) + ((2 * root + 1 : Nat) : Int)) = ((first + (2 * root + 1) : Nat) : Int) := by rw [w64 (by omega) (by omega)]; omega
      have e3 : IntKind.wrap .i64 (((first + (2 * root + 1) : Nat) : Int) + 1) = ((first + (2 * root + 1) + 1 : Nat) : Int) := by rw [w64 (by omega) (by omega)]; omega
      have e4 : IntKind.wrap .i64 ((first : Int) + (root : Int)) = ((first + root : Nat) : Int) := by rw [w64 (by omega) (by omega)]; omega
      rw [e1, e2, e3, e4]
      -- the greater child
      have key : ∀ c : Nat, c < hi → root < c → (∀ (d : Array Int), siftDown ltInt hi first root d = if !ltInt d[first + root]! d[first + c]! then d else siftDown ltInt hi first c (swp d (first + root) (first + c))) ∨ True := fun _ _ _ => .inr trivial
      have fin : ∀ c : Nat, c < hi → root < c → (siftDown ltInt hi first root v.toArray = if !ltInt v.toArray[first + root]! v.toArray[first + c]! then v.toArray else siftDown ltInt hi first c (swp v.toArray (first + root) (first + c))) →
          Ok (bif inB ((first + root : Nat) : Int) n then bif inB (IntKind.wrap .i64 ((first : Int) + (c : Int))) n then (cmp_Less_int8.f (rdA v ((first + root : Nat) : Int)) (rdA v (IntKind.wrap .i64 ((first : Int) + (c : Int))))).bind fun r22 => bif !r22 then some (Step.done (Sum.inr v))
            else bif inB (IntKind.wrap .i64 ((first : Int) + (c : Int))) n then bif inB ((first + root : Nat) : Int) n then bif inB ((first + root : Nat) : Int) n then (some (wrA v ((first + root : Nat) : Int) (rdA v (IntKind.wrap .i64 ((first : Int) + (c : Int)))))).bind fun m29 =>
              bif inB (IntKind.wrap .i64 ((first : Int) + (c : Int))) n then (some (wrA m29 (IntKind.wrap .i64 ((first : Int) + (c : Int))) (rdA v ((first + root : Nat) : Int)))).bind fun m31 => some (Step.next ((c : Int), m31)) else none else none else none else none else none else none)
            fun st => Ok (Step.run L st) fun y => (Sum.elim (fun v => v) (fun v => v) y).toArray = siftDown ltInt hi first root v.toArray := by
        intro c hc hrc hm
        have e5 : IntKind.wrap .i64 ((first : Int) + (c : Int)) = ((first + c : Nat) : Int) := by rw [w64 (by omega) (by omega)]; omega
        rw [e5, in_nat (show first + root < n by omega), in_nat (show first + c < n by omega), hm]
        refine Ok.bind (less_in (P := fun r => r = ltInt v.toArray[first + root]! v.toArray[first + c]!) rfl) fun r hr2 => ?_
        subst hr2
        refine Ok.bif (fun h3 => ?_) fun h3 => ?_
        · refine Ok.stop ?_
          rw [if_pos h3]; rfl
        · rw [if_neg (by rw [h3]; simp)]
          refine Ok.let (Ok.let (Ok.go ?_))
          rw [← swp_arr, hL]
          exact ih (hi - c) (by omega) c _ rfl (by omega)
      by_cases h2 : 2 * root + 1 + 1 < hi ∧ ltInt v.toArray[first + (2 * root + 1)]! v.toArray[first + (2 * root + 1) + 1]! = true
      · refine Ok.bind (Q := fun y => y = ((2 * root + 2 : Nat) : Int)) (Ok.bind (Q := fun y => y = true) ?_ fun y hy => ?_) fun y hy => ?_
        · refine Ok.dif (fun h3 => Ok.must (in_nat (by omega)) (Ok.must (in_nat (by omega)) (Ok.bind (less_in h2.2) fun r hr2 => Ok.some hr2))) fun h3 => absurd h3 (by omega)
        · subst hy; exact Ok.some rfl
        · subst hy
          refine fin (2 * root + 2) (by omega) (by omega) ?_
          rw [siftDown, dif_neg h1, if_pos (by simp [h2.1, h2.2])]
          by_cases h4 : ltInt v.toArray[first + root]! v.toArray[first + (2 * root + 2)]! = true
          · rw [if_neg (by simp [h4]), if_neg (by simp [h4]), dif_pos (by omega)]
          · rw [if_pos (by simp [h4]), if_pos (by simp [h4])]
      · refine Ok.bind (Q := fun y => y = ((2 * root + 1 : Nat) : Int)) (Ok.bind (Q := fun y => y = false) ?_ fun y hy => ?_) fun y hy => ?_
        · refine Ok.dif (fun h3 => Ok.must (in_nat (by omega)) (Ok.must (in_nat (by omega)) (Ok.bind (less_in (P := fun r => r = false) ?_) fun r hr2 => Ok.some hr2))) fun h3 => Ok.some rfl
          cases hl : ltInt v.toArray[first + (2 * root + 1)]! v.toArray[first + (2 * root + 1) + 1]! with
          | false => rfl
          | true => exact absurd ⟨by omega, hl⟩ h2
        · subst hy; exact Ok.some rfl
        · subst hy
          refine fin (2 * root + 1) (by omega) (by omega) ?_
          rw [siftDown, dif_neg h1, if_neg (by simp only [Bool.and_eq_true, decide_eq_true_eq]; exact h2)]

theorem siftDown_ok {n hi first root : Nat} (hn : n ≤ 1000000000) (hf : first + hi ≤ n) (hr : root ≤ 1000000000) (v : Vector Int n) : Arr (slices_siftDownOrdered_int8.f n v (root : Int) (hi : Int) (first : Int)) (siftDown ltInt hi first root v.toArray) := by
  unfold slices_siftDownOrdered_int8.f
  refine Ok.bind (sift_ok hn hf (hi - root) root v rfl hr) fun y hy => ?_
  cases y with
  | inl v' => exact ⟨v', rfl, hy⟩
  | inr v' => exact ⟨v', rfl, hy⟩

theorem heapBuild_ok {n hi first : Nat} (hn : n ≤ 1000000000) (hf : first + hi ≤ n) : ∀ (k : Nat) (v : Vector Int n), k ≤ 1000000000 → Arr (loopW (slices_heapSortOrdered_int8.b1 n (first : Int) (hi : Int)) ((k : Int) - 1, v)) (heapBuild ltInt hi first k v.toArray)
  | 0, v, hk => by
    refine Ok.round fun L hL => ?_
    unfold slices_heapSortOrdered_int8.b1
    exact Ok.dif (fun h => absurd h (by dsimp only; omega)) fun h => Ok.stop rfl
  | k + 1, v, hk => by
    refine Ok.round fun L hL => ?_
    unfold slices_heapSortOrdered_int8.b1
    have e : ((k + 1 : Nat) : Int) - 1 = (k : Int) := by omega
    dsimp only
    rw [e]
    refine Ok.dif (fun h => ?_) fun h => absurd h (by simp)
    obtain ⟨v2, ev, hv⟩ := siftDown_ok (root := k) hn hf (by omega) v
    rw [ev, w64 (n := (k : Int) - 1) (by omega) (by omega)]
    refine Ok.let (Ok.let (Ok.go ?_))
    rw [heapBuild, ← hv, hL]
    exact heapBuild_ok hn hf k v2 (by omega)

theorem heapPop_ok {n first : Nat} (hn : n ≤ 1000000000) : ∀ (k : Nat) (v : Vector Int n), first + k ≤ n → Arr (loopW (slices_heapSortOrdered_int8.b2 n (first : Int)) ((k : Int) - 1, v)) (heapPop ltInt first k v.toArray)
  | 0, v, hk => by
    refine Ok.round fun L hL => ?_
    unfold slices_heapSortOrdered_int8.b2
    exact Ok.dif (fun h => absurd h (by dsimp only; omega)) fun h => Ok.stop rfl
  | k + 1, v, hk => by
    refine Ok.round fun L hL => ?_
    unfold slices_heapSortOrdered_int8.b2
    have e : ((k + 1 : Nat) : Int) - 1 = (k : Int) := by omega
    dsimp only
    have e2 : IntKind.wrap .i64 ((first : Int) + (k : Int)) = ((first + k : Nat) : Int) := by rw [w64 (by omega) (by omega)]; omega
    rw [e, e2, in_nat (show first + k < n by omega), in_nat (show first < n by omega)]
    refine Ok.dif (fun h => ?_) fun h => absurd h (by simp)
    refine Ok.must rfl (Ok.must rfl (Ok.must rfl (Ok.let (Ok.must rfl (Ok.let ?_)))))
    obtain ⟨v2, ev, hv⟩ := siftDown_ok (root := 0) (hi := k) (first := first) hn (by omega) (by omega) (wrA (wrA v (first : Int) (rdA v ((first + k : Nat) : Int))) ((first + k : Nat) : Int) (rdA v (first : Int)))
    have ev' : slices_siftDownOrdered_int8.f n (wrA (wrA v (first : Int) (rdA v ((first + k : Nat) : Int))) ((first + k : Nat) : Int) (rdA v (first : Int))) 0 (k : Int) (first : Int) = some v2 := ev
    rw [ev', w64 (n := (k : Int) - 1) (by omega) (by omega)]
    refine Ok.let (Ok.let (Ok.go ?_))
    rw [heapPop, ← swp_arr, ← hv, hL]
    exact heapPop_ok hn k v2 (by omega)

theorem heap_ok {n a b : Nat} (hn : n ≤ 1000000000) (hab : a < b) (hb : b ≤ n) (v : Vector Int n) : Arr (slices_heapSortOrdered_int8.f n v (a : Int) (b : Int)) (Go.Sort.heapSort ltInt v.toArray a b) := by
  unfold slices_heapSortOrdered_int8.f Go.Sort.heapSort
  have e1 : IntKind.wrap .i64 ((b : Int) - (a : Int)) = ((b - a : Nat) : Int) := by rw [w64 (by omega) (by omega)]; omega
  have e2 : IntKind.wrap .i64 (((b - a : Nat) : Int) - 1) = ((b - a : Nat) : Int) - 1 := w64 (by omega) (by omega)
  have e3 : IntKind.wrap .i64 ((((b - a : Nat) : Int) - 1).tdiv 2) = (((b - a - 1) / 2 + 1 : Nat) : Int) - 1 := by
    rw [tdiv_nn (by omega), w64 (by omega) (by omega)]; omega
  rw [e1]
  refine Ok.let ?_
  rw [e2, e3]
  refine Ok.let ?_
  obtain ⟨v2, ev, hv⟩ := heapBuild_ok (hi := b - a) (first := a) hn (by omega) ((b - a - 1) / 2 + 1) v (by omega)
  rw [ev]
  refine Ok.let (Ok.let ?_)
  obtain ⟨v3, ev3, hv3⟩ := heapPop_ok (first := a) hn (b - a) v2 (by omega)
  rw [ev3, ← hv]
  exact ⟨v3, rfl, hv3⟩

/-! ### reverseRangeOrdered -/

theorem reverse_loop {n : Nat} (hn : n ≤ 1000000000) : ∀ (k i j : Nat) (v : Vector Int n), j - i = k → j < n → Arr (loopW (slices_reverseRangeOrdered_int8.b1 n) ((i : Int), (j : Int), v)) (reverseLoop i j v.toArray) := by
  intro k
  induction k using Nat.strongRecOn with
  | _ k ih =>
    intro i j v hk hj
    refine Ok.round fun L hL => ?_
    unfold slices_reverseRangeOrdered_int8.b1
    dsimp only
    refine Ok.dif (fun h => ?_) fun h => ?_
    · have h1 : i < j := by omega
      rw [in_nat hj, in_nat (show i < n by omega)]
      have e1 : IntKind.wrap .i64 ((i : Int) + 1) = ((i + 1 : Nat) : Int) := by rw [w64 (by omega) (by omega)]; omega
      have e2 : IntKind.wrap .i64 ((j : Int) - 1) = ((j - 1 : Nat) : Int) := by rw [w64 (by omega) (by omega)]; omega
      rw [e1, e2]
      refine Ok.let (Ok.let (Ok.let (Ok.let (Ok.go ?_))))
      rw [reverseLoop, if_pos h1, ← swp_arr, hL]
      exact ih (j - 1 - (i + 1)) (by omega) _ _ _ rfl (by omega)
    · refine Ok.stop ?_
      rw [reverseLoop, if_neg (by omega)]

theorem reverse_ok {n a b : Nat} (hn : n ≤ 1000000000) (hab : a < b) (hb : b ≤ n) (v : Vector Int n) : Arr (slices_reverseRangeOrdered_int8.f n v (a : Int) (b : Int)) (Go.Sort.reverseRange v.toArray a b) := by
  unfold slices_reverseRangeOrdered_int8.f Go.Sort.reverseRange
  have e2 : IntKind.wrap .i64 ((b : Int) - 1) = ((b - 1 : Nat) : Int) := by rw [w64 (by omega) (by omega)]; omega
  rw [e2]
  exact Ok.let (Ok.bind (reverse_loop hn _ a (b - 1) v rfl (by omega)) fun r hr => Ok.some hr)
end Go.Proofs.Ytopmellnegcfpaa
