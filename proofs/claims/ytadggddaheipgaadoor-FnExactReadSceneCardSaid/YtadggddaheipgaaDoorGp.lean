/- Loops over lists and arrays, in plain Lean: all, some, the first. No condition. -/
import Derived.Test.YtadggddaheipgaaDoorGg
import Derived.Test.YtadggddaheipgaaDoorGn
set_option linter.unusedVariables false
set_option linter.unusedSimpArgs false
namespace Go.Proofs.YtadggddaheipgaaDoor.G

theorem loop_all {β : Type} {bd : Int → Option (Step Int β)} (n : Nat) (p : Nat → Bool) (yes q : β) (h : ∀ i : Nat, i < n → bd (i : Int) = some (bif p i then .next ((i + 1 : Nat) : Int) else .done q)) (hd : bd (n : Int) = some (.done yes)) :
    loopW bd 0 = some (bif (List.range n).all p then yes else q) := by
  have key : ∀ d i, i + d = n → loopW bd (i : Int) = some (bif (List.range' i d).all p then yes else q) := by
    intro d
    induction d with
    | zero => intro i hi; obtain rfl : i = n := by omega
              rw [loopW_eq, hd]; rfl
    | succ d ih =>
      intro i hi
      rw [loopW_eq, h i (by omega), List.range'_succ, List.all_cons]
      cases hp : p i with
      | false => simp [Step.run]
      | true => simpa [Step.run] using ih (i + 1) (by omega)
  have := key n 0 (by omega)
  rw [← List.range_eq_range'] at this
  exact this

/-- the first one that is told -/
def firstN (p : Nat → Bool) : Nat → Nat → Option Nat
  | _, 0 => none
  | i, d + 1 => bif p i then some i else firstN p (i + 1) d

theorem loop_first {β : Type} {bd : Int → Option (Step Int β)} (n : Nat) (p : Nat → Bool) (yes : β) (no : Nat → β) (h : ∀ i : Nat, i < n → bd (i : Int) = some (bif p i then .done (no i) else .next ((i + 1 : Nat) : Int))) (hd : bd (n : Int) = some (.done yes)) :
    loopW bd 0 = some (match firstN p 0 n with | some i => no i | none => yes) := by
  have key : ∀ d i, i + d = n → loopW bd (i : Int) = some (match firstN p i d with | some i => no i | none => yes) := by
    intro d
    induction d with
    | zero => intro i hi; obtain rfl : i = n := by omega
              rw [loopW_eq, hd]; rfl
    | succ d ih =>
      intro i hi
      rw [loopW_eq, h i (by omega)]
      unfold firstN
      cases hp : p i with
      | true => simp [Step.run]
      | false => simpa [Step.run] using ih (i + 1) (by omega)
  exact key n 0 (by omega)

theorem firstN_spec {p : Nat → Bool} : ∀ {d i : Nat}, match firstN p i d with
    | some k => i ≤ k ∧ k < i + d ∧ p k = true ∧ ∀ j, i ≤ j → j < k → p j = false
    | none => ∀ j, i ≤ j → j < i + d → p j = false
  | 0, i => by simp only [firstN]; intro j h1 h2; omega
  | d + 1, i => by
    unfold firstN
    cases hp : p i with
    | true => exact ⟨Nat.le_refl _, by omega, hp, fun j h1 h2 => by omega⟩
    | false =>
      have ih := @firstN_spec p d (i + 1)
      simp only [cond_false]
      cases hf : firstN p (i + 1) d with
      | none =>
        rw [hf] at ih
        intro j h1 h2
        by_cases e : j = i
        · subst e; exact hp
        · exact ih j (by omega) (by omega)
      | some k =>
        rw [hf] at ih
        obtain ⟨h1, h2, h3, h4⟩ := ih
        refine ⟨by omega, by omega, h3, fun j h5 h6 => ?_⟩
        by_cases e : j = i
        · subst e; exact hp
        · exact h4 j (by omega) h6

theorem firstN_any {p : Nat → Bool} (n : Nat) : (firstN p 0 n).isSome = (List.range n).any p := by
  have h := @firstN_spec p n 0
  cases hf : firstN p 0 n with
  | none =>
    rw [hf] at h
    symm
    simp only [Option.isSome_none, List.any_eq_false, List.mem_range]
    intro x hx
    have := h x (by omega) (by omega)
    simp [this]
  | some k =>
    rw [hf] at h
    symm
    simp only [Option.isSome_some, List.any_eq_true, List.mem_range]
    exact ⟨k, by omega, h.2.2.1⟩

theorem inB_ofNat {i n : Nat} (h : i < n) : inB (i : Int) n = true := inB_iff.2 ⟨by omega, by omega⟩
theorem wsucc {i n : Nat} (h : i < n) (hn : n ≤ 9223372036854775807) : IntKind.wrap .i64 ((i : Int) + 1) = ((i + 1 : Nat) : Int) := by
  rw [w64 (by omega) (by omega)]; rfl
theorem rd_ofNat {α : Type} {e : Enc α} {xs : List α} {i : Nat} (h : i < xs.length) : rd e xs (i : Int) = xs[i] := by
  simp [rd, List.getD_eq_getElem?_getD, h]
theorem range_all_get {α : Type} (e : Enc α) (xs : List α) (q : α → Bool) : ((List.range xs.length).all fun i => q (rd e xs (i : Int))) = xs.all q := by
  rw [Bool.eq_iff_iff, List.all_eq_true, List.all_eq_true]
  constructor
  · intro h x hx
    obtain ⟨i, hi, rfl⟩ := List.mem_iff_getElem.1 hx
    have := h i (List.mem_range.2 hi)
    rwa [rd_ofNat hi] at this
  · intro h i hi
    have hi' := List.mem_range.1 hi
    rw [rd_ofNat hi']
    exact h _ (List.getElem_mem hi')
theorem range_any_get {α : Type} (e : Enc α) (xs : List α) (q : α → Bool) : ((List.range xs.length).any fun i => q (rd e xs (i : Int))) = xs.any q := by
  rw [Bool.eq_iff_iff, List.any_eq_true, List.any_eq_true]
  constructor
  · rintro ⟨i, hi, h⟩
    have hi' := List.mem_range.1 hi
    rw [rd_ofNat hi'] at h
    exact ⟨_, List.getElem_mem hi', h⟩
  · rintro ⟨x, hx, h⟩
    obtain ⟨i, hi, rfl⟩ := List.mem_iff_getElem.1 hx
    exact ⟨i, List.mem_range.2 hi, by rw [rd_ofNat hi]; exact h⟩

theorem rdA_get {n : Nat} (v : Vector Int n) {i : Nat} (h : i < n) : rdA v (i : Int) = v[i] := by
  simp [rdA, List.getD_eq_getElem?_getD, h]
theorem vec_ext {n : Nat} {a b : Vector Int n} (h : ∀ i : Nat, i < n → rdA a (i : Int) = rdA b (i : Int)) : a = b := by
  apply Vector.ext
  intro i hi
  have := h i hi
  rwa [rdA_get _ hi, rdA_get _ hi] at this
theorem rdA_ofFn {n : Nat} (f : Fin n → Int) {i : Nat} (h : i < n) : rdA (Vector.ofFn f) (i : Int) = f ⟨i, h⟩ := by
  rw [rdA_get _ h]; simp
theorem vec_all_eq {n : Nat} (a b : Vector Int n) : ((List.range n).all fun i => rdA a (i : Int) == rdA b (i : Int)) = decide (a = b) := by
  rw [Bool.eq_iff_iff, decide_eq_true_iff, List.all_eq_true]
  constructor
  · intro h
    exact vec_ext fun i hi => by simpa using h i (List.mem_range.2 hi)
  · rintro rfl; simp
theorem list_all_eq {α : Type} [DecidableEq α] (e : Enc α) {xs ys : List α} (hl : xs.length = ys.length) : ((List.range xs.length).all fun i => decide (rd e xs (i : Int) = rd e ys (i : Int))) = decide (xs = ys) := by
  rw [Bool.eq_iff_iff, decide_eq_true_iff, List.all_eq_true]
  constructor
  · intro h
    apply List.ext_getElem hl
    intro i h1 h2
    have := h i (List.mem_range.2 h1)
    rw [rd_ofNat h1, rd_ofNat h2] at this
    simpa using this
  · rintro rfl; simp
end Go.Proofs.YtadggddaheipgaaDoor.G
