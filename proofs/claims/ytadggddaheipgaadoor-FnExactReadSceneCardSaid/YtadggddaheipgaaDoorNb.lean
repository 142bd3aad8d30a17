/- Texts: what the library splits and reads. Condition: texts of at most 2^20 bytes. -/
import Derived.Test.YtadggddaheipgaaDoorNa
set_option linter.unusedVariables false
set_option linter.unusedSimpArgs false
namespace Go.Proofs.YtadggddaheipgaaDoor
open Go.Proofs.YtadggddaheipgaaDoor.G

theorem u8_of {k : Nat} (h : k < 256) : (UInt8.ofNat k).toNat = k := by
  simp; omega
theorem index_word {c : UInt8} {r : List UInt8} : ∀ {w : List UInt8}, (∀ x ∈ w, x ≠ c) → Lib.index (w ++ c :: r) [c] = (w.length : Int)
  | [], _ => by
    show Lib.index (c :: r) [c] = 0
    unfold Lib.index
    simp [List.isPrefixOf]
  | x :: w, h => by
    have ih := index_word (r := r) (w := w) fun y hy => h y (by simp [hy])
    have hx : (c == x) = false := by simp; exact fun e => h x (by simp) e.symm
    show Lib.index (x :: (w ++ c :: r)) [c] = _
    unfold Lib.index
    rw [ih]
    have h1 : ([c].isPrefixOf (x :: (w ++ c :: r))) = false := by simp [List.isPrefixOf]; intro e; exact absurd e.symm (h x (by simp))
    rw [h1, if_neg (by simp)]
    have h2 : ((w.length : Int) == -1) = false := by simp
    rw [h2]
    simp
theorem index_none {c : UInt8} : ∀ {w : List UInt8}, (∀ x ∈ w, x ≠ c) → Lib.index w [c] = -1
  | [], _ => by unfold Lib.index; simp
  | x :: w, h => by
    have ih := index_none (w := w) fun y hy => h y (by simp [hy])
    unfold Lib.index
    rw [ih]
    have h1 : ([c].isPrefixOf (x :: w)) = false := by simp [List.isPrefixOf]; intro e; exact absurd e.symm (h x (by simp))
    rw [h1, if_neg (by simp)]
    simp
theorem splitB_word {c : UInt8} {w r : List UInt8} (h : ∀ x ∈ w, x ≠ c) (k : Nat) : Lib.splitB (ba [c]) 0 (k + 1) (ba (w ++ c :: r)) = ba w :: Lib.splitB (ba [c]) 0 k (ba r) := by
  have hi : Lib.indexB (ba (w ++ c :: r)) (ba [c]) = (w.length : Int) := by
    show Lib.index (ba (w ++ c :: r)).data.toList (ba [c]).data.toList = _
    rw [ba_list, ba_list]
    exact index_word h
  show (if Lib.indexB (ba (w ++ c :: r)) (ba [c]) == -1 then _ else _) = _
  rw [hi]
  have h2 : ((w.length : Int) == -1) = false := by simp
  rw [h2, if_neg (by simp), Int.toNat_natCast, Nat.add_zero, ba_size, ba_size]
  have e1 : (ba (w ++ c :: r)).extract 0 w.length = ba w := by
    apply ByteArray.ext
    apply Array.toList_inj.1
    simp [ba]
  have e2 : (ba (w ++ c :: r)).extract (w.length + [c].length) (w ++ c :: r).length = ba r := by
    apply ByteArray.ext
    apply Array.toList_inj.1
    simp [ba]
    exact List.take_of_length_le (by omega)
  rw [e1, e2]
theorem splitB_none {c : UInt8} {w : List UInt8} (h : ∀ x ∈ w, x ≠ c) (k : Nat) : Lib.splitB (ba [c]) 0 k (ba w) = [ba w] := by
  cases k with
  | zero => rfl
  | succ k =>
    have hi : Lib.indexB (ba w) (ba [c]) = -1 := by
      show Lib.index (ba w).data.toList (ba [c]).data.toList = _
      rw [ba_list, ba_list]
      exact index_none h
    show (if Lib.indexB (ba w) (ba [c]) == -1 then _ else _) = _
    rw [hi]
    simp
theorem splitB_size (sep : ByteArray) (save : Nat) : ∀ k s, ∀ x ∈ Lib.splitB sep save k s, x.size ≤ s.size
  | 0, s => by simp [Lib.splitB]
  | k + 1, s => by
    unfold Lib.splitB
    split
    · simp
    · intro x hx
      rw [List.mem_cons] at hx
      rcases hx with rfl | hx
      · simp; omega
      · have := splitB_size sep save k _ x hx
        simp at this
        omega

/-! ### Decimals of 0 to 99 -/

theorem dec_no {n : Nat} (h : n < 100) {c : UInt8} (hc : c.toNat < 48) : ∀ x ∈ Lib.decDigits n, x ≠ c := by
  intro x hx e
  subst e
  by_cases h1 : n < 10
  · rw [dec_one h1, List.mem_singleton] at hx
    subst hx
    rw [u8_of (by omega)] at hc
    omega
  · rw [dec_two h1 h] at hx
    simp only [List.mem_cons, List.not_mem_nil, or_false] at hx
    rcases hx with rfl | rfl
    · rw [u8_of (by omega)] at hc; omega
    · rw [u8_of (by omega)] at hc; omega
theorem dec_num {n : Nat} (h : n < 100) : numOk (Lib.decDigits n) = true ∧ valL (Lib.decDigits n) = n := by
  by_cases h1 : n < 10
  · rw [dec_one h1]
    have e := u8_of (k := 48 + n) (by omega)
    constructor
    · simp only [numOk, List.all_cons, List.all_nil, digB, e]
      simp; omega
    · simp only [valL, List.foldl_cons, List.foldl_nil, e]; omega
  · rw [dec_two h1 h]
    have e := u8_of (k := 48 + n / 10) (by omega)
    have e2 := u8_of (k := 48 + n % 10) (by omega)
    have hne : UInt8.ofNat (48 + n / 10) ≠ 48 := by
      intro hh
      have := congrArg UInt8.toNat hh
      rw [e] at this
      have h48 : (48 : UInt8).toNat = 48 := rfl
      omega
    constructor
    · have d1 : digB (UInt8.ofNat (48 + n / 10)) = true := by unfold digB; rw [e]; simp; omega
      have d2 : digB (UInt8.ofNat (48 + n % 10)) = true := by unfold digB; rw [e2]; simp; omega
      have h0 : decide ((some (UInt8.ofNat (48 + n / 10)) : Option UInt8) = some 48) = false := decide_eq_false fun h => hne (Option.some.inj h)
      unfold numOk
      rw [List.all_cons, List.all_cons, d1, d2, List.head?_cons, h0]
      rfl
    · show 10 * (10 * 0 + ((UInt8.ofNat (48 + n / 10)).toNat - 48)) + ((UInt8.ofNat (48 + n % 10)).toNat - 48) = n
      rw [e, e2]; omega
theorem parse_dec {n : Nat} (h : n < 100) : parse8 (ba (Lib.decDigits n)) = ((n : Int), false) := by
  unfold parse8
  rw [ba_list]
  have key : Lib.parseIntB 8 (Lib.decDigits n) = .ok (n : Int) := by
    by_cases h1 : n < 10
    · rw [dec_one h1]
      have e := u8_of (k := 48 + n) (by omega)
      unfold Lib.parseIntB
      simp only [e]
      rw [if_neg (by omega)]
      unfold Lib.parseUintB
      rw [if_neg (by simp)]
      unfold Lib.parseUintM
      rw [e, if_pos (by omega), if_neg (by omega), if_neg (by omega)]
      unfold Lib.parseUintM
      simp only
      rw [if_neg (by omega), if_neg (by omega), if_neg (by omega)]
      congr 1
      omega
    · rw [dec_two h1 h]
      have e := u8_of (k := 48 + n / 10) (by omega)
      have e2 := u8_of (k := 48 + n % 10) (by omega)
      unfold Lib.parseIntB
      simp only [e]
      rw [if_neg (by omega)]
      unfold Lib.parseUintB
      rw [if_neg (by simp)]
      unfold Lib.parseUintM
      rw [e, if_pos (by omega), if_neg (by omega), if_neg (by omega)]
      unfold Lib.parseUintM
      rw [e2, if_pos (by omega), if_neg (by omega), if_neg (by omega)]
      unfold Lib.parseUintM
      simp only
      rw [if_neg (by omega), if_neg (by omega), if_neg (by omega)]
      congr 1
      omega
  rw [key]
end Go.Proofs.YtadggddaheipgaaDoor
