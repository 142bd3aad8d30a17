/- The text of a scene by the program; valid scenes. Condition: numbers that an int8 may be. -/
import Derived.Test.YtadggddaheipgaaDoorNb
set_option linter.unusedVariables false
set_option linter.unusedSimpArgs false
namespace Go.Proofs.YtadggddaheipgaaDoor
open Go.Proofs.YtadggddaheipgaaDoor.G

abbrev Sn := Vector Int 24
def I8 (s : Sn) : Prop := ∀ i : Nat, i < 24 → -128 ≤ rdA s (i : Int) ∧ rdA s (i : Int) ≤ 127
def rdg (x : Int) : Bool := decide (0 ≤ x) && decide (x ≤ 60)
def okN (s : Sn) : Bool := (List.range 24).all fun i => rdg (rdA s (i : Int))

theorem isReading_val (n : Int) : impl_isReading.f n = some (rdg n) := by
  unfold impl_isReading.f impl_within.f rdg
  by_cases h : 0 ≤ n <;> simp [h]
theorem l06Reading_val (n : Int) : spec_l06Reading.f n = some (rdg n) := by
  unfold spec_l06Reading.f spec_l00In.f rdg
  by_cases h : 0 ≤ n <;> simp [h]
theorem ValidScene_val {s : Sn} (h : I8 s) : impl_ValidScene.f s = some (okN s) := by
  unfold impl_ValidScene.f slices_ContainsFunc_int8_int8.f slices_IndexFunc_int8_int8.f
  have hl : s.toList.length = 24 := by simp
  rw [loop_first (bd := slices_IndexFunc_int8_int8.b1 s.toList fun z3 => impl_ValidScene_1.f z3) 24 (fun i => !(rdg (rdA s (i : Int)))) (.inl ()) (fun i => .inr (i : Int)) (fun i hi => ?_) ?_]
  · have key := firstN_any (p := fun i : Nat => !(rdg (rdA s (i : Int)))) 24
    have e : okN s = !((List.range 24).any fun i => !(rdg (rdA s (i : Int)))) := by
      unfold okN
      generalize List.range 24 = L
      induction L with
      | nil => rfl
      | cons x l ih =>
        rw [List.all_cons, List.any_cons, ih]
        cases rdg (rdA s (x : Int)) <;> rfl
    rw [e, ← key]
    cases firstN (fun i : Nat => !(rdg (rdA s (i : Int)))) 0 24 with
    | none => rfl
    | some i => simp
  · simp only [slices_IndexFunc_int8_int8.b1, hl]
    rfl
  · have h1 : decide ((i : Int) < 24) = true := by simp; omega
    have hb := h i hi
    have hr : rd (eI .i8) s.toList (i : Int) = rdA s (i : Int) := rfl
    simp only [slices_IndexFunc_int8_int8.b1, hl]
    rw [show (((24 : Nat) : Int)) = (24 : Int) from rfl, h1, inB_ofNat hi, hr]
    unfold impl_ValidScene_1.f
    rw [w64 (n := rdA s (i : Int)) (by omega) (by omega), isReading_val, wsucc hi (by decide)]
    simp only [cond_true, Option.bind_some]
    cases rdg (rdA s (i : Int)) <;> rfl

/-! ### The texts of a valid scene -/

def D (s : Sn) (i : Nat) : List UInt8 := Lib.decDigits (rdA s (i : Int)).toNat
theorem ok_at {s : Sn} (h : okN s = true) {i : Nat} (hi : i < 24) : ∃ n : Nat, rdA s (i : Int) = (n : Int) ∧ n ≤ 60 := by
  have := List.all_eq_true.1 h i (List.mem_range.2 hi)
  simp only [rdg, Bool.and_eq_true, decide_eq_true_eq] at this
  exact ⟨(rdA s (i : Int)).toNat, by omega, by omega⟩
theorem D_dec {s : Sn} (h : okN s = true) {i : Nat} (hi : i < 24) : impl_decimal.f (IntKind.wrap .i64 (rdA s (i : Int))) = some (ba (D s i)) ∧ (D s i).length ≤ 2 := by
  obtain ⟨n, e, hn⟩ := ok_at h hi
  unfold D
  rw [e, w64 (by omega) (by omega), Int.toNat_natCast]
  refine ⟨?_, decDigits_len (by omega)⟩
  unfold impl_decimal.f
  rw [FormatInt_val (by omega)]
  rfl
/-- the words of row y -/
def wordsL (s : Sn) (y : Nat) : List ByteArray := [ba (D s (6 * y + 0)), ba (D s (6 * y + 1)), ba (D s (6 * y + 2)), ba (D s (6 * y + 3)), ba (D s (6 * y + 4)), ba (D s (6 * y + 5))]
def rowL (s : Sn) (y : Nat) : List UInt8 := Lib.join [D s (6 * y + 0), D s (6 * y + 1), D s (6 * y + 2), D s (6 * y + 3), D s (6 * y + 4), D s (6 * y + 5)] [32]
theorem join_len3 (xs : List (List UInt8)) (sep : List UInt8) (m : Nat) (hx : ∀ x ∈ xs, x.length ≤ m) (hs : sep.length ≤ 1) : (Lib.join xs sep).length ≤ (m + 1) * xs.length := by
  cases xs with
  | nil => simp [Lib.join_nil]
  | cons x r =>
    rw [Lib.join_cons]
    have h0 := hx x (by simp)
    have hr : (Lib.joinTail sep r).length ≤ (m + 1) * r.length := by
      have hx' : ∀ y ∈ r, y.length ≤ m := fun y hy => hx y (by simp [hy])
      clear hx h0
      induction r with
      | nil => simp [Lib.joinTail]
      | cons y r ih =>
        have h1 := hx' y (by simp)
        have h2 := ih fun z hz => hx' z (by simp [hz])
        simp only [Lib.joinTail, List.map_cons, List.flatten_cons, List.length_append, List.length_cons, Nat.mul_add, Nat.mul_one] at h2 ⊢
        omega
    simp only [List.length_append, List.length_cons, Nat.mul_add, Nat.mul_one]
    omega
theorem Join_val {xs : List (List UInt8)} {c : UInt8} {m : Nat} (hx : ∀ x ∈ xs, x.length ≤ m) (hm : m ≤ 1000) (hn : xs.length ≤ 1000) : strings_Join.f (xs.map ba) (ba [c]) = some (ba (Lib.join xs [c])) := by
  have e : (xs.map ba).map (·.data.toList) = xs := by
    rw [List.map_map]
    conv => rhs; rw [← List.map_id xs]
    exact List.map_congr_left fun x _ => by simp [ba]
  have hl := join_len3 xs [c] m hx (by simp)
  have hb : (m + 1) * xs.length ≤ 1001 * 1000 := Nat.mul_le_mul (by omega) hn
  have e2 : (ba [c]).data.toList = [c] := rfl
  unfold strings_Join.f joinS
  rw [e, e2, List.length_map, decide_eq_true (by omega), decide_eq_true (by omega)]
  rfl
theorem room6 {n : Nat} (h : n ≤ 1000) : roomB n 1 16 = true := by
  simp [roomB]; omega
theorem row_val {s : Sn} (h : okN s = true) {y : Nat} (hy : y < 4) (rows : List ByteArray) : loopW (impl_sceneText.b2 s ((y : Int), rows)) (0, []) = some ((List.range 6).map fun t => ba (D s (6 * y + t))) := by
  rw [loopW_for (bd := impl_sceneText.b2 s ((y : Int), rows)) (fun j => ((j : Int), (List.range j).map fun t => ba (D s (6 * y + t)))) (n := 6) (y := (List.range 6).map fun t => ba (D s (6 * y + t))) (fun j hj => ?_) ?_ ?_]
  · have e1 : IntKind.wrap .i64 (6 * (y : Int)) = 6 * (y : Int) := w64 (by omega) (by omega)
    have e2 : IntKind.wrap .i64 ((y : Int) + 1) = (y : Int) + 1 := w64 (by omega) (by omega)
    have e3 : IntKind.wrap .i64 (6 * ((y : Int) + 1)) = 6 * ((y : Int) + 1) := w64 (by omega) (by omega)
    have e4 : 6 * ((y : Int) + 1) - 6 * (y : Int) = 6 := by omega
    simp only [impl_sceneText.b2, e1, e2, e3, e4]
    rfl
  · rfl
  · have e1 : IntKind.wrap .i64 (6 * (y : Int)) = 6 * (y : Int) := w64 (by omega) (by omega)
    have e2 : IntKind.wrap .i64 ((y : Int) + 1) = (y : Int) + 1 := w64 (by omega) (by omega)
    have e3 : IntKind.wrap .i64 (6 * ((y : Int) + 1)) = 6 * ((y : Int) + 1) := w64 (by omega) (by omega)
    have e4 : 6 * ((y : Int) + 1) - 6 * (y : Int) = 6 := by omega
    have h1 : decide ((j : Int) < 6) = true := by simp; omega
    have h2 : inB (j : Int) (6 : Int).toNat = true := inB_ofNat (show j < (6 : Int).toNat from hj)
    have e5 : 6 * (y : Int) + (j : Int) = ((6 * y + j : Nat) : Int) := by omega
    simp only [impl_sceneText.b2, e1, e2, e3, e4, h1, h2, cond_true, Option.bind_some, e5]
    rw [(D_dec h (i := 6 * y + j) (by omega)).1]
    simp only [Option.bind_some, List.length_map, List.length_range]
    rw [room6 (by omega), wsucc (n := 6) hj (by decide), List.range_succ, List.map_append]
    rfl
theorem sceneText_val {s : Sn} (h : okN s = true) : impl_sceneText.f s = some (ba (Lib.join [rowL s 0, rowL s 1, rowL s 2, rowL s 3] [47])) := by
  have hD : ∀ i, i < 24 → (D s i).length ≤ 2 := fun i hi => (D_dec h hi).2
  unfold impl_sceneText.f
  rw [loopW_for (bd := impl_sceneText.b1 s) (fun y => ((y : Int), (List.range y).map fun t => ba (rowL s t))) (n := 4) (y := (List.range 4).map fun t => ba (rowL s t)) (fun y hy => ?_) ?_ ?_]
  · simp only [Option.bind_some]
    have hr : ∀ x ∈ [rowL s 0, rowL s 1, rowL s 2, rowL s 3], x.length ≤ 18 := fun x hx => by
      have hrow : ∀ y, y < 4 → (rowL s y).length ≤ 18 := fun y hy => by
        refine Nat.le_trans (join_len3 _ [32] 2 (fun x hx => ?_) (by simp)) (by simp)
        simp only [List.mem_cons, List.not_mem_nil, or_false] at hx
        rcases hx with rfl | rfl | rfl | rfl | rfl | rfl <;> exact hD _ (by omega)
      simp only [List.mem_cons, List.not_mem_nil, or_false] at hx
      rcases hx with rfl | rfl | rfl | rfl <;> exact hrow _ (by omega)
    have := Join_val (c := 47) hr (by omega) (by simp)
    show (strings_Join.f ([rowL s 0, rowL s 1, rowL s 2, rowL s 3].map ba) (ba [47])).bind _ = _
    rw [this]
    rfl
  · rfl
  · rfl
  · have h1 : decide ((y : Int) < 4) = true := by simp; omega
    have e1 : IntKind.wrap .i64 (6 * (y : Int)) = 6 * (y : Int) := w64 (by omega) (by omega)
    have e2 : IntKind.wrap .i64 ((y : Int) + 1) = (y : Int) + 1 := w64 (by omega) (by omega)
    have e3 : IntKind.wrap .i64 (6 * ((y : Int) + 1)) = 6 * ((y : Int) + 1) := w64 (by omega) (by omega)
    have h2 : inS (6 * (y : Int)) (6 * ((y : Int) + 1)) 24 = true := inS_iff.2 ⟨by omega, by omega, by omega⟩
    simp only [impl_sceneText.b1, h1, cond_true, e1, e2, e3, h2]
    rw [row_val h hy]
    simp only [Option.bind_some]
    have hj := Join_val (xs := [D s (6 * y + 0), D s (6 * y + 1), D s (6 * y + 2), D s (6 * y + 3), D s (6 * y + 4), D s (6 * y + 5)]) (c := 32) (m := 2) (fun x hx => by
      simp only [List.mem_cons, List.not_mem_nil, or_false] at hx
      rcases hx with rfl | rfl | rfl | rfl | rfl | rfl <;> exact hD _ (by omega)) (by omega) (by simp)
    have e9 : ((List.range 6).map fun t => ba (D s (6 * y + t))) = [D s (6 * y + 0), D s (6 * y + 1), D s (6 * y + 2), D s (6 * y + 3), D s (6 * y + 4), D s (6 * y + 5)].map ba := rfl
    rw [e9]
    show ((strings_Join.f _ (ba [32])).bind _) = _
    rw [hj]
    simp only [Option.bind_some, List.length_map, List.length_range]
    rw [room6 (by omega), List.range_succ, List.map_append]
    rfl
end Go.Proofs.YtadggddaheipgaaDoor
