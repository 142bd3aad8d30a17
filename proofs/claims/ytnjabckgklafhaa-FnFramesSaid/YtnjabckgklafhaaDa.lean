/- Sheets: what the loops over prints and sheets compute. Conditions: lengths that a slice may have. -/
import Derived.Test.YtnjabckgklafhaaFz
import Derived.Test.YtnjabckgklafhaaGp
set_option linter.unusedVariables false
set_option linter.unusedSimpArgs false
namespace Go.Proofs.Ytnjabckgklafhaa
open Go.Proofs.Ytnjabckgklafhaa.G

abbrev Pr := Vector Int 64
abbrev eP : Enc Pr := eA .i16 64
/-- a density -/
def dn (x : Int) : Bool := decide (0 ≤ IntKind.wrap .i64 x) && decide (IntKind.wrap .i64 x ≤ 400)
def densB (v : Pr) : Bool := (List.range 64).all fun i => dn (rdA v (i : Int))
def okS (s : impl_Sheet) : Bool := s.Frames.all densB && (decide (1 ≤ IntKind.wrap .i64 s.Across) && decide (IntKind.wrap .i64 s.Across ≤ 12)) && decide ((s.Frames.length : Int) ≤ 12)
def Short {α : Type} (xs : List α) : Prop := xs.length ≤ 1048576

theorem l00In_val (n a b : Int) : spec_l00In.f n a b = some (decide (a ≤ n) && decide (n ≤ b)) := by
  unfold spec_l00In.f
  by_cases h : a ≤ n <;> simp [h]
theorem within_val (n a b : Int) : impl_within.f n a b = some (decide (a ≤ n) && decide (n ≤ b)) := by
  unfold impl_within.f
  by_cases h : a ≤ n <;> simp [h]

theorem l03Dense_val (v : Pr) : spec_l03Dense.f v = some (densB v) := by
  unfold spec_l03Dense.f
  rw [loop_all (bd := spec_l03Dense.b1 v) 64 (fun i => dn (rdA v (i : Int))) (.inl ()) (.inr false) (fun i hi => ?_) rfl]
  · unfold densB
    cases (List.range 64).all fun i => dn (rdA v (i : Int)) <;> rfl
  · have h1 : decide ((i : Int) < 64) = true := by simp; omega
    simp only [spec_l03Dense.b1, h1, cond_true, inB_ofNat hi, spec_l02Density.f, l00In_val, Option.bind_some]
    rw [wsucc hi (by decide)]
    show (bif !(dn (rdA v i)) then _ else _) = _
    cases dn (rdA v i) <;> rfl
theorem l03Print_val (v : Pr) : spec_l03Print.f v = some (densB v) := by
  unfold spec_l03Print.f; rw [l03Dense_val]; rfl
theorem areDensities_val (v : Pr) : impl_areDensities.f v = some (densB v) := by
  unfold impl_areDensities.f
  rw [loop_all (bd := impl_areDensities.b1 v) 64 (fun i => dn (rdA v (i : Int))) (.inl ()) (.inr false) (fun i hi => ?_) rfl]
  · unfold densB
    cases (List.range 64).all fun i => dn (rdA v (i : Int)) <;> rfl
  · have h1 : decide ((i : Int) < 64) = true := by simp; omega
    simp only [impl_areDensities.b1, h1, cond_true, inB_ofNat hi, impl_isDensity.f, within_val, Option.bind_some]
    rw [wsucc hi (by decide)]
    show (bif !(dn (rdA v i)) then _ else _) = _
    cases dn (rdA v i) <;> rfl
theorem ValidPrint_val (v : Pr) : impl_ValidPrint.f v = some (densB v) := by
  unfold impl_ValidPrint.f; rw [areDensities_val]; rfl

theorem IndexPr_val {xs : List Pr} (hs : Short xs) {f : Pr → Option Bool} {q : Pr → Bool} (hf : ∀ x, f x = some (q x)) :
    slices_IndexFunc_impl_Print_impl_Print.f xs f = some (match firstN (fun i => q (rd eP xs (i : Int))) 0 xs.length with | some i => (i : Int) | none => -1) := by
  have hs' : xs.length ≤ 1048576 := hs
  unfold slices_IndexFunc_impl_Print_impl_Print.f
  rw [loop_first (bd := slices_IndexFunc_impl_Print_impl_Print.b1 xs f) xs.length (fun i => q (rd eP xs (i : Int))) (.inl ()) (fun i => .inr (i : Int)) (fun i hi => ?_) ?_]
  · simp only [Option.bind_some]
    cases firstN (fun i => q (rd eP xs (i : Int))) 0 xs.length <;> rfl
  · simp only [slices_IndexFunc_impl_Print_impl_Print.b1, Int.lt_irrefl, decide_false, cond_false]
  · have h1 : decide ((i : Int) < (xs.length : Int)) = true := by simp; omega
    simp only [slices_IndexFunc_impl_Print_impl_Print.b1, h1, cond_true, inB_ofNat hi, hf, Option.bind_some]
    rw [wsucc hi (by omega)]
    cases q (rd eP xs (i : Int)) <;> rfl
theorem ContainsPr_val {xs : List Pr} (hs : Short xs) {f : Pr → Option Bool} {q : Pr → Bool} (hf : ∀ x, f x = some (q x)) : slices_ContainsFunc_impl_Print_impl_Print.f xs f = some (xs.any q) := by
  unfold slices_ContainsFunc_impl_Print_impl_Print.f
  rw [IndexPr_val hs hf, ← range_any_get eP xs q, ← firstN_any]
  cases firstN (fun i => q (rd eP xs (i : Int))) 0 xs.length with
  | none => rfl
  | some i => simp
theorem IndexInt_val {xs : List Int} (hs : Short xs) {f : Int → Option Bool} {q : Int → Bool} (hf : ∀ x, f x = some (q x)) :
    slices_IndexFunc_int64_int64.f xs f = some (match firstN (fun i => q (rd (eI .i64) xs (i : Int))) 0 xs.length with | some i => (i : Int) | none => -1) := by
  have hs' : xs.length ≤ 1048576 := hs
  unfold slices_IndexFunc_int64_int64.f
  rw [loop_first (bd := slices_IndexFunc_int64_int64.b1 xs f) xs.length (fun i => q (rd (eI .i64) xs (i : Int))) (.inl ()) (fun i => .inr (i : Int)) (fun i hi => ?_) ?_]
  · simp only [Option.bind_some]
    cases firstN (fun i => q (rd (eI .i64) xs (i : Int))) 0 xs.length <;> rfl
  · simp only [slices_IndexFunc_int64_int64.b1, Int.lt_irrefl, decide_false, cond_false]
  · have h1 : decide ((i : Int) < (xs.length : Int)) = true := by simp; omega
    simp only [slices_IndexFunc_int64_int64.b1, h1, cond_true, inB_ofNat hi, hf, Option.bind_some]
    rw [wsucc hi (by omega)]
    cases q (rd (eI .i64) xs (i : Int)) <;> rfl
theorem ContainsInt_val {xs : List Int} (hs : Short xs) {f : Int → Option Bool} {q : Int → Bool} (hf : ∀ x, f x = some (q x)) : slices_ContainsFunc_int64_int64.f xs f = some (xs.any q) := by
  unfold slices_ContainsFunc_int64_int64.f
  rw [IndexInt_val hs hf, ← range_any_get (eI .i64) xs q, ← firstN_any]
  cases firstN (fun i => q (rd (eI .i64) xs (i : Int))) 0 xs.length with
  | none => rfl
  | some i => simp

theorem not_any_not {α : Type} (q : α → Bool) : ∀ xs : List α, (!(xs.any fun x => !(q x))) = xs.all q
  | [] => rfl
  | x :: xs => by
    rw [List.any_cons, List.all_cons, ← not_any_not q xs]
    cases q x <;> simp
theorem arePrints_val {xs : List Pr} (hs : Short xs) : impl_arePrints.f xs = some (xs.all densB) := by
  unfold impl_arePrints.f
  rw [ContainsPr_val (q := fun x => !(densB x)) hs (fun x => by unfold impl_arePrints_1.f; rw [ValidPrint_val]; rfl)]
  simp only [Option.bind_some, not_any_not]
theorem ValidSheet_val {s : impl_Sheet} (hs : Short s.Frames) : impl_ValidSheet.f s = some (okS s) := by
  unfold impl_ValidSheet.f okS
  rw [within_val, arePrints_val hs]
  simp only [Option.bind_some]
  cases (decide (1 ≤ IntKind.wrap .i64 s.Across) && decide (IntKind.wrap .i64 s.Across ≤ 12)) <;> cases decide ((s.Frames.length : Int) ≤ 12) <;> cases s.Frames.all densB <;> rfl
theorem l07Ok_val {s : impl_Sheet} (hs : Short s.Frames) : spec_l07Ok.f s = some (okS s) := by
  have hs' : s.Frames.length ≤ 1048576 := hs
  unfold spec_l07Ok.f
  rw [loop_all (bd := spec_l07Ok.b1 s) s.Frames.length (fun i => densB (rd eP s.Frames (i : Int))) (.inl ()) (.inr false) (fun i hi => ?_) ?_]
  · rw [range_all_get eP]
    simp only [Option.bind_some, okS, l00In_val]
    cases (decide (1 ≤ IntKind.wrap .i64 s.Across) && decide (IntKind.wrap .i64 s.Across ≤ 12)) <;> cases decide ((s.Frames.length : Int) ≤ 12) <;> cases s.Frames.all densB <;> rfl
  · simp only [spec_l07Ok.b1, Int.lt_irrefl, decide_false, cond_false]
  · have h1 : decide ((i : Int) < (s.Frames.length : Int)) = true := by simp; omega
    simp only [spec_l07Ok.b1, h1, cond_true, inB_ofNat hi, l03Print_val, Option.bind_some]
    rw [wsucc hi (by omega)]
    cases densB (rd eP s.Frames (i : Int)) <;> rfl

theorem okS_len {s : impl_Sheet} (h : okS s = true) : s.Frames.length ≤ 12 := by
  simp only [okS, Bool.and_eq_true, decide_eq_true_eq] at h
  omega

/-- the code of a sheet and of frames -/
def codeS (s : impl_Sheet) (fr : List Int) : Int := bif okS s then (bif fr.all fun i => decide (0 ≤ i) && decide (i ≤ (s.Frames.length : Int) - 1) then 0 else 2) else 1
theorem sheetCode_val {s : impl_Sheet} (hs : Short s.Frames) {fr : List Int} (hf : Short fr) : impl_sheetCode.f s fr = some (codeS s fr) := by
  have hs' : s.Frames.length ≤ 1048576 := hs
  unfold impl_sheetCode.f codeS
  rw [ValidSheet_val (s := ⟨s.Across, s.Frames⟩) hs]
  rw [ContainsInt_val (q := fun i => !(decide (0 ≤ i) && decide (i ≤ (s.Frames.length : Int) - 1))) hf (fun x => by
    unfold impl_sheetCode_1.f impl_Sheet_isFrame.f impl_length_impl_Print.f
    simp only [Option.bind_some, within_val]
    rw [w64 (n := (s.Frames.length : Int) - 1) (by omega) (by omega)])]
  simp only [Option.bind_some]
  cases hk : okS s with
  | false => rfl
  | true =>
    have := not_any_not (fun i : Int => decide (0 ≤ i) && decide (i ≤ (s.Frames.length : Int) - 1)) fr
    rw [← this]
    cases (fr.any fun x => !(decide (0 ≤ x) && decide (x ≤ (s.Frames.length : Int) - 1))) <;> rfl
theorem l07Asked_val {s : impl_Sheet} (hs : Short s.Frames) (i : Int) : spec_l07Asked.f s i = some (codeS s [i]) := by
  have hs' : s.Frames.length ≤ 1048576 := hs
  unfold spec_l07Asked.f codeS
  rw [l07Ok_val (s := ⟨s.Across, s.Frames⟩) hs, w64 (n := (s.Frames.length : Int) - 1) (by omega) (by omega), l00In_val]
  simp only [Option.bind_some, List.all_cons, List.all_nil, Bool.and_true]
  cases okS s <;> cases (decide (0 ≤ i) && decide (i ≤ (s.Frames.length : Int) - 1)) <;> rfl
theorem codeS_zero {s : impl_Sheet} {fr : List Int} (h : (codeS s fr != 0) = false) : okS s = true ∧ ∀ i ∈ fr, 0 ≤ i ∧ i ≤ (s.Frames.length : Int) - 1 := by
  unfold codeS at h
  cases hk : okS s with
  | false => rw [hk] at h; simp at h
  | true =>
    refine ⟨rfl, ?_⟩
    rw [hk] at h
    simp only [cond_true] at h
    cases ha : fr.all fun i => decide (0 ≤ i) && decide (i ≤ (s.Frames.length : Int) - 1) with
    | false => rw [ha] at h; simp at h
    | true =>
      intro i hi
      have := List.all_eq_true.1 ha i hi
      simpa using this
end Go.Proofs.Ytnjabckgklafhaa
