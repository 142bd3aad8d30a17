/- Grades: the least light, the misfit, the codes and the best grade, by the program and by the reference; FnExactBestGrade's law. Conditions: lengths that a slice may have, numbers that an int16 may be. -/
import Derived.Test.YtofhnioboihbgaaCa
import Derived.Test.YtofhnioboihbgaaGq
set_option linter.unusedVariables false
set_option linter.unusedSimpArgs false
namespace Go.Proofs.Ytofhnioboihbgaa
open Go.Proofs.Ytofhnioboihbgaa.G

def hd (d : Int) : Int := Int.tdiv (d + 5) 10
def dens (y : Int) : Bool := decide (0 ≤ y) && decide (y ≤ 400)
theorem dens_in {y : Int} (h : dens y = true) : 0 ≤ y ∧ y ≤ 400 := by simpa [dens] using h
theorem hd_in {d : Int} (h : dens d = true) : 0 ≤ hd d ∧ hd d ≤ 40 := by
  have := dens_in h
  unfold hd
  rw [Int.tdiv_eq_ediv_of_nonneg (by omega)]
  omega
theorem isDensity_val (y : Int) : impl_isDensity.f y = some (dens y) := by
  unfold impl_isDensity.f; rw [within_val]; rfl
theorem l02Density_val (y : Int) : spec_l02Density.f y = some (dens y) := by
  unfold spec_l02Density.f; rw [l00In_val]; rfl
theorem areThirds_val (y : Int) : impl_areThirds.f y = some (decide (0 ≤ y) && decide (y ≤ 36)) := by
  unfold impl_areThirds.f; rw [within_val]; rfl
def four (a b c d : Int) : Bool := dens a && (dens b && (dens c && (dens d && decide (a ≤ b))))
theorem areFour_val (a b c d : Int) : impl_areFour.f a b c d = some (four a b c d) := by
  unfold impl_areFour.f four
  simp only [isDensity_val, Option.bind_some]
  cases dens a <;> cases dens b <;> cases dens c <;> cases dens d <;> rfl
theorem l05Four_val (a b c d : Int) : spec_l05Four.f a b c d = some (four a b c d) := by
  unfold spec_l05Four.f four
  simp only [l02Density_val, Option.bind_some]
  cases dens a <;> cases dens b <;> cases dens c <;> cases dens d <;> rfl

theorem behind_val {c : Cv} (h : Fine c) {d : Int} (hd' : dens d = true) {x : Int} (hx : -1000 ≤ x ∧ x ≤ 1000) : impl_Curve_behind.f c x d = some (AT c (x - hd d)) := by
  have h1 := dens_in hd'
  have h2 := hd_in hd'
  unfold impl_Curve_behind.f
  have : IntKind.wrap .i64 (Int.tdiv (IntKind.wrap .i64 (d + 5)) 10) = hd d := by
    rw [w64 (n := d + 5) (by omega) (by omega)]
    exact w64 (n := hd d) (by omega) (by omega)
  rw [this, w64 (n := x - hd d) (by omega) (by omega), Curve_at_val h]
  rfl
theorem l05Dark_val {c : Cv} (h : Fine c) {d : Int} (hd' : dens d = true) {x : Int} (hx : -1000 ≤ x ∧ x ≤ 1000) : spec_l05Dark.f c d x = some (AT c (x - hd d)) := by
  have h1 := dens_in hd'
  have h2 := hd_in hd'
  unfold spec_l05Dark.f spec_l03Held.f
  have : IntKind.wrap .i64 (Int.tdiv (IntKind.wrap .i64 (IntKind.wrap .i64 (IntKind.wrap .i16 d) + 5)) 10) = hd d := by
    rw [w16 (n := d) (by omega) (by omega), w64 (n := d) (by omega) (by omega), w64 (n := d + 5) (by omega) (by omega)]
    exact w64 (n := hd d) (by omega) (by omega)
  simp only [this, Option.bind_some]
  rw [w64 (n := x - hd d) (by omega) (by omega), l02At_val h]
  rfl

/-- the least light -/
def lm (c : Cv) (d t : Int) : Option Nat := firstN (fun k => decide (t ≤ AT c ((k : Int) - hd d))) 0 37
theorem leastLight_val {c : Cv} (h : Fine c) {d : Int} (hd' : dens d = true) (t : Int) : impl_Curve_leastLight.f c d t = some (match lm c d t with | some k => (k : Int) | none => 37) := by
  unfold impl_Curve_leastLight.f
  rw [loop_first (bd := impl_Curve_leastLight.b1 c d t) 37 (fun k => decide (t ≤ AT c ((k : Int) - hd d))) 37 (fun i => (i : Int)) (fun i hi => ?_) ?_]
  · rfl
  · simp only [impl_Curve_leastLight.b1, areThirds_val]
    rfl
  · have h1 : (decide (0 ≤ (i : Int)) && decide ((i : Int) ≤ 36)) = true := by simp; omega
    simp only [impl_Curve_leastLight.b1, areThirds_val, h1, Option.bind_some, cond_true]
    rw [behind_val h hd' (by omega), wsucc hi (by decide)]
    simp only [Option.bind_some]
    by_cases g : t ≤ AT c ((i : Int) - hd d)
    · have g2 : ¬ AT c ((i : Int) - hd d) < t := by omega
      simp [g, g2]
    · have g2 : AT c ((i : Int) - hd d) < t := by omega
      simp [g, g2]
theorem l05Least_val {c : Cv} (h : Fine c) {d : Int} (hd' : dens d = true) (t : Int) : spec_l05Least.f c d t = some (match lm c d t with | some k => (k : Int) | none => -1) := by
  unfold spec_l05Least.f
  rw [loop_first (bd := spec_l05Least.b1 c d t) 37 (fun k => decide (t ≤ AT c ((k : Int) - hd d))) (.inl ()) (fun i => .inr (i : Int)) (fun i hi => ?_) ?_]
  · show _ = some (match lm c d t with | some k => (k : Int) | none => -1)
    unfold lm
    cases firstN (fun k => decide (t ≤ AT c ((k : Int) - hd d))) 0 37 <;> rfl
  · simp only [spec_l05Least.b1]
    rfl
  · have h1 : decide ((i : Int) ≤ 36) = true := decide_eq_true (by omega)
    simp only [spec_l05Least.b1, h1, cond_true]
    rw [l05Dark_val h hd' (by omega), wsucc hi (by decide)]
    simp only [Option.bind_some]
    by_cases g : t ≤ AT c ((i : Int) - hd d) <;> simp [g]
theorem lm_spec {c : Cv} {d t : Int} {k : Nat} (h : lm c d t = some k) : k < 37 ∧ t ≤ AT c ((k : Int) - hd d) ∧ ∀ j, j < k → AT c ((j : Int) - hd d) < t := by
  have hs := @firstN_spec (fun k => decide (t ≤ AT c ((k : Int) - hd d))) 37 0
  unfold lm at h
  rw [h] at hs
  obtain ⟨h1, h2, h3, h4⟩ := hs
  refine ⟨by omega, by simpa using h3, fun j hj => ?_⟩
  have := h4 j (by omega) hj
  simpa using this
theorem lm_none {c : Cv} {d t : Int} (h : lm c d t = none) : ∀ j : Nat, j < 37 → AT c ((j : Int) - hd d) < t := by
  have hs := @firstN_spec (fun k => decide (t ≤ AT c ((k : Int) - hd d))) 37 0
  unfold lm at h
  rw [h] at hs
  intro j hj
  have := hs j (by omega) (by omega)
  simpa using this

/-- the light for a negative, and its misfit -/
def mis (c : Cv) (a b k l : Int) : Int × Int × Int := bif !(okC c) then (0, 0, 1) else bif !(four a b k l) then (0, 0, 2) else match lm c a k with | none => (0, 0, 6) | some x => ((x : Int), AT c ((x : Int) - hd b) - l, 0)
theorem four_in {a b k l : Int} (h : four a b k l = true) : dens a = true ∧ dens b = true ∧ dens k = true ∧ dens l = true ∧ a ≤ b := by
  simp only [four, Bool.and_eq_true, decide_eq_true_eq] at h
  exact h
def codeC (c : Cv) (fine : Bool) : Int := bif !(okC c) then 1 else bif !fine then 2 else 0
theorem curveCode_val {c : Cv} (h : In16 c) (hs : Short c) (fine : Bool) : impl_curveCode.f c fine = some (codeC c fine) := by
  unfold impl_curveCode.f codeC
  rw [ValidCurve_val h hs]
  simp only [Option.bind_some]
  cases okC c <;> cases fine <;> rfl
theorem implMis_val {c : Cv} (h : In16 c) (hs : Short c) (a b k l : Int) : impl_MisfitOf.f c a b k l = some (mis c a b k l) := by
  unfold impl_MisfitOf.f mis
  rw [areFour_val, Option.bind_some, curveCode_val h hs, Option.bind_some]
  unfold codeC
  cases ho : okC c with
  | false => rfl
  | true =>
    cases hf : four a b k l with
    | false => rfl
    | true =>
      obtain ⟨d1, d2, d3, d4, d5⟩ := four_in hf
      have hF := okC_fine ho
      simp only [Bool.not_true, cond_false, bne_self_eq_false]
      rw [leastLight_val hF d1]
      cases hl : lm c a k with
      | none => simp only [Option.bind_some, areThirds_val]; rfl
      | some x =>
        obtain ⟨x1, _, _⟩ := lm_spec hl
        have hb := AT_in hF ((x : Int) - hd b)
        have := dens_in d4
        have h1 : (decide (0 ≤ (x : Int)) && decide ((x : Int) ≤ 36)) = true := by simp; omega
        simp only [Option.bind_some, areThirds_val, h1, Bool.not_true, cond_false]
        rw [behind_val hF d2 (by omega)]
        simp only [Option.bind_some]
        rw [w64 (by omega) (by omega)]
theorem specMis_val {c : Cv} (h : In16 c) (hs : Short c) (a b k l : Int) : spec_MisfitOf.f c a b k l = some (mis c a b k l) := by
  unfold spec_MisfitOf.f mis
  rw [l02Ok_val h hs, Option.bind_some, l05Four_val, Option.bind_some]
  cases ho : okC c with
  | false => rfl
  | true =>
    cases hf : four a b k l with
    | false => rfl
    | true =>
      obtain ⟨d1, d2, d3, d4, d5⟩ := four_in hf
      have hF := okC_fine ho
      simp only [Bool.not_true, cond_false, bne_self_eq_false]
      rw [l05Least_val hF d1]
      cases hl : lm c a k with
      | none => simp only [Option.bind_some]; rfl
      | some x =>
        obtain ⟨x1, _, _⟩ := lm_spec hl
        have hb := AT_in hF ((x : Int) - hd b)
        have := dens_in d4
        have h1 : decide ((x : Int) < 0) = false := decide_eq_false (by omega)
        simp only [Option.bind_some, h1, cond_false]
        rw [l05Dark_val hF d2 (by omega)]
        simp only [Option.bind_some]
        rw [w64 (by omega) (by omega)]
theorem mis_bd (c : Cv) (a b k l : Int) : -1000 ≤ (mis c a b k l).2.1 ∧ (mis c a b k l).2.1 ≤ 1000 := by
  unfold mis
  cases ho : okC c with
  | false => simp
  | true =>
    cases hf : four a b k l with
    | false => simp
    | true =>
      cases hl : lm c a k with
      | none => simp
      | some x =>
        have hb := AT_in (okC_fine ho) ((x : Int) - hd b)
        have := dens_in (four_in hf).2.2.2.1
        simp only [Bool.not_true, cond_false]
        omega

theorem size_val {n : Int} (h : -100000 ≤ n ∧ n ≤ 100000) : impl_size.f n = some (n.natAbs : Int) := by
  unfold impl_size.f mx
  simp only [Option.bind_some]
  rw [w64 (n := 0 - n) (by omega) (by omega)]
  split <;> congr 1 <;> omega
theorem l01Size_val {n : Int} (h : -100000 ≤ n ∧ n ≤ 100000) : spec_l01Size.f n = some (n.natAbs : Int) := by
  unfold spec_l01Size.f
  rw [w64 (n := 0 - n) (by omega) (by omega)]
  by_cases h0 : n < 0
  · simp only [h0, decide_true, cond_true, Option.bind_some]; congr 1; omega
  · simp only [h0, decide_false, cond_false]; congr 1; omega

/-! ### Several curves -/

def Good (gs : List Cv) : Prop := Short gs ∧ ∀ c ∈ gs, In16 c ∧ Short c
theorem rdN_ofNat {α : Type} {xss : List (List α)} {i : Nat} (h : i < xss.length) : rdN xss (i : Int) = xss[i] := by
  simp [rdN, List.getD_eq_getElem?_getD, h]
theorem Good.at {gs : List Cv} (h : Good gs) {i : Nat} (hi : i < gs.length) : In16 (rdN gs (i : Int)) ∧ Short (rdN gs (i : Int)) := by
  rw [rdN_ofNat hi]; exact h.2 _ (List.getElem_mem hi)
theorem rangeN_all {α : Type} (xss : List (List α)) (q : List α → Bool) : ((List.range xss.length).all fun i => q (rdN xss (i : Int))) = xss.all q := by
  rw [Bool.eq_iff_iff, List.all_eq_true, List.all_eq_true]
  constructor
  · intro h x hx
    obtain ⟨i, hi, rfl⟩ := List.mem_iff_getElem.1 hx
    have := h i (List.mem_range.2 hi)
    rwa [rdN_ofNat hi] at this
  · intro h i hi
    have hi' := List.mem_range.1 hi
    rw [rdN_ofNat hi']
    exact h _ (List.getElem_mem hi')
theorem rangeN_any {α : Type} (xss : List (List α)) (q : List α → Bool) : ((List.range xss.length).any fun i => q (rdN xss (i : Int))) = xss.any q := by
  rw [Bool.eq_iff_iff, List.any_eq_true, List.any_eq_true]
  constructor
  · rintro ⟨i, hi, h⟩
    have hi' := List.mem_range.1 hi
    rw [rdN_ofNat hi'] at h
    exact ⟨_, List.getElem_mem hi', h⟩
  · rintro ⟨x, hx, h⟩
    obtain ⟨i, hi, rfl⟩ := List.mem_iff_getElem.1 hx
    exact ⟨i, List.mem_range.2 hi, by rw [rdN_ofNat hi]; exact h⟩
theorem IndexC_val {xs : List Cv} (hs : Short xs) {f : Cv → Option Bool} {q : Cv → Bool} (hf : ∀ x ∈ xs, f x = some (q x)) :
    slices_IndexFunc_impl_Curve_impl_Curve.f xs f = some (match firstN (fun i => q (rdN xs (i : Int))) 0 xs.length with | some i => (i : Int) | none => -1) := by
  have hs' : xs.length ≤ 1048576 := hs
  unfold slices_IndexFunc_impl_Curve_impl_Curve.f
  rw [loop_first (bd := slices_IndexFunc_impl_Curve_impl_Curve.b1 xs f) xs.length (fun i => q (rdN xs (i : Int))) (.inl ()) (fun i => .inr (i : Int)) (fun i hi => ?_) ?_]
  · simp only [Option.bind_some]
    cases firstN (fun i => q (rdN xs (i : Int))) 0 xs.length <;> rfl
  · simp only [slices_IndexFunc_impl_Curve_impl_Curve.b1, Int.lt_irrefl, decide_false, cond_false]
  · have h1 : decide ((i : Int) < (xs.length : Int)) = true := by simp; omega
    have hfx := hf (rdN xs (i : Int)) (by rw [rdN_ofNat hi]; exact List.getElem_mem hi)
    simp only [slices_IndexFunc_impl_Curve_impl_Curve.b1, h1, cond_true, inB_ofNat hi, hfx, Option.bind_some]
    rw [wsucc hi (by omega)]
    cases q (rdN xs (i : Int)) <;> rfl
theorem ContainsC_val {xs : List Cv} (hs : Short xs) {f : Cv → Option Bool} {q : Cv → Bool} (hf : ∀ x ∈ xs, f x = some (q x)) : slices_ContainsFunc_impl_Curve_impl_Curve.f xs f = some (xs.any q) := by
  unfold slices_ContainsFunc_impl_Curve_impl_Curve.f
  rw [IndexC_val hs hf, ← rangeN_any xs q, ← firstN_any]
  cases firstN (fun i => q (rdN xs (i : Int))) 0 xs.length with
  | none => rfl
  | some i => simp
theorem not_any_not {α : Type} (q : α → Bool) : ∀ xs : List α, (!(xs.any fun x => !(q x))) = xs.all q
  | [] => rfl
  | x :: xs => by
    rw [List.any_cons, List.all_cons, ← not_any_not q xs]
    cases q x <;> simp
/-- the code of papers -/
def gcode (gs : List Cv) (fine : Bool) : Int := bif gs.all okC then (bif !(decide (1 ≤ (gs.length : Int)) && decide ((gs.length : Int) ≤ 6)) || !fine then 2 else 0) else 1
theorem gradesCode_val {gs : List Cv} (h : Good gs) (fine : Bool) : impl_gradesCode.f gs fine = some (gcode gs fine) := by
  unfold impl_gradesCode.f gcode
  rw [ContainsC_val (q := fun c => !(okC c)) h.1 (fun x hx => by unfold impl_gradesCode_1.f; rw [ValidCurve_val (h.2 x hx).1 (h.2 x hx).2]; rfl)]
  unfold impl_length_impl_Curve.f
  simp only [Option.bind_some, within_val]
  rw [← not_any_not okC gs]
  cases (gs.any fun c => !(okC c)) with
  | true => rfl
  | false => cases (decide (1 ≤ (gs.length : Int)) && decide ((gs.length : Int) ≤ 6)) <;> cases fine <;> rfl
theorem l05Grades_val {gs : List Cv} (h : Good gs) (fine : Bool) : spec_l05Grades.f gs fine = some (gcode gs fine) := by
  have hs' : gs.length ≤ 1048576 := h.1
  unfold spec_l05Grades.f gcode
  rw [loop_all (bd := spec_l05Grades.b1 gs) gs.length (fun i => okC (rdN gs (i : Int))) (.inl ()) (.inr 1) (fun i hi => ?_) ?_]
  · rw [rangeN_all gs okC]
    simp only [l00In_val]
    cases gs.all okC with
    | false => rfl
    | true => cases (decide (1 ≤ (gs.length : Int)) && decide ((gs.length : Int) ≤ 6)) <;> cases fine <;> rfl
  · simp only [spec_l05Grades.b1, Int.lt_irrefl, decide_false, cond_false]
  · have h1 : decide ((i : Int) < (gs.length : Int)) = true := by simp; omega
    simp only [spec_l05Grades.b1, h1, cond_true, inB_ofNat hi]
    rw [l02Ok_val (h.at hi).1 (h.at hi).2, wsucc hi (by omega)]
    cases okC (rdN gs (i : Int)) <;> rfl

/-- the best one so far, its light and its misfit -/
def bst (gs : List Cv) (a b k l : Int) : Nat → Int × Int × Int
  | 0 => (-1, 0, 0)
  | i + 1 => bif (mis (rdN gs (i : Int)) a b k l).2.2 == 0 && (decide ((bst gs a b k l i).1 < 0) || decide (((mis (rdN gs (i : Int)) a b k l).2.1.natAbs : Int) < ((bst gs a b k l i).2.2.natAbs : Int))) then ((i : Int), (mis (rdN gs (i : Int)) a b k l).1, (mis (rdN gs (i : Int)) a b k l).2.1) else bst gs a b k l i
theorem bst_bd (gs : List Cv) (a b k l : Int) : ∀ i, -1000 ≤ (bst gs a b k l i).2.2 ∧ (bst gs a b k l i).2.2 ≤ 1000
  | 0 => by simp [bst]
  | i + 1 => by
    have := mis_bd (rdN gs (i : Int)) a b k l
    have := bst_bd gs a b k l i
    unfold bst
    cases ((mis (rdN gs (i : Int)) a b k l).2.2 == 0 && (decide ((bst gs a b k l i).1 < 0) || decide (((mis (rdN gs (i : Int)) a b k l).2.1.natAbs : Int) < ((bst gs a b k l i).2.2.natAbs : Int)))) <;> simp only [cond_true, cond_false] <;> omega
def bestG (gs : List Cv) (a b k l : Int) : Int × Int × Int × Int := bif gcode gs (four a b k l) != 0 then (0, 0, 0, gcode gs (four a b k l)) else bif decide ((bst gs a b k l gs.length).1 < 0) then (0, 0, 0, 6) else ((bst gs a b k l gs.length).1, (bst gs a b k l gs.length).2.1, (bst gs a b k l gs.length).2.2, 0)
theorem implBest_val {gs : List Cv} (h : Good gs) (a b k l : Int) : impl_BestGrade.f gs a b k l = some (bestG gs a b k l) := by
  have hs' : gs.length ≤ 1048576 := h.1
  unfold impl_BestGrade.f bestG
  rw [areFour_val, Option.bind_some, gradesCode_val h, Option.bind_some]
  cases hc : (gcode gs (four a b k l) != 0) with
  | true => rfl
  | false =>
    simp only [cond_false]
    rw [loopW_for (bd := impl_BestGrade.b1 gs a b k l) (fun i => ((bst gs a b k l i).1, (bst gs a b k l i).2.1, (bst gs a b k l i).2.2, (i : Int))) (n := gs.length) (y := ((bst gs a b k l gs.length).1, (bst gs a b k l gs.length).2.1, (bst gs a b k l gs.length).2.2)) (fun i hi => ?_) ?_ ?_]
    · simp only [Option.bind_some]
      cases decide ((bst gs a b k l gs.length).1 < 0) <;> rfl
    · simp only [impl_BestGrade.b1, Int.lt_irrefl, decide_false, cond_false]
    · rfl
    · have h1 : decide ((i : Int) < (gs.length : Int)) = true := by simp; omega
      have m1 := mis_bd (rdN gs (i : Int)) a b k l
      have m2 := bst_bd gs a b k l i
      simp only [impl_BestGrade.b1, h1, cond_true, inB_ofNat hi]
      rw [implMis_val (h.at hi).1 (h.at hi).2, wsucc hi (by omega)]
      simp only [Option.bind_some]
      rw [size_val (by omega), size_val (by omega)]
      simp only [Option.bind_some, bst]
      cases (mis (rdN gs (i : Int)) a b k l).2.2 == 0 <;> cases decide ((bst gs a b k l i).1 < 0) <;> cases decide (((mis (rdN gs (i : Int)) a b k l).2.1.natAbs : Int) < ((bst gs a b k l i).2.2.natAbs : Int)) <;> rfl
theorem specBest_val {gs : List Cv} (h : Good gs) (a b k l : Int) : spec_BestGrade.f gs a b k l = some (bestG gs a b k l) := by
  have hs' : gs.length ≤ 1048576 := h.1
  unfold spec_BestGrade.f bestG
  rw [l05Four_val, Option.bind_some, l05Grades_val h, Option.bind_some]
  cases hc : (gcode gs (four a b k l) != 0) with
  | true => rfl
  | false =>
    simp only [cond_false]
    rw [loopW_for (bd := spec_BestGrade.b1 gs a b k l) (fun i => ((bst gs a b k l i).1, (bst gs a b k l i).2.1, (bst gs a b k l i).2.2, (i : Int))) (n := gs.length) (y := ((bst gs a b k l gs.length).1, (bst gs a b k l gs.length).2.1, (bst gs a b k l gs.length).2.2)) (fun i hi => ?_) ?_ ?_]
    · simp only [Option.bind_some]
      cases decide ((bst gs a b k l gs.length).1 < 0) <;> rfl
    · simp only [spec_BestGrade.b1, Int.lt_irrefl, decide_false, cond_false]
    · rfl
    · have h1 : decide ((i : Int) < (gs.length : Int)) = true := by simp; omega
      have m1 := mis_bd (rdN gs (i : Int)) a b k l
      have m2 := bst_bd gs a b k l i
      simp only [spec_BestGrade.b1, h1, cond_true, inB_ofNat hi]
      rw [specMis_val (h.at hi).1 (h.at hi).2, wsucc hi (by omega)]
      simp only [Option.bind_some]
      rw [l01Size_val (by omega), l01Size_val (by omega)]
      simp only [Option.bind_some, bst, bne]
      cases (mis (rdN gs (i : Int)) a b k l).2.2 == 0 <;> cases decide ((bst gs a b k l i).1 < 0) <;> cases decide (((mis (rdN gs (i : Int)) a b k l).2.1.natAbs : Int) < ((bst gs a b k l i).2.2.natAbs : Int)) <;> rfl

/-! ### The law's own functions -/

def cvP (p : laws_Point) : impl_Point := ⟨p.X, p.Y⟩
theorem toCurve_val {xs : List laws_Point} (hs : Short xs) : laws_toCurve.f xs = some (xs.map cvP) := by
  have hs' : xs.length ≤ 1048576 := hs
  unfold laws_toCurve.f
  have hm : mkB (xs.length : Int) 4 = true := by simp [mkB]; omega
  rw [hm]
  let st : Nat → Int × Cv := fun i => ((i : Int), (xs.map cvP).take i ++ List.replicate (xs.length - i) enc_impl_Point.dflt)
  rw [loopW_for (bd := laws_toCurve.b1 xs) st (n := xs.length) (y := xs.map cvP) (fun i hi => ?_) ?_ ?_]
  · rfl
  · simp only [st, laws_toCurve.b1, Int.lt_irrefl, decide_false, cond_false, Nat.sub_self, List.replicate_zero, List.append_nil]
    rw [List.take_of_length_le (by simp)]
  · simp only [st, List.take_zero, List.nil_append, Nat.sub_zero, Int.toNat_natCast]; rfl
  · have h1 : decide ((i : Int) < (xs.length : Int)) = true := by simp; omega
    have hl : ((xs.map cvP).take i ++ List.replicate (xs.length - i) enc_impl_Point.dflt).length = xs.length := by simp; omega
    have hx : laws_toPoint.f ⟨(rd enc_laws_Point xs (i : Int)).X, (rd enc_laws_Point xs (i : Int)).Y⟩ = some (cvP xs[i]) := by
      rw [rd_ofNat hi]; rfl
    simp only [st, laws_toCurve.b1, h1, cond_true, inB_ofNat hi, Option.bind_some, hx, hl]
    rw [wsucc hi (by omega)]
    have e1 : ((xs.map cvP).take i).length = i := by simp; omega
    have e2 : (xs.map cvP).take (i + 1) = (xs.map cvP).take i ++ [cvP xs[i]] := by rw [List.take_add_one, List.getElem?_eq_getElem (by simpa using hi)]; simp
    have hv : ((xs.map cvP).take i ++ List.replicate (xs.length - i) enc_impl_Point.dflt).set i (cvP xs[i]) = (xs.map cvP).take (i + 1) ++ List.replicate (xs.length - (i + 1)) enc_impl_Point.dflt := by
      rw [List.set_append_right _ _ (by omega), e1, Nat.sub_self, show xs.length - i = (xs.length - (i + 1)) + 1 by omega, List.replicate_succ, List.set_cons_zero, e2, List.append_assoc]
      rfl
    rw [Int.toNat_natCast]
    exact congrArg (fun v => some (Step.next (((i + 1 : Nat) : Int), v))) hv
def cvC (xss : List (List laws_Point)) : List Cv := xss.map fun xs => xs.map cvP
theorem toCurveS_val {xss : List (List laws_Point)} (hs : Short xss) (he : ∀ x ∈ xss, Short x) : laws_toCurveS.f xss = some (cvC xss) := by
  have hs' : xss.length ≤ 1048576 := hs
  unfold laws_toCurveS.f
  have hm : mkB (xss.length : Int) 24 = true := by simp [mkB]; omega
  rw [hm]
  let st : Nat → Int × List Cv := fun i => ((i : Int), (cvC xss).take i ++ List.replicate (xss.length - i) [])
  have hcl : (cvC xss).length = xss.length := by simp [cvC]
  rw [loopW_for (bd := laws_toCurveS.b1 xss) st (n := xss.length) (y := cvC xss) (fun i hi => ?_) ?_ ?_]
  · rfl
  · simp only [st, laws_toCurveS.b1, Int.lt_irrefl, decide_false, cond_false, Nat.sub_self, List.replicate_zero, List.append_nil]
    rw [List.take_of_length_le (by omega)]
  · simp only [st, List.take_zero, List.nil_append, Nat.sub_zero, Int.toNat_natCast]; rfl
  · have h1 : decide ((i : Int) < (xss.length : Int)) = true := by simp; omega
    have hl : ((cvC xss).take i ++ List.replicate (xss.length - i) []).length = xss.length := by simp [hcl]; omega
    have hx : laws_toCurve.f (rdN xss (i : Int)) = some (xss[i].map cvP) := by
      rw [rdN_ofNat hi]; exact toCurve_val (he _ (List.getElem_mem hi))
    simp only [st, laws_toCurveS.b1, h1, cond_true, inB_ofNat hi, Option.bind_some, hx, hl]
    rw [wsucc hi (by omega)]
    have e1 : ((cvC xss).take i).length = i := by simp [hcl]; omega
    have e2 : (cvC xss).take (i + 1) = (cvC xss).take i ++ [xss[i].map cvP] := by rw [List.take_add_one, List.getElem?_eq_getElem (by omega)]; simp [cvC]
    have hv : ((cvC xss).take i ++ List.replicate (xss.length - i) []).set i (xss[i].map cvP) = (cvC xss).take (i + 1) ++ List.replicate (xss.length - (i + 1)) [] := by
      rw [List.set_append_right _ _ (by omega), e1, Nat.sub_self, show xss.length - i = (xss.length - (i + 1)) + 1 by omega, List.replicate_succ, List.set_cons_zero, e2, List.append_assoc]
      rfl
    rw [Int.toNat_natCast]
    exact congrArg (fun v => some (Step.next (((i + 1 : Nat) : Int), v))) hv

theorem eqCurve_val {a b : Cv} (ha : Short a) : laws_eqCurve.f a b = some (decide (a = b)) := by
  have ha' : a.length ≤ 1048576 := ha
  unfold laws_eqCurve.f
  by_cases hl : a.length = b.length
  · have h0 : ((a.length : Int) != (b.length : Int)) = false := by simp [hl]
    rw [h0, cond_false, loop_all (bd := laws_eqCurve.b1 a b) a.length (fun i => decide (rd enc_impl_Point a (i : Int) = rd enc_impl_Point b (i : Int))) (.inl ()) (.inr false) (fun i hi => ?_) ?_]
    · rw [list_all_eq enc_impl_Point hl]
      cases decide (a = b) <;> rfl
    · simp only [laws_eqCurve.b1, Int.lt_irrefl, decide_false, cond_false]
    · have h1 : decide ((i : Int) < (a.length : Int)) = true := by simp; omega
      have hp : laws_eqPoint.f ⟨(rd enc_impl_Point a (i : Int)).X, (rd enc_impl_Point a (i : Int)).Y⟩ ⟨(rd enc_impl_Point b (i : Int)).X, (rd enc_impl_Point b (i : Int)).Y⟩ = some (decide (rd enc_impl_Point a (i : Int) = rd enc_impl_Point b (i : Int))) := by
        generalize rd enc_impl_Point a (i : Int) = p
        generalize rd enc_impl_Point b (i : Int) = q
        obtain ⟨x, y⟩ := p
        obtain ⟨u, v⟩ := q
        unfold laws_eqPoint.f
        by_cases e1 : x = u
        · by_cases e2 : y = v
          · simp [e1, e2]
          · have : (y != v) = true := by simp [e2]
            simp [e1, e2, this]
        · have : (x != u) = true := by simp [e1]
          simp [e1, this]
      simp only [laws_eqCurve.b1, h1, cond_true, inB_ofNat hi, inB_ofNat (hl ▸ hi : i < b.length), Option.bind_some, hp]
      rw [wsucc hi (by omega)]
      cases decide (rd enc_impl_Point a (i : Int) = rd enc_impl_Point b (i : Int)) <;> rfl
  · have h0 : ((a.length : Int) != (b.length : Int)) = true := by simp; omega
    have h2 : decide (a = b) = false := decide_eq_false fun e => hl (by rw [e])
    rw [h0, h2]; rfl
theorem eqCurveS_same {a : List Cv} (ha : Short a) (he : ∀ c ∈ a, Short c) : laws_eqCurveS.f a a = some true := by
  have ha' : a.length ≤ 1048576 := ha
  unfold laws_eqCurveS.f
  rw [bne_self_eq_false, cond_false, loop_all (bd := laws_eqCurveS.b1 a a) a.length (fun i => true) (.inl ()) (.inr false) (fun i hi => ?_) ?_]
  · have : ((List.range a.length).all fun i => true) = true := by simp
    rw [this]; rfl
  · simp only [laws_eqCurveS.b1, Int.lt_irrefl, decide_false, cond_false]
  · have h1 : decide ((i : Int) < (a.length : Int)) = true := by simp; omega
    simp only [laws_eqCurveS.b1, h1, cond_true, inB_ofNat hi]
    rw [eqCurve_val (by rw [rdN_ofNat hi]; exact he _ (List.getElem_mem hi)), wsucc hi (by omega)]
    simp

/-- arguments that came in: what an int16 and a slice may be -/
def GoodL (gs : List (List laws_Point)) : Prop := gs.length ≤ 9223372036854775807 ∧ ∀ c ∈ gs, c.length ≤ 9223372036854775807 ∧ ∀ p ∈ c, (-32768 ≤ p.X ∧ p.X ≤ 32767) ∧ (-32768 ≤ p.Y ∧ p.Y ≤ 32767)
theorem szCurveS_ok {gs : List (List laws_Point)} (h : GoodL gs) : Ok (laws_szCurveS.f gs 1048576) fun r => r < 0 ∨ (Short gs ∧ ∀ c ∈ gs, Short c) := by
  have hl := h.1
  unfold laws_szCurveS.f
  rw [w64 (n := 1048576 - (gs.length : Int)) (by omega) (by omega)]
  refine Ok.let (Ok.dif (fun hb => Ok.some (.inl (by decide))) fun hb => ?_)
  have hs : gs.length ≤ 1048576 := by omega
  have hL := Ok.loop (bd := laws_szCurveS.b1 gs) (s := (1048576 - (gs.length : Int), 0)) (fun s => ∃ i : Nat, s.2 = (i : Int) ∧ i ≤ gs.length ∧ 0 ≤ s.1 ∧ s.1 ≤ 1048576 ∧ ∀ j : Nat, j < i → Short (rdN gs (j : Int))) (fun s => gs.length - s.2.toNat) (R := fun y => match y with | .inl r => ∀ c ∈ gs, Short c | .inr r => r < 0) ⟨0, rfl, Nat.zero_le _, by simp only; omega, by simp only; omega, fun j hj => by omega⟩ (fun s hI => ?_)
  · refine Ok.bind hL fun y hy => ?_
    cases y with
    | inl r => exact Ok.some (.inr ⟨hs, hy⟩)
    | inr r => exact Ok.some (.inl hy)
  · obtain ⟨i, e, hi, g1, g2, g3⟩ := hI
    obtain ⟨s1, s2⟩ := s
    simp only at e g1 g2
    subst e
    unfold laws_szCurveS.b1
    refine Ok.dif (fun hlt => ?_) fun hge => ?_
    · have hi' : i < gs.length := by simp only at hlt; omega
      have hb := (h.2 _ (List.getElem_mem hi')).1
      refine Ok.must (inB_ofNat hi') ?_
      simp only [laws_szCurve.f, rdN_ofNat hi', Option.bind_some]
      rw [w64 (n := s1 - (gs[i].length : Int)) (by omega) (by omega)]
      by_cases hneg : s1 - (gs[i].length : Int) < 0
      · simp only [hneg, decide_true, cond_true, Option.bind_some]
        exact Ok.some (show (-1 : Int) < 0 by decide)
      · simp only [hneg, decide_false, cond_false, Option.bind_some]
        rw [wsucc hi' (by omega)]
        refine Ok.some ⟨⟨i + 1, rfl, by omega, by simp only; omega, by simp only; omega, fun j hj => ?_⟩, ?_⟩
        · by_cases e : j = i
          · subst e
            rw [rdN_ofNat hi']
            show gs[j].length ≤ 1048576
            omega
          · exact g3 j (by omega)
        · simp only [Int.toNat_natCast]
          omega
    · refine Ok.some fun c hc => ?_
      obtain ⟨j, hj, rfl⟩ := List.mem_iff_getElem.1 hc
      have := g3 j (by simp only at hge; omega)
      rwa [rdN_ofNat hj] at this
theorem good_of {gs : List (List laws_Point)} (h : GoodL gs) (hs : Short gs) (he : ∀ c ∈ gs, Short c) : Good (cvC gs) := by
  have hs' : gs.length ≤ 1048576 := hs
  refine ⟨by unfold Short cvC; simpa using hs', fun c hc => ?_⟩
  obtain ⟨x, hx, rfl⟩ := List.mem_map.1 hc
  have hx' : x.length ≤ 1048576 := he x hx
  refine ⟨fun p hp => ?_, by unfold Short; simpa using hx'⟩
  obtain ⟨q, hq, rfl⟩ := List.mem_map.1 hp
  exact (h.2 x hx).2 q hq

theorem bestGrade_true {gs : List (List laws_Point)} (h : GoodL gs) (a b k l : Int) : laws_FnExactBestGrade.f gs a b k l = some true := by
  unfold laws_FnExactBestGrade.f
  obtain ⟨r, hr, hp⟩ := szCurveS_ok h
  rw [hr]
  simp only [Option.bind_some]
  by_cases hb : r < 0
  · simp [hb]
  · obtain ⟨hs, he⟩ := hp.resolve_left hb
    have hg := good_of h hs he
    simp only [decide_eq_false hb, cond_false]
    rw [toCurveS_val hs he]
    simp only [Option.bind_some]
    rw [specBest_val hg, implBest_val hg, eqCurveS_same hg.1 (fun c hc => (hg.2 c hc).2)]
    simp
end Go.Proofs.Ytofhnioboihbgaa
