/- FnGrades' law: the best grade, the order of grades, converted lights. Conditions: arguments of bytes. -/
import Derived.Test.YtofhnioboihbgaaCe
set_option linter.unusedVariables false
set_option linter.unusedSimpArgs false
namespace Go.Proofs.Ytofhnioboihbgaa
open Go.Proofs.Ytofhnioboihbgaa.G

theorem okC_short {c : Cv} (h : Fine c) : Short c := by have := h.few; unfold Short; omega

theorem bst_ge (gs : List Cv) (a b k l : Int) : ∀ i j : Nat, j < i → (mis (rdN gs (j : Int)) a b k l).2.2 = 0 → 0 ≤ (bst gs a b k l i).1 ∧ (bst gs a b k l i).2.2.natAbs ≤ (mis (rdN gs (j : Int)) a b k l).2.1.natAbs
  | 0, j, h, _ => by omega
  | i + 1, j, h, h0 => by
    have ih := fun h => bst_ge gs a b k l i j h h0
    unfold bst
    cases hc : ((mis (rdN gs (i : Int)) a b k l).2.2 == 0 && (decide ((bst gs a b k l i).1 < 0) || decide (((mis (rdN gs (i : Int)) a b k l).2.1.natAbs : Int) < ((bst gs a b k l i).2.2.natAbs : Int)))) with
    | true =>
      simp only [cond_true]
      simp only [Bool.and_eq_true, Bool.or_eq_true, decide_eq_true_eq, beq_iff_eq] at hc
      refine ⟨by omega, ?_⟩
      by_cases e : j = i
      · subst e; exact Nat.le_refl _
      · have := ih (by omega)
        rcases hc.2 with g | g <;> omega
    | false =>
      simp only [cond_false]
      by_cases e : j = i
      · subst e
        rw [h0] at hc
        simp only [beq_self_eq_true, Bool.true_and, Bool.or_eq_false_iff, decide_eq_false_iff_not] at hc
        omega
      · exact ih (by omega)
theorem bst_from (gs : List Cv) (a b k l : Int) : ∀ i : Nat, (bst gs a b k l i).1 = -1 ∨ ∃ j : Nat, j < i ∧ bst gs a b k l i = ((j : Int), (mis (rdN gs (j : Int)) a b k l).1, (mis (rdN gs (j : Int)) a b k l).2.1)
  | 0 => .inl rfl
  | i + 1 => by
    have ih := bst_from gs a b k l i
    unfold bst
    cases ((mis (rdN gs (i : Int)) a b k l).2.2 == 0 && (decide ((bst gs a b k l i).1 < 0) || decide (((mis (rdN gs (i : Int)) a b k l).2.1.natAbs : Int) < ((bst gs a b k l i).2.2.natAbs : Int)))) with
    | true => exact .inr ⟨i, by omega, rfl⟩
    | false =>
      simp only [cond_false]
      rcases ih with h | ⟨j, h1, h2⟩
      · exact .inl h
      · exact .inr ⟨j, by omega, h2⟩

theorem oS_sorted (S : Int → Int) : ∀ i j, j + 1 < i → S (oS S i (j + 1)) ≤ S (oS S i j)
  | 0, j, h => by omega
  | i + 1, j, h => by
    have ih := oS_sorted S i
    obtain ⟨c1, c2, c3⟩ := cnt_spec S (oS S i) i
    show S (insF S (oS S i) i (j + 1)) ≤ S (insF S (oS S i) i j)
    unfold insF
    by_cases q1 : j + 1 < i - cnt S (oS S i) i
    · rw [if_pos q1, if_pos (by omega)]
      exact ih j (by omega)
    · rw [if_neg q1]
      by_cases q2 : j + 1 = i - cnt S (oS S i) i
      · rw [if_pos q2, if_pos (by omega)]
        have := c3 (by omega)
        rw [show i - 1 - cnt S (oS S i) i = j by omega] at this
        omega
      · rw [if_neg q2, if_pos (by omega), if_neg (by omega)]
        by_cases q3 : j = i - cnt S (oS S i) i
        · rw [if_pos q3]
          have := c2 (cnt S (oS S i) i - 1) (by omega)
          rw [show i - 1 - (cnt S (oS S i) i - 1) = j + 1 - 1 by omega] at this
          omega
        · rw [if_neg q3, if_pos (by omega)]
          have := ih (j - 1) (by omega)
          rwa [show j - 1 + 1 = j + 1 - 1 by omega] at this

def scO (c : Cv) (l k : Int) : Int × Int := match scl c l k with | some s => (s, 0) | none => (0, 6)
theorem implScaleOf_val {c : Cv} (h : Fine c) (hi : In16 c) {l k : Int} (he : ends l k = true) : impl_ScaleOf.f c l k = some (scO c l k) := by
  have ho := fine_okC h
  unfold impl_ScaleOf.f scO
  rw [areScaled_val, Option.bind_some, curveCode_val hi (okC_short h), Option.bind_some]
  simp only [codeC, ho, he, Bool.not_true, cond_false, bne_self_eq_false]
  rw [scale_val h (ends_in he).1]
  cases scl c l k <;> rfl
theorem specScaleOf_val {c : Cv} (h : Fine c) (hi : In16 c) {l k : Int} (he : ends l k = true) : spec_ScaleOf.f c l k = some (scO c l k) := by
  have ho := fine_okC h
  unfold spec_ScaleOf.f scO
  rw [l02Ok_val hi (okC_short h), Option.bind_some, l05Ends_val, Option.bind_some]
  simp only [ho, he, Bool.not_true, cond_false]
  rw [l05Scale_val hi (okC_short h) ho (ends_in he).1 (ends_in he).2.1]
  cases scl c l k <;> rfl

theorem same_val {a : List Int} (ha : Short a) : spec_SameNumbers.f a a = some true := by
  have ha' : a.length ≤ 1048576 := ha
  unfold spec_SameNumbers.f spec_l00Same.f
  rw [bne_self_eq_false, cond_false, loop_all (bd := spec_l00Same.b1 a a) a.length (fun i => true) (.inl ()) (.inr false) (fun i hi => ?_) ?_]
  · have : ((List.range a.length).all fun i => true) = true := by simp
    rw [this]; rfl
  · simp only [spec_l00Same.b1, Int.lt_irrefl, decide_false, cond_false]
  · have h1 : decide ((i : Int) < (a.length : Int)) = true := by simp; omega
    simp only [spec_l00Same.b1, h1, cond_true, inB_ofNat hi, bne_self_eq_false, cond_false, Option.bind_some]
    rw [wsucc hi (by omega)]

/-! ### Lights -/

def lmO (c : Cv) (d t : Int) : Int × Int := match lm c d t with | some k => ((k : Int), 0) | none => (0, 6)
def lmI (c : Cv) (d t : Int) : Int := match lm c d t with | some k => (k : Int) | none => -1
theorem least_io {c : Cv} (h : Fine c) {d : Int} (hd' : dens d = true) (t : Int) {α : Type} (f : Int × Int → Option α) :
    ((impl_Curve_leastLight.f c d t).bind fun r11 => (impl_areThirds.f r11).bind fun r14 => bif (!r14) then f (0, 6) else f (r11, 0)) = f (lmO c d t) := by
  rw [leastLight_val h hd']
  unfold lmO
  cases hl : lm c d t with
  | none => simp only [Option.bind_some, areThirds_val]; rfl
  | some x =>
    have := (lm_spec hl).1
    have h1 : (decide (0 ≤ (x : Int)) && decide ((x : Int) ≤ 36)) = true := by simp; omega
    simp only [Option.bind_some, areThirds_val, h1, Bool.not_true, cond_false]
theorem least_so {c : Cv} (h : Fine c) {d : Int} (hd' : dens d = true) (t : Int) {α : Type} (f : Int × Int → Option α) :
    ((spec_l05Least.f c d t).bind fun r11 => bif (decide (r11 < 0)) then f (0, 6) else f (r11, 0)) = f (lmO c d t) := by
  rw [l05Least_val h hd']
  unfold lmO
  cases hl : lm c d t with
  | none => rfl
  | some x =>
    have h1 : decide ((x : Int) < 0) = false := decide_eq_false (by omega)
    simp only [Option.bind_some, h1, cond_false]
theorem d0 : dens 0 = true := by decide
theorem hd0 : hd 0 = 0 := by decide
theorem implConv_val {a b : Cv} (ha : Fine a) (hb : Fine b) (ia : In16 a) (ib : In16 b) {x : Int} (h0 : 0 ≤ x) (h1 : x ≤ 36) : impl_ConvertLight.f a b x = some (lmO b 0 (AT a x)) := by
  have hx : (decide (0 ≤ x) && decide (x ≤ 36)) = true := by simp; omega
  unfold impl_ConvertLight.f impl_printCode.f
  rw [areThirds_val, hx]
  simp only [Option.bind_some]
  rw [ValidCurve_val ia (okC_short ha), fine_okC ha, curveCode_val ib (okC_short hb)]
  simp only [codeC, fine_okC hb, Option.bind_some, Bool.not_true, cond_false, bne_self_eq_false]
  rw [Curve_at_val ha, Option.bind_some]
  exact least_io hb d0 _ some
theorem specConv_val {a b : Cv} (ha : Fine a) (hb : Fine b) (ia : In16 a) (ib : In16 b) {x : Int} (h0 : 0 ≤ x) (h1 : x ≤ 36) : spec_ConvertLight.f a b x = some (lmO b 0 (AT a x)) := by
  have hx : (decide (0 ≤ x) && decide (x ≤ 36)) = true := by simp; omega
  unfold spec_ConvertLight.f spec_l03Thirds.f
  rw [l02Ok_val ia (okC_short ha), fine_okC ha, l02Ok_val ib (okC_short hb), fine_okC hb, l00In_val, hx]
  simp only [Option.bind_some, Bool.not_true, cond_false]
  rw [l02At_val ha, Option.bind_some]
  exact least_so hb d0 _ some
def ctab (a b : Cv) : List Int := lst 37 fun x => lmI b 0 (AT a (x : Int))
theorem implTab_val {a b : Cv} (ha : Fine a) (hb : Fine b) (ia : In16 a) (ib : In16 b) : impl_ConvertTable.f a b = some (ctab a b, 0) := by
  unfold impl_ConvertTable.f impl_printCode.f
  rw [ValidCurve_val ia (okC_short ha), fine_okC ha, curveCode_val ib (okC_short hb)]
  simp only [codeC, fine_okC hb, Option.bind_some, Bool.not_true, cond_false, bne_self_eq_false]
  rw [loopW_for (bd := impl_ConvertTable.b1 a b) (fun i => ((i : Int), lst i fun x => lmI b 0 (AT a (x : Int)))) (n := 37) (y := ctab a b) (fun i hi => ?_) ?_ ?_]
  · rfl
  · simp only [impl_ConvertTable.b1, areThirds_val]; rfl
  · rfl
  · have hx : (decide (0 ≤ (i : Int)) && decide ((i : Int) ≤ 36)) = true := by simp; omega
    simp only [impl_ConvertTable.b1, areThirds_val, hx, Option.bind_some, cond_true]
    rw [Curve_at_val ha, Option.bind_some, leastLight_val hb d0, lst_len, room_ok (by omega) (by decide), wsucc hi (by omega)]
    have happ : (lst i fun x => lmI b 0 (AT a (x : Int))) ++ [lmI b 0 (AT a (i : Int))] = lst (i + 1) fun x => lmI b 0 (AT a (x : Int)) := by
      rw [lst_app]
      exact lst_ext fun j hj => by
        by_cases e : j = i
        · subst e; simp
        · simp [e]
    simp only [cond_true]
    rw [← happ]
    cases hl : lm b 0 (AT a (i : Int)) with
    | none =>
      have hI : lmI b 0 (AT a (i : Int)) = -1 := by unfold lmI; rw [hl]
      rw [hI]
      rfl
    | some x =>
      have hI : lmI b 0 (AT a (i : Int)) = (x : Int) := by unfold lmI; rw [hl]
      have := (lm_spec hl).1
      have h1 : (decide (0 ≤ (x : Int)) && decide ((x : Int) ≤ 36)) = true := by simp; omega
      rw [hI]
      simp only [Option.bind_some, h1, Bool.not_true, cond_false]
theorem specTab_val {a b : Cv} (ha : Fine a) (hb : Fine b) (ia : In16 a) (ib : In16 b) : spec_ConvertTable.f a b = some (ctab a b, 0) := by
  unfold spec_ConvertTable.f
  rw [l02Ok_val ia (okC_short ha), fine_okC ha, l02Ok_val ib (okC_short hb), fine_okC hb]
  simp only [Option.bind_some, Bool.not_true, cond_false]
  rw [loopW_for (bd := spec_ConvertTable.b1 a b) (fun i => ((i : Int), lst i fun x => lmI b 0 (AT a (x : Int)))) (n := 37) (y := ctab a b) (fun i hi => ?_) ?_ ?_]
  · rfl
  · simp only [spec_ConvertTable.b1]; rfl
  · rfl
  · have hx : decide ((i : Int) ≤ 36) = true := decide_eq_true (by omega)
    simp only [spec_ConvertTable.b1, hx, cond_true]
    rw [l02At_val ha, Option.bind_some, l05Least_val hb d0, lst_len, room_ok (by omega) (by decide), wsucc hi (by omega)]
    have happ : (lst i fun x => lmI b 0 (AT a (x : Int))) ++ [lmI b 0 (AT a (i : Int))] = lst (i + 1) fun x => lmI b 0 (AT a (x : Int)) := by
      rw [lst_app]
      exact lst_ext fun j hj => by
        by_cases e : j = i
        · subst e; simp
        · simp [e]
    rw [← happ]
    rfl
theorem implAt_val {c : Cv} (h : Fine c) (hi : In16 c) {x : Int} (h0 : -200 ≤ x) (h1 : x ≤ 200) : impl_CurveAt.f c x = some (AT c x, 0) := by
  have hx : (decide (-200 ≤ x) && decide (x ≤ 200)) = true := by simp; omega
  unfold impl_CurveAt.f impl_isPlace.f
  rw [within_val, hx]
  simp only [Option.bind_some]
  rw [curveCode_val hi (okC_short h)]
  simp only [codeC, fine_okC h, Option.bind_some, Bool.not_true, cond_false, bne_self_eq_false]
  rw [Curve_at_val h]
  rfl
theorem implBlack_val {c : Cv} (h : Fine c) (hi : In16 c) {d : Int} (hd' : dens d = true) : impl_BlackTime.f c d = some (lmO c d (AT c 36)) := by
  unfold impl_BlackTime.f
  rw [isDensity_val, hd', Option.bind_some, curveCode_val hi (okC_short h)]
  simp only [codeC, fine_okC h, Option.bind_some, Bool.not_true, cond_false, bne_self_eq_false]
  rw [Curve_at_val h, Option.bind_some]
  exact least_io h hd' _ some
theorem specBlack_val {c : Cv} (h : Fine c) (hi : In16 c) {d : Int} (hd' : dens d = true) : spec_BlackTime.f c d = some (lmO c d (AT c 36)) := by
  unfold spec_BlackTime.f
  rw [l02Ok_val hi (okC_short h), fine_okC h, Option.bind_some, l02Density_val, hd']
  simp only [Option.bind_some, Bool.not_true, cond_false]
  rw [l02At_val h, Option.bind_some]
  exact least_so h hd' _ some
/-- a paper reaches by light x what it shows at x -/
theorem lm_self {c : Cv} {x : Nat} (hx : x ≤ 36) : ∃ k : Nat, lm c 0 (AT c (x : Int)) = some k ∧ k ≤ x := by
  cases hl : lm c 0 (AT c (x : Int)) with
  | none =>
    have := lm_none hl x (by omega)
    rw [hd0, Int.sub_zero] at this
    omega
  | some k =>
    refine ⟨k, rfl, ?_⟩
    apply Classical.byContradiction
    intro hh
    have := (lm_spec hl).2.2 x (by omega)
    rw [hd0, Int.sub_zero] at this
    omega

theorem mx_abs {n : Int} (h : -100000 ≤ n ∧ n ≤ 100000) : mx n (IntKind.wrap .i64 (0 - n)) = (n.natAbs : Int) := by
  unfold mx
  rw [w64 (n := 0 - n) (by omega) (by omega)]
  split <;> omega

theorem allScaled (gs : List Cv) (l k : Int) : (noScale gs l k).isNone = (List.range gs.length).all fun i => !(isN (scl (rdN gs (i : Int)) l k)) := by
  have := firstN_any (p := fun i => isN (scl (rdN gs (i : Int)) l k)) gs.length
  unfold noScale
  rw [← not_any_not (fun i : Nat => !(isN (scl (rdN gs (i : Int)) l k)))]
  simp only [Bool.not_not]
  rw [← this]
  cases firstN (fun i => isN (scl (rdN gs (i : Int)) l k)) 0 gs.length <;> rfl
theorem scO_code (c : Cv) (l k : Int) : ((scO c l k).2 == 0) = !(isN (scl c l k)) := by
  unfold scO
  cases scl c l k <;> rfl
end Go.Proofs.Ytofhnioboihbgaa
