/- slices.Sort at int8, as the plain function of the sort's own text, for at most 24 elements. -/
import Derived.Test.YtopmellnegcfpaaTc
set_option linter.unusedVariables false
set_option linter.unusedSimpArgs false
namespace Go.Proofs.Ytopmellnegcfpaa
open Go.Proofs.Ytopmellnegcfpaa.G
open Go.Sort (swp ltInt partEqLoop scanUp scanDown bitsLen pdq Hint)

theorem partEq_rng (a : Nat) : ∀ (k i j : Nat) (d : Array Int), j + 1 - i = k → 1 ≤ i → i ≤ (partEqLoop ltInt a i j d).1 ∧ (partEqLoop ltInt a i j d).1 ≤ max i (j + 1) := by
  intro k
  induction k using Nat.strongRecOn with
  | _ k ih =>
    intro i j d hk hi
    rw [partEqLoop]
    have h1 := up_ge (fun x => !ltInt d[a]! x) d j _ i rfl
    have h3 : j < i → scanUp (fun x => !ltInt d[a]! x) d j i = i := fun h => by rw [scanUp, if_neg (by simp; omega)]
    generalize scanUp (fun x => !ltInt d[a]! x) d j i = i2 at *
    have h2 := down_le (fun x => ltInt d[a]! x) d i2 j
    generalize scanDown (fun x => ltInt d[a]! x) d i2 j = j2 at *
    have hmax : i2 ≤ max i (j + 1) := by
      by_cases hij : i ≤ j + 1
      · have := h1.2 hij; omega
      · have := h3 (by omega); omega
    split
    · exact ⟨h1.1, hmax⟩
    · rename_i hle
      rw [dif_pos (by omega)]
      have := ih (j2 - 1 + 1 - (i2 + 1)) (by omega) (i2 + 1) (j2 - 1) (swp d i2 j2) rfl (by omega)
      omega

theorem pdq_loop {n : Nat} (h24 : n ≤ 24) (rc : (n0_ : Nat) → (Vector Int n0_) → Int → Int → Int → Option ((Vector Int n0_))) (m : Nat)
    (hrc : ∀ (v : Vector Int n) (a b limit : Nat), a ≤ b → b ≤ n → b - a < m → limit ≤ 64 → Arr (rc n v (a : Int) (b : Int) (limit : Int)) (pdq ltInt v.toArray a b limit true true)) :
    ∀ (k a b limit : Nat) (wb wp : Bool) (v : Vector Int n), b - a = k → k ≤ m → a ≤ b → b ≤ n → limit ≤ 64 →
    Ok (loopW (slices_pdqsortOrdered_int8.b1 rc n) ((a : Int), (b : Int), (limit : Int), wb, wp, v)) fun y => ∃ v', y = .inr v' ∧ v'.toArray = pdq ltInt v.toArray a b limit wb wp := by
  intro k
  induction k using Nat.strongRecOn with
  | _ k ih =>
    intro a b limit wb wp v hk hkm hab hb hlim
    refine Ok.round fun L hL => ?_
    unfold slices_pdqsortOrdered_int8.b1
    dsimp only
    have e0 : IntKind.wrap .i64 ((b : Int) - (a : Int)) = ((b - a : Nat) : Int) := by rw [w64 (by omega) (by omega)]; omega
    rw [e0]
    refine Ok.let (Ok.dif (fun h => ?_) fun h => ?_)
    · obtain ⟨v2, e, h2⟩ := insertion_ok (a := a) (b := b) (by omega) hb v (by omega)
      rw [e, pdq, if_pos (by omega)]
      exact Ok.let (Ok.stop ⟨_, rfl, h2⟩)
    have hl12 : ¬ b - a ≤ 12 := by omega
    refine Ok.bif (fun hz => ?_) fun hz => ?_
    · obtain ⟨v2, e, h2⟩ := heap_ok (a := a) (b := b) (by omega) (by omega) hb v
      rw [e, pdq, if_neg hl12, if_pos (by simp at hz; omega)]
      exact Ok.let (Ok.stop ⟨_, rfl, h2⟩)
    have hlz : ¬ limit = 0 := by simp at hz; omega
    rw [pdq, if_neg hl12, if_neg hlz]
    refine Ok.bind (Q := fun y => y.1 = ((if (!wb) = true then limit - 1 else limit : Nat) : Int) ∧ y.2.toArray = (if (!wb) = true then Go.Sort.breakPatterns v.toArray a b else v.toArray)) ?_ fun y13 hy13 => ?_
    · refine Ok.bif (fun h1 => ?_) fun h1 => ?_
      · obtain ⟨v2, e, h2⟩ := break_ok (a := a) (b := b) (by omega) (by omega) (by omega) hb v
        rw [e, w_pred (by omega)]
        exact Ok.let (Ok.let (Ok.some ⟨by rw [if_pos h1]; dsimp only; omega, by rw [if_pos h1]; exact h2⟩))
      · exact Ok.some ⟨by rw [if_neg (by simp [h1])], by rw [if_neg (by simp [h1])]⟩
    obtain ⟨l1, v1⟩ := y13
    obtain ⟨hl1, hv1⟩ := hy13
    dsimp only at hl1 hv1 ⊢
    have hlim1 : (if (!wb) = true then limit - 1 else limit : Nat) ≤ 64 := by split <;> omega
    generalize (if (!wb) = true then limit - 1 else limit : Nat) = lim1 at *
    subst hl1
    rw [← hv1]
    obtain ⟨hc1, hc2⟩ := choose_ok (a := a) (b := b) (n := n) (by omega) (by omega) (by omega) hb v1
    have hc3 := Go.Sort.choosePivot_holds ltInt v1.toArray a b (by omega)
    rw [hc1]
    generalize Go.Sort.choosePivot ltInt v1.toArray a b = c at *
    refine Ok.let ?_
    dsimp only
    refine Ok.bind (Q := fun y => y.1 = ((if c.2 = .decreasing then b - 1 - (c.1 - a) else c.1 : Nat) : Int) ∧ y.2.1 = hc (if c.2 = .decreasing then .increasing else c.2) ∧ y.2.2.toArray = (if c.2 = .decreasing then Go.Sort.reverseRange v1.toArray a b else v1.toArray)) ?_ fun y24 hy24 => ?_
    · by_cases hd : c.2 = .decreasing
      · have hx : (hc c.2 == 2) = true := by rw [hd]; rfl
        rw [hx]
        obtain ⟨v2, e, h2⟩ := reverse_ok (a := a) (b := b) (by omega) (by omega) hb v1
        rw [cond_true, e]
        have e5 : IntKind.wrap .i64 (IntKind.wrap .i64 ((b : Int) - 1) - IntKind.wrap .i64 ((c.1 : Int) - (a : Int))) = ((b - 1 - (c.1 - a) : Nat) : Int) := by
          rw [w64 (n := (b : Int) - 1) (by omega) (by omega), w64 (n := (c.1 : Int) - (a : Int)) (by omega) (by omega), w64 (by omega) (by omega)]; omega
        rw [e5]
        exact Ok.let (Ok.let (Ok.some ⟨by rw [if_pos hd], by rw [if_pos hd]; rfl, by rw [if_pos hd]; exact h2⟩))
      · have hx : (hc c.2 == 2) = false := by
          cases hcc : c.2 <;> first | rfl | exact absurd hcc hd
        rw [hx]
        exact Ok.some ⟨by rw [if_neg hd], by rw [if_neg hd], by rw [if_neg hd]⟩
    obtain ⟨pv, hh, v2⟩ := y24
    obtain ⟨hpv, hhh, hv2⟩ := hy24
    dsimp only at hpv hhh hv2 ⊢
    have hpr : a ≤ (if c.2 = .decreasing then b - 1 - (c.1 - a) else c.1 : Nat) ∧ (if c.2 = .decreasing then b - 1 - (c.1 - a) else c.1 : Nat) < b := by split <;> omega
    generalize (if c.2 = .decreasing then b - 1 - (c.1 - a) else c.1 : Nat) = pvn at *
    generalize (if c.2 = .decreasing then Hint.increasing else c.2) = hn2 at *
    rw [← hv2]
    subst hpv; subst hhh
    have hinc : (hc hn2 == 1) = decide (hn2 = .increasing) := by cases hn2 <;> rfl
    rw [hinc]
    refine Ok.bind (Q := fun y => ∃ v3 : Vector Int n, v3.toArray = (if (wb && wp && decide (hn2 = .increasing)) = true then Go.Sort.partialInsertionSort ltInt v2.toArray a b else (v2.toArray, false)).1 ∧
      y = if (if (wb && wp && decide (hn2 = .increasing)) = true then Go.Sort.partialInsertionSort ltInt v2.toArray a b else (v2.toArray, false)).2 = true then Sum.inr v3 else Sum.inl v3) ?_ fun y hy => ?_
    · refine Ok.bind (Q := fun y => y = (wb && wp && decide (hn2 = .increasing))) (by cases wb <;> cases wp <;> exact ⟨_, rfl, rfl⟩) fun y34 hy34 => ?_
      subst hy34
      refine Ok.bif (fun h1 => ?_) fun h1 => ?_
      · rw [if_pos h1]
        refine Ok.bind (partial_ok (a := a) (b := b) (by omega) (by omega) (by omega) hb v2) fun r hr => ?_
        rw [← hr.1, ← hr.2]
        refine Ok.bif (fun h2 => ?_) fun h2 => ?_
        · exact Ok.some ⟨r.2, rfl, by rw [if_pos h2]⟩
        · exact Ok.some ⟨r.2, rfl, by rw [if_neg (by simp [h2])]⟩
      · rw [if_neg (by simp [h1])]
        exact Ok.some ⟨v2, rfl, rfl⟩
    obtain ⟨v3, hv3, rfl⟩ := hy
    generalize (if (wb && wp && decide (hn2 = .increasing)) = true then Go.Sort.partialInsertionSort ltInt v2.toArray a b else (v2.toArray, false)) = PI at *
    by_cases hpi : PI.2 = true
    · rw [if_pos hpi, if_pos hpi]
      exact Ok.stop ⟨v3, rfl, hv3⟩
    rw [if_neg hpi, if_neg hpi, ← hv3]
    show Ok (Option.bind _ _) _
    refine Ok.bind (Q := fun y => y = (decide (a > 0) && !ltInt v3.toArray[a - 1]! v3.toArray[pvn]!)) ?_ fun y46 hy46 => ?_
    · refine Ok.dif (fun h1 => ?_) fun h1 => ?_
      · have e6 : IntKind.wrap .i64 ((a : Int) - 1) = ((a - 1 : Nat) : Int) := by rw [w64 (by omega) (by omega)]; omega
        rw [e6, in_nat (show a - 1 < n by omega), in_nat (show pvn < n by omega), less_nat]
        refine Ok.must rfl (Ok.must rfl (Ok.let (Ok.some ?_)))
        have : a > 0 := by omega
        simp [this]
      · have : ¬ a > 0 := by omega
        exact Ok.some (by simp [this])
    subst hy46
    refine Ok.bif (fun h1 => ?_) fun h1 => ?_
    · rw [if_pos h1]
      refine Ok.bind (partitionEqual_ok (a := a) (b := b) (pv := pvn) (by omega) (by omega) hb (by omega) v3) fun r hr => ?_
      have hrng := partEq_rng a _ (a + 1) (b - 1) (swp v3.toArray a pvn) rfl (by omega)
      have hrng' : a < (Go.Sort.partitionEqual ltInt v3.toArray a b pvn).1 ∧ (Go.Sort.partitionEqual ltInt v3.toArray a b pvn).1 ≤ b := by
        unfold Go.Sort.partitionEqual; omega
      obtain ⟨r1, r2⟩ := r
      obtain ⟨hr1, hr2⟩ := hr
      dsimp only at hr1 hr2 ⊢
      generalize Go.Sort.partitionEqual ltInt v3.toArray a b pvn = PE at *
      obtain ⟨mid, d4⟩ := PE
      dsimp only at *
      subst hr1; subst hr2
      rw [dif_pos hrng']
      refine Ok.go ?_
      rw [hL]
      exact ih (b - mid) (by omega) mid b lim1 wb wp r2 rfl (by omega) (by omega) hb hlim1
    · rw [if_neg (by simp [h1])]
      refine Ok.bind (partition_ok (a := a) (b := b) (pv := pvn) (by omega) (by omega) hb (by omega) v3) fun r hr => ?_
      have hrng := Go.Sort.partition_holds ltInt Go.Sort.swo_ltInt v3.toArray a b pvn hpr.1 hpr.2 (by simpa using hb)
      obtain ⟨r1, r2, r3⟩ := r
      obtain ⟨hr1, hr2, hr3⟩ := hr
      have hq1 := hrng.1
      have hq2 := hrng.2.1
      clear hrng
      dsimp only at hr1 hr2 hr3 ⊢
      generalize Go.Sort.partition ltInt v3.toArray a b pvn = PP at *
      obtain ⟨mid, ap, d4⟩ := PP
      dsimp only at *
      subst hr1; subst hr2; subst hr3
      rw [dif_pos ⟨hq1, hq2⟩]
      have f1 : IntKind.wrap .i64 ((mid : Int) - (a : Int)) = ((mid - a : Nat) : Int) := by rw [w64 (by omega) (by omega)]; omega
      have f2 : IntKind.wrap .i64 ((b : Int) - (mid : Int)) = ((b - mid : Nat) : Int) := by rw [w64 (by omega) (by omega)]; omega
      have f3 : IntKind.wrap .i64 (((b - a : Nat) : Int).tdiv 8) = (((b - a) / 8 : Nat) : Int) := by rw [tdiv_nn (by omega), w64 (by omega) (by omega)]; omega
      rw [f1, f2, f3, w_succ (by omega)]
      refine Ok.let (Ok.let (Ok.let (Ok.dif (fun h2 => ?_) fun h2 => ?_)))
      · rw [if_pos (by omega)]
        obtain ⟨v5, e5, h5⟩ := hrc r3 a mid lim1 hq1 (by omega) (by omega) hlim1
        rw [e5]
        refine Ok.let (Ok.let (Ok.let (Ok.go ?_)))
        rw [hL, ← h5]
        have ed : decide ((((b - a) / 8 : Nat) : Int) ≤ ((mid - a : Nat) : Int)) = decide (mid - a ≥ (b - a) / 8) := by simp; omega
        rw [ed]
        exact ih (b - (mid + 1)) (by omega) (mid + 1) b lim1 _ _ v5 rfl (by omega) (by omega) hb hlim1
      · rw [if_neg (by omega)]
        obtain ⟨v5, e5, h5⟩ := hrc r3 (mid + 1) b lim1 (by omega) hb (by omega) hlim1
        rw [e5]
        refine Ok.let (Ok.let (Ok.go ?_))
        rw [hL, ← h5]
        have ed : decide ((((b - a) / 8 : Nat) : Int) ≤ ((b - mid : Nat) : Int)) = decide (b - mid ≥ (b - a) / 8) := by simp; omega
        rw [ed]
        exact ih (mid - a) (by omega) a mid lim1 _ _ v5 rfl (by omega) (by omega) (by omega) hlim1

theorem pdq_fuel {n : Nat} (h24 : n ≤ 24) : ∀ (K m : Nat), m < K → ∀ (v : Vector Int n) (a b limit : Nat), a ≤ b → b ≤ n → b - a ≤ m → limit ≤ 64 → Arr (slices_pdqsortOrdered_int8.fuel K n v (a : Int) (b : Int) (limit : Int)) (pdq ltInt v.toArray a b limit true true)
  | 0, m, hm => by omega
  | K + 1, m, hm => by
    intro v a b limit hab hb hk hl
    rw [slices_pdqsortOrdered_int8.fuel]
    unfold slices_pdqsortOrdered_int8.step
    refine Ok.bind (pdq_loop h24 _ m (fun v a b limit h1 h2 h3 h4 => ?_) (b - a) a b limit true true v rfl hk hab hb hl) fun y hy => ?_
    · exact pdq_fuel h24 K (m - 1) (by omega) v a b limit h1 h2 (by omega) h4
    · obtain ⟨v', rfl, hv⟩ := hy
      exact ⟨v', rfl, hv⟩

/-- slices.Sort of 24 readings: the sorted list of them. -/
theorem sort24 (v : Vector Int 24) : Ok (slices_Sort_int8_int8.f 24 v) fun r => r.toArray.toList = v.toList.mergeSort (fun x y => decide (x ≤ y)) := by
  unfold slices_Sort_int8_int8.f
  refine Ok.let ?_
  have e : IntKind.wrap .u64 ((24 : Nat) : Int) = 24 := wu64 (by omega) (by omega)
  rw [e, len24]
  refine Ok.let ?_
  have hb : bitsLen 24 ≤ 64 := by decide +kernel
  refine Ok.bind (pdq_fuel (n := 24) (Nat.le_refl 24) 64 24 (by omega) v 0 24 (bitsLen 24) (by omega) (Nat.le_refl _) (by omega) hb) fun r hr => Ok.some ?_
  have hs := Go.Sort.sortInt v.toList
  unfold Go.Sort.sort at hs
  have hsz : v.toList.toArray = v.toArray := rfl
  rw [hsz] at hs
  have h24 : v.toArray.size = 24 := by simp
  rw [h24] at hs
  rw [hr]; exact hs
end Go.Proofs.Ytopmellnegcfpaa
