/- Grades in their order: the scales and the sort, by the program and by the reference; FnExactOrderGrades' law. Conditions: lengths that a slice may have, numbers that an int16 may be. -/
import Derived.Test.YtofhnioboihbgaaCb
set_option linter.unusedVariables false
set_option linter.unusedSimpArgs false
namespace Go.Proofs.Ytofhnioboihbgaa
open Go.Proofs.Ytofhnioboihbgaa.G

/-! ### Scales -/

/-- the least place with a density, counted from -200 -/
def fp (c : Cv) (y : Int) : Nat := (firstN (fun k => decide (y ≤ AT c ((k : Int) - 200))) 0 401).getD 401
theorem fp_spec (c : Cv) (y : Int) : fp c y ≤ 401 ∧ (∀ j : Nat, j < fp c y → AT c ((j : Int) - 200) < y) ∧ (fp c y < 401 → y ≤ AT c ((fp c y : Int) - 200)) := by
  have hs := @firstN_spec (fun k => decide (y ≤ AT c ((k : Int) - 200))) 401 0
  unfold fp
  cases hf : firstN (fun k => decide (y ≤ AT c ((k : Int) - 200))) 0 401 with
  | none =>
    rw [hf] at hs
    refine ⟨Nat.le_refl _, fun j hj => ?_, fun h => ?_⟩
    · have := hs j (by omega) (by simpa using hj)
      simpa using this
    · simp at h
  | some k =>
    rw [hf] at hs
    obtain ⟨h1, h2, h3, h4⟩ := hs
    refine ⟨by simp only [Option.getD_some]; omega, fun j hj => ?_, fun h => ?_⟩
    · have := h4 j (by omega) (by simpa using hj)
      simpa using this
    · simpa using h3
theorem firstPlace_val {c : Cv} (h : Fine c) (y : Int) : impl_Curve_firstPlace.f c y = some ((fp c y : Int) - 200) := by
  obtain ⟨h1, h2, h3⟩ := fp_spec c y
  unfold impl_Curve_firstPlace.f
  rw [loopW_for (bd := impl_Curve_firstPlace.b1 c y) (fun i => (i : Int) - 200) (n := fp c y) (y := (fp c y : Int) - 200) (fun i hi => ?_) ?_ ?_]
  · rfl
  · simp only [impl_Curve_firstPlace.b1]
    by_cases e : fp c y = 401
    · have : ¬ ((fp c y : Int) - 200 ≤ 200) := by omega
      simp [this]
    · have g1 : (fp c y : Int) - 200 ≤ 200 := by omega
      have g2 : ¬ AT c ((fp c y : Int) - 200) < y := by have := h3 (by omega); omega
      simp only [g1, decide_true, cond_true, Curve_at_val h, Option.bind_some, g2, decide_false, cond_false]
  · rfl
  · have g1 : (i : Int) - 200 ≤ 200 := by omega
    have g2 := h2 i hi
    simp only [impl_Curve_firstPlace.b1, g1, decide_true, cond_true, Curve_at_val h, Option.bind_some, g2]
    rw [w64 (n := (i : Int) - 200 + 1) (by omega) (by omega)]
    congr 2
    omega
theorem l02For_val {c : Cv} (h : Fine c) (y : Int) : spec_l02For.f c y = some ((fp c y : Int) - 200) := by
  obtain ⟨h1, h2, h3⟩ := fp_spec c y
  unfold spec_l02For.f
  rw [loopW_for (bd := spec_l02For.b1 c y) (fun i => (i : Int) - 200) (n := fp c y) (y := (fp c y : Int) - 200) (fun i hi => ?_) ?_ ?_]
  · rfl
  · simp only [spec_l02For.b1]
    by_cases e : fp c y = 401
    · have : ¬ ((fp c y : Int) - 200 ≤ 200) := by omega
      simp [this]
    · have g1 : (fp c y : Int) - 200 ≤ 200 := by omega
      have g2 : ¬ AT c ((fp c y : Int) - 200) < y := by have := h3 (by omega); omega
      simp only [g1, decide_true, cond_true, l02At_val h, Option.bind_some, g2, decide_false, cond_false]
  · rfl
  · have g1 : (i : Int) - 200 ≤ 200 := by omega
    have g2 := h2 i hi
    simp only [spec_l02For.b1, g1, decide_true, cond_true, l02At_val h, Option.bind_some, g2]
    rw [w64 (n := (i : Int) - 200 + 1) (by omega) (by omega)]
    congr 2
    omega

/-- the scale of a paper -/
def scl (c : Cv) (light dark : Int) : Option Int := if fp c (light + 1) = 0 ∨ fp c dark = 401 then none else some ((fp c dark : Int) - (fp c (light + 1) : Int) + 1)
theorem scl_bd {c : Cv} {l k s : Int} (h : scl c l k = some s) : -1000 ≤ s ∧ s ≤ 1000 := by
  unfold scl at h
  split at h
  · cases h
  · cases h
    have := (fp_spec c (l + 1)).1
    have := (fp_spec c k).1
    omega
def isN (o : Option Int) : Bool := match o with | none => true | some _ => false
def gD (o : Option Int) : Int := match o with | none => 0 | some x => x
theorem scale_val {c : Cv} (h : Fine c) {l k : Int} (hl : dens l = true) : impl_Curve_scale.f c l k = some (match scl c l k with | some s => (s, 0) | none => (0, 6)) := by
  have := dens_in hl
  have p1 := (fp_spec c (l + 1)).1
  have p2 := (fp_spec c k).1
  unfold impl_Curve_scale.f scl
  rw [w64 (n := l + 1) (by omega) (by omega), firstPlace_val h, firstPlace_val h]
  simp only [Option.bind_some]
  rw [w64 (n := (fp c (l + 1) : Int) - 200 - 1) (by omega) (by omega)]
  unfold impl_isPlace.f
  simp only [within_val, Option.bind_some]
  by_cases e1 : fp c (l + 1) = 0
  · have g : decide ((-200 : Int) ≤ (fp c (l + 1) : Int) - 200 - 1) = false := decide_eq_false (by omega)
    rw [g, if_pos (.inl e1)]; rfl
  · have g : decide ((-200 : Int) ≤ (fp c (l + 1) : Int) - 200 - 1) = true := decide_eq_true (by omega)
    have g2 : decide ((fp c (l + 1) : Int) - 200 - 1 ≤ 200) = true := decide_eq_true (by omega)
    have g3 : decide ((-200 : Int) ≤ (fp c k : Int) - 200) = true := decide_eq_true (by omega)
    rw [g, g2, g3]
    by_cases e2 : fp c k = 401
    · have g4 : decide ((fp c k : Int) - 200 ≤ 200) = false := decide_eq_false (by omega)
      rw [g4, if_pos (.inr e2)]; rfl
    · have g4 : decide ((fp c k : Int) - 200 ≤ 200) = true := decide_eq_true (by omega)
      rw [g4, if_neg (by rintro (h | h); exact e1 h; exact e2 h)]
      simp only [Bool.and_self, Bool.not_true, cond_false, Option.bind_some]
      rw [w64 (by omega) (by omega)]
      congr 2
      omega
theorem ExposureFor_val {c : Cv} (hi : In16 c) (hs : Short c) (ho : okC c = true) {k : Int} (hk : dens k = true) : spec_ExposureFor.f c k = some (if fp c k = 401 then (0, 6) else ((fp c k : Int) - 200, 0)) := by
  have p2 := (fp_spec c k).1
  unfold spec_ExposureFor.f spec_l02Dense.f
  rw [l02Ok_val hi hs, ho, l02Density_val, hk]
  simp only [Option.bind_some, Bool.not_true, cond_false, bne_self_eq_false]
  rw [l02For_val (okC_fine ho)]
  simp only [Option.bind_some]
  by_cases e2 : fp c k = 401
  · have g4 : decide ((200 : Int) < (fp c k : Int) - 200) = true := decide_eq_true (by omega)
    rw [g4, if_pos e2]; rfl
  · have g4 : decide ((200 : Int) < (fp c k : Int) - 200) = false := decide_eq_false (by omega)
    rw [g4, if_neg e2]; rfl
theorem l05Scale_val {c : Cv} (hi : In16 c) (hs : Short c) (ho : okC c = true) {l k : Int} (hl : dens l = true) (hk : dens k = true) : spec_l05Scale.f c l k = some (match scl c l k with | some s => (s, true) | none => (0, false)) := by
  have h := okC_fine ho
  obtain ⟨p1, p2, p3⟩ := fp_spec c (l + 1)
  have p4 := (fp_spec c k).1
  unfold spec_l05Scale.f scl
  rw [ExposureFor_val hi hs ho hk]
  simp only [Option.bind_some]
  by_cases e2 : fp c k = 401
  · rw [if_pos e2, if_pos (.inr e2)]; rfl
  · rw [if_neg e2]
    simp only [bne_self_eq_false, cond_false]
    rw [loopW_for (bd := spec_l05Scale.b1 c l ((fp c k : Int) - 200, 0)) (fun i => 200 - (i : Int)) (n := 401 - fp c (l + 1)) (y := if fp c (l + 1) = 0 then .inl () else .inr ((fp c k : Int) - (fp c (l + 1) : Int) + 1, true)) (fun i hi => ?_) ?_ ?_]
    · by_cases e1 : fp c (l + 1) = 0
      · rw [if_pos e1, if_pos (.inl e1)]; rfl
      · rw [if_neg e1, if_neg (by rintro (h | h); exact e1 h; exact e2 h)]; rfl
    · simp only [spec_l05Scale.b1]
      by_cases e1 : fp c (l + 1) = 0
      · have : ¬ ((-200 : Int) ≤ 200 - ((401 - fp c (l + 1) : Nat) : Int)) := by omega
        rw [decide_eq_false this, if_pos e1]; rfl
      · have g1 : (-200 : Int) ≤ 200 - ((401 - fp c (l + 1) : Nat) : Int) := by omega
        have e9 : (200 : Int) - ((401 - fp c (l + 1) : Nat) : Int) = ((fp c (l + 1) - 1 : Nat) : Int) - 200 := by omega
        have g2 := p2 (fp c (l + 1) - 1) (by omega)
        rw [decide_eq_true g1, if_neg e1, l02At_val h]
        simp only [cond_true, Option.bind_some]
        rw [e9, decide_eq_true (by omega)]
        simp only [cond_true]
        rw [w64 (by omega) (by omega)]
        congr 5
        omega
    · rfl
    · have g1 : (-200 : Int) ≤ 200 - (i : Int) := by omega
      have g3 := p3 (by omega)
      have g4 := AT_mono h (x := (fp c (l + 1) : Int) - 200) (y := 200 - (i : Int)) (by omega)
      have g2 : ¬ AT c (200 - (i : Int)) ≤ l := by omega
      simp only [spec_l05Scale.b1, g1, decide_true, cond_true, l02At_val h, Option.bind_some, g2, decide_false, cond_false]
      rw [w64 (n := 200 - (i : Int) - 1) (by omega) (by omega), show (200 : Int) - (i : Int) - 1 = 200 - ((i + 1 : Nat) : Int) by omega]

/-! ### The order -/

/-- a list of the first n numbers of a function -/
def lst (n : Nat) (f : Nat → Int) : List Int := (List.range n).map f
theorem lst_len (n : Nat) (f : Nat → Int) : (lst n f).length = n := by simp [lst]
theorem lst_rd {n : Nat} (f : Nat → Int) {i : Nat} (h : i < n) : rd (eI .i64) (lst n f) (i : Int) = f i := by
  rw [rd_ofNat (by rw [lst_len]; exact h)]; simp [lst]
theorem lst_ext {n : Nat} {f g : Nat → Int} (h : ∀ j, j < n → f j = g j) : lst n f = lst n g := by
  unfold lst
  exact List.map_congr_left fun j hj => h j (List.mem_range.1 hj)
theorem lst_set {n : Nat} (f : Nat → Int) (i : Nat) (x : Int) : (lst n f).set i x = lst n (fun j => if j = i then x else f j) := by
  apply List.ext_getElem
  · simp [lst]
  · intro j h1 h2
    simp only [lst, List.getElem_set, List.getElem_map, List.getElem_range]
    by_cases e : i = j
    · subst e; simp
    · have : ¬ j = i := fun h => e h.symm
      simp [e, this]
theorem lst_app (n : Nat) (f : Nat → Int) (x : Int) : lst n f ++ [x] = lst (n + 1) (fun j => if j = n then x else f j) := by
  unfold lst
  rw [List.range_succ, List.map_append]
  congr 1
  · exact List.map_congr_left fun j hj => by have := List.mem_range.1 hj; simp; omega
  · simp
def ovec (n : Nat) (f : Nat → Int) : Vector Int n := Vector.ofFn fun j : Fin n => f j.val
theorem ovec_rd {n : Nat} (f : Nat → Int) {i : Nat} (h : i < n) : rdA (ovec n f) (i : Int) = f i := rdA_ofFn _ h
theorem ovec_ext {n : Nat} {f g : Nat → Int} (h : ∀ j, j < n → f j = g j) : ovec n f = ovec n g := vec_ext fun j hj => by rw [ovec_rd _ hj, ovec_rd _ hj, h j hj]
theorem ovec_set {n : Nat} (f : Nat → Int) {i : Nat} (x : Int) (hi : i < n) : wrA (ovec n f) (i : Int) x = ovec n (fun j => if j = i then x else f j) := vec_ext fun j hj => by
  rw [rdA_wrA _ _ _ _ hi, ovec_rd _ hj, ovec_rd _ hj]
theorem ovec_list (n : Nat) (f : Nat → Int) : (ovec n f).toList = lst n f := by
  apply List.ext_getElem
  · simp [lst]
  · intro j h1 h2
    simp [ovec, lst]
theorem vecOf_lst (n : Nat) (f : Nat → Int) : vecOf (lst n f) = ovec (lst n f).length f := vec_ext fun j hj => by
  rw [ovec_rd _ hj]
  rw [lst_len] at hj
  simp [vecOf, rdA, lst, hj, List.getD_eq_getElem?_getD]

/-- how many places number i goes to the front -/
def cnt (S : Int → Int) (o : Nat → Int) (i : Nat) : Nat := (firstN (fun t => !decide (S (o (i - 1 - t)) < S i)) 0 i).getD i
theorem cnt_spec (S : Int → Int) (o : Nat → Int) (i : Nat) : cnt S o i ≤ i ∧ (∀ t, t < cnt S o i → S (o (i - 1 - t)) < S i) ∧ (cnt S o i < i → ¬ S (o (i - 1 - cnt S o i)) < S i) := by
  have hs := @firstN_spec (fun t => !decide (S (o (i - 1 - t)) < S i)) i 0
  unfold cnt
  cases hf : firstN (fun t => !decide (S (o (i - 1 - t)) < S i)) 0 i with
  | none =>
    rw [hf] at hs
    refine ⟨Nat.le_refl _, fun j hj => ?_, fun h => ?_⟩
    · have := hs j (by omega) (by simpa using hj)
      simpa using this
    · simp at h
  | some k =>
    rw [hf] at hs
    obtain ⟨h1, h2, h3, h4⟩ := hs
    refine ⟨by simp only [Option.getD_some]; omega, fun j hj => ?_, fun h => ?_⟩
    · have := h4 j (by omega) (by simpa using hj)
      simpa using this
    · simpa using h3
def insF (S : Int → Int) (o : Nat → Int) (i : Nat) : Nat → Int := fun j => if j < i - cnt S o i then o j else if j = i - cnt S o i then (i : Int) else if j ≤ i then o (j - 1) else o j
/-- the order of the first i numbers, the others behind them -/
def oS (S : Int → Int) : Nat → Nat → Int
  | 0 => fun j => (j : Int)
  | i + 1 => insF S (oS S i) i
theorem oS_in (S : Int → Int) : ∀ i, (∀ j, i ≤ j → oS S i j = (j : Int)) ∧ ∀ j, j < i → 0 ≤ oS S i j ∧ oS S i j < (i : Int)
  | 0 => ⟨fun j _ => rfl, fun j hj => by omega⟩
  | i + 1 => by
    obtain ⟨h1, h2⟩ := oS_in S i
    have hc := (cnt_spec S (oS S i) i).1
    refine ⟨fun j hj => ?_, fun j hj => ?_⟩
    · show insF S (oS S i) i j = _
      unfold insF
      rw [if_neg (by omega), if_neg (by omega), if_neg (by omega)]
      exact h1 j (by omega)
    · show 0 ≤ insF S (oS S i) i j ∧ insF S (oS S i) i j < _
      unfold insF
      split
      · have := h2 j (by omega); omega
      · split
        · omega
        · split
          · have := h2 (j - 1) (by omega); omega
          · omega

theorem inB_of {z : Int} {n : Nat} (h1 : 0 ≤ z) (h2 : z < n) : inB z n = true := inB_iff.2 ⟨h1, h2⟩

/-- the sort's steps: number i is brought to its place -/
theorem impl_ins {S : Int → Int} {cmp : Int → Int → Option Int} {n : Nat} (hn : n ≤ 1000) (hcmp : ∀ x y : Int, 0 ≤ x → x < n → 0 ≤ y → y < n → ∃ r, cmp x y = some r ∧ decide (r < 0) = decide (S y < S x)) {i : Nat} (hi : i < n) :
    loopW (slices_insertionSortCmpFunc_int64.b2 n 0 cmp) ((i : Int), ovec n (oS S i)) = some (ovec n (oS S (i + 1))) := by
  obtain ⟨o1, o2⟩ := oS_in S i
  obtain ⟨c1, c2, c3⟩ := cnt_spec S (oS S i) i
  let g : Nat → Nat → Int := fun t j => if j < i - t then oS S i j else if j = i - t then (i : Int) else if j ≤ i then oS S i (j - 1) else oS S i j
  have hr : ∀ j, j < n → 0 ≤ oS S i j ∧ oS S i j < n := fun j hj => by
    by_cases e : j < i
    · have := o2 j e; omega
    · rw [o1 j (by omega)]; omega
  have body : ∀ t, t < i → ∃ r, cmp (rdA (ovec n (g t)) ((i - t : Nat) : Int)) (rdA (ovec n (g t)) ((i - t - 1 : Nat) : Int)) = some r ∧ decide (r < 0) = decide (S (oS S i (i - 1 - t)) < S i) := fun t ht => by
    rw [ovec_rd _ (by omega), ovec_rd _ (by omega)]
    have e1 : g t (i - t) = (i : Int) := by simp only [g]; rw [if_neg (by omega), if_pos trivial]
    have e2 : g t (i - t - 1) = oS S i (i - 1 - t) := by simp only [g]; rw [if_pos (by omega)]; congr 1; omega
    rw [e1, e2]
    have := hr (i - 1 - t) (by omega)
    exact hcmp _ _ (by omega) (by omega) this.1 this.2
  rw [loopW_for (bd := slices_insertionSortCmpFunc_int64.b2 n 0 cmp) (fun t => (((i - t : Nat) : Int), ovec n (g t))) (n := cnt S (oS S i) i) (y := ovec n (oS S (i + 1))) (fun t ht => ?_) ?_ ?_]
  · have hlast : ovec n (g (cnt S (oS S i) i)) = ovec n (oS S (i + 1)) := rfl
    simp only [slices_insertionSortCmpFunc_int64.b2]
    by_cases e : cnt S (oS S i) i = i
    · have : ¬ ((0 : Int) < ((i - cnt S (oS S i) i : Nat) : Int)) := by omega
      rw [decide_eq_false this, hlast]; rfl
    · have g1 : (0 : Int) < ((i - cnt S (oS S i) i : Nat) : Int) := by omega
      have e9 : IntKind.wrap .i64 (((i - cnt S (oS S i) i : Nat) : Int) - 1) = ((i - cnt S (oS S i) i - 1 : Nat) : Int) := by rw [w64 (by omega) (by omega)]; omega
      obtain ⟨r, r1, r2⟩ := body (cnt S (oS S i) i) (by omega)
      rw [decide_eq_true g1, inB_ofNat (show i - cnt S (oS S i) i < n by omega), e9, inB_ofNat (show i - cnt S (oS S i) i - 1 < n by omega), r1]
      simp only [cond_true, Option.bind_some]
      rw [r2, decide_eq_false (c3 (by omega)), hlast]
      rfl
  · have : g 0 = oS S i := by
      funext j
      simp only [g, Nat.sub_zero]
      by_cases e1 : j < i
      · rw [if_pos e1]
      · rw [if_neg e1]
        by_cases e2 : j = i
        · rw [if_pos e2, e2, o1 i (Nat.le_refl _)]
        · rw [if_neg e2, if_neg (by omega)]
    simp only [Nat.sub_zero, this]
  · have hti : t < i := by omega
    have g1 : (0 : Int) < ((i - t : Nat) : Int) := by omega
    have e9 : IntKind.wrap .i64 (((i - t : Nat) : Int) - 1) = ((i - t - 1 : Nat) : Int) := by rw [w64 (by omega) (by omega)]; omega
    obtain ⟨r, r1, r2⟩ := body t hti
    have b1 := inB_ofNat (show i - t < n by omega)
    have b2 := inB_ofNat (show i - t - 1 < n by omega)
    simp only [slices_insertionSortCmpFunc_int64.b2]
    rw [decide_eq_true g1, b1, e9, b2, r1]
    simp only [cond_true, Option.bind_some]
    rw [r2, decide_eq_true (c2 t ht)]
    simp only [cond_true]
    rw [ovec_rd _ (show i - t - 1 < n by omega), ovec_rd _ (show i - t < n by omega), ovec_set _ _ (show i - t < n by omega), ovec_set _ _ (show i - t - 1 < n by omega)]
    have e1 : g t (i - t) = (i : Int) := by simp only [g]; rw [if_neg (by omega), if_pos trivial]
    have e2 : g t (i - t - 1) = oS S i (i - t - 1) := by simp only [g]; rw [if_pos (by omega)]
    rw [e1, e2, show i - (t + 1) = i - t - 1 by omega]
    congr 3
    apply ovec_ext
    intro j hj
    simp only [g]
    by_cases q1 : j = i - t - 1
    · rw [if_pos q1, if_neg (by omega), if_pos (by omega)]
    · rw [if_neg q1]
      by_cases q2 : j = i - t
      · rw [if_pos q2, if_neg (by omega), if_neg (by omega), if_pos (by omega)]
        congr 1; omega
      · rw [if_neg q2]
        by_cases q3 : j < i - t
        · rw [if_pos q3, if_pos (by omega)]
        · rw [if_neg q3, if_neg q2, if_neg (show ¬ j < i - (t + 1) by omega), if_neg (show ¬ j = i - (t + 1) by omega)]
theorem impl_sort {S : Int → Int} {cmp : Int → Int → Option Int} {n : Nat} (hn : n < 20) (hcmp : ∀ x y : Int, 0 ≤ x → x < n → 0 ≤ y → y < n → ∃ r, cmp x y = some r ∧ decide (r < 0) = decide (S y < S x)) :
    slices_SortStableFunc_int64_int64.f n (ovec n fun j => (j : Int)) cmp = some (ovec n (oS S n)) := by
  unfold slices_SortStableFunc_int64_int64.f slices_stableCmpFunc_int64.f
  rw [loopW_for (bd := slices_stableCmpFunc_int64.b1 n (n : Int) cmp) (fun _ => (0, 20, ovec n fun j => (j : Int))) (n := 0) (y := (0, ovec n fun j => (j : Int))) (fun i hi => by omega) ?_ ?_]
  · simp only [Option.bind_some]
    have hins : slices_insertionSortCmpFunc_int64.f n (ovec n fun j => (j : Int)) 0 (n : Int) cmp = some (ovec n (oS S n)) := by
      unfold slices_insertionSortCmpFunc_int64.f
      rw [w64 (n := 0 + 1) (by omega) (by omega)]
      simp only [Option.bind_some]
      have h01 : ovec n (fun j => (j : Int)) = ovec n (oS S 1) := by
        apply ovec_ext
        intro j hj
        show _ = insF S (oS S 0) 0 j
        unfold insF
        have : cnt S (oS S 0) 0 = 0 := by have := (cnt_spec S (oS S 0) 0).1; omega
        rw [this]
        by_cases e : j = 0
        · subst e; simp
        · rw [if_neg (by omega), if_neg (by omega), if_neg (by omega)]; rfl
      rw [h01]
      by_cases e0 : n = 0
      · subst e0
        rw [loopW_for (bd := slices_insertionSortCmpFunc_int64.b1 0 0 (0 : Nat) cmp) (fun _ => (0 + 1, ovec 0 (oS S 1))) (n := 0) (y := ovec 0 (oS S 1)) (fun i hi => by omega) ?_ ?_]
        · simp only [Option.bind_some]
          congr 1
        · rfl
        · rfl
      · rw [loopW_for (bd := slices_insertionSortCmpFunc_int64.b1 n 0 (n : Int) cmp) (fun i => (((i + 1 : Nat) : Int), ovec n (oS S (i + 1)))) (n := n - 1) (y := ovec n (oS S n)) (fun i hi => ?_) ?_ ?_]
        · rfl
        · simp only [slices_insertionSortCmpFunc_int64.b1]
          rw [show n - 1 + 1 = n by omega]
          simp
        · rfl
        · have h1 : decide (((i + 1 : Nat) : Int) < (n : Int)) = true := decide_eq_true (by omega)
          simp only [slices_insertionSortCmpFunc_int64.b1, h1, cond_true]
          rw [impl_ins (S := S) (by omega) hcmp (show i + 1 < n by omega)]
          simp only [Option.bind_some]
          rw [wsucc (n := n) (by omega) (by omega)]
    rw [hins]
    simp only [Option.bind_some]
    rw [loopW_for (bd := slices_stableCmpFunc_int64.b2 n (n : Int) cmp) (fun _ => (20, ovec n (oS S n))) (n := 0) (y := ovec n (oS S n)) (fun i hi => by omega) ?_ ?_]
    · rfl
    · simp only [slices_stableCmpFunc_int64.b2]
      rw [decide_eq_false (by omega)]; rfl
    · rfl
  · simp only [slices_stableCmpFunc_int64.b1]
    rw [decide_eq_false (by omega)]; rfl
  · rfl
end Go.Proofs.Ytofhnioboihbgaa
