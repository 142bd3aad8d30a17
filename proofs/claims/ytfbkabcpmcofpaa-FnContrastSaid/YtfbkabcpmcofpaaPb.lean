/- What the drawn scenes and fields are: readings of 0 to 60, a field of 24 bits; and the mean of a field, impl's and the specification's. -/
import Derived.Test.YtfbkabcpmcofpaaPa
import Derived.Test.YtfbkabcpmcofpaaF1
set_option linter.unusedVariables false
set_option linter.unusedSimpArgs false
namespace Go.Proofs.Ytfbkabcpmcofpaa
open Go.Proofs.Ytfbkabcpmcofpaa.G

def Scn (s : Vector Int 24) : Prop := ∀ i : Nat, i < 24 → 0 ≤ rdA s i ∧ rdA s i ≤ 60

theorem Scn.at {s : Vector Int 24} (h : Scn s) {i : Int} (h0 : 0 ≤ i) (h1 : i < 24) : 0 ≤ rdA s i ∧ rdA s i ≤ 60 := by
  obtain ⟨j, rfl⟩ := Int.eq_ofNat_of_zero_le h0
  exact h j (by omega)

theorem Scn.wr {s : Vector Int 24} (h : Scn s) {i x : Int} (h0 : 0 ≤ i) (h1 : i < 24) (hx0 : 0 ≤ x) (hx : x ≤ 60) : Scn (wrA s i x) := by
  intro j hj
  rw [rdA_wrA' s x h0 h1 (by omega)]
  split
  · exact ⟨hx0, hx⟩
  · exact h j hj

theorem drawn_ok {s : spec_l00Src} (hc : Bytes s.code) (h0 : 0 ≤ s.at_) (h1 : s.at_ ≤ 1000000) :
    Ok (spec_l06Drawn.f s) fun r => Scn r.1 ∧ r.2.code = s.code ∧ 0 ≤ r.2.at_ ∧ r.2.at_ ≤ s.at_ + 100 := by
  obtain ⟨code, p, d⟩ := s
  unfold spec_l06Drawn.f
  dsimp only at *
  refine Ok.let ?_
  refine Ok.bind (pick_ok 40 (by omega) hc h0 (by dsimp only; omega)) fun r6 hr6 => ?_
  dsimp only at hr6
  refine Ok.bind (pick_ok 21 (by omega) hc hr6.2.2.2.2.1 (by dsimp only; omega)) fun r9 hr9 => ?_
  dsimp only at hr9
  refine Ok.let ?_
  have e1 : IntKind.wrap .i64 (1 + r9.1) = 1 + r9.1 := w64 (by omega) (by omega)
  rw [e1]
  refine Ok.bind (Q := fun y => Scn y.2.2 ∧ 0 ≤ y.1 ∧ y.1 ≤ p + 60) ?_ fun y23 hy => ?_
  · refine Ok.loop (fun s => 0 ≤ s.1 ∧ s.1 ≤ 24 ∧ 0 ≤ s.2.1 ∧ s.2.1 ≤ p + 4 + 2 * s.1 ∧ Scn s.2.2.2) (fun s => (24 - s.1).toNat) ?_ ?_
    · dsimp only
      refine ⟨by omega, by omega, by omega, by omega, fun i hi => ?_⟩
      rw [rdA_zA]; omega
    · rintro ⟨i, at', seed', m⟩ ⟨i0, i1, a0, a1, hm⟩
      unfold spec_l06Drawn.b1
      dsimp only at *
      refine Ok.dif (fun h => ?_) fun h => Ok.some ⟨hm, a0, by dsimp only; omega⟩
      refine Ok.bind (pick_ok (1 + r9.1) (by omega) hc a0 (by dsimp only; omega)) fun r17 hr => ?_
      dsimp only at hr
      refine Ok.must (inB_iff.2 ⟨i0, by omega⟩) (Ok.let (Ok.let (Ok.some ?_)))
      have e2 : IntKind.wrap .i64 (i + 1) = i + 1 := w64 (by omega) (by omega)
      have e3 : IntKind.wrap .i64 (r6.1 + r17.1) = r6.1 + r17.1 := w64 (by omega) (by omega)
      have e4 : IntKind.wrap .i8 (r6.1 + r17.1) = r6.1 + r17.1 := w8 (by omega) (by omega)
      rw [e2, e3, e4]
      dsimp only
      exact ⟨⟨by omega, by omega, by omega, by omega, hm.wr i0 (by omega) (by omega) (by omega)⟩, by omega⟩
  obtain ⟨hm, a0, a1⟩ := hy
  refine Ok.bind (pick_ok 5 (by omega) hc a0 (by dsimp only; omega)) fun r26 hr => ?_
  dsimp only at hr
  refine Ok.bind (Q := fun y => Scn y.2.2 ∧ 0 ≤ y.1 ∧ y.1 ≤ p + 90) ?_ fun y hy => Ok.some ⟨hy.1, rfl, hy.2.1, by dsimp only; omega⟩
  refine Ok.loop (fun s => 0 ≤ s.1 ∧ s.1 ≤ 4 ∧ 0 ≤ s.2.1 ∧ s.2.1 ≤ p + 62 + 4 * (4 - s.1) ∧ Scn s.2.2.2) (fun s => s.1.toNat) ?_ ?_
  · dsimp only
    exact ⟨by omega, by omega, by omega, by omega, hm⟩
  · rintro ⟨k, at', seed', m⟩ ⟨i0, i1, b0, b1, hm⟩
    unfold spec_l06Drawn.b2
    dsimp only at *
    refine Ok.dif (fun h => ?_) fun h => Ok.some ⟨hm, b0, by dsimp only; omega⟩
    refine Ok.bind (pick_ok 24 (by omega) hc b0 (by dsimp only; omega)) fun r33 hr33 => ?_
    dsimp only at hr33
    refine Ok.bind (pick_ok 61 (by omega) hc hr33.2.2.2.2.1 (by dsimp only; omega)) fun r36 hr36 => ?_
    dsimp only at hr36
    refine Ok.must (inB_iff.2 ⟨hr33.1, by omega⟩) (Ok.let (Ok.let (Ok.some ?_)))
    have e2 : IntKind.wrap .i64 (k - 1) = k - 1 := w64 (by omega) (by omega)
    have e3 : IntKind.wrap .i8 r36.1 = r36.1 := w8 (by omega) (by omega)
    rw [e2, e3]
    dsimp only
    exact ⟨⟨by omega, by omega, by omega, by omega, hm.wr (by omega) (by omega) (by omega) (by omega)⟩, by omega⟩

theorem A2Scene_ok {code : List Int} (hc : Bytes code) : Ok (spec_A2Scene.f code) Scn := by
  unfold spec_A2Scene.f spec_l00From.f
  refine Ok.let (Ok.bind (drawn_ok (s := ⟨code, 0, 0⟩) hc (Int.le_refl _) (by simp)) fun r hr => Ok.some hr.1)

theorem A2Field_ok {code : List Int} (hc : Bytes code) : Ok (spec_A2Field.f code) fun a => 0 ≤ a ∧ a < 16777216 := by
  unfold spec_A2Field.f spec_l00From.f
  refine Ok.let (Ok.bind (pick_ok (s := ⟨code, 0, 0⟩) 16777216 (by omega) hc (Int.le_refl _) (by simp)) fun r hr => Ok.let (Ok.some ?_))
  rw [wu32 (by omega) (by omega)]
  omega

/-! ### The mean of a field -/

def cb (a : Int) (i : Nat) : Int := a / 2 ^ i % 2
noncomputable def meanOf (s : Vector Int 24) (a : Int) : Int := sumTo (fun i => cb a i * rdA s i) 24 / sumTo (cb a) 24

theorem cb_rng (a : Int) (i : Nat) : 0 ≤ cb a i ∧ cb a i ≤ 1 := by unfold cb; omega

theorem sumTo_bd {f : Nat → Int} (b : Int) {n : Nat} (h : ∀ i, i < n → 0 ≤ f i ∧ f i ≤ b) : 0 ≤ sumTo f n ∧ sumTo f n ≤ n * b := by
  refine ⟨sumTo_nonneg fun i hi => (h i hi).1, ?_⟩
  have := sumTo_le (f := f) (g := fun _ => b) (n := n) fun i hi => (h i hi).2
  rwa [sumTo_const] at this

theorem cnt_rng (a : Int) (i : Nat) : 0 ≤ sumTo (cb a) i ∧ sumTo (cb a) i ≤ i := by
  have := sumTo_bd 1 (f := cb a) (n := i) fun j _ => cb_rng a j
  omega

theorem prod_rng {a : Int} {s : Vector Int 24} (hs : Scn s) {i : Nat} (hi : i < 24) : 0 ≤ cb a i * rdA s i ∧ cb a i * rdA s i ≤ 60 * cb a i := by
  have h1 := cb_rng a i
  have h2 := hs i hi
  have h3 : cb a i = 0 ∨ cb a i = 1 := by omega
  rcases h3 with h3 | h3 <;> rw [h3] <;> omega

theorem sum_rng {a : Int} {s : Vector Int 24} (hs : Scn s) {i : Nat} (hi : i ≤ 24) : 0 ≤ sumTo (fun i => cb a i * rdA s i) i ∧ sumTo (fun i => cb a i * rdA s i) i ≤ 60 * sumTo (cb a) i := by
  refine ⟨sumTo_nonneg fun j hj => (prod_rng hs (by omega)).1, ?_⟩
  rw [← sumTo_mul]
  exact sumTo_le fun j hj => (prod_rng hs (by omega)).2

theorem cnt_pos {a : Int} (h0 : 0 < a) (h1 : a < 16777216) : 0 < sumTo (cb a) 24 := by
  have h2 := cnt_rng a 24
  refine Decidable.byContradiction fun he => ?_
  have hz := sumTo_zero (f := cb a) (n := 24) (fun i _ => (cb_rng a i).1) (by omega)
  have key : ∀ i : Nat, i ≤ 24 → a = 2 ^ i * (a / 2 ^ i) := by
    intro i
    induction i with
    | zero => intro _; simp
    | succ i ih =>
      intro hi
      have e := ih (by omega)
      have hc := hz i (by omega)
      unfold cb at hc
      have e2 : a / 2 ^ (i + 1) = a / 2 ^ i / 2 := by rw [Int.pow_succ, Int.ediv_ediv_of_nonneg (Int.le_of_lt (Int.pow_pos (by decide)))]
      rw [e2]
      have e3 : 2 * (a / 2 ^ i / 2) = a / 2 ^ i := by omega
      rw [Int.pow_succ, Int.mul_assoc, e3]
      exact e
  have := key 24 (by omega)
  have h3 : a / 2 ^ 24 = 0 := Int.ediv_eq_zero_of_lt (by omega) (by simpa using h1)
  rw [h3] at this
  omega

theorem mean_rng {a : Int} {s : Vector Int 24} (hs : Scn s) (h0 : 0 < a) (h1 : a < 16777216) : 0 ≤ meanOf s a ∧ meanOf s a ≤ 60 := by
  have h2 := cnt_pos h0 h1
  have h3 := sum_rng (a := a) hs (Nat.le_refl 24)
  unfold meanOf
  refine ⟨Int.ediv_nonneg h3.1 (Int.le_of_lt h2), ?_⟩
  exact Int.ediv_le_of_le_mul h2 h3.2

theorem bit_impl {a : Int} (h0 : 0 ≤ a) (h1 : a < 16777216) {i : Nat} (hi : i < 24) : impl_FieldMean_1.f i a = some (cb a i) := by
  unfold impl_FieldMean_1.f
  have e0 : decide ((0 : Int) ≤ i) = true := by simp
  have e1 : shR .u32 a i = a / 2 ^ i := by
    rw [shR_nn h0]
    have : min (Int.toNat (i : Int)) (IntKind.bits .u32) = i := by simp [IntKind.bits]; omega
    rw [this]
  have h2 := shR_rng (k := .u32) (n := i) h0
  rw [e0, e1, and32_1 (by rw [← e1]; exact h2.1) (by rw [← e1]; omega), w64 (by omega) (by omega)]
  rfl

theorem bit_spec {a : Int} (h0 : 0 ≤ a) (h1 : a < 16777216) {i : Int} (hi0 : 0 ≤ i) (hi : i < 24) :
    IntKind.wrap .i64 (Int.tmod (shR .u32 a (IntKind.wrap .u64 i)) 2) = cb a i.toNat := by
  rw [wu64 hi0 (by omega)]
  have e1 : shR .u32 a i = a / 2 ^ i.toNat := by
    rw [shR_nn h0]
    have : min (Int.toNat (i : Int)) (IntKind.bits .u32) = i.toNat := by simp [IntKind.bits]; omega
    rw [this]
  have h2 := shR_rng (k := .u32) (n := i) h0
  rw [tmod_nn h2.1, e1]
  have := cb_rng a i.toNat
  unfold cb at *
  exact w64 (by omega) (by omega)

theorem mean_impl {a : Int} {s : Vector Int 24} (hs : Scn s) (h0 : 0 < a) (h1 : a < 16777216) : impl_Scene_mean.f s (fun z => impl_FieldMean_1.f z a) = some (meanOf s a) := by
  unfold impl_Scene_mean.f
  have e : loopW (impl_Scene_mean.b1 s (fun z => impl_FieldMean_1.f z a)) (0, 0, 0) = some (sumTo (fun i => cb a i * rdA s i) 24, sumTo (cb a) 24) := by
    refine loopW_for (fun i => (sumTo (fun i => cb a i * rdA s i) i, sumTo (cb a) i, (i : Int))) (n := 24) (fun i hi => ?_) rfl rfl
    unfold impl_Scene_mean.b1
    dsimp only
    have g1 : decide ((i : Int) < 24) = true := by simp; omega
    have g2 : inB (i : Int) 24 = true := inB_iff.2 ⟨by omega, by omega⟩
    have r1 := hs i hi
    have r2 := cb_rng a i
    have r3 := prod_rng (a := a) hs hi
    have r4 := sum_rng (a := a) hs (Nat.le_of_lt hi)
    have r5 := cnt_rng a i
    have v1 : IntKind.wrap .i64 (rdA s i) = rdA s i := w64 (by omega) (by omega)
    have v2 : IntKind.wrap .i64 (cb a i * rdA s i) = cb a i * rdA s i := w64 (by omega) (by omega)
    have v3 : IntKind.wrap .i64 (sumTo (fun i => cb a i * rdA s i) i + cb a i * rdA s i) = sumTo (fun i => cb a i * rdA s i) i + cb a i * rdA s i := w64 (by omega) (by omega)
    have v4 : IntKind.wrap .i64 (sumTo (cb a) i + cb a i) = sumTo (cb a) i + cb a i := w64 (by omega) (by omega)
    have v5 : IntKind.wrap .i64 ((i : Int) + 1) = (i : Int) + 1 := w64 (by omega) (by omega)
    simp only [g1, g2, cond_true, bit_impl (Int.le_of_lt h0) h1 hi, Option.bind_some, v1, v2, v3, v4, v5]
    rfl
  rw [e]
  have h2 := cnt_pos h0 h1
  have h3 := sum_rng (a := a) hs (Nat.le_refl 24)
  have h4 := mean_rng hs h0 h1
  have hne : (!(sumTo (cb a) 24 == 0)) = true := by simp; omega
  dsimp only [Option.bind_some]
  rw [hne, tdiv_nn h3.1]
  show some _ = _
  rw [w64]
  · rfl
  · have := h4.1; unfold meanOf at this; omega
  · have := h4.2; unfold meanOf at this; omega

theorem counts_spec {a : Int} (h0 : 0 ≤ a) (h1 : a < 16777216) : Ok (spec_l06Counts.f a) fun v => ∀ i : Nat, i < 24 → rdA v i = cb a i := by
  unfold spec_l06Counts.f
  refine Ok.let (Ok.bind (Q := fun v => ∀ i : Nat, i < 24 → rdA v i = cb a i) ?_ fun v hv => Ok.some hv)
  refine Ok.loop (fun s => 0 ≤ s.1 ∧ s.1 ≤ 24 ∧ ∀ i : Nat, (i : Int) < s.1 → rdA s.2 i = cb a i) (fun s => (24 - s.1).toNat) ⟨by simp, by simp, fun i hi => by simp at hi; omega⟩ ?_
  rintro ⟨i, v⟩ ⟨i0, i1, hv⟩
  unfold spec_l06Counts.b1
  dsimp only at *
  refine Ok.dif (fun h => ?_) fun h => Ok.some fun j hj => hv j (by omega)
  refine Ok.must (by rw [wu64 i0 (by omega)]; simpa using i0) (Ok.must (inB_iff.2 ⟨i0, by omega⟩) (Ok.let (Ok.let (Ok.some ?_))))
  rw [bit_spec h0 h1 i0 h, w64 (by omega) (by omega)]
  dsimp only
  refine ⟨⟨by omega, by omega, fun j hj => ?_⟩, by omega⟩
  rw [rdA_wrA' v _ i0 (by omega) (by omega)]
  split
  · rename_i he; subst he; rfl
  · exact hv j (by omega)

theorem mean_spec {a : Int} {s v : Vector Int 24} (hs : Scn s) (h0 : 0 < a) (h1 : a < 16777216) (hv : ∀ i : Nat, i < 24 → rdA v i = cb a i) : spec_l06Mean.f s v = some (meanOf s a) := by
  unfold spec_l06Mean.f
  have e : loopW (spec_l06Mean.b1 s v) (0, 0, 0) = some (sumTo (fun i => cb a i * rdA s i) 24, sumTo (cb a) 24) := by
    refine loopW_for (fun i => (sumTo (fun i => cb a i * rdA s i) i, sumTo (cb a) i, (i : Int))) (n := 24) (fun i hi => ?_) rfl rfl
    unfold spec_l06Mean.b1
    dsimp only
    have g1 : decide ((i : Int) < 24) = true := by simp; omega
    have g2 : inB (i : Int) 24 = true := inB_iff.2 ⟨by omega, by omega⟩
    have r1 := hs i hi
    have r2 := cb_rng a i
    have r3 := prod_rng (a := a) hs hi
    have r4 := sum_rng (a := a) hs (Nat.le_of_lt hi)
    have r5 := cnt_rng a i
    have v1 : IntKind.wrap .i64 (rdA s i) = rdA s i := w64 (by omega) (by omega)
    have v2 : IntKind.wrap .i64 (cb a i * rdA s i) = cb a i * rdA s i := w64 (by omega) (by omega)
    have v3 : IntKind.wrap .i64 (sumTo (fun i => cb a i * rdA s i) i + cb a i * rdA s i) = sumTo (fun i => cb a i * rdA s i) i + cb a i * rdA s i := w64 (by omega) (by omega)
    have v4 : IntKind.wrap .i64 (sumTo (cb a) i + cb a i) = sumTo (cb a) i + cb a i := w64 (by omega) (by omega)
    have v5 : IntKind.wrap .i64 ((i : Int) + 1) = (i : Int) + 1 := w64 (by omega) (by omega)
    simp only [g1, g2, cond_true, hv i hi, Option.bind_some, v1, v2, v3, v4, v5]
    rfl
  rw [e]
  have h2 := cnt_pos h0 h1
  have h3 := sum_rng (a := a) hs (Nat.le_refl 24)
  have h4 := mean_rng hs h0 h1
  have hne : (!(sumTo (cb a) 24 == 0)) = true := by simp; omega
  dsimp only [Option.bind_some]
  rw [hne, tdiv_nn h3.1]
  show some _ = _
  rw [w64]
  · rfl
  · have := h4.1; unfold meanOf at this; omega
  · have := h4.2; unfold meanOf at this; omega

/-! ### Whether a scene is one -/

theorem isReading_ok (n : Int) : impl_isReading.f n = some (decide (0 ≤ n) && decide (n ≤ 60)) := by
  unfold impl_isReading.f impl_within.f
  by_cases h : 0 ≤ n <;> simp [h]
theorem l06Reading_ok (n : Int) : spec_l06Reading.f n = some (decide (0 ≤ n) && decide (n ≤ 60)) := by
  unfold spec_l06Reading.f spec_l00In.f
  by_cases h : 0 ≤ n <;> simp [h]

theorem l06Ok_ok {s : Vector Int 24} (hs : Scn s) : spec_l06Ok.f s = some true := by
  unfold spec_l06Ok.f
  have e : loopW (spec_l06Ok.b1 s) 0 = some (.inl ()) := by
    refine loopW_for (fun i => (i : Int)) (n := 24) (fun i hi => ?_) rfl rfl
    unfold spec_l06Ok.b1
    have g1 : decide ((i : Int) < 24) = true := by simp; omega
    have g2 : inB (i : Int) 24 = true := inB_iff.2 ⟨by omega, by omega⟩
    have r1 := hs i hi
    have v1 : IntKind.wrap .i64 (rdA s i) = rdA s i := w64 (by omega) (by omega)
    have v5 : IntKind.wrap .i64 ((i : Int) + 1) = (i : Int) + 1 := w64 (by omega) (by omega)
    have g3 : (decide (0 ≤ rdA s i) && decide (rdA s i ≤ 60)) = true := by simp; omega
    simp only [g1, g2, cond_true, v1, l06Reading_ok, g3, Option.bind_some, v5, Bool.not_true, cond_false]
    rfl
  rw [e]
  rfl

theorem ValidScene_ok {s : Vector Int 24} (hs : Scn s) : impl_ValidScene.f s = some true := by
  unfold impl_ValidScene.f slices_ContainsFunc_int8_int8.f slices_IndexFunc_int8_int8.f
  have e : loopW (slices_IndexFunc_int8_int8.b1 s.toList (fun z => impl_ValidScene_1.f z)) 0 = some (.inl ()) := by
    refine loopW_for (fun i => (i : Int)) (n := 24) (fun i hi => ?_) ?_ rfl
    · unfold slices_IndexFunc_int8_int8.b1
      have g1 : decide ((i : Int) < (s.toList.length : Int)) = true := by simp; omega
      have g2 : inB (i : Int) s.toList.length = true := inB_iff.2 ⟨by omega, by simp; omega⟩
      have r1 := hs i hi
      have r2 : rd (eI .i8) s.toList i = rdA s i := rfl
      have v1 : IntKind.wrap .i64 (rdA s i) = rdA s i := w64 (by omega) (by omega)
      have v5 : IntKind.wrap .i64 ((i : Int) + 1) = (i : Int) + 1 := w64 (by omega) (by omega)
      have g3 : (decide (0 ≤ rdA s i) && decide (rdA s i ≤ 60)) = true := by simp; omega
      simp only [g1, g2, cond_true, r2, impl_ValidScene_1.f, v1, isReading_ok, g3, Option.bind_some, v5, Bool.not_true, cond_false]
      rfl
    · unfold slices_IndexFunc_int8_int8.b1
      have g1 : decide (((24 : Nat) : Int) < (s.toList.length : Int)) = false := by simp
      simp only [g1, cond_false]
  rw [e]
  rfl

noncomputable def fmOf (s : Vector Int 24) (a : Int) : Int × Int := if a = 0 then (0, 4) else (meanOf s a, 0)

theorem shR24 {a : Int} (h0 : 0 ≤ a) (h1 : a < 16777216) : shR .u32 a 24 = 0 := by
  rw [shR_nn h0]
  exact Int.ediv_eq_zero_of_lt h0 (by simpa [IntKind.bits] using h1)

theorem FieldMean_impl {s : Vector Int 24} {a : Int} (hs : Scn s) (h0 : 0 ≤ a) (h1 : a < 16777216) : impl_FieldMean.f s a = some (fmOf s a) := by
  unfold impl_FieldMean.f fmOf
  rw [ValidScene_ok hs, shR24 h0 h1]
  by_cases h : a = 0
  · subst h; rfl
  · have hb : (a == 0) = false := by simpa using h
    simp only [Option.bind_some, Bool.not_true, cond_false, bne_self_eq_false, hb, mean_impl hs (by omega) h1, if_neg h]

theorem Field_spec {s : Vector Int 24} {a : Int} (hs : Scn s) (h0 : 0 ≤ a) (h1 : a < 16777216) : spec_l06Field.f s a = some (fmOf s a) := by
  unfold spec_l06Field.f fmOf
  rw [l06Ok_ok hs, shR24 h0 h1]
  by_cases h : a = 0
  · subst h; rfl
  · have hb : (a == 0) = false := by simpa using h
    obtain ⟨v, ev, hv⟩ := counts_spec h0 h1
    simp only [Option.bind_some, Bool.not_true, cond_false, bne_self_eq_false, hb, ev, mean_spec hs (by omega) h1 hv, if_neg h]

theorem fmOf_rng {s : Vector Int 24} {a : Int} (hs : Scn s) (h0 : 0 ≤ a) (h1 : a < 16777216) : (a = 0 ∧ fmOf s a = (0, 4)) ∨ (a ≠ 0 ∧ ∃ x, fmOf s a = (x, 0) ∧ 0 ≤ x ∧ x ≤ 60) := by
  unfold fmOf
  by_cases h : a = 0
  · exact .inl ⟨h, by rw [if_pos h]⟩
  · exact .inr ⟨h, _, by rw [if_neg h], (mean_rng hs (by omega) h1).1, (mean_rng hs (by omega) h1).2⟩
end Go.Proofs.Ytfbkabcpmcofpaa
