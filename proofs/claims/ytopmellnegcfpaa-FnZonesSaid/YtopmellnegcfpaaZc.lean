/- Fields off the scale, counts of zones, the best placement. -/
import Derived.Test.YtopmellnegcfpaaZb
set_option linter.unusedVariables false
set_option linter.unusedSimpArgs false
namespace Go.Proofs.Ytopmellnegcfpaa
open Go.Proofs.Ytopmellnegcfpaa.G

def lo (s : Vector Int 24) (p : impl_Placement) (j : Nat) : Bool := decide (zof p (rdA s j) < 0)
def hi (s : Vector Int 24) (p : impl_Placement) (j : Nat) : Bool := decide (11 ≤ zof p (rdA s j))

theorem lo_hi (s : Vector Int 24) (p : impl_Placement) (j : Nat) (h : lo s p j = true) : hi s p j = false := by
  unfold lo hi at *
  simp only [decide_eq_true_eq] at h
  simp; omega

theorem pow24 {i : Nat} (hi : i < 24) : 2 ^ i < 16777216 := by
  have : 2 ^ i < 2 ^ 24 := Nat.pow_lt_pow_right (by decide) hi
  simpa using this

theorem mk24 (f : Nat → Bool) {i : Nat} (hi : i ≤ 24) : mk f i < 16777216 := by
  have h1 := mk_lt f i
  have h2 : 2 ^ i ≤ 2 ^ 24 := Nat.pow_le_pow_right (by decide) hi
  have h3 : (2 : Nat) ^ 24 = 16777216 := by decide
  omega

theorem shl_one {i : Nat} (hi : i < 24) : shL .u32 1 (i : Int) = ((2 ^ i : Nat) : Int) := by
  unfold shL
  have e : min (Int.toNat (i : Int)) (IntKind.bits .u32) = i := by simp [IntKind.bits]; omega
  have h := pow24 hi
  rw [Int.one_mul, e]
  have e2 : (2 : Int) ^ i = ((2 ^ i : Nat) : Int) := by simp
  rw [e2]
  clear e e2
  generalize 2 ^ i = q at h ⊢
  exact wu32 (by omega) (by omega)

theorem or_step (f : Nat → Bool) {i : Nat} (hi : i < 24) : Go.bits .or .u32 ((mk f i : Nat) : Int) (shL .u32 1 (i : Int)) = ((mk f i ||| 2 ^ i : Nat) : Int) := by
  have h1 := mk24 f (Nat.le_of_lt hi)
  have h2 := pow24 hi
  rw [shl_one hi]
  exact u32_or_nat _ _ (by omega) (by omega)

theorem offScale_impl {s : Vector Int 24} {p : impl_Placement} (hs : Scn s) (hp : Plc p) : impl_Scene_offScale.f s p = some (((mk (lo s p) 24 : Nat) : Int), ((mk (hi s p) 24 : Nat) : Int)) := by
  unfold impl_Scene_offScale.f
  obtain ⟨v, ev, hv⟩ := zones_impl hs hp
  have ev' : impl_Scene_zones.f s ⟨p.Reading, p.Zone⟩ = some v := ev
  rw [ev']
  have e : loopW (impl_Scene_offScale.b1 v) (0, 0, 0) = some (((mk (lo s p) 24 : Nat) : Int), ((mk (hi s p) 24 : Nat) : Int)) := by
    refine loopW_for (fun i => (((mk (lo s p) i : Nat) : Int), ((mk (hi s p) i : Nat) : Int), (i : Int))) (n := 24) (fun i hi' => ?_) rfl rfl
    unfold impl_Scene_offScale.b1
    dsimp only
    have g1 : decide ((i : Int) < 24) = true := by simp; omega
    have g2 : inB (i : Int) 24 = true := inB_iff.2 ⟨by omega, by omega⟩
    have g3 : decide (0 ≤ (i : Int)) = true := by simp
    have v5 : IntKind.wrap .i64 ((i : Int) + 1) = (i : Int) + 1 := w64 (by omega) (by omega)
    simp only [g1, g2, g3, cond_true, hv i hi', Option.bind_some, v5]
    cases h1 : decide (zof p (rdA s i) < 0)
    · have hl : lo s p i = false := h1
      cases h2 : decide (11 ≤ zof p (rdA s i))
      · have hh : hi s p i = false := h2
        simp only [cond_false, mk, hl, hh]; rfl
      · have hh : hi s p i = true := h2
        simp only [cond_false, cond_true, or_step _ hi', mk, hl, hh]; rfl
    · have hl : lo s p i = true := h1
      have hh := lo_hi s p i hl
      simp only [cond_true, or_step _ hi', mk, hl, hh]; rfl
  rw [Option.bind_some, e]; rfl

theorem off_spec {s : Vector Int 24} {p : impl_Placement} (hs : Scn s) (hp : Plc p) : spec_l06Off.f s p = some (((mk (lo s p) 24 : Nat) : Int), ((mk (hi s p) 24 : Nat) : Int)) := by
  unfold spec_l06Off.f
  have e : loopW (spec_l06Off.b1 s p) (0, 0, 0) = some (((mk (lo s p) 24 : Nat) : Int), ((mk (hi s p) 24 : Nat) : Int)) := by
    refine loopW_for (fun i => (((mk (lo s p) i : Nat) : Int), ((mk (hi s p) i : Nat) : Int), (i : Int))) (n := 24) (fun i hi' => ?_) rfl rfl
    unfold spec_l06Off.b1
    dsimp only
    have hr := hs i hi'
    have g1 : decide ((i : Int) < 24) = true := by simp; omega
    have g2 : inB (i : Int) 24 = true := inB_iff.2 ⟨by omega, by omega⟩
    have g4 : IntKind.wrap .u64 (i : Int) = i := wu64 (by omega) (by omega)
    have g3 : decide (0 ≤ (i : Int)) = true := by simp
    have v5 : IntKind.wrap .i64 ((i : Int) + 1) = (i : Int) + 1 := w64 (by omega) (by omega)
    have zs : spec_l06Zone.f ⟨p.Reading, p.Zone⟩ (rdA s i) = some (zof p (rdA s i)) := zone_spec hp hr.1 hr.2
    simp only [g1, g2, g4, g3, cond_true, w64 (n := rdA s i) (by omega) (by omega), zs, Option.bind_some, v5]
    cases h1 : decide (zof p (rdA s i) < 0)
    · have hl : lo s p i = false := h1
      cases h2 : decide (11 ≤ zof p (rdA s i))
      · have hh : hi s p i = false := h2
        simp only [cond_false, mk, hl, hh, Option.bind_some]; rfl
      · have hh : hi s p i = true := h2
        simp only [cond_false, cond_true, or_step _ hi', mk, hl, hh, Option.bind_some]; rfl
    · have hl : lo s p i = true := h1
      have hh := lo_hi s p i hl
      have h2 : decide (11 ≤ zof p (rdA s i)) = false := hh
      simp only [cond_true, h2, cond_false, or_step _ hi', mk, hl, hh, Option.bind_some]; rfl
  rw [e]; rfl

theorem OffScale_ok {s : Vector Int 24} {p : impl_Placement} (hs : Scn s) (hp : Plc p) : impl_OffScale.f s p = some (((mk (lo s p) 24 : Nat) : Int), ((mk (hi s p) 24 : Nat) : Int), 0) := by
  unfold impl_OffScale.f
  have h1 : impl_placeCode.f s ⟨p.Reading, p.Zone⟩ = some 0 := placeCode_ok hs hp
  have h2 := offScale_impl (p := ⟨p.Reading, p.Zone⟩) hs hp
  rw [h1, h2]; rfl

/-! ### How many bits -/

theorem cellsOf_ok {m : Nat} (hm : m < 16777216) : impl_cellsOf.f m = some ((pc 24 m : Nat) : Int) := by
  unfold impl_cellsOf.f
  refine Ok.eq ?_
  refine Ok.bind (Q := fun y => y = ((pc 24 m : Nat) : Int)) ?_ fun y hy => Ok.some hy
  refine Ok.loop (fun (t : Int × Int) => ∃ k : Nat, t.1 = (k : Int) ∧ k < 16777216 ∧ 0 ≤ t.2 ∧ t.2 + ((pc 24 k : Nat) : Int) = ((pc 24 m : Nat) : Int)) (fun (t : Int × Int) => t.1.toNat) ⟨m, rfl, hm, by simp, by simp⟩ ?_
  rintro ⟨f, n⟩ ⟨k, rfl, hk, hn, he⟩
  unfold impl_cellsOf.b1
  dsimp only at *
  have hle : pc 24 m ≤ 24 := by rw [pc_bits]; exact cnt_le _ _
  refine Ok.bif (fun h => ?_) fun h => Ok.some ?_
  · have hk0 : 0 < k := by simp at h; omega
    refine Ok.let (Ok.let (Ok.some ?_))
    have e1 : (k : Int) - 1 = ((k - 1 : Nat) : Int) := by omega
    rw [wu32 (n := (k : Int) - 1) (by omega) (by omega), e1, u32_and_nat _ _ (by omega) (by omega), w64 (n := n + 1) (by omega) (by omega)]
    have hd := pc_drop 24 k hk0 (by simpa using hk)
    have hl : k &&& (k - 1) ≤ k - 1 := Nat.and_le_right
    exact ⟨⟨_, rfl, by omega, by dsimp only; omega, by dsimp only; omega⟩, by dsimp only; omega⟩
  · have hk0 : k = 0 := by simp at h; omega
    subst hk0
    rw [pc_zero] at he
    simpa using he

theorem size_ok {m : Nat} (hm : m < 16777216) : spec_l06Size.f m = some ((pc 24 m : Nat) : Int) := by
  unfold spec_l06Size.f
  refine Ok.eq ?_
  refine Ok.bind (Q := fun y => y = ((pc 24 m : Nat) : Int)) ?_ fun y hy => Ok.some hy
  refine Ok.loop (fun (t : Int × Int) => ∃ j k : Nat, t.1 = (k : Int) ∧ j ≤ 24 ∧ k < 2 ^ j ∧ 0 ≤ t.2 ∧ t.2 + ((pc j k : Nat) : Int) = ((pc 24 m : Nat) : Int)) (fun (t : Int × Int) => t.1.toNat) ⟨24, m, rfl, by omega, by simpa using hm, by simp, by simp⟩ ?_
  rintro ⟨f, n⟩ ⟨j, k, rfl, hj, hk, hn, he⟩
  unfold spec_l06Size.b1
  dsimp only at *
  have hle : pc 24 m ≤ 24 := by rw [pc_bits]; exact cnt_le _ _
  have hk24 : k < 16777216 := by
    have h2 : 2 ^ j ≤ 2 ^ 24 := Nat.pow_le_pow_right (by decide) hj
    have h3 : (2 : Nat) ^ 24 = 16777216 := by decide
    omega
  refine Ok.dif (fun h => ?_) fun h => Ok.some ?_
  · cases j with
    | zero => simp at hk; omega
    | succ j =>
      refine Ok.let (Ok.let (Ok.some ?_))
      have e1 : (k : Int).tmod 2 = ((k % 2 : Nat) : Int) := by rw [tmod_nn (by omega)]; omega
      have e2 : (k : Int).tdiv 2 = ((k / 2 : Nat) : Int) := by rw [tdiv_nn (by omega)]; omega
      rw [pc] at he
      rw [e1, e2, wu32 (n := ((k / 2 : Nat) : Int)) (by omega) (by omega), w64 (n := ((k % 2 : Nat) : Int)) (by omega) (by omega), w64 (n := n + ((k % 2 : Nat) : Int)) (by omega) (by omega)]
      refine ⟨⟨j, k / 2, rfl, by omega, by rw [Nat.pow_succ] at hk; omega, by dsimp only; omega, by dsimp only; omega⟩, by dsimp only; omega⟩
  · have hk0 : k = 0 := by omega
    subst hk0
    rw [pc_zero] at he
    simpa using he

/-- how many cells are off the scale -/
def offs (s : Vector Int 24) (p : impl_Placement) : Nat := cnt (lo s p) 24 + cnt (hi s p) 24

theorem cells_off (s : Vector Int 24) (p : impl_Placement) : impl_cellsOf.f (Go.bits .or .u32 ((mk (lo s p) 24 : Nat) : Int) ((mk (hi s p) 24 : Nat) : Int)) = some (offs s p : Int) := by
  have h1 := mk24 (lo s p) (Nat.le_refl 24)
  have h2 := mk24 (hi s p) (Nat.le_refl 24)
  rw [u32_or_nat _ _ (by omega) (by omega), mk_or, cellsOf_ok (mk24 _ (Nat.le_refl 24)), pc_mk, cnt_or (lo_hi s p)]; rfl
end Go.Proofs.Ytopmellnegcfpaa
