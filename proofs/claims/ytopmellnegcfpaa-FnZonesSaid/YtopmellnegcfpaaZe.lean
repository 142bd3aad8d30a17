/- FnZones's law, joined: what its Go text computes is true for all bytes. -/
import Derived.Test.YtopmellnegcfpaaZd
set_option linter.unusedVariables false
set_option linter.unusedSimpArgs false
namespace Go.Proofs.Ytopmellnegcfpaa
open Go.Proofs.Ytopmellnegcfpaa.G

theorem A2Placement_ok {code : List Int} (hc : Bytes code) : Ok (spec_A2Placement.f code) Plc := by
  unfold spec_A2Placement.f spec_l00From.f
  refine Ok.let (Ok.bind (pick_ok (s := ⟨code, 0, 0⟩) 61 (by omega) hc (Int.le_refl _) (by simp)) fun r hr => ?_)
  dsimp only at hr
  refine Ok.bind (pick_ok (s := ⟨code, r.2.at_, r.2.seed⟩) 11 (by omega) hc hr.2.2.2.2.1 (by dsimp only; omega)) fun r2 hr2 => ?_
  dsimp only at hr2
  rw [w8 (n := r.1) (by omega) (by omega), w8 (n := r2.1) (by omega) (by omega)]
  exact Ok.some ⟨by dsimp only; omega, by dsimp only; omega, by dsimp only; omega, by dsimp only; omega⟩

theorem isZone_ok {z : Int} (h0 : 0 ≤ z) (h1 : z ≤ 10) : impl_isZone.f z = some true := by
  unfold impl_isZone.f impl_within.f
  have g2 : decide (0 ≤ z) = true := by simpa using h0
  have g3 : decide (z ≤ 10) = true := by simpa using h1
  rw [g2, g3]; rfl
theorem l00In_zone {z : Int} (h0 : 0 ≤ z) (h1 : z ≤ 10) : spec_l00In.f z 0 10 = some true := by
  unfold spec_l00In.f
  have g2 : decide (0 ≤ z) = true := by simpa using h0
  have g3 : decide (z ≤ 10) = true := by simpa using h1
  rw [g2, g3]; rfl

theorem PlaceFor_ok {R Z : Int} (hp : Plc ⟨R, Z⟩) : impl_PlaceFor.f R Z = some (⟨R, Z⟩, 0) := by
  unfold Plc at hp
  dsimp only at hp
  unfold impl_PlaceFor.f
  have g1 : (decide (0 ≤ R) && decide (R ≤ 60)) = true := by simp; omega
  rw [isReading_ok, g1, isZone_ok hp.2.2.1 hp.2.2.2, w8 (n := R) (by omega) (by omega), w8 (n := Z) (by omega) (by omega)]; rfl

theorem shr_bit (f : Nat → Bool) {i : Nat} (hi : i < 24) : (Int.tmod (shR .u32 ((mk f 24 : Nat) : Int) (i : Int)) 2 == 1) = f i := by
  have h := mk24 f (Nat.le_refl 24)
  have e : min (Int.toNat (i : Int)) (IntKind.bits .u32) = i := by simp [IntKind.bits]; omega
  rw [tmod_nn (shR_rng (by omega)).1, shR_nn (by omega), e, ← mk_odd f hi]
  have e2 : ((mk f 24 : Nat) : Int) / 2 ^ i % 2 = ((mk f 24 / 2 ^ i % 2 : Nat) : Int) := by simp
  rw [e2]
  rcases Nat.mod_two_eq_zero_or_one (mk f 24 / 2 ^ i) with h | h <;> rw [h] <;> rfl

theorem own_loop {s : Vector Int 24} {p : impl_Placement} (hs : Scn s) (hp : Plc p) {v : Vector Int 24} (hv : Zon s p v) (c d : Int) :
    Ok (loopW (laws_FnZones.b1 (v, c) (((mk (lo s p) 24 : Nat) : Int), ((mk (hi s p) 24 : Nat) : Int), d)) (0, 0, 0, zA 11))
      fun y => ∃ a : Int × Int × Vector Int 11, y = .inl a ∧ Own11 s p a.2.2 24 ∧ a.1 = ((cnt (lo s p) 24 : Nat) : Int) ∧ a.2.1 = ((cnt (hi s p) 24 : Nat) : Int) := by
  refine Ok.loop (fun (t : Int × Int × Int × Vector Int 11) => ∃ n : Nat, n ≤ 24 ∧ t.2.2.1 = (n : Int) ∧ Own11 s p t.2.2.2 n ∧ t.1 = ((cnt (lo s p) n : Nat) : Int) ∧ t.2.1 = ((cnt (hi s p) n : Nat) : Int)) (fun (t : Int × Int × Int × Vector Int 11) => (24 - t.2.2.1).toNat)
    ⟨0, by omega, rfl, fun k hk => by rw [rdA_zA]; rfl, rfl, rfl⟩ ?_
  rintro ⟨b, a, i, w⟩ ⟨n, hn, rfl, hw, rfl, rfl⟩
  unfold laws_FnZones.b1
  dsimp only at *
  have cl := cnt_le (lo s p) n
  have ch := cnt_le (hi s p) n
  refine Ok.dif (fun h => ?_) fun h => Ok.some ?_
  · have hn' : n < 24 := by omega
    have hr := hs n hn'
    have hz := zof_rng hp hr.1 hr.2
    refine Ok.must (inB_iff.2 ⟨by omega, h⟩) ?_
    rw [hv n hn', w64 (n := zof p (rdA s n)) (by omega) (by omega), wu64 (n := (n : Int)) (by omega) (by omega), shr_bit _ hn', shr_bit _ hn']
    have g0 : decide (0 ≤ (n : Int)) = true := by simp
    have c1 : lo s p n = decide (zof p (rdA s n) < 0) := rfl
    have c2 : hi s p n = decide (10 < zof p (rdA s n)) := by unfold hi; simp; omega
    rw [w64 (n := (n : Int) + 1) (by omega) (by omega), g0]
    refine Ok.let ?_
    rw [← c1, ← c2]
    refine Ok.bind (Q := fun y => y = false) ⟨false, by simp, rfl⟩ fun y hy => ?_
    subst hy
    refine Ok.let (Ok.bif (fun h1 => ?_) fun h1 => ?_)
    · rw [w64 (n := ((cnt (lo s p) n : Nat) : Int) + 1) (by omega) (by omega)]
      have hh := lo_hi s p n h1
      have h1' : zof p (rdA s n) < 0 := of_decide_eq_true h1
      exact Ok.let (Ok.let (Ok.some ⟨⟨n + 1, by omega, by dsimp only; omega, hw.same (.inl h1'), by simp [cnt, h1], by simp [cnt, hh]⟩, by dsimp only; omega⟩))
    · refine Ok.let (Ok.bif (fun h2 => ?_) fun h2 => ?_)
      · rw [w64 (n := ((cnt (hi s p) n : Nat) : Int) + 1) (by omega) (by omega)]
        have h2' : 11 ≤ zof p (rdA s n) := of_decide_eq_true h2
        exact Ok.let (Ok.let (Ok.some ⟨⟨n + 1, by omega, by dsimp only; omega, hw.same (.inr h2'), by simp [cnt, h1], by simp [cnt, h2]⟩, by dsimp only; omega⟩))
      · have h1' : ¬ zof p (rdA s n) < 0 := of_decide_eq_false h1
        have h2' : ¬ 11 ≤ zof p (rdA s n) := of_decide_eq_false h2
        have hr := hw.rng (k := zof p (rdA s n)) (by omega) (by omega)
        refine Ok.must (inB_iff.2 ⟨by omega, by omega⟩) (Ok.must (inB_iff.2 ⟨by omega, by omega⟩) ?_)
        rw [w64 (n := rdA w (zof p (rdA s n)) + 1) (by omega) (by omega)]
        exact Ok.let (Ok.let (Ok.some ⟨⟨n + 1, by omega, by dsimp only; omega, hw.step (by omega) (by omega), by simp [cnt, h1], by simp [cnt, h2]⟩, by dsimp only; omega⟩))
  · have : n = 24 := by omega
    subst this
    exact ⟨_, rfl, hw, rfl, rfl⟩

theorem step_loop {p : impl_Placement} (hp : Plc p) : loopW (laws_FnZones.b2 p) 0 = some (.inl ()) := by
  refine Ok.eq ?_
  refine Ok.loop (fun (t : Int) => 0 ≤ t ∧ t ≤ 58) (fun (t : Int) => (58 - t).toNat) ⟨by simp, by simp⟩ ?_
  rintro r ⟨r0, r1⟩
  unfold laws_FnZones.b2
  refine Ok.dif (fun h => ?_) fun h => Ok.some rfl
  have z1 := zof_rng hp r0 (by omega : r ≤ 60)
  rw [w64 (n := r + 3) (by omega) (by omega), w64 (n := r + 1) (by omega) (by omega)]
  rw [show impl_ZoneOf.f ⟨p.Reading, p.Zone⟩ r = some (zof p r, 0) from ZoneOf_ok hp r0 (by omega), show impl_ZoneOf.f ⟨p.Reading, p.Zone⟩ (r + 3) = some (zof p (r + 3), 0) from ZoneOf_ok hp (by omega) (by omega),
    show impl_ZoneOf.f ⟨p.Reading, p.Zone⟩ (r + 1) = some (zof p (r + 1), 0) from ZoneOf_ok hp (by omega) (by omega)]
  refine Ok.let (Ok.let (Ok.let ?_))
  rw [w64 (n := zof p r + 1) (by omega) (by omega)]
  have e1 : zof p (r + 3) = zof p r + 1 := by unfold zof; omega
  have e2 : ¬ zof p (r + 1) < zof p r := by unfold zof; omega
  have e3 : ¬ zof p r + 1 < zof p (r + 1) := by unfold zof; omega
  refine Ok.bind (Q := fun y => y = false) ⟨false, by simp [e1, e2, e3], rfl⟩ fun y hy => ?_
  subst hy
  exact Ok.let (Ok.some ⟨⟨by omega, by omega⟩, by omega⟩)

theorem best_loop {s : Vector Int 24} (hs : Scn s) {b : impl_Placement × Int × Int} (hb : Best s b) : loopW (laws_FnZones.b3 s b) 0 = some (.inl ()) := by
  refine Ok.eq ?_
  refine Ok.loop (fun (t : Int) => 0 ≤ t ∧ t ≤ 61) (fun (t : Int) => (61 - t).toNat) ⟨by simp, by simp⟩ ?_
  rintro r ⟨r0, r1⟩
  unfold laws_FnZones.b3
  refine Ok.dif (fun h => ?_) fun h => Ok.some rfl
  rw [w8 (n := r) (by omega) (by omega), w64 (n := r + 1) (by omega) (by omega)]
  refine Ok.bind (CountZones_ok hs (plc5 r0 h)) fun c hc => ?_
  obtain ⟨_, c1, c2, c3⟩ := hc
  obtain ⟨b1, b2, b3, b4, b5, b6⟩ := hb
  have hq := b6 r r0 h
  have hle := offs_le s ⟨r, 5⟩
  have e : IntKind.wrap .i64 (c.2.1 + c.2.2.1) = (offs s ⟨r, 5⟩ : Int) := by
    rw [c1, c2]
    unfold offs at *
    rw [w64 (by omega) (by omega)]; omega
  rw [e, w64 (n := b.1.Reading) (by omega) (by omega), c3]
  refine Ok.bind (Q := fun y => y = false) ⟨false, ?_, rfl⟩ fun y hy => ?_
  · have e1 : ¬ (offs s ⟨r, 5⟩ : Int) < b.2.1 := by omega
    by_cases e2 : (offs s ⟨r, 5⟩ : Int) = b.2.1
    · have e3 : ¬ r < b.1.Reading := by have := hq.2 e2.symm; omega
      simp [e1, e2, e3]
    · have e4 : ((offs s ⟨r, 5⟩ : Int) == b.2.1) = false := by simpa using e2
      simp [e1, e4]
  · subst hy
    exact Ok.let (Ok.some ⟨⟨by omega, by omega⟩, by omega⟩)

theorem a2At_ok {more : List Int} (h2 : Bytes more) : Ok (laws_a2At.f more 0 11) fun v => 0 ≤ v ∧ v ≤ 10 := by
  unfold laws_a2At.f
  refine Ok.bind (Q := fun y => y = false → 0 < more.length) ?_ fun y hy => Ok.bif (fun _ => Ok.some ⟨by omega, by omega⟩) fun h => ?_
  · refine Ok.dif (fun h => Ok.some (fun h => by cases h)) fun h => Ok.some fun _ => by omega
  · have hl := hy h
    refine Ok.must (inB_iff.2 ⟨by omega, by omega⟩) (Ok.must (by simp) (Ok.let (Ok.some ?_)))
    have hb := rd_byte h2 (i := 0) (by omega) (by omega)
    rw [w64 (n := rd (eI .u8) more 0) (by omega) (by omega), tmod_nn hb.1]
    omega

noncomputable def sameOf (R Z z : Int) : impl_Placement × Int := if 0 ≤ R + 3 * (z - Z) ∧ R + 3 * (z - Z) ≤ 60 then (⟨R + 3 * (z - Z), z⟩, 0) else (⟨0, 0⟩, 6)

theorem Same_impl {R Z z : Int} (hp : Plc ⟨R, Z⟩) (h0 : 0 ≤ z) (h1 : z ≤ 10) : impl_SamePlacing.f ⟨R, Z⟩ z = some (sameOf R Z z) := by
  have hp' := hp
  unfold Plc at hp'
  dsimp only at hp'
  unfold impl_SamePlacing.f sameOf
  simp only [w64 (n := R) (by omega) (by omega), w64 (n := Z) (by omega) (by omega), w64 (n := z - Z) (by omega) (by omega), w64 (n := 3 * (z - Z)) (by omega) (by omega), w64 (n := R + 3 * (z - Z)) (by omega) (by omega), isPlacement_ok hp, isZone_ok h0 h1, isReading_ok, Option.bind_some, Bool.not_true, cond_false]
  by_cases h : 0 ≤ R + 3 * (z - Z) ∧ R + 3 * (z - Z) ≤ 60
  · have g : (decide (0 ≤ R + 3 * (z - Z)) && decide (R + 3 * (z - Z) ≤ 60)) = true := by simp; omega
    rw [g, if_pos h, w8 (n := R + 3 * (z - Z)) (by omega) (by omega), w8 (n := z) (by omega) (by omega)]; rfl
  · have g : (decide (0 ≤ R + 3 * (z - Z)) && decide (R + 3 * (z - Z) ≤ 60)) = false := by simp; omega
    rw [g, if_neg h]; rfl

theorem Same_spec {R Z z : Int} (hp : Plc ⟨R, Z⟩) (h0 : 0 ≤ z) (h1 : z ≤ 10) : spec_SamePlacing.f ⟨R, Z⟩ z = some (sameOf R Z z) := by
  have hp' := hp
  unfold Plc at hp'
  dsimp only at hp'
  unfold spec_SamePlacing.f sameOf
  simp only [w64 (n := R) (by omega) (by omega), w64 (n := Z) (by omega) (by omega), w64 (n := z - Z) (by omega) (by omega), w64 (n := 3 * (z - Z)) (by omega) (by omega), w64 (n := R + 3 * (z - Z)) (by omega) (by omega), l06Placement_ok hp, l00In_zone h0 h1, l06Reading_ok, Option.bind_some, Bool.not_true, cond_false]
  by_cases h : 0 ≤ R + 3 * (z - Z) ∧ R + 3 * (z - Z) ≤ 60
  · have g : (decide (0 ≤ R + 3 * (z - Z)) && decide (R + 3 * (z - Z) ≤ 60)) = true := by simp; omega
    rw [g, if_pos h, w8 (n := R + 3 * (z - Z)) (by omega) (by omega), w8 (n := z) (by omega) (by omega)]; rfl
  · have g : (decide (0 ≤ R + 3 * (z - Z)) && decide (R + 3 * (z - Z) ≤ 60)) = false := by simp; omega
    rw [g, if_neg h]; rfl

/-! ### Settings -/

def Stg (x : impl_Setting) : Prop := 0 ≤ x.Shutter ∧ x.Shutter ≤ 45 ∧ 0 ≤ x.Aperture ∧ x.Aperture ≤ 30 ∧ 0 ≤ x.Speed ∧ x.Speed ≤ 21

theorem A2Setting_ok {code : List Int} (hc : Bytes code) : Ok (spec_A2Setting.f code) Stg := by
  unfold spec_A2Setting.f spec_l00From.f spec_l01Drawn.f
  refine Ok.let (Ok.bind (Q := fun r => Stg r.1) ?_ fun r hr => Ok.some hr)
  dsimp only
  refine Ok.bind (pick_ok (s := ⟨code, 0, 0⟩) 46 (by omega) hc (Int.le_refl _) (by simp)) fun r hr => ?_
  dsimp only at hr
  refine Ok.bind (pick_ok (s := ⟨code, r.2.at_, r.2.seed⟩) 31 (by omega) hc hr.2.2.2.2.1 (by dsimp only; omega)) fun r2 hr2 => ?_
  dsimp only at hr2
  refine Ok.bind (pick_ok (s := ⟨code, r2.2.at_, r2.2.seed⟩) 22 (by omega) hc hr2.2.2.2.2.1 (by dsimp only; omega)) fun r3 hr3 => ?_
  dsimp only at hr3
  rw [w8 (n := r.1) (by omega) (by omega), w8 (n := r2.1) (by omega) (by omega), w8 (n := r3.1) (by omega) (by omega)]
  exact Ok.some ⟨by dsimp only; omega, by dsimp only; omega, by dsimp only; omega, by dsimp only; omega, by dsimp only; omega, by dsimp only; omega⟩

theorem ValidSetting_ok {x : impl_Setting} (h : Stg x) : impl_ValidSetting.f x = some true := by
  unfold Stg at h
  unfold impl_ValidSetting.f impl_isShutter.f impl_within.f
  rw [w64 (n := x.Shutter) (by omega) (by omega), w64 (n := x.Aperture) (by omega) (by omega), w64 (n := x.Speed) (by omega) (by omega)]
  have g1 : decide (0 ≤ x.Shutter) = true := by simp; omega
  have g2 : decide (x.Shutter ≤ 45) = true := by simp; omega
  have g3 : decide (0 ≤ x.Aperture) = true := by simp; omega
  have g4 : decide (x.Aperture ≤ 30) = true := by simp; omega
  have g5 : decide (0 ≤ x.Speed) = true := by simp; omega
  have g6 : decide (x.Speed ≤ 21) = true := by simp; omega
  rw [g1, g2, g3, g4, g5, g6]; rfl

theorem more_total (x : impl_Setting) (t : Int) : Ok (impl_Setting_more.f x t) fun _ => True := by
  unfold impl_Setting_more.f impl_within.f
  refine Ok.let (Ok.let (Ok.bind (Q := fun _ => True) ?_ fun r _ => Ok.bif (fun _ => Ok.some trivial) fun _ => Ok.some trivial))
  exact Ok.dif (fun _ => Ok.let (Ok.some trivial)) fun _ => Ok.some trivial

theorem Exposure_ok {R Z : Int} (hp : Plc ⟨R, Z⟩) : impl_ExposureThirds.f ⟨R, Z⟩ = some (3 * (Z - 5), 0) ∧ impl_Placement_exposure.f ⟨R, Z⟩ = some (3 * (Z - 5)) := by
  have hp' := hp
  unfold Plc at hp'
  dsimp only at hp'
  have e : impl_Placement_exposure.f ⟨R, Z⟩ = some (3 * (Z - 5)) := by
    unfold impl_Placement_exposure.f
    simp only [w64 (n := Z) (by omega) (by omega), w64 (n := Z - 5) (by omega) (by omega), w64 (n := 3 * (Z - 5)) (by omega) (by omega), Option.bind_some]
  refine ⟨?_, e⟩
  unfold impl_ExposureThirds.f
  simp only [isPlacement_ok hp, e, Option.bind_some, Bool.not_true, cond_false]

theorem zones_true (code more : List Int) (h1 : Bytes code) (h2 : Bytes more) : laws_FnZones.f code more = some true := by
  refine Ok.eq ?_
  unfold laws_FnZones.f laws_a2Long.f
  refine Ok.bind (Q := fun r => True) ?_ fun r _ => Ok.bif (fun _ => Ok.some rfl) fun hr0 => ?_
  · exact Ok.dif (fun h => Ok.some trivial) fun h => Ok.let (Ok.some trivial)
  refine Ok.bind (A2Scene_ok h1) fun s hs => Ok.bind (A2Placement_ok h2) fun p hp => ?_
  obtain ⟨R, Z⟩ := p
  have hp' := hp
  unfold Plc at hp'
  dsimp only at hp' ⊢
  rw [w64 (n := R) (by omega) (by omega), w64 (n := Z) (by omega) (by omega), ZoneOf_ok hp hp'.1 hp'.2.1]
  refine Ok.let (Ok.bind (ZonesOf_impl hs hp) fun r18 h18 => Ok.bind (ZonesOf_spec hs hp) fun r23 h23 => Ok.bind (CountZones_ok hs hp) fun r28 h28 => ?_)
  rw [OffScale_ok hs hp, PlaceFor_ok hp]
  refine Ok.let (Ok.let ?_)
  obtain ⟨v18, c18⟩ := r18
  obtain ⟨v23, c23⟩ := r23
  obtain ⟨h18a, h18b⟩ := h18
  obtain ⟨h23a, h23b⟩ := h23
  dsimp only at h18a h18b h23a h23b ⊢
  subst h18b; subst h23b
  have ev : v18 = v23 := h18a.eq h23a fun _ => rfl
  subst ev
  obtain ⟨o28, b28, a28, e28⟩ := h28
  have hand : Go.bits .and .u32 ((mk (lo s ⟨R, Z⟩) 24 : Nat) : Int) ((mk (hi s ⟨R, Z⟩) 24 : Nat) : Int) = 0 := by
    have m1 := mk24 (lo s ⟨R, Z⟩) (Nat.le_refl 24)
    have m2 := mk24 (hi s ⟨R, Z⟩) (Nat.le_refl 24)
    rw [u32_and_nat _ _ (by omega) (by omega), mk_and 24 (lo_hi s ⟨R, Z⟩)]; rfl
  have ez : zof ⟨R, Z⟩ R = Z := by unfold zof; dsimp only; omega
  rw [hand, ez, e28]
  refine Ok.bind (Q := fun y => y = false) ⟨false, by simp, rfl⟩ fun y hy => ?_
  subst hy
  refine Ok.notB (Ok.let ?_)
  refine Ok.bind (own_loop hs hp h23a 0 0) fun y hy => ?_
  obtain ⟨a, rfl, o1, o2, o3⟩ := hy
  have eo := o1.eq o28
  refine Ok.inl' ?_
  rw [eo, o2, o3, b28, a28]
  refine Ok.bind (Q := fun y => y = false) ⟨false, by simp, rfl⟩ fun y hy => ?_
  subst hy
  refine Ok.notB ?_
  rw [step_loop hp]
  refine Ok.inl ?_
  obtain ⟨b1, eb1, hb1⟩ := Best_impl hs
  obtain ⟨b2, eb2, hb2⟩ := Best_spec hs
  have eb := hb1.eq hb2
  subst eb
  rw [eb1, eb2]
  refine Ok.let (Ok.let ?_)
  refine Ok.bind (Q := fun y => y = false) ⟨false, by simp [hb1.1, hb1.2.1], rfl⟩ fun y hy => ?_
  subst hy
  refine Ok.notB ?_
  rw [best_loop hs hb1]
  refine Ok.inl ?_
  obtain ⟨z, ez2, z0, z1⟩ := a2At_ok h2
  rw [ez2]
  refine Ok.let ?_
  rw [Same_impl hp z0 z1]
  refine Ok.let (Ok.let ?_)
  rw [Same_spec hp z0 z1]
  refine Ok.let ?_
  have hsame : (sameOf R Z z).2 = 6 ∨ ((sameOf R Z z) = (⟨R + 3 * (z - Z), z⟩, 0) ∧ 0 ≤ R + 3 * (z - Z) ∧ R + 3 * (z - Z) ≤ 60) := by
    unfold sameOf
    by_cases h : 0 ≤ R + 3 * (z - Z) ∧ R + 3 * (z - Z) ≤ 60
    · rw [if_pos h]; exact .inr ⟨rfl, h⟩
    · rw [if_neg h]; exact .inl rfl
  refine Ok.bind (Q := fun y => y = false) ⟨false, ?_, rfl⟩ fun y hy => ?_
  · rcases hsame with h | ⟨h, _⟩
    · simp [h]
    · simp [h]
  subst hy
  refine Ok.notB ?_
  refine Ok.bind (Q := fun y => y = .inl ()) ?_ fun y hy => ?_
  · rcases hsame with h | ⟨h, r0, r1⟩
    · exact ⟨.inl (), by simp [h], rfl⟩
    · rw [h]
      have hq : Plc ⟨R + 3 * (z - Z), z⟩ := ⟨r0, r1, z0, z1⟩
      refine Ok.bif (fun _ => ?_) fun h0 => by simp at h0
      refine Ok.bind (ZonesOf_impl hs hq) fun r hr => ?_
      obtain ⟨v, c⟩ := r
      obtain ⟨hv, hc⟩ := hr
      dsimp only at hv hc ⊢
      subst hc
      have e : v = v18 := hv.eq h23a fun n => by unfold zof; dsimp only; omega
      subst e
      exact ⟨.inl (), by simp, rfl⟩
  subst hy
  refine Ok.inl' ?_
  refine Ok.bind (A2Setting_ok h1) fun x hx => ?_
  obtain ⟨x1, x2, x3⟩ := x
  dsimp only
  have hE := Exposure_ok hp
  rw [hE.1]
  refine Ok.let ?_
  obtain ⟨m, em, _⟩ := more_total ⟨x1, x2, x3⟩ (3 * (Z - 5))
  have hR : (decide (0 ≤ R) && decide (R ≤ 60)) = true := by simp; omega
  have e1 : impl_SettingFor.f ⟨x1, x2, x3⟩ R ⟨R, Z⟩ = some m := by
    unfold impl_SettingFor.f
    dsimp only
    have w1 : IntKind.wrap .i64 (IntKind.wrap .i64 (3 * (Z - 5) + R) - IntKind.wrap .i64 R) = 3 * (Z - 5) := by
      rw [w64 (n := R) (by omega) (by omega), w64 (n := 3 * (Z - 5) + R) (by omega) (by omega), w64 (by omega) (by omega)]; omega
    simp only [ValidSetting_ok hx, isPlacement_ok hp, isReading_ok, hR, hE.2, w1, em, Option.bind_some, Bool.not_true, cond_false]
  have e2 : impl_MoreLight.f ⟨x1, x2, x3⟩ (3 * (Z - 5)) = some m := by
    unfold impl_MoreLight.f impl_within.f
    dsimp only
    have g1 : decide (-100 ≤ 3 * (Z - 5)) = true := by simp; omega
    have g2 : decide (3 * (Z - 5) ≤ 100) = true := by simp; omega
    simp only [ValidSetting_ok hx, g1, g2, em, Option.bind_some, Bool.not_true, cond_false, cond_true]
  rw [e1]
  refine Ok.let ?_
  rw [e2]
  refine Ok.let ?_
  have e3 : IntKind.wrap .i64 (IntKind.wrap .i64 (3 * Z) - 15) = 3 * (Z - 5) := by
    rw [w64 (n := 3 * Z) (by omega) (by omega), w64 (by omega) (by omega)]; omega
  rw [e3]
  exact ⟨true, by simp, rfl⟩
end Go.Proofs.Ytopmellnegcfpaa
