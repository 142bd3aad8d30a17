/- Zones: what impl's functions and the specification's functions compute of a valid scene and a valid placement. -/
import Derived.Test.YtopmellnegcfpaaSc
import Derived.Test.YtopmellnegcfpaaZa
set_option linter.unusedVariables false
set_option linter.unusedSimpArgs false
namespace Go.Proofs.Ytopmellnegcfpaa
open Go.Proofs.Ytopmellnegcfpaa.G

def Plc (p : impl_Placement) : Prop := 0 ≤ p.Reading ∧ p.Reading ≤ 60 ∧ 0 ≤ p.Zone ∧ p.Zone ≤ 10

def zof (p : impl_Placement) (n : Int) : Int := p.Zone + (n - p.Reading + 1) / 3

theorem zof_rng {p : impl_Placement} (hp : Plc p) {n : Int} (h0 : 0 ≤ n) (h1 : n ≤ 60) : -20 ≤ zof p n ∧ zof p n ≤ 30 := by
  unfold Plc at hp; unfold zof; omega

theorem zone_impl {p : impl_Placement} (hp : Plc p) {n : Int} (h0 : 0 ≤ n) (h1 : n ≤ 60) : impl_Placement_zone.f p n = some (zof p n) := by
  have hz := zof_rng hp h0 h1
  unfold Plc at hp
  unfold zof at *
  unfold impl_Placement_zone.f impl_floor.f
  have e1 : IntKind.wrap .i64 p.Reading = p.Reading := w64 (by omega) (by omega)
  have e2 : IntKind.wrap .i64 p.Zone = p.Zone := w64 (by omega) (by omega)
  rw [e1, e2, w64 (n := n - p.Reading) (by omega) (by omega), w64 (n := n - p.Reading + 1) (by omega) (by omega)]
  generalize hd : n - p.Reading + 1 = d at *
  by_cases h : d < 0
  · have g : decide (d < 0) = true := by simpa using h
    have t : (0 - d + 3 - 1).tdiv 3 = (0 - d + 3 - 1) / 3 := tdiv_nn (by omega)
    have e9 : 0 - (0 - d + 3 - 1) / 3 = d / 3 := by omega
    simp only [g, cond_true, w64 (n := 0 - d) (by omega) (by omega), w64 (n := 0 - d + 3) (by omega) (by omega), w64 (n := 0 - d + 3 - 1) (by omega) (by omega), t]
    rw [w64 (n := (0 - d + 3 - 1) / 3) (by omega) (by omega), e9, w64 (n := d / 3) (by omega) (by omega)]
    show some _ = _
    rw [w64 (by omega) (by omega)]
  · have g : decide (d < 0) = false := by simpa using h
    have t : d.tdiv 3 = d / 3 := tdiv_nn (by omega)
    simp only [g, cond_false, t, w64 (n := d / 3) (by omega) (by omega)]
    show some _ = _
    rw [w64 (by omega) (by omega)]

theorem zone_spec {p : impl_Placement} (hp : Plc p) {n : Int} (h0 : 0 ≤ n) (h1 : n ≤ 60) : spec_l06Zone.f p n = some (zof p n) := by
  have hz := zof_rng hp h0 h1
  unfold Plc at hp
  unfold zof at *
  unfold spec_l06Zone.f spec_l04Down.f
  have e1 : IntKind.wrap .i64 p.Reading = p.Reading := w64 (by omega) (by omega)
  have e2 : IntKind.wrap .i64 p.Zone = p.Zone := w64 (by omega) (by omega)
  rw [e1, e2, w64 (n := n - p.Reading) (by omega) (by omega), w64 (n := n - p.Reading + 1) (by omega) (by omega)]
  generalize hd : n - p.Reading + 1 = d at *
  by_cases h : d < 0
  · have t : d.tdiv 3 = -((-d) / 3) := by rw [← tdiv_nn (a := -d) (by omega), Int.neg_tdiv, Int.neg_neg]
    have m : d.tmod 3 = -((-d) % 3) := by rw [← tmod_nn (a := -d) (by omega), Int.neg_tmod, Int.neg_neg]
    rw [t, m, w64 (n := -(-d / 3)) (by omega) (by omega)]
    by_cases h2 : -(-d % 3) < 0
    · have g : decide (-(-d % 3) < 0) = true := by simpa using h2
      rw [g]
      show some _ = _
      rw [w64 (n := -(-d / 3) - 1) (by omega) (by omega), w64 (by omega) (by omega)]
      congr 1; omega
    · have g : decide (-(-d % 3) < 0) = false := by simpa using h2
      rw [g]
      show some _ = _
      rw [w64 (by omega) (by omega)]
      congr 1; omega
  · have t : d.tdiv 3 = d / 3 := tdiv_nn (by omega)
    have m : d.tmod 3 = d % 3 := tmod_nn (by omega)
    have g : decide (d % 3 < 0) = false := by simp; omega
    rw [t, m, g, w64 (n := d / 3) (by omega) (by omega)]
    show some _ = _
    rw [w64 (by omega) (by omega)]

theorem isPlacement_ok {p : impl_Placement} (hp : Plc p) : impl_isPlacement.f p = some true := by
  unfold Plc at hp
  unfold impl_isPlacement.f impl_isZone.f impl_within.f
  rw [w64 (n := p.Reading) (by omega) (by omega), w64 (n := p.Zone) (by omega) (by omega), isReading_ok]
  have g1 : (decide (0 ≤ p.Reading) && decide (p.Reading ≤ 60)) = true := by simp; omega
  have g2 : decide (0 ≤ p.Zone) = true := by simp; omega
  have g3 : decide (p.Zone ≤ 10) = true := by simp; omega
  rw [g1, g2, g3]; rfl
theorem l06Placement_ok {p : impl_Placement} (hp : Plc p) : spec_l06Placement.f p = some true := by
  unfold Plc at hp
  unfold spec_l06Placement.f spec_l00In.f
  rw [w64 (n := p.Reading) (by omega) (by omega), w64 (n := p.Zone) (by omega) (by omega), l06Reading_ok]
  have g1 : (decide (0 ≤ p.Reading) && decide (p.Reading ≤ 60)) = true := by simp; omega
  have g2 : decide (0 ≤ p.Zone) = true := by simp; omega
  have g3 : decide (p.Zone ≤ 10) = true := by simp; omega
  rw [g1, g2, g3]; rfl

theorem ZoneOf_ok {p : impl_Placement} (hp : Plc p) {n : Int} (h0 : 0 ≤ n) (h1 : n ≤ 60) : impl_ZoneOf.f p n = some (zof p n, 0) := by
  unfold impl_ZoneOf.f
  have g : (decide (0 ≤ n) && decide (n ≤ 60)) = true := by simp; omega
  simp only [isPlacement_ok hp, isReading_ok, g, zone_impl hp h0 h1, Option.bind_some, Bool.not_true, cond_false]

theorem placeCode_ok {s : Vector Int 24} {p : impl_Placement} (hs : Scn s) (hp : Plc p) : impl_placeCode.f s p = some 0 := by
  unfold impl_placeCode.f
  simp only [ValidScene_ok hs, isPlacement_ok hp, Option.bind_some, Bool.not_true, cond_false]
theorem l06Both_ok {s : Vector Int 24} {p : impl_Placement} (hs : Scn s) (hp : Plc p) : spec_l06Both.f s p = some 0 := by
  unfold spec_l06Both.f
  simp only [l06Ok_ok hs, l06Placement_ok hp, Option.bind_some, Bool.not_true, cond_false]

/-! ### The zones of all cells -/

def Zon (s : Vector Int 24) (p : impl_Placement) (v : Vector Int 24) : Prop := ∀ i : Nat, i < 24 → rdA v i = zof p (rdA s i)

theorem vec_ext {n : Nat} {v v' : Vector Int n} (h : ∀ i : Nat, i < n → rdA v i = rdA v' i) : v = v' := by
  apply Vector.toList_inj.1
  apply List.ext_getElem (by simp)
  intro i h1 h2
  simp at h1
  have := h i h1
  simpa [rdA, h1] using this

theorem Zon.eq {s : Vector Int 24} {p q : impl_Placement} {v v' : Vector Int 24} (h : Zon s p v) (h' : Zon s q v') (hz : ∀ n, zof p n = zof q n) : v = v' := vec_ext fun i hi => by rw [h i hi, h' i hi, hz]

theorem zones_impl {s : Vector Int 24} {p : impl_Placement} (hs : Scn s) (hp : Plc p) : Ok (impl_Scene_zones.f s p) (Zon s p) := by
  unfold impl_Scene_zones.f
  refine Ok.let (Ok.bind (Q := Zon s p) ?_ fun v hv => Ok.some hv)
  refine Ok.loop (fun t => 0 ≤ t.1 ∧ t.1 ≤ 24 ∧ ∀ i : Nat, (i : Int) < t.1 → rdA t.2 i = zof p (rdA s i)) (fun t => (24 - t.1).toNat) ⟨by simp, by simp, fun i hi => by simp at hi; omega⟩ ?_
  rintro ⟨i, v⟩ ⟨i0, i1, hv⟩
  unfold impl_Scene_zones.b1
  dsimp only at *
  refine Ok.dif (fun h => ?_) fun h => Ok.some fun j hj => hv j (by omega)
  have hr := hs.at i0 h
  have hz := zof_rng hp hr.1 hr.2
  have hz' : -20 ≤ zof ⟨p.Reading, p.Zone⟩ (rdA s i) ∧ zof ⟨p.Reading, p.Zone⟩ (rdA s i) ≤ 30 := hz
  refine Ok.must (inB_iff.2 ⟨i0, h⟩) (Ok.let ?_)
  rw [w64 (n := rdA s i) (by omega) (by omega), zone_impl (p := ⟨p.Reading, p.Zone⟩) hp hr.1 hr.2]
  refine Ok.let (Ok.must (inB_iff.2 ⟨i0, h⟩) (Ok.let (Ok.some ?_)))
  rw [w64 (n := i + 1) (by omega) (by omega), w8 (by omega) (by omega)]
  dsimp only
  refine ⟨⟨by omega, by omega, fun j hj => ?_⟩, by omega⟩
  rw [rdA_wrA' v _ i0 (by omega) (by omega)]
  split
  · rename_i he; subst he; rfl
  · exact hv j (by omega)

theorem ZonesOf_impl {s : Vector Int 24} {p : impl_Placement} (hs : Scn s) (hp : Plc p) : Ok (impl_ZonesOf.f s p) fun r => Zon s p r.1 ∧ r.2 = 0 := by
  unfold impl_ZonesOf.f
  rw [placeCode_ok (p := ⟨p.Reading, p.Zone⟩) hs hp]
  refine Ok.let ?_
  exact Ok.bind (zones_impl (p := ⟨p.Reading, p.Zone⟩) hs hp) fun r hr => Ok.some ⟨hr, rfl⟩

theorem ZonesOf_spec {s : Vector Int 24} {p : impl_Placement} (hs : Scn s) (hp : Plc p) : Ok (spec_ZonesOf.f s p) fun r => Zon s p r.1 ∧ r.2 = 0 := by
  unfold spec_ZonesOf.f
  rw [l06Both_ok (p := ⟨p.Reading, p.Zone⟩) hs hp]
  refine Ok.let (Ok.let ?_)
  refine Ok.bind (Q := Zon s p) ?_ fun v hv => Ok.some ⟨hv, rfl⟩
  refine Ok.loop (fun t => 0 ≤ t.1 ∧ t.1 ≤ 24 ∧ ∀ i : Nat, (i : Int) < t.1 → rdA t.2 i = zof p (rdA s i)) (fun t => (24 - t.1).toNat) ⟨by simp, by simp, fun i hi => by simp at hi; omega⟩ ?_
  rintro ⟨i, v⟩ ⟨i0, i1, hv⟩
  unfold spec_ZonesOf.b1
  dsimp only at *
  refine Ok.dif (fun h => ?_) fun h => Ok.some fun j hj => hv j (by omega)
  have hr := hs.at i0 h
  have hz := zof_rng hp hr.1 hr.2
  have hz' : -20 ≤ zof ⟨p.Reading, p.Zone⟩ (rdA s i) ∧ zof ⟨p.Reading, p.Zone⟩ (rdA s i) ≤ 30 := hz
  refine Ok.must (inB_iff.2 ⟨i0, h⟩) ?_
  rw [w64 (n := rdA s i) (by omega) (by omega), zone_spec (p := ⟨p.Reading, p.Zone⟩) hp hr.1 hr.2]
  refine Ok.let (Ok.must (inB_iff.2 ⟨i0, h⟩) (Ok.let (Ok.let (Ok.some ?_))))
  rw [w64 (n := i + 1) (by omega) (by omega), w8 (by omega) (by omega)]
  dsimp only
  refine ⟨⟨by omega, by omega, fun j hj => ?_⟩, by omega⟩
  rw [rdA_wrA' v _ i0 (by omega) (by omega)]
  split
  · rename_i he; subst he; rfl
  · exact hv j (by omega)
end Go.Proofs.Ytopmellnegcfpaa
