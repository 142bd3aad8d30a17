/- FnZones's law: what its Go text computes is true for all bytes. -/
import Derived.Test.YtopmellnegcfpaaZc
set_option linter.unusedVariables false
set_option linter.unusedSimpArgs false
namespace Go.Proofs.Ytopmellnegcfpaa
open Go.Proofs.Ytopmellnegcfpaa.G

def zis (s : Vector Int 24) (p : impl_Placement) (k : Nat) (j : Nat) : Bool := decide (zof p (rdA s j) = k)

/-- own counts of the zones -/
def Own11 (s : Vector Int 24) (p : impl_Placement) (v : Vector Int 11) (n : Nat) : Prop := ∀ k : Nat, k < 11 → rdA v k = ((cnt (zis s p k) n : Nat) : Int)

theorem Own11.step {s : Vector Int 24} {p : impl_Placement} {v : Vector Int 11} {n : Nat} (h : Own11 s p v n) (h0 : 0 ≤ zof p (rdA s n)) (h1 : zof p (rdA s n) < 11) :
    Own11 s p (wrA v (zof p (rdA s n)) (rdA v (zof p (rdA s n)) + 1)) (n + 1) := by
  intro k hk
  rw [rdA_wrA' v _ h0 (by omega) (by omega)]
  have hc : cnt (zis s p k) (n + 1) = cnt (zis s p k) n + (if zis s p k n = true then 1 else 0) := rfl
  rw [hc]
  split
  · rename_i he
    rw [← he, h k hk]
    have : zis s p k n = true := by unfold zis; simp; omega
    rw [if_pos this]; simp
  · rename_i he
    rw [h k hk]
    have : zis s p k n = false := by unfold zis; simp; omega
    rw [this]; simp

theorem Own11.same {s : Vector Int 24} {p : impl_Placement} {v : Vector Int 11} {n : Nat} (h : Own11 s p v n) (h0 : zof p (rdA s n) < 0 ∨ 11 ≤ zof p (rdA s n)) : Own11 s p v (n + 1) := by
  intro k hk
  have hc : cnt (zis s p k) (n + 1) = cnt (zis s p k) n + (if zis s p k n = true then 1 else 0) := rfl
  have : zis s p k n = false := by unfold zis; simp; omega
  rw [hc, this, h k hk]; simp

theorem Own11.rng {s : Vector Int 24} {p : impl_Placement} {v : Vector Int 11} {n : Nat} (h : Own11 s p v n) {k : Int} (h0 : 0 ≤ k) (h1 : k < 11) : 0 ≤ rdA v k ∧ rdA v k ≤ n := by
  obtain ⟨j, rfl⟩ := Int.eq_ofNat_of_zero_le h0
  have := h j (by omega)
  have h2 := cnt_le (zis s p j) n
  rw [this]; omega

theorem CountZones_ok {s : Vector Int 24} {p : impl_Placement} (hs : Scn s) (hp : Plc p) :
    Ok (impl_CountZones.f s p) fun r => Own11 s p r.1 24 ∧ r.2.1 = ((cnt (lo s p) 24 : Nat) : Int) ∧ r.2.2.1 = ((cnt (hi s p) 24 : Nat) : Int) ∧ r.2.2.2 = 0 := by
  unfold impl_CountZones.f
  rw [show impl_placeCode.f s ⟨p.Reading, p.Zone⟩ = some 0 from placeCode_ok hs hp]
  refine Ok.let (Ok.bif (fun h => by simp at h) fun _ => Ok.let ?_)
  refine Ok.bind (zones_impl (p := ⟨p.Reading, p.Zone⟩) hs hp) fun v hv0 => ?_
  have hv : Zon s p v := hv0
  refine Ok.bind (Q := fun y => Own11 s p y.2.2 24 ∧ y.1 = ((cnt (lo s p) 24 : Nat) : Int) ∧ y.2.1 = ((cnt (hi s p) 24 : Nat) : Int)) ?_ fun y hy => Ok.some ⟨hy.1, hy.2.1, hy.2.2, rfl⟩
  refine Ok.loop (fun (t : Int × Int × Int × Vector Int 11) => ∃ n : Nat, n ≤ 24 ∧ t.2.2.1 = (n : Int) ∧ Own11 s p t.2.2.2 n ∧ t.1 = ((cnt (lo s p) n : Nat) : Int) ∧ t.2.1 = ((cnt (hi s p) n : Nat) : Int)) (fun (t : Int × Int × Int × Vector Int 11) => (24 - t.2.2.1).toNat)
    ⟨0, by omega, rfl, fun k hk => by rw [rdA_zA]; rfl, rfl, rfl⟩ ?_
  rintro ⟨b, a, i, w⟩ ⟨n, hn, rfl, hw, rfl, rfl⟩
  unfold impl_CountZones.b1
  dsimp only at *
  have cl := cnt_le (lo s p) n
  have ch := cnt_le (hi s p) n
  refine Ok.dif (fun h => ?_) fun h => Ok.some ?_
  · have hn' : n < 24 := by omega
    refine Ok.must (inB_iff.2 ⟨by omega, h⟩) (Ok.let ?_)
    rw [hv n hn', w64 (n := (n : Int) + 1) (by omega) (by omega)]
    refine Ok.let (Ok.dif (fun h1 => ?_) fun h1 => ?_)
    · rw [w64 (n := ((cnt (lo s p) n : Nat) : Int) + 1) (by omega) (by omega)]
      have hl : lo s p n = true := by unfold lo; simpa using h1
      have hh := lo_hi s p n hl
      exact Ok.let (Ok.some ⟨⟨n + 1, by omega, by dsimp only; omega, hw.same (.inl h1), by simp [cnt, hl], by simp [cnt, hh]⟩, by dsimp only; omega⟩)
    · have hl : lo s p n = false := by unfold lo; simpa using h1
      refine Ok.let (Ok.dif (fun h2 => ?_) fun h2 => ?_)
      · rw [w64 (n := ((cnt (hi s p) n : Nat) : Int) + 1) (by omega) (by omega)]
        have hh : hi s p n = true := by unfold hi; simpa using h2
        exact Ok.let (Ok.some ⟨⟨n + 1, by omega, by dsimp only; omega, hw.same (.inr h2), by simp [cnt, hl], by simp [cnt, hh]⟩, by dsimp only; omega⟩)
      · have hh : hi s p n = false := by unfold hi; simpa using h2
        have hr := hw.rng (k := zof p (rdA s n)) (by omega) (by omega)
        refine Ok.must (inB_iff.2 ⟨by omega, by omega⟩) (Ok.must (inB_iff.2 ⟨by omega, by omega⟩) ?_)
        rw [w64 (n := rdA w (zof p (rdA s n)) + 1) (by omega) (by omega)]
        exact Ok.let (Ok.some ⟨⟨n + 1, by omega, by dsimp only; omega, hw.step (by omega) (by omega), by simp [cnt, hl], by simp [cnt, hh]⟩, by dsimp only; omega⟩)
  · have : n = 24 := by omega
    subst this
    exact ⟨hw, rfl, rfl⟩

theorem Own11.eq {s : Vector Int 24} {p : impl_Placement} {v v' : Vector Int 11} (h : Own11 s p v 24) (h' : Own11 s p v' 24) : v = v' := vec_ext fun k hk => by rw [h k hk, h' k hk]

/-! ### The best placement -/

def Best (s : Vector Int 24) (r : impl_Placement × Int × Int) : Prop :=
  r.2.2 = 0 ∧ r.1.Zone = 5 ∧ 0 ≤ r.1.Reading ∧ r.1.Reading ≤ 60 ∧ r.2.1 = (offs s ⟨r.1.Reading, 5⟩ : Int) ∧
  ∀ q : Int, 0 ≤ q → q ≤ 60 → r.2.1 ≤ (offs s ⟨q, 5⟩ : Int) ∧ (r.2.1 = (offs s ⟨q, 5⟩ : Int) → r.1.Reading ≤ q)

/-- the state: few, the next reading, the best's zone and reading -/
def BestI (s : Vector Int 24) (t : Int × Int × Int × Int) : Prop :=
  0 ≤ t.2.1 ∧ t.2.1 ≤ 61 ∧ ((t.2.1 = 0 ∧ t.1 = -1) ∨ (0 < t.2.1 ∧ t.2.2.1 = 5 ∧ 0 ≤ t.2.2.2 ∧ t.2.2.2 < t.2.1 ∧ t.1 = (offs s ⟨t.2.2.2, 5⟩ : Int) ∧
    ∀ q : Int, 0 ≤ q → q < t.2.1 → t.1 ≤ (offs s ⟨q, 5⟩ : Int) ∧ (t.1 = (offs s ⟨q, 5⟩ : Int) → t.2.2.2 ≤ q)))

theorem offs_le (s : Vector Int 24) (p : impl_Placement) : offs s p ≤ 48 := by
  unfold offs
  have h1 := cnt_le (lo s p) 24
  have h2 := cnt_le (hi s p) 24
  omega

theorem BestI.take {s : Vector Int 24} {t : Int × Int × Int × Int} (h : BestI s t) (h60 : t.2.1 ≤ 60) (hb : t.1 < 0 ∨ (offs s ⟨t.2.1, 5⟩ : Int) < t.1) : BestI s ((offs s ⟨t.2.1, 5⟩ : Int), t.2.1 + 1, 5, t.2.1) := by
  obtain ⟨h0, h1, h2⟩ := h
  refine ⟨by dsimp only; omega, by dsimp only; omega, .inr ⟨by dsimp only; omega, rfl, h0, by dsimp only; omega, rfl, fun q q0 q1 => ?_⟩⟩
  dsimp only at *
  by_cases e : q = t.2.1
  · subst e; exact ⟨Int.le_refl _, fun _ => Int.le_refl _⟩
  · rcases h2 with ⟨h3, h4⟩ | ⟨h3, h4, h5, h6, h7, h8⟩
    · omega
    · have := h8 q q0 (by omega)
      rcases hb with hb | hb
      · rw [h7] at hb; omega
      · constructor <;> omega

theorem BestI.skip {s : Vector Int 24} {t : Int × Int × Int × Int} (h : BestI s t) (h60 : t.2.1 ≤ 60) (hb : ¬ (t.1 < 0 ∨ (offs s ⟨t.2.1, 5⟩ : Int) < t.1)) : BestI s (t.1, t.2.1 + 1, t.2.2.1, t.2.2.2) := by
  obtain ⟨h0, h1, h2⟩ := h
  rcases h2 with ⟨h3, h4⟩ | ⟨h3, h4, h5, h6, h7, h8⟩
  · exfalso; apply hb; left; omega
  · refine ⟨by dsimp only; omega, by dsimp only; omega, .inr ⟨by dsimp only; omega, h4, h5, by dsimp only; omega, h7, fun q q0 q1 => ?_⟩⟩
    dsimp only at *
    by_cases e : q = t.2.1
    · subst e; constructor
      · omega
      · intro _; omega
    · exact h8 q q0 (by omega)

theorem BestI.done {s : Vector Int 24} {t : Int × Int × Int × Int} (h : BestI s t) (h60 : ¬ t.2.1 ≤ 60) : Best s (⟨t.2.2.2, t.2.2.1⟩, t.1, 0) := by
  obtain ⟨h0, h1, h2⟩ := h
  rcases h2 with ⟨h3, h4⟩ | ⟨h3, h4, h5, h6, h7, h8⟩
  · omega
  · exact ⟨rfl, h4, h5, by dsimp only; omega, h7, fun q q0 q1 => h8 q q0 (by omega)⟩

theorem BestI.start (s : Vector Int 24) : BestI s (-1, 0, 0, 0) := ⟨by simp, by simp, .inl ⟨rfl, rfl⟩⟩

theorem plc5 {r : Int} (h0 : 0 ≤ r) (h1 : r ≤ 60) : Plc ⟨r, 5⟩ := ⟨h0, h1, by simp, by simp⟩

theorem Best_impl {s : Vector Int 24} (hs : Scn s) : Ok (impl_BestPlacement.f s) (Best s) := by
  unfold impl_BestPlacement.f
  rw [ValidScene_ok hs]
  refine Ok.let ?_
  refine Ok.bind (Q := fun y => Best s (⟨y.2.2, y.2.1⟩, y.1, 0)) ?_ fun y hy => Ok.some hy
  refine Ok.loop (BestI s) (fun (t : Int × Int × Int × Int) => (61 - t.2.1).toNat) (BestI.start s) ?_
  intro t ht
  have h0 := ht.1
  have h1 := ht.2.1
  unfold impl_BestPlacement.b1
  rw [w64 (n := t.2.1) (by omega) (by omega), isReading_ok]
  refine Ok.let (Ok.bif (fun h => ?_) fun h => Ok.some (ht.done (by simp at h; omega)))
  have h60 : t.2.1 ≤ 60 := by simp at h; omega
  rw [offScale_impl hs (plc5 h0 h60)]
  refine Ok.let ?_
  rw [cells_off]
  have hle := offs_le s ⟨t.2.1, 5⟩
  refine Ok.let ?_
  have e8 : IntKind.wrap .i8 (t.2.1 + 1) = t.2.1 + 1 := w8 (by omega) (by omega)
  rw [e8]
  refine Ok.bind (Q := fun y => y = decide (t.1 < 0 ∨ (offs s ⟨t.2.1, 5⟩ : Int) < t.1)) ?_ fun y hy => ?_
  · refine Ok.dif (fun h => Ok.some (by simp [h])) fun h => Ok.some (by simp [h])
  · subst hy
    refine Ok.dif (fun h => Ok.let (Ok.some ⟨ht.take h60 h, by dsimp only; omega⟩)) fun h => Ok.let (Ok.some ⟨ht.skip h60 h, by dsimp only; omega⟩)

theorem Best_spec {s : Vector Int 24} (hs : Scn s) : Ok (spec_BestPlacement.f s) (Best s) := by
  unfold spec_BestPlacement.f
  rw [l06Ok_ok hs]
  refine Ok.let ?_
  refine Ok.bind (Q := fun y => Best s (⟨y.2.2, y.2.1⟩, y.1, 0)) ?_ fun y hy => Ok.some hy
  refine Ok.loop (BestI s) (fun (t : Int × Int × Int × Int) => (61 - t.2.1).toNat) (BestI.start s) ?_
  intro t ht
  have h0 := ht.1
  have h1 := ht.2.1
  unfold spec_BestPlacement.b1
  refine Ok.dif (fun h60 => ?_) fun h => Ok.some (ht.done h)
  rw [off_spec hs (plc5 h0 h60)]
  refine Ok.let ?_
  rw [size_ok (mk24 _ (Nat.le_refl 24)), size_ok (mk24 _ (Nat.le_refl 24)), pc_mk, pc_mk]
  have hle := offs_le s ⟨t.2.1, 5⟩
  have hoff : IntKind.wrap .i64 (((cnt (lo s ⟨t.2.1, 5⟩) 24 : Nat) : Int) + ((cnt (hi s ⟨t.2.1, 5⟩) 24 : Nat) : Int)) = (offs s ⟨t.2.1, 5⟩ : Int) := by
    unfold offs at *
    rw [w64 (by omega) (by omega)]; omega
  refine Ok.let (Ok.let ?_)
  rw [hoff]
  refine Ok.let ?_
  have e8 : IntKind.wrap .i8 (t.2.1 + 1) = t.2.1 + 1 := w8 (by omega) (by omega)
  rw [e8]
  refine Ok.bind (Q := fun y => y = decide (t.1 < 0 ∨ (offs s ⟨t.2.1, 5⟩ : Int) < t.1)) ?_ fun y hy => ?_
  · refine Ok.dif (fun h => Ok.some (by simp [h])) fun h => Ok.some (by simp [h])
  · subst hy
    refine Ok.dif (fun h => Ok.let (Ok.some ⟨ht.take h60 h, by dsimp only; omega⟩)) fun h => Ok.let (Ok.some ⟨ht.skip h60 h, by dsimp only; omega⟩)

theorem Best.eq {s : Vector Int 24} {a b : impl_Placement × Int × Int} (ha : Best s a) (hb : Best s b) : a = b := by
  obtain ⟨⟨r1, z1⟩, f1, c1⟩ := a
  obtain ⟨⟨r2, z2⟩, f2, c2⟩ := b
  obtain ⟨a1, a2, a3, a4, a5, a6⟩ := ha
  obtain ⟨b1, b2, b3, b4, b5, b6⟩ := hb
  dsimp only at *
  have h1 := a6 r2 b3 b4
  have h2 := b6 r1 a3 a4
  have e : f1 = f2 := by omega
  have e2 : r1 = r2 := by
    have h3 := h1.2 (by omega)
    have h4 := h2.2 (by omega)
    omega
  rw [a1, a2, b1, b2, e, e2]
end Go.Proofs.Ytopmellnegcfpaa
