/- Drawn prints and sheets are valid. -/
import Derived.Test.YtnjabckgklafhaaPa
import Derived.Test.YtnjabckgklafhaaDb
set_option linter.unusedVariables false
set_option linter.unusedSimpArgs false
namespace Go.Proofs.Ytnjabckgklafhaa
open Go.Proofs.Ytnjabckgklafhaa.G

/-- all of an array's numbers are 0 to 400 -/
def Dn {n : Nat} (v : Vector Int n) : Prop := ∀ i : Nat, i < n → 0 ≤ rdA v i ∧ rdA v i ≤ 400
theorem Dn.at {n : Nat} {v : Vector Int n} (h : Dn v) {i : Int} (h0 : 0 ≤ i) (h1 : i < n) : 0 ≤ rdA v i ∧ rdA v i ≤ 400 := by
  obtain ⟨j, rfl⟩ := Int.eq_ofNat_of_zero_le h0
  exact h j (by omega)
theorem Dn.wr {n : Nat} {v : Vector Int n} (h : Dn v) {i x : Int} (h0 : 0 ≤ i) (h1 : i < n) (hx0 : 0 ≤ x) (hx : x ≤ 400) : Dn (wrA v i x) := by
  intro j hj
  rw [rdA_wrA' v x h0 h1 (by omega)]
  split
  · exact ⟨hx0, hx⟩
  · exact h j hj
theorem Dn.zero (n : Nat) : Dn (zA n) := fun i hi => by rw [rdA_zA]; omega
theorem densB_of {v : Pr} (h : Dn v) : densB v = true := by
  unfold densB
  rw [List.all_eq_true]
  intro i hi
  have := h i (List.mem_range.1 hi)
  unfold dn
  rw [w64 (by omega) (by omega)]
  simp; omega

theorem cells_ok {s : spec_l00Src} (hc : Bytes s.code) (h0 : 0 ≤ s.at_) (h1 : s.at_ ≤ 1000000) :
    Ok (spec_l03Cells.f s) fun r => Dn r.1 ∧ r.2.code = s.code ∧ 0 ≤ r.2.at_ ∧ r.2.at_ ≤ s.at_ + 40 := by
  obtain ⟨code, p, d⟩ := s
  unfold spec_l03Cells.f
  dsimp only at *
  refine Ok.let (Ok.let ?_)
  refine Ok.bind (Q := fun y => Dn y.1 ∧ 0 ≤ y.2.1 ∧ y.2.1 ≤ p + 8) ?_ fun y19 hy => ?_
  · refine Ok.loop (fun s => 0 ≤ s.1 ∧ s.1 ≤ 4 ∧ Dn s.2.1 ∧ 0 ≤ s.2.2.1 ∧ s.2.2.1 ≤ p + 2 * s.1) (fun s => (4 - s.1).toNat) ⟨by omega, by dsimp only; omega, Dn.zero 4, h0, by dsimp only; omega⟩ ?_
    rintro ⟨i, m, at', seed'⟩ ⟨i0, i1, hm, a0, a1⟩
    unfold spec_l03Cells.b1
    dsimp only at *
    refine Ok.dif (fun h => ?_) fun h => Ok.some ⟨hm, a0, by dsimp only; omega⟩
    refine Ok.bind (pick_ok 256 (by omega) hc a0 (by dsimp only; omega)) fun r13 hr => ?_
    dsimp only at hr
    refine Ok.must (inB_iff.2 ⟨i0, by omega⟩) (Ok.let (Ok.let (Ok.some ?_)))
    have e2 : IntKind.wrap .i64 (i + 1) = i + 1 := w64 (by omega) (by omega)
    have e3 : IntKind.wrap .i16 r13.1 = r13.1 := w16 (by omega) (by omega)
    rw [e2, e3]
    dsimp only
    exact ⟨⟨by omega, by omega, hm.wr i0 (by omega) (by omega) (by omega), by omega, by omega⟩, by omega⟩
  obtain ⟨hm, a0, a1⟩ := hy
  refine Ok.bind (Q := fun y => Dn y) ?_ fun y30 hy30 => ?_
  · refine Ok.loop (fun s => 0 ≤ s.1 ∧ s.1 ≤ 64 ∧ Dn s.2) (fun s => (64 - s.1).toNat) ⟨by omega, by dsimp only; omega, Dn.zero 64⟩ ?_
    rintro ⟨k, m⟩ ⟨k0, k1, hk⟩
    unfold spec_l03Cells.b2
    dsimp only at *
    refine Ok.dif (fun h => ?_) fun h => Ok.some hk
    have e0 : Int.tmod k 8 = k % 8 := tmod_nn k0
    have e1 : Int.tdiv (k % 8) 4 = k % 8 / 4 := tdiv_nn (by omega)
    have e2 : Int.tdiv k 32 = k / 32 := tdiv_nn k0
    have e3 : IntKind.wrap .i64 (k % 8 / 4) = k % 8 / 4 := w64 (by omega) (by omega)
    have e4 : IntKind.wrap .i64 (k / 32) = k / 32 := w64 (by omega) (by omega)
    have e5 : IntKind.wrap .i64 (k / 32 * 2) = k / 32 * 2 := w64 (by omega) (by omega)
    have e6 : IntKind.wrap .i64 (k % 8 / 4 + k / 32 * 2) = k % 8 / 4 + k / 32 * 2 := w64 (by omega) (by omega)
    have e7 : IntKind.wrap .i64 (k + 1) = k + 1 := w64 (by omega) (by omega)
    rw [e0, e1, e2, e3, e4, e5, e6, e7]
    have hv := hm.at (i := k % 8 / 4 + k / 32 * 2) (by omega) (by omega)
    refine Ok.must (inB_iff.2 ⟨by omega, by omega⟩) (Ok.must (inB_iff.2 ⟨k0, by omega⟩) (Ok.let (Ok.let (Ok.some ?_))))
    dsimp only
    exact ⟨⟨by omega, by omega, hk.wr k0 (by omega) hv.1 hv.2⟩, by omega⟩
  refine Ok.bind (pick_ok 4 (by omega) hc a0 (by dsimp only; omega)) fun r33 hr => ?_
  dsimp only at hr
  refine Ok.bind (Q := fun y => Dn y.2.2 ∧ 0 ≤ y.1 ∧ y.1 ≤ p + 40) ?_ fun y hy => Ok.some ⟨hy.1, rfl, hy.2.1, hy.2.2⟩
  refine Ok.loop (fun s => 0 ≤ s.1 ∧ s.1 ≤ 3 ∧ 0 ≤ s.2.1 ∧ s.2.1 ≤ p + 10 + 4 * (3 - s.1) ∧ Dn s.2.2.2) (fun s => s.1.toNat) ⟨by omega, by dsimp only; omega, by dsimp only; omega, by dsimp only; omega, hy30⟩ ?_
  rintro ⟨k, at', seed', m⟩ ⟨i0, i1, b0, b1, hm2⟩
  unfold spec_l03Cells.b3
  dsimp only at *
  refine Ok.dif (fun h => ?_) fun h => Ok.some ⟨hm2, b0, by dsimp only; omega⟩
  refine Ok.bind (pick_ok 64 (by omega) hc b0 (by dsimp only; omega)) fun r40 hr40 => ?_
  dsimp only at hr40
  refine Ok.bind (pick_ok 401 (by omega) hc hr40.2.2.2.2.1 (by dsimp only; omega)) fun r43 hr43 => ?_
  dsimp only at hr43
  refine Ok.must (inB_iff.2 ⟨hr40.1, by omega⟩) (Ok.let (Ok.let (Ok.some ?_)))
  have e2 : IntKind.wrap .i64 (k - 1) = k - 1 := w64 (by omega) (by omega)
  have e3 : IntKind.wrap .i16 r43.1 = r43.1 := w16 (by omega) (by omega)
  rw [e2, e3]
  dsimp only
  exact ⟨⟨by omega, by omega, by omega, by omega, hm2.wr (by omega) (by omega) (by omega) (by omega)⟩, by omega⟩

/-- a valid sheet -/
structure Sht (s : impl_Sheet) : Prop where
  a1 : 1 ≤ s.Across
  a2 : s.Across ≤ 12
  n : s.Frames.length ≤ 12
  d : ∀ p ∈ s.Frames, Dn p
theorem Sht.ok {s : impl_Sheet} (h : Sht s) : okS s = true := by
  unfold okS
  have h1 := h.a1; have h2 := h.a2; have h3 := h.n
  rw [w64 (by omega) (by omega)]
  have : s.Frames.all densB = true := List.all_eq_true.2 fun p hp => densB_of (h.d p hp)
  simp [this]; omega
theorem Sht.short {s : impl_Sheet} (h : Sht s) : Short s.Frames := by have := h.n; unfold Short; omega

theorem P6Sheet_ok {code : List Int} (hc : Bytes code) : Ok (spec_P6Sheet.f code) fun r => Sht r ∧ r.Frames.length ≤ 5 := by
  unfold spec_P6Sheet.f spec_l00From.f
  refine Ok.let ?_
  refine Ok.bind (Q := fun r => Sht r.1 ∧ r.1.Frames.length ≤ 5) ?_ fun r hr => Ok.some hr
  unfold spec_l07Drawn.f
  dsimp only
  refine Ok.bind (pick_ok (s := ⟨code, 0, 0⟩) 5 (by omega) hc (Int.le_refl _) (by dsimp only; omega)) fun r3 hr3 => ?_
  dsimp only at hr3
  refine Ok.bind (pick_ok (s := ⟨code, r3.2.at_, r3.2.seed⟩) 6 (by omega) hc hr3.2.2.2.2.1 (by dsimp only; omega)) fun r8 hr8 => ?_
  dsimp only at hr8
  have e1 : IntKind.wrap .i64 (1 + r3.1) = 1 + r3.1 := w64 (by omega) (by omega)
  have e2 : IntKind.wrap .i8 (1 + r3.1) = 1 + r3.1 := w8 (by omega) (by omega)
  rw [e1, e2]
  refine Ok.bind (Q := fun y => y.1.length ≤ 5 ∧ ∀ p ∈ y.1, Dn p) ?_ fun y hy => Ok.some ⟨⟨by dsimp only; omega, by dsimp only; omega, by have := hy.1; dsimp only; omega, hy.2⟩, hy.1⟩
  refine Ok.loop (fun s => 0 ≤ s.1 ∧ s.1 ≤ 5 ∧ (s.2.1.length : Int) ≤ 5 - s.1 ∧ (∀ p ∈ s.2.1, Dn p) ∧ 0 ≤ s.2.2.1 ∧ s.2.2.1 ≤ 100 + 40 * (5 - s.1)) (fun s => s.1.toNat) ⟨by omega, by dsimp only; omega, by simp; omega, by simp, by dsimp only; omega, by dsimp only; omega⟩ ?_
  rintro ⟨k, l, at', seed'⟩ ⟨i0, i1, hl, hd, b0, b1⟩
  unfold spec_l07Drawn.b1
  dsimp only at *
  refine Ok.dif (fun h => ?_) fun h => Ok.some ⟨by dsimp only; omega, hd⟩
  refine Ok.bind (cells_ok (s := ⟨code, at', seed'⟩) hc b0 (by dsimp only; omega)) fun r17 hr => ?_
  dsimp only at hr
  have e3 : IntKind.wrap .i64 (k - 1) = k - 1 := w64 (by omega) (by omega)
  rw [e3]
  refine Ok.must (room_ok (by omega) (by decide)) (Ok.let (Ok.some ?_))
  dsimp only
  refine ⟨⟨by omega, by omega, by simp; omega, ?_, by omega, by omega⟩, by omega⟩
  intro p hp
  rcases List.mem_append.1 hp with hp | hp
  · exact hd p hp
  · simp at hp; subst hp; exact hr.1
theorem P6Pick_ok {code : List Int} (hc : Bytes code) {n : Int} (h1 : 1 ≤ n) (hn : n ≤ 1000000) : Ok (spec_P6Pick.f code n) fun r => 0 ≤ r ∧ r < n := by
  unfold spec_P6Pick.f spec_l00From.f
  refine Ok.let (Ok.bind (pick_ok (s := ⟨code, 0, 0⟩) n (by omega) hc (Int.le_refl _) (by dsimp only; omega)) fun r hr => Ok.some ⟨hr.1, hr.2.1 h1⟩)
end Go.Proofs.Ytnjabckgklafhaa
