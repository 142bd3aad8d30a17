/- Drawn papers are valid curves. -/
import Derived.Test.YtofhnioboihbgaaPa
import Derived.Test.YtofhnioboihbgaaCd
set_option linter.unusedVariables false
set_option linter.unusedSimpArgs false
namespace Go.Proofs.Ytofhnioboihbgaa
open Go.Proofs.Ytofhnioboihbgaa.G

/-- points so far, all before a place and not above a density -/
def Chain (c : Cv) (x y : Int) : Prop := (∀ p ∈ c, -20 ≤ p.X ∧ p.X < x ∧ 0 ≤ p.Y ∧ p.Y ≤ y) ∧ c.Pairwise fun p q => p.X < q.X ∧ p.Y ≤ q.Y
theorem Chain.snoc {c : Cv} {x y x' y' : Int} (h : Chain c x y) (hx : -20 ≤ x) (hy : 0 ≤ y) (h1 : x < x') (h2 : y ≤ y') : Chain (c ++ [⟨x, y⟩]) x' y' := by
  obtain ⟨a, b⟩ := h
  refine ⟨fun p hp => ?_, ?_⟩
  · rw [List.mem_append, List.mem_singleton] at hp
    rcases hp with hp | rfl
    · have := a p hp; omega
    · simp only; omega
  · rw [List.pairwise_append]
    refine ⟨b, List.pairwise_singleton _ _, fun p hp q hq => ?_⟩
    rw [List.mem_singleton] at hq
    subst hq
    have := a p hp
    simp only; omega
theorem Chain.fine {c : Cv} {x y : Int} (h : Chain c x y) (hx : x ≤ 100) (hy : y ≤ 350) (h0 : 0 < c.length) (h1 : c.length ≤ 12) : Fine c ∧ In16 c := by
  obtain ⟨a, b⟩ := h
  refine ⟨⟨h0, h1, fun i hi => ?_, fun i hi => ?_⟩, fun p hp => ?_⟩
  · have := a c[i] (List.getElem_mem hi)
    unfold cX cY
    rw [rd_ofNat hi]
    omega
  · have := (List.pairwise_iff_getElem.1 b) i (i + 1) (by omega) hi (by omega)
    unfold cX cY
    rw [rd_ofNat hi, rd_ofNat (show i < c.length by omega)]
    exact this
  · have := a p hp; omega

theorem Drawn_ok {s : spec_l00Src} (hc : Bytes s.code) (h0 : 0 ≤ s.at_) (h1 : s.at_ ≤ 1000000) :
    Ok (spec_l02Drawn.f s) fun r => Fine r.1 ∧ In16 r.1 ∧ r.2.code = s.code ∧ 0 ≤ r.2.at_ ∧ r.2.at_ ≤ s.at_ + 40 := by
  obtain ⟨code, p, d⟩ := s
  unfold spec_l02Drawn.f
  dsimp only at *
  refine Ok.bind (pick_ok 30 (by omega) hc h0 (by dsimp only; omega)) fun r3 q3 => ?_
  dsimp only at q3
  obtain ⟨a1, a2, _, a4, a5, a6⟩ := q3
  have a2 := a2 (by omega)
  refine Ok.let (Ok.bind (pick_ok (s := ⟨code, r3.2.at_, r3.2.seed⟩) 20 (by omega) hc a5 (by dsimp only; omega)) fun r7 q7 => ?_)
  dsimp only at q7
  obtain ⟨b1, b2, _, b4, b5, b6⟩ := q7
  have b2 := b2 (by omega)
  refine Ok.bind (pick_ok (s := ⟨code, r7.2.at_, r7.2.seed⟩) 6 (by omega) hc b5 (by dsimp only; omega)) fun r10 q10 => ?_
  dsimp only at q10
  obtain ⟨c1, c2, _, c4, c5, c6⟩ := q10
  have c2 := c2 (by omega)
  refine Ok.let ?_
  rw [w64 (n := r3.1 - 20) (by omega) (by omega), w64 (n := 1 + r10.1) (by omega) (by omega)]
  refine Ok.bind (Q := fun y => Fine y.1 ∧ In16 y.1 ∧ 0 ≤ y.2.1 ∧ y.2.1 ≤ p + 40) ?_ fun y31 hy => Ok.some ⟨hy.1, hy.2.1, rfl, hy.2.2.1, hy.2.2.2⟩
  refine Ok.loop (fun s => Chain s.2.2.2.1 s.1 s.2.1 ∧ -20 ≤ s.1 ∧ s.1 ≤ 9 + 9 * (s.2.2.2.1.length : Int) ∧ 0 ≤ s.2.1 ∧ s.2.1 ≤ 19 + 49 * (s.2.2.2.1.length : Int) ∧ 0 ≤ s.2.2.1 ∧ 1 ≤ s.2.2.1 + (s.2.2.2.1.length : Int) ∧ s.2.2.1 + (s.2.2.2.1.length : Int) ≤ 6 ∧ 0 ≤ s.2.2.2.2.1 ∧ s.2.2.2.2.1 ≤ p + 6 + 4 * (s.2.2.2.1.length : Int)) (fun s => s.2.2.1.toNat)
    ⟨⟨by simp, List.Pairwise.nil⟩, by dsimp only; omega, by simp; omega, b1, by simp; omega, by dsimp only; omega, by simp; omega, by simp; omega, c5, by simp; omega⟩ ?_
  rintro ⟨x, y, k, c, at', seed'⟩ ⟨hC, x0, x1, y0, y1, k0, k1, k2, t0, t1⟩
  unfold spec_l02Drawn.b1
  dsimp only at *
  refine Ok.dif (fun h => ?_) fun h => Ok.some ?_
  · refine Ok.must (room_ok (by omega) (by decide)) ?_
    refine Ok.bind (pick_ok (s := ⟨code, at', seed'⟩) 9 (by omega) hc t0 (by dsimp only; omega)) fun r22 q22 => ?_
    dsimp only at q22
    obtain ⟨d1, d2, _, d4, d5, d6⟩ := q22
    have d2 := d2 (by omega)
    refine Ok.let ?_
    refine Ok.bind (pick_ok (s := ⟨code, r22.2.at_, r22.2.seed⟩) 50 (by omega) hc d5 (by dsimp only; omega)) fun r26 q26 => ?_
    dsimp only at q26
    obtain ⟨e1, e2, _, e4, e5, e6⟩ := q26
    have e2 := e2 (by omega)
    refine Ok.let (Ok.let (Ok.some ?_))
    rw [w64 (n := 1 + r22.1) (by omega) (by omega), w64 (n := x + (1 + r22.1)) (by omega) (by omega), w64 (n := y + r26.1) (by omega) (by omega), w64 (n := k - 1) (by omega) (by omega), w16 (n := x) (by omega) (by omega), w16 (n := y) (by omega) (by omega)]
    dsimp only
    have hl : (c ++ [(⟨x, y⟩ : impl_Point)]).length = c.length + 1 := by simp
    refine ⟨⟨hC.snoc x0 y0 (by omega) (by omega), ?_⟩, by omega⟩
    rw [hl]
    refine ⟨by omega, by omega, by omega, by omega, by omega, by omega, by omega, by omega, by omega⟩
  · obtain ⟨f1, f2⟩ := hC.fine (by omega) (by omega) (by omega) (by omega)
    exact ⟨f1, f2, t0, by dsimp only; omega⟩

theorem P6Paper_ok {xs : List Int} (h : Bytes xs) : Ok (spec_P6Paper.f xs) fun r => Fine r ∧ In16 r := by
  unfold spec_P6Paper.f spec_l00From.f
  refine Ok.let (Ok.bind (Drawn_ok (s := ⟨xs, 0, 0⟩) h (by simp) (by simp)) fun r hr => Ok.some ⟨hr.1, hr.2.1⟩)
theorem P6Pick_ok {xs : List Int} (h : Bytes xs) {n : Int} (h1 : 1 ≤ n) (h2 : n ≤ 1000000) : Ok (spec_P6Pick.f xs n) fun r => 0 ≤ r ∧ r < n := by
  unfold spec_P6Pick.f spec_l00From.f
  refine Ok.let (Ok.bind (pick_ok (s := ⟨xs, 0, 0⟩) n (by omega) h (by simp) (by simp)) fun r hr => Ok.some ⟨hr.1, hr.2.1 h1⟩)
end Go.Proofs.Ytofhnioboihbgaa
