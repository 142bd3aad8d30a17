/- Curves: what their code computes, and that it is one law, which rises. Conditions: lengths that a slice may have, numbers that an int16 may be. -/
import Derived.Test.YtofhnioboihbgaaFz
import Derived.Test.YtofhnioboihbgaaGp
set_option linter.unusedVariables false
set_option linter.unusedSimpArgs false
namespace Go.Proofs.Ytofhnioboihbgaa
open Go.Proofs.Ytofhnioboihbgaa.G

def Short {α : Type} (xs : List α) : Prop := xs.length ≤ 1048576
abbrev Cv := List impl_Point
def In16 (c : Cv) : Prop := ∀ p ∈ c, (-32768 ≤ p.X ∧ p.X ≤ 32767) ∧ (-32768 ≤ p.Y ∧ p.Y ≤ 32767)
def cX (c : Cv) (i : Nat) : Int := (rd enc_impl_Point c (i : Int)).X
def cY (c : Cv) (i : Nat) : Int := (rd enc_impl_Point c (i : Int)).Y
def inP (x y : Int) : Bool := (decide (-200 ≤ x) && decide (x ≤ 200)) && (decide (0 ≤ y) && decide (y ≤ 400))
def stepB (c : Cv) (i : Nat) : Bool := inP (cX c i) (cY c i) && (i == 0 || (decide (cX c (i - 1) < cX c i) && decide (cY c (i - 1) ≤ cY c i)))
def okC (c : Cv) : Bool := (List.range c.length).all (stepB c) && decide (0 < c.length) && decide (c.length ≤ 12)

theorem In16.at {c : Cv} (h : In16 c) {i : Nat} (hi : i < c.length) : (-32768 ≤ cX c i ∧ cX c i ≤ 32767) ∧ (-32768 ≤ cY c i ∧ cY c i ≤ 32767) := by
  unfold cX cY
  rw [rd_ofNat hi]
  exact h _ (List.getElem_mem hi)
theorem l00In_val (n a b : Int) : spec_l00In.f n a b = some (decide (a ≤ n) && decide (n ≤ b)) := by
  unfold spec_l00In.f
  by_cases h : a ≤ n <;> simp [h]
theorem within_val (n a b : Int) : impl_within.f n a b = some (decide (a ≤ n) && decide (n ≤ b)) := by
  unfold impl_within.f
  by_cases h : a ≤ n <;> simp [h]
theorem isPoint_val {x y : Int} (hx : -32768 ≤ x ∧ x ≤ 32767) (hy : -32768 ≤ y ∧ y ≤ 32767) : impl_isPoint.f ⟨x, y⟩ = some (inP x y) := by
  unfold impl_isPoint.f impl_isPlace.f impl_isDensity.f inP
  simp only [within_val, Option.bind_some, w64 (n := x) (by omega) (by omega), w64 (n := y) (by omega) (by omega)]
  cases (decide (-200 ≤ x) && decide (x ≤ 200)) <;> rfl
theorem l02Point_val {x y : Int} (hx : -32768 ≤ x ∧ x ≤ 32767) (hy : -32768 ≤ y ∧ y ≤ 32767) : spec_l02Point.f ⟨x, y⟩ = some (inP x y) := by
  unfold spec_l02Point.f spec_l02Place.f spec_l02Density.f inP
  simp only [l00In_val, Option.bind_some, w64 (n := x) (by omega) (by omega), w64 (n := y) (by omega) (by omega)]
  cases (decide (-200 ≤ x) && decide (x ≤ 200)) <;> rfl
theorem wpred {i n : Nat} (h : i + 1 < n) (hn : n ≤ 9223372036854775807) : IntKind.wrap .i64 (((i + 1 : Nat) : Int) - 1) = (i : Int) := by
  rw [w64 (by omega) (by omega)]; omega

theorem isCurve_val {c : Cv} (h : In16 c) (hs : Short c) : impl_isCurve.f c = some ((List.range c.length).all (stepB c) && decide (0 < c.length)) := by
  have hs' : c.length ≤ 1048576 := hs
  unfold impl_isCurve.f
  rw [loop_all (bd := impl_isCurve.b1 c) c.length (stepB c) (.inl ()) (.inr false) (fun i hi => ?_) ?_]
  · cases (List.range c.length).all (stepB c) <;> simp
  · simp only [impl_isCurve.b1, Int.lt_irrefl, decide_false, cond_false]
  · have h1 : decide ((i : Int) < (c.length : Int)) = true := by simp; omega
    have hb := h.at hi
    simp only [impl_isCurve.b1, h1, cond_true, inB_ofNat hi]
    rw [show (rd enc_impl_Point c (i : Int)).X = cX c i from rfl, show (rd enc_impl_Point c (i : Int)).Y = cY c i from rfl, isPoint_val hb.1 hb.2, wsucc hi (by omega)]
    unfold stepB
    cases hp : inP (cX c i) (cY c i) with
    | false => rfl
    | true =>
      cases i with
      | zero => rfl
      | succ k =>
        have hk : k < c.length := by omega
        have h2 : decide ((0 : Int) < ((k + 1 : Nat) : Int)) = true := decide_eq_true (by omega)
        simp only [Option.bind_some, Bool.not_true, cond_false, h2, cond_true, wpred hi (by omega), inB_ofNat hk]
        rw [show (rd enc_impl_Point c (k : Int)).X = cX c k from rfl, show (rd enc_impl_Point c (k : Int)).Y = cY c k from rfl]
        simp only [Nat.add_sub_cancel, Bool.true_and, Nat.add_eq_zero_iff, Nat.one_ne_zero, and_false, beq_iff_eq]
        by_cases g1 : cX c (k + 1) ≤ cX c k
        · have : ¬ cX c k < cX c (k + 1) := by omega
          simp [g1, this]
        · have : cX c k < cX c (k + 1) := by omega
          by_cases g2 : cY c (k + 1) < cY c k
          · have : ¬ cY c k ≤ cY c (k + 1) := by omega
            simp [g1, g2, this]
          · have : cY c k ≤ cY c (k + 1) := by omega
            simp [g1, g2, *]
theorem l02Shape_val {c : Cv} (h : In16 c) (hs : Short c) : spec_l02Shape.f c = some ((List.range c.length).all (stepB c) && decide (0 < c.length)) := by
  have hs' : c.length ≤ 1048576 := hs
  unfold spec_l02Shape.f
  rw [loop_all (bd := spec_l02Shape.b1 c) c.length (stepB c) (.inl ()) (.inr false) (fun i hi => ?_) ?_]
  · cases (List.range c.length).all (stepB c) <;> simp
  · simp only [spec_l02Shape.b1, Int.lt_irrefl, decide_false, cond_false]
  · have h1 : decide ((i : Int) < (c.length : Int)) = true := by simp; omega
    have hb := h.at hi
    simp only [spec_l02Shape.b1, h1, cond_true, inB_ofNat hi]
    rw [show (rd enc_impl_Point c (i : Int)).X = cX c i from rfl, show (rd enc_impl_Point c (i : Int)).Y = cY c i from rfl, l02Point_val hb.1 hb.2, wsucc hi (by omega)]
    unfold stepB
    cases hp : inP (cX c i) (cY c i) with
    | false => rfl
    | true =>
      cases i with
      | zero => rfl
      | succ k =>
        have hk : k < c.length := by omega
        have h2 : decide ((0 : Int) < ((k + 1 : Nat) : Int)) = true := decide_eq_true (by omega)
        simp only [Option.bind_some, Bool.not_true, cond_false, h2, cond_true, wpred hi (by omega), inB_ofNat hk]
        rw [show (rd enc_impl_Point c (k : Int)).X = cX c k from rfl, show (rd enc_impl_Point c (k : Int)).Y = cY c k from rfl]
        simp only [Nat.add_sub_cancel, Bool.true_and, Nat.add_eq_zero_iff, Nat.one_ne_zero, and_false, beq_iff_eq]
        by_cases g1 : cX c (k + 1) ≤ cX c k
        · have : ¬ cX c k < cX c (k + 1) := by omega
          simp [g1, this]
        · have : cX c k < cX c (k + 1) := by omega
          by_cases g2 : cY c (k + 1) < cY c k
          · have : ¬ cY c k ≤ cY c (k + 1) := by omega
            simp [g1, g2, this]
          · have : cY c k ≤ cY c (k + 1) := by omega
            simp [g1, g2, *]
theorem ValidCurve_val {c : Cv} (h : In16 c) (hs : Short c) : impl_ValidCurve.f c = some (okC c) := by
  unfold impl_ValidCurve.f okC
  rw [isCurve_val h hs]
  simp only [Option.bind_some]
  have : decide ((c.length : Int) ≤ 12) = decide (c.length ≤ 12) := by by_cases h : c.length ≤ 12 <;> simp [h] <;> omega
  rw [this]
  cases ((List.range c.length).all (stepB c) && decide (0 < c.length)) <;> rfl
theorem l02Ok_val {c : Cv} (h : In16 c) (hs : Short c) : spec_l02Ok.f c = some (okC c) := by
  unfold spec_l02Ok.f okC
  rw [l02Shape_val h hs]
  simp only [Option.bind_some]
  have : decide ((c.length : Int) ≤ 12) = decide (c.length ≤ 12) := by by_cases h : c.length ≤ 12 <;> simp [h] <;> omega
  rw [this]
  cases ((List.range c.length).all (stepB c) && decide (0 < c.length)) <;> rfl

/-- what a curve that is valid is -/
structure Fine (c : Cv) : Prop where
  pos : 0 < c.length
  few : c.length ≤ 12
  bd : ∀ i, i < c.length → (-200 ≤ cX c i ∧ cX c i ≤ 200) ∧ (0 ≤ cY c i ∧ cY c i ≤ 400)
  up : ∀ i, i + 1 < c.length → cX c i < cX c (i + 1) ∧ cY c i ≤ cY c (i + 1)
theorem okC_fine {c : Cv} (h : okC c = true) : Fine c := by
  simp only [okC, Bool.and_eq_true, List.all_eq_true, decide_eq_true_eq, List.mem_range] at h
  obtain ⟨⟨h1, h2⟩, h3⟩ := h
  refine ⟨h2, h3, fun i hi => ?_, fun i hi => ?_⟩
  · have := h1 i hi
    simp only [stepB, inP, Bool.and_eq_true, decide_eq_true_eq] at this
    exact this.1
  · have := h1 (i + 1) hi
    simp only [stepB, Bool.and_eq_true, Nat.add_sub_cancel, Bool.or_eq_true, beq_iff_eq, decide_eq_true_eq] at this
    rcases this.2 with h | h
    · omega
    · exact h
theorem fine_okC {c : Cv} (h : Fine c) : okC c = true := by
  simp only [okC, Bool.and_eq_true, List.all_eq_true, decide_eq_true_eq, List.mem_range]
  refine ⟨⟨fun i hi => ?_, h.pos⟩, h.few⟩
  simp only [stepB, inP, Bool.and_eq_true, decide_eq_true_eq, Bool.or_eq_true, beq_iff_eq]
  refine ⟨h.bd i hi, ?_⟩
  cases i with
  | zero => exact .inl rfl
  | succ k => exact .inr (h.up k hi)
theorem Fine.yle {c : Cv} (h : Fine c) {i : Nat} : ∀ {j : Nat}, i ≤ j → j < c.length → cY c i ≤ cY c j
  | 0, h1, _ => by obtain rfl : i = 0 := by omega
                   exact Int.le_refl _
  | j + 1, h1, h2 => by
    by_cases e : i = j + 1
    · subst e; exact Int.le_refl _
    · have := h.yle (i := i) (j := j) (by omega) (by omega)
      have := (h.up j h2).2
      omega
theorem Fine.xlt {c : Cv} (h : Fine c) {i : Nat} : ∀ {j : Nat}, i < j → j < c.length → cX c i < cX c j
  | 0, h1, _ => by omega
  | j + 1, h1, h2 => by
    by_cases e : i = j
    · subst e; exact (h.up i h2).1
    · have := h.xlt (i := i) (j := j) (by omega) (by omega)
      have := (h.up j h2).1
      omega

/-- the point behind a place -/
def seg (c : Cv) (x : Int) : Nat := (firstN (fun j => decide (x < cX c j)) 1 (c.length - 1)).getD 1
def between (c : Cv) (k : Nat) (x : Int) : Int := cY c (k - 1) + Int.tdiv ((cY c k - cY c (k - 1)) * (x - cX c (k - 1))) (cX c k - cX c (k - 1))
/-- the density at a place -/
def AT (c : Cv) (x : Int) : Int := if x ≤ cX c 0 then cY c 0 else if cX c (c.length - 1) ≤ x then cY c (c.length - 1) else between c (seg c x) x

theorem seg_spec {c : Cv} (h : Fine c) {x : Int} (h0 : ¬ x ≤ cX c 0) (h1 : ¬ cX c (c.length - 1) ≤ x) : 1 ≤ seg c x ∧ seg c x < c.length ∧ x < cX c (seg c x) ∧ ∀ j, j < seg c x → cX c j ≤ x := by
  have hp := h.pos
  have hn : c.length ≠ 1 := fun e => by simp only [e, Nat.sub_self] at h1; omega
  unfold seg
  have hs := @firstN_spec (fun j => decide (x < cX c j)) (c.length - 1) 1
  cases hf : firstN (fun j => decide (x < cX c j)) 1 (c.length - 1) with
  | none =>
    rw [hf] at hs
    exfalso
    have := hs (c.length - 1) (by omega) (by omega)
    simp only [decide_eq_false_iff_not] at this
    omega
  | some k =>
    rw [hf] at hs
    obtain ⟨g1, g2, g3, g4⟩ := hs
    simp only [decide_eq_true_eq] at g3
    refine ⟨g1, by simp only [Option.getD_some]; omega, g3, fun j hj => ?_⟩
    simp only [Option.getD_some] at hj
    by_cases e : j = 0
    · subst e; omega
    · have := g4 j (by omega) hj
      simp only [decide_eq_false_iff_not] at this
      omega
theorem between_bd {c : Cv} (h : Fine c) {k : Nat} (h1 : 1 ≤ k) (h2 : k < c.length) {x : Int} (hx : cX c (k - 1) ≤ x) (hy : x < cX c k) : cY c (k - 1) ≤ between c k x ∧ between c k x ≤ cY c k := by
  obtain ⟨k, rfl⟩ : ∃ j, k = j + 1 := ⟨k - 1, by omega⟩
  simp only [Nat.add_sub_cancel] at *
  have hu := h.up k h2
  unfold between
  simp only [Nat.add_sub_cancel]
  have a1 : 0 ≤ cY c (k + 1) - cY c k := by omega
  have a2 : 0 ≤ x - cX c k := by omega
  have a3 : 0 < cX c (k + 1) - cX c k := by omega
  have a4 := Int.mul_nonneg a1 a2
  rw [Int.tdiv_eq_ediv_of_nonneg a4]
  have b1 := Int.ediv_nonneg a4 (Int.le_of_lt a3)
  have b2 : (cY c (k + 1) - cY c k) * (x - cX c k) / (cX c (k + 1) - cX c k) ≤ cY c (k + 1) - cY c k := by
    have : (cY c (k + 1) - cY c k) * (x - cX c k) ≤ (cY c (k + 1) - cY c k) * (cX c (k + 1) - cX c k) := Int.mul_le_mul_of_nonneg_left (by omega) a1
    have := Int.ediv_le_ediv a3 this
    rwa [Int.mul_ediv_cancel _ (by omega)] at this
  omega
theorem AT_bd {c : Cv} (h : Fine c) (x : Int) : cY c 0 ≤ AT c x ∧ AT c x ≤ cY c (c.length - 1) := by
  have hp := h.pos
  have hy := h.yle (i := 0) (j := c.length - 1) (by omega) (by omega)
  unfold AT
  split
  · omega
  · split
    · omega
    · rename_i h0 h1
      obtain ⟨g1, g2, g3, g4⟩ := seg_spec h h0 h1
      have := between_bd h g1 g2 (g4 _ (by omega)) g3
      have := h.yle (i := 0) (j := seg c x - 1) (by omega) (by omega)
      have := h.yle (i := seg c x) (j := c.length - 1) (by omega) (by omega)
      omega
theorem AT_in {c : Cv} (h : Fine c) (x : Int) : 0 ≤ AT c x ∧ AT c x ≤ 400 := by
  have := AT_bd h x
  have hp := h.pos
  have := h.bd 0 hp
  have := h.bd (c.length - 1) (by omega)
  omega
theorem AT_mono {c : Cv} (h : Fine c) {x y : Int} (hxy : x ≤ y) : AT c x ≤ AT c y := by
  have hp := h.pos
  have bx := AT_bd h x
  have bY := AT_bd h y
  by_cases h0 : x ≤ cX c 0
  · have : AT c x = cY c 0 := by unfold AT; rw [if_pos h0]
    omega
  · by_cases h1 : cX c (c.length - 1) ≤ y
    · have : AT c y = cY c (c.length - 1) := by unfold AT; rw [if_neg (by omega), if_pos h1]
      omega
    · have h0' : ¬ y ≤ cX c 0 := by omega
      have h1' : ¬ cX c (c.length - 1) ≤ x := by omega
      have ex : AT c x = between c (seg c x) x := by unfold AT; rw [if_neg h0, if_neg h1']
      have ey : AT c y = between c (seg c y) y := by unfold AT; rw [if_neg h0', if_neg h1]
      obtain ⟨g1, g2, g3, g4⟩ := seg_spec h h0 h1'
      obtain ⟨k1, k2, k3, k4⟩ := seg_spec h h0' h1
      have hle : seg c x ≤ seg c y := by
        apply Classical.byContradiction
        intro hh
        have := g4 (seg c y) (by omega)
        omega
      rw [ex, ey]
      by_cases e : seg c x = seg c y
      · rw [← e]
        have hu := h.up (seg c x - 1) (by omega)
        rw [show seg c x - 1 + 1 = seg c x by omega] at hu
        have gx := g4 (seg c x - 1) (by omega)
        unfold between
        have a1 : 0 ≤ cY c (seg c x) - cY c (seg c x - 1) := by omega
        rw [Int.tdiv_eq_ediv_of_nonneg (Int.mul_nonneg a1 (by omega)), Int.tdiv_eq_ediv_of_nonneg (Int.mul_nonneg a1 (by omega))]
        have := Int.ediv_le_ediv (c := cX c (seg c x) - cX c (seg c x - 1)) (by omega) (Int.mul_le_mul_of_nonneg_left (show x - cX c (seg c x - 1) ≤ y - cX c (seg c x - 1) by omega) a1)
        omega
      · have b1 := (between_bd h g1 g2 (g4 _ (by omega)) g3).2
        have b2 := (between_bd h k1 k2 (k4 _ (by omega)) k3).1
        have := h.yle (i := seg c x) (j := seg c y - 1) (by omega) (by omega)
        omega

theorem mul_bd {a b : Int} (h1 : 0 ≤ a ∧ a ≤ 400) (h2 : 0 ≤ b ∧ b ≤ 400) : 0 ≤ a * b ∧ a * b ≤ 160000 :=
  ⟨Int.mul_nonneg h1.1 h2.1, by have := Int.mul_le_mul h1.2 h2.2 h2.1 (by decide); omega⟩

theorem Curve_at_val {c : Cv} (h : Fine c) {x : Int} : impl_Curve_at.f c x = some (AT c x) := by
  have hp := h.pos
  have hf := h.few
  have b0 := h.bd 0 hp
  have bl := h.bd (c.length - 1) (by omega)
  unfold impl_Curve_at.f
  have e1 : IntKind.wrap .i64 ((c.length : Int) - 1) = ((c.length - 1 : Nat) : Int) := by rw [w64 (by omega) (by omega)]; omega
  have i0 : inB 0 c.length = true := inB_ofNat (i := 0) hp
  have il : inB ((c.length - 1 : Nat) : Int) c.length = true := inB_ofNat (by omega)
  have r0 : (rd enc_impl_Point c 0).X = cX c 0 := rfl
  have r1 : (rd enc_impl_Point c 0).Y = cY c 0 := rfl
  have r2 : (rd enc_impl_Point c ((c.length - 1 : Nat) : Int)).X = cX c (c.length - 1) := rfl
  have r3 : (rd enc_impl_Point c ((c.length - 1 : Nat) : Int)).Y = cY c (c.length - 1) := rfl
  simp only [e1, Option.bind_some, i0, il, cond_true, r0, r1, r2, r3, w64 (n := cX c 0) (by omega) (by omega), w64 (n := cY c 0) (by omega) (by omega), w64 (n := cX c (c.length - 1)) (by omega) (by omega), w64 (n := cY c (c.length - 1)) (by omega) (by omega)]
  by_cases h0 : x ≤ cX c 0
  · simp [AT, h0]
  · by_cases h1 : cX c (c.length - 1) ≤ x
    · simp [AT, h0, h1]
    · obtain ⟨g1, g2, g3, g4⟩ := seg_spec h h0 h1
      simp only [decide_eq_false h0, decide_eq_false h1, cond_false]
      obtain ⟨k, hk⟩ : ∃ k, seg c x = k + 1 := ⟨seg c x - 1, by omega⟩
      rw [hk] at g1 g2 g3 g4
      rw [loopW_for (bd := impl_Curve_at.b1 c x) (fun i => ((i + 1 : Nat) : Int)) (n := k) (y := ((k + 1 : Nat) : Int)) (fun i hi => ?_) ?_ ?_]
      · have bp := h.bd k (by omega)
        have bq := h.bd (k + 1) g2
        have hu := h.up k g2
        have gx := g4 k (by omega)
        have q0 : (rd enc_impl_Point c ((k + 1 : Nat) : Int)).X = cX c (k + 1) := rfl
        have q1 : (rd enc_impl_Point c ((k + 1 : Nat) : Int)).Y = cY c (k + 1) := rfl
        have q2 : (rd enc_impl_Point c (k : Int)).X = cX c k := rfl
        have q3 : (rd enc_impl_Point c (k : Int)).Y = cY c k := rfl
        have hm := mul_bd (a := cY c (k + 1) - cY c k) (b := x - cX c k) (by omega) (by omega)
        have hbt := between_bd h (k := k + 1) (by omega) g2 (by simpa using gx) g3
        have hne : (cX c (k + 1) - cX c k == 0) = false := by simp; omega
        have heq : AT c x = between c (k + 1) x := by unfold AT; rw [if_neg h0, if_neg h1, hk]
        rw [heq]
        unfold between at hbt ⊢
        simp only [Nat.add_sub_cancel] at hbt ⊢
        have hd : -1000 ≤ Int.tdiv ((cY c (k + 1) - cY c k) * (x - cX c k)) (cX c (k + 1) - cX c k) ∧ Int.tdiv ((cY c (k + 1) - cY c k) * (x - cX c k)) (cX c (k + 1) - cX c k) ≤ 1000 := by omega
        simp only [Option.bind_some, wpred g2 (by omega), inB_ofNat g2, inB_ofNat (show k < c.length by omega), cond_true, q0, q1, q2, q3,
          w64 (n := cX c k) (by omega) (by omega), w64 (n := cY c k) (by omega) (by omega), w16 (n := cX c (k + 1) - cX c k) (by omega) (by omega), w16 (n := cY c (k + 1) - cY c k) (by omega) (by omega),
          w64 (n := cX c (k + 1) - cX c k) (by omega) (by omega), w64 (n := cY c (k + 1) - cY c k) (by omega) (by omega), w64 (n := x - cX c k) (by omega) (by omega), w64 (n := (cY c (k + 1) - cY c k) * (x - cX c k)) (by omega) (by omega),
          w64 (n := Int.tdiv ((cY c (k + 1) - cY c k) * (x - cX c k)) (cX c (k + 1) - cX c k)) (by omega) (by omega), w64 (n := cY c k + Int.tdiv ((cY c (k + 1) - cY c k) * (x - cX c k)) (cX c (k + 1) - cX c k)) (by omega) (by omega), hne, Bool.not_false]
      · have bq := h.bd (k + 1) g2
        simp only [impl_Curve_at.b1, inB_ofNat g2, cond_true]
        rw [show (rd enc_impl_Point c ((k + 1 : Nat) : Int)).X = cX c (k + 1) from rfl, w64 (n := cX c (k + 1)) (by omega) (by omega), decide_eq_false (by omega)]
        rfl
      · rfl
      · have bq := h.bd (i + 1) (by omega)
        have := g4 (i + 1) (by omega)
        simp only [impl_Curve_at.b1, inB_ofNat (show i + 1 < c.length by omega), cond_true]
        rw [show (rd enc_impl_Point c ((i + 1 : Nat) : Int)).X = cX c (i + 1) from rfl, w64 (n := cX c (i + 1)) (by omega) (by omega), decide_eq_true this, wsucc (n := c.length) (by omega) (by omega)]
        rfl
theorem l02At_val {c : Cv} (h : Fine c) {x : Int} : spec_l02At.f c x = some (AT c x) := by
  have hp := h.pos
  have hf := h.few
  have b0 := h.bd 0 hp
  have bl := h.bd (c.length - 1) (by omega)
  unfold spec_l02At.f
  have e1 : IntKind.wrap .i64 ((c.length : Int) - 1) = ((c.length - 1 : Nat) : Int) := by rw [w64 (by omega) (by omega)]; omega
  have i0 : inB 0 c.length = true := inB_ofNat (i := 0) hp
  have il : inB ((c.length - 1 : Nat) : Int) c.length = true := inB_ofNat (by omega)
  have r0 : (rd enc_impl_Point c 0).X = cX c 0 := rfl
  have r1 : (rd enc_impl_Point c 0).Y = cY c 0 := rfl
  have r2 : (rd enc_impl_Point c ((c.length - 1 : Nat) : Int)).X = cX c (c.length - 1) := rfl
  have r3 : (rd enc_impl_Point c ((c.length - 1 : Nat) : Int)).Y = cY c (c.length - 1) := rfl
  simp only [e1, Option.bind_some, i0, il, cond_true, r0, r1, r2, r3, w64 (n := cX c 0) (by omega) (by omega), w64 (n := cY c 0) (by omega) (by omega), w64 (n := cX c (c.length - 1)) (by omega) (by omega), w64 (n := cY c (c.length - 1)) (by omega) (by omega)]
  by_cases h0 : x ≤ cX c 0
  · simp [AT, h0]
  · by_cases h1 : cX c (c.length - 1) ≤ x
    · simp [AT, h0, h1]
    · obtain ⟨g1, g2, g3, g4⟩ := seg_spec h h0 h1
      simp only [decide_eq_false h0, decide_eq_false h1, cond_false]
      obtain ⟨k, hk⟩ : ∃ k, seg c x = k + 1 := ⟨seg c x - 1, by omega⟩
      rw [hk] at g1 g2 g3 g4
      rw [loopW_for (bd := spec_l02At.b1 c x) (fun i => (i : Int)) (n := k) (y := (k : Int)) (fun i hi => ?_) ?_ ?_]
      · have bp := h.bd k (by omega)
        have bq := h.bd (k + 1) g2
        have hu := h.up k g2
        have gx := g4 k (by omega)
        have q0 : (rd enc_impl_Point c ((k + 1 : Nat) : Int)).X = cX c (k + 1) := rfl
        have q1 : (rd enc_impl_Point c ((k + 1 : Nat) : Int)).Y = cY c (k + 1) := rfl
        have q2 : (rd enc_impl_Point c (k : Int)).X = cX c k := rfl
        have q3 : (rd enc_impl_Point c (k : Int)).Y = cY c k := rfl
        have hm := mul_bd (a := cY c (k + 1) - cY c k) (b := x - cX c k) (by omega) (by omega)
        have hbt := between_bd h (k := k + 1) (by omega) g2 (by simpa using gx) g3
        have hne : (cX c (k + 1) - cX c k == 0) = false := by simp; omega
        have heq : AT c x = between c (k + 1) x := by unfold AT; rw [if_neg h0, if_neg h1, hk]
        rw [heq]
        unfold between at hbt ⊢
        simp only [Nat.add_sub_cancel] at hbt ⊢
        have hd : -1000 ≤ Int.tdiv ((cY c (k + 1) - cY c k) * (x - cX c k)) (cX c (k + 1) - cX c k) ∧ Int.tdiv ((cY c (k + 1) - cY c k) * (x - cX c k)) (cX c (k + 1) - cX c k) ≤ 1000 := by omega
        simp only [Option.bind_some, wsucc (show k < c.length by omega) (by omega), inB_ofNat g2, inB_ofNat (show k < c.length by omega), cond_true, q0, q1, q2, q3,
          w64 (n := cX c k) (by omega) (by omega), w64 (n := cY c k) (by omega) (by omega), w64 (n := cX c (k + 1)) (by omega) (by omega), w64 (n := cY c (k + 1)) (by omega) (by omega),
          w64 (n := cX c (k + 1) - cX c k) (by omega) (by omega), w64 (n := cY c (k + 1) - cY c k) (by omega) (by omega), w64 (n := x - cX c k) (by omega) (by omega), w64 (n := (cY c (k + 1) - cY c k) * (x - cX c k)) (by omega) (by omega),
          w64 (n := Int.tdiv ((cY c (k + 1) - cY c k) * (x - cX c k)) (cX c (k + 1) - cX c k)) (by omega) (by omega), w64 (n := cY c k + Int.tdiv ((cY c (k + 1) - cY c k) * (x - cX c k)) (cX c (k + 1) - cX c k)) (by omega) (by omega), hne, Bool.not_false]
      · have bq := h.bd (k + 1) g2
        simp only [spec_l02At.b1, wsucc (show k < c.length by omega) (by omega), inB_ofNat g2, cond_true]
        rw [show (rd enc_impl_Point c ((k + 1 : Nat) : Int)).X = cX c (k + 1) from rfl, w64 (n := cX c (k + 1)) (by omega) (by omega), decide_eq_false (by omega)]
        rfl
      · rfl
      · have bq := h.bd (i + 1) (by omega)
        have := g4 (i + 1) (by omega)
        simp only [spec_l02At.b1, wsucc (show i < c.length by omega) (by omega), inB_ofNat (show i + 1 < c.length by omega), cond_true]
        rw [show (rd enc_impl_Point c ((i + 1 : Nat) : Int)).X = cX c (i + 1) from rfl, w64 (n := cX c (i + 1)) (by omega) (by omega), decide_eq_true this]
        rfl
end Go.Proofs.Ytofhnioboihbgaa
