/- FnExactOrderGrades' law: both orders are one, and what is marked stays. Conditions: lengths that a slice may have, numbers that an int16 may be. -/
import Derived.Test.YtofhnioboihbgaaCc
set_option linter.unusedVariables false
set_option linter.unusedSimpArgs false
namespace Go.Proofs.Ytofhnioboihbgaa
open Go.Proofs.Ytofhnioboihbgaa.G

theorem loop_cut {σ β : Type} {bd : σ → Option (Step σ β)} (st : Nat → σ) (n : Nat) (p : Nat → Bool) (yes no : β) (h : ∀ i : Nat, i < n → bd (st i) = some (bif p i then .done no else .next (st (i + 1)))) (hd : bd (st n) = some (.done yes)) {s : σ} (hs : s = st 0) :
    loopW bd s = some (match firstN p 0 n with | some _ => no | none => yes) := by
  subst hs
  have key : ∀ d i, i + d = n → loopW bd (st i) = some (match firstN p i d with | some _ => no | none => yes) := by
    intro d
    induction d with
    | zero => intro i hi; obtain rfl : i = n := by omega
              rw [loopW_eq, hd]; rfl
    | succ d ih =>
      intro i hi
      rw [loopW_eq, h i (by omega)]
      unfold firstN
      cases hp : p i with
      | true => simp [Step.run]
      | false => simpa [Step.run] using ih (i + 1) (by omega)
  exact key n 0 (by omega)
theorem room_ok {n m b : Nat} (h : n + m ≤ 2097152) (hb : b ≤ 1024) : roomB n m b = true := by
  have : (n + m) * b ≤ 2097152 * 1024 := Nat.mul_le_mul h hb
  simp [roomB]; omega

def ends (l k : Int) : Bool := dens l && (dens k && decide (l < k))
theorem areScaled_val (l k : Int) : impl_areScaled.f l k = some (ends l k) := by
  unfold impl_areScaled.f ends
  simp only [isDensity_val, Option.bind_some]
  cases dens l <;> cases dens k <;> rfl
theorem l05Ends_val (l k : Int) : spec_l05Ends.f l k = some (ends l k) := by
  unfold spec_l05Ends.f ends
  simp only [l02Density_val, Option.bind_some]
  cases dens l <;> cases dens k <;> rfl

/-- the scale of each paper -/
def Sc (gs : List Cv) (l k z : Int) : Int := gD (scl (rdN gs z) l k)
theorem Sc_bd (gs : List Cv) (l k z : Int) : -1000 ≤ Sc gs l k z ∧ Sc gs l k z ≤ 1000 := by
  unfold Sc
  cases h : scl (rdN gs z) l k with
  | none => simp [gD]
  | some s => exact scl_bd h
def noScale (gs : List Cv) (l k : Int) : Option Nat := firstN (fun i => isN (scl (rdN gs (i : Int)) l k)) 0 gs.length
def ordG (gs : List Cv) (l k : Int) : List Int × Int := bif gcode gs (ends l k) != 0 then ([], gcode gs (ends l k)) else match noScale gs l k with | some _ => ([], 6) | none => (lst gs.length (oS (Sc gs l k) gs.length), 0)

theorem gcode_zero {gs : List Cv} {f : Bool} (h : (gcode gs f != 0) = false) : (∀ c ∈ gs, okC c = true) ∧ 1 ≤ gs.length ∧ gs.length ≤ 6 ∧ f = true := by
  unfold gcode at h
  cases ha : gs.all okC with
  | false => rw [ha] at h; simp at h
  | true =>
    rw [ha] at h
    cases f with
    | false =>
      cases (decide (1 ≤ (gs.length : Int)) && decide ((gs.length : Int) ≤ 6)) <;> rw [cond_true] at h <;> simp at h
    | true =>
      cases hb : (decide (1 ≤ (gs.length : Int)) && decide ((gs.length : Int) ≤ 6)) with
      | false => rw [hb] at h; simp at h
      | true =>
        simp only [Bool.and_eq_true, decide_eq_true_eq] at hb
        exact ⟨List.all_eq_true.1 ha, by omega, by omega, rfl⟩
theorem ends_in {l k : Int} (h : ends l k = true) : dens l = true ∧ dens k = true ∧ l < k := by
  simpa [ends] using h

theorem implOrder_val {gs : List Cv} (h : Good gs) (l k : Int) : impl_OrderGrades.f gs l k = some (ordG gs l k) := by
  have hs' : gs.length ≤ 1048576 := h.1
  unfold impl_OrderGrades.f ordG
  rw [areScaled_val, Option.bind_some, gradesCode_val h, Option.bind_some]
  cases hc : (gcode gs (ends l k) != 0) with
  | true => rfl
  | false =>
    obtain ⟨z1, z2, z3, z4⟩ := gcode_zero hc
    obtain ⟨d1, d2, d3⟩ := ends_in z4
    simp only [cond_false]
    rw [loop_cut (bd := impl_OrderGrades.b1 gs l k) (fun i => ((i : Int), lst i (fun j => (j : Int)), lst i (fun j => Sc gs l k (j : Int)))) gs.length (fun i => isN (scl (rdN gs (i : Int)) l k)) (.inl (lst gs.length (fun j => (j : Int)), lst gs.length (fun j => Sc gs l k (j : Int)))) (.inr ([], 6)) (fun i hi => ?_) ?_ ?_]
    · unfold noScale
      cases firstN (fun i => isN (scl (rdN gs (i : Int)) l k)) 0 gs.length with
      | some m => rfl
      | none =>
        simp only [Option.bind_some, Sum.elim_inl]
        rw [vecOf_lst, impl_sort (S := Sc gs l k) (by rw [lst_len]; omega) (fun x y x0 x1 y0 y1 => ?_)]
        · simp only [Option.bind_some]
          rw [ovec_list, lst_len]
        · rw [lst_len] at x1 y1
          obtain ⟨x', rfl⟩ := Int.eq_ofNat_of_zero_le x0
          obtain ⟨y', rfl⟩ := Int.eq_ofNat_of_zero_le y0
          have b1 := Sc_bd gs l k (x' : Int)
          have b2 := Sc_bd gs l k (y' : Int)
          refine ⟨Sc gs l k (y' : Int) - Sc gs l k (x' : Int), ?_, ?_⟩
          · unfold impl_OrderGrades_1.f
            rw [lst_len, inB_ofNat (show x' < gs.length by omega), inB_ofNat (show y' < gs.length by omega), lst_rd _ (by omega), lst_rd _ (by omega)]
            simp only [cond_true, Option.bind_some]
            rw [w64 (by omega) (by omega)]
          · rw [Bool.eq_iff_iff, decide_eq_true_iff, decide_eq_true_iff]; omega
    · simp only [impl_OrderGrades.b1, Int.lt_irrefl, decide_false, cond_false]
    · rfl
    · have h1 : decide ((i : Int) < (gs.length : Int)) = true := by simp; omega
      have hF := okC_fine (z1 _ (show rdN gs (i : Int) ∈ gs by rw [rdN_ofNat hi]; exact List.getElem_mem hi))
      simp only [impl_OrderGrades.b1, h1, cond_true, inB_ofNat hi]
      rw [scale_val hF d1, wsucc hi (by omega), lst_len, lst_len, room_ok (by omega) (by decide)]
      cases hsc : scl (rdN gs (i : Int)) l k with
      | none => rfl
      | some s =>
        have hS : Sc gs l k (i : Int) = s := by unfold Sc; rw [hsc]; rfl
        simp only [isN, Option.bind_some, bne_self_eq_false, cond_false, cond_true]
        have q1 : lst i (fun j => (j : Int)) ++ [(i : Int)] = lst (i + 1) (fun j => (j : Int)) := by
          rw [lst_app]
          exact lst_ext fun j hj => by
            by_cases e : j = i
            · subst e; simp
            · simp [e]
        have q2 : lst i (fun j => Sc gs l k (j : Int)) ++ [s] = lst (i + 1) (fun j => Sc gs l k (j : Int)) := by
          rw [lst_app]
          exact lst_ext fun j hj => by
            by_cases e : j = i
            · subst e; simp [hS]
            · simp [e]
        rw [q1, q2]

theorem spec_ins {S : Int → Int} {i : Nat} (hi : i ≤ 1000) (s14 : Int × List Int × List Int) (r22 : Int × Bool) (hsc : s14.2.2 ++ [r22.1] = lst (i + 1) (fun j => S (j : Int))) (hr : r22.1 = S i) :
    ∃ y : Int × List Int, loopW (spec_OrderGrades.b2 s14 r22) ((i : Int), lst (i + 1) (oS S i)) = some y ∧ inB y.1 y.2.length = true ∧ y.2.set y.1.toNat (i : Int) = lst (i + 1) (oS S (i + 1)) := by
  obtain ⟨o1, o2⟩ := oS_in S i
  obtain ⟨c1, c2, c3⟩ := cnt_spec S (oS S i) i
  let g : Nat → Nat → Int := fun t j => if j ≤ i - t then oS S i j else oS S i (j - 1)
  have body : ∀ t, t < i → rd (eI .i64) (lst (i + 1) (g t)) ((i - t - 1 : Nat) : Int) = oS S i (i - 1 - t) ∧ inB (oS S i (i - 1 - t)) (lst (i + 1) (fun j => S (j : Int))).length = true ∧ rd (eI .i64) (lst (i + 1) (fun j => S (j : Int))) (oS S i (i - 1 - t)) = S (oS S i (i - 1 - t)) := fun t ht => by
    obtain ⟨p1, p2⟩ := o2 (i - 1 - t) (by omega)
    refine ⟨?_, ?_, ?_⟩
    · rw [lst_rd _ (by omega)]
      simp only [g]
      rw [if_pos (by omega)]
      congr 1; omega
    · rw [lst_len]; exact inB_of p1 (by omega)
    · obtain ⟨z, hz⟩ := Int.eq_ofNat_of_zero_le p1
      rw [hz, lst_rd _ (by omega)]
  refine ⟨(((i - cnt S (oS S i) i : Nat) : Int), lst (i + 1) (g (cnt S (oS S i) i))), ?_, ?_, ?_⟩
  · refine loopW_for (bd := spec_OrderGrades.b2 s14 r22) (fun t => (((i - t : Nat) : Int), lst (i + 1) (g t))) (n := cnt S (oS S i) i) (fun t ht => ?_) ?_ ?_
    · have hti : t < i := by omega
      have g1 : (0 : Int) < ((i - t : Nat) : Int) := by omega
      have e9 : IntKind.wrap .i64 (((i - t : Nat) : Int) - 1) = ((i - t - 1 : Nat) : Int) := by rw [w64 (by omega) (by omega)]; omega
      obtain ⟨b1, b2, b3⟩ := body t hti
      simp only [spec_OrderGrades.b2]
      rw [decide_eq_true g1, e9, hsc, b1, b2, b3, hr, lst_len, inB_ofNat (show i - t - 1 < i + 1 by omega), inB_ofNat (show i - t < i + 1 by omega), decide_eq_true (c2 t ht), Int.toNat_natCast, lst_set]
      simp only [cond_true, Option.bind_some]
      rw [show i - (t + 1) = i - t - 1 by omega]
      congr 3
      apply lst_ext
      intro j hj
      simp only [g]
      by_cases q1 : j = i - t
      · rw [if_pos q1, if_neg (by omega)]
        congr 1; omega
      · rw [if_neg q1]
        by_cases q2 : j ≤ i - t
        · rw [if_pos q2, if_pos (by omega)]
        · rw [if_neg q2, if_neg (by omega)]
    · simp only [spec_OrderGrades.b2]
      by_cases e : cnt S (oS S i) i = i
      · have : ¬ ((0 : Int) < ((i - cnt S (oS S i) i : Nat) : Int)) := by omega
        rw [decide_eq_false this]; rfl
      · have g1 : (0 : Int) < ((i - cnt S (oS S i) i : Nat) : Int) := by omega
        have e9 : IntKind.wrap .i64 (((i - cnt S (oS S i) i : Nat) : Int) - 1) = ((i - cnt S (oS S i) i - 1 : Nat) : Int) := by rw [w64 (by omega) (by omega)]; omega
        obtain ⟨b1, b2, b3⟩ := body (cnt S (oS S i) i) (by omega)
        rw [decide_eq_true g1, e9, hsc, b1, b2, b3, hr, lst_len, inB_ofNat (show i - cnt S (oS S i) i - 1 < i + 1 by omega), decide_eq_false (c3 (by omega))]
        rfl
    · have : lst (i + 1) (g 0) = lst (i + 1) (oS S i) := lst_ext fun j hj => by
        simp only [g]
        rw [if_pos (by omega)]
      simp only [Nat.sub_zero, this]
  · simp only
    rw [lst_len]
    exact inB_ofNat (by omega)
  · simp only [Int.toNat_natCast]
    rw [lst_set]
    apply lst_ext
    intro j hj
    show _ = insF S (oS S i) i j
    unfold insF
    simp only [g]
    by_cases q1 : j = i - cnt S (oS S i) i
    · rw [if_pos q1, if_neg (by omega), if_pos q1]
    · rw [if_neg q1]
      by_cases q2 : j < i - cnt S (oS S i) i
      · rw [if_pos q2, if_pos (by omega)]
      · rw [if_neg q2, if_neg q1, if_neg (by omega), if_pos (by omega)]
theorem specOrder_val {gs : List Cv} (h : Good gs) (l k : Int) : spec_OrderGrades.f gs l k = some (ordG gs l k) := by
  have hs' : gs.length ≤ 1048576 := h.1
  unfold spec_OrderGrades.f ordG
  rw [l05Ends_val, Option.bind_some, l05Grades_val h, Option.bind_some]
  cases hc : (gcode gs (ends l k) != 0) with
  | true => rfl
  | false =>
    obtain ⟨z1, z2, z3, z4⟩ := gcode_zero hc
    obtain ⟨d1, d2, d3⟩ := ends_in z4
    simp only [cond_false]
    rw [loop_cut (bd := spec_OrderGrades.b1 gs l k) (fun i => ((i : Int), lst i (oS (Sc gs l k) i), lst i (fun j => Sc gs l k (j : Int)))) gs.length (fun i => isN (scl (rdN gs (i : Int)) l k)) (.inl (lst gs.length (oS (Sc gs l k) gs.length), lst gs.length (fun j => Sc gs l k (j : Int)))) (.inr ([], 6)) (fun i hi => ?_) ?_ ?_]
    · unfold noScale
      cases firstN (fun i => isN (scl (rdN gs (i : Int)) l k)) 0 gs.length with
      | some m => rfl
      | none => rfl
    · simp only [spec_OrderGrades.b1, Int.lt_irrefl, decide_false, cond_false]
    · rfl
    · have h1 : decide ((i : Int) < (gs.length : Int)) = true := by simp; omega
      have hm : rdN gs (i : Int) ∈ gs := by rw [rdN_ofNat hi]; exact List.getElem_mem hi
      simp only [spec_OrderGrades.b1, h1, cond_true, inB_ofNat hi]
      rw [l05Scale_val (h.at hi).1 (h.at hi).2 (z1 _ hm) d1 d2, wsucc hi (by omega), lst_len, lst_len, room_ok (by omega) (by decide)]
      cases hsc : scl (rdN gs (i : Int)) l k with
      | none => rfl
      | some s =>
        have hS : Sc gs l k (i : Int) = s := by unfold Sc; rw [hsc]; rfl
        simp only [isN, Option.bind_some, Bool.not_true, cond_false, cond_true]
        have q1 : lst i (oS (Sc gs l k) i) ++ [(i : Int)] = lst (i + 1) (oS (Sc gs l k) i) := by
          rw [lst_app]
          exact lst_ext fun j hj => by
            by_cases e : j = i
            · subst e; rw [if_pos rfl, (oS_in _ _).1 _ (Nat.le_refl _)]
            · rw [if_neg e]
        have q2 : lst i (fun j => Sc gs l k (j : Int)) ++ [s] = lst (i + 1) (fun j => Sc gs l k (j : Int)) := by
          rw [lst_app]
          exact lst_ext fun j hj => by
            by_cases e : j = i
            · subst e; simp [hS]
            · simp [e]
        obtain ⟨y, y1, y2, y3⟩ := spec_ins (S := Sc gs l k) (i := i) (by omega) ((i : Int), lst i (oS (Sc gs l k) i), lst i (fun j => Sc gs l k (j : Int))) (s, true) q2 hS.symm
        rw [q1, y1]
        simp only [Option.bind_some]
        rw [y2, y3, q2]
        rfl

/-! ### Marks -/

theorem eqInt64S_same {a : List Int} (ha : Short a) : laws_eqInt64S.f a a = some true := by
  have ha' : a.length ≤ 1048576 := ha
  unfold laws_eqInt64S.f
  rw [bne_self_eq_false, cond_false, loop_all (bd := laws_eqInt64S.b1 a a) a.length (fun i => true) (.inl ()) (.inr false) (fun i hi => ?_) ?_]
  · have : ((List.range a.length).all fun i => true) = true := by simp
    rw [this]; rfl
  · simp only [laws_eqInt64S.b1, Int.lt_irrefl, decide_false, cond_false]
  · have h1 : decide ((i : Int) < (a.length : Int)) = true := by simp; omega
    simp only [laws_eqInt64S.b1, h1, cond_true, inB_ofNat hi, bne_self_eq_false, cond_false, Option.bind_some]
    rw [wsucc hi (by omega)]
theorem markInt64S_val {n : Nat} (hn : n ≤ 1048576) (v : Vector Int n) : laws_markInt64S.f n v 1 = some (1 + (n : Int), ovec n (fun j => 1 + (j : Int))) := by
  unfold laws_markInt64S.f
  let st : Nat → Int × Int × Vector Int n := fun i => (1 + (i : Int), (i : Int), ovec n (fun j => if j < i then 1 + (j : Int) else rdA v (j : Int)))
  rw [loopW_for (bd := laws_markInt64S.b1 n) st (n := n) (y := (1 + (n : Int), ovec n (fun j => 1 + (j : Int)))) (fun i hi => ?_) ?_ ?_]
  · rfl
  · simp only [st, laws_markInt64S.b1, Int.lt_irrefl, decide_false, cond_false]
    rw [ovec_ext (fun j hj => by rw [if_pos hj])]
  · simp only [st]
    have : ovec n (fun j => if j < 0 then 1 + (j : Int) else rdA v (j : Int)) = v := vec_ext fun j hj => by rw [ovec_rd _ hj, if_neg (by omega)]
    rw [this]; rfl
  · have h1 : decide ((i : Int) < (n : Int)) = true := decide_eq_true (by omega)
    simp only [st, laws_markInt64S.b1, h1, cond_true, inB_ofNat hi, Option.bind_some]
    rw [wsucc hi (by omega), w64 (n := 1 + (i : Int) + 1) (by omega) (by omega), ovec_set _ _ hi]
    have : ovec n (fun j => if j = i then 1 + (i : Int) else if j < i then 1 + (j : Int) else rdA v (j : Int)) = ovec n (fun j => if j < i + 1 then 1 + (j : Int) else rdA v (j : Int)) := ovec_ext fun j hj => by
      by_cases e : j = i
      · subst e; rw [if_pos rfl, if_pos (by omega)]
      · rw [if_neg e]
        by_cases e2 : j < i
        · rw [if_pos e2, if_pos (by omega)]
        · rw [if_neg e2, if_neg (by omega)]
    rw [this, show 1 + (i : Int) + 1 = 1 + ((i + 1 : Nat) : Int) by omega]
theorem heldInt64S_val {n : Nat} (hn : n ≤ 1048576) : laws_heldInt64S.f (lst n (fun j => 1 + (j : Int))) 1 = some (1 + (n : Int)) := by
  unfold laws_heldInt64S.f
  rw [loopW_for (bd := laws_heldInt64S.b1 (lst n (fun j => 1 + (j : Int)))) (fun i => (1 + (i : Int), (i : Int))) (n := n) (y := .inl (1 + (n : Int))) (fun i hi => ?_) ?_ ?_]
  · rfl
  · simp only [laws_heldInt64S.b1, lst_len, Int.lt_irrefl, decide_false, cond_false]
  · rfl
  · have h1 : decide ((i : Int) < (n : Int)) = true := decide_eq_true (by omega)
    simp only [laws_heldInt64S.b1, lst_len, h1, cond_true, inB_ofNat hi]
    rw [lst_rd _ hi]
    simp only [bne_self_eq_false, cond_false, Option.bind_some]
    rw [wsucc hi (by omega), w64 (n := 1 + (i : Int) + 1) (by omega) (by omega), show 1 + (i : Int) + 1 = 1 + ((i + 1 : Nat) : Int) by omega]

theorem markCurve_ok {c : Cv} (hs : Short c) {k : Int} (h0 : 0 ≤ k) (h1 : k ≤ 4611686018427387904) : Ok (laws_markCurve.f c k) fun r => k ≤ r.1 ∧ r.1 ≤ k + 2097152 ∧ Short r.2 := by
  have hs' : c.length ≤ 1048576 := hs
  unfold laws_markCurve.f
  have hL := Ok.loop (bd := laws_markCurve.b1) (s := (k, 0, c)) (fun s => ∃ i : Nat, s.2.1 = (i : Int) ∧ i ≤ c.length ∧ s.1 = k + 2 * (i : Int) ∧ s.2.2.length = c.length) (fun s => c.length - s.2.1.toNat) (R := fun y => k ≤ y.1 ∧ y.1 ≤ k + 2097152 ∧ Short y.2) ⟨0, rfl, Nat.zero_le _, by simp, rfl⟩ (fun s hI => ?_)
  · exact Ok.bind hL fun y hy => Ok.some hy
  · obtain ⟨i, e, hi, g1, g2⟩ := hI
    obtain ⟨s1, s2, s3⟩ := s
    simp only at e g1 g2
    subst e g1
    unfold laws_markCurve.b1
    simp only
    refine Ok.dif (fun hlt => ?_) fun hge => ?_
    · have hi' : i < s3.length := by omega
      refine Ok.must (inB_ofNat hi') (Ok.let (Ok.let (Ok.must (inB_ofNat (by rw [List.length_set]; exact hi')) (Ok.let (Ok.let (Ok.let ?_))))))
      rw [wsucc hi' (by omega), w64 (n := k + 2 * (i : Int) + 1) (by omega) (by omega), w64 (by omega) (by omega)]
      refine Ok.some ⟨⟨i + 1, rfl, by omega, by simp only; omega, by simp only [List.length_set]; exact g2⟩, ?_⟩
      simp only [Int.toNat_natCast]
      omega
    · refine Ok.some ⟨by simp only; omega, by simp only; omega, ?_⟩
      show s3.length ≤ 1048576
      omega
theorem markCurveS_ok {gs : List Cv} (h : Good gs) : Ok (laws_markCurveS.f gs 1) fun r => 0 ≤ r.1 := by
  have hs' : gs.length ≤ 1048576 := h.1
  unfold laws_markCurveS.f
  have hL := Ok.loop (bd := laws_markCurveS.b1) (s := (1, 0, gs)) (fun s => ∃ i : Nat, s.2.1 = (i : Int) ∧ i ≤ gs.length ∧ 1 ≤ s.1 ∧ s.1 ≤ 1 + 2097152 * (i : Int) ∧ s.2.2.length = gs.length ∧ ∀ j : Nat, j < gs.length → Short (rdN s.2.2 (j : Int))) (fun s => gs.length - s.2.1.toNat) (R := fun y => 0 ≤ y.1) ⟨0, rfl, Nat.zero_le _, by simp, by simp, rfl, fun j hj => (h.at hj).2⟩ (fun s hI => ?_)
  · exact Ok.bind hL fun y hy => Ok.some hy
  · obtain ⟨i, e, hi, g1, g2, g3, g4⟩ := hI
    obtain ⟨s1, s2, s3⟩ := s
    simp only at e g1 g2 g3 g4
    subst e
    unfold laws_markCurveS.b1
    simp only
    refine Ok.dif (fun hlt => ?_) fun hge => ?_
    · have hi' : i < s3.length := by omega
      refine Ok.must (inB_ofNat hi') (Ok.bind (markCurve_ok (g4 i (by omega)) (by omega) (by omega)) fun r hr => Ok.let ?_)
      obtain ⟨r1, r2, r3⟩ := hr
      rw [wsucc hi' (by omega)]
      refine Ok.some ⟨⟨i + 1, rfl, by omega, by simp only; omega, by simp only; omega, by simp only [List.length_set]; exact g3, fun j hj => ?_⟩, ?_⟩
      · simp only [Int.toNat_natCast]
        by_cases e : j = i
        · subst e
          rw [rdN_ofNat (by simpa using hi')]
          simpa using r3
        · rw [rdN_ofNat (by simp; omega)]
          have := g4 j hj
          rw [rdN_ofNat (by omega)] at this
          rw [List.getElem_set_ne (by omega)]
          exact this
      · simp only [Int.toNat_natCast]
        omega
    · exact Ok.some (by simp only; omega)

theorem ordG_short {gs : List Cv} (h : Good gs) (l k : Int) : Short (ordG gs l k).1 := by
  have hs' : gs.length ≤ 1048576 := h.1
  unfold ordG Short
  cases (gcode gs (ends l k) != 0) with
  | true => simp
  | false =>
    simp only [cond_false]
    cases noScale gs l k with
    | some m => simp
    | none => simp only; rw [lst_len]; exact hs'
theorem orderGrades_true {gs : List (List laws_Point)} (h : GoodL gs) (l k : Int) : laws_FnExactOrderGrades.f gs l k = some true := by
  unfold laws_FnExactOrderGrades.f
  obtain ⟨r, hr, hp⟩ := szCurveS_ok h
  rw [hr]
  simp only [Option.bind_some]
  by_cases hb : r < 0
  · simp [hb]
  · obtain ⟨hs, he⟩ := hp.resolve_left hb
    have hg := good_of h hs he
    have ho := ordG_short hg l k
    obtain ⟨m, hm, m0⟩ := markCurveS_ok hg
    simp only [decide_eq_false hb, cond_false]
    rw [toCurveS_val hs he]
    simp only [Option.bind_some]
    rw [specOrder_val hg, implOrder_val hg]
    simp only [Option.bind_some]
    rw [eqInt64S_same ho, eqCurveS_same hg.1 (fun c hc => (hg.2 c hc).2), hm]
    simp only [Option.bind_some, Bool.not_true, cond_false, bne_self_eq_false]
    rw [decide_eq_false (by omega : ¬ m.1 < 0), markInt64S_val ho]
    simp only [Option.bind_some, cond_false]
    rw [ovec_list, heldInt64S_val ho]
    have h9 : decide ((1 : Int) + ((ordG (cvC gs) l k).1.length : Int) < 0) = false := decide_eq_false (by omega)
    simp only [Option.bind_some, h9, cond_false, bne_self_eq_false]
end Go.Proofs.Ytofhnioboihbgaa
