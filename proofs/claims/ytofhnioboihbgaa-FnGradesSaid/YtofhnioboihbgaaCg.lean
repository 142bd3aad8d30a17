/- FnGrades' law, joined: it answers true for all bytes. -/
import Derived.Test.YtofhnioboihbgaaCf
set_option linter.unusedVariables false
set_option linter.unusedSimpArgs false
namespace Go.Proofs.Ytofhnioboihbgaa
open Go.Proofs.Ytofhnioboihbgaa.G

/-- what a best grade is -/
def BestSpec (gs : List Cv) (a b k l : Int) (B : Int × Int × Int × Int) : Prop :=
  (B.2.2.2 = 0 ∧ (-1000 ≤ B.2.2.1 ∧ B.2.2.1 ≤ 1000) ∧ (∀ j : Nat, j < gs.length → (mis (rdN gs (j : Int)) a b k l).2.2 = 0 → B.2.2.1.natAbs ≤ (mis (rdN gs (j : Int)) a b k l).2.1.natAbs) ∧ ∀ j : Nat, j < gs.length → (j : Int) = B.1 → (mis (rdN gs (j : Int)) a b k l).1 = B.2.1 ∧ (mis (rdN gs (j : Int)) a b k l).2.1 = B.2.2.1) ∨
  (B.2.2.2 = 6 ∧ ∀ j : Nat, j < gs.length → (mis (rdN gs (j : Int)) a b k l).2.2 ≠ 0)
theorem best_spec {gs : List Cv} {a b k l : Int} (h : gcode gs (four a b k l) = 0) : BestSpec gs a b k l (bestG gs a b k l) := by
  unfold bestG
  rw [h]
  simp only [bne_self_eq_false, cond_false]
  by_cases hb : (bst gs a b k l gs.length).1 < 0
  · rw [decide_eq_true hb]
    refine .inr ⟨rfl, fun j hj h0 => ?_⟩
    have := (bst_ge gs a b k l _ j hj h0).1
    omega
  · rw [decide_eq_false hb]
    refine .inl ⟨rfl, bst_bd gs a b k l _, fun j hj h0 => (bst_ge gs a b k l _ j hj h0).2, fun j hj e => ?_⟩
    simp only [cond_false] at e ⊢
    rcases bst_from gs a b k l gs.length with g | ⟨m, _, g⟩
    · omega
    · rw [g] at e ⊢
      simp only at e
      have : j = m := by omega
      subst this
      exact ⟨rfl, rfl⟩
theorem loop1_val {gs : List Cv} {c0 c1 c2 : Cv} (hgs : gs = [c0, c1, c2]) (hg : Good gs) {a b k l : Int} {B : Int × Int × Int × Int} (hB : BestSpec gs a b k l B) : loopW (laws_FnGrades.b1 c0 c1 c2 a b k l B B) 0 = some (.inl ()) := by
  have hs' : gs.length ≤ 1048576 := hg.1
  rw [loop_all (bd := laws_FnGrades.b1 c0 c1 c2 a b k l B B) gs.length (fun i => true) (.inl ()) (.inr false) (fun i hi => ?_) ?_]
  · have : ((List.range gs.length).all fun i => true) = true := by simp
    rw [this]; rfl
  · simp only [laws_FnGrades.b1]
    rw [← hgs]
    simp only [Int.lt_irrefl, decide_false, cond_false]
  · have h1 : decide ((i : Int) < (gs.length : Int)) = true := by simp; omega
    simp only [laws_FnGrades.b1]
    rw [← hgs]
    rw [h1, inB_ofNat hi, implMis_val (hg.at hi).1 (hg.at hi).2, specMis_val (hg.at hi).1 (hg.at hi).2, wsucc hi (by omega)]
    simp only [cond_true, Option.bind_some, bne_self_eq_false, cond_false]
    have mb := mis_bd (rdN gs (i : Int)) a b k l
    rcases hB with ⟨b1, b2, b3, b4⟩ | ⟨b1, b2⟩
    · rw [b1, mx_abs (by omega), mx_abs (by omega)]
      have hlast : (bif (i : Int) == B.1 then (bif (0 : Int) == 0 then (bif (mis (rdN gs (i : Int)) a b k l).1 != B.2.1 then some true else some ((mis (rdN gs (i : Int)) a b k l).2.1 != B.2.2.1)) else some false) else some false : Option Bool) = some false := by
        by_cases e : (i : Int) = B.1
        · obtain ⟨g1, g2⟩ := b4 i hi e
          rw [g1, g2]
          simp [e]
        · have : ((i : Int) == B.1) = false := by simp [e]
          rw [this]; rfl
      cases hc : ((mis (rdN gs (i : Int)) a b k l).2.2 == 0) with
      | true =>
        have := b3 i hi (by simpa using hc)
        rw [decide_eq_false (by omega : ¬ ((mis (rdN gs (i : Int)) a b k l).2.1.natAbs : Int) < (B.2.2.1.natAbs : Int)), hlast]
        rfl
      | false =>
        rw [hlast]
        rfl
    · have hc : ((mis (rdN gs (i : Int)) a b k l).2.2 == 0) = false := by simpa using b2 i hi
      rw [b1, hc]
      cases ((i : Int) == B.1) <;> rfl
theorem loop2_val {gs : List Cv} {c0 c1 c2 : Cv} (hgs : gs = [c0, c1, c2]) (hf : ∀ i : Nat, i < gs.length → Fine (rdN gs (i : Int)) ∧ In16 (rdN gs (i : Int))) {l : Int} (h0 : 0 ≤ l) (h1 : l ≤ 100) : loopW (laws_FnGrades.b2 c0 c1 c2 l) (true, 0) = some (noScale gs l (l + 20)).isNone := by
  have hs' : gs.length = 3 := by rw [hgs]; rfl
  have he : ends l (l + 20) = true := by simp [ends, dens]; omega
  rw [allScaled]
  refine loopW_for (bd := laws_FnGrades.b2 c0 c1 c2 l) (fun i => ((List.range i).all fun j => !(isN (scl (rdN gs (j : Int)) l (l + 20))), (i : Int))) (n := gs.length) (fun i hi => ?_) ?_ ?_
  · have h1 : decide ((i : Int) < (gs.length : Int)) = true := by simp; omega
    obtain ⟨f1, f2⟩ := hf i hi
    simp only [laws_FnGrades.b2]
    rw [← hgs, h1, inB_ofNat hi, w64 (n := l + 20) (by omega) (by omega), implScaleOf_val f1 f2 he, wsucc hi (by omega), List.range_succ, List.all_append]
    simp only [cond_true, Option.bind_some, scO_code, List.all_cons, List.all_nil, Bool.and_true]
    cases (List.range i).all fun j => !(isN (scl (rdN gs (j : Int)) l (l + 20))) <;> rfl
  · simp only [laws_FnGrades.b2]
    rw [← hgs]
    simp only [Int.lt_irrefl, decide_false, cond_false]
  · rfl
theorem loop3_val {gs : List Cv} {c0 c1 c2 : Cv} (hgs : gs = [c0, c1, c2]) (hf : ∀ i : Nat, i < gs.length → Fine (rdN gs (i : Int)) ∧ In16 (rdN gs (i : Int))) {l : Int} (h0 : 0 ≤ l) (h1 : l ≤ 100) (hz : gcode gs (ends l (l + 20)) = 0) : loopW (laws_FnGrades.b3 c0 c1 c2 l (ordG gs l (l + 20))) 1 = some (.inl ()) := by
  have hs' : gs.length = 3 := by rw [hgs]; rfl
  have he : ends l (l + 20) = true := by simp [ends, dens]; omega
  unfold ordG
  rw [hz]
  simp only [bne_self_eq_false, cond_false]
  cases hn : noScale gs l (l + 20) with
  | some m =>
    refine loopW_for (bd := laws_FnGrades.b3 c0 c1 c2 l ([], 6)) (fun i => 1) (n := 0) (fun i hi => by omega) rfl rfl
  | none =>
    have hall : ∀ i : Nat, i < gs.length → ∃ s, scl (rdN gs (i : Int)) l (l + 20) = some s ∧ Sc gs l (l + 20) (i : Int) = s := fun i hi => by
      have := allScaled gs l (l + 20)
      rw [hn] at this
      have := List.all_eq_true.1 this.symm i (List.mem_range.2 hi)
      unfold Sc
      cases hs : scl (rdN gs (i : Int)) l (l + 20) with
      | none => rw [hs] at this; simp [isN] at this
      | some s => exact ⟨s, rfl, rfl⟩
    refine loopW_for (bd := laws_FnGrades.b3 c0 c1 c2 l (lst gs.length (oS (Sc gs l (l + 20)) gs.length), 0)) (fun i => ((i + 1 : Nat) : Int)) (n := 2) (fun i hi => ?_) ?_ ?_
    · obtain ⟨o1, o2⟩ := oS_in (Sc gs l (l + 20)) gs.length
      have hso := oS_sorted (Sc gs l (l + 20)) gs.length i (by omega)
      obtain ⟨p1, p2⟩ := o2 i (by omega)
      obtain ⟨r1, r2⟩ := o2 (i + 1) (by omega)
      have h1 : decide (((i + 1 : Nat) : Int) < (gs.length : Int)) = true := decide_eq_true (by omega)
      simp only [laws_FnGrades.b3]
      rw [← hgs, lst_len, h1, inB_ofNat (show i + 1 < gs.length by omega), wpred (n := gs.length) (by omega) (by omega), inB_ofNat (show i < gs.length by omega), lst_rd _ (show i + 1 < gs.length by omega), lst_rd _ (show i < gs.length by omega)]
      rw [decide_eq_false (by omega : ¬ oS (Sc gs l (l + 20)) gs.length (i + 1) < 0), decide_eq_false (by omega : ¬ (2 : Int) < oS (Sc gs l (l + 20)) gs.length (i + 1)), decide_eq_false (by omega : ¬ oS (Sc gs l (l + 20)) gs.length i < 0), decide_eq_false (by omega : ¬ (2 : Int) < oS (Sc gs l (l + 20)) gs.length i)]
      rw [inB_of p1 p2, inB_of r1 r2]
      obtain ⟨u, hu⟩ := Int.eq_ofNat_of_zero_le p1
      obtain ⟨v, hv⟩ := Int.eq_ofNat_of_zero_le r1
      rw [hu] at p2 hso ⊢
      rw [hv] at r2 hso ⊢
      obtain ⟨fu1, fu2⟩ := hf u (by omega)
      obtain ⟨fv1, fv2⟩ := hf v (by omega)
      obtain ⟨su, eu, Su⟩ := hall u (by omega)
      obtain ⟨sv, ev, Sv⟩ := hall v (by omega)
      rw [Su, Sv] at hso
      rw [w64 (n := l + 20) (by omega) (by omega), specScaleOf_val fu1 fu2 he, specScaleOf_val fv1 fv2 he]
      simp only [scO, eu, ev, cond_true, cond_false, Option.bind_some, bne_self_eq_false]
      rw [decide_eq_false (by omega : ¬ su < sv), wsucc (n := 3) (by omega) (by omega)]
      rfl
    · simp only [laws_FnGrades.b3]
      rw [lst_len, hs']
      rfl
    · rfl

theorem grades_true (code more : List Int) (hb : Bytes code) (hm : Bytes more) : laws_FnGrades.f code more = some true := by
  unfold laws_FnGrades.f laws_f6big.f
  simp only [Option.bind_some]
  by_cases q1 : 4096 < (code.length : Int)
  · simp [q1]
  by_cases q2 : 4096 < (more.length : Int)
  · simp [q1, q2]
  simp only [decide_eq_false q1, decide_eq_false q2, cond_false, Option.bind_some]
  have hb5 : Bytes ([5] ++ code) := fun n hn => by
    rw [List.mem_append, List.mem_singleton] at hn
    rcases hn with rfl | hn
    · omega
    · exact hb n hn
  obtain ⟨c0, e0, f0, i0⟩ := P6Paper_ok hb
  obtain ⟨c1, e1, f1, i1⟩ := P6Paper_ok hm
  obtain ⟨c2, e2, f2, i2⟩ := P6Paper_ok hb5
  obtain ⟨a, ea, a0, a1⟩ := P6Pick_ok hb (n := 60) (by decide) (by decide)
  obtain ⟨d, ed, d0', d1⟩ := P6Pick_ok hm (n := 120) (by decide) (by decide)
  obtain ⟨k, ek, k0, k1⟩ := P6Pick_ok hm (n := 150) (by decide) (by decide)
  obtain ⟨l, el, l0, l1⟩ := P6Pick_ok hb (n := 80) (by decide) (by decide)
  obtain ⟨x, ex, x0, x1⟩ := P6Pick_ok hm (n := 37) (by decide) (by decide)
  rw [e0, e1]
  simp only [Option.bind_some]
  rw [room_ok (by simp; omega) (by decide), e2, ea, ed, ek, el]
  simp only [Option.bind_some, cond_true]
  rw [w64 (n := a + d) (by omega) (by omega), w64 (n := l + 20) (by omega) (by omega)]
  obtain ⟨gs, hgs⟩ : ∃ gs, gs = [c0, c1, c2] := ⟨_, rfl⟩
  rw [← hgs]
  have hs3 : gs.length = 3 := by rw [hgs]; rfl
  have hg : Good gs := by
    subst hgs
    refine ⟨by simp [Short], fun c hc => ?_⟩
    simp only [List.mem_cons, List.not_mem_nil, or_false] at hc
    rcases hc with rfl | rfl | rfl
    · exact ⟨i0, okC_short f0⟩
    · exact ⟨i1, okC_short f1⟩
    · exact ⟨i2, okC_short f2⟩
  have hf : ∀ i : Nat, i < gs.length → Fine (rdN gs (i : Int)) ∧ In16 (rdN gs (i : Int)) := fun i hi => by
    have hmem : rdN gs (i : Int) ∈ gs := by rw [rdN_ofNat hi]; exact List.getElem_mem hi
    generalize rdN gs (i : Int) = c at hmem ⊢
    subst hgs
    simp only [List.mem_cons, List.not_mem_nil, or_false] at hmem
    rcases hmem with rfl | rfl | rfl
    · exact ⟨f0, i0⟩
    · exact ⟨f1, i1⟩
    · exact ⟨f2, i2⟩
  have hok : gs.all okC = true := by subst hgs; simp [fine_okC f0, fine_okC f1, fine_okC f2]
  have hg0 : gcode gs true = 0 := by
    unfold gcode
    rw [hok, hs3]; rfl
  have hfour : four a (a + d) k l = true := by simp [four, dens]; omega
  have hends : ends l (l + 20) = true := by simp [ends, dens]; omega
  have hB := best_spec (gs := gs) (a := a) (b := a + d) (k := k) (l := l) (by rw [hfour]; exact hg0)
  have hBc : (bestG gs a (a + d) k l).2.2.2 = 0 ∨ (bestG gs a (a + d) k l).2.2.2 = 6 := by
    rcases hB with ⟨h, _⟩ | ⟨h, _⟩
    · exact .inl h
    · exact .inr h
  have hBc2 : (bif (bestG gs a (a + d) k l).2.2.2 != 0 then some ((bestG gs a (a + d) k l).2.2.2 != 6) else some false : Option Bool) = some false := by
    rcases hBc with h | h <;> rw [h] <;> rfl
  rw [implBest_val hg, specBest_val hg]
  simp only [Option.bind_some, bne_self_eq_false, cond_false]
  rw [hBc2]
  simp only [Option.bind_some, cond_false]
  rw [loop1_val hgs hg hB]
  simp only [Option.bind_some, Sum.elim_inl]
  rw [implOrder_val hg, specOrder_val hg, loop2_val hgs hf l0 (by omega)]
  simp only [Option.bind_some, bne_self_eq_false, cond_false]
  rw [same_val (ordG_short hg l (l + 20))]
  have hcode : ((ordG gs l (l + 20)).2 == 0) = (noScale gs l (l + 20)).isNone := by
    unfold ordG
    rw [hends, hg0]
    simp only [bne_self_eq_false, cond_false]
    cases noScale gs l (l + 20) <;> rfl
  rw [hcode]
  simp only [Option.bind_some, Bool.not_true, cond_false, beq_self_eq_true]
  rw [loop3_val hgs hf l0 (by omega) (by rw [hends]; exact hg0)]
  simp only [Option.bind_some, Sum.elim_inl]
  rw [ex]
  have r0 : rdN gs 0 = c0 := by rw [hgs]; rfl
  have r1 : rdN gs 1 = c1 := by rw [hgs]; rfl
  have b0 : inB 0 gs.length = true := by rw [hs3]; rfl
  have b1 : inB 1 gs.length = true := by rw [hs3]; rfl
  simp only [Option.bind_some, r0, r1, b0, b1, cond_true]
  rw [implConv_val f0 f0 i0 i0 x0 (by omega), implConv_val f0 f1 i0 i1 x0 (by omega), specConv_val f0 f1 i0 i1 x0 (by omega), implTab_val f0 f1 i0 i1, specTab_val f0 f1 i0 i1]
  simp only [Option.bind_some]
  obtain ⟨m, rfl⟩ := Int.eq_ofNat_of_zero_le x0
  obtain ⟨k2, hk2, hk3⟩ := lm_self (c := c0) (x := m) (by omega)
  have hself : lmO c0 0 (AT c0 (m : Int)) = ((k2 : Int), 0) := by unfold lmO; rw [hk2]
  have hsh : Short (ctab c0 c1) := by unfold Short ctab; rw [lst_len]; decide
  have hlen : (ctab c0 c1).length = 37 := lst_len _ _
  have hrd : rd (eI .i64) (ctab c0 c1) (m : Int) = lmI c1 0 (AT c0 (m : Int)) := lst_rd _ (by omega)
  rw [hself, same_val hsh, hlen, hrd, inB_ofNat (show m < 37 by omega), decide_eq_false (by omega : ¬ (m : Int) < (k2 : Int))]
  simp only [Option.bind_some, bne_self_eq_false, cond_false, cond_true, Bool.not_true]
  have dA : dens a = true := by simp [dens]; omega
  obtain ⟨k4, hk4, hk5⟩ := lm_self (c := c0) (x := 36) (by omega)
  have hbl : lmO c0 0 (AT c0 36) = ((k4 : Int), 0) := by unfold lmO; rw [show (36 : Int) = ((36 : Nat) : Int) from rfl, hk4]
  rw [implBlack_val f0 i0 dA, specBlack_val f0 i0 dA, implBlack_val f0 i0 d0, hbl]
  have htail : (bif (lmO c0 a (AT c0 36)).2 == (lmO c0 a (AT c0 36)).2 then (bif (lmO c0 a (AT c0 36)).1 == (lmO c0 a (AT c0 36)).1 then (bif (0 : Int) == 0 then (bif decide (0 ≤ (k4 : Int)) then some (decide ((k4 : Int) ≤ 36)) else some false) else some false) else some false) else some false : Option Bool) = some true := by
    have h1 : decide (0 ≤ (k4 : Int)) = true := decide_eq_true (by omega)
    have h2 : decide ((k4 : Int) ≤ 36) = true := decide_eq_true (by omega)
    simp [h1, h2, hk5]
  simp only [Option.bind_some]
  cases hl : lm c1 0 (AT c0 (m : Int)) with
  | none =>
    have g1 : lmO c1 0 (AT c0 (m : Int)) = (0, 6) := by unfold lmO; rw [hl]
    have g2 : lmI c1 0 (AT c0 (m : Int)) = -1 := by unfold lmI; rw [hl]
    rw [g1, g2]
    simp
    omega
  | some z =>
    obtain ⟨z1, z2, z3⟩ := lm_spec hl
    rw [hd0, Int.sub_zero] at z2
    have g1 : lmO c1 0 (AT c0 (m : Int)) = ((z : Int), 0) := by unfold lmO; rw [hl]
    have g2 : lmI c1 0 (AT c0 (m : Int)) = (z : Int) := by unfold lmI; rw [hl]
    rw [g1, g2, implAt_val f0 i0 (by omega) (by omega), implAt_val f1 i1 (by simp only; omega) (by simp only; omega)]
    have g3 : decide (AT c1 (z : Int) < AT c0 (m : Int)) = false := decide_eq_false (by omega)
    have g4 : decide (0 ≤ (z : Int)) = true := decide_eq_true (by omega)
    simp [g3, g4, hk5]
    omega
end Go.Proofs.Ytofhnioboihbgaa
