/- FnExactReadStrip's law: the reference's reader, and both joined. No condition. -/
import Derived.Test.YthpaonmddfibpaaDoorNc
set_option linter.unusedVariables false
set_option linter.unusedSimpArgs false
namespace Go.Proofs.YthpaonmddfibpaaDoor
open Go.Proofs.YthpaonmddfibpaaDoor.G

theorem split_tx {f e b : Nat} (h1 : f < 100) (h2 : e < 100) (h3 : b < 100) : splitL 32 (tx f e b) = [Lib.decDigits f, Lib.decDigits e, Lib.decDigits b] := by
  have n1 := dec_no h1 (c := 32) (by decide)
  have n2 := dec_no h2 (c := 32) (by decide)
  have n3 := dec_no h3 (c := 32) (by decide)
  unfold tx
  rw [splitL_word n1, splitL_word n2, splitL_none n3]
/-- the reference's answer to three words -/
def three (a b c : List UInt8) : impl_Strip × Int := if numOk a = true ∧ numOk b = true ∧ numOk c = true ∧ valL a ≤ 100 ∧ valL b ≤ 100 ∧ valL c ≤ 100 ∧ okS (valL a) (valL b) (valL c) = true then (⟨valL a, valL b, valL c⟩, 0) else Zs
theorem specRead_val {l : List UInt8} (hl : l.length ≤ 1048576) : spec_ReadStrip.f (ba l) = some (match splitL 32 l with | [a, b, c] => three a b c | _ => Zs) := by
  unfold spec_ReadStrip.f
  have hS : spec_l01Split.f (ba l) 32 = some ((splitL 32 l).map ba) := l01Split_val hl 32
  rw [hS]
  simp only [Option.bind_some, List.length_map]
  have hj := joinC_splitL 32 l
  generalize splitL 32 l = ws at hj
  match ws, hj with
  | [], _ => rfl
  | [_], _ => rfl
  | [_, _], _ => rfl
  | _ :: _ :: _ :: _ :: r, _ =>
    have : (((r.length + 1 + 1 + 1 + 1 : Nat) : Int) != 3) = true := by simp; omega
    simp only [List.length_cons, this, cond_true]
  | [a, b, c], hj =>
    have hlen : l = a ++ 32 :: (b ++ 32 :: c) := hj.symm
    have hlen2 := congrArg List.length hlen
    simp only [List.length_append, List.length_cons] at hlen2
    have e0 : rd eT ([a, b, c].map ba) 0 = ba a := rfl
    have e1 : rd eT ([a, b, c].map ba) 1 = ba b := rfl
    have e2 : rd eT ([a, b, c].map ba) 2 = ba c := rfl
    have b0 : inB 0 [a, b, c].length = true := rfl
    have b1 : inB 1 [a, b, c].length = true := rfl
    have b2 : inB 2 [a, b, c].length = true := rfl
    have b3 : (([a, b, c].length : Int) != 3) = false := rfl
    rw [b3, b0, b1, b2, e0, e1, e2]
    simp only [cond_true, cond_false]
    rw [l01Number_val (by omega), l01Number_val (by omega), l01Number_val (by omega)]
    simp only [Option.bind_some]
    unfold three
    by_cases g1 : numOk a = true
    · by_cases g2 : numOk b = true
      · by_cases g3 : numOk c = true
        · simp only [if_pos g1, if_pos g2, if_pos g3, Bool.not_true, cond_false]
          by_cases k1 : valL a ≤ 100
          · by_cases k2 : valL b ≤ 100
            · by_cases k3 : valL c ≤ 100
              · rw [decide_eq_false (by omega : ¬ (100 : Int) < (valL a : Int)), decide_eq_false (by omega : ¬ (100 : Int) < (valL b : Int)), decide_eq_false (by omega : ¬ (100 : Int) < (valL c : Int))]
                simp only [cond_false, Option.bind_some]
                rw [w8 (n := (valL a : Int)) (by omega) (by omega), w8 (n := (valL b : Int)) (by omega) (by omega), w8 (n := (valL c : Int)) (by omega) (by omega), l05Ok_val ⟨by omega, by omega⟩ ⟨by omega, by omega⟩ ⟨by omega, by omega⟩]
                simp only [Option.bind_some]
                cases ho : okS (valL a) (valL b) (valL c) with
                | false => simp
                | true => simp [g1, g2, g3, k1, k2, k3]
              · rw [decide_eq_true (by omega : (100 : Int) < (valL c : Int)), if_neg (by rintro ⟨_, _, _, _, _, h, _⟩; exact k3 h)]
                cases decide ((100 : Int) < (valL a : Int)) <;> cases decide ((100 : Int) < (valL b : Int)) <;> rfl
            · rw [decide_eq_true (by omega : (100 : Int) < (valL b : Int)), if_neg (by rintro ⟨_, _, _, _, h, _⟩; exact k2 h)]
              cases decide ((100 : Int) < (valL a : Int)) <;> rfl
          · rw [decide_eq_true (by omega : (100 : Int) < (valL a : Int)), if_neg (by rintro ⟨_, _, _, h, _⟩; exact k1 h)]
            rfl
        · simp [g1, g2, g3]
      · simp [g1, g2]
    · simp [g1]
theorem specRead_ok {l : List UInt8} (hl : l.length ≤ 1048576) : ∃ r, spec_ReadStrip.f (ba l) = some r ∧ Ans l r := by
  refine ⟨_, specRead_val hl, ?_⟩
  have hj := joinC_splitL 32 l
  generalize splitL 32 l = ws at hj
  match ws, hj with
  | [], _ => exact .inl rfl
  | [_], _ => exact .inl rfl
  | [_, _], _ => exact .inl rfl
  | _ :: _ :: _ :: _ :: r, _ => exact .inl rfl
  | [a, b, c], hj =>
    have hlen : l = a ++ 32 :: (b ++ 32 :: c) := hj.symm
    show Ans l (three a b c)
    unfold three
    split
    · rename_i h
      obtain ⟨g1, g2, g3, k1, k2, k3, ho⟩ := h
      obtain ⟨f', e', b', e1, e2, e3, m1, m2, m3⟩ := okS_nat ho
      refine .inr ⟨valL a, valL b, valL c, by omega, by omega, by omega, ho, rfl, ?_⟩
      unfold tx
      rw [decDigits_val _ a rfl g1, decDigits_val _ b rfl g2, decDigits_val _ c rfl g3]
      exact hlen
    · exact .inl rfl
theorem specRead_fwd {f e b : Nat} (h1 : f ≤ 36) (h2 : e ≤ 9) (h3 : b ≤ 20) (ho : okS f e b = true) : spec_ReadStrip.f (ba (tx f e b)) = some (⟨f, e, b⟩, 0) := by
  have hlen := tx_len (f := f) (e := e) (b := b) (by omega) (by omega) (by omega)
  rw [specRead_val (by omega), split_tx (by omega) (by omega) (by omega)]
  simp only
  obtain ⟨n1, v1⟩ := dec_num (n := f) (by omega)
  obtain ⟨n2, v2⟩ := dec_num (n := e) (by omega)
  obtain ⟨n3, v3⟩ := dec_num (n := b) (by omega)
  unfold three
  rw [v1, v2, v3, if_pos ⟨n1, n2, n3, by omega, by omega, by omega, ho⟩]

theorem eqStrip_same (s : impl_Strip) : laws_eqStrip.f s s = some true := by
  unfold laws_eqStrip.f
  simp
theorem readStrip_true (text : ByteArray) : laws_FnExactReadStrip.f text = some true := by
  obtain ⟨l, rfl⟩ : ∃ l, text = ba l := ⟨_, ba_of text⟩
  unfold laws_FnExactReadStrip.f
  rw [ba_size]
  by_cases hb : 1048576 < (l.length : Int)
  · rw [decide_eq_true hb]; rfl
  · rw [decide_eq_false hb]
    have hl : l.length ≤ 1048576 := by omega
    have key : ∃ r, spec_ReadStrip.f (ba l) = some r ∧ impl_ReadStrip.f (ba l) = some r := by
      obtain ⟨r1, e1, a1⟩ := specRead_ok hl
      obtain ⟨r2, e2, a2⟩ := implRead_ok hl
      rcases a1 with rfl | ⟨f, e, b, k1, k2, k3, ho, rfl, hx⟩
      · rcases a2 with rfl | ⟨f, e, b, k1, k2, k3, ho, rfl, hx⟩
        · exact ⟨_, e1, e2⟩
        · rw [hx] at e1 e2 ⊢
          exact ⟨_, specRead_fwd k1 k2 k3 ho, e2⟩
      · rw [hx] at e1 e2 ⊢
        exact ⟨_, e1, implRead_val k1 k2 k3 ho⟩
    obtain ⟨r, e1, e2⟩ := key
    rw [e1, e2]
    simp only [Option.bind_some, cond_false]
    rw [eqStrip_same]
    simp
end Go.Proofs.YthpaonmddfibpaaDoor
