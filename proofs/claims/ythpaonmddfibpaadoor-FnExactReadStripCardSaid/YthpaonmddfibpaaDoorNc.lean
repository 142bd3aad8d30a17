/- FnExactReadStrip's law: both read the strips that are texts of valid ones, and no others. No condition. -/
import Derived.Test.YthpaonmddfibpaaDoorNb
set_option linter.unusedVariables false
set_option linter.unusedSimpArgs false
namespace Go.Proofs.YthpaonmddfibpaaDoor
open Go.Proofs.YthpaonmddfibpaaDoor.G

def okS (f e b : Int) : Bool := (decide (0 ≤ f) && decide (f ≤ 36)) && ((decide (1 ≤ e) && decide (e ≤ 9)) && ((decide (1 ≤ b) && decide (b ≤ 20)) && decide (f + e * (b - 1) ≤ 36)))
def i8B (n : Int) : Prop := -128 ≤ n ∧ n ≤ 127
theorem i8_rng (n : Int) : i8B (IntKind.wrap .i8 n) := by
  unfold i8B
  simp [IntKind.wrap, IntKind.bits, IntKind.signed]
  split <;> omega
theorem mul_i8 {a c : Int} (h1 : i8B a) (h2 : i8B c) : -20000 ≤ a * (c - 1) ∧ a * (c - 1) ≤ 20000 := by
  have e : (a * (c - 1)).natAbs = a.natAbs * (c - 1).natAbs := Int.natAbs_mul ..
  have : a.natAbs * (c - 1).natAbs ≤ 128 * 129 := Nat.mul_le_mul (by have := h1.1; have := h1.2; omega) (by have := h2.1; have := h2.2; omega)
  omega
theorem mul_pos1 {a c : Int} (h1 : 1 ≤ a) (h2 : 1 ≤ c) : 0 ≤ a * (c - 1) := Int.mul_nonneg (by omega) (by omega)
theorem l00In_val (n a b : Int) : spec_l00In.f n a b = some (decide (a ≤ n) && decide (n ≤ b)) := by
  unfold spec_l00In.f
  by_cases h : a ≤ n <;> simp [h]
theorem within_val (n a b : Int) : impl_within.f n a b = some (decide (a ≤ n) && decide (n ≤ b)) := by
  unfold impl_within.f
  by_cases h : a ≤ n <;> simp [h]
theorem ValidStrip_val {f e b : Int} (h1 : i8B f) (h2 : i8B e) (h3 : i8B b) : impl_ValidStrip.f ⟨f, e, b⟩ = some (okS f e b) := by
  have hm := mul_i8 h2 h3
  obtain ⟨_, _⟩ := h1
  obtain ⟨_, _⟩ := h2
  obtain ⟨_, _⟩ := h3
  unfold impl_ValidStrip.f impl_areThirds.f impl_Strip_light.f okS
  simp only [within_val, Option.bind_some, w64 (n := f) (by omega) (by omega), w64 (n := e) (by omega) (by omega), w64 (n := b) (by omega) (by omega), w64 (n := b - 1) (by omega) (by omega), w64 (n := e * (b - 1)) (by omega) (by omega), w64 (n := f + e * (b - 1)) (by omega) (by omega)]
  cases (decide (0 ≤ f) && decide (f ≤ 36)) <;> cases (decide (1 ≤ e) && decide (e ≤ 9)) <;> cases (decide (1 ≤ b) && decide (b ≤ 20)) <;> rfl
theorem l05Ok_val {f e b : Int} (h1 : i8B f) (h2 : i8B e) (h3 : i8B b) : spec_l05Ok.f ⟨f, e, b⟩ = some (okS f e b) := by
  have hm := mul_i8 h2 h3
  obtain ⟨_, _⟩ := h1
  obtain ⟨_, _⟩ := h2
  obtain ⟨_, _⟩ := h3
  unfold spec_l05Ok.f spec_l03Thirds.f okS
  simp only [l00In_val, Option.bind_some, w64 (n := f) (by omega) (by omega), w64 (n := e) (by omega) (by omega), w64 (n := b) (by omega) (by omega), w64 (n := b - 1) (by omega) (by omega), w64 (n := e * (b - 1)) (by omega) (by omega), w64 (n := f + e * (b - 1)) (by omega) (by omega)]
  by_cases g1 : 0 ≤ f ∧ f ≤ 36
  · by_cases g2 : 1 ≤ e ∧ e ≤ 9
    · by_cases g3 : 1 ≤ b ∧ b ≤ 20
      · have hp := mul_pos1 (a := e) (c := b) g2.1 g3.1
        have h0 : decide (0 ≤ f + e * (b - 1)) = true := decide_eq_true (by omega)
        simp [g1, g2, g3, h0]
      · have : (decide (1 ≤ b) && decide (b ≤ 20)) = false := by simp; omega
        simp [g1, g2, this]
    · have : (decide (1 ≤ e) && decide (e ≤ 9)) = false := by simp; omega
      simp [g1, this]
  · have : (decide (0 ≤ f) && decide (f ≤ 36)) = false := by simp; omega
    simp [this]
theorem okS_nat {f e b : Int} (h : okS f e b = true) : ∃ f' e' b' : Nat, f = f' ∧ e = e' ∧ b = b' ∧ f' ≤ 36 ∧ e' ≤ 9 ∧ b' ≤ 20 := by
  simp only [okS, Bool.and_eq_true, decide_eq_true_eq] at h
  exact ⟨f.toNat, e.toNat, b.toNat, by omega, by omega, by omega, by omega, by omega, by omega⟩

/-- a strip's text -/
def tx (f e b : Nat) : List UInt8 := Lib.decDigits f ++ 32 :: (Lib.decDigits e ++ 32 :: Lib.decDigits b)
theorem tx_len {f e b : Nat} (h1 : f < 100) (h2 : e < 100) (h3 : b < 100) : 2 ≤ (tx f e b).length ∧ (tx f e b).length ≤ 8 := by
  have := decDigits_len h1
  have := decDigits_len h2
  have := decDigits_len h3
  simp only [tx, List.length_append, List.length_cons]
  omega
theorem stripText_val {f e b : Nat} (h1 : f < 100) (h2 : e < 100) (h3 : b < 100) : impl_stripText.f ⟨f, e, b⟩ = some (ba (tx f e b)) := by
  have l1 := decDigits_len h1
  have l2 := decDigits_len h2
  have l3 := decDigits_len h3
  have hd : ∀ {n : Nat}, n < 100 → impl_decimal.f (IntKind.wrap .i64 (n : Int)) = some (ba (Lib.decDigits n)) := fun {n} hn => by
    unfold impl_decimal.f
    rw [w64 (by omega) (by omega), FormatInt_val hn]; rfl
  unfold impl_stripText.f
  rw [hd h1, hd h2, hd h3]
  simp only [Option.bind_some]
  have e32 : (⟨#[32]⟩ : ByteArray) = ba [32] := rfl
  rw [e32, ba_app, ba_app, ba_app, ba_app, cat_ok (by simp; omega), cat_ok (by simp; omega), cat_ok (by simp; omega), cat_ok (by simp; omega)]
  simp [tx]

abbrev Zs : impl_Strip × Int := (⟨0, 0, 0⟩, 5)
/-- what a reader may answer -/
def Ans (l : List UInt8) (r : impl_Strip × Int) : Prop := r = Zs ∨ ∃ f e b : Nat, f ≤ 36 ∧ e ≤ 9 ∧ b ≤ 20 ∧ okS f e b = true ∧ r = (⟨f, e, b⟩, 0) ∧ l = tx f e b

theorem implRead_ok {l : List UInt8} (hl : l.length ≤ 1048576) : Ok (impl_ReadStrip.f (ba l)) (Ans l) := by
  have hsz : ∀ x ∈ splitP (ba l) (ba [32]) 4, x.size ≤ 1048576 := fun x hx => by
    have := splitB_size _ _ _ _ x hx
    rw [ba_size] at this
    omega
  have hle : (splitP (ba l) (ba [32]) 4).length ≤ 4 := by
    have := splitB_le (ba [32]) 0 (min 4 ((ba l).size + 1) - 1) (ba l)
    unfold splitP
    omega
  have hS : strings_SplitN.f (ba l) (⟨#[32]⟩ : ByteArray) 4 = some (splitP (ba l) (ba [32]) 4) := by
    unfold strings_SplitN.f
    have : ((decide ((ba l).size < 4294967281) && decide (1 ≤ (⟨#[32]⟩ : ByteArray).size)) && (decide ((1 : Int) ≤ 4) && decide ((4 : Int) ≤ 1000000))) = true := by
      rw [ba_size, decide_eq_true (by omega)]; rfl
    rw [this]; rfl
  unfold impl_ReadStrip.f
  rw [hS]
  generalize splitP (ba l) (ba [32]) 4 = ws at hsz hle
  simp only [Option.bind_some]
  refine Ok.bind (Q := fun y => match y with | .inl v => ∀ i : Nat, i < 3 → i8B (rdA v (i : Int)) | .inr r => r = Zs) ?_ fun y hy => ?_
  · refine Ok.loop (fun s => ∃ i : Nat, s.1 = (i : Int) ∧ i ≤ ws.length ∧ i ≤ 3 ∧ ∀ j : Nat, j < 3 → i8B (rdA s.2 (j : Int))) (fun s => ws.length - s.1.toNat) ⟨0, rfl, Nat.zero_le _, by omega, fun j hj => by rw [rdA_zA]; exact ⟨by decide, by decide⟩⟩ ?_
    rintro ⟨s1, v⟩ ⟨i, e1, h1, h2, h3⟩
    simp only at e1
    subst e1
    unfold impl_ReadStrip.b1
    dsimp only
    refine Ok.dif (fun hlt => ?_) fun hge => Ok.some h3
    have hi : i < ws.length := by omega
    refine Ok.must (inB_ofNat hi) (Ok.let ?_)
    have hw : rd eT ws (i : Int) ∈ ws := by rw [rd_ofNat hi]; exact List.getElem_mem hi
    have hP : strconv_ParseInt.f (rd eT ws (i : Int)) 10 8 = some (parse8 (rd eT ws (i : Int))) := by
      unfold strconv_ParseInt.f
      have := hsz _ hw
      have : ((((10 : Int) == 10) && ((8 : Int) == 8)) && decide ((rd eT ws (i : Int)).size ≤ 281474976710656)) = true := by
        rw [decide_eq_true (by omega)]; rfl
      rw [this]; rfl
    rw [hP]
    simp only [Option.bind_some]
    cases (parse8 (rd eT ws (i : Int))).2 with
    | true => exact Ok.some rfl
    | false =>
      by_cases h33 : i = 3
      · subst h33; exact Ok.some rfl
      · have hb : ((i : Int) == 3) = false := by simp; omega
        simp only [cond_false, hb, Option.bind_some]
        refine Ok.must (inB_ofNat (show i < 3 by omega)) (Ok.some ?_)
        rw [wsucc (n := ws.length) hi (by omega)]
        refine ⟨⟨i + 1, rfl, by omega, by omega, fun j hj => ?_⟩, by simp only [Int.toNat_natCast]; omega⟩
        dsimp only
        rw [rdA_wrA _ _ _ _ (by omega)]
        split
        · have := i8_rng (parse8 (rd eT ws (i : Int))).1
          exact this
        · exact h3 j hj
  · cases y with
    | inr r => exact Ok.some (.inl hy)
    | inl v =>
      have g0 := hy 0 (by decide)
      have g1 := hy 1 (by decide)
      have g2 := hy 2 (by decide)
      show Ok (((impl_ValidStrip.f ⟨rdA v 0, rdA v 1, rdA v 2⟩).bind fun r34 => bif (!r34) then (some true) else ((impl_stripText.f ⟨rdA v 0, rdA v 1, rdA v 2⟩).bind fun r38 => some (!(r38.toList == (ba l).toList)))).bind fun y32 => bif y32 then some Zs else some (⟨rdA v 0, rdA v 1, rdA v 2⟩, 0)) (Ans l)
      generalize rdA v 0 = f at g0 ⊢
      generalize rdA v 1 = e at g1 ⊢
      generalize rdA v 2 = b at g2 ⊢
      rw [ValidStrip_val g0 g1 g2]
      cases ho : okS f e b with
      | false => exact Ok.some (.inl rfl)
      | true =>
        obtain ⟨f', e', b', rfl, rfl, rfl, k1, k2, k3⟩ := okS_nat ho
        simp only [Option.bind_some, Bool.not_true, cond_false]
        rw [stripText_val (by omega) (by omega) (by omega)]
        simp only [Option.bind_some]
        cases hq : ((ba (tx f' e' b')).toList == (ba l).toList) with
        | false => exact Ok.some (.inl rfl)
        | true =>
          rw [ByteArray.toList_eq, ByteArray.toList_eq, ba_list, ba_list] at hq
          have hq' : tx f' e' b' = l := by simpa using hq
          exact Ok.some (.inr ⟨f', e', b', k1, k2, k3, ho, rfl, hq'.symm⟩)
theorem implRead_val {f e b : Nat} (h1 : f ≤ 36) (h2 : e ≤ 9) (h3 : b ≤ 20) (ho : okS f e b = true) : impl_ReadStrip.f (ba (tx f e b)) = some (⟨f, e, b⟩, 0) := by
  have hlen := tx_len (f := f) (e := e) (b := b) (by omega) (by omega) (by omega)
  have n1 := dec_no (n := f) (by omega) (c := 32) (by decide)
  have n2 := dec_no (n := e) (by omega) (c := 32) (by decide)
  have n3 := dec_no (n := b) (by omega) (c := 32) (by decide)
  have l1 := decDigits_len (n := f) (by omega)
  have l2 := decDigits_len (n := e) (by omega)
  have l3 := decDigits_len (n := b) (by omega)
  have p1 := (dec_num (n := f) (by omega)).1
  have p2 := (dec_num (n := e) (by omega)).1
  have p3 := (dec_num (n := b) (by omega)).1
  have q1 : 0 < (Lib.decDigits f).length := by
    apply Nat.pos_of_ne_zero
    intro hh
    have : Lib.decDigits f = [] := List.length_eq_zero_iff.1 hh
    rw [this] at p1
    simp [numOk] at p1
  have hS : strings_SplitN.f (ba (tx f e b)) (⟨#[32]⟩ : ByteArray) 4 = some [ba (Lib.decDigits f), ba (Lib.decDigits e), ba (Lib.decDigits b)] := by
    unfold strings_SplitN.f
    have : ((decide ((ba (tx f e b)).size < 4294967281) && decide (1 ≤ (⟨#[32]⟩ : ByteArray).size)) && (decide ((1 : Int) ≤ 4) && decide ((4 : Int) ≤ 1000000))) = true := by
      rw [ba_size, decide_eq_true (by omega)]; rfl
    rw [this]
    simp only [cond_true]
    congr 1
    show Lib.splitB (ba [32]) 0 (min 4 ((ba (tx f e b)).size + 1) - 1) (ba (tx f e b)) = _
    rw [ba_size]
    have e3 : min 4 ((tx f e b).length + 1) - 1 = 2 + min 1 ((tx f e b).length - 2) := by omega
    rw [e3]
    unfold tx
    rw [show 2 + min 1 ((Lib.decDigits f ++ 32 :: (Lib.decDigits e ++ 32 :: Lib.decDigits b)).length - 2) = (1 + min 1 ((Lib.decDigits f ++ 32 :: (Lib.decDigits e ++ 32 :: Lib.decDigits b)).length - 2)) + 1 by omega, splitB_word n1]
    rw [show 1 + min 1 ((Lib.decDigits f ++ 32 :: (Lib.decDigits e ++ 32 :: Lib.decDigits b)).length - 2) = (min 1 ((Lib.decDigits f ++ 32 :: (Lib.decDigits e ++ 32 :: Lib.decDigits b)).length - 2)) + 1 by omega, splitB_word n2, splitB_none n3]
  have hP : ∀ {n : Nat}, n < 100 → strconv_ParseInt.f (ba (Lib.decDigits n)) 10 8 = some ((n : Int), false) := fun {n} hn => by
    have := decDigits_len hn
    unfold strconv_ParseInt.f
    have : ((((10 : Int) == 10) && ((8 : Int) == 8)) && decide ((ba (Lib.decDigits n)).size ≤ 281474976710656)) = true := by
      rw [ba_size, decide_eq_true (by omega)]; rfl
    rw [this, parse_dec hn]; rfl
  unfold impl_ReadStrip.f
  rw [hS]
  simp only [Option.bind_some]
  let st : Nat → Int × Vector Int 3 := fun i => ((i : Int), match i with | 0 => zA 3 | 1 => wrA (zA 3) 0 f | 2 => wrA (wrA (zA 3) 0 f) 1 e | _ => wrA (wrA (wrA (zA 3) 0 f) 1 e) 2 b)
  rw [loopW_for (bd := impl_ReadStrip.b1 [ba (Lib.decDigits f), ba (Lib.decDigits e), ba (Lib.decDigits b)]) st (n := 3) (y := .inl (wrA (wrA (wrA (zA 3) 0 f) 1 e) 2 b)) (fun i hi => ?_) rfl ?_]
  · have r0 : rdA (wrA (wrA (wrA (zA 3) 0 (f : Int)) 1 (e : Int)) 2 (b : Int)) 0 = f := rfl
    have r1 : rdA (wrA (wrA (wrA (zA 3) 0 (f : Int)) 1 (e : Int)) 2 (b : Int)) 1 = e := rfl
    have r2 : rdA (wrA (wrA (wrA (zA 3) 0 (f : Int)) 1 (e : Int)) 2 (b : Int)) 2 = b := rfl
    simp only [Option.bind_some, Sum.elim_inl, r0, r1, r2]
    rw [ValidStrip_val ⟨by omega, by omega⟩ ⟨by omega, by omega⟩ ⟨by omega, by omega⟩, ho, stripText_val (by omega) (by omega) (by omega)]
    simp
  · rfl
  · have hcase : i = 0 ∨ i = 1 ∨ i = 2 := by omega
    rcases hcase with rfl | rfl | rfl
    · have hr : rd eT [ba (Lib.decDigits f), ba (Lib.decDigits e), ba (Lib.decDigits b)] ((0 : Nat) : Int) = ba (Lib.decDigits f) := rfl
      simp only [st, impl_ReadStrip.b1, hr, Option.bind_some]
      rw [hP (by omega)]
      simp only [Option.bind_some, cond_false]
      rw [w8 (n := (f : Int)) (by omega) (by omega)]
      rfl
    · have hr : rd eT [ba (Lib.decDigits f), ba (Lib.decDigits e), ba (Lib.decDigits b)] ((1 : Nat) : Int) = ba (Lib.decDigits e) := rfl
      simp only [st, impl_ReadStrip.b1, hr, Option.bind_some]
      rw [hP (by omega)]
      simp only [Option.bind_some, cond_false]
      rw [w8 (n := (e : Int)) (by omega) (by omega)]
      rfl
    · have hr : rd eT [ba (Lib.decDigits f), ba (Lib.decDigits e), ba (Lib.decDigits b)] ((2 : Nat) : Int) = ba (Lib.decDigits b) := rfl
      simp only [st, impl_ReadStrip.b1, hr, Option.bind_some]
      rw [hP (by omega)]
      simp only [Option.bind_some, cond_false]
      rw [w8 (n := (b : Int)) (by omega) (by omega)]
      rfl
end Go.Proofs.YthpaonmddfibpaaDoor
