/- Texts: how the reference splits them and reads numbers, and what decimals are. Condition: texts of at most 2^20 bytes. -/
import Derived.Test.YtadggddaheipgaaDoorVa
set_option linter.unusedVariables false
set_option linter.unusedSimpArgs false
namespace Go.Proofs.YtadggddaheipgaaDoor
open Go.Proofs.YtadggddaheipgaaDoor.G

theorem ba_of (s : ByteArray) : s = ba s.data.toList := by
  apply ByteArray.ext
  simp [ba]
theorem ba_list (l : List UInt8) : (ba l).data.toList = l := by simp [ba]
theorem ba_inj {a b : List UInt8} (h : ba a = ba b) : a = b := by
  have := congrArg (·.data.toList) h
  simpa [ba_list] using this
theorem rdT_ba {l : List UInt8} {i : Nat} (h : i < l.length) : rdT (ba l) (i : Int) = (l[i].toNat : Int) := by
  have : (ba l)[i]? = some l[i] := by
    rw [getElem?_pos (ba l) i (by rw [ba_size]; exact h)]
    rfl
  simp [rdT, this]
theorem subT_ba (l : List UInt8) (a b : Nat) : subT (ba l) (a : Int) (b : Int) = ba ((l.take b).drop a) := by
  apply ByteArray.ext
  apply Array.toList_inj.1
  simp [subT, ba, List.drop_take]

/-! ### Splitting -/

def glue (w : List UInt8) : List (List UInt8) → List (List UInt8)
  | [] => [w]
  | v :: vs => (w ++ v) :: vs
def splitL (c : UInt8) : List UInt8 → List (List UInt8)
  | [] => [[]]
  | x :: r => if x = c then [] :: splitL c r else glue [x] (splitL c r)
theorem splitL_ne (c : UInt8) : ∀ l, splitL c l ≠ []
  | [] => by simp [splitL]
  | x :: r => by
    unfold splitL
    split
    · simp
    · cases splitL c r <;> simp [glue]
theorem glue_glue (a b : List UInt8) {S : List (List UInt8)} (h : S ≠ []) : glue a (glue b S) = glue (a ++ b) S := by
  cases S with
  | nil => exact absurd rfl h
  | cons v vs => simp [glue]
theorem glue_nil {S : List (List UInt8)} (h : S ≠ []) : glue [] S = S := by
  cases S with
  | nil => exact absurd rfl h
  | cons v vs => simp [glue]
theorem splitL_len (c : UInt8) : ∀ l, (splitL c l).length ≤ l.length + 1
  | [] => by simp [splitL]
  | x :: r => by
    have := splitL_len c r
    unfold splitL
    split
    · simp; omega
    · cases h : splitL c r with
      | nil => simp [glue]
      | cons v vs => rw [h] at this; simp [glue] at this ⊢; omega
/-- joined again -/
def joinC (c : UInt8) : List (List UInt8) → List UInt8
  | [] => []
  | [w] => w
  | w :: ws => w ++ c :: joinC c ws
theorem joinC_cons (c : UInt8) (w : List UInt8) {ws : List (List UInt8)} (h : ws ≠ []) : joinC c (w :: ws) = w ++ c :: joinC c ws := by
  cases ws with
  | nil => exact absurd rfl h
  | cons a b => rfl
theorem joinC_glue (c : UInt8) (w : List UInt8) {S : List (List UInt8)} (h : S ≠ []) : joinC c (glue w S) = w ++ joinC c S := by
  cases S with
  | nil => exact absurd rfl h
  | cons v vs =>
    cases vs with
    | nil => rfl
    | cons a b => simp [glue, joinC]
theorem joinC_splitL (c : UInt8) : ∀ l, joinC c (splitL c l) = l
  | [] => rfl
  | x :: r => by
    have ih := joinC_splitL c r
    unfold splitL
    split
    · rename_i h
      rw [joinC_cons c [] (splitL_ne c r), ih, h]; rfl
    · rw [joinC_glue c [x] (splitL_ne c r), ih]; rfl
theorem splitL_none {c : UInt8} : ∀ {l : List UInt8}, (∀ x ∈ l, x ≠ c) → splitL c l = [l]
  | [], _ => rfl
  | x :: r, h => by
    unfold splitL
    rw [if_neg (h x (by simp)), splitL_none fun y hy => h y (by simp [hy])]
    rfl
theorem splitL_word {c : UInt8} {r : List UInt8} : ∀ {w : List UInt8}, (∀ x ∈ w, x ≠ c) → splitL c (w ++ c :: r) = w :: splitL c r
  | [], _ => by simp [splitL]
  | x :: w, h => by
    have e : splitL c (x :: (w ++ c :: r)) = glue [x] (splitL c (w ++ c :: r)) := by
      show (if x = c then _ else _) = _
      rw [if_neg (h x (by simp))]
    show splitL c (x :: (w ++ c :: r)) = _
    rw [e, splitL_word fun y hy => h y (by simp [hy])]
    rfl

theorem room16 {n m : Nat} (h : n + m ≤ 8000000) : roomB n m 16 = true := by
  simp [roomB]; omega
theorem l01Split_val {l : List UInt8} (hl : l.length ≤ 1048576) (c : UInt8) : spec_l01Split.f (ba l) (c.toNat : Int) = some ((splitL c l).map ba) := by
  unfold spec_l01Split.f
  refine Ok.eq (Ok.bind (Q := fun y => ∃ b : Nat, y.1 = (b : Int) ∧ b ≤ l.length ∧ ∃ out : List (List UInt8), y.2 = out.map ba ∧ out.length ≤ l.length ∧ splitL c l = out ++ [l.drop b]) ?_ fun y hy => ?_)
  · refine Ok.loop (fun s => ∃ b i : Nat, s.1 = (b : Int) ∧ s.2.1 = (i : Int) ∧ b ≤ i ∧ i ≤ l.length ∧ ∃ out : List (List UInt8), s.2.2 = out.map ba ∧ out.length ≤ i ∧ splitL c l = out ++ glue ((l.take i).drop b) (splitL c (l.drop i))) (fun s => l.length - s.2.1.toNat) ⟨0, 0, rfl, rfl, Nat.le_refl _, Nat.zero_le _, [], rfl, Nat.le_refl _, ?_⟩ ?_
    · rw [List.take_zero, List.drop_nil, List.drop_zero, glue_nil (splitL_ne c l)]; rfl
    · rintro ⟨s1, s2, s3⟩ ⟨b, i, e1, e2, h1, h2, out, e3, h3, h4⟩
      simp only at e1 e2 e3
      subst e1 e2 e3
      unfold spec_l01Split.b1
      dsimp only
      rw [ba_size]
      refine Ok.dif (fun hlt => ?_) fun hge => ?_
      · have hi : i < l.length := by omega
        have hd : l.drop i = l[i] :: l.drop (i + 1) := List.drop_eq_getElem_cons hi
        have ht : (l.take (i + 1)).drop b = (l.take i).drop b ++ [l[i]] := by
          rw [List.take_add_one, List.getElem?_eq_getElem hi, List.drop_append_of_le_length (by simp; omega)]
          rfl
        refine Ok.must (inB_ofNat hi) ?_
        rw [rdT_ba hi, wsucc (n := l.length) hi (by omega)]
        by_cases hc : l[i] = c
        · have hb : ((l[i].toNat : Int) == (c.toNat : Int)) = true := by simp [hc]
          rw [hb]
          refine Ok.must (inS_iff.2 ⟨by omega, by omega, by omega⟩) (Ok.must (by rw [List.length_map]; exact room16 (by omega)) (Ok.let (Ok.let (Ok.some ?_))))
          rw [subT_ba]
          refine ⟨⟨i + 1, i + 1, rfl, rfl, Nat.le_refl _, by omega, out ++ [(l.take i).drop b], by simp, by simp; omega, ?_⟩, ?_⟩
          · rw [h4, hd]
            have : splitL c (l[i] :: l.drop (i + 1)) = [] :: splitL c (l.drop (i + 1)) := by
              show (if l[i] = c then _ else _) = _
              rw [if_pos hc]
            rw [this]
            have h9 : (l.take (i + 1)).drop (i + 1) = [] := by rw [List.drop_eq_nil_iff]; simp; omega
            rw [h9, glue_nil (splitL_ne c _)]
            simp [glue]
          · simp only [Int.toNat_natCast]; omega
        · have hb : ((l[i].toNat : Int) == (c.toNat : Int)) = false := by
            simp
            intro h
            exact hc (UInt8.toNat_inj.1 (by omega))
          rw [hb]
          refine Ok.let (Ok.some ⟨⟨b, i + 1, rfl, rfl, by omega, by omega, out, rfl, by omega, ?_⟩, ?_⟩)
          · rw [h4, hd]
            have : splitL c (l[i] :: l.drop (i + 1)) = glue [l[i]] (splitL c (l.drop (i + 1))) := by
              show (if l[i] = c then _ else _) = _
              rw [if_neg hc]
            rw [this, glue_glue _ _ (splitL_ne c _), ht]
          · simp only [Int.toNat_natCast]; omega
      · have hi : i = l.length := by omega
        subst hi
        refine Ok.some ⟨b, rfl, h1, out, rfl, h3, ?_⟩
        rw [h4, List.drop_length, List.take_length]
        simp [splitL, glue]
  · obtain ⟨b, e1, h1, out, e2, h2, h3⟩ := hy
    obtain ⟨y1, y2⟩ := y
    simp only at e1 e2
    subst e1 e2
    dsimp only
    rw [ba_size]
    refine Ok.must (inS_iff.2 ⟨by omega, by omega, by omega⟩) (Ok.must (by rw [List.length_map]; exact room16 (by omega)) (Ok.some ?_))
    rw [subT_ba, h3, List.take_length]
    simp

/-! ### Numbers -/

def digB (x : UInt8) : Bool := decide (48 ≤ x.toNat) && decide (x.toNat ≤ 57)
def valL (l : List UInt8) : Nat := l.foldl (fun n x => 10 * n + (x.toNat - 48)) 0
theorem valL_snoc (l : List UInt8) (x : UInt8) : valL (l ++ [x]) = 10 * valL l + (x.toNat - 48) := by simp [valL]
theorem valL_lt : ∀ (n : Nat) (l : List UInt8), l.length = n → l.all digB = true → valL l < 10 ^ n
  | 0, l, h, _ => by
    have : l = [] := List.length_eq_zero_iff.1 h
    subst this; simp [valL]
  | n + 1, l, h, hd => by
    have hne : l ≠ [] := fun e => by subst e; simp at h
    obtain ⟨u, x, rfl⟩ : ∃ u x, l = u ++ [x] := ⟨l.dropLast, l.getLast hne, (List.dropLast_concat_getLast hne).symm⟩
    rw [valL_snoc]
    simp only [List.all_append, List.all_cons, List.all_nil, Bool.and_true, Bool.and_eq_true, digB, decide_eq_true_eq] at hd
    have := valL_lt n u (by simpa using h) hd.1
    rw [Nat.pow_succ]
    omega
def numOk (l : List UInt8) : Bool := (decide (l ≠ []) && decide (l.length ≤ 9)) && ((l.all digB) && !(decide (l.head? = some 48) && decide (1 < l.length)))
theorem decDigits_val : ∀ (n : Nat) (l : List UInt8), l.length = n → numOk l = true → Lib.decDigits (valL l) = l
  | 0, l, h, hk => by
    have : l = [] := List.length_eq_zero_iff.1 h
    subst this; simp [numOk] at hk
  | n + 1, l, h, hk => by
    have hne : l ≠ [] := fun e => by subst e; simp at h
    obtain ⟨u, x, rfl⟩ : ∃ u x, l = u ++ [x] := ⟨l.dropLast, l.getLast hne, (List.dropLast_concat_getLast hne).symm⟩
    have hu : u.length = n := by simpa using h
    simp only [numOk, List.all_append, List.all_cons, List.all_nil, Bool.and_true, Bool.and_eq_true, decide_eq_true_eq, digB, Bool.not_eq_true', Bool.and_eq_false_iff, decide_eq_false_iff_not] at hk
    obtain ⟨⟨_, hl⟩, ⟨hd, hx⟩, hz⟩ := hk
    rw [valL_snoc]
    have hxx : UInt8.ofNat (48 + (x.toNat - 48)) = x := by
      rw [show 48 + (x.toNat - 48) = x.toNat by omega]; simp
    cases hu0 : u with
    | nil =>
      subst hu0
      rw [Lib.decDigits, dif_pos (by simp [valL]; omega)]
      simp [valL, hxx]
    | cons y r =>
      have hlen : 1 < (u ++ [x]).length := by rw [hu0]; simp
      have hz' : ¬ (u ++ [x]).head? = some 48 := by rcases hz with h | h; exact h; exact absurd hlen h
      have hku : numOk u = true := by
        simp only [numOk, Bool.and_eq_true, decide_eq_true_eq, Bool.not_eq_true', Bool.and_eq_false_iff, decide_eq_false_iff_not]
        refine ⟨⟨by rw [hu0]; simp, by simp at hl; omega⟩, hd, .inl ?_⟩
        rw [hu0] at hz' ⊢
        simpa using hz'
      have ih := decDigits_val n u hu hku
      have hpos : 0 < valL u := by
        apply Nat.pos_of_ne_zero
        intro e
        rw [e, Lib.decDigits, dif_pos (by decide)] at ih
        rw [← ih] at hz'
        exact hz' rfl
      rw [← hu0, Lib.decDigits, dif_neg (by omega)]
      have e1 : (10 * valL u + (x.toNat - 48)) / 10 = valL u := by omega
      have e2 : (10 * valL u + (x.toNat - 48)) % 10 = x.toNat - 48 := by omega
      rw [e1, e2, ih, hxx]
theorem l01Number_val {l : List UInt8} (hl : l.length ≤ 1048576) : spec_l01Number.f (ba l) = some (if numOk l = true then ((valL l : Int), true) else (0, false)) := by
  unfold spec_l01Number.f
  have e0 : ((ba l).toList == (⟨#[]⟩ : ByteArray).toList) = decide (l = []) := by
    rw [ByteArray.toList_eq, ByteArray.toList_eq, ba_list]
    show (l == []) = _
    rw [Bool.eq_iff_iff, decide_eq_true_iff, beq_iff_eq]
  rw [e0, ba_size]
  by_cases h0 : l = []
  · subst h0; simp [numOk]
  · have hp : 0 < l.length := List.length_pos_iff.2 h0
    rw [decide_eq_false h0]
    by_cases h9 : 9 < (l.length : Int)
    · rw [decide_eq_true h9, if_neg (by simp [numOk]; omega)]; rfl
    · have hh : rdT (ba l) 0 = (l[0].toNat : Int) := rdT_ba (i := 0) hp
      have hhd : l.head? = some l[0] := by cases l with | nil => exact absurd rfl h0 | cons a b => rfl
      rw [decide_eq_false h9, show inB 0 l.length = true from inB_ofNat (i := 0) hp, hh]
      simp only [cond_true, cond_false]
      have key : (bif (l[0].toNat : Int) == 48 then some (decide (1 < (l.length : Int))) else some false : Option Bool) = some (decide (l.head? = some 48) && decide (1 < l.length)) := by
        rw [hhd]
        by_cases e : l[0] = 48
        · have : ((l[0].toNat : Int) == 48) = true := by rw [e]; rfl
          rw [this]
          simp [e]
          omega
        · have : ((l[0].toNat : Int) == 48) = false := by
            simp
            intro h
            exact e (UInt8.toNat_inj.1 (by show l[0].toNat = 48; omega))
          rw [this]
          simp [e]
      rw [key]
      simp only [Option.bind_some]
      cases hz : (decide (l.head? = some 48) && decide (1 < l.length)) with
      | true =>
        rw [if_neg (by unfold numOk; rw [hz]; simp)]; rfl
      | false =>
        simp only [cond_false]
        have hnum : numOk l = l.all digB := by
          unfold numOk
          rw [hz, decide_eq_true h0, decide_eq_true (by omega)]
          simp
        refine Ok.eq (Ok.bind (Q := fun y => y = if numOk l = true then .inl (valL l : Int) else .inr (0, false)) ?_ fun y hy => ?_)
        · refine Ok.loop (fun s => ∃ i : Nat, s.2 = (i : Int) ∧ i ≤ l.length ∧ s.1 = (valL (l.take i) : Int) ∧ (l.take i).all digB = true) (fun s => l.length - s.2.toNat) ⟨0, rfl, Nat.zero_le _, by simp [valL], by simp⟩ ?_
          rintro ⟨s1, s2⟩ ⟨i, e1, h1, e2, h2⟩
          simp only at e1 e2
          subst e1 e2
          unfold spec_l01Number.b1
          dsimp only
          rw [ba_size]
          refine Ok.dif (fun hlt => ?_) fun hge => ?_
          · have hi : i < l.length := by omega
            have ht : l.take (i + 1) = l.take i ++ [l[i]] := by rw [List.take_add_one, List.getElem?_eq_getElem hi]; rfl
            have hv := valL_lt i (l.take i) (by simp; omega) h2
            have h10 : (10 : Nat) ^ i ≤ 10 ^ 9 := Nat.pow_le_pow_right (by decide) (by omega)
            have hx := l[i].toNat_lt
            rw [inB_ofNat hi, rdT_ba hi]
            simp only [cond_true]
            by_cases hd : digB l[i] = true
            · have hd' := hd
              simp only [digB, Bool.and_eq_true, decide_eq_true_eq] at hd'
              rw [decide_eq_false (by omega : ¬ (l[i].toNat : Int) < 48), decide_eq_false (by omega : ¬ (57 : Int) < (l[i].toNat : Int))]
              refine Ok.let (Ok.let (Ok.let (Ok.some ?_)))
              rw [wsucc (n := l.length) hi (by omega), wu8 (n := (l[i].toNat : Int) - 48) (by omega) (by omega), w64 (n := (l[i].toNat : Int) - 48) (by omega) (by omega), w64 (n := 10 * (valL (l.take i) : Int)) (by omega) (by omega), w64 (by omega) (by omega)]
              refine ⟨⟨i + 1, rfl, by omega, ?_, ?_⟩, ?_⟩
              · dsimp only
                rw [ht, valL_snoc]
                omega
              · rw [ht, List.all_append, h2]
                simpa using hd
              · simp only [Int.toNat_natCast]; omega
            · have hnot : numOk l = false := by
                rw [hnum, Bool.eq_false_iff]
                intro hall
                exact hd (List.all_eq_true.1 hall _ (List.getElem_mem hi))
              have hd' : ¬ (48 ≤ l[i].toNat ∧ l[i].toNat ≤ 57) := by simpa [digB] using hd
              rw [hnot]
              by_cases hlo : (l[i].toNat : Int) < 48
              · rw [decide_eq_true hlo]
                exact Ok.some rfl
              · rw [decide_eq_false hlo, decide_eq_true (by omega : (57 : Int) < (l[i].toNat : Int))]
                exact Ok.some rfl
          · have hi : i = l.length := by omega
            subst hi
            rw [List.take_length] at h2 ⊢
            rw [hnum, h2]
            exact Ok.some rfl
        · subst hy
          cases hk : numOk l <;> exact ⟨_, rfl, by simp⟩
end Go.Proofs.YtadggddaheipgaaDoor
