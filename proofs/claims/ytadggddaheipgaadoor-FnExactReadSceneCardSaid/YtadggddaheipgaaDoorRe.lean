/- FnExactReadScene's law: both read the texts of valid scenes, and no others. No condition. -/
import Derived.Test.YtadggddaheipgaaDoorRd
set_option linter.unusedVariables false
set_option linter.unusedSimpArgs false
namespace Go.Proofs.YtadggddaheipgaaDoor
open Go.Proofs.YtadggddaheipgaaDoor.G

theorem six_of {α : Type} {xs : List α} (h : xs.length = 6) (d : α) : xs = [xs.getD 0 d, xs.getD 1 d, xs.getD 2 d, xs.getD 3 d, xs.getD 4 d, xs.getD 5 d] := by
  match xs, h with
  | [a, b, c, e, f, g], _ => rfl
theorem four_of {α : Type} {xs : List α} (h : xs.length = 4) (d : α) : xs = [xs.getD 0 d, xs.getD 1 d, xs.getD 2 d, xs.getD 3 d] := by
  match xs, h with
  | [a, b, c, e], _ => rfl
theorem none_all {p : Nat → Bool} {n : Nat} (h : firstN p 0 n = none) : ∀ i, i < n → p i = false := by
  have hs := @firstN_spec p n 0
  rw [h] at hs
  exact fun i hi => hs i (by omega) (by omega)
theorem all_none {p : Nat → Bool} {n : Nat} (h : ∀ i, i < n → p i = false) : firstN p 0 n = none := by
  have hs := @firstN_spec p n 0
  cases hf : firstN p 0 n with
  | none => rfl
  | some k =>
    rw [hf] at hs
    obtain ⟨h1, h2, h3, _⟩ := hs
    rw [h k (by omega)] at h3
    cases h3
theorem accV_rd (R : List (List UInt8)) {j : Nat} (hj : j < 24) : rdA (accV R 24) (j : Int) = (valL (wd R j) : Int) := by
  unfold accV
  rw [rdA_ofFn _ hj]; simp [hj]

theorem specScene_ok {l : List UInt8} (hl : l.length ≤ 1048576) : ∃ r, spec_ReadScene.f (ba l) = some r ∧ AnsN l r := by
  refine ⟨_, specScene_val hl, ?_⟩
  have hj := joinC_splitL 47 l
  generalize splitL 47 l = R at hj
  by_cases h4 : R.length = 4
  · rw [if_pos h4]
    cases hf : firstN (fun y => !(rowOk R y)) 0 4 with
    | some m => exact .inl rfl
    | none =>
      have hrow : ∀ y, y < 4 → (WW R y).length = 6 ∧ ∀ x, x < 6 → cellOk (wd R (6 * y + x)) = true := fun y hy => by
        have := none_all hf y hy
        simp only [rowOk, Bool.not_eq_false', Bool.and_eq_true, decide_eq_true_eq] at this
        refine ⟨this.1, fun x hx => ?_⟩
        have h2 : firstN (fun x => !(cellOk (wd R (6 * y + x)))) 0 6 = none := by
          have := this.2
          cases h : firstN (fun x => !(cellOk (wd R (6 * y + x)))) 0 6 with
          | none => rfl
          | some k => rw [h] at this; cases this
        simpa using none_all h2 x hx
      have hcell : ∀ j, j < 24 → numOk (wd R j) = true ∧ valL (wd R j) ≤ 60 := fun j hj => by
        have := (hrow (j / 6) (by omega)).2 (j % 6) (by omega)
        rw [show 6 * (j / 6) + j % 6 = j by omega] at this
        simpa [cellOk] using this
      have hD : ∀ j, j < 24 → D (accV R 24) j = wd R j := fun j hj => by
        unfold D
        rw [accV_rd R hj, Int.toNat_natCast]
        exact decDigits_val _ _ rfl (hcell j hj).1
      have hok : okN (accV R 24) = true := by
        unfold okN
        rw [List.all_eq_true]
        intro j hj
        have hj' := List.mem_range.1 hj
        rw [accV_rd R hj']
        have := (hcell j hj').2
        simp only [rdg, Bool.and_eq_true, decide_eq_true_eq]
        omega
      have hrl : ∀ y, y < 4 → rowL (accV R 24) y = R.getD y [] := fun y hy => by
        have h6 := six_of (hrow y hy).1 ([] : List UInt8)
        have e : joinC 32 (WW R y) = R.getD y [] := joinC_splitL 32 _
        have hwd : ∀ x, x < 6 → (WW R y).getD x [] = wd R (6 * y + x) := fun x hx => by
          unfold wd
          rw [show (6 * y + x) / 6 = y by omega, show (6 * y + x) % 6 = x by omega]
        rw [← e, h6, hwd 0 (by decide), hwd 1 (by decide), hwd 2 (by decide), hwd 3 (by decide), hwd 4 (by decide), hwd 5 (by decide)]
        unfold rowL
        rw [join_joinC, hD _ (by omega), hD _ (by omega), hD _ (by omega), hD _ (by omega), hD _ (by omega), hD _ (by omega)]
      refine .inr ⟨accV R 24, hok, rfl, ?_⟩
      unfold TX rowsL
      rw [join_joinC, hrl 0 (by decide), hrl 1 (by decide), hrl 2 (by decide), hrl 3 (by decide), ← four_of h4 ([] : List UInt8)]
      exact hj.symm
  · rw [if_neg h4]
    exact .inl rfl

theorem row_words {s : Sn} (h : okN s = true) {y : Nat} (hy : y < 4) : splitL 32 (rowL s y) = [D s (6 * y + 0), D s (6 * y + 1), D s (6 * y + 2), D s (6 * y + 3), D s (6 * y + 4), D s (6 * y + 5)] := by
  unfold rowL
  rw [join_joinC]
  refine splitL_joinC (by simp) fun w hw => ?_
  simp only [List.mem_cons, List.not_mem_nil, or_false] at hw
  rcases hw with rfl | rfl | rfl | rfl | rfl | rfl <;> exact D_no h (by omega) (by decide)
theorem WW_rows {s : Sn} (h : okN s = true) {y : Nat} (hy : y < 4) : WW (rowsL s) y = [D s (6 * y + 0), D s (6 * y + 1), D s (6 * y + 2), D s (6 * y + 3), D s (6 * y + 4), D s (6 * y + 5)] := by
  have e : (rowsL s).getD y [] = rowL s y := by
    have : y = 0 ∨ y = 1 ∨ y = 2 ∨ y = 3 := by omega
    rcases this with rfl | rfl | rfl | rfl <;> rfl
  unfold WW
  rw [e, row_words h hy]
theorem wd_rows {s : Sn} (h : okN s = true) {j : Nat} (hj : j < 24) : wd (rowsL s) j = D s j := by
  unfold wd
  rw [WW_rows h (show j / 6 < 4 by omega)]
  have hx : j % 6 = 0 ∨ j % 6 = 1 ∨ j % 6 = 2 ∨ j % 6 = 3 ∨ j % 6 = 4 ∨ j % 6 = 5 := by omega
  rcases hx with e | e | e | e | e | e <;> rw [e] <;> show D s _ = D s j <;> congr 1 <;> omega
theorem specScene_fwd {s : Sn} (h : okN s = true) : spec_ReadScene.f (ba (TX s)) = some (s, 0) := by
  have hlen := TX_len h
  have hsp : splitL 47 (TX s) = rowsL s := by
    unfold TX
    rw [join_joinC]
    exact splitL_joinC (by simp [rowsL]) (rows_no h)
  rw [specScene_val (by omega), hsp, if_pos (show (rowsL s).length = 4 from rfl)]
  have hcell : ∀ j, j < 24 → cellOk (wd (rowsL s) j) = true ∧ (valL (wd (rowsL s) j) : Int) = rdA s (j : Int) := fun j hj => by
    obtain ⟨n, e, hn⟩ := ok_at h hj
    rw [wd_rows h hj]
    unfold D
    rw [e, Int.toNat_natCast]
    obtain ⟨a, b⟩ := dec_num (n := n) (by omega)
    unfold cellOk
    rw [a, b, decide_eq_true hn]
    exact ⟨rfl, rfl⟩
  have hnone : firstN (fun y => !(rowOk (rowsL s) y)) 0 4 = none := all_none fun y hy => by
    have h6 : (WW (rowsL s) y).length = 6 := by rw [WW_rows h hy]; rfl
    have hn : firstN (fun x => !(cellOk (wd (rowsL s) (6 * y + x)))) 0 6 = none := all_none fun x hx => by
      rw [(hcell (6 * y + x) (by omega)).1]; rfl
    unfold rowOk
    rw [h6, hn]
    rfl
  rw [hnone]
  have : accV (rowsL s) 24 = s := vec_ext fun j hj => by
    rw [accV_rd _ hj, (hcell j hj).2]
  rw [this]

theorem eqScene_same (s : Sn) : laws_eqScene.f s s = some true := by
  unfold laws_eqScene.f
  rw [loop_all (bd := laws_eqScene.b1 s s) 24 (fun i => true) (.inl ()) (.inr false) (fun i hi => ?_) rfl]
  · have : ((List.range 24).all fun i => true) = true := by simp
    rw [this]; rfl
  · have h1 : decide ((i : Int) < 24) = true := by simp; omega
    simp only [laws_eqScene.b1, h1, cond_true, inB_ofNat hi, bne_self_eq_false, cond_false, Option.bind_some]
    rw [wsucc hi (by decide)]
theorem readScene_true (text : ByteArray) : laws_FnExactReadScene.f text = some true := by
  obtain ⟨l, rfl⟩ : ∃ l, text = ba l := ⟨_, ba_of text⟩
  unfold laws_FnExactReadScene.f
  rw [ba_size]
  by_cases hb : 1048576 < (l.length : Int)
  · rw [decide_eq_true hb]; rfl
  · rw [decide_eq_false hb]
    have hl : l.length ≤ 1048576 := by omega
    have key : ∃ r, spec_ReadScene.f (ba l) = some r ∧ impl_ReadScene.f (ba l) = some r := by
      obtain ⟨r1, e1, a1⟩ := specScene_ok hl
      obtain ⟨r2, e2, a2⟩ := implScene_ok hl
      rcases a1 with rfl | ⟨s, ho, rfl, hx⟩
      · rcases a2 with rfl | ⟨s, ho, rfl, hx⟩
        · exact ⟨_, e1, e2⟩
        · rw [hx] at e2 ⊢
          exact ⟨_, specScene_fwd ho, e2⟩
      · rw [hx] at e1 ⊢
        exact ⟨_, e1, implScene_val ho⟩
    obtain ⟨r, e1, e2⟩ := key
    rw [e1, e2]
    simp only [Option.bind_some, cond_false]
    rw [eqScene_same]
    simp
end Go.Proofs.YtadggddaheipgaaDoor
