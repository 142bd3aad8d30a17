/- How the reference reads a scene; FnExactReadScene's law. Condition: texts of at most 2^20 bytes. -/
import Derived.Test.YtadggddaheipgaaDoorRc
set_option linter.unusedVariables false
set_option linter.unusedSimpArgs false
namespace Go.Proofs.YtadggddaheipgaaDoor
open Go.Proofs.YtadggddaheipgaaDoor.G

theorem loop_cut {σ β : Type} {bd : σ → Option (Step σ β)} (st : Nat → σ) (n : Nat) (p : Nat → Bool) (yes no : β) (h : ∀ i : Nat, i < n → bd (st i) = some (bif p i then .done no else .next (st (i + 1)))) (hd : bd (st n) = some (.done yes)) {s : σ} (hs : s = st 0) :
    loopW bd s = some (match firstN p 0 n with | some _ => no | none => yes) := by
  subst hs
  have key : ∀ d i, i + d = n → loopW bd (st i) = some (match firstN p i d with | some _ => no | none => yes) := by
    intro d
    induction d with
    | zero => intro i hi; obtain rfl : i = n := by omega
              rw [loopW_eq, hd]; rfl
    | succ d ih =>
      intro i hi
      rw [loopW_eq, h i (by omega)]
      unfold firstN
      cases hp : p i with
      | true => simp [Step.run]
      | false => simpa [Step.run] using ih (i + 1) (by omega)
  exact key n 0 (by omega)
theorem splitL_joinC {c : UInt8} : ∀ {ws : List (List UInt8)}, ws ≠ [] → (∀ w ∈ ws, ∀ x ∈ w, x ≠ c) → splitL c (joinC c ws) = ws
  | [], h, _ => absurd rfl h
  | [w], _, h => splitL_none (h w (by simp))
  | w :: v :: r, _, h => by
    rw [joinC_cons c w (by simp), splitL_word (h w (by simp)), splitL_joinC (ws := v :: r) (by simp) fun u hu => h u (by simp at hu ⊢; exact .inr hu)]

def cellOk (w : List UInt8) : Bool := numOk w && decide (valL w ≤ 60)
/-- the words of row y -/
def WW (R : List (List UInt8)) (y : Nat) : List (List UInt8) := splitL 32 (R.getD y [])
def wd (R : List (List UInt8)) (j : Nat) : List UInt8 := (WW R (j / 6)).getD (j % 6) []
/-- the first k cells that are read -/
def accV (R : List (List UInt8)) (k : Nat) : Sn := Vector.ofFn fun j : Fin 24 => if j.val < k then (valL (wd R j.val) : Int) else 0
theorem accV_zero (R : List (List UInt8)) : accV R 0 = zA 24 := vec_ext fun j hj => by
  unfold accV
  rw [rdA_ofFn _ hj, rdA_zA]; simp
theorem accV_succ (R : List (List UInt8)) {i : Nat} (hi : i < 24) : wrA (accV R i) (i : Int) (valL (wd R i) : Int) = accV R (i + 1) := vec_ext fun j hj => by
  unfold accV
  rw [rdA_wrA _ _ _ _ hi, rdA_ofFn _ hj, rdA_ofFn _ hj]
  by_cases e : j = i
  · subst e; simp
  · have : (j < i + 1) = (j < i) := by apply propext; omega
    simp [e, this]
def rowOk (R : List (List UInt8)) (y : Nat) : Bool := decide ((WW R y).length = 6) && (firstN (fun x => !(cellOk (wd R (6 * y + x)))) 0 6).isNone

theorem len_of_mem {c : UInt8} : ∀ {ws : List (List UInt8)}, ∀ w ∈ ws, w.length ≤ (joinC c ws).length
  | [], w, h => by simp at h
  | [v], w, h => by
    simp at h; subst h; exact Nat.le_refl _
  | v :: u :: r, w, h => by
    rw [joinC_cons c v (by simp)]
    rw [List.mem_cons] at h
    simp only [List.length_append, List.length_cons]
    rcases h with rfl | h
    · omega
    · have := len_of_mem (c := c) (ws := u :: r) w h
      omega
theorem inner_val {R : List (List UInt8)} (hR : ∀ w ∈ R, w.length ≤ 1048576) {y : Nat} (hy : y < 4) (h6 : (WW R y).length = 6) :
    loopW (spec_ReadScene.b2 ((y : Int), accV R (6 * y)) ((WW R y).map ba)) (0, accV R (6 * y)) = some (match firstN (fun x => !(cellOk (wd R (6 * y + x)))) 0 6 with | some _ => .inr Zn | none => .inl (accV R (6 * y + 6))) := by
  have hrow : (R.getD y []).length ≤ 1048576 := by
    rw [List.getD_eq_getElem?_getD]
    cases h : R[y]? with
    | none => simp
    | some w => exact hR w (List.mem_of_getElem? h)
  rw [loop_cut (bd := spec_ReadScene.b2 ((y : Int), accV R (6 * y)) ((WW R y).map ba)) (fun x => ((x : Int), accV R (6 * y + x))) 6 (fun x => !(cellOk (wd R (6 * y + x)))) (.inl (accV R (6 * y + 6))) (.inr Zn) (fun x hx => ?_) ?_ ?_]
  · simp only [spec_ReadScene.b2, List.length_map, h6]
    rfl
  · rfl
  · have e1 : (6 * y + x) / 6 = y := by omega
    have e2 : (6 * y + x) % 6 = x := by omega
    have hxl : x < (WW R y).length := by omega
    have hw : wd R (6 * y + x) = (WW R y)[x] := by
      unfold wd
      rw [e1, e2, List.getD_eq_getElem?_getD, List.getElem?_eq_getElem hxl]; rfl
    have hrd : rd eT ((WW R y).map ba) (x : Int) = ba (wd R (6 * y + x)) := by
      rw [rd_ofNat (by simpa using hxl), hw]; simp
    have hwl : (wd R (6 * y + x)).length ≤ 1048576 := by
      rw [hw]
      have h1 := len_of_mem (c := 32) (ws := WW R y) _ (List.getElem_mem hxl)
      have h2 : joinC 32 (WW R y) = R.getD y [] := joinC_splitL 32 _
      rw [h2] at h1
      omega
    have h1 : decide ((x : Int) < (((WW R y).map ba).length : Int)) = true := by rw [List.length_map, h6]; exact decide_eq_true (by omega)
    have w1 : IntKind.wrap .i64 (6 * (y : Int)) = 6 * (y : Int) := w64 (by omega) (by omega)
    have w2 : IntKind.wrap .i64 ((x : Int) + 6 * (y : Int)) = ((6 * y + x : Nat) : Int) := by rw [w64 (by omega) (by omega)]; omega
    simp only [spec_ReadScene.b2, h1, cond_true]
    rw [inB_ofNat (show x < ((WW R y).map ba).length by rw [List.length_map]; exact hxl), hrd, l01Number_val hwl, w1, w2, wsucc hx (by decide)]
    simp only [cond_true, Option.bind_some, cellOk]
    by_cases hk : numOk (wd R (6 * y + x)) = true
    · rw [if_pos hk, hk]
      simp only [Bool.not_true, cond_false, l06Reading_val, Option.bind_some, rdg]
      have h0 : decide (0 ≤ (valL (wd R (6 * y + x)) : Int)) = true := decide_eq_true (by omega)
      rw [h0]
      by_cases h60 : valL (wd R (6 * y + x)) ≤ 60
      · rw [decide_eq_true h60, decide_eq_true (by omega : (valL (wd R (6 * y + x)) : Int) ≤ 60)]
        simp only [Bool.and_self, Bool.not_true, cond_false]
        rw [inB_ofNat (show 6 * y + x < 24 by omega), w8 (n := (valL (wd R (6 * y + x)) : Int)) (by omega) (by omega), accV_succ R (show 6 * y + x < 24 by omega)]
        rfl
      · rw [decide_eq_false h60, decide_eq_false (by omega : ¬ (valL (wd R (6 * y + x)) : Int) ≤ 60)]
        rfl
    · rw [if_neg hk]
      have hk' : numOk (wd R (6 * y + x)) = false := by simpa using hk
      rw [hk']
      rfl
theorem specScene_val {l : List UInt8} (hl : l.length ≤ 1048576) : spec_ReadScene.f (ba l) = some (if (splitL 47 l).length = 4 then (match firstN (fun y => !(rowOk (splitL 47 l) y)) 0 4 with | some _ => Zn | none => (accV (splitL 47 l) 24, 0)) else Zn) := by
  unfold spec_ReadScene.f
  have hS : spec_l01Split.f (ba l) 47 = some ((splitL 47 l).map ba) := l01Split_val hl 47
  rw [hS]
  simp only [Option.bind_some, List.length_map]
  have hR : ∀ w ∈ splitL 47 l, w.length ≤ 1048576 := fun w hw => by
    have := len_of_mem (c := 47) w hw
    rw [joinC_splitL] at this
    omega
  generalize splitL 47 l = R at hR
  by_cases h4 : R.length = 4
  · have hb : ((R.length : Int) != 4) = false := by rw [h4]; rfl
    rw [hb, if_pos h4]
    simp only [cond_false]
    rw [loop_cut (bd := spec_ReadScene.b1 (R.map ba)) (fun y => ((y : Int), accV R (6 * y))) 4 (fun y => !(rowOk R y)) (.inl (accV R 24)) (.inr Zn) (fun y hy => ?_) ?_ ?_]
    · cases firstN (fun y => !(rowOk R y)) 0 4 <;> rfl
    · simp only [spec_ReadScene.b1, List.length_map, h4]
      rfl
    · rw [Nat.mul_zero, accV_zero]; rfl
    · have h1 : decide ((y : Int) < ((R.map ba).length : Int)) = true := by rw [List.length_map, h4]; exact decide_eq_true (by omega)
      have hyl : y < R.length := by omega
      have hrd : rd eT (R.map ba) (y : Int) = ba (R.getD y []) := by
        rw [rd_ofNat (by simpa using hyl)]
        simp [List.getD_eq_getElem?_getD, List.getElem?_eq_getElem hyl]
      have hrl : (R.getD y []).length ≤ 1048576 := by
        rw [List.getD_eq_getElem?_getD, List.getElem?_eq_getElem hyl]
        exact hR _ (List.getElem_mem hyl)
      have hSp : spec_l01Split.f (ba (R.getD y [])) 32 = some ((WW R y).map ba) := l01Split_val hrl 32
      simp only [spec_ReadScene.b1, h1, cond_true]
      rw [inB_ofNat (show y < (R.map ba).length by rw [List.length_map]; exact hyl), hrd, hSp]
      simp only [cond_true, Option.bind_some, List.length_map, rowOk]
      by_cases h6 : (WW R y).length = 6
      · have hb6 : (((WW R y).length : Int) != 6) = false := by rw [h6]; rfl
        rw [hb6, decide_eq_true h6]
        simp only [cond_false]
        rw [inner_val hR hy h6]
        cases firstN (fun x => !(cellOk (wd R (6 * y + x)))) 0 6 with
        | some m => rfl
        | none =>
          simp only [Option.bind_some, Sum.elim_inl]
          rw [wsucc hy (by decide), show 6 * (y + 1) = 6 * y + 6 by omega]
          rfl
      · have hb6 : (((WW R y).length : Int) != 6) = true := by simp; omega
        rw [hb6, decide_eq_false h6]
        rfl
  · have hb : ((R.length : Int) != 4) = true := by simp; omega
    rw [hb, if_neg h4]
    rfl
end Go.Proofs.YtadggddaheipgaaDoor
