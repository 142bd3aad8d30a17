/- How both read a scene's own text; how the reference reads any. Condition: texts of at most 2^20 bytes. -/
import Derived.Test.YtadggddaheipgaaDoorRb
set_option linter.unusedVariables false
set_option linter.unusedSimpArgs false
namespace Go.Proofs.YtadggddaheipgaaDoor
open Go.Proofs.YtadggddaheipgaaDoor.G

theorem rowL_len {s : Sn} (h : okN s = true) {y : Nat} (hy : y < 4) : (rowL s y).length ≤ 18 := by
  refine Nat.le_trans (join_len3 _ [32] 2 (fun x hx => ?_) (by simp)) (by simp)
  simp only [List.mem_cons, List.not_mem_nil, or_false] at hx
  rcases hx with rfl | rfl | rfl | rfl | rfl | rfl <;> exact (D_dec h (by omega)).2
theorem TX_len {s : Sn} (h : okN s = true) : (TX s).length ≤ 76 := by
  refine Nat.le_trans (join_len3 _ [47] 18 (fun x hx => ?_) (by simp)) (by simp [rowsL])
  simp only [rowsL, List.mem_cons, List.not_mem_nil, or_false] at hx
  rcases hx with rfl | rfl | rfl | rfl <;> exact rowL_len h (by decide)
/-- the first i cells -/
def upto (s : Sn) (i : Nat) : Sn := Vector.ofFn fun j : Fin 24 => if j.val < i then rdA s (j.val : Int) else 0
theorem upto_zero (s : Sn) : upto s 0 = zA 24 := vec_ext fun j hj => by
  unfold upto
  rw [rdA_ofFn _ hj, rdA_zA]; simp
theorem upto_all (s : Sn) : upto s 24 = s := vec_ext fun j hj => by
  unfold upto
  rw [rdA_ofFn _ hj]; simp [hj]
theorem upto_succ (s : Sn) {i : Nat} (hi : i < 24) : wrA (upto s i) (i : Int) (rdA s (i : Int)) = upto s (i + 1) := vec_ext fun j hj => by
  unfold upto
  rw [rdA_wrA _ _ _ _ hi, rdA_ofFn _ hj, rdA_ofFn _ hj]
  by_cases e : j = i
  · subst e; simp
  · have : (j < i + 1) = (j < i) := by apply propext; omega
    simp [e, this]

theorem implScene_val {s : Sn} (h : okN s = true) : impl_ReadScene.f (ba (TX s)) = some (s, 0) := by
  have hlen := TX_len h
  have hI : I8 s := fun i hi => by
    obtain ⟨n, e, hn⟩ := ok_at h hi
    rw [e]; omega
  have hcnt : Lib.count (TX s) [47] = 3 := by
    unfold TX
    rw [join_joinC, count_join (by simp [rowsL]) (rows_no h)]; rfl
  have hrep : repl (ba (TX s)) (⟨#[47]⟩ : ByteArray) (⟨#[32]⟩ : ByteArray) = ba (joinC 32 (cellsL s)) := by
    show (⟨(Lib.replaceAll (ba (TX s)).data.toList [47] [32]).toArray⟩ : ByteArray) = _
    rw [ba_list]
    have e1 : Lib.replaceAll (TX s) [47] [32] = Lib.replaceK [47] [32] (Lib.replaceNum (TX s) [47] (-1)) (TX s) := rfl
    have e2 : Lib.replaceNum (TX s) [47] (-1) = 3 := by
      unfold Lib.replaceNum
      rw [if_pos (.inl (by decide)), hcnt]
    rw [e1, e2]
    unfold TX
    rw [join_joinC]
    have := replace_join (c := 47) (d := 32) (ws := rowsL s) (by simp [rowsL]) (rows_no h)
    rw [show (rowsL s).length - 1 = 3 from rfl] at this
    rw [this, TX_cells]
    rfl
  have hR : strings_ReplaceAll.f (ba (TX s)) (⟨#[47]⟩ : ByteArray) (⟨#[32]⟩ : ByteArray) = some (ba (joinC 32 (cellsL s))) := by
    have hcB : Lib.countB (ba (TX s)) (⟨#[47]⟩ : ByteArray) = 3 := by
      show Lib.count (ba (TX s)).data.toList [47] = 3
      rw [ba_list]; exact hcnt
    unfold strings_ReplaceAll.f
    rw [hrep, hcB, ba_size]
    have h3 : decide ((TX s).length + 3 * (⟨#[32]⟩ : ByteArray).size ≤ 140737488355328) = true := decide_eq_true (by show (TX s).length + 3 * 1 ≤ _; omega)
    rw [h3, decide_eq_true (by omega : (TX s).length < 4294967281)]; rfl
  have hcell : ∀ w ∈ cellsL s, ∀ x ∈ w, x ≠ 32 := fun w hw => by
    obtain ⟨i, hi, rfl⟩ := List.mem_map.1 hw
    exact D_no h (List.mem_range.1 hi) (by decide)
  have hql : (joinC 32 (cellsL s)).length ≤ 100 := by
    rw [← join_joinC]
    refine Nat.le_trans (join_len3 _ [32] 2 (fun x hx => ?_) (by simp)) (by simp [cellsL])
    obtain ⟨i, hi, rfl⟩ := List.mem_map.1 hx
    exact (D_dec h (List.mem_range.1 hi)).2
  have hq23 : 23 ≤ (joinC 32 (cellsL s)).length := by
    have := splitL_len 32 (joinC 32 (cellsL s))
    have e : ∀ {ws : List (List UInt8)}, ws ≠ [] → ws.length ≤ (joinC 32 ws).length + 1 := by
      intro ws
      induction ws with
      | nil => intro h; exact absurd rfl h
      | cons w r ih =>
        intro _
        cases r with
        | nil => simp [joinC]
        | cons v r =>
          rw [joinC_cons 32 w (by simp)]
          have := ih (by simp)
          simp only [List.length_cons, List.length_append] at this ⊢
          omega
    have h24 := e (ws := cellsL s) (by simp [cellsL])
    simp [cellsL] at h24 ⊢
    omega
  have hS : strings_SplitN.f (ba (joinC 32 (cellsL s))) (⟨#[32]⟩ : ByteArray) 25 = some ((cellsL s).map ba) := by
    unfold strings_SplitN.f
    have : ((decide ((ba (joinC 32 (cellsL s))).size < 4294967281) && decide (1 ≤ (⟨#[32]⟩ : ByteArray).size)) && (decide ((1 : Int) ≤ 25) && decide ((25 : Int) ≤ 1000000))) = true := by
      rw [ba_size, decide_eq_true (by omega)]; rfl
    rw [this]
    simp only [cond_true]
    congr 1
    show Lib.splitB (ba [32]) 0 (min 25 ((ba (joinC 32 (cellsL s))).size + 1) - 1) (ba (joinC 32 (cellsL s))) = _
    rw [ba_size]
    exact splitB_join (by simp [cellsL]) hcell (by simp only [cellsL, List.length_map, List.length_range] at hq23 ⊢; omega)
  unfold impl_ReadScene.f
  simp only [Option.bind_some]
  rw [hR]
  simp only [Option.bind_some]
  rw [hS]
  simp only [Option.bind_some]
  have hwl : ((cellsL s).map ba).length = 24 := by simp [cellsL]
  rw [loopW_for (bd := impl_ReadScene.b1 ((cellsL s).map ba)) (fun i => ((i : Int), upto s i)) (n := 24) (y := .inl s) (fun i hi => ?_) ?_ ?_]
  · simp only [Option.bind_some, Sum.elim_inl]
    rw [ValidScene_val hI, h, sceneText_val h]
    show ((some _).bind _) = _
    have : ((ba (Lib.join [rowL s 0, rowL s 1, rowL s 2, rowL s 3] [47])).toList == (ba (TX s)).toList) = true := by
      rw [beq_iff_eq]; rfl
    simp only [Option.bind_some, Bool.not_true, cond_false, this]
  · simp only [impl_ReadScene.b1]
    rw [hwl, upto_all]
    rfl
  · rw [upto_zero]; rfl
  · have hrd : rd eT ((cellsL s).map ba) (i : Int) = ba (D s i) := by
      rw [rd_ofNat (by omega)]
      simp [cellsL]
    obtain ⟨n, e, hn⟩ := ok_at h hi
    have hP : strconv_ParseInt.f (ba (D s i)) 10 8 = some ((n : Int), false) := by
      have hd := (D_dec h hi).2
      unfold strconv_ParseInt.f
      have : ((((10 : Int) == 10) && ((8 : Int) == 8)) && decide ((ba (D s i)).size ≤ 281474976710656)) = true := by
        rw [ba_size, decide_eq_true (by omega)]; rfl
      rw [this]
      unfold D
      rw [e, Int.toNat_natCast, parse_dec (by omega)]; rfl
    have h1 : decide ((i : Int) < (((cellsL s).map ba).length : Int)) = true := by rw [hwl]; exact decide_eq_true (by omega)
    have hb : ((i : Int) == 24) = false := by simp; omega
    simp only [impl_ReadScene.b1, h1, cond_true]
    rw [inB_ofNat (show i < ((cellsL s).map ba).length by omega), hrd]
    simp only [cond_true, Option.bind_some]
    rw [hP]
    simp only [Option.bind_some, cond_false, hb]
    rw [inB_ofNat hi, w8 (n := (n : Int)) (by omega) (by omega), ← e, upto_succ s hi, wsucc hi (by decide)]
    rfl
end Go.Proofs.YtadggddaheipgaaDoor
