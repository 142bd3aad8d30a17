/- How the program reads a scene. Condition: texts of at most 2^20 bytes. -/
import Derived.Test.YtadggddaheipgaaDoorRa
set_option linter.unusedVariables false
set_option linter.unusedSimpArgs false
namespace Go.Proofs.YtadggddaheipgaaDoor
open Go.Proofs.YtadggddaheipgaaDoor.G

theorem join_joinC (c : UInt8) : ∀ xs, Lib.join xs [c] = joinC c xs
  | [] => rfl
  | [x] => Lib.join_one _ _
  | x :: y :: r => by
    rw [Lib.join_cons, joinC_cons c x (by simp), ← join_joinC c (y :: r), Lib.join_cons]
    simp [Lib.joinTail]
def rowsL (s : Sn) : List (List UInt8) := [rowL s 0, rowL s 1, rowL s 2, rowL s 3]
/-- a scene's text -/
def TX (s : Sn) : List UInt8 := Lib.join (rowsL s) [47]
def cellsL (s : Sn) : List (List UInt8) := (List.range 24).map (D s)
theorem D_no {s : Sn} (h : okN s = true) {i : Nat} (hi : i < 24) {c : UInt8} (hc : c.toNat < 48) : ∀ x ∈ D s i, x ≠ c := by
  obtain ⟨n, e, hn⟩ := ok_at h hi
  unfold D
  rw [e, Int.toNat_natCast]
  exact dec_no (by omega) hc
theorem rowL_no {s : Sn} (h : okN s = true) {y : Nat} (hy : y < 4) : ∀ x ∈ rowL s y, x ≠ 47 := by
  have hd : ∀ i, i < 24 → ∀ x ∈ D s i, x ≠ 47 := fun i hi => D_no h hi (by decide)
  have d0 := hd (6 * y + 0) (by omega)
  have d1 := hd (6 * y + 1) (by omega)
  have d2 := hd (6 * y + 2) (by omega)
  have d3 := hd (6 * y + 3) (by omega)
  have d4 := hd (6 * y + 4) (by omega)
  have d5 := hd (6 * y + 5) (by omega)
  intro x hx
  unfold rowL at hx
  rw [join_joinC] at hx
  simp only [joinC, List.mem_append, List.mem_cons] at hx
  rcases hx with hx | rfl | hx | rfl | hx | rfl | hx | rfl | hx | rfl | hx
  · exact d0 x hx
  · decide
  · exact d1 x hx
  · decide
  · exact d2 x hx
  · decide
  · exact d3 x hx
  · decide
  · exact d4 x hx
  · decide
  · exact d5 x hx
theorem rows_no {s : Sn} (h : okN s = true) : ∀ w ∈ rowsL s, ∀ x ∈ w, x ≠ 47 := by
  intro w hw
  simp only [rowsL, List.mem_cons, List.not_mem_nil, or_false] at hw
  rcases hw with rfl | rfl | rfl | rfl <;> exact rowL_no h (by decide)
theorem TX_cells (s : Sn) : joinC 32 (rowsL s) = joinC 32 (cellsL s) := by
  have e : cellsL s = [D s 0, D s 1, D s 2, D s 3, D s 4, D s 5, D s 6, D s 7, D s 8, D s 9, D s 10, D s 11, D s 12, D s 13, D s 14, D s 15, D s 16, D s 17, D s 18, D s 19, D s 20, D s 21, D s 22, D s 23] := rfl
  rw [e]
  simp only [rowsL, rowL, join_joinC, joinC, Nat.reduceMul, Nat.reduceAdd, List.append_assoc, List.cons_append]

theorem count_join {c : UInt8} : ∀ {ws : List (List UInt8)}, ws ≠ [] → (∀ w ∈ ws, ∀ x ∈ w, x ≠ c) → Lib.count (joinC c ws) [c] = ws.length - 1
  | [], h, _ => absurd rfl h
  | [w], _, h => by
    show Lib.count w [c] = 0
    exact Lib.count_miss (index_none (h w (by simp)))
  | w :: v :: r, _, h => by
    have ih := count_join (c := c) (ws := v :: r) (by simp) fun u hu => h u (by simp at hu ⊢; exact .inr hu)
    rw [joinC_cons c w (by simp), Lib.count_hit (by simp) (index_word (h w (by simp)))]
    have e : (w ++ c :: joinC c (v :: r)).drop (w.length + [c].length) = joinC c (v :: r) := by
      rw [List.length_singleton, ← List.drop_drop, List.drop_left]
      rfl
    rw [e, ih]
    simp
    omega
theorem replace_join {c d : UInt8} : ∀ {ws : List (List UInt8)}, ws ≠ [] → (∀ w ∈ ws, ∀ x ∈ w, x ≠ c) → Lib.replaceK [c] [d] (ws.length - 1) (joinC c ws) = joinC d ws
  | [], h, _ => absurd rfl h
  | [w], _, h => rfl
  | w :: v :: r, _, h => by
    have ih := replace_join (c := c) (d := d) (ws := v :: r) (by simp) fun u hu => h u (by simp at hu ⊢; exact .inr hu)
    rw [joinC_cons c w (by simp), joinC_cons d w (by simp)]
    have e1 : (w :: v :: r).length - 1 = ((v :: r).length - 1) + 1 := by simp
    rw [e1, Lib.replaceK_hit _ _ _ _ _ (index_word (h w (by simp)))]
    have e : (w ++ c :: joinC c (v :: r)).drop (w.length + [c].length) = joinC c (v :: r) := by
      rw [List.length_singleton, ← List.drop_drop, List.drop_left]
      rfl
    rw [e, ih, List.take_left]
    simp
theorem splitB_join {c : UInt8} : ∀ {ws : List (List UInt8)} {k : Nat}, ws ≠ [] → (∀ w ∈ ws, ∀ x ∈ w, x ≠ c) → ws.length ≤ k + 1 → Lib.splitB (ba [c]) 0 k (ba (joinC c ws)) = ws.map ba
  | [], _, h, _, _ => absurd rfl h
  | [w], k, _, h, _ => splitB_none (h w (by simp)) k
  | w :: v :: r, 0, _, _, hk => by simp at hk
  | w :: v :: r, k + 1, _, h, hk => by
    rw [joinC_cons c w (by simp), splitB_word (h w (by simp)) k, splitB_join (ws := v :: r) (by simp) (fun u hu => h u (by simp at hu ⊢; exact .inr hu)) (by simp at hk ⊢; omega)]
    rfl

abbrev Zn : Sn × Int := (zA 24, 5)
def AnsN (l : List UInt8) (r : Sn × Int) : Prop := r = Zn ∨ ∃ s : Sn, okN s = true ∧ r = (s, 0) ∧ l = TX s
theorem i8_rng (n : Int) : -128 ≤ IntKind.wrap .i8 n ∧ IntKind.wrap .i8 n ≤ 127 := by
  simp [IntKind.wrap, IntKind.bits, IntKind.signed]
  split <;> omega

theorem replaceK_len (c d : UInt8) : ∀ (k : Nat) (s : List UInt8), (Lib.replaceK [c] [d] k s).length = s.length
  | 0, s => rfl
  | k + 1, s => by
    rcases Lib.indexB_cases (ba s) (ba [c]) with h | ⟨i, h, hi⟩
    · have h' : Lib.index s [c] = -1 := by
        have : Lib.index (ba s).data.toList (ba [c]).data.toList = -1 := h
        rwa [ba_list, ba_list] at this
      unfold Lib.replaceK
      rw [h']
      rfl
    · have h' : Lib.index s [c] = (i : Int) := by
        have : Lib.index (ba s).data.toList (ba [c]).data.toList = (i : Int) := h
        rwa [ba_list, ba_list] at this
      rw [ba_size, ba_size] at hi
      simp only [List.length_singleton] at hi
      rw [Lib.replaceK_hit _ _ _ _ _ h']
      simp only [List.length_append, List.length_take, List.length_singleton, replaceK_len c d k, List.length_drop]
      omega
theorem implScene_ok {l : List UInt8} (hl : l.length ≤ 1048576) : Ok (impl_ReadScene.f (ba l)) (AnsN l) := by
  have hcnt : Lib.countB (ba l) (⟨#[47]⟩ : ByteArray) ≤ l.length := by
    have := Lib.countB_le (⟨#[47]⟩ : ByteArray) (by decide) l.length (ba l) (by rw [ba_size]; exact Nat.le_refl _)
    rwa [ba_size] at this
  have hR : strings_ReplaceAll.f (ba l) (⟨#[47]⟩ : ByteArray) (⟨#[32]⟩ : ByteArray) = some (repl (ba l) (⟨#[47]⟩ : ByteArray) (⟨#[32]⟩ : ByteArray)) := by
    unfold strings_ReplaceAll.f
    have h1 : (⟨#[32]⟩ : ByteArray).size = 1 := rfl
    have : ((decide ((ba l).size < 4294967281) && decide (1 ≤ (⟨#[47]⟩ : ByteArray).size)) && decide ((ba l).size + Lib.countB (ba l) (⟨#[47]⟩ : ByteArray) * (⟨#[32]⟩ : ByteArray).size ≤ 140737488355328)) = true := by
      have h3 : decide (l.length + Lib.countB (ba l) (⟨#[47]⟩ : ByteArray) * 1 ≤ 140737488355328) = true := decide_eq_true (by omega)
      rw [ba_size, h1, h3, decide_eq_true (by omega : l.length < 4294967281)]; rfl
    rw [this]; rfl
  have hrl : (repl (ba l) (⟨#[47]⟩ : ByteArray) (⟨#[32]⟩ : ByteArray)).size ≤ 1048576 := by
    have e := replaceK_len 47 32 (Lib.replaceNum l [47] (-1)) l
    show (Lib.replaceAll (ba l).data.toList [47] [32]).toArray.size ≤ _
    rw [ba_list]
    simp only [List.size_toArray]
    have e2 : Lib.replaceAll l [47] [32] = Lib.replaceK [47] [32] (Lib.replaceNum l [47] (-1)) l := rfl
    rw [e2, e]; exact hl
  unfold impl_ReadScene.f
  rw [hR]
  generalize repl (ba l) (⟨#[47]⟩ : ByteArray) (⟨#[32]⟩ : ByteArray) = q at hrl
  simp only [Option.bind_some]
  have hS : strings_SplitN.f q (⟨#[32]⟩ : ByteArray) 25 = some (splitP q (ba [32]) 25) := by
    unfold strings_SplitN.f
    have : ((decide (q.size < 4294967281) && decide (1 ≤ (⟨#[32]⟩ : ByteArray).size)) && (decide ((1 : Int) ≤ 25) && decide ((25 : Int) ≤ 1000000))) = true := by
      rw [decide_eq_true (by omega)]; rfl
    rw [this]; rfl
  have hsz : ∀ x ∈ splitP q (ba [32]) 25, x.size ≤ 1048576 := fun x hx => by
    have := splitB_size _ _ _ _ x hx
    omega
  have hle : (splitP q (ba [32]) 25).length ≤ 25 := by
    have := splitB_le (ba [32]) 0 (min 25 (q.size + 1) - 1) q
    unfold splitP
    omega
  rw [hS]
  generalize splitP q (ba [32]) 25 = ws at hsz hle
  simp only [Option.bind_some]
  refine Ok.bind (Q := fun y => match y with | .inl v => I8 v | .inr r => r = Zn) ?_ fun y hy => ?_
  · refine Ok.loop (fun s => ∃ i : Nat, s.1 = (i : Int) ∧ i ≤ ws.length ∧ i ≤ 24 ∧ I8 s.2) (fun s => ws.length - s.1.toNat) ⟨0, rfl, Nat.zero_le _, by omega, fun j hj => by rw [rdA_zA]; exact ⟨by decide, by decide⟩⟩ ?_
    rintro ⟨s1, v⟩ ⟨i, e1, h1, h2, h3⟩
    simp only at e1
    subst e1
    unfold impl_ReadScene.b1
    dsimp only
    refine Ok.dif (fun hlt => ?_) fun hge => Ok.some h3
    have hi : i < ws.length := by omega
    refine Ok.must (inB_ofNat hi) (Ok.let ?_)
    have hw : rd eT ws (i : Int) ∈ ws := by rw [rd_ofNat hi]; exact List.getElem_mem hi
    have hP : strconv_ParseInt.f (rd eT ws (i : Int)) 10 8 = some (parse8 (rd eT ws (i : Int))) := by
      unfold strconv_ParseInt.f
      have := hsz _ hw
      have : ((((10 : Int) == 10) && ((8 : Int) == 8)) && decide ((rd eT ws (i : Int)).size ≤ 281474976710656)) = true := by
        rw [decide_eq_true (by omega)]; rfl
      rw [this]; rfl
    rw [hP]
    simp only [Option.bind_some]
    cases (parse8 (rd eT ws (i : Int))).2 with
    | true => exact Ok.some rfl
    | false =>
      by_cases h33 : i = 24
      · subst h33; exact Ok.some rfl
      · have hb : ((i : Int) == 24) = false := by simp; omega
        simp only [cond_false, hb, Option.bind_some]
        refine Ok.must (inB_ofNat (show i < 24 by omega)) (Ok.some ?_)
        rw [wsucc (n := ws.length) hi (by omega)]
        refine ⟨⟨i + 1, rfl, by omega, by omega, fun j hj => ?_⟩, by simp only [Int.toNat_natCast]; omega⟩
        dsimp only
        rw [rdA_wrA _ _ _ _ (by omega)]
        split
        · exact i8_rng (parse8 (rd eT ws (i : Int))).1
        · exact h3 j hj
  · cases y with
    | inr r => exact Ok.some (.inl hy)
    | inl v =>
      show Ok (((impl_ValidScene.f v).bind fun r36 => bif (!r36) then (some true) else ((impl_sceneText.f v).bind fun r40 => some (!(r40.toList == (ba l).toList)))).bind fun y34 => bif y34 then ((some (zA 24)).bind fun m45 => some (m45, 5)) else (some (v, 0))) (AnsN l)
      rw [ValidScene_val hy]
      cases ho : okN v with
      | false => exact Ok.some (.inl rfl)
      | true =>
        simp only [Option.bind_some, Bool.not_true, cond_false]
        rw [sceneText_val ho]
        simp only [Option.bind_some]
        cases hq : ((ba (Lib.join [rowL v 0, rowL v 1, rowL v 2, rowL v 3] [47])).toList == (ba l).toList) with
        | false => exact Ok.some (.inl rfl)
        | true =>
          rw [ByteArray.toList_eq, ByteArray.toList_eq, ba_list, ba_list] at hq
          have hq' : TX v = l := by
            have hq2 : Lib.join [rowL v 0, rowL v 1, rowL v 2, rowL v 3] [47] = l := by simpa using hq
            exact hq2
          exact Ok.some (.inr ⟨v, ho, rfl, hq'.symm⟩)
end Go.Proofs.YtadggddaheipgaaDoor
