/- FnExactDropFrame's law: what its Go text computes is true for every sheet and number. Condition: the frames' number is one that a slice may have. -/
import Derived.Test.YtnjabckgklafhaaDa
set_option linter.unusedVariables false
set_option linter.unusedSimpArgs false
namespace Go.Proofs.Ytnjabckgklafhaa
open Go.Proofs.Ytnjabckgklafhaa.G

theorem toPrint_val (v : Pr) : laws_toPrint.f v = some v := by
  unfold laws_toPrint.f
  let st : Nat → Int × Pr := fun i => ((i : Int), Vector.ofFn fun j : Fin 64 => if j.val < i then rdA v (j.val : Int) else 0)
  rw [loopW_for (bd := laws_toPrint.b1 v) st (n := 64) (y := v) (fun i hi => ?_) ?_ ?_]
  · rfl
  · have : (Vector.ofFn fun j : Fin 64 => if j.val < 64 then rdA v (j.val : Int) else 0) = v := vec_ext fun j hj => by rw [rdA_ofFn _ hj]; simp [hj]
    simp only [st, laws_toPrint.b1]
    rw [this]; rfl
  · simp only [st, Prod.mk.injEq, true_and]
    refine ⟨rfl, vec_ext fun j hj => ?_⟩
    rw [rdA_ofFn _ hj, rdA_zA]; simp
  · have h1 : decide ((i : Int) < 64) = true := by simp; omega
    have hv : wrA (Vector.ofFn fun j : Fin 64 => if j.val < i then rdA v (j.val : Int) else 0) (i : Int) (rdA v (i : Int)) = Vector.ofFn fun j : Fin 64 => if j.val < i + 1 then rdA v (j.val : Int) else 0 := vec_ext fun j hj => by
      rw [rdA_wrA _ _ _ _ hi, rdA_ofFn _ hj, rdA_ofFn _ hj]
      by_cases e : j = i
      · subst e; simp
      · have : (j < i + 1) = (j < i) := by apply propext; omega
        simp [e, this]
    simp only [st, laws_toPrint.b1, h1, cond_true, inB_ofNat hi, Option.bind_some]
    rw [wsucc hi (by decide), hv]

theorem toPrintS_val {xs : List Pr} (hs : Short xs) : laws_toPrintS.f xs = some xs := by
  have hs' : xs.length ≤ 1048576 := hs
  unfold laws_toPrintS.f
  have hm : mkB (xs.length : Int) 128 = true := by simp [mkB]; omega
  rw [hm]
  let st : Nat → Int × List Pr := fun i => ((i : Int), xs.take i ++ List.replicate (xs.length - i) (zA 64))
  rw [loopW_for (bd := laws_toPrintS.b1 xs) st (n := xs.length) (y := xs) (fun i hi => ?_) ?_ ?_]
  · rfl
  · simp only [st, laws_toPrintS.b1, Int.lt_irrefl, decide_false, cond_false, Nat.sub_self, List.replicate_zero, List.append_nil, List.take_length]
  · simp only [st, List.take_zero, List.nil_append, Nat.sub_zero, Int.toNat_natCast]; rfl
  · have h1 : decide ((i : Int) < (xs.length : Int)) = true := by simp; omega
    have hl : (xs.take i ++ List.replicate (xs.length - i) (zA 64)).length = xs.length := by simp; omega
    simp only [st, laws_toPrintS.b1, h1, cond_true, inB_ofNat hi, Option.bind_some, toPrint_val, hl]
    rw [wsucc hi (by omega), rd_ofNat hi]
    have e1 : (xs.take i).length = i := by simp; omega
    have e2 : xs.take (i + 1) = xs.take i ++ [xs[i]] := by rw [List.take_add_one, List.getElem?_eq_getElem hi]; rfl
    have hv : (xs.take i ++ List.replicate (xs.length - i) (zA 64)).set i xs[i] = xs.take (i + 1) ++ List.replicate (xs.length - (i + 1)) (zA 64) := by
      rw [List.set_append_right _ _ (by omega), e1, Nat.sub_self, show xs.length - i = (xs.length - (i + 1)) + 1 by omega, List.replicate_succ, List.set_cons_zero, e2, List.append_assoc]
      rfl
    rw [Int.toNat_natCast, hv]
theorem toSheet_val {s : laws_Sheet} (hs : Short s.Frames) : laws_toSheet.f s = some ⟨s.Across, s.Frames⟩ := by
  unfold laws_toSheet.f; rw [toPrintS_val hs]; rfl

theorem eqPrint_val (a b : Pr) : laws_eqPrint.f a b = some (decide (a = b)) := by
  unfold laws_eqPrint.f
  rw [loop_all (bd := laws_eqPrint.b1 a b) 64 (fun i => rdA a (i : Int) == rdA b (i : Int)) (.inl ()) (.inr false) (fun i hi => ?_) rfl]
  · rw [vec_all_eq]
    cases decide (a = b) <;> rfl
  · have h1 : decide ((i : Int) < 64) = true := by simp; omega
    simp only [laws_eqPrint.b1, h1, cond_true, inB_ofNat hi, Option.bind_some]
    rw [wsucc hi (by decide)]
    show (bif !(rdA a (i : Int) == rdA b (i : Int)) then _ else _) = _
    cases (rdA a (i : Int) == rdA b (i : Int)) <;> rfl
theorem eqPrintS_val {a b : List Pr} (ha : Short a) : laws_eqPrintS.f a b = some (decide (a = b)) := by
  have ha' : a.length ≤ 1048576 := ha
  unfold laws_eqPrintS.f
  by_cases hl : a.length = b.length
  · have h0 : ((a.length : Int) != (b.length : Int)) = false := by simp [hl]
    rw [h0, cond_false, loop_all (bd := laws_eqPrintS.b1 a b) a.length (fun i => decide (rd eP a (i : Int) = rd eP b (i : Int))) (.inl ()) (.inr false) (fun i hi => ?_) ?_]
    · rw [list_all_eq eP hl]
      cases decide (a = b) <;> rfl
    · simp only [laws_eqPrintS.b1, Int.lt_irrefl, decide_false, cond_false]
    · have h1 : decide ((i : Int) < (a.length : Int)) = true := by simp; omega
      simp only [laws_eqPrintS.b1, h1, cond_true, inB_ofNat hi, inB_ofNat (hl ▸ hi : i < b.length), Option.bind_some, eqPrint_val]
      rw [wsucc hi (by omega)]
      cases decide (rd eP a (i : Int) = rd eP b (i : Int)) <;> rfl
  · have h0 : ((a.length : Int) != (b.length : Int)) = true := by simp; omega
    have h2 : decide (a = b) = false := decide_eq_false fun e => hl (by rw [e])
    rw [h0, h2]; rfl
theorem eqSheet_val {a b : impl_Sheet} (ha : Short a.Frames) : laws_eqSheet.f a b = some (decide (a.Across = b.Across) && decide (a.Frames = b.Frames)) := by
  unfold laws_eqSheet.f
  rw [eqPrintS_val ha]
  by_cases h : a.Across = b.Across
  · simp only [h, bne_self_eq_false, cond_false, Option.bind_some, decide_true, Bool.true_and]
    cases decide (a.Frames = b.Frames) <;> rfl
  · have : (a.Across != b.Across) = true := by simp [h]
    simp [this, h]

/-! ### Marks -/

def mkd (k : Int) : Pr := Vector.ofFn fun j : Fin 64 => IntKind.wrap .i16 (k + j.val)
/-- marked up to cell j -/
def mkTo (v : Pr) (k : Int) (j : Nat) : Pr := Vector.ofFn fun t : Fin 64 => if t.val < j then IntKind.wrap .i16 (k + t.val) else rdA v (t.val : Int)
theorem mkTo_zero (v : Pr) (k : Int) : mkTo v k 0 = v := vec_ext fun j hj => by rw [mkTo, rdA_ofFn _ hj]; simp
theorem mkTo_all (v : Pr) (k : Int) : mkTo v k 64 = mkd k := vec_ext fun j hj => by rw [mkTo, mkd, rdA_ofFn _ hj, rdA_ofFn _ hj]; simp [hj]
theorem mkTo_succ (v : Pr) (k : Int) {j : Nat} (hj : j < 64) : wrA (mkTo v k j) (j : Int) (IntKind.wrap .i16 (k + j)) = mkTo v k (j + 1) := vec_ext fun t ht => by
  rw [rdA_wrA _ _ _ _ hj, mkTo, mkTo, rdA_ofFn _ ht, rdA_ofFn _ ht]
  by_cases e : t = j
  · subst e; simp
  · have : (t < j + 1) = (t < j) := by apply propext; omega
    simp [e, this]

def mks (k : Int) : Nat → List Pr
  | 0 => []
  | n + 1 => mkd k :: mks (k + 64) n
theorem mks_len : ∀ (k : Int) (n : Nat), (mks k n).length = n
  | _, 0 => rfl
  | k, n + 1 => by simp [mks, mks_len (k + 64) n]
theorem mks_get : ∀ (n : Nat) (k : Int) {i : Nat} (h : i < (mks k n).length), (mks k n)[i] = mkd (k + 64 * i)
  | 0, k, i, h => by simp [mks] at h
  | n + 1, k, 0, h => by simp [mks]
  | n + 1, k, i + 1, h => by
    have h' : i < (mks (k + 64) n).length := by simpa [mks] using h
    simp only [mks, List.getElem_cons_succ]
    rw [mks_get n (k + 64) h']
    congr 1
    omega

theorem mark_in {w : List Pr} {k : Int} {i : Nat} (hi : i < w.length) (hk : 0 ≤ k) (hk2 : k ≤ 4611686018427387904) : loopW (laws_markPrintS.b2 (k, (i : Int), w)) (k, 0, w) = some (k + 64, w.set i (mkd k)) := by
  let st : Nat → Int × Int × List Pr := fun j => (k + j, (j : Int), w.set i (mkTo w[i] k j))
  refine loopW_for st (n := 64) (fun j hj => ?_) ?_ ?_
  · have h1 : decide ((j : Int) < 64) = true := by simp; omega
    have hl : (w.set i (mkTo w[i] k j)).length = w.length := by simp
    simp only [st, laws_markPrintS.b2, h1, cond_true, inB_ofNat hj, Option.bind_some, hl, inB_ofNat hi]
    rw [wsucc hj (by decide), w64 (n := k + j + 1) (by omega) (by omega), rd_ofNat (by simpa using hi)]
    simp only [Int.toNat_natCast, List.getElem_set_self, List.set_set]
    rw [mkTo_succ _ _ hj]
    congr 3
    omega
  · simp only [st, laws_markPrintS.b2]
    rw [mkTo_all]
    rfl
  · simp only [st, mkTo_zero, List.set_getElem_self]
    simp
theorem markPrintS_val {a : List Pr} (ha : Short a) : laws_markPrintS.f a 1 = some (1 + 64 * (a.length : Int), mks 1 a.length) := by
  have ha' : a.length ≤ 1048576 := ha
  unfold laws_markPrintS.f
  let st : Nat → Int × Int × List Pr := fun i => (1 + 64 * (i : Int), (i : Int), (mks 1 a.length).take i ++ a.drop i)
  have hl : ∀ i, i ≤ a.length → ((mks 1 a.length).take i ++ a.drop i).length = a.length := fun i hi => by simp [mks_len]; omega
  rw [loopW_for (bd := laws_markPrintS.b1) st (n := a.length) (y := (1 + 64 * (a.length : Int), mks 1 a.length)) (fun i hi => ?_) ?_ ?_]
  · rfl
  · simp only [st, laws_markPrintS.b1]
    rw [hl _ (Nat.le_refl _)]
    simp only [Int.lt_irrefl, decide_false, cond_false]
    simp [mks_len, List.take_of_length_le]
  · simp [st]
  · have h1 : decide ((i : Int) < (a.length : Int)) = true := by simp; omega
    have hi' : i < ((mks 1 a.length).take i ++ a.drop i).length := by rw [hl i (by omega)]; exact hi
    simp only [st, laws_markPrintS.b1]
    rw [hl i (by omega), h1, cond_true, mark_in hi' (by omega) (by omega)]
    simp only [Option.bind_some]
    have e1 : ((mks 1 a.length).take i).length = i := by simp [mks_len]; omega
    have hm : i < (mks 1 a.length).length := by rw [mks_len]; exact hi
    have e2 : (mks 1 a.length).take (i + 1) = (mks 1 a.length).take i ++ [mkd (1 + 64 * (i : Int))] := by rw [List.take_add_one, List.getElem?_eq_getElem hm, mks_get]; rfl
    have hv : ((mks 1 a.length).take i ++ a.drop i).set i (mkd (1 + 64 * (i : Int))) = (mks 1 a.length).take (i + 1) ++ a.drop (i + 1) := by
      rw [List.set_append_right _ _ (by omega), e1, Nat.sub_self, List.drop_eq_getElem_cons hi, List.set_cons_zero, e2, List.append_assoc]
      rfl
    have hk : 1 + 64 * (i : Int) + 64 = 1 + 64 * ((i + 1 : Nat) : Int) := by omega
    rw [wsucc hi (by omega), hv, hk]
theorem held_in {w : List Pr} {k : Int} {i : Nat} (hi : i < w.length) (hw : w[i] = mkd k) (hk : 0 ≤ k) (hk2 : k ≤ 4611686018427387904) : loopW (laws_heldPrintS.b2 w (k, (i : Int))) (k, 0) = some (.inl (k + 64)) := by
  let st : Nat → Int × Int := fun j => (k + j, (j : Int))
  refine loopW_for st (n := 64) (fun j hj => ?_) ?_ ?_
  · have h1 : decide ((j : Int) < 64) = true := by simp; omega
    simp only [st, laws_heldPrintS.b2, h1, cond_true, inB_ofNat hj, Option.bind_some, inB_ofNat hi]
    rw [wsucc hj (by decide), w64 (n := k + j + 1) (by omega) (by omega), rd_ofNat hi, hw, mkd, rdA_ofFn _ hj]
    simp only [bne_self_eq_false, cond_false]
    congr 3
    omega
  · simp only [st, laws_heldPrintS.b2]
    rfl
  · simp [st]
theorem heldPrintS_val {n : Nat} (hn : n ≤ 1048576) : laws_heldPrintS.f (mks 1 n) 1 = some (1 + 64 * (n : Int)) := by
  unfold laws_heldPrintS.f
  let st : Nat → Int × Int := fun i => (1 + 64 * (i : Int), (i : Int))
  have hl := mks_len 1 n
  rw [loopW_for (bd := laws_heldPrintS.b1 (mks 1 n)) st (n := n) (y := .inl (1 + 64 * (n : Int))) (fun i hi => ?_) ?_ ?_]
  · rfl
  · simp only [st, laws_heldPrintS.b1]
    rw [hl]
    simp only [Int.lt_irrefl, decide_false, cond_false]
  · simp [st]
  · have h1 : decide ((i : Int) < (n : Int)) = true := by simp; omega
    have hi' : i < (mks 1 n).length := by omega
    simp only [st, laws_heldPrintS.b1]
    rw [hl, h1, cond_true, held_in hi' (mks_get n 1 hi') (by omega) (by omega)]
    have hk : 1 + 64 * (i : Int) + 64 = 1 + 64 * ((i + 1 : Nat) : Int) := by omega
    simp only [Option.bind_some, Sum.elim_inl]
    rw [wsucc hi (by omega), hk]

theorem room_ok {n m b : Nat} (h : n + m ≤ 2097152) (hb : b ≤ 1024) : roomB n m b = true := by
  have : (n + m) * b ≤ 2097152 * 1024 := Nat.mul_le_mul h hb
  simp [roomB]; omega

/-! ### Frames that are left out -/

def dropped (s : impl_Sheet) (i : Int) : impl_Sheet × Int := bif codeS s [i] != 0 then (⟨0, []⟩, codeS s [i]) else (⟨s.Across, s.Frames.take i.toNat ++ s.Frames.drop (i.toNat + 1)⟩, 0)
theorem implDrop_val {s : impl_Sheet} (hs : Short s.Frames) (i : Int) : impl_DropFrame.f s i = some (dropped s i) := by
  have hs' : s.Frames.length ≤ 1048576 := hs
  unfold impl_DropFrame.f dropped
  rw [sheetCode_val (s := ⟨s.Across, s.Frames⟩) hs (fr := [i]) (by simp [Short])]
  simp only [Option.bind_some]
  cases hc : (codeS s [i] != 0) with
  | true => rfl
  | false =>
    have h := (codeS_zero hc).2 i (by simp)
    have hw : IntKind.wrap .i64 (i + 1) = i + 1 := w64 (by omega) (by omega)
    have b1 : inS i (i + 1) s.Frames.length = true := inS_iff.2 ⟨by omega, by omega, by omega⟩
    have b2 : inS 0 i s.Frames.length = true := inS_iff.2 ⟨by omega, by omega, by omega⟩
    have b3 : inS (i + 1) (s.Frames.length : Int) s.Frames.length = true := inS_iff.2 ⟨by omega, by omega, by omega⟩
    have hne : (i == i + 1) = false := by simp; omega
    simp only [cond_false, slices_Clone_impl_Print_impl_Print.f, List.length_nil, room_ok (n := 0) (m := s.Frames.length) (b := 128) (by omega) (by decide), cond_true, List.nil_append, Option.bind_some, slices_Delete_impl_Print_impl_Print.f, hw, b1, b2, b3, hne]
    rw [show (i + 1).toNat = i.toNat + 1 by omega]
theorem specDrop_val {s : impl_Sheet} (hs : Short s.Frames) (i : Int) : spec_DropFrame.f s i = some (dropped s i) := by
  have hs' : s.Frames.length ≤ 1048576 := hs
  unfold spec_DropFrame.f dropped
  rw [l07Asked_val (s := ⟨s.Across, s.Frames⟩) hs]
  simp only [Option.bind_some]
  cases hc : (codeS s [i] != 0) with
  | true => rfl
  | false =>
    have h := (codeS_zero hc).2 i (by simp)
    have hw : IntKind.wrap .i64 (i + 1) = i + 1 := w64 (by omega) (by omega)
    have b2 : inS 0 i s.Frames.length = true := inS_iff.2 ⟨by omega, by omega, by omega⟩
    have b3 : inS (i + 1) (s.Frames.length : Int) s.Frames.length = true := inS_iff.2 ⟨by omega, by omega, by omega⟩
    have l1 := subL_len b2
    have l2 := subL_len b3
    simp only [cond_false, hw, b2, b3, cond_true, List.length_nil, List.nil_append]
    rw [room_ok (by omega) (by decide), cond_true, room_ok (by omega) (by decide), cond_true]
    unfold spec_l07With.f
    rw [room_ok (by simp only [List.length_nil, List.length_append]; omega) (by decide)]
    have e1 : subL s.Frames 0 i = s.Frames.take i.toNat := by simp [subL]
    have e2 : subL s.Frames (i + 1) (s.Frames.length : Int) = s.Frames.drop (i.toNat + 1) := by
      unfold subL
      rw [show (i + 1).toNat = i.toNat + 1 by omega, List.take_of_length_le]
      simp
    simp only [cond_true, List.nil_append, Option.bind_some, e1, e2]
theorem dropped_short {s : impl_Sheet} (hs : Short s.Frames) (i : Int) : Short (dropped s i).1.Frames := by
  have hs' : s.Frames.length ≤ 1048576 := hs
  unfold dropped Short
  cases (codeS s [i] != 0) with
  | true => simp
  | false => simp; omega

theorem dropFrame_true (s : laws_Sheet) (hl : s.Frames.length ≤ 9223372036854775807) (i : Int) : laws_FnExactDropFrame.f s i = some true := by
  unfold laws_FnExactDropFrame.f laws_szSheet.f laws_szPrintS.f
  simp only [Option.bind_some]
  rw [w64 (n := 1048576 - (s.Frames.length : Int)) (by omega) (by omega)]
  by_cases hb : (1048576 : Int) - (s.Frames.length : Int) < 0
  · simp [hb]
  · have hs : Short s.Frames := by unfold Short; omega
    have hs' : s.Frames.length ≤ 1048576 := hs
    simp only [decide_eq_false hb, cond_false, Option.bind_some]
    rw [toSheet_val (s := ⟨s.Across, s.Frames⟩) hs]
    simp only [Option.bind_some]
    have hd := dropped_short (s := ⟨s.Across, s.Frames⟩) hs i
    have hdl : (dropped ⟨s.Across, s.Frames⟩ i).1.Frames.length ≤ 1048576 := hd
    rw [specDrop_val (s := ⟨s.Across, s.Frames⟩) hs, implDrop_val (s := ⟨s.Across, s.Frames⟩) hs]
    simp only [Option.bind_some]
    rw [eqSheet_val (a := ⟨(dropped ⟨s.Across, s.Frames⟩ i).1.Across, (dropped ⟨s.Across, s.Frames⟩ i).1.Frames⟩) hd, eqSheet_val (a := ⟨s.Across, s.Frames⟩) hs]
    simp only [decide_true, Bool.and_self, Option.bind_some, Bool.not_true, cond_false, bne_self_eq_false]
    unfold laws_markSheet.f
    rw [markPrintS_val hs, markPrintS_val hd]
    unfold laws_heldSheet.f
    simp only [Option.bind_some, heldPrintS_val hdl]
    have h1 : decide ((1 : Int) + 64 * (s.Frames.length : Int) < 0) = false := decide_eq_false (by omega)
    have h2 : decide ((1 : Int) + 64 * ((dropped ⟨s.Across, s.Frames⟩ i).1.Frames.length : Int) < 0) = false := decide_eq_false (by omega)
    simp only [h1, h2, cond_false, Option.bind_some, bne_self_eq_false]
end Go.Proofs.Ytnjabckgklafhaa
