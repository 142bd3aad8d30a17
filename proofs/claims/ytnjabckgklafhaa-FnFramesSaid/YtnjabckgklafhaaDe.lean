/- FnFrames' law: what its Go text computes is true for all bytes. -/
import Derived.Test.YtnjabckgklafhaaDd
set_option linter.unusedVariables false
set_option linter.unusedSimpArgs false
namespace Go.Proofs.Ytnjabckgklafhaa
open Go.Proofs.Ytnjabckgklafhaa.G

theorem tdiv_pos_nn {a b : Int} (ha : 0 ≤ a) (hb : 0 < b) : a.tdiv b = a / b := Int.tdiv_eq_ediv_of_nonneg ha

theorem rowsOf_val {s : impl_Sheet} (h : Sht s) : impl_RowsOf.f s = some (((s.Frames.length : Int) + s.Across - 1) / s.Across, 0) := by
  have h1 := h.a1; have h2 := h.a2; have h3 := h.n
  unfold impl_RowsOf.f impl_length_impl_Print.f
  rw [ValidSheet_val (s := ⟨s.Across, s.Frames⟩) h.short, show okS ⟨s.Across, s.Frames⟩ = true from h.ok]
  simp only [Option.bind_some, Bool.not_true, cond_false]
  rw [w64 (n := s.Across) (by omega) (by omega)]
  have hne : (!(s.Across == 0)) = true := by simp; omega
  rw [hne, cond_true, w64 (n := (s.Frames.length : Int) + s.Across) (by omega) (by omega), w64 (n := (s.Frames.length : Int) + s.Across - 1) (by omega) (by omega), tdiv_nn (by omega)]
  have hq : 0 ≤ ((s.Frames.length : Int) + s.Across - 1) / s.Across := Int.ediv_nonneg (by omega) (by omega)
  have hq2 : ((s.Frames.length : Int) + s.Across - 1) / s.Across ≤ (s.Frames.length : Int) + s.Across - 1 := Int.ediv_le_self _ (by omega)
  rw [w64 (by omega) (by omega)]

/-! ### The darkest frame -/

def sumP (v : Pr) : Int := sumTo (fun k => rdA v (k : Int)) 64
theorem sum_rng {v : Pr} (h : Dn v) (n : Nat) (hn : n ≤ 64) : 0 ≤ sumTo (fun k => rdA v (k : Int)) n ∧ sumTo (fun k => rdA v (k : Int)) n ≤ 400 * n := by
  refine ⟨sumTo_nonneg fun i hi => (h i (by omega)).1, ?_⟩
  have := sumTo_le (f := fun k => rdA v (k : Int)) (g := fun _ => 400) (n := n) fun i hi => (h i (by omega)).2
  rw [sumTo_const] at this
  omega
theorem implSum_val {v : Pr} (h : Dn v) : loopW (impl_DarkestFrame.b2 v) (0, 0) = some (sumP v) := by
  let st : Nat → Int × Int := fun i => (sumTo (fun k => rdA v (k : Int)) i, (i : Int))
  refine loopW_for st (n := 64) (fun i hi => ?_) ?_ ?_
  · have h1 : decide ((i : Int) < 64) = true := by simp; omega
    have h2 := sum_rng h i (by omega)
    have h3 := h i hi
    simp only [st, impl_DarkestFrame.b2, h1, cond_true, inB_ofNat hi, Option.bind_some]
    rw [w64 (n := rdA v (i : Int)) (by omega) (by omega), w64 (n := sumTo (fun k => rdA v (k : Int)) i + rdA v (i : Int)) (by omega) (by omega), wsucc hi (by decide)]
    rfl
  · rfl
  · rfl
theorem specSum_val {s : impl_Sheet} {i : Nat} (hi : i < s.Frames.length) (h : Dn s.Frames[i]) (a b : Int) : loopW (spec_DarkestFrame.b2 s (a, (i : Int), b)) (0, 0) = some (sumP s.Frames[i]) := by
  let st : Nat → Int × Int := fun j => (sumTo (fun k => rdA s.Frames[i] (k : Int)) j, (j : Int))
  refine loopW_for st (n := 64) (fun j hj => ?_) ?_ ?_
  · have h1 : decide ((j : Int) < 64) = true := by simp; omega
    have h2 := sum_rng h j (by omega)
    have h3 := h j hj
    simp only [st, spec_DarkestFrame.b2, h1, cond_true, inB_ofNat hj, inB_ofNat hi, Option.bind_some]
    rw [rd_ofNat hi, w64 (n := rdA s.Frames[i] (j : Int)) (by omega) (by omega), w64 (n := sumTo (fun k => rdA s.Frames[i] (k : Int)) j + rdA s.Frames[i] (j : Int)) (by omega) (by omega), wsucc hj (by decide)]
    rfl
  · rfl
  · rfl
/-- the greatest sum so far, and its place -/
def darkest (s : impl_Sheet) : Nat → Int × Int
  | 0 => (-1, 0)
  | i + 1 => if (darkest s i).1 < sumP (s.Frames.getD i (zA 64)) then (sumP (s.Frames.getD i (zA 64)), (i : Int)) else darkest s i
theorem getD_get {α : Type} {l : List α} {d : α} {i : Nat} (h : i < l.length) : l.getD i d = l[i] := by simp [List.getD_eq_getElem?_getD, h]
theorem implDark_val {s : impl_Sheet} (h : Sht s) : loopW (impl_DarkestFrame.b1 s) (-1, 0, 0) = some (darkest s s.Frames.length) := by
  have hn := h.n
  let st : Nat → Int × Int × Int := fun i => ((darkest s i).1, (i : Int), (darkest s i).2)
  refine loopW_for st (n := s.Frames.length) (fun i hi => ?_) ?_ ?_
  · have h1 : decide ((i : Int) < (s.Frames.length : Int)) = true := by simp; omega
    simp only [st, impl_DarkestFrame.b1, h1, cond_true, inB_ofNat hi, Option.bind_some]
    rw [rd_ofNat hi, implSum_val (h.d _ (List.getElem_mem hi)), wsucc hi (by omega)]
    simp only [Option.bind_some, darkest, getD_get hi]
    by_cases hc : (darkest s i).1 < sumP s.Frames[i] <;> simp [hc]
  · simp only [st, impl_DarkestFrame.b1, Int.lt_irrefl, decide_false, cond_false]
  · rfl
theorem specDark_val {s : impl_Sheet} (h : Sht s) : loopW (spec_DarkestFrame.b1 s) (-1, 0, 0) = some (darkest s s.Frames.length) := by
  have hn := h.n
  let st : Nat → Int × Int × Int := fun i => ((darkest s i).1, (i : Int), (darkest s i).2)
  refine loopW_for st (n := s.Frames.length) (fun i hi => ?_) ?_ ?_
  · have h1 : decide ((i : Int) < (s.Frames.length : Int)) = true := by simp; omega
    simp only [st, spec_DarkestFrame.b1, h1, cond_true]
    rw [specSum_val hi (h.d _ (List.getElem_mem hi)), wsucc hi (by omega)]
    simp only [Option.bind_some, darkest, getD_get hi]
    by_cases hc : (darkest s i).1 < sumP s.Frames[i] <;> simp [hc]
  · simp only [st, spec_DarkestFrame.b1, Int.lt_irrefl, decide_false, cond_false]
  · rfl
theorem darkest_nn {s : impl_Sheet} (h : Sht s) : ∀ i, 0 < i → i ≤ s.Frames.length → 0 ≤ (darkest s i).1
  | 0, h0, _ => by omega
  | i + 1, _, hi => by
    have hs := (sum_rng (h.d _ (List.getElem_mem (show i < s.Frames.length by omega))) 64 (by omega)).1
    unfold darkest
    rw [getD_get (show i < s.Frames.length by omega)]
    split
    · exact hs
    · rename_i hc
      have : 0 ≤ sumP s.Frames[i] := hs
      omega
theorem dark_both {s : impl_Sheet} (h : Sht s) : ∃ r, impl_DarkestFrame.f s = some r ∧ spec_DarkestFrame.f s = some r ∧ (r.2.2 == 0) = decide (0 < (s.Frames.length : Int)) := by
  unfold impl_DarkestFrame.f spec_DarkestFrame.f
  rw [ValidSheet_val (s := ⟨s.Across, s.Frames⟩) h.short, l07Ok_val (s := ⟨s.Across, s.Frames⟩) h.short, show okS ⟨s.Across, s.Frames⟩ = true from h.ok, implDark_val h, specDark_val h]
  simp only [Option.bind_some, Bool.not_true, cond_false]
  by_cases h0 : s.Frames.length = 0
  · rw [h0]
    exact ⟨(0, 0, 6), rfl, rfl, rfl⟩
  · have h1 := darkest_nn h s.Frames.length (by omega) (Nat.le_refl _)
    have e1 : ((s.Frames.length : Int) == 0) = false := beq_eq_false_iff_ne.2 (by omega)
    have e2 : decide ((darkest s s.Frames.length).1 < 0) = false := decide_eq_false (by omega)
    rw [e1, e2]
    exact ⟨((darkest s s.Frames.length).2, (darkest s s.Frames.length).1, 0), rfl, rfl, by rw [decide_eq_true (show 0 < (s.Frames.length : Int) by omega)]; rfl⟩

/-! ### Places -/

theorem placeOf_val {s : impl_Sheet} (h : Sht s) {i : Nat} (hi : i < s.Frames.length) : impl_PlaceOf.f s (i : Int) = some ((i : Int) % s.Across, (i : Int) / s.Across, 0) := by
  have h1 := h.a1; have h2 := h.a2; have h3 := h.n
  unfold impl_PlaceOf.f
  rw [sheetCode_val (s := ⟨s.Across, s.Frames⟩) h.short (fr := [(i : Int)]) (by simp [Short])]
  have hc : codeS ⟨s.Across, s.Frames⟩ [(i : Int)] = 0 := by
    unfold codeS
    rw [show okS ⟨s.Across, s.Frames⟩ = true from h.ok]
    have : (decide (0 ≤ (i : Int)) && decide ((i : Int) ≤ (s.Frames.length : Int) - 1)) = true := by simp; omega
    simp only [List.all_cons, List.all_nil, this, Bool.and_true, cond_true]
  have hne : (!(s.Across == 0)) = true := by simp; omega
  simp only [hc, Option.bind_some, bne_self_eq_false, cond_false]
  rw [w64 (n := s.Across) (by omega) (by omega), hne, tmod_nn (by omega), tdiv_nn (by omega)]
  have hq : 0 ≤ (i : Int) / s.Across := Int.ediv_nonneg (by omega) (by omega)
  have hq2 : (i : Int) / s.Across ≤ (i : Int) := Int.ediv_le_self _ (by omega)
  rw [w64 (by omega) (by omega)]
  rfl
theorem frameAt_val {s : impl_Sheet} (h : Sht s) {i : Nat} (hi : i < s.Frames.length) : impl_FrameAt.f s ((i : Int) % s.Across) ((i : Int) / s.Across) = some ((i : Int), 0) := by
  have h1 := h.a1; have h2 := h.a2; have h3 := h.n
  have hq : 0 ≤ (i : Int) / s.Across := Int.ediv_nonneg (by omega) (by omega)
  have hq2 : (i : Int) / s.Across ≤ (i : Int) := Int.ediv_le_self _ (by omega)
  have hm := Int.emod_nonneg (i : Int) (show s.Across ≠ 0 by omega)
  have hm2 := Int.emod_lt_of_pos (i : Int) (show 0 < s.Across by omega)
  have he : (i : Int) / s.Across * s.Across + (i : Int) % s.Across = i := by rw [Int.mul_comm]; exact Int.mul_ediv_add_emod _ _
  have hb : 0 ≤ (i : Int) / s.Across * s.Across := Int.mul_nonneg hq (by omega)
  unfold impl_FrameAt.f impl_Sheet_isFrame.f impl_length_impl_Print.f
  rw [ValidSheet_val (s := ⟨s.Across, s.Frames⟩) h.short, show okS ⟨s.Across, s.Frames⟩ = true from h.ok]
  simp only [Option.bind_some, Bool.not_true, cond_false, within_val]
  rw [w64 (n := s.Across) (by omega) (by omega), w64 (n := s.Across - 1) (by omega) (by omega), w64 (n := (i : Int) / s.Across * s.Across) (by omega) (by omega), he, w64 (n := (i : Int)) (by omega) (by omega), w64 (n := (s.Frames.length : Int) - 1) (by omega) (by omega)]
  have b1 : (decide (0 ≤ (i : Int) % s.Across) && decide ((i : Int) % s.Across ≤ s.Across - 1)) = true := by simp; omega
  have b2 : (decide (0 ≤ (i : Int) / s.Across) && decide ((i : Int) / s.Across ≤ 12)) = true := by simp; omega
  have b3 : (decide (0 ≤ (i : Int)) && decide ((i : Int) ≤ (s.Frames.length : Int) - 1)) = true := by simp; omega
  rw [b1, b2, b3]
  rfl
theorem div_lt_rows {n c i : Int} (hc : 1 ≤ c) (h0 : 0 ≤ i) (hi : i < n) : i / c < (n + c - 1) / c := by
  have : (i + c) / c ≤ (n + c - 1) / c := Int.ediv_le_ediv (by omega) (by omega)
  rw [Int.add_ediv_of_dvd_right (Int.dvd_refl c), Int.ediv_self (by omega)] at this
  omega
theorem places_ok {s : impl_Sheet} (h : Sht s) : loopW (laws_FnFrames.b1 s (s.Frames.length : Int) (((s.Frames.length : Int) + s.Across - 1) / s.Across, 0)) 0 = some (.inl ()) := by
  have h1 := h.a1; have h2 := h.a2; have h3 := h.n
  refine loopW_for (fun i : Nat => (i : Int)) (n := s.Frames.length) (fun i hi => ?_) ?_ rfl
  · have hq : 0 ≤ (i : Int) / s.Across := Int.ediv_nonneg (by omega) (by omega)
    have hm := Int.emod_nonneg (i : Int) (show s.Across ≠ 0 by omega)
    have hm2 := Int.emod_lt_of_pos (i : Int) (show 0 < s.Across by omega)
    have hr := div_lt_rows (n := (s.Frames.length : Int)) (c := s.Across) (i := (i : Int)) h1 (by omega) (by omega)
    have d1 : decide ((i : Int) < (s.Frames.length : Int)) = true := by simp; omega
    have d2 : decide ((i : Int) % s.Across < 0) = false := decide_eq_false (by omega)
    have d3 : decide (s.Across ≤ (i : Int) % s.Across) = false := decide_eq_false (by omega)
    have d4 : decide ((i : Int) / s.Across < 0) = false := decide_eq_false (by omega)
    have d5 : decide (((s.Frames.length : Int) + s.Across - 1) / s.Across ≤ (i : Int) / s.Across) = false := decide_eq_false (by omega)
    unfold laws_FnFrames.b1
    simp only [d1, cond_true]
    rw [placeOf_val (s := ⟨s.Across, s.Frames⟩) ⟨h.a1, h.a2, h.n, h.d⟩ hi]
    simp only [Option.bind_some]
    rw [frameAt_val (s := ⟨s.Across, s.Frames⟩) ⟨h.a1, h.a2, h.n, h.d⟩ hi, w64 (n := s.Across) (by omega) (by omega), wsucc hi (by omega)]
    simp only [Option.bind_some, bne_self_eq_false, cond_false, d2, d3, d4, d5]
  · unfold laws_FnFrames.b1
    simp only [Int.lt_irrefl, decide_false, cond_false]

/-! ### Frames that are exchanged -/

def swapped (s : impl_Sheet) (i k : Nat) : impl_Sheet := ⟨s.Across, (s.Frames.set i (s.Frames.getD k (zA 64))).set k (s.Frames.getD i (zA 64))⟩
theorem code_in {s : impl_Sheet} (h : Sht s) {fr : List Int} (hf : ∀ i ∈ fr, 0 ≤ i ∧ i < (s.Frames.length : Int)) : codeS s fr = 0 := by
  unfold codeS
  rw [h.ok]
  have : (fr.all fun i => decide (0 ≤ i) && decide (i ≤ (s.Frames.length : Int) - 1)) = true := List.all_eq_true.2 fun i hi => by have := hf i hi; simp; omega
  rw [this]; rfl
theorem implSwap_val {s : impl_Sheet} (h : Sht s) {i k : Nat} (hi : i < s.Frames.length) (hk : k < s.Frames.length) : impl_SwapFrames.f s (i : Int) (k : Int) = some (swapped s i k, 0) := by
  have h3 := h.n
  unfold impl_SwapFrames.f slices_Clone_impl_Print_impl_Print.f
  rw [sheetCode_val (s := ⟨s.Across, s.Frames⟩) h.short (fr := [(i : Int), (k : Int)]) (by simp [Short]), code_in (s := ⟨s.Across, s.Frames⟩) ⟨h.a1, h.a2, h.n, h.d⟩ (fun j hj => by simp at hj; rcases hj with rfl | rfl <;> simp <;> omega)]
  simp only [Option.bind_some, bne_self_eq_false, cond_false, List.length_nil, room_ok (n := 0) (m := s.Frames.length) (b := 128) (by omega) (by decide), cond_true, List.nil_append, inB_ofNat hi, inB_ofNat hk, List.length_set, rd_ofNat hi, rd_ofNat hk, Int.toNat_natCast]
  simp only [swapped, getD_get hi, getD_get hk]
theorem specSwap_val {s : impl_Sheet} (h : Sht s) {i k : Nat} (hi : i < s.Frames.length) (hk : k < s.Frames.length) : spec_SwapFrames.f s (i : Int) (k : Int) = some (swapped s i k, 0) := by
  have h3 := h.n
  unfold spec_SwapFrames.f spec_l07With.f
  have hs' : Sht ⟨s.Across, s.Frames⟩ := ⟨h.a1, h.a2, h.n, h.d⟩
  rw [l07Asked_val (s := ⟨s.Across, s.Frames⟩) h.short, l07Asked_val (s := ⟨s.Across, s.Frames⟩) h.short, code_in hs' (fr := [(i : Int)]) (fun j hj => by simp at hj; subst hj; simp; omega), code_in hs' (fr := [(k : Int)]) (fun j hj => by simp at hj; subst hj; simp; omega)]
  simp only [Option.bind_some, bne_self_eq_false, cond_false, beq_self_eq_true, cond_true, List.length_nil, room_ok (n := 0) (m := s.Frames.length) (b := 128) (by omega) (by decide), List.nil_append, inB_ofNat hi, inB_ofNat hk, List.length_set, rd_ofNat hi, rd_ofNat hk, Int.toNat_natCast]
  simp only [swapped, getD_get hi, getD_get hk]
theorem swapped_sht {s : impl_Sheet} (h : Sht s) {i k : Nat} (hi : i < s.Frames.length) (hk : k < s.Frames.length) : Sht (swapped s i k) := by
  refine ⟨h.a1, h.a2, by simpa [swapped] using h.n, fun p hp => ?_⟩
  simp only [swapped, getD_get hi, getD_get hk] at hp
  rcases List.mem_or_eq_of_mem_set hp with hp | rfl
  · rcases List.mem_or_eq_of_mem_set hp with hp | rfl
    · exact h.d p hp
    · exact h.d _ (List.getElem_mem hk)
  · exact h.d _ (List.getElem_mem hi)
theorem swapped_twice {s : impl_Sheet} {i k : Nat} (hi : i < s.Frames.length) (hk : k < s.Frames.length) : swapped (swapped s i k) i k = ⟨s.Across, s.Frames⟩ := by
  simp only [swapped]
  congr 1
  simp only [getD_get hi, getD_get hk]
  apply List.ext_getElem (by simp)
  intro j h1 h2
  by_cases e1 : k = j
  · subst e1
    by_cases e2 : i = k
    · subst e2; simp [getD_get, hi]
    · simp [List.getElem_set, e2, getD_get, hi, hk, List.getD_eq_getElem?_getD, List.getElem?_set]
      intro e; exact absurd e.symm e2
  · by_cases e2 : i = j
    · subst e2; simp [List.getElem_set, e1, hi, hk, List.getD_eq_getElem?_getD, List.getElem?_set]
    · simp [List.getElem_set, e1, e2]

theorem specSame_val {a b : impl_Sheet} (ha : Short a.Frames) : spec_SameSheet.f a b = some (decide (a.Across = b.Across) && decide (a.Frames = b.Frames)) := by
  have ha' : a.Frames.length ≤ 1048576 := ha
  unfold spec_SameSheet.f
  by_cases hc : a.Across = b.Across
  · have e0 : (a.Across != b.Across) = false := by simp [hc]
    rw [e0, decide_eq_true hc]
    by_cases hl : a.Frames.length = b.Frames.length
    · have h0 : ((a.Frames.length : Int) != (b.Frames.length : Int)) = false := by simp [hl]
      simp only [cond_false, h0, Option.bind_some]
      rw [loop_all (bd := spec_SameSheet.b1 a b) a.Frames.length (fun i => decide (rd eP a.Frames (i : Int) = rd eP b.Frames (i : Int))) (.inl ()) (.inr false) (fun i hi => ?_) ?_]
      · rw [list_all_eq eP hl]
        cases decide (a.Frames = b.Frames) <;> rfl
      · simp only [spec_SameSheet.b1, Int.lt_irrefl, decide_false, cond_false]
      · have h1 : decide ((i : Int) < (a.Frames.length : Int)) = true := by simp; omega
        simp only [spec_SameSheet.b1, h1, cond_true, inB_ofNat hi, inB_ofNat (hl ▸ hi : i < b.Frames.length), Option.bind_some]
        rw [wsucc hi (by omega)]
        by_cases he : rd eP a.Frames (i : Int) = rd eP b.Frames (i : Int)
        · simp [he]
        · have e9 : (rd eP a.Frames (i : Int) == rd eP b.Frames (i : Int)) = false := beq_eq_false_iff_ne.2 he
          simp [e9, he]
    · have h0 : ((a.Frames.length : Int) != (b.Frames.length : Int)) = true := by simp; omega
      have h2 : decide (a.Frames = b.Frames) = false := decide_eq_false fun e => hl (by rw [e])
      simp only [cond_false, h0, Option.bind_some, cond_true, h2, Bool.and_false]
  · have e0 : (a.Across != b.Across) = true := by simp [hc]
    rw [e0, decide_eq_false hc]; rfl
theorem equalPr_val {a b : List Pr} (ha : Short a) : slices_Equal_impl_Print_impl_Print.f a b = some (decide (a = b)) := by
  have ha' : a.length ≤ 1048576 := ha
  unfold slices_Equal_impl_Print_impl_Print.f
  by_cases hl : a.length = b.length
  · have h0 : ((a.length : Int) != (b.length : Int)) = false := by simp [hl]
    rw [h0, cond_false, loop_all (bd := slices_Equal_impl_Print_impl_Print.b1 a b) a.length (fun i => decide (rd eP a (i : Int) = rd eP b (i : Int))) (.inl ()) (.inr false) (fun i hi => ?_) ?_]
    · rw [list_all_eq eP hl]
      cases decide (a = b) <;> rfl
    · simp only [slices_Equal_impl_Print_impl_Print.b1, Int.lt_irrefl, decide_false, cond_false]
    · have h1 : decide ((i : Int) < (a.length : Int)) = true := by simp; omega
      simp only [slices_Equal_impl_Print_impl_Print.b1, h1, cond_true, inB_ofNat hi, inB_ofNat (hl ▸ hi : i < b.length), Option.bind_some]
      rw [wsucc hi (by omega)]
      by_cases he : rd eP a (i : Int) = rd eP b (i : Int)
      · simp [he]
      · have e9 : (rd eP a (i : Int) == rd eP b (i : Int)) = false := beq_eq_false_iff_ne.2 he
        simp [e9, he]
  · have h0 : ((a.length : Int) != (b.length : Int)) = true := by simp; omega
    have h2 : decide (a = b) = false := decide_eq_false fun e => hl (by rw [e])
    rw [h0, h2]; rfl
theorem implSame_val {a b : impl_Sheet} (ha : Short a.Frames) : impl_SameSheet.f a b = some (decide (a.Across = b.Across) && decide (a.Frames = b.Frames)) := by
  unfold impl_SameSheet.f
  rw [equalPr_val ha]
  by_cases h : a.Across = b.Across
  · simp [h]
  · have e9 : (a.Across == b.Across) = false := beq_eq_false_iff_ne.2 h
    simp [e9, h]

/-! ### Frames that are picked -/

theorem list_val {n r : Nat} (hn : n ≤ 12) : loopW (laws_FnFrames.b2 (n : Int) (r : Int)) (0, []) = some ((((List.range n).filter fun j => j != r)).map fun j : Nat => (j : Int)) := by
  let L : Nat → List Int := fun i => (((List.range i).filter fun j => j != r)).map fun j : Nat => (j : Int)
  have hL : ∀ i, (L i).length ≤ i := fun i => by
    have := List.length_filter_le (fun j => j != r) (List.range i)
    simp only [L, List.length_map]
    simpa using this
  refine loopW_for (fun i : Nat => ((i : Int), L i)) (n := n) (fun i hi => ?_) ?_ rfl
  · have d1 : decide ((i : Int) < (n : Int)) = true := by simp; omega
    have hl := hL i
    unfold laws_FnFrames.b2
    simp only [d1, cond_true]
    rw [wsucc hi (by omega)]
    by_cases he : i = r
    · subst he
      simp only [bne_self_eq_false, cond_false, Option.bind_some, L, List.range_succ, List.filter_append, List.map_append]
      simp
    · have e1 : ((i : Int) != (r : Int)) = true := by simp; omega
      simp only [e1, cond_true, room_ok (n := (L i).length) (m := 1) (b := 8) (by omega) (by decide), Option.bind_some]
      have e2 : (i != r) = true := by simp [he]
      simp only [L, List.range_succ, List.filter_append, List.map_append, List.filter_cons, e2, if_true, List.filter_nil, List.map_cons, List.map_nil]
  · unfold laws_FnFrames.b2
    simp only [Int.lt_irrefl, decide_false, cond_false, L]
theorem pick_val {s : impl_Sheet} (h : Sht s) {l : List Int} (hl : l.length ≤ 12) (hm : ∀ i ∈ l, 0 ≤ i ∧ i < (s.Frames.length : Int)) : impl_PickFrames.f s l = some (⟨s.Across, l.map fun i => s.Frames.getD i.toNat (zA 64)⟩, 0) := by
  unfold impl_PickFrames.f
  rw [sheetCode_val (s := ⟨s.Across, s.Frames⟩) h.short (fr := l) (by unfold Short; omega), code_in (s := ⟨s.Across, s.Frames⟩) ⟨h.a1, h.a2, h.n, h.d⟩ hm]
  have d0 : decide ((12 : Int) < (l.length : Int)) = false := decide_eq_false (by omega)
  simp only [Option.bind_some, bne_self_eq_false, cond_false, d0]
  rw [loopW_for (bd := impl_PickFrames.b1 s l) (s := (0, ([] : List Pr))) (fun i : Nat => ((i : Int), (l.take i).map fun i => s.Frames.getD i.toNat (zA 64))) (n := l.length) (y := l.map fun i => s.Frames.getD i.toNat (zA 64)) (fun i hi => ?_) ?_ rfl]
  · rfl
  · unfold impl_PickFrames.b1
    simp only [Int.lt_irrefl, decide_false, cond_false, List.take_length]
  · have d1 : decide ((i : Int) < (l.length : Int)) = true := by simp; omega
    have hx := hm _ (List.getElem_mem hi)
    have e2 : l.take (i + 1) = l.take i ++ [l[i]] := by rw [List.take_add_one, List.getElem?_eq_getElem hi]; rfl
    obtain ⟨j, hj⟩ := Int.eq_ofNat_of_zero_le hx.1
    have hjl : j < s.Frames.length := by omega
    unfold impl_PickFrames.b1
    simp only [d1, cond_true, inB_ofNat hi, rd_ofNat hi, Option.bind_some]
    rw [wsucc hi (by omega), hj, inB_ofNat hjl, rd_ofNat hjl, room_ok (by simp; omega) (by decide), e2]
    simp only [cond_true, List.map_append, List.map_cons, List.map_nil, hj, Int.toNat_natCast, getD_get hjl]
theorem picked_eq {l : List Pr} {r : Nat} (hr : r < l.length) : (((List.range l.length).filter fun j => j != r).map fun j : Nat => (j : Int)).map (fun i => l.getD i.toNat (zA 64)) = l.take r ++ l.drop (r + 1) := by
  have e1 : List.range l.length = List.range r ++ (r :: (List.range (l.length - (r + 1))).map (fun j => r + 1 + j)) := by
    have : l.length = r + (1 + (l.length - (r + 1))) := by omega
    conv => lhs; rw [this, List.range_add, List.range_add]
    simp [List.range_succ, Nat.add_assoc]
  have f1 : (List.range r).filter (fun j => j != r) = List.range r := List.filter_eq_self.2 fun j hj => by have := List.mem_range.1 hj; simp; omega
  have f2 : ((List.range (l.length - (r + 1))).map (fun j => r + 1 + j)).filter (fun j => j != r) = (List.range (l.length - (r + 1))).map (fun j => r + 1 + j) := List.filter_eq_self.2 fun j hj => by
    obtain ⟨q, _, rfl⟩ := List.mem_map.1 hj
    simp; omega
  rw [e1, List.filter_append, f1, List.filter_cons]
  simp only [bne_self_eq_false, Bool.false_eq_true, if_false]
  rw [f2, List.map_append, List.map_append, List.map_map, List.map_map, List.map_map]
  congr 1
  · apply List.ext_getElem (by simp; omega)
    intro i h1 h2
    have hi : i < r := by simpa using h1
    have h9 : i < l.length := by omega
    simp [h9]
  · apply List.ext_getElem (by simp)
    intro i h1 h2
    have hi : i < l.length - (r + 1) := by simpa using h1
    have e5 : ((r : Int) + 1 + (i : Int)).toNat = r + 1 + i := by omega
    simp [e5, show r + 1 + i < l.length by omega]

theorem frames_true (code more : List Int) (hc : Bytes code) (hm : Bytes more) : laws_FnFrames.f code more = some true := by
  unfold laws_FnFrames.f laws_f6big.f
  simp only [Option.bind_some]
  have hfin : ∀ b : Bool, (bif b then some true else (some (decide (4096 < (more.length : Int))))) = some (b || decide (4096 < (more.length : Int))) := fun b => by cases b <;> rfl
  rw [hfin]
  simp only [Option.bind_some]
  cases (decide (4096 < (code.length : Int)) || decide (4096 < (more.length : Int))) with
  | true => rfl
  | false =>
    simp only [cond_false]
    refine Ok.eq (Ok.bind (P6Sheet_ok hc) fun s ⟨h, h5⟩ => ?_)
    have hs' : Sht ⟨s.Across, s.Frames⟩ := ⟨h.a1, h.a2, h.n, h.d⟩
    have h1 := h.a1; have h2 := h.a2
    refine Ok.let ?_
    rw [rowsOf_val (s := ⟨s.Across, s.Frames⟩) hs']
    refine Ok.let ?_
    obtain ⟨dk, hd1, hd2, hd3⟩ := dark_both (s := ⟨s.Across, s.Frames⟩) hs'
    rw [hd1, hd2]
    refine Ok.let (Ok.let ?_)
    have hq : 0 ≤ ((s.Frames.length : Int) + s.Across - 1) / s.Across := Int.ediv_nonneg (by omega) (by omega)
    have hq2 : ((s.Frames.length : Int) + s.Across - 1) / s.Across ≤ (s.Frames.length : Int) + s.Across - 1 := Int.ediv_le_self _ (by omega)
    have hdm := Int.mul_ediv_add_emod ((s.Frames.length : Int) + s.Across - 1) s.Across
    have hm1 := Int.emod_nonneg ((s.Frames.length : Int) + s.Across - 1) (show s.Across ≠ 0 by omega)
    have hm2 := Int.emod_lt_of_pos ((s.Frames.length : Int) + s.Across - 1) (show 0 < s.Across by omega)
    generalize hR : ((s.Frames.length : Int) + s.Across - 1) / s.Across = R at *
    have hRA : R * s.Across = (s.Frames.length : Int) + s.Across - 1 - ((s.Frames.length : Int) + s.Across - 1) % s.Across := by rw [Int.mul_comm]; omega
    have hRA2 : (R - 1) * s.Across = R * s.Across - s.Across := by rw [Int.sub_mul, Int.one_mul]
    have g1 : IntKind.wrap .i64 s.Across = s.Across := w64 (by omega) (by omega)
    have g2 : IntKind.wrap .i64 (R * s.Across) = R * s.Across := w64 (by omega) (by omega)
    have g3 : IntKind.wrap .i64 (R - 1) = R - 1 := w64 (by omega) (by omega)
    have g4 : IntKind.wrap .i64 ((R - 1) * s.Across) = (R - 1) * s.Across := w64 (by omega) (by omega)
    have c1 : decide (R * s.Across < (s.Frames.length : Int)) = false := decide_eq_false (by omega)
    have hval : impl_ValidSheet.f ⟨s.Across, s.Frames⟩ = some true := by rw [ValidSheet_val hs'.short, hs'.ok]
    have hd4 : (!((dk.2.2 == 0) == decide (0 < (s.Frames.length : Int)))) = false := by rw [hd3]; simp
    refine Ok.bind (Q := fun y => y = false) ?_ fun y28 hy => ?_
    · simp only [g1, g2, g3, g4, c1, bne_self_eq_false, cond_false, hval, Option.bind_some, Bool.not_true, hd4]
      refine Ok.dif (fun hh => ?_) fun hh => Ok.some rfl
      have : decide (0 < (s.Frames.length : Int)) = false := decide_eq_false (by omega)
      rw [this]
      exact Ok.some rfl
    subst hy
    rw [cond_false]
    rw [← hR]
    have hpl := places_ok h
    rw [hpl]
    refine Ok.inl ?_
    by_cases hn0 : s.Frames.length = 0
    · have e0 : ((s.Frames.length : Int) == 0) = true := by simp [hn0]
      rw [e0, cond_true, hR]
      have hR0 : R = 0 := by
        rw [hn0] at hR
        rw [← hR]
        exact Int.ediv_eq_zero_of_lt (by omega) (by omega)
      refine Ok.let (Ok.some ?_)
      rw [hR0]; rfl
    · have e0 : ((s.Frames.length : Int) == 0) = false := by simp [hn0]
      rw [e0, cond_false]
      refine Ok.bind (P6Pick_ok hm (n := (s.Frames.length : Int)) (by omega) (by omega)) fun i hi => ?_
      refine Ok.bind (P6Pick_ok hc (n := (s.Frames.length : Int)) (by omega) (by omega)) fun k hk => ?_
      obtain ⟨i, rfl⟩ := Int.eq_ofNat_of_zero_le hi.1
      obtain ⟨k, rfl⟩ := Int.eq_ofNat_of_zero_le hk.1
      have hi' : i < s.Frames.length := by have := hi.2; omega
      have hk' : k < s.Frames.length := by have := hk.2; omega
      have hsw := swapped_sht hs' (i := i) (k := k) hi' hk'
      have hi2 : i < (swapped ⟨s.Across, s.Frames⟩ i k).Frames.length := by simpa [swapped] using hi'
      have hk2 : k < (swapped ⟨s.Across, s.Frames⟩ i k).Frames.length := by simpa [swapped] using hk'
      rw [implSwap_val hs' hi' hk', specSwap_val hs' hi' hk']
      refine Ok.let (Ok.let ?_)
      rw [implSwap_val (s := ⟨(swapped ⟨s.Across, s.Frames⟩ i k).Across, (swapped ⟨s.Across, s.Frames⟩ i k).Frames⟩) hsw hi2 hk2]
      refine Ok.let ?_
      rw [implDrop_val hs'.short, specDrop_val hs'.short]
      refine Ok.let (Ok.let ?_)
      rw [list_val (n := s.Frames.length) (r := i) (by omega)]
      refine Ok.let ?_
      have hll : ((((List.range s.Frames.length).filter fun j => j != i)).map fun j : Nat => (j : Int)).length ≤ 12 := by
        have := List.length_filter_le (fun j => j != i) (List.range s.Frames.length)
        simp only [List.length_range] at this
        simp only [List.length_map]; omega
      rw [pick_val hs' hll (fun j hj => by
        obtain ⟨q, hq, rfl⟩ := List.mem_map.1 hj
        have := List.mem_range.1 (List.mem_filter.1 hq).1
        show 0 ≤ (q : Int) ∧ (q : Int) < (s.Frames.length : Int)
        omega)]
      refine Ok.let ?_
      have htw : swapped (⟨(swapped ⟨s.Across, s.Frames⟩ i k).Across, (swapped ⟨s.Across, s.Frames⟩ i k).Frames⟩) i k = ⟨s.Across, s.Frames⟩ := swapped_twice (s := ⟨s.Across, s.Frames⟩) hi' hk'
      have hdr : dropped ⟨s.Across, s.Frames⟩ (i : Int) = (⟨s.Across, s.Frames.take i ++ s.Frames.drop (i + 1)⟩, 0) := by
        unfold dropped
        rw [code_in hs' (fr := [(i : Int)]) (fun j hj => by simp at hj; subst hj; simp; omega)]
        rfl
      have hpe := picked_eq (l := s.Frames) hi'
      have hss : Short (s.Frames.take i ++ s.Frames.drop (i + 1)) := by unfold Short; simp; omega
      rw [htw, hdr, hpe]
      simp only [beq_self_eq_true, cond_true]
      rw [specSame_val hsw.short, specSame_val hs'.short, implSame_val hs'.short, specSame_val (a := ⟨s.Across, s.Frames.take i ++ s.Frames.drop (i + 1)⟩) hss]
      simp only [decide_true, Bool.and_self, Option.bind_some, cond_true]
      exact Ok.some rfl
end Go.Proofs.Ytnjabckgklafhaa
