/- FnExactMedianReading's and FnExactContrastOf's laws: what their Go texts compute is true for all arrays of readings. -/
import Derived.Test.YtopmellnegcfpaaTd
import Derived.Test.YtopmellnegcfpaaTv
set_option linter.unusedVariables false
set_option linter.unusedSimpArgs false
namespace Go.Proofs.Ytopmellnegcfpaa
open Go.Proofs.Ytopmellnegcfpaa.G

def I8 (s : Vector Int 24) : Prop := ∀ i : Nat, i < 24 → -128 ≤ rdA s i ∧ rdA s i ≤ 127

theorem vec_same {n : Nat} {v v' : Vector Int n} (h : ∀ i : Nat, i < n → rdA v i = rdA v' i) : v = v' := by
  apply Vector.toList_inj.1
  apply List.ext_getElem (by simp)
  intro i h1 h2
  simp at h1
  have := h i h1
  simpa [rdA, h1] using this

theorem toScene_ok (s : Vector Int 24) : laws_toScene.f s = some s := by
  unfold laws_toScene.f
  refine Ok.eq (Ok.bind (Q := fun y => y = s) ?_ fun y hy => Ok.some hy)
  refine Ok.loop (fun (t : Int × Vector Int 24) => 0 ≤ t.1 ∧ t.1 ≤ 24 ∧ ∀ i : Nat, (i : Int) < t.1 → rdA t.2 i = rdA s i) (fun (t : Int × Vector Int 24) => (24 - t.1).toNat) ⟨by simp, by simp, fun i hi => by simp at hi; omega⟩ ?_
  rintro ⟨i, v⟩ ⟨i0, i1, hv⟩
  unfold laws_toScene.b1
  dsimp only at *
  refine Ok.dif (fun h => ?_) fun h => Ok.some (vec_same fun j hj => hv j (by omega))
  refine Ok.must (inB_iff.2 ⟨i0, h⟩) (Ok.must (inB_iff.2 ⟨i0, h⟩) (Ok.let (Ok.let (Ok.some ?_))))
  rw [w64 (n := i + 1) (by omega) (by omega)]
  dsimp only
  refine ⟨⟨by omega, by omega, fun j hj => ?_⟩, by omega⟩
  rw [rdA_wrA' v _ i0 (by omega) (by omega)]
  split
  · rename_i he; rw [he]
  · exact hv j (by omega)

theorem l06Ok_not {s : Vector Int 24} (h8 : I8 s) (hs : ¬ Scn s) : spec_l06Ok.f s = some false := by
  unfold spec_l06Ok.f
  refine Ok.eq (Ok.bind (Q := fun y => y = .inr false) ?_ fun y hy => by subst hy; exact ⟨false, rfl, rfl⟩)
  refine Ok.loop (fun (t : Int) => ∃ n : Nat, t = (n : Int) ∧ n ≤ 24 ∧ ∀ i : Nat, i < n → 0 ≤ rdA s i ∧ rdA s i ≤ 60) (fun (t : Int) => (24 - t).toNat) ⟨0, rfl, by omega, fun i hi => by omega⟩ ?_
  rintro t ⟨n, rfl, hn, hg⟩
  unfold spec_l06Ok.b1
  refine Ok.dif (fun h => ?_) fun h => absurd (fun i hi => hg i (by omega)) hs
  have hn' : n < 24 := by omega
  have h1 := h8 n hn'
  refine Ok.must (inB_iff.2 ⟨by omega, h⟩) ?_
  rw [w64 (n := rdA s n) (by omega) (by omega), l06Reading_ok, w64 (n := (n : Int) + 1) (by omega) (by omega)]
  refine Ok.let (Ok.bif (fun h2 => Ok.some rfl) fun h2 => Ok.let (Ok.some ⟨⟨n + 1, by omega, by omega, fun i hi => ?_⟩, by omega⟩))
  by_cases e : i = n
  · subst e; simp at h2; omega
  · exact hg i (by omega)

theorem Valid_not {s : Vector Int 24} (h8 : I8 s) (hs : ¬ Scn s) : impl_ValidScene.f s = some false := by
  unfold impl_ValidScene.f slices_ContainsFunc_int8_int8.f slices_IndexFunc_int8_int8.f
  refine Ok.eq ?_
  refine Ok.bind (Q := fun r => r = true) ?_ fun r hr => by subst hr; exact ⟨false, rfl, rfl⟩
  refine Ok.bind (Q := fun r => 0 ≤ r) ?_ fun r hr => Ok.let (Ok.some (by simpa using hr))
  refine Ok.bind (Q := fun y => ∃ r : Int, y = .inr r ∧ 0 ≤ r) ?_ fun y hy => by obtain ⟨r, rfl, h⟩ := hy; exact ⟨r, rfl, h⟩
  refine Ok.loop (fun (t : Int) => ∃ n : Nat, t = (n : Int) ∧ n ≤ 24 ∧ ∀ i : Nat, i < n → 0 ≤ rdA s i ∧ rdA s i ≤ 60) (fun (t : Int) => (24 - t).toNat) ⟨0, rfl, by omega, fun i hi => by omega⟩ ?_
  rintro t ⟨n, rfl, hn, hg⟩
  unfold slices_IndexFunc_int8_int8.b1
  have hl : s.toList.length = 24 := by simp
  rw [hl]
  refine Ok.dif (fun h => ?_) fun h => absurd (fun i hi => hg i (by omega)) hs
  have hn' : n < 24 := by omega
  have h1 := h8 n hn'
  refine Ok.must (inB_iff.2 ⟨by omega, by omega⟩) ?_
  have r2 : rd (eI .i8) s.toList (n : Int) = rdA s n := rfl
  rw [r2, w64 (n := (n : Int) + 1) (by omega) (by omega)]
  unfold impl_ValidScene_1.f
  show Ok (Option.bind (Option.bind (impl_isReading.f (IntKind.wrap .i64 (rdA s n))) _) _) _
  rw [w64 (n := rdA s n) (by omega) (by omega), isReading_ok]
  refine Ok.bind (Q := fun b => b = !(decide (0 ≤ rdA s n) && decide (rdA s n ≤ 60))) ⟨_, rfl, rfl⟩ fun b hb => ?_
  subst hb
  refine Ok.bif (fun h2 => Ok.some ⟨_, rfl, by omega⟩) fun h2 => Ok.some ⟨⟨n + 1, by omega, by omega, fun i hi => ?_⟩, by omega⟩
  by_cases e : i = n
  · subst e; simp at h2; omega
  · exact hg i (by omega)

/-! ### The specification's sorted list -/

theorem sorted_inner {s : Vector Int 24} (hs : Scn s) (n : Nat) (hn : n ≤ 60) (out : List Int) (hl : out.length ≤ 24) :
    loopW (spec_l06Sorted.b2 s ((n : Int), out)) (0, out) = some (out ++ s.toList.filter (fun x => x == (n : Int))) := by
  have hsl : s.toList.length = 24 := by simp
  refine Ok.eq ?_
  refine Ok.loop (fun (t : Int × List Int) => ∃ i : Nat, t.1 = (i : Int) ∧ i ≤ 24 ∧ t.2 = out ++ (s.toList.take i).filter (fun x => x == (n : Int))) (fun (t : Int × List Int) => (24 - t.1).toNat) ⟨0, rfl, by omega, by simp⟩ ?_
  rintro ⟨t1, t2⟩ ⟨i, rfl, hi, rfl⟩
  unfold spec_l06Sorted.b2
  dsimp only
  refine Ok.dif (fun h => ?_) fun h => Ok.some ?_
  · have hi' : i < 24 := by omega
    have hr := hs i hi'
    have hx : rdA s (i : Int) = s.toList[i]'(by omega) := by simp [rdA, hi']
    have ht : s.toList.take (i + 1) = s.toList.take i ++ [s.toList[i]'(by omega)] := by rw [List.take_succ_eq_append_getElem (by omega)]
    have hlen : ((s.toList.take i).filter (fun x => x == (n : Int))).length ≤ 24 := Nat.le_trans (List.length_filter_le _ _) (by rw [List.length_take]; omega)
    refine Ok.must (inB_iff.2 ⟨by omega, h⟩) ?_
    rw [w64 (n := rdA s i) (by omega) (by omega), w64 (n := (i : Int) + 1) (by omega) (by omega)]
    refine Ok.bif (fun h2 => ?_) fun h2 => ?_
    · refine Ok.must (by simp [roomB]; omega) (Ok.let (Ok.some ⟨⟨i + 1, rfl, by omega, ?_⟩, by dsimp only; omega⟩))
      rw [ht, List.filter_append, ← hx]
      have : rdA s (i : Int) = (n : Int) := by simpa using h2
      simp [this]
    · refine Ok.let (Ok.some ⟨⟨i + 1, rfl, by omega, ?_⟩, by dsimp only; omega⟩)
      rw [ht, List.filter_append, ← hx]
      simp [h2]
  · have : i = 24 := by omega
    subst this
    rw [List.take_of_length_le (by omega)]

theorem sorted_spec {s : Vector Int 24} (hs : Scn s) : spec_l06Sorted.f s = some (s.toList.mergeSort (fun x y => decide (x ≤ y))) := by
  have hsl : s.toList.length = 24 := by simp
  have hmem : ∀ x ∈ s.toList, 0 ≤ x ∧ x ≤ 60 := by
    intro x hx
    obtain ⟨i, hi, rfl⟩ := List.mem_iff_getElem.1 hx
    have := hs i (by omega)
    have e : rdA s (i : Int) = s.toList[i] := by simp only [rdA, Int.toNat_natCast, List.getD_eq_getElem?_getD, List.getElem?_eq_getElem hi, Option.getD_some]
    rwa [e] at this
  unfold spec_l06Sorted.f
  refine Ok.eq (Ok.bind (Q := fun y => y = s.toList.mergeSort (fun x y => decide (x ≤ y))) ?_ fun y hy => Ok.some hy)
  refine Ok.loop (fun (t : Int × List Int) => ∃ n : Nat, t.1 = (n : Int) ∧ n ≤ 61 ∧ t.2.Perm (s.toList.filter (fun x => decide (x < (n : Int)))) ∧ t.2.Pairwise (· ≤ ·) ∧ ∀ x ∈ t.2, x < (n : Int)) (fun (t : Int × List Int) => (61 - t.1).toNat)
    ⟨0, rfl, by omega, ?_, List.Pairwise.nil, by simp⟩ ?_
  · have : s.toList.filter (fun x => decide (x < ((0 : Nat) : Int))) = [] := by
      rw [List.filter_eq_nil_iff]; intro x hx; have := hmem x hx; simp; omega
    rw [this]
  · rintro ⟨t1, out⟩ ⟨n, rfl, hn, hp, hsrt, hlt⟩
    unfold spec_l06Sorted.b1
    dsimp only at *
    have hlen : out.length ≤ 24 := by rw [hp.length_eq]; exact Nat.le_trans (List.length_filter_le _ _) (by omega)
    refine Ok.dif (fun h => ?_) fun h => Ok.some ?_
    · rw [sorted_inner hs n (by omega) out hlen, w64 (n := (n : Int) + 1) (by omega) (by omega)]
      refine Ok.let (Ok.let (Ok.some ⟨⟨n + 1, rfl, by omega, ?_, ?_, ?_⟩, by dsimp only; omega⟩))
      · have hq : (s.toList.filter (fun x => decide (x < (n : Int))) ++ s.toList.filter (fun x => x == (n : Int))).Perm (s.toList.filter (fun x => decide (x < ((n + 1 : Nat) : Int)))) := by
          have h1 := List.filter_append_perm (fun x => decide (x < (n : Int))) (s.toList.filter (fun x => decide (x < ((n + 1 : Nat) : Int))))
          rw [List.filter_filter, List.filter_filter] at h1
          have e1 : s.toList.filter (fun a => decide (a < (n : Int)) && decide (a < ((n + 1 : Nat) : Int))) = s.toList.filter (fun x => decide (x < (n : Int))) := by
            apply List.filter_congr; intro x hx; rw [Bool.eq_iff_iff]; simp only [Bool.and_eq_true, decide_eq_true_eq]; omega
          have e2 : s.toList.filter (fun a => !decide (a < (n : Int)) && decide (a < ((n + 1 : Nat) : Int))) = s.toList.filter (fun x => x == (n : Int)) := by
            apply List.filter_congr; intro x hx; rw [Bool.eq_iff_iff]; simp only [Bool.and_eq_true, decide_eq_true_eq, Bool.not_eq_true', decide_eq_false_iff_not, beq_iff_eq]; omega
          rw [e1, e2] at h1
          exact h1
        exact (hp.append_right _).trans hq
      · rw [List.pairwise_append]
        refine ⟨hsrt, ?_, fun x hx y hy => ?_⟩
        · rw [List.pairwise_iff_forall_sublist]
          intro a b hab
          have ha := hab.subset (by simp : a ∈ [a, b])
          have hb := hab.subset (by simp : b ∈ [a, b])
          simp at ha hb
          omega
        · have := hlt x hx; simp at hy; omega
      · intro x hx
        rw [List.mem_append] at hx
        rcases hx with hx | hx
        · have := hlt x hx; omega
        · simp at hx; omega
    · have h61 : n = 61 := by omega
      subst h61
      have hf : s.toList.filter (fun x => decide (x < ((61 : Nat) : Int))) = s.toList := by
        rw [List.filter_eq_self]; intro x hx; have := hmem x hx; simp; omega
      rw [hf] at hp
      refine List.Perm.eq_of_pairwise (le := fun x y => x ≤ y) (fun a b _ _ h1 h2 => by omega) hsrt ?_ (hp.trans (List.mergeSort_perm _ _).symm)
      have := List.pairwise_mergeSort (le := fun x y : Int => decide (x ≤ y)) (fun a b c h1 h2 => by simp at *; omega) (fun a b => by simp; omega) s.toList
      exact this.imp fun h => by simpa using h

/-! ### The laws -/

theorem rd_sorted {r : Vector Int 24} {l : List Int} (h : r.toArray.toList = l) (i : Int) : rdA r i = rd (eI .i64) l i := by
  subst h; rfl

theorem median_true (s : Vector Int 24) (h8 : I8 s) : laws_FnExactMedianReading.f s = some true := by
  unfold laws_FnExactMedianReading.f
  rw [toScene_ok]
  refine Ok.eq (Ok.let ?_)
  by_cases hs : Scn s
  · obtain ⟨r, er, hr⟩ := sort24 s
    have hlen : (s.toList.mergeSort (fun x y => decide (x ≤ y))).length = 24 := by simp
    have e1 : spec_MedianReading.f s = some (rdA r 11, 0) := by
      unfold spec_MedianReading.f
      rw [l06Ok_ok hs, sorted_spec hs]
      dsimp only [Option.bind_some, Bool.not_true, cond_false]
      rw [hlen, rd_sorted hr]; rfl
    have hb : -9223372036854775808 ≤ rdA r 11 ∧ rdA r 11 ≤ 9223372036854775807 := by
      have hm : rdA r 11 ∈ s.toList := by
        rw [rd_sorted hr]
        have : rd (eI .i64) (s.toList.mergeSort (fun x y => decide (x ≤ y))) 11 ∈ s.toList.mergeSort (fun x y => decide (x ≤ y)) := by
          have hl : (11 : Nat) < (s.toList.mergeSort (fun x y => decide (x ≤ y))).length := by omega
          have e : rd (eI .i64) (s.toList.mergeSort (fun x y => decide (x ≤ y))) 11 = (s.toList.mergeSort (fun x y => decide (x ≤ y)))[11] := by
            show List.getD _ 11 _ = _
            simp [List.getD_eq_getElem?_getD]
          rw [e]; exact List.getElem_mem hl
        simpa using this
      obtain ⟨i, hi, e⟩ := List.mem_iff_getElem.1 hm
      have hi' : i < 24 := by simpa using hi
      have := h8 i hi'
      have e2 : rdA s (i : Int) = s.toList[i] := by simp only [rdA, Int.toNat_natCast, List.getD_eq_getElem?_getD, List.getElem?_eq_getElem hi, Option.getD_some]
      omega
    have e2 : impl_MedianReading.f s = some (rdA r 11, 0) := by
      unfold impl_MedianReading.f
      rw [ValidScene_ok hs, er]
      dsimp only [Option.bind_some, Bool.not_true, cond_false]
      rw [w64 hb.1 hb.2]; rfl
    rw [e1]
    refine Ok.let (Ok.let ?_)
    rw [e2]
    exact ⟨true, by simp, rfl⟩
  · have e1 : spec_MedianReading.f s = some (0, 1) := by
      unfold spec_MedianReading.f; rw [l06Ok_not h8 hs]; rfl
    have e2 : impl_MedianReading.f s = some (0, 1) := by
      unfold impl_MedianReading.f; rw [Valid_not h8 hs]; rfl
    rw [e1]
    refine Ok.let (Ok.let ?_)
    rw [e2]
    exact ⟨true, by simp, rfl⟩
end Go.Proofs.Ytopmellnegcfpaa
