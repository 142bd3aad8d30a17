/- strings.Join, by the kit's contract. No condition. -/
import Derived.Test.YtadggddaheipgaaDoorLe
set_option linter.unusedVariables false
namespace Go.Proofs.YtadggddaheipgaaDoor
open Go Go.RowKit G

def joinS (xs : List ByteArray) (sep : ByteArray) : ByteArray := ⟨(Lib.join (xs.map (·.data.toList)) sep.data.toList).toArray⟩
def strings_Join.f (xs : List ByteArray) (sep : ByteArray) : Option ByteArray := bif decide (xs.length ≤ 140737488355328) && decide ((Lib.join (xs.map (·.data.toList)) sep.data.toList).length ≤ 140737488355328) then some (joinS xs sep) else none
theorem strings_Join.calls (v : Value) (xs : List ByteArray) (sep : ByteArray) (r : ByteArray) (w : World) (H0 : Own [] w w []) (hS : SlE [] w v 9 eT xs) (h0 : strings_Join.f xs sep = some r) :
    Calls Tryd.prog 26 #[v, .string sep] w (fun e w' => ∃ _ : Unit, e = .returned (.string r) ∧ Own [] w w' []) := by
  unfold strings_Join.f at h0
  cases hc : (decide (xs.length ≤ 140737488355328) && decide ((Lib.join (xs.map (·.data.toList)) sep.data.toList).length ≤ 140737488355328)) with
  | false => rw [hc] at h0; cases h0
  | true =>
    rw [hc] at h0
    simp only [cond_true, Option.some.injEq] at h0
    simp only [Bool.and_eq_true, decide_eq_true_eq] at hc
    subst h0
    obtain ⟨hl, A, c, rfl, hcap, hz, hr⟩ := hS
    by_cases hn : 0 < xs.length
    · obtain ⟨ad, cur, T, fr, rfl, hsp, hm, hbk, hcell⟩ := hr hn
      obtain ⟨b, off, sp⟩ := ad
      simp only at hsp
      subst hsp
      have hlt : b < w.heap.size := (Array.getElem?_eq_some_iff.1 hbk).1
      refine (Tryd.strings_Join b off c xs sep w (fun j x hx => ?_) hlt hc.1 hcap hc.2).mono fun e w' h => ?_
      · refine (cell_of_row w b (off + j) cur T fr hbk).trans (hcell j _ ?_)
        have hj := (List.getElem?_eq_some_iff.1 hx).1
        have hin : inB (j : Int) xs.length = true := inB_iff.2 ⟨by omega, by omega⟩
        have hrd : rd eT xs (j : Int) = x := by
          simp only [rd, Int.toNat_natCast, List.getD_eq_getElem?_getD, hx, Option.getD_some]
        have := cells_get eT xs hin (j := 0) (u := .string x) (by rw [hrd]; rfl)
        simpa [eT] using this
      · obtain ⟨rfl, hb⟩ := h
        exact ⟨(), rfl, own_of_below hb⟩
    · have h0 : xs = [] := by cases xs with | nil => rfl | cons => simp at hn
      subst h0
      refine (Tryd.strings_Join_none A c sep w).mono fun e w' h => ?_
      obtain ⟨rfl, rfl⟩ := h
      exact ⟨(), rfl, Own.refl _⟩
end Go.Proofs.YtadggddaheipgaaDoor
