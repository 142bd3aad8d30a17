/- strings.ReplaceAll, by the kit's contract. No condition. -/
import Derived.Test.YtadggddaheipgaaDoorLe
set_option linter.unusedVariables false
namespace Go.Proofs.YtadggddaheipgaaDoor
open Go Go.RowKit G

def repl (s a b : ByteArray) : ByteArray := ⟨(Lib.replaceAll s.data.toList a.data.toList b.data.toList).toArray⟩
def strings_ReplaceAll.f (s a b : ByteArray) : Option ByteArray := bif (decide (s.size < 4294967281) && decide (1 ≤ a.size)) && decide (s.size + Lib.countB s a * b.size ≤ 140737488355328) then some (repl s a b) else none
theorem strings_ReplaceAll.calls (wG : World) (s a b : ByteArray) (r : ByteArray) (w : World) (H0 : Own [] w w []) (hF : Facts wG) (hG : Glob wG [] w) (h0 : strings_ReplaceAll.f s a b = some r) :
    Calls Tryd.prog 19 #[.string s, .string a, .string b] w (fun e w' => ∃ _ : Unit, e = .returned (.string r) ∧ Own [] w w' []) := by
  unfold strings_ReplaceAll.f at h0
  cases hc : ((decide (s.size < 4294967281) && decide (1 ≤ a.size)) && decide (s.size + Lib.countB s a * b.size ≤ 140737488355328)) with
  | false => rw [hc] at h0; cases h0
  | true =>
    rw [hc] at h0
    simp only [cond_true, Option.some.injEq] at h0
    simp only [Bool.and_eq_true, decide_eq_true_eq] at hc
    subst h0
    obtain ⟨mx, hM⟩ := hF.maxLen
    refine (Tryd.strings_ReplaceAll s a b mx w hc.1.1 (hG.cell hM) hc.1.2 hc.2).mono fun e w' h => ?_
    obtain ⟨rfl, hb⟩ := h
    exact ⟨(), rfl, own_of_below hb⟩
end Go.Proofs.YtadggddaheipgaaDoor
