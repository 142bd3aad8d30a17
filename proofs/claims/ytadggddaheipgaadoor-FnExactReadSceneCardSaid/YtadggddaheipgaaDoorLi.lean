/- strconv.ParseInt at base 10 and 8 bits, by the kit's contract. No condition. -/
import Derived.Test.YtadggddaheipgaaDoorLe
import Derived.Lib.AtoiErrMem
set_option linter.unusedVariables false
namespace Go.Proofs.YtadggddaheipgaaDoor
open Go Go.RowKit G

def parse8 (s : ByteArray) : Int × Bool := match Lib.parseIntB 8 s.data.toList with
  | .ok v => (v, false)
  | .«syntax» => (0, true)
  | .range => (Lib.intSat 8 s.data.toList, true)
def strconv_ParseInt.f (s : ByteArray) (b z : Int) : Option (Int × Bool) := bif (b == 10 && z == 8) && decide (s.size ≤ 281474976710656) then some (parse8 s) else none
theorem strconv_ParseInt.calls (wG : World) (s : ByteArray) (b z : Int) (r : Int × Bool) (w : World) (H0 : Own [] w w []) (hF : Facts wG) (hG : Glob wG [] w) (h0 : strconv_ParseInt.f s b z = some r) :
    Calls Tryd.prog 20 #[.string s, .int .i64 b, .int .i64 z] w (fun e w' => ∃ gh : TypeId × Value, e = .returned (.tuple #[.int .i64 r.1, errV r.2 gh]) ∧ Own [] w w' []) := by
  unfold strconv_ParseInt.f at h0
  cases hc : ((b == 10 && z == 8) && decide (s.size ≤ 281474976710656)) with
  | false => rw [hc] at h0; cases h0
  | true =>
    rw [hc] at h0
    simp only [cond_true, Option.some.injEq] at h0
    simp only [Bool.and_eq_true, decide_eq_true_eq, beq_iff_eq] at hc
    obtain ⟨⟨rfl, rfl⟩, hs⟩ := hc
    subst h0
    unfold parse8
    obtain ⟨te, pe, hS⟩ := hF.errS
    obtain ⟨te2, pe2, hR⟩ := hF.errR
    cases hp : Lib.parseIntB 8 s.data.toList with
    | ok v =>
      refine (Tryd.strconv_ParseInt_10_at8_ok s (by omega) v hp w).mono fun e w' h => ?_
      obtain ⟨rfl, hw⟩ := h
      refine ⟨(0, .nilIface), rfl, ?_⟩
      rcases hw with rfl | ⟨t, rfl⟩
      · exact Own.refl _
      · exact own_of_below (Lib.bytesWorld_below _ _ _)
    | «syntax» =>
      refine (Tryd.strconv_ParseInt_10_at8_syntax s hs hp _ w (hG.cell hS) (.inr ⟨_, _, rfl⟩)).mono fun e w' h => ?_
      obtain ⟨N, rfl, _, _, hb⟩ := h
      exact ⟨(_, _), rfl, own_of_below hb⟩
    | range =>
      refine (Tryd.strconv_ParseInt_10_at8_range s hs hp _ w (hG.cell hR) (.inr ⟨_, _, rfl⟩)).mono fun e w' h => ?_
      obtain ⟨N, rfl, _, _, hb⟩ := h
      exact ⟨(_, _), rfl, own_of_below hb⟩
end Go.Proofs.YtadggddaheipgaaDoor
