/- strings.SplitN, by the kit's contract. No condition. -/
import Derived.Test.YtadggddaheipgaaDoorLe
set_option linter.unusedVariables false
namespace Go.Proofs.YtadggddaheipgaaDoor
open Go Go.RowKit G

def splitP (s sep : ByteArray) (n : Nat) : List ByteArray := Lib.splitB sep 0 (min n (s.size + 1) - 1) s
def strings_SplitN.f (s sep : ByteArray) (n : Int) : Option (List ByteArray) := bif (decide (s.size < 4294967281) && decide (1 ≤ sep.size)) && (decide (1 ≤ n) && decide (n ≤ 1000000)) then some (splitP s sep n.toNat) else none
theorem splitB_le (sep : ByteArray) (save : Nat) : ∀ k s, (Lib.splitB sep save k s).length ≤ k + 1
  | 0, s => by simp [Lib.splitB]
  | k + 1, s => by
    unfold Lib.splitB
    split
    · simp
    · have := splitB_le sep save k (s.extract ((Lib.indexB s sep).toNat + sep.size) s.size)
      simp; omega
theorem strings_SplitN.calls (wG : World) (s sep : ByteArray) (n : Int) (r : List ByteArray) (w : World) (H0 : Own [] w w []) (hF : Facts wG) (hG : Glob wG [] w) (h0 : strings_SplitN.f s sep n = some r) :
    Calls Tryd.prog 18 #[.string s, .string sep, .int .i64 n] w (fun e w' => ∃ gh : Value, e = .returned gh ∧ Own [] w w' [.rowE gh 9 eT r]) := by
  unfold strings_SplitN.f at h0
  cases hc : ((decide (s.size < 4294967281) && decide (1 ≤ sep.size)) && (decide (1 ≤ n) && decide (n ≤ 1000000))) with
  | false => rw [hc] at h0; cases h0
  | true =>
    rw [hc] at h0
    simp only [cond_true, Option.some.injEq] at h0
    simp only [Bool.and_eq_true, decide_eq_true_eq] at hc
    obtain ⟨⟨h1, h2⟩, h3, h4⟩ := hc
    subst h0
    obtain ⟨m, rfl⟩ := Int.eq_ofNat_of_zero_le (show 0 ≤ n by omega)
    obtain ⟨mx, hM⟩ := hF.maxLen
    refine (Tryd.strings_SplitN s sep m mx w h1 (hG.cell hM) h2 (by omega) (by omega)).mono fun e w' h => ?_
    obtain ⟨rfl, rfl⟩ := h
    have hle : (splitP s sep m).length ≤ min m (s.size + 1) := by
      have := splitB_le sep 0 (min m (s.size + 1) - 1) s
      unfold splitP
      omega
    refine ⟨_, rfl, ?_⟩
    have hA := (Own.refl w).alloc (Lib.cellsOf (splitP s sep m) (min m (s.size + 1))).toList 9
    have hcl : (cells eT (splitP s sep m)) = (splitP s sep m).map Value.string := by
      generalize splitP s sep m = l
      induction l with
      | nil => rfl
      | cons x l ih => rw [List.map_cons, ← ih]; rfl
    refine ⟨hA.os, hA.tape, hA.output, hA.size, fun k hk hm => hA.frame k hk hm, fun e he => ?_, fun e he k hk => ?_, by simp⟩
    · rw [List.mem_singleton] at he
      subst he
      have hh := hA.holds _ (List.mem_singleton.2 rfl)
      refine ⟨cells_len _ _, .inr ⟨w.heap.size, min m (s.size + 1), Lib.cellsOf (splitP s sep m) (min m (s.size + 1)), rfl, Nat.zero_le _, ?_, hle, ?_, ?_, ?_⟩⟩
      · simpa [Ent.holds, splitP] using hh
      · unfold maxLen; omega
      · rw [Lib.cellsOf_size hle]; simp [eT]
      · rw [show (eT).sz = 1 from rfl, Int.toNat_natCast, Nat.mul_one, hcl]
        simp [Lib.cellsOf]
    · rw [List.mem_singleton] at he
      subst he
      simp [Ent.foot, Value.ownBlock] at hk
      exact .inr (by omega)
end Go.Proofs.YtadggddaheipgaaDoor
