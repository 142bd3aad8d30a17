/- Slices that are a whole block, written in place. No condition. -/
import Derived.Test.YtadggddaheipgaaDoorGj
set_option linter.unusedVariables false
namespace Go.Proofs.YtadggddaheipgaaDoor
open Go Go.RowKit
namespace G
section
variable {P : Program} {N : Nat} {M : List Nat} {w0 : World} {ps : List (Nat × Value)} {es : List Ent} {o : Oper}
theorem V.ixM {T E : TypeId} {x y : Operand} {b n m : Nat} {kk : IntKind} {i : Int} (ho : o.op = .indexAddr T x y) (hx : ev ps x = some (.slice (some ⟨b, 0, none⟩) n n)) (hy : ev ps y = some (.int kk i)) (hT : slE P T = some E) (hE : sizeP P E = some m)
    (hi : inB i n = true) : OpV P N M w0 ps es o (bp b (0 + i.toNat * m)) := fun a w hs _ => by
  have h1 := inB_iff.1 hi
  simp [execOp, ho, hs.eval hx, hs.eval hy, Instr.indexAt, asIntOf, run_underlying (slE_und hT), bp, h1, run_sizeOf hE, add_none]
theorem V.lenM {T : TypeId} {x : Operand} {b n : Nat} {q : TypeId} (ho : o.op = .call { callee := .builtin .len, args := #[x], argTypes := #[T] }) (hx : ev ps x = some (.slice (some ⟨b, 0, none⟩) n n)) (hT : slE P T = some q) :
    OpV P N M w0 ps es o (.int .i64 n) := fun a w hs how => by
  simp [execOp, ho, resolve, invoke, builtin, hs.eval hx, Builtin.len_, run_underlying (slE_und hT), goInt]

/-- a string's byte -/
def rdT (s : ByteArray) (i : Int) : Int := ((s[i.toNat]?.getD 0).toNat : Int)
theorem V.ixT {T : TypeId} {x y : Operand} {s : ByteArray} {kk : IntKind} {i : Int} (ho : o.op = .index T x y) (hx : ev ps x = some (.string s)) (hy : ev ps y = some (.int kk i)) (hT : P.underlying T = some .string) (hi : inB i s.size = true) :
    OpV P N M w0 ps es o (.int .u8 (rdT s i)) := fun a w hs _ => by
  have h1 := inB_iff.1 hi
  have h2 : i.toNat < s.size := by omega
  have h3 : s[i.toNat]? = some s[i.toNat] := by simp [h2]
  simp [execOp, ho, hs.eval hx, hs.eval hy, Instr.index, asIntOf, run_underlying hT, h1, h3, rdT]
end
end G
end Go.Proofs.YtadggddaheipgaaDoor
