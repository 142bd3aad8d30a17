/- What the library's contracts ask of variables. No condition. -/
import Derived.Test.YtadggddaheipgaaDoorGr
import Derived.Test.YtadggddaheipgaaDoorLp
set_option linter.unusedVariables false
namespace Go.Proofs.YtadggddaheipgaaDoor
open Go Go.RowKit G

theorem own_of_below {w w' : World} (h : Below w.heap.size w w') : Own [] w w' [] :=
  ⟨h.os, h.tape, h.output, h.size, fun k hk _ => h.block k hk, fun _ h => by simp at h, fun _ h => by simp at h, .nil⟩

/-- what variables of the library hold -/
structure Facts (w : World) : Prop where
  any : True
  maxLen : ∃ m, w.cell? ⟨2, 0, none⟩ = some (.int .i64 m)
  errS : ∃ te pe, w.cell? ⟨0, 0, none⟩ = some (.iface te pe)
  errR : ∃ te pe, w.cell? ⟨1, 0, none⟩ = some (.iface te pe)
end Go.Proofs.YtadggddaheipgaaDoor
