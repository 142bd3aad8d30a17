/-
  DERIVED. GIVEN WITH THE SEED: THE CARDS: each row of YtadggddaheipgaaDoorRows.lean that lists a variable, with what it lists TIED to the program's text (the seventh form; the later family's looks); each row that meets fmt, with fmt's text TOLD by the authors' own Lean function (tested against real Go, not proved from fmt's source: count such statements apart). THE CARD IS WHAT COUNTS. Prove the row's statement (the work); the ties are given (YtadggddaheipgaaDoorTie.lean); close each card by the builder's one call (the guide's Derived/Test/ToyasCard.lean, 'card_holds'). Laid BY PROGRAM, IN A SANDBOX (cutbox-door.mjs). By AI agents, Wed Nov 11 2026. No macro, syntax, notation, axiom, sorry.
-/
import Derived.Test.YtadggddaheipgaaDoorRows
import GoSem.ClaimSeven
namespace Go.Proofs.YtadggddaheipgaaDoor
namespace Rows

/-- THE TIED CARD OF 'laws.FnExactSceneText'. -/
def fnExactSceneTextCard : Claim7 := { stood := { row := fnExactSceneTextRow, standIns := [], harness := (true, "0339175ba60176396b3d83a58f9dfb648bd1a5c3b4dbfe4aaf8f35dccfecbcac"), looks := true }, kinds := [], alts := [], laidByText := true, laidKinds := [.data, .data, .data], laidTests := true, laidLooks := .later }
def FnExactSceneTextCardSaid : Prop := Claim7.holds Tryd.pinned (.plain (OpenSpec.ofChange fnExactSceneTextSpec)) fnExactSceneTextCard

/-- THE TIED CARD OF 'laws.FnExactReadScene'. -/
def fnExactReadSceneCard : Claim7 := { stood := { row := fnExactReadSceneRow, standIns := [], harness := (true, "0339175ba60176396b3d83a58f9dfb648bd1a5c3b4dbfe4aaf8f35dccfecbcac"), looks := true }, kinds := [], alts := [], laidByText := true, laidKinds := [.data, .data, .data, .data, .sentinel, .sentinel, .pinned], laidTests := true, laidLooks := .later }
def FnExactReadSceneCardSaid : Prop := Claim7.holds Tryd.pinned (.plain (OpenSpec.ofChange fnExactReadSceneSpec)) fnExactReadSceneCard

/-- THE SECOND FORM's CARD OF 'laws.FnExactSceneText'. -/
def fnExactSceneTextUptoCard : Claim7 := { stood := { row := fnExactSceneTextUptoRow, standIns := [], harness := (true, "0339175ba60176396b3d83a58f9dfb648bd1a5c3b4dbfe4aaf8f35dccfecbcac"), looks := true }, kinds := [], alts := [], laidByText := true, laidKinds := [.data, .data, .data], laidTests := true, laidLooks := .later }
def FnExactSceneTextUptoCardSaid : Prop := Claim7.holds Tryd.pinned (.plain (OpenSpec.upto fnExactSceneTextSpec)) fnExactSceneTextUptoCard

/-- THE SECOND FORM's CARD OF 'laws.FnExactReadScene'. -/
def fnExactReadSceneUptoCard : Claim7 := { stood := { row := fnExactReadSceneUptoRow, standIns := [], harness := (true, "0339175ba60176396b3d83a58f9dfb648bd1a5c3b4dbfe4aaf8f35dccfecbcac"), looks := true }, kinds := [], alts := [], laidByText := true, laidKinds := [.data, .data, .data, .data, .sentinel, .sentinel, .pinned], laidTests := true, laidLooks := .later }
def FnExactReadSceneUptoCardSaid : Prop := Claim7.holds Tryd.pinned (.plain (OpenSpec.upto fnExactReadSceneSpec)) fnExactReadSceneUptoCard
end Rows
end Go.Proofs.YtadggddaheipgaaDoor
