/- The types and functions of this seat, turned into Lean, by a program written for this work (walk.py). No condition. -/
import Derived.Test.YtadggddaheipgaaDoorGr
import Derived.Test.YtadggddaheipgaaDoorLs
import Derived.Test.YtadggddaheipgaaDoorProg
namespace Go.Proofs.YtadggddaheipgaaDoor
open Go Go.RowKit G
set_option linter.unusedVariables false

theorem mixed : Tryd.prog.follows .mixedOrders = true := by kernel_rfl
theorem cf5 : CallsFn Tryd.prog 5 := callsFn Tryd.func5 (by kernel_rfl) rfl
theorem cf6 : CallsFn Tryd.prog 6 := callsFn Tryd.func6 (by kernel_rfl) rfl
theorem cf7 : CallsFn Tryd.prog 7 := callsFn Tryd.func7 (by kernel_rfl) rfl
theorem cf11 : CallsFn Tryd.prog 11 := callsFn Tryd.func11 (by kernel_rfl) rfl
theorem cf12 : CallsFn Tryd.prog 12 := callsFn Tryd.func12 (by kernel_rfl) rfl
theorem cf13 : CallsFn Tryd.prog 13 := callsFn Tryd.func13 (by kernel_rfl) rfl
theorem cf14 : CallsFn Tryd.prog 14 := callsFn Tryd.func14 (by kernel_rfl) rfl
theorem cf17 : CallsFn Tryd.prog 17 := callsFn Tryd.func17 (by kernel_rfl) rfl
theorem cf21 : CallsFn Tryd.prog 21 := callsFn Tryd.func21 (by kernel_rfl) rfl
theorem cf22 : CallsFn Tryd.prog 22 := callsFn Tryd.func22 (by kernel_rfl) rfl
theorem cf23 : CallsFn Tryd.prog 23 := callsFn Tryd.func23 (by kernel_rfl) rfl
theorem cf24 : CallsFn Tryd.prog 24 := callsFn Tryd.func24 (by kernel_rfl) rfl
theorem cf25 : CallsFn Tryd.prog 25 := callsFn Tryd.func25 (by kernel_rfl) rfl
theorem cf26 : CallsFn Tryd.prog 26 := callsFn Tryd.func26 (by kernel_rfl) rfl
theorem cf27 : CallsFn Tryd.prog 27 := callsFn Tryd.func27 (by kernel_rfl) rfl
theorem cf32 : CallsFn Tryd.prog 32 := callsFn Tryd.func32 (by kernel_rfl) rfl
theorem cf33 : CallsFn Tryd.prog 33 := callsFn Tryd.func33 (by kernel_rfl) rfl
theorem cf34 : CallsFn Tryd.prog 34 := callsFn Tryd.func34 (by kernel_rfl) rfl
theorem ta22 : aggB Tryd.prog 22 = false := by kernel_rfl
theorem ta23 : aggB Tryd.prog 23 = true := by kernel_rfl
theorem ta25 : aggB Tryd.prog 25 = true := by kernel_rfl
theorem ti9 : ∃ i, Tryd.prog.info? 9 = some i ∧ i.zero = some (.string (⟨#[]⟩ : ByteArray)) ∧ i.size = 1 ∧ i.bytes = 16 := info_parts (by kernel_rfl)
theorem tl36 : slE Tryd.prog 36 = some 9 := by kernel_rfl
theorem tl49 : slE Tryd.prog 49 = some 22 := by kernel_rfl
theorem tl56 : slE Tryd.prog 56 = some 5 := by kernel_rfl
theorem tr23 : arE Tryd.prog 23 = some (24, 22) := by kernel_rfl
theorem tr25 : arE Tryd.prog 25 = some (24, 22) := by kernel_rfl
theorem ts22 : sizeP Tryd.prog 22 = some 1 := by kernel_rfl
theorem ts23 : sizeP Tryd.prog 23 = some 24 := by kernel_rfl
theorem ts25 : sizeP Tryd.prog 25 = some 24 := by kernel_rfl
theorem tz25 : zeroP Tryd.prog 25 = some (.agg (encA .i8 (zA 24)).toArray) := by kernel_rfl
end Go.Proofs.YtadggddaheipgaaDoor
