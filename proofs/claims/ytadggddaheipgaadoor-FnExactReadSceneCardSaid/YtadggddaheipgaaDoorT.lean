/- The types and functions of this seat, turned into Lean, by a program written for this work (walk.py). No condition. -/
import Derived.Test.YtadggddaheipgaaDoorGr
import Derived.Test.YtadggddaheipgaaDoorLs
import Derived.Test.YtadggddaheipgaaDoorProg
namespace Go.Proofs.YtadggddaheipgaaDoor
open Go Go.RowKit G
set_option linter.unusedVariables false

theorem mixed : Tryd.prog.follows .mixedOrders = true := by kernel_rfl
theorem cf8 : CallsFn Tryd.prog 8 := callsFn Tryd.func8 (by kernel_rfl) rfl
theorem cf9 : CallsFn Tryd.prog 9 := callsFn Tryd.func9 (by kernel_rfl) rfl
theorem cf10 : CallsFn Tryd.prog 10 := callsFn Tryd.func10 (by kernel_rfl) rfl
theorem cf13 : CallsFn Tryd.prog 13 := callsFn Tryd.func13 (by kernel_rfl) rfl
theorem cf14 : CallsFn Tryd.prog 14 := callsFn Tryd.func14 (by kernel_rfl) rfl
theorem cf15 : CallsFn Tryd.prog 15 := callsFn Tryd.func15 (by kernel_rfl) rfl
theorem cf16 : CallsFn Tryd.prog 16 := callsFn Tryd.func16 (by kernel_rfl) rfl
theorem cf17 : CallsFn Tryd.prog 17 := callsFn Tryd.func17 (by kernel_rfl) rfl
theorem cf18 : CallsFn Tryd.prog 18 := callsFn Tryd.func18 (by kernel_rfl) rfl
theorem cf19 : CallsFn Tryd.prog 19 := callsFn Tryd.func19 (by kernel_rfl) rfl
theorem cf20 : CallsFn Tryd.prog 20 := callsFn Tryd.func20 (by kernel_rfl) rfl
theorem cf22 : CallsFn Tryd.prog 22 := callsFn Tryd.func22 (by kernel_rfl) rfl
theorem cf23 : CallsFn Tryd.prog 23 := callsFn Tryd.func23 (by kernel_rfl) rfl
theorem cf24 : CallsFn Tryd.prog 24 := callsFn Tryd.func24 (by kernel_rfl) rfl
theorem cf25 : CallsFn Tryd.prog 25 := callsFn Tryd.func25 (by kernel_rfl) rfl
theorem cf26 : CallsFn Tryd.prog 26 := callsFn Tryd.func26 (by kernel_rfl) rfl
theorem cf27 : CallsFn Tryd.prog 27 := callsFn Tryd.func27 (by kernel_rfl) rfl
theorem cf32 : CallsFn Tryd.prog 32 := callsFn Tryd.func32 (by kernel_rfl) rfl
theorem cf33 : CallsFn Tryd.prog 33 := callsFn Tryd.func33 (by kernel_rfl) rfl
theorem cf34 : CallsFn Tryd.prog 34 := callsFn Tryd.func34 (by kernel_rfl) rfl
theorem if44 : ∃ ms, Tryd.prog.underlying 44 = some (.interface ms) := ⟨_, Tryd.underlying44⟩
theorem ta9 : aggB Tryd.prog 9 = false := by kernel_rfl
theorem ta22 : aggB Tryd.prog 22 = false := by kernel_rfl
theorem ta25 : aggB Tryd.prog 25 = true := by kernel_rfl
theorem ti9 : ∃ i, Tryd.prog.info? 9 = some i ∧ i.zero = some (.string (⟨#[]⟩ : ByteArray)) ∧ i.size = 1 ∧ i.bytes = 16 := info_parts (by kernel_rfl)
theorem tl36 : slE Tryd.prog 36 = some 9 := by kernel_rfl
theorem tl49 : slE Tryd.prog 49 = some 22 := by kernel_rfl
theorem tr25 : arE Tryd.prog 25 = some (24, 22) := by kernel_rfl
theorem ts9 : sizeP Tryd.prog 9 = some 1 := by kernel_rfl
theorem ts22 : sizeP Tryd.prog 22 = some 1 := by kernel_rfl
theorem ts25 : sizeP Tryd.prog 25 = some 24 := by kernel_rfl
theorem tz25 : zeroP Tryd.prog 25 = some (.agg (encA .i8 (zA 24)).toArray) := by kernel_rfl
end Go.Proofs.YtadggddaheipgaaDoor
