/- The types and functions of this seat, turned into Lean, by a program written for this work (walk.py). No condition. -/
import Derived.Test.YtopmellnegcfpaaGl
import Derived.Test.YtopmellnegcfpaaProg
namespace Go.Proofs.Ytopmellnegcfpaa
open Go Go.RowKit G
set_option linter.unusedVariables false

theorem mixed : Try.prog.follows .mixedOrders = true := by kernel_rfl
theorem cf6 : CallsFn Try.prog 6 := callsFn Try.func6 (by kernel_rfl) rfl
theorem cf7 : CallsFn Try.prog 7 := callsFn Try.func7 (by kernel_rfl) rfl
theorem cf8 : CallsFn Try.prog 8 := callsFn Try.func8 (by kernel_rfl) rfl
theorem cf9 : CallsFn Try.prog 9 := callsFn Try.func9 (by kernel_rfl) rfl
theorem cf10 : CallsFn Try.prog 10 := callsFn Try.func10 (by kernel_rfl) rfl
theorem cf29 : CallsFn Try.prog 29 := callsFn Try.func29 (by kernel_rfl) rfl
theorem cf30 : CallsFn Try.prog 30 := callsFn Try.func30 (by kernel_rfl) rfl
theorem cf31 : CallsFn Try.prog 31 := callsFn Try.func31 (by kernel_rfl) rfl
theorem cf32 : CallsFn Try.prog 32 := callsFn Try.func32 (by kernel_rfl) rfl
theorem cf33 : CallsFn Try.prog 33 := callsFn Try.func33 (by kernel_rfl) rfl
theorem cf34 : CallsFn Try.prog 34 := callsFn Try.func34 (by kernel_rfl) rfl
theorem cf39 : CallsFn Try.prog 39 := callsFn Try.func39 (by kernel_rfl) rfl
theorem cf51 : CallsFn Try.prog 51 := callsFn Try.func51 (by kernel_rfl) rfl
theorem cf56 : CallsFn Try.prog 56 := callsFn Try.func56 (by kernel_rfl) rfl
theorem cf57 : CallsFn Try.prog 57 := callsFn Try.func57 (by kernel_rfl) rfl
theorem cf58 : CallsFn Try.prog 58 := callsFn Try.func58 (by kernel_rfl) rfl
theorem cf59 : CallsFn Try.prog 59 := callsFn Try.func59 (by kernel_rfl) rfl
theorem cf64 : CallsFn Try.prog 64 := callsFn Try.func64 (by kernel_rfl) rfl
theorem cf65 : CallsFn Try.prog 65 := callsFn Try.func65 (by kernel_rfl) rfl
theorem cf66 : CallsFn Try.prog 66 := callsFn Try.func66 (by kernel_rfl) rfl
theorem cf67 : CallsFn Try.prog 67 := callsFn Try.func67 (by kernel_rfl) rfl
theorem cf68 : CallsFn Try.prog 68 := callsFn Try.func68 (by kernel_rfl) rfl
theorem cf69 : CallsFn Try.prog 69 := callsFn Try.func69 (by kernel_rfl) rfl
theorem cf70 : CallsFn Try.prog 70 := callsFn Try.func70 (by kernel_rfl) rfl
theorem cf71 : CallsFn Try.prog 71 := callsFn Try.func71 (by kernel_rfl) rfl
theorem cf72 : CallsFn Try.prog 72 := callsFn Try.func72 (by kernel_rfl) rfl
theorem cf73 : CallsFn Try.prog 73 := callsFn Try.func73 (by kernel_rfl) rfl
theorem cf75 : CallsFn Try.prog 75 := callsFn Try.func75 (by kernel_rfl) rfl
theorem cf76 : CallsFn Try.prog 76 := callsFn Try.func76 (by kernel_rfl) rfl
theorem cf77 : CallsFn Try.prog 77 := callsFn Try.func77 (by kernel_rfl) rfl
theorem cf78 : CallsFn Try.prog 78 := callsFn Try.func78 (by kernel_rfl) rfl
theorem cf79 : CallsFn Try.prog 79 := callsFn Try.func79 (by kernel_rfl) rfl
theorem cf80 : CallsFn Try.prog 80 := callsFn Try.func80 (by kernel_rfl) rfl
theorem cf81 : CallsFn Try.prog 81 := callsFn Try.func81 (by kernel_rfl) rfl
theorem cf82 : CallsFn Try.prog 82 := callsFn Try.func82 (by kernel_rfl) rfl
theorem ta2 : aggB Try.prog 2 = false := by kernel_rfl
theorem ta3 : aggB Try.prog 3 = false := by kernel_rfl
theorem ta22 : aggB Try.prog 22 = false := by kernel_rfl
theorem ta23 : aggB Try.prog 23 = true := by kernel_rfl
theorem ta26 : aggB Try.prog 26 = true := by kernel_rfl
theorem ta106 : aggB Try.prog 106 = false := by kernel_rfl
theorem ti2 : ∃ i, Try.prog.info? 2 = some i ∧ i.zero = some (.int .i64 0) ∧ i.size = 1 ∧ i.bytes = 8 := info_parts (by kernel_rfl)
theorem tl62 : slE Try.prog 62 = some 2 := by kernel_rfl
theorem tl66 : slE Try.prog 66 = some 22 := by kernel_rfl
theorem tr23 : arE Try.prog 23 = some (24, 22) := by kernel_rfl
theorem tr26 : arE Try.prog 26 = some (24, 22) := by kernel_rfl
theorem ts2 : sizeP Try.prog 2 = some 1 := by kernel_rfl
theorem ts3 : sizeP Try.prog 3 = some 1 := by kernel_rfl
theorem ts22 : sizeP Try.prog 22 = some 1 := by kernel_rfl
theorem ts23 : sizeP Try.prog 23 = some 24 := by kernel_rfl
theorem ts26 : sizeP Try.prog 26 = some 24 := by kernel_rfl
theorem ts106 : sizeP Try.prog 106 = some 1 := by kernel_rfl
theorem tz3 : zeroP Try.prog 3 = some (.int .i64 0) := by kernel_rfl
theorem tz26 : zeroP Try.prog 26 = some (.agg (encA .i8 (zA 24)).toArray) := by kernel_rfl
theorem tz106 : zeroP Try.prog 106 = some (.int .u64 0) := by kernel_rfl
end Go.Proofs.Ytopmellnegcfpaa
