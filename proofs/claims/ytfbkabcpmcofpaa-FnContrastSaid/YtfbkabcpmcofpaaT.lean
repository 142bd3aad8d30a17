/- The types and functions of this seat, turned into Lean, by a program written for this work (walk.py). No condition. -/
import Derived.Test.YtfbkabcpmcofpaaGf
import Derived.Test.YtfbkabcpmcofpaaProg
namespace Go.Proofs.Ytfbkabcpmcofpaa
open Go Go.RowKit G
set_option linter.unusedVariables false

structure spec_l00Src where
  code : (List Int)
  at_ : Int
  seed : Int
structure impl_Placement where
  Reading : Int
  Zone : Int
deriving DecidableEq
def enc_impl_Placement : Enc impl_Placement := ⟨fun x => [.int .i8 x.Reading, .int .i8 x.Zone], 2, ⟨0, 0⟩, fun _ => rfl, fun _ u hu => by simp at hu; rcases hu with rfl | rfl <;> rfl⟩
theorem mixed : Try.prog.follows .mixedOrders = true := by kernel_rfl
theorem cf6 : CallsFn Try.prog 6 := callsFn Try.func6 (by kernel_rfl) rfl
theorem cf7 : CallsFn Try.prog 7 := callsFn Try.func7 (by kernel_rfl) rfl
theorem cf8 : CallsFn Try.prog 8 := callsFn Try.func8 (by kernel_rfl) rfl
theorem cf9 : CallsFn Try.prog 9 := callsFn Try.func9 (by kernel_rfl) rfl
theorem cf10 : CallsFn Try.prog 10 := callsFn Try.func10 (by kernel_rfl) rfl
theorem cf11 : CallsFn Try.prog 11 := callsFn Try.func11 (by kernel_rfl) rfl
theorem cf12 : CallsFn Try.prog 12 := callsFn Try.func12 (by kernel_rfl) rfl
theorem cf13 : CallsFn Try.prog 13 := callsFn Try.func13 (by kernel_rfl) rfl
theorem cf14 : CallsFn Try.prog 14 := callsFn Try.func14 (by kernel_rfl) rfl
theorem cf27 : CallsFn Try.prog 27 := callsFn Try.func27 (by kernel_rfl) rfl
theorem cf28 : CallsFn Try.prog 28 := callsFn Try.func28 (by kernel_rfl) rfl
theorem cf29 : CallsFn Try.prog 29 := callsFn Try.func29 (by kernel_rfl) rfl
theorem cf30 : CallsFn Try.prog 30 := callsFn Try.func30 (by kernel_rfl) rfl
theorem cf31 : CallsFn Try.prog 31 := callsFn Try.func31 (by kernel_rfl) rfl
theorem cf32 : CallsFn Try.prog 32 := callsFn Try.func32 (by kernel_rfl) rfl
theorem cf33 : CallsFn Try.prog 33 := callsFn Try.func33 (by kernel_rfl) rfl
theorem cf34 : CallsFn Try.prog 34 := callsFn Try.func34 (by kernel_rfl) rfl
theorem cf35 : CallsFn Try.prog 35 := callsFn Try.func35 (by kernel_rfl) rfl
theorem cf57 : CallsFn Try.prog 57 := callsFn Try.func57 (by kernel_rfl) rfl
theorem cf58 : CallsFn Try.prog 58 := callsFn Try.func58 (by kernel_rfl) rfl
theorem cf59 : CallsFn Try.prog 59 := callsFn Try.func59 (by kernel_rfl) rfl
theorem cf60 : CallsFn Try.prog 60 := callsFn Try.func60 (by kernel_rfl) rfl
theorem cf61 : CallsFn Try.prog 61 := callsFn Try.func61 (by kernel_rfl) rfl
theorem cf62 : CallsFn Try.prog 62 := callsFn Try.func62 (by kernel_rfl) rfl
theorem cf63 : CallsFn Try.prog 63 := callsFn Try.func63 (by kernel_rfl) rfl
theorem cf64 : CallsFn Try.prog 64 := callsFn Try.func64 (by kernel_rfl) rfl
theorem cf66 : CallsFn Try.prog 66 := callsFn Try.func66 (by kernel_rfl) rfl
theorem cf88 : CallsFn Try.prog 88 := callsFn Try.func88 (by kernel_rfl) rfl
theorem cf89 : CallsFn Try.prog 89 := callsFn Try.func89 (by kernel_rfl) rfl
theorem cf90 : CallsFn Try.prog 90 := callsFn Try.func90 (by kernel_rfl) rfl
theorem cf91 : CallsFn Try.prog 91 := callsFn Try.func91 (by kernel_rfl) rfl
theorem cf102 : CallsFn Try.prog 102 := callsFn Try.func102 (by kernel_rfl) rfl
theorem cf103 : CallsFn Try.prog 103 := callsFn Try.func103 (by kernel_rfl) rfl
theorem cf110 : CallsFn Try.prog 110 := callsFn Try.func110 (by kernel_rfl) rfl
theorem ta2 : aggB Try.prog 2 = false := by kernel_rfl
theorem ta3 : aggB Try.prog 3 = false := by kernel_rfl
theorem ta5 : aggB Try.prog 5 = false := by kernel_rfl
theorem ta22 : aggB Try.prog 22 = false := by kernel_rfl
theorem ta24 : aggB Try.prog 24 = false := by kernel_rfl
theorem ta26 : aggB Try.prog 26 = true := by kernel_rfl
theorem ta28 : aggB Try.prog 28 = false := by kernel_rfl
theorem ta35 : aggB Try.prog 35 = true := by kernel_rfl
theorem ta90 : aggB Try.prog 90 = false := by kernel_rfl
theorem ta96 : aggB Try.prog 96 = true := by kernel_rfl
theorem tf0_35 : fieldP Try.prog 35 0 = some 0 := by kernel_rfl
theorem tf0_92 : fieldP Try.prog 92 0 = some 0 := by kernel_rfl
theorem tf1_35 : fieldP Try.prog 35 1 = some 1 := by kernel_rfl
theorem tf1_92 : fieldP Try.prog 92 1 = some 1 := by kernel_rfl
theorem tf2_92 : fieldP Try.prog 92 2 = some 2 := by kernel_rfl
theorem ti5 : ∃ i, Try.prog.info? 5 = some i ∧ i.zero = some (.int .u8 0) ∧ i.size = 1 ∧ i.bytes = 1 := info_parts (by kernel_rfl)
theorem tl22 : slE Try.prog 22 = some 5 := by kernel_rfl
theorem tl130 : slE Try.prog 130 = some 24 := by kernel_rfl
theorem tr26 : arE Try.prog 26 = some (24, 24) := by kernel_rfl
theorem tr96 : arE Try.prog 96 = some (24, 2) := by kernel_rfl
theorem ts2 : sizeP Try.prog 2 = some 1 := by kernel_rfl
theorem ts3 : sizeP Try.prog 3 = some 1 := by kernel_rfl
theorem ts5 : sizeP Try.prog 5 = some 1 := by kernel_rfl
theorem ts24 : sizeP Try.prog 24 = some 1 := by kernel_rfl
theorem ts26 : sizeP Try.prog 26 = some 24 := by kernel_rfl
theorem ts35 : sizeP Try.prog 35 = some 2 := by kernel_rfl
theorem ts90 : sizeP Try.prog 90 = some 1 := by kernel_rfl
theorem ts96 : sizeP Try.prog 96 = some 24 := by kernel_rfl
theorem tz26 : zeroP Try.prog 26 = some (.agg (encA .i8 (zA 24)).toArray) := by kernel_rfl
theorem tz96 : zeroP Try.prog 96 = some (.agg (encA .i64 (zA 24)).toArray) := by kernel_rfl
end Go.Proofs.Ytfbkabcpmcofpaa
