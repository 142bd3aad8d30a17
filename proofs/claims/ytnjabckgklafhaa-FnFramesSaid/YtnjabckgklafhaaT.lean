/- The types and functions of this seat, turned into Lean, by a program written for this work (walk.py). No condition. -/
import Derived.Test.YtnjabckgklafhaaGo
import Derived.Test.YtnjabckgklafhaaProg
namespace Go.Proofs.Ytnjabckgklafhaa
open Go Go.RowKit G
set_option linter.unusedVariables false

structure laws_Sheet where
  Across : Int
  Frames : (List (Vector Int 64))
structure impl_Sheet where
  Across : Int
  Frames : (List (Vector Int 64))
structure spec_l00Src where
  code : (List Int)
  at_ : Int
  seed : Int
theorem mixed : Try.prog.follows .mixedOrders = true := by kernel_rfl
theorem cf5 : CallsFn Try.prog 5 := callsFn Try.func5 (by kernel_rfl) rfl
theorem cf6 : CallsFn Try.prog 6 := callsFn Try.func6 (by kernel_rfl) rfl
theorem cf7 : CallsFn Try.prog 7 := callsFn Try.func7 (by kernel_rfl) rfl
theorem cf8 : CallsFn Try.prog 8 := callsFn Try.func8 (by kernel_rfl) rfl
theorem cf9 : CallsFn Try.prog 9 := callsFn Try.func9 (by kernel_rfl) rfl
theorem cf10 : CallsFn Try.prog 10 := callsFn Try.func10 (by kernel_rfl) rfl
theorem cf11 : CallsFn Try.prog 11 := callsFn Try.func11 (by kernel_rfl) rfl
theorem cf12 : CallsFn Try.prog 12 := callsFn Try.func12 (by kernel_rfl) rfl
theorem cf13 : CallsFn Try.prog 13 := callsFn Try.func13 (by kernel_rfl) rfl
theorem cf14 : CallsFn Try.prog 14 := callsFn Try.func14 (by kernel_rfl) rfl
theorem cf15 : CallsFn Try.prog 15 := callsFn Try.func15 (by kernel_rfl) rfl
theorem cf16 : CallsFn Try.prog 16 := callsFn Try.func16 (by kernel_rfl) rfl
theorem cf17 : CallsFn Try.prog 17 := callsFn Try.func17 (by kernel_rfl) rfl
theorem cf18 : CallsFn Try.prog 18 := callsFn Try.func18 (by kernel_rfl) rfl
theorem cf19 : CallsFn Try.prog 19 := callsFn Try.func19 (by kernel_rfl) rfl
theorem cf20 : CallsFn Try.prog 20 := callsFn Try.func20 (by kernel_rfl) rfl
theorem cf21 : CallsFn Try.prog 21 := callsFn Try.func21 (by kernel_rfl) rfl
theorem cf22 : CallsFn Try.prog 22 := callsFn Try.func22 (by kernel_rfl) rfl
theorem cf23 : CallsFn Try.prog 23 := callsFn Try.func23 (by kernel_rfl) rfl
theorem cf24 : CallsFn Try.prog 24 := callsFn Try.func24 (by kernel_rfl) rfl
theorem cf25 : CallsFn Try.prog 25 := callsFn Try.func25 (by kernel_rfl) rfl
theorem cf26 : CallsFn Try.prog 26 := callsFn Try.func26 (by kernel_rfl) rfl
theorem cf27 : CallsFn Try.prog 27 := callsFn Try.func27 (by kernel_rfl) rfl
theorem cf28 : CallsFn Try.prog 28 := callsFn Try.func28 (by kernel_rfl) rfl
theorem cf29 : CallsFn Try.prog 29 := callsFn Try.func29 (by kernel_rfl) rfl
theorem cf30 : CallsFn Try.prog 30 := callsFn Try.func30 (by kernel_rfl) rfl
theorem cf31 : CallsFn Try.prog 31 := callsFn Try.func31 (by kernel_rfl) rfl
theorem cf32 : CallsFn Try.prog 32 := callsFn Try.func32 (by kernel_rfl) rfl
theorem cf33 : CallsFn Try.prog 33 := callsFn Try.func33 (by kernel_rfl) rfl
theorem cf34 : CallsFn Try.prog 34 := callsFn Try.func34 (by kernel_rfl) rfl
theorem cf35 : CallsFn Try.prog 35 := callsFn Try.func35 (by kernel_rfl) rfl
theorem cf36 : CallsFn Try.prog 36 := callsFn Try.func36 (by kernel_rfl) rfl
theorem cf37 : CallsFn Try.prog 37 := callsFn Try.func37 (by kernel_rfl) rfl
theorem cf38 : CallsFn Try.prog 38 := callsFn Try.func38 (by kernel_rfl) rfl
theorem cf39 : CallsFn Try.prog 39 := callsFn Try.func39 (by kernel_rfl) rfl
theorem cf40 : CallsFn Try.prog 40 := callsFn Try.func40 (by kernel_rfl) rfl
theorem cf41 : CallsFn Try.prog 41 := callsFn Try.func41 (by kernel_rfl) rfl
theorem cf42 : CallsFn Try.prog 42 := callsFn Try.func42 (by kernel_rfl) rfl
theorem cf43 : CallsFn Try.prog 43 := callsFn Try.func43 (by kernel_rfl) rfl
theorem cf44 : CallsFn Try.prog 44 := callsFn Try.func44 (by kernel_rfl) rfl
theorem cf45 : CallsFn Try.prog 45 := callsFn Try.func45 (by kernel_rfl) rfl
theorem cf46 : CallsFn Try.prog 46 := callsFn Try.func46 (by kernel_rfl) rfl
theorem cf47 : CallsFn Try.prog 47 := callsFn Try.func47 (by kernel_rfl) rfl
theorem cf48 : CallsFn Try.prog 48 := callsFn Try.func48 (by kernel_rfl) rfl
theorem cf49 : CallsFn Try.prog 49 := callsFn Try.func49 (by kernel_rfl) rfl
theorem cf50 : CallsFn Try.prog 50 := callsFn Try.func50 (by kernel_rfl) rfl
theorem cf51 : CallsFn Try.prog 51 := callsFn Try.func51 (by kernel_rfl) rfl
theorem cf52 : CallsFn Try.prog 52 := callsFn Try.func52 (by kernel_rfl) rfl
theorem cf53 : CallsFn Try.prog 53 := callsFn Try.func53 (by kernel_rfl) rfl
theorem cf54 : CallsFn Try.prog 54 := callsFn Try.func54 (by kernel_rfl) rfl
theorem cf55 : CallsFn Try.prog 55 := callsFn Try.func55 (by kernel_rfl) rfl
theorem cf56 : CallsFn Try.prog 56 := callsFn Try.func56 (by kernel_rfl) rfl
theorem cf57 : CallsFn Try.prog 57 := callsFn Try.func57 (by kernel_rfl) rfl
theorem cf58 : CallsFn Try.prog 58 := callsFn Try.func58 (by kernel_rfl) rfl
theorem cf59 : CallsFn Try.prog 59 := callsFn Try.func59 (by kernel_rfl) rfl
theorem cf60 : CallsFn Try.prog 60 := callsFn Try.func60 (by kernel_rfl) rfl
theorem cf61 : CallsFn Try.prog 61 := callsFn Try.func61 (by kernel_rfl) rfl
theorem ta2 : aggB Try.prog 2 = false := by kernel_rfl
theorem ta3 : aggB Try.prog 3 = false := by kernel_rfl
theorem ta5 : aggB Try.prog 5 = false := by kernel_rfl
theorem ta22 : aggB Try.prog 22 = false := by kernel_rfl
theorem ta23 : aggB Try.prog 23 = false := by kernel_rfl
theorem ta25 : aggB Try.prog 25 = true := by kernel_rfl
theorem ta27 : aggB Try.prog 27 = false := by kernel_rfl
theorem ta29 : aggB Try.prog 29 = true := by kernel_rfl
theorem ta36 : aggB Try.prog 36 = false := by kernel_rfl
theorem ta58 : aggB Try.prog 58 = false := by kernel_rfl
theorem ta59 : aggB Try.prog 59 = true := by kernel_rfl
theorem ta60 : aggB Try.prog 60 = true := by kernel_rfl
theorem ta77 : aggB Try.prog 77 = false := by kernel_rfl
theorem tf0_25 : fieldP Try.prog 25 0 = some 0 := by kernel_rfl
theorem tf0_29 : fieldP Try.prog 29 0 = some 0 := by kernel_rfl
theorem tf0_79 : fieldP Try.prog 79 0 = some 0 := by kernel_rfl
theorem tf1_25 : fieldP Try.prog 25 1 = some 1 := by kernel_rfl
theorem tf1_29 : fieldP Try.prog 29 1 = some 1 := by kernel_rfl
theorem tf1_79 : fieldP Try.prog 79 1 = some 1 := by kernel_rfl
theorem tf2_79 : fieldP Try.prog 79 2 = some 2 := by kernel_rfl
theorem ti2 : ∃ i, Try.prog.info? 2 = some i ∧ i.zero = some (.int .i64 0) ∧ i.size = 1 ∧ i.bytes = 8 := info_parts (by kernel_rfl)
theorem ti60 : ∃ i, Try.prog.info? 60 = some i ∧ i.zero = some (.agg (encA .i16 (zA 64)).toArray) ∧ i.size = 64 ∧ i.bytes = 128 := info_parts (by kernel_rfl)
theorem tl23 : slE Try.prog 23 = some 59 := by kernel_rfl
theorem tl27 : slE Try.prog 27 = some 60 := by kernel_rfl
theorem tl36 : slE Try.prog 36 = some 5 := by kernel_rfl
theorem tl48 : slE Try.prog 48 = some 2 := by kernel_rfl
theorem tr59 : arE Try.prog 59 = some (64, 58) := by kernel_rfl
theorem tr60 : arE Try.prog 60 = some (64, 58) := by kernel_rfl
theorem tr86 : arE Try.prog 86 = some (4, 58) := by kernel_rfl
theorem ts2 : sizeP Try.prog 2 = some 1 := by kernel_rfl
theorem ts3 : sizeP Try.prog 3 = some 1 := by kernel_rfl
theorem ts5 : sizeP Try.prog 5 = some 1 := by kernel_rfl
theorem ts22 : sizeP Try.prog 22 = some 1 := by kernel_rfl
theorem ts25 : sizeP Try.prog 25 = some 2 := by kernel_rfl
theorem ts27 : sizeP Try.prog 27 = some 1 := by kernel_rfl
theorem ts29 : sizeP Try.prog 29 = some 2 := by kernel_rfl
theorem ts58 : sizeP Try.prog 58 = some 1 := by kernel_rfl
theorem ts59 : sizeP Try.prog 59 = some 64 := by kernel_rfl
theorem ts60 : sizeP Try.prog 60 = some 64 := by kernel_rfl
theorem ts77 : sizeP Try.prog 77 = some 1 := by kernel_rfl
theorem ts86 : sizeP Try.prog 86 = some 4 := by kernel_rfl
theorem tz29 : zeroP Try.prog 29 = some (.agg #[.int .i8 0, .slice none 0 0]) := by kernel_rfl
theorem tz59 : zeroP Try.prog 59 = some (.agg (encA .i16 (zA 64)).toArray) := by kernel_rfl
theorem tz60 : zeroP Try.prog 60 = some (.agg (encA .i16 (zA 64)).toArray) := by kernel_rfl
theorem tz86 : zeroP Try.prog 86 = some (.agg (encA .i16 (zA 4)).toArray) := by kernel_rfl
end Go.Proofs.Ytnjabckgklafhaa
