/- The types and functions of this seat, turned into Lean, by a program written for this work (walk.py). No condition. -/
import Derived.Test.YtofhnioboihbgaaGq
import Derived.Test.YtofhnioboihbgaaProg
namespace Go.Proofs.Ytofhnioboihbgaa
open Go Go.RowKit G
set_option linter.unusedVariables false

structure laws_Point where
  X : Int
  Y : Int
deriving DecidableEq
def enc_laws_Point : Enc laws_Point := ⟨fun x => [.int .i16 x.X, .int .i16 x.Y], 2, ⟨0, 0⟩, fun _ => rfl, fun _ u hu => by simp at hu; rcases hu with rfl | rfl <;> rfl⟩
structure impl_Point where
  X : Int
  Y : Int
deriving DecidableEq
def enc_impl_Point : Enc impl_Point := ⟨fun x => [.int .i16 x.X, .int .i16 x.Y], 2, ⟨0, 0⟩, fun _ => rfl, fun _ u hu => by simp at hu; rcases hu with rfl | rfl <;> rfl⟩
structure spec_l00Src where
  code : (List Int)
  at_ : Int
  seed : Int
theorem mixed : Try.prog.follows .mixedOrders = true := by kernel_rfl
theorem cf6 : CallsFn Try.prog 6 := callsFn Try.func6 (by kernel_rfl) rfl
theorem cf7 : CallsFn Try.prog 7 := callsFn Try.func7 (by kernel_rfl) rfl
theorem cf8 : CallsFn Try.prog 8 := callsFn Try.func8 (by kernel_rfl) rfl
theorem cf9 : CallsFn Try.prog 9 := callsFn Try.func9 (by kernel_rfl) rfl
theorem cf10 : CallsFn Try.prog 10 := callsFn Try.func10 (by kernel_rfl) rfl
theorem cf11 : CallsFn Try.prog 11 := callsFn Try.func11 (by kernel_rfl) rfl
theorem cf12 : CallsFn Try.prog 12 := callsFn Try.func12 (by kernel_rfl) rfl
theorem cf13 : CallsFn Try.prog 13 := callsFn Try.func13 (by kernel_rfl) rfl
theorem cf14 : CallsFn Try.prog 14 := callsFn Try.func14 (by kernel_rfl) rfl
theorem cf15 : CallsFn Try.prog 15 := callsFn Try.func15 (by kernel_rfl) rfl
theorem cf16 : CallsFn Try.prog 16 := callsFn Try.func16 (by kernel_rfl) rfl
theorem cf17 : CallsFn Try.prog 17 := callsFn Try.func17 (by kernel_rfl) rfl
theorem cf18 : CallsFn Try.prog 18 := callsFn Try.func18 (by kernel_rfl) rfl
theorem cf19 : CallsFn Try.prog 19 := callsFn Try.func19 (by kernel_rfl) rfl
theorem cf20 : CallsFn Try.prog 20 := callsFn Try.func20 (by kernel_rfl) rfl
theorem cf21 : CallsFn Try.prog 21 := callsFn Try.func21 (by kernel_rfl) rfl
theorem cf22 : CallsFn Try.prog 22 := callsFn Try.func22 (by kernel_rfl) rfl
theorem cf23 : CallsFn Try.prog 23 := callsFn Try.func23 (by kernel_rfl) rfl
theorem cf24 : CallsFn Try.prog 24 := callsFn Try.func24 (by kernel_rfl) rfl
theorem cf25 : CallsFn Try.prog 25 := callsFn Try.func25 (by kernel_rfl) rfl
theorem cf26 : CallsFn Try.prog 26 := callsFn Try.func26 (by kernel_rfl) rfl
theorem cf27 : CallsFn Try.prog 27 := callsFn Try.func27 (by kernel_rfl) rfl
theorem cf28 : CallsFn Try.prog 28 := callsFn Try.func28 (by kernel_rfl) rfl
theorem cf29 : CallsFn Try.prog 29 := callsFn Try.func29 (by kernel_rfl) rfl
theorem cf30 : CallsFn Try.prog 30 := callsFn Try.func30 (by kernel_rfl) rfl
theorem cf31 : CallsFn Try.prog 31 := callsFn Try.func31 (by kernel_rfl) rfl
theorem cf32 : CallsFn Try.prog 32 := callsFn Try.func32 (by kernel_rfl) rfl
theorem cf33 : CallsFn Try.prog 33 := callsFn Try.func33 (by kernel_rfl) rfl
theorem cf34 : CallsFn Try.prog 34 := callsFn Try.func34 (by kernel_rfl) rfl
theorem cf35 : CallsFn Try.prog 35 := callsFn Try.func35 (by kernel_rfl) rfl
theorem cf36 : CallsFn Try.prog 36 := callsFn Try.func36 (by kernel_rfl) rfl
theorem cf37 : CallsFn Try.prog 37 := callsFn Try.func37 (by kernel_rfl) rfl
theorem cf38 : CallsFn Try.prog 38 := callsFn Try.func38 (by kernel_rfl) rfl
theorem cf39 : CallsFn Try.prog 39 := callsFn Try.func39 (by kernel_rfl) rfl
theorem cf40 : CallsFn Try.prog 40 := callsFn Try.func40 (by kernel_rfl) rfl
theorem cf41 : CallsFn Try.prog 41 := callsFn Try.func41 (by kernel_rfl) rfl
theorem cf42 : CallsFn Try.prog 42 := callsFn Try.func42 (by kernel_rfl) rfl
theorem cf43 : CallsFn Try.prog 43 := callsFn Try.func43 (by kernel_rfl) rfl
theorem cf44 : CallsFn Try.prog 44 := callsFn Try.func44 (by kernel_rfl) rfl
theorem cf45 : CallsFn Try.prog 45 := callsFn Try.func45 (by kernel_rfl) rfl
theorem cf46 : CallsFn Try.prog 46 := callsFn Try.func46 (by kernel_rfl) rfl
theorem cf47 : CallsFn Try.prog 47 := callsFn Try.func47 (by kernel_rfl) rfl
theorem cf48 : CallsFn Try.prog 48 := callsFn Try.func48 (by kernel_rfl) rfl
theorem cf49 : CallsFn Try.prog 49 := callsFn Try.func49 (by kernel_rfl) rfl
theorem cf50 : CallsFn Try.prog 50 := callsFn Try.func50 (by kernel_rfl) rfl
theorem cf51 : CallsFn Try.prog 51 := callsFn Try.func51 (by kernel_rfl) rfl
theorem cf52 : CallsFn Try.prog 52 := callsFn Try.func52 (by kernel_rfl) rfl
theorem cf53 : CallsFn Try.prog 53 := callsFn Try.func53 (by kernel_rfl) rfl
theorem cf54 : CallsFn Try.prog 54 := callsFn Try.func54 (by kernel_rfl) rfl
theorem cf55 : CallsFn Try.prog 55 := callsFn Try.func55 (by kernel_rfl) rfl
theorem cf56 : CallsFn Try.prog 56 := callsFn Try.func56 (by kernel_rfl) rfl
theorem cf57 : CallsFn Try.prog 57 := callsFn Try.func57 (by kernel_rfl) rfl
theorem cf58 : CallsFn Try.prog 58 := callsFn Try.func58 (by kernel_rfl) rfl
theorem cf59 : CallsFn Try.prog 59 := callsFn Try.func59 (by kernel_rfl) rfl
theorem cf60 : CallsFn Try.prog 60 := callsFn Try.func60 (by kernel_rfl) rfl
theorem cf61 : CallsFn Try.prog 61 := callsFn Try.func61 (by kernel_rfl) rfl
theorem cf62 : CallsFn Try.prog 62 := callsFn Try.func62 (by kernel_rfl) rfl
theorem cf63 : CallsFn Try.prog 63 := callsFn Try.func63 (by kernel_rfl) rfl
theorem cf64 : CallsFn Try.prog 64 := callsFn Try.func64 (by kernel_rfl) rfl
theorem cf65 : CallsFn Try.prog 65 := callsFn Try.func65 (by kernel_rfl) rfl
theorem cf66 : CallsFn Try.prog 66 := callsFn Try.func66 (by kernel_rfl) rfl
theorem cf67 : CallsFn Try.prog 67 := callsFn Try.func67 (by kernel_rfl) rfl
theorem cf68 : CallsFn Try.prog 68 := callsFn Try.func68 (by kernel_rfl) rfl
theorem cf69 : CallsFn Try.prog 69 := callsFn Try.func69 (by kernel_rfl) rfl
theorem cf70 : CallsFn Try.prog 70 := callsFn Try.func70 (by kernel_rfl) rfl
theorem cf71 : CallsFn Try.prog 71 := callsFn Try.func71 (by kernel_rfl) rfl
theorem cf72 : CallsFn Try.prog 72 := callsFn Try.func72 (by kernel_rfl) rfl
theorem cf73 : CallsFn Try.prog 73 := callsFn Try.func73 (by kernel_rfl) rfl
theorem cf74 : CallsFn Try.prog 74 := callsFn Try.func74 (by kernel_rfl) rfl
theorem cf75 : CallsFn Try.prog 75 := callsFn Try.func75 (by kernel_rfl) rfl
theorem cf76 : CallsFn Try.prog 76 := callsFn Try.func76 (by kernel_rfl) rfl
theorem cf77 : CallsFn Try.prog 77 := callsFn Try.func77 (by kernel_rfl) rfl
theorem cf78 : CallsFn Try.prog 78 := callsFn Try.func78 (by kernel_rfl) rfl
theorem cf79 : CallsFn Try.prog 79 := callsFn Try.func79 (by kernel_rfl) rfl
theorem cf80 : CallsFn Try.prog 80 := callsFn Try.func80 (by kernel_rfl) rfl
theorem cf81 : CallsFn Try.prog 81 := callsFn Try.func81 (by kernel_rfl) rfl
theorem cf82 : CallsFn Try.prog 82 := callsFn Try.func82 (by kernel_rfl) rfl
theorem cf83 : CallsFn Try.prog 83 := callsFn Try.func83 (by kernel_rfl) rfl
theorem cf84 : CallsFn Try.prog 84 := callsFn Try.func84 (by kernel_rfl) rfl
theorem cf85 : CallsFn Try.prog 85 := callsFn Try.func85 (by kernel_rfl) rfl
theorem cf86 : CallsFn Try.prog 86 := callsFn Try.func86 (by kernel_rfl) rfl
theorem cf87 : CallsFn Try.prog 87 := callsFn Try.func87 (by kernel_rfl) rfl
theorem cf88 : CallsFn Try.prog 88 := callsFn Try.func88 (by kernel_rfl) rfl
theorem cf89 : CallsFn Try.prog 89 := callsFn Try.func89 (by kernel_rfl) rfl
theorem cf90 : CallsFn Try.prog 90 := callsFn Try.func90 (by kernel_rfl) rfl
theorem ta2 : aggB Try.prog 2 = false := by kernel_rfl
theorem ta3 : aggB Try.prog 3 = false := by kernel_rfl
theorem ta5 : aggB Try.prog 5 = false := by kernel_rfl
theorem ta30 : aggB Try.prog 30 = false := by kernel_rfl
theorem ta37 : aggB Try.prog 37 = false := by kernel_rfl
theorem ta40 : aggB Try.prog 40 = false := by kernel_rfl
theorem ta52 : aggB Try.prog 52 = false := by kernel_rfl
theorem ta76 : aggB Try.prog 76 = false := by kernel_rfl
theorem ta78 : aggB Try.prog 78 = true := by kernel_rfl
theorem ta80 : aggB Try.prog 80 = true := by kernel_rfl
theorem ta85 : aggB Try.prog 85 = false := by kernel_rfl
theorem tf0_78 : fieldP Try.prog 78 0 = some 0 := by kernel_rfl
theorem tf0_80 : fieldP Try.prog 80 0 = some 0 := by kernel_rfl
theorem tf0_87 : fieldP Try.prog 87 0 = some 0 := by kernel_rfl
theorem tf1_78 : fieldP Try.prog 78 1 = some 1 := by kernel_rfl
theorem tf1_80 : fieldP Try.prog 80 1 = some 1 := by kernel_rfl
theorem tf1_87 : fieldP Try.prog 87 1 = some 1 := by kernel_rfl
theorem tf2_87 : fieldP Try.prog 87 2 = some 2 := by kernel_rfl
theorem ti2 : ∃ i, Try.prog.info? 2 = some i ∧ i.zero = some (.int .i64 0) ∧ i.size = 1 ∧ i.bytes = 8 := info_parts (by kernel_rfl)
theorem ti5 : ∃ i, Try.prog.info? 5 = some i ∧ i.zero = some (.int .u8 0) ∧ i.size = 1 ∧ i.bytes = 1 := info_parts (by kernel_rfl)
theorem ti40 : ∃ i, Try.prog.info? 40 = some i ∧ i.zero = some (.slice none 0 0) ∧ i.size = 1 ∧ i.bytes = 24 := info_parts (by kernel_rfl)
theorem ti78 : ∃ i, Try.prog.info? 78 = some i ∧ i.zero = some (.agg #[.int .i16 0, .int .i16 0]) ∧ i.size = 2 ∧ i.bytes = 4 := info_parts (by kernel_rfl)
theorem tl22 : slE Try.prog 22 = some 52 := by kernel_rfl
theorem tl26 : slE Try.prog 26 = some 40 := by kernel_rfl
theorem tl30 : slE Try.prog 30 = some 2 := by kernel_rfl
theorem tl37 : slE Try.prog 37 = some 5 := by kernel_rfl
theorem tl40 : slE Try.prog 40 = some 78 := by kernel_rfl
theorem tl52 : slE Try.prog 52 = some 80 := by kernel_rfl
theorem ts2 : sizeP Try.prog 2 = some 1 := by kernel_rfl
theorem ts3 : sizeP Try.prog 3 = some 1 := by kernel_rfl
theorem ts5 : sizeP Try.prog 5 = some 1 := by kernel_rfl
theorem ts30 : sizeP Try.prog 30 = some 1 := by kernel_rfl
theorem ts40 : sizeP Try.prog 40 = some 1 := by kernel_rfl
theorem ts52 : sizeP Try.prog 52 = some 1 := by kernel_rfl
theorem ts76 : sizeP Try.prog 76 = some 1 := by kernel_rfl
theorem ts78 : sizeP Try.prog 78 = some 2 := by kernel_rfl
theorem ts80 : sizeP Try.prog 80 = some 2 := by kernel_rfl
theorem ts85 : sizeP Try.prog 85 = some 1 := by kernel_rfl
theorem tz30 : zeroP Try.prog 30 = some (.slice none 0 0) := by kernel_rfl
theorem tz78 : zeroP Try.prog 78 = some (.agg #[.int .i16 0, .int .i16 0]) := by kernel_rfl
end Go.Proofs.Ytofhnioboihbgaa
