/- The types and functions of this seat, turned into Lean, by a program written for this work (walk.py). No condition. -/
import Derived.Test.YthpaonmddfibpaaDoorGr
import Derived.Test.YthpaonmddfibpaaDoorLs
import Derived.Test.YthpaonmddfibpaaDoorProg
namespace Go.Proofs.YthpaonmddfibpaaDoor
open Go Go.RowKit G
set_option linter.unusedVariables false

structure impl_Strip where
  First : Int
  Each : Int
  Bands : Int
deriving DecidableEq
def enc_impl_Strip : Enc impl_Strip := ⟨fun x => [.int .i8 x.First, .int .i8 x.Each, .int .i8 x.Bands], 3, ⟨0, 0, 0⟩, fun _ => rfl, fun _ u hu => by simp at hu; rcases hu with rfl | rfl | rfl <;> rfl⟩
theorem mixed : Tryd.prog.follows .mixedOrders = true := by kernel_rfl
theorem cf4 : CallsFn Tryd.prog 4 := callsFn Tryd.func4 (by kernel_rfl) rfl
theorem cf5 : CallsFn Tryd.prog 5 := callsFn Tryd.func5 (by kernel_rfl) rfl
theorem cf6 : CallsFn Tryd.prog 6 := callsFn Tryd.func6 (by kernel_rfl) rfl
theorem cf7 : CallsFn Tryd.prog 7 := callsFn Tryd.func7 (by kernel_rfl) rfl
theorem cf8 : CallsFn Tryd.prog 8 := callsFn Tryd.func8 (by kernel_rfl) rfl
theorem cf9 : CallsFn Tryd.prog 9 := callsFn Tryd.func9 (by kernel_rfl) rfl
theorem cf10 : CallsFn Tryd.prog 10 := callsFn Tryd.func10 (by kernel_rfl) rfl
theorem cf11 : CallsFn Tryd.prog 11 := callsFn Tryd.func11 (by kernel_rfl) rfl
theorem cf12 : CallsFn Tryd.prog 12 := callsFn Tryd.func12 (by kernel_rfl) rfl
theorem cf13 : CallsFn Tryd.prog 13 := callsFn Tryd.func13 (by kernel_rfl) rfl
theorem cf14 : CallsFn Tryd.prog 14 := callsFn Tryd.func14 (by kernel_rfl) rfl
theorem cf15 : CallsFn Tryd.prog 15 := callsFn Tryd.func15 (by kernel_rfl) rfl
theorem cf19 : CallsFn Tryd.prog 19 := callsFn Tryd.func19 (by kernel_rfl) rfl
theorem cf20 : CallsFn Tryd.prog 20 := callsFn Tryd.func20 (by kernel_rfl) rfl
theorem cf21 : CallsFn Tryd.prog 21 := callsFn Tryd.func21 (by kernel_rfl) rfl
theorem cf22 : CallsFn Tryd.prog 22 := callsFn Tryd.func22 (by kernel_rfl) rfl
theorem cf31 : CallsFn Tryd.prog 31 := callsFn Tryd.func31 (by kernel_rfl) rfl
theorem if37 : ∃ ms, Tryd.prog.underlying 37 = some (.interface ms) := ⟨_, Tryd.underlying37⟩
theorem ta9 : aggB Tryd.prog 9 = false := by kernel_rfl
theorem ta22 : aggB Tryd.prog 22 = false := by kernel_rfl
theorem ta24 : aggB Tryd.prog 24 = true := by kernel_rfl
theorem tf0_24 : fieldP Tryd.prog 24 0 = some 0 := by kernel_rfl
theorem tf1_24 : fieldP Tryd.prog 24 1 = some 1 := by kernel_rfl
theorem tf2_24 : fieldP Tryd.prog 24 2 = some 2 := by kernel_rfl
theorem ti9 : ∃ i, Tryd.prog.info? 9 = some i ∧ i.zero = some (.string (⟨#[]⟩ : ByteArray)) ∧ i.size = 1 ∧ i.bytes = 16 := info_parts (by kernel_rfl)
theorem tl29 : slE Tryd.prog 29 = some 9 := by kernel_rfl
theorem tr35 : arE Tryd.prog 35 = some (3, 22) := by kernel_rfl
theorem ts9 : sizeP Tryd.prog 9 = some 1 := by kernel_rfl
theorem ts22 : sizeP Tryd.prog 22 = some 1 := by kernel_rfl
theorem ts24 : sizeP Tryd.prog 24 = some 3 := by kernel_rfl
theorem ts35 : sizeP Tryd.prog 35 = some 3 := by kernel_rfl
theorem tz24 : zeroP Tryd.prog 24 = some (.agg #[.int .i8 0, .int .i8 0, .int .i8 0]) := by kernel_rfl
theorem tz35 : zeroP Tryd.prog 35 = some (.agg (encA .i8 (zA 3)).toArray) := by kernel_rfl
end Go.Proofs.YthpaonmddfibpaaDoor
