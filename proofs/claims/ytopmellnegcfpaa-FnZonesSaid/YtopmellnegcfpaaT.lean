/- The types and functions of this seat, turned into Lean, by a program written for this work (walk.py). No condition. -/
import Derived.Test.YtopmellnegcfpaaGj
import Derived.Test.YtopmellnegcfpaaProg
namespace Go.Proofs.Ytopmellnegcfpaa
open Go Go.RowKit G
set_option linter.unusedVariables false

structure spec_l00Src where
  code : (List Int)
  at_ : Int
  seed : Int
structure impl_Placement where
  Reading : Int
  Zone : Int
deriving DecidableEq
def enc_impl_Placement : Enc impl_Placement := ⟨fun x => [.int .i8 x.Reading, .int .i8 x.Zone], 2, ⟨0, 0⟩, fun _ => rfl, fun _ u hu => by simp at hu; rcases hu with rfl | rfl <;> rfl⟩
structure impl_Setting where
  Shutter : Int
  Aperture : Int
  Speed : Int
deriving DecidableEq
def enc_impl_Setting : Enc impl_Setting := ⟨fun x => [.int .i8 x.Shutter, .int .i8 x.Aperture, .int .i8 x.Speed], 3, ⟨0, 0, 0⟩, fun _ => rfl, fun _ u hu => by simp at hu; rcases hu with rfl | rfl | rfl <;> rfl⟩
theorem eqSt35 {N : Nat} {M : List Nat} {w0 : World} {ps : List (Nat × Value)} {es : List Ent} {o : Oper} {T' : TypeId} {x y : Operand} {a0 b0 : Int} {a1 b1 : Int} (ho : o.op = .binOp .eql 35 x y T') (hx : ev ps x = some (.agg #[.int .i8 a0, .int .i8 a1])) (hy : ev ps y = some (.agg #[.int .i8 b0, .int .i8 b1])) : OpV Try.prog N M w0 ps es o (.bool (((a0 == b0) && ((a1 == b1))))) :=
  V.eq_of ho hx hy (by kernel_rfl) fun w => equal_st Try.underlying35 (by kernel_rfl) (eqfc (t := .int .i8) rfl (by kernel_rfl) (by kernel_rfl) rfl rfl (run_equalIn_int w 9998 _ .i8 .i8 _ _ (by kernel_rfl)) (eqf1 (t := .int .i8) rfl (by kernel_rfl) (by kernel_rfl) rfl rfl (run_equalIn_int w 9998 _ .i8 .i8 _ _ (by kernel_rfl))))
theorem eqStN35 {N : Nat} {M : List Nat} {w0 : World} {ps : List (Nat × Value)} {es : List Ent} {o : Oper} {T' : TypeId} {x y : Operand} {a0 b0 : Int} {a1 b1 : Int} (ho : o.op = .binOp .neq 35 x y T') (hx : ev ps x = some (.agg #[.int .i8 a0, .int .i8 a1])) (hy : ev ps y = some (.agg #[.int .i8 b0, .int .i8 b1])) : OpV Try.prog N M w0 ps es o (.bool (!((a0 == b0) && ((a1 == b1))))) :=
  V.ne_of ho hx hy (by kernel_rfl) fun w => equal_st Try.underlying35 (by kernel_rfl) (eqfc (t := .int .i8) rfl (by kernel_rfl) (by kernel_rfl) rfl rfl (run_equalIn_int w 9998 _ .i8 .i8 _ _ (by kernel_rfl)) (eqf1 (t := .int .i8) rfl (by kernel_rfl) (by kernel_rfl) rfl rfl (run_equalIn_int w 9998 _ .i8 .i8 _ _ (by kernel_rfl))))
theorem eqSt54 {N : Nat} {M : List Nat} {w0 : World} {ps : List (Nat × Value)} {es : List Ent} {o : Oper} {T' : TypeId} {x y : Operand} {a0 b0 : Int} {a1 b1 : Int} {a2 b2 : Int} (ho : o.op = .binOp .eql 54 x y T') (hx : ev ps x = some (.agg #[.int .i8 a0, .int .i8 a1, .int .i8 a2])) (hy : ev ps y = some (.agg #[.int .i8 b0, .int .i8 b1, .int .i8 b2])) : OpV Try.prog N M w0 ps es o (.bool (((a0 == b0) && ((a1 == b1) && ((a2 == b2)))))) :=
  V.eq_of ho hx hy (by kernel_rfl) fun w => equal_st Try.underlying54 (by kernel_rfl) (eqfc (t := .int .i8) rfl (by kernel_rfl) (by kernel_rfl) rfl rfl (run_equalIn_int w 9998 _ .i8 .i8 _ _ (by kernel_rfl)) (eqfc (t := .int .i8) rfl (by kernel_rfl) (by kernel_rfl) rfl rfl (run_equalIn_int w 9998 _ .i8 .i8 _ _ (by kernel_rfl)) (eqf1 (t := .int .i8) rfl (by kernel_rfl) (by kernel_rfl) rfl rfl (run_equalIn_int w 9998 _ .i8 .i8 _ _ (by kernel_rfl)))))
theorem eqStN54 {N : Nat} {M : List Nat} {w0 : World} {ps : List (Nat × Value)} {es : List Ent} {o : Oper} {T' : TypeId} {x y : Operand} {a0 b0 : Int} {a1 b1 : Int} {a2 b2 : Int} (ho : o.op = .binOp .neq 54 x y T') (hx : ev ps x = some (.agg #[.int .i8 a0, .int .i8 a1, .int .i8 a2])) (hy : ev ps y = some (.agg #[.int .i8 b0, .int .i8 b1, .int .i8 b2])) : OpV Try.prog N M w0 ps es o (.bool (!((a0 == b0) && ((a1 == b1) && ((a2 == b2)))))) :=
  V.ne_of ho hx hy (by kernel_rfl) fun w => equal_st Try.underlying54 (by kernel_rfl) (eqfc (t := .int .i8) rfl (by kernel_rfl) (by kernel_rfl) rfl rfl (run_equalIn_int w 9998 _ .i8 .i8 _ _ (by kernel_rfl)) (eqfc (t := .int .i8) rfl (by kernel_rfl) (by kernel_rfl) rfl rfl (run_equalIn_int w 9998 _ .i8 .i8 _ _ (by kernel_rfl)) (eqf1 (t := .int .i8) rfl (by kernel_rfl) (by kernel_rfl) rfl rfl (run_equalIn_int w 9998 _ .i8 .i8 _ _ (by kernel_rfl)))))
theorem mixed : Try.prog.follows .mixedOrders = true := by kernel_rfl
theorem cf11 : CallsFn Try.prog 11 := callsFn Try.func11 (by kernel_rfl) rfl
theorem cf12 : CallsFn Try.prog 12 := callsFn Try.func12 (by kernel_rfl) rfl
theorem cf13 : CallsFn Try.prog 13 := callsFn Try.func13 (by kernel_rfl) rfl
theorem cf14 : CallsFn Try.prog 14 := callsFn Try.func14 (by kernel_rfl) rfl
theorem cf15 : CallsFn Try.prog 15 := callsFn Try.func15 (by kernel_rfl) rfl
theorem cf16 : CallsFn Try.prog 16 := callsFn Try.func16 (by kernel_rfl) rfl
theorem cf17 : CallsFn Try.prog 17 := callsFn Try.func17 (by kernel_rfl) rfl
theorem cf18 : CallsFn Try.prog 18 := callsFn Try.func18 (by kernel_rfl) rfl
theorem cf19 : CallsFn Try.prog 19 := callsFn Try.func19 (by kernel_rfl) rfl
theorem cf20 : CallsFn Try.prog 20 := callsFn Try.func20 (by kernel_rfl) rfl
theorem cf21 : CallsFn Try.prog 21 := callsFn Try.func21 (by kernel_rfl) rfl
theorem cf22 : CallsFn Try.prog 22 := callsFn Try.func22 (by kernel_rfl) rfl
theorem cf23 : CallsFn Try.prog 23 := callsFn Try.func23 (by kernel_rfl) rfl
theorem cf24 : CallsFn Try.prog 24 := callsFn Try.func24 (by kernel_rfl) rfl
theorem cf25 : CallsFn Try.prog 25 := callsFn Try.func25 (by kernel_rfl) rfl
theorem cf26 : CallsFn Try.prog 26 := callsFn Try.func26 (by kernel_rfl) rfl
theorem cf27 : CallsFn Try.prog 27 := callsFn Try.func27 (by kernel_rfl) rfl
theorem cf28 : CallsFn Try.prog 28 := callsFn Try.func28 (by kernel_rfl) rfl
theorem cf29 : CallsFn Try.prog 29 := callsFn Try.func29 (by kernel_rfl) rfl
theorem cf31 : CallsFn Try.prog 31 := callsFn Try.func31 (by kernel_rfl) rfl
theorem cf33 : CallsFn Try.prog 33 := callsFn Try.func33 (by kernel_rfl) rfl
theorem cf34 : CallsFn Try.prog 34 := callsFn Try.func34 (by kernel_rfl) rfl
theorem cf35 : CallsFn Try.prog 35 := callsFn Try.func35 (by kernel_rfl) rfl
theorem cf36 : CallsFn Try.prog 36 := callsFn Try.func36 (by kernel_rfl) rfl
theorem cf37 : CallsFn Try.prog 37 := callsFn Try.func37 (by kernel_rfl) rfl
theorem cf38 : CallsFn Try.prog 38 := callsFn Try.func38 (by kernel_rfl) rfl
theorem cf39 : CallsFn Try.prog 39 := callsFn Try.func39 (by kernel_rfl) rfl
theorem cf40 : CallsFn Try.prog 40 := callsFn Try.func40 (by kernel_rfl) rfl
theorem cf41 : CallsFn Try.prog 41 := callsFn Try.func41 (by kernel_rfl) rfl
theorem cf42 : CallsFn Try.prog 42 := callsFn Try.func42 (by kernel_rfl) rfl
theorem cf43 : CallsFn Try.prog 43 := callsFn Try.func43 (by kernel_rfl) rfl
theorem cf44 : CallsFn Try.prog 44 := callsFn Try.func44 (by kernel_rfl) rfl
theorem cf45 : CallsFn Try.prog 45 := callsFn Try.func45 (by kernel_rfl) rfl
theorem cf46 : CallsFn Try.prog 46 := callsFn Try.func46 (by kernel_rfl) rfl
theorem cf47 : CallsFn Try.prog 47 := callsFn Try.func47 (by kernel_rfl) rfl
theorem cf48 : CallsFn Try.prog 48 := callsFn Try.func48 (by kernel_rfl) rfl
theorem cf49 : CallsFn Try.prog 49 := callsFn Try.func49 (by kernel_rfl) rfl
theorem cf50 : CallsFn Try.prog 50 := callsFn Try.func50 (by kernel_rfl) rfl
theorem cf51 : CallsFn Try.prog 51 := callsFn Try.func51 (by kernel_rfl) rfl
theorem cf52 : CallsFn Try.prog 52 := callsFn Try.func52 (by kernel_rfl) rfl
theorem cf53 : CallsFn Try.prog 53 := callsFn Try.func53 (by kernel_rfl) rfl
theorem cf54 : CallsFn Try.prog 54 := callsFn Try.func54 (by kernel_rfl) rfl
theorem cf55 : CallsFn Try.prog 55 := callsFn Try.func55 (by kernel_rfl) rfl
theorem cf56 : CallsFn Try.prog 56 := callsFn Try.func56 (by kernel_rfl) rfl
theorem cf57 : CallsFn Try.prog 57 := callsFn Try.func57 (by kernel_rfl) rfl
theorem cf60 : CallsFn Try.prog 60 := callsFn Try.func60 (by kernel_rfl) rfl
theorem cf61 : CallsFn Try.prog 61 := callsFn Try.func61 (by kernel_rfl) rfl
theorem cf62 : CallsFn Try.prog 62 := callsFn Try.func62 (by kernel_rfl) rfl
theorem cf63 : CallsFn Try.prog 63 := callsFn Try.func63 (by kernel_rfl) rfl
theorem cf64 : CallsFn Try.prog 64 := callsFn Try.func64 (by kernel_rfl) rfl
theorem ta2 : aggB Try.prog 2 = false := by kernel_rfl
theorem ta3 : aggB Try.prog 3 = false := by kernel_rfl
theorem ta5 : aggB Try.prog 5 = false := by kernel_rfl
theorem ta22 : aggB Try.prog 22 = false := by kernel_rfl
theorem ta23 : aggB Try.prog 23 = true := by kernel_rfl
theorem ta26 : aggB Try.prog 26 = true := by kernel_rfl
theorem ta31 : aggB Try.prog 31 = false := by kernel_rfl
theorem ta35 : aggB Try.prog 35 = true := by kernel_rfl
theorem ta40 : aggB Try.prog 40 = true := by kernel_rfl
theorem ta54 : aggB Try.prog 54 = true := by kernel_rfl
theorem ta90 : aggB Try.prog 90 = false := by kernel_rfl
theorem tf0_35 : fieldP Try.prog 35 0 = some 0 := by kernel_rfl
theorem tf0_54 : fieldP Try.prog 54 0 = some 0 := by kernel_rfl
theorem tf0_92 : fieldP Try.prog 92 0 = some 0 := by kernel_rfl
theorem tf1_35 : fieldP Try.prog 35 1 = some 1 := by kernel_rfl
theorem tf1_54 : fieldP Try.prog 54 1 = some 1 := by kernel_rfl
theorem tf1_92 : fieldP Try.prog 92 1 = some 1 := by kernel_rfl
theorem tf2_54 : fieldP Try.prog 54 2 = some 2 := by kernel_rfl
theorem tf2_92 : fieldP Try.prog 92 2 = some 2 := by kernel_rfl
theorem tl31 : slE Try.prog 31 = some 5 := by kernel_rfl
theorem tl66 : slE Try.prog 66 = some 22 := by kernel_rfl
theorem tr23 : arE Try.prog 23 = some (24, 22) := by kernel_rfl
theorem tr26 : arE Try.prog 26 = some (24, 22) := by kernel_rfl
theorem tr40 : arE Try.prog 40 = some (11, 2) := by kernel_rfl
theorem ts2 : sizeP Try.prog 2 = some 1 := by kernel_rfl
theorem ts3 : sizeP Try.prog 3 = some 1 := by kernel_rfl
theorem ts5 : sizeP Try.prog 5 = some 1 := by kernel_rfl
theorem ts22 : sizeP Try.prog 22 = some 1 := by kernel_rfl
theorem ts23 : sizeP Try.prog 23 = some 24 := by kernel_rfl
theorem ts26 : sizeP Try.prog 26 = some 24 := by kernel_rfl
theorem ts35 : sizeP Try.prog 35 = some 2 := by kernel_rfl
theorem ts40 : sizeP Try.prog 40 = some 11 := by kernel_rfl
theorem ts54 : sizeP Try.prog 54 = some 3 := by kernel_rfl
theorem ts90 : sizeP Try.prog 90 = some 1 := by kernel_rfl
theorem tz23 : zeroP Try.prog 23 = some (.agg (encA .i8 (zA 24)).toArray) := by kernel_rfl
theorem tz26 : zeroP Try.prog 26 = some (.agg (encA .i8 (zA 24)).toArray) := by kernel_rfl
theorem tz35 : zeroP Try.prog 35 = some (.agg #[.int .i8 0, .int .i8 0]) := by kernel_rfl
theorem tz40 : zeroP Try.prog 40 = some (.agg (encA .i64 (zA 11)).toArray) := by kernel_rfl
theorem tz54 : zeroP Try.prog 54 = some (.agg #[.int .i8 0, .int .i8 0, .int .i8 0]) := by kernel_rfl
end Go.Proofs.Ytopmellnegcfpaa
