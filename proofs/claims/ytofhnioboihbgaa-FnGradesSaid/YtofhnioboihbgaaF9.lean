/- Go functions as Lean functions, and that each call of theirs comes to just that: by a program written for this work (walk.py). No condition. -/
import Derived.Test.YtofhnioboihbgaaF8
namespace Go.Proofs.Ytofhnioboihbgaa
open Go Go.RowKit G
set_option linter.unusedVariables false

/-! ### laws.FnGrades: function 5 -/
noncomputable def laws_FnGrades.b1 (r12 : (List impl_Point)) (r16 : (List impl_Point)) (r24 : (List impl_Point)) (r30 : Int) (thick_36 : Int) (r37 : Int) (r40 : Int) (r43 : Int × Int × Int × Int) (r46 : Int × Int × Int × Int) : Int → Option (Step (Int) (Sum (Unit) (Bool))) := fun s58 => bif (decide (s58 < ([r12, r16, r24].length : Int))) then (bif (inB s58 [r12, r16, r24].length) then ((impl_MisfitOf.f (rdN [r12, r16, r24] s58) r30 thick_36 r37 r40).bind fun r63 => bif (inB s58 [r12, r16, r24].length) then ((spec_MisfitOf.f (rdN [r12, r16, r24] s58) r30 thick_36 r37 r40).bind fun r67 => (bif (r63.2.2 != r67.2.2) then (some true) else (bif (r63.1 != r67.1) then (some true) else (bif (r63.2.1 != r67.2.1) then (some true) else (bif (r63.2.2 == 0) then (bif (r43.2.2.2 != 0) then (some true) else (bif (decide ((mx r67.2.1 (IntKind.wrap .i64 (0 - r67.2.1))) < (mx r46.2.2.1 (IntKind.wrap .i64 (0 - r46.2.2.1))))) then (some true) else (bif (s58 == r46.1) then (bif (r43.2.2.2 == 0) then (bif (r67.1 != r46.2.1) then (some true) else (some (r67.2.1 != r46.2.2.1))) else (some false)) else (some false)))) else (bif (s58 == r46.1) then (bif (r43.2.2.2 == 0) then (bif (r67.1 != r46.2.1) then (some true) else (some (r67.2.1 != r46.2.2.1))) else (some false)) else (some false))))) : Option (Bool)).bind fun y70 => bif y70 then (some (.done (.inr false))) else ((some (IntKind.wrap .i64 (s58 + 1))).bind fun i_86 => some (.next i_86))) else none) else none) else (some (.done (.inl ())))
noncomputable def laws_FnGrades.b2 (r12 : (List impl_Point)) (r16 : (List impl_Point)) (r24 : (List impl_Point)) (r40 : Int) : (Bool × Int) → Option (Step (Bool × Int) (Bool)) := fun s99 => bif (decide (s99.2 < ([r12, r16, r24].length : Int))) then (bif (inB s99.2 [r12, r16, r24].length) then ((impl_ScaleOf.f (rdN [r12, r16, r24] s99.2) r40 (IntKind.wrap .i64 (r40 + 20))).bind fun r104 => bif s99.1 then ((some (r104.2 == 0)).bind fun all_108 => (some (IntKind.wrap .i64 (s99.2 + 1))).bind fun i_109 => some (.next (all_108, i_109))) else ((some (IntKind.wrap .i64 (s99.2 + 1))).bind fun i_110 => some (.next (false, i_110)))) else none) else (some (.done s99.1))
noncomputable def laws_FnGrades.b3 (r12 : (List impl_Point)) (r16 : (List impl_Point)) (r24 : (List impl_Point)) (r40 : Int) (r95 : (List Int) × Int) : Int → Option (Step (Int) (Sum (Unit) (Bool))) := fun s123 => bif (decide (s123 < (r95.1.length : Int))) then ((bif (inB s123 r95.1.length) then (bif (decide ((rd (eI .i64) r95.1 s123) < 0)) then (some true) else (bif (inB s123 r95.1.length) then (bif (decide (2 < (rd (eI .i64) r95.1 s123))) then (some true) else (bif (inB (IntKind.wrap .i64 (s123 - 1)) r95.1.length) then (bif (decide ((rd (eI .i64) r95.1 (IntKind.wrap .i64 (s123 - 1))) < 0)) then (some true) else (bif (inB (IntKind.wrap .i64 (s123 - 1)) r95.1.length) then (some (decide (2 < (rd (eI .i64) r95.1 (IntKind.wrap .i64 (s123 - 1)))))) else none)) else none)) else none)) else none : Option (Bool)).bind fun y127 => bif y127 then (some (.done (.inr false))) else (bif (inB (IntKind.wrap .i64 (s123 - 1)) r95.1.length) then (bif (inB (rd (eI .i64) r95.1 (IntKind.wrap .i64 (s123 - 1))) [r12, r16, r24].length) then ((spec_ScaleOf.f (rdN [r12, r16, r24] (rd (eI .i64) r95.1 (IntKind.wrap .i64 (s123 - 1)))) r40 (IntKind.wrap .i64 (r40 + 20))).bind fun r140 => bif (inB s123 r95.1.length) then (bif (inB (rd (eI .i64) r95.1 s123) [r12, r16, r24].length) then ((spec_ScaleOf.f (rdN [r12, r16, r24] (rd (eI .i64) r95.1 s123)) r40 (IntKind.wrap .i64 (r40 + 20))).bind fun r145 => (bif (r140.2 != 0) then (some true) else (bif (r145.2 != 0) then (some true) else (some (decide (r140.1 < r145.1)))) : Option (Bool)).bind fun y148 => bif y148 then (some (.done (.inr false))) else ((some (IntKind.wrap .i64 (s123 + 1))).bind fun i_154 => some (.next i_154))) else none) else none) else none) else none)) else (some (.done (.inl ())))
noncomputable def laws_FnGrades.f (p0_code : (List Int)) (p1_more : (List Int)) : Option (Bool) := ((laws_f6big.f p0_code).bind fun r3 => bif r3 then (some true) else ((laws_f6big.f p1_more).bind fun r7 => some r7) : Option (Bool)).bind fun y1 => bif y1 then (some true) else ((spec_P6Paper.f p0_code).bind fun r12 => (spec_P6Paper.f p1_more).bind fun r16 => bif (roomB [5].length p0_code.length 1) then ((spec_P6Paper.f ([5] ++ p0_code)).bind fun r24 => (spec_P6Pick.f p0_code 60).bind fun r30 => (spec_P6Pick.f p1_more 120).bind fun r33 => (some (IntKind.wrap .i64 (r30 + r33))).bind fun thick_36 => (spec_P6Pick.f p1_more 150).bind fun r37 => (spec_P6Pick.f p0_code 80).bind fun r40 => (impl_BestGrade.f [r12, r16, r24] r30 thick_36 r37 r40).bind fun r43 => (spec_BestGrade.f [r12, r16, r24] r30 thick_36 r37 r40).bind fun r46 => (bif (r43.2.2.2 != r46.2.2.2) then (some true) else (bif (r43.1 != r46.1) then (some true) else (bif (r43.2.1 != r46.2.1) then (some true) else (bif (r43.2.2.1 != r46.2.2.1) then (some true) else (bif (r43.2.2.2 != 0) then (some (r43.2.2.2 != 6)) else (some false))))) : Option (Bool)).bind fun y49 => bif y49 then (some false) else ((loopW (laws_FnGrades.b1 r12 r16 r24 r30 thick_36 r37 r40 r43 r46) 0).bind (Sum.elim (fun y88 => (impl_OrderGrades.f [r12, r16, r24] r40 (IntKind.wrap .i64 (r40 + 20))).bind fun r91 => (spec_OrderGrades.f [r12, r16, r24] r40 (IntKind.wrap .i64 (r40 + 20))).bind fun r95 => (loopW (laws_FnGrades.b2 r12 r16 r24 r40) (true, 0)).bind fun y111 => (bif (r91.2 != r95.2) then (some true) else ((spec_SameNumbers.f r91.1 r95.1).bind fun r117 => bif (!r117) then (some true) else (some (!((r91.2 == 0) == y111)))) : Option (Bool)).bind fun y114 => bif y114 then (some false) else ((loopW (laws_FnGrades.b3 r12 r16 r24 r40 r95) 1).bind (Sum.elim (fun y156 => (spec_P6Pick.f p1_more 37).bind fun r159 => bif (inB 0 [r12, r16, r24].length) then (bif (inB 0 [r12, r16, r24].length) then ((impl_ConvertLight.f (rdN [r12, r16, r24] 0) (rdN [r12, r16, r24] 0) r159).bind fun r164 => bif (inB 0 [r12, r16, r24].length) then (bif (inB 1 [r12, r16, r24].length) then ((impl_ConvertLight.f (rdN [r12, r16, r24] 0) (rdN [r12, r16, r24] 1) r159).bind fun r169 => bif (inB 0 [r12, r16, r24].length) then (bif (inB 1 [r12, r16, r24].length) then ((spec_ConvertLight.f (rdN [r12, r16, r24] 0) (rdN [r12, r16, r24] 1) r159).bind fun r174 => bif (inB 0 [r12, r16, r24].length) then (bif (inB 1 [r12, r16, r24].length) then ((impl_ConvertTable.f (rdN [r12, r16, r24] 0) (rdN [r12, r16, r24] 1)).bind fun r179 => bif (inB 0 [r12, r16, r24].length) then (bif (inB 1 [r12, r16, r24].length) then ((spec_ConvertTable.f (rdN [r12, r16, r24] 0) (rdN [r12, r16, r24] 1)).bind fun r185 => (bif (r164.2 != 0) then (some true) else (bif (decide (r159 < r164.1)) then (some true) else (bif (r169.2 != r174.2) then (some true) else (bif (r169.1 != r174.1) then (some true) else (bif (r179.2 != r185.2) then (some true) else (bif (r179.2 != 0) then (some true) else ((spec_SameNumbers.f r179.1 r185.1).bind fun r197 => bif (!r197) then (some true) else (bif ((r185.1.length : Int) != 37) then (some true) else (bif (inB r159 r185.1.length) then (bif (!((r169.2 == 0) == (decide (0 ≤ (rd (eI .i64) r185.1 r159))))) then (some true) else (bif (r169.2 == 0) then (bif (inB r159 r185.1.length) then (some ((rd (eI .i64) r185.1 r159) != r174.1)) else none) else (some false))) else none)))))))) : Option (Bool)).bind fun y189 => bif y189 then (some false) else ((bif (r169.2 == 0) then (bif (inB 0 [r12, r16, r24].length) then ((impl_CurveAt.f (rdN [r12, r16, r24] 0) r159).bind fun r212 => bif (inB 1 [r12, r16, r24].length) then ((impl_CurveAt.f (rdN [r12, r16, r24] 1) r174.1).bind fun r216 => (bif (r212.2 != 0) then (some true) else (bif (r216.2 != 0) then (some true) else (some (decide (r216.1 < r212.1)))) : Option (Bool)).bind fun y219 => bif y219 then (some (.inr false)) else (some (.inl ()))) else none) else none) else (some (.inl ())) : Option (Sum (Unit) (Bool))).bind (Sum.elim (fun y209 => bif (inB 0 [r12, r16, r24].length) then ((impl_BlackTime.f (rdN [r12, r16, r24] 0) r30).bind fun r228 => bif (inB 0 [r12, r16, r24].length) then ((spec_BlackTime.f (rdN [r12, r16, r24] 0) r30).bind fun r232 => bif (inB 0 [r12, r16, r24].length) then ((impl_BlackTime.f (rdN [r12, r16, r24] 0) 0).bind fun r236 => bif (r228.2 == r232.2) then (bif (r228.1 == r232.1) then (bif (r236.2 == 0) then (bif (decide (0 ≤ r236.1)) then ((some (decide (r236.1 ≤ 36))).bind fun t243 => some t243) else (some false)) else (some false)) else (some false)) else (some false)) else none) else none) else none) (fun r => some r)))) else none) else none) else none) else none) else none) else none) else none) else none) else none) else none) (fun r => some r)))) (fun r => some r)))) else none)
set_option maxRecDepth 100000 in
theorem laws_FnGrades.calls (v0 : Value) (p0_code : (List Int)) (v1 : Value) (p1_more : (List Int)) (r : Bool) (w : World) (H0 : Own [] w w []) (hS0 : SlE [] w v0 5 (eI .u8) p0_code) (hS1 : SlE [] w v1 5 (eI .u8) p1_more) (h0 : laws_FnGrades.f p0_code p1_more = some r) :
    Calls Try.prog 5 #[v0, v1] w (fun e w' => ∃ _ : Unit, e = .returned (.bool r) ∧ Own [] w w' []) := by
  unfold laws_FnGrades.f at h0
  replace h0 := B.top h0
  refine calls_of_J (args := [v0, v1]) Try.func5 rfl Try.ntmps5 rfl [(0, v0), (1, v1)] rfl H0 ?_
  refine J.seq ?_
  refine J.region ?_
  refine J.op rfl rfl rfl (V.as rfl rfl) ?_
  refine J.nil ?_
  refine J.tN ?_
  refine J.seq ?_
  refine J.seq ?_
  obtain ⟨y1, hy10, h0⟩ := B.bind h0
  replace hy10 := B.top hy10
  refine J.cut (γ := Unit) (fun _ => True) (fun gy2 => [(0, v0), (1, v1), (64, .bool y1)]) (fun gy2 => []) ?_ ?_
  · have h1 := hy10
    refine J.region ?_
    refine J.op rfl rfl rfl (V.mv rfl rfl) ?_
    obtain ⟨r3, hr4, h1⟩ := B.bind h1
    refine J.clA (l := [.tmp 59]) [] [] cf17 (wN rfl) rfl rfl rfl rfl rfl rfl (fun w H => laws_f6big.calls v0 p0_code r3 w (Own.refl w) (Sl.laterA hS0 H) hr4) fun g5 => ?_
    refine J.op rfl rfl rfl (V.mv rfl rfl) ?_
    refine J.split 61 rfl (fun hB6 => ?_) (fun hB6 => ?_)
    · replace h1 := B.t hB6 h1
      refine J.opOff rfl rfl rfl rfl rfl rfl ?_
      refine J.opOff rfl rfl rfl rfl rfl rfl ?_
      refine J.op rfl rfl rfl (V.pkT rfl rfl rfl) ?_
      refine J.nil ?_
      obtain rfl := B.e h1
      refine J.tN (J.to () trivial ?_)
      exact J.keep _ rfl (J.pickE [] rfl rfl J.here)
    · replace h1 := B.f hB6 h1
      refine J.opOn rfl rfl rfl rfl rfl (V.mv rfl rfl) ?_
      obtain ⟨r7, hr8, h1⟩ := B.bind h1
      refine J.clA (l := [.tmp 62]) [] [] cf17 (wY rfl rfl rfl) rfl rfl rfl rfl rfl rfl (fun w H => laws_f6big.calls v1 p1_more r7 w (Own.refl w) (Sl.laterA hS1 H) hr8) fun g9 => ?_
      refine J.op rfl rfl rfl (V.pkF rfl rfl rfl) ?_
      refine J.nil ?_
      obtain rfl := B.e h1
      refine J.tN (J.to () trivial ?_)
      exact J.keep _ rfl (J.pickE [] rfl rfl J.here)
  · intro gy2 _
    refine J.cond rfl (fun hB11 => ?_) (fun hB11 => ?_)
    · replace h0 := B.t hB11 h0
      refine J.seq ?_
      refine J.region ?_
      refine J.op rfl rfl rfl (V.as rfl rfl) ?_
      refine J.nil ?_
      refine J.tN ?_
      refine J.ret ?_
      refine J.tR ?_
      obtain rfl := B.e h0
      exact J.ret1 rfl rfl fun w H => ⟨(), rfl, H.pick [] (by decide)⟩
    · replace h0 := B.f hB11 h0
      refine J.skip ?_
      refine J.tN ?_
      refine J.seq ?_
      refine J.region ?_
      refine J.op rfl rfl rfl (V.mv rfl rfl) ?_
      obtain ⟨r12, hr13, h0⟩ := B.bind h0
      refine J.clA (l := [.tmp 65]) [] [] cf18 (wN rfl) rfl rfl rfl rfl rfl rfl (fun w H => spec_P6Paper.calls v0 p0_code r12 w (Own.refl w) (Sl.laterA hS0 H) hr13) fun g14 => ?_
      refine J.op rfl rfl rfl (V.mv rfl rfl) ?_
      obtain ⟨r16, hr17, h0⟩ := B.bind h0
      refine J.clA (l := [.tmp 67]) [] [.rowE g14 78 enc_impl_Point r12] cf18 (wN rfl) rfl rfl rfl rfl rfl rfl (fun w H => spec_P6Paper.calls v1 p1_more r16 w (Own.refl w) (Sl.laterA hS1 H) hr17) fun g18 => ?_
      refine J.bs (l := [(0, .const (.int .u8 5))]) (cs := [.int .u8 5]) (E := 5) rfl rfl rfl rfl rfl (fun w => by kernel_rfl) fun b20 => ?_
      refine J.op rfl rfl rfl (V.mv rfl rfl) ?_
      refine J.blkRowE (eI .u8) [5] 1 rfl rfl rfl ?_
      obtain ⟨hC23, h0⟩ := B.chk h0
      obtain ⟨_, qi1, qi2, qi3, qi4⟩ := ti5
      refine J.ap2 (e := (eI .u8)) (xs := [5]) 0 hS0 hC23 qi1 tl37 qi2 qi3 qi4 rfl rfl rfl rfl rfl rfl rfl rfl rfl fun v22 => ?_
      obtain ⟨r24, hr25, h0⟩ := B.bind h0
      refine J.clA (l := [.tmp 71]) [] [.rowE v22 5 (eI .u8) ([5] ++ p0_code), .rowE g18 78 enc_impl_Point r16, .rowE g14 78 enc_impl_Point r12] cf18 (wN rfl) rfl rfl rfl rfl rfl rfl (fun w H => spec_P6Paper.calls v22 ([5] ++ p0_code) r24 w (Own.refl w) (Own.slA 0 H rfl) hr25) fun g26 => ?_
      obtain ⟨_, qi1, qi2, qi3, qi4⟩ := ti40
      refine J.bsV (l := [(0, .tmp 66), (1, .tmp 68), (2, .tmp 72)]) (vs := [g14, g18, g26]) qi1 tl26 qi2 qi3 rfl rfl (fun _ H => (one_cons (Own.sl0 3 H rfl).one (one_cons (Own.sl0 2 H rfl).one (one_cons (Own.sl0 0 H rfl).one one_nil)))) rfl rfl rfl rfl rfl rfl rfl fun b28 => ?_
      refine J.blkN 78 enc_impl_Point.sz rfl rfl ?_
      refine J.pickE [0, 4, 1, 2, 3] rfl rfl ?_
      refine J.absorb 0 rfl rfl ?_
      refine J.pickE [0, 3, 1, 2] rfl rfl ?_
      refine J.absorb 1 rfl rfl ?_
      refine J.absorb 2 rfl rfl ?_
      refine J.ents [.nestE (.slice (some ⟨b28, 0, none⟩) 3 3) 40 78 enc_impl_Point [g14, g18, g26] [r12, r16, r24], .rowE v22 5 (eI .u8) ([5] ++ p0_code)] rfl ?_
      refine J.op rfl rfl rfl (V.as rfl rfl) ?_
      refine J.nil ?_
      refine J.tN ?_
      refine J.seq ?_
      refine J.region ?_
      refine J.op rfl rfl rfl (V.mv rfl rfl) ?_
      obtain ⟨r30, hr31, h0⟩ := B.bind h0
      refine J.clA (l := [.tmp 74, .const (.int .i64 60)]) [] [.nestE (.slice (some ⟨b28, 0, none⟩) 3 3) 40 78 enc_impl_Point [g14, g18, g26] [r12, r16, r24], .rowE v22 5 (eI .u8) ([5] ++ p0_code)] cf19 (wN rfl) rfl rfl rfl rfl rfl rfl (fun w H => spec_P6Pick.calls v0 p0_code 60 r30 w (Own.refl w) (Sl.laterA hS0 H) hr31) fun g32 => ?_
      refine J.op rfl rfl rfl (V.as rfl rfl) ?_
      refine J.nil ?_
      refine J.tN ?_
      refine J.seq ?_
      refine J.region ?_
      refine J.op rfl rfl rfl (V.mv rfl rfl) ?_
      refine J.op rfl rfl rfl (V.mv rfl rfl) ?_
      obtain ⟨r33, hr34, h0⟩ := B.bind h0
      refine J.clA (l := [.tmp 77, .const (.int .i64 120)]) [] [.nestE (.slice (some ⟨b28, 0, none⟩) 3 3) 40 78 enc_impl_Point [g14, g18, g26] [r12, r16, r24], .rowE v22 5 (eI .u8) ([5] ++ p0_code)] cf19 (wN rfl) rfl rfl rfl rfl rfl rfl (fun w H => spec_P6Pick.calls v1 p1_more 120 r33 w (Own.refl w) (Sl.laterA hS1 H) hr34) fun g35 => ?_
      refine J.op rfl rfl rfl (V.ar rfl rfl rfl rfl) ?_
      refine J.op rfl rfl rfl (V.as rfl rfl) ?_
      obtain ⟨thick_36, ethick_36, h0⟩ := B.lt h0
      refine J.val (congrArg (Value.int .i64) ethick_36) ?_
      refine J.nil ?_
      refine J.tN ?_
      refine J.seq ?_
      refine J.region ?_
      refine J.op rfl rfl rfl (V.mv rfl rfl) ?_
      obtain ⟨r37, hr38, h0⟩ := B.bind h0
      refine J.clA (l := [.tmp 80, .const (.int .i64 150)]) [] [.nestE (.slice (some ⟨b28, 0, none⟩) 3 3) 40 78 enc_impl_Point [g14, g18, g26] [r12, r16, r24], .rowE v22 5 (eI .u8) ([5] ++ p0_code)] cf19 (wN rfl) rfl rfl rfl rfl rfl rfl (fun w H => spec_P6Pick.calls v1 p1_more 150 r37 w (Own.refl w) (Sl.laterA hS1 H) hr38) fun g39 => ?_
      refine J.op rfl rfl rfl (V.as rfl rfl) ?_
      refine J.nil ?_
      refine J.tN ?_
      refine J.seq ?_
      refine J.region ?_
      refine J.op rfl rfl rfl (V.mv rfl rfl) ?_
      obtain ⟨r40, hr41, h0⟩ := B.bind h0
      refine J.clA (l := [.tmp 82, .const (.int .i64 80)]) [] [.nestE (.slice (some ⟨b28, 0, none⟩) 3 3) 40 78 enc_impl_Point [g14, g18, g26] [r12, r16, r24], .rowE v22 5 (eI .u8) ([5] ++ p0_code)] cf19 (wN rfl) rfl rfl rfl rfl rfl rfl (fun w H => spec_P6Pick.calls v0 p0_code 80 r40 w (Own.refl w) (Sl.laterA hS0 H) hr41) fun g42 => ?_
      refine J.op rfl rfl rfl (V.as rfl rfl) ?_
      refine J.nil ?_
      refine J.tN ?_
      refine J.seq ?_
      refine J.region ?_
      refine J.op rfl rfl rfl (V.mv rfl rfl) ?_
      refine J.op rfl rfl rfl (V.mv rfl rfl) ?_
      refine J.op rfl rfl rfl (V.mv rfl rfl) ?_
      refine J.op rfl rfl rfl (V.mv rfl rfl) ?_
      refine J.op rfl rfl rfl (V.mv rfl rfl) ?_
      obtain ⟨r43, hr44, h0⟩ := B.bind h0
      refine J.clA (l := [.tmp 85, .tmp 86, .tmp 87, .tmp 88, .tmp 89]) [] [.nestE (.slice (some ⟨b28, 0, none⟩) 3 3) 40 78 enc_impl_Point [g14, g18, g26] [r12, r16, r24], .rowE v22 5 (eI .u8) ([5] ++ p0_code)] cf9 (wN rfl) rfl rfl rfl rfl rfl rfl (fun w H => impl_BestGrade.calls (.slice (some ⟨b28, 0, none⟩) 3 3) [r12, r16, r24] r30 thick_36 r37 r40 r43 w (Own.refl w) (Own.nA 0 H rfl) hr44) fun g45 => ?_
      refine J.op rfl rfl rfl (V.mv rfl rfl) ?_
      refine J.op rfl rfl rfl (V.ex rfl rfl rfl) ?_
      refine J.op rfl rfl rfl (V.ex rfl rfl rfl) ?_
      refine J.op rfl rfl rfl (V.ex rfl rfl rfl) ?_
      refine J.op rfl rfl rfl (V.ex rfl rfl rfl) ?_
      refine J.op rfl rfl rfl (V.as rfl rfl) ?_
      refine J.op rfl rfl rfl (V.as rfl rfl) ?_
      refine J.op rfl rfl rfl (V.as rfl rfl) ?_
      refine J.op rfl rfl rfl (V.as rfl rfl) ?_
      refine J.nil ?_
      refine J.tN ?_
      refine J.seq ?_
      refine J.region ?_
      refine J.op rfl rfl rfl (V.mv rfl rfl) ?_
      refine J.op rfl rfl rfl (V.mv rfl rfl) ?_
      refine J.op rfl rfl rfl (V.mv rfl rfl) ?_
      refine J.op rfl rfl rfl (V.mv rfl rfl) ?_
      refine J.op rfl rfl rfl (V.mv rfl rfl) ?_
      obtain ⟨r46, hr47, h0⟩ := B.bind h0
      refine J.clA (l := [.tmp 96, .tmp 97, .tmp 98, .tmp 99, .tmp 100]) [] [.nestE (.slice (some ⟨b28, 0, none⟩) 3 3) 40 78 enc_impl_Point [g14, g18, g26] [r12, r16, r24], .rowE v22 5 (eI .u8) ([5] ++ p0_code)] cf7 (wN rfl) rfl rfl rfl rfl rfl rfl (fun w H => spec_BestGrade.calls (.slice (some ⟨b28, 0, none⟩) 3 3) [r12, r16, r24] r30 thick_36 r37 r40 r46 w (Own.refl w) (Own.nA 0 H rfl) hr47) fun g48 => ?_
      refine J.op rfl rfl rfl (V.mv rfl rfl) ?_
      refine J.op rfl rfl rfl (V.ex rfl rfl rfl) ?_
      refine J.op rfl rfl rfl (V.ex rfl rfl rfl) ?_
      refine J.op rfl rfl rfl (V.ex rfl rfl rfl) ?_
      refine J.op rfl rfl rfl (V.ex rfl rfl rfl) ?_
      refine J.op rfl rfl rfl (V.as rfl rfl) ?_
      refine J.op rfl rfl rfl (V.as rfl rfl) ?_
      refine J.op rfl rfl rfl (V.as rfl rfl) ?_
      refine J.op rfl rfl rfl (V.as rfl rfl) ?_
      refine J.nil ?_
      refine J.tN ?_
      refine J.seq ?_
      refine J.seq ?_
      obtain ⟨y49, hy56, h0⟩ := B.bind h0
      replace hy56 := B.top hy56
      refine J.cut (γ := Unit) (fun _ => True) (fun gy50 => [(1, v1), (5, (.slice (some ⟨b28, 0, none⟩) 3 3)), (6, .int .i64 r30), (7, .int .i64 thick_36), (8, .int .i64 r37), (9, .int .i64 r40), (13, .int .i64 r43.2.2.2), (14, .int .i64 r46.1), (15, .int .i64 r46.2.1), (16, .int .i64 r46.2.2.1), (131, .bool y49)]) (fun gy50 => [.nestE (.slice (some ⟨b28, 0, none⟩) 3 3) 40 78 enc_impl_Point [g14, g18, g26] [r12, r16, r24], .rowE v22 5 (eI .u8) ([5] ++ p0_code)]) ?_ ?_
      · have h1 := hy56
        refine J.region ?_
        refine J.op rfl rfl rfl (V.mv rfl rfl) ?_
        refine J.op rfl rfl rfl (V.mv rfl rfl) ?_
        refine J.op rfl rfl rfl (V.cmp rfl rfl rfl rfl) ?_
        refine J.op rfl rfl rfl (V.mv rfl rfl) ?_
        refine J.split 109 rfl (fun hB51 => ?_) (fun hB51 => ?_)
        · replace h1 := B.t hB51 h1
          refine J.opOff rfl rfl rfl rfl rfl rfl ?_
          refine J.opOff rfl rfl rfl rfl rfl rfl ?_
          refine J.opOff rfl rfl rfl rfl rfl rfl ?_
          refine J.op rfl rfl rfl (V.pkT rfl rfl rfl) ?_
          refine J.op rfl rfl rfl (V.mv rfl rfl) ?_
          refine J.opOff rfl rfl rfl rfl rfl rfl ?_
          refine J.opOff rfl rfl rfl rfl rfl rfl ?_
          refine J.opOff rfl rfl rfl rfl rfl rfl ?_
          refine J.op rfl rfl rfl (V.pkT rfl rfl rfl) ?_
          refine J.op rfl rfl rfl (V.mv rfl rfl) ?_
          refine J.opOff rfl rfl rfl rfl rfl rfl ?_
          refine J.opOff rfl rfl rfl rfl rfl rfl ?_
          refine J.opOff rfl rfl rfl rfl rfl rfl ?_
          refine J.op rfl rfl rfl (V.pkT rfl rfl rfl) ?_
          refine J.op rfl rfl rfl (V.mv rfl rfl) ?_
          refine J.opOff rfl rfl rfl rfl rfl rfl ?_
          refine J.opOff rfl rfl rfl rfl rfl rfl ?_
          refine J.opOff rfl rfl rfl rfl rfl rfl ?_
          refine J.opOffU rfl rfl rfl rfl rfl ?_
          refine J.opOffU rfl rfl rfl rfl rfl ?_
          refine J.opOff rfl rfl rfl rfl rfl rfl ?_
          refine J.op rfl rfl rfl (V.pkT rfl rfl rfl) ?_
          refine J.nil ?_
          obtain rfl := B.e h1
          refine J.tN (J.to () trivial ?_)
          exact J.keep _ rfl (J.pickE [0, 1] rfl rfl J.here)
        · replace h1 := B.f hB51 h1
          refine J.opOn rfl rfl rfl rfl rfl (V.mv rfl rfl) ?_
          refine J.opOn rfl rfl rfl rfl rfl (V.mv rfl rfl) ?_
          refine J.opOn rfl rfl rfl rfl rfl (V.cmp rfl rfl rfl rfl) ?_
          refine J.op rfl rfl rfl (V.pkF rfl rfl rfl) ?_
          refine J.op rfl rfl rfl (V.mv rfl rfl) ?_
          refine J.split 114 rfl (fun hB52 => ?_) (fun hB52 => ?_)
          · replace h1 := B.t hB52 h1
            refine J.opOff rfl rfl rfl rfl rfl rfl ?_
            refine J.opOff rfl rfl rfl rfl rfl rfl ?_
            refine J.opOff rfl rfl rfl rfl rfl rfl ?_
            refine J.op rfl rfl rfl (V.pkT rfl rfl rfl) ?_
            refine J.op rfl rfl rfl (V.mv rfl rfl) ?_
            refine J.opOff rfl rfl rfl rfl rfl rfl ?_
            refine J.opOff rfl rfl rfl rfl rfl rfl ?_
            refine J.opOff rfl rfl rfl rfl rfl rfl ?_
            refine J.op rfl rfl rfl (V.pkT rfl rfl rfl) ?_
            refine J.op rfl rfl rfl (V.mv rfl rfl) ?_
            refine J.opOff rfl rfl rfl rfl rfl rfl ?_
            refine J.opOff rfl rfl rfl rfl rfl rfl ?_
            refine J.opOff rfl rfl rfl rfl rfl rfl ?_
            refine J.opOffU rfl rfl rfl rfl rfl ?_
            refine J.opOffU rfl rfl rfl rfl rfl ?_
            refine J.opOff rfl rfl rfl rfl rfl rfl ?_
            refine J.op rfl rfl rfl (V.pkT rfl rfl rfl) ?_
            refine J.nil ?_
            obtain rfl := B.e h1
            refine J.tN (J.to () trivial ?_)
            exact J.keep _ rfl (J.pickE [0, 1] rfl rfl J.here)
          · replace h1 := B.f hB52 h1
            refine J.opOn rfl rfl rfl rfl rfl (V.mv rfl rfl) ?_
            refine J.opOn rfl rfl rfl rfl rfl (V.mv rfl rfl) ?_
            refine J.opOn rfl rfl rfl rfl rfl (V.cmp rfl rfl rfl rfl) ?_
            refine J.op rfl rfl rfl (V.pkF rfl rfl rfl) ?_
            refine J.op rfl rfl rfl (V.mv rfl rfl) ?_
            refine J.split 119 rfl (fun hB53 => ?_) (fun hB53 => ?_)
            · replace h1 := B.t hB53 h1
              refine J.opOff rfl rfl rfl rfl rfl rfl ?_
              refine J.opOff rfl rfl rfl rfl rfl rfl ?_
              refine J.opOff rfl rfl rfl rfl rfl rfl ?_
              refine J.op rfl rfl rfl (V.pkT rfl rfl rfl) ?_
              refine J.op rfl rfl rfl (V.mv rfl rfl) ?_
              refine J.opOff rfl rfl rfl rfl rfl rfl ?_
              refine J.opOff rfl rfl rfl rfl rfl rfl ?_
              refine J.opOff rfl rfl rfl rfl rfl rfl ?_
              refine J.opOffU rfl rfl rfl rfl rfl ?_
              refine J.opOffU rfl rfl rfl rfl rfl ?_
              refine J.opOff rfl rfl rfl rfl rfl rfl ?_
              refine J.op rfl rfl rfl (V.pkT rfl rfl rfl) ?_
              refine J.nil ?_
              obtain rfl := B.e h1
              refine J.tN (J.to () trivial ?_)
              exact J.keep _ rfl (J.pickE [0, 1] rfl rfl J.here)
            · replace h1 := B.f hB53 h1
              refine J.opOn rfl rfl rfl rfl rfl (V.mv rfl rfl) ?_
              refine J.opOn rfl rfl rfl rfl rfl (V.mv rfl rfl) ?_
              refine J.opOn rfl rfl rfl rfl rfl (V.cmp rfl rfl rfl rfl) ?_
              refine J.op rfl rfl rfl (V.pkF rfl rfl rfl) ?_
              refine J.op rfl rfl rfl (V.mv rfl rfl) ?_
              refine J.split 124 rfl (fun hB54 => ?_) (fun hB54 => ?_)
              · replace h1 := B.t hB54 h1
                refine J.opOff rfl rfl rfl rfl rfl rfl ?_
                refine J.opOff rfl rfl rfl rfl rfl rfl ?_
                refine J.opOff rfl rfl rfl rfl rfl rfl ?_
                refine J.opOffU rfl rfl rfl rfl rfl ?_
                refine J.opOffU rfl rfl rfl rfl rfl ?_
                refine J.opOff rfl rfl rfl rfl rfl rfl ?_
                refine J.op rfl rfl rfl (V.pkT rfl rfl rfl) ?_
                refine J.nil ?_
                obtain rfl := B.e h1
                refine J.tN (J.to () trivial ?_)
                exact J.keep _ rfl (J.pickE [0, 1] rfl rfl J.here)
              · replace h1 := B.f hB54 h1
                refine J.opOn rfl rfl rfl rfl rfl (V.mv rfl rfl) ?_
                refine J.opOn rfl rfl rfl rfl rfl (V.cmp rfl rfl rfl rfl) ?_
                refine J.opOn rfl rfl rfl rfl rfl (V.mv rfl rfl) ?_
                refine J.split 127 rfl (fun hB55 => ?_) (fun hB55 => ?_)
                · replace h1 := B.t hB55 h1
                  refine J.opOn rfl rfl rfl rfl rfl (V.mv rfl rfl) ?_
                  refine J.opOn rfl rfl rfl rfl rfl (V.cmp rfl rfl rfl rfl) ?_
                  refine J.opOn rfl rfl rfl rfl rfl (V.pkT rfl rfl rfl) ?_
                  refine J.op rfl rfl rfl (V.pkF rfl rfl rfl) ?_
                  refine J.nil ?_
                  obtain rfl := B.e h1
                  refine J.tN (J.to () trivial ?_)
                  exact J.keep _ rfl (J.pickE [0, 1] rfl rfl J.here)
                · replace h1 := B.f hB55 h1
                  refine J.opOff rfl rfl rfl rfl rfl rfl ?_
                  refine J.opOff rfl rfl rfl rfl rfl rfl ?_
                  refine J.opOn rfl rfl rfl rfl rfl (V.pkF rfl rfl rfl) ?_
                  refine J.op rfl rfl rfl (V.pkF rfl rfl rfl) ?_
                  refine J.nil ?_
                  obtain rfl := B.e h1
                  refine J.tN (J.to () trivial ?_)
                  exact J.keep _ rfl (J.pickE [0, 1] rfl rfl J.here)
      · intro gy50 _
        refine J.cond rfl (fun hB57 => ?_) (fun hB57 => ?_)
        · replace h0 := B.t hB57 h0
          refine J.seq ?_
          refine J.region ?_
          refine J.op rfl rfl rfl (V.as rfl rfl) ?_
          refine J.nil ?_
          refine J.tN ?_
          refine J.ret ?_
          refine J.tR ?_
          obtain rfl := B.e h0
          exact J.ret1 rfl rfl fun w H => ⟨(), rfl, H.pick [] (by decide)⟩
        · replace h0 := B.f hB57 h0
          refine J.skip ?_
          refine J.tN ?_
          refine J.seq ?_
          refine J.seq ?_
          refine J.region ?_
          refine J.op rfl rfl rfl (V.as rfl rfl) ?_
          refine J.nil ?_
          refine J.tN ?_
          obtain ⟨o90, hy89, h0⟩ := B.bind h0
          refine J.cutQ (γ := (Unit) × (Unit)) (fun gy88 => o90 = .inl gy88.1) (fun gy88 => [(1, v1), (5, (.slice (some ⟨b28, 0, none⟩) 3 3)), (6, .int .i64 r30), (9, .int .i64 r40)]) (fun gy88 => [.nestE (.slice (some ⟨b28, 0, none⟩) 3 3) 40 78 enc_impl_Point [g14, g18, g26] [r12, r16, r24], .rowE v22 5 (eI .u8) ([5] ++ p0_code)]) ?_ ?_
          · refine J.block ?_
            refine J.loop (γ := Unit) hy89 (fun s58 g59 => [(1, v1), (5, (.slice (some ⟨b28, 0, none⟩) 3 3)), (6, .int .i64 r30), (7, .int .i64 thick_36), (8, .int .i64 r37), (9, .int .i64 r40), (13, .int .i64 r43.2.2.2), (14, .int .i64 r46.1), (15, .int .i64 r46.2.1), (16, .int .i64 r46.2.2.1), (18, .int .i64 s58)]) (fun s58 g59 => [.nestE (.slice (some ⟨b28, 0, none⟩) 3 3) 40 78 enc_impl_Point [g14, g18, g26] [r12, r16, r24], .rowE v22 5 (eI .u8) ([5] ++ p0_code)]) () ?_ ?_
            · exact J.keep _ rfl (J.pickE [0, 1] rfl rfl J.here)
            · intro rec60 s58 g59 h1
              unfold laws_FnGrades.b1 at h1
              refine J.seq ?_
              refine J.seq ?_
              refine J.region ?_
              refine J.op rfl rfl rfl (V.mv rfl rfl) ?_
              refine J.op rfl rfl rfl (V.mv rfl rfl) ?_
              refine J.op rfl rfl rfl (V.lenN 0 rfl rfl rfl tl26) ?_
              refine J.op rfl rfl rfl (V.cmp rfl rfl rfl rfl) ?_
              refine J.nil ?_
              refine J.tN ?_
              refine J.cond rfl (fun hB61 => ?_) (fun hB61 => ?_)
              · replace h1 := B.t hB61 h1
                refine J.skip ?_
                refine J.tN ?_
                refine J.seq ?_
                refine J.block ?_
                refine J.seq ?_
                refine J.region ?_
                refine J.op rfl rfl rfl (V.mv rfl rfl) ?_
                refine J.op rfl rfl rfl (V.mv rfl rfl) ?_
                obtain ⟨hC62, h1⟩ := B.chk h1
                refine J.op rfl rfl rfl (V.ixNst 0 rfl rfl rfl rfl tl26 ts40 hC62) ?_
                refine J.op rfl rfl rfl (V.ldN 0 rfl hC62 rfl rfl Try.underlying40 ta40) ?_
                refine J.op rfl rfl rfl (V.mv rfl rfl) ?_
                refine J.op rfl rfl rfl (V.mv rfl rfl) ?_
                refine J.op rfl rfl rfl (V.mv rfl rfl) ?_
                refine J.op rfl rfl rfl (V.mv rfl rfl) ?_
                obtain ⟨r63, hr64, h1⟩ := B.bind h1
                refine J.clA (l := [.tmp 142, .tmp 143, .tmp 144, .tmp 145, .tmp 146]) [] [.nestE (.slice (some ⟨b28, 0, none⟩) 3 3) 40 78 enc_impl_Point [g14, g18, g26] [r12, r16, r24], .rowE v22 5 (eI .u8) ([5] ++ p0_code)] cf20 (wN rfl) rfl rfl rfl rfl rfl rfl (fun w H => impl_MisfitOf.calls (nth [g14, g18, g26] s58) (rdN [r12, r16, r24] s58) r30 thick_36 r37 r40 r63 w (Own.refl w) (Own.nelA 0 H rfl hC62) hr64) fun g65 => ?_
                refine J.op rfl rfl rfl (V.mv rfl rfl) ?_
                refine J.op rfl rfl rfl (V.ex rfl rfl rfl) ?_
                refine J.op rfl rfl rfl (V.ex rfl rfl rfl) ?_
                refine J.op rfl rfl rfl (V.ex rfl rfl rfl) ?_
                refine J.op rfl rfl rfl (V.as rfl rfl) ?_
                refine J.op rfl rfl rfl (V.as rfl rfl) ?_
                refine J.op rfl rfl rfl (V.as rfl rfl) ?_
                refine J.nil ?_
                refine J.tN ?_
                refine J.seq ?_
                refine J.region ?_
                refine J.op rfl rfl rfl (V.mv rfl rfl) ?_
                refine J.op rfl rfl rfl (V.mv rfl rfl) ?_
                obtain ⟨hC66, h1⟩ := B.chk h1
                refine J.op rfl rfl rfl (V.ixNst 0 rfl rfl rfl rfl tl26 ts40 hC66) ?_
                refine J.op rfl rfl rfl (V.ldN 0 rfl hC66 rfl rfl Try.underlying40 ta40) ?_
                refine J.op rfl rfl rfl (V.mv rfl rfl) ?_
                refine J.op rfl rfl rfl (V.mv rfl rfl) ?_
                refine J.op rfl rfl rfl (V.mv rfl rfl) ?_
                refine J.op rfl rfl rfl (V.mv rfl rfl) ?_
                obtain ⟨r67, hr68, h1⟩ := B.bind h1
                refine J.clA (l := [.tmp 155, .tmp 156, .tmp 157, .tmp 158, .tmp 159]) [] [.nestE (.slice (some ⟨b28, 0, none⟩) 3 3) 40 78 enc_impl_Point [g14, g18, g26] [r12, r16, r24], .rowE v22 5 (eI .u8) ([5] ++ p0_code)] cf21 (wN rfl) rfl rfl rfl rfl rfl rfl (fun w H => spec_MisfitOf.calls (nth [g14, g18, g26] s58) (rdN [r12, r16, r24] s58) r30 thick_36 r37 r40 r67 w (Own.refl w) (Own.nelA 0 H rfl hC66) hr68) fun g69 => ?_
                refine J.op rfl rfl rfl (V.mv rfl rfl) ?_
                refine J.op rfl rfl rfl (V.ex rfl rfl rfl) ?_
                refine J.op rfl rfl rfl (V.ex rfl rfl rfl) ?_
                refine J.op rfl rfl rfl (V.ex rfl rfl rfl) ?_
                refine J.op rfl rfl rfl (V.as rfl rfl) ?_
                refine J.op rfl rfl rfl (V.as rfl rfl) ?_
                refine J.op rfl rfl rfl (V.as rfl rfl) ?_
                refine J.nil ?_
                refine J.tN ?_
                refine J.seq ?_
                obtain ⟨y70, hy84, h1⟩ := B.bind h1
                replace hy84 := B.top hy84
                refine J.cut (γ := Unit) (fun _ => True) (fun gy71 => [(1, v1), (5, (.slice (some ⟨b28, 0, none⟩) 3 3)), (6, .int .i64 r30), (7, .int .i64 thick_36), (8, .int .i64 r37), (9, .int .i64 r40), (13, .int .i64 r43.2.2.2), (14, .int .i64 r46.1), (15, .int .i64 r46.2.1), (16, .int .i64 r46.2.2.1), (18, .int .i64 s58), (214, .bool y70)]) (fun gy71 => [.nestE (.slice (some ⟨b28, 0, none⟩) 3 3) 40 78 enc_impl_Point [g14, g18, g26] [r12, r16, r24], .rowE v22 5 (eI .u8) ([5] ++ p0_code)]) ?_ ?_
                · have h2 := hy84
                  refine J.region ?_
                  refine J.op rfl rfl rfl (V.mv rfl rfl) ?_
                  refine J.op rfl rfl rfl (V.mv rfl rfl) ?_
                  refine J.op rfl rfl rfl (V.cmp rfl rfl rfl rfl) ?_
                  refine J.op rfl rfl rfl (V.mv rfl rfl) ?_
                  refine J.split 167 rfl (fun hB72 => ?_) (fun hB72 => ?_)
                  · replace h2 := B.t hB72 h2
                    refine J.opOff rfl rfl rfl rfl rfl rfl ?_
                    refine J.opOff rfl rfl rfl rfl rfl rfl ?_
                    refine J.opOff rfl rfl rfl rfl rfl rfl ?_
                    refine J.op rfl rfl rfl (V.pkT rfl rfl rfl) ?_
                    refine J.op rfl rfl rfl (V.mv rfl rfl) ?_
                    refine J.opOff rfl rfl rfl rfl rfl rfl ?_
                    refine J.opOff rfl rfl rfl rfl rfl rfl ?_
                    refine J.opOff rfl rfl rfl rfl rfl rfl ?_
                    refine J.op rfl rfl rfl (V.pkT rfl rfl rfl) ?_
                    refine J.op rfl rfl rfl (V.mv rfl rfl) ?_
                    refine J.opOff rfl rfl rfl rfl rfl rfl ?_
                    refine J.opOff rfl rfl rfl rfl rfl rfl ?_
                    refine J.opOff rfl rfl rfl rfl rfl rfl ?_
                    refine J.opOffU rfl rfl rfl rfl rfl ?_
                    refine J.opOffU rfl rfl rfl rfl rfl ?_
                    refine J.opOffU rfl rfl rfl rfl rfl ?_
                    refine J.opOffU rfl rfl rfl rfl rfl ?_
                    refine J.opOffU rfl rfl rfl rfl rfl ?_
                    refine J.opOffU rfl rfl rfl rfl rfl ?_
                    refine J.opOffU rfl rfl rfl rfl rfl ?_
                    refine J.opOffU rfl rfl rfl rfl rfl ?_
                    refine J.opOffU rfl rfl rfl rfl rfl ?_
                    refine J.opOffU rfl rfl rfl rfl rfl ?_
                    refine J.opOffU rfl rfl rfl rfl rfl ?_
                    refine J.opOffU rfl rfl rfl rfl rfl ?_
                    refine J.opOffU rfl rfl rfl rfl rfl ?_
                    refine J.opOff rfl rfl rfl rfl rfl rfl ?_
                    refine J.op rfl rfl rfl (V.pkT rfl rfl rfl) ?_
                    refine J.op rfl rfl rfl (V.mv rfl rfl) ?_
                    refine J.opOff rfl rfl rfl rfl rfl rfl ?_
                    refine J.opOff rfl rfl rfl rfl rfl rfl ?_
                    refine J.opOff rfl rfl rfl rfl rfl rfl ?_
                    refine J.opOff rfl rfl rfl rfl rfl rfl ?_
                    refine J.opOffU rfl rfl rfl rfl rfl ?_
                    refine J.opOffU rfl rfl rfl rfl rfl ?_
                    refine J.opOff rfl rfl rfl rfl rfl rfl ?_
                    refine J.opOff rfl rfl rfl rfl rfl rfl ?_
                    refine J.opOffU rfl rfl rfl rfl rfl ?_
                    refine J.opOffU rfl rfl rfl rfl rfl ?_
                    refine J.opOffU rfl rfl rfl rfl rfl ?_
                    refine J.opOffU rfl rfl rfl rfl rfl ?_
                    refine J.opOffU rfl rfl rfl rfl rfl ?_
                    refine J.opOffU rfl rfl rfl rfl rfl ?_
                    refine J.opOffU rfl rfl rfl rfl rfl ?_
                    refine J.opOffU rfl rfl rfl rfl rfl ?_
                    refine J.opOff rfl rfl rfl rfl rfl rfl ?_
                    refine J.op rfl rfl rfl (V.pkT rfl rfl rfl) ?_
                    refine J.nil ?_
                    obtain rfl := B.e h2
                    refine J.tN (J.to () trivial ?_)
                    exact J.keep _ rfl (J.pickE [0, 1] rfl rfl J.here)
                  · replace h2 := B.f hB72 h2
                    refine J.opOn rfl rfl rfl rfl rfl (V.mv rfl rfl) ?_
                    refine J.opOn rfl rfl rfl rfl rfl (V.mv rfl rfl) ?_
                    refine J.opOn rfl rfl rfl rfl rfl (V.cmp rfl rfl rfl rfl) ?_
                    refine J.op rfl rfl rfl (V.pkF rfl rfl rfl) ?_
                    refine J.op rfl rfl rfl (V.mv rfl rfl) ?_
                    refine J.split 172 rfl (fun hB73 => ?_) (fun hB73 => ?_)
                    · replace h2 := B.t hB73 h2
                      refine J.opOff rfl rfl rfl rfl rfl rfl ?_
                      refine J.opOff rfl rfl rfl rfl rfl rfl ?_
                      refine J.opOff rfl rfl rfl rfl rfl rfl ?_
                      refine J.op rfl rfl rfl (V.pkT rfl rfl rfl) ?_
                      refine J.op rfl rfl rfl (V.mv rfl rfl) ?_
                      refine J.opOff rfl rfl rfl rfl rfl rfl ?_
                      refine J.opOff rfl rfl rfl rfl rfl rfl ?_
                      refine J.opOff rfl rfl rfl rfl rfl rfl ?_
                      refine J.opOffU rfl rfl rfl rfl rfl ?_
                      refine J.opOffU rfl rfl rfl rfl rfl ?_
                      refine J.opOffU rfl rfl rfl rfl rfl ?_
                      refine J.opOffU rfl rfl rfl rfl rfl ?_
                      refine J.opOffU rfl rfl rfl rfl rfl ?_
                      refine J.opOffU rfl rfl rfl rfl rfl ?_
                      refine J.opOffU rfl rfl rfl rfl rfl ?_
                      refine J.opOffU rfl rfl rfl rfl rfl ?_
                      refine J.opOffU rfl rfl rfl rfl rfl ?_
                      refine J.opOffU rfl rfl rfl rfl rfl ?_
                      refine J.opOffU rfl rfl rfl rfl rfl ?_
                      refine J.opOffU rfl rfl rfl rfl rfl ?_
                      refine J.opOffU rfl rfl rfl rfl rfl ?_
                      refine J.opOff rfl rfl rfl rfl rfl rfl ?_
                      refine J.op rfl rfl rfl (V.pkT rfl rfl rfl) ?_
                      refine J.op rfl rfl rfl (V.mv rfl rfl) ?_
                      refine J.opOff rfl rfl rfl rfl rfl rfl ?_
                      refine J.opOff rfl rfl rfl rfl rfl rfl ?_
                      refine J.opOff rfl rfl rfl rfl rfl rfl ?_
                      refine J.opOff rfl rfl rfl rfl rfl rfl ?_
                      refine J.opOffU rfl rfl rfl rfl rfl ?_
                      refine J.opOffU rfl rfl rfl rfl rfl ?_
                      refine J.opOff rfl rfl rfl rfl rfl rfl ?_
                      refine J.opOff rfl rfl rfl rfl rfl rfl ?_
                      refine J.opOffU rfl rfl rfl rfl rfl ?_
                      refine J.opOffU rfl rfl rfl rfl rfl ?_
                      refine J.opOffU rfl rfl rfl rfl rfl ?_
                      refine J.opOffU rfl rfl rfl rfl rfl ?_
                      refine J.opOffU rfl rfl rfl rfl rfl ?_
                      refine J.opOffU rfl rfl rfl rfl rfl ?_
                      refine J.opOffU rfl rfl rfl rfl rfl ?_
                      refine J.opOffU rfl rfl rfl rfl rfl ?_
                      refine J.opOff rfl rfl rfl rfl rfl rfl ?_
                      refine J.op rfl rfl rfl (V.pkT rfl rfl rfl) ?_
                      refine J.nil ?_
                      obtain rfl := B.e h2
                      refine J.tN (J.to () trivial ?_)
                      exact J.keep _ rfl (J.pickE [0, 1] rfl rfl J.here)
                    · replace h2 := B.f hB73 h2
                      refine J.opOn rfl rfl rfl rfl rfl (V.mv rfl rfl) ?_
                      refine J.opOn rfl rfl rfl rfl rfl (V.mv rfl rfl) ?_
                      refine J.opOn rfl rfl rfl rfl rfl (V.cmp rfl rfl rfl rfl) ?_
                      refine J.op rfl rfl rfl (V.pkF rfl rfl rfl) ?_
                      refine J.op rfl rfl rfl (V.mv rfl rfl) ?_
                      refine J.split 177 rfl (fun hB74 => ?_) (fun hB74 => ?_)
                      · replace h2 := B.t hB74 h2
                        refine J.opOff rfl rfl rfl rfl rfl rfl ?_
                        refine J.opOff rfl rfl rfl rfl rfl rfl ?_
                        refine J.opOff rfl rfl rfl rfl rfl rfl ?_
                        refine J.opOffU rfl rfl rfl rfl rfl ?_
                        refine J.opOffU rfl rfl rfl rfl rfl ?_
                        refine J.opOffU rfl rfl rfl rfl rfl ?_
                        refine J.opOffU rfl rfl rfl rfl rfl ?_
                        refine J.opOffU rfl rfl rfl rfl rfl ?_
                        refine J.opOffU rfl rfl rfl rfl rfl ?_
                        refine J.opOffU rfl rfl rfl rfl rfl ?_
                        refine J.opOffU rfl rfl rfl rfl rfl ?_
                        refine J.opOffU rfl rfl rfl rfl rfl ?_
                        refine J.opOffU rfl rfl rfl rfl rfl ?_
                        refine J.opOffU rfl rfl rfl rfl rfl ?_
                        refine J.opOffU rfl rfl rfl rfl rfl ?_
                        refine J.opOffU rfl rfl rfl rfl rfl ?_
                        refine J.opOff rfl rfl rfl rfl rfl rfl ?_
                        refine J.op rfl rfl rfl (V.pkT rfl rfl rfl) ?_
                        refine J.op rfl rfl rfl (V.mv rfl rfl) ?_
                        refine J.opOff rfl rfl rfl rfl rfl rfl ?_
                        refine J.opOff rfl rfl rfl rfl rfl rfl ?_
                        refine J.opOff rfl rfl rfl rfl rfl rfl ?_
                        refine J.opOff rfl rfl rfl rfl rfl rfl ?_
                        refine J.opOffU rfl rfl rfl rfl rfl ?_
                        refine J.opOffU rfl rfl rfl rfl rfl ?_
                        refine J.opOff rfl rfl rfl rfl rfl rfl ?_
                        refine J.opOff rfl rfl rfl rfl rfl rfl ?_
                        refine J.opOffU rfl rfl rfl rfl rfl ?_
                        refine J.opOffU rfl rfl rfl rfl rfl ?_
                        refine J.opOffU rfl rfl rfl rfl rfl ?_
                        refine J.opOffU rfl rfl rfl rfl rfl ?_
                        refine J.opOffU rfl rfl rfl rfl rfl ?_
                        refine J.opOffU rfl rfl rfl rfl rfl ?_
                        refine J.opOffU rfl rfl rfl rfl rfl ?_
                        refine J.opOffU rfl rfl rfl rfl rfl ?_
                        refine J.opOff rfl rfl rfl rfl rfl rfl ?_
                        refine J.op rfl rfl rfl (V.pkT rfl rfl rfl) ?_
                        refine J.nil ?_
                        obtain rfl := B.e h2
                        refine J.tN (J.to () trivial ?_)
                        exact J.keep _ rfl (J.pickE [0, 1] rfl rfl J.here)
                      · replace h2 := B.f hB74 h2
                        refine J.opOn rfl rfl rfl rfl rfl (V.mv rfl rfl) ?_
                        refine J.opOn rfl rfl rfl rfl rfl (V.cmp rfl rfl rfl rfl) ?_
                        refine J.opOn rfl rfl rfl rfl rfl (V.mv rfl rfl) ?_
                        refine J.split 180 rfl (fun hB75 => ?_) (fun hB75 => ?_)
                        · replace h2 := B.t hB75 h2
                          refine J.opOn rfl rfl rfl rfl rfl (V.mv rfl rfl) ?_
                          refine J.opOn rfl rfl rfl rfl rfl (V.cmp rfl rfl rfl rfl) ?_
                          refine J.opOn rfl rfl rfl rfl rfl (V.mv rfl rfl) ?_
                          refine J.split 183 rfl (fun hB76 => ?_) (fun hB76 => ?_)
                          · replace h2 := B.t hB76 h2
                            refine J.opOff rfl rfl rfl rfl rfl rfl ?_
                            refine J.opOff rfl rfl rfl rfl rfl rfl ?_
                            refine J.opOff rfl rfl rfl rfl rfl rfl ?_
                            refine J.opOff rfl rfl rfl rfl rfl rfl ?_
                            refine J.opOff rfl rfl rfl rfl rfl rfl ?_
                            refine J.opOff rfl rfl rfl rfl rfl rfl ?_
                            refine J.opOff rfl rfl rfl rfl rfl rfl ?_
                            refine J.opOff rfl rfl rfl rfl rfl rfl ?_
                            refine J.opOff rfl rfl rfl rfl rfl rfl ?_
                            refine J.opOn rfl rfl rfl rfl rfl (V.pkT rfl rfl rfl) ?_
                            refine J.opOn rfl rfl rfl rfl rfl (V.pkT rfl rfl rfl) ?_
                            refine J.op rfl rfl rfl (V.pkF rfl rfl rfl) ?_
                            refine J.op rfl rfl rfl (V.mv rfl rfl) ?_
                            refine J.opOff rfl rfl rfl rfl rfl rfl ?_
                            refine J.opOff rfl rfl rfl rfl rfl rfl ?_
                            refine J.opOff rfl rfl rfl rfl rfl rfl ?_
                            refine J.opOff rfl rfl rfl rfl rfl rfl ?_
                            refine J.opOffU rfl rfl rfl rfl rfl ?_
                            refine J.opOffU rfl rfl rfl rfl rfl ?_
                            refine J.opOff rfl rfl rfl rfl rfl rfl ?_
                            refine J.opOff rfl rfl rfl rfl rfl rfl ?_
                            refine J.opOffU rfl rfl rfl rfl rfl ?_
                            refine J.opOffU rfl rfl rfl rfl rfl ?_
                            refine J.opOffU rfl rfl rfl rfl rfl ?_
                            refine J.opOffU rfl rfl rfl rfl rfl ?_
                            refine J.opOffU rfl rfl rfl rfl rfl ?_
                            refine J.opOffU rfl rfl rfl rfl rfl ?_
                            refine J.opOffU rfl rfl rfl rfl rfl ?_
                            refine J.opOffU rfl rfl rfl rfl rfl ?_
                            refine J.opOff rfl rfl rfl rfl rfl rfl ?_
                            refine J.op rfl rfl rfl (V.pkT rfl rfl rfl) ?_
                            refine J.nil ?_
                            obtain rfl := B.e h2
                            refine J.tN (J.to () trivial ?_)
                            exact J.keep _ rfl (J.pickE [0, 1] rfl rfl J.here)
                          · replace h2 := B.f hB76 h2
                            refine J.opOn rfl rfl rfl rfl rfl (V.mv rfl rfl) ?_
                            refine J.opOn rfl rfl rfl rfl rfl (V.mv rfl rfl) ?_
                            refine J.opOn rfl rfl rfl rfl rfl (V.ng rfl rfl) ?_
                            refine J.opOn rfl rfl rfl rfl rfl (V.mx rfl rfl rfl) ?_
                            refine J.opOn rfl rfl rfl rfl rfl (V.mv rfl rfl) ?_
                            refine J.opOn rfl rfl rfl rfl rfl (V.mv rfl rfl) ?_
                            refine J.opOn rfl rfl rfl rfl rfl (V.ng rfl rfl) ?_
                            refine J.opOn rfl rfl rfl rfl rfl (V.mx rfl rfl rfl) ?_
                            refine J.opOn rfl rfl rfl rfl rfl (V.cmp rfl rfl rfl rfl) ?_
                            refine J.opOn rfl rfl rfl rfl rfl (V.pkF rfl rfl rfl) ?_
                            refine J.opOn rfl rfl rfl rfl rfl (V.pkT rfl rfl rfl) ?_
                            refine J.op rfl rfl rfl (V.pkF rfl rfl rfl) ?_
                            refine J.op rfl rfl rfl (V.mv rfl rfl) ?_
                            refine J.split 196 rfl (fun hB77 => ?_) (fun hB77 => ?_)
                            · replace h2 := B.t hB77 h2
                              refine J.opOff rfl rfl rfl rfl rfl rfl ?_
                              refine J.opOff rfl rfl rfl rfl rfl rfl ?_
                              refine J.opOff rfl rfl rfl rfl rfl rfl ?_
                              refine J.opOff rfl rfl rfl rfl rfl rfl ?_
                              refine J.opOffU rfl rfl rfl rfl rfl ?_
                              refine J.opOffU rfl rfl rfl rfl rfl ?_
                              refine J.opOff rfl rfl rfl rfl rfl rfl ?_
                              refine J.opOff rfl rfl rfl rfl rfl rfl ?_
                              refine J.opOffU rfl rfl rfl rfl rfl ?_
                              refine J.opOffU rfl rfl rfl rfl rfl ?_
                              refine J.opOffU rfl rfl rfl rfl rfl ?_
                              refine J.opOffU rfl rfl rfl rfl rfl ?_
                              refine J.opOffU rfl rfl rfl rfl rfl ?_
                              refine J.opOffU rfl rfl rfl rfl rfl ?_
                              refine J.opOffU rfl rfl rfl rfl rfl ?_
                              refine J.opOffU rfl rfl rfl rfl rfl ?_
                              refine J.opOff rfl rfl rfl rfl rfl rfl ?_
                              refine J.op rfl rfl rfl (V.pkT rfl rfl rfl) ?_
                              refine J.nil ?_
                              obtain rfl := B.e h2
                              refine J.tN (J.to () trivial ?_)
                              exact J.keep _ rfl (J.pickE [0, 1] rfl rfl J.here)
                            · replace h2 := B.f hB77 h2
                              refine J.opOn rfl rfl rfl rfl rfl (V.mv rfl rfl) ?_
                              refine J.opOn rfl rfl rfl rfl rfl (V.mv rfl rfl) ?_
                              refine J.opOn rfl rfl rfl rfl rfl (V.cmp rfl rfl rfl rfl) ?_
                              refine J.opOn rfl rfl rfl rfl rfl (V.mv rfl rfl) ?_
                              refine J.split 200 rfl (fun hB78 => ?_) (fun hB78 => ?_)
                              · replace h2 := B.t hB78 h2
                                refine J.opOn rfl rfl rfl rfl rfl (V.mv rfl rfl) ?_
                                refine J.opOn rfl rfl rfl rfl rfl (V.cmp rfl rfl rfl rfl) ?_
                                refine J.opOn rfl rfl rfl rfl rfl (V.pkT rfl rfl rfl) ?_
                                refine J.opOn rfl rfl rfl rfl rfl (V.mv rfl rfl) ?_
                                refine J.split 204 rfl (fun hB79 => ?_) (fun hB79 => ?_)
                                · replace h2 := B.t hB79 h2
                                  refine J.opOn rfl rfl rfl rfl rfl (V.mv rfl rfl) ?_
                                  refine J.opOn rfl rfl rfl rfl rfl (V.mv rfl rfl) ?_
                                  refine J.opOn rfl rfl rfl rfl rfl (V.cmp rfl rfl rfl rfl) ?_
                                  refine J.opOn rfl rfl rfl rfl rfl (V.mv rfl rfl) ?_
                                  refine J.split 208 rfl (fun hB80 => ?_) (fun hB80 => ?_)
                                  · replace h2 := B.t hB80 h2
                                    refine J.opOff rfl rfl rfl rfl rfl rfl ?_
                                    refine J.opOff rfl rfl rfl rfl rfl rfl ?_
                                    refine J.opOff rfl rfl rfl rfl rfl rfl ?_
                                    refine J.opOn rfl rfl rfl rfl rfl (V.pkT rfl rfl rfl) ?_
                                    refine J.opOn rfl rfl rfl rfl rfl (V.pkT rfl rfl rfl) ?_
                                    refine J.op rfl rfl rfl (V.pkF rfl rfl rfl) ?_
                                    refine J.nil ?_
                                    obtain rfl := B.e h2
                                    refine J.tN (J.to () trivial ?_)
                                    exact J.keep _ rfl (J.pickE [0, 1] rfl rfl J.here)
                                  · replace h2 := B.f hB80 h2
                                    refine J.opOn rfl rfl rfl rfl rfl (V.mv rfl rfl) ?_
                                    refine J.opOn rfl rfl rfl rfl rfl (V.mv rfl rfl) ?_
                                    refine J.opOn rfl rfl rfl rfl rfl (V.cmp rfl rfl rfl rfl) ?_
                                    refine J.opOn rfl rfl rfl rfl rfl (V.pkF rfl rfl rfl) ?_
                                    refine J.opOn rfl rfl rfl rfl rfl (V.pkT rfl rfl rfl) ?_
                                    refine J.op rfl rfl rfl (V.pkF rfl rfl rfl) ?_
                                    refine J.nil ?_
                                    obtain rfl := B.e h2
                                    refine J.tN (J.to () trivial ?_)
                                    exact J.keep _ rfl (J.pickE [0, 1] rfl rfl J.here)
                                · replace h2 := B.f hB79 h2
                                  refine J.opOff rfl rfl rfl rfl rfl rfl ?_
                                  refine J.opOff rfl rfl rfl rfl rfl rfl ?_
                                  refine J.opOff rfl rfl rfl rfl rfl rfl ?_
                                  refine J.opOff rfl rfl rfl rfl rfl rfl ?_
                                  refine J.opOffU rfl rfl rfl rfl rfl ?_
                                  refine J.opOffU rfl rfl rfl rfl rfl ?_
                                  refine J.opOffU rfl rfl rfl rfl rfl ?_
                                  refine J.opOff rfl rfl rfl rfl rfl rfl ?_
                                  refine J.opOn rfl rfl rfl rfl rfl (V.pkF rfl rfl rfl) ?_
                                  refine J.op rfl rfl rfl (V.pkF rfl rfl rfl) ?_
                                  refine J.nil ?_
                                  obtain rfl := B.e h2
                                  refine J.tN (J.to () trivial ?_)
                                  exact J.keep _ rfl (J.pickE [0, 1] rfl rfl J.here)
                              · replace h2 := B.f hB78 h2
                                refine J.opOff rfl rfl rfl rfl rfl rfl ?_
                                refine J.opOff rfl rfl rfl rfl rfl rfl ?_
                                refine J.opOn rfl rfl rfl rfl rfl (V.pkF rfl rfl rfl) ?_
                                refine J.opOn rfl rfl rfl rfl rfl (V.mv rfl rfl) ?_
                                refine J.opOff rfl rfl rfl rfl rfl rfl ?_
                                refine J.opOff rfl rfl rfl rfl rfl rfl ?_
                                refine J.opOff rfl rfl rfl rfl rfl rfl ?_
                                refine J.opOff rfl rfl rfl rfl rfl rfl ?_
                                refine J.opOffU rfl rfl rfl rfl rfl ?_
                                refine J.opOffU rfl rfl rfl rfl rfl ?_
                                refine J.opOffU rfl rfl rfl rfl rfl ?_
                                refine J.opOff rfl rfl rfl rfl rfl rfl ?_
                                refine J.opOn rfl rfl rfl rfl rfl (V.pkF rfl rfl rfl) ?_
                                refine J.op rfl rfl rfl (V.pkF rfl rfl rfl) ?_
                                refine J.nil ?_
                                obtain rfl := B.e h2
                                refine J.tN (J.to () trivial ?_)
                                exact J.keep _ rfl (J.pickE [0, 1] rfl rfl J.here)
                        · replace h2 := B.f hB75 h2
                          refine J.opOff rfl rfl rfl rfl rfl rfl ?_
                          refine J.opOff rfl rfl rfl rfl rfl rfl ?_
                          refine J.opOff rfl rfl rfl rfl rfl rfl ?_
                          refine J.opOffU rfl rfl rfl rfl rfl ?_
                          refine J.opOffU rfl rfl rfl rfl rfl ?_
                          refine J.opOffU rfl rfl rfl rfl rfl ?_
                          refine J.opOffU rfl rfl rfl rfl rfl ?_
                          refine J.opOffU rfl rfl rfl rfl rfl ?_
                          refine J.opOffU rfl rfl rfl rfl rfl ?_
                          refine J.opOffU rfl rfl rfl rfl rfl ?_
                          refine J.opOffU rfl rfl rfl rfl rfl ?_
                          refine J.opOffU rfl rfl rfl rfl rfl ?_
                          refine J.opOff rfl rfl rfl rfl rfl rfl ?_
                          refine J.opOn rfl rfl rfl rfl rfl (V.pkF rfl rfl rfl) ?_
                          refine J.op rfl rfl rfl (V.pkF rfl rfl rfl) ?_
                          refine J.op rfl rfl rfl (V.mv rfl rfl) ?_
                          refine J.opOn rfl rfl rfl rfl rfl (V.mv rfl rfl) ?_
                          refine J.opOn rfl rfl rfl rfl rfl (V.mv rfl rfl) ?_
                          refine J.opOn rfl rfl rfl rfl rfl (V.cmp rfl rfl rfl rfl) ?_
                          refine J.opOn rfl rfl rfl rfl rfl (V.mv rfl rfl) ?_
                          refine J.split 200 rfl (fun hB81 => ?_) (fun hB81 => ?_)
                          · replace h2 := B.t hB81 h2
                            refine J.opOn rfl rfl rfl rfl rfl (V.mv rfl rfl) ?_
                            refine J.opOn rfl rfl rfl rfl rfl (V.cmp rfl rfl rfl rfl) ?_
                            refine J.opOn rfl rfl rfl rfl rfl (V.pkT rfl rfl rfl) ?_
                            refine J.opOn rfl rfl rfl rfl rfl (V.mv rfl rfl) ?_
                            refine J.split 204 rfl (fun hB82 => ?_) (fun hB82 => ?_)
                            · replace h2 := B.t hB82 h2
                              refine J.opOn rfl rfl rfl rfl rfl (V.mv rfl rfl) ?_
                              refine J.opOn rfl rfl rfl rfl rfl (V.mv rfl rfl) ?_
                              refine J.opOn rfl rfl rfl rfl rfl (V.cmp rfl rfl rfl rfl) ?_
                              refine J.opOn rfl rfl rfl rfl rfl (V.mv rfl rfl) ?_
                              refine J.split 208 rfl (fun hB83 => ?_) (fun hB83 => ?_)
                              · replace h2 := B.t hB83 h2
                                refine J.opOff rfl rfl rfl rfl rfl rfl ?_
                                refine J.opOff rfl rfl rfl rfl rfl rfl ?_
                                refine J.opOff rfl rfl rfl rfl rfl rfl ?_
                                refine J.opOn rfl rfl rfl rfl rfl (V.pkT rfl rfl rfl) ?_
                                refine J.opOn rfl rfl rfl rfl rfl (V.pkT rfl rfl rfl) ?_
                                refine J.op rfl rfl rfl (V.pkF rfl rfl rfl) ?_
                                refine J.nil ?_
                                obtain rfl := B.e h2
                                refine J.tN (J.to () trivial ?_)
                                exact J.keep _ rfl (J.pickE [0, 1] rfl rfl J.here)
                              · replace h2 := B.f hB83 h2
                                refine J.opOn rfl rfl rfl rfl rfl (V.mv rfl rfl) ?_
                                refine J.opOn rfl rfl rfl rfl rfl (V.mv rfl rfl) ?_
                                refine J.opOn rfl rfl rfl rfl rfl (V.cmp rfl rfl rfl rfl) ?_
                                refine J.opOn rfl rfl rfl rfl rfl (V.pkF rfl rfl rfl) ?_
                                refine J.opOn rfl rfl rfl rfl rfl (V.pkT rfl rfl rfl) ?_
                                refine J.op rfl rfl rfl (V.pkF rfl rfl rfl) ?_
                                refine J.nil ?_
                                obtain rfl := B.e h2
                                refine J.tN (J.to () trivial ?_)
                                exact J.keep _ rfl (J.pickE [0, 1] rfl rfl J.here)
                            · replace h2 := B.f hB82 h2
                              refine J.opOff rfl rfl rfl rfl rfl rfl ?_
                              refine J.opOff rfl rfl rfl rfl rfl rfl ?_
                              refine J.opOff rfl rfl rfl rfl rfl rfl ?_
                              refine J.opOff rfl rfl rfl rfl rfl rfl ?_
                              refine J.opOffU rfl rfl rfl rfl rfl ?_
                              refine J.opOffU rfl rfl rfl rfl rfl ?_
                              refine J.opOffU rfl rfl rfl rfl rfl ?_
                              refine J.opOff rfl rfl rfl rfl rfl rfl ?_
                              refine J.opOn rfl rfl rfl rfl rfl (V.pkF rfl rfl rfl) ?_
                              refine J.op rfl rfl rfl (V.pkF rfl rfl rfl) ?_
                              refine J.nil ?_
                              obtain rfl := B.e h2
                              refine J.tN (J.to () trivial ?_)
                              exact J.keep _ rfl (J.pickE [0, 1] rfl rfl J.here)
                          · replace h2 := B.f hB81 h2
                            refine J.opOff rfl rfl rfl rfl rfl rfl ?_
                            refine J.opOff rfl rfl rfl rfl rfl rfl ?_
                            refine J.opOn rfl rfl rfl rfl rfl (V.pkF rfl rfl rfl) ?_
                            refine J.opOn rfl rfl rfl rfl rfl (V.mv rfl rfl) ?_
                            refine J.opOff rfl rfl rfl rfl rfl rfl ?_
                            refine J.opOff rfl rfl rfl rfl rfl rfl ?_
                            refine J.opOff rfl rfl rfl rfl rfl rfl ?_
                            refine J.opOff rfl rfl rfl rfl rfl rfl ?_
                            refine J.opOffU rfl rfl rfl rfl rfl ?_
                            refine J.opOffU rfl rfl rfl rfl rfl ?_
                            refine J.opOffU rfl rfl rfl rfl rfl ?_
                            refine J.opOff rfl rfl rfl rfl rfl rfl ?_
                            refine J.opOn rfl rfl rfl rfl rfl (V.pkF rfl rfl rfl) ?_
                            refine J.op rfl rfl rfl (V.pkF rfl rfl rfl) ?_
                            refine J.nil ?_
                            obtain rfl := B.e h2
                            refine J.tN (J.to () trivial ?_)
                            exact J.keep _ rfl (J.pickE [0, 1] rfl rfl J.here)
                · intro gy71 _
                  refine J.cond rfl (fun hB85 => ?_) (fun hB85 => ?_)
                  · replace h1 := B.t hB85 h1
                    refine J.seq ?_
                    refine J.region ?_
                    refine J.op rfl rfl rfl (V.as rfl rfl) ?_
                    refine J.nil ?_
                    refine J.tN ?_
                    refine J.ret ?_
                    refine J.bR ?_
                    refine J.tR ?_
                    refine J.tR ?_
                    refine J.bR ?_
                    refine J.tR ?_
                    refine J.tR ?_
                    obtain rfl := B.d h1
                    replace h0 := B.inr h0
                    obtain rfl := B.e h0
                    exact J.ret1 rfl rfl fun w H => ⟨(), rfl, H.pick [] (by decide)⟩
                  · replace h1 := B.f hB85 h1
                    refine J.skip ?_
                    refine J.bN ?_
                    refine J.tN ?_
                    refine J.region ?_
                    refine J.op rfl rfl rfl (V.mv rfl rfl) ?_
                    refine J.op rfl rfl rfl (V.ar rfl rfl rfl rfl) ?_
                    refine J.op rfl rfl rfl (V.as rfl rfl) ?_
                    obtain ⟨i_86, ei_86, h1⟩ := B.lt h1
                    refine J.val (congrArg (Value.int .i64) ei_86) ?_
                    refine J.nil ?_
                    refine J.tN (J.next i_86 () (B.n h1) ?_)
                    exact J.keep _ rfl (J.pickE [0, 1] rfl rfl J.here)
              · replace h1 := B.f hB61 h1
                refine J.exit ?_
                refine J.tE ?_
                refine J.tE ?_
                refine J.bE ?_
                obtain rfl := B.d h1
                refine J.tN (J.to ((), ()) rfl ?_)
                exact J.keep _ rfl (J.pickE [0, 1] rfl rfl J.here)
          · intro gy88 hG
            replace h0 := B.inl hG h0
            refine J.tN ?_
            refine J.seq ?_
            refine J.region ?_
            refine J.op rfl rfl rfl (V.mv rfl rfl) ?_
            refine J.op rfl rfl rfl (V.mv rfl rfl) ?_
            refine J.op rfl rfl rfl (V.mv rfl rfl) ?_
            refine J.op rfl rfl rfl (V.ar rfl rfl rfl rfl) ?_
            obtain ⟨r91, hr92, h0⟩ := B.bind h0
            refine J.clA (l := [.tmp 216, .tmp 217, .tmp 219]) [] [.nestE (.slice (some ⟨b28, 0, none⟩) 3 3) 40 78 enc_impl_Point [g14, g18, g26] [r12, r16, r24], .rowE v22 5 (eI .u8) ([5] ++ p0_code)] cf12 (wN rfl) rfl rfl rfl rfl rfl rfl (fun w H => impl_OrderGrades.calls (.slice (some ⟨b28, 0, none⟩) 3 3) [r12, r16, r24] r40 (IntKind.wrap .i64 (r40 + 20)) r91 w (Own.refl w) (Own.nA 0 H rfl) hr92) fun g93 => ?_
            refine J.op rfl rfl rfl (V.mv rfl rfl) ?_
            refine J.op rfl rfl rfl (V.ex rfl rfl rfl) ?_
            refine J.op rfl rfl rfl (V.ex rfl rfl rfl) ?_
            refine J.op rfl rfl rfl (V.as rfl rfl) ?_
            refine J.op rfl rfl rfl (V.as rfl rfl) ?_
            refine J.nil ?_
            refine J.tN ?_
            refine J.seq ?_
            refine J.region ?_
            refine J.op rfl rfl rfl (V.mv rfl rfl) ?_
            refine J.op rfl rfl rfl (V.mv rfl rfl) ?_
            refine J.op rfl rfl rfl (V.mv rfl rfl) ?_
            refine J.op rfl rfl rfl (V.ar rfl rfl rfl rfl) ?_
            obtain ⟨r95, hr96, h0⟩ := B.bind h0
            refine J.clA (l := [.tmp 224, .tmp 225, .tmp 227]) [] [.rowE g93 2 (eI .i64) r91.1, .nestE (.slice (some ⟨b28, 0, none⟩) 3 3) 40 78 enc_impl_Point [g14, g18, g26] [r12, r16, r24], .rowE v22 5 (eI .u8) ([5] ++ p0_code)] cf11 (wN rfl) rfl rfl rfl rfl rfl rfl (fun w H => spec_OrderGrades.calls (.slice (some ⟨b28, 0, none⟩) 3 3) [r12, r16, r24] r40 (IntKind.wrap .i64 (r40 + 20)) r95 w (Own.refl w) (Own.nA 1 H rfl) hr96) fun g97 => ?_
            refine J.op rfl rfl rfl (V.mv rfl rfl) ?_
            refine J.op rfl rfl rfl (V.ex rfl rfl rfl) ?_
            refine J.op rfl rfl rfl (V.ex rfl rfl rfl) ?_
            refine J.op rfl rfl rfl (V.as rfl rfl) ?_
            refine J.op rfl rfl rfl (V.as rfl rfl) ?_
            refine J.nil ?_
            refine J.tN ?_
            refine J.seq ?_
            refine J.region ?_
            refine J.op rfl rfl rfl (V.as rfl rfl) ?_
            refine J.nil ?_
            refine J.tN ?_
            refine J.seq ?_
            refine J.seq ?_
            refine J.region ?_
            refine J.op rfl rfl rfl (V.as rfl rfl) ?_
            refine J.nil ?_
            refine J.tN ?_
            obtain ⟨y111, hy113, h0⟩ := B.bind h0
            refine J.cutQ (γ := Unit) (fun _ => True) (fun gy112 => [(1, v1), (5, (.slice (some ⟨b28, 0, none⟩) 3 3)), (6, .int .i64 r30), (9, .int .i64 r40), (25, g93), (26, .int .i64 r91.2), (27, g97), (28, .int .i64 r95.2), (29, .bool y111)]) (fun gy112 => [.rowE g97 2 (eI .i64) r95.1, .rowE g93 2 (eI .i64) r91.1, .nestE (.slice (some ⟨b28, 0, none⟩) 3 3) 40 78 enc_impl_Point [g14, g18, g26] [r12, r16, r24], .rowE v22 5 (eI .u8) ([5] ++ p0_code)]) ?_ ?_
            · refine J.block ?_
              refine J.loop (γ := Unit) hy113 (fun s99 g100 => [(1, v1), (5, (.slice (some ⟨b28, 0, none⟩) 3 3)), (6, .int .i64 r30), (9, .int .i64 r40), (25, g93), (26, .int .i64 r91.2), (27, g97), (28, .int .i64 r95.2), (29, .bool s99.1), (30, .int .i64 s99.2)]) (fun s99 g100 => [.rowE g97 2 (eI .i64) r95.1, .rowE g93 2 (eI .i64) r91.1, .nestE (.slice (some ⟨b28, 0, none⟩) 3 3) 40 78 enc_impl_Point [g14, g18, g26] [r12, r16, r24], .rowE v22 5 (eI .u8) ([5] ++ p0_code)]) () ?_ ?_
              · exact J.keep _ rfl (J.pickE [0, 1, 2, 3] rfl rfl J.here)
              · intro rec101 s99 g100 h1
                unfold laws_FnGrades.b2 at h1
                refine J.seq ?_
                refine J.seq ?_
                refine J.region ?_
                refine J.op rfl rfl rfl (V.mv rfl rfl) ?_
                refine J.op rfl rfl rfl (V.mv rfl rfl) ?_
                refine J.op rfl rfl rfl (V.lenN 2 rfl rfl rfl tl26) ?_
                refine J.op rfl rfl rfl (V.cmp rfl rfl rfl rfl) ?_
                refine J.nil ?_
                refine J.tN ?_
                refine J.cond rfl (fun hB102 => ?_) (fun hB102 => ?_)
                · replace h1 := B.t hB102 h1
                  refine J.skip ?_
                  refine J.tN ?_
                  refine J.seq ?_
                  refine J.block ?_
                  refine J.seq ?_
                  refine J.region ?_
                  refine J.op rfl rfl rfl (V.mv rfl rfl) ?_
                  refine J.op rfl rfl rfl (V.mv rfl rfl) ?_
                  obtain ⟨hC103, h1⟩ := B.chk h1
                  refine J.op rfl rfl rfl (V.ixNst 2 rfl rfl rfl rfl tl26 ts40 hC103) ?_
                  refine J.op rfl rfl rfl (V.ldN 2 rfl hC103 rfl rfl Try.underlying40 ta40) ?_
                  refine J.op rfl rfl rfl (V.mv rfl rfl) ?_
                  refine J.op rfl rfl rfl (V.mv rfl rfl) ?_
                  refine J.op rfl rfl rfl (V.ar rfl rfl rfl rfl) ?_
                  obtain ⟨r104, hr105, h1⟩ := B.bind h1
                  refine J.clA (l := [.tmp 241, .tmp 242, .tmp 244]) [] [.rowE g97 2 (eI .i64) r95.1, .rowE g93 2 (eI .i64) r91.1, .nestE (.slice (some ⟨b28, 0, none⟩) 3 3) 40 78 enc_impl_Point [g14, g18, g26] [r12, r16, r24], .rowE v22 5 (eI .u8) ([5] ++ p0_code)] cf22 (wN rfl) rfl rfl rfl rfl rfl rfl (fun w H => impl_ScaleOf.calls (nth [g14, g18, g26] s99.2) (rdN [r12, r16, r24] s99.2) r40 (IntKind.wrap .i64 (r40 + 20)) r104 w (Own.refl w) (Own.nelA 2 H rfl hC103) hr105) fun g106 => ?_
                  refine J.op rfl rfl rfl (V.mv rfl rfl) ?_
                  refine J.op rfl rfl rfl (V.ex rfl rfl rfl) ?_
                  refine J.op rfl rfl rfl (V.ex rfl rfl rfl) ?_
                  refine J.op rfl rfl rfl (V.as rfl rfl) ?_
                  refine J.op rfl rfl rfl (V.as rfl rfl) ?_
                  refine J.nil ?_
                  refine J.tN ?_
                  refine J.region ?_
                  refine J.op rfl rfl rfl (V.mv rfl rfl) ?_
                  refine J.op rfl rfl rfl (V.mv rfl rfl) ?_
                  refine J.split 249 rfl (fun hB107 => ?_) (fun hB107 => ?_)
                  · replace h1 := B.t hB107 h1
                    refine J.opOn rfl rfl rfl rfl rfl (V.mv rfl rfl) ?_
                    refine J.opOn rfl rfl rfl rfl rfl (V.cmp rfl rfl rfl rfl) ?_
                    refine J.op rfl rfl rfl (V.pkT rfl rfl rfl) ?_
                    refine J.op rfl rfl rfl (V.as rfl rfl) ?_
                    obtain ⟨all_108, eall_108, h1⟩ := B.lt h1
                    refine J.val (congrArg (Value.bool) eall_108) ?_
                    refine J.nil ?_
                    refine J.bN ?_
                    refine J.tN ?_
                    refine J.region ?_
                    refine J.op rfl rfl rfl (V.mv rfl rfl) ?_
                    refine J.op rfl rfl rfl (V.ar rfl rfl rfl rfl) ?_
                    refine J.op rfl rfl rfl (V.as rfl rfl) ?_
                    obtain ⟨i_109, ei_109, h1⟩ := B.lt h1
                    refine J.val (congrArg (Value.int .i64) ei_109) ?_
                    refine J.nil ?_
                    refine J.tN (J.next (all_108, i_109) () (B.n h1) ?_)
                    exact J.keep _ rfl (J.pickE [0, 1, 2, 3] rfl rfl J.here)
                  · replace h1 := B.f hB107 h1
                    refine J.opOff rfl rfl rfl rfl rfl rfl ?_
                    refine J.opOff rfl rfl rfl rfl rfl rfl ?_
                    refine J.op rfl rfl rfl (V.pkF rfl rfl rfl) ?_
                    refine J.op rfl rfl rfl (V.as rfl rfl) ?_
                    refine J.nil ?_
                    refine J.bN ?_
                    refine J.tN ?_
                    refine J.region ?_
                    refine J.op rfl rfl rfl (V.mv rfl rfl) ?_
                    refine J.op rfl rfl rfl (V.ar rfl rfl rfl rfl) ?_
                    refine J.op rfl rfl rfl (V.as rfl rfl) ?_
                    obtain ⟨i_110, ei_110, h1⟩ := B.lt h1
                    refine J.val (congrArg (Value.int .i64) ei_110) ?_
                    refine J.nil ?_
                    refine J.tN (J.next (false, i_110) () (B.n h1) ?_)
                    exact J.keep _ rfl (J.pickE [0, 1, 2, 3] rfl rfl J.here)
                · replace h1 := B.f hB102 h1
                  refine J.exit ?_
                  refine J.tE ?_
                  refine J.tE ?_
                  refine J.bE ?_
                  obtain rfl := B.d h1
                  refine J.tN (J.to () trivial ?_)
                  exact J.keep _ rfl (J.pickE [0, 1, 2, 3] rfl rfl J.here)
            · intro gy112 _
              refine J.tN ?_
              refine J.seq ?_
              refine J.seq ?_
              obtain ⟨y114, hy121, h0⟩ := B.bind h0
              replace hy121 := B.top hy121
              refine J.cut (γ := Unit) (fun _ => True) (fun gy115 => [(1, v1), (5, (.slice (some ⟨b28, 0, none⟩) 3 3)), (6, .int .i64 r30), (9, .int .i64 r40), (27, g97), (267, .bool y114)]) (fun gy115 => [.rowE g97 2 (eI .i64) r95.1, .rowE g93 2 (eI .i64) r91.1, .nestE (.slice (some ⟨b28, 0, none⟩) 3 3) 40 78 enc_impl_Point [g14, g18, g26] [r12, r16, r24], .rowE v22 5 (eI .u8) ([5] ++ p0_code)]) ?_ ?_
              · have h1 := hy121
                refine J.region ?_
                refine J.op rfl rfl rfl (V.mv rfl rfl) ?_
                refine J.op rfl rfl rfl (V.mv rfl rfl) ?_
                refine J.op rfl rfl rfl (V.cmp rfl rfl rfl rfl) ?_
                refine J.op rfl rfl rfl (V.mv rfl rfl) ?_
                refine J.split 256 rfl (fun hB116 => ?_) (fun hB116 => ?_)
                · replace h1 := B.t hB116 h1
                  refine J.opOff rfl rfl rfl rfl rfl rfl ?_
                  refine J.opOff rfl rfl rfl rfl rfl rfl ?_
                  refine J.opOff rfl rfl rfl rfl rfl rfl ?_
                  refine J.opOff rfl rfl rfl rfl rfl rfl ?_
                  refine J.op rfl rfl rfl (V.pkT rfl rfl rfl) ?_
                  refine J.op rfl rfl rfl (V.mv rfl rfl) ?_
                  refine J.opOff rfl rfl rfl rfl rfl rfl ?_
                  refine J.opOff rfl rfl rfl rfl rfl rfl ?_
                  refine J.opOff rfl rfl rfl rfl rfl rfl ?_
                  refine J.opOff rfl rfl rfl rfl rfl rfl ?_
                  refine J.op rfl rfl rfl (V.pkT rfl rfl rfl) ?_
                  refine J.nil ?_
                  obtain rfl := B.e h1
                  refine J.tN (J.to () trivial ?_)
                  exact J.keep _ rfl (J.pickE [0, 1, 2, 3] rfl rfl J.here)
                · replace h1 := B.f hB116 h1
                  refine J.opOn rfl rfl rfl rfl rfl (V.mv rfl rfl) ?_
                  refine J.opOn rfl rfl rfl rfl rfl (V.mv rfl rfl) ?_
                  obtain ⟨r117, hr118, h1⟩ := B.bind h1
                  refine J.clA (l := [.tmp 257, .tmp 258]) [] [.rowE g97 2 (eI .i64) r95.1, .rowE g93 2 (eI .i64) r91.1, .nestE (.slice (some ⟨b28, 0, none⟩) 3 3) 40 78 enc_impl_Point [g14, g18, g26] [r12, r16, r24], .rowE v22 5 (eI .u8) ([5] ++ p0_code)] cf23 (wY rfl rfl rfl) rfl rfl rfl rfl rfl rfl (fun w H => spec_SameNumbers.calls g93 r91.1 g97 r95.1 r117 w (Own.refl w) (Own.slA 1 H rfl) (Own.slA 0 H rfl) hr118) fun g119 => ?_
                  refine J.opOn rfl rfl rfl rfl rfl (V.nt rfl rfl) ?_
                  refine J.op rfl rfl rfl (V.pkF rfl rfl rfl) ?_
                  refine J.op rfl rfl rfl (V.mv rfl rfl) ?_
                  refine J.split 262 rfl (fun hB120 => ?_) (fun hB120 => ?_)
                  · replace h1 := B.t hB120 h1
                    refine J.opOff rfl rfl rfl rfl rfl rfl ?_
                    refine J.opOff rfl rfl rfl rfl rfl rfl ?_
                    refine J.opOff rfl rfl rfl rfl rfl rfl ?_
                    refine J.opOff rfl rfl rfl rfl rfl rfl ?_
                    refine J.op rfl rfl rfl (V.pkT rfl rfl rfl) ?_
                    refine J.nil ?_
                    obtain rfl := B.e h1
                    refine J.tN (J.to () trivial ?_)
                    exact J.keep _ rfl (J.pickE [0, 1, 2, 3] rfl rfl J.here)
                  · replace h1 := B.f hB120 h1
                    refine J.opOn rfl rfl rfl rfl rfl (V.mv rfl rfl) ?_
                    refine J.opOn rfl rfl rfl rfl rfl (V.cmp rfl rfl rfl rfl) ?_
                    refine J.opOn rfl rfl rfl rfl rfl (V.mv rfl rfl) ?_
                    refine J.opOn rfl rfl rfl rfl rfl (V.neB rfl rfl rfl Try.underlying4) ?_
                    refine J.op rfl rfl rfl (V.pkF rfl rfl rfl) ?_
                    refine J.nil ?_
                    obtain rfl := B.e h1
                    refine J.tN (J.to () trivial ?_)
                    exact J.keep _ rfl (J.pickE [0, 1, 2, 3] rfl rfl J.here)
              · intro gy115 _
                refine J.cond rfl (fun hB122 => ?_) (fun hB122 => ?_)
                · replace h0 := B.t hB122 h0
                  refine J.seq ?_
                  refine J.region ?_
                  refine J.op rfl rfl rfl (V.as rfl rfl) ?_
                  refine J.nil ?_
                  refine J.tN ?_
                  refine J.ret ?_
                  refine J.tR ?_
                  obtain rfl := B.e h0
                  exact J.ret1 rfl rfl fun w H => ⟨(), rfl, H.pick [] (by decide)⟩
                · replace h0 := B.f hB122 h0
                  refine J.skip ?_
                  refine J.tN ?_
                  refine J.seq ?_
                  refine J.seq ?_
                  refine J.region ?_
                  refine J.op rfl rfl rfl (V.as rfl rfl) ?_
                  refine J.nil ?_
                  refine J.tN ?_
                  obtain ⟨o158, hy157, h0⟩ := B.bind h0
                  refine J.cutQ (γ := (Unit) × (Unit)) (fun gy156 => o158 = .inl gy156.1) (fun gy156 => [(1, v1), (5, (.slice (some ⟨b28, 0, none⟩) 3 3)), (6, .int .i64 r30)]) (fun gy156 => [.rowE g97 2 (eI .i64) r95.1, .rowE g93 2 (eI .i64) r91.1, .nestE (.slice (some ⟨b28, 0, none⟩) 3 3) 40 78 enc_impl_Point [g14, g18, g26] [r12, r16, r24], .rowE v22 5 (eI .u8) ([5] ++ p0_code)]) ?_ ?_
                  · refine J.block ?_
                    refine J.loop (γ := Unit) hy157 (fun s123 g124 => [(1, v1), (5, (.slice (some ⟨b28, 0, none⟩) 3 3)), (6, .int .i64 r30), (9, .int .i64 r40), (27, g97), (33, .int .i64 s123)]) (fun s123 g124 => [.rowE g97 2 (eI .i64) r95.1, .rowE g93 2 (eI .i64) r91.1, .nestE (.slice (some ⟨b28, 0, none⟩) 3 3) 40 78 enc_impl_Point [g14, g18, g26] [r12, r16, r24], .rowE v22 5 (eI .u8) ([5] ++ p0_code)]) () ?_ ?_
                    · exact J.keep _ rfl (J.pickE [0, 1, 2, 3] rfl rfl J.here)
                    · intro rec125 s123 g124 h1
                      unfold laws_FnGrades.b3 at h1
                      refine J.seq ?_
                      refine J.seq ?_
                      refine J.region ?_
                      refine J.op rfl rfl rfl (V.mv rfl rfl) ?_
                      refine J.op rfl rfl rfl (V.mv rfl rfl) ?_
                      refine J.op rfl rfl rfl (V.lenR 0 rfl rfl rfl tl30) ?_
                      refine J.op rfl rfl rfl (V.cmp rfl rfl rfl rfl) ?_
                      refine J.nil ?_
                      refine J.tN ?_
                      refine J.cond rfl (fun hB126 => ?_) (fun hB126 => ?_)
                      · replace h1 := B.t hB126 h1
                        refine J.skip ?_
                        refine J.tN ?_
                        refine J.seq ?_
                        refine J.block ?_
                        refine J.seq ?_
                        refine J.seq ?_
                        obtain ⟨y127, hy136, h1⟩ := B.bind h1
                        replace hy136 := B.top hy136
                        refine J.cut (γ := Unit) (fun _ => True) (fun gy128 => [(1, v1), (5, (.slice (some ⟨b28, 0, none⟩) 3 3)), (6, .int .i64 r30), (9, .int .i64 r40), (27, g97), (33, .int .i64 s123), (301, .bool y127)]) (fun gy128 => [.rowE g97 2 (eI .i64) r95.1, .rowE g93 2 (eI .i64) r91.1, .nestE (.slice (some ⟨b28, 0, none⟩) 3 3) 40 78 enc_impl_Point [g14, g18, g26] [r12, r16, r24], .rowE v22 5 (eI .u8) ([5] ++ p0_code)]) ?_ ?_
                        · have h2 := hy136
                          refine J.region ?_
                          refine J.op rfl rfl rfl (V.mv rfl rfl) ?_
                          refine J.op rfl rfl rfl (V.mv rfl rfl) ?_
                          obtain ⟨hC129, h2⟩ := B.chk h2
                          refine J.op rfl rfl rfl (V.ixR 0 rfl rfl rfl rfl tl30 ts2 hC129) ?_
                          refine J.op rfl rfl rfl (V.elR0 0 rfl hC129 rfl rfl Try.underlying2 ta2 rfl) ?_
                          refine J.op rfl rfl rfl (V.cmp rfl rfl rfl rfl) ?_
                          refine J.op rfl rfl rfl (V.mv rfl rfl) ?_
                          refine J.split 279 rfl (fun hB130 => ?_) (fun hB130 => ?_)
                          · replace h2 := B.t hB130 h2
                            refine J.opOff rfl rfl rfl rfl rfl rfl ?_
                            refine J.opOff rfl rfl rfl rfl rfl rfl ?_
                            refine J.opOff rfl rfl rfl rfl rfl rfl ?_
                            refine J.opOff rfl rfl rfl rfl rfl rfl ?_
                            refine J.opOff rfl rfl rfl rfl rfl rfl ?_
                            refine J.op rfl rfl rfl (V.pkT rfl rfl rfl) ?_
                            refine J.op rfl rfl rfl (V.mv rfl rfl) ?_
                            refine J.opOff rfl rfl rfl rfl rfl rfl ?_
                            refine J.opOff rfl rfl rfl rfl rfl rfl ?_
                            refine J.opOff rfl rfl rfl rfl rfl rfl ?_
                            refine J.opOff rfl rfl rfl rfl rfl rfl ?_
                            refine J.opOff rfl rfl rfl rfl rfl rfl ?_
                            refine J.opOff rfl rfl rfl rfl rfl rfl ?_
                            refine J.op rfl rfl rfl (V.pkT rfl rfl rfl) ?_
                            refine J.op rfl rfl rfl (V.mv rfl rfl) ?_
                            refine J.opOff rfl rfl rfl rfl rfl rfl ?_
                            refine J.opOff rfl rfl rfl rfl rfl rfl ?_
                            refine J.opOff rfl rfl rfl rfl rfl rfl ?_
                            refine J.opOff rfl rfl rfl rfl rfl rfl ?_
                            refine J.opOff rfl rfl rfl rfl rfl rfl ?_
                            refine J.opOff rfl rfl rfl rfl rfl rfl ?_
                            refine J.op rfl rfl rfl (V.pkT rfl rfl rfl) ?_
                            refine J.nil ?_
                            obtain rfl := B.e h2
                            refine J.tN (J.to () trivial ?_)
                            exact J.keep _ rfl (J.pickE [0, 1, 2, 3] rfl rfl J.here)
                          · replace h2 := B.f hB130 h2
                            refine J.opOn rfl rfl rfl rfl rfl (V.mv rfl rfl) ?_
                            refine J.opOn rfl rfl rfl rfl rfl (V.mv rfl rfl) ?_
                            obtain ⟨hC131, h2⟩ := B.chk h2
                            refine J.opOn rfl rfl rfl rfl rfl (V.ixR 0 rfl rfl rfl rfl tl30 ts2 hC131) ?_
                            refine J.opOn rfl rfl rfl rfl rfl (V.elR0 0 rfl hC131 rfl rfl Try.underlying2 ta2 rfl) ?_
                            refine J.opOn rfl rfl rfl rfl rfl (V.cmp rfl rfl rfl rfl) ?_
                            refine J.op rfl rfl rfl (V.pkF rfl rfl rfl) ?_
                            refine J.op rfl rfl rfl (V.mv rfl rfl) ?_
                            refine J.split 286 rfl (fun hB132 => ?_) (fun hB132 => ?_)
                            · replace h2 := B.t hB132 h2
                              refine J.opOff rfl rfl rfl rfl rfl rfl ?_
                              refine J.opOff rfl rfl rfl rfl rfl rfl ?_
                              refine J.opOff rfl rfl rfl rfl rfl rfl ?_
                              refine J.opOff rfl rfl rfl rfl rfl rfl ?_
                              refine J.opOff rfl rfl rfl rfl rfl rfl ?_
                              refine J.opOff rfl rfl rfl rfl rfl rfl ?_
                              refine J.op rfl rfl rfl (V.pkT rfl rfl rfl) ?_
                              refine J.op rfl rfl rfl (V.mv rfl rfl) ?_
                              refine J.opOff rfl rfl rfl rfl rfl rfl ?_
                              refine J.opOff rfl rfl rfl rfl rfl rfl ?_
                              refine J.opOff rfl rfl rfl rfl rfl rfl ?_
                              refine J.opOff rfl rfl rfl rfl rfl rfl ?_
                              refine J.opOff rfl rfl rfl rfl rfl rfl ?_
                              refine J.opOff rfl rfl rfl rfl rfl rfl ?_
                              refine J.op rfl rfl rfl (V.pkT rfl rfl rfl) ?_
                              refine J.nil ?_
                              obtain rfl := B.e h2
                              refine J.tN (J.to () trivial ?_)
                              exact J.keep _ rfl (J.pickE [0, 1, 2, 3] rfl rfl J.here)
                            · replace h2 := B.f hB132 h2
                              refine J.opOn rfl rfl rfl rfl rfl (V.mv rfl rfl) ?_
                              refine J.opOn rfl rfl rfl rfl rfl (V.mv rfl rfl) ?_
                              refine J.opOn rfl rfl rfl rfl rfl (V.ar rfl rfl rfl rfl) ?_
                              obtain ⟨hC133, h2⟩ := B.chk h2
                              refine J.opOn rfl rfl rfl rfl rfl (V.ixR 0 rfl rfl rfl rfl tl30 ts2 hC133) ?_
                              refine J.opOn rfl rfl rfl rfl rfl (V.elR0 0 rfl hC133 rfl rfl Try.underlying2 ta2 rfl) ?_
                              refine J.opOn rfl rfl rfl rfl rfl (V.cmp rfl rfl rfl rfl) ?_
                              refine J.op rfl rfl rfl (V.pkF rfl rfl rfl) ?_
                              refine J.op rfl rfl rfl (V.mv rfl rfl) ?_
                              refine J.split 294 rfl (fun hB134 => ?_) (fun hB134 => ?_)
                              · replace h2 := B.t hB134 h2
                                refine J.opOff rfl rfl rfl rfl rfl rfl ?_
                                refine J.opOff rfl rfl rfl rfl rfl rfl ?_
                                refine J.opOff rfl rfl rfl rfl rfl rfl ?_
                                refine J.opOff rfl rfl rfl rfl rfl rfl ?_
                                refine J.opOff rfl rfl rfl rfl rfl rfl ?_
                                refine J.opOff rfl rfl rfl rfl rfl rfl ?_
                                refine J.op rfl rfl rfl (V.pkT rfl rfl rfl) ?_
                                refine J.nil ?_
                                obtain rfl := B.e h2
                                refine J.tN (J.to () trivial ?_)
                                exact J.keep _ rfl (J.pickE [0, 1, 2, 3] rfl rfl J.here)
                              · replace h2 := B.f hB134 h2
                                refine J.opOn rfl rfl rfl rfl rfl (V.mv rfl rfl) ?_
                                refine J.opOn rfl rfl rfl rfl rfl (V.mv rfl rfl) ?_
                                refine J.opOn rfl rfl rfl rfl rfl (V.ar rfl rfl rfl rfl) ?_
                                obtain ⟨hC135, h2⟩ := B.chk h2
                                refine J.opOn rfl rfl rfl rfl rfl (V.ixR 0 rfl rfl rfl rfl tl30 ts2 hC135) ?_
                                refine J.opOn rfl rfl rfl rfl rfl (V.elR0 0 rfl hC135 rfl rfl Try.underlying2 ta2 rfl) ?_
                                refine J.opOn rfl rfl rfl rfl rfl (V.cmp rfl rfl rfl rfl) ?_
                                refine J.op rfl rfl rfl (V.pkF rfl rfl rfl) ?_
                                refine J.nil ?_
                                obtain rfl := B.e h2
                                refine J.tN (J.to () trivial ?_)
                                exact J.keep _ rfl (J.pickE [0, 1, 2, 3] rfl rfl J.here)
                        · intro gy128 _
                          refine J.cond rfl (fun hB137 => ?_) (fun hB137 => ?_)
                          · replace h1 := B.t hB137 h1
                            refine J.seq ?_
                            refine J.region ?_
                            refine J.op rfl rfl rfl (V.as rfl rfl) ?_
                            refine J.nil ?_
                            refine J.tN ?_
                            refine J.ret ?_
                            refine J.tR ?_
                            refine J.bR ?_
                            refine J.tR ?_
                            refine J.tR ?_
                            refine J.bR ?_
                            refine J.tR ?_
                            refine J.tR ?_
                            obtain rfl := B.d h1
                            replace h0 := B.inr h0
                            obtain rfl := B.e h0
                            exact J.ret1 rfl rfl fun w H => ⟨(), rfl, H.pick [] (by decide)⟩
                          · replace h1 := B.f hB137 h1
                            refine J.skip ?_
                            refine J.tN ?_
                            refine J.seq ?_
                            refine J.region ?_
                            refine J.op rfl rfl rfl (V.mv rfl rfl) ?_
                            refine J.op rfl rfl rfl (V.mv rfl rfl) ?_
                            refine J.op rfl rfl rfl (V.mv rfl rfl) ?_
                            refine J.op rfl rfl rfl (V.ar rfl rfl rfl rfl) ?_
                            obtain ⟨hC138, h1⟩ := B.chk h1
                            refine J.op rfl rfl rfl (V.ixR 0 rfl rfl rfl rfl tl30 ts2 hC138) ?_
                            refine J.op rfl rfl rfl (V.elR0 0 rfl hC138 rfl rfl Try.underlying2 ta2 rfl) ?_
                            obtain ⟨hC139, h1⟩ := B.chk h1
                            refine J.op rfl rfl rfl (V.ixNst 2 rfl rfl rfl rfl tl26 ts40 hC139) ?_
                            refine J.op rfl rfl rfl (V.ldN 2 rfl hC139 rfl rfl Try.underlying40 ta40) ?_
                            refine J.op rfl rfl rfl (V.mv rfl rfl) ?_
                            refine J.op rfl rfl rfl (V.mv rfl rfl) ?_
                            refine J.op rfl rfl rfl (V.ar rfl rfl rfl rfl) ?_
                            obtain ⟨r140, hr141, h1⟩ := B.bind h1
                            refine J.clA (l := [.tmp 310, .tmp 311, .tmp 313]) [] [.rowE g97 2 (eI .i64) r95.1, .rowE g93 2 (eI .i64) r91.1, .nestE (.slice (some ⟨b28, 0, none⟩) 3 3) 40 78 enc_impl_Point [g14, g18, g26] [r12, r16, r24], .rowE v22 5 (eI .u8) ([5] ++ p0_code)] cf24 (wN rfl) rfl rfl rfl rfl rfl rfl (fun w H => spec_ScaleOf.calls (nth [g14, g18, g26] (rd (eI .i64) r95.1 (IntKind.wrap .i64 (s123 - 1)))) (rdN [r12, r16, r24] (rd (eI .i64) r95.1 (IntKind.wrap .i64 (s123 - 1)))) r40 (IntKind.wrap .i64 (r40 + 20)) r140 w (Own.refl w) (Own.nelA 2 H rfl hC139) hr141) fun g142 => ?_
                            refine J.op rfl rfl rfl (V.mv rfl rfl) ?_
                            refine J.op rfl rfl rfl (V.ex rfl rfl rfl) ?_
                            refine J.op rfl rfl rfl (V.ex rfl rfl rfl) ?_
                            refine J.op rfl rfl rfl (V.as rfl rfl) ?_
                            refine J.op rfl rfl rfl (V.as rfl rfl) ?_
                            refine J.nil ?_
                            refine J.tN ?_
                            refine J.seq ?_
                            refine J.region ?_
                            refine J.op rfl rfl rfl (V.mv rfl rfl) ?_
                            refine J.op rfl rfl rfl (V.mv rfl rfl) ?_
                            refine J.op rfl rfl rfl (V.mv rfl rfl) ?_
                            obtain ⟨hC143, h1⟩ := B.chk h1
                            refine J.op rfl rfl rfl (V.ixR 0 rfl rfl rfl rfl tl30 ts2 hC143) ?_
                            refine J.op rfl rfl rfl (V.elR0 0 rfl hC143 rfl rfl Try.underlying2 ta2 rfl) ?_
                            obtain ⟨hC144, h1⟩ := B.chk h1
                            refine J.op rfl rfl rfl (V.ixNst 2 rfl rfl rfl rfl tl26 ts40 hC144) ?_
                            refine J.op rfl rfl rfl (V.ldN 2 rfl hC144 rfl rfl Try.underlying40 ta40) ?_
                            refine J.op rfl rfl rfl (V.mv rfl rfl) ?_
                            refine J.op rfl rfl rfl (V.mv rfl rfl) ?_
                            refine J.op rfl rfl rfl (V.ar rfl rfl rfl rfl) ?_
                            obtain ⟨r145, hr146, h1⟩ := B.bind h1
                            refine J.clA (l := [.tmp 324, .tmp 325, .tmp 327]) [] [.rowE g97 2 (eI .i64) r95.1, .rowE g93 2 (eI .i64) r91.1, .nestE (.slice (some ⟨b28, 0, none⟩) 3 3) 40 78 enc_impl_Point [g14, g18, g26] [r12, r16, r24], .rowE v22 5 (eI .u8) ([5] ++ p0_code)] cf24 (wN rfl) rfl rfl rfl rfl rfl rfl (fun w H => spec_ScaleOf.calls (nth [g14, g18, g26] (rd (eI .i64) r95.1 s123)) (rdN [r12, r16, r24] (rd (eI .i64) r95.1 s123)) r40 (IntKind.wrap .i64 (r40 + 20)) r145 w (Own.refl w) (Own.nelA 2 H rfl hC144) hr146) fun g147 => ?_
                            refine J.op rfl rfl rfl (V.mv rfl rfl) ?_
                            refine J.op rfl rfl rfl (V.ex rfl rfl rfl) ?_
                            refine J.op rfl rfl rfl (V.ex rfl rfl rfl) ?_
                            refine J.op rfl rfl rfl (V.as rfl rfl) ?_
                            refine J.op rfl rfl rfl (V.as rfl rfl) ?_
                            refine J.nil ?_
                            refine J.tN ?_
                            refine J.seq ?_
                            obtain ⟨y148, hy152, h1⟩ := B.bind h1
                            replace hy152 := B.top hy152
                            refine J.cut (γ := Unit) (fun _ => True) (fun gy149 => [(1, v1), (5, (.slice (some ⟨b28, 0, none⟩) 3 3)), (6, .int .i64 r30), (9, .int .i64 r40), (27, g97), (33, .int .i64 s123), (341, .bool y148)]) (fun gy149 => [.rowE g97 2 (eI .i64) r95.1, .rowE g93 2 (eI .i64) r91.1, .nestE (.slice (some ⟨b28, 0, none⟩) 3 3) 40 78 enc_impl_Point [g14, g18, g26] [r12, r16, r24], .rowE v22 5 (eI .u8) ([5] ++ p0_code)]) ?_ ?_
                            · have h2 := hy152
                              refine J.region ?_
                              refine J.op rfl rfl rfl (V.mv rfl rfl) ?_
                              refine J.op rfl rfl rfl (V.cmp rfl rfl rfl rfl) ?_
                              refine J.op rfl rfl rfl (V.mv rfl rfl) ?_
                              refine J.split 333 rfl (fun hB150 => ?_) (fun hB150 => ?_)
                              · replace h2 := B.t hB150 h2
                                refine J.opOff rfl rfl rfl rfl rfl rfl ?_
                                refine J.opOff rfl rfl rfl rfl rfl rfl ?_
                                refine J.op rfl rfl rfl (V.pkT rfl rfl rfl) ?_
                                refine J.op rfl rfl rfl (V.mv rfl rfl) ?_
                                refine J.opOff rfl rfl rfl rfl rfl rfl ?_
                                refine J.opOff rfl rfl rfl rfl rfl rfl ?_
                                refine J.opOff rfl rfl rfl rfl rfl rfl ?_
                                refine J.op rfl rfl rfl (V.pkT rfl rfl rfl) ?_
                                refine J.nil ?_
                                obtain rfl := B.e h2
                                refine J.tN (J.to () trivial ?_)
                                exact J.keep _ rfl (J.pickE [0, 1, 2, 3] rfl rfl J.here)
                              · replace h2 := B.f hB150 h2
                                refine J.opOn rfl rfl rfl rfl rfl (V.mv rfl rfl) ?_
                                refine J.opOn rfl rfl rfl rfl rfl (V.cmp rfl rfl rfl rfl) ?_
                                refine J.op rfl rfl rfl (V.pkF rfl rfl rfl) ?_
                                refine J.op rfl rfl rfl (V.mv rfl rfl) ?_
                                refine J.split 337 rfl (fun hB151 => ?_) (fun hB151 => ?_)
                                · replace h2 := B.t hB151 h2
                                  refine J.opOff rfl rfl rfl rfl rfl rfl ?_
                                  refine J.opOff rfl rfl rfl rfl rfl rfl ?_
                                  refine J.opOff rfl rfl rfl rfl rfl rfl ?_
                                  refine J.op rfl rfl rfl (V.pkT rfl rfl rfl) ?_
                                  refine J.nil ?_
                                  obtain rfl := B.e h2
                                  refine J.tN (J.to () trivial ?_)
                                  exact J.keep _ rfl (J.pickE [0, 1, 2, 3] rfl rfl J.here)
                                · replace h2 := B.f hB151 h2
                                  refine J.opOn rfl rfl rfl rfl rfl (V.mv rfl rfl) ?_
                                  refine J.opOn rfl rfl rfl rfl rfl (V.mv rfl rfl) ?_
                                  refine J.opOn rfl rfl rfl rfl rfl (V.cmp rfl rfl rfl rfl) ?_
                                  refine J.op rfl rfl rfl (V.pkF rfl rfl rfl) ?_
                                  refine J.nil ?_
                                  obtain rfl := B.e h2
                                  refine J.tN (J.to () trivial ?_)
                                  exact J.keep _ rfl (J.pickE [0, 1, 2, 3] rfl rfl J.here)
                            · intro gy149 _
                              refine J.cond rfl (fun hB153 => ?_) (fun hB153 => ?_)
                              · replace h1 := B.t hB153 h1
                                refine J.seq ?_
                                refine J.region ?_
                                refine J.op rfl rfl rfl (V.as rfl rfl) ?_
                                refine J.nil ?_
                                refine J.tN ?_
                                refine J.ret ?_
                                refine J.bR ?_
                                refine J.tR ?_
                                refine J.tR ?_
                                refine J.bR ?_
                                refine J.tR ?_
                                refine J.tR ?_
                                obtain rfl := B.d h1
                                replace h0 := B.inr h0
                                obtain rfl := B.e h0
                                exact J.ret1 rfl rfl fun w H => ⟨(), rfl, H.pick [] (by decide)⟩
                              · replace h1 := B.f hB153 h1
                                refine J.skip ?_
                                refine J.bN ?_
                                refine J.tN ?_
                                refine J.region ?_
                                refine J.op rfl rfl rfl (V.mv rfl rfl) ?_
                                refine J.op rfl rfl rfl (V.ar rfl rfl rfl rfl) ?_
                                refine J.op rfl rfl rfl (V.as rfl rfl) ?_
                                obtain ⟨i_154, ei_154, h1⟩ := B.lt h1
                                refine J.val (congrArg (Value.int .i64) ei_154) ?_
                                refine J.nil ?_
                                refine J.tN (J.next i_154 () (B.n h1) ?_)
                                exact J.keep _ rfl (J.pickE [0, 1, 2, 3] rfl rfl J.here)
                      · replace h1 := B.f hB126 h1
                        refine J.exit ?_
                        refine J.tE ?_
                        refine J.tE ?_
                        refine J.bE ?_
                        obtain rfl := B.d h1
                        refine J.tN (J.to ((), ()) rfl ?_)
                        exact J.keep _ rfl (J.pickE [0, 1, 2, 3] rfl rfl J.here)
                  · intro gy156 hG
                    replace h0 := B.inl hG h0
                    refine J.tN ?_
                    refine J.seq ?_
                    refine J.region ?_
                    refine J.op rfl rfl rfl (V.mv rfl rfl) ?_
                    obtain ⟨r159, hr160, h0⟩ := B.bind h0
                    refine J.clA (l := [.tmp 342, .const (.int .i64 37)]) [] [.rowE g97 2 (eI .i64) r95.1, .rowE g93 2 (eI .i64) r91.1, .nestE (.slice (some ⟨b28, 0, none⟩) 3 3) 40 78 enc_impl_Point [g14, g18, g26] [r12, r16, r24], .rowE v22 5 (eI .u8) ([5] ++ p0_code)] cf19 (wN rfl) rfl rfl rfl rfl rfl rfl (fun w H => spec_P6Pick.calls v1 p1_more 37 r159 w (Own.refl w) (Sl.laterA hS1 H) hr160) fun g161 => ?_
                    refine J.op rfl rfl rfl (V.as rfl rfl) ?_
                    refine J.nil ?_
                    refine J.tN ?_
                    refine J.seq ?_
                    refine J.quiet mixed (by kernel_rfl) ?_
                    refine JQ.op rfl rfl rfl (V.mv rfl rfl) ?_
                    obtain ⟨hC162, h0⟩ := B.chk h0
                    refine JQ.op rfl rfl rfl (V.ixNst 2 rfl rfl rfl rfl tl26 ts40 hC162) ?_
                    refine JQ.op rfl rfl rfl (V.ldN 2 rfl hC162 rfl rfl Try.underlying40 ta40) ?_
                    refine JQ.op rfl rfl rfl (V.mv rfl rfl) ?_
                    obtain ⟨hC163, h0⟩ := B.chk h0
                    refine JQ.op rfl rfl rfl (V.ixNst 2 rfl rfl rfl rfl tl26 ts40 hC163) ?_
                    refine JQ.op rfl rfl rfl (V.ldN 2 rfl hC163 rfl rfl Try.underlying40 ta40) ?_
                    refine JQ.op rfl rfl rfl (V.mv rfl rfl) ?_
                    obtain ⟨r164, hr165, h0⟩ := B.bind h0
                    refine JQ.clA (l := [.tmp 347, .tmp 350, .tmp 351]) cf25 (wN rfl) rfl rfl rfl rfl rfl (fun w H => impl_ConvertLight.calls (nth [g14, g18, g26] 0) (rdN [r12, r16, r24] 0) (nth [g14, g18, g26] 0) (rdN [r12, r16, r24] 0) r159 r164 w (Own.refl w) (Own.nelA 2 H rfl hC162) (Own.nelA 2 H rfl hC163) hr165) ?_
                    refine JQ.op rfl rfl rfl (V.mv rfl rfl) ?_
                    refine JQ.op rfl rfl rfl (V.ex rfl rfl rfl) ?_
                    refine JQ.op rfl rfl rfl (V.ex rfl rfl rfl) ?_
                    refine JQ.op rfl rfl rfl (V.as rfl rfl) ?_
                    refine JQ.op rfl rfl rfl (V.as rfl rfl) ?_
                    refine JQ.nil ?_
                    refine J.tN ?_
                    refine J.seq ?_
                    refine J.quiet mixed (by kernel_rfl) ?_
                    refine JQ.op rfl rfl rfl (V.mv rfl rfl) ?_
                    obtain ⟨hC167, h0⟩ := B.chk h0
                    refine JQ.op rfl rfl rfl (V.ixNst 2 rfl rfl rfl rfl tl26 ts40 hC167) ?_
                    refine JQ.op rfl rfl rfl (V.ldN 2 rfl hC167 rfl rfl Try.underlying40 ta40) ?_
                    refine JQ.op rfl rfl rfl (V.mv rfl rfl) ?_
                    obtain ⟨hC168, h0⟩ := B.chk h0
                    refine JQ.op rfl rfl rfl (V.ixNst 2 rfl rfl rfl rfl tl26 ts40 hC168) ?_
                    refine JQ.op rfl rfl rfl (V.ldN 2 rfl hC168 rfl rfl Try.underlying40 ta40) ?_
                    refine JQ.op rfl rfl rfl (V.mv rfl rfl) ?_
                    obtain ⟨r169, hr170, h0⟩ := B.bind h0
                    refine JQ.clA (l := [.tmp 358, .tmp 361, .tmp 362]) cf25 (wN rfl) rfl rfl rfl rfl rfl (fun w H => impl_ConvertLight.calls (nth [g14, g18, g26] 0) (rdN [r12, r16, r24] 0) (nth [g14, g18, g26] 1) (rdN [r12, r16, r24] 1) r159 r169 w (Own.refl w) (Own.nelA 2 H rfl hC167) (Own.nelA 2 H rfl hC168) hr170) ?_
                    refine JQ.op rfl rfl rfl (V.mv rfl rfl) ?_
                    refine JQ.op rfl rfl rfl (V.ex rfl rfl rfl) ?_
                    refine JQ.op rfl rfl rfl (V.ex rfl rfl rfl) ?_
                    refine JQ.op rfl rfl rfl (V.as rfl rfl) ?_
                    refine JQ.op rfl rfl rfl (V.as rfl rfl) ?_
                    refine JQ.nil ?_
                    refine J.tN ?_
                    refine J.seq ?_
                    refine J.quiet mixed (by kernel_rfl) ?_
                    refine JQ.op rfl rfl rfl (V.mv rfl rfl) ?_
                    obtain ⟨hC172, h0⟩ := B.chk h0
                    refine JQ.op rfl rfl rfl (V.ixNst 2 rfl rfl rfl rfl tl26 ts40 hC172) ?_
                    refine JQ.op rfl rfl rfl (V.ldN 2 rfl hC172 rfl rfl Try.underlying40 ta40) ?_
                    refine JQ.op rfl rfl rfl (V.mv rfl rfl) ?_
                    obtain ⟨hC173, h0⟩ := B.chk h0
                    refine JQ.op rfl rfl rfl (V.ixNst 2 rfl rfl rfl rfl tl26 ts40 hC173) ?_
                    refine JQ.op rfl rfl rfl (V.ldN 2 rfl hC173 rfl rfl Try.underlying40 ta40) ?_
                    refine JQ.op rfl rfl rfl (V.mv rfl rfl) ?_
                    obtain ⟨r174, hr175, h0⟩ := B.bind h0
                    refine JQ.clA (l := [.tmp 369, .tmp 372, .tmp 373]) cf26 (wN rfl) rfl rfl rfl rfl rfl (fun w H => spec_ConvertLight.calls (nth [g14, g18, g26] 0) (rdN [r12, r16, r24] 0) (nth [g14, g18, g26] 1) (rdN [r12, r16, r24] 1) r159 r174 w (Own.refl w) (Own.nelA 2 H rfl hC172) (Own.nelA 2 H rfl hC173) hr175) ?_
                    refine JQ.op rfl rfl rfl (V.mv rfl rfl) ?_
                    refine JQ.op rfl rfl rfl (V.ex rfl rfl rfl) ?_
                    refine JQ.op rfl rfl rfl (V.ex rfl rfl rfl) ?_
                    refine JQ.op rfl rfl rfl (V.as rfl rfl) ?_
                    refine JQ.op rfl rfl rfl (V.as rfl rfl) ?_
                    refine JQ.nil ?_
                    refine J.tN ?_
                    refine J.seq ?_
                    obtain ⟨hC177, h0⟩ := B.chk h0
                    obtain ⟨hC178, h0⟩ := B.chk h0
                    obtain ⟨r179, hr180, h0⟩ := B.bind h0
                    refine J.any 12 rfl [.rowE g97 2 (eI .i64) r95.1, .rowE g93 2 (eI .i64) r91.1, .nestE (.slice (some ⟨b28, 0, none⟩) 3 3) 40 78 enc_impl_Point [g14, g18, g26] [r12, r16, r24], .rowE v22 5 (eI .u8) ([5] ++ p0_code)] mixed ?_
                    refine JH.take (i := 0) [0, 1, 2, 3] rfl (by kernel_rfl) rfl rfl rfl rfl rfl (V.mv rfl rfl) ?_
                    refine JH.take (i := 1) [0, 1, 2, 3] rfl (by kernel_rfl) rfl rfl rfl rfl rfl (V.ixNst 2 rfl rfl rfl rfl tl26 ts40 hC177) ?_
                    refine JH.take (i := 2) [0, 1, 2, 3] rfl (by kernel_rfl) rfl rfl rfl rfl rfl (V.ldN 2 rfl hC177 rfl rfl Try.underlying40 ta40) ?_
                    refine JH.take (i := 3) [0, 1, 2, 3] rfl (by kernel_rfl) rfl rfl rfl rfl rfl (V.mv rfl rfl) ?_
                    refine JH.take (i := 4) [0, 1, 2, 3] rfl (by kernel_rfl) rfl rfl rfl rfl rfl (V.ixNst 2 rfl rfl rfl rfl tl26 ts40 hC178) ?_
                    refine JH.take (i := 5) [0, 1, 2, 3] rfl (by kernel_rfl) rfl rfl rfl rfl rfl (V.ldN 2 rfl hC178 rfl rfl Try.underlying40 ta40) ?_
                    refine JH.all [6] (by kernel_rfl) rfl (JHall.cons (JH.op rfl ?_) (JHall.nil))
                    refine J.clA (l := [.tmp 380, .tmp 383]) [] [.rowE g97 2 (eI .i64) r95.1, .rowE g93 2 (eI .i64) r91.1, .nestE (.slice (some ⟨b28, 0, none⟩) 3 3) 40 78 enc_impl_Point [g14, g18, g26] [r12, r16, r24], .rowE v22 5 (eI .u8) ([5] ++ p0_code)] cf27 (wN rfl) rfl rfl rfl rfl rfl rfl (fun w H => impl_ConvertTable.calls (nth [g14, g18, g26] 0) (rdN [r12, r16, r24] 0) (nth [g14, g18, g26] 1) (rdN [r12, r16, r24] 1) r179 w (Own.refl w) (Own.nelA 2 H rfl hC177) (Own.nelA 2 H rfl hC178) hr180) fun g181 => ?_
                    refine J.nil ?_
                    refine JH.back [1, 2, 3, 4] rfl rfl ?_
                    refine JH.take (i := 7) [1, 2, 3, 4] rfl (by kernel_rfl) rfl rfl rfl rfl rfl (V.mv rfl rfl) ?_
                    refine JH.take (i := 8) [1, 2, 3, 4] rfl (by kernel_rfl) rfl rfl rfl rfl rfl (V.ex rfl rfl rfl) ?_
                    refine JH.take (i := 9) [1, 2, 3, 4] rfl (by kernel_rfl) rfl rfl rfl rfl rfl (V.ex rfl rfl rfl) ?_
                    refine JH.take (i := 10) [1, 2, 3, 4] rfl (by kernel_rfl) rfl rfl rfl rfl rfl (V.as rfl rfl) ?_
                    refine JH.take (i := 11) [1, 2, 3, 4] rfl (by kernel_rfl) rfl rfl rfl rfl rfl (V.as rfl rfl) ?_
                    refine JH.fin (by kernel_rfl) ?_
                    refine J.tN ?_
                    refine J.seq ?_
                    obtain ⟨hC183, h0⟩ := B.chk h0
                    obtain ⟨hC184, h0⟩ := B.chk h0
                    obtain ⟨r185, hr186, h0⟩ := B.bind h0
                    refine J.any 12 rfl [.rowE g181 2 (eI .i64) r179.1, .rowE g97 2 (eI .i64) r95.1, .rowE g93 2 (eI .i64) r91.1, .nestE (.slice (some ⟨b28, 0, none⟩) 3 3) 40 78 enc_impl_Point [g14, g18, g26] [r12, r16, r24], .rowE v22 5 (eI .u8) ([5] ++ p0_code)] mixed ?_
                    refine JH.take (i := 0) [0, 1, 2, 3, 4] rfl (by kernel_rfl) rfl rfl rfl rfl rfl (V.mv rfl rfl) ?_
                    refine JH.take (i := 1) [0, 1, 2, 3, 4] rfl (by kernel_rfl) rfl rfl rfl rfl rfl (V.ixNst 3 rfl rfl rfl rfl tl26 ts40 hC183) ?_
                    refine JH.take (i := 2) [0, 1, 2, 3, 4] rfl (by kernel_rfl) rfl rfl rfl rfl rfl (V.ldN 3 rfl hC183 rfl rfl Try.underlying40 ta40) ?_
                    refine JH.take (i := 3) [0, 1, 2, 3, 4] rfl (by kernel_rfl) rfl rfl rfl rfl rfl (V.mv rfl rfl) ?_
                    refine JH.take (i := 4) [0, 1, 2, 3, 4] rfl (by kernel_rfl) rfl rfl rfl rfl rfl (V.ixNst 3 rfl rfl rfl rfl tl26 ts40 hC184) ?_
                    refine JH.take (i := 5) [0, 1, 2, 3, 4] rfl (by kernel_rfl) rfl rfl rfl rfl rfl (V.ldN 3 rfl hC184 rfl rfl Try.underlying40 ta40) ?_
                    refine JH.all [6] (by kernel_rfl) rfl (JHall.cons (JH.op rfl ?_) (JHall.nil))
                    refine J.clA (l := [.tmp 390, .tmp 393]) [] [.rowE g181 2 (eI .i64) r179.1, .rowE g97 2 (eI .i64) r95.1, .rowE g93 2 (eI .i64) r91.1, .nestE (.slice (some ⟨b28, 0, none⟩) 3 3) 40 78 enc_impl_Point [g14, g18, g26] [r12, r16, r24], .rowE v22 5 (eI .u8) ([5] ++ p0_code)] cf28 (wN rfl) rfl rfl rfl rfl rfl rfl (fun w H => spec_ConvertTable.calls (nth [g14, g18, g26] 0) (rdN [r12, r16, r24] 0) (nth [g14, g18, g26] 1) (rdN [r12, r16, r24] 1) r185 w (Own.refl w) (Own.nelA 3 H rfl hC183) (Own.nelA 3 H rfl hC184) hr186) fun g187 => ?_
                    refine J.nil ?_
                    refine JH.back [1, 2, 3, 4, 5] rfl rfl ?_
                    refine JH.take (i := 7) [1, 2, 3, 4, 5] rfl (by kernel_rfl) rfl rfl rfl rfl rfl (V.mv rfl rfl) ?_
                    refine JH.take (i := 8) [1, 2, 3, 4, 5] rfl (by kernel_rfl) rfl rfl rfl rfl rfl (V.ex rfl rfl rfl) ?_
                    refine JH.take (i := 9) [1, 2, 3, 4, 5] rfl (by kernel_rfl) rfl rfl rfl rfl rfl (V.ex rfl rfl rfl) ?_
                    refine JH.take (i := 10) [1, 2, 3, 4, 5] rfl (by kernel_rfl) rfl rfl rfl rfl rfl (V.as rfl rfl) ?_
                    refine JH.take (i := 11) [1, 2, 3, 4, 5] rfl (by kernel_rfl) rfl rfl rfl rfl rfl (V.as rfl rfl) ?_
                    refine JH.fin (by kernel_rfl) ?_
                    refine J.tN ?_
                    refine J.seq ?_
                    refine J.seq ?_
                    obtain ⟨y189, hy206, h0⟩ := B.bind h0
                    replace hy206 := B.top hy206
                    refine J.cut (γ := Unit) (fun _ => True) (fun gy190 => [(5, (.slice (some ⟨b28, 0, none⟩) 3 3)), (6, .int .i64 r30), (38, .int .i64 r159), (42, .int .i64 r169.2), (43, .int .i64 r174.1), (455, .bool y189)]) (fun gy190 => [.rowE g187 2 (eI .i64) r185.1, .rowE g181 2 (eI .i64) r179.1, .rowE g97 2 (eI .i64) r95.1, .rowE g93 2 (eI .i64) r91.1, .nestE (.slice (some ⟨b28, 0, none⟩) 3 3) 40 78 enc_impl_Point [g14, g18, g26] [r12, r16, r24], .rowE v22 5 (eI .u8) ([5] ++ p0_code)]) ?_ ?_
                    · have h1 := hy206
                      refine J.region ?_
                      refine J.op rfl rfl rfl (V.mv rfl rfl) ?_
                      refine J.op rfl rfl rfl (V.cmp rfl rfl rfl rfl) ?_
                      refine J.op rfl rfl rfl (V.mv rfl rfl) ?_
                      refine J.split 399 rfl (fun hB191 => ?_) (fun hB191 => ?_)
                      · replace h1 := B.t hB191 h1
                        refine J.opOff rfl rfl rfl rfl rfl rfl ?_
                        refine J.opOff rfl rfl rfl rfl rfl rfl ?_
                        refine J.opOff rfl rfl rfl rfl rfl rfl ?_
                        refine J.op rfl rfl rfl (V.pkT rfl rfl rfl) ?_
                        refine J.op rfl rfl rfl (V.mv rfl rfl) ?_
                        refine J.opOff rfl rfl rfl rfl rfl rfl ?_
                        refine J.opOff rfl rfl rfl rfl rfl rfl ?_
                        refine J.opOff rfl rfl rfl rfl rfl rfl ?_
                        refine J.op rfl rfl rfl (V.pkT rfl rfl rfl) ?_
                        refine J.op rfl rfl rfl (V.mv rfl rfl) ?_
                        refine J.opOff rfl rfl rfl rfl rfl rfl ?_
                        refine J.opOff rfl rfl rfl rfl rfl rfl ?_
                        refine J.opOff rfl rfl rfl rfl rfl rfl ?_
                        refine J.op rfl rfl rfl (V.pkT rfl rfl rfl) ?_
                        refine J.op rfl rfl rfl (V.mv rfl rfl) ?_
                        refine J.opOff rfl rfl rfl rfl rfl rfl ?_
                        refine J.opOff rfl rfl rfl rfl rfl rfl ?_
                        refine J.opOff rfl rfl rfl rfl rfl rfl ?_
                        refine J.op rfl rfl rfl (V.pkT rfl rfl rfl) ?_
                        refine J.op rfl rfl rfl (V.mv rfl rfl) ?_
                        refine J.opOff rfl rfl rfl rfl rfl rfl ?_
                        refine J.opOff rfl rfl rfl rfl rfl rfl ?_
                        refine J.op rfl rfl rfl (V.pkT rfl rfl rfl) ?_
                        refine J.op rfl rfl rfl (V.mv rfl rfl) ?_
                        refine J.opOff rfl rfl rfl rfl rfl rfl ?_
                        refine J.opOff rfl rfl rfl rfl rfl rfl ?_
                        refine J.opOff rfl rfl rfl rfl rfl rfl ?_
                        refine J.opOff rfl rfl rfl rfl rfl rfl ?_
                        refine J.op rfl rfl rfl (V.pkT rfl rfl rfl) ?_
                        refine J.op rfl rfl rfl (V.mv rfl rfl) ?_
                        refine J.opOff rfl rfl rfl rfl rfl rfl ?_
                        refine J.opOff rfl rfl rfl rfl rfl rfl ?_
                        refine J.opOff rfl rfl rfl rfl rfl rfl ?_
                        refine J.op rfl rfl rfl (V.pkT rfl rfl rfl) ?_
                        refine J.op rfl rfl rfl (V.mv rfl rfl) ?_
                        refine J.opOff rfl rfl rfl rfl rfl rfl ?_
                        refine J.opOff rfl rfl rfl rfl rfl rfl ?_
                        refine J.opOff rfl rfl rfl rfl rfl rfl ?_
                        refine J.opOff rfl rfl rfl rfl rfl rfl ?_
                        refine J.opOff rfl rfl rfl rfl rfl rfl ?_
                        refine J.opOff rfl rfl rfl rfl rfl rfl ?_
                        refine J.opOff rfl rfl rfl rfl rfl rfl ?_
                        refine J.opOff rfl rfl rfl rfl rfl rfl ?_
                        refine J.op rfl rfl rfl (V.pkT rfl rfl rfl) ?_
                        refine J.op rfl rfl rfl (V.mv rfl rfl) ?_
                        refine J.opOff rfl rfl rfl rfl rfl rfl ?_
                        refine J.opOff rfl rfl rfl rfl rfl rfl ?_
                        refine J.opOff rfl rfl rfl rfl rfl rfl ?_
                        refine J.opOffU rfl rfl rfl rfl rfl ?_
                        refine J.opOffU rfl rfl rfl rfl rfl ?_
                        refine J.opOffU rfl rfl rfl rfl rfl ?_
                        refine J.opOffU rfl rfl rfl rfl rfl ?_
                        refine J.opOffU rfl rfl rfl rfl rfl ?_
                        refine J.opOffU rfl rfl rfl rfl rfl ?_
                        refine J.opOff rfl rfl rfl rfl rfl rfl ?_
                        refine J.op rfl rfl rfl (V.pkT rfl rfl rfl) ?_
                        refine J.nil ?_
                        obtain rfl := B.e h1
                        refine J.tN (J.to () trivial ?_)
                        exact J.keep _ rfl (J.pickE [0, 1, 2, 3, 4, 5] rfl rfl J.here)
                      · replace h1 := B.f hB191 h1
                        refine J.opOn rfl rfl rfl rfl rfl (V.mv rfl rfl) ?_
                        refine J.opOn rfl rfl rfl rfl rfl (V.mv rfl rfl) ?_
                        refine J.opOn rfl rfl rfl rfl rfl (V.cmp rfl rfl rfl rfl) ?_
                        refine J.op rfl rfl rfl (V.pkF rfl rfl rfl) ?_
                        refine J.op rfl rfl rfl (V.mv rfl rfl) ?_
                        refine J.split 404 rfl (fun hB192 => ?_) (fun hB192 => ?_)
                        · replace h1 := B.t hB192 h1
                          refine J.opOff rfl rfl rfl rfl rfl rfl ?_
                          refine J.opOff rfl rfl rfl rfl rfl rfl ?_
                          refine J.opOff rfl rfl rfl rfl rfl rfl ?_
                          refine J.op rfl rfl rfl (V.pkT rfl rfl rfl) ?_
                          refine J.op rfl rfl rfl (V.mv rfl rfl) ?_
                          refine J.opOff rfl rfl rfl rfl rfl rfl ?_
                          refine J.opOff rfl rfl rfl rfl rfl rfl ?_
                          refine J.opOff rfl rfl rfl rfl rfl rfl ?_
                          refine J.op rfl rfl rfl (V.pkT rfl rfl rfl) ?_
                          refine J.op rfl rfl rfl (V.mv rfl rfl) ?_
                          refine J.opOff rfl rfl rfl rfl rfl rfl ?_
                          refine J.opOff rfl rfl rfl rfl rfl rfl ?_
                          refine J.opOff rfl rfl rfl rfl rfl rfl ?_
                          refine J.op rfl rfl rfl (V.pkT rfl rfl rfl) ?_
                          refine J.op rfl rfl rfl (V.mv rfl rfl) ?_
                          refine J.opOff rfl rfl rfl rfl rfl rfl ?_
                          refine J.opOff rfl rfl rfl rfl rfl rfl ?_
                          refine J.op rfl rfl rfl (V.pkT rfl rfl rfl) ?_
                          refine J.op rfl rfl rfl (V.mv rfl rfl) ?_
                          refine J.opOff rfl rfl rfl rfl rfl rfl ?_
                          refine J.opOff rfl rfl rfl rfl rfl rfl ?_
                          refine J.opOff rfl rfl rfl rfl rfl rfl ?_
                          refine J.opOff rfl rfl rfl rfl rfl rfl ?_
                          refine J.op rfl rfl rfl (V.pkT rfl rfl rfl) ?_
                          refine J.op rfl rfl rfl (V.mv rfl rfl) ?_
                          refine J.opOff rfl rfl rfl rfl rfl rfl ?_
                          refine J.opOff rfl rfl rfl rfl rfl rfl ?_
                          refine J.opOff rfl rfl rfl rfl rfl rfl ?_
                          refine J.op rfl rfl rfl (V.pkT rfl rfl rfl) ?_
                          refine J.op rfl rfl rfl (V.mv rfl rfl) ?_
                          refine J.opOff rfl rfl rfl rfl rfl rfl ?_
                          refine J.opOff rfl rfl rfl rfl rfl rfl ?_
                          refine J.opOff rfl rfl rfl rfl rfl rfl ?_
                          refine J.opOff rfl rfl rfl rfl rfl rfl ?_
                          refine J.opOff rfl rfl rfl rfl rfl rfl ?_
                          refine J.opOff rfl rfl rfl rfl rfl rfl ?_
                          refine J.opOff rfl rfl rfl rfl rfl rfl ?_
                          refine J.opOff rfl rfl rfl rfl rfl rfl ?_
                          refine J.op rfl rfl rfl (V.pkT rfl rfl rfl) ?_
                          refine J.op rfl rfl rfl (V.mv rfl rfl) ?_
                          refine J.opOff rfl rfl rfl rfl rfl rfl ?_
                          refine J.opOff rfl rfl rfl rfl rfl rfl ?_
                          refine J.opOff rfl rfl rfl rfl rfl rfl ?_
                          refine J.opOffU rfl rfl rfl rfl rfl ?_
                          refine J.opOffU rfl rfl rfl rfl rfl ?_
                          refine J.opOffU rfl rfl rfl rfl rfl ?_
                          refine J.opOffU rfl rfl rfl rfl rfl ?_
                          refine J.opOffU rfl rfl rfl rfl rfl ?_
                          refine J.opOffU rfl rfl rfl rfl rfl ?_
                          refine J.opOff rfl rfl rfl rfl rfl rfl ?_
                          refine J.op rfl rfl rfl (V.pkT rfl rfl rfl) ?_
                          refine J.nil ?_
                          obtain rfl := B.e h1
                          refine J.tN (J.to () trivial ?_)
                          exact J.keep _ rfl (J.pickE [0, 1, 2, 3, 4, 5] rfl rfl J.here)
                        · replace h1 := B.f hB192 h1
                          refine J.opOn rfl rfl rfl rfl rfl (V.mv rfl rfl) ?_
                          refine J.opOn rfl rfl rfl rfl rfl (V.mv rfl rfl) ?_
                          refine J.opOn rfl rfl rfl rfl rfl (V.cmp rfl rfl rfl rfl) ?_
                          refine J.op rfl rfl rfl (V.pkF rfl rfl rfl) ?_
                          refine J.op rfl rfl rfl (V.mv rfl rfl) ?_
                          refine J.split 409 rfl (fun hB193 => ?_) (fun hB193 => ?_)
                          · replace h1 := B.t hB193 h1
                            refine J.opOff rfl rfl rfl rfl rfl rfl ?_
                            refine J.opOff rfl rfl rfl rfl rfl rfl ?_
                            refine J.opOff rfl rfl rfl rfl rfl rfl ?_
                            refine J.op rfl rfl rfl (V.pkT rfl rfl rfl) ?_
                            refine J.op rfl rfl rfl (V.mv rfl rfl) ?_
                            refine J.opOff rfl rfl rfl rfl rfl rfl ?_
                            refine J.opOff rfl rfl rfl rfl rfl rfl ?_
                            refine J.opOff rfl rfl rfl rfl rfl rfl ?_
                            refine J.op rfl rfl rfl (V.pkT rfl rfl rfl) ?_
                            refine J.op rfl rfl rfl (V.mv rfl rfl) ?_
                            refine J.opOff rfl rfl rfl rfl rfl rfl ?_
                            refine J.opOff rfl rfl rfl rfl rfl rfl ?_
                            refine J.op rfl rfl rfl (V.pkT rfl rfl rfl) ?_
                            refine J.op rfl rfl rfl (V.mv rfl rfl) ?_
                            refine J.opOff rfl rfl rfl rfl rfl rfl ?_
                            refine J.opOff rfl rfl rfl rfl rfl rfl ?_
                            refine J.opOff rfl rfl rfl rfl rfl rfl ?_
                            refine J.opOff rfl rfl rfl rfl rfl rfl ?_
                            refine J.op rfl rfl rfl (V.pkT rfl rfl rfl) ?_
                            refine J.op rfl rfl rfl (V.mv rfl rfl) ?_
                            refine J.opOff rfl rfl rfl rfl rfl rfl ?_
                            refine J.opOff rfl rfl rfl rfl rfl rfl ?_
                            refine J.opOff rfl rfl rfl rfl rfl rfl ?_
                            refine J.op rfl rfl rfl (V.pkT rfl rfl rfl) ?_
                            refine J.op rfl rfl rfl (V.mv rfl rfl) ?_
                            refine J.opOff rfl rfl rfl rfl rfl rfl ?_
                            refine J.opOff rfl rfl rfl rfl rfl rfl ?_
                            refine J.opOff rfl rfl rfl rfl rfl rfl ?_
                            refine J.opOff rfl rfl rfl rfl rfl rfl ?_
                            refine J.opOff rfl rfl rfl rfl rfl rfl ?_
                            refine J.opOff rfl rfl rfl rfl rfl rfl ?_
                            refine J.opOff rfl rfl rfl rfl rfl rfl ?_
                            refine J.opOff rfl rfl rfl rfl rfl rfl ?_
                            refine J.op rfl rfl rfl (V.pkT rfl rfl rfl) ?_
                            refine J.op rfl rfl rfl (V.mv rfl rfl) ?_
                            refine J.opOff rfl rfl rfl rfl rfl rfl ?_
                            refine J.opOff rfl rfl rfl rfl rfl rfl ?_
                            refine J.opOff rfl rfl rfl rfl rfl rfl ?_
                            refine J.opOffU rfl rfl rfl rfl rfl ?_
                            refine J.opOffU rfl rfl rfl rfl rfl ?_
                            refine J.opOffU rfl rfl rfl rfl rfl ?_
                            refine J.opOffU rfl rfl rfl rfl rfl ?_
                            refine J.opOffU rfl rfl rfl rfl rfl ?_
                            refine J.opOffU rfl rfl rfl rfl rfl ?_
                            refine J.opOff rfl rfl rfl rfl rfl rfl ?_
                            refine J.op rfl rfl rfl (V.pkT rfl rfl rfl) ?_
                            refine J.nil ?_
                            obtain rfl := B.e h1
                            refine J.tN (J.to () trivial ?_)
                            exact J.keep _ rfl (J.pickE [0, 1, 2, 3, 4, 5] rfl rfl J.here)
                          · replace h1 := B.f hB193 h1
                            refine J.opOn rfl rfl rfl rfl rfl (V.mv rfl rfl) ?_
                            refine J.opOn rfl rfl rfl rfl rfl (V.mv rfl rfl) ?_
                            refine J.opOn rfl rfl rfl rfl rfl (V.cmp rfl rfl rfl rfl) ?_
                            refine J.op rfl rfl rfl (V.pkF rfl rfl rfl) ?_
                            refine J.op rfl rfl rfl (V.mv rfl rfl) ?_
                            refine J.split 414 rfl (fun hB194 => ?_) (fun hB194 => ?_)
                            · replace h1 := B.t hB194 h1
                              refine J.opOff rfl rfl rfl rfl rfl rfl ?_
                              refine J.opOff rfl rfl rfl rfl rfl rfl ?_
                              refine J.opOff rfl rfl rfl rfl rfl rfl ?_
                              refine J.op rfl rfl rfl (V.pkT rfl rfl rfl) ?_
                              refine J.op rfl rfl rfl (V.mv rfl rfl) ?_
                              refine J.opOff rfl rfl rfl rfl rfl rfl ?_
                              refine J.opOff rfl rfl rfl rfl rfl rfl ?_
                              refine J.op rfl rfl rfl (V.pkT rfl rfl rfl) ?_
                              refine J.op rfl rfl rfl (V.mv rfl rfl) ?_
                              refine J.opOff rfl rfl rfl rfl rfl rfl ?_
                              refine J.opOff rfl rfl rfl rfl rfl rfl ?_
                              refine J.opOff rfl rfl rfl rfl rfl rfl ?_
                              refine J.opOff rfl rfl rfl rfl rfl rfl ?_
                              refine J.op rfl rfl rfl (V.pkT rfl rfl rfl) ?_
                              refine J.op rfl rfl rfl (V.mv rfl rfl) ?_
                              refine J.opOff rfl rfl rfl rfl rfl rfl ?_
                              refine J.opOff rfl rfl rfl rfl rfl rfl ?_
                              refine J.opOff rfl rfl rfl rfl rfl rfl ?_
                              refine J.op rfl rfl rfl (V.pkT rfl rfl rfl) ?_
                              refine J.op rfl rfl rfl (V.mv rfl rfl) ?_
                              refine J.opOff rfl rfl rfl rfl rfl rfl ?_
                              refine J.opOff rfl rfl rfl rfl rfl rfl ?_
                              refine J.opOff rfl rfl rfl rfl rfl rfl ?_
                              refine J.opOff rfl rfl rfl rfl rfl rfl ?_
                              refine J.opOff rfl rfl rfl rfl rfl rfl ?_
                              refine J.opOff rfl rfl rfl rfl rfl rfl ?_
                              refine J.opOff rfl rfl rfl rfl rfl rfl ?_
                              refine J.opOff rfl rfl rfl rfl rfl rfl ?_
                              refine J.op rfl rfl rfl (V.pkT rfl rfl rfl) ?_
                              refine J.op rfl rfl rfl (V.mv rfl rfl) ?_
                              refine J.opOff rfl rfl rfl rfl rfl rfl ?_
                              refine J.opOff rfl rfl rfl rfl rfl rfl ?_
                              refine J.opOff rfl rfl rfl rfl rfl rfl ?_
                              refine J.opOffU rfl rfl rfl rfl rfl ?_
                              refine J.opOffU rfl rfl rfl rfl rfl ?_
                              refine J.opOffU rfl rfl rfl rfl rfl ?_
                              refine J.opOffU rfl rfl rfl rfl rfl ?_
                              refine J.opOffU rfl rfl rfl rfl rfl ?_
                              refine J.opOffU rfl rfl rfl rfl rfl ?_
                              refine J.opOff rfl rfl rfl rfl rfl rfl ?_
                              refine J.op rfl rfl rfl (V.pkT rfl rfl rfl) ?_
                              refine J.nil ?_
                              obtain rfl := B.e h1
                              refine J.tN (J.to () trivial ?_)
                              exact J.keep _ rfl (J.pickE [0, 1, 2, 3, 4, 5] rfl rfl J.here)
                            · replace h1 := B.f hB194 h1
                              refine J.opOn rfl rfl rfl rfl rfl (V.mv rfl rfl) ?_
                              refine J.opOn rfl rfl rfl rfl rfl (V.mv rfl rfl) ?_
                              refine J.opOn rfl rfl rfl rfl rfl (V.cmp rfl rfl rfl rfl) ?_
                              refine J.op rfl rfl rfl (V.pkF rfl rfl rfl) ?_
                              refine J.op rfl rfl rfl (V.mv rfl rfl) ?_
                              refine J.split 419 rfl (fun hB195 => ?_) (fun hB195 => ?_)
                              · replace h1 := B.t hB195 h1
                                refine J.opOff rfl rfl rfl rfl rfl rfl ?_
                                refine J.opOff rfl rfl rfl rfl rfl rfl ?_
                                refine J.op rfl rfl rfl (V.pkT rfl rfl rfl) ?_
                                refine J.op rfl rfl rfl (V.mv rfl rfl) ?_
                                refine J.opOff rfl rfl rfl rfl rfl rfl ?_
                                refine J.opOff rfl rfl rfl rfl rfl rfl ?_
                                refine J.opOff rfl rfl rfl rfl rfl rfl ?_
                                refine J.opOff rfl rfl rfl rfl rfl rfl ?_
                                refine J.op rfl rfl rfl (V.pkT rfl rfl rfl) ?_
                                refine J.op rfl rfl rfl (V.mv rfl rfl) ?_
                                refine J.opOff rfl rfl rfl rfl rfl rfl ?_
                                refine J.opOff rfl rfl rfl rfl rfl rfl ?_
                                refine J.opOff rfl rfl rfl rfl rfl rfl ?_
                                refine J.op rfl rfl rfl (V.pkT rfl rfl rfl) ?_
                                refine J.op rfl rfl rfl (V.mv rfl rfl) ?_
                                refine J.opOff rfl rfl rfl rfl rfl rfl ?_
                                refine J.opOff rfl rfl rfl rfl rfl rfl ?_
                                refine J.opOff rfl rfl rfl rfl rfl rfl ?_
                                refine J.opOff rfl rfl rfl rfl rfl rfl ?_
                                refine J.opOff rfl rfl rfl rfl rfl rfl ?_
                                refine J.opOff rfl rfl rfl rfl rfl rfl ?_
                                refine J.opOff rfl rfl rfl rfl rfl rfl ?_
                                refine J.opOff rfl rfl rfl rfl rfl rfl ?_
                                refine J.op rfl rfl rfl (V.pkT rfl rfl rfl) ?_
                                refine J.op rfl rfl rfl (V.mv rfl rfl) ?_
                                refine J.opOff rfl rfl rfl rfl rfl rfl ?_
                                refine J.opOff rfl rfl rfl rfl rfl rfl ?_
                                refine J.opOff rfl rfl rfl rfl rfl rfl ?_
                                refine J.opOffU rfl rfl rfl rfl rfl ?_
                                refine J.opOffU rfl rfl rfl rfl rfl ?_
                                refine J.opOffU rfl rfl rfl rfl rfl ?_
                                refine J.opOffU rfl rfl rfl rfl rfl ?_
                                refine J.opOffU rfl rfl rfl rfl rfl ?_
                                refine J.opOffU rfl rfl rfl rfl rfl ?_
                                refine J.opOff rfl rfl rfl rfl rfl rfl ?_
                                refine J.op rfl rfl rfl (V.pkT rfl rfl rfl) ?_
                                refine J.nil ?_
                                obtain rfl := B.e h1
                                refine J.tN (J.to () trivial ?_)
                                exact J.keep _ rfl (J.pickE [0, 1, 2, 3, 4, 5] rfl rfl J.here)
                              · replace h1 := B.f hB195 h1
                                refine J.opOn rfl rfl rfl rfl rfl (V.mv rfl rfl) ?_
                                refine J.opOn rfl rfl rfl rfl rfl (V.cmp rfl rfl rfl rfl) ?_
                                refine J.op rfl rfl rfl (V.pkF rfl rfl rfl) ?_
                                refine J.op rfl rfl rfl (V.mv rfl rfl) ?_
                                refine J.split 423 rfl (fun hB196 => ?_) (fun hB196 => ?_)
                                · replace h1 := B.t hB196 h1
                                  refine J.opOff rfl rfl rfl rfl rfl rfl ?_
                                  refine J.opOff rfl rfl rfl rfl rfl rfl ?_
                                  refine J.opOff rfl rfl rfl rfl rfl rfl ?_
                                  refine J.opOff rfl rfl rfl rfl rfl rfl ?_
                                  refine J.op rfl rfl rfl (V.pkT rfl rfl rfl) ?_
                                  refine J.op rfl rfl rfl (V.mv rfl rfl) ?_
                                  refine J.opOff rfl rfl rfl rfl rfl rfl ?_
                                  refine J.opOff rfl rfl rfl rfl rfl rfl ?_
                                  refine J.opOff rfl rfl rfl rfl rfl rfl ?_
                                  refine J.op rfl rfl rfl (V.pkT rfl rfl rfl) ?_
                                  refine J.op rfl rfl rfl (V.mv rfl rfl) ?_
                                  refine J.opOff rfl rfl rfl rfl rfl rfl ?_
                                  refine J.opOff rfl rfl rfl rfl rfl rfl ?_
                                  refine J.opOff rfl rfl rfl rfl rfl rfl ?_
                                  refine J.opOff rfl rfl rfl rfl rfl rfl ?_
                                  refine J.opOff rfl rfl rfl rfl rfl rfl ?_
                                  refine J.opOff rfl rfl rfl rfl rfl rfl ?_
                                  refine J.opOff rfl rfl rfl rfl rfl rfl ?_
                                  refine J.opOff rfl rfl rfl rfl rfl rfl ?_
                                  refine J.op rfl rfl rfl (V.pkT rfl rfl rfl) ?_
                                  refine J.op rfl rfl rfl (V.mv rfl rfl) ?_
                                  refine J.opOff rfl rfl rfl rfl rfl rfl ?_
                                  refine J.opOff rfl rfl rfl rfl rfl rfl ?_
                                  refine J.opOff rfl rfl rfl rfl rfl rfl ?_
                                  refine J.opOffU rfl rfl rfl rfl rfl ?_
                                  refine J.opOffU rfl rfl rfl rfl rfl ?_
                                  refine J.opOffU rfl rfl rfl rfl rfl ?_
                                  refine J.opOffU rfl rfl rfl rfl rfl ?_
                                  refine J.opOffU rfl rfl rfl rfl rfl ?_
                                  refine J.opOffU rfl rfl rfl rfl rfl ?_
                                  refine J.opOff rfl rfl rfl rfl rfl rfl ?_
                                  refine J.op rfl rfl rfl (V.pkT rfl rfl rfl) ?_
                                  refine J.nil ?_
                                  obtain rfl := B.e h1
                                  refine J.tN (J.to () trivial ?_)
                                  exact J.keep _ rfl (J.pickE [0, 1, 2, 3, 4, 5] rfl rfl J.here)
                                · replace h1 := B.f hB196 h1
                                  refine J.opOn rfl rfl rfl rfl rfl (V.mv rfl rfl) ?_
                                  refine J.opOn rfl rfl rfl rfl rfl (V.mv rfl rfl) ?_
                                  obtain ⟨r197, hr198, h1⟩ := B.bind h1
                                  refine J.clA (l := [.tmp 424, .tmp 425]) [] [.rowE g187 2 (eI .i64) r185.1, .rowE g181 2 (eI .i64) r179.1, .rowE g97 2 (eI .i64) r95.1, .rowE g93 2 (eI .i64) r91.1, .nestE (.slice (some ⟨b28, 0, none⟩) 3 3) 40 78 enc_impl_Point [g14, g18, g26] [r12, r16, r24], .rowE v22 5 (eI .u8) ([5] ++ p0_code)] cf23 (wY rfl rfl rfl) rfl rfl rfl rfl rfl rfl (fun w H => spec_SameNumbers.calls g181 r179.1 g187 r185.1 r197 w (Own.refl w) (Own.slA 1 H rfl) (Own.slA 0 H rfl) hr198) fun g199 => ?_
                                  refine J.opOn rfl rfl rfl rfl rfl (V.nt rfl rfl) ?_
                                  refine J.op rfl rfl rfl (V.pkF rfl rfl rfl) ?_
                                  refine J.op rfl rfl rfl (V.mv rfl rfl) ?_
                                  refine J.split 429 rfl (fun hB200 => ?_) (fun hB200 => ?_)
                                  · replace h1 := B.t hB200 h1
                                    refine J.opOff rfl rfl rfl rfl rfl rfl ?_
                                    refine J.opOff rfl rfl rfl rfl rfl rfl ?_
                                    refine J.opOff rfl rfl rfl rfl rfl rfl ?_
                                    refine J.op rfl rfl rfl (V.pkT rfl rfl rfl) ?_
                                    refine J.op rfl rfl rfl (V.mv rfl rfl) ?_
                                    refine J.opOff rfl rfl rfl rfl rfl rfl ?_
                                    refine J.opOff rfl rfl rfl rfl rfl rfl ?_
                                    refine J.opOff rfl rfl rfl rfl rfl rfl ?_
                                    refine J.opOff rfl rfl rfl rfl rfl rfl ?_
                                    refine J.opOff rfl rfl rfl rfl rfl rfl ?_
                                    refine J.opOff rfl rfl rfl rfl rfl rfl ?_
                                    refine J.opOff rfl rfl rfl rfl rfl rfl ?_
                                    refine J.opOff rfl rfl rfl rfl rfl rfl ?_
                                    refine J.op rfl rfl rfl (V.pkT rfl rfl rfl) ?_
                                    refine J.op rfl rfl rfl (V.mv rfl rfl) ?_
                                    refine J.opOff rfl rfl rfl rfl rfl rfl ?_
                                    refine J.opOff rfl rfl rfl rfl rfl rfl ?_
                                    refine J.opOff rfl rfl rfl rfl rfl rfl ?_
                                    refine J.opOffU rfl rfl rfl rfl rfl ?_
                                    refine J.opOffU rfl rfl rfl rfl rfl ?_
                                    refine J.opOffU rfl rfl rfl rfl rfl ?_
                                    refine J.opOffU rfl rfl rfl rfl rfl ?_
                                    refine J.opOffU rfl rfl rfl rfl rfl ?_
                                    refine J.opOffU rfl rfl rfl rfl rfl ?_
                                    refine J.opOff rfl rfl rfl rfl rfl rfl ?_
                                    refine J.op rfl rfl rfl (V.pkT rfl rfl rfl) ?_
                                    refine J.nil ?_
                                    obtain rfl := B.e h1
                                    refine J.tN (J.to () trivial ?_)
                                    exact J.keep _ rfl (J.pickE [0, 1, 2, 3, 4, 5] rfl rfl J.here)
                                  · replace h1 := B.f hB200 h1
                                    refine J.opOn rfl rfl rfl rfl rfl (V.mv rfl rfl) ?_
                                    refine J.opOn rfl rfl rfl rfl rfl (V.lenR 0 rfl rfl rfl tl30) ?_
                                    refine J.opOn rfl rfl rfl rfl rfl (V.cmp rfl rfl rfl rfl) ?_
                                    refine J.op rfl rfl rfl (V.pkF rfl rfl rfl) ?_
                                    refine J.op rfl rfl rfl (V.mv rfl rfl) ?_
                                    refine J.split 434 rfl (fun hB201 => ?_) (fun hB201 => ?_)
                                    · replace h1 := B.t hB201 h1
                                      refine J.opOff rfl rfl rfl rfl rfl rfl ?_
                                      refine J.opOff rfl rfl rfl rfl rfl rfl ?_
                                      refine J.opOff rfl rfl rfl rfl rfl rfl ?_
                                      refine J.opOff rfl rfl rfl rfl rfl rfl ?_
                                      refine J.opOff rfl rfl rfl rfl rfl rfl ?_
                                      refine J.opOff rfl rfl rfl rfl rfl rfl ?_
                                      refine J.opOff rfl rfl rfl rfl rfl rfl ?_
                                      refine J.opOff rfl rfl rfl rfl rfl rfl ?_
                                      refine J.op rfl rfl rfl (V.pkT rfl rfl rfl) ?_
                                      refine J.op rfl rfl rfl (V.mv rfl rfl) ?_
                                      refine J.opOff rfl rfl rfl rfl rfl rfl ?_
                                      refine J.opOff rfl rfl rfl rfl rfl rfl ?_
                                      refine J.opOff rfl rfl rfl rfl rfl rfl ?_
                                      refine J.opOffU rfl rfl rfl rfl rfl ?_
                                      refine J.opOffU rfl rfl rfl rfl rfl ?_
                                      refine J.opOffU rfl rfl rfl rfl rfl ?_
                                      refine J.opOffU rfl rfl rfl rfl rfl ?_
                                      refine J.opOffU rfl rfl rfl rfl rfl ?_
                                      refine J.opOffU rfl rfl rfl rfl rfl ?_
                                      refine J.opOff rfl rfl rfl rfl rfl rfl ?_
                                      refine J.op rfl rfl rfl (V.pkT rfl rfl rfl) ?_
                                      refine J.nil ?_
                                      obtain rfl := B.e h1
                                      refine J.tN (J.to () trivial ?_)
                                      exact J.keep _ rfl (J.pickE [0, 1, 2, 3, 4, 5] rfl rfl J.here)
                                    · replace h1 := B.f hB201 h1
                                      refine J.opOn rfl rfl rfl rfl rfl (V.mv rfl rfl) ?_
                                      refine J.opOn rfl rfl rfl rfl rfl (V.cmp rfl rfl rfl rfl) ?_
                                      refine J.opOn rfl rfl rfl rfl rfl (V.mv rfl rfl) ?_
                                      refine J.opOn rfl rfl rfl rfl rfl (V.mv rfl rfl) ?_
                                      obtain ⟨hC202, h1⟩ := B.chk h1
                                      refine J.opOn rfl rfl rfl rfl rfl (V.ixR 0 rfl rfl rfl rfl tl30 ts2 hC202) ?_
                                      refine J.opOn rfl rfl rfl rfl rfl (V.elR0 0 rfl hC202 rfl rfl Try.underlying2 ta2 rfl) ?_
                                      refine J.opOn rfl rfl rfl rfl rfl (V.cmp rfl rfl rfl rfl) ?_
                                      refine J.opOn rfl rfl rfl rfl rfl (V.neB rfl rfl rfl Try.underlying4) ?_
                                      refine J.op rfl rfl rfl (V.pkF rfl rfl rfl) ?_
                                      refine J.op rfl rfl rfl (V.mv rfl rfl) ?_
                                      refine J.split 444 rfl (fun hB203 => ?_) (fun hB203 => ?_)
                                      · replace h1 := B.t hB203 h1
                                        refine J.opOff rfl rfl rfl rfl rfl rfl ?_
                                        refine J.opOff rfl rfl rfl rfl rfl rfl ?_
                                        refine J.opOff rfl rfl rfl rfl rfl rfl ?_
                                        refine J.opOffU rfl rfl rfl rfl rfl ?_
                                        refine J.opOffU rfl rfl rfl rfl rfl ?_
                                        refine J.opOffU rfl rfl rfl rfl rfl ?_
                                        refine J.opOffU rfl rfl rfl rfl rfl ?_
                                        refine J.opOffU rfl rfl rfl rfl rfl ?_
                                        refine J.opOffU rfl rfl rfl rfl rfl ?_
                                        refine J.opOff rfl rfl rfl rfl rfl rfl ?_
                                        refine J.op rfl rfl rfl (V.pkT rfl rfl rfl) ?_
                                        refine J.nil ?_
                                        obtain rfl := B.e h1
                                        refine J.tN (J.to () trivial ?_)
                                        exact J.keep _ rfl (J.pickE [0, 1, 2, 3, 4, 5] rfl rfl J.here)
                                      · replace h1 := B.f hB203 h1
                                        refine J.opOn rfl rfl rfl rfl rfl (V.mv rfl rfl) ?_
                                        refine J.opOn rfl rfl rfl rfl rfl (V.cmp rfl rfl rfl rfl) ?_
                                        refine J.opOn rfl rfl rfl rfl rfl (V.mv rfl rfl) ?_
                                        refine J.split 447 rfl (fun hB204 => ?_) (fun hB204 => ?_)
                                        · replace h1 := B.t hB204 h1
                                          refine J.opOn rfl rfl rfl rfl rfl (V.mv rfl rfl) ?_
                                          refine J.opOn rfl rfl rfl rfl rfl (V.mv rfl rfl) ?_
                                          obtain ⟨hC205, h1⟩ := B.chk h1
                                          refine J.opOn rfl rfl rfl rfl rfl (V.ixR 0 rfl rfl rfl rfl tl30 ts2 hC205) ?_
                                          refine J.opOn rfl rfl rfl rfl rfl (V.elR0 0 rfl hC205 rfl rfl Try.underlying2 ta2 rfl) ?_
                                          refine J.opOn rfl rfl rfl rfl rfl (V.mv rfl rfl) ?_
                                          refine J.opOn rfl rfl rfl rfl rfl (V.cmp rfl rfl rfl rfl) ?_
                                          refine J.opOn rfl rfl rfl rfl rfl (V.pkT rfl rfl rfl) ?_
                                          refine J.op rfl rfl rfl (V.pkF rfl rfl rfl) ?_
                                          refine J.nil ?_
                                          obtain rfl := B.e h1
                                          refine J.tN (J.to () trivial ?_)
                                          exact J.keep _ rfl (J.pickE [0, 1, 2, 3, 4, 5] rfl rfl J.here)
                                        · replace h1 := B.f hB204 h1
                                          refine J.opOff rfl rfl rfl rfl rfl rfl ?_
                                          refine J.opOff rfl rfl rfl rfl rfl rfl ?_
                                          refine J.opOff rfl rfl rfl rfl rfl rfl ?_
                                          refine J.opOff rfl rfl rfl rfl rfl rfl ?_
                                          refine J.opOff rfl rfl rfl rfl rfl rfl ?_
                                          refine J.opOff rfl rfl rfl rfl rfl rfl ?_
                                          refine J.opOn rfl rfl rfl rfl rfl (V.pkF rfl rfl rfl) ?_
                                          refine J.op rfl rfl rfl (V.pkF rfl rfl rfl) ?_
                                          refine J.nil ?_
                                          obtain rfl := B.e h1
                                          refine J.tN (J.to () trivial ?_)
                                          exact J.keep _ rfl (J.pickE [0, 1, 2, 3, 4, 5] rfl rfl J.here)
                    · intro gy190 _
                      refine J.cond rfl (fun hB207 => ?_) (fun hB207 => ?_)
                      · replace h0 := B.t hB207 h0
                        refine J.seq ?_
                        refine J.region ?_
                        refine J.op rfl rfl rfl (V.as rfl rfl) ?_
                        refine J.nil ?_
                        refine J.tN ?_
                        refine J.ret ?_
                        refine J.tR ?_
                        obtain rfl := B.e h0
                        exact J.ret1 rfl rfl fun w H => ⟨(), rfl, H.pick [] (by decide)⟩
                      · replace h0 := B.f hB207 h0
                        refine J.skip ?_
                        refine J.tN ?_
                        refine J.seq ?_
                        obtain ⟨o226, hy225, h0⟩ := B.bind h0
                        replace hy225 := B.top hy225
                        refine J.cut (γ := (Unit) × (Unit)) (fun gy209 => o226 = .inl gy209.1) (fun gy209 => [(5, (.slice (some ⟨b28, 0, none⟩) 3 3)), (6, .int .i64 r30)]) (fun gy209 => [.rowE g187 2 (eI .i64) r185.1, .rowE g181 2 (eI .i64) r179.1, .rowE g97 2 (eI .i64) r95.1, .rowE g93 2 (eI .i64) r91.1, .nestE (.slice (some ⟨b28, 0, none⟩) 3 3) 40 78 enc_impl_Point [g14, g18, g26] [r12, r16, r24], .rowE v22 5 (eI .u8) ([5] ++ p0_code)]) ?_ ?_
                        · have h1 := hy225
                          refine J.seq ?_
                          refine J.region ?_
                          refine J.op rfl rfl rfl (V.mv rfl rfl) ?_
                          refine J.op rfl rfl rfl (V.cmp rfl rfl rfl rfl) ?_
                          refine J.nil ?_
                          refine J.tN ?_
                          refine J.cond rfl (fun hB210 => ?_) (fun hB210 => ?_)
                          · replace h1 := B.t hB210 h1
                            refine J.seq ?_
                            refine J.region ?_
                            refine J.op rfl rfl rfl (V.mv rfl rfl) ?_
                            obtain ⟨hC211, h1⟩ := B.chk h1
                            refine J.op rfl rfl rfl (V.ixNst 4 rfl rfl rfl rfl tl26 ts40 hC211) ?_
                            refine J.op rfl rfl rfl (V.ldN 4 rfl hC211 rfl rfl Try.underlying40 ta40) ?_
                            refine J.op rfl rfl rfl (V.mv rfl rfl) ?_
                            obtain ⟨r212, hr213, h1⟩ := B.bind h1
                            refine J.clA (l := [.tmp 461, .tmp 462]) [] [.rowE g187 2 (eI .i64) r185.1, .rowE g181 2 (eI .i64) r179.1, .rowE g97 2 (eI .i64) r95.1, .rowE g93 2 (eI .i64) r91.1, .nestE (.slice (some ⟨b28, 0, none⟩) 3 3) 40 78 enc_impl_Point [g14, g18, g26] [r12, r16, r24], .rowE v22 5 (eI .u8) ([5] ++ p0_code)] cf29 (wN rfl) rfl rfl rfl rfl rfl rfl (fun w H => impl_CurveAt.calls (nth [g14, g18, g26] 0) (rdN [r12, r16, r24] 0) r159 r212 w (Own.refl w) (Own.nelA 4 H rfl hC211) hr213) fun g214 => ?_
                            refine J.op rfl rfl rfl (V.mv rfl rfl) ?_
                            refine J.op rfl rfl rfl (V.ex rfl rfl rfl) ?_
                            refine J.op rfl rfl rfl (V.ex rfl rfl rfl) ?_
                            refine J.op rfl rfl rfl (V.as rfl rfl) ?_
                            refine J.op rfl rfl rfl (V.as rfl rfl) ?_
                            refine J.nil ?_
                            refine J.tN ?_
                            refine J.seq ?_
                            refine J.region ?_
                            refine J.op rfl rfl rfl (V.mv rfl rfl) ?_
                            obtain ⟨hC215, h1⟩ := B.chk h1
                            refine J.op rfl rfl rfl (V.ixNst 4 rfl rfl rfl rfl tl26 ts40 hC215) ?_
                            refine J.op rfl rfl rfl (V.ldN 4 rfl hC215 rfl rfl Try.underlying40 ta40) ?_
                            refine J.op rfl rfl rfl (V.mv rfl rfl) ?_
                            obtain ⟨r216, hr217, h1⟩ := B.bind h1
                            refine J.clA (l := [.tmp 469, .tmp 470]) [] [.rowE g187 2 (eI .i64) r185.1, .rowE g181 2 (eI .i64) r179.1, .rowE g97 2 (eI .i64) r95.1, .rowE g93 2 (eI .i64) r91.1, .nestE (.slice (some ⟨b28, 0, none⟩) 3 3) 40 78 enc_impl_Point [g14, g18, g26] [r12, r16, r24], .rowE v22 5 (eI .u8) ([5] ++ p0_code)] cf29 (wN rfl) rfl rfl rfl rfl rfl rfl (fun w H => impl_CurveAt.calls (nth [g14, g18, g26] 1) (rdN [r12, r16, r24] 1) r174.1 r216 w (Own.refl w) (Own.nelA 4 H rfl hC215) hr217) fun g218 => ?_
                            refine J.op rfl rfl rfl (V.mv rfl rfl) ?_
                            refine J.op rfl rfl rfl (V.ex rfl rfl rfl) ?_
                            refine J.op rfl rfl rfl (V.ex rfl rfl rfl) ?_
                            refine J.op rfl rfl rfl (V.as rfl rfl) ?_
                            refine J.op rfl rfl rfl (V.as rfl rfl) ?_
                            refine J.nil ?_
                            refine J.tN ?_
                            refine J.seq ?_
                            obtain ⟨y219, hy223, h1⟩ := B.bind h1
                            replace hy223 := B.top hy223
                            refine J.cut (γ := Unit) (fun _ => True) (fun gy220 => [(5, (.slice (some ⟨b28, 0, none⟩) 3 3)), (6, .int .i64 r30), (484, .bool y219)]) (fun gy220 => [.rowE g187 2 (eI .i64) r185.1, .rowE g181 2 (eI .i64) r179.1, .rowE g97 2 (eI .i64) r95.1, .rowE g93 2 (eI .i64) r91.1, .nestE (.slice (some ⟨b28, 0, none⟩) 3 3) 40 78 enc_impl_Point [g14, g18, g26] [r12, r16, r24], .rowE v22 5 (eI .u8) ([5] ++ p0_code)]) ?_ ?_
                            · have h2 := hy223
                              refine J.region ?_
                              refine J.op rfl rfl rfl (V.mv rfl rfl) ?_
                              refine J.op rfl rfl rfl (V.cmp rfl rfl rfl rfl) ?_
                              refine J.op rfl rfl rfl (V.mv rfl rfl) ?_
                              refine J.split 476 rfl (fun hB221 => ?_) (fun hB221 => ?_)
                              · replace h2 := B.t hB221 h2
                                refine J.opOff rfl rfl rfl rfl rfl rfl ?_
                                refine J.opOff rfl rfl rfl rfl rfl rfl ?_
                                refine J.op rfl rfl rfl (V.pkT rfl rfl rfl) ?_
                                refine J.op rfl rfl rfl (V.mv rfl rfl) ?_
                                refine J.opOff rfl rfl rfl rfl rfl rfl ?_
                                refine J.opOff rfl rfl rfl rfl rfl rfl ?_
                                refine J.opOff rfl rfl rfl rfl rfl rfl ?_
                                refine J.op rfl rfl rfl (V.pkT rfl rfl rfl) ?_
                                refine J.nil ?_
                                obtain rfl := B.e h2
                                refine J.tN (J.to () trivial ?_)
                                exact J.keep _ rfl (J.pickE [0, 1, 2, 3, 4, 5] rfl rfl J.here)
                              · replace h2 := B.f hB221 h2
                                refine J.opOn rfl rfl rfl rfl rfl (V.mv rfl rfl) ?_
                                refine J.opOn rfl rfl rfl rfl rfl (V.cmp rfl rfl rfl rfl) ?_
                                refine J.op rfl rfl rfl (V.pkF rfl rfl rfl) ?_
                                refine J.op rfl rfl rfl (V.mv rfl rfl) ?_
                                refine J.split 480 rfl (fun hB222 => ?_) (fun hB222 => ?_)
                                · replace h2 := B.t hB222 h2
                                  refine J.opOff rfl rfl rfl rfl rfl rfl ?_
                                  refine J.opOff rfl rfl rfl rfl rfl rfl ?_
                                  refine J.opOff rfl rfl rfl rfl rfl rfl ?_
                                  refine J.op rfl rfl rfl (V.pkT rfl rfl rfl) ?_
                                  refine J.nil ?_
                                  obtain rfl := B.e h2
                                  refine J.tN (J.to () trivial ?_)
                                  exact J.keep _ rfl (J.pickE [0, 1, 2, 3, 4, 5] rfl rfl J.here)
                                · replace h2 := B.f hB222 h2
                                  refine J.opOn rfl rfl rfl rfl rfl (V.mv rfl rfl) ?_
                                  refine J.opOn rfl rfl rfl rfl rfl (V.mv rfl rfl) ?_
                                  refine J.opOn rfl rfl rfl rfl rfl (V.cmp rfl rfl rfl rfl) ?_
                                  refine J.op rfl rfl rfl (V.pkF rfl rfl rfl) ?_
                                  refine J.nil ?_
                                  obtain rfl := B.e h2
                                  refine J.tN (J.to () trivial ?_)
                                  exact J.keep _ rfl (J.pickE [0, 1, 2, 3, 4, 5] rfl rfl J.here)
                            · intro gy220 _
                              refine J.cond rfl (fun hB224 => ?_) (fun hB224 => ?_)
                              · replace h1 := B.t hB224 h1
                                refine J.seq ?_
                                refine J.region ?_
                                refine J.op rfl rfl rfl (V.as rfl rfl) ?_
                                refine J.nil ?_
                                refine J.tN ?_
                                refine J.ret ?_
                                refine J.tR ?_
                                obtain rfl := B.e h1
                                replace h0 := B.inr h0
                                obtain rfl := B.e h0
                                exact J.ret1 rfl rfl fun w H => ⟨(), rfl, H.pick [] (by decide)⟩
                              · replace h1 := B.f hB224 h1
                                refine J.skip ?_
                                obtain rfl := B.e h1
                                refine J.tN (J.to ((), ()) rfl ?_)
                                exact J.keep _ rfl (J.pickE [0, 1, 2, 3, 4, 5] rfl rfl J.here)
                          · replace h1 := B.f hB210 h1
                            refine J.skip ?_
                            obtain rfl := B.e h1
                            refine J.tN (J.to ((), ()) rfl ?_)
                            exact J.keep _ rfl (J.pickE [0, 1, 2, 3, 4, 5] rfl rfl J.here)
                        · intro gy209 hG
                          replace h0 := B.inl hG h0
                          refine J.seq ?_
                          refine J.region ?_
                          refine J.op rfl rfl rfl (V.mv rfl rfl) ?_
                          obtain ⟨hC227, h0⟩ := B.chk h0
                          refine J.op rfl rfl rfl (V.ixNst 4 rfl rfl rfl rfl tl26 ts40 hC227) ?_
                          refine J.op rfl rfl rfl (V.ldN 4 rfl hC227 rfl rfl Try.underlying40 ta40) ?_
                          refine J.op rfl rfl rfl (V.mv rfl rfl) ?_
                          obtain ⟨r228, hr229, h0⟩ := B.bind h0
                          refine J.clA (l := [.tmp 488, .tmp 489]) [] [.rowE g187 2 (eI .i64) r185.1, .rowE g181 2 (eI .i64) r179.1, .rowE g97 2 (eI .i64) r95.1, .rowE g93 2 (eI .i64) r91.1, .nestE (.slice (some ⟨b28, 0, none⟩) 3 3) 40 78 enc_impl_Point [g14, g18, g26] [r12, r16, r24], .rowE v22 5 (eI .u8) ([5] ++ p0_code)] cf30 (wN rfl) rfl rfl rfl rfl rfl rfl (fun w H => impl_BlackTime.calls (nth [g14, g18, g26] 0) (rdN [r12, r16, r24] 0) r30 r228 w (Own.refl w) (Own.nelA 4 H rfl hC227) hr229) fun g230 => ?_
                          refine J.op rfl rfl rfl (V.mv rfl rfl) ?_
                          refine J.op rfl rfl rfl (V.ex rfl rfl rfl) ?_
                          refine J.op rfl rfl rfl (V.ex rfl rfl rfl) ?_
                          refine J.op rfl rfl rfl (V.as rfl rfl) ?_
                          refine J.op rfl rfl rfl (V.as rfl rfl) ?_
                          refine J.nil ?_
                          refine J.tN ?_
                          refine J.seq ?_
                          refine J.region ?_
                          refine J.op rfl rfl rfl (V.mv rfl rfl) ?_
                          obtain ⟨hC231, h0⟩ := B.chk h0
                          refine J.op rfl rfl rfl (V.ixNst 4 rfl rfl rfl rfl tl26 ts40 hC231) ?_
                          refine J.op rfl rfl rfl (V.ldN 4 rfl hC231 rfl rfl Try.underlying40 ta40) ?_
                          refine J.op rfl rfl rfl (V.mv rfl rfl) ?_
                          obtain ⟨r232, hr233, h0⟩ := B.bind h0
                          refine J.clA (l := [.tmp 496, .tmp 497]) [] [.rowE g187 2 (eI .i64) r185.1, .rowE g181 2 (eI .i64) r179.1, .rowE g97 2 (eI .i64) r95.1, .rowE g93 2 (eI .i64) r91.1, .nestE (.slice (some ⟨b28, 0, none⟩) 3 3) 40 78 enc_impl_Point [g14, g18, g26] [r12, r16, r24], .rowE v22 5 (eI .u8) ([5] ++ p0_code)] cf31 (wN rfl) rfl rfl rfl rfl rfl rfl (fun w H => spec_BlackTime.calls (nth [g14, g18, g26] 0) (rdN [r12, r16, r24] 0) r30 r232 w (Own.refl w) (Own.nelA 4 H rfl hC231) hr233) fun g234 => ?_
                          refine J.op rfl rfl rfl (V.mv rfl rfl) ?_
                          refine J.op rfl rfl rfl (V.ex rfl rfl rfl) ?_
                          refine J.op rfl rfl rfl (V.ex rfl rfl rfl) ?_
                          refine J.op rfl rfl rfl (V.as rfl rfl) ?_
                          refine J.op rfl rfl rfl (V.as rfl rfl) ?_
                          refine J.nil ?_
                          refine J.tN ?_
                          refine J.seq ?_
                          refine J.region ?_
                          refine J.op rfl rfl rfl (V.mv rfl rfl) ?_
                          obtain ⟨hC235, h0⟩ := B.chk h0
                          refine J.op rfl rfl rfl (V.ixNst 4 rfl rfl rfl rfl tl26 ts40 hC235) ?_
                          refine J.op rfl rfl rfl (V.ldN 4 rfl hC235 rfl rfl Try.underlying40 ta40) ?_
                          obtain ⟨r236, hr237, h0⟩ := B.bind h0
                          refine J.clA (l := [.tmp 504, .const (.int .i64 0)]) [] [.rowE g187 2 (eI .i64) r185.1, .rowE g181 2 (eI .i64) r179.1, .rowE g97 2 (eI .i64) r95.1, .rowE g93 2 (eI .i64) r91.1, .nestE (.slice (some ⟨b28, 0, none⟩) 3 3) 40 78 enc_impl_Point [g14, g18, g26] [r12, r16, r24], .rowE v22 5 (eI .u8) ([5] ++ p0_code)] cf30 (wN rfl) rfl rfl rfl rfl rfl rfl (fun w H => impl_BlackTime.calls (nth [g14, g18, g26] 0) (rdN [r12, r16, r24] 0) 0 r236 w (Own.refl w) (Own.nelA 4 H rfl hC235) hr237) fun g238 => ?_
                          refine J.op rfl rfl rfl (V.mv rfl rfl) ?_
                          refine J.op rfl rfl rfl (V.ex rfl rfl rfl) ?_
                          refine J.op rfl rfl rfl (V.ex rfl rfl rfl) ?_
                          refine J.op rfl rfl rfl (V.as rfl rfl) ?_
                          refine J.op rfl rfl rfl (V.as rfl rfl) ?_
                          refine J.nil ?_
                          refine J.tN ?_
                          refine J.seq ?_
                          refine J.region ?_
                          refine J.op rfl rfl rfl (V.mv rfl rfl) ?_
                          refine J.op rfl rfl rfl (V.mv rfl rfl) ?_
                          refine J.op rfl rfl rfl (V.cmp rfl rfl rfl rfl) ?_
                          refine J.op rfl rfl rfl (V.mv rfl rfl) ?_
                          refine J.split 511 rfl (fun hB239 => ?_) (fun hB239 => ?_)
                          · replace h0 := B.t hB239 h0
                            refine J.opOn rfl rfl rfl rfl rfl (V.mv rfl rfl) ?_
                            refine J.opOn rfl rfl rfl rfl rfl (V.mv rfl rfl) ?_
                            refine J.opOn rfl rfl rfl rfl rfl (V.cmp rfl rfl rfl rfl) ?_
                            refine J.op rfl rfl rfl (V.pkT rfl rfl rfl) ?_
                            refine J.op rfl rfl rfl (V.mv rfl rfl) ?_
                            refine J.split 516 rfl (fun hB240 => ?_) (fun hB240 => ?_)
                            · replace h0 := B.t hB240 h0
                              refine J.opOn rfl rfl rfl rfl rfl (V.mv rfl rfl) ?_
                              refine J.opOn rfl rfl rfl rfl rfl (V.cmp rfl rfl rfl rfl) ?_
                              refine J.op rfl rfl rfl (V.pkT rfl rfl rfl) ?_
                              refine J.op rfl rfl rfl (V.mv rfl rfl) ?_
                              refine J.split 520 rfl (fun hB241 => ?_) (fun hB241 => ?_)
                              · replace h0 := B.t hB241 h0
                                refine J.opOn rfl rfl rfl rfl rfl (V.mv rfl rfl) ?_
                                refine J.opOn rfl rfl rfl rfl rfl (V.cmp rfl rfl rfl rfl) ?_
                                refine J.op rfl rfl rfl (V.pkT rfl rfl rfl) ?_
                                refine J.op rfl rfl rfl (V.mv rfl rfl) ?_
                                refine J.split 524 rfl (fun hB242 => ?_) (fun hB242 => ?_)
                                · replace h0 := B.t hB242 h0
                                  refine J.opOn rfl rfl rfl rfl rfl (V.mv rfl rfl) ?_
                                  refine J.opOn rfl rfl rfl rfl rfl (V.cmp rfl rfl rfl rfl) ?_
                                  refine J.op rfl rfl rfl (V.pkT rfl rfl rfl) ?_
                                  refine J.op rfl rfl rfl (V.as rfl rfl) ?_
                                  obtain ⟨t243, et243, h0⟩ := B.lt h0
                                  refine J.val (congrArg (Value.bool) et243) ?_
                                  refine J.nil ?_
                                  refine J.tN ?_
                                  refine J.ret ?_
                                  obtain rfl := B.e h0
                                  exact J.ret1 rfl rfl fun w H => ⟨(), rfl, H.pick [] (by decide)⟩
                                · replace h0 := B.f hB242 h0
                                  refine J.opOff rfl rfl rfl rfl rfl rfl ?_
                                  refine J.opOff rfl rfl rfl rfl rfl rfl ?_
                                  refine J.op rfl rfl rfl (V.pkF rfl rfl rfl) ?_
                                  refine J.op rfl rfl rfl (V.as rfl rfl) ?_
                                  refine J.nil ?_
                                  refine J.tN ?_
                                  refine J.ret ?_
                                  obtain rfl := B.e h0
                                  exact J.ret1 rfl rfl fun w H => ⟨(), rfl, H.pick [] (by decide)⟩
                              · replace h0 := B.f hB241 h0
                                refine J.opOff rfl rfl rfl rfl rfl rfl ?_
                                refine J.opOff rfl rfl rfl rfl rfl rfl ?_
                                refine J.op rfl rfl rfl (V.pkF rfl rfl rfl) ?_
                                refine J.op rfl rfl rfl (V.mv rfl rfl) ?_
                                refine J.opOff rfl rfl rfl rfl rfl rfl ?_
                                refine J.opOff rfl rfl rfl rfl rfl rfl ?_
                                refine J.op rfl rfl rfl (V.pkF rfl rfl rfl) ?_
                                refine J.op rfl rfl rfl (V.as rfl rfl) ?_
                                refine J.nil ?_
                                refine J.tN ?_
                                refine J.ret ?_
                                obtain rfl := B.e h0
                                exact J.ret1 rfl rfl fun w H => ⟨(), rfl, H.pick [] (by decide)⟩
                            · replace h0 := B.f hB240 h0
                              refine J.opOff rfl rfl rfl rfl rfl rfl ?_
                              refine J.opOff rfl rfl rfl rfl rfl rfl ?_
                              refine J.op rfl rfl rfl (V.pkF rfl rfl rfl) ?_
                              refine J.op rfl rfl rfl (V.mv rfl rfl) ?_
                              refine J.opOff rfl rfl rfl rfl rfl rfl ?_
                              refine J.opOff rfl rfl rfl rfl rfl rfl ?_
                              refine J.op rfl rfl rfl (V.pkF rfl rfl rfl) ?_
                              refine J.op rfl rfl rfl (V.mv rfl rfl) ?_
                              refine J.opOff rfl rfl rfl rfl rfl rfl ?_
                              refine J.opOff rfl rfl rfl rfl rfl rfl ?_
                              refine J.op rfl rfl rfl (V.pkF rfl rfl rfl) ?_
                              refine J.op rfl rfl rfl (V.as rfl rfl) ?_
                              refine J.nil ?_
                              refine J.tN ?_
                              refine J.ret ?_
                              obtain rfl := B.e h0
                              exact J.ret1 rfl rfl fun w H => ⟨(), rfl, H.pick [] (by decide)⟩
                          · replace h0 := B.f hB239 h0
                            refine J.opOff rfl rfl rfl rfl rfl rfl ?_
                            refine J.opOff rfl rfl rfl rfl rfl rfl ?_
                            refine J.opOff rfl rfl rfl rfl rfl rfl ?_
                            refine J.op rfl rfl rfl (V.pkF rfl rfl rfl) ?_
                            refine J.op rfl rfl rfl (V.mv rfl rfl) ?_
                            refine J.opOff rfl rfl rfl rfl rfl rfl ?_
                            refine J.opOff rfl rfl rfl rfl rfl rfl ?_
                            refine J.op rfl rfl rfl (V.pkF rfl rfl rfl) ?_
                            refine J.op rfl rfl rfl (V.mv rfl rfl) ?_
                            refine J.opOff rfl rfl rfl rfl rfl rfl ?_
                            refine J.opOff rfl rfl rfl rfl rfl rfl ?_
                            refine J.op rfl rfl rfl (V.pkF rfl rfl rfl) ?_
                            refine J.op rfl rfl rfl (V.mv rfl rfl) ?_
                            refine J.opOff rfl rfl rfl rfl rfl rfl ?_
                            refine J.opOff rfl rfl rfl rfl rfl rfl ?_
                            refine J.op rfl rfl rfl (V.pkF rfl rfl rfl) ?_
                            refine J.op rfl rfl rfl (V.as rfl rfl) ?_
                            refine J.nil ?_
                            refine J.tN ?_
                            refine J.ret ?_
                            obtain rfl := B.e h0
                            exact J.ret1 rfl rfl fun w H => ⟨(), rfl, H.pick [] (by decide)⟩

end Go.Proofs.Ytofhnioboihbgaa
