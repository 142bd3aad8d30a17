/- Go functions as Lean functions, and that each call of theirs comes to just that: by a program written for this work (walk.py). No condition. -/
import Derived.Test.YtfbkabcpmcofpaaF1
namespace Go.Proofs.Ytfbkabcpmcofpaa
open Go Go.RowKit G
set_option linter.unusedVariables false

/-! ### impl.ZoneOf: function 14 -/
noncomputable def impl_ZoneOf.f (p0_p : impl_Placement) (p1_reading : Int) : Option (Int × Int) := (impl_isPlacement.f (⟨p0_p.Reading, p0_p.Zone⟩ : impl_Placement)).bind fun r3 => (some (!r3)).bind fun t6 => bif t6 then (some (0, 1)) else ((impl_isReading.f p1_reading).bind fun r8 => (some (!r8)).bind fun t11 => bif t11 then (some (0, 2)) else ((impl_Placement_zone.f (⟨p0_p.Reading, p0_p.Zone⟩ : impl_Placement) p1_reading).bind fun r13 => some (r13, 0)))
set_option maxRecDepth 100000 in
theorem impl_ZoneOf.calls (p0_p : impl_Placement) (p1_reading : Int) (r : Int × Int) (w : World) (H0 : Own [] w w []) (h0 : impl_ZoneOf.f p0_p p1_reading = some r) :
    Calls Try.prog 14 #[.agg #[.int .i8 p0_p.Reading, .int .i8 p0_p.Zone], .int .i64 p1_reading] w (fun e w' => ∃ _ : Unit, e = .returned (.tuple #[.int .i64 r.1, .int .i64 r.2]) ∧ Own [] w w' []) := by
  unfold impl_ZoneOf.f at h0
  replace h0 := B.top h0
  refine calls_of_J (args := [.agg #[.int .i8 p0_p.Reading, .int .i8 p0_p.Zone], .int .i64 p1_reading]) Try.func14 rfl Try.ntmps14 rfl [(0, .agg #[.int .i8 p0_p.Reading, .int .i8 p0_p.Zone]), (1, .int .i64 p1_reading)] rfl H0 ?_
  refine J.seq ?_
  refine J.region ?_
  refine J.box rfl rfl rfl rfl rfl (fun _ _ => rfl) fun b1 => ?_
  refine J.op rfl rfl rfl (V.as rfl rfl) ?_
  refine J.op rfl rfl rfl (V.as rfl rfl) ?_
  refine J.nil ?_
  refine J.tN ?_
  refine J.seq ?_
  refine J.block ?_
  refine J.seq ?_
  refine J.region ?_
  refine J.op rfl rfl rfl (V.ldW 0 rfl rfl rfl ts35 ta35 rfl) ?_
  obtain ⟨r3, hr4, h0⟩ := B.bind h0
  refine J.cl (l := [.tmp 7]) [] [.blk b1 [.int .i8 p0_p.Reading, .int .i8 p0_p.Zone] 35] cf33 (wN rfl) rfl rfl rfl rfl rfl rfl (by simp) (fun w H => impl_isPlacement.calls (⟨p0_p.Reading, p0_p.Zone⟩ : impl_Placement) r3 w (Own.refl w)  hr4) fun g5 => ?_
  refine J.op rfl rfl rfl (V.nt rfl rfl) ?_
  refine J.op rfl rfl rfl (V.as rfl rfl) ?_
  obtain ⟨t6, et6, h0⟩ := B.lt h0
  refine J.val (congrArg (Value.bool) et6) ?_
  refine J.nil ?_
  refine J.tN ?_
  refine J.cond rfl (fun hB7 => ?_) (fun hB7 => ?_)
  · replace h0 := B.t hB7 h0
    refine J.seq ?_
    refine J.region ?_
    refine J.op rfl rfl rfl (V.as rfl rfl) ?_
    refine J.op rfl rfl rfl (V.as rfl rfl) ?_
    refine J.nil ?_
    refine J.tN ?_
    refine J.ret ?_
    refine J.bR ?_
    refine J.tR ?_
    obtain rfl := B.e h0
    exact J.ret2 rfl rfl rfl fun w H => ⟨(), rfl, H.pick [] (by decide)⟩
  · replace h0 := B.f hB7 h0
    refine J.seq ?_
    refine J.region ?_
    refine J.op rfl rfl rfl (V.mv rfl rfl) ?_
    obtain ⟨r8, hr9, h0⟩ := B.bind h0
    refine J.cl (l := [.tmp 11]) [] [.blk b1 [.int .i8 p0_p.Reading, .int .i8 p0_p.Zone] 35] cf34 (wN rfl) rfl rfl rfl rfl rfl rfl (by simp) (fun w H => impl_isReading.calls p1_reading r8 w (Own.refl w)  hr9) fun g10 => ?_
    refine J.op rfl rfl rfl (V.nt rfl rfl) ?_
    refine J.op rfl rfl rfl (V.as rfl rfl) ?_
    obtain ⟨t11, et11, h0⟩ := B.lt h0
    refine J.val (congrArg (Value.bool) et11) ?_
    refine J.nil ?_
    refine J.tN ?_
    refine J.cond rfl (fun hB12 => ?_) (fun hB12 => ?_)
    · replace h0 := B.t hB12 h0
      refine J.seq ?_
      refine J.region ?_
      refine J.op rfl rfl rfl (V.as rfl rfl) ?_
      refine J.op rfl rfl rfl (V.as rfl rfl) ?_
      refine J.nil ?_
      refine J.tN ?_
      refine J.ret ?_
      refine J.bR ?_
      refine J.tR ?_
      obtain rfl := B.e h0
      exact J.ret2 rfl rfl rfl fun w H => ⟨(), rfl, H.pick [] (by decide)⟩
    · replace h0 := B.f hB12 h0
      refine J.skip ?_
      refine J.bN ?_
      refine J.tN ?_
      refine J.seq ?_
      refine J.region ?_
      refine J.op rfl rfl rfl (V.ldW 0 rfl rfl rfl ts35 ta35 rfl) ?_
      refine J.op rfl rfl rfl (V.mv rfl rfl) ?_
      obtain ⟨r13, hr14, h0⟩ := B.bind h0
      refine J.cl (l := [.tmp 14, .tmp 15]) [] [.blk b1 [.int .i8 p0_p.Reading, .int .i8 p0_p.Zone] 35] cf35 (wN rfl) rfl rfl rfl rfl rfl rfl (by simp) (fun w H => impl_Placement_zone.calls (⟨p0_p.Reading, p0_p.Zone⟩ : impl_Placement) p1_reading r13 w (Own.refl w)  hr14) fun g15 => ?_
      refine J.op rfl rfl rfl (V.as rfl rfl) ?_
      refine J.op rfl rfl rfl (V.as rfl rfl) ?_
      refine J.nil ?_
      refine J.tN ?_
      refine J.ret ?_
      obtain rfl := B.e h0
      exact J.ret2 rfl rfl rfl fun w H => ⟨(), rfl, H.pick [] (by decide)⟩

/-! ### laws.FnContrast: function 3 -/
noncomputable def laws_FnContrast.f (p0_code : (List Int)) (p1_more : (List Int)) : Option (Bool) := (laws_a2Long.f p0_code p1_more).bind fun r1 => bif r1 then (some true) else ((spec_A2Scene.f p0_code).bind fun r5 => (spec_A2Field.f p1_more).bind fun r10 => bif (roomB [3].length p1_more.length 1) then ((spec_A2Field.f ([3] ++ p1_more)).bind fun r17 => (impl_BrighterField.f r5 r10 r17).bind fun r20 => (spec_BrighterField.f r5 r10 r17).bind fun r23 => (impl_BrighterField.f r5 r17 r10).bind fun r26 => (impl_DevelopBy.f r5 r10 r17).bind fun r29 => (spec_DevelopBy.f r5 r10 r17).bind fun r32 => (bif (r20.2 != r23.2) then (some true) else (bif (r20.1 != r23.1) then (some true) else (bif (r26.2 != r20.2) then (some true) else (bif (r29.2 != r32.2) then (some true) else (bif (r29.1 != r32.1) then (some true) else (bif (r20.2 == 0) then (some (r26.1 != (IntKind.wrap .i64 (0 - r23.1)))) else (some false)))))) : Option (Bool)).bind fun y35 => bif y35 then (some false) else ((bif (r10 == 0) then (some true) else (some (r17 == 0)) : Option (Bool)).bind fun y45 => bif y45 then (bif (r20.2 == 4) then ((some (r29.2 == 4)).bind fun t51 => some t51) else (some false)) else ((spec_FieldMean.f r5 r10).bind fun r52 => (spec_FieldMean.f r5 r17).bind fun r55 => (bif (r20.2 != 0) then (some true) else (bif (r52.2 != 0) then (some true) else (bif (r55.2 != 0) then (some true) else (bif (!((decide (0 < r23.1)) == (decide (r55.1 < r52.1)))) then (some true) else (bif (!((decide (r23.1 < 0)) == (decide (r52.1 < r55.1)))) then (some true) else (some (!((r29.2 == 4) == (decide (r55.1 < r52.1))))))))) : Option (Bool)).bind fun y58 => bif y58 then (some false) else (bif (r29.2 != 0) then ((some (r29.2 == 4)).bind fun t68 => some t68) else ((impl_ZoneOf.f (⟨IntKind.wrap .i8 r52.1, 3⟩ : impl_Placement) r55.1).bind fun r69 => bif (r69.2 == 0) then ((some (r32.1 == (IntKind.wrap .i64 (8 - r69.1)))).bind fun t73 => some t73) else (some false)))))) else none)
set_option maxRecDepth 100000 in
theorem laws_FnContrast.calls (v0 : Value) (p0_code : (List Int)) (v1 : Value) (p1_more : (List Int)) (r : Bool) (w : World) (H0 : Own [] w w []) (hS0 : SlE [] w v0 5 (eI .u8) p0_code) (hS1 : SlE [] w v1 5 (eI .u8) p1_more) (h0 : laws_FnContrast.f p0_code p1_more = some r) :
    Calls Try.prog 3 #[v0, v1] w (fun e w' => ∃ _ : Unit, e = .returned (.bool r) ∧ Own [] w w' []) := by
  unfold laws_FnContrast.f at h0
  replace h0 := B.top h0
  refine calls_of_J (args := [v0, v1]) Try.func3 rfl Try.ntmps3 rfl [(0, v0), (1, v1)] rfl H0 ?_
  refine J.seq ?_
  refine J.region ?_
  refine J.op rfl rfl rfl (V.as rfl rfl) ?_
  refine J.nil ?_
  refine J.tN ?_
  refine J.seq ?_
  refine J.seq ?_
  refine J.region ?_
  refine J.op rfl rfl rfl (V.mv rfl rfl) ?_
  refine J.op rfl rfl rfl (V.mv rfl rfl) ?_
  obtain ⟨r1, hr2, h0⟩ := B.bind h0
  refine J.cl (l := [.tmp 24, .tmp 25]) [] [] cf6 (wN rfl) rfl rfl rfl rfl rfl rfl (by simp) (fun w H => laws_a2Long.calls v0 p0_code v1 p1_more r1 w (Own.refl w) (Sl.later0 hS0 H) (Sl.later0 hS1 H) hr2) fun g3 => ?_
  refine J.nil ?_
  refine J.tN ?_
  refine J.cond rfl (fun hB4 => ?_) (fun hB4 => ?_)
  · replace h0 := B.t hB4 h0
    refine J.seq ?_
    refine J.region ?_
    refine J.op rfl rfl rfl (V.as rfl rfl) ?_
    refine J.nil ?_
    refine J.tN ?_
    refine J.ret ?_
    refine J.tR ?_
    obtain rfl := B.e h0
    exact J.ret1 rfl rfl fun w H => ⟨(), rfl, H.pick [] (by decide)⟩
  · replace h0 := B.f hB4 h0
    refine J.skip ?_
    refine J.tN ?_
    refine J.seq ?_
    refine J.region ?_
    refine J.op rfl rfl rfl (V.mv rfl rfl) ?_
    obtain ⟨r5, hr6, h0⟩ := B.bind h0
    refine J.cl (l := [.tmp 27]) [] [] cf7 (wN rfl) rfl rfl rfl rfl rfl rfl (by simp) (fun w H => spec_A2Scene.calls v0 p0_code r5 w (Own.refl w) (Sl.later0 hS0 H) hr6) fun g7 => ?_
    refine J.alloc rfl rfl rfl rfl tz26 rfl fun b8 => ?_
    refine J.stW (cs' := encA .i8 r5) 0 rfl rfl rfl rfl rfl rfl ts26 rfl (encA_one .i8 _) (encA_len _ _) (encA_len _ _) ?_
    refine J.nil ?_
    refine J.tN ?_
    refine J.seq ?_
    refine J.region ?_
    refine J.op rfl rfl rfl (V.mv rfl rfl) ?_
    obtain ⟨r10, hr11, h0⟩ := B.bind h0
    refine J.cl (l := [.tmp 29]) [] [.blk b8 (encA .i8 r5) 26] cf8 (wN rfl) rfl rfl rfl rfl rfl rfl (by simp) (fun w H => spec_A2Field.calls v1 p1_more r10 w (Own.refl w) (Sl.later0 hS1 H) hr11) fun g12 => ?_
    refine J.op rfl rfl rfl (V.as rfl rfl) ?_
    refine J.nil ?_
    refine J.tN ?_
    refine J.seq ?_
    refine J.region ?_
    refine J.bs (l := [(0, .const (.int .u8 3))]) (cs := [.int .u8 3]) (E := 5) rfl rfl rfl rfl rfl (fun w => by kernel_rfl) fun b13 => ?_
    refine J.op rfl rfl rfl (V.mv rfl rfl) ?_
    refine J.blkRowE (eI .u8) [3] 1 rfl rfl rfl ?_
    obtain ⟨hC16, h0⟩ := B.chk h0
    obtain ⟨_, ti1, ti2, ti3, ti4⟩ := ti5
    refine J.ap2 (e := (eI .u8)) (xs := [3]) 0 hS1 hC16 ti1 tl22 ti2 ti3 ti4 rfl rfl rfl rfl rfl rfl rfl rfl rfl fun v15 => ?_
    obtain ⟨r17, hr18, h0⟩ := B.bind h0
    refine J.cl (l := [.tmp 33]) [] [.rowE v15 5 (eI .u8) ([3] ++ p1_more), .blk b8 (encA .i8 r5) 26] cf8 (wN rfl) rfl rfl rfl rfl rfl rfl (by simp) (fun w H => spec_A2Field.calls v15 ([3] ++ p1_more) r17 w (Own.refl w) (Own.sl0 0 H rfl) hr18) fun g19 => ?_
    refine J.op rfl rfl rfl (V.as rfl rfl) ?_
    refine J.nil ?_
    refine J.tN ?_
    refine J.seq ?_
    refine J.region ?_
    refine J.op rfl rfl rfl (V.ldW 1 rfl rfl rfl ts26 ta26 (encA_len _ _)) ?_
    refine J.op rfl rfl rfl (V.mv rfl rfl) ?_
    refine J.op rfl rfl rfl (V.mv rfl rfl) ?_
    obtain ⟨r20, hr21, h0⟩ := B.bind h0
    refine J.cl (l := [.tmp 36, .tmp 37, .tmp 38]) [] [.rowE v15 5 (eI .u8) ([3] ++ p1_more), .blk b8 (encA .i8 r5) 26] cf9 (wN rfl) rfl rfl rfl rfl rfl rfl (by simp) (fun w H => impl_BrighterField.calls r5 r10 r17 r20 w (Own.refl w)  hr21) fun g22 => ?_
    refine J.op rfl rfl rfl (V.mv rfl rfl) ?_
    refine J.op rfl rfl rfl (V.ex rfl rfl rfl) ?_
    refine J.op rfl rfl rfl (V.ex rfl rfl rfl) ?_
    refine J.op rfl rfl rfl (V.as rfl rfl) ?_
    refine J.op rfl rfl rfl (V.as rfl rfl) ?_
    refine J.nil ?_
    refine J.tN ?_
    refine J.seq ?_
    refine J.region ?_
    refine J.op rfl rfl rfl (V.ldW 1 rfl rfl rfl ts26 ta26 (encA_len _ _)) ?_
    refine J.op rfl rfl rfl (V.mv rfl rfl) ?_
    refine J.op rfl rfl rfl (V.mv rfl rfl) ?_
    obtain ⟨r23, hr24, h0⟩ := B.bind h0
    refine J.cl (l := [.tmp 43, .tmp 44, .tmp 45]) [] [.rowE v15 5 (eI .u8) ([3] ++ p1_more), .blk b8 (encA .i8 r5) 26] cf10 (wN rfl) rfl rfl rfl rfl rfl rfl (by simp) (fun w H => spec_BrighterField.calls r5 r10 r17 r23 w (Own.refl w)  hr24) fun g25 => ?_
    refine J.op rfl rfl rfl (V.mv rfl rfl) ?_
    refine J.op rfl rfl rfl (V.ex rfl rfl rfl) ?_
    refine J.op rfl rfl rfl (V.ex rfl rfl rfl) ?_
    refine J.op rfl rfl rfl (V.as rfl rfl) ?_
    refine J.op rfl rfl rfl (V.as rfl rfl) ?_
    refine J.nil ?_
    refine J.tN ?_
    refine J.seq ?_
    refine J.region ?_
    refine J.op rfl rfl rfl (V.ldW 1 rfl rfl rfl ts26 ta26 (encA_len _ _)) ?_
    refine J.op rfl rfl rfl (V.mv rfl rfl) ?_
    refine J.op rfl rfl rfl (V.mv rfl rfl) ?_
    obtain ⟨r26, hr27, h0⟩ := B.bind h0
    refine J.cl (l := [.tmp 50, .tmp 51, .tmp 52]) [] [.rowE v15 5 (eI .u8) ([3] ++ p1_more), .blk b8 (encA .i8 r5) 26] cf9 (wN rfl) rfl rfl rfl rfl rfl rfl (by simp) (fun w H => impl_BrighterField.calls r5 r17 r10 r26 w (Own.refl w)  hr27) fun g28 => ?_
    refine J.op rfl rfl rfl (V.mv rfl rfl) ?_
    refine J.op rfl rfl rfl (V.ex rfl rfl rfl) ?_
    refine J.op rfl rfl rfl (V.ex rfl rfl rfl) ?_
    refine J.op rfl rfl rfl (V.as rfl rfl) ?_
    refine J.op rfl rfl rfl (V.as rfl rfl) ?_
    refine J.nil ?_
    refine J.tN ?_
    refine J.seq ?_
    refine J.region ?_
    refine J.op rfl rfl rfl (V.ldW 1 rfl rfl rfl ts26 ta26 (encA_len _ _)) ?_
    refine J.op rfl rfl rfl (V.mv rfl rfl) ?_
    refine J.op rfl rfl rfl (V.mv rfl rfl) ?_
    obtain ⟨r29, hr30, h0⟩ := B.bind h0
    refine J.cl (l := [.tmp 57, .tmp 58, .tmp 59]) [] [.rowE v15 5 (eI .u8) ([3] ++ p1_more), .blk b8 (encA .i8 r5) 26] cf11 (wN rfl) rfl rfl rfl rfl rfl rfl (by simp) (fun w H => impl_DevelopBy.calls r5 r10 r17 r29 w (Own.refl w)  hr30) fun g31 => ?_
    refine J.op rfl rfl rfl (V.mv rfl rfl) ?_
    refine J.op rfl rfl rfl (V.ex rfl rfl rfl) ?_
    refine J.op rfl rfl rfl (V.ex rfl rfl rfl) ?_
    refine J.op rfl rfl rfl (V.as rfl rfl) ?_
    refine J.op rfl rfl rfl (V.as rfl rfl) ?_
    refine J.nil ?_
    refine J.tN ?_
    refine J.seq ?_
    refine J.region ?_
    refine J.op rfl rfl rfl (V.ldW 1 rfl rfl rfl ts26 ta26 (encA_len _ _)) ?_
    refine J.op rfl rfl rfl (V.mv rfl rfl) ?_
    refine J.op rfl rfl rfl (V.mv rfl rfl) ?_
    obtain ⟨r32, hr33, h0⟩ := B.bind h0
    refine J.cl (l := [.tmp 64, .tmp 65, .tmp 66]) [] [.rowE v15 5 (eI .u8) ([3] ++ p1_more), .blk b8 (encA .i8 r5) 26] cf12 (wN rfl) rfl rfl rfl rfl rfl rfl (by simp) (fun w H => spec_DevelopBy.calls r5 r10 r17 r32 w (Own.refl w)  hr33) fun g34 => ?_
    refine J.op rfl rfl rfl (V.mv rfl rfl) ?_
    refine J.op rfl rfl rfl (V.ex rfl rfl rfl) ?_
    refine J.op rfl rfl rfl (V.ex rfl rfl rfl) ?_
    refine J.op rfl rfl rfl (V.as rfl rfl) ?_
    refine J.op rfl rfl rfl (V.as rfl rfl) ?_
    refine J.nil ?_
    refine J.tN ?_
    refine J.seq ?_
    refine J.seq ?_
    obtain ⟨y35, hy43, h0⟩ := B.bind h0
    replace hy43 := B.top hy43
    refine J.cut (γ := Unit) (fun _ => True) (fun gy36 => [(5, bp b8 0), (6, .int .u32 r10), (7, .int .u32 r17), (9, .int .i64 r20.2), (10, .int .i64 r23.1), (15, .int .i64 r29.2), (16, .int .i64 r32.1), (102, .bool y35)]) (fun gy36 => [.rowE v15 5 (eI .u8) ([3] ++ p1_more), .blk b8 (encA .i8 r5) 26]) ?_ ?_
    · have h1 := hy43
      refine J.region ?_
      refine J.op rfl rfl rfl (V.mv rfl rfl) ?_
      refine J.op rfl rfl rfl (V.mv rfl rfl) ?_
      refine J.op rfl rfl rfl (V.cmp rfl rfl rfl rfl) ?_
      refine J.op rfl rfl rfl (V.mv rfl rfl) ?_
      refine J.split 73 rfl (fun hB37 => ?_) (fun hB37 => ?_)
      · replace h1 := B.t hB37 h1
        refine J.opOff rfl rfl rfl rfl rfl rfl ?_
        refine J.opOff rfl rfl rfl rfl rfl rfl ?_
        refine J.opOff rfl rfl rfl rfl rfl rfl ?_
        refine J.op rfl rfl rfl (V.pkT rfl rfl rfl) ?_
        refine J.op rfl rfl rfl (V.mv rfl rfl) ?_
        refine J.opOff rfl rfl rfl rfl rfl rfl ?_
        refine J.opOff rfl rfl rfl rfl rfl rfl ?_
        refine J.opOff rfl rfl rfl rfl rfl rfl ?_
        refine J.op rfl rfl rfl (V.pkT rfl rfl rfl) ?_
        refine J.op rfl rfl rfl (V.mv rfl rfl) ?_
        refine J.opOff rfl rfl rfl rfl rfl rfl ?_
        refine J.opOff rfl rfl rfl rfl rfl rfl ?_
        refine J.opOff rfl rfl rfl rfl rfl rfl ?_
        refine J.op rfl rfl rfl (V.pkT rfl rfl rfl) ?_
        refine J.op rfl rfl rfl (V.mv rfl rfl) ?_
        refine J.opOff rfl rfl rfl rfl rfl rfl ?_
        refine J.opOff rfl rfl rfl rfl rfl rfl ?_
        refine J.opOff rfl rfl rfl rfl rfl rfl ?_
        refine J.op rfl rfl rfl (V.pkT rfl rfl rfl) ?_
        refine J.op rfl rfl rfl (V.mv rfl rfl) ?_
        refine J.opOff rfl rfl rfl rfl rfl rfl ?_
        refine J.opOff rfl rfl rfl rfl rfl rfl ?_
        refine J.opOff rfl rfl rfl rfl rfl rfl ?_
        refine J.opOffU rfl rfl rfl rfl rfl ?_
        refine J.opOffU rfl rfl rfl rfl rfl ?_
        refine J.opOffU rfl rfl rfl rfl rfl ?_
        refine J.opOffU rfl rfl rfl rfl rfl ?_
        refine J.opOff rfl rfl rfl rfl rfl rfl ?_
        refine J.op rfl rfl rfl (V.pkT rfl rfl rfl) ?_
        refine J.nil ?_
        obtain rfl := B.e h1
        refine J.tN (J.to () trivial ?_)
        exact J.keep _ rfl (J.pickE [0, 1] rfl rfl J.here)
      · replace h1 := B.f hB37 h1
        refine J.opOn rfl rfl rfl rfl rfl (V.mv rfl rfl) ?_
        refine J.opOn rfl rfl rfl rfl rfl (V.mv rfl rfl) ?_
        refine J.opOn rfl rfl rfl rfl rfl (V.cmp rfl rfl rfl rfl) ?_
        refine J.op rfl rfl rfl (V.pkF rfl rfl rfl) ?_
        refine J.op rfl rfl rfl (V.mv rfl rfl) ?_
        refine J.split 78 rfl (fun hB38 => ?_) (fun hB38 => ?_)
        · replace h1 := B.t hB38 h1
          refine J.opOff rfl rfl rfl rfl rfl rfl ?_
          refine J.opOff rfl rfl rfl rfl rfl rfl ?_
          refine J.opOff rfl rfl rfl rfl rfl rfl ?_
          refine J.op rfl rfl rfl (V.pkT rfl rfl rfl) ?_
          refine J.op rfl rfl rfl (V.mv rfl rfl) ?_
          refine J.opOff rfl rfl rfl rfl rfl rfl ?_
          refine J.opOff rfl rfl rfl rfl rfl rfl ?_
          refine J.opOff rfl rfl rfl rfl rfl rfl ?_
          refine J.op rfl rfl rfl (V.pkT rfl rfl rfl) ?_
          refine J.op rfl rfl rfl (V.mv rfl rfl) ?_
          refine J.opOff rfl rfl rfl rfl rfl rfl ?_
          refine J.opOff rfl rfl rfl rfl rfl rfl ?_
          refine J.opOff rfl rfl rfl rfl rfl rfl ?_
          refine J.op rfl rfl rfl (V.pkT rfl rfl rfl) ?_
          refine J.op rfl rfl rfl (V.mv rfl rfl) ?_
          refine J.opOff rfl rfl rfl rfl rfl rfl ?_
          refine J.opOff rfl rfl rfl rfl rfl rfl ?_
          refine J.opOff rfl rfl rfl rfl rfl rfl ?_
          refine J.opOffU rfl rfl rfl rfl rfl ?_
          refine J.opOffU rfl rfl rfl rfl rfl ?_
          refine J.opOffU rfl rfl rfl rfl rfl ?_
          refine J.opOffU rfl rfl rfl rfl rfl ?_
          refine J.opOff rfl rfl rfl rfl rfl rfl ?_
          refine J.op rfl rfl rfl (V.pkT rfl rfl rfl) ?_
          refine J.nil ?_
          obtain rfl := B.e h1
          refine J.tN (J.to () trivial ?_)
          exact J.keep _ rfl (J.pickE [0, 1] rfl rfl J.here)
        · replace h1 := B.f hB38 h1
          refine J.opOn rfl rfl rfl rfl rfl (V.mv rfl rfl) ?_
          refine J.opOn rfl rfl rfl rfl rfl (V.mv rfl rfl) ?_
          refine J.opOn rfl rfl rfl rfl rfl (V.cmp rfl rfl rfl rfl) ?_
          refine J.op rfl rfl rfl (V.pkF rfl rfl rfl) ?_
          refine J.op rfl rfl rfl (V.mv rfl rfl) ?_
          refine J.split 83 rfl (fun hB39 => ?_) (fun hB39 => ?_)
          · replace h1 := B.t hB39 h1
            refine J.opOff rfl rfl rfl rfl rfl rfl ?_
            refine J.opOff rfl rfl rfl rfl rfl rfl ?_
            refine J.opOff rfl rfl rfl rfl rfl rfl ?_
            refine J.op rfl rfl rfl (V.pkT rfl rfl rfl) ?_
            refine J.op rfl rfl rfl (V.mv rfl rfl) ?_
            refine J.opOff rfl rfl rfl rfl rfl rfl ?_
            refine J.opOff rfl rfl rfl rfl rfl rfl ?_
            refine J.opOff rfl rfl rfl rfl rfl rfl ?_
            refine J.op rfl rfl rfl (V.pkT rfl rfl rfl) ?_
            refine J.op rfl rfl rfl (V.mv rfl rfl) ?_
            refine J.opOff rfl rfl rfl rfl rfl rfl ?_
            refine J.opOff rfl rfl rfl rfl rfl rfl ?_
            refine J.opOff rfl rfl rfl rfl rfl rfl ?_
            refine J.opOffU rfl rfl rfl rfl rfl ?_
            refine J.opOffU rfl rfl rfl rfl rfl ?_
            refine J.opOffU rfl rfl rfl rfl rfl ?_
            refine J.opOffU rfl rfl rfl rfl rfl ?_
            refine J.opOff rfl rfl rfl rfl rfl rfl ?_
            refine J.op rfl rfl rfl (V.pkT rfl rfl rfl) ?_
            refine J.nil ?_
            obtain rfl := B.e h1
            refine J.tN (J.to () trivial ?_)
            exact J.keep _ rfl (J.pickE [0, 1] rfl rfl J.here)
          · replace h1 := B.f hB39 h1
            refine J.opOn rfl rfl rfl rfl rfl (V.mv rfl rfl) ?_
            refine J.opOn rfl rfl rfl rfl rfl (V.mv rfl rfl) ?_
            refine J.opOn rfl rfl rfl rfl rfl (V.cmp rfl rfl rfl rfl) ?_
            refine J.op rfl rfl rfl (V.pkF rfl rfl rfl) ?_
            refine J.op rfl rfl rfl (V.mv rfl rfl) ?_
            refine J.split 88 rfl (fun hB40 => ?_) (fun hB40 => ?_)
            · replace h1 := B.t hB40 h1
              refine J.opOff rfl rfl rfl rfl rfl rfl ?_
              refine J.opOff rfl rfl rfl rfl rfl rfl ?_
              refine J.opOff rfl rfl rfl rfl rfl rfl ?_
              refine J.op rfl rfl rfl (V.pkT rfl rfl rfl) ?_
              refine J.op rfl rfl rfl (V.mv rfl rfl) ?_
              refine J.opOff rfl rfl rfl rfl rfl rfl ?_
              refine J.opOff rfl rfl rfl rfl rfl rfl ?_
              refine J.opOff rfl rfl rfl rfl rfl rfl ?_
              refine J.opOffU rfl rfl rfl rfl rfl ?_
              refine J.opOffU rfl rfl rfl rfl rfl ?_
              refine J.opOffU rfl rfl rfl rfl rfl ?_
              refine J.opOffU rfl rfl rfl rfl rfl ?_
              refine J.opOff rfl rfl rfl rfl rfl rfl ?_
              refine J.op rfl rfl rfl (V.pkT rfl rfl rfl) ?_
              refine J.nil ?_
              obtain rfl := B.e h1
              refine J.tN (J.to () trivial ?_)
              exact J.keep _ rfl (J.pickE [0, 1] rfl rfl J.here)
            · replace h1 := B.f hB40 h1
              refine J.opOn rfl rfl rfl rfl rfl (V.mv rfl rfl) ?_
              refine J.opOn rfl rfl rfl rfl rfl (V.mv rfl rfl) ?_
              refine J.opOn rfl rfl rfl rfl rfl (V.cmp rfl rfl rfl rfl) ?_
              refine J.op rfl rfl rfl (V.pkF rfl rfl rfl) ?_
              refine J.op rfl rfl rfl (V.mv rfl rfl) ?_
              refine J.split 93 rfl (fun hB41 => ?_) (fun hB41 => ?_)
              · replace h1 := B.t hB41 h1
                refine J.opOff rfl rfl rfl rfl rfl rfl ?_
                refine J.opOff rfl rfl rfl rfl rfl rfl ?_
                refine J.opOff rfl rfl rfl rfl rfl rfl ?_
                refine J.opOffU rfl rfl rfl rfl rfl ?_
                refine J.opOffU rfl rfl rfl rfl rfl ?_
                refine J.opOffU rfl rfl rfl rfl rfl ?_
                refine J.opOffU rfl rfl rfl rfl rfl ?_
                refine J.opOff rfl rfl rfl rfl rfl rfl ?_
                refine J.op rfl rfl rfl (V.pkT rfl rfl rfl) ?_
                refine J.nil ?_
                obtain rfl := B.e h1
                refine J.tN (J.to () trivial ?_)
                exact J.keep _ rfl (J.pickE [0, 1] rfl rfl J.here)
              · replace h1 := B.f hB41 h1
                refine J.opOn rfl rfl rfl rfl rfl (V.mv rfl rfl) ?_
                refine J.opOn rfl rfl rfl rfl rfl (V.cmp rfl rfl rfl rfl) ?_
                refine J.opOn rfl rfl rfl rfl rfl (V.mv rfl rfl) ?_
                refine J.split 96 rfl (fun hB42 => ?_) (fun hB42 => ?_)
                · replace h1 := B.t hB42 h1
                  refine J.opOn rfl rfl rfl rfl rfl (V.mv rfl rfl) ?_
                  refine J.opOn rfl rfl rfl rfl rfl (V.mv rfl rfl) ?_
                  refine J.opOn rfl rfl rfl rfl rfl (V.ng rfl rfl) ?_
                  refine J.opOn rfl rfl rfl rfl rfl (V.cmp rfl rfl rfl rfl) ?_
                  refine J.opOn rfl rfl rfl rfl rfl (V.pkT rfl rfl rfl) ?_
                  refine J.op rfl rfl rfl (V.pkF rfl rfl rfl) ?_
                  refine J.nil ?_
                  obtain rfl := B.e h1
                  refine J.tN (J.to () trivial ?_)
                  exact J.keep _ rfl (J.pickE [0, 1] rfl rfl J.here)
                · replace h1 := B.f hB42 h1
                  refine J.opOff rfl rfl rfl rfl rfl rfl ?_
                  refine J.opOff rfl rfl rfl rfl rfl rfl ?_
                  refine J.opOff rfl rfl rfl rfl rfl rfl ?_
                  refine J.opOff rfl rfl rfl rfl rfl rfl ?_
                  refine J.opOn rfl rfl rfl rfl rfl (V.pkF rfl rfl rfl) ?_
                  refine J.op rfl rfl rfl (V.pkF rfl rfl rfl) ?_
                  refine J.nil ?_
                  obtain rfl := B.e h1
                  refine J.tN (J.to () trivial ?_)
                  exact J.keep _ rfl (J.pickE [0, 1] rfl rfl J.here)
    · intro gy36 _
      refine J.cond rfl (fun hB44 => ?_) (fun hB44 => ?_)
      · replace h0 := B.t hB44 h0
        refine J.seq ?_
        refine J.region ?_
        refine J.op rfl rfl rfl (V.as rfl rfl) ?_
        refine J.nil ?_
        refine J.tN ?_
        refine J.ret ?_
        refine J.tR ?_
        obtain rfl := B.e h0
        exact J.ret1 rfl rfl fun w H => ⟨(), rfl, H.pick [] (by decide)⟩
      · replace h0 := B.f hB44 h0
        refine J.skip ?_
        refine J.tN ?_
        refine J.seq ?_
        refine J.seq ?_
        obtain ⟨y45, hy48, h0⟩ := B.bind h0
        replace hy48 := B.top hy48
        refine J.cut (γ := Unit) (fun _ => True) (fun gy46 => [(5, bp b8 0), (6, .int .u32 r10), (7, .int .u32 r17), (9, .int .i64 r20.2), (10, .int .i64 r23.1), (15, .int .i64 r29.2), (16, .int .i64 r32.1), (108, .bool y45)]) (fun gy46 => [.rowE v15 5 (eI .u8) ([3] ++ p1_more), .blk b8 (encA .i8 r5) 26]) ?_ ?_
        · have h1 := hy48
          refine J.region ?_
          refine J.op rfl rfl rfl (V.mv rfl rfl) ?_
          refine J.op rfl rfl rfl (V.cmp rfl rfl rfl rfl) ?_
          refine J.op rfl rfl rfl (V.mv rfl rfl) ?_
          refine J.split 105 rfl (fun hB47 => ?_) (fun hB47 => ?_)
          · replace h1 := B.t hB47 h1
            refine J.opOff rfl rfl rfl rfl rfl rfl ?_
            refine J.opOff rfl rfl rfl rfl rfl rfl ?_
            refine J.op rfl rfl rfl (V.pkT rfl rfl rfl) ?_
            refine J.nil ?_
            obtain rfl := B.e h1
            refine J.tN (J.to () trivial ?_)
            exact J.keep _ rfl (J.pickE [0, 1] rfl rfl J.here)
          · replace h1 := B.f hB47 h1
            refine J.opOn rfl rfl rfl rfl rfl (V.mv rfl rfl) ?_
            refine J.opOn rfl rfl rfl rfl rfl (V.cmp rfl rfl rfl rfl) ?_
            refine J.op rfl rfl rfl (V.pkF rfl rfl rfl) ?_
            refine J.nil ?_
            obtain rfl := B.e h1
            refine J.tN (J.to () trivial ?_)
            exact J.keep _ rfl (J.pickE [0, 1] rfl rfl J.here)
        · intro gy46 _
          refine J.cond rfl (fun hB49 => ?_) (fun hB49 => ?_)
          · replace h0 := B.t hB49 h0
            refine J.seq ?_
            refine J.region ?_
            refine J.op rfl rfl rfl (V.mv rfl rfl) ?_
            refine J.op rfl rfl rfl (V.cmp rfl rfl rfl rfl) ?_
            refine J.op rfl rfl rfl (V.mv rfl rfl) ?_
            refine J.split 111 rfl (fun hB50 => ?_) (fun hB50 => ?_)
            · replace h0 := B.t hB50 h0
              refine J.opOn rfl rfl rfl rfl rfl (V.mv rfl rfl) ?_
              refine J.opOn rfl rfl rfl rfl rfl (V.cmp rfl rfl rfl rfl) ?_
              refine J.op rfl rfl rfl (V.pkT rfl rfl rfl) ?_
              refine J.op rfl rfl rfl (V.as rfl rfl) ?_
              obtain ⟨t51, et51, h0⟩ := B.lt h0
              refine J.val (congrArg (Value.bool) et51) ?_
              refine J.nil ?_
              refine J.tN ?_
              refine J.ret ?_
              refine J.tR ?_
              obtain rfl := B.e h0
              exact J.ret1 rfl rfl fun w H => ⟨(), rfl, H.pick [] (by decide)⟩
            · replace h0 := B.f hB50 h0
              refine J.opOff rfl rfl rfl rfl rfl rfl ?_
              refine J.opOff rfl rfl rfl rfl rfl rfl ?_
              refine J.op rfl rfl rfl (V.pkF rfl rfl rfl) ?_
              refine J.op rfl rfl rfl (V.as rfl rfl) ?_
              refine J.nil ?_
              refine J.tN ?_
              refine J.ret ?_
              refine J.tR ?_
              obtain rfl := B.e h0
              exact J.ret1 rfl rfl fun w H => ⟨(), rfl, H.pick [] (by decide)⟩
          · replace h0 := B.f hB49 h0
            refine J.skip ?_
            refine J.tN ?_
            refine J.seq ?_
            refine J.region ?_
            refine J.op rfl rfl rfl (V.ldW 1 rfl rfl rfl ts26 ta26 (encA_len _ _)) ?_
            refine J.op rfl rfl rfl (V.mv rfl rfl) ?_
            obtain ⟨r52, hr53, h0⟩ := B.bind h0
            refine J.cl (l := [.tmp 116, .tmp 117]) [] [.rowE v15 5 (eI .u8) ([3] ++ p1_more), .blk b8 (encA .i8 r5) 26] cf13 (wN rfl) rfl rfl rfl rfl rfl rfl (by simp) (fun w H => spec_FieldMean.calls r5 r10 r52 w (Own.refl w)  hr53) fun g54 => ?_
            refine J.op rfl rfl rfl (V.mv rfl rfl) ?_
            refine J.op rfl rfl rfl (V.ex rfl rfl rfl) ?_
            refine J.op rfl rfl rfl (V.ex rfl rfl rfl) ?_
            refine J.op rfl rfl rfl (V.as rfl rfl) ?_
            refine J.op rfl rfl rfl (V.as rfl rfl) ?_
            refine J.nil ?_
            refine J.tN ?_
            refine J.seq ?_
            refine J.region ?_
            refine J.op rfl rfl rfl (V.ldW 1 rfl rfl rfl ts26 ta26 (encA_len _ _)) ?_
            refine J.op rfl rfl rfl (V.mv rfl rfl) ?_
            obtain ⟨r55, hr56, h0⟩ := B.bind h0
            refine J.cl (l := [.tmp 122, .tmp 123]) [] [.rowE v15 5 (eI .u8) ([3] ++ p1_more), .blk b8 (encA .i8 r5) 26] cf13 (wN rfl) rfl rfl rfl rfl rfl rfl (by simp) (fun w H => spec_FieldMean.calls r5 r17 r55 w (Own.refl w)  hr56) fun g57 => ?_
            refine J.op rfl rfl rfl (V.mv rfl rfl) ?_
            refine J.op rfl rfl rfl (V.ex rfl rfl rfl) ?_
            refine J.op rfl rfl rfl (V.ex rfl rfl rfl) ?_
            refine J.op rfl rfl rfl (V.as rfl rfl) ?_
            refine J.op rfl rfl rfl (V.as rfl rfl) ?_
            refine J.nil ?_
            refine J.tN ?_
            refine J.seq ?_
            refine J.seq ?_
            obtain ⟨y58, hy65, h0⟩ := B.bind h0
            replace hy65 := B.top hy65
            refine J.cut (γ := Unit) (fun _ => True) (fun gy59 => [(15, .int .i64 r29.2), (16, .int .i64 r32.1), (18, .int .i64 r52.1), (20, .int .i64 r55.1), (160, .bool y58)]) (fun gy59 => [.rowE v15 5 (eI .u8) ([3] ++ p1_more), .blk b8 (encA .i8 r5) 26]) ?_ ?_
            · have h1 := hy65
              refine J.region ?_
              refine J.op rfl rfl rfl (V.mv rfl rfl) ?_
              refine J.op rfl rfl rfl (V.cmp rfl rfl rfl rfl) ?_
              refine J.op rfl rfl rfl (V.mv rfl rfl) ?_
              refine J.split 129 rfl (fun hB60 => ?_) (fun hB60 => ?_)
              · replace h1 := B.t hB60 h1
                refine J.opOff rfl rfl rfl rfl rfl rfl ?_
                refine J.opOff rfl rfl rfl rfl rfl rfl ?_
                refine J.op rfl rfl rfl (V.pkT rfl rfl rfl) ?_
                refine J.op rfl rfl rfl (V.mv rfl rfl) ?_
                refine J.opOff rfl rfl rfl rfl rfl rfl ?_
                refine J.opOff rfl rfl rfl rfl rfl rfl ?_
                refine J.op rfl rfl rfl (V.pkT rfl rfl rfl) ?_
                refine J.op rfl rfl rfl (V.mv rfl rfl) ?_
                refine J.opOff rfl rfl rfl rfl rfl rfl ?_
                refine J.opOff rfl rfl rfl rfl rfl rfl ?_
                refine J.opOff rfl rfl rfl rfl rfl rfl ?_
                refine J.opOff rfl rfl rfl rfl rfl rfl ?_
                refine J.opOff rfl rfl rfl rfl rfl rfl ?_
                refine J.opOff rfl rfl rfl rfl rfl rfl ?_
                refine J.op rfl rfl rfl (V.pkT rfl rfl rfl) ?_
                refine J.op rfl rfl rfl (V.mv rfl rfl) ?_
                refine J.opOff rfl rfl rfl rfl rfl rfl ?_
                refine J.opOff rfl rfl rfl rfl rfl rfl ?_
                refine J.opOff rfl rfl rfl rfl rfl rfl ?_
                refine J.opOff rfl rfl rfl rfl rfl rfl ?_
                refine J.opOff rfl rfl rfl rfl rfl rfl ?_
                refine J.opOff rfl rfl rfl rfl rfl rfl ?_
                refine J.op rfl rfl rfl (V.pkT rfl rfl rfl) ?_
                refine J.op rfl rfl rfl (V.mv rfl rfl) ?_
                refine J.opOff rfl rfl rfl rfl rfl rfl ?_
                refine J.opOff rfl rfl rfl rfl rfl rfl ?_
                refine J.opOff rfl rfl rfl rfl rfl rfl ?_
                refine J.opOff rfl rfl rfl rfl rfl rfl ?_
                refine J.opOff rfl rfl rfl rfl rfl rfl ?_
                refine J.opOff rfl rfl rfl rfl rfl rfl ?_
                refine J.op rfl rfl rfl (V.pkT rfl rfl rfl) ?_
                refine J.nil ?_
                obtain rfl := B.e h1
                refine J.tN (J.to () trivial ?_)
                exact J.keep _ rfl (J.pickE [0, 1] rfl rfl J.here)
              · replace h1 := B.f hB60 h1
                refine J.opOn rfl rfl rfl rfl rfl (V.mv rfl rfl) ?_
                refine J.opOn rfl rfl rfl rfl rfl (V.cmp rfl rfl rfl rfl) ?_
                refine J.op rfl rfl rfl (V.pkF rfl rfl rfl) ?_
                refine J.op rfl rfl rfl (V.mv rfl rfl) ?_
                refine J.split 133 rfl (fun hB61 => ?_) (fun hB61 => ?_)
                · replace h1 := B.t hB61 h1
                  refine J.opOff rfl rfl rfl rfl rfl rfl ?_
                  refine J.opOff rfl rfl rfl rfl rfl rfl ?_
                  refine J.op rfl rfl rfl (V.pkT rfl rfl rfl) ?_
                  refine J.op rfl rfl rfl (V.mv rfl rfl) ?_
                  refine J.opOff rfl rfl rfl rfl rfl rfl ?_
                  refine J.opOff rfl rfl rfl rfl rfl rfl ?_
                  refine J.opOff rfl rfl rfl rfl rfl rfl ?_
                  refine J.opOff rfl rfl rfl rfl rfl rfl ?_
                  refine J.opOff rfl rfl rfl rfl rfl rfl ?_
                  refine J.opOff rfl rfl rfl rfl rfl rfl ?_
                  refine J.op rfl rfl rfl (V.pkT rfl rfl rfl) ?_
                  refine J.op rfl rfl rfl (V.mv rfl rfl) ?_
                  refine J.opOff rfl rfl rfl rfl rfl rfl ?_
                  refine J.opOff rfl rfl rfl rfl rfl rfl ?_
                  refine J.opOff rfl rfl rfl rfl rfl rfl ?_
                  refine J.opOff rfl rfl rfl rfl rfl rfl ?_
                  refine J.opOff rfl rfl rfl rfl rfl rfl ?_
                  refine J.opOff rfl rfl rfl rfl rfl rfl ?_
                  refine J.op rfl rfl rfl (V.pkT rfl rfl rfl) ?_
                  refine J.op rfl rfl rfl (V.mv rfl rfl) ?_
                  refine J.opOff rfl rfl rfl rfl rfl rfl ?_
                  refine J.opOff rfl rfl rfl rfl rfl rfl ?_
                  refine J.opOff rfl rfl rfl rfl rfl rfl ?_
                  refine J.opOff rfl rfl rfl rfl rfl rfl ?_
                  refine J.opOff rfl rfl rfl rfl rfl rfl ?_
                  refine J.opOff rfl rfl rfl rfl rfl rfl ?_
                  refine J.op rfl rfl rfl (V.pkT rfl rfl rfl) ?_
                  refine J.nil ?_
                  obtain rfl := B.e h1
                  refine J.tN (J.to () trivial ?_)
                  exact J.keep _ rfl (J.pickE [0, 1] rfl rfl J.here)
                · replace h1 := B.f hB61 h1
                  refine J.opOn rfl rfl rfl rfl rfl (V.mv rfl rfl) ?_
                  refine J.opOn rfl rfl rfl rfl rfl (V.cmp rfl rfl rfl rfl) ?_
                  refine J.op rfl rfl rfl (V.pkF rfl rfl rfl) ?_
                  refine J.op rfl rfl rfl (V.mv rfl rfl) ?_
                  refine J.split 137 rfl (fun hB62 => ?_) (fun hB62 => ?_)
                  · replace h1 := B.t hB62 h1
                    refine J.opOff rfl rfl rfl rfl rfl rfl ?_
                    refine J.opOff rfl rfl rfl rfl rfl rfl ?_
                    refine J.opOff rfl rfl rfl rfl rfl rfl ?_
                    refine J.opOff rfl rfl rfl rfl rfl rfl ?_
                    refine J.opOff rfl rfl rfl rfl rfl rfl ?_
                    refine J.opOff rfl rfl rfl rfl rfl rfl ?_
                    refine J.op rfl rfl rfl (V.pkT rfl rfl rfl) ?_
                    refine J.op rfl rfl rfl (V.mv rfl rfl) ?_
                    refine J.opOff rfl rfl rfl rfl rfl rfl ?_
                    refine J.opOff rfl rfl rfl rfl rfl rfl ?_
                    refine J.opOff rfl rfl rfl rfl rfl rfl ?_
                    refine J.opOff rfl rfl rfl rfl rfl rfl ?_
                    refine J.opOff rfl rfl rfl rfl rfl rfl ?_
                    refine J.opOff rfl rfl rfl rfl rfl rfl ?_
                    refine J.op rfl rfl rfl (V.pkT rfl rfl rfl) ?_
                    refine J.op rfl rfl rfl (V.mv rfl rfl) ?_
                    refine J.opOff rfl rfl rfl rfl rfl rfl ?_
                    refine J.opOff rfl rfl rfl rfl rfl rfl ?_
                    refine J.opOff rfl rfl rfl rfl rfl rfl ?_
                    refine J.opOff rfl rfl rfl rfl rfl rfl ?_
                    refine J.opOff rfl rfl rfl rfl rfl rfl ?_
                    refine J.opOff rfl rfl rfl rfl rfl rfl ?_
                    refine J.op rfl rfl rfl (V.pkT rfl rfl rfl) ?_
                    refine J.nil ?_
                    obtain rfl := B.e h1
                    refine J.tN (J.to () trivial ?_)
                    exact J.keep _ rfl (J.pickE [0, 1] rfl rfl J.here)
                  · replace h1 := B.f hB62 h1
                    refine J.opOn rfl rfl rfl rfl rfl (V.mv rfl rfl) ?_
                    refine J.opOn rfl rfl rfl rfl rfl (V.cmp rfl rfl rfl rfl) ?_
                    refine J.opOn rfl rfl rfl rfl rfl (V.mv rfl rfl) ?_
                    refine J.opOn rfl rfl rfl rfl rfl (V.mv rfl rfl) ?_
                    refine J.opOn rfl rfl rfl rfl rfl (V.cmp rfl rfl rfl rfl) ?_
                    refine J.opOn rfl rfl rfl rfl rfl (V.neB rfl rfl rfl Try.underlying4) ?_
                    refine J.op rfl rfl rfl (V.pkF rfl rfl rfl) ?_
                    refine J.op rfl rfl rfl (V.mv rfl rfl) ?_
                    refine J.split 145 rfl (fun hB63 => ?_) (fun hB63 => ?_)
                    · replace h1 := B.t hB63 h1
                      refine J.opOff rfl rfl rfl rfl rfl rfl ?_
                      refine J.opOff rfl rfl rfl rfl rfl rfl ?_
                      refine J.opOff rfl rfl rfl rfl rfl rfl ?_
                      refine J.opOff rfl rfl rfl rfl rfl rfl ?_
                      refine J.opOff rfl rfl rfl rfl rfl rfl ?_
                      refine J.opOff rfl rfl rfl rfl rfl rfl ?_
                      refine J.op rfl rfl rfl (V.pkT rfl rfl rfl) ?_
                      refine J.op rfl rfl rfl (V.mv rfl rfl) ?_
                      refine J.opOff rfl rfl rfl rfl rfl rfl ?_
                      refine J.opOff rfl rfl rfl rfl rfl rfl ?_
                      refine J.opOff rfl rfl rfl rfl rfl rfl ?_
                      refine J.opOff rfl rfl rfl rfl rfl rfl ?_
                      refine J.opOff rfl rfl rfl rfl rfl rfl ?_
                      refine J.opOff rfl rfl rfl rfl rfl rfl ?_
                      refine J.op rfl rfl rfl (V.pkT rfl rfl rfl) ?_
                      refine J.nil ?_
                      obtain rfl := B.e h1
                      refine J.tN (J.to () trivial ?_)
                      exact J.keep _ rfl (J.pickE [0, 1] rfl rfl J.here)
                    · replace h1 := B.f hB63 h1
                      refine J.opOn rfl rfl rfl rfl rfl (V.mv rfl rfl) ?_
                      refine J.opOn rfl rfl rfl rfl rfl (V.cmp rfl rfl rfl rfl) ?_
                      refine J.opOn rfl rfl rfl rfl rfl (V.mv rfl rfl) ?_
                      refine J.opOn rfl rfl rfl rfl rfl (V.mv rfl rfl) ?_
                      refine J.opOn rfl rfl rfl rfl rfl (V.cmp rfl rfl rfl rfl) ?_
                      refine J.opOn rfl rfl rfl rfl rfl (V.neB rfl rfl rfl Try.underlying4) ?_
                      refine J.op rfl rfl rfl (V.pkF rfl rfl rfl) ?_
                      refine J.op rfl rfl rfl (V.mv rfl rfl) ?_
                      refine J.split 153 rfl (fun hB64 => ?_) (fun hB64 => ?_)
                      · replace h1 := B.t hB64 h1
                        refine J.opOff rfl rfl rfl rfl rfl rfl ?_
                        refine J.opOff rfl rfl rfl rfl rfl rfl ?_
                        refine J.opOff rfl rfl rfl rfl rfl rfl ?_
                        refine J.opOff rfl rfl rfl rfl rfl rfl ?_
                        refine J.opOff rfl rfl rfl rfl rfl rfl ?_
                        refine J.opOff rfl rfl rfl rfl rfl rfl ?_
                        refine J.op rfl rfl rfl (V.pkT rfl rfl rfl) ?_
                        refine J.nil ?_
                        obtain rfl := B.e h1
                        refine J.tN (J.to () trivial ?_)
                        exact J.keep _ rfl (J.pickE [0, 1] rfl rfl J.here)
                      · replace h1 := B.f hB64 h1
                        refine J.opOn rfl rfl rfl rfl rfl (V.mv rfl rfl) ?_
                        refine J.opOn rfl rfl rfl rfl rfl (V.cmp rfl rfl rfl rfl) ?_
                        refine J.opOn rfl rfl rfl rfl rfl (V.mv rfl rfl) ?_
                        refine J.opOn rfl rfl rfl rfl rfl (V.mv rfl rfl) ?_
                        refine J.opOn rfl rfl rfl rfl rfl (V.cmp rfl rfl rfl rfl) ?_
                        refine J.opOn rfl rfl rfl rfl rfl (V.neB rfl rfl rfl Try.underlying4) ?_
                        refine J.op rfl rfl rfl (V.pkF rfl rfl rfl) ?_
                        refine J.nil ?_
                        obtain rfl := B.e h1
                        refine J.tN (J.to () trivial ?_)
                        exact J.keep _ rfl (J.pickE [0, 1] rfl rfl J.here)
            · intro gy59 _
              refine J.cond rfl (fun hB66 => ?_) (fun hB66 => ?_)
              · replace h0 := B.t hB66 h0
                refine J.seq ?_
                refine J.region ?_
                refine J.op rfl rfl rfl (V.as rfl rfl) ?_
                refine J.nil ?_
                refine J.tN ?_
                refine J.ret ?_
                refine J.tR ?_
                obtain rfl := B.e h0
                exact J.ret1 rfl rfl fun w H => ⟨(), rfl, H.pick [] (by decide)⟩
              · replace h0 := B.f hB66 h0
                refine J.skip ?_
                refine J.tN ?_
                refine J.seq ?_
                refine J.seq ?_
                refine J.region ?_
                refine J.op rfl rfl rfl (V.mv rfl rfl) ?_
                refine J.op rfl rfl rfl (V.cmp rfl rfl rfl rfl) ?_
                refine J.nil ?_
                refine J.tN ?_
                refine J.cond rfl (fun hB67 => ?_) (fun hB67 => ?_)
                · replace h0 := B.t hB67 h0
                  refine J.seq ?_
                  refine J.region ?_
                  refine J.op rfl rfl rfl (V.mv rfl rfl) ?_
                  refine J.op rfl rfl rfl (V.cmp rfl rfl rfl rfl) ?_
                  refine J.op rfl rfl rfl (V.as rfl rfl) ?_
                  obtain ⟨t68, et68, h0⟩ := B.lt h0
                  refine J.val (congrArg (Value.bool) et68) ?_
                  refine J.nil ?_
                  refine J.tN ?_
                  refine J.ret ?_
                  refine J.tR ?_
                  obtain rfl := B.e h0
                  exact J.ret1 rfl rfl fun w H => ⟨(), rfl, H.pick [] (by decide)⟩
                · replace h0 := B.f hB67 h0
                  refine J.skip ?_
                  refine J.tN ?_
                  refine J.seq ?_
                  refine J.region ?_
                  refine J.op rfl rfl rfl (V.mv rfl rfl) ?_
                  refine J.op rfl rfl rfl (V.conv rfl rfl Try.underlying2 Try.underlying24) ?_
                  refine J.op rfl rfl rfl (V.bd (l := [(0, .tmp 167), (1, .const (.int .i8 3))]) (v := .agg #[.int .i8 (IntKind.wrap .i8 r52.1), .int .i8 3]) rfl rfl (fun w H => by kernel_rfl)) ?_
                  refine J.op rfl rfl rfl (V.mv rfl rfl) ?_
                  obtain ⟨r69, hr70, h0⟩ := B.bind h0
                  refine J.cl (l := [.tmp 168, .tmp 169]) [] [.rowE v15 5 (eI .u8) ([3] ++ p1_more), .blk b8 (encA .i8 r5) 26] cf14 (wN rfl) rfl rfl rfl rfl rfl rfl (by simp) (fun w H => impl_ZoneOf.calls (⟨IntKind.wrap .i8 r52.1, 3⟩ : impl_Placement) r55.1 r69 w (Own.refl w)  hr70) fun g71 => ?_
                  refine J.op rfl rfl rfl (V.mv rfl rfl) ?_
                  refine J.op rfl rfl rfl (V.ex rfl rfl rfl) ?_
                  refine J.op rfl rfl rfl (V.ex rfl rfl rfl) ?_
                  refine J.op rfl rfl rfl (V.as rfl rfl) ?_
                  refine J.op rfl rfl rfl (V.as rfl rfl) ?_
                  refine J.nil ?_
                  refine J.tN ?_
                  refine J.seq ?_
                  refine J.region ?_
                  refine J.op rfl rfl rfl (V.mv rfl rfl) ?_
                  refine J.op rfl rfl rfl (V.cmp rfl rfl rfl rfl) ?_
                  refine J.op rfl rfl rfl (V.mv rfl rfl) ?_
                  refine J.split 175 rfl (fun hB72 => ?_) (fun hB72 => ?_)
                  · replace h0 := B.t hB72 h0
                    refine J.opOn rfl rfl rfl rfl rfl (V.mv rfl rfl) ?_
                    refine J.opOn rfl rfl rfl rfl rfl (V.mv rfl rfl) ?_
                    refine J.opOn rfl rfl rfl rfl rfl (V.ar rfl rfl rfl rfl) ?_
                    refine J.opOn rfl rfl rfl rfl rfl (V.cmp rfl rfl rfl rfl) ?_
                    refine J.op rfl rfl rfl (V.pkT rfl rfl rfl) ?_
                    refine J.op rfl rfl rfl (V.as rfl rfl) ?_
                    obtain ⟨t73, et73, h0⟩ := B.lt h0
                    refine J.val (congrArg (Value.bool) et73) ?_
                    refine J.nil ?_
                    refine J.tN ?_
                    refine J.ret ?_
                    obtain rfl := B.e h0
                    exact J.ret1 rfl rfl fun w H => ⟨(), rfl, H.pick [] (by decide)⟩
                  · replace h0 := B.f hB72 h0
                    refine J.opOff rfl rfl rfl rfl rfl rfl ?_
                    refine J.opOff rfl rfl rfl rfl rfl rfl ?_
                    refine J.opOff rfl rfl rfl rfl rfl rfl ?_
                    refine J.opOff rfl rfl rfl rfl rfl rfl ?_
                    refine J.op rfl rfl rfl (V.pkF rfl rfl rfl) ?_
                    refine J.op rfl rfl rfl (V.as rfl rfl) ?_
                    refine J.nil ?_
                    refine J.tN ?_
                    refine J.ret ?_
                    obtain rfl := B.e h0
                    exact J.ret1 rfl rfl fun w H => ⟨(), rfl, H.pick [] (by decide)⟩

end Go.Proofs.Ytfbkabcpmcofpaa
