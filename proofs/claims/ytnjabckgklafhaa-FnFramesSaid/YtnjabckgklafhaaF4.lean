/- Go functions as Lean functions, and that each call of theirs comes to just that: by a program written for this work (walk.py). No condition. -/
import Derived.Test.YtnjabckgklafhaaF3
namespace Go.Proofs.Ytnjabckgklafhaa
open Go Go.RowKit G
set_option linter.unusedVariables false

/-! ### impl.PlaceOf: function 18 -/
noncomputable def impl_PlaceOf.f (p0_s : impl_Sheet) (p1_frame : Int) : Option (Int × Int × Int) := (impl_sheetCode.f (⟨p0_s.Across, p0_s.Frames⟩ : impl_Sheet) [p1_frame]).bind fun r5 => bif (r5 != 0) then (some (0, 0, r5)) else (bif (!((IntKind.wrap .i64 p0_s.Across) == 0)) then (bif (!((IntKind.wrap .i64 p0_s.Across) == 0)) then ((some (Int.tmod p1_frame (IntKind.wrap .i64 p0_s.Across))).bind fun t11 => (some (IntKind.wrap .i64 (Int.tdiv p1_frame (IntKind.wrap .i64 p0_s.Across)))).bind fun t12 => some (t11, t12, 0)) else none) else none)
set_option maxRecDepth 100000 in
theorem impl_PlaceOf.calls (p0_s : impl_Sheet) (v0_Frames : Value) (p1_frame : Int) (r : Int × Int × Int) (w : World) (H0 : Own [] w w []) (hS0_Frames : SlE [] w v0_Frames 60 (eA .i16 64) p0_s.Frames) (h0 : impl_PlaceOf.f p0_s p1_frame = some r) :
    Calls Try.prog 18 #[.agg #[.int .i8 p0_s.Across, v0_Frames], .int .i64 p1_frame] w (fun e w' => ∃ _ : Unit, e = .returned (.tuple #[.int .i64 r.1, .int .i64 r.2.1, .int .i64 r.2.2]) ∧ Own [] w w' []) := by
  unfold impl_PlaceOf.f at h0
  replace h0 := B.top h0
  refine calls_of_J (args := [.agg #[.int .i8 p0_s.Across, v0_Frames], .int .i64 p1_frame]) Try.func18 rfl Try.ntmps18 rfl [(0, .agg #[.int .i8 p0_s.Across, v0_Frames]), (1, .int .i64 p1_frame)] rfl H0 ?_
  refine J.seq ?_
  refine J.region ?_
  refine J.box rfl rfl rfl rfl rfl (fun _ _ => rfl) fun b1 => ?_
  refine J.op rfl rfl rfl (V.as rfl rfl) ?_
  refine J.op rfl rfl rfl (V.as rfl rfl) ?_
  refine J.op rfl rfl rfl (V.as rfl rfl) ?_
  refine J.nil ?_
  refine J.tN ?_
  refine J.seq ?_
  refine J.seq ?_
  refine J.region ?_
  refine J.op rfl rfl rfl (V.ldW 0 rfl rfl rfl ts29 ta29 rfl) ?_
  refine J.op rfl rfl rfl (V.mv rfl rfl) ?_
  refine J.bs (l := [(0, .tmp 9)]) (cs := [.int .i64 p1_frame]) (E := 2) rfl rfl rfl rfl rfl (fun w => by kernel_rfl) fun b3 => ?_
  refine J.blkRowE (eI .i64) [p1_frame] 1 rfl rfl rfl ?_
  obtain ⟨r5, hr6, h0⟩ := B.bind h0
  refine J.clA (l := [.tmp 8, .tmp 10]) [] [.rowE (.slice (some ⟨b3, 0, none⟩) 1 1) 2 (eI .i64) [p1_frame], .blk b1 [.int .i8 p0_s.Across, v0_Frames] 29] cf30 (wN rfl) rfl rfl rfl rfl rfl rfl (fun w H => impl_sheetCode.calls (⟨p0_s.Across, p0_s.Frames⟩ : impl_Sheet) v0_Frames (.slice (some ⟨b3, 0, none⟩) 1 1) [p1_frame] r5 w (Own.refl w) (Sl.laterA hS0_Frames H) (Own.slA 0 H rfl) hr6) fun g7 => ?_
  refine J.op rfl rfl rfl (V.as rfl rfl) ?_
  refine J.nil ?_
  refine J.tN ?_
  refine J.seq ?_
  refine J.region ?_
  refine J.op rfl rfl rfl (V.mv rfl rfl) ?_
  refine J.op rfl rfl rfl (V.cmp rfl rfl rfl rfl) ?_
  refine J.nil ?_
  refine J.tN ?_
  refine J.cond rfl (fun hB8 => ?_) (fun hB8 => ?_)
  · replace h0 := B.t hB8 h0
    refine J.seq ?_
    refine J.region ?_
    refine J.op rfl rfl rfl (V.mv rfl rfl) ?_
    refine J.op rfl rfl rfl (V.as rfl rfl) ?_
    refine J.op rfl rfl rfl (V.as rfl rfl) ?_
    refine J.op rfl rfl rfl (V.as rfl rfl) ?_
    refine J.nil ?_
    refine J.tN ?_
    refine J.ret ?_
    refine J.tR ?_
    obtain rfl := B.e h0
    exact J.ret3 rfl rfl rfl rfl fun w H => ⟨(), rfl, H.pick [] (by decide)⟩
  · replace h0 := B.f hB8 h0
    refine J.skip ?_
    refine J.tN ?_
    refine J.seq ?_
    refine J.quiet mixed (by kernel_rfl) ?_
    refine JQ.op rfl rfl rfl (V.mv rfl rfl) ?_
    refine JQ.op rfl rfl rfl (V.faB rfl rfl tf0_29) ?_
    refine JQ.op rfl rfl rfl (V.ldB 1 rfl rfl rfl Try.underlying22 ta22 rfl) ?_
    refine JQ.op rfl rfl rfl (V.conv rfl rfl Try.underlying22 Try.underlying2) ?_
    obtain ⟨hC9, h0⟩ := B.chk h0
    refine JQ.op rfl rfl rfl (V.rem rfl rfl rfl (nz hC9)) ?_
    refine JQ.op rfl rfl rfl (V.mv rfl rfl) ?_
    refine JQ.op rfl rfl rfl (V.faB rfl rfl tf0_29) ?_
    refine JQ.op rfl rfl rfl (V.ldB 1 rfl rfl rfl Try.underlying22 ta22 rfl) ?_
    refine JQ.op rfl rfl rfl (V.conv rfl rfl Try.underlying22 Try.underlying2) ?_
    obtain ⟨hC10, h0⟩ := B.chk h0
    refine JQ.op rfl rfl rfl (V.quo rfl rfl rfl (nz hC10)) ?_
    refine JQ.op rfl rfl rfl (V.as rfl rfl) ?_
    obtain ⟨t11, et11, h0⟩ := B.lt h0
    refine JQ.val (congrArg (Value.int .i64) et11) ?_
    refine JQ.op rfl rfl rfl (V.as rfl rfl) ?_
    obtain ⟨t12, et12, h0⟩ := B.lt h0
    refine JQ.val (congrArg (Value.int .i64) et12) ?_
    refine JQ.op rfl rfl rfl (V.as rfl rfl) ?_
    refine JQ.nil ?_
    refine J.tN ?_
    refine J.ret ?_
    obtain rfl := B.e h0
    exact J.ret3 rfl rfl rfl rfl fun w H => ⟨(), rfl, H.pick [] (by decide)⟩

/-! ### impl.FrameAt: function 19 -/
noncomputable def impl_FrameAt.f (p0_s : impl_Sheet) (p1_column : Int) (p2_row : Int) : Option (Int × Int) := (impl_ValidSheet.f (⟨p0_s.Across, p0_s.Frames⟩ : impl_Sheet)).bind fun r3 => bif (!r3) then (some (0, 1)) else ((some (IntKind.wrap .i64 p0_s.Across)).bind fun across_7 => ((impl_within.f p1_column 0 (IntKind.wrap .i64 (across_7 - 1))).bind fun r10 => bif (!r10) then (some true) else ((impl_within.f p2_row 0 12).bind fun r14 => bif (!r14) then (some true) else ((impl_Sheet_isFrame.f (⟨p0_s.Across, p0_s.Frames⟩ : impl_Sheet) (IntKind.wrap .i64 ((IntKind.wrap .i64 (p2_row * across_7)) + p1_column))).bind fun r18 => some (!r18))) : Option (Bool)).bind fun y8 => bif y8 then (some (0, 6)) else ((some (IntKind.wrap .i64 ((IntKind.wrap .i64 (p2_row * across_7)) + p1_column))).bind fun t23 => some (t23, 0)))
set_option maxRecDepth 100000 in
theorem impl_FrameAt.calls (p0_s : impl_Sheet) (v0_Frames : Value) (p1_column : Int) (p2_row : Int) (r : Int × Int) (w : World) (H0 : Own [] w w []) (hS0_Frames : SlE [] w v0_Frames 60 (eA .i16 64) p0_s.Frames) (h0 : impl_FrameAt.f p0_s p1_column p2_row = some r) :
    Calls Try.prog 19 #[.agg #[.int .i8 p0_s.Across, v0_Frames], .int .i64 p1_column, .int .i64 p2_row] w (fun e w' => ∃ _ : Unit, e = .returned (.tuple #[.int .i64 r.1, .int .i64 r.2]) ∧ Own [] w w' []) := by
  unfold impl_FrameAt.f at h0
  replace h0 := B.top h0
  refine calls_of_J (args := [.agg #[.int .i8 p0_s.Across, v0_Frames], .int .i64 p1_column, .int .i64 p2_row]) Try.func19 rfl Try.ntmps19 rfl [(0, .agg #[.int .i8 p0_s.Across, v0_Frames]), (1, .int .i64 p1_column), (2, .int .i64 p2_row)] rfl H0 ?_
  refine J.seq ?_
  refine J.region ?_
  refine J.box rfl rfl rfl rfl rfl (fun _ _ => rfl) fun b1 => ?_
  refine J.op rfl rfl rfl (V.as rfl rfl) ?_
  refine J.op rfl rfl rfl (V.as rfl rfl) ?_
  refine J.nil ?_
  refine J.tN ?_
  refine J.seq ?_
  refine J.seq ?_
  refine J.region ?_
  refine J.op rfl rfl rfl (V.ldW 0 rfl rfl rfl ts29 ta29 rfl) ?_
  obtain ⟨r3, hr4, h0⟩ := B.bind h0
  refine J.clA (l := [.tmp 9]) [] [.blk b1 [.int .i8 p0_s.Across, v0_Frames] 29] cf17 (wN rfl) rfl rfl rfl rfl rfl rfl (fun w H => impl_ValidSheet.calls (⟨p0_s.Across, p0_s.Frames⟩ : impl_Sheet) v0_Frames r3 w (Own.refl w) (Sl.laterA hS0_Frames H) hr4) fun g5 => ?_
  refine J.op rfl rfl rfl (V.nt rfl rfl) ?_
  refine J.nil ?_
  refine J.tN ?_
  refine J.cond rfl (fun hB6 => ?_) (fun hB6 => ?_)
  · replace h0 := B.t hB6 h0
    refine J.seq ?_
    refine J.region ?_
    refine J.op rfl rfl rfl (V.as rfl rfl) ?_
    refine J.op rfl rfl rfl (V.as rfl rfl) ?_
    refine J.nil ?_
    refine J.tN ?_
    refine J.ret ?_
    refine J.tR ?_
    obtain rfl := B.e h0
    exact J.ret2 rfl rfl rfl fun w H => ⟨(), rfl, H.pick [] (by decide)⟩
  · replace h0 := B.f hB6 h0
    refine J.skip ?_
    refine J.tN ?_
    refine J.seq ?_
    refine J.region ?_
    refine J.op rfl rfl rfl (V.faB rfl rfl tf0_29) ?_
    refine J.op rfl rfl rfl (V.ldB 0 rfl rfl rfl Try.underlying22 ta22 rfl) ?_
    refine J.op rfl rfl rfl (V.conv rfl rfl Try.underlying22 Try.underlying2) ?_
    refine J.op rfl rfl rfl (V.as rfl rfl) ?_
    obtain ⟨across_7, eacross_7, h0⟩ := B.lt h0
    refine J.val (congrArg (Value.int .i64) eacross_7) ?_
    refine J.nil ?_
    refine J.tN ?_
    refine J.seq ?_
    refine J.seq ?_
    obtain ⟨y8, hy21, h0⟩ := B.bind h0
    replace hy21 := B.top hy21
    refine J.cut (γ := Unit) (fun _ => True) (fun gy9 => [(1, .int .i64 p1_column), (2, .int .i64 p2_row), (8, .int .i64 across_7), (34, .bool y8)]) (fun gy9 => [.blk b1 [.int .i8 p0_s.Across, v0_Frames] 29]) ?_ ?_
    · have h1 := hy21
      refine J.region ?_
      refine J.op rfl rfl rfl (V.mv rfl rfl) ?_
      refine J.op rfl rfl rfl (V.mv rfl rfl) ?_
      refine J.op rfl rfl rfl (V.ar rfl rfl rfl rfl) ?_
      obtain ⟨r10, hr11, h1⟩ := B.bind h1
      refine J.clA (l := [.tmp 15, .const (.int .i64 0), .tmp 17]) [] [.blk b1 [.int .i8 p0_s.Across, v0_Frames] 29] cf40 (wN rfl) rfl rfl rfl rfl rfl rfl (fun w H => impl_within.calls p1_column 0 (IntKind.wrap .i64 (across_7 - 1)) r10 w (Own.refl w)  hr11) fun g12 => ?_
      refine J.op rfl rfl rfl (V.nt rfl rfl) ?_
      refine J.op rfl rfl rfl (V.mv rfl rfl) ?_
      refine J.split 20 rfl (fun hB13 => ?_) (fun hB13 => ?_)
      · replace h1 := B.t hB13 h1
        refine J.opOff rfl rfl rfl rfl rfl rfl ?_
        refine J.opOff rfl rfl rfl rfl rfl rfl ?_
        refine J.opOff rfl rfl rfl rfl rfl rfl ?_
        refine J.op rfl rfl rfl (V.pkT rfl rfl rfl) ?_
        refine J.op rfl rfl rfl (V.mv rfl rfl) ?_
        refine J.opOff rfl rfl rfl rfl rfl rfl ?_
        refine J.opOff rfl rfl rfl rfl rfl rfl ?_
        refine J.opOff rfl rfl rfl rfl rfl rfl ?_
        refine J.opOff rfl rfl rfl rfl rfl rfl ?_
        refine J.opOff rfl rfl rfl rfl rfl rfl ?_
        refine J.opOff rfl rfl rfl rfl rfl rfl ?_
        refine J.opOff rfl rfl rfl rfl rfl rfl ?_
        refine J.opOff rfl rfl rfl rfl rfl rfl ?_
        refine J.op rfl rfl rfl (V.pkT rfl rfl rfl) ?_
        refine J.nil ?_
        obtain rfl := B.e h1
        refine J.tN (J.to () trivial ?_)
        exact J.keep _ rfl (J.pickE [0] rfl rfl J.here)
      · replace h1 := B.f hB13 h1
        refine J.opOn rfl rfl rfl rfl rfl (V.mv rfl rfl) ?_
        obtain ⟨r14, hr15, h1⟩ := B.bind h1
        refine J.clA (l := [.tmp 21, .const (.int .i64 0), .const (.int .i64 12)]) [] [.blk b1 [.int .i8 p0_s.Across, v0_Frames] 29] cf40 (wY rfl rfl rfl) rfl rfl rfl rfl rfl rfl (fun w H => impl_within.calls p2_row 0 12 r14 w (Own.refl w)  hr15) fun g16 => ?_
        refine J.opOn rfl rfl rfl rfl rfl (V.nt rfl rfl) ?_
        refine J.op rfl rfl rfl (V.pkF rfl rfl rfl) ?_
        refine J.op rfl rfl rfl (V.mv rfl rfl) ?_
        refine J.split 25 rfl (fun hB17 => ?_) (fun hB17 => ?_)
        · replace h1 := B.t hB17 h1
          refine J.opOff rfl rfl rfl rfl rfl rfl ?_
          refine J.opOff rfl rfl rfl rfl rfl rfl ?_
          refine J.opOff rfl rfl rfl rfl rfl rfl ?_
          refine J.opOff rfl rfl rfl rfl rfl rfl ?_
          refine J.opOff rfl rfl rfl rfl rfl rfl ?_
          refine J.opOff rfl rfl rfl rfl rfl rfl ?_
          refine J.opOff rfl rfl rfl rfl rfl rfl ?_
          refine J.opOff rfl rfl rfl rfl rfl rfl ?_
          refine J.op rfl rfl rfl (V.pkT rfl rfl rfl) ?_
          refine J.nil ?_
          obtain rfl := B.e h1
          refine J.tN (J.to () trivial ?_)
          exact J.keep _ rfl (J.pickE [0] rfl rfl J.here)
        · replace h1 := B.f hB17 h1
          refine J.opOn rfl rfl rfl rfl rfl (V.ldW 0 rfl rfl rfl ts29 ta29 rfl) ?_
          refine J.opOn rfl rfl rfl rfl rfl (V.mv rfl rfl) ?_
          refine J.opOn rfl rfl rfl rfl rfl (V.mv rfl rfl) ?_
          refine J.opOn rfl rfl rfl rfl rfl (V.ar rfl rfl rfl rfl) ?_
          refine J.opOn rfl rfl rfl rfl rfl (V.mv rfl rfl) ?_
          refine J.opOn rfl rfl rfl rfl rfl (V.ar rfl rfl rfl rfl) ?_
          obtain ⟨r18, hr19, h1⟩ := B.bind h1
          refine J.clA (l := [.tmp 26, .tmp 31]) [] [.blk b1 [.int .i8 p0_s.Across, v0_Frames] 29] cf42 (wY rfl rfl rfl) rfl rfl rfl rfl rfl rfl (fun w H => impl_Sheet_isFrame.calls (⟨p0_s.Across, p0_s.Frames⟩ : impl_Sheet) v0_Frames (IntKind.wrap .i64 ((IntKind.wrap .i64 (p2_row * across_7)) + p1_column)) r18 w (Own.refl w) (Sl.laterA hS0_Frames H) hr19) fun g20 => ?_
          refine J.opOn rfl rfl rfl rfl rfl (V.nt rfl rfl) ?_
          refine J.op rfl rfl rfl (V.pkF rfl rfl rfl) ?_
          refine J.nil ?_
          obtain rfl := B.e h1
          refine J.tN (J.to () trivial ?_)
          exact J.keep _ rfl (J.pickE [0] rfl rfl J.here)
    · intro gy9 _
      refine J.cond rfl (fun hB22 => ?_) (fun hB22 => ?_)
      · replace h0 := B.t hB22 h0
        refine J.seq ?_
        refine J.region ?_
        refine J.op rfl rfl rfl (V.as rfl rfl) ?_
        refine J.op rfl rfl rfl (V.as rfl rfl) ?_
        refine J.nil ?_
        refine J.tN ?_
        refine J.ret ?_
        refine J.tR ?_
        obtain rfl := B.e h0
        exact J.ret2 rfl rfl rfl fun w H => ⟨(), rfl, H.pick [] (by decide)⟩
      · replace h0 := B.f hB22 h0
        refine J.skip ?_
        refine J.tN ?_
        refine J.seq ?_
        refine J.region ?_
        refine J.op rfl rfl rfl (V.mv rfl rfl) ?_
        refine J.op rfl rfl rfl (V.mv rfl rfl) ?_
        refine J.op rfl rfl rfl (V.ar rfl rfl rfl rfl) ?_
        refine J.op rfl rfl rfl (V.mv rfl rfl) ?_
        refine J.op rfl rfl rfl (V.ar rfl rfl rfl rfl) ?_
        refine J.op rfl rfl rfl (V.as rfl rfl) ?_
        obtain ⟨t23, et23, h0⟩ := B.lt h0
        refine J.val (congrArg (Value.int .i64) et23) ?_
        refine J.op rfl rfl rfl (V.as rfl rfl) ?_
        refine J.nil ?_
        refine J.tN ?_
        refine J.ret ?_
        obtain rfl := B.e h0
        exact J.ret2 rfl rfl rfl fun w H => ⟨(), rfl, H.pick [] (by decide)⟩

/-! ### spec.P6Pick: function 20 -/
noncomputable def spec_P6Pick.f (p0_code : (List Int)) (p1_n : Int) : Option (Int) := (spec_l00From.f p0_code).bind fun r1 => (spec_l00Src_pick.f (⟨p0_code, r1.1, r1.2⟩ : spec_l00Src) p1_n).bind fun r5 => some r5.1
set_option maxRecDepth 100000 in
theorem spec_P6Pick.calls (v0 : Value) (p0_code : (List Int)) (p1_n : Int) (r : Int) (w : World) (H0 : Own [] w w []) (hS0 : SlE [] w v0 5 (eI .u8) p0_code) (h0 : spec_P6Pick.f p0_code p1_n = some r) :
    Calls Try.prog 20 #[v0, .int .i64 p1_n] w (fun e w' => ∃ _ : Unit, e = .returned (.int .i64 r) ∧ Own [] w w' []) := by
  unfold spec_P6Pick.f at h0
  replace h0 := B.top h0
  refine calls_of_J (args := [v0, .int .i64 p1_n]) Try.func20 rfl Try.ntmps20 rfl [(0, v0), (1, .int .i64 p1_n)] rfl H0 ?_
  refine J.seq ?_
  refine J.region ?_
  refine J.op rfl rfl rfl (V.as rfl rfl) ?_
  refine J.nil ?_
  refine J.tN ?_
  refine J.seq ?_
  refine J.region ?_
  refine J.op rfl rfl rfl (V.mv rfl rfl) ?_
  obtain ⟨r1, hr2, h0⟩ := B.bind h0
  refine J.clA (l := [.tmp 5]) [] [] cf37 (wN rfl) rfl rfl rfl rfl rfl rfl (fun w H => spec_l00From.calls v0 p0_code r1 w (Own.refl w) (Sl.laterA hS0 H) hr2) fun g3 => ?_
  refine J.op rfl rfl rfl (V.mv rfl rfl) ?_
  obtain ⟨r5, hr6, h0⟩ := B.bind h0
  refine J.clA (l := [.tmp 6, .tmp 7]) [.blk g3 [v0, .int .i64 r1.1, .int .u64 r1.2] 79] [] cf43 (wN rfl) rfl rfl rfl rfl rfl rfl (fun w H => spec_l00Src_pick.calls g3 (⟨p0_code, r1.1, r1.2⟩ : spec_l00Src) v0 p1_n r5 w H.enterA (Sl.laterA hS0 H) hr6) fun g7 => ?_
  refine J.op rfl rfl rfl (V.as rfl rfl) ?_
  refine J.nil ?_
  refine J.tN ?_
  refine J.ret ?_
  obtain rfl := B.e h0
  exact J.ret1 rfl rfl fun w H => ⟨(), rfl, H.pick [] (by decide)⟩

/-! ### impl.SwapFrames: function 21 -/
noncomputable def impl_SwapFrames.f (p0_s : impl_Sheet) (p1_i : Int) (p2_k : Int) : Option (impl_Sheet × Int) := (impl_sheetCode.f (⟨p0_s.Across, p0_s.Frames⟩ : impl_Sheet) [p1_i, p2_k]).bind fun r7 => bif (r7 != 0) then (some ((⟨0, ([] : List (Vector Int 64))⟩ : impl_Sheet), r7)) else ((slices_Clone_impl_Print_impl_Print.f p0_s.Frames).bind fun r12 => bif (inB p2_k r12.length) then (bif (inB p1_i r12.length) then (bif (inB p1_i r12.length) then ((some (r12.set p1_i.toNat (rd (eA .i16 64) r12 p2_k))).bind fun w19 => bif (inB p2_k w19.length) then ((some (w19.set p2_k.toNat (rd (eA .i16 64) r12 p1_i))).bind fun w21 => some ((⟨p0_s.Across, w21⟩ : impl_Sheet), 0)) else none) else none) else none) else none)
set_option maxRecDepth 100000 in
theorem impl_SwapFrames.calls (p0_s : impl_Sheet) (v0_Frames : Value) (p1_i : Int) (p2_k : Int) (r : impl_Sheet × Int) (w : World) (H0 : Own [] w w []) (hS0_Frames : SlE [] w v0_Frames 60 (eA .i16 64) p0_s.Frames) (h0 : impl_SwapFrames.f p0_s p1_i p2_k = some r) :
    Calls Try.prog 21 #[.agg #[.int .i8 p0_s.Across, v0_Frames], .int .i64 p1_i, .int .i64 p2_k] w (fun e w' => ∃ gh : Value, e = .returned (.tuple #[.agg #[.int .i8 r.1.Across, gh], .int .i64 r.2]) ∧ Own [] w w' [.rowE gh 60 (eA .i16 64) r.1.Frames]) := by
  unfold impl_SwapFrames.f at h0
  replace h0 := B.top h0
  refine calls_of_J (args := [.agg #[.int .i8 p0_s.Across, v0_Frames], .int .i64 p1_i, .int .i64 p2_k]) Try.func21 rfl Try.ntmps21 rfl [(0, .agg #[.int .i8 p0_s.Across, v0_Frames]), (1, .int .i64 p1_i), (2, .int .i64 p2_k)] rfl H0 ?_
  refine J.seq ?_
  refine J.region ?_
  refine J.box rfl rfl rfl rfl rfl (fun _ _ => rfl) fun b1 => ?_
  refine J.alloc rfl rfl rfl rfl tz29 rfl fun b3 => ?_
  refine J.op rfl rfl rfl (V.as rfl rfl) ?_
  refine J.nil ?_
  refine J.tN ?_
  refine J.seq ?_
  refine J.seq ?_
  refine J.region ?_
  refine J.op rfl rfl rfl (V.ldW 1 rfl rfl rfl ts29 ta29 rfl) ?_
  refine J.op rfl rfl rfl (V.mv rfl rfl) ?_
  refine J.op rfl rfl rfl (V.mv rfl rfl) ?_
  refine J.bs (l := [(0, .tmp 11), (1, .tmp 12)]) (cs := [.int .i64 p1_i, .int .i64 p2_k]) (E := 2) rfl rfl rfl rfl rfl (fun w => by kernel_rfl) fun b5 => ?_
  refine J.blkRowE (eI .i64) [p1_i, p2_k] 2 rfl rfl rfl ?_
  obtain ⟨r7, hr8, h0⟩ := B.bind h0
  refine J.clA (l := [.tmp 10, .tmp 13]) [] [.rowE (.slice (some ⟨b5, 0, none⟩) 2 2) 2 (eI .i64) [p1_i, p2_k], .blk b3 [.int .i8 0, .slice none 0 0] 29, .blk b1 [.int .i8 p0_s.Across, v0_Frames] 29] cf30 (wN rfl) rfl rfl rfl rfl rfl rfl (fun w H => impl_sheetCode.calls (⟨p0_s.Across, p0_s.Frames⟩ : impl_Sheet) v0_Frames (.slice (some ⟨b5, 0, none⟩) 2 2) [p1_i, p2_k] r7 w (Own.refl w) (Sl.laterA hS0_Frames H) (Own.slA 0 H rfl) hr8) fun g9 => ?_
  refine J.op rfl rfl rfl (V.as rfl rfl) ?_
  refine J.nil ?_
  refine J.tN ?_
  refine J.seq ?_
  refine J.region ?_
  refine J.op rfl rfl rfl (V.mv rfl rfl) ?_
  refine J.op rfl rfl rfl (V.cmp rfl rfl rfl rfl) ?_
  refine J.nil ?_
  refine J.tN ?_
  refine J.cond rfl (fun hB10 => ?_) (fun hB10 => ?_)
  · replace h0 := B.t hB10 h0
    refine J.seq ?_
    refine J.region ?_
    refine J.op rfl rfl rfl (V.bd (l := []) (v := .agg #[.int .i8 0, .slice none 0 0]) rfl rfl (fun w H => by kernel_rfl)) ?_
    refine J.op rfl rfl rfl (V.mv rfl rfl) ?_
    refine J.stW (cs' := [.int .i8 0, .slice none 0 0]) 1 rfl rfl rfl rfl rfl rfl ts29 rfl (fun _ H => (one_cons rfl (one_cons rfl one_nil))) rfl rfl ?_
    refine J.op rfl rfl rfl (V.as rfl rfl) ?_
    refine J.nil ?_
    refine J.tN ?_
    refine J.ret ?_
    refine J.tR ?_
    refine J.nilRow 60 (eA .i16 64) ?_
    obtain rfl := B.e h0
    exact J.retC_1 2 rfl rfl rfl ts29 ta29 rfl rfl fun w H => ⟨(.slice none 0 0), rfl, H.pick [0] (by decide)⟩
  · replace h0 := B.f hB10 h0
    refine J.skip ?_
    refine J.tN ?_
    refine J.seq ?_
    refine J.region ?_
    refine J.op rfl rfl rfl (V.faB rfl rfl tf1_29) ?_
    refine J.op rfl rfl rfl (V.ldB 2 rfl rfl rfl Try.underlying27 ta27 rfl) ?_
    obtain ⟨r12, hr13, h0⟩ := B.bind h0
    refine J.clA (l := [.tmp 20]) [] [.rowE (.slice (some ⟨b5, 0, none⟩) 2 2) 2 (eI .i64) [p1_i, p2_k], .blk b3 [.int .i8 0, .slice none 0 0] 29, .blk b1 [.int .i8 p0_s.Across, v0_Frames] 29] cf32 (wN rfl) rfl rfl rfl rfl rfl rfl (fun w H => slices_Clone_impl_Print_impl_Print.calls v0_Frames p0_s.Frames r12 w (Own.refl w) (Sl.laterA hS0_Frames H) hr13) fun g14 => ?_
    refine J.op rfl rfl rfl (V.as rfl rfl) ?_
    refine J.nil ?_
    refine J.tN ?_
    refine J.seq ?_
    obtain ⟨hC16, h0⟩ := B.chk h0
    obtain ⟨hC17, h0⟩ := B.chk h0
    obtain ⟨hC18, h0⟩ := B.chk h0
    obtain ⟨w19, ew19, h0⟩ := B.lt h0
    obtain ⟨hC20, h0⟩ := B.chk h0
    obtain ⟨w21, ew21, h0⟩ := B.lt h0
    refine J.cutQ (γ := Value) (fun _ => True) (fun gx22 => [(3, bp b1 0), (6, bp b3 0), (9, gx22)]) (fun gx22 => [.rowE gx22 60 (eA .i16 64) w21, .rowE (.slice (some ⟨b5, 0, none⟩) 2 2) 2 (eI .i64) [p1_i, p2_k], .blk b3 [.int .i8 0, .slice none 0 0] 29, .blk b1 [.int .i8 p0_s.Across, v0_Frames] 29]) ?_ ?_
    · refine J.any 16 rfl [.rowE (.slice (some ⟨b5, 0, none⟩) 2 2) 2 (eI .i64) [p1_i, p2_k], .blk b3 [.int .i8 0, .slice none 0 0] 29, .blk b1 [.int .i8 p0_s.Across, v0_Frames] 29] mixed ?_
      refine JH.take (i := 0) [1, 2, 3] rfl (by kernel_rfl) rfl rfl rfl rfl rfl (V.mv rfl rfl) ?_
      refine JH.take (i := 1) [1, 2, 3] rfl (by kernel_rfl) rfl rfl rfl rfl rfl (V.mv rfl rfl) ?_
      refine JH.take (i := 2) [1, 2, 3] rfl (by kernel_rfl) rfl rfl rfl rfl rfl (V.mv rfl rfl) ?_
      refine JH.take (i := 3) [1, 2, 3] rfl (by kernel_rfl) rfl rfl rfl rfl rfl (V.mv rfl rfl) ?_
      refine JH.take (i := 4) [1, 2, 3] rfl (by kernel_rfl) rfl rfl rfl rfl rfl (V.mv rfl rfl) ?_
      refine JH.take (i := 5) [1, 2, 3] rfl (by kernel_rfl) rfl rfl rfl rfl rfl (V.mv rfl rfl) ?_
      refine JH.take (i := 8) [1, 2, 3] rfl (by kernel_rfl) rfl rfl rfl rfl rfl (V.mv rfl rfl) ?_
      refine JH.take (i := 9) [1, 2, 3] rfl (by kernel_rfl) rfl rfl rfl rfl rfl (V.mv rfl rfl) ?_
      refine JH.all [6, 10] (by kernel_rfl) rfl (JHall.cons (JH.op rfl ?_) (JHall.cons (JH.op rfl ?_) (JHall.nil)))
      · refine J.op rfl rfl rfl (V.ixR 0 rfl rfl rfl rfl tl27 ts60 hC16) ?_
        refine J.nil ?_
        refine JH.back [1, 2, 3] rfl rfl ?_
        refine JH.all [7, 10] (by kernel_rfl) rfl (JHall.cons (JH.op rfl ?_) (JHall.cons (JH.op rfl ?_) (JHall.nil)))
        · refine J.op rfl rfl rfl (V.elRA 0 rfl hC16 rfl rfl ts60 ta60) ?_
          refine J.nil ?_
          refine JH.back [1, 2, 3] rfl rfl ?_
          refine JH.all [10] (by kernel_rfl) rfl (JHall.cons (JH.op rfl ?_) (JHall.nil))
          refine J.op rfl rfl rfl (V.ixR 0 rfl rfl rfl rfl tl27 ts60 hC17) ?_
          refine J.nil ?_
          refine JH.back [1, 2, 3] rfl rfl ?_
          refine JH.all [11] (by kernel_rfl) rfl (JHall.cons (JH.op rfl ?_) (JHall.nil))
          refine J.op rfl rfl rfl (V.elRA 0 rfl hC17 rfl rfl ts60 ta60) ?_
          refine J.nil ?_
          refine JH.back [1, 2, 3] rfl rfl ?_
          refine JH.all [12] (by kernel_rfl) rfl (JHall.cons (JH.op rfl ?_) (JHall.nil))
          refine J.op rfl rfl rfl (V.ixR 0 rfl rfl rfl rfl tl27 ts60 hC18) ?_
          refine J.nil ?_
          refine JH.back [1, 2, 3] rfl rfl ?_
          refine JH.all [13] (by kernel_rfl) rfl (JHall.cons (JH.op rfl ?_) (JHall.nil))
          refine J.stEA (e := (eA .i16 64)) (xs := r12) 0 (rd (eA .i16 64) r12 p2_k) hC18 rfl rfl rfl rfl rfl rfl ts60 ?_
          refine J.setEnt 0 rfl (congrArg (fun q => Ent.rowE _ _ (eA .i16 64) q) ew19) ?_
          refine J.nil ?_
          refine JH.back [1, 2, 3] rfl rfl ?_
          refine JH.all [14] (by kernel_rfl) rfl (JHall.cons (JH.op rfl ?_) (JHall.nil))
          refine J.op rfl rfl rfl (V.ixR 0 rfl rfl rfl rfl tl27 ts60 hC20) ?_
          refine J.nil ?_
          refine JH.back [1, 2, 3] rfl rfl ?_
          refine JH.all [15] (by kernel_rfl) rfl (JHall.cons (JH.op rfl ?_) (JHall.nil))
          refine J.stEA (e := (eA .i16 64)) (xs := w19) 0 (rd (eA .i16 64) r12 p1_i) hC20 rfl rfl rfl rfl rfl rfl ts60 ?_
          refine J.setEnt 0 rfl (congrArg (fun q => Ent.rowE _ _ (eA .i16 64) q) ew21) ?_
          refine J.nil ?_
          refine JH.back [1, 2, 3] rfl rfl ?_
          refine JH.fin (by kernel_rfl) ?_
          refine J.tN (J.to g14 trivial ?_)
          exact J.keep _ rfl (J.pickE [0, 1, 2, 3] rfl rfl J.here)
        · refine J.op rfl rfl rfl (V.ixR 0 rfl rfl rfl rfl tl27 ts60 hC17) ?_
          refine J.nil ?_
          refine JH.back [1, 2, 3] rfl rfl ?_
          refine JH.all [7, 11] (by kernel_rfl) rfl (JHall.cons (JH.op rfl ?_) (JHall.cons (JH.op rfl ?_) (JHall.nil)))
          · refine J.op rfl rfl rfl (V.elRA 0 rfl hC16 rfl rfl ts60 ta60) ?_
            refine J.nil ?_
            refine JH.back [1, 2, 3] rfl rfl ?_
            refine JH.all [11] (by kernel_rfl) rfl (JHall.cons (JH.op rfl ?_) (JHall.nil))
            refine J.op rfl rfl rfl (V.elRA 0 rfl hC17 rfl rfl ts60 ta60) ?_
            refine J.nil ?_
            refine JH.back [1, 2, 3] rfl rfl ?_
            refine JH.all [12] (by kernel_rfl) rfl (JHall.cons (JH.op rfl ?_) (JHall.nil))
            refine J.op rfl rfl rfl (V.ixR 0 rfl rfl rfl rfl tl27 ts60 hC18) ?_
            refine J.nil ?_
            refine JH.back [1, 2, 3] rfl rfl ?_
            refine JH.all [13] (by kernel_rfl) rfl (JHall.cons (JH.op rfl ?_) (JHall.nil))
            refine J.stEA (e := (eA .i16 64)) (xs := r12) 0 (rd (eA .i16 64) r12 p2_k) hC18 rfl rfl rfl rfl rfl rfl ts60 ?_
            refine J.setEnt 0 rfl (congrArg (fun q => Ent.rowE _ _ (eA .i16 64) q) ew19) ?_
            refine J.nil ?_
            refine JH.back [1, 2, 3] rfl rfl ?_
            refine JH.all [14] (by kernel_rfl) rfl (JHall.cons (JH.op rfl ?_) (JHall.nil))
            refine J.op rfl rfl rfl (V.ixR 0 rfl rfl rfl rfl tl27 ts60 hC20) ?_
            refine J.nil ?_
            refine JH.back [1, 2, 3] rfl rfl ?_
            refine JH.all [15] (by kernel_rfl) rfl (JHall.cons (JH.op rfl ?_) (JHall.nil))
            refine J.stEA (e := (eA .i16 64)) (xs := w19) 0 (rd (eA .i16 64) r12 p1_i) hC20 rfl rfl rfl rfl rfl rfl ts60 ?_
            refine J.setEnt 0 rfl (congrArg (fun q => Ent.rowE _ _ (eA .i16 64) q) ew21) ?_
            refine J.nil ?_
            refine JH.back [1, 2, 3] rfl rfl ?_
            refine JH.fin (by kernel_rfl) ?_
            refine J.tN (J.to g14 trivial ?_)
            exact J.keep _ rfl (J.pickE [0, 1, 2, 3] rfl rfl J.here)
          · refine J.op rfl rfl rfl (V.elRA 0 rfl hC17 rfl rfl ts60 ta60) ?_
            refine J.nil ?_
            refine JH.back [1, 2, 3] rfl rfl ?_
            refine JH.all [7] (by kernel_rfl) rfl (JHall.cons (JH.op rfl ?_) (JHall.nil))
            refine J.op rfl rfl rfl (V.elRA 0 rfl hC16 rfl rfl ts60 ta60) ?_
            refine J.nil ?_
            refine JH.back [1, 2, 3] rfl rfl ?_
            refine JH.all [12] (by kernel_rfl) rfl (JHall.cons (JH.op rfl ?_) (JHall.nil))
            refine J.op rfl rfl rfl (V.ixR 0 rfl rfl rfl rfl tl27 ts60 hC18) ?_
            refine J.nil ?_
            refine JH.back [1, 2, 3] rfl rfl ?_
            refine JH.all [13] (by kernel_rfl) rfl (JHall.cons (JH.op rfl ?_) (JHall.nil))
            refine J.stEA (e := (eA .i16 64)) (xs := r12) 0 (rd (eA .i16 64) r12 p2_k) hC18 rfl rfl rfl rfl rfl rfl ts60 ?_
            refine J.setEnt 0 rfl (congrArg (fun q => Ent.rowE _ _ (eA .i16 64) q) ew19) ?_
            refine J.nil ?_
            refine JH.back [1, 2, 3] rfl rfl ?_
            refine JH.all [14] (by kernel_rfl) rfl (JHall.cons (JH.op rfl ?_) (JHall.nil))
            refine J.op rfl rfl rfl (V.ixR 0 rfl rfl rfl rfl tl27 ts60 hC20) ?_
            refine J.nil ?_
            refine JH.back [1, 2, 3] rfl rfl ?_
            refine JH.all [15] (by kernel_rfl) rfl (JHall.cons (JH.op rfl ?_) (JHall.nil))
            refine J.stEA (e := (eA .i16 64)) (xs := w19) 0 (rd (eA .i16 64) r12 p1_i) hC20 rfl rfl rfl rfl rfl rfl ts60 ?_
            refine J.setEnt 0 rfl (congrArg (fun q => Ent.rowE _ _ (eA .i16 64) q) ew21) ?_
            refine J.nil ?_
            refine JH.back [1, 2, 3] rfl rfl ?_
            refine JH.fin (by kernel_rfl) ?_
            refine J.tN (J.to g14 trivial ?_)
            exact J.keep _ rfl (J.pickE [0, 1, 2, 3] rfl rfl J.here)
      · refine J.op rfl rfl rfl (V.ixR 0 rfl rfl rfl rfl tl27 ts60 hC17) ?_
        refine J.nil ?_
        refine JH.back [1, 2, 3] rfl rfl ?_
        refine JH.all [6, 11] (by kernel_rfl) rfl (JHall.cons (JH.op rfl ?_) (JHall.cons (JH.op rfl ?_) (JHall.nil)))
        · refine J.op rfl rfl rfl (V.ixR 0 rfl rfl rfl rfl tl27 ts60 hC16) ?_
          refine J.nil ?_
          refine JH.back [1, 2, 3] rfl rfl ?_
          refine JH.all [7, 11] (by kernel_rfl) rfl (JHall.cons (JH.op rfl ?_) (JHall.cons (JH.op rfl ?_) (JHall.nil)))
          · refine J.op rfl rfl rfl (V.elRA 0 rfl hC16 rfl rfl ts60 ta60) ?_
            refine J.nil ?_
            refine JH.back [1, 2, 3] rfl rfl ?_
            refine JH.all [11] (by kernel_rfl) rfl (JHall.cons (JH.op rfl ?_) (JHall.nil))
            refine J.op rfl rfl rfl (V.elRA 0 rfl hC17 rfl rfl ts60 ta60) ?_
            refine J.nil ?_
            refine JH.back [1, 2, 3] rfl rfl ?_
            refine JH.all [12] (by kernel_rfl) rfl (JHall.cons (JH.op rfl ?_) (JHall.nil))
            refine J.op rfl rfl rfl (V.ixR 0 rfl rfl rfl rfl tl27 ts60 hC18) ?_
            refine J.nil ?_
            refine JH.back [1, 2, 3] rfl rfl ?_
            refine JH.all [13] (by kernel_rfl) rfl (JHall.cons (JH.op rfl ?_) (JHall.nil))
            refine J.stEA (e := (eA .i16 64)) (xs := r12) 0 (rd (eA .i16 64) r12 p2_k) hC18 rfl rfl rfl rfl rfl rfl ts60 ?_
            refine J.setEnt 0 rfl (congrArg (fun q => Ent.rowE _ _ (eA .i16 64) q) ew19) ?_
            refine J.nil ?_
            refine JH.back [1, 2, 3] rfl rfl ?_
            refine JH.all [14] (by kernel_rfl) rfl (JHall.cons (JH.op rfl ?_) (JHall.nil))
            refine J.op rfl rfl rfl (V.ixR 0 rfl rfl rfl rfl tl27 ts60 hC20) ?_
            refine J.nil ?_
            refine JH.back [1, 2, 3] rfl rfl ?_
            refine JH.all [15] (by kernel_rfl) rfl (JHall.cons (JH.op rfl ?_) (JHall.nil))
            refine J.stEA (e := (eA .i16 64)) (xs := w19) 0 (rd (eA .i16 64) r12 p1_i) hC20 rfl rfl rfl rfl rfl rfl ts60 ?_
            refine J.setEnt 0 rfl (congrArg (fun q => Ent.rowE _ _ (eA .i16 64) q) ew21) ?_
            refine J.nil ?_
            refine JH.back [1, 2, 3] rfl rfl ?_
            refine JH.fin (by kernel_rfl) ?_
            refine J.tN (J.to g14 trivial ?_)
            exact J.keep _ rfl (J.pickE [0, 1, 2, 3] rfl rfl J.here)
          · refine J.op rfl rfl rfl (V.elRA 0 rfl hC17 rfl rfl ts60 ta60) ?_
            refine J.nil ?_
            refine JH.back [1, 2, 3] rfl rfl ?_
            refine JH.all [7] (by kernel_rfl) rfl (JHall.cons (JH.op rfl ?_) (JHall.nil))
            refine J.op rfl rfl rfl (V.elRA 0 rfl hC16 rfl rfl ts60 ta60) ?_
            refine J.nil ?_
            refine JH.back [1, 2, 3] rfl rfl ?_
            refine JH.all [12] (by kernel_rfl) rfl (JHall.cons (JH.op rfl ?_) (JHall.nil))
            refine J.op rfl rfl rfl (V.ixR 0 rfl rfl rfl rfl tl27 ts60 hC18) ?_
            refine J.nil ?_
            refine JH.back [1, 2, 3] rfl rfl ?_
            refine JH.all [13] (by kernel_rfl) rfl (JHall.cons (JH.op rfl ?_) (JHall.nil))
            refine J.stEA (e := (eA .i16 64)) (xs := r12) 0 (rd (eA .i16 64) r12 p2_k) hC18 rfl rfl rfl rfl rfl rfl ts60 ?_
            refine J.setEnt 0 rfl (congrArg (fun q => Ent.rowE _ _ (eA .i16 64) q) ew19) ?_
            refine J.nil ?_
            refine JH.back [1, 2, 3] rfl rfl ?_
            refine JH.all [14] (by kernel_rfl) rfl (JHall.cons (JH.op rfl ?_) (JHall.nil))
            refine J.op rfl rfl rfl (V.ixR 0 rfl rfl rfl rfl tl27 ts60 hC20) ?_
            refine J.nil ?_
            refine JH.back [1, 2, 3] rfl rfl ?_
            refine JH.all [15] (by kernel_rfl) rfl (JHall.cons (JH.op rfl ?_) (JHall.nil))
            refine J.stEA (e := (eA .i16 64)) (xs := w19) 0 (rd (eA .i16 64) r12 p1_i) hC20 rfl rfl rfl rfl rfl rfl ts60 ?_
            refine J.setEnt 0 rfl (congrArg (fun q => Ent.rowE _ _ (eA .i16 64) q) ew21) ?_
            refine J.nil ?_
            refine JH.back [1, 2, 3] rfl rfl ?_
            refine JH.fin (by kernel_rfl) ?_
            refine J.tN (J.to g14 trivial ?_)
            exact J.keep _ rfl (J.pickE [0, 1, 2, 3] rfl rfl J.here)
        · refine J.op rfl rfl rfl (V.elRA 0 rfl hC17 rfl rfl ts60 ta60) ?_
          refine J.nil ?_
          refine JH.back [1, 2, 3] rfl rfl ?_
          refine JH.all [6] (by kernel_rfl) rfl (JHall.cons (JH.op rfl ?_) (JHall.nil))
          refine J.op rfl rfl rfl (V.ixR 0 rfl rfl rfl rfl tl27 ts60 hC16) ?_
          refine J.nil ?_
          refine JH.back [1, 2, 3] rfl rfl ?_
          refine JH.all [7] (by kernel_rfl) rfl (JHall.cons (JH.op rfl ?_) (JHall.nil))
          refine J.op rfl rfl rfl (V.elRA 0 rfl hC16 rfl rfl ts60 ta60) ?_
          refine J.nil ?_
          refine JH.back [1, 2, 3] rfl rfl ?_
          refine JH.all [12] (by kernel_rfl) rfl (JHall.cons (JH.op rfl ?_) (JHall.nil))
          refine J.op rfl rfl rfl (V.ixR 0 rfl rfl rfl rfl tl27 ts60 hC18) ?_
          refine J.nil ?_
          refine JH.back [1, 2, 3] rfl rfl ?_
          refine JH.all [13] (by kernel_rfl) rfl (JHall.cons (JH.op rfl ?_) (JHall.nil))
          refine J.stEA (e := (eA .i16 64)) (xs := r12) 0 (rd (eA .i16 64) r12 p2_k) hC18 rfl rfl rfl rfl rfl rfl ts60 ?_
          refine J.setEnt 0 rfl (congrArg (fun q => Ent.rowE _ _ (eA .i16 64) q) ew19) ?_
          refine J.nil ?_
          refine JH.back [1, 2, 3] rfl rfl ?_
          refine JH.all [14] (by kernel_rfl) rfl (JHall.cons (JH.op rfl ?_) (JHall.nil))
          refine J.op rfl rfl rfl (V.ixR 0 rfl rfl rfl rfl tl27 ts60 hC20) ?_
          refine J.nil ?_
          refine JH.back [1, 2, 3] rfl rfl ?_
          refine JH.all [15] (by kernel_rfl) rfl (JHall.cons (JH.op rfl ?_) (JHall.nil))
          refine J.stEA (e := (eA .i16 64)) (xs := w19) 0 (rd (eA .i16 64) r12 p1_i) hC20 rfl rfl rfl rfl rfl rfl ts60 ?_
          refine J.setEnt 0 rfl (congrArg (fun q => Ent.rowE _ _ (eA .i16 64) q) ew21) ?_
          refine J.nil ?_
          refine JH.back [1, 2, 3] rfl rfl ?_
          refine JH.fin (by kernel_rfl) ?_
          refine J.tN (J.to g14 trivial ?_)
          exact J.keep _ rfl (J.pickE [0, 1, 2, 3] rfl rfl J.here)
    · intro gx22 _
      refine J.tN ?_
      refine J.seq ?_
      refine J.region ?_
      refine J.op rfl rfl rfl (V.faB rfl rfl tf0_29) ?_
      refine J.op rfl rfl rfl (V.ldB 3 rfl rfl rfl Try.underlying22 ta22 rfl) ?_
      refine J.op rfl rfl rfl (V.mv rfl rfl) ?_
      refine J.op rfl rfl rfl (V.bd (l := [(0, .tmp 37), (1, .tmp 38)]) (v := .agg #[.int .i8 p0_s.Across, gx22]) rfl rfl (fun w H => by obtain ⟨_, _, e1, _⟩ := (Own.sl0 0 H rfl).len; rw [e1]; kernel_rfl)) ?_
      refine J.stW (cs' := [.int .i8 p0_s.Across, gx22]) 2 rfl rfl rfl rfl rfl rfl ts29 rfl (fun _ H => (one_cons rfl (one_cons (Own.sl0 0 H rfl).one one_nil))) rfl rfl ?_
      refine J.op rfl rfl rfl (V.as rfl rfl) ?_
      refine J.nil ?_
      refine J.tN ?_
      refine J.ret ?_
      obtain rfl := B.e h0
      exact J.retC_1 2 rfl rfl rfl ts29 ta29 rfl rfl fun w H => ⟨gx22, rfl, H.pick [0] (by decide)⟩

/-! ### spec.SwapFrames: function 22 -/
noncomputable def spec_SwapFrames.f (p0_s : impl_Sheet) (p1_i : Int) (p2_k : Int) : Option (impl_Sheet × Int) := (spec_l07Asked.f (⟨p0_s.Across, p0_s.Frames⟩ : impl_Sheet) p1_i).bind fun r5 => (bif (r5 == 0) then ((spec_l07Asked.f (⟨p0_s.Across, p0_s.Frames⟩ : impl_Sheet) p2_k).bind fun r11 => some r11) else (some r5) : Option (Int)).bind fun y8 => bif (y8 != 0) then (some ((⟨0, ([] : List (Vector Int 64))⟩ : impl_Sheet), y8)) else ((spec_l07With.f (⟨p0_s.Across, p0_s.Frames⟩ : impl_Sheet) p0_s.Frames).bind fun r17 => bif (inB p2_k p0_s.Frames.length) then (bif (inB p1_i r17.Frames.length) then ((some (r17.Frames.set p1_i.toNat (rd (eA .i16 64) p0_s.Frames p2_k))).bind fun w25 => bif (inB p1_i p0_s.Frames.length) then (bif (inB p2_k w25.length) then ((some (w25.set p2_k.toNat (rd (eA .i16 64) p0_s.Frames p1_i))).bind fun w28 => some ((⟨r17.Across, w28⟩ : impl_Sheet), 0)) else none) else none) else none) else none)
set_option maxRecDepth 100000 in
theorem spec_SwapFrames.calls (p0_s : impl_Sheet) (v0_Frames : Value) (p1_i : Int) (p2_k : Int) (r : impl_Sheet × Int) (w : World) (H0 : Own [] w w []) (hS0_Frames : SlE [] w v0_Frames 60 (eA .i16 64) p0_s.Frames) (h0 : spec_SwapFrames.f p0_s p1_i p2_k = some r) :
    Calls Try.prog 22 #[.agg #[.int .i8 p0_s.Across, v0_Frames], .int .i64 p1_i, .int .i64 p2_k] w (fun e w' => ∃ gh : Value, e = .returned (.tuple #[.agg #[.int .i8 r.1.Across, gh], .int .i64 r.2]) ∧ Own [] w w' [.rowE gh 60 (eA .i16 64) r.1.Frames]) := by
  unfold spec_SwapFrames.f at h0
  replace h0 := B.top h0
  refine calls_of_J (args := [.agg #[.int .i8 p0_s.Across, v0_Frames], .int .i64 p1_i, .int .i64 p2_k]) Try.func22 rfl Try.ntmps22 rfl [(0, .agg #[.int .i8 p0_s.Across, v0_Frames]), (1, .int .i64 p1_i), (2, .int .i64 p2_k)] rfl H0 ?_
  refine J.seq ?_
  refine J.region ?_
  refine J.box rfl rfl rfl rfl rfl (fun _ _ => rfl) fun b1 => ?_
  refine J.alloc rfl rfl rfl rfl tz29 rfl fun b3 => ?_
  refine J.op rfl rfl rfl (V.as rfl rfl) ?_
  refine J.nil ?_
  refine J.tN ?_
  refine J.seq ?_
  refine J.region ?_
  refine J.op rfl rfl rfl (V.mv rfl rfl) ?_
  obtain ⟨r5, hr6, h0⟩ := B.bind h0
  refine J.clA (l := [.tmp 3, .tmp 10]) [] [.blk b3 [.int .i8 0, .slice none 0 0] 29, .blk b1 [.int .i8 p0_s.Across, v0_Frames] 29] cf27 (wN rfl) rfl rfl rfl rfl rfl rfl (fun w H => spec_l07Asked.calls (bp b1 0) (⟨p0_s.Across, p0_s.Frames⟩ : impl_Sheet) v0_Frames p1_i r5 w (Own.refl w) (Sl.laterA hS0_Frames H) (Own.rpA 1 H rfl) hr6) fun g7 => ?_
  refine J.op rfl rfl rfl (V.as rfl rfl) ?_
  refine J.nil ?_
  refine J.tN ?_
  refine J.seq ?_
  obtain ⟨y8, hy14, h0⟩ := B.bind h0
  replace hy14 := B.top hy14
  refine J.cut (γ := Unit) (fun _ => True) (fun gy9 => [(1, .int .i64 p1_i), (2, .int .i64 p2_k), (3, bp b1 0), (6, bp b3 0), (8, .int .i64 y8)]) (fun gy9 => [.blk b3 [.int .i8 0, .slice none 0 0] 29, .blk b1 [.int .i8 p0_s.Across, v0_Frames] 29]) ?_ ?_
  · have h1 := hy14
    refine J.seq ?_
    refine J.region ?_
    refine J.op rfl rfl rfl (V.mv rfl rfl) ?_
    refine J.op rfl rfl rfl (V.cmp rfl rfl rfl rfl) ?_
    refine J.nil ?_
    refine J.tN ?_
    refine J.cond rfl (fun hB10 => ?_) (fun hB10 => ?_)
    · replace h1 := B.t hB10 h1
      refine J.region ?_
      refine J.op rfl rfl rfl (V.mv rfl rfl) ?_
      obtain ⟨r11, hr12, h1⟩ := B.bind h1
      refine J.clA (l := [.tmp 3, .tmp 14]) [] [.blk b3 [.int .i8 0, .slice none 0 0] 29, .blk b1 [.int .i8 p0_s.Across, v0_Frames] 29] cf27 (wN rfl) rfl rfl rfl rfl rfl rfl (fun w H => spec_l07Asked.calls (bp b1 0) (⟨p0_s.Across, p0_s.Frames⟩ : impl_Sheet) v0_Frames p2_k r11 w (Own.refl w) (Sl.laterA hS0_Frames H) (Own.rpA 1 H rfl) hr12) fun g13 => ?_
      refine J.op rfl rfl rfl (V.as rfl rfl) ?_
      refine J.nil ?_
      obtain rfl := B.e h1
      refine J.tN (J.to () trivial ?_)
      exact J.keep _ rfl (J.pickE [0, 1] rfl rfl J.here)
    · replace h1 := B.f hB10 h1
      refine J.skip ?_
      obtain rfl := B.e h1
      refine J.tN (J.to () trivial ?_)
      exact J.keep _ rfl (J.pickE [0, 1] rfl rfl J.here)
  · intro gy9 _
    refine J.seq ?_
    refine J.seq ?_
    refine J.region ?_
    refine J.op rfl rfl rfl (V.mv rfl rfl) ?_
    refine J.op rfl rfl rfl (V.cmp rfl rfl rfl rfl) ?_
    refine J.nil ?_
    refine J.tN ?_
    refine J.cond rfl (fun hB15 => ?_) (fun hB15 => ?_)
    · replace h0 := B.t hB15 h0
      refine J.seq ?_
      refine J.region ?_
      refine J.op rfl rfl rfl (V.bd (l := []) (v := .agg #[.int .i8 0, .slice none 0 0]) rfl rfl (fun w H => by kernel_rfl)) ?_
      refine J.op rfl rfl rfl (V.mv rfl rfl) ?_
      refine J.stW (cs' := [.int .i8 0, .slice none 0 0]) 0 rfl rfl rfl rfl rfl rfl ts29 rfl (fun _ H => (one_cons rfl (one_cons rfl one_nil))) rfl rfl ?_
      refine J.op rfl rfl rfl (V.as rfl rfl) ?_
      refine J.nil ?_
      refine J.tN ?_
      refine J.ret ?_
      refine J.tR ?_
      refine J.nilRow 60 (eA .i16 64) ?_
      obtain rfl := B.e h0
      exact J.retC_1 1 rfl rfl rfl ts29 ta29 rfl rfl fun w H => ⟨(.slice none 0 0), rfl, H.pick [0] (by decide)⟩
    · replace h0 := B.f hB15 h0
      refine J.skip ?_
      refine J.tN ?_
      refine J.seq ?_
      refine J.region ?_
      refine J.op rfl rfl rfl (V.faB rfl rfl tf1_29) ?_
      refine J.op rfl rfl rfl (V.ldB 1 rfl rfl rfl Try.underlying27 ta27 rfl) ?_
      obtain ⟨r17, hr18, h0⟩ := B.bind h0
      refine J.clA (l := [.tmp 3, .tmp 21]) [] [.blk b3 [.int .i8 0, .slice none 0 0] 29, .blk b1 [.int .i8 p0_s.Across, v0_Frames] 29] cf28 (wN rfl) rfl rfl rfl rfl rfl rfl (fun w H => spec_l07With.calls (bp b1 0) (⟨p0_s.Across, p0_s.Frames⟩ : impl_Sheet) v0_Frames v0_Frames p0_s.Frames r17 w (Own.refl w) (Sl.laterA hS0_Frames H) (Own.rpA 1 H rfl) (Sl.laterA hS0_Frames H) hr18) fun g19 => ?_
      refine J.alloc rfl rfl rfl rfl tz29 rfl fun b21 => ?_
      refine J.stW (cs' := [.int .i8 r17.Across, g19]) 0 rfl rfl rfl rfl rfl rfl ts29 rfl (fun _ H => (one_cons rfl (one_cons (Own.sl0 1 H rfl).one one_nil))) rfl rfl ?_
      refine J.nil ?_
      refine J.tN ?_
      refine J.seq ?_
      refine J.quietTail 9 mixed (by kernel_rfl) ?_
      refine JQ.op rfl rfl rfl (V.faB rfl rfl tf1_29) ?_
      refine JQ.op rfl rfl rfl (V.ldB 0 rfl rfl rfl Try.underlying27 ta27 rfl) ?_
      refine JQ.op rfl rfl rfl (V.mv rfl rfl) ?_
      refine JQ.op rfl rfl rfl (V.faB rfl rfl tf1_29) ?_
      refine JQ.op rfl rfl rfl (V.ldB 3 rfl rfl rfl Try.underlying27 ta27 rfl) ?_
      refine JQ.op rfl rfl rfl (V.mv rfl rfl) ?_
      obtain ⟨hC23, h0⟩ := B.chk h0
      refine JQ.op rfl rfl rfl (V.ixS hS0_Frames rfl rfl rfl tl27 ts60 hC23) ?_
      refine JQ.op rfl rfl rfl (V.elSA hS0_Frames hC23 rfl rfl ts60 ta60) ?_
      obtain ⟨hC24, h0⟩ := B.chk h0
      refine JQ.op rfl rfl rfl (V.ixR 1 rfl rfl rfl rfl tl27 ts60 hC24) ?_
      refine JQ.tail ?_
      refine J.stEA (e := (eA .i16 64)) (xs := r17.Frames) 1 (rd (eA .i16 64) p0_s.Frames p2_k) hC24 rfl rfl rfl rfl rfl rfl ts60 ?_
      obtain ⟨w25, ew25, h0⟩ := B.lt h0
      refine J.setEnt 1 rfl (congrArg (fun q => Ent.rowE _ _ (eA .i16 64) q) ew25) ?_
      refine J.nil ?_
      refine J.tN ?_
      refine J.seq ?_
      refine J.quietTail 9 mixed (by kernel_rfl) ?_
      refine JQ.op rfl rfl rfl (V.faB rfl rfl tf1_29) ?_
      refine JQ.op rfl rfl rfl (V.ldB 0 rfl rfl rfl Try.underlying27 ta27 rfl) ?_
      refine JQ.op rfl rfl rfl (V.mv rfl rfl) ?_
      refine JQ.op rfl rfl rfl (V.faB rfl rfl tf1_29) ?_
      refine JQ.op rfl rfl rfl (V.ldB 3 rfl rfl rfl Try.underlying27 ta27 rfl) ?_
      refine JQ.op rfl rfl rfl (V.mv rfl rfl) ?_
      obtain ⟨hC26, h0⟩ := B.chk h0
      refine JQ.op rfl rfl rfl (V.ixS hS0_Frames rfl rfl rfl tl27 ts60 hC26) ?_
      refine JQ.op rfl rfl rfl (V.elSA hS0_Frames hC26 rfl rfl ts60 ta60) ?_
      obtain ⟨hC27, h0⟩ := B.chk h0
      refine JQ.op rfl rfl rfl (V.ixR 1 rfl rfl rfl rfl tl27 ts60 hC27) ?_
      refine JQ.tail ?_
      refine J.stEA (e := (eA .i16 64)) (xs := w25) 1 (rd (eA .i16 64) p0_s.Frames p1_i) hC27 rfl rfl rfl rfl rfl rfl ts60 ?_
      obtain ⟨w28, ew28, h0⟩ := B.lt h0
      refine J.setEnt 1 rfl (congrArg (fun q => Ent.rowE _ _ (eA .i16 64) q) ew28) ?_
      refine J.nil ?_
      refine J.tN ?_
      refine J.seq ?_
      refine J.region ?_
      refine J.op rfl rfl rfl (V.ldW 0 rfl rfl rfl ts29 ta29 rfl) ?_
      refine J.stW (cs' := [.int .i8 r17.Across, g19]) 2 rfl rfl rfl rfl rfl rfl ts29 rfl (fun _ H => (one_cons rfl (one_cons (Own.sl0 1 H rfl).one one_nil))) rfl rfl ?_
      refine J.op rfl rfl rfl (V.as rfl rfl) ?_
      refine J.nil ?_
      refine J.tN ?_
      refine J.ret ?_
      obtain rfl := B.e h0
      exact J.retC_1 2 rfl rfl rfl ts29 ta29 rfl rfl fun w H => ⟨g19, rfl, H.pick [1] (by decide)⟩

/-! ### impl.PickFrames: function 23 -/
noncomputable def impl_PickFrames.b1 (p0_s : impl_Sheet) (p1_list : (List Int)) : (Int × (List (Vector Int 64))) → Option (Step (Int × (List (Vector Int 64))) ((List (Vector Int 64)))) := fun s16 => bif (decide (s16.1 < (p1_list.length : Int))) then (bif (inB s16.1 p1_list.length) then ((some (rd (eI .i64) p1_list s16.1)).bind fun i_21 => bif (inB i_21 p0_s.Frames.length) then (bif (roomB s16.2.length 1 128) then (some (.next (IntKind.wrap .i64 (s16.1 + 1), s16.2 ++ [(rd (eA .i16 64) p0_s.Frames i_21)]))) else none) else none) else none) else (some (.done s16.2))
noncomputable def impl_PickFrames.f (p0_s : impl_Sheet) (p1_list : (List Int)) : Option (impl_Sheet × Int) := (impl_sheetCode.f (⟨p0_s.Across, p0_s.Frames⟩ : impl_Sheet) p1_list).bind fun r5 => bif (r5 != 0) then (some ((⟨0, ([] : List (Vector Int 64))⟩ : impl_Sheet), r5)) else (bif (decide (12 < (p1_list.length : Int))) then (some ((⟨0, ([] : List (Vector Int 64))⟩ : impl_Sheet), 3)) else ((loopW (impl_PickFrames.b1 p0_s p1_list) (0, ([] : List (Vector Int 64)))).bind fun y28 => some ((⟨p0_s.Across, y28⟩ : impl_Sheet), 0)))
set_option maxRecDepth 100000 in
theorem impl_PickFrames.calls (p0_s : impl_Sheet) (v0_Frames : Value) (v1 : Value) (p1_list : (List Int)) (r : impl_Sheet × Int) (w : World) (H0 : Own [] w w []) (hS0_Frames : SlE [] w v0_Frames 60 (eA .i16 64) p0_s.Frames) (hS1 : SlE [] w v1 2 (eI .i64) p1_list) (h0 : impl_PickFrames.f p0_s p1_list = some r) :
    Calls Try.prog 23 #[.agg #[.int .i8 p0_s.Across, v0_Frames], v1] w (fun e w' => ∃ gh : Value, e = .returned (.tuple #[.agg #[.int .i8 r.1.Across, gh], .int .i64 r.2]) ∧ Own [] w w' [.rowE gh 60 (eA .i16 64) r.1.Frames]) := by
  unfold impl_PickFrames.f at h0
  replace h0 := B.top h0
  refine calls_of_J (args := [.agg #[.int .i8 p0_s.Across, v0_Frames], v1]) Try.func23 rfl Try.ntmps23 rfl [(0, .agg #[.int .i8 p0_s.Across, v0_Frames]), (1, v1)] rfl H0 ?_
  refine J.seq ?_
  refine J.region ?_
  refine J.box rfl rfl rfl rfl rfl (fun _ _ => rfl) fun b1 => ?_
  refine J.alloc rfl rfl rfl rfl tz29 rfl fun b3 => ?_
  refine J.op rfl rfl rfl (V.as rfl rfl) ?_
  refine J.nil ?_
  refine J.tN ?_
  refine J.seq ?_
  refine J.seq ?_
  refine J.region ?_
  refine J.op rfl rfl rfl (V.ldW 1 rfl rfl rfl ts29 ta29 rfl) ?_
  refine J.op rfl rfl rfl (V.mv rfl rfl) ?_
  obtain ⟨r5, hr6, h0⟩ := B.bind h0
  refine J.clA (l := [.tmp 10, .tmp 11]) [] [.blk b3 [.int .i8 0, .slice none 0 0] 29, .blk b1 [.int .i8 p0_s.Across, v0_Frames] 29] cf30 (wN rfl) rfl rfl rfl rfl rfl rfl (fun w H => impl_sheetCode.calls (⟨p0_s.Across, p0_s.Frames⟩ : impl_Sheet) v0_Frames v1 p1_list r5 w (Own.refl w) (Sl.laterA hS0_Frames H) (Sl.laterA hS1 H) hr6) fun g7 => ?_
  refine J.op rfl rfl rfl (V.as rfl rfl) ?_
  refine J.nil ?_
  refine J.tN ?_
  refine J.seq ?_
  refine J.region ?_
  refine J.op rfl rfl rfl (V.mv rfl rfl) ?_
  refine J.op rfl rfl rfl (V.cmp rfl rfl rfl rfl) ?_
  refine J.nil ?_
  refine J.tN ?_
  refine J.cond rfl (fun hB8 => ?_) (fun hB8 => ?_)
  · replace h0 := B.t hB8 h0
    refine J.seq ?_
    refine J.region ?_
    refine J.op rfl rfl rfl (V.bd (l := []) (v := .agg #[.int .i8 0, .slice none 0 0]) rfl rfl (fun w H => by kernel_rfl)) ?_
    refine J.op rfl rfl rfl (V.mv rfl rfl) ?_
    refine J.stW (cs' := [.int .i8 0, .slice none 0 0]) 0 rfl rfl rfl rfl rfl rfl ts29 rfl (fun _ H => (one_cons rfl (one_cons rfl one_nil))) rfl rfl ?_
    refine J.op rfl rfl rfl (V.as rfl rfl) ?_
    refine J.nil ?_
    refine J.tN ?_
    refine J.ret ?_
    refine J.tR ?_
    refine J.nilRow 60 (eA .i16 64) ?_
    obtain rfl := B.e h0
    exact J.retC_1 1 rfl rfl rfl ts29 ta29 rfl rfl fun w H => ⟨(.slice none 0 0), rfl, H.pick [0] (by decide)⟩
  · replace h0 := B.f hB8 h0
    refine J.skip ?_
    refine J.tN ?_
    refine J.seq ?_
    refine J.seq ?_
    refine J.region ?_
    refine J.op rfl rfl rfl (V.mv rfl rfl) ?_
    refine J.op rfl rfl rfl (V.lenS hS1 rfl rfl tl48) ?_
    refine J.op rfl rfl rfl (V.cmp rfl rfl rfl rfl) ?_
    refine J.nil ?_
    refine J.tN ?_
    refine J.cond rfl (fun hB10 => ?_) (fun hB10 => ?_)
    · replace h0 := B.t hB10 h0
      refine J.seq ?_
      refine J.region ?_
      refine J.op rfl rfl rfl (V.bd (l := []) (v := .agg #[.int .i8 0, .slice none 0 0]) rfl rfl (fun w H => by kernel_rfl)) ?_
      refine J.stW (cs' := [.int .i8 0, .slice none 0 0]) 0 rfl rfl rfl rfl rfl rfl ts29 rfl (fun _ H => (one_cons rfl (one_cons rfl one_nil))) rfl rfl ?_
      refine J.op rfl rfl rfl (V.as rfl rfl) ?_
      refine J.nil ?_
      refine J.tN ?_
      refine J.ret ?_
      refine J.tR ?_
      refine J.nilRow 60 (eA .i16 64) ?_
      obtain rfl := B.e h0
      exact J.retC_1 1 rfl rfl rfl ts29 ta29 rfl rfl fun w H => ⟨(.slice none 0 0), rfl, H.pick [0] (by decide)⟩
    · replace h0 := B.f hB10 h0
      refine J.skip ?_
      refine J.tN ?_
      refine J.seq ?_
      refine J.region ?_
      refine J.op rfl rfl rfl (V.faB rfl rfl tf0_29) ?_
      refine J.op rfl rfl rfl (V.ldB 1 rfl rfl rfl Try.underlying22 ta22 rfl) ?_
      refine J.op rfl rfl rfl (V.bd (l := [(0, .tmp 22)]) (v := .agg #[.int .i8 p0_s.Across, .slice none 0 0]) rfl rfl (fun w H => by kernel_rfl)) ?_
      refine J.alloc rfl rfl rfl rfl tz29 rfl fun b12 => ?_
      refine J.stW (cs' := [.int .i8 p0_s.Across, .slice none 0 0]) 0 rfl rfl rfl rfl rfl rfl ts29 rfl (fun _ H => (one_cons rfl (one_cons rfl one_nil))) rfl rfl ?_
      refine J.nil ?_
      refine J.tN ?_
      refine J.seq ?_
      refine J.seq ?_
      refine J.region ?_
      refine J.op rfl rfl rfl (V.mv rfl rfl) ?_
      refine J.op rfl rfl rfl (V.lenS hS1 rfl rfl tl48) ?_
      refine J.op rfl rfl rfl (V.mv rfl rfl) ?_
      refine J.nil ?_
      refine J.tN ?_
      refine J.nilRow 60 (eA .i16 64) ?_
      refine J.nilRow 60 (eA .i16 64) ?_
      obtain ⟨y28, hy30, h0⟩ := B.bind h0
      refine J.cutQ (γ := Value) (fun _ => True) (fun gy29 => [(4, bp b3 0), (7, bp b12 0)]) (fun gy29 => [.rowE (.slice none 0 0) 60 (eA .i16 64) ([] : List (Vector Int 64)), .rowE gy29 60 (eA .i16 64) y28, .blk b12 [.int .i8 p0_s.Across, gy29] 29, .blk b3 [.int .i8 0, (.slice none 0 0)] 29, .blk b1 [.int .i8 p0_s.Across, v0_Frames] 29]) ?_ ?_
      · refine J.block ?_
        refine J.loop (γ := Value) hy30 (fun s16 g17 => [(2, bp b1 0), (4, bp b3 0), (7, bp b12 0), (24, v1), (25, .int .i64 (p1_list.length : Int)), (26, .int .i64 s16.1)]) (fun s16 g17 => [.rowE (.slice none 0 0) 60 (eA .i16 64) ([] : List (Vector Int 64)), .rowE g17 60 (eA .i16 64) s16.2, .blk b12 [.int .i8 p0_s.Across, g17] 29, .blk b3 [.int .i8 0, (.slice none 0 0)] 29, .blk b1 [.int .i8 p0_s.Across, v0_Frames] 29]) (.slice none 0 0) ?_ ?_
        · exact J.keep _ rfl (J.pickE [0, 1, 2, 3, 4] rfl rfl J.here)
        · intro rec18 s16 g17 h1
          unfold impl_PickFrames.b1 at h1
          refine J.seq ?_
          refine J.region ?_
          refine J.op rfl rfl rfl (V.cmp rfl rfl rfl rfl) ?_
          refine J.nil ?_
          refine J.tN ?_
          refine J.seq ?_
          refine J.cond rfl (fun hB19 => ?_) (fun hB19 => ?_)
          · replace h1 := B.t hB19 h1
            refine J.skip ?_
            refine J.tN ?_
            refine J.seq ?_
            refine J.block ?_
            refine J.seq ?_
            refine J.region ?_
            obtain ⟨hC20, h1⟩ := B.chk h1
            refine J.op rfl rfl rfl (V.ixS hS1 rfl rfl rfl tl48 ts2 hC20) ?_
            refine J.op rfl rfl rfl (V.elS0 hS1 hC20 rfl rfl Try.underlying2 ta2 rfl) ?_
            refine J.op rfl rfl rfl (V.as rfl rfl) ?_
            obtain ⟨i_21, ei_21, h1⟩ := B.lt h1
            refine J.val (congrArg (Value.int .i64) ei_21) ?_
            refine J.nil ?_
            refine J.tN ?_
            obtain ⟨hC22, h1⟩ := B.chk h1
            obtain ⟨hC26, h1⟩ := B.chk h1
            refine J.cutQ (γ := Nat × Value) (fun _ => True) (fun gx27 => [(2, bp b1 0), (4, bp b3 0), (7, bp b12 0), (24, v1), (25, .int .i64 (p1_list.length : Int)), (26, .int .i64 s16.1)]) (fun gx27 => [.blk gx27.1 ((eA .i16 64).enc (rd (eA .i16 64) p0_s.Frames i_21)) 60, .rowE (.slice none 0 0) 60 (eA .i16 64) ([] : List (Vector Int 64)), .rowE gx27.2 60 (eA .i16 64) (s16.2 ++ [(rd (eA .i16 64) p0_s.Frames i_21)]), .blk b12 [.int .i8 p0_s.Across, gx27.2] 29, .blk b3 [.int .i8 0, (.slice none 0 0)] 29, .blk b1 [.int .i8 p0_s.Across, v0_Frames] 29]) ?_ ?_
            · refine J.any 11 rfl [.rowE (.slice none 0 0) 60 (eA .i16 64) ([] : List (Vector Int 64)), .blk b3 [.int .i8 0, (.slice none 0 0)] 29, .blk b1 [.int .i8 p0_s.Across, v0_Frames] 29] mixed ?_
              refine JH.take (i := 0) [0, 3, 4] rfl (by kernel_rfl) rfl rfl rfl rfl rfl (V.faB rfl rfl tf1_29) ?_
              refine JH.take (i := 2) [0, 3, 4] rfl (by kernel_rfl) rfl rfl rfl rfl rfl (V.faB rfl rfl tf1_29) ?_
              refine JH.take (i := 3) [0, 3, 4] rfl (by kernel_rfl) rfl rfl rfl rfl rfl (V.ldB 2 rfl rfl rfl Try.underlying27 ta27 rfl) ?_
              refine JH.take (i := 4) [0, 3, 4] rfl (by kernel_rfl) rfl rfl rfl rfl rfl (V.mv rfl rfl) ?_
              refine JH.take (i := 5) [0, 3, 4] rfl (by kernel_rfl) rfl rfl rfl rfl rfl (V.ixS hS0_Frames rfl rfl rfl tl27 ts60 hC22) ?_
              refine JH.take (i := 6) [0, 3, 4] rfl (by kernel_rfl) rfl rfl rfl rfl rfl (V.elSA hS0_Frames hC22 rfl rfl ts60 ta60) ?_
              refine JH.all [1, 7] (by kernel_rfl) rfl (JHall.cons (JH.op rfl ?_) (JHall.cons (JH.op rfl ?_) (JHall.nil)))
              · refine J.op rfl rfl rfl (V.ldB 2 rfl rfl rfl Try.underlying27 ta27 rfl) ?_
                refine J.nil ?_
                refine JH.back [0, 3, 4] rfl rfl ?_
                refine JH.all [7] (by kernel_rfl) rfl (JHall.cons (JH.op rfl ?_) (JHall.nil))
                obtain ⟨_, ti1, ti2, ti3, ti4⟩ := ti60
                refine J.bs1 (e := (eA .i16 64)) (l := [(0, .tmp 36)]) (rd (eA .i16 64) p0_s.Frames i_21) ti1 tl27 ti2 ti3 rfl rfl rfl rfl rfl rfl rfl rfl rfl rfl fun b23 => ?_
                refine J.nil ?_
                refine JH.back [1, 4, 5] rfl rfl ?_
                refine JH.all [8] (by kernel_rfl) rfl (JHall.cons (JH.op rfl ?_) (JHall.nil))
                obtain ⟨_, ti1, ti2, ti3, ti4⟩ := ti60
                refine J.ap1 (e := (eA .i16 64)) (xs := s16.2) 2 0 (rd (eA .i16 64) p0_s.Frames i_21) hC26 ti1 tl27 ti2 ti3 ti4 rfl rfl rfl rfl rfl rfl rfl rfl rfl rfl fun v25 => ?_
                refine J.nil ?_
                refine JH.back [1, 4, 5] rfl rfl ?_
                refine JH.take (i := 9) [1, 4, 5] rfl (by kernel_rfl) rfl rfl rfl rfl rfl (V.faB rfl rfl tf1_29) ?_
                refine JH.all [10] (by kernel_rfl) rfl (JHall.cons (JH.op rfl ?_) (JHall.nil))
                refine J.stB 3 rfl rfl rfl rfl rfl rfl ts27 (fun _ H => (Own.sl0 2 H rfl).one) rfl ?_
                refine J.nil ?_
                refine JH.back [1, 4, 5] rfl rfl ?_
                refine JH.fin (by kernel_rfl) ?_
                refine J.tN (J.to (b23, v25) trivial ?_)
                exact J.keep _ rfl (J.pickE [0, 1, 2, 3, 4, 5] rfl rfl J.here)
              · obtain ⟨_, ti1, ti2, ti3, ti4⟩ := ti60
                refine J.bs1 (e := (eA .i16 64)) (l := [(0, .tmp 36)]) (rd (eA .i16 64) p0_s.Frames i_21) ti1 tl27 ti2 ti3 rfl rfl rfl rfl rfl rfl rfl rfl rfl rfl fun b23 => ?_
                refine J.nil ?_
                refine JH.back [1, 4, 5] rfl rfl ?_
                refine JH.all [1] (by kernel_rfl) rfl (JHall.cons (JH.op rfl ?_) (JHall.nil))
                refine J.op rfl rfl rfl (V.ldB 3 rfl rfl rfl Try.underlying27 ta27 rfl) ?_
                refine J.nil ?_
                refine JH.back [1, 4, 5] rfl rfl ?_
                refine JH.all [8] (by kernel_rfl) rfl (JHall.cons (JH.op rfl ?_) (JHall.nil))
                obtain ⟨_, ti1, ti2, ti3, ti4⟩ := ti60
                refine J.ap1 (e := (eA .i16 64)) (xs := s16.2) 2 0 (rd (eA .i16 64) p0_s.Frames i_21) hC26 ti1 tl27 ti2 ti3 ti4 rfl rfl rfl rfl rfl rfl rfl rfl rfl rfl fun v25 => ?_
                refine J.nil ?_
                refine JH.back [1, 4, 5] rfl rfl ?_
                refine JH.take (i := 9) [1, 4, 5] rfl (by kernel_rfl) rfl rfl rfl rfl rfl (V.faB rfl rfl tf1_29) ?_
                refine JH.all [10] (by kernel_rfl) rfl (JHall.cons (JH.op rfl ?_) (JHall.nil))
                refine J.stB 3 rfl rfl rfl rfl rfl rfl ts27 (fun _ H => (Own.sl0 2 H rfl).one) rfl ?_
                refine J.nil ?_
                refine JH.back [1, 4, 5] rfl rfl ?_
                refine JH.fin (by kernel_rfl) ?_
                refine J.tN (J.to (b23, v25) trivial ?_)
                exact J.keep _ rfl (J.pickE [0, 1, 2, 3, 4, 5] rfl rfl J.here)
            · intro gx27 _
              refine J.bN ?_
              refine J.tN ?_
              refine J.region ?_
              refine J.op rfl rfl rfl (V.ar rfl rfl rfl rfl) ?_
              refine J.op rfl rfl rfl (V.mv rfl rfl) ?_
              refine J.nil ?_
              refine J.tN (J.next (IntKind.wrap .i64 (s16.1 + 1), s16.2 ++ [(rd (eA .i16 64) p0_s.Frames i_21)]) gx27.2 (B.n h1) ?_)
              exact J.keep _ rfl (J.pickE [1, 2, 3, 4, 5] rfl rfl J.here)
          · replace h1 := B.f hB19 h1
            refine J.exit ?_
            refine J.tE ?_
            refine J.tE ?_
            refine J.bE ?_
            obtain rfl := B.d h1
            refine J.tN (J.to g17 trivial ?_)
            exact J.keep _ rfl (J.pickE [0, 1, 2, 3, 4] rfl rfl J.here)
      · intro gy29 _
        refine J.tN ?_
        refine J.seq ?_
        refine J.region ?_
        refine J.op rfl rfl rfl (V.ldW 2 rfl rfl rfl ts29 ta29 rfl) ?_
        refine J.stW (cs' := [.int .i8 p0_s.Across, gy29]) 3 rfl rfl rfl rfl rfl rfl ts29 rfl (fun _ H => (one_cons rfl (one_cons (Own.sl0 1 H rfl).one one_nil))) rfl rfl ?_
        refine J.op rfl rfl rfl (V.as rfl rfl) ?_
        refine J.nil ?_
        refine J.tN ?_
        refine J.ret ?_
        obtain rfl := B.e h0
        exact J.retC_1 3 rfl rfl rfl ts29 ta29 rfl rfl fun w H => ⟨gy29, rfl, H.pick [1] (by decide)⟩

/-! ### spec.SameSheet: function 24 -/
noncomputable def spec_SameSheet.b1 (p0_a : impl_Sheet) (p1_b : impl_Sheet) : Int → Option (Step (Int) (Sum (Unit) (Bool))) := fun s10 => bif (decide (s10 < (p0_a.Frames.length : Int))) then (bif (inB s10 p0_a.Frames.length) then (bif (inB s10 p1_b.Frames.length) then (bif (!((rd (eA .i16 64) p0_a.Frames s10) == (rd (eA .i16 64) p1_b.Frames s10))) then (some (.done (.inr false))) else ((some (IntKind.wrap .i64 (s10 + 1))).bind fun i_17 => some (.next i_17))) else none) else none) else (some (.done (.inl ())))
noncomputable def spec_SameSheet.f (p0_a : impl_Sheet) (p1_b : impl_Sheet) : Option (Bool) := (bif (p0_a.Across != p1_b.Across) then (some true) else (some ((p0_a.Frames.length : Int) != (p1_b.Frames.length : Int))) : Option (Bool)).bind fun y5 => bif y5 then (some false) else ((loopW (spec_SameSheet.b1 p0_a p1_b) 0).bind (Sum.elim (fun y19 => some true) (fun r => some r)))
set_option maxRecDepth 100000 in
theorem spec_SameSheet.calls (p0_a : impl_Sheet) (v0_Frames : Value) (p1_b : impl_Sheet) (v1_Frames : Value) (r : Bool) (w : World) (H0 : Own [] w w []) (hS0_Frames : SlE [] w v0_Frames 60 (eA .i16 64) p0_a.Frames) (hS1_Frames : SlE [] w v1_Frames 60 (eA .i16 64) p1_b.Frames) (h0 : spec_SameSheet.f p0_a p1_b = some r) :
    Calls Try.prog 24 #[.agg #[.int .i8 p0_a.Across, v0_Frames], .agg #[.int .i8 p1_b.Across, v1_Frames]] w (fun e w' => ∃ _ : Unit, e = .returned (.bool r) ∧ Own [] w w' []) := by
  unfold spec_SameSheet.f at h0
  replace h0 := B.top h0
  refine calls_of_J (args := [.agg #[.int .i8 p0_a.Across, v0_Frames], .agg #[.int .i8 p1_b.Across, v1_Frames]]) Try.func24 rfl Try.ntmps24 rfl [(0, .agg #[.int .i8 p0_a.Across, v0_Frames]), (1, .agg #[.int .i8 p1_b.Across, v1_Frames])] rfl H0 ?_
  refine J.seq ?_
  refine J.region ?_
  refine J.box rfl rfl rfl rfl rfl (fun _ _ => rfl) fun b1 => ?_
  refine J.box rfl rfl rfl rfl rfl (fun _ _ => rfl) fun b3 => ?_
  refine J.op rfl rfl rfl (V.as rfl rfl) ?_
  refine J.nil ?_
  refine J.tN ?_
  refine J.seq ?_
  refine J.seq ?_
  obtain ⟨y5, hy8, h0⟩ := B.bind h0
  replace hy8 := B.top hy8
  refine J.cut (γ := Unit) (fun _ => True) (fun gy6 => [(2, bp b1 0), (3, bp b3 0), (19, .bool y5)]) (fun gy6 => [.blk b3 [.int .i8 p1_b.Across, v1_Frames] 29, .blk b1 [.int .i8 p0_a.Across, v0_Frames] 29]) ?_ ?_
  · have h1 := hy8
    refine J.region ?_
    refine J.op rfl rfl rfl (V.faB rfl rfl tf0_29) ?_
    refine J.op rfl rfl rfl (V.ldB 1 rfl rfl rfl Try.underlying22 ta22 rfl) ?_
    refine J.op rfl rfl rfl (V.faB rfl rfl tf0_29) ?_
    refine J.op rfl rfl rfl (V.ldB 0 rfl rfl rfl Try.underlying22 ta22 rfl) ?_
    refine J.op rfl rfl rfl (V.cmp rfl rfl rfl rfl) ?_
    refine J.op rfl rfl rfl (V.mv rfl rfl) ?_
    refine J.split 11 rfl (fun hB7 => ?_) (fun hB7 => ?_)
    · replace h1 := B.t hB7 h1
      refine J.opOff rfl rfl rfl rfl rfl rfl ?_
      refine J.opOff rfl rfl rfl rfl rfl rfl ?_
      refine J.opOff rfl rfl rfl rfl rfl rfl ?_
      refine J.opOff rfl rfl rfl rfl rfl rfl ?_
      refine J.opOff rfl rfl rfl rfl rfl rfl ?_
      refine J.opOff rfl rfl rfl rfl rfl rfl ?_
      refine J.opOff rfl rfl rfl rfl rfl rfl ?_
      refine J.op rfl rfl rfl (V.pkT rfl rfl rfl) ?_
      refine J.nil ?_
      obtain rfl := B.e h1
      refine J.tN (J.to () trivial ?_)
      exact J.keep _ rfl (J.pickE [0, 1] rfl rfl J.here)
    · replace h1 := B.f hB7 h1
      refine J.opOn rfl rfl rfl rfl rfl (V.faB rfl rfl tf1_29) ?_
      refine J.opOn rfl rfl rfl rfl rfl (V.ldB 1 rfl rfl rfl Try.underlying27 ta27 rfl) ?_
      refine J.opOn rfl rfl rfl rfl rfl (V.lenS hS0_Frames rfl rfl tl27) ?_
      refine J.opOn rfl rfl rfl rfl rfl (V.faB rfl rfl tf1_29) ?_
      refine J.opOn rfl rfl rfl rfl rfl (V.ldB 0 rfl rfl rfl Try.underlying27 ta27 rfl) ?_
      refine J.opOn rfl rfl rfl rfl rfl (V.lenS hS1_Frames rfl rfl tl27) ?_
      refine J.opOn rfl rfl rfl rfl rfl (V.cmp rfl rfl rfl rfl) ?_
      refine J.op rfl rfl rfl (V.pkF rfl rfl rfl) ?_
      refine J.nil ?_
      obtain rfl := B.e h1
      refine J.tN (J.to () trivial ?_)
      exact J.keep _ rfl (J.pickE [0, 1] rfl rfl J.here)
  · intro gy6 _
    refine J.cond rfl (fun hB9 => ?_) (fun hB9 => ?_)
    · replace h0 := B.t hB9 h0
      refine J.seq ?_
      refine J.region ?_
      refine J.op rfl rfl rfl (V.as rfl rfl) ?_
      refine J.nil ?_
      refine J.tN ?_
      refine J.ret ?_
      refine J.tR ?_
      obtain rfl := B.e h0
      exact J.ret1 rfl rfl fun w H => ⟨(), rfl, H.pick [] (by decide)⟩
    · replace h0 := B.f hB9 h0
      refine J.skip ?_
      refine J.tN ?_
      refine J.seq ?_
      refine J.seq ?_
      refine J.region ?_
      refine J.op rfl rfl rfl (V.as rfl rfl) ?_
      refine J.nil ?_
      refine J.tN ?_
      obtain ⟨o21, hy20, h0⟩ := B.bind h0
      refine J.cutQ (γ := (Unit) × (Unit)) (fun gy19 => o21 = .inl gy19.1) (fun gy19 => []) (fun gy19 => [.blk b3 [.int .i8 p1_b.Across, v1_Frames] 29, .blk b1 [.int .i8 p0_a.Across, v0_Frames] 29]) ?_ ?_
      · refine J.block ?_
        refine J.loop (γ := Unit) hy20 (fun s10 g11 => [(2, bp b1 0), (3, bp b3 0), (5, .int .i64 s10)]) (fun s10 g11 => [.blk b3 [.int .i8 p1_b.Across, v1_Frames] 29, .blk b1 [.int .i8 p0_a.Across, v0_Frames] 29]) () ?_ ?_
        · exact J.keep _ rfl (J.pickE [0, 1] rfl rfl J.here)
        · intro rec12 s10 g11 h1
          unfold spec_SameSheet.b1 at h1
          refine J.seq ?_
          refine J.seq ?_
          refine J.region ?_
          refine J.op rfl rfl rfl (V.mv rfl rfl) ?_
          refine J.op rfl rfl rfl (V.faB rfl rfl tf1_29) ?_
          refine J.op rfl rfl rfl (V.ldB 1 rfl rfl rfl Try.underlying27 ta27 rfl) ?_
          refine J.op rfl rfl rfl (V.lenS hS0_Frames rfl rfl tl27) ?_
          refine J.op rfl rfl rfl (V.cmp rfl rfl rfl rfl) ?_
          refine J.nil ?_
          refine J.tN ?_
          refine J.cond rfl (fun hB13 => ?_) (fun hB13 => ?_)
          · replace h1 := B.t hB13 h1
            refine J.skip ?_
            refine J.tN ?_
            refine J.seq ?_
            refine J.block ?_
            refine J.seq ?_
            refine J.quiet mixed (by kernel_rfl) ?_
            refine JQ.op rfl rfl rfl (V.faB rfl rfl tf1_29) ?_
            refine JQ.op rfl rfl rfl (V.ldB 1 rfl rfl rfl Try.underlying27 ta27 rfl) ?_
            refine JQ.op rfl rfl rfl (V.mv rfl rfl) ?_
            obtain ⟨hC14, h1⟩ := B.chk h1
            refine JQ.op rfl rfl rfl (V.ixS hS0_Frames rfl rfl rfl tl27 ts60 hC14) ?_
            refine JQ.op rfl rfl rfl (V.elSA hS0_Frames hC14 rfl rfl ts60 ta60) ?_
            refine JQ.op rfl rfl rfl (V.faB rfl rfl tf1_29) ?_
            refine JQ.op rfl rfl rfl (V.ldB 0 rfl rfl rfl Try.underlying27 ta27 rfl) ?_
            refine JQ.op rfl rfl rfl (V.mv rfl rfl) ?_
            obtain ⟨hC15, h1⟩ := B.chk h1
            refine JQ.op rfl rfl rfl (V.ixS hS1_Frames rfl rfl rfl tl27 ts60 hC15) ?_
            refine JQ.op rfl rfl rfl (V.elSA hS1_Frames hC15 rfl rfl ts60 ta60) ?_
            refine JQ.op rfl rfl rfl (V.neA rfl rfl rfl tr60 ts58 Try.underlying58 ta58 (by kernel_rfl)) ?_
            refine JQ.nil ?_
            refine J.tN ?_
            refine J.cond rfl (fun hB16 => ?_) (fun hB16 => ?_)
            · replace h1 := B.t hB16 h1
              refine J.seq ?_
              refine J.region ?_
              refine J.op rfl rfl rfl (V.as rfl rfl) ?_
              refine J.nil ?_
              refine J.tN ?_
              refine J.ret ?_
              refine J.bR ?_
              refine J.tR ?_
              refine J.tR ?_
              refine J.bR ?_
              refine J.tR ?_
              refine J.tR ?_
              obtain rfl := B.d h1
              replace h0 := B.inr h0
              obtain rfl := B.e h0
              exact J.ret1 rfl rfl fun w H => ⟨(), rfl, H.pick [] (by decide)⟩
            · replace h1 := B.f hB16 h1
              refine J.skip ?_
              refine J.bN ?_
              refine J.tN ?_
              refine J.region ?_
              refine J.op rfl rfl rfl (V.mv rfl rfl) ?_
              refine J.op rfl rfl rfl (V.ar rfl rfl rfl rfl) ?_
              refine J.op rfl rfl rfl (V.as rfl rfl) ?_
              obtain ⟨i_17, ei_17, h1⟩ := B.lt h1
              refine J.val (congrArg (Value.int .i64) ei_17) ?_
              refine J.nil ?_
              refine J.tN (J.next i_17 () (B.n h1) ?_)
              exact J.keep _ rfl (J.pickE [0, 1] rfl rfl J.here)
          · replace h1 := B.f hB13 h1
            refine J.exit ?_
            refine J.tE ?_
            refine J.tE ?_
            refine J.bE ?_
            obtain rfl := B.d h1
            refine J.tN (J.to ((), ()) rfl ?_)
            exact J.keep _ rfl (J.pickE [0, 1] rfl rfl J.here)
      · intro gy19 hG
        replace h0 := B.inl hG h0
        refine J.tN ?_
        refine J.seq ?_
        refine J.region ?_
        refine J.op rfl rfl rfl (V.as rfl rfl) ?_
        refine J.nil ?_
        refine J.tN ?_
        refine J.ret ?_
        obtain rfl := B.e h0
        exact J.ret1 rfl rfl fun w H => ⟨(), rfl, H.pick [] (by decide)⟩

end Go.Proofs.Ytnjabckgklafhaa
