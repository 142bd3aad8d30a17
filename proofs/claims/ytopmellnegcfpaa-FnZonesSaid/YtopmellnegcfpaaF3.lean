/- Go functions as Lean functions, and that each call of theirs comes to just that: by a program written for this work (walk.py). No condition. -/
import Derived.Test.YtopmellnegcfpaaF2
namespace Go.Proofs.Ytopmellnegcfpaa
open Go Go.RowKit G
set_option linter.unusedVariables false

/-! ### spec.SamePlacing: function 24 -/
noncomputable def spec_SamePlacing.f (p0_p : impl_Placement) (p1_zone : Int) : Option (impl_Placement × Int) := (spec_l06Placement.f (⟨p0_p.Reading, p0_p.Zone⟩ : impl_Placement)).bind fun r5 => bif (!r5) then (some ((⟨0, 0⟩ : impl_Placement), 1)) else ((spec_l00In.f p1_zone 0 10).bind fun r9 => bif (!r9) then (some ((⟨0, 0⟩ : impl_Placement), 2)) else ((some (IntKind.wrap .i64 ((IntKind.wrap .i64 p0_p.Reading) + (IntKind.wrap .i64 (3 * (IntKind.wrap .i64 (p1_zone - (IntKind.wrap .i64 p0_p.Zone)))))))).bind fun reading_13 => (spec_l06Reading.f reading_13).bind fun r14 => bif (!r14) then (some ((⟨0, 0⟩ : impl_Placement), 6)) else (some ((⟨IntKind.wrap .i8 reading_13, IntKind.wrap .i8 p1_zone⟩ : impl_Placement), 0))))
set_option maxRecDepth 100000 in
theorem spec_SamePlacing.calls (p0_p : impl_Placement) (p1_zone : Int) (r : impl_Placement × Int) (w : World) (H0 : Own [] w w []) (h0 : spec_SamePlacing.f p0_p p1_zone = some r) :
    Calls Try.prog 24 #[.agg #[.int .i8 p0_p.Reading, .int .i8 p0_p.Zone], .int .i64 p1_zone] w (fun e w' => ∃ _ : Unit, e = .returned (.tuple #[.agg #[.int .i8 r.1.Reading, .int .i8 r.1.Zone], .int .i64 r.2]) ∧ Own [] w w' []) := by
  unfold spec_SamePlacing.f at h0
  replace h0 := B.top h0
  refine calls_of_J (args := [.agg #[.int .i8 p0_p.Reading, .int .i8 p0_p.Zone], .int .i64 p1_zone]) Try.func24 rfl Try.ntmps24 rfl [(0, .agg #[.int .i8 p0_p.Reading, .int .i8 p0_p.Zone]), (1, .int .i64 p1_zone)] rfl H0 ?_
  refine J.seq ?_
  refine J.region ?_
  refine J.box rfl rfl rfl rfl rfl (fun _ _ => rfl) fun b1 => ?_
  refine J.alloc rfl rfl rfl rfl tz35 rfl fun b3 => ?_
  refine J.op rfl rfl rfl (V.as rfl rfl) ?_
  refine J.nil ?_
  refine J.tN ?_
  refine J.seq ?_
  refine J.seq ?_
  refine J.region ?_
  refine J.op rfl rfl rfl (V.ldW 1 rfl rfl rfl ts35 ta35 rfl) ?_
  obtain ⟨r5, hr6, h0⟩ := B.bind h0
  refine J.cl (l := [.tmp 7]) [] [.blk b3 [.int .i8 0, .int .i8 0] 35, .blk b1 [.int .i8 p0_p.Reading, .int .i8 p0_p.Zone] 35] cf50 (wN rfl) rfl rfl rfl rfl rfl rfl (by simp) (fun w H => spec_l06Placement.calls (⟨p0_p.Reading, p0_p.Zone⟩ : impl_Placement) r5 w (Own.refl w)  hr6) fun g7 => ?_
  refine J.op rfl rfl rfl (V.nt rfl rfl) ?_
  refine J.nil ?_
  refine J.tN ?_
  refine J.cond rfl (fun hB8 => ?_) (fun hB8 => ?_)
  · replace h0 := B.t hB8 h0
    refine J.seq ?_
    refine J.region ?_
    refine J.op rfl rfl rfl (V.bd (l := []) (v := .agg #[.int .i8 0, .int .i8 0]) rfl rfl (fun w H => by kernel_rfl)) ?_
    refine J.stW (cs' := [.int .i8 0, .int .i8 0]) 0 rfl rfl rfl rfl rfl rfl ts35 rfl (fun u hu => by simp at hu; rcases hu with rfl | rfl <;> rfl) rfl rfl ?_
    refine J.op rfl rfl rfl (V.as rfl rfl) ?_
    refine J.nil ?_
    refine J.tN ?_
    refine J.ret ?_
    refine J.tR ?_
    obtain rfl := B.e h0
    exact J.retC_1 0 rfl rfl rfl ts35 ta35 rfl rfl fun w H => ⟨(), rfl, H.pick [] (by decide)⟩
  · replace h0 := B.f hB8 h0
    refine J.skip ?_
    refine J.tN ?_
    refine J.seq ?_
    refine J.seq ?_
    refine J.region ?_
    refine J.op rfl rfl rfl (V.mv rfl rfl) ?_
    obtain ⟨r9, hr10, h0⟩ := B.bind h0
    refine J.cl (l := [.tmp 11, .const (.int .i64 0), .const (.int .i64 10)]) [] [.blk b3 [.int .i8 0, .int .i8 0] 35, .blk b1 [.int .i8 p0_p.Reading, .int .i8 p0_p.Zone] 35] cf33 (wN rfl) rfl rfl rfl rfl rfl rfl (by simp) (fun w H => spec_l00In.calls p1_zone 0 10 r9 w (Own.refl w)  hr10) fun g11 => ?_
    refine J.op rfl rfl rfl (V.nt rfl rfl) ?_
    refine J.nil ?_
    refine J.tN ?_
    refine J.cond rfl (fun hB12 => ?_) (fun hB12 => ?_)
    · replace h0 := B.t hB12 h0
      refine J.seq ?_
      refine J.region ?_
      refine J.op rfl rfl rfl (V.bd (l := []) (v := .agg #[.int .i8 0, .int .i8 0]) rfl rfl (fun w H => by kernel_rfl)) ?_
      refine J.stW (cs' := [.int .i8 0, .int .i8 0]) 0 rfl rfl rfl rfl rfl rfl ts35 rfl (fun u hu => by simp at hu; rcases hu with rfl | rfl <;> rfl) rfl rfl ?_
      refine J.op rfl rfl rfl (V.as rfl rfl) ?_
      refine J.nil ?_
      refine J.tN ?_
      refine J.ret ?_
      refine J.tR ?_
      obtain rfl := B.e h0
      exact J.retC_1 0 rfl rfl rfl ts35 ta35 rfl rfl fun w H => ⟨(), rfl, H.pick [] (by decide)⟩
    · replace h0 := B.f hB12 h0
      refine J.skip ?_
      refine J.tN ?_
      refine J.seq ?_
      refine J.region ?_
      refine J.op rfl rfl rfl (V.faB rfl rfl tf0_35) ?_
      refine J.op rfl rfl rfl (V.ldB 1 rfl rfl rfl Try.underlying22 ta22 rfl) ?_
      refine J.op rfl rfl rfl (V.conv rfl rfl Try.underlying22 Try.underlying2) ?_
      refine J.op rfl rfl rfl (V.mv rfl rfl) ?_
      refine J.op rfl rfl rfl (V.faB rfl rfl tf1_35) ?_
      refine J.op rfl rfl rfl (V.ldB 1 rfl rfl rfl Try.underlying22 ta22 rfl) ?_
      refine J.op rfl rfl rfl (V.conv rfl rfl Try.underlying22 Try.underlying2) ?_
      refine J.op rfl rfl rfl (V.ar rfl rfl rfl rfl) ?_
      refine J.op rfl rfl rfl (V.ar rfl rfl rfl rfl) ?_
      refine J.op rfl rfl rfl (V.ar rfl rfl rfl rfl) ?_
      refine J.op rfl rfl rfl (V.as rfl rfl) ?_
      obtain ⟨reading_13, ereading_13, h0⟩ := B.lt h0
      refine J.val (congrArg (Value.int .i64) ereading_13) ?_
      refine J.nil ?_
      refine J.tN ?_
      refine J.seq ?_
      refine J.seq ?_
      refine J.region ?_
      refine J.op rfl rfl rfl (V.mv rfl rfl) ?_
      obtain ⟨r14, hr15, h0⟩ := B.bind h0
      refine J.cl (l := [.tmp 25]) [] [.blk b3 [.int .i8 0, .int .i8 0] 35, .blk b1 [.int .i8 p0_p.Reading, .int .i8 p0_p.Zone] 35] cf51 (wN rfl) rfl rfl rfl rfl rfl rfl (by simp) (fun w H => spec_l06Reading.calls reading_13 r14 w (Own.refl w)  hr15) fun g16 => ?_
      refine J.op rfl rfl rfl (V.nt rfl rfl) ?_
      refine J.nil ?_
      refine J.tN ?_
      refine J.cond rfl (fun hB17 => ?_) (fun hB17 => ?_)
      · replace h0 := B.t hB17 h0
        refine J.seq ?_
        refine J.region ?_
        refine J.op rfl rfl rfl (V.bd (l := []) (v := .agg #[.int .i8 0, .int .i8 0]) rfl rfl (fun w H => by kernel_rfl)) ?_
        refine J.stW (cs' := [.int .i8 0, .int .i8 0]) 0 rfl rfl rfl rfl rfl rfl ts35 rfl (fun u hu => by simp at hu; rcases hu with rfl | rfl <;> rfl) rfl rfl ?_
        refine J.op rfl rfl rfl (V.as rfl rfl) ?_
        refine J.nil ?_
        refine J.tN ?_
        refine J.ret ?_
        refine J.tR ?_
        obtain rfl := B.e h0
        exact J.retC_1 0 rfl rfl rfl ts35 ta35 rfl rfl fun w H => ⟨(), rfl, H.pick [] (by decide)⟩
      · replace h0 := B.f hB17 h0
        refine J.skip ?_
        refine J.tN ?_
        refine J.seq ?_
        refine J.region ?_
        refine J.op rfl rfl rfl (V.mv rfl rfl) ?_
        refine J.op rfl rfl rfl (V.conv rfl rfl Try.underlying2 Try.underlying22) ?_
        refine J.op rfl rfl rfl (V.mv rfl rfl) ?_
        refine J.op rfl rfl rfl (V.conv rfl rfl Try.underlying2 Try.underlying22) ?_
        refine J.op rfl rfl rfl (V.bd (l := [(0, .tmp 30), (1, .tmp 32)]) (v := .agg #[.int .i8 (IntKind.wrap .i8 reading_13), .int .i8 (IntKind.wrap .i8 p1_zone)]) rfl rfl (fun w H => by kernel_rfl)) ?_
        refine J.stW (cs' := [.int .i8 (IntKind.wrap .i8 reading_13), .int .i8 (IntKind.wrap .i8 p1_zone)]) 0 rfl rfl rfl rfl rfl rfl ts35 rfl (fun u hu => by simp at hu; rcases hu with rfl | rfl <;> rfl) rfl rfl ?_
        refine J.op rfl rfl rfl (V.as rfl rfl) ?_
        refine J.nil ?_
        refine J.tN ?_
        refine J.ret ?_
        obtain rfl := B.e h0
        exact J.retC_1 0 rfl rfl rfl ts35 ta35 rfl rfl fun w H => ⟨(), rfl, H.pick [] (by decide)⟩

/-! ### spec.l01Drawn: function 52 -/
noncomputable def spec_l01Drawn.f (p0_s : spec_l00Src) : Option (impl_Setting × spec_l00Src) := (spec_l00Src_pick.f (⟨p0_s.code, p0_s.at_, p0_s.seed⟩ : spec_l00Src) 46).bind fun r3 => (spec_l00Src_pick.f (⟨p0_s.code, r3.2.at_, r3.2.seed⟩ : spec_l00Src) 31).bind fun r6 => (spec_l00Src_pick.f (⟨p0_s.code, r6.2.at_, r6.2.seed⟩ : spec_l00Src) 22).bind fun r11 => some ((⟨IntKind.wrap .i8 r3.1, IntKind.wrap .i8 r6.1, IntKind.wrap .i8 r11.1⟩ : impl_Setting), (⟨p0_s.code, r11.2.at_, r11.2.seed⟩ : spec_l00Src))
set_option maxRecDepth 100000 in
theorem spec_l01Drawn.calls (b0_ : Nat) (p0_s : spec_l00Src) (v0_code : Value) (r : impl_Setting × spec_l00Src) (w : World) (H0 : Own [b0_] w w [.blk b0_ [v0_code, .int .i64 p0_s.at_, .int .u64 p0_s.seed] 92]) (hS0_code : SlE [b0_] w v0_code 5 (eI .u8) p0_s.code) (h0 : spec_l01Drawn.f p0_s = some r) :
    Calls Try.prog 52 #[bp b0_ 0] w (fun e w' => ∃ _ : Unit, e = .returned (.agg #[.int .i8 r.1.Shutter, .int .i8 r.1.Aperture, .int .i8 r.1.Speed]) ∧ Own [b0_] w w' [.blk b0_ [v0_code, .int .i64 r.2.at_, .int .u64 r.2.seed] 92]) := by
  unfold spec_l01Drawn.f at h0
  replace h0 := B.top h0
  refine calls_of_J (args := [bp b0_ 0]) Try.func52 rfl Try.ntmps52 rfl [(0, bp b0_ 0)] rfl H0 ?_
  refine J.seq ?_
  refine J.region ?_
  refine J.alloc rfl rfl rfl rfl tz54 rfl fun b1 => ?_
  refine J.nil ?_
  refine J.tN ?_
  refine J.seq ?_
  refine J.region ?_
  refine J.op rfl rfl rfl (V.mv rfl rfl) ?_
  refine J.pickE [1, 0] (es' := [.blk b0_ [v0_code, .int .i64 p0_s.at_, .int .u64 p0_s.seed] 92, .blk b1 [.int .i8 0, .int .i8 0, .int .i8 0] 54]) rfl rfl ?_
  obtain ⟨r3, hr4, h0⟩ := B.bind h0
  refine J.cl (l := [.tmp 4, .const (.int .i64 46)]) [.blk b0_ [v0_code, .int .i64 p0_s.at_, .int .u64 p0_s.seed] 92] [.blk b1 [.int .i8 0, .int .i8 0, .int .i8 0] 54] cf37 (wN rfl) rfl rfl rfl rfl rfl rfl hM1 (fun w H => spec_l00Src_pick.calls b0_ (⟨p0_s.code, p0_s.at_, p0_s.seed⟩ : spec_l00Src) v0_code 46 r3 w H.enter1 (Sl.later1 hS0_code H) hr4) fun g5 => ?_
  refine J.op rfl rfl rfl (V.conv rfl rfl Try.underlying2 Try.underlying22) ?_
  refine J.op rfl rfl rfl (V.mv rfl rfl) ?_
  obtain ⟨r6, hr7, h0⟩ := B.bind h0
  refine J.cl (l := [.tmp 7, .const (.int .i64 31)]) [.blk b0_ [v0_code, .int .i64 r3.2.at_, .int .u64 r3.2.seed] 92] [.blk b1 [.int .i8 0, .int .i8 0, .int .i8 0] 54] cf37 (wN rfl) rfl rfl rfl rfl rfl rfl hM1 (fun w H => spec_l00Src_pick.calls b0_ (⟨p0_s.code, r3.2.at_, r3.2.seed⟩ : spec_l00Src) v0_code 31 r6 w H.enter1 (Sl.later1 hS0_code H) hr7) fun g8 => ?_
  refine J.op rfl rfl rfl (V.conv rfl rfl Try.underlying2 Try.underlying22) ?_
  refine J.op rfl rfl rfl (V.bd (l := [(0, .tmp 6), (1, .tmp 9)]) (v := .agg #[.int .i8 (IntKind.wrap .i8 r3.1), .int .i8 (IntKind.wrap .i8 r6.1), .int .i8 0]) rfl rfl (fun w H => by kernel_rfl)) ?_
  refine J.alloc rfl rfl rfl rfl tz54 rfl fun b9 => ?_
  refine J.stW (cs' := [.int .i8 (IntKind.wrap .i8 r3.1), .int .i8 (IntKind.wrap .i8 r6.1), .int .i8 0]) 0 rfl rfl rfl rfl rfl rfl ts54 rfl (fun u hu => by simp at hu; rcases hu with rfl | rfl | rfl <;> rfl) rfl rfl ?_
  refine J.nil ?_
  refine J.tN ?_
  refine J.seq ?_
  refine J.region ?_
  refine J.op rfl rfl rfl (V.mv rfl rfl) ?_
  refine J.pickE [1, 0, 2] (es' := [.blk b0_ [v0_code, .int .i64 r6.2.at_, .int .u64 r6.2.seed] 92, .blk b9 [.int .i8 (IntKind.wrap .i8 r3.1), .int .i8 (IntKind.wrap .i8 r6.1), .int .i8 0] 54, .blk b1 [.int .i8 0, .int .i8 0, .int .i8 0] 54]) rfl rfl ?_
  obtain ⟨r11, hr12, h0⟩ := B.bind h0
  refine J.cl (l := [.tmp 11, .const (.int .i64 22)]) [.blk b0_ [v0_code, .int .i64 r6.2.at_, .int .u64 r6.2.seed] 92] [.blk b9 [.int .i8 (IntKind.wrap .i8 r3.1), .int .i8 (IntKind.wrap .i8 r6.1), .int .i8 0] 54, .blk b1 [.int .i8 0, .int .i8 0, .int .i8 0] 54] cf37 (wN rfl) rfl rfl rfl rfl rfl rfl hM1 (fun w H => spec_l00Src_pick.calls b0_ (⟨p0_s.code, r6.2.at_, r6.2.seed⟩ : spec_l00Src) v0_code 22 r11 w H.enter1 (Sl.later1 hS0_code H) hr12) fun g13 => ?_
  refine J.op rfl rfl rfl (V.conv rfl rfl Try.underlying2 Try.underlying22) ?_
  refine J.op rfl rfl rfl (V.faB rfl rfl tf2_54) ?_
  refine J.stB 1 rfl rfl rfl rfl rfl rfl ts22 (fun _ _ => rfl) rfl ?_
  refine J.nil ?_
  refine J.tN ?_
  refine J.seq ?_
  refine J.region ?_
  refine J.op rfl rfl rfl (V.ldW 1 rfl rfl rfl ts54 ta54 rfl) ?_
  refine J.stW (cs' := [.int .i8 (IntKind.wrap .i8 r3.1), .int .i8 (IntKind.wrap .i8 r6.1), .int .i8 (IntKind.wrap .i8 r11.1)]) 2 rfl rfl rfl rfl rfl rfl ts54 rfl (fun u hu => by simp at hu; rcases hu with rfl | rfl | rfl <;> rfl) rfl rfl ?_
  refine J.nil ?_
  refine J.tN ?_
  refine J.ret ?_
  obtain rfl := B.e h0
  exact J.retC 2 rfl rfl rfl ts54 ta54 rfl fun w H => ⟨(), rfl, H.pick [0] (by decide)⟩

/-! ### spec.A2Setting: function 25 -/
noncomputable def spec_A2Setting.f (p0_code : (List Int)) : Option (impl_Setting) := (spec_l00From.f p0_code).bind fun r3 => (spec_l01Drawn.f (⟨p0_code, r3.1, r3.2⟩ : spec_l00Src)).bind fun r7 => some (⟨r7.1.Shutter, r7.1.Aperture, r7.1.Speed⟩ : impl_Setting)
set_option maxRecDepth 100000 in
theorem spec_A2Setting.calls (v0 : Value) (p0_code : (List Int)) (r : impl_Setting) (w : World) (H0 : Own [] w w []) (hS0 : SlE [] w v0 5 (eI .u8) p0_code) (h0 : spec_A2Setting.f p0_code = some r) :
    Calls Try.prog 25 #[v0] w (fun e w' => ∃ _ : Unit, e = .returned (.agg #[.int .i8 r.Shutter, .int .i8 r.Aperture, .int .i8 r.Speed]) ∧ Own [] w w' []) := by
  unfold spec_A2Setting.f at h0
  replace h0 := B.top h0
  refine calls_of_J (args := [v0]) Try.func25 rfl Try.ntmps25 rfl [(0, v0)] rfl H0 ?_
  refine J.seq ?_
  refine J.region ?_
  refine J.alloc rfl rfl rfl rfl tz54 rfl fun b1 => ?_
  refine J.nil ?_
  refine J.tN ?_
  refine J.seq ?_
  refine J.region ?_
  refine J.op rfl rfl rfl (V.mv rfl rfl) ?_
  obtain ⟨r3, hr4, h0⟩ := B.bind h0
  refine J.cl (l := [.tmp 3]) [] [.blk b1 [.int .i8 0, .int .i8 0, .int .i8 0] 54] cf36 (wN rfl) rfl rfl rfl rfl rfl rfl (by simp) (fun w H => spec_l00From.calls v0 p0_code r3 w (Own.refl w) (Sl.later0 hS0 H) hr4) fun g5 => ?_
  obtain ⟨r7, hr8, h0⟩ := B.bind h0
  refine J.cl (l := [.tmp 4]) [.blk g5 [v0, .int .i64 r3.1, .int .u64 r3.2] 92] [.blk b1 [.int .i8 0, .int .i8 0, .int .i8 0] 54] cf52 (wN rfl) rfl rfl rfl rfl rfl rfl hM1 (fun w H => spec_l01Drawn.calls g5 (⟨p0_code, r3.1, r3.2⟩ : spec_l00Src) v0 r7 w H.enter1 (Sl.later1 hS0 H) hr8) fun g9 => ?_
  refine J.stW (cs' := [.int .i8 r7.1.Shutter, .int .i8 r7.1.Aperture, .int .i8 r7.1.Speed]) 1 rfl rfl rfl rfl rfl rfl ts54 rfl (fun u hu => by simp at hu; rcases hu with rfl | rfl | rfl <;> rfl) rfl rfl ?_
  refine J.nil ?_
  refine J.tN ?_
  refine J.ret ?_
  obtain rfl := B.e h0
  exact J.retC 1 rfl rfl rfl ts54 ta54 rfl fun w H => ⟨(), rfl, H.pick [] (by decide)⟩

/-! ### (impl.Placement).exposure: function 53 -/
noncomputable def impl_Placement_exposure.f (p0_p : impl_Placement) : Option (Int) := (some (IntKind.wrap .i64 (3 * (IntKind.wrap .i64 ((IntKind.wrap .i64 p0_p.Zone) - 5))))).bind fun t3 => some t3
set_option maxRecDepth 100000 in
theorem impl_Placement_exposure.calls (p0_p : impl_Placement) (r : Int) (w : World) (H0 : Own [] w w []) (h0 : impl_Placement_exposure.f p0_p = some r) :
    Calls Try.prog 53 #[.agg #[.int .i8 p0_p.Reading, .int .i8 p0_p.Zone]] w (fun e w' => ∃ _ : Unit, e = .returned (.int .i64 r) ∧ Own [] w w' []) := by
  unfold impl_Placement_exposure.f at h0
  replace h0 := B.top h0
  refine calls_of_J (args := [.agg #[.int .i8 p0_p.Reading, .int .i8 p0_p.Zone]]) Try.func53 rfl Try.ntmps53 rfl [(0, .agg #[.int .i8 p0_p.Reading, .int .i8 p0_p.Zone])] rfl H0 ?_
  refine J.seq ?_
  refine J.region ?_
  refine J.box rfl rfl rfl rfl rfl (fun _ _ => rfl) fun b1 => ?_
  refine J.op rfl rfl rfl (V.as rfl rfl) ?_
  refine J.nil ?_
  refine J.tN ?_
  refine J.seq ?_
  refine J.region ?_
  refine J.op rfl rfl rfl (V.faB rfl rfl tf1_35) ?_
  refine J.op rfl rfl rfl (V.ldB 0 rfl rfl rfl Try.underlying22 ta22 rfl) ?_
  refine J.op rfl rfl rfl (V.conv rfl rfl Try.underlying22 Try.underlying2) ?_
  refine J.op rfl rfl rfl (V.ar rfl rfl rfl rfl) ?_
  refine J.op rfl rfl rfl (V.ar rfl rfl rfl rfl) ?_
  refine J.op rfl rfl rfl (V.as rfl rfl) ?_
  obtain ⟨t3, et3, h0⟩ := B.lt h0
  refine J.val (congrArg (Value.int .i64) et3) ?_
  refine J.nil ?_
  refine J.tN ?_
  refine J.ret ?_
  obtain rfl := B.e h0
  exact J.ret1 rfl rfl fun w H => ⟨(), rfl, H.pick [] (by decide)⟩

/-! ### impl.ExposureThirds: function 26 -/
noncomputable def impl_ExposureThirds.f (p0_p : impl_Placement) : Option (Int × Int) := (impl_isPlacement.f (⟨p0_p.Reading, p0_p.Zone⟩ : impl_Placement)).bind fun r3 => bif (!r3) then (some (0, 1)) else ((impl_Placement_exposure.f (⟨p0_p.Reading, p0_p.Zone⟩ : impl_Placement)).bind fun r7 => some (r7, 0))
set_option maxRecDepth 100000 in
theorem impl_ExposureThirds.calls (p0_p : impl_Placement) (r : Int × Int) (w : World) (H0 : Own [] w w []) (h0 : impl_ExposureThirds.f p0_p = some r) :
    Calls Try.prog 26 #[.agg #[.int .i8 p0_p.Reading, .int .i8 p0_p.Zone]] w (fun e w' => ∃ _ : Unit, e = .returned (.tuple #[.int .i64 r.1, .int .i64 r.2]) ∧ Own [] w w' []) := by
  unfold impl_ExposureThirds.f at h0
  replace h0 := B.top h0
  refine calls_of_J (args := [.agg #[.int .i8 p0_p.Reading, .int .i8 p0_p.Zone]]) Try.func26 rfl Try.ntmps26 rfl [(0, .agg #[.int .i8 p0_p.Reading, .int .i8 p0_p.Zone])] rfl H0 ?_
  refine J.seq ?_
  refine J.region ?_
  refine J.box rfl rfl rfl rfl rfl (fun _ _ => rfl) fun b1 => ?_
  refine J.op rfl rfl rfl (V.as rfl rfl) ?_
  refine J.op rfl rfl rfl (V.as rfl rfl) ?_
  refine J.nil ?_
  refine J.tN ?_
  refine J.seq ?_
  refine J.seq ?_
  refine J.region ?_
  refine J.op rfl rfl rfl (V.ldW 0 rfl rfl rfl ts35 ta35 rfl) ?_
  obtain ⟨r3, hr4, h0⟩ := B.bind h0
  refine J.cl (l := [.tmp 4]) [] [.blk b1 [.int .i8 p0_p.Reading, .int .i8 p0_p.Zone] 35] cf38 (wN rfl) rfl rfl rfl rfl rfl rfl (by simp) (fun w H => impl_isPlacement.calls (⟨p0_p.Reading, p0_p.Zone⟩ : impl_Placement) r3 w (Own.refl w)  hr4) fun g5 => ?_
  refine J.op rfl rfl rfl (V.nt rfl rfl) ?_
  refine J.nil ?_
  refine J.tN ?_
  refine J.cond rfl (fun hB6 => ?_) (fun hB6 => ?_)
  · replace h0 := B.t hB6 h0
    refine J.seq ?_
    refine J.region ?_
    refine J.op rfl rfl rfl (V.as rfl rfl) ?_
    refine J.op rfl rfl rfl (V.as rfl rfl) ?_
    refine J.nil ?_
    refine J.tN ?_
    refine J.ret ?_
    refine J.tR ?_
    obtain rfl := B.e h0
    exact J.ret2 rfl rfl rfl fun w H => ⟨(), rfl, H.pick [] (by decide)⟩
  · replace h0 := B.f hB6 h0
    refine J.skip ?_
    refine J.tN ?_
    refine J.seq ?_
    refine J.region ?_
    refine J.op rfl rfl rfl (V.ldW 0 rfl rfl rfl ts35 ta35 rfl) ?_
    obtain ⟨r7, hr8, h0⟩ := B.bind h0
    refine J.cl (l := [.tmp 7]) [] [.blk b1 [.int .i8 p0_p.Reading, .int .i8 p0_p.Zone] 35] cf53 (wN rfl) rfl rfl rfl rfl rfl rfl (by simp) (fun w H => impl_Placement_exposure.calls (⟨p0_p.Reading, p0_p.Zone⟩ : impl_Placement) r7 w (Own.refl w)  hr8) fun g9 => ?_
    refine J.op rfl rfl rfl (V.as rfl rfl) ?_
    refine J.op rfl rfl rfl (V.as rfl rfl) ?_
    refine J.nil ?_
    refine J.tN ?_
    refine J.ret ?_
    obtain rfl := B.e h0
    exact J.ret2 rfl rfl rfl fun w H => ⟨(), rfl, H.pick [] (by decide)⟩

/-! ### impl.isShutter: function 63 -/
noncomputable def impl_isShutter.f (p0_n : Int) : Option (Bool) := (impl_within.f p0_n 0 45).bind fun r1 => some r1
set_option maxRecDepth 100000 in
theorem impl_isShutter.calls (p0_n : Int) (r : Bool) (w : World) (H0 : Own [] w w []) (h0 : impl_isShutter.f p0_n = some r) :
    Calls Try.prog 63 #[.int .i64 p0_n] w (fun e w' => ∃ _ : Unit, e = .returned (.bool r) ∧ Own [] w w' []) := by
  unfold impl_isShutter.f at h0
  replace h0 := B.top h0
  refine calls_of_J (args := [.int .i64 p0_n]) Try.func63 rfl Try.ntmps63 rfl [(0, .int .i64 p0_n)] rfl H0 ?_
  refine J.seq ?_
  refine J.region ?_
  refine J.op rfl rfl rfl (V.as rfl rfl) ?_
  refine J.nil ?_
  refine J.tN ?_
  refine J.seq ?_
  refine J.region ?_
  refine J.op rfl rfl rfl (V.mv rfl rfl) ?_
  obtain ⟨r1, hr2, h0⟩ := B.bind h0
  refine J.cl (l := [.tmp 3, .const (.int .i64 0), .const (.int .i64 45)]) [] [] cf34 (wN rfl) rfl rfl rfl rfl rfl rfl (by simp) (fun w H => impl_within.calls p0_n 0 45 r1 w (Own.refl w)  hr2) fun g3 => ?_
  refine J.op rfl rfl rfl (V.as rfl rfl) ?_
  refine J.nil ?_
  refine J.tN ?_
  refine J.ret ?_
  obtain rfl := B.e h0
  exact J.ret1 rfl rfl fun w H => ⟨(), rfl, H.pick [] (by decide)⟩

/-! ### impl.ValidSetting: function 54 -/
noncomputable def impl_ValidSetting.f (p0_s : impl_Setting) : Option (Bool) := (impl_isShutter.f (IntKind.wrap .i64 p0_s.Shutter)).bind fun r3 => bif r3 then ((impl_within.f (IntKind.wrap .i64 p0_s.Aperture) 0 30).bind fun r7 => bif r7 then ((impl_within.f (IntKind.wrap .i64 p0_s.Speed) 0 21).bind fun r11 => some r11) else (some false)) else (some false)
set_option maxRecDepth 100000 in
theorem impl_ValidSetting.calls (p0_s : impl_Setting) (r : Bool) (w : World) (H0 : Own [] w w []) (h0 : impl_ValidSetting.f p0_s = some r) :
    Calls Try.prog 54 #[.agg #[.int .i8 p0_s.Shutter, .int .i8 p0_s.Aperture, .int .i8 p0_s.Speed]] w (fun e w' => ∃ _ : Unit, e = .returned (.bool r) ∧ Own [] w w' []) := by
  unfold impl_ValidSetting.f at h0
  replace h0 := B.top h0
  refine calls_of_J (args := [.agg #[.int .i8 p0_s.Shutter, .int .i8 p0_s.Aperture, .int .i8 p0_s.Speed]]) Try.func54 rfl Try.ntmps54 rfl [(0, .agg #[.int .i8 p0_s.Shutter, .int .i8 p0_s.Aperture, .int .i8 p0_s.Speed])] rfl H0 ?_
  refine J.seq ?_
  refine J.region ?_
  refine J.box rfl rfl rfl rfl rfl (fun _ _ => rfl) fun b1 => ?_
  refine J.op rfl rfl rfl (V.as rfl rfl) ?_
  refine J.nil ?_
  refine J.tN ?_
  refine J.seq ?_
  refine J.region ?_
  refine J.op rfl rfl rfl (V.faB rfl rfl tf0_54) ?_
  refine J.op rfl rfl rfl (V.ldB 0 rfl rfl rfl Try.underlying22 ta22 rfl) ?_
  refine J.op rfl rfl rfl (V.conv rfl rfl Try.underlying22 Try.underlying2) ?_
  obtain ⟨r3, hr4, h0⟩ := B.bind h0
  refine J.cl (l := [.tmp 5]) [] [.blk b1 [.int .i8 p0_s.Shutter, .int .i8 p0_s.Aperture, .int .i8 p0_s.Speed] 54] cf63 (wN rfl) rfl rfl rfl rfl rfl rfl (by simp) (fun w H => impl_isShutter.calls (IntKind.wrap .i64 p0_s.Shutter) r3 w (Own.refl w)  hr4) fun g5 => ?_
  refine J.op rfl rfl rfl (V.mv rfl rfl) ?_
  refine J.split 7 rfl (fun hB6 => ?_) (fun hB6 => ?_)
  · replace h0 := B.t hB6 h0
    refine J.opOn rfl rfl rfl rfl rfl (V.faB rfl rfl tf1_54) ?_
    refine J.opOn rfl rfl rfl rfl rfl (V.ldB 0 rfl rfl rfl Try.underlying22 ta22 rfl) ?_
    refine J.opOn rfl rfl rfl rfl rfl (V.conv rfl rfl Try.underlying22 Try.underlying2) ?_
    obtain ⟨r7, hr8, h0⟩ := B.bind h0
    refine J.cl (l := [.tmp 10, .const (.int .i64 0), .const (.int .i64 30)]) [] [.blk b1 [.int .i8 p0_s.Shutter, .int .i8 p0_s.Aperture, .int .i8 p0_s.Speed] 54] cf34 (wY rfl rfl rfl) rfl rfl rfl rfl rfl rfl (by simp) (fun w H => impl_within.calls (IntKind.wrap .i64 p0_s.Aperture) 0 30 r7 w (Own.refl w)  hr8) fun g9 => ?_
    refine J.op rfl rfl rfl (V.pkT rfl rfl rfl) ?_
    refine J.op rfl rfl rfl (V.mv rfl rfl) ?_
    refine J.split 13 rfl (fun hB10 => ?_) (fun hB10 => ?_)
    · replace h0 := B.t hB10 h0
      refine J.opOn rfl rfl rfl rfl rfl (V.faB rfl rfl tf2_54) ?_
      refine J.opOn rfl rfl rfl rfl rfl (V.ldB 0 rfl rfl rfl Try.underlying22 ta22 rfl) ?_
      refine J.opOn rfl rfl rfl rfl rfl (V.conv rfl rfl Try.underlying22 Try.underlying2) ?_
      obtain ⟨r11, hr12, h0⟩ := B.bind h0
      refine J.cl (l := [.tmp 16, .const (.int .i64 0), .const (.int .i64 21)]) [] [.blk b1 [.int .i8 p0_s.Shutter, .int .i8 p0_s.Aperture, .int .i8 p0_s.Speed] 54] cf34 (wY rfl rfl rfl) rfl rfl rfl rfl rfl rfl (by simp) (fun w H => impl_within.calls (IntKind.wrap .i64 p0_s.Speed) 0 21 r11 w (Own.refl w)  hr12) fun g13 => ?_
      refine J.op rfl rfl rfl (V.pkT rfl rfl rfl) ?_
      refine J.op rfl rfl rfl (V.as rfl rfl) ?_
      refine J.nil ?_
      refine J.tN ?_
      refine J.ret ?_
      obtain rfl := B.e h0
      exact J.ret1 rfl rfl fun w H => ⟨(), rfl, H.pick [] (by decide)⟩
    · replace h0 := B.f hB10 h0
      refine J.opOff rfl rfl rfl rfl rfl rfl ?_
      refine J.opOff rfl rfl rfl rfl rfl rfl ?_
      refine J.opOff rfl rfl rfl rfl rfl rfl ?_
      refine J.opOff rfl rfl rfl rfl rfl rfl ?_
      refine J.op rfl rfl rfl (V.pkF rfl rfl rfl) ?_
      refine J.op rfl rfl rfl (V.as rfl rfl) ?_
      refine J.nil ?_
      refine J.tN ?_
      refine J.ret ?_
      obtain rfl := B.e h0
      exact J.ret1 rfl rfl fun w H => ⟨(), rfl, H.pick [] (by decide)⟩
  · replace h0 := B.f hB6 h0
    refine J.opOff rfl rfl rfl rfl rfl rfl ?_
    refine J.opOff rfl rfl rfl rfl rfl rfl ?_
    refine J.opOff rfl rfl rfl rfl rfl rfl ?_
    refine J.opOff rfl rfl rfl rfl rfl rfl ?_
    refine J.op rfl rfl rfl (V.pkF rfl rfl rfl) ?_
    refine J.op rfl rfl rfl (V.mv rfl rfl) ?_
    refine J.opOff rfl rfl rfl rfl rfl rfl ?_
    refine J.opOff rfl rfl rfl rfl rfl rfl ?_
    refine J.opOff rfl rfl rfl rfl rfl rfl ?_
    refine J.opOff rfl rfl rfl rfl rfl rfl ?_
    refine J.op rfl rfl rfl (V.pkF rfl rfl rfl) ?_
    refine J.op rfl rfl rfl (V.as rfl rfl) ?_
    refine J.nil ?_
    refine J.tN ?_
    refine J.ret ?_
    obtain rfl := B.e h0
    exact J.ret1 rfl rfl fun w H => ⟨(), rfl, H.pick [] (by decide)⟩

/-! ### (impl.Setting).more: function 55 -/
noncomputable def impl_Setting_more.f (p0_s : impl_Setting) (p1_thirds : Int) : Option (impl_Setting × Int) := (some (mn 45 (mx 0 (IntKind.wrap .i64 ((IntKind.wrap .i64 p0_s.Shutter) + p1_thirds))))).bind fun shutter_5 => (some (IntKind.wrap .i64 ((IntKind.wrap .i64 p0_s.Aperture) - (IntKind.wrap .i64 (p1_thirds - (IntKind.wrap .i64 (shutter_5 - (IntKind.wrap .i64 p0_s.Shutter)))))))).bind fun aperture_6 => (impl_within.f aperture_6 0 30).bind fun r7 => bif (!r7) then (some ((⟨0, 0, 0⟩ : impl_Setting), 6)) else (some ((⟨IntKind.wrap .i8 shutter_5, IntKind.wrap .i8 aperture_6, p0_s.Speed⟩ : impl_Setting), 0))
set_option maxRecDepth 100000 in
theorem impl_Setting_more.calls (p0_s : impl_Setting) (p1_thirds : Int) (r : impl_Setting × Int) (w : World) (H0 : Own [] w w []) (h0 : impl_Setting_more.f p0_s p1_thirds = some r) :
    Calls Try.prog 55 #[.agg #[.int .i8 p0_s.Shutter, .int .i8 p0_s.Aperture, .int .i8 p0_s.Speed], .int .i64 p1_thirds] w (fun e w' => ∃ _ : Unit, e = .returned (.tuple #[.agg #[.int .i8 r.1.Shutter, .int .i8 r.1.Aperture, .int .i8 r.1.Speed], .int .i64 r.2]) ∧ Own [] w w' []) := by
  unfold impl_Setting_more.f at h0
  replace h0 := B.top h0
  refine calls_of_J (args := [.agg #[.int .i8 p0_s.Shutter, .int .i8 p0_s.Aperture, .int .i8 p0_s.Speed], .int .i64 p1_thirds]) Try.func55 rfl Try.ntmps55 rfl [(0, .agg #[.int .i8 p0_s.Shutter, .int .i8 p0_s.Aperture, .int .i8 p0_s.Speed]), (1, .int .i64 p1_thirds)] rfl H0 ?_
  refine J.seq ?_
  refine J.region ?_
  refine J.box rfl rfl rfl rfl rfl (fun _ _ => rfl) fun b1 => ?_
  refine J.alloc rfl rfl rfl rfl tz54 rfl fun b3 => ?_
  refine J.op rfl rfl rfl (V.as rfl rfl) ?_
  refine J.nil ?_
  refine J.tN ?_
  refine J.seq ?_
  refine J.region ?_
  refine J.op rfl rfl rfl (V.faB rfl rfl tf0_54) ?_
  refine J.op rfl rfl rfl (V.ldB 1 rfl rfl rfl Try.underlying22 ta22 rfl) ?_
  refine J.op rfl rfl rfl (V.conv rfl rfl Try.underlying22 Try.underlying2) ?_
  refine J.op rfl rfl rfl (V.mv rfl rfl) ?_
  refine J.op rfl rfl rfl (V.ar rfl rfl rfl rfl) ?_
  refine J.op rfl rfl rfl (V.mx rfl rfl rfl) ?_
  refine J.op rfl rfl rfl (V.mn rfl rfl rfl) ?_
  refine J.op rfl rfl rfl (V.as rfl rfl) ?_
  obtain ⟨shutter_5, eshutter_5, h0⟩ := B.lt h0
  refine J.val (congrArg (Value.int .i64) eshutter_5) ?_
  refine J.nil ?_
  refine J.tN ?_
  refine J.seq ?_
  refine J.region ?_
  refine J.op rfl rfl rfl (V.faB rfl rfl tf1_54) ?_
  refine J.op rfl rfl rfl (V.ldB 1 rfl rfl rfl Try.underlying22 ta22 rfl) ?_
  refine J.op rfl rfl rfl (V.conv rfl rfl Try.underlying22 Try.underlying2) ?_
  refine J.op rfl rfl rfl (V.mv rfl rfl) ?_
  refine J.op rfl rfl rfl (V.mv rfl rfl) ?_
  refine J.op rfl rfl rfl (V.faB rfl rfl tf0_54) ?_
  refine J.op rfl rfl rfl (V.ldB 1 rfl rfl rfl Try.underlying22 ta22 rfl) ?_
  refine J.op rfl rfl rfl (V.conv rfl rfl Try.underlying22 Try.underlying2) ?_
  refine J.op rfl rfl rfl (V.ar rfl rfl rfl rfl) ?_
  refine J.op rfl rfl rfl (V.ar rfl rfl rfl rfl) ?_
  refine J.op rfl rfl rfl (V.ar rfl rfl rfl rfl) ?_
  refine J.op rfl rfl rfl (V.as rfl rfl) ?_
  obtain ⟨aperture_6, eaperture_6, h0⟩ := B.lt h0
  refine J.val (congrArg (Value.int .i64) eaperture_6) ?_
  refine J.nil ?_
  refine J.tN ?_
  refine J.seq ?_
  refine J.seq ?_
  refine J.region ?_
  refine J.op rfl rfl rfl (V.mv rfl rfl) ?_
  obtain ⟨r7, hr8, h0⟩ := B.bind h0
  refine J.cl (l := [.tmp 26, .const (.int .i64 0), .const (.int .i64 30)]) [] [.blk b3 [.int .i8 0, .int .i8 0, .int .i8 0] 54, .blk b1 [.int .i8 p0_s.Shutter, .int .i8 p0_s.Aperture, .int .i8 p0_s.Speed] 54] cf34 (wN rfl) rfl rfl rfl rfl rfl rfl (by simp) (fun w H => impl_within.calls aperture_6 0 30 r7 w (Own.refl w)  hr8) fun g9 => ?_
  refine J.op rfl rfl rfl (V.nt rfl rfl) ?_
  refine J.nil ?_
  refine J.tN ?_
  refine J.cond rfl (fun hB10 => ?_) (fun hB10 => ?_)
  · replace h0 := B.t hB10 h0
    refine J.seq ?_
    refine J.region ?_
    refine J.op rfl rfl rfl (V.bd (l := []) (v := .agg #[.int .i8 0, .int .i8 0, .int .i8 0]) rfl rfl (fun w H => by kernel_rfl)) ?_
    refine J.stW (cs' := [.int .i8 0, .int .i8 0, .int .i8 0]) 0 rfl rfl rfl rfl rfl rfl ts54 rfl (fun u hu => by simp at hu; rcases hu with rfl | rfl | rfl <;> rfl) rfl rfl ?_
    refine J.op rfl rfl rfl (V.as rfl rfl) ?_
    refine J.nil ?_
    refine J.tN ?_
    refine J.ret ?_
    refine J.tR ?_
    obtain rfl := B.e h0
    exact J.retC_1 0 rfl rfl rfl ts54 ta54 rfl rfl fun w H => ⟨(), rfl, H.pick [] (by decide)⟩
  · replace h0 := B.f hB10 h0
    refine J.skip ?_
    refine J.tN ?_
    refine J.seq ?_
    refine J.region ?_
    refine J.op rfl rfl rfl (V.mv rfl rfl) ?_
    refine J.op rfl rfl rfl (V.conv rfl rfl Try.underlying2 Try.underlying22) ?_
    refine J.op rfl rfl rfl (V.mv rfl rfl) ?_
    refine J.op rfl rfl rfl (V.conv rfl rfl Try.underlying2 Try.underlying22) ?_
    refine J.op rfl rfl rfl (V.faB rfl rfl tf2_54) ?_
    refine J.op rfl rfl rfl (V.ldB 1 rfl rfl rfl Try.underlying22 ta22 rfl) ?_
    refine J.op rfl rfl rfl (V.bd (l := [(0, .tmp 31), (1, .tmp 33), (2, .tmp 35)]) (v := .agg #[.int .i8 (IntKind.wrap .i8 shutter_5), .int .i8 (IntKind.wrap .i8 aperture_6), .int .i8 p0_s.Speed]) rfl rfl (fun w H => by kernel_rfl)) ?_
    refine J.stW (cs' := [.int .i8 (IntKind.wrap .i8 shutter_5), .int .i8 (IntKind.wrap .i8 aperture_6), .int .i8 p0_s.Speed]) 0 rfl rfl rfl rfl rfl rfl ts54 rfl (fun u hu => by simp at hu; rcases hu with rfl | rfl | rfl <;> rfl) rfl rfl ?_
    refine J.op rfl rfl rfl (V.as rfl rfl) ?_
    refine J.nil ?_
    refine J.tN ?_
    refine J.ret ?_
    obtain rfl := B.e h0
    exact J.retC_1 0 rfl rfl rfl ts54 ta54 rfl rfl fun w H => ⟨(), rfl, H.pick [] (by decide)⟩

/-! ### impl.SettingFor: function 27 -/
noncomputable def impl_SettingFor.f (p0_s : impl_Setting) (p1_metered : Int) (p2_p : impl_Placement) : Option (impl_Setting × Int) := ((impl_ValidSetting.f (⟨p0_s.Shutter, p0_s.Aperture, p0_s.Speed⟩ : impl_Setting)).bind fun r9 => bif (!r9) then (some true) else ((impl_isPlacement.f (⟨p2_p.Reading, p2_p.Zone⟩ : impl_Placement)).bind fun r13 => (some (!r13)).bind fun t16 => some t16) : Option (Bool)).bind fun y7 => bif y7 then (some ((⟨0, 0, 0⟩ : impl_Setting), 1)) else ((impl_isReading.f p1_metered).bind fun r19 => (some (!r19)).bind fun t22 => bif t22 then (some ((⟨0, 0, 0⟩ : impl_Setting), 2)) else ((impl_Placement_exposure.f (⟨p2_p.Reading, p2_p.Zone⟩ : impl_Placement)).bind fun r24 => (impl_Setting_more.f (⟨p0_s.Shutter, p0_s.Aperture, p0_s.Speed⟩ : impl_Setting) (IntKind.wrap .i64 ((IntKind.wrap .i64 (r24 + p1_metered)) - (IntKind.wrap .i64 p2_p.Reading)))).bind fun r27 => some ((⟨r27.1.Shutter, r27.1.Aperture, r27.1.Speed⟩ : impl_Setting), r27.2)))
set_option maxRecDepth 100000 in
theorem impl_SettingFor.calls (p0_s : impl_Setting) (p1_metered : Int) (p2_p : impl_Placement) (r : impl_Setting × Int) (w : World) (H0 : Own [] w w []) (h0 : impl_SettingFor.f p0_s p1_metered p2_p = some r) :
    Calls Try.prog 27 #[.agg #[.int .i8 p0_s.Shutter, .int .i8 p0_s.Aperture, .int .i8 p0_s.Speed], .int .i64 p1_metered, .agg #[.int .i8 p2_p.Reading, .int .i8 p2_p.Zone]] w (fun e w' => ∃ _ : Unit, e = .returned (.tuple #[.agg #[.int .i8 r.1.Shutter, .int .i8 r.1.Aperture, .int .i8 r.1.Speed], .int .i64 r.2]) ∧ Own [] w w' []) := by
  unfold impl_SettingFor.f at h0
  replace h0 := B.top h0
  refine calls_of_J (args := [.agg #[.int .i8 p0_s.Shutter, .int .i8 p0_s.Aperture, .int .i8 p0_s.Speed], .int .i64 p1_metered, .agg #[.int .i8 p2_p.Reading, .int .i8 p2_p.Zone]]) Try.func27 rfl Try.ntmps27 rfl [(0, .agg #[.int .i8 p0_s.Shutter, .int .i8 p0_s.Aperture, .int .i8 p0_s.Speed]), (1, .int .i64 p1_metered), (2, .agg #[.int .i8 p2_p.Reading, .int .i8 p2_p.Zone])] rfl H0 ?_
  refine J.seq ?_
  refine J.region ?_
  refine J.box rfl rfl rfl rfl rfl (fun _ _ => rfl) fun b1 => ?_
  refine J.box rfl rfl rfl rfl rfl (fun _ _ => rfl) fun b3 => ?_
  refine J.alloc rfl rfl rfl rfl tz54 rfl fun b5 => ?_
  refine J.op rfl rfl rfl (V.as rfl rfl) ?_
  refine J.nil ?_
  refine J.tN ?_
  refine J.seq ?_
  refine J.block ?_
  refine J.seq ?_
  obtain ⟨y7, hy17, h0⟩ := B.bind h0
  replace hy17 := B.top hy17
  refine J.cut (γ := Unit) (fun _ => True) (fun gy8 => [(1, .int .i64 p1_metered), (3, bp b1 0), (5, bp b3 0), (6, bp b5 0), (8, .bool y7)]) (fun gy8 => [.blk b5 [.int .i8 0, .int .i8 0, .int .i8 0] 54, .blk b3 [.int .i8 p2_p.Reading, .int .i8 p2_p.Zone] 35, .blk b1 [.int .i8 p0_s.Shutter, .int .i8 p0_s.Aperture, .int .i8 p0_s.Speed] 54]) ?_ ?_
  · have h1 := hy17
    refine J.region ?_
    refine J.op rfl rfl rfl (V.ldW 2 rfl rfl rfl ts54 ta54 rfl) ?_
    obtain ⟨r9, hr10, h1⟩ := B.bind h1
    refine J.cl (l := [.tmp 9]) [] [.blk b5 [.int .i8 0, .int .i8 0, .int .i8 0] 54, .blk b3 [.int .i8 p2_p.Reading, .int .i8 p2_p.Zone] 35, .blk b1 [.int .i8 p0_s.Shutter, .int .i8 p0_s.Aperture, .int .i8 p0_s.Speed] 54] cf54 (wN rfl) rfl rfl rfl rfl rfl rfl (by simp) (fun w H => impl_ValidSetting.calls (⟨p0_s.Shutter, p0_s.Aperture, p0_s.Speed⟩ : impl_Setting) r9 w (Own.refl w)  hr10) fun g11 => ?_
    refine J.op rfl rfl rfl (V.nt rfl rfl) ?_
    refine J.op rfl rfl rfl (V.mv rfl rfl) ?_
    refine J.split 12 rfl (fun hB12 => ?_) (fun hB12 => ?_)
    · replace h1 := B.t hB12 h1
      refine J.opOff rfl rfl rfl rfl rfl rfl ?_
      refine J.opOff rfl rfl rfl rfl rfl rfl ?_
      refine J.opOff rfl rfl rfl rfl rfl rfl ?_
      refine J.op rfl rfl rfl (V.pkT rfl rfl rfl) ?_
      refine J.op rfl rfl rfl (V.as rfl rfl) ?_
      refine J.nil ?_
      obtain rfl := B.e h1
      refine J.tN (J.to () trivial ?_)
      exact J.keep _ rfl (J.pickE [0, 1, 2] rfl rfl J.here)
    · replace h1 := B.f hB12 h1
      refine J.opOn rfl rfl rfl rfl rfl (V.ldW 1 rfl rfl rfl ts35 ta35 rfl) ?_
      obtain ⟨r13, hr14, h1⟩ := B.bind h1
      refine J.cl (l := [.tmp 13]) [] [.blk b5 [.int .i8 0, .int .i8 0, .int .i8 0] 54, .blk b3 [.int .i8 p2_p.Reading, .int .i8 p2_p.Zone] 35, .blk b1 [.int .i8 p0_s.Shutter, .int .i8 p0_s.Aperture, .int .i8 p0_s.Speed] 54] cf38 (wY rfl rfl rfl) rfl rfl rfl rfl rfl rfl (by simp) (fun w H => impl_isPlacement.calls (⟨p2_p.Reading, p2_p.Zone⟩ : impl_Placement) r13 w (Own.refl w)  hr14) fun g15 => ?_
      refine J.opOn rfl rfl rfl rfl rfl (V.nt rfl rfl) ?_
      refine J.op rfl rfl rfl (V.pkF rfl rfl rfl) ?_
      refine J.op rfl rfl rfl (V.as rfl rfl) ?_
      obtain ⟨t16, et16, h1⟩ := B.lt h1
      refine J.val (congrArg (Value.bool) et16) ?_
      refine J.nil ?_
      obtain rfl := B.e h1
      refine J.tN (J.to () trivial ?_)
      exact J.keep _ rfl (J.pickE [0, 1, 2] rfl rfl J.here)
  · intro gy8 _
    refine J.cond rfl (fun hB18 => ?_) (fun hB18 => ?_)
    · replace h0 := B.t hB18 h0
      refine J.seq ?_
      refine J.region ?_
      refine J.op rfl rfl rfl (V.bd (l := []) (v := .agg #[.int .i8 0, .int .i8 0, .int .i8 0]) rfl rfl (fun w H => by kernel_rfl)) ?_
      refine J.stW (cs' := [.int .i8 0, .int .i8 0, .int .i8 0]) 0 rfl rfl rfl rfl rfl rfl ts54 rfl (fun u hu => by simp at hu; rcases hu with rfl | rfl | rfl <;> rfl) rfl rfl ?_
      refine J.op rfl rfl rfl (V.as rfl rfl) ?_
      refine J.nil ?_
      refine J.tN ?_
      refine J.ret ?_
      refine J.bR ?_
      refine J.tR ?_
      obtain rfl := B.e h0
      exact J.retC_1 0 rfl rfl rfl ts54 ta54 rfl rfl fun w H => ⟨(), rfl, H.pick [] (by decide)⟩
    · replace h0 := B.f hB18 h0
      refine J.seq ?_
      refine J.region ?_
      refine J.op rfl rfl rfl (V.mv rfl rfl) ?_
      obtain ⟨r19, hr20, h0⟩ := B.bind h0
      refine J.cl (l := [.tmp 19]) [] [.blk b5 [.int .i8 0, .int .i8 0, .int .i8 0] 54, .blk b3 [.int .i8 p2_p.Reading, .int .i8 p2_p.Zone] 35, .blk b1 [.int .i8 p0_s.Shutter, .int .i8 p0_s.Aperture, .int .i8 p0_s.Speed] 54] cf39 (wN rfl) rfl rfl rfl rfl rfl rfl (by simp) (fun w H => impl_isReading.calls p1_metered r19 w (Own.refl w)  hr20) fun g21 => ?_
      refine J.op rfl rfl rfl (V.nt rfl rfl) ?_
      refine J.op rfl rfl rfl (V.as rfl rfl) ?_
      obtain ⟨t22, et22, h0⟩ := B.lt h0
      refine J.val (congrArg (Value.bool) et22) ?_
      refine J.nil ?_
      refine J.tN ?_
      refine J.cond rfl (fun hB23 => ?_) (fun hB23 => ?_)
      · replace h0 := B.t hB23 h0
        refine J.seq ?_
        refine J.region ?_
        refine J.op rfl rfl rfl (V.bd (l := []) (v := .agg #[.int .i8 0, .int .i8 0, .int .i8 0]) rfl rfl (fun w H => by kernel_rfl)) ?_
        refine J.stW (cs' := [.int .i8 0, .int .i8 0, .int .i8 0]) 0 rfl rfl rfl rfl rfl rfl ts54 rfl (fun u hu => by simp at hu; rcases hu with rfl | rfl | rfl <;> rfl) rfl rfl ?_
        refine J.op rfl rfl rfl (V.as rfl rfl) ?_
        refine J.nil ?_
        refine J.tN ?_
        refine J.ret ?_
        refine J.bR ?_
        refine J.tR ?_
        obtain rfl := B.e h0
        exact J.retC_1 0 rfl rfl rfl ts54 ta54 rfl rfl fun w H => ⟨(), rfl, H.pick [] (by decide)⟩
      · replace h0 := B.f hB23 h0
        refine J.skip ?_
        refine J.bN ?_
        refine J.tN ?_
        refine J.seq ?_
        refine J.quietTail 12 mixed (by kernel_rfl) ?_
        refine JQ.op rfl rfl rfl (V.ldW 2 rfl rfl rfl ts54 ta54 rfl) ?_
        refine JQ.op rfl rfl rfl (V.ldW 1 rfl rfl rfl ts35 ta35 rfl) ?_
        obtain ⟨r24, hr25, h0⟩ := B.bind h0
        obtain ⟨_, cf1, cf2, cf3⟩ := cf53
        refine JQ.cl (l := [.tmp 24]) cf1 cf2 cf3 (wN rfl) rfl rfl rfl rfl rfl (fun w H => impl_Placement_exposure.calls (⟨p2_p.Reading, p2_p.Zone⟩ : impl_Placement) r24 w (Own.refl w)  hr25) ?_
        refine JQ.op rfl rfl rfl (V.mv rfl rfl) ?_
        refine JQ.op rfl rfl rfl (V.ar rfl rfl rfl rfl) ?_
        refine JQ.op rfl rfl rfl (V.faB rfl rfl tf0_35) ?_
        refine JQ.op rfl rfl rfl (V.ldB 1 rfl rfl rfl Try.underlying22 ta22 rfl) ?_
        refine JQ.op rfl rfl rfl (V.conv rfl rfl Try.underlying22 Try.underlying2) ?_
        refine JQ.op rfl rfl rfl (V.ar rfl rfl rfl rfl) ?_
        obtain ⟨r27, hr28, h0⟩ := B.bind h0
        obtain ⟨_, cf1, cf2, cf3⟩ := cf55
        refine JQ.cl (l := [.tmp 23, .tmp 31]) cf1 cf2 cf3 (wN rfl) rfl rfl rfl rfl rfl (fun w H => impl_Setting_more.calls (⟨p0_s.Shutter, p0_s.Aperture, p0_s.Speed⟩ : impl_Setting) (IntKind.wrap .i64 ((IntKind.wrap .i64 (r24 + p1_metered)) - (IntKind.wrap .i64 p2_p.Reading))) r27 w (Own.refl w)  hr28) ?_
        refine JQ.op rfl rfl rfl (V.ex rfl rfl rfl) ?_
        refine JQ.op rfl rfl rfl (V.ex rfl rfl rfl) ?_
        refine JQ.tail ?_
        refine J.stW (cs' := [.int .i8 r27.1.Shutter, .int .i8 r27.1.Aperture, .int .i8 r27.1.Speed]) 0 rfl rfl rfl rfl rfl rfl ts54 rfl (fun u hu => by simp at hu; rcases hu with rfl | rfl | rfl <;> rfl) rfl rfl ?_
        refine J.op rfl rfl rfl (V.as rfl rfl) ?_
        refine J.nil ?_
        refine J.tN ?_
        refine J.ret ?_
        obtain rfl := B.e h0
        exact J.retC_1 0 rfl rfl rfl ts54 ta54 rfl rfl fun w H => ⟨(), rfl, H.pick [] (by decide)⟩

/-! ### impl.MoreLight: function 28 -/
noncomputable def impl_MoreLight.f (p0_s : impl_Setting) (p1_thirds : Int) : Option (impl_Setting × Int) := (impl_ValidSetting.f (⟨p0_s.Shutter, p0_s.Aperture, p0_s.Speed⟩ : impl_Setting)).bind fun r5 => (some (!r5)).bind fun t8 => bif t8 then (some ((⟨0, 0, 0⟩ : impl_Setting), 1)) else ((impl_within.f p1_thirds (-100) 100).bind fun r10 => (some (!r10)).bind fun t13 => bif t13 then (some ((⟨0, 0, 0⟩ : impl_Setting), 2)) else ((impl_Setting_more.f (⟨p0_s.Shutter, p0_s.Aperture, p0_s.Speed⟩ : impl_Setting) p1_thirds).bind fun r15 => some ((⟨r15.1.Shutter, r15.1.Aperture, r15.1.Speed⟩ : impl_Setting), r15.2)))
set_option maxRecDepth 100000 in
theorem impl_MoreLight.calls (p0_s : impl_Setting) (p1_thirds : Int) (r : impl_Setting × Int) (w : World) (H0 : Own [] w w []) (h0 : impl_MoreLight.f p0_s p1_thirds = some r) :
    Calls Try.prog 28 #[.agg #[.int .i8 p0_s.Shutter, .int .i8 p0_s.Aperture, .int .i8 p0_s.Speed], .int .i64 p1_thirds] w (fun e w' => ∃ _ : Unit, e = .returned (.tuple #[.agg #[.int .i8 r.1.Shutter, .int .i8 r.1.Aperture, .int .i8 r.1.Speed], .int .i64 r.2]) ∧ Own [] w w' []) := by
  unfold impl_MoreLight.f at h0
  replace h0 := B.top h0
  refine calls_of_J (args := [.agg #[.int .i8 p0_s.Shutter, .int .i8 p0_s.Aperture, .int .i8 p0_s.Speed], .int .i64 p1_thirds]) Try.func28 rfl Try.ntmps28 rfl [(0, .agg #[.int .i8 p0_s.Shutter, .int .i8 p0_s.Aperture, .int .i8 p0_s.Speed]), (1, .int .i64 p1_thirds)] rfl H0 ?_
  refine J.seq ?_
  refine J.region ?_
  refine J.box rfl rfl rfl rfl rfl (fun _ _ => rfl) fun b1 => ?_
  refine J.alloc rfl rfl rfl rfl tz54 rfl fun b3 => ?_
  refine J.op rfl rfl rfl (V.as rfl rfl) ?_
  refine J.nil ?_
  refine J.tN ?_
  refine J.seq ?_
  refine J.block ?_
  refine J.seq ?_
  refine J.region ?_
  refine J.op rfl rfl rfl (V.ldW 1 rfl rfl rfl ts54 ta54 rfl) ?_
  obtain ⟨r5, hr6, h0⟩ := B.bind h0
  refine J.cl (l := [.tmp 7]) [] [.blk b3 [.int .i8 0, .int .i8 0, .int .i8 0] 54, .blk b1 [.int .i8 p0_s.Shutter, .int .i8 p0_s.Aperture, .int .i8 p0_s.Speed] 54] cf54 (wN rfl) rfl rfl rfl rfl rfl rfl (by simp) (fun w H => impl_ValidSetting.calls (⟨p0_s.Shutter, p0_s.Aperture, p0_s.Speed⟩ : impl_Setting) r5 w (Own.refl w)  hr6) fun g7 => ?_
  refine J.op rfl rfl rfl (V.nt rfl rfl) ?_
  refine J.op rfl rfl rfl (V.as rfl rfl) ?_
  obtain ⟨t8, et8, h0⟩ := B.lt h0
  refine J.val (congrArg (Value.bool) et8) ?_
  refine J.nil ?_
  refine J.tN ?_
  refine J.cond rfl (fun hB9 => ?_) (fun hB9 => ?_)
  · replace h0 := B.t hB9 h0
    refine J.seq ?_
    refine J.region ?_
    refine J.op rfl rfl rfl (V.bd (l := []) (v := .agg #[.int .i8 0, .int .i8 0, .int .i8 0]) rfl rfl (fun w H => by kernel_rfl)) ?_
    refine J.stW (cs' := [.int .i8 0, .int .i8 0, .int .i8 0]) 0 rfl rfl rfl rfl rfl rfl ts54 rfl (fun u hu => by simp at hu; rcases hu with rfl | rfl | rfl <;> rfl) rfl rfl ?_
    refine J.op rfl rfl rfl (V.as rfl rfl) ?_
    refine J.nil ?_
    refine J.tN ?_
    refine J.ret ?_
    refine J.bR ?_
    refine J.tR ?_
    obtain rfl := B.e h0
    exact J.retC_1 0 rfl rfl rfl ts54 ta54 rfl rfl fun w H => ⟨(), rfl, H.pick [] (by decide)⟩
  · replace h0 := B.f hB9 h0
    refine J.seq ?_
    refine J.region ?_
    refine J.op rfl rfl rfl (V.mv rfl rfl) ?_
    obtain ⟨r10, hr11, h0⟩ := B.bind h0
    refine J.cl (l := [.tmp 12, .const (.int .i64 (-100)), .const (.int .i64 100)]) [] [.blk b3 [.int .i8 0, .int .i8 0, .int .i8 0] 54, .blk b1 [.int .i8 p0_s.Shutter, .int .i8 p0_s.Aperture, .int .i8 p0_s.Speed] 54] cf34 (wN rfl) rfl rfl rfl rfl rfl rfl (by simp) (fun w H => impl_within.calls p1_thirds (-100) 100 r10 w (Own.refl w)  hr11) fun g12 => ?_
    refine J.op rfl rfl rfl (V.nt rfl rfl) ?_
    refine J.op rfl rfl rfl (V.as rfl rfl) ?_
    obtain ⟨t13, et13, h0⟩ := B.lt h0
    refine J.val (congrArg (Value.bool) et13) ?_
    refine J.nil ?_
    refine J.tN ?_
    refine J.cond rfl (fun hB14 => ?_) (fun hB14 => ?_)
    · replace h0 := B.t hB14 h0
      refine J.seq ?_
      refine J.region ?_
      refine J.op rfl rfl rfl (V.bd (l := []) (v := .agg #[.int .i8 0, .int .i8 0, .int .i8 0]) rfl rfl (fun w H => by kernel_rfl)) ?_
      refine J.stW (cs' := [.int .i8 0, .int .i8 0, .int .i8 0]) 0 rfl rfl rfl rfl rfl rfl ts54 rfl (fun u hu => by simp at hu; rcases hu with rfl | rfl | rfl <;> rfl) rfl rfl ?_
      refine J.op rfl rfl rfl (V.as rfl rfl) ?_
      refine J.nil ?_
      refine J.tN ?_
      refine J.ret ?_
      refine J.bR ?_
      refine J.tR ?_
      obtain rfl := B.e h0
      exact J.retC_1 0 rfl rfl rfl ts54 ta54 rfl rfl fun w H => ⟨(), rfl, H.pick [] (by decide)⟩
    · replace h0 := B.f hB14 h0
      refine J.skip ?_
      refine J.bN ?_
      refine J.tN ?_
      refine J.seq ?_
      refine J.region ?_
      refine J.op rfl rfl rfl (V.ldW 1 rfl rfl rfl ts54 ta54 rfl) ?_
      refine J.op rfl rfl rfl (V.mv rfl rfl) ?_
      obtain ⟨r15, hr16, h0⟩ := B.bind h0
      refine J.cl (l := [.tmp 16, .tmp 17]) [] [.blk b3 [.int .i8 0, .int .i8 0, .int .i8 0] 54, .blk b1 [.int .i8 p0_s.Shutter, .int .i8 p0_s.Aperture, .int .i8 p0_s.Speed] 54] cf55 (wN rfl) rfl rfl rfl rfl rfl rfl (by simp) (fun w H => impl_Setting_more.calls (⟨p0_s.Shutter, p0_s.Aperture, p0_s.Speed⟩ : impl_Setting) p1_thirds r15 w (Own.refl w)  hr16) fun g17 => ?_
      refine J.op rfl rfl rfl (V.ex rfl rfl rfl) ?_
      refine J.op rfl rfl rfl (V.ex rfl rfl rfl) ?_
      refine J.stW (cs' := [.int .i8 r15.1.Shutter, .int .i8 r15.1.Aperture, .int .i8 r15.1.Speed]) 0 rfl rfl rfl rfl rfl rfl ts54 rfl (fun u hu => by simp at hu; rcases hu with rfl | rfl | rfl <;> rfl) rfl rfl ?_
      refine J.op rfl rfl rfl (V.as rfl rfl) ?_
      refine J.nil ?_
      refine J.tN ?_
      refine J.ret ?_
      obtain rfl := B.e h0
      exact J.retC_1 0 rfl rfl rfl ts54 ta54 rfl rfl fun w H => ⟨(), rfl, H.pick [] (by decide)⟩

/-! ### laws.FnZones: function 5 -/
noncomputable def laws_FnZones.b1 (r23 : (Vector Int 24) × Int) (r33 : Int × Int × Int) : (Int × Int × Int × (Vector Int 11)) → Option (Step (Int × Int × Int × (Vector Int 11)) (Sum (Int × Int × (Vector Int 11)) (Bool))) := fun s57 => bif (decide (s57.2.2.1 < 24)) then (bif (inB s57.2.2.1 24) then ((some (IntKind.wrap .i64 (rdA r23.1 s57.2.2.1))).bind fun z_62 => (bif (decide (0 ≤ (IntKind.wrap .u64 s57.2.2.1))) then (bif (!(((Int.tmod (shR .u32 r33.1 (IntKind.wrap .u64 s57.2.2.1)) 2) == 1) == (decide (z_62 < 0)))) then (some true) else (bif (decide (0 ≤ (IntKind.wrap .u64 s57.2.2.1))) then (some (!(((Int.tmod (shR .u32 r33.2.1 (IntKind.wrap .u64 s57.2.2.1)) 2) == 1) == (decide (10 < z_62))))) else none)) else none : Option (Bool)).bind fun y63 => bif y63 then (some (.done (.inr false))) else ((some (decide (z_62 < 0))).bind fun t70 => bif t70 then ((some (IntKind.wrap .i64 (s57.1 + 1))).bind fun none_72 => (some (IntKind.wrap .i64 (s57.2.2.1 + 1))).bind fun i_73 => some (.next (none_72, s57.2.1, i_73, s57.2.2.2))) else ((some (decide (10 < z_62))).bind fun t74 => bif t74 then ((some (IntKind.wrap .i64 (s57.2.1 + 1))).bind fun over_76 => (some (IntKind.wrap .i64 (s57.2.2.1 + 1))).bind fun i_77 => some (.next (s57.1, over_76, i_77, s57.2.2.2))) else (bif (inB z_62 11) then (bif (inB z_62 11) then ((some (wrA s57.2.2.2 z_62 (IntKind.wrap .i64 ((rdA s57.2.2.2 z_62) + 1)))).bind fun m80 => (some (IntKind.wrap .i64 (s57.2.2.1 + 1))).bind fun i_81 => some (.next (s57.1, s57.2.1, i_81, m80))) else none) else none)))) else none) else (some (.done (.inl (s57.1, s57.2.1, s57.2.2.2))))
noncomputable def laws_FnZones.b2 (r10 : impl_Placement) : Int → Option (Step (Int) (Sum (Unit) (Bool))) := fun s92 => bif (decide (s92 ≤ 57)) then ((impl_ZoneOf.f (⟨r10.Reading, r10.Zone⟩ : impl_Placement) s92).bind fun r96 => (impl_ZoneOf.f (⟨r10.Reading, r10.Zone⟩ : impl_Placement) (IntKind.wrap .i64 (s92 + 3))).bind fun r99 => (impl_ZoneOf.f (⟨r10.Reading, r10.Zone⟩ : impl_Placement) (IntKind.wrap .i64 (s92 + 1))).bind fun r102 => (bif (r96.2 != 0) then (some true) else (bif (r99.2 != 0) then (some true) else (bif (r99.1 != (IntKind.wrap .i64 (r96.1 + 1))) then (some true) else (bif (r102.2 != 0) then (some true) else (bif (decide (r102.1 < r96.1)) then (some true) else (some (decide ((IntKind.wrap .i64 (r96.1 + 1)) < r102.1))))))) : Option (Bool)).bind fun y105 => bif y105 then (some (.done (.inr false))) else ((some (IntKind.wrap .i64 (s92 + 1))).bind fun r_114 => some (.next r_114))) else (some (.done (.inl ())))
noncomputable def laws_FnZones.b3 (r5 : (Vector Int 24)) (r124 : impl_Placement × Int × Int) : Int → Option (Step (Int) (Sum (Unit) (Bool))) := fun s137 => bif (decide (s137 ≤ 60)) then ((impl_CountZones.f r5 (⟨IntKind.wrap .i8 s137, 5⟩ : impl_Placement)).bind fun r141 => (bif (r141.2.2.2 != 0) then (some true) else (bif (decide ((IntKind.wrap .i64 (r141.2.1 + r141.2.2.1)) < r124.2.1)) then (some true) else (bif ((IntKind.wrap .i64 (r141.2.1 + r141.2.2.1)) == r124.2.1) then (some (decide (s137 < (IntKind.wrap .i64 r124.1.Reading)))) else (some false))) : Option (Bool)).bind fun y146 => bif y146 then (some (.done (.inr false))) else ((some (IntKind.wrap .i64 (s137 + 1))).bind fun r_153 => some (.next r_153))) else (some (.done (.inl ())))
noncomputable def laws_FnZones.f (p0_code : (List Int)) (p1_more : (List Int)) : Option (Bool) := (laws_a2Long.f p0_code p1_more).bind fun r1 => bif r1 then (some true) else ((spec_A2Scene.f p0_code).bind fun r5 => (spec_A2Placement.f p1_more).bind fun r10 => (impl_ZoneOf.f (⟨r10.Reading, r10.Zone⟩ : impl_Placement) (IntKind.wrap .i64 r10.Reading)).bind fun r15 => (impl_ZonesOf.f r5 (⟨r10.Reading, r10.Zone⟩ : impl_Placement)).bind fun r18 => (spec_ZonesOf.f r5 (⟨r10.Reading, r10.Zone⟩ : impl_Placement)).bind fun r23 => (impl_CountZones.f r5 (⟨r10.Reading, r10.Zone⟩ : impl_Placement)).bind fun r28 => (impl_OffScale.f r5 (⟨r10.Reading, r10.Zone⟩ : impl_Placement)).bind fun r33 => (impl_PlaceFor.f (IntKind.wrap .i64 r10.Reading) (IntKind.wrap .i64 r10.Zone)).bind fun r36 => (bif (r15.2 != 0) then (some true) else (bif (r15.1 != (IntKind.wrap .i64 r10.Zone)) then (some true) else (bif (r18.2 != r23.2) then (some true) else (bif (r18.2 != 0) then (some true) else (bif (!(r18.1 == r23.1)) then (some true) else (bif (r28.2.2.2 != 0) then (some true) else (bif (r33.2.2 != 0) then (some true) else (bif ((Go.bits .and .u32 r33.1 r33.2.1) != 0) then (some true) else (bif (r36.2 != 0) then (some true) else (some (!((r36.1.Reading == r10.Reading) && (r36.1.Zone == r10.Zone)))))))))))) : Option (Bool)).bind fun y41 => bif y41 then (some false) else ((some (zA 11)).bind fun m56 => (loopW (laws_FnZones.b1 r23 r33) (0, 0, 0, m56)).bind (Sum.elim (fun y83 => (bif (!(y83.2.2 == r28.1)) then (some true) else (bif (y83.1 != r28.2.1) then (some true) else (some (y83.2.1 != r28.2.2.1))) : Option (Bool)).bind fun y86 => bif y86 then (some false) else ((loopW (laws_FnZones.b2 r10) 0).bind (Sum.elim (fun y116 => (impl_BestPlacement.f r5).bind fun r119 => (spec_BestPlacement.f r5).bind fun r124 => (bif (r119.2.2 != r124.2.2) then (some true) else (bif (r119.2.2 != 0) then (some true) else (bif (!((r119.1.Reading == r124.1.Reading) && (r119.1.Zone == r124.1.Zone))) then (some true) else (bif (r119.2.1 != r124.2.1) then (some true) else (some (r124.1.Zone != 5))))) : Option (Bool)).bind fun y129 => bif y129 then (some false) else ((loopW (laws_FnZones.b3 r5 r124) 0).bind (Sum.elim (fun y155 => (laws_a2At.f p1_more 0 11).bind fun r158 => (impl_SamePlacing.f (⟨r10.Reading, r10.Zone⟩ : impl_Placement) r158).bind fun r161 => (laws_a2At.f p1_more 0 11).bind fun r166 => (spec_SamePlacing.f (⟨r10.Reading, r10.Zone⟩ : impl_Placement) r166).bind fun r169 => (bif (r161.2 != r169.2) then (some true) else (bif (!((r161.1.Reading == r169.1.Reading) && (r161.1.Zone == r169.1.Zone))) then (some true) else (bif (r161.2 != 0) then (some (r161.2 != 6)) else (some false))) : Option (Bool)).bind fun y174 => bif y174 then (some false) else ((bif (r161.2 == 0) then ((impl_ZonesOf.f r5 (⟨r169.1.Reading, r169.1.Zone⟩ : impl_Placement)).bind fun r184 => (bif (r184.2 != 0) then (some true) else (some (!(r184.1 == r23.1))) : Option (Bool)).bind fun y189 => bif y189 then (some (.inr false)) else (some (.inl ()))) else (some (.inl ())) : Option (Sum (Unit) (Bool))).bind (Sum.elim (fun y182 => (spec_A2Setting.f p0_code).bind fun r196 => (impl_ExposureThirds.f (⟨r10.Reading, r10.Zone⟩ : impl_Placement)).bind fun r201 => (impl_SettingFor.f (⟨r196.Shutter, r196.Aperture, r196.Speed⟩ : impl_Setting) (IntKind.wrap .i64 r10.Reading) (⟨r10.Reading, r10.Zone⟩ : impl_Placement)).bind fun r204 => (impl_MoreLight.f (⟨r196.Shutter, r196.Aperture, r196.Speed⟩ : impl_Setting) r201.1).bind fun r209 => bif (r201.2 == 0) then (bif (r201.1 == (IntKind.wrap .i64 ((IntKind.wrap .i64 (3 * (IntKind.wrap .i64 r10.Zone))) - 15))) then (bif (r204.2 == r209.2) then ((some ((r204.1.Shutter == r209.1.Shutter) && ((r204.1.Aperture == r209.1.Aperture) && (r204.1.Speed == r209.1.Speed)))).bind fun t217 => some t217) else (some false)) else (some false)) else (some false)) (fun r => some r)))) (fun r => some r)))) (fun r => some r)))) (fun r => some r))))
set_option maxRecDepth 100000 in
theorem laws_FnZones.calls (v0 : Value) (p0_code : (List Int)) (v1 : Value) (p1_more : (List Int)) (r : Bool) (w : World) (H0 : Own [] w w []) (hS0 : SlE [] w v0 5 (eI .u8) p0_code) (hS1 : SlE [] w v1 5 (eI .u8) p1_more) (h0 : laws_FnZones.f p0_code p1_more = some r) :
    Calls Try.prog 5 #[v0, v1] w (fun e w' => ∃ _ : Unit, e = .returned (.bool r) ∧ Own [] w w' []) := by
  unfold laws_FnZones.f at h0
  replace h0 := B.top h0
  refine calls_of_J (args := [v0, v1]) Try.func5 rfl Try.ntmps5 rfl [(0, v0), (1, v1)] rfl H0 ?_
  refine J.seq ?_
  refine J.region ?_
  refine J.op rfl rfl rfl (V.as rfl rfl) ?_
  refine J.nil ?_
  refine J.tN ?_
  refine J.seq ?_
  refine J.seq ?_
  refine J.region ?_
  refine J.op rfl rfl rfl (V.mv rfl rfl) ?_
  refine J.op rfl rfl rfl (V.mv rfl rfl) ?_
  obtain ⟨r1, hr2, h0⟩ := B.bind h0
  refine J.cl (l := [.tmp 58, .tmp 59]) [] [] cf11 (wN rfl) rfl rfl rfl rfl rfl rfl (by simp) (fun w H => laws_a2Long.calls v0 p0_code v1 p1_more r1 w (Own.refl w) (Sl.later0 hS0 H) (Sl.later0 hS1 H) hr2) fun g3 => ?_
  refine J.nil ?_
  refine J.tN ?_
  refine J.cond rfl (fun hB4 => ?_) (fun hB4 => ?_)
  · replace h0 := B.t hB4 h0
    refine J.seq ?_
    refine J.region ?_
    refine J.op rfl rfl rfl (V.as rfl rfl) ?_
    refine J.nil ?_
    refine J.tN ?_
    refine J.ret ?_
    refine J.tR ?_
    obtain rfl := B.e h0
    exact J.ret1 rfl rfl fun w H => ⟨(), rfl, H.pick [] (by decide)⟩
  · replace h0 := B.f hB4 h0
    refine J.skip ?_
    refine J.tN ?_
    refine J.seq ?_
    refine J.region ?_
    refine J.op rfl rfl rfl (V.mv rfl rfl) ?_
    obtain ⟨r5, hr6, h0⟩ := B.bind h0
    refine J.cl (l := [.tmp 61]) [] [] cf12 (wN rfl) rfl rfl rfl rfl rfl rfl (by simp) (fun w H => spec_A2Scene.calls v0 p0_code r5 w (Own.refl w) (Sl.later0 hS0 H) hr6) fun g7 => ?_
    refine J.alloc rfl rfl rfl rfl tz26 rfl fun b8 => ?_
    refine J.stW (cs' := encA .i8 r5) 0 rfl rfl rfl rfl rfl rfl ts26 rfl (encA_one .i8 _) (encA_len _ _) (encA_len _ _) ?_
    refine J.nil ?_
    refine J.tN ?_
    refine J.seq ?_
    refine J.region ?_
    refine J.op rfl rfl rfl (V.mv rfl rfl) ?_
    obtain ⟨r10, hr11, h0⟩ := B.bind h0
    refine J.cl (l := [.tmp 63]) [] [.blk b8 (encA .i8 r5) 26] cf13 (wN rfl) rfl rfl rfl rfl rfl rfl (by simp) (fun w H => spec_A2Placement.calls v1 p1_more r10 w (Own.refl w) (Sl.later0 hS1 H) hr11) fun g12 => ?_
    refine J.alloc rfl rfl rfl rfl tz35 rfl fun b13 => ?_
    refine J.stW (cs' := [.int .i8 r10.Reading, .int .i8 r10.Zone]) 0 rfl rfl rfl rfl rfl rfl ts35 rfl (fun u hu => by simp at hu; rcases hu with rfl | rfl <;> rfl) rfl rfl ?_
    refine J.nil ?_
    refine J.tN ?_
    refine J.seq ?_
    refine J.region ?_
    refine J.op rfl rfl rfl (V.ldW 0 rfl rfl rfl ts35 ta35 rfl) ?_
    refine J.op rfl rfl rfl (V.faB rfl rfl tf0_35) ?_
    refine J.op rfl rfl rfl (V.ldB 0 rfl rfl rfl Try.underlying22 ta22 rfl) ?_
    refine J.op rfl rfl rfl (V.conv rfl rfl Try.underlying22 Try.underlying2) ?_
    obtain ⟨r15, hr16, h0⟩ := B.bind h0
    refine J.cl (l := [.tmp 66, .tmp 69]) [] [.blk b13 [.int .i8 r10.Reading, .int .i8 r10.Zone] 35, .blk b8 (encA .i8 r5) 26] cf14 (wN rfl) rfl rfl rfl rfl rfl rfl (by simp) (fun w H => impl_ZoneOf.calls (⟨r10.Reading, r10.Zone⟩ : impl_Placement) (IntKind.wrap .i64 r10.Reading) r15 w (Own.refl w)  hr16) fun g17 => ?_
    refine J.op rfl rfl rfl (V.mv rfl rfl) ?_
    refine J.op rfl rfl rfl (V.ex rfl rfl rfl) ?_
    refine J.op rfl rfl rfl (V.ex rfl rfl rfl) ?_
    refine J.op rfl rfl rfl (V.as rfl rfl) ?_
    refine J.op rfl rfl rfl (V.as rfl rfl) ?_
    refine J.nil ?_
    refine J.tN ?_
    refine J.seq ?_
    refine J.region ?_
    refine J.op rfl rfl rfl (V.ldW 1 rfl rfl rfl ts26 ta26 (encA_len _ _)) ?_
    refine J.op rfl rfl rfl (V.ldW 0 rfl rfl rfl ts35 ta35 rfl) ?_
    obtain ⟨r18, hr19, h0⟩ := B.bind h0
    refine J.cl (l := [.tmp 74, .tmp 75]) [] [.blk b13 [.int .i8 r10.Reading, .int .i8 r10.Zone] 35, .blk b8 (encA .i8 r5) 26] cf15 (wN rfl) rfl rfl rfl rfl rfl rfl (by simp) (fun w H => impl_ZonesOf.calls r5 (⟨r10.Reading, r10.Zone⟩ : impl_Placement) r18 w (Own.refl w)  hr19) fun g20 => ?_
    refine J.op rfl rfl rfl (V.mv rfl rfl) ?_
    refine J.op rfl rfl rfl (V.ex rfl rfl rfl) ?_
    refine J.op rfl rfl rfl (V.ex rfl rfl rfl) ?_
    refine J.alloc rfl rfl rfl rfl tz23 rfl fun b21 => ?_
    refine J.stW (cs' := encA .i8 r18.1) 0 rfl rfl rfl rfl rfl rfl ts23 rfl (encA_one .i8 _) (encA_len _ _) (encA_len _ _) ?_
    refine J.op rfl rfl rfl (V.as rfl rfl) ?_
    refine J.nil ?_
    refine J.tN ?_
    refine J.seq ?_
    refine J.region ?_
    refine J.op rfl rfl rfl (V.ldW 2 rfl rfl rfl ts26 ta26 (encA_len _ _)) ?_
    refine J.op rfl rfl rfl (V.ldW 1 rfl rfl rfl ts35 ta35 rfl) ?_
    obtain ⟨r23, hr24, h0⟩ := B.bind h0
    refine J.cl (l := [.tmp 80, .tmp 81]) [] [.blk b21 (encA .i8 r18.1) 23, .blk b13 [.int .i8 r10.Reading, .int .i8 r10.Zone] 35, .blk b8 (encA .i8 r5) 26] cf16 (wN rfl) rfl rfl rfl rfl rfl rfl (by simp) (fun w H => spec_ZonesOf.calls r5 (⟨r10.Reading, r10.Zone⟩ : impl_Placement) r23 w (Own.refl w)  hr24) fun g25 => ?_
    refine J.op rfl rfl rfl (V.mv rfl rfl) ?_
    refine J.op rfl rfl rfl (V.ex rfl rfl rfl) ?_
    refine J.op rfl rfl rfl (V.ex rfl rfl rfl) ?_
    refine J.alloc rfl rfl rfl rfl tz23 rfl fun b26 => ?_
    refine J.stW (cs' := encA .i8 r23.1) 0 rfl rfl rfl rfl rfl rfl ts23 rfl (encA_one .i8 _) (encA_len _ _) (encA_len _ _) ?_
    refine J.op rfl rfl rfl (V.as rfl rfl) ?_
    refine J.nil ?_
    refine J.tN ?_
    refine J.seq ?_
    refine J.region ?_
    refine J.op rfl rfl rfl (V.ldW 3 rfl rfl rfl ts26 ta26 (encA_len _ _)) ?_
    refine J.op rfl rfl rfl (V.ldW 2 rfl rfl rfl ts35 ta35 rfl) ?_
    obtain ⟨r28, hr29, h0⟩ := B.bind h0
    refine J.cl (l := [.tmp 86, .tmp 87]) [] [.blk b26 (encA .i8 r23.1) 23, .blk b21 (encA .i8 r18.1) 23, .blk b13 [.int .i8 r10.Reading, .int .i8 r10.Zone] 35, .blk b8 (encA .i8 r5) 26] cf17 (wN rfl) rfl rfl rfl rfl rfl rfl (by simp) (fun w H => impl_CountZones.calls r5 (⟨r10.Reading, r10.Zone⟩ : impl_Placement) r28 w (Own.refl w)  hr29) fun g30 => ?_
    refine J.op rfl rfl rfl (V.mv rfl rfl) ?_
    refine J.op rfl rfl rfl (V.ex rfl rfl rfl) ?_
    refine J.op rfl rfl rfl (V.ex rfl rfl rfl) ?_
    refine J.op rfl rfl rfl (V.ex rfl rfl rfl) ?_
    refine J.op rfl rfl rfl (V.ex rfl rfl rfl) ?_
    refine J.alloc rfl rfl rfl rfl tz40 rfl fun b31 => ?_
    refine J.stW (cs' := encA .i64 r28.1) 0 rfl rfl rfl rfl rfl rfl ts40 rfl (encA_one .i64 _) (encA_len _ _) (encA_len _ _) ?_
    refine J.op rfl rfl rfl (V.as rfl rfl) ?_
    refine J.op rfl rfl rfl (V.as rfl rfl) ?_
    refine J.op rfl rfl rfl (V.as rfl rfl) ?_
    refine J.nil ?_
    refine J.tN ?_
    refine J.seq ?_
    refine J.region ?_
    refine J.op rfl rfl rfl (V.ldW 4 rfl rfl rfl ts26 ta26 (encA_len _ _)) ?_
    refine J.op rfl rfl rfl (V.ldW 3 rfl rfl rfl ts35 ta35 rfl) ?_
    obtain ⟨r33, hr34, h0⟩ := B.bind h0
    refine J.cl (l := [.tmp 94, .tmp 95]) [] [.blk b31 (encA .i64 r28.1) 40, .blk b26 (encA .i8 r23.1) 23, .blk b21 (encA .i8 r18.1) 23, .blk b13 [.int .i8 r10.Reading, .int .i8 r10.Zone] 35, .blk b8 (encA .i8 r5) 26] cf18 (wN rfl) rfl rfl rfl rfl rfl rfl (by simp) (fun w H => impl_OffScale.calls r5 (⟨r10.Reading, r10.Zone⟩ : impl_Placement) r33 w (Own.refl w)  hr34) fun g35 => ?_
    refine J.op rfl rfl rfl (V.mv rfl rfl) ?_
    refine J.op rfl rfl rfl (V.ex rfl rfl rfl) ?_
    refine J.op rfl rfl rfl (V.ex rfl rfl rfl) ?_
    refine J.op rfl rfl rfl (V.ex rfl rfl rfl) ?_
    refine J.op rfl rfl rfl (V.as rfl rfl) ?_
    refine J.op rfl rfl rfl (V.as rfl rfl) ?_
    refine J.op rfl rfl rfl (V.as rfl rfl) ?_
    refine J.nil ?_
    refine J.tN ?_
    refine J.seq ?_
    refine J.region ?_
    refine J.op rfl rfl rfl (V.faB rfl rfl tf0_35) ?_
    refine J.op rfl rfl rfl (V.ldB 3 rfl rfl rfl Try.underlying22 ta22 rfl) ?_
    refine J.op rfl rfl rfl (V.conv rfl rfl Try.underlying22 Try.underlying2) ?_
    refine J.op rfl rfl rfl (V.faB rfl rfl tf1_35) ?_
    refine J.op rfl rfl rfl (V.ldB 3 rfl rfl rfl Try.underlying22 ta22 rfl) ?_
    refine J.op rfl rfl rfl (V.conv rfl rfl Try.underlying22 Try.underlying2) ?_
    obtain ⟨r36, hr37, h0⟩ := B.bind h0
    refine J.cl (l := [.tmp 103, .tmp 106]) [] [.blk b31 (encA .i64 r28.1) 40, .blk b26 (encA .i8 r23.1) 23, .blk b21 (encA .i8 r18.1) 23, .blk b13 [.int .i8 r10.Reading, .int .i8 r10.Zone] 35, .blk b8 (encA .i8 r5) 26] cf19 (wN rfl) rfl rfl rfl rfl rfl rfl (by simp) (fun w H => impl_PlaceFor.calls (IntKind.wrap .i64 r10.Reading) (IntKind.wrap .i64 r10.Zone) r36 w (Own.refl w)  hr37) fun g38 => ?_
    refine J.op rfl rfl rfl (V.mv rfl rfl) ?_
    refine J.op rfl rfl rfl (V.ex rfl rfl rfl) ?_
    refine J.op rfl rfl rfl (V.ex rfl rfl rfl) ?_
    refine J.alloc rfl rfl rfl rfl tz35 rfl fun b39 => ?_
    refine J.stW (cs' := [.int .i8 r36.1.Reading, .int .i8 r36.1.Zone]) 0 rfl rfl rfl rfl rfl rfl ts35 rfl (fun u hu => by simp at hu; rcases hu with rfl | rfl <;> rfl) rfl rfl ?_
    refine J.op rfl rfl rfl (V.as rfl rfl) ?_
    refine J.nil ?_
    refine J.tN ?_
    refine J.seq ?_
    refine J.seq ?_
    obtain ⟨y41, hy52, h0⟩ := B.bind h0
    replace hy52 := B.top hy52
    refine J.cut (γ := Unit) (fun _ => True) (fun gy42 => [(0, v0), (1, v1), (5, bp b8 0), (6, bp b13 0), (11, bp b26 0), (13, bp b31 0), (14, .int .i64 r28.2.1), (15, .int .i64 r28.2.2.1), (17, .int .u32 r33.1), (18, .int .u32 r33.2.1), (155, .bool y41)]) (fun gy42 => [.blk b39 [.int .i8 r36.1.Reading, .int .i8 r36.1.Zone] 35, .blk b31 (encA .i64 r28.1) 40, .blk b26 (encA .i8 r23.1) 23, .blk b21 (encA .i8 r18.1) 23, .blk b13 [.int .i8 r10.Reading, .int .i8 r10.Zone] 35, .blk b8 (encA .i8 r5) 26]) ?_ ?_
    · have h1 := hy52
      refine J.region ?_
      refine J.op rfl rfl rfl (V.mv rfl rfl) ?_
      refine J.op rfl rfl rfl (V.cmp rfl rfl rfl rfl) ?_
      refine J.op rfl rfl rfl (V.mv rfl rfl) ?_
      refine J.split 112 rfl (fun hB43 => ?_) (fun hB43 => ?_)
      · replace h1 := B.t hB43 h1
        refine J.opOff rfl rfl rfl rfl rfl rfl ?_
        refine J.opOff rfl rfl rfl rfl rfl rfl ?_
        refine J.opOff rfl rfl rfl rfl rfl rfl ?_
        refine J.opOff rfl rfl rfl rfl rfl rfl ?_
        refine J.opOff rfl rfl rfl rfl rfl rfl ?_
        refine J.op rfl rfl rfl (V.pkT rfl rfl rfl) ?_
        refine J.op rfl rfl rfl (V.mv rfl rfl) ?_
        refine J.opOff rfl rfl rfl rfl rfl rfl ?_
        refine J.opOff rfl rfl rfl rfl rfl rfl ?_
        refine J.opOff rfl rfl rfl rfl rfl rfl ?_
        refine J.op rfl rfl rfl (V.pkT rfl rfl rfl) ?_
        refine J.op rfl rfl rfl (V.mv rfl rfl) ?_
        refine J.opOff rfl rfl rfl rfl rfl rfl ?_
        refine J.opOff rfl rfl rfl rfl rfl rfl ?_
        refine J.op rfl rfl rfl (V.pkT rfl rfl rfl) ?_
        refine J.op rfl rfl rfl (V.mv rfl rfl) ?_
        refine J.opOff rfl rfl rfl rfl rfl rfl ?_
        refine J.opOff rfl rfl rfl rfl rfl rfl ?_
        refine J.opOff rfl rfl rfl rfl rfl rfl ?_
        refine J.op rfl rfl rfl (V.pkT rfl rfl rfl) ?_
        refine J.op rfl rfl rfl (V.mv rfl rfl) ?_
        refine J.opOff rfl rfl rfl rfl rfl rfl ?_
        refine J.opOff rfl rfl rfl rfl rfl rfl ?_
        refine J.op rfl rfl rfl (V.pkT rfl rfl rfl) ?_
        refine J.op rfl rfl rfl (V.mv rfl rfl) ?_
        refine J.opOff rfl rfl rfl rfl rfl rfl ?_
        refine J.opOff rfl rfl rfl rfl rfl rfl ?_
        refine J.op rfl rfl rfl (V.pkT rfl rfl rfl) ?_
        refine J.op rfl rfl rfl (V.mv rfl rfl) ?_
        refine J.opOff rfl rfl rfl rfl rfl rfl ?_
        refine J.opOff rfl rfl rfl rfl rfl rfl ?_
        refine J.opOff rfl rfl rfl rfl rfl rfl ?_
        refine J.opOff rfl rfl rfl rfl rfl rfl ?_
        refine J.op rfl rfl rfl (V.pkT rfl rfl rfl) ?_
        refine J.op rfl rfl rfl (V.mv rfl rfl) ?_
        refine J.opOff rfl rfl rfl rfl rfl rfl ?_
        refine J.opOff rfl rfl rfl rfl rfl rfl ?_
        refine J.op rfl rfl rfl (V.pkT rfl rfl rfl) ?_
        refine J.op rfl rfl rfl (V.mv rfl rfl) ?_
        refine J.opOff rfl rfl rfl rfl rfl rfl ?_
        refine J.opOff rfl rfl rfl rfl rfl rfl ?_
        refine J.opOff rfl rfl rfl rfl rfl rfl ?_
        refine J.op rfl rfl rfl (V.pkT rfl rfl rfl) ?_
        refine J.nil ?_
        obtain rfl := B.e h1
        refine J.tN (J.to () trivial ?_)
        exact J.keep _ rfl (J.pickE [0, 1, 2, 3, 4, 5] rfl rfl J.here)
      · replace h1 := B.f hB43 h1
        refine J.opOn rfl rfl rfl rfl rfl (V.mv rfl rfl) ?_
        refine J.opOn rfl rfl rfl rfl rfl (V.faB rfl rfl tf1_35) ?_
        refine J.opOn rfl rfl rfl rfl rfl (V.ldB 4 rfl rfl rfl Try.underlying22 ta22 rfl) ?_
        refine J.opOn rfl rfl rfl rfl rfl (V.conv rfl rfl Try.underlying22 Try.underlying2) ?_
        refine J.opOn rfl rfl rfl rfl rfl (V.cmp rfl rfl rfl rfl) ?_
        refine J.op rfl rfl rfl (V.pkF rfl rfl rfl) ?_
        refine J.op rfl rfl rfl (V.mv rfl rfl) ?_
        refine J.split 119 rfl (fun hB44 => ?_) (fun hB44 => ?_)
        · replace h1 := B.t hB44 h1
          refine J.opOff rfl rfl rfl rfl rfl rfl ?_
          refine J.opOff rfl rfl rfl rfl rfl rfl ?_
          refine J.opOff rfl rfl rfl rfl rfl rfl ?_
          refine J.op rfl rfl rfl (V.pkT rfl rfl rfl) ?_
          refine J.op rfl rfl rfl (V.mv rfl rfl) ?_
          refine J.opOff rfl rfl rfl rfl rfl rfl ?_
          refine J.opOff rfl rfl rfl rfl rfl rfl ?_
          refine J.op rfl rfl rfl (V.pkT rfl rfl rfl) ?_
          refine J.op rfl rfl rfl (V.mv rfl rfl) ?_
          refine J.opOff rfl rfl rfl rfl rfl rfl ?_
          refine J.opOff rfl rfl rfl rfl rfl rfl ?_
          refine J.opOff rfl rfl rfl rfl rfl rfl ?_
          refine J.op rfl rfl rfl (V.pkT rfl rfl rfl) ?_
          refine J.op rfl rfl rfl (V.mv rfl rfl) ?_
          refine J.opOff rfl rfl rfl rfl rfl rfl ?_
          refine J.opOff rfl rfl rfl rfl rfl rfl ?_
          refine J.op rfl rfl rfl (V.pkT rfl rfl rfl) ?_
          refine J.op rfl rfl rfl (V.mv rfl rfl) ?_
          refine J.opOff rfl rfl rfl rfl rfl rfl ?_
          refine J.opOff rfl rfl rfl rfl rfl rfl ?_
          refine J.op rfl rfl rfl (V.pkT rfl rfl rfl) ?_
          refine J.op rfl rfl rfl (V.mv rfl rfl) ?_
          refine J.opOff rfl rfl rfl rfl rfl rfl ?_
          refine J.opOff rfl rfl rfl rfl rfl rfl ?_
          refine J.opOff rfl rfl rfl rfl rfl rfl ?_
          refine J.opOff rfl rfl rfl rfl rfl rfl ?_
          refine J.op rfl rfl rfl (V.pkT rfl rfl rfl) ?_
          refine J.op rfl rfl rfl (V.mv rfl rfl) ?_
          refine J.opOff rfl rfl rfl rfl rfl rfl ?_
          refine J.opOff rfl rfl rfl rfl rfl rfl ?_
          refine J.op rfl rfl rfl (V.pkT rfl rfl rfl) ?_
          refine J.op rfl rfl rfl (V.mv rfl rfl) ?_
          refine J.opOff rfl rfl rfl rfl rfl rfl ?_
          refine J.opOff rfl rfl rfl rfl rfl rfl ?_
          refine J.opOff rfl rfl rfl rfl rfl rfl ?_
          refine J.op rfl rfl rfl (V.pkT rfl rfl rfl) ?_
          refine J.nil ?_
          obtain rfl := B.e h1
          refine J.tN (J.to () trivial ?_)
          exact J.keep _ rfl (J.pickE [0, 1, 2, 3, 4, 5] rfl rfl J.here)
        · replace h1 := B.f hB44 h1
          refine J.opOn rfl rfl rfl rfl rfl (V.mv rfl rfl) ?_
          refine J.opOn rfl rfl rfl rfl rfl (V.mv rfl rfl) ?_
          refine J.opOn rfl rfl rfl rfl rfl (V.cmp rfl rfl rfl rfl) ?_
          refine J.op rfl rfl rfl (V.pkF rfl rfl rfl) ?_
          refine J.op rfl rfl rfl (V.mv rfl rfl) ?_
          refine J.split 124 rfl (fun hB45 => ?_) (fun hB45 => ?_)
          · replace h1 := B.t hB45 h1
            refine J.opOff rfl rfl rfl rfl rfl rfl ?_
            refine J.opOff rfl rfl rfl rfl rfl rfl ?_
            refine J.op rfl rfl rfl (V.pkT rfl rfl rfl) ?_
            refine J.op rfl rfl rfl (V.mv rfl rfl) ?_
            refine J.opOff rfl rfl rfl rfl rfl rfl ?_
            refine J.opOff rfl rfl rfl rfl rfl rfl ?_
            refine J.opOff rfl rfl rfl rfl rfl rfl ?_
            refine J.op rfl rfl rfl (V.pkT rfl rfl rfl) ?_
            refine J.op rfl rfl rfl (V.mv rfl rfl) ?_
            refine J.opOff rfl rfl rfl rfl rfl rfl ?_
            refine J.opOff rfl rfl rfl rfl rfl rfl ?_
            refine J.op rfl rfl rfl (V.pkT rfl rfl rfl) ?_
            refine J.op rfl rfl rfl (V.mv rfl rfl) ?_
            refine J.opOff rfl rfl rfl rfl rfl rfl ?_
            refine J.opOff rfl rfl rfl rfl rfl rfl ?_
            refine J.op rfl rfl rfl (V.pkT rfl rfl rfl) ?_
            refine J.op rfl rfl rfl (V.mv rfl rfl) ?_
            refine J.opOff rfl rfl rfl rfl rfl rfl ?_
            refine J.opOff rfl rfl rfl rfl rfl rfl ?_
            refine J.opOff rfl rfl rfl rfl rfl rfl ?_
            refine J.opOff rfl rfl rfl rfl rfl rfl ?_
            refine J.op rfl rfl rfl (V.pkT rfl rfl rfl) ?_
            refine J.op rfl rfl rfl (V.mv rfl rfl) ?_
            refine J.opOff rfl rfl rfl rfl rfl rfl ?_
            refine J.opOff rfl rfl rfl rfl rfl rfl ?_
            refine J.op rfl rfl rfl (V.pkT rfl rfl rfl) ?_
            refine J.op rfl rfl rfl (V.mv rfl rfl) ?_
            refine J.opOff rfl rfl rfl rfl rfl rfl ?_
            refine J.opOff rfl rfl rfl rfl rfl rfl ?_
            refine J.opOff rfl rfl rfl rfl rfl rfl ?_
            refine J.op rfl rfl rfl (V.pkT rfl rfl rfl) ?_
            refine J.nil ?_
            obtain rfl := B.e h1
            refine J.tN (J.to () trivial ?_)
            exact J.keep _ rfl (J.pickE [0, 1, 2, 3, 4, 5] rfl rfl J.here)
          · replace h1 := B.f hB45 h1
            refine J.opOn rfl rfl rfl rfl rfl (V.mv rfl rfl) ?_
            refine J.opOn rfl rfl rfl rfl rfl (V.cmp rfl rfl rfl rfl) ?_
            refine J.op rfl rfl rfl (V.pkF rfl rfl rfl) ?_
            refine J.op rfl rfl rfl (V.mv rfl rfl) ?_
            refine J.split 128 rfl (fun hB46 => ?_) (fun hB46 => ?_)
            · replace h1 := B.t hB46 h1
              refine J.opOff rfl rfl rfl rfl rfl rfl ?_
              refine J.opOff rfl rfl rfl rfl rfl rfl ?_
              refine J.opOff rfl rfl rfl rfl rfl rfl ?_
              refine J.op rfl rfl rfl (V.pkT rfl rfl rfl) ?_
              refine J.op rfl rfl rfl (V.mv rfl rfl) ?_
              refine J.opOff rfl rfl rfl rfl rfl rfl ?_
              refine J.opOff rfl rfl rfl rfl rfl rfl ?_
              refine J.op rfl rfl rfl (V.pkT rfl rfl rfl) ?_
              refine J.op rfl rfl rfl (V.mv rfl rfl) ?_
              refine J.opOff rfl rfl rfl rfl rfl rfl ?_
              refine J.opOff rfl rfl rfl rfl rfl rfl ?_
              refine J.op rfl rfl rfl (V.pkT rfl rfl rfl) ?_
              refine J.op rfl rfl rfl (V.mv rfl rfl) ?_
              refine J.opOff rfl rfl rfl rfl rfl rfl ?_
              refine J.opOff rfl rfl rfl rfl rfl rfl ?_
              refine J.opOff rfl rfl rfl rfl rfl rfl ?_
              refine J.opOff rfl rfl rfl rfl rfl rfl ?_
              refine J.op rfl rfl rfl (V.pkT rfl rfl rfl) ?_
              refine J.op rfl rfl rfl (V.mv rfl rfl) ?_
              refine J.opOff rfl rfl rfl rfl rfl rfl ?_
              refine J.opOff rfl rfl rfl rfl rfl rfl ?_
              refine J.op rfl rfl rfl (V.pkT rfl rfl rfl) ?_
              refine J.op rfl rfl rfl (V.mv rfl rfl) ?_
              refine J.opOff rfl rfl rfl rfl rfl rfl ?_
              refine J.opOff rfl rfl rfl rfl rfl rfl ?_
              refine J.opOff rfl rfl rfl rfl rfl rfl ?_
              refine J.op rfl rfl rfl (V.pkT rfl rfl rfl) ?_
              refine J.nil ?_
              obtain rfl := B.e h1
              refine J.tN (J.to () trivial ?_)
              exact J.keep _ rfl (J.pickE [0, 1, 2, 3, 4, 5] rfl rfl J.here)
            · replace h1 := B.f hB46 h1
              refine J.opOn rfl rfl rfl rfl rfl (V.ldW 3 rfl rfl rfl ts23 ta23 (encA_len _ _)) ?_
              refine J.opOn rfl rfl rfl rfl rfl (V.ldW 2 rfl rfl rfl ts23 ta23 (encA_len _ _)) ?_
              refine J.opOn rfl rfl rfl rfl rfl (V.neA rfl rfl rfl tr23 ts22 Try.underlying22 ta22 (by kernel_rfl)) ?_
              refine J.op rfl rfl rfl (V.pkF rfl rfl rfl) ?_
              refine J.op rfl rfl rfl (V.mv rfl rfl) ?_
              refine J.split 133 rfl (fun hB47 => ?_) (fun hB47 => ?_)
              · replace h1 := B.t hB47 h1
                refine J.opOff rfl rfl rfl rfl rfl rfl ?_
                refine J.opOff rfl rfl rfl rfl rfl rfl ?_
                refine J.op rfl rfl rfl (V.pkT rfl rfl rfl) ?_
                refine J.op rfl rfl rfl (V.mv rfl rfl) ?_
                refine J.opOff rfl rfl rfl rfl rfl rfl ?_
                refine J.opOff rfl rfl rfl rfl rfl rfl ?_
                refine J.op rfl rfl rfl (V.pkT rfl rfl rfl) ?_
                refine J.op rfl rfl rfl (V.mv rfl rfl) ?_
                refine J.opOff rfl rfl rfl rfl rfl rfl ?_
                refine J.opOff rfl rfl rfl rfl rfl rfl ?_
                refine J.opOff rfl rfl rfl rfl rfl rfl ?_
                refine J.opOff rfl rfl rfl rfl rfl rfl ?_
                refine J.op rfl rfl rfl (V.pkT rfl rfl rfl) ?_
                refine J.op rfl rfl rfl (V.mv rfl rfl) ?_
                refine J.opOff rfl rfl rfl rfl rfl rfl ?_
                refine J.opOff rfl rfl rfl rfl rfl rfl ?_
                refine J.op rfl rfl rfl (V.pkT rfl rfl rfl) ?_
                refine J.op rfl rfl rfl (V.mv rfl rfl) ?_
                refine J.opOff rfl rfl rfl rfl rfl rfl ?_
                refine J.opOff rfl rfl rfl rfl rfl rfl ?_
                refine J.opOff rfl rfl rfl rfl rfl rfl ?_
                refine J.op rfl rfl rfl (V.pkT rfl rfl rfl) ?_
                refine J.nil ?_
                obtain rfl := B.e h1
                refine J.tN (J.to () trivial ?_)
                exact J.keep _ rfl (J.pickE [0, 1, 2, 3, 4, 5] rfl rfl J.here)
              · replace h1 := B.f hB47 h1
                refine J.opOn rfl rfl rfl rfl rfl (V.mv rfl rfl) ?_
                refine J.opOn rfl rfl rfl rfl rfl (V.cmp rfl rfl rfl rfl) ?_
                refine J.op rfl rfl rfl (V.pkF rfl rfl rfl) ?_
                refine J.op rfl rfl rfl (V.mv rfl rfl) ?_
                refine J.split 137 rfl (fun hB48 => ?_) (fun hB48 => ?_)
                · replace h1 := B.t hB48 h1
                  refine J.opOff rfl rfl rfl rfl rfl rfl ?_
                  refine J.opOff rfl rfl rfl rfl rfl rfl ?_
                  refine J.op rfl rfl rfl (V.pkT rfl rfl rfl) ?_
                  refine J.op rfl rfl rfl (V.mv rfl rfl) ?_
                  refine J.opOff rfl rfl rfl rfl rfl rfl ?_
                  refine J.opOff rfl rfl rfl rfl rfl rfl ?_
                  refine J.opOff rfl rfl rfl rfl rfl rfl ?_
                  refine J.opOff rfl rfl rfl rfl rfl rfl ?_
                  refine J.op rfl rfl rfl (V.pkT rfl rfl rfl) ?_
                  refine J.op rfl rfl rfl (V.mv rfl rfl) ?_
                  refine J.opOff rfl rfl rfl rfl rfl rfl ?_
                  refine J.opOff rfl rfl rfl rfl rfl rfl ?_
                  refine J.op rfl rfl rfl (V.pkT rfl rfl rfl) ?_
                  refine J.op rfl rfl rfl (V.mv rfl rfl) ?_
                  refine J.opOff rfl rfl rfl rfl rfl rfl ?_
                  refine J.opOff rfl rfl rfl rfl rfl rfl ?_
                  refine J.opOff rfl rfl rfl rfl rfl rfl ?_
                  refine J.op rfl rfl rfl (V.pkT rfl rfl rfl) ?_
                  refine J.nil ?_
                  obtain rfl := B.e h1
                  refine J.tN (J.to () trivial ?_)
                  exact J.keep _ rfl (J.pickE [0, 1, 2, 3, 4, 5] rfl rfl J.here)
                · replace h1 := B.f hB48 h1
                  refine J.opOn rfl rfl rfl rfl rfl (V.mv rfl rfl) ?_
                  refine J.opOn rfl rfl rfl rfl rfl (V.cmp rfl rfl rfl rfl) ?_
                  refine J.op rfl rfl rfl (V.pkF rfl rfl rfl) ?_
                  refine J.op rfl rfl rfl (V.mv rfl rfl) ?_
                  refine J.split 141 rfl (fun hB49 => ?_) (fun hB49 => ?_)
                  · replace h1 := B.t hB49 h1
                    refine J.opOff rfl rfl rfl rfl rfl rfl ?_
                    refine J.opOff rfl rfl rfl rfl rfl rfl ?_
                    refine J.opOff rfl rfl rfl rfl rfl rfl ?_
                    refine J.opOff rfl rfl rfl rfl rfl rfl ?_
                    refine J.op rfl rfl rfl (V.pkT rfl rfl rfl) ?_
                    refine J.op rfl rfl rfl (V.mv rfl rfl) ?_
                    refine J.opOff rfl rfl rfl rfl rfl rfl ?_
                    refine J.opOff rfl rfl rfl rfl rfl rfl ?_
                    refine J.op rfl rfl rfl (V.pkT rfl rfl rfl) ?_
                    refine J.op rfl rfl rfl (V.mv rfl rfl) ?_
                    refine J.opOff rfl rfl rfl rfl rfl rfl ?_
                    refine J.opOff rfl rfl rfl rfl rfl rfl ?_
                    refine J.opOff rfl rfl rfl rfl rfl rfl ?_
                    refine J.op rfl rfl rfl (V.pkT rfl rfl rfl) ?_
                    refine J.nil ?_
                    obtain rfl := B.e h1
                    refine J.tN (J.to () trivial ?_)
                    exact J.keep _ rfl (J.pickE [0, 1, 2, 3, 4, 5] rfl rfl J.here)
                  · replace h1 := B.f hB49 h1
                    refine J.opOn rfl rfl rfl rfl rfl (V.mv rfl rfl) ?_
                    refine J.opOn rfl rfl rfl rfl rfl (V.mv rfl rfl) ?_
                    refine J.opOn rfl rfl rfl rfl rfl (V.ar rfl rfl rfl rfl) ?_
                    refine J.opOn rfl rfl rfl rfl rfl (V.cmp rfl rfl rfl rfl) ?_
                    refine J.op rfl rfl rfl (V.pkF rfl rfl rfl) ?_
                    refine J.op rfl rfl rfl (V.mv rfl rfl) ?_
                    refine J.split 147 rfl (fun hB50 => ?_) (fun hB50 => ?_)
                    · replace h1 := B.t hB50 h1
                      refine J.opOff rfl rfl rfl rfl rfl rfl ?_
                      refine J.opOff rfl rfl rfl rfl rfl rfl ?_
                      refine J.op rfl rfl rfl (V.pkT rfl rfl rfl) ?_
                      refine J.op rfl rfl rfl (V.mv rfl rfl) ?_
                      refine J.opOff rfl rfl rfl rfl rfl rfl ?_
                      refine J.opOff rfl rfl rfl rfl rfl rfl ?_
                      refine J.opOff rfl rfl rfl rfl rfl rfl ?_
                      refine J.op rfl rfl rfl (V.pkT rfl rfl rfl) ?_
                      refine J.nil ?_
                      obtain rfl := B.e h1
                      refine J.tN (J.to () trivial ?_)
                      exact J.keep _ rfl (J.pickE [0, 1, 2, 3, 4, 5] rfl rfl J.here)
                    · replace h1 := B.f hB50 h1
                      refine J.opOn rfl rfl rfl rfl rfl (V.mv rfl rfl) ?_
                      refine J.opOn rfl rfl rfl rfl rfl (V.cmp rfl rfl rfl rfl) ?_
                      refine J.op rfl rfl rfl (V.pkF rfl rfl rfl) ?_
                      refine J.op rfl rfl rfl (V.mv rfl rfl) ?_
                      refine J.split 151 rfl (fun hB51 => ?_) (fun hB51 => ?_)
                      · replace h1 := B.t hB51 h1
                        refine J.opOff rfl rfl rfl rfl rfl rfl ?_
                        refine J.opOff rfl rfl rfl rfl rfl rfl ?_
                        refine J.opOff rfl rfl rfl rfl rfl rfl ?_
                        refine J.op rfl rfl rfl (V.pkT rfl rfl rfl) ?_
                        refine J.nil ?_
                        obtain rfl := B.e h1
                        refine J.tN (J.to () trivial ?_)
                        exact J.keep _ rfl (J.pickE [0, 1, 2, 3, 4, 5] rfl rfl J.here)
                      · replace h1 := B.f hB51 h1
                        refine J.opOn rfl rfl rfl rfl rfl (V.ldW 0 rfl rfl rfl ts35 ta35 rfl) ?_
                        refine J.opOn rfl rfl rfl rfl rfl (V.ldW 4 rfl rfl rfl ts35 ta35 rfl) ?_
                        refine J.opOn rfl rfl rfl rfl rfl (eqStN35 rfl rfl rfl) ?_
                        refine J.op rfl rfl rfl (V.pkF rfl rfl rfl) ?_
                        refine J.nil ?_
                        obtain rfl := B.e h1
                        refine J.tN (J.to () trivial ?_)
                        exact J.keep _ rfl (J.pickE [0, 1, 2, 3, 4, 5] rfl rfl J.here)
    · intro gy42 _
      refine J.cond rfl (fun hB53 => ?_) (fun hB53 => ?_)
      · replace h0 := B.t hB53 h0
        refine J.seq ?_
        refine J.region ?_
        refine J.op rfl rfl rfl (V.as rfl rfl) ?_
        refine J.nil ?_
        refine J.tN ?_
        refine J.ret ?_
        refine J.tR ?_
        obtain rfl := B.e h0
        exact J.ret1 rfl rfl fun w H => ⟨(), rfl, H.pick [] (by decide)⟩
      · replace h0 := B.f hB53 h0
        refine J.skip ?_
        refine J.tN ?_
        refine J.seq ?_
        refine J.region ?_
        refine J.op rfl rfl rfl (V.bd (l := []) (v := .agg (encA .i64 (zA 11)).toArray) rfl rfl (fun w H => by kernel_rfl)) ?_
        refine J.alloc rfl rfl rfl rfl tz40 rfl fun b54 => ?_
        refine J.stW (cs' := encA .i64 (zA 11)) 0 rfl rfl rfl rfl rfl rfl ts40 rfl (encA_one .i64 _) (encA_len _ _) (encA_len _ _) ?_
        obtain ⟨m56, em56, h0⟩ := B.lt h0
        refine J.setEnt 0 rfl (congrArg (fun q => Ent.blk _ (encA .i64 q) _) em56) ?_
        refine J.nil ?_
        refine J.tN ?_
        refine J.seq ?_
        refine J.region ?_
        refine J.op rfl rfl rfl (V.as rfl rfl) ?_
        refine J.nil ?_
        refine J.tN ?_
        refine J.seq ?_
        refine J.region ?_
        refine J.op rfl rfl rfl (V.as rfl rfl) ?_
        refine J.nil ?_
        refine J.tN ?_
        refine J.seq ?_
        refine J.seq ?_
        refine J.region ?_
        refine J.op rfl rfl rfl (V.as rfl rfl) ?_
        refine J.nil ?_
        refine J.tN ?_
        obtain ⟨o85, hy84, h0⟩ := B.bind h0
        refine J.cutQ (γ := (Int × Int × (Vector Int 11)) × (Unit)) (fun gy83 => o85 = .inl gy83.1) (fun gy83 => [(0, v0), (1, v1), (5, bp b8 0), (6, bp b13 0), (11, bp b26 0), (13, bp b31 0), (14, .int .i64 r28.2.1), (15, .int .i64 r28.2.2.1), (22, bp b54 0), (23, .int .i64 gy83.1.1), (24, .int .i64 gy83.1.2.1)]) (fun gy83 => [.blk b54 (encA .i64 gy83.1.2.2) 40, .blk b39 [.int .i8 r36.1.Reading, .int .i8 r36.1.Zone] 35, .blk b31 (encA .i64 r28.1) 40, .blk b26 (encA .i8 r23.1) 23, .blk b21 (encA .i8 r18.1) 23, .blk b13 [.int .i8 r10.Reading, .int .i8 r10.Zone] 35, .blk b8 (encA .i8 r5) 26]) ?_ ?_
        · refine J.block ?_
          refine J.loop (γ := Unit) hy84 (fun s57 g58 => [(0, v0), (1, v1), (5, bp b8 0), (6, bp b13 0), (11, bp b26 0), (13, bp b31 0), (14, .int .i64 r28.2.1), (15, .int .i64 r28.2.2.1), (17, .int .u32 r33.1), (18, .int .u32 r33.2.1), (22, bp b54 0), (23, .int .i64 s57.1), (24, .int .i64 s57.2.1), (25, .int .i64 s57.2.2.1)]) (fun s57 g58 => [.blk b54 (encA .i64 s57.2.2.2) 40, .blk b39 [.int .i8 r36.1.Reading, .int .i8 r36.1.Zone] 35, .blk b31 (encA .i64 r28.1) 40, .blk b26 (encA .i8 r23.1) 23, .blk b21 (encA .i8 r18.1) 23, .blk b13 [.int .i8 r10.Reading, .int .i8 r10.Zone] 35, .blk b8 (encA .i8 r5) 26]) () ?_ ?_
          · exact J.keep _ rfl (J.pickE [0, 1, 2, 3, 4, 5, 6] rfl rfl J.here)
          · intro rec59 s57 g58 h1
            unfold laws_FnZones.b1 at h1
            refine J.seq ?_
            refine J.seq ?_
            refine J.region ?_
            refine J.op rfl rfl rfl (V.mv rfl rfl) ?_
            refine J.op rfl rfl rfl (V.cmp rfl rfl rfl rfl) ?_
            refine J.nil ?_
            refine J.tN ?_
            refine J.cond rfl (fun hB60 => ?_) (fun hB60 => ?_)
            · replace h1 := B.t hB60 h1
              refine J.skip ?_
              refine J.tN ?_
              refine J.seq ?_
              refine J.block ?_
              refine J.seq ?_
              refine J.region ?_
              refine J.op rfl rfl rfl (V.mv rfl rfl) ?_
              obtain ⟨hC61, h1⟩ := B.chk h1
              refine J.op rfl rfl rfl (V.ixB rfl rfl rfl tr23 ts22 hC61) ?_
              refine J.op rfl rfl rfl (V.ldB 3 rfl rfl rfl Try.underlying22 ta22 (encA_get0 .i8 _ hC61)) ?_
              refine J.op rfl rfl rfl (V.conv rfl rfl Try.underlying22 Try.underlying2) ?_
              refine J.op rfl rfl rfl (V.as rfl rfl) ?_
              obtain ⟨z_62, ez_62, h1⟩ := B.lt h1
              refine J.val (congrArg (Value.int .i64) ez_62) ?_
              refine J.nil ?_
              refine J.tN ?_
              refine J.seq ?_
              refine J.seq ?_
              obtain ⟨y63, hy68, h1⟩ := B.bind h1
              replace hy68 := B.top hy68
              refine J.cut (γ := Unit) (fun _ => True) (fun gy64 => [(0, v0), (1, v1), (5, bp b8 0), (6, bp b13 0), (11, bp b26 0), (13, bp b31 0), (14, .int .i64 r28.2.1), (15, .int .i64 r28.2.2.1), (17, .int .u32 r33.1), (18, .int .u32 r33.2.1), (22, bp b54 0), (23, .int .i64 s57.1), (24, .int .i64 s57.2.1), (25, .int .i64 s57.2.2.1), (26, .int .i64 z_62), (184, .bool y63)]) (fun gy64 => [.blk b54 (encA .i64 s57.2.2.2) 40, .blk b39 [.int .i8 r36.1.Reading, .int .i8 r36.1.Zone] 35, .blk b31 (encA .i64 r28.1) 40, .blk b26 (encA .i8 r23.1) 23, .blk b21 (encA .i8 r18.1) 23, .blk b13 [.int .i8 r10.Reading, .int .i8 r10.Zone] 35, .blk b8 (encA .i8 r5) 26]) ?_ ?_
              · have h2 := hy68
                refine J.region ?_
                refine J.op rfl rfl rfl (V.mv rfl rfl) ?_
                refine J.op rfl rfl rfl (V.mv rfl rfl) ?_
                refine J.op rfl rfl rfl (V.conv rfl rfl Try.underlying3 Try.underlying48) ?_
                obtain ⟨hC65, h2⟩ := B.chk h2
                refine J.op rfl rfl rfl (V.shr rfl rfl rfl hC65) ?_
                refine J.op rfl rfl rfl (V.rem rfl rfl rfl rfl) ?_
                refine J.op rfl rfl rfl (V.cmp rfl rfl rfl rfl) ?_
                refine J.op rfl rfl rfl (V.mv rfl rfl) ?_
                refine J.op rfl rfl rfl (V.cmp rfl rfl rfl rfl) ?_
                refine J.op rfl rfl rfl (V.neB rfl rfl rfl Try.underlying4) ?_
                refine J.op rfl rfl rfl (V.mv rfl rfl) ?_
                refine J.split 174 rfl (fun hB66 => ?_) (fun hB66 => ?_)
                · replace h2 := B.t hB66 h2
                  refine J.opOff rfl rfl rfl rfl rfl rfl ?_
                  refine J.opOff rfl rfl rfl rfl rfl rfl ?_
                  refine J.opOff rfl rfl rfl rfl rfl rfl ?_
                  refine J.opOff rfl rfl rfl rfl rfl rfl ?_
                  refine J.opOff rfl rfl rfl rfl rfl rfl ?_
                  refine J.opOff rfl rfl rfl rfl rfl rfl ?_
                  refine J.opOff rfl rfl rfl rfl rfl rfl ?_
                  refine J.opOff rfl rfl rfl rfl rfl rfl ?_
                  refine J.opOff rfl rfl rfl rfl rfl rfl ?_
                  refine J.op rfl rfl rfl (V.pkT rfl rfl rfl) ?_
                  refine J.nil ?_
                  obtain rfl := B.e h2
                  refine J.tN (J.to () trivial ?_)
                  exact J.keep _ rfl (J.pickE [0, 1, 2, 3, 4, 5, 6] rfl rfl J.here)
                · replace h2 := B.f hB66 h2
                  refine J.opOn rfl rfl rfl rfl rfl (V.mv rfl rfl) ?_
                  refine J.opOn rfl rfl rfl rfl rfl (V.mv rfl rfl) ?_
                  refine J.opOn rfl rfl rfl rfl rfl (V.conv rfl rfl Try.underlying3 Try.underlying48) ?_
                  obtain ⟨hC67, h2⟩ := B.chk h2
                  refine J.opOn rfl rfl rfl rfl rfl (V.shr rfl rfl rfl hC67) ?_
                  refine J.opOn rfl rfl rfl rfl rfl (V.rem rfl rfl rfl rfl) ?_
                  refine J.opOn rfl rfl rfl rfl rfl (V.cmp rfl rfl rfl rfl) ?_
                  refine J.opOn rfl rfl rfl rfl rfl (V.mv rfl rfl) ?_
                  refine J.opOn rfl rfl rfl rfl rfl (V.cmp rfl rfl rfl rfl) ?_
                  refine J.opOn rfl rfl rfl rfl rfl (V.neB rfl rfl rfl Try.underlying4) ?_
                  refine J.op rfl rfl rfl (V.pkF rfl rfl rfl) ?_
                  refine J.nil ?_
                  obtain rfl := B.e h2
                  refine J.tN (J.to () trivial ?_)
                  exact J.keep _ rfl (J.pickE [0, 1, 2, 3, 4, 5, 6] rfl rfl J.here)
              · intro gy64 _
                refine J.cond rfl (fun hB69 => ?_) (fun hB69 => ?_)
                · replace h1 := B.t hB69 h1
                  refine J.seq ?_
                  refine J.region ?_
                  refine J.op rfl rfl rfl (V.as rfl rfl) ?_
                  refine J.nil ?_
                  refine J.tN ?_
                  refine J.ret ?_
                  refine J.tR ?_
                  refine J.bR ?_
                  refine J.tR ?_
                  refine J.tR ?_
                  refine J.bR ?_
                  refine J.tR ?_
                  refine J.tR ?_
                  obtain rfl := B.d h1
                  replace h0 := B.inr h0
                  obtain rfl := B.e h0
                  exact J.ret1 rfl rfl fun w H => ⟨(), rfl, H.pick [] (by decide)⟩
                · replace h1 := B.f hB69 h1
                  refine J.skip ?_
                  refine J.tN ?_
                  refine J.block ?_
                  refine J.seq ?_
                  refine J.region ?_
                  refine J.op rfl rfl rfl (V.mv rfl rfl) ?_
                  refine J.op rfl rfl rfl (V.cmp rfl rfl rfl rfl) ?_
                  refine J.op rfl rfl rfl (V.as rfl rfl) ?_
                  obtain ⟨t70, et70, h1⟩ := B.lt h1
                  refine J.val (congrArg (Value.bool) et70) ?_
                  refine J.nil ?_
                  refine J.tN ?_
                  refine J.cond rfl (fun hB71 => ?_) (fun hB71 => ?_)
                  · replace h1 := B.t hB71 h1
                    refine J.region ?_
                    refine J.op rfl rfl rfl (V.mv rfl rfl) ?_
                    refine J.op rfl rfl rfl (V.ar rfl rfl rfl rfl) ?_
                    refine J.op rfl rfl rfl (V.as rfl rfl) ?_
                    obtain ⟨none_72, enone_72, h1⟩ := B.lt h1
                    refine J.val (congrArg (Value.int .i64) enone_72) ?_
                    refine J.nil ?_
                    refine J.bN ?_
                    refine J.bN ?_
                    refine J.tN ?_
                    refine J.region ?_
                    refine J.op rfl rfl rfl (V.mv rfl rfl) ?_
                    refine J.op rfl rfl rfl (V.ar rfl rfl rfl rfl) ?_
                    refine J.op rfl rfl rfl (V.as rfl rfl) ?_
                    obtain ⟨i_73, ei_73, h1⟩ := B.lt h1
                    refine J.val (congrArg (Value.int .i64) ei_73) ?_
                    refine J.nil ?_
                    refine J.tN (J.next (none_72, s57.2.1, i_73, s57.2.2.2) () (B.n h1) ?_)
                    exact J.keep _ rfl (J.pickE [0, 1, 2, 3, 4, 5, 6] rfl rfl J.here)
                  · replace h1 := B.f hB71 h1
                    refine J.seq ?_
                    refine J.region ?_
                    refine J.op rfl rfl rfl (V.mv rfl rfl) ?_
                    refine J.op rfl rfl rfl (V.cmp rfl rfl rfl rfl) ?_
                    refine J.op rfl rfl rfl (V.as rfl rfl) ?_
                    obtain ⟨t74, et74, h1⟩ := B.lt h1
                    refine J.val (congrArg (Value.bool) et74) ?_
                    refine J.nil ?_
                    refine J.tN ?_
                    refine J.cond rfl (fun hB75 => ?_) (fun hB75 => ?_)
                    · replace h1 := B.t hB75 h1
                      refine J.region ?_
                      refine J.op rfl rfl rfl (V.mv rfl rfl) ?_
                      refine J.op rfl rfl rfl (V.ar rfl rfl rfl rfl) ?_
                      refine J.op rfl rfl rfl (V.as rfl rfl) ?_
                      obtain ⟨over_76, eover_76, h1⟩ := B.lt h1
                      refine J.val (congrArg (Value.int .i64) eover_76) ?_
                      refine J.nil ?_
                      refine J.bN ?_
                      refine J.bN ?_
                      refine J.tN ?_
                      refine J.region ?_
                      refine J.op rfl rfl rfl (V.mv rfl rfl) ?_
                      refine J.op rfl rfl rfl (V.ar rfl rfl rfl rfl) ?_
                      refine J.op rfl rfl rfl (V.as rfl rfl) ?_
                      obtain ⟨i_77, ei_77, h1⟩ := B.lt h1
                      refine J.val (congrArg (Value.int .i64) ei_77) ?_
                      refine J.nil ?_
                      refine J.tN (J.next (s57.1, over_76, i_77, s57.2.2.2) () (B.n h1) ?_)
                      exact J.keep _ rfl (J.pickE [0, 1, 2, 3, 4, 5, 6] rfl rfl J.here)
                    · replace h1 := B.f hB75 h1
                      refine J.region ?_
                      refine J.op rfl rfl rfl (V.mv rfl rfl) ?_
                      obtain ⟨hC78, h1⟩ := B.chk h1
                      refine J.op rfl rfl rfl (V.ixB rfl rfl rfl tr40 ts2 hC78) ?_
                      refine J.op rfl rfl rfl (V.ldB 0 rfl rfl rfl Try.underlying2 ta2 (encA_get0 .i64 _ hC78)) ?_
                      refine J.op rfl rfl rfl (V.ar rfl rfl rfl rfl) ?_
                      obtain ⟨hC79, h1⟩ := B.chk h1
                      refine J.op rfl rfl rfl (V.ixB rfl rfl rfl tr40 ts2 hC79) ?_
                      refine J.stB 0 rfl rfl rfl rfl rfl rfl ts2 (fun _ _ => rfl) (encA_lt .i64 _ hC79) ?_
                      refine J.setEnt 0 rfl (congrArg (fun q => Ent.blk _ q _) (encA_set .i64 _ _ _)) ?_
                      obtain ⟨m80, em80, h1⟩ := B.lt h1
                      refine J.setEnt 0 rfl (congrArg (fun q => Ent.blk _ (encA .i64 q) _) em80) ?_
                      refine J.nil ?_
                      refine J.bN ?_
                      refine J.bN ?_
                      refine J.tN ?_
                      refine J.region ?_
                      refine J.op rfl rfl rfl (V.mv rfl rfl) ?_
                      refine J.op rfl rfl rfl (V.ar rfl rfl rfl rfl) ?_
                      refine J.op rfl rfl rfl (V.as rfl rfl) ?_
                      obtain ⟨i_81, ei_81, h1⟩ := B.lt h1
                      refine J.val (congrArg (Value.int .i64) ei_81) ?_
                      refine J.nil ?_
                      refine J.tN (J.next (s57.1, s57.2.1, i_81, m80) () (B.n h1) ?_)
                      exact J.keep _ rfl (J.pickE [0, 1, 2, 3, 4, 5, 6] rfl rfl J.here)
            · replace h1 := B.f hB60 h1
              refine J.exit ?_
              refine J.tE ?_
              refine J.tE ?_
              refine J.bE ?_
              obtain rfl := B.d h1
              refine J.tN (J.to ((s57.1, s57.2.1, s57.2.2.2), ()) rfl ?_)
              exact J.keep _ rfl (J.pickE [0, 1, 2, 3, 4, 5, 6] rfl rfl J.here)
        · intro gy83 hG
          replace h0 := B.inl hG h0
          refine J.tN ?_
          refine J.seq ?_
          refine J.seq ?_
          obtain ⟨y86, hy90, h0⟩ := B.bind h0
          replace hy90 := B.top hy90
          refine J.cut (γ := Unit) (fun _ => True) (fun gy87 => [(0, v0), (1, v1), (5, bp b8 0), (6, bp b13 0), (11, bp b26 0), (212, .bool y86)]) (fun gy87 => [.blk b54 (encA .i64 gy83.1.2.2) 40, .blk b39 [.int .i8 r36.1.Reading, .int .i8 r36.1.Zone] 35, .blk b31 (encA .i64 r28.1) 40, .blk b26 (encA .i8 r23.1) 23, .blk b21 (encA .i8 r18.1) 23, .blk b13 [.int .i8 r10.Reading, .int .i8 r10.Zone] 35, .blk b8 (encA .i8 r5) 26]) ?_ ?_
          · have h1 := hy90
            refine J.region ?_
            refine J.op rfl rfl rfl (V.ldW 0 rfl rfl rfl ts40 ta40 (encA_len _ _)) ?_
            refine J.op rfl rfl rfl (V.ldW 2 rfl rfl rfl ts40 ta40 (encA_len _ _)) ?_
            refine J.op rfl rfl rfl (V.neA rfl rfl rfl tr40 ts2 Try.underlying2 ta2 (by kernel_rfl)) ?_
            refine J.op rfl rfl rfl (V.mv rfl rfl) ?_
            refine J.split 203 rfl (fun hB88 => ?_) (fun hB88 => ?_)
            · replace h1 := B.t hB88 h1
              refine J.opOff rfl rfl rfl rfl rfl rfl ?_
              refine J.opOff rfl rfl rfl rfl rfl rfl ?_
              refine J.opOff rfl rfl rfl rfl rfl rfl ?_
              refine J.op rfl rfl rfl (V.pkT rfl rfl rfl) ?_
              refine J.op rfl rfl rfl (V.mv rfl rfl) ?_
              refine J.opOff rfl rfl rfl rfl rfl rfl ?_
              refine J.opOff rfl rfl rfl rfl rfl rfl ?_
              refine J.opOff rfl rfl rfl rfl rfl rfl ?_
              refine J.op rfl rfl rfl (V.pkT rfl rfl rfl) ?_
              refine J.nil ?_
              obtain rfl := B.e h1
              refine J.tN (J.to () trivial ?_)
              exact J.keep _ rfl (J.pickE [0, 1, 2, 3, 4, 5, 6] rfl rfl J.here)
            · replace h1 := B.f hB88 h1
              refine J.opOn rfl rfl rfl rfl rfl (V.mv rfl rfl) ?_
              refine J.opOn rfl rfl rfl rfl rfl (V.mv rfl rfl) ?_
              refine J.opOn rfl rfl rfl rfl rfl (V.cmp rfl rfl rfl rfl) ?_
              refine J.op rfl rfl rfl (V.pkF rfl rfl rfl) ?_
              refine J.op rfl rfl rfl (V.mv rfl rfl) ?_
              refine J.split 208 rfl (fun hB89 => ?_) (fun hB89 => ?_)
              · replace h1 := B.t hB89 h1
                refine J.opOff rfl rfl rfl rfl rfl rfl ?_
                refine J.opOff rfl rfl rfl rfl rfl rfl ?_
                refine J.opOff rfl rfl rfl rfl rfl rfl ?_
                refine J.op rfl rfl rfl (V.pkT rfl rfl rfl) ?_
                refine J.nil ?_
                obtain rfl := B.e h1
                refine J.tN (J.to () trivial ?_)
                exact J.keep _ rfl (J.pickE [0, 1, 2, 3, 4, 5, 6] rfl rfl J.here)
              · replace h1 := B.f hB89 h1
                refine J.opOn rfl rfl rfl rfl rfl (V.mv rfl rfl) ?_
                refine J.opOn rfl rfl rfl rfl rfl (V.mv rfl rfl) ?_
                refine J.opOn rfl rfl rfl rfl rfl (V.cmp rfl rfl rfl rfl) ?_
                refine J.op rfl rfl rfl (V.pkF rfl rfl rfl) ?_
                refine J.nil ?_
                obtain rfl := B.e h1
                refine J.tN (J.to () trivial ?_)
                exact J.keep _ rfl (J.pickE [0, 1, 2, 3, 4, 5, 6] rfl rfl J.here)
          · intro gy87 _
            refine J.cond rfl (fun hB91 => ?_) (fun hB91 => ?_)
            · replace h0 := B.t hB91 h0
              refine J.seq ?_
              refine J.region ?_
              refine J.op rfl rfl rfl (V.as rfl rfl) ?_
              refine J.nil ?_
              refine J.tN ?_
              refine J.ret ?_
              refine J.tR ?_
              obtain rfl := B.e h0
              exact J.ret1 rfl rfl fun w H => ⟨(), rfl, H.pick [] (by decide)⟩
            · replace h0 := B.f hB91 h0
              refine J.skip ?_
              refine J.tN ?_
              refine J.seq ?_
              refine J.seq ?_
              refine J.region ?_
              refine J.op rfl rfl rfl (V.as rfl rfl) ?_
              refine J.nil ?_
              refine J.tN ?_
              obtain ⟨o118, hy117, h0⟩ := B.bind h0
              refine J.cutQ (γ := (Unit) × (Unit)) (fun gy116 => o118 = .inl gy116.1) (fun gy116 => [(0, v0), (1, v1), (5, bp b8 0), (6, bp b13 0), (11, bp b26 0)]) (fun gy116 => [.blk b54 (encA .i64 gy83.1.2.2) 40, .blk b39 [.int .i8 r36.1.Reading, .int .i8 r36.1.Zone] 35, .blk b31 (encA .i64 r28.1) 40, .blk b26 (encA .i8 r23.1) 23, .blk b21 (encA .i8 r18.1) 23, .blk b13 [.int .i8 r10.Reading, .int .i8 r10.Zone] 35, .blk b8 (encA .i8 r5) 26]) ?_ ?_
              · refine J.block ?_
                refine J.loop (γ := Unit) hy117 (fun s92 g93 => [(0, v0), (1, v1), (5, bp b8 0), (6, bp b13 0), (11, bp b26 0), (27, .int .i64 s92)]) (fun s92 g93 => [.blk b54 (encA .i64 gy83.1.2.2) 40, .blk b39 [.int .i8 r36.1.Reading, .int .i8 r36.1.Zone] 35, .blk b31 (encA .i64 r28.1) 40, .blk b26 (encA .i8 r23.1) 23, .blk b21 (encA .i8 r18.1) 23, .blk b13 [.int .i8 r10.Reading, .int .i8 r10.Zone] 35, .blk b8 (encA .i8 r5) 26]) () ?_ ?_
                · exact J.keep _ rfl (J.pickE [0, 1, 2, 3, 4, 5, 6] rfl rfl J.here)
                · intro rec94 s92 g93 h1
                  unfold laws_FnZones.b2 at h1
                  refine J.seq ?_
                  refine J.seq ?_
                  refine J.region ?_
                  refine J.op rfl rfl rfl (V.mv rfl rfl) ?_
                  refine J.op rfl rfl rfl (V.cmp rfl rfl rfl rfl) ?_
                  refine J.nil ?_
                  refine J.tN ?_
                  refine J.cond rfl (fun hB95 => ?_) (fun hB95 => ?_)
                  · replace h1 := B.t hB95 h1
                    refine J.skip ?_
                    refine J.tN ?_
                    refine J.seq ?_
                    refine J.block ?_
                    refine J.seq ?_
                    refine J.region ?_
                    refine J.op rfl rfl rfl (V.ldW 5 rfl rfl rfl ts35 ta35 rfl) ?_
                    refine J.op rfl rfl rfl (V.mv rfl rfl) ?_
                    obtain ⟨r96, hr97, h1⟩ := B.bind h1
                    refine J.cl (l := [.tmp 218, .tmp 219]) [] [.blk b54 (encA .i64 gy83.1.2.2) 40, .blk b39 [.int .i8 r36.1.Reading, .int .i8 r36.1.Zone] 35, .blk b31 (encA .i64 r28.1) 40, .blk b26 (encA .i8 r23.1) 23, .blk b21 (encA .i8 r18.1) 23, .blk b13 [.int .i8 r10.Reading, .int .i8 r10.Zone] 35, .blk b8 (encA .i8 r5) 26] cf14 (wN rfl) rfl rfl rfl rfl rfl rfl (by simp) (fun w H => impl_ZoneOf.calls (⟨r10.Reading, r10.Zone⟩ : impl_Placement) s92 r96 w (Own.refl w)  hr97) fun g98 => ?_
                    refine J.op rfl rfl rfl (V.mv rfl rfl) ?_
                    refine J.op rfl rfl rfl (V.ex rfl rfl rfl) ?_
                    refine J.op rfl rfl rfl (V.ex rfl rfl rfl) ?_
                    refine J.op rfl rfl rfl (V.as rfl rfl) ?_
                    refine J.op rfl rfl rfl (V.as rfl rfl) ?_
                    refine J.nil ?_
                    refine J.tN ?_
                    refine J.seq ?_
                    refine J.region ?_
                    refine J.op rfl rfl rfl (V.ldW 5 rfl rfl rfl ts35 ta35 rfl) ?_
                    refine J.op rfl rfl rfl (V.mv rfl rfl) ?_
                    refine J.op rfl rfl rfl (V.ar rfl rfl rfl rfl) ?_
                    obtain ⟨r99, hr100, h1⟩ := B.bind h1
                    refine J.cl (l := [.tmp 224, .tmp 226]) [] [.blk b54 (encA .i64 gy83.1.2.2) 40, .blk b39 [.int .i8 r36.1.Reading, .int .i8 r36.1.Zone] 35, .blk b31 (encA .i64 r28.1) 40, .blk b26 (encA .i8 r23.1) 23, .blk b21 (encA .i8 r18.1) 23, .blk b13 [.int .i8 r10.Reading, .int .i8 r10.Zone] 35, .blk b8 (encA .i8 r5) 26] cf14 (wN rfl) rfl rfl rfl rfl rfl rfl (by simp) (fun w H => impl_ZoneOf.calls (⟨r10.Reading, r10.Zone⟩ : impl_Placement) (IntKind.wrap .i64 (s92 + 3)) r99 w (Own.refl w)  hr100) fun g101 => ?_
                    refine J.op rfl rfl rfl (V.mv rfl rfl) ?_
                    refine J.op rfl rfl rfl (V.ex rfl rfl rfl) ?_
                    refine J.op rfl rfl rfl (V.ex rfl rfl rfl) ?_
                    refine J.op rfl rfl rfl (V.as rfl rfl) ?_
                    refine J.op rfl rfl rfl (V.as rfl rfl) ?_
                    refine J.nil ?_
                    refine J.tN ?_
                    refine J.seq ?_
                    refine J.region ?_
                    refine J.op rfl rfl rfl (V.ldW 5 rfl rfl rfl ts35 ta35 rfl) ?_
                    refine J.op rfl rfl rfl (V.mv rfl rfl) ?_
                    refine J.op rfl rfl rfl (V.ar rfl rfl rfl rfl) ?_
                    obtain ⟨r102, hr103, h1⟩ := B.bind h1
                    refine J.cl (l := [.tmp 231, .tmp 233]) [] [.blk b54 (encA .i64 gy83.1.2.2) 40, .blk b39 [.int .i8 r36.1.Reading, .int .i8 r36.1.Zone] 35, .blk b31 (encA .i64 r28.1) 40, .blk b26 (encA .i8 r23.1) 23, .blk b21 (encA .i8 r18.1) 23, .blk b13 [.int .i8 r10.Reading, .int .i8 r10.Zone] 35, .blk b8 (encA .i8 r5) 26] cf14 (wN rfl) rfl rfl rfl rfl rfl rfl (by simp) (fun w H => impl_ZoneOf.calls (⟨r10.Reading, r10.Zone⟩ : impl_Placement) (IntKind.wrap .i64 (s92 + 1)) r102 w (Own.refl w)  hr103) fun g104 => ?_
                    refine J.op rfl rfl rfl (V.mv rfl rfl) ?_
                    refine J.op rfl rfl rfl (V.ex rfl rfl rfl) ?_
                    refine J.op rfl rfl rfl (V.ex rfl rfl rfl) ?_
                    refine J.op rfl rfl rfl (V.as rfl rfl) ?_
                    refine J.op rfl rfl rfl (V.as rfl rfl) ?_
                    refine J.nil ?_
                    refine J.tN ?_
                    refine J.seq ?_
                    obtain ⟨y105, hy112, h1⟩ := B.bind h1
                    replace hy112 := B.top hy112
                    refine J.cut (γ := Unit) (fun _ => True) (fun gy106 => [(0, v0), (1, v1), (5, bp b8 0), (6, bp b13 0), (11, bp b26 0), (27, .int .i64 s92), (263, .bool y105)]) (fun gy106 => [.blk b54 (encA .i64 gy83.1.2.2) 40, .blk b39 [.int .i8 r36.1.Reading, .int .i8 r36.1.Zone] 35, .blk b31 (encA .i64 r28.1) 40, .blk b26 (encA .i8 r23.1) 23, .blk b21 (encA .i8 r18.1) 23, .blk b13 [.int .i8 r10.Reading, .int .i8 r10.Zone] 35, .blk b8 (encA .i8 r5) 26]) ?_ ?_
                    · have h2 := hy112
                      refine J.region ?_
                      refine J.op rfl rfl rfl (V.mv rfl rfl) ?_
                      refine J.op rfl rfl rfl (V.cmp rfl rfl rfl rfl) ?_
                      refine J.op rfl rfl rfl (V.mv rfl rfl) ?_
                      refine J.split 239 rfl (fun hB107 => ?_) (fun hB107 => ?_)
                      · replace h2 := B.t hB107 h2
                        refine J.opOff rfl rfl rfl rfl rfl rfl ?_
                        refine J.opOff rfl rfl rfl rfl rfl rfl ?_
                        refine J.op rfl rfl rfl (V.pkT rfl rfl rfl) ?_
                        refine J.op rfl rfl rfl (V.mv rfl rfl) ?_
                        refine J.opOff rfl rfl rfl rfl rfl rfl ?_
                        refine J.opOff rfl rfl rfl rfl rfl rfl ?_
                        refine J.opOff rfl rfl rfl rfl rfl rfl ?_
                        refine J.opOff rfl rfl rfl rfl rfl rfl ?_
                        refine J.op rfl rfl rfl (V.pkT rfl rfl rfl) ?_
                        refine J.op rfl rfl rfl (V.mv rfl rfl) ?_
                        refine J.opOff rfl rfl rfl rfl rfl rfl ?_
                        refine J.opOff rfl rfl rfl rfl rfl rfl ?_
                        refine J.op rfl rfl rfl (V.pkT rfl rfl rfl) ?_
                        refine J.op rfl rfl rfl (V.mv rfl rfl) ?_
                        refine J.opOff rfl rfl rfl rfl rfl rfl ?_
                        refine J.opOff rfl rfl rfl rfl rfl rfl ?_
                        refine J.opOff rfl rfl rfl rfl rfl rfl ?_
                        refine J.op rfl rfl rfl (V.pkT rfl rfl rfl) ?_
                        refine J.op rfl rfl rfl (V.mv rfl rfl) ?_
                        refine J.opOff rfl rfl rfl rfl rfl rfl ?_
                        refine J.opOff rfl rfl rfl rfl rfl rfl ?_
                        refine J.opOff rfl rfl rfl rfl rfl rfl ?_
                        refine J.opOff rfl rfl rfl rfl rfl rfl ?_
                        refine J.op rfl rfl rfl (V.pkT rfl rfl rfl) ?_
                        refine J.nil ?_
                        obtain rfl := B.e h2
                        refine J.tN (J.to () trivial ?_)
                        exact J.keep _ rfl (J.pickE [0, 1, 2, 3, 4, 5, 6] rfl rfl J.here)
                      · replace h2 := B.f hB107 h2
                        refine J.opOn rfl rfl rfl rfl rfl (V.mv rfl rfl) ?_
                        refine J.opOn rfl rfl rfl rfl rfl (V.cmp rfl rfl rfl rfl) ?_
                        refine J.op rfl rfl rfl (V.pkF rfl rfl rfl) ?_
                        refine J.op rfl rfl rfl (V.mv rfl rfl) ?_
                        refine J.split 243 rfl (fun hB108 => ?_) (fun hB108 => ?_)
                        · replace h2 := B.t hB108 h2
                          refine J.opOff rfl rfl rfl rfl rfl rfl ?_
                          refine J.opOff rfl rfl rfl rfl rfl rfl ?_
                          refine J.opOff rfl rfl rfl rfl rfl rfl ?_
                          refine J.opOff rfl rfl rfl rfl rfl rfl ?_
                          refine J.op rfl rfl rfl (V.pkT rfl rfl rfl) ?_
                          refine J.op rfl rfl rfl (V.mv rfl rfl) ?_
                          refine J.opOff rfl rfl rfl rfl rfl rfl ?_
                          refine J.opOff rfl rfl rfl rfl rfl rfl ?_
                          refine J.op rfl rfl rfl (V.pkT rfl rfl rfl) ?_
                          refine J.op rfl rfl rfl (V.mv rfl rfl) ?_
                          refine J.opOff rfl rfl rfl rfl rfl rfl ?_
                          refine J.opOff rfl rfl rfl rfl rfl rfl ?_
                          refine J.opOff rfl rfl rfl rfl rfl rfl ?_
                          refine J.op rfl rfl rfl (V.pkT rfl rfl rfl) ?_
                          refine J.op rfl rfl rfl (V.mv rfl rfl) ?_
                          refine J.opOff rfl rfl rfl rfl rfl rfl ?_
                          refine J.opOff rfl rfl rfl rfl rfl rfl ?_
                          refine J.opOff rfl rfl rfl rfl rfl rfl ?_
                          refine J.opOff rfl rfl rfl rfl rfl rfl ?_
                          refine J.op rfl rfl rfl (V.pkT rfl rfl rfl) ?_
                          refine J.nil ?_
                          obtain rfl := B.e h2
                          refine J.tN (J.to () trivial ?_)
                          exact J.keep _ rfl (J.pickE [0, 1, 2, 3, 4, 5, 6] rfl rfl J.here)
                        · replace h2 := B.f hB108 h2
                          refine J.opOn rfl rfl rfl rfl rfl (V.mv rfl rfl) ?_
                          refine J.opOn rfl rfl rfl rfl rfl (V.mv rfl rfl) ?_
                          refine J.opOn rfl rfl rfl rfl rfl (V.ar rfl rfl rfl rfl) ?_
                          refine J.opOn rfl rfl rfl rfl rfl (V.cmp rfl rfl rfl rfl) ?_
                          refine J.op rfl rfl rfl (V.pkF rfl rfl rfl) ?_
                          refine J.op rfl rfl rfl (V.mv rfl rfl) ?_
                          refine J.split 249 rfl (fun hB109 => ?_) (fun hB109 => ?_)
                          · replace h2 := B.t hB109 h2
                            refine J.opOff rfl rfl rfl rfl rfl rfl ?_
                            refine J.opOff rfl rfl rfl rfl rfl rfl ?_
                            refine J.op rfl rfl rfl (V.pkT rfl rfl rfl) ?_
                            refine J.op rfl rfl rfl (V.mv rfl rfl) ?_
                            refine J.opOff rfl rfl rfl rfl rfl rfl ?_
                            refine J.opOff rfl rfl rfl rfl rfl rfl ?_
                            refine J.opOff rfl rfl rfl rfl rfl rfl ?_
                            refine J.op rfl rfl rfl (V.pkT rfl rfl rfl) ?_
                            refine J.op rfl rfl rfl (V.mv rfl rfl) ?_
                            refine J.opOff rfl rfl rfl rfl rfl rfl ?_
                            refine J.opOff rfl rfl rfl rfl rfl rfl ?_
                            refine J.opOff rfl rfl rfl rfl rfl rfl ?_
                            refine J.opOff rfl rfl rfl rfl rfl rfl ?_
                            refine J.op rfl rfl rfl (V.pkT rfl rfl rfl) ?_
                            refine J.nil ?_
                            obtain rfl := B.e h2
                            refine J.tN (J.to () trivial ?_)
                            exact J.keep _ rfl (J.pickE [0, 1, 2, 3, 4, 5, 6] rfl rfl J.here)
                          · replace h2 := B.f hB109 h2
                            refine J.opOn rfl rfl rfl rfl rfl (V.mv rfl rfl) ?_
                            refine J.opOn rfl rfl rfl rfl rfl (V.cmp rfl rfl rfl rfl) ?_
                            refine J.op rfl rfl rfl (V.pkF rfl rfl rfl) ?_
                            refine J.op rfl rfl rfl (V.mv rfl rfl) ?_
                            refine J.split 253 rfl (fun hB110 => ?_) (fun hB110 => ?_)
                            · replace h2 := B.t hB110 h2
                              refine J.opOff rfl rfl rfl rfl rfl rfl ?_
                              refine J.opOff rfl rfl rfl rfl rfl rfl ?_
                              refine J.opOff rfl rfl rfl rfl rfl rfl ?_
                              refine J.op rfl rfl rfl (V.pkT rfl rfl rfl) ?_
                              refine J.op rfl rfl rfl (V.mv rfl rfl) ?_
                              refine J.opOff rfl rfl rfl rfl rfl rfl ?_
                              refine J.opOff rfl rfl rfl rfl rfl rfl ?_
                              refine J.opOff rfl rfl rfl rfl rfl rfl ?_
                              refine J.opOff rfl rfl rfl rfl rfl rfl ?_
                              refine J.op rfl rfl rfl (V.pkT rfl rfl rfl) ?_
                              refine J.nil ?_
                              obtain rfl := B.e h2
                              refine J.tN (J.to () trivial ?_)
                              exact J.keep _ rfl (J.pickE [0, 1, 2, 3, 4, 5, 6] rfl rfl J.here)
                            · replace h2 := B.f hB110 h2
                              refine J.opOn rfl rfl rfl rfl rfl (V.mv rfl rfl) ?_
                              refine J.opOn rfl rfl rfl rfl rfl (V.mv rfl rfl) ?_
                              refine J.opOn rfl rfl rfl rfl rfl (V.cmp rfl rfl rfl rfl) ?_
                              refine J.op rfl rfl rfl (V.pkF rfl rfl rfl) ?_
                              refine J.op rfl rfl rfl (V.mv rfl rfl) ?_
                              refine J.split 258 rfl (fun hB111 => ?_) (fun hB111 => ?_)
                              · replace h2 := B.t hB111 h2
                                refine J.opOff rfl rfl rfl rfl rfl rfl ?_
                                refine J.opOff rfl rfl rfl rfl rfl rfl ?_
                                refine J.opOff rfl rfl rfl rfl rfl rfl ?_
                                refine J.opOff rfl rfl rfl rfl rfl rfl ?_
                                refine J.op rfl rfl rfl (V.pkT rfl rfl rfl) ?_
                                refine J.nil ?_
                                obtain rfl := B.e h2
                                refine J.tN (J.to () trivial ?_)
                                exact J.keep _ rfl (J.pickE [0, 1, 2, 3, 4, 5, 6] rfl rfl J.here)
                              · replace h2 := B.f hB111 h2
                                refine J.opOn rfl rfl rfl rfl rfl (V.mv rfl rfl) ?_
                                refine J.opOn rfl rfl rfl rfl rfl (V.mv rfl rfl) ?_
                                refine J.opOn rfl rfl rfl rfl rfl (V.ar rfl rfl rfl rfl) ?_
                                refine J.opOn rfl rfl rfl rfl rfl (V.cmp rfl rfl rfl rfl) ?_
                                refine J.op rfl rfl rfl (V.pkF rfl rfl rfl) ?_
                                refine J.nil ?_
                                obtain rfl := B.e h2
                                refine J.tN (J.to () trivial ?_)
                                exact J.keep _ rfl (J.pickE [0, 1, 2, 3, 4, 5, 6] rfl rfl J.here)
                    · intro gy106 _
                      refine J.cond rfl (fun hB113 => ?_) (fun hB113 => ?_)
                      · replace h1 := B.t hB113 h1
                        refine J.seq ?_
                        refine J.region ?_
                        refine J.op rfl rfl rfl (V.as rfl rfl) ?_
                        refine J.nil ?_
                        refine J.tN ?_
                        refine J.ret ?_
                        refine J.bR ?_
                        refine J.tR ?_
                        refine J.tR ?_
                        refine J.bR ?_
                        refine J.tR ?_
                        refine J.tR ?_
                        obtain rfl := B.d h1
                        replace h0 := B.inr h0
                        obtain rfl := B.e h0
                        exact J.ret1 rfl rfl fun w H => ⟨(), rfl, H.pick [] (by decide)⟩
                      · replace h1 := B.f hB113 h1
                        refine J.skip ?_
                        refine J.bN ?_
                        refine J.tN ?_
                        refine J.region ?_
                        refine J.op rfl rfl rfl (V.mv rfl rfl) ?_
                        refine J.op rfl rfl rfl (V.ar rfl rfl rfl rfl) ?_
                        refine J.op rfl rfl rfl (V.as rfl rfl) ?_
                        obtain ⟨r_114, er_114, h1⟩ := B.lt h1
                        refine J.val (congrArg (Value.int .i64) er_114) ?_
                        refine J.nil ?_
                        refine J.tN (J.next r_114 () (B.n h1) ?_)
                        exact J.keep _ rfl (J.pickE [0, 1, 2, 3, 4, 5, 6] rfl rfl J.here)
                  · replace h1 := B.f hB95 h1
                    refine J.exit ?_
                    refine J.tE ?_
                    refine J.tE ?_
                    refine J.bE ?_
                    obtain rfl := B.d h1
                    refine J.tN (J.to ((), ()) rfl ?_)
                    exact J.keep _ rfl (J.pickE [0, 1, 2, 3, 4, 5, 6] rfl rfl J.here)
              · intro gy116 hG
                replace h0 := B.inl hG h0
                refine J.tN ?_
                refine J.seq ?_
                refine J.region ?_
                refine J.op rfl rfl rfl (V.ldW 6 rfl rfl rfl ts26 ta26 (encA_len _ _)) ?_
                obtain ⟨r119, hr120, h0⟩ := B.bind h0
                refine J.cl (l := [.tmp 265]) [] [.blk b54 (encA .i64 gy83.1.2.2) 40, .blk b39 [.int .i8 r36.1.Reading, .int .i8 r36.1.Zone] 35, .blk b31 (encA .i64 r28.1) 40, .blk b26 (encA .i8 r23.1) 23, .blk b21 (encA .i8 r18.1) 23, .blk b13 [.int .i8 r10.Reading, .int .i8 r10.Zone] 35, .blk b8 (encA .i8 r5) 26] cf20 (wN rfl) rfl rfl rfl rfl rfl rfl (by simp) (fun w H => impl_BestPlacement.calls r5 r119 w (Own.refl w)  hr120) fun g121 => ?_
                refine J.op rfl rfl rfl (V.mv rfl rfl) ?_
                refine J.op rfl rfl rfl (V.ex rfl rfl rfl) ?_
                refine J.op rfl rfl rfl (V.ex rfl rfl rfl) ?_
                refine J.op rfl rfl rfl (V.ex rfl rfl rfl) ?_
                refine J.alloc rfl rfl rfl rfl tz35 rfl fun b122 => ?_
                refine J.stW (cs' := [.int .i8 r119.1.Reading, .int .i8 r119.1.Zone]) 0 rfl rfl rfl rfl rfl rfl ts35 rfl (fun u hu => by simp at hu; rcases hu with rfl | rfl <;> rfl) rfl rfl ?_
                refine J.op rfl rfl rfl (V.as rfl rfl) ?_
                refine J.op rfl rfl rfl (V.as rfl rfl) ?_
                refine J.nil ?_
                refine J.tN ?_
                refine J.seq ?_
                refine J.region ?_
                refine J.op rfl rfl rfl (V.ldW 7 rfl rfl rfl ts26 ta26 (encA_len _ _)) ?_
                obtain ⟨r124, hr125, h0⟩ := B.bind h0
                refine J.cl (l := [.tmp 271]) [] [.blk b122 [.int .i8 r119.1.Reading, .int .i8 r119.1.Zone] 35, .blk b54 (encA .i64 gy83.1.2.2) 40, .blk b39 [.int .i8 r36.1.Reading, .int .i8 r36.1.Zone] 35, .blk b31 (encA .i64 r28.1) 40, .blk b26 (encA .i8 r23.1) 23, .blk b21 (encA .i8 r18.1) 23, .blk b13 [.int .i8 r10.Reading, .int .i8 r10.Zone] 35, .blk b8 (encA .i8 r5) 26] cf21 (wN rfl) rfl rfl rfl rfl rfl rfl (by simp) (fun w H => spec_BestPlacement.calls r5 r124 w (Own.refl w)  hr125) fun g126 => ?_
                refine J.op rfl rfl rfl (V.mv rfl rfl) ?_
                refine J.op rfl rfl rfl (V.ex rfl rfl rfl) ?_
                refine J.op rfl rfl rfl (V.ex rfl rfl rfl) ?_
                refine J.op rfl rfl rfl (V.ex rfl rfl rfl) ?_
                refine J.alloc rfl rfl rfl rfl tz35 rfl fun b127 => ?_
                refine J.stW (cs' := [.int .i8 r124.1.Reading, .int .i8 r124.1.Zone]) 0 rfl rfl rfl rfl rfl rfl ts35 rfl (fun u hu => by simp at hu; rcases hu with rfl | rfl <;> rfl) rfl rfl ?_
                refine J.op rfl rfl rfl (V.as rfl rfl) ?_
                refine J.op rfl rfl rfl (V.as rfl rfl) ?_
                refine J.nil ?_
                refine J.tN ?_
                refine J.seq ?_
                refine J.seq ?_
                obtain ⟨y129, hy135, h0⟩ := B.bind h0
                replace hy135 := B.top hy135
                refine J.cut (γ := Unit) (fun _ => True) (fun gy130 => [(0, v0), (1, v1), (5, bp b8 0), (6, bp b13 0), (11, bp b26 0), (37, bp b127 0), (38, .int .i64 r124.2.1), (297, .bool y129)]) (fun gy130 => [.blk b127 [.int .i8 r124.1.Reading, .int .i8 r124.1.Zone] 35, .blk b122 [.int .i8 r119.1.Reading, .int .i8 r119.1.Zone] 35, .blk b54 (encA .i64 gy83.1.2.2) 40, .blk b39 [.int .i8 r36.1.Reading, .int .i8 r36.1.Zone] 35, .blk b31 (encA .i64 r28.1) 40, .blk b26 (encA .i8 r23.1) 23, .blk b21 (encA .i8 r18.1) 23, .blk b13 [.int .i8 r10.Reading, .int .i8 r10.Zone] 35, .blk b8 (encA .i8 r5) 26]) ?_ ?_
                · have h1 := hy135
                  refine J.region ?_
                  refine J.op rfl rfl rfl (V.mv rfl rfl) ?_
                  refine J.op rfl rfl rfl (V.mv rfl rfl) ?_
                  refine J.op rfl rfl rfl (V.cmp rfl rfl rfl rfl) ?_
                  refine J.op rfl rfl rfl (V.mv rfl rfl) ?_
                  refine J.split 279 rfl (fun hB131 => ?_) (fun hB131 => ?_)
                  · replace h1 := B.t hB131 h1
                    refine J.opOff rfl rfl rfl rfl rfl rfl ?_
                    refine J.opOff rfl rfl rfl rfl rfl rfl ?_
                    refine J.op rfl rfl rfl (V.pkT rfl rfl rfl) ?_
                    refine J.op rfl rfl rfl (V.mv rfl rfl) ?_
                    refine J.opOff rfl rfl rfl rfl rfl rfl ?_
                    refine J.opOff rfl rfl rfl rfl rfl rfl ?_
                    refine J.opOff rfl rfl rfl rfl rfl rfl ?_
                    refine J.op rfl rfl rfl (V.pkT rfl rfl rfl) ?_
                    refine J.op rfl rfl rfl (V.mv rfl rfl) ?_
                    refine J.opOff rfl rfl rfl rfl rfl rfl ?_
                    refine J.opOff rfl rfl rfl rfl rfl rfl ?_
                    refine J.opOff rfl rfl rfl rfl rfl rfl ?_
                    refine J.op rfl rfl rfl (V.pkT rfl rfl rfl) ?_
                    refine J.op rfl rfl rfl (V.mv rfl rfl) ?_
                    refine J.opOff rfl rfl rfl rfl rfl rfl ?_
                    refine J.opOff rfl rfl rfl rfl rfl rfl ?_
                    refine J.opOff rfl rfl rfl rfl rfl rfl ?_
                    refine J.op rfl rfl rfl (V.pkT rfl rfl rfl) ?_
                    refine J.nil ?_
                    obtain rfl := B.e h1
                    refine J.tN (J.to () trivial ?_)
                    exact J.keep _ rfl (J.pickE [0, 1, 2, 3, 4, 5, 6, 7, 8] rfl rfl J.here)
                  · replace h1 := B.f hB131 h1
                    refine J.opOn rfl rfl rfl rfl rfl (V.mv rfl rfl) ?_
                    refine J.opOn rfl rfl rfl rfl rfl (V.cmp rfl rfl rfl rfl) ?_
                    refine J.op rfl rfl rfl (V.pkF rfl rfl rfl) ?_
                    refine J.op rfl rfl rfl (V.mv rfl rfl) ?_
                    refine J.split 283 rfl (fun hB132 => ?_) (fun hB132 => ?_)
                    · replace h1 := B.t hB132 h1
                      refine J.opOff rfl rfl rfl rfl rfl rfl ?_
                      refine J.opOff rfl rfl rfl rfl rfl rfl ?_
                      refine J.opOff rfl rfl rfl rfl rfl rfl ?_
                      refine J.op rfl rfl rfl (V.pkT rfl rfl rfl) ?_
                      refine J.op rfl rfl rfl (V.mv rfl rfl) ?_
                      refine J.opOff rfl rfl rfl rfl rfl rfl ?_
                      refine J.opOff rfl rfl rfl rfl rfl rfl ?_
                      refine J.opOff rfl rfl rfl rfl rfl rfl ?_
                      refine J.op rfl rfl rfl (V.pkT rfl rfl rfl) ?_
                      refine J.op rfl rfl rfl (V.mv rfl rfl) ?_
                      refine J.opOff rfl rfl rfl rfl rfl rfl ?_
                      refine J.opOff rfl rfl rfl rfl rfl rfl ?_
                      refine J.opOff rfl rfl rfl rfl rfl rfl ?_
                      refine J.op rfl rfl rfl (V.pkT rfl rfl rfl) ?_
                      refine J.nil ?_
                      obtain rfl := B.e h1
                      refine J.tN (J.to () trivial ?_)
                      exact J.keep _ rfl (J.pickE [0, 1, 2, 3, 4, 5, 6, 7, 8] rfl rfl J.here)
                    · replace h1 := B.f hB132 h1
                      refine J.opOn rfl rfl rfl rfl rfl (V.ldW 1 rfl rfl rfl ts35 ta35 rfl) ?_
                      refine J.opOn rfl rfl rfl rfl rfl (V.ldW 0 rfl rfl rfl ts35 ta35 rfl) ?_
                      refine J.opOn rfl rfl rfl rfl rfl (eqStN35 rfl rfl rfl) ?_
                      refine J.op rfl rfl rfl (V.pkF rfl rfl rfl) ?_
                      refine J.op rfl rfl rfl (V.mv rfl rfl) ?_
                      refine J.split 288 rfl (fun hB133 => ?_) (fun hB133 => ?_)
                      · replace h1 := B.t hB133 h1
                        refine J.opOff rfl rfl rfl rfl rfl rfl ?_
                        refine J.opOff rfl rfl rfl rfl rfl rfl ?_
                        refine J.opOff rfl rfl rfl rfl rfl rfl ?_
                        refine J.op rfl rfl rfl (V.pkT rfl rfl rfl) ?_
                        refine J.op rfl rfl rfl (V.mv rfl rfl) ?_
                        refine J.opOff rfl rfl rfl rfl rfl rfl ?_
                        refine J.opOff rfl rfl rfl rfl rfl rfl ?_
                        refine J.opOff rfl rfl rfl rfl rfl rfl ?_
                        refine J.op rfl rfl rfl (V.pkT rfl rfl rfl) ?_
                        refine J.nil ?_
                        obtain rfl := B.e h1
                        refine J.tN (J.to () trivial ?_)
                        exact J.keep _ rfl (J.pickE [0, 1, 2, 3, 4, 5, 6, 7, 8] rfl rfl J.here)
                      · replace h1 := B.f hB133 h1
                        refine J.opOn rfl rfl rfl rfl rfl (V.mv rfl rfl) ?_
                        refine J.opOn rfl rfl rfl rfl rfl (V.mv rfl rfl) ?_
                        refine J.opOn rfl rfl rfl rfl rfl (V.cmp rfl rfl rfl rfl) ?_
                        refine J.op rfl rfl rfl (V.pkF rfl rfl rfl) ?_
                        refine J.op rfl rfl rfl (V.mv rfl rfl) ?_
                        refine J.split 293 rfl (fun hB134 => ?_) (fun hB134 => ?_)
                        · replace h1 := B.t hB134 h1
                          refine J.opOff rfl rfl rfl rfl rfl rfl ?_
                          refine J.opOff rfl rfl rfl rfl rfl rfl ?_
                          refine J.opOff rfl rfl rfl rfl rfl rfl ?_
                          refine J.op rfl rfl rfl (V.pkT rfl rfl rfl) ?_
                          refine J.nil ?_
                          obtain rfl := B.e h1
                          refine J.tN (J.to () trivial ?_)
                          exact J.keep _ rfl (J.pickE [0, 1, 2, 3, 4, 5, 6, 7, 8] rfl rfl J.here)
                        · replace h1 := B.f hB134 h1
                          refine J.opOn rfl rfl rfl rfl rfl (V.faB rfl rfl tf1_35) ?_
                          refine J.opOn rfl rfl rfl rfl rfl (V.ldB 0 rfl rfl rfl Try.underlying22 ta22 rfl) ?_
                          refine J.opOn rfl rfl rfl rfl rfl (V.cmp rfl rfl rfl rfl) ?_
                          refine J.op rfl rfl rfl (V.pkF rfl rfl rfl) ?_
                          refine J.nil ?_
                          obtain rfl := B.e h1
                          refine J.tN (J.to () trivial ?_)
                          exact J.keep _ rfl (J.pickE [0, 1, 2, 3, 4, 5, 6, 7, 8] rfl rfl J.here)
                · intro gy130 _
                  refine J.cond rfl (fun hB136 => ?_) (fun hB136 => ?_)
                  · replace h0 := B.t hB136 h0
                    refine J.seq ?_
                    refine J.region ?_
                    refine J.op rfl rfl rfl (V.as rfl rfl) ?_
                    refine J.nil ?_
                    refine J.tN ?_
                    refine J.ret ?_
                    refine J.tR ?_
                    obtain rfl := B.e h0
                    exact J.ret1 rfl rfl fun w H => ⟨(), rfl, H.pick [] (by decide)⟩
                  · replace h0 := B.f hB136 h0
                    refine J.skip ?_
                    refine J.tN ?_
                    refine J.seq ?_
                    refine J.seq ?_
                    refine J.region ?_
                    refine J.op rfl rfl rfl (V.as rfl rfl) ?_
                    refine J.nil ?_
                    refine J.tN ?_
                    obtain ⟨o157, hy156, h0⟩ := B.bind h0
                    refine J.cutQ (γ := (Unit) × (Unit)) (fun gy155 => o157 = .inl gy155.1) (fun gy155 => [(0, v0), (1, v1), (5, bp b8 0), (6, bp b13 0), (11, bp b26 0)]) (fun gy155 => [.blk b127 [.int .i8 r124.1.Reading, .int .i8 r124.1.Zone] 35, .blk b122 [.int .i8 r119.1.Reading, .int .i8 r119.1.Zone] 35, .blk b54 (encA .i64 gy83.1.2.2) 40, .blk b39 [.int .i8 r36.1.Reading, .int .i8 r36.1.Zone] 35, .blk b31 (encA .i64 r28.1) 40, .blk b26 (encA .i8 r23.1) 23, .blk b21 (encA .i8 r18.1) 23, .blk b13 [.int .i8 r10.Reading, .int .i8 r10.Zone] 35, .blk b8 (encA .i8 r5) 26]) ?_ ?_
                    · refine J.block ?_
                      refine J.loop (γ := Unit) hy156 (fun s137 g138 => [(0, v0), (1, v1), (5, bp b8 0), (6, bp b13 0), (11, bp b26 0), (37, bp b127 0), (38, .int .i64 r124.2.1), (40, .int .i64 s137)]) (fun s137 g138 => [.blk b127 [.int .i8 r124.1.Reading, .int .i8 r124.1.Zone] 35, .blk b122 [.int .i8 r119.1.Reading, .int .i8 r119.1.Zone] 35, .blk b54 (encA .i64 gy83.1.2.2) 40, .blk b39 [.int .i8 r36.1.Reading, .int .i8 r36.1.Zone] 35, .blk b31 (encA .i64 r28.1) 40, .blk b26 (encA .i8 r23.1) 23, .blk b21 (encA .i8 r18.1) 23, .blk b13 [.int .i8 r10.Reading, .int .i8 r10.Zone] 35, .blk b8 (encA .i8 r5) 26]) () ?_ ?_
                      · exact J.keep _ rfl (J.pickE [0, 1, 2, 3, 4, 5, 6, 7, 8] rfl rfl J.here)
                      · intro rec139 s137 g138 h1
                        unfold laws_FnZones.b3 at h1
                        refine J.seq ?_
                        refine J.seq ?_
                        refine J.region ?_
                        refine J.op rfl rfl rfl (V.mv rfl rfl) ?_
                        refine J.op rfl rfl rfl (V.cmp rfl rfl rfl rfl) ?_
                        refine J.nil ?_
                        refine J.tN ?_
                        refine J.cond rfl (fun hB140 => ?_) (fun hB140 => ?_)
                        · replace h1 := B.t hB140 h1
                          refine J.skip ?_
                          refine J.tN ?_
                          refine J.seq ?_
                          refine J.block ?_
                          refine J.seq ?_
                          refine J.region ?_
                          refine J.op rfl rfl rfl (V.ldW 8 rfl rfl rfl ts26 ta26 (encA_len _ _)) ?_
                          refine J.op rfl rfl rfl (V.mv rfl rfl) ?_
                          refine J.op rfl rfl rfl (V.conv rfl rfl Try.underlying2 Try.underlying22) ?_
                          refine J.op rfl rfl rfl (V.bd (l := [(0, .tmp 305), (1, .const (.int .i8 5))]) (v := .agg #[.int .i8 (IntKind.wrap .i8 s137), .int .i8 5]) rfl rfl (fun w H => by kernel_rfl)) ?_
                          obtain ⟨r141, hr142, h1⟩ := B.bind h1
                          refine J.cl (l := [.tmp 303, .tmp 306]) [] [.blk b127 [.int .i8 r124.1.Reading, .int .i8 r124.1.Zone] 35, .blk b122 [.int .i8 r119.1.Reading, .int .i8 r119.1.Zone] 35, .blk b54 (encA .i64 gy83.1.2.2) 40, .blk b39 [.int .i8 r36.1.Reading, .int .i8 r36.1.Zone] 35, .blk b31 (encA .i64 r28.1) 40, .blk b26 (encA .i8 r23.1) 23, .blk b21 (encA .i8 r18.1) 23, .blk b13 [.int .i8 r10.Reading, .int .i8 r10.Zone] 35, .blk b8 (encA .i8 r5) 26] cf17 (wN rfl) rfl rfl rfl rfl rfl rfl (by simp) (fun w H => impl_CountZones.calls r5 (⟨IntKind.wrap .i8 s137, 5⟩ : impl_Placement) r141 w (Own.refl w)  hr142) fun g143 => ?_
                          refine J.op rfl rfl rfl (V.mv rfl rfl) ?_
                          refine J.op rfl rfl rfl (V.ex rfl rfl rfl) ?_
                          refine J.op rfl rfl rfl (V.ex rfl rfl rfl) ?_
                          refine J.op rfl rfl rfl (V.ex rfl rfl rfl) ?_
                          refine J.op rfl rfl rfl (V.ex rfl rfl rfl) ?_
                          refine J.alloc rfl rfl rfl rfl tz40 rfl fun b144 => ?_
                          refine J.stW (cs' := encA .i64 r141.1) 0 rfl rfl rfl rfl rfl rfl ts40 rfl (encA_one .i64 _) (encA_len _ _) (encA_len _ _) ?_
                          refine J.op rfl rfl rfl (V.as rfl rfl) ?_
                          refine J.op rfl rfl rfl (V.as rfl rfl) ?_
                          refine J.op rfl rfl rfl (V.as rfl rfl) ?_
                          refine J.nil ?_
                          refine J.tN ?_
                          refine J.seq ?_
                          obtain ⟨y146, hy151, h1⟩ := B.bind h1
                          replace hy151 := B.top hy151
                          refine J.cut (γ := Unit) (fun _ => True) (fun gy147 => [(0, v0), (1, v1), (5, bp b8 0), (6, bp b13 0), (11, bp b26 0), (37, bp b127 0), (38, .int .i64 r124.2.1), (40, .int .i64 s137), (334, .bool y146)]) (fun gy147 => [.blk b144 (encA .i64 r141.1) 40, .blk b127 [.int .i8 r124.1.Reading, .int .i8 r124.1.Zone] 35, .blk b122 [.int .i8 r119.1.Reading, .int .i8 r119.1.Zone] 35, .blk b54 (encA .i64 gy83.1.2.2) 40, .blk b39 [.int .i8 r36.1.Reading, .int .i8 r36.1.Zone] 35, .blk b31 (encA .i64 r28.1) 40, .blk b26 (encA .i8 r23.1) 23, .blk b21 (encA .i8 r18.1) 23, .blk b13 [.int .i8 r10.Reading, .int .i8 r10.Zone] 35, .blk b8 (encA .i8 r5) 26]) ?_ ?_
                          · have h2 := hy151
                            refine J.region ?_
                            refine J.op rfl rfl rfl (V.mv rfl rfl) ?_
                            refine J.op rfl rfl rfl (V.cmp rfl rfl rfl rfl) ?_
                            refine J.op rfl rfl rfl (V.mv rfl rfl) ?_
                            refine J.split 314 rfl (fun hB148 => ?_) (fun hB148 => ?_)
                            · replace h2 := B.t hB148 h2
                              refine J.opOff rfl rfl rfl rfl rfl rfl ?_
                              refine J.opOff rfl rfl rfl rfl rfl rfl ?_
                              refine J.opOff rfl rfl rfl rfl rfl rfl ?_
                              refine J.opOff rfl rfl rfl rfl rfl rfl ?_
                              refine J.opOff rfl rfl rfl rfl rfl rfl ?_
                              refine J.op rfl rfl rfl (V.pkT rfl rfl rfl) ?_
                              refine J.op rfl rfl rfl (V.mv rfl rfl) ?_
                              refine J.opOff rfl rfl rfl rfl rfl rfl ?_
                              refine J.opOff rfl rfl rfl rfl rfl rfl ?_
                              refine J.opOff rfl rfl rfl rfl rfl rfl ?_
                              refine J.opOff rfl rfl rfl rfl rfl rfl ?_
                              refine J.opOff rfl rfl rfl rfl rfl rfl ?_
                              refine J.opOff rfl rfl rfl rfl rfl rfl ?_
                              refine J.opOffU rfl rfl rfl rfl rfl ?_
                              refine J.opOffU rfl rfl rfl rfl rfl ?_
                              refine J.opOffU rfl rfl rfl rfl rfl ?_
                              refine J.opOffU rfl rfl rfl rfl rfl ?_
                              refine J.opOffU rfl rfl rfl rfl rfl ?_
                              refine J.opOff rfl rfl rfl rfl rfl rfl ?_
                              refine J.op rfl rfl rfl (V.pkT rfl rfl rfl) ?_
                              refine J.nil ?_
                              obtain rfl := B.e h2
                              refine J.tN (J.to () trivial ?_)
                              exact J.keep _ rfl (J.pickE [0, 1, 2, 3, 4, 5, 6, 7, 8, 9] rfl rfl J.here)
                            · replace h2 := B.f hB148 h2
                              refine J.opOn rfl rfl rfl rfl rfl (V.mv rfl rfl) ?_
                              refine J.opOn rfl rfl rfl rfl rfl (V.mv rfl rfl) ?_
                              refine J.opOn rfl rfl rfl rfl rfl (V.ar rfl rfl rfl rfl) ?_
                              refine J.opOn rfl rfl rfl rfl rfl (V.mv rfl rfl) ?_
                              refine J.opOn rfl rfl rfl rfl rfl (V.cmp rfl rfl rfl rfl) ?_
                              refine J.op rfl rfl rfl (V.pkF rfl rfl rfl) ?_
                              refine J.op rfl rfl rfl (V.mv rfl rfl) ?_
                              refine J.split 321 rfl (fun hB149 => ?_) (fun hB149 => ?_)
                              · replace h2 := B.t hB149 h2
                                refine J.opOff rfl rfl rfl rfl rfl rfl ?_
                                refine J.opOff rfl rfl rfl rfl rfl rfl ?_
                                refine J.opOff rfl rfl rfl rfl rfl rfl ?_
                                refine J.opOff rfl rfl rfl rfl rfl rfl ?_
                                refine J.opOff rfl rfl rfl rfl rfl rfl ?_
                                refine J.opOff rfl rfl rfl rfl rfl rfl ?_
                                refine J.opOffU rfl rfl rfl rfl rfl ?_
                                refine J.opOffU rfl rfl rfl rfl rfl ?_
                                refine J.opOffU rfl rfl rfl rfl rfl ?_
                                refine J.opOffU rfl rfl rfl rfl rfl ?_
                                refine J.opOffU rfl rfl rfl rfl rfl ?_
                                refine J.opOff rfl rfl rfl rfl rfl rfl ?_
                                refine J.op rfl rfl rfl (V.pkT rfl rfl rfl) ?_
                                refine J.nil ?_
                                obtain rfl := B.e h2
                                refine J.tN (J.to () trivial ?_)
                                exact J.keep _ rfl (J.pickE [0, 1, 2, 3, 4, 5, 6, 7, 8, 9] rfl rfl J.here)
                              · replace h2 := B.f hB149 h2
                                refine J.opOn rfl rfl rfl rfl rfl (V.mv rfl rfl) ?_
                                refine J.opOn rfl rfl rfl rfl rfl (V.mv rfl rfl) ?_
                                refine J.opOn rfl rfl rfl rfl rfl (V.ar rfl rfl rfl rfl) ?_
                                refine J.opOn rfl rfl rfl rfl rfl (V.mv rfl rfl) ?_
                                refine J.opOn rfl rfl rfl rfl rfl (V.cmp rfl rfl rfl rfl) ?_
                                refine J.opOn rfl rfl rfl rfl rfl (V.mv rfl rfl) ?_
                                refine J.split 327 rfl (fun hB150 => ?_) (fun hB150 => ?_)
                                · replace h2 := B.t hB150 h2
                                  refine J.opOn rfl rfl rfl rfl rfl (V.mv rfl rfl) ?_
                                  refine J.opOn rfl rfl rfl rfl rfl (V.faB rfl rfl tf0_35) ?_
                                  refine J.opOn rfl rfl rfl rfl rfl (V.ldB 1 rfl rfl rfl Try.underlying22 ta22 rfl) ?_
                                  refine J.opOn rfl rfl rfl rfl rfl (V.conv rfl rfl Try.underlying22 Try.underlying2) ?_
                                  refine J.opOn rfl rfl rfl rfl rfl (V.cmp rfl rfl rfl rfl) ?_
                                  refine J.opOn rfl rfl rfl rfl rfl (V.pkT rfl rfl rfl) ?_
                                  refine J.op rfl rfl rfl (V.pkF rfl rfl rfl) ?_
                                  refine J.nil ?_
                                  obtain rfl := B.e h2
                                  refine J.tN (J.to () trivial ?_)
                                  exact J.keep _ rfl (J.pickE [0, 1, 2, 3, 4, 5, 6, 7, 8, 9] rfl rfl J.here)
                                · replace h2 := B.f hB150 h2
                                  refine J.opOff rfl rfl rfl rfl rfl rfl ?_
                                  refine J.opOff rfl rfl rfl rfl rfl rfl ?_
                                  refine J.opOff rfl rfl rfl rfl rfl rfl ?_
                                  refine J.opOff rfl rfl rfl rfl rfl rfl ?_
                                  refine J.opOff rfl rfl rfl rfl rfl rfl ?_
                                  refine J.opOn rfl rfl rfl rfl rfl (V.pkF rfl rfl rfl) ?_
                                  refine J.op rfl rfl rfl (V.pkF rfl rfl rfl) ?_
                                  refine J.nil ?_
                                  obtain rfl := B.e h2
                                  refine J.tN (J.to () trivial ?_)
                                  exact J.keep _ rfl (J.pickE [0, 1, 2, 3, 4, 5, 6, 7, 8, 9] rfl rfl J.here)
                          · intro gy147 _
                            refine J.cond rfl (fun hB152 => ?_) (fun hB152 => ?_)
                            · replace h1 := B.t hB152 h1
                              refine J.seq ?_
                              refine J.region ?_
                              refine J.op rfl rfl rfl (V.as rfl rfl) ?_
                              refine J.nil ?_
                              refine J.tN ?_
                              refine J.ret ?_
                              refine J.bR ?_
                              refine J.tR ?_
                              refine J.tR ?_
                              refine J.bR ?_
                              refine J.tR ?_
                              refine J.tR ?_
                              obtain rfl := B.d h1
                              replace h0 := B.inr h0
                              obtain rfl := B.e h0
                              exact J.ret1 rfl rfl fun w H => ⟨(), rfl, H.pick [] (by decide)⟩
                            · replace h1 := B.f hB152 h1
                              refine J.skip ?_
                              refine J.bN ?_
                              refine J.tN ?_
                              refine J.region ?_
                              refine J.op rfl rfl rfl (V.mv rfl rfl) ?_
                              refine J.op rfl rfl rfl (V.ar rfl rfl rfl rfl) ?_
                              refine J.op rfl rfl rfl (V.as rfl rfl) ?_
                              obtain ⟨r_153, er_153, h1⟩ := B.lt h1
                              refine J.val (congrArg (Value.int .i64) er_153) ?_
                              refine J.nil ?_
                              refine J.tN (J.next r_153 () (B.n h1) ?_)
                              exact J.keep _ rfl (J.pickE [1, 2, 3, 4, 5, 6, 7, 8, 9] rfl rfl J.here)
                        · replace h1 := B.f hB140 h1
                          refine J.exit ?_
                          refine J.tE ?_
                          refine J.tE ?_
                          refine J.bE ?_
                          obtain rfl := B.d h1
                          refine J.tN (J.to ((), ()) rfl ?_)
                          exact J.keep _ rfl (J.pickE [0, 1, 2, 3, 4, 5, 6, 7, 8] rfl rfl J.here)
                    · intro gy155 hG
                      replace h0 := B.inl hG h0
                      refine J.tN ?_
                      refine J.seq ?_
                      refine J.quietAllocX 6 8 7 mixed (by kernel_rfl) (by kernel_rfl) rfl rfl rfl rfl rfl tz35 rfl ?_
                      refine JQ.op rfl rfl rfl (V.ldW 7 rfl rfl rfl ts35 ta35 rfl) ?_
                      refine JQ.op rfl rfl rfl (V.mv rfl rfl) ?_
                      obtain ⟨r158, hr159, h0⟩ := B.bind h0
                      obtain ⟨_, cf1, cf2, cf3⟩ := cf23
                      refine JQ.cl (l := [.tmp 337, .const (.int .i64 0), .const (.int .i64 11)]) cf1 cf2 cf3 (wN rfl) rfl rfl rfl rfl rfl (fun w H => laws_a2At.calls v1 p1_more 0 11 r158 w (Own.refl w) (Sl.later0 hS1 H) hr159) ?_
                      obtain ⟨r161, hr162, h0⟩ := B.bind h0
                      obtain ⟨_, cf1, cf2, cf3⟩ := cf22
                      refine JQ.cl (l := [.tmp 336, .tmp 338]) cf1 cf2 cf3 (wN rfl) rfl rfl rfl rfl rfl (fun w H => impl_SamePlacing.calls (⟨r10.Reading, r10.Zone⟩ : impl_Placement) r158 r161 w (Own.refl w)  hr162) ?_
                      refine JQ.op rfl rfl rfl (V.mv rfl rfl) ?_
                      refine JQ.op rfl rfl rfl (V.ex rfl rfl rfl) ?_
                      refine JQ.op rfl rfl rfl (V.ex rfl rfl rfl) ?_
                      refine JQ.make rfl fun b164 => ?_
                      refine J.stW (cs' := [.int .i8 r161.1.Reading, .int .i8 r161.1.Zone]) 0 rfl rfl rfl rfl rfl rfl ts35 rfl (fun u hu => by simp at hu; rcases hu with rfl | rfl <;> rfl) rfl rfl ?_
                      refine J.op rfl rfl rfl (V.as rfl rfl) ?_
                      refine J.nil ?_
                      refine J.calm ?_
                      refine J.tN ?_
                      refine J.seq ?_
                      refine J.quietAllocX 6 8 7 mixed (by kernel_rfl) (by kernel_rfl) rfl rfl rfl rfl rfl tz35 rfl ?_
                      refine JQ.op rfl rfl rfl (V.ldW 8 rfl rfl rfl ts35 ta35 rfl) ?_
                      refine JQ.op rfl rfl rfl (V.mv rfl rfl) ?_
                      obtain ⟨r166, hr167, h0⟩ := B.bind h0
                      obtain ⟨_, cf1, cf2, cf3⟩ := cf23
                      refine JQ.cl (l := [.tmp 344, .const (.int .i64 0), .const (.int .i64 11)]) cf1 cf2 cf3 (wN rfl) rfl rfl rfl rfl rfl (fun w H => laws_a2At.calls v1 p1_more 0 11 r166 w (Own.refl w) (Sl.later0 hS1 H) hr167) ?_
                      obtain ⟨r169, hr170, h0⟩ := B.bind h0
                      obtain ⟨_, cf1, cf2, cf3⟩ := cf24
                      refine JQ.cl (l := [.tmp 343, .tmp 345]) cf1 cf2 cf3 (wN rfl) rfl rfl rfl rfl rfl (fun w H => spec_SamePlacing.calls (⟨r10.Reading, r10.Zone⟩ : impl_Placement) r166 r169 w (Own.refl w)  hr170) ?_
                      refine JQ.op rfl rfl rfl (V.mv rfl rfl) ?_
                      refine JQ.op rfl rfl rfl (V.ex rfl rfl rfl) ?_
                      refine JQ.op rfl rfl rfl (V.ex rfl rfl rfl) ?_
                      refine JQ.make rfl fun b172 => ?_
                      refine J.stW (cs' := [.int .i8 r169.1.Reading, .int .i8 r169.1.Zone]) 0 rfl rfl rfl rfl rfl rfl ts35 rfl (fun u hu => by simp at hu; rcases hu with rfl | rfl <;> rfl) rfl rfl ?_
                      refine J.op rfl rfl rfl (V.as rfl rfl) ?_
                      refine J.nil ?_
                      refine J.calm ?_
                      refine J.tN ?_
                      refine J.seq ?_
                      refine J.seq ?_
                      obtain ⟨y174, hy179, h0⟩ := B.bind h0
                      replace hy179 := B.top hy179
                      refine J.cut (γ := Unit) (fun _ => True) (fun gy175 => [(0, v0), (5, bp b8 0), (6, bp b13 0), (11, bp b26 0), (46, .int .i64 r161.2), (47, bp b172 0), (364, .bool y174)]) (fun gy175 => [.blk b172 [.int .i8 r169.1.Reading, .int .i8 r169.1.Zone] 35, .blk b164 [.int .i8 r161.1.Reading, .int .i8 r161.1.Zone] 35, .blk b127 [.int .i8 r124.1.Reading, .int .i8 r124.1.Zone] 35, .blk b122 [.int .i8 r119.1.Reading, .int .i8 r119.1.Zone] 35, .blk b54 (encA .i64 gy83.1.2.2) 40, .blk b39 [.int .i8 r36.1.Reading, .int .i8 r36.1.Zone] 35, .blk b31 (encA .i64 r28.1) 40, .blk b26 (encA .i8 r23.1) 23, .blk b21 (encA .i8 r18.1) 23, .blk b13 [.int .i8 r10.Reading, .int .i8 r10.Zone] 35, .blk b8 (encA .i8 r5) 26]) ?_ ?_
                      · have h1 := hy179
                        refine J.region ?_
                        refine J.op rfl rfl rfl (V.mv rfl rfl) ?_
                        refine J.op rfl rfl rfl (V.mv rfl rfl) ?_
                        refine J.op rfl rfl rfl (V.cmp rfl rfl rfl rfl) ?_
                        refine J.op rfl rfl rfl (V.mv rfl rfl) ?_
                        refine J.split 352 rfl (fun hB176 => ?_) (fun hB176 => ?_)
                        · replace h1 := B.t hB176 h1
                          refine J.opOff rfl rfl rfl rfl rfl rfl ?_
                          refine J.opOff rfl rfl rfl rfl rfl rfl ?_
                          refine J.opOff rfl rfl rfl rfl rfl rfl ?_
                          refine J.op rfl rfl rfl (V.pkT rfl rfl rfl) ?_
                          refine J.op rfl rfl rfl (V.mv rfl rfl) ?_
                          refine J.opOff rfl rfl rfl rfl rfl rfl ?_
                          refine J.opOff rfl rfl rfl rfl rfl rfl ?_
                          refine J.opOff rfl rfl rfl rfl rfl rfl ?_
                          refine J.opOffU rfl rfl rfl rfl rfl ?_
                          refine J.opOffU rfl rfl rfl rfl rfl ?_
                          refine J.opOff rfl rfl rfl rfl rfl rfl ?_
                          refine J.op rfl rfl rfl (V.pkT rfl rfl rfl) ?_
                          refine J.nil ?_
                          obtain rfl := B.e h1
                          refine J.tN (J.to () trivial ?_)
                          exact J.keep _ rfl (J.pickE [0, 1, 2, 3, 4, 5, 6, 7, 8, 9, 10] rfl rfl J.here)
                        · replace h1 := B.f hB176 h1
                          refine J.opOn rfl rfl rfl rfl rfl (V.ldW 1 rfl rfl rfl ts35 ta35 rfl) ?_
                          refine J.opOn rfl rfl rfl rfl rfl (V.ldW 0 rfl rfl rfl ts35 ta35 rfl) ?_
                          refine J.opOn rfl rfl rfl rfl rfl (eqStN35 rfl rfl rfl) ?_
                          refine J.op rfl rfl rfl (V.pkF rfl rfl rfl) ?_
                          refine J.op rfl rfl rfl (V.mv rfl rfl) ?_
                          refine J.split 357 rfl (fun hB177 => ?_) (fun hB177 => ?_)
                          · replace h1 := B.t hB177 h1
                            refine J.opOff rfl rfl rfl rfl rfl rfl ?_
                            refine J.opOff rfl rfl rfl rfl rfl rfl ?_
                            refine J.opOff rfl rfl rfl rfl rfl rfl ?_
                            refine J.opOffU rfl rfl rfl rfl rfl ?_
                            refine J.opOffU rfl rfl rfl rfl rfl ?_
                            refine J.opOff rfl rfl rfl rfl rfl rfl ?_
                            refine J.op rfl rfl rfl (V.pkT rfl rfl rfl) ?_
                            refine J.nil ?_
                            obtain rfl := B.e h1
                            refine J.tN (J.to () trivial ?_)
                            exact J.keep _ rfl (J.pickE [0, 1, 2, 3, 4, 5, 6, 7, 8, 9, 10] rfl rfl J.here)
                          · replace h1 := B.f hB177 h1
                            refine J.opOn rfl rfl rfl rfl rfl (V.mv rfl rfl) ?_
                            refine J.opOn rfl rfl rfl rfl rfl (V.cmp rfl rfl rfl rfl) ?_
                            refine J.opOn rfl rfl rfl rfl rfl (V.mv rfl rfl) ?_
                            refine J.split 360 rfl (fun hB178 => ?_) (fun hB178 => ?_)
                            · replace h1 := B.t hB178 h1
                              refine J.opOn rfl rfl rfl rfl rfl (V.mv rfl rfl) ?_
                              refine J.opOn rfl rfl rfl rfl rfl (V.cmp rfl rfl rfl rfl) ?_
                              refine J.opOn rfl rfl rfl rfl rfl (V.pkT rfl rfl rfl) ?_
                              refine J.op rfl rfl rfl (V.pkF rfl rfl rfl) ?_
                              refine J.nil ?_
                              obtain rfl := B.e h1
                              refine J.tN (J.to () trivial ?_)
                              exact J.keep _ rfl (J.pickE [0, 1, 2, 3, 4, 5, 6, 7, 8, 9, 10] rfl rfl J.here)
                            · replace h1 := B.f hB178 h1
                              refine J.opOff rfl rfl rfl rfl rfl rfl ?_
                              refine J.opOff rfl rfl rfl rfl rfl rfl ?_
                              refine J.opOn rfl rfl rfl rfl rfl (V.pkF rfl rfl rfl) ?_
                              refine J.op rfl rfl rfl (V.pkF rfl rfl rfl) ?_
                              refine J.nil ?_
                              obtain rfl := B.e h1
                              refine J.tN (J.to () trivial ?_)
                              exact J.keep _ rfl (J.pickE [0, 1, 2, 3, 4, 5, 6, 7, 8, 9, 10] rfl rfl J.here)
                      · intro gy175 _
                        refine J.cond rfl (fun hB180 => ?_) (fun hB180 => ?_)
                        · replace h0 := B.t hB180 h0
                          refine J.seq ?_
                          refine J.region ?_
                          refine J.op rfl rfl rfl (V.as rfl rfl) ?_
                          refine J.nil ?_
                          refine J.tN ?_
                          refine J.ret ?_
                          refine J.tR ?_
                          obtain rfl := B.e h0
                          exact J.ret1 rfl rfl fun w H => ⟨(), rfl, H.pick [] (by decide)⟩
                        · replace h0 := B.f hB180 h0
                          refine J.skip ?_
                          refine J.tN ?_
                          refine J.seq ?_
                          obtain ⟨o195, hy194, h0⟩ := B.bind h0
                          replace hy194 := B.top hy194
                          refine J.cut (γ := (Unit) × (Unit)) (fun gy182 => o195 = .inl gy182.1) (fun gy182 => [(0, v0), (6, bp b13 0)]) (fun gy182 => [.blk b172 [.int .i8 r169.1.Reading, .int .i8 r169.1.Zone] 35, .blk b164 [.int .i8 r161.1.Reading, .int .i8 r161.1.Zone] 35, .blk b127 [.int .i8 r124.1.Reading, .int .i8 r124.1.Zone] 35, .blk b122 [.int .i8 r119.1.Reading, .int .i8 r119.1.Zone] 35, .blk b54 (encA .i64 gy83.1.2.2) 40, .blk b39 [.int .i8 r36.1.Reading, .int .i8 r36.1.Zone] 35, .blk b31 (encA .i64 r28.1) 40, .blk b26 (encA .i8 r23.1) 23, .blk b21 (encA .i8 r18.1) 23, .blk b13 [.int .i8 r10.Reading, .int .i8 r10.Zone] 35, .blk b8 (encA .i8 r5) 26]) ?_ ?_
                          · have h1 := hy194
                            refine J.seq ?_
                            refine J.region ?_
                            refine J.op rfl rfl rfl (V.mv rfl rfl) ?_
                            refine J.op rfl rfl rfl (V.cmp rfl rfl rfl rfl) ?_
                            refine J.nil ?_
                            refine J.tN ?_
                            refine J.cond rfl (fun hB183 => ?_) (fun hB183 => ?_)
                            · replace h1 := B.t hB183 h1
                              refine J.seq ?_
                              refine J.region ?_
                              refine J.op rfl rfl rfl (V.ldW 10 rfl rfl rfl ts26 ta26 (encA_len _ _)) ?_
                              refine J.op rfl rfl rfl (V.ldW 0 rfl rfl rfl ts35 ta35 rfl) ?_
                              obtain ⟨r184, hr185, h1⟩ := B.bind h1
                              refine J.cl (l := [.tmp 368, .tmp 369]) [] [.blk b172 [.int .i8 r169.1.Reading, .int .i8 r169.1.Zone] 35, .blk b164 [.int .i8 r161.1.Reading, .int .i8 r161.1.Zone] 35, .blk b127 [.int .i8 r124.1.Reading, .int .i8 r124.1.Zone] 35, .blk b122 [.int .i8 r119.1.Reading, .int .i8 r119.1.Zone] 35, .blk b54 (encA .i64 gy83.1.2.2) 40, .blk b39 [.int .i8 r36.1.Reading, .int .i8 r36.1.Zone] 35, .blk b31 (encA .i64 r28.1) 40, .blk b26 (encA .i8 r23.1) 23, .blk b21 (encA .i8 r18.1) 23, .blk b13 [.int .i8 r10.Reading, .int .i8 r10.Zone] 35, .blk b8 (encA .i8 r5) 26] cf15 (wN rfl) rfl rfl rfl rfl rfl rfl (by simp) (fun w H => impl_ZonesOf.calls r5 (⟨r169.1.Reading, r169.1.Zone⟩ : impl_Placement) r184 w (Own.refl w)  hr185) fun g186 => ?_
                              refine J.op rfl rfl rfl (V.mv rfl rfl) ?_
                              refine J.op rfl rfl rfl (V.ex rfl rfl rfl) ?_
                              refine J.op rfl rfl rfl (V.ex rfl rfl rfl) ?_
                              refine J.alloc rfl rfl rfl rfl tz23 rfl fun b187 => ?_
                              refine J.stW (cs' := encA .i8 r184.1) 0 rfl rfl rfl rfl rfl rfl ts23 rfl (encA_one .i8 _) (encA_len _ _) (encA_len _ _) ?_
                              refine J.op rfl rfl rfl (V.as rfl rfl) ?_
                              refine J.nil ?_
                              refine J.tN ?_
                              refine J.seq ?_
                              obtain ⟨y189, hy192, h1⟩ := B.bind h1
                              replace hy192 := B.top hy192
                              refine J.cut (γ := Unit) (fun _ => True) (fun gy190 => [(0, v0), (6, bp b13 0), (379, .bool y189)]) (fun gy190 => [.blk b187 (encA .i8 r184.1) 23, .blk b172 [.int .i8 r169.1.Reading, .int .i8 r169.1.Zone] 35, .blk b164 [.int .i8 r161.1.Reading, .int .i8 r161.1.Zone] 35, .blk b127 [.int .i8 r124.1.Reading, .int .i8 r124.1.Zone] 35, .blk b122 [.int .i8 r119.1.Reading, .int .i8 r119.1.Zone] 35, .blk b54 (encA .i64 gy83.1.2.2) 40, .blk b39 [.int .i8 r36.1.Reading, .int .i8 r36.1.Zone] 35, .blk b31 (encA .i64 r28.1) 40, .blk b26 (encA .i8 r23.1) 23, .blk b21 (encA .i8 r18.1) 23, .blk b13 [.int .i8 r10.Reading, .int .i8 r10.Zone] 35, .blk b8 (encA .i8 r5) 26]) ?_ ?_
                              · have h2 := hy192
                                refine J.region ?_
                                refine J.op rfl rfl rfl (V.mv rfl rfl) ?_
                                refine J.op rfl rfl rfl (V.cmp rfl rfl rfl rfl) ?_
                                refine J.op rfl rfl rfl (V.mv rfl rfl) ?_
                                refine J.split 375 rfl (fun hB191 => ?_) (fun hB191 => ?_)
                                · replace h2 := B.t hB191 h2
                                  refine J.opOff rfl rfl rfl rfl rfl rfl ?_
                                  refine J.opOff rfl rfl rfl rfl rfl rfl ?_
                                  refine J.opOff rfl rfl rfl rfl rfl rfl ?_
                                  refine J.op rfl rfl rfl (V.pkT rfl rfl rfl) ?_
                                  refine J.nil ?_
                                  obtain rfl := B.e h2
                                  refine J.tN (J.to () trivial ?_)
                                  exact J.keep _ rfl (J.pickE [0, 1, 2, 3, 4, 5, 6, 7, 8, 9, 10, 11] rfl rfl J.here)
                                · replace h2 := B.f hB191 h2
                                  refine J.opOn rfl rfl rfl rfl rfl (V.ldW 0 rfl rfl rfl ts23 ta23 (encA_len _ _)) ?_
                                  refine J.opOn rfl rfl rfl rfl rfl (V.ldW 8 rfl rfl rfl ts23 ta23 (encA_len _ _)) ?_
                                  refine J.opOn rfl rfl rfl rfl rfl (V.neA rfl rfl rfl tr23 ts22 Try.underlying22 ta22 (by kernel_rfl)) ?_
                                  refine J.op rfl rfl rfl (V.pkF rfl rfl rfl) ?_
                                  refine J.nil ?_
                                  obtain rfl := B.e h2
                                  refine J.tN (J.to () trivial ?_)
                                  exact J.keep _ rfl (J.pickE [0, 1, 2, 3, 4, 5, 6, 7, 8, 9, 10, 11] rfl rfl J.here)
                              · intro gy190 _
                                refine J.cond rfl (fun hB193 => ?_) (fun hB193 => ?_)
                                · replace h1 := B.t hB193 h1
                                  refine J.seq ?_
                                  refine J.region ?_
                                  refine J.op rfl rfl rfl (V.as rfl rfl) ?_
                                  refine J.nil ?_
                                  refine J.tN ?_
                                  refine J.ret ?_
                                  refine J.tR ?_
                                  obtain rfl := B.e h1
                                  replace h0 := B.inr h0
                                  obtain rfl := B.e h0
                                  exact J.ret1 rfl rfl fun w H => ⟨(), rfl, H.pick [] (by decide)⟩
                                · replace h1 := B.f hB193 h1
                                  refine J.skip ?_
                                  obtain rfl := B.e h1
                                  refine J.tN (J.to ((), ()) rfl ?_)
                                  exact J.keep _ rfl (J.pickE [1, 2, 3, 4, 5, 6, 7, 8, 9, 10, 11] rfl rfl J.here)
                            · replace h1 := B.f hB183 h1
                              refine J.skip ?_
                              obtain rfl := B.e h1
                              refine J.tN (J.to ((), ()) rfl ?_)
                              exact J.keep _ rfl (J.pickE [0, 1, 2, 3, 4, 5, 6, 7, 8, 9, 10] rfl rfl J.here)
                          · intro gy182 hG
                            replace h0 := B.inl hG h0
                            refine J.seq ?_
                            refine J.region ?_
                            refine J.op rfl rfl rfl (V.mv rfl rfl) ?_
                            obtain ⟨r196, hr197, h0⟩ := B.bind h0
                            refine J.cl (l := [.tmp 380]) [] [.blk b172 [.int .i8 r169.1.Reading, .int .i8 r169.1.Zone] 35, .blk b164 [.int .i8 r161.1.Reading, .int .i8 r161.1.Zone] 35, .blk b127 [.int .i8 r124.1.Reading, .int .i8 r124.1.Zone] 35, .blk b122 [.int .i8 r119.1.Reading, .int .i8 r119.1.Zone] 35, .blk b54 (encA .i64 gy83.1.2.2) 40, .blk b39 [.int .i8 r36.1.Reading, .int .i8 r36.1.Zone] 35, .blk b31 (encA .i64 r28.1) 40, .blk b26 (encA .i8 r23.1) 23, .blk b21 (encA .i8 r18.1) 23, .blk b13 [.int .i8 r10.Reading, .int .i8 r10.Zone] 35, .blk b8 (encA .i8 r5) 26] cf25 (wN rfl) rfl rfl rfl rfl rfl rfl (by simp) (fun w H => spec_A2Setting.calls v0 p0_code r196 w (Own.refl w) (Sl.later0 hS0 H) hr197) fun g198 => ?_
                            refine J.alloc rfl rfl rfl rfl tz54 rfl fun b199 => ?_
                            refine J.stW (cs' := [.int .i8 r196.Shutter, .int .i8 r196.Aperture, .int .i8 r196.Speed]) 0 rfl rfl rfl rfl rfl rfl ts54 rfl (fun u hu => by simp at hu; rcases hu with rfl | rfl | rfl <;> rfl) rfl rfl ?_
                            refine J.nil ?_
                            refine J.tN ?_
                            refine J.seq ?_
                            refine J.region ?_
                            refine J.op rfl rfl rfl (V.ldW 10 rfl rfl rfl ts35 ta35 rfl) ?_
                            obtain ⟨r201, hr202, h0⟩ := B.bind h0
                            refine J.cl (l := [.tmp 383]) [] [.blk b199 [.int .i8 r196.Shutter, .int .i8 r196.Aperture, .int .i8 r196.Speed] 54, .blk b172 [.int .i8 r169.1.Reading, .int .i8 r169.1.Zone] 35, .blk b164 [.int .i8 r161.1.Reading, .int .i8 r161.1.Zone] 35, .blk b127 [.int .i8 r124.1.Reading, .int .i8 r124.1.Zone] 35, .blk b122 [.int .i8 r119.1.Reading, .int .i8 r119.1.Zone] 35, .blk b54 (encA .i64 gy83.1.2.2) 40, .blk b39 [.int .i8 r36.1.Reading, .int .i8 r36.1.Zone] 35, .blk b31 (encA .i64 r28.1) 40, .blk b26 (encA .i8 r23.1) 23, .blk b21 (encA .i8 r18.1) 23, .blk b13 [.int .i8 r10.Reading, .int .i8 r10.Zone] 35, .blk b8 (encA .i8 r5) 26] cf26 (wN rfl) rfl rfl rfl rfl rfl rfl (by simp) (fun w H => impl_ExposureThirds.calls (⟨r10.Reading, r10.Zone⟩ : impl_Placement) r201 w (Own.refl w)  hr202) fun g203 => ?_
                            refine J.op rfl rfl rfl (V.mv rfl rfl) ?_
                            refine J.op rfl rfl rfl (V.ex rfl rfl rfl) ?_
                            refine J.op rfl rfl rfl (V.ex rfl rfl rfl) ?_
                            refine J.op rfl rfl rfl (V.as rfl rfl) ?_
                            refine J.op rfl rfl rfl (V.as rfl rfl) ?_
                            refine J.nil ?_
                            refine J.tN ?_
                            refine J.seq ?_
                            refine J.region ?_
                            refine J.op rfl rfl rfl (V.ldW 0 rfl rfl rfl ts54 ta54 rfl) ?_
                            refine J.op rfl rfl rfl (V.faB rfl rfl tf0_35) ?_
                            refine J.op rfl rfl rfl (V.ldB 10 rfl rfl rfl Try.underlying22 ta22 rfl) ?_
                            refine J.op rfl rfl rfl (V.conv rfl rfl Try.underlying22 Try.underlying2) ?_
                            refine J.op rfl rfl rfl (V.ldW 10 rfl rfl rfl ts35 ta35 rfl) ?_
                            obtain ⟨r204, hr205, h0⟩ := B.bind h0
                            refine J.cl (l := [.tmp 388, .tmp 391, .tmp 392]) [] [.blk b199 [.int .i8 r196.Shutter, .int .i8 r196.Aperture, .int .i8 r196.Speed] 54, .blk b172 [.int .i8 r169.1.Reading, .int .i8 r169.1.Zone] 35, .blk b164 [.int .i8 r161.1.Reading, .int .i8 r161.1.Zone] 35, .blk b127 [.int .i8 r124.1.Reading, .int .i8 r124.1.Zone] 35, .blk b122 [.int .i8 r119.1.Reading, .int .i8 r119.1.Zone] 35, .blk b54 (encA .i64 gy83.1.2.2) 40, .blk b39 [.int .i8 r36.1.Reading, .int .i8 r36.1.Zone] 35, .blk b31 (encA .i64 r28.1) 40, .blk b26 (encA .i8 r23.1) 23, .blk b21 (encA .i8 r18.1) 23, .blk b13 [.int .i8 r10.Reading, .int .i8 r10.Zone] 35, .blk b8 (encA .i8 r5) 26] cf27 (wN rfl) rfl rfl rfl rfl rfl rfl (by simp) (fun w H => impl_SettingFor.calls (⟨r196.Shutter, r196.Aperture, r196.Speed⟩ : impl_Setting) (IntKind.wrap .i64 r10.Reading) (⟨r10.Reading, r10.Zone⟩ : impl_Placement) r204 w (Own.refl w)  hr205) fun g206 => ?_
                            refine J.op rfl rfl rfl (V.mv rfl rfl) ?_
                            refine J.op rfl rfl rfl (V.ex rfl rfl rfl) ?_
                            refine J.op rfl rfl rfl (V.ex rfl rfl rfl) ?_
                            refine J.alloc rfl rfl rfl rfl tz54 rfl fun b207 => ?_
                            refine J.stW (cs' := [.int .i8 r204.1.Shutter, .int .i8 r204.1.Aperture, .int .i8 r204.1.Speed]) 0 rfl rfl rfl rfl rfl rfl ts54 rfl (fun u hu => by simp at hu; rcases hu with rfl | rfl | rfl <;> rfl) rfl rfl ?_
                            refine J.op rfl rfl rfl (V.as rfl rfl) ?_
                            refine J.nil ?_
                            refine J.tN ?_
                            refine J.seq ?_
                            refine J.region ?_
                            refine J.op rfl rfl rfl (V.ldW 1 rfl rfl rfl ts54 ta54 rfl) ?_
                            refine J.op rfl rfl rfl (V.mv rfl rfl) ?_
                            obtain ⟨r209, hr210, h0⟩ := B.bind h0
                            refine J.cl (l := [.tmp 397, .tmp 398]) [] [.blk b207 [.int .i8 r204.1.Shutter, .int .i8 r204.1.Aperture, .int .i8 r204.1.Speed] 54, .blk b199 [.int .i8 r196.Shutter, .int .i8 r196.Aperture, .int .i8 r196.Speed] 54, .blk b172 [.int .i8 r169.1.Reading, .int .i8 r169.1.Zone] 35, .blk b164 [.int .i8 r161.1.Reading, .int .i8 r161.1.Zone] 35, .blk b127 [.int .i8 r124.1.Reading, .int .i8 r124.1.Zone] 35, .blk b122 [.int .i8 r119.1.Reading, .int .i8 r119.1.Zone] 35, .blk b54 (encA .i64 gy83.1.2.2) 40, .blk b39 [.int .i8 r36.1.Reading, .int .i8 r36.1.Zone] 35, .blk b31 (encA .i64 r28.1) 40, .blk b26 (encA .i8 r23.1) 23, .blk b21 (encA .i8 r18.1) 23, .blk b13 [.int .i8 r10.Reading, .int .i8 r10.Zone] 35, .blk b8 (encA .i8 r5) 26] cf28 (wN rfl) rfl rfl rfl rfl rfl rfl (by simp) (fun w H => impl_MoreLight.calls (⟨r196.Shutter, r196.Aperture, r196.Speed⟩ : impl_Setting) r201.1 r209 w (Own.refl w)  hr210) fun g211 => ?_
                            refine J.op rfl rfl rfl (V.mv rfl rfl) ?_
                            refine J.op rfl rfl rfl (V.ex rfl rfl rfl) ?_
                            refine J.op rfl rfl rfl (V.ex rfl rfl rfl) ?_
                            refine J.alloc rfl rfl rfl rfl tz54 rfl fun b212 => ?_
                            refine J.stW (cs' := [.int .i8 r209.1.Shutter, .int .i8 r209.1.Aperture, .int .i8 r209.1.Speed]) 0 rfl rfl rfl rfl rfl rfl ts54 rfl (fun u hu => by simp at hu; rcases hu with rfl | rfl | rfl <;> rfl) rfl rfl ?_
                            refine J.op rfl rfl rfl (V.as rfl rfl) ?_
                            refine J.nil ?_
                            refine J.tN ?_
                            refine J.seq ?_
                            refine J.region ?_
                            refine J.op rfl rfl rfl (V.mv rfl rfl) ?_
                            refine J.op rfl rfl rfl (V.cmp rfl rfl rfl rfl) ?_
                            refine J.op rfl rfl rfl (V.mv rfl rfl) ?_
                            refine J.split 404 rfl (fun hB214 => ?_) (fun hB214 => ?_)
                            · replace h0 := B.t hB214 h0
                              refine J.opOn rfl rfl rfl rfl rfl (V.mv rfl rfl) ?_
                              refine J.opOn rfl rfl rfl rfl rfl (V.faB rfl rfl tf1_35) ?_
                              refine J.opOn rfl rfl rfl rfl rfl (V.ldB 12 rfl rfl rfl Try.underlying22 ta22 rfl) ?_
                              refine J.opOn rfl rfl rfl rfl rfl (V.conv rfl rfl Try.underlying22 Try.underlying2) ?_
                              refine J.opOn rfl rfl rfl rfl rfl (V.ar rfl rfl rfl rfl) ?_
                              refine J.opOn rfl rfl rfl rfl rfl (V.ar rfl rfl rfl rfl) ?_
                              refine J.opOn rfl rfl rfl rfl rfl (V.cmp rfl rfl rfl rfl) ?_
                              refine J.op rfl rfl rfl (V.pkT rfl rfl rfl) ?_
                              refine J.op rfl rfl rfl (V.mv rfl rfl) ?_
                              refine J.split 413 rfl (fun hB215 => ?_) (fun hB215 => ?_)
                              · replace h0 := B.t hB215 h0
                                refine J.opOn rfl rfl rfl rfl rfl (V.mv rfl rfl) ?_
                                refine J.opOn rfl rfl rfl rfl rfl (V.mv rfl rfl) ?_
                                refine J.opOn rfl rfl rfl rfl rfl (V.cmp rfl rfl rfl rfl) ?_
                                refine J.op rfl rfl rfl (V.pkT rfl rfl rfl) ?_
                                refine J.op rfl rfl rfl (V.mv rfl rfl) ?_
                                refine J.split 418 rfl (fun hB216 => ?_) (fun hB216 => ?_)
                                · replace h0 := B.t hB216 h0
                                  refine J.opOn rfl rfl rfl rfl rfl (V.ldW 1 rfl rfl rfl ts54 ta54 rfl) ?_
                                  refine J.opOn rfl rfl rfl rfl rfl (V.ldW 0 rfl rfl rfl ts54 ta54 rfl) ?_
                                  refine J.opOn rfl rfl rfl rfl rfl (eqSt54 rfl rfl rfl) ?_
                                  refine J.op rfl rfl rfl (V.pkT rfl rfl rfl) ?_
                                  refine J.op rfl rfl rfl (V.as rfl rfl) ?_
                                  obtain ⟨t217, et217, h0⟩ := B.lt h0
                                  refine J.val (congrArg (Value.bool) et217) ?_
                                  refine J.nil ?_
                                  refine J.tN ?_
                                  refine J.ret ?_
                                  obtain rfl := B.e h0
                                  exact J.ret1 rfl rfl fun w H => ⟨(), rfl, H.pick [] (by decide)⟩
                                · replace h0 := B.f hB216 h0
                                  refine J.opOff rfl rfl rfl rfl rfl rfl ?_
                                  refine J.opOff rfl rfl rfl rfl rfl rfl ?_
                                  refine J.opOff rfl rfl rfl rfl rfl rfl ?_
                                  refine J.op rfl rfl rfl (V.pkF rfl rfl rfl) ?_
                                  refine J.op rfl rfl rfl (V.as rfl rfl) ?_
                                  refine J.nil ?_
                                  refine J.tN ?_
                                  refine J.ret ?_
                                  obtain rfl := B.e h0
                                  exact J.ret1 rfl rfl fun w H => ⟨(), rfl, H.pick [] (by decide)⟩
                              · replace h0 := B.f hB215 h0
                                refine J.opOff rfl rfl rfl rfl rfl rfl ?_
                                refine J.opOff rfl rfl rfl rfl rfl rfl ?_
                                refine J.opOff rfl rfl rfl rfl rfl rfl ?_
                                refine J.op rfl rfl rfl (V.pkF rfl rfl rfl) ?_
                                refine J.op rfl rfl rfl (V.mv rfl rfl) ?_
                                refine J.opOff rfl rfl rfl rfl rfl rfl ?_
                                refine J.opOff rfl rfl rfl rfl rfl rfl ?_
                                refine J.opOff rfl rfl rfl rfl rfl rfl ?_
                                refine J.op rfl rfl rfl (V.pkF rfl rfl rfl) ?_
                                refine J.op rfl rfl rfl (V.as rfl rfl) ?_
                                refine J.nil ?_
                                refine J.tN ?_
                                refine J.ret ?_
                                obtain rfl := B.e h0
                                exact J.ret1 rfl rfl fun w H => ⟨(), rfl, H.pick [] (by decide)⟩
                            · replace h0 := B.f hB214 h0
                              refine J.opOff rfl rfl rfl rfl rfl rfl ?_
                              refine J.opOff rfl rfl rfl rfl rfl rfl ?_
                              refine J.opOff rfl rfl rfl rfl rfl rfl ?_
                              refine J.opOff rfl rfl rfl rfl rfl rfl ?_
                              refine J.opOff rfl rfl rfl rfl rfl rfl ?_
                              refine J.opOff rfl rfl rfl rfl rfl rfl ?_
                              refine J.opOff rfl rfl rfl rfl rfl rfl ?_
                              refine J.op rfl rfl rfl (V.pkF rfl rfl rfl) ?_
                              refine J.op rfl rfl rfl (V.mv rfl rfl) ?_
                              refine J.opOff rfl rfl rfl rfl rfl rfl ?_
                              refine J.opOff rfl rfl rfl rfl rfl rfl ?_
                              refine J.opOff rfl rfl rfl rfl rfl rfl ?_
                              refine J.op rfl rfl rfl (V.pkF rfl rfl rfl) ?_
                              refine J.op rfl rfl rfl (V.mv rfl rfl) ?_
                              refine J.opOff rfl rfl rfl rfl rfl rfl ?_
                              refine J.opOff rfl rfl rfl rfl rfl rfl ?_
                              refine J.opOff rfl rfl rfl rfl rfl rfl ?_
                              refine J.op rfl rfl rfl (V.pkF rfl rfl rfl) ?_
                              refine J.op rfl rfl rfl (V.as rfl rfl) ?_
                              refine J.nil ?_
                              refine J.tN ?_
                              refine J.ret ?_
                              obtain rfl := B.e h0
                              exact J.ret1 rfl rfl fun w H => ⟨(), rfl, H.pick [] (by decide)⟩

end Go.Proofs.Ytopmellnegcfpaa
