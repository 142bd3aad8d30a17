/- Go functions as Lean functions, and that each call of theirs comes to just that: by a program written for this work (walk.py). No condition. -/
import Derived.Test.YtopmellnegcfpaaF1
namespace Go.Proofs.Ytopmellnegcfpaa
open Go Go.RowKit G
set_option linter.unusedVariables false

/-! ### impl.OffScale: function 18 -/
noncomputable def impl_OffScale.f (p0_s : (Vector Int 24)) (p1_p : impl_Placement) : Option (Int × Int × Int) := (impl_placeCode.f p0_s (⟨p1_p.Reading, p1_p.Zone⟩ : impl_Placement)).bind fun r5 => bif (r5 != 0) then (some (0, 0, r5)) else ((impl_Scene_offScale.f p0_s (⟨p1_p.Reading, p1_p.Zone⟩ : impl_Placement)).bind fun r9 => some (r9.1, r9.2, 0))
set_option maxRecDepth 100000 in
theorem impl_OffScale.calls (p0_s : (Vector Int 24)) (p1_p : impl_Placement) (r : Int × Int × Int) (w : World) (H0 : Own [] w w []) (h0 : impl_OffScale.f p0_s p1_p = some r) :
    Calls Try.prog 18 #[.agg (encA .i8 p0_s).toArray, .agg #[.int .i8 p1_p.Reading, .int .i8 p1_p.Zone]] w (fun e w' => ∃ _ : Unit, e = .returned (.tuple #[.int .u32 r.1, .int .u32 r.2.1, .int .i64 r.2.2]) ∧ Own [] w w' []) := by
  unfold impl_OffScale.f at h0
  replace h0 := B.top h0
  refine calls_of_J (args := [.agg (encA .i8 p0_s).toArray, .agg #[.int .i8 p1_p.Reading, .int .i8 p1_p.Zone]]) Try.func18 rfl Try.ntmps18 rfl [(0, .agg (encA .i8 p0_s).toArray), (1, .agg #[.int .i8 p1_p.Reading, .int .i8 p1_p.Zone])] rfl H0 ?_
  refine J.seq ?_
  refine J.region ?_
  refine J.box rfl rfl rfl rfl rfl (fun _ _ => rfl) fun b1 => ?_
  refine J.box rfl rfl rfl rfl rfl (fun _ _ => rfl) fun b3 => ?_
  refine J.op rfl rfl rfl (V.as rfl rfl) ?_
  refine J.op rfl rfl rfl (V.as rfl rfl) ?_
  refine J.op rfl rfl rfl (V.as rfl rfl) ?_
  refine J.nil ?_
  refine J.tN ?_
  refine J.seq ?_
  refine J.seq ?_
  refine J.region ?_
  refine J.op rfl rfl rfl (V.ldW 1 rfl rfl rfl ts26 ta26 (encA_len _ _)) ?_
  refine J.op rfl rfl rfl (V.ldW 0 rfl rfl rfl ts35 ta35 rfl) ?_
  obtain ⟨r5, hr6, h0⟩ := B.bind h0
  refine J.cl (l := [.tmp 10, .tmp 11]) [] [.blk b3 [.int .i8 p1_p.Reading, .int .i8 p1_p.Zone] 35, .blk b1 (encA .i8 p0_s) 26] cf41 (wN rfl) rfl rfl rfl rfl rfl rfl (by simp) (fun w H => impl_placeCode.calls p0_s (⟨p1_p.Reading, p1_p.Zone⟩ : impl_Placement) r5 w (Own.refl w)  hr6) fun g7 => ?_
  refine J.op rfl rfl rfl (V.as rfl rfl) ?_
  refine J.nil ?_
  refine J.tN ?_
  refine J.seq ?_
  refine J.region ?_
  refine J.op rfl rfl rfl (V.mv rfl rfl) ?_
  refine J.op rfl rfl rfl (V.cmp rfl rfl rfl rfl) ?_
  refine J.nil ?_
  refine J.tN ?_
  refine J.cond rfl (fun hB8 => ?_) (fun hB8 => ?_)
  · replace h0 := B.t hB8 h0
    refine J.seq ?_
    refine J.region ?_
    refine J.op rfl rfl rfl (V.mv rfl rfl) ?_
    refine J.op rfl rfl rfl (V.as rfl rfl) ?_
    refine J.op rfl rfl rfl (V.as rfl rfl) ?_
    refine J.op rfl rfl rfl (V.as rfl rfl) ?_
    refine J.nil ?_
    refine J.tN ?_
    refine J.ret ?_
    refine J.tR ?_
    obtain rfl := B.e h0
    exact J.ret3 rfl rfl rfl rfl fun w H => ⟨(), rfl, H.pick [] (by decide)⟩
  · replace h0 := B.f hB8 h0
    refine J.skip ?_
    refine J.tN ?_
    refine J.seq ?_
    refine J.region ?_
    refine J.op rfl rfl rfl (V.ldW 1 rfl rfl rfl ts26 ta26 (encA_len _ _)) ?_
    refine J.op rfl rfl rfl (V.ldW 0 rfl rfl rfl ts35 ta35 rfl) ?_
    obtain ⟨r9, hr10, h0⟩ := B.bind h0
    refine J.cl (l := [.tmp 17, .tmp 18]) [] [.blk b3 [.int .i8 p1_p.Reading, .int .i8 p1_p.Zone] 35, .blk b1 (encA .i8 p0_s) 26] cf45 (wN rfl) rfl rfl rfl rfl rfl rfl (by simp) (fun w H => impl_Scene_offScale.calls p0_s (⟨p1_p.Reading, p1_p.Zone⟩ : impl_Placement) r9 w (Own.refl w)  hr10) fun g11 => ?_
    refine J.op rfl rfl rfl (V.mv rfl rfl) ?_
    refine J.op rfl rfl rfl (V.ex rfl rfl rfl) ?_
    refine J.op rfl rfl rfl (V.ex rfl rfl rfl) ?_
    refine J.op rfl rfl rfl (V.as rfl rfl) ?_
    refine J.op rfl rfl rfl (V.as rfl rfl) ?_
    refine J.nil ?_
    refine J.tN ?_
    refine J.seq ?_
    refine J.region ?_
    refine J.op rfl rfl rfl (V.mv rfl rfl) ?_
    refine J.op rfl rfl rfl (V.mv rfl rfl) ?_
    refine J.op rfl rfl rfl (V.as rfl rfl) ?_
    refine J.op rfl rfl rfl (V.as rfl rfl) ?_
    refine J.op rfl rfl rfl (V.as rfl rfl) ?_
    refine J.nil ?_
    refine J.tN ?_
    refine J.ret ?_
    obtain rfl := B.e h0
    exact J.ret3 rfl rfl rfl rfl fun w H => ⟨(), rfl, H.pick [] (by decide)⟩

/-! ### impl.PlaceFor: function 19 -/
noncomputable def impl_PlaceFor.f (p0_reading : Int) (p1_zone : Int) : Option (impl_Placement × Int) := ((impl_isReading.f p0_reading).bind fun r5 => bif (!r5) then (some true) else ((impl_isZone.f p1_zone).bind fun r9 => some (!r9)) : Option (Bool)).bind fun y3 => bif y3 then (some ((⟨0, 0⟩ : impl_Placement), 2)) else (some ((⟨IntKind.wrap .i8 p0_reading, IntKind.wrap .i8 p1_zone⟩ : impl_Placement), 0))
set_option maxRecDepth 100000 in
theorem impl_PlaceFor.calls (p0_reading : Int) (p1_zone : Int) (r : impl_Placement × Int) (w : World) (H0 : Own [] w w []) (h0 : impl_PlaceFor.f p0_reading p1_zone = some r) :
    Calls Try.prog 19 #[.int .i64 p0_reading, .int .i64 p1_zone] w (fun e w' => ∃ _ : Unit, e = .returned (.tuple #[.agg #[.int .i8 r.1.Reading, .int .i8 r.1.Zone], .int .i64 r.2]) ∧ Own [] w w' []) := by
  unfold impl_PlaceFor.f at h0
  replace h0 := B.top h0
  refine calls_of_J (args := [.int .i64 p0_reading, .int .i64 p1_zone]) Try.func19 rfl Try.ntmps19 rfl [(0, .int .i64 p0_reading), (1, .int .i64 p1_zone)] rfl H0 ?_
  refine J.seq ?_
  refine J.region ?_
  refine J.alloc rfl rfl rfl rfl tz35 rfl fun b1 => ?_
  refine J.op rfl rfl rfl (V.as rfl rfl) ?_
  refine J.nil ?_
  refine J.tN ?_
  refine J.seq ?_
  refine J.seq ?_
  obtain ⟨y3, hy12, h0⟩ := B.bind h0
  replace hy12 := B.top hy12
  refine J.cut (γ := Unit) (fun _ => True) (fun gy4 => [(0, .int .i64 p0_reading), (1, .int .i64 p1_zone), (4, bp b1 0), (13, .bool y3)]) (fun gy4 => [.blk b1 [.int .i8 0, .int .i8 0] 35]) ?_ ?_
  · have h1 := hy12
    refine J.region ?_
    refine J.op rfl rfl rfl (V.mv rfl rfl) ?_
    obtain ⟨r5, hr6, h1⟩ := B.bind h1
    refine J.cl (l := [.tmp 6]) [] [.blk b1 [.int .i8 0, .int .i8 0] 35] cf39 (wN rfl) rfl rfl rfl rfl rfl rfl (by simp) (fun w H => impl_isReading.calls p0_reading r5 w (Own.refl w)  hr6) fun g7 => ?_
    refine J.op rfl rfl rfl (V.nt rfl rfl) ?_
    refine J.op rfl rfl rfl (V.mv rfl rfl) ?_
    refine J.split 9 rfl (fun hB8 => ?_) (fun hB8 => ?_)
    · replace h1 := B.t hB8 h1
      refine J.opOff rfl rfl rfl rfl rfl rfl ?_
      refine J.opOff rfl rfl rfl rfl rfl rfl ?_
      refine J.opOff rfl rfl rfl rfl rfl rfl ?_
      refine J.op rfl rfl rfl (V.pkT rfl rfl rfl) ?_
      refine J.nil ?_
      obtain rfl := B.e h1
      refine J.tN (J.to () trivial ?_)
      exact J.keep _ rfl (J.pickE [0] rfl rfl J.here)
    · replace h1 := B.f hB8 h1
      refine J.opOn rfl rfl rfl rfl rfl (V.mv rfl rfl) ?_
      obtain ⟨r9, hr10, h1⟩ := B.bind h1
      refine J.cl (l := [.tmp 10]) [] [.blk b1 [.int .i8 0, .int .i8 0] 35] cf46 (wY rfl rfl rfl) rfl rfl rfl rfl rfl rfl (by simp) (fun w H => impl_isZone.calls p1_zone r9 w (Own.refl w)  hr10) fun g11 => ?_
      refine J.opOn rfl rfl rfl rfl rfl (V.nt rfl rfl) ?_
      refine J.op rfl rfl rfl (V.pkF rfl rfl rfl) ?_
      refine J.nil ?_
      obtain rfl := B.e h1
      refine J.tN (J.to () trivial ?_)
      exact J.keep _ rfl (J.pickE [0] rfl rfl J.here)
  · intro gy4 _
    refine J.cond rfl (fun hB13 => ?_) (fun hB13 => ?_)
    · replace h0 := B.t hB13 h0
      refine J.seq ?_
      refine J.region ?_
      refine J.op rfl rfl rfl (V.bd (l := []) (v := .agg #[.int .i8 0, .int .i8 0]) rfl rfl (fun w H => by kernel_rfl)) ?_
      refine J.stW (cs' := [.int .i8 0, .int .i8 0]) 0 rfl rfl rfl rfl rfl rfl ts35 rfl (fun u hu => by simp at hu; rcases hu with rfl | rfl <;> rfl) rfl rfl ?_
      refine J.op rfl rfl rfl (V.as rfl rfl) ?_
      refine J.nil ?_
      refine J.tN ?_
      refine J.ret ?_
      refine J.tR ?_
      obtain rfl := B.e h0
      exact J.retC_1 0 rfl rfl rfl ts35 ta35 rfl rfl fun w H => ⟨(), rfl, H.pick [] (by decide)⟩
    · replace h0 := B.f hB13 h0
      refine J.skip ?_
      refine J.tN ?_
      refine J.seq ?_
      refine J.region ?_
      refine J.op rfl rfl rfl (V.mv rfl rfl) ?_
      refine J.op rfl rfl rfl (V.conv rfl rfl Try.underlying2 Try.underlying22) ?_
      refine J.op rfl rfl rfl (V.mv rfl rfl) ?_
      refine J.op rfl rfl rfl (V.conv rfl rfl Try.underlying2 Try.underlying22) ?_
      refine J.op rfl rfl rfl (V.bd (l := [(0, .tmp 16), (1, .tmp 18)]) (v := .agg #[.int .i8 (IntKind.wrap .i8 p0_reading), .int .i8 (IntKind.wrap .i8 p1_zone)]) rfl rfl (fun w H => by kernel_rfl)) ?_
      refine J.stW (cs' := [.int .i8 (IntKind.wrap .i8 p0_reading), .int .i8 (IntKind.wrap .i8 p1_zone)]) 0 rfl rfl rfl rfl rfl rfl ts35 rfl (fun u hu => by simp at hu; rcases hu with rfl | rfl <;> rfl) rfl rfl ?_
      refine J.op rfl rfl rfl (V.as rfl rfl) ?_
      refine J.nil ?_
      refine J.tN ?_
      refine J.ret ?_
      obtain rfl := B.e h0
      exact J.retC_1 0 rfl rfl rfl ts35 ta35 rfl rfl fun w H => ⟨(), rfl, H.pick [] (by decide)⟩

/-! ### impl.cellsOf: function 47 -/
noncomputable def impl_cellsOf.b1  : (Int × Int) → Option (Step (Int × Int) (Int)) := fun s1 => bif (s1.1 != 0) then ((some (IntKind.wrap .i64 (s1.2 + 1))).bind fun count_5 => (some (Go.bits .and .u32 s1.1 (IntKind.wrap .u32 (s1.1 - 1)))).bind fun field_6 => some (.next (field_6, count_5))) else (some (.done s1.2))
noncomputable def impl_cellsOf.f (p0_field : Int) : Option (Int) := (loopW impl_cellsOf.b1 (p0_field, 0)).bind fun y7 => some y7
set_option maxRecDepth 100000 in
theorem impl_cellsOf.calls (p0_field : Int) (r : Int) (w : World) (H0 : Own [] w w []) (h0 : impl_cellsOf.f p0_field = some r) :
    Calls Try.prog 47 #[.int .u32 p0_field] w (fun e w' => ∃ _ : Unit, e = .returned (.int .i64 r) ∧ Own [] w w' []) := by
  unfold impl_cellsOf.f at h0
  replace h0 := B.top h0
  refine calls_of_J (args := [.int .u32 p0_field]) Try.func47 rfl Try.ntmps47 rfl [(0, .int .u32 p0_field)] rfl H0 ?_
  refine J.seq ?_
  refine J.region ?_
  refine J.op rfl rfl rfl (V.as rfl rfl) ?_
  refine J.nil ?_
  refine J.tN ?_
  refine J.seq ?_
  refine J.region ?_
  refine J.op rfl rfl rfl (V.as rfl rfl) ?_
  refine J.nil ?_
  refine J.tN ?_
  refine J.seq ?_
  obtain ⟨y7, hy9, h0⟩ := B.bind h0
  refine J.cut (γ := Unit) (fun _ => True) (fun gy8 => [(3, .int .i64 y7)]) (fun gy8 => []) ?_ ?_
  · refine J.block ?_
    refine J.loop (γ := Unit) hy9 (fun s1 g2 => [(0, .int .u32 s1.1), (3, .int .i64 s1.2)]) (fun s1 g2 => []) () ?_ ?_
    · exact J.keep _ rfl (J.pickE [] rfl rfl J.here)
    · intro rec3 s1 g2 h1
      unfold impl_cellsOf.b1 at h1
      refine J.seq ?_
      refine J.seq ?_
      refine J.region ?_
      refine J.op rfl rfl rfl (V.mv rfl rfl) ?_
      refine J.op rfl rfl rfl (V.cmp rfl rfl rfl rfl) ?_
      refine J.nil ?_
      refine J.tN ?_
      refine J.cond rfl (fun hB4 => ?_) (fun hB4 => ?_)
      · replace h1 := B.t hB4 h1
        refine J.skip ?_
        refine J.tN ?_
        refine J.seq ?_
        refine J.block ?_
        refine J.region ?_
        refine J.op rfl rfl rfl (V.mv rfl rfl) ?_
        refine J.op rfl rfl rfl (V.ar rfl rfl rfl rfl) ?_
        refine J.op rfl rfl rfl (V.as rfl rfl) ?_
        obtain ⟨count_5, ecount_5, h1⟩ := B.lt h1
        refine J.val (congrArg (Value.int .i64) ecount_5) ?_
        refine J.nil ?_
        refine J.bN ?_
        refine J.tN ?_
        refine J.region ?_
        refine J.op rfl rfl rfl (V.mv rfl rfl) ?_
        refine J.op rfl rfl rfl (V.mv rfl rfl) ?_
        refine J.op rfl rfl rfl (V.ar rfl rfl rfl rfl) ?_
        refine J.op rfl rfl rfl (V.ar rfl rfl rfl rfl) ?_
        refine J.op rfl rfl rfl (V.as rfl rfl) ?_
        obtain ⟨field_6, efield_6, h1⟩ := B.lt h1
        refine J.val (congrArg (Value.int .u32) efield_6) ?_
        refine J.nil ?_
        refine J.tN (J.next (field_6, count_5) () (B.n h1) ?_)
        exact J.keep _ rfl (J.pickE [] rfl rfl J.here)
      · replace h1 := B.f hB4 h1
        refine J.exit ?_
        refine J.tE ?_
        refine J.tE ?_
        refine J.bE ?_
        obtain rfl := B.d h1
        refine J.tN (J.to () trivial ?_)
        exact J.keep _ rfl (J.pickE [] rfl rfl J.here)
  · intro gy8 _
    refine J.seq ?_
    refine J.region ?_
    refine J.op rfl rfl rfl (V.mv rfl rfl) ?_
    refine J.op rfl rfl rfl (V.as rfl rfl) ?_
    refine J.nil ?_
    refine J.tN ?_
    refine J.ret ?_
    obtain rfl := B.e h0
    exact J.ret1 rfl rfl fun w H => ⟨(), rfl, H.pick [] (by decide)⟩

/-! ### impl.BestPlacement: function 20 -/
noncomputable def impl_BestPlacement.b1 (p0_s : (Vector Int 24)) : (Int × Int × Int × Int) → Option (Step (Int × Int × Int × Int) (Int × Int × Int)) := fun s11 => (impl_isReading.f (IntKind.wrap .i64 s11.2.1)).bind fun r14 => bif r14 then ((impl_Scene_offScale.f p0_s (⟨s11.2.1, 5⟩ : impl_Placement)).bind fun r20 => (impl_cellsOf.f (Go.bits .or .u32 r20.1 r20.2)).bind fun r23 => (bif (decide (s11.1 < 0)) then (some true) else (some (decide (r23 < s11.1))) : Option (Bool)).bind fun y26 => bif y26 then ((some (IntKind.wrap .i8 (s11.2.1 + 1))).bind fun reading_31 => some (.next (r23, reading_31, 5, s11.2.1))) else ((some (IntKind.wrap .i8 (s11.2.1 + 1))).bind fun reading_32 => some (.next (s11.1, reading_32, s11.2.2.1, s11.2.2.2)))) else (some (.done (s11.1, s11.2.2.1, s11.2.2.2)))
noncomputable def impl_BestPlacement.f (p0_s : (Vector Int 24)) : Option (impl_Placement × Int × Int) := (impl_ValidScene.f p0_s).bind fun r5 => bif (!r5) then (some ((⟨0, 0⟩ : impl_Placement), 0, 1)) else ((loopW (impl_BestPlacement.b1 p0_s) ((-1), 0, 0, 0)).bind fun y33 => some ((⟨y33.2.2, y33.2.1⟩ : impl_Placement), y33.1, 0))
set_option maxRecDepth 100000 in
theorem impl_BestPlacement.calls (p0_s : (Vector Int 24)) (r : impl_Placement × Int × Int) (w : World) (H0 : Own [] w w []) (h0 : impl_BestPlacement.f p0_s = some r) :
    Calls Try.prog 20 #[.agg (encA .i8 p0_s).toArray] w (fun e w' => ∃ _ : Unit, e = .returned (.tuple #[.agg #[.int .i8 r.1.Reading, .int .i8 r.1.Zone], .int .i64 r.2.1, .int .i64 r.2.2]) ∧ Own [] w w' []) := by
  unfold impl_BestPlacement.f at h0
  replace h0 := B.top h0
  refine calls_of_J (args := [.agg (encA .i8 p0_s).toArray]) Try.func20 rfl Try.ntmps20 rfl [(0, .agg (encA .i8 p0_s).toArray)] rfl H0 ?_
  refine J.seq ?_
  refine J.region ?_
  refine J.box rfl rfl rfl rfl rfl (fun _ _ => rfl) fun b1 => ?_
  refine J.alloc rfl rfl rfl rfl tz35 rfl fun b3 => ?_
  refine J.op rfl rfl rfl (V.as rfl rfl) ?_
  refine J.op rfl rfl rfl (V.as rfl rfl) ?_
  refine J.nil ?_
  refine J.tN ?_
  refine J.seq ?_
  refine J.seq ?_
  refine J.region ?_
  refine J.op rfl rfl rfl (V.ldW 1 rfl rfl rfl ts26 ta26 (encA_len _ _)) ?_
  obtain ⟨r5, hr6, h0⟩ := B.bind h0
  refine J.cl (l := [.tmp 12]) [] [.blk b3 [.int .i8 0, .int .i8 0] 35, .blk b1 (encA .i8 p0_s) 26] cf31 (wN rfl) rfl rfl rfl rfl rfl rfl (by simp) (fun w H => impl_ValidScene.calls p0_s r5 w (Own.refl w)  hr6) fun g7 => ?_
  refine J.op rfl rfl rfl (V.nt rfl rfl) ?_
  refine J.nil ?_
  refine J.tN ?_
  refine J.cond rfl (fun hB8 => ?_) (fun hB8 => ?_)
  · replace h0 := B.t hB8 h0
    refine J.seq ?_
    refine J.region ?_
    refine J.op rfl rfl rfl (V.bd (l := []) (v := .agg #[.int .i8 0, .int .i8 0]) rfl rfl (fun w H => by kernel_rfl)) ?_
    refine J.stW (cs' := [.int .i8 0, .int .i8 0]) 0 rfl rfl rfl rfl rfl rfl ts35 rfl (fun u hu => by simp at hu; rcases hu with rfl | rfl <;> rfl) rfl rfl ?_
    refine J.op rfl rfl rfl (V.as rfl rfl) ?_
    refine J.op rfl rfl rfl (V.as rfl rfl) ?_
    refine J.nil ?_
    refine J.tN ?_
    refine J.ret ?_
    refine J.tR ?_
    obtain rfl := B.e h0
    exact J.retC_2 0 rfl rfl rfl ts35 ta35 rfl rfl rfl fun w H => ⟨(), rfl, H.pick [] (by decide)⟩
  · replace h0 := B.f hB8 h0
    refine J.skip ?_
    refine J.tN ?_
    refine J.seq ?_
    refine J.region ?_
    refine J.op rfl rfl rfl (V.bd (l := []) (v := .agg #[.int .i8 0, .int .i8 0]) rfl rfl (fun w H => by kernel_rfl)) ?_
    refine J.alloc rfl rfl rfl rfl tz35 rfl fun b9 => ?_
    refine J.stW (cs' := [.int .i8 0, .int .i8 0]) 0 rfl rfl rfl rfl rfl rfl ts35 rfl (fun u hu => by simp at hu; rcases hu with rfl | rfl <;> rfl) rfl rfl ?_
    refine J.op rfl rfl rfl (V.as rfl rfl) ?_
    refine J.nil ?_
    refine J.tN ?_
    refine J.seq ?_
    refine J.seq ?_
    refine J.region ?_
    refine J.op rfl rfl rfl (V.as rfl rfl) ?_
    refine J.nil ?_
    refine J.tN ?_
    obtain ⟨y33, hy35, h0⟩ := B.bind h0
    refine J.cutQ (γ := Unit) (fun _ => True) (fun gy34 => [(2, bp b3 0), (5, bp b9 0), (6, .int .i64 y33.1)]) (fun gy34 => [.blk b9 [.int .i8 y33.2.2, .int .i8 y33.2.1] 35, .blk b3 [.int .i8 0, .int .i8 0] 35, .blk b1 (encA .i8 p0_s) 26]) ?_ ?_
    · refine J.block ?_
      refine J.loop (γ := Unit) hy35 (fun s11 g12 => [(1, bp b1 0), (2, bp b3 0), (5, bp b9 0), (6, .int .i64 s11.1), (7, .int .i8 s11.2.1)]) (fun s11 g12 => [.blk b9 [.int .i8 s11.2.2.2, .int .i8 s11.2.2.1] 35, .blk b3 [.int .i8 0, .int .i8 0] 35, .blk b1 (encA .i8 p0_s) 26]) () ?_ ?_
      · exact J.keep _ rfl (J.pickE [0, 1, 2] rfl rfl J.here)
      · intro rec13 s11 g12 h1
        unfold impl_BestPlacement.b1 at h1
        refine J.seq ?_
        refine J.seq ?_
        refine J.region ?_
        refine J.op rfl rfl rfl (V.mv rfl rfl) ?_
        refine J.op rfl rfl rfl (V.conv rfl rfl Try.underlying22 Try.underlying2) ?_
        obtain ⟨r14, hr15, h1⟩ := B.bind h1
        refine J.cl (l := [.tmp 18]) [] [.blk b9 [.int .i8 s11.2.2.2, .int .i8 s11.2.2.1] 35, .blk b3 [.int .i8 0, .int .i8 0] 35, .blk b1 (encA .i8 p0_s) 26] cf39 (wN rfl) rfl rfl rfl rfl rfl rfl (by simp) (fun w H => impl_isReading.calls (IntKind.wrap .i64 s11.2.1) r14 w (Own.refl w)  hr15) fun g16 => ?_
        refine J.nil ?_
        refine J.tN ?_
        refine J.cond rfl (fun hB17 => ?_) (fun hB17 => ?_)
        · replace h1 := B.t hB17 h1
          refine J.skip ?_
          refine J.tN ?_
          refine J.seq ?_
          refine J.block ?_
          refine J.seq ?_
          refine J.region ?_
          refine J.op rfl rfl rfl (V.mv rfl rfl) ?_
          refine J.op rfl rfl rfl (V.bd (l := [(0, .tmp 22), (1, .const (.int .i8 5))]) (v := .agg #[.int .i8 s11.2.1, .int .i8 5]) rfl rfl (fun w H => by kernel_rfl)) ?_
          refine J.alloc rfl rfl rfl rfl tz35 rfl fun b18 => ?_
          refine J.stW (cs' := [.int .i8 s11.2.1, .int .i8 5]) 0 rfl rfl rfl rfl rfl rfl ts35 rfl (fun u hu => by simp at hu; rcases hu with rfl | rfl <;> rfl) rfl rfl ?_
          refine J.nil ?_
          refine J.tN ?_
          refine J.seq ?_
          refine J.region ?_
          refine J.op rfl rfl rfl (V.ldW 3 rfl rfl rfl ts26 ta26 (encA_len _ _)) ?_
          refine J.op rfl rfl rfl (V.ldW 0 rfl rfl rfl ts35 ta35 rfl) ?_
          obtain ⟨r20, hr21, h1⟩ := B.bind h1
          refine J.cl (l := [.tmp 25, .tmp 26]) [] [.blk b18 [.int .i8 s11.2.1, .int .i8 5] 35, .blk b9 [.int .i8 s11.2.2.2, .int .i8 s11.2.2.1] 35, .blk b3 [.int .i8 0, .int .i8 0] 35, .blk b1 (encA .i8 p0_s) 26] cf45 (wN rfl) rfl rfl rfl rfl rfl rfl (by simp) (fun w H => impl_Scene_offScale.calls p0_s (⟨s11.2.1, 5⟩ : impl_Placement) r20 w (Own.refl w)  hr21) fun g22 => ?_
          refine J.op rfl rfl rfl (V.mv rfl rfl) ?_
          refine J.op rfl rfl rfl (V.ex rfl rfl rfl) ?_
          refine J.op rfl rfl rfl (V.ex rfl rfl rfl) ?_
          refine J.op rfl rfl rfl (V.as rfl rfl) ?_
          refine J.op rfl rfl rfl (V.as rfl rfl) ?_
          refine J.nil ?_
          refine J.tN ?_
          refine J.seq ?_
          refine J.region ?_
          refine J.op rfl rfl rfl (V.mv rfl rfl) ?_
          refine J.op rfl rfl rfl (V.mv rfl rfl) ?_
          refine J.op rfl rfl rfl (V.ar rfl rfl rfl rfl) ?_
          obtain ⟨r23, hr24, h1⟩ := B.bind h1
          refine J.cl (l := [.tmp 32]) [] [.blk b18 [.int .i8 s11.2.1, .int .i8 5] 35, .blk b9 [.int .i8 s11.2.2.2, .int .i8 s11.2.2.1] 35, .blk b3 [.int .i8 0, .int .i8 0] 35, .blk b1 (encA .i8 p0_s) 26] cf47 (wN rfl) rfl rfl rfl rfl rfl rfl (by simp) (fun w H => impl_cellsOf.calls (Go.bits .or .u32 r20.1 r20.2) r23 w (Own.refl w)  hr24) fun g25 => ?_
          refine J.op rfl rfl rfl (V.as rfl rfl) ?_
          refine J.nil ?_
          refine J.tN ?_
          refine J.seq ?_
          obtain ⟨y26, hy29, h1⟩ := B.bind h1
          replace hy29 := B.top hy29
          refine J.cut (γ := Unit) (fun _ => True) (fun gy27 => [(1, bp b1 0), (2, bp b3 0), (5, bp b9 0), (6, .int .i64 s11.1), (7, .int .i8 s11.2.1), (8, bp b18 0), (11, .int .i64 r23), (40, .bool y26)]) (fun gy27 => [.blk b18 [.int .i8 s11.2.1, .int .i8 5] 35, .blk b9 [.int .i8 s11.2.2.2, .int .i8 s11.2.2.1] 35, .blk b3 [.int .i8 0, .int .i8 0] 35, .blk b1 (encA .i8 p0_s) 26]) ?_ ?_
          · have h2 := hy29
            refine J.region ?_
            refine J.op rfl rfl rfl (V.mv rfl rfl) ?_
            refine J.op rfl rfl rfl (V.cmp rfl rfl rfl rfl) ?_
            refine J.op rfl rfl rfl (V.mv rfl rfl) ?_
            refine J.split 36 rfl (fun hB28 => ?_) (fun hB28 => ?_)
            · replace h2 := B.t hB28 h2
              refine J.opOff rfl rfl rfl rfl rfl rfl ?_
              refine J.opOff rfl rfl rfl rfl rfl rfl ?_
              refine J.opOff rfl rfl rfl rfl rfl rfl ?_
              refine J.op rfl rfl rfl (V.pkT rfl rfl rfl) ?_
              refine J.nil ?_
              obtain rfl := B.e h2
              refine J.tN (J.to () trivial ?_)
              exact J.keep _ rfl (J.pickE [0, 1, 2, 3] rfl rfl J.here)
            · replace h2 := B.f hB28 h2
              refine J.opOn rfl rfl rfl rfl rfl (V.mv rfl rfl) ?_
              refine J.opOn rfl rfl rfl rfl rfl (V.mv rfl rfl) ?_
              refine J.opOn rfl rfl rfl rfl rfl (V.cmp rfl rfl rfl rfl) ?_
              refine J.op rfl rfl rfl (V.pkF rfl rfl rfl) ?_
              refine J.nil ?_
              obtain rfl := B.e h2
              refine J.tN (J.to () trivial ?_)
              exact J.keep _ rfl (J.pickE [0, 1, 2, 3] rfl rfl J.here)
          · intro gy27 _
            refine J.cond rfl (fun hB30 => ?_) (fun hB30 => ?_)
            · replace h1 := B.t hB30 h1
              refine J.region ?_
              refine J.op rfl rfl rfl (V.ldW 0 rfl rfl rfl ts35 ta35 rfl) ?_
              refine J.op rfl rfl rfl (V.mv rfl rfl) ?_
              refine J.stW (cs' := [.int .i8 s11.2.1, .int .i8 5]) 1 rfl rfl rfl rfl rfl rfl ts35 rfl (fun u hu => by simp at hu; rcases hu with rfl | rfl <;> rfl) rfl rfl ?_
              refine J.op rfl rfl rfl (V.as rfl rfl) ?_
              refine J.nil ?_
              refine J.bN ?_
              refine J.tN ?_
              refine J.region ?_
              refine J.op rfl rfl rfl (V.mv rfl rfl) ?_
              refine J.op rfl rfl rfl (V.ar rfl rfl rfl rfl) ?_
              refine J.op rfl rfl rfl (V.as rfl rfl) ?_
              obtain ⟨reading_31, ereading_31, h1⟩ := B.lt h1
              refine J.val (congrArg (Value.int .i8) ereading_31) ?_
              refine J.nil ?_
              refine J.tN (J.next (r23, reading_31, 5, s11.2.1) () (B.n h1) ?_)
              exact J.keep _ rfl (J.pickE [1, 2, 3] rfl rfl J.here)
            · replace h1 := B.f hB30 h1
              refine J.skip ?_
              refine J.bN ?_
              refine J.tN ?_
              refine J.region ?_
              refine J.op rfl rfl rfl (V.mv rfl rfl) ?_
              refine J.op rfl rfl rfl (V.ar rfl rfl rfl rfl) ?_
              refine J.op rfl rfl rfl (V.as rfl rfl) ?_
              obtain ⟨reading_32, ereading_32, h1⟩ := B.lt h1
              refine J.val (congrArg (Value.int .i8) ereading_32) ?_
              refine J.nil ?_
              refine J.tN (J.next (s11.1, reading_32, s11.2.2.1, s11.2.2.2) () (B.n h1) ?_)
              exact J.keep _ rfl (J.pickE [1, 2, 3] rfl rfl J.here)
        · replace h1 := B.f hB17 h1
          refine J.exit ?_
          refine J.tE ?_
          refine J.tE ?_
          refine J.bE ?_
          obtain rfl := B.d h1
          refine J.tN (J.to () trivial ?_)
          exact J.keep _ rfl (J.pickE [0, 1, 2] rfl rfl J.here)
    · intro gy34 _
      refine J.tN ?_
      refine J.seq ?_
      refine J.region ?_
      refine J.op rfl rfl rfl (V.ldW 0 rfl rfl rfl ts35 ta35 rfl) ?_
      refine J.op rfl rfl rfl (V.mv rfl rfl) ?_
      refine J.stW (cs' := [.int .i8 y33.2.2, .int .i8 y33.2.1]) 1 rfl rfl rfl rfl rfl rfl ts35 rfl (fun u hu => by simp at hu; rcases hu with rfl | rfl <;> rfl) rfl rfl ?_
      refine J.op rfl rfl rfl (V.as rfl rfl) ?_
      refine J.op rfl rfl rfl (V.as rfl rfl) ?_
      refine J.nil ?_
      refine J.tN ?_
      refine J.ret ?_
      obtain rfl := B.e h0
      exact J.retC_2 1 rfl rfl rfl ts35 ta35 rfl rfl rfl fun w H => ⟨(), rfl, H.pick [] (by decide)⟩

/-! ### spec.l06Off: function 48 -/
noncomputable def spec_l06Off.b1 (p0_s : (Vector Int 24)) (p1_p : impl_Placement) : (Int × Int × Int) → Option (Step (Int × Int × Int) (Int × Int)) := fun s3 => bif (decide (s3.2.2 < 24)) then (bif (inB s3.2.2 24) then ((spec_l06Zone.f (⟨p1_p.Reading, p1_p.Zone⟩ : impl_Placement) (IntKind.wrap .i64 (rdA p0_s s3.2.2))).bind fun r8 => (bif (decide (r8 < 0)) then (bif (decide (0 ≤ (IntKind.wrap .u64 s3.2.2))) then ((some (Go.bits .or .u32 s3.1 (shL .u32 1 (IntKind.wrap .u64 s3.2.2)))).bind fun below_15 => some below_15) else none) else (some s3.1) : Option (Int)).bind fun y11 => bif (decide (11 ≤ r8)) then (bif (decide (0 ≤ (IntKind.wrap .u64 s3.2.2))) then ((some (Go.bits .or .u32 s3.2.1 (shL .u32 1 (IntKind.wrap .u64 s3.2.2)))).bind fun above_19 => (some (IntKind.wrap .i64 (s3.2.2 + 1))).bind fun i_20 => some (.next (y11, above_19, i_20))) else none) else ((some (IntKind.wrap .i64 (s3.2.2 + 1))).bind fun i_21 => some (.next (y11, s3.2.1, i_21)))) else none) else (some (.done (s3.1, s3.2.1)))
noncomputable def spec_l06Off.f (p0_s : (Vector Int 24)) (p1_p : impl_Placement) : Option (Int × Int) := (loopW (spec_l06Off.b1 p0_s p1_p) (0, 0, 0)).bind fun y22 => some (y22.1, y22.2)
set_option maxRecDepth 100000 in
theorem spec_l06Off.calls (b0_ : Nat) (p0_s : (Vector Int 24)) (p1_p : impl_Placement) (r : Int × Int) (w : World) (H0 : Own [b0_] w w [.blk b0_ (encA .i8 p0_s) 26]) (h0 : spec_l06Off.f p0_s p1_p = some r) :
    Calls Try.prog 48 #[bp b0_ 0, .agg #[.int .i8 p1_p.Reading, .int .i8 p1_p.Zone]] w (fun e w' => ∃ _ : Unit, e = .returned (.tuple #[.int .u32 r.1, .int .u32 r.2]) ∧ Own [b0_] w w' [.blk b0_ (encA .i8 p0_s) 26]) := by
  unfold spec_l06Off.f at h0
  replace h0 := B.top h0
  refine calls_of_J (args := [bp b0_ 0, .agg #[.int .i8 p1_p.Reading, .int .i8 p1_p.Zone]]) Try.func48 rfl Try.ntmps48 rfl [(0, bp b0_ 0), (1, .agg #[.int .i8 p1_p.Reading, .int .i8 p1_p.Zone])] rfl H0 ?_
  refine J.seq ?_
  refine J.region ?_
  refine J.box rfl rfl rfl rfl rfl (fun _ _ => rfl) fun b1 => ?_
  refine J.op rfl rfl rfl (V.as rfl rfl) ?_
  refine J.op rfl rfl rfl (V.as rfl rfl) ?_
  refine J.nil ?_
  refine J.tN ?_
  refine J.seq ?_
  refine J.region ?_
  refine J.op rfl rfl rfl (V.as rfl rfl) ?_
  refine J.nil ?_
  refine J.tN ?_
  refine J.seq ?_
  refine J.region ?_
  refine J.op rfl rfl rfl (V.as rfl rfl) ?_
  refine J.nil ?_
  refine J.tN ?_
  refine J.seq ?_
  refine J.seq ?_
  refine J.region ?_
  refine J.op rfl rfl rfl (V.as rfl rfl) ?_
  refine J.nil ?_
  refine J.tN ?_
  obtain ⟨y22, hy24, h0⟩ := B.bind h0
  refine J.cutQ (γ := Unit) (fun _ => True) (fun gy23 => [(6, .int .u32 y22.1), (7, .int .u32 y22.2)]) (fun gy23 => [.blk b1 [.int .i8 p1_p.Reading, .int .i8 p1_p.Zone] 35, .blk b0_ (encA .i8 p0_s) 26]) ?_ ?_
  · refine J.block ?_
    refine J.loop (γ := Unit) hy24 (fun s3 g4 => [(0, bp b0_ 0), (3, bp b1 0), (6, .int .u32 s3.1), (7, .int .u32 s3.2.1), (8, .int .i64 s3.2.2)]) (fun s3 g4 => [.blk b1 [.int .i8 p1_p.Reading, .int .i8 p1_p.Zone] 35, .blk b0_ (encA .i8 p0_s) 26]) () ?_ ?_
    · exact J.keep _ rfl (J.pickE [0, 1] rfl rfl J.here)
    · intro rec5 s3 g4 h1
      unfold spec_l06Off.b1 at h1
      refine J.seq ?_
      refine J.seq ?_
      refine J.region ?_
      refine J.op rfl rfl rfl (V.mv rfl rfl) ?_
      refine J.op rfl rfl rfl (V.cmp rfl rfl rfl rfl) ?_
      refine J.nil ?_
      refine J.tN ?_
      refine J.cond rfl (fun hB6 => ?_) (fun hB6 => ?_)
      · replace h1 := B.t hB6 h1
        refine J.skip ?_
        refine J.tN ?_
        refine J.seq ?_
        refine J.block ?_
        refine J.seq ?_
        refine J.quiet mixed (by kernel_rfl) ?_
        refine JQ.op rfl rfl rfl (V.ldW 0 rfl rfl rfl ts35 ta35 rfl) ?_
        refine JQ.op rfl rfl rfl (V.mv rfl rfl) ?_
        refine JQ.op rfl rfl rfl (V.mv rfl rfl) ?_
        refine JQ.op rfl rfl rfl (V.nc rfl rfl) ?_
        obtain ⟨hC7, h1⟩ := B.chk h1
        refine JQ.op rfl rfl rfl (V.ixB rfl rfl rfl tr26 ts22 hC7) ?_
        refine JQ.op rfl rfl rfl (V.ldB 1 rfl rfl rfl Try.underlying22 ta22 (encA_get0 .i8 _ hC7)) ?_
        refine JQ.op rfl rfl rfl (V.conv rfl rfl Try.underlying22 Try.underlying2) ?_
        obtain ⟨r8, hr9, h1⟩ := B.bind h1
        obtain ⟨_, cf1, cf2, cf3⟩ := cf44
        refine JQ.cl (l := [.tmp 14, .tmp 20]) cf1 cf2 cf3 (wN rfl) rfl rfl rfl rfl rfl (fun w H => spec_l06Zone.calls (⟨p1_p.Reading, p1_p.Zone⟩ : impl_Placement) (IntKind.wrap .i64 (rdA p0_s s3.2.2)) r8 w (Own.refl w)  hr9) ?_
        refine JQ.op rfl rfl rfl (V.as rfl rfl) ?_
        refine JQ.nil ?_
        refine J.tN ?_
        refine J.seq ?_
        obtain ⟨y11, hy16, h1⟩ := B.bind h1
        replace hy16 := B.top hy16
        refine J.cut (γ := Unit) (fun _ => True) (fun gy12 => [(0, bp b0_ 0), (3, bp b1 0), (6, .int .u32 y11), (7, .int .u32 s3.2.1), (8, .int .i64 s3.2.2), (9, .int .i64 r8)]) (fun gy12 => [.blk b1 [.int .i8 p1_p.Reading, .int .i8 p1_p.Zone] 35, .blk b0_ (encA .i8 p0_s) 26]) ?_ ?_
        · have h2 := hy16
          refine J.seq ?_
          refine J.region ?_
          refine J.op rfl rfl rfl (V.mv rfl rfl) ?_
          refine J.op rfl rfl rfl (V.cmp rfl rfl rfl rfl) ?_
          refine J.nil ?_
          refine J.tN ?_
          refine J.cond rfl (fun hB13 => ?_) (fun hB13 => ?_)
          · replace h2 := B.t hB13 h2
            refine J.region ?_
            refine J.op rfl rfl rfl (V.mv rfl rfl) ?_
            refine J.op rfl rfl rfl (V.mv rfl rfl) ?_
            refine J.op rfl rfl rfl (V.conv rfl rfl Try.underlying3 Try.underlying48) ?_
            obtain ⟨hC14, h2⟩ := B.chk h2
            refine J.op rfl rfl rfl (V.shl rfl rfl rfl hC14) ?_
            refine J.op rfl rfl rfl (V.ar rfl rfl rfl rfl) ?_
            refine J.op rfl rfl rfl (V.as rfl rfl) ?_
            obtain ⟨below_15, ebelow_15, h2⟩ := B.lt h2
            refine J.val (congrArg (Value.int .u32) ebelow_15) ?_
            refine J.nil ?_
            obtain rfl := B.e h2
            refine J.tN (J.to () trivial ?_)
            exact J.keep _ rfl (J.pickE [0, 1] rfl rfl J.here)
          · replace h2 := B.f hB13 h2
            refine J.skip ?_
            obtain rfl := B.e h2
            refine J.tN (J.to () trivial ?_)
            exact J.keep _ rfl (J.pickE [0, 1] rfl rfl J.here)
        · intro gy12 _
          refine J.seq ?_
          refine J.region ?_
          refine J.op rfl rfl rfl (V.mv rfl rfl) ?_
          refine J.op rfl rfl rfl (V.cmp rfl rfl rfl rfl) ?_
          refine J.nil ?_
          refine J.tN ?_
          refine J.cond rfl (fun hB17 => ?_) (fun hB17 => ?_)
          · replace h1 := B.t hB17 h1
            refine J.region ?_
            refine J.op rfl rfl rfl (V.mv rfl rfl) ?_
            refine J.op rfl rfl rfl (V.mv rfl rfl) ?_
            refine J.op rfl rfl rfl (V.conv rfl rfl Try.underlying3 Try.underlying48) ?_
            obtain ⟨hC18, h1⟩ := B.chk h1
            refine J.op rfl rfl rfl (V.shl rfl rfl rfl hC18) ?_
            refine J.op rfl rfl rfl (V.ar rfl rfl rfl rfl) ?_
            refine J.op rfl rfl rfl (V.as rfl rfl) ?_
            obtain ⟨above_19, eabove_19, h1⟩ := B.lt h1
            refine J.val (congrArg (Value.int .u32) eabove_19) ?_
            refine J.nil ?_
            refine J.bN ?_
            refine J.tN ?_
            refine J.region ?_
            refine J.op rfl rfl rfl (V.mv rfl rfl) ?_
            refine J.op rfl rfl rfl (V.ar rfl rfl rfl rfl) ?_
            refine J.op rfl rfl rfl (V.as rfl rfl) ?_
            obtain ⟨i_20, ei_20, h1⟩ := B.lt h1
            refine J.val (congrArg (Value.int .i64) ei_20) ?_
            refine J.nil ?_
            refine J.tN (J.next (y11, above_19, i_20) () (B.n h1) ?_)
            exact J.keep _ rfl (J.pickE [0, 1] rfl rfl J.here)
          · replace h1 := B.f hB17 h1
            refine J.skip ?_
            refine J.bN ?_
            refine J.tN ?_
            refine J.region ?_
            refine J.op rfl rfl rfl (V.mv rfl rfl) ?_
            refine J.op rfl rfl rfl (V.ar rfl rfl rfl rfl) ?_
            refine J.op rfl rfl rfl (V.as rfl rfl) ?_
            obtain ⟨i_21, ei_21, h1⟩ := B.lt h1
            refine J.val (congrArg (Value.int .i64) ei_21) ?_
            refine J.nil ?_
            refine J.tN (J.next (y11, s3.2.1, i_21) () (B.n h1) ?_)
            exact J.keep _ rfl (J.pickE [0, 1] rfl rfl J.here)
      · replace h1 := B.f hB6 h1
        refine J.exit ?_
        refine J.tE ?_
        refine J.tE ?_
        refine J.bE ?_
        obtain rfl := B.d h1
        refine J.tN (J.to () trivial ?_)
        exact J.keep _ rfl (J.pickE [0, 1] rfl rfl J.here)
  · intro gy23 _
    refine J.tN ?_
    refine J.seq ?_
    refine J.region ?_
    refine J.op rfl rfl rfl (V.mv rfl rfl) ?_
    refine J.op rfl rfl rfl (V.mv rfl rfl) ?_
    refine J.op rfl rfl rfl (V.as rfl rfl) ?_
    refine J.op rfl rfl rfl (V.as rfl rfl) ?_
    refine J.nil ?_
    refine J.tN ?_
    refine J.ret ?_
    obtain rfl := B.e h0
    exact J.ret2 rfl rfl rfl fun w H => ⟨(), rfl, H.pick [1] (by decide)⟩

/-! ### spec.l06Size: function 49 -/
noncomputable def spec_l06Size.b1  : (Int × Int) → Option (Step (Int × Int) (Int)) := fun s1 => bif (decide (0 < s1.1)) then ((some (IntKind.wrap .i64 (s1.2 + (IntKind.wrap .i64 (Int.tmod s1.1 2))))).bind fun n_5 => (some (IntKind.wrap .u32 (Int.tdiv s1.1 2))).bind fun field_6 => some (.next (field_6, n_5))) else (some (.done s1.2))
noncomputable def spec_l06Size.f (p0_field : Int) : Option (Int) := (loopW spec_l06Size.b1 (p0_field, 0)).bind fun y7 => some y7
set_option maxRecDepth 100000 in
theorem spec_l06Size.calls (p0_field : Int) (r : Int) (w : World) (H0 : Own [] w w []) (h0 : spec_l06Size.f p0_field = some r) :
    Calls Try.prog 49 #[.int .u32 p0_field] w (fun e w' => ∃ _ : Unit, e = .returned (.int .i64 r) ∧ Own [] w w' []) := by
  unfold spec_l06Size.f at h0
  replace h0 := B.top h0
  refine calls_of_J (args := [.int .u32 p0_field]) Try.func49 rfl Try.ntmps49 rfl [(0, .int .u32 p0_field)] rfl H0 ?_
  refine J.seq ?_
  refine J.region ?_
  refine J.op rfl rfl rfl (V.as rfl rfl) ?_
  refine J.nil ?_
  refine J.tN ?_
  refine J.seq ?_
  refine J.region ?_
  refine J.op rfl rfl rfl (V.as rfl rfl) ?_
  refine J.nil ?_
  refine J.tN ?_
  refine J.seq ?_
  obtain ⟨y7, hy9, h0⟩ := B.bind h0
  refine J.cut (γ := Unit) (fun _ => True) (fun gy8 => [(3, .int .i64 y7)]) (fun gy8 => []) ?_ ?_
  · refine J.block ?_
    refine J.loop (γ := Unit) hy9 (fun s1 g2 => [(0, .int .u32 s1.1), (3, .int .i64 s1.2)]) (fun s1 g2 => []) () ?_ ?_
    · exact J.keep _ rfl (J.pickE [] rfl rfl J.here)
    · intro rec3 s1 g2 h1
      unfold spec_l06Size.b1 at h1
      refine J.seq ?_
      refine J.seq ?_
      refine J.region ?_
      refine J.op rfl rfl rfl (V.mv rfl rfl) ?_
      refine J.op rfl rfl rfl (V.cmp rfl rfl rfl rfl) ?_
      refine J.nil ?_
      refine J.tN ?_
      refine J.cond rfl (fun hB4 => ?_) (fun hB4 => ?_)
      · replace h1 := B.t hB4 h1
        refine J.skip ?_
        refine J.tN ?_
        refine J.seq ?_
        refine J.block ?_
        refine J.region ?_
        refine J.op rfl rfl rfl (V.mv rfl rfl) ?_
        refine J.op rfl rfl rfl (V.mv rfl rfl) ?_
        refine J.op rfl rfl rfl (V.rem rfl rfl rfl rfl) ?_
        refine J.op rfl rfl rfl (V.conv rfl rfl Try.underlying43 Try.underlying2) ?_
        refine J.op rfl rfl rfl (V.ar rfl rfl rfl rfl) ?_
        refine J.op rfl rfl rfl (V.as rfl rfl) ?_
        obtain ⟨n_5, en_5, h1⟩ := B.lt h1
        refine J.val (congrArg (Value.int .i64) en_5) ?_
        refine J.nil ?_
        refine J.bN ?_
        refine J.tN ?_
        refine J.region ?_
        refine J.op rfl rfl rfl (V.mv rfl rfl) ?_
        refine J.op rfl rfl rfl (V.quo rfl rfl rfl rfl) ?_
        refine J.op rfl rfl rfl (V.as rfl rfl) ?_
        obtain ⟨field_6, efield_6, h1⟩ := B.lt h1
        refine J.val (congrArg (Value.int .u32) efield_6) ?_
        refine J.nil ?_
        refine J.tN (J.next (field_6, n_5) () (B.n h1) ?_)
        exact J.keep _ rfl (J.pickE [] rfl rfl J.here)
      · replace h1 := B.f hB4 h1
        refine J.exit ?_
        refine J.tE ?_
        refine J.tE ?_
        refine J.bE ?_
        obtain rfl := B.d h1
        refine J.tN (J.to () trivial ?_)
        exact J.keep _ rfl (J.pickE [] rfl rfl J.here)
  · intro gy8 _
    refine J.seq ?_
    refine J.region ?_
    refine J.op rfl rfl rfl (V.mv rfl rfl) ?_
    refine J.op rfl rfl rfl (V.as rfl rfl) ?_
    refine J.nil ?_
    refine J.tN ?_
    refine J.ret ?_
    obtain rfl := B.e h0
    exact J.ret1 rfl rfl fun w H => ⟨(), rfl, H.pick [] (by decide)⟩

/-! ### spec.BestPlacement: function 21 -/
noncomputable def spec_BestPlacement.b1 (p0_s : (Vector Int 24)) : (Int × Int × Int × Int) → Option (Step (Int × Int × Int × Int) (Int × Int × Int)) := fun s11 => bif (decide (s11.2.1 ≤ 60)) then ((spec_l06Off.f p0_s (⟨s11.2.1, 5⟩ : impl_Placement)).bind fun r17 => (spec_l06Size.f r17.1).bind fun r20 => (spec_l06Size.f r17.2).bind fun r23 => (some (IntKind.wrap .i64 (r20 + r23))).bind fun n_26 => (bif (decide (s11.1 < 0)) then (some true) else (some (decide (n_26 < s11.1))) : Option (Bool)).bind fun y27 => bif y27 then ((some (IntKind.wrap .i8 (s11.2.1 + 1))).bind fun r_32 => some (.next (n_26, r_32, 5, s11.2.1))) else ((some (IntKind.wrap .i8 (s11.2.1 + 1))).bind fun r_33 => some (.next (s11.1, r_33, s11.2.2.1, s11.2.2.2)))) else (some (.done (s11.1, s11.2.2.1, s11.2.2.2)))
noncomputable def spec_BestPlacement.f (p0_s : (Vector Int 24)) : Option (impl_Placement × Int × Int) := (spec_l06Ok.f p0_s).bind fun r5 => bif (!r5) then (some ((⟨0, 0⟩ : impl_Placement), 0, 1)) else ((loopW (spec_BestPlacement.b1 p0_s) ((-1), 0, 0, 0)).bind fun y34 => some ((⟨y34.2.2, y34.2.1⟩ : impl_Placement), y34.1, 0))
set_option maxRecDepth 100000 in
theorem spec_BestPlacement.calls (p0_s : (Vector Int 24)) (r : impl_Placement × Int × Int) (w : World) (H0 : Own [] w w []) (h0 : spec_BestPlacement.f p0_s = some r) :
    Calls Try.prog 21 #[.agg (encA .i8 p0_s).toArray] w (fun e w' => ∃ _ : Unit, e = .returned (.tuple #[.agg #[.int .i8 r.1.Reading, .int .i8 r.1.Zone], .int .i64 r.2.1, .int .i64 r.2.2]) ∧ Own [] w w' []) := by
  unfold spec_BestPlacement.f at h0
  replace h0 := B.top h0
  refine calls_of_J (args := [.agg (encA .i8 p0_s).toArray]) Try.func21 rfl Try.ntmps21 rfl [(0, .agg (encA .i8 p0_s).toArray)] rfl H0 ?_
  refine J.seq ?_
  refine J.region ?_
  refine J.box rfl rfl rfl rfl rfl (fun _ _ => rfl) fun b1 => ?_
  refine J.alloc rfl rfl rfl rfl tz35 rfl fun b3 => ?_
  refine J.op rfl rfl rfl (V.as rfl rfl) ?_
  refine J.op rfl rfl rfl (V.as rfl rfl) ?_
  refine J.nil ?_
  refine J.tN ?_
  refine J.seq ?_
  refine J.seq ?_
  refine J.region ?_
  refine J.pickE [1, 0] (es' := [.blk b1 (encA .i8 p0_s) 26, .blk b3 [.int .i8 0, .int .i8 0] 35]) rfl rfl ?_
  obtain ⟨r5, hr6, h0⟩ := B.bind h0
  refine J.cl (l := [.tmp 1]) [.blk b1 (encA .i8 p0_s) 26] [.blk b3 [.int .i8 0, .int .i8 0] 35] cf29 (wN rfl) rfl rfl rfl rfl rfl rfl hM1 (fun w H => spec_l06Ok.calls b1 p0_s r5 w H.enter1  hr6) fun g7 => ?_
  refine J.op rfl rfl rfl (V.nt rfl rfl) ?_
  refine J.nil ?_
  refine J.tN ?_
  refine J.cond rfl (fun hB8 => ?_) (fun hB8 => ?_)
  · replace h0 := B.t hB8 h0
    refine J.seq ?_
    refine J.region ?_
    refine J.op rfl rfl rfl (V.bd (l := []) (v := .agg #[.int .i8 0, .int .i8 0]) rfl rfl (fun w H => by kernel_rfl)) ?_
    refine J.stW (cs' := [.int .i8 0, .int .i8 0]) 1 rfl rfl rfl rfl rfl rfl ts35 rfl (fun u hu => by simp at hu; rcases hu with rfl | rfl <;> rfl) rfl rfl ?_
    refine J.op rfl rfl rfl (V.as rfl rfl) ?_
    refine J.op rfl rfl rfl (V.as rfl rfl) ?_
    refine J.nil ?_
    refine J.tN ?_
    refine J.ret ?_
    refine J.tR ?_
    obtain rfl := B.e h0
    exact J.retC_2 1 rfl rfl rfl ts35 ta35 rfl rfl rfl fun w H => ⟨(), rfl, H.pick [] (by decide)⟩
  · replace h0 := B.f hB8 h0
    refine J.skip ?_
    refine J.tN ?_
    refine J.seq ?_
    refine J.region ?_
    refine J.op rfl rfl rfl (V.bd (l := []) (v := .agg #[.int .i8 0, .int .i8 0]) rfl rfl (fun w H => by kernel_rfl)) ?_
    refine J.alloc rfl rfl rfl rfl tz35 rfl fun b9 => ?_
    refine J.stW (cs' := [.int .i8 0, .int .i8 0]) 0 rfl rfl rfl rfl rfl rfl ts35 rfl (fun u hu => by simp at hu; rcases hu with rfl | rfl <;> rfl) rfl rfl ?_
    refine J.nil ?_
    refine J.tN ?_
    refine J.seq ?_
    refine J.region ?_
    refine J.op rfl rfl rfl (V.as rfl rfl) ?_
    refine J.nil ?_
    refine J.tN ?_
    refine J.seq ?_
    refine J.seq ?_
    refine J.region ?_
    refine J.op rfl rfl rfl (V.as rfl rfl) ?_
    refine J.nil ?_
    refine J.tN ?_
    obtain ⟨y34, hy36, h0⟩ := B.bind h0
    refine J.cutQ (γ := Unit) (fun _ => True) (fun gy35 => [(2, bp b3 0), (5, bp b9 0), (6, .int .i64 y34.1)]) (fun gy35 => [.blk b9 [.int .i8 y34.2.2, .int .i8 y34.2.1] 35, .blk b1 (encA .i8 p0_s) 26, .blk b3 [.int .i8 0, .int .i8 0] 35]) ?_ ?_
    · refine J.block ?_
      refine J.loop (γ := Unit) hy36 (fun s11 g12 => [(1, bp b1 0), (2, bp b3 0), (5, bp b9 0), (6, .int .i64 s11.1), (7, .int .i8 s11.2.1)]) (fun s11 g12 => [.blk b9 [.int .i8 s11.2.2.2, .int .i8 s11.2.2.1] 35, .blk b1 (encA .i8 p0_s) 26, .blk b3 [.int .i8 0, .int .i8 0] 35]) () ?_ ?_
      · exact J.keep _ rfl (J.pickE [0, 1, 2] rfl rfl J.here)
      · intro rec13 s11 g12 h1
        unfold spec_BestPlacement.b1 at h1
        refine J.seq ?_
        refine J.seq ?_
        refine J.region ?_
        refine J.op rfl rfl rfl (V.mv rfl rfl) ?_
        refine J.op rfl rfl rfl (V.cmp rfl rfl rfl rfl) ?_
        refine J.nil ?_
        refine J.tN ?_
        refine J.cond rfl (fun hB14 => ?_) (fun hB14 => ?_)
        · replace h1 := B.t hB14 h1
          refine J.skip ?_
          refine J.tN ?_
          refine J.seq ?_
          refine J.block ?_
          refine J.seq ?_
          refine J.region ?_
          refine J.op rfl rfl rfl (V.mv rfl rfl) ?_
          refine J.op rfl rfl rfl (V.bd (l := [(0, .tmp 20), (1, .const (.int .i8 5))]) (v := .agg #[.int .i8 s11.2.1, .int .i8 5]) rfl rfl (fun w H => by kernel_rfl)) ?_
          refine J.alloc rfl rfl rfl rfl tz35 rfl fun b15 => ?_
          refine J.stW (cs' := [.int .i8 s11.2.1, .int .i8 5]) 0 rfl rfl rfl rfl rfl rfl ts35 rfl (fun u hu => by simp at hu; rcases hu with rfl | rfl <;> rfl) rfl rfl ?_
          refine J.nil ?_
          refine J.tN ?_
          refine J.seq ?_
          refine J.region ?_
          refine J.op rfl rfl rfl (V.ldW 0 rfl rfl rfl ts35 ta35 rfl) ?_
          refine J.pickE [2, 0, 1, 3] (es' := [.blk b1 (encA .i8 p0_s) 26, .blk b15 [.int .i8 s11.2.1, .int .i8 5] 35, .blk b9 [.int .i8 s11.2.2.2, .int .i8 s11.2.2.1] 35, .blk b3 [.int .i8 0, .int .i8 0] 35]) rfl rfl ?_
          obtain ⟨r17, hr18, h1⟩ := B.bind h1
          refine J.cl (l := [.tmp 1, .tmp 23]) [.blk b1 (encA .i8 p0_s) 26] [.blk b15 [.int .i8 s11.2.1, .int .i8 5] 35, .blk b9 [.int .i8 s11.2.2.2, .int .i8 s11.2.2.1] 35, .blk b3 [.int .i8 0, .int .i8 0] 35] cf48 (wN rfl) rfl rfl rfl rfl rfl rfl hM1 (fun w H => spec_l06Off.calls b1 p0_s (⟨s11.2.1, 5⟩ : impl_Placement) r17 w H.enter1  hr18) fun g19 => ?_
          refine J.op rfl rfl rfl (V.mv rfl rfl) ?_
          refine J.op rfl rfl rfl (V.ex rfl rfl rfl) ?_
          refine J.op rfl rfl rfl (V.ex rfl rfl rfl) ?_
          refine J.op rfl rfl rfl (V.as rfl rfl) ?_
          refine J.op rfl rfl rfl (V.as rfl rfl) ?_
          refine J.nil ?_
          refine J.tN ?_
          refine J.seq ?_
          refine J.region ?_
          refine J.op rfl rfl rfl (V.mv rfl rfl) ?_
          obtain ⟨r20, hr21, h1⟩ := B.bind h1
          refine J.cl (l := [.tmp 27]) [] [.blk b1 (encA .i8 p0_s) 26, .blk b15 [.int .i8 s11.2.1, .int .i8 5] 35, .blk b9 [.int .i8 s11.2.2.2, .int .i8 s11.2.2.1] 35, .blk b3 [.int .i8 0, .int .i8 0] 35] cf49 (wN rfl) rfl rfl rfl rfl rfl rfl (by simp) (fun w H => spec_l06Size.calls r17.1 r20 w (Own.refl w)  hr21) fun g22 => ?_
          refine J.op rfl rfl rfl (V.mv rfl rfl) ?_
          obtain ⟨r23, hr24, h1⟩ := B.bind h1
          refine J.cl (l := [.tmp 29]) [] [.blk b1 (encA .i8 p0_s) 26, .blk b15 [.int .i8 s11.2.1, .int .i8 5] 35, .blk b9 [.int .i8 s11.2.2.2, .int .i8 s11.2.2.1] 35, .blk b3 [.int .i8 0, .int .i8 0] 35] cf49 (wN rfl) rfl rfl rfl rfl rfl rfl (by simp) (fun w H => spec_l06Size.calls r17.2 r23 w (Own.refl w)  hr24) fun g25 => ?_
          refine J.op rfl rfl rfl (V.ar rfl rfl rfl rfl) ?_
          refine J.op rfl rfl rfl (V.as rfl rfl) ?_
          obtain ⟨n_26, en_26, h1⟩ := B.lt h1
          refine J.val (congrArg (Value.int .i64) en_26) ?_
          refine J.nil ?_
          refine J.tN ?_
          refine J.seq ?_
          obtain ⟨y27, hy30, h1⟩ := B.bind h1
          replace hy30 := B.top hy30
          refine J.cut (γ := Unit) (fun _ => True) (fun gy28 => [(1, bp b1 0), (2, bp b3 0), (5, bp b9 0), (6, .int .i64 s11.1), (7, .int .i8 s11.2.1), (8, bp b15 0), (11, .int .i64 n_26), (38, .bool y27)]) (fun gy28 => [.blk b1 (encA .i8 p0_s) 26, .blk b15 [.int .i8 s11.2.1, .int .i8 5] 35, .blk b9 [.int .i8 s11.2.2.2, .int .i8 s11.2.2.1] 35, .blk b3 [.int .i8 0, .int .i8 0] 35]) ?_ ?_
          · have h2 := hy30
            refine J.region ?_
            refine J.op rfl rfl rfl (V.mv rfl rfl) ?_
            refine J.op rfl rfl rfl (V.cmp rfl rfl rfl rfl) ?_
            refine J.op rfl rfl rfl (V.mv rfl rfl) ?_
            refine J.split 34 rfl (fun hB29 => ?_) (fun hB29 => ?_)
            · replace h2 := B.t hB29 h2
              refine J.opOff rfl rfl rfl rfl rfl rfl ?_
              refine J.opOff rfl rfl rfl rfl rfl rfl ?_
              refine J.opOff rfl rfl rfl rfl rfl rfl ?_
              refine J.op rfl rfl rfl (V.pkT rfl rfl rfl) ?_
              refine J.nil ?_
              obtain rfl := B.e h2
              refine J.tN (J.to () trivial ?_)
              exact J.keep _ rfl (J.pickE [0, 1, 2, 3] rfl rfl J.here)
            · replace h2 := B.f hB29 h2
              refine J.opOn rfl rfl rfl rfl rfl (V.mv rfl rfl) ?_
              refine J.opOn rfl rfl rfl rfl rfl (V.mv rfl rfl) ?_
              refine J.opOn rfl rfl rfl rfl rfl (V.cmp rfl rfl rfl rfl) ?_
              refine J.op rfl rfl rfl (V.pkF rfl rfl rfl) ?_
              refine J.nil ?_
              obtain rfl := B.e h2
              refine J.tN (J.to () trivial ?_)
              exact J.keep _ rfl (J.pickE [0, 1, 2, 3] rfl rfl J.here)
          · intro gy28 _
            refine J.cond rfl (fun hB31 => ?_) (fun hB31 => ?_)
            · replace h1 := B.t hB31 h1
              refine J.seq ?_
              refine J.region ?_
              refine J.op rfl rfl rfl (V.ldW 1 rfl rfl rfl ts35 ta35 rfl) ?_
              refine J.stW (cs' := [.int .i8 s11.2.1, .int .i8 5]) 2 rfl rfl rfl rfl rfl rfl ts35 rfl (fun u hu => by simp at hu; rcases hu with rfl | rfl <;> rfl) rfl rfl ?_
              refine J.nil ?_
              refine J.tN ?_
              refine J.region ?_
              refine J.op rfl rfl rfl (V.mv rfl rfl) ?_
              refine J.op rfl rfl rfl (V.as rfl rfl) ?_
              refine J.nil ?_
              refine J.bN ?_
              refine J.tN ?_
              refine J.region ?_
              refine J.op rfl rfl rfl (V.mv rfl rfl) ?_
              refine J.op rfl rfl rfl (V.ar rfl rfl rfl rfl) ?_
              refine J.op rfl rfl rfl (V.as rfl rfl) ?_
              obtain ⟨r_32, er_32, h1⟩ := B.lt h1
              refine J.val (congrArg (Value.int .i8) er_32) ?_
              refine J.nil ?_
              refine J.tN (J.next (n_26, r_32, 5, s11.2.1) () (B.n h1) ?_)
              exact J.keep _ rfl (J.pickE [2, 0, 3] rfl rfl J.here)
            · replace h1 := B.f hB31 h1
              refine J.skip ?_
              refine J.bN ?_
              refine J.tN ?_
              refine J.region ?_
              refine J.op rfl rfl rfl (V.mv rfl rfl) ?_
              refine J.op rfl rfl rfl (V.ar rfl rfl rfl rfl) ?_
              refine J.op rfl rfl rfl (V.as rfl rfl) ?_
              obtain ⟨r_33, er_33, h1⟩ := B.lt h1
              refine J.val (congrArg (Value.int .i8) er_33) ?_
              refine J.nil ?_
              refine J.tN (J.next (s11.1, r_33, s11.2.2.1, s11.2.2.2) () (B.n h1) ?_)
              exact J.keep _ rfl (J.pickE [2, 0, 3] rfl rfl J.here)
        · replace h1 := B.f hB14 h1
          refine J.exit ?_
          refine J.tE ?_
          refine J.tE ?_
          refine J.bE ?_
          obtain rfl := B.d h1
          refine J.tN (J.to () trivial ?_)
          exact J.keep _ rfl (J.pickE [0, 1, 2] rfl rfl J.here)
    · intro gy35 _
      refine J.tN ?_
      refine J.seq ?_
      refine J.region ?_
      refine J.op rfl rfl rfl (V.ldW 0 rfl rfl rfl ts35 ta35 rfl) ?_
      refine J.op rfl rfl rfl (V.mv rfl rfl) ?_
      refine J.stW (cs' := [.int .i8 y34.2.2, .int .i8 y34.2.1]) 2 rfl rfl rfl rfl rfl rfl ts35 rfl (fun u hu => by simp at hu; rcases hu with rfl | rfl <;> rfl) rfl rfl ?_
      refine J.op rfl rfl rfl (V.as rfl rfl) ?_
      refine J.op rfl rfl rfl (V.as rfl rfl) ?_
      refine J.nil ?_
      refine J.tN ?_
      refine J.ret ?_
      obtain rfl := B.e h0
      exact J.retC_2 2 rfl rfl rfl ts35 ta35 rfl rfl rfl fun w H => ⟨(), rfl, H.pick [] (by decide)⟩

/-! ### impl.SamePlacing: function 22 -/
noncomputable def impl_SamePlacing.f (p0_p : impl_Placement) (p1_zone : Int) : Option (impl_Placement × Int) := (some (IntKind.wrap .i64 p0_p.Reading)).bind fun reading_5 => (impl_isPlacement.f (⟨p0_p.Reading, p0_p.Zone⟩ : impl_Placement)).bind fun r6 => (some (!r6)).bind fun t9 => bif t9 then (some ((⟨0, 0⟩ : impl_Placement), 1)) else ((impl_isZone.f p1_zone).bind fun r11 => (some (!r11)).bind fun t14 => bif t14 then (some ((⟨0, 0⟩ : impl_Placement), 2)) else ((some (IntKind.wrap .i64 (reading_5 + (IntKind.wrap .i64 (3 * (IntKind.wrap .i64 (p1_zone - (IntKind.wrap .i64 p0_p.Zone)))))))).bind fun reading_16 => (impl_isReading.f reading_16).bind fun r17 => bif (!r17) then (some ((⟨0, 0⟩ : impl_Placement), 6)) else (some ((⟨IntKind.wrap .i8 reading_16, IntKind.wrap .i8 p1_zone⟩ : impl_Placement), 0))))
set_option maxRecDepth 100000 in
theorem impl_SamePlacing.calls (p0_p : impl_Placement) (p1_zone : Int) (r : impl_Placement × Int) (w : World) (H0 : Own [] w w []) (h0 : impl_SamePlacing.f p0_p p1_zone = some r) :
    Calls Try.prog 22 #[.agg #[.int .i8 p0_p.Reading, .int .i8 p0_p.Zone], .int .i64 p1_zone] w (fun e w' => ∃ _ : Unit, e = .returned (.tuple #[.agg #[.int .i8 r.1.Reading, .int .i8 r.1.Zone], .int .i64 r.2]) ∧ Own [] w w' []) := by
  unfold impl_SamePlacing.f at h0
  replace h0 := B.top h0
  refine calls_of_J (args := [.agg #[.int .i8 p0_p.Reading, .int .i8 p0_p.Zone], .int .i64 p1_zone]) Try.func22 rfl Try.ntmps22 rfl [(0, .agg #[.int .i8 p0_p.Reading, .int .i8 p0_p.Zone]), (1, .int .i64 p1_zone)] rfl H0 ?_
  refine J.seq ?_
  refine J.region ?_
  refine J.box rfl rfl rfl rfl rfl (fun _ _ => rfl) fun b1 => ?_
  refine J.alloc rfl rfl rfl rfl tz35 rfl fun b3 => ?_
  refine J.op rfl rfl rfl (V.as rfl rfl) ?_
  refine J.nil ?_
  refine J.tN ?_
  refine J.seq ?_
  refine J.region ?_
  refine J.op rfl rfl rfl (V.faB rfl rfl tf0_35) ?_
  refine J.op rfl rfl rfl (V.ldB 1 rfl rfl rfl Try.underlying22 ta22 rfl) ?_
  refine J.op rfl rfl rfl (V.conv rfl rfl Try.underlying22 Try.underlying2) ?_
  refine J.op rfl rfl rfl (V.as rfl rfl) ?_
  obtain ⟨reading_5, ereading_5, h0⟩ := B.lt h0
  refine J.val (congrArg (Value.int .i64) ereading_5) ?_
  refine J.nil ?_
  refine J.tN ?_
  refine J.seq ?_
  refine J.block ?_
  refine J.seq ?_
  refine J.region ?_
  refine J.op rfl rfl rfl (V.ldW 1 rfl rfl rfl ts35 ta35 rfl) ?_
  obtain ⟨r6, hr7, h0⟩ := B.bind h0
  refine J.cl (l := [.tmp 11]) [] [.blk b3 [.int .i8 0, .int .i8 0] 35, .blk b1 [.int .i8 p0_p.Reading, .int .i8 p0_p.Zone] 35] cf38 (wN rfl) rfl rfl rfl rfl rfl rfl (by simp) (fun w H => impl_isPlacement.calls (⟨p0_p.Reading, p0_p.Zone⟩ : impl_Placement) r6 w (Own.refl w)  hr7) fun g8 => ?_
  refine J.op rfl rfl rfl (V.nt rfl rfl) ?_
  refine J.op rfl rfl rfl (V.as rfl rfl) ?_
  obtain ⟨t9, et9, h0⟩ := B.lt h0
  refine J.val (congrArg (Value.bool) et9) ?_
  refine J.nil ?_
  refine J.tN ?_
  refine J.cond rfl (fun hB10 => ?_) (fun hB10 => ?_)
  · replace h0 := B.t hB10 h0
    refine J.seq ?_
    refine J.region ?_
    refine J.op rfl rfl rfl (V.bd (l := []) (v := .agg #[.int .i8 0, .int .i8 0]) rfl rfl (fun w H => by kernel_rfl)) ?_
    refine J.stW (cs' := [.int .i8 0, .int .i8 0]) 0 rfl rfl rfl rfl rfl rfl ts35 rfl (fun u hu => by simp at hu; rcases hu with rfl | rfl <;> rfl) rfl rfl ?_
    refine J.op rfl rfl rfl (V.as rfl rfl) ?_
    refine J.nil ?_
    refine J.tN ?_
    refine J.ret ?_
    refine J.bR ?_
    refine J.tR ?_
    obtain rfl := B.e h0
    exact J.retC_1 0 rfl rfl rfl ts35 ta35 rfl rfl fun w H => ⟨(), rfl, H.pick [] (by decide)⟩
  · replace h0 := B.f hB10 h0
    refine J.seq ?_
    refine J.region ?_
    refine J.op rfl rfl rfl (V.mv rfl rfl) ?_
    obtain ⟨r11, hr12, h0⟩ := B.bind h0
    refine J.cl (l := [.tmp 16]) [] [.blk b3 [.int .i8 0, .int .i8 0] 35, .blk b1 [.int .i8 p0_p.Reading, .int .i8 p0_p.Zone] 35] cf46 (wN rfl) rfl rfl rfl rfl rfl rfl (by simp) (fun w H => impl_isZone.calls p1_zone r11 w (Own.refl w)  hr12) fun g13 => ?_
    refine J.op rfl rfl rfl (V.nt rfl rfl) ?_
    refine J.op rfl rfl rfl (V.as rfl rfl) ?_
    obtain ⟨t14, et14, h0⟩ := B.lt h0
    refine J.val (congrArg (Value.bool) et14) ?_
    refine J.nil ?_
    refine J.tN ?_
    refine J.cond rfl (fun hB15 => ?_) (fun hB15 => ?_)
    · replace h0 := B.t hB15 h0
      refine J.seq ?_
      refine J.region ?_
      refine J.op rfl rfl rfl (V.bd (l := []) (v := .agg #[.int .i8 0, .int .i8 0]) rfl rfl (fun w H => by kernel_rfl)) ?_
      refine J.stW (cs' := [.int .i8 0, .int .i8 0]) 0 rfl rfl rfl rfl rfl rfl ts35 rfl (fun u hu => by simp at hu; rcases hu with rfl | rfl <;> rfl) rfl rfl ?_
      refine J.op rfl rfl rfl (V.as rfl rfl) ?_
      refine J.nil ?_
      refine J.tN ?_
      refine J.ret ?_
      refine J.bR ?_
      refine J.tR ?_
      obtain rfl := B.e h0
      exact J.retC_1 0 rfl rfl rfl ts35 ta35 rfl rfl fun w H => ⟨(), rfl, H.pick [] (by decide)⟩
    · replace h0 := B.f hB15 h0
      refine J.skip ?_
      refine J.bN ?_
      refine J.tN ?_
      refine J.seq ?_
      refine J.region ?_
      refine J.op rfl rfl rfl (V.mv rfl rfl) ?_
      refine J.op rfl rfl rfl (V.mv rfl rfl) ?_
      refine J.op rfl rfl rfl (V.faB rfl rfl tf1_35) ?_
      refine J.op rfl rfl rfl (V.ldB 1 rfl rfl rfl Try.underlying22 ta22 rfl) ?_
      refine J.op rfl rfl rfl (V.conv rfl rfl Try.underlying22 Try.underlying2) ?_
      refine J.op rfl rfl rfl (V.ar rfl rfl rfl rfl) ?_
      refine J.op rfl rfl rfl (V.ar rfl rfl rfl rfl) ?_
      refine J.op rfl rfl rfl (V.ar rfl rfl rfl rfl) ?_
      refine J.op rfl rfl rfl (V.as rfl rfl) ?_
      obtain ⟨reading_16, ereading_16, h0⟩ := B.lt h0
      refine J.val (congrArg (Value.int .i64) ereading_16) ?_
      refine J.nil ?_
      refine J.tN ?_
      refine J.seq ?_
      refine J.seq ?_
      refine J.region ?_
      refine J.op rfl rfl rfl (V.mv rfl rfl) ?_
      obtain ⟨r17, hr18, h0⟩ := B.bind h0
      refine J.cl (l := [.tmp 28]) [] [.blk b3 [.int .i8 0, .int .i8 0] 35, .blk b1 [.int .i8 p0_p.Reading, .int .i8 p0_p.Zone] 35] cf39 (wN rfl) rfl rfl rfl rfl rfl rfl (by simp) (fun w H => impl_isReading.calls reading_16 r17 w (Own.refl w)  hr18) fun g19 => ?_
      refine J.op rfl rfl rfl (V.nt rfl rfl) ?_
      refine J.nil ?_
      refine J.tN ?_
      refine J.cond rfl (fun hB20 => ?_) (fun hB20 => ?_)
      · replace h0 := B.t hB20 h0
        refine J.seq ?_
        refine J.region ?_
        refine J.op rfl rfl rfl (V.bd (l := []) (v := .agg #[.int .i8 0, .int .i8 0]) rfl rfl (fun w H => by kernel_rfl)) ?_
        refine J.stW (cs' := [.int .i8 0, .int .i8 0]) 0 rfl rfl rfl rfl rfl rfl ts35 rfl (fun u hu => by simp at hu; rcases hu with rfl | rfl <;> rfl) rfl rfl ?_
        refine J.op rfl rfl rfl (V.as rfl rfl) ?_
        refine J.nil ?_
        refine J.tN ?_
        refine J.ret ?_
        refine J.tR ?_
        obtain rfl := B.e h0
        exact J.retC_1 0 rfl rfl rfl ts35 ta35 rfl rfl fun w H => ⟨(), rfl, H.pick [] (by decide)⟩
      · replace h0 := B.f hB20 h0
        refine J.skip ?_
        refine J.tN ?_
        refine J.seq ?_
        refine J.region ?_
        refine J.op rfl rfl rfl (V.mv rfl rfl) ?_
        refine J.op rfl rfl rfl (V.conv rfl rfl Try.underlying2 Try.underlying22) ?_
        refine J.op rfl rfl rfl (V.mv rfl rfl) ?_
        refine J.op rfl rfl rfl (V.conv rfl rfl Try.underlying2 Try.underlying22) ?_
        refine J.op rfl rfl rfl (V.bd (l := [(0, .tmp 33), (1, .tmp 35)]) (v := .agg #[.int .i8 (IntKind.wrap .i8 reading_16), .int .i8 (IntKind.wrap .i8 p1_zone)]) rfl rfl (fun w H => by kernel_rfl)) ?_
        refine J.stW (cs' := [.int .i8 (IntKind.wrap .i8 reading_16), .int .i8 (IntKind.wrap .i8 p1_zone)]) 0 rfl rfl rfl rfl rfl rfl ts35 rfl (fun u hu => by simp at hu; rcases hu with rfl | rfl <;> rfl) rfl rfl ?_
        refine J.op rfl rfl rfl (V.as rfl rfl) ?_
        refine J.nil ?_
        refine J.tN ?_
        refine J.ret ?_
        obtain rfl := B.e h0
        exact J.retC_1 0 rfl rfl rfl ts35 ta35 rfl rfl fun w H => ⟨(), rfl, H.pick [] (by decide)⟩

/-! ### laws.a2At: function 23 -/
noncomputable def laws_a2At.f (p0_code : (List Int)) (p1_at : Int) (p2_n : Int) : Option (Int) := (bif (decide ((p0_code.length : Int) ≤ p1_at)) then (some true) else (some (decide (p2_n < 1))) : Option (Bool)).bind fun y1 => bif y1 then (some 0) else (bif (inB p1_at p0_code.length) then (bif (!(p2_n == 0)) then ((some (Int.tmod (IntKind.wrap .i64 (rd (eI .u8) p0_code p1_at)) p2_n)).bind fun t8 => some t8) else none) else none)
set_option maxRecDepth 100000 in
theorem laws_a2At.calls (v0 : Value) (p0_code : (List Int)) (p1_at : Int) (p2_n : Int) (r : Int) (w : World) (H0 : Own [] w w []) (hS0 : SlE [] w v0 5 (eI .u8) p0_code) (h0 : laws_a2At.f p0_code p1_at p2_n = some r) :
    Calls Try.prog 23 #[v0, .int .i64 p1_at, .int .i64 p2_n] w (fun e w' => ∃ _ : Unit, e = .returned (.int .i64 r) ∧ Own [] w w' []) := by
  unfold laws_a2At.f at h0
  replace h0 := B.top h0
  refine calls_of_J (args := [v0, .int .i64 p1_at, .int .i64 p2_n]) Try.func23 rfl Try.ntmps23 rfl [(0, v0), (1, .int .i64 p1_at), (2, .int .i64 p2_n)] rfl H0 ?_
  refine J.seq ?_
  refine J.region ?_
  refine J.op rfl rfl rfl (V.as rfl rfl) ?_
  refine J.nil ?_
  refine J.tN ?_
  refine J.seq ?_
  refine J.seq ?_
  obtain ⟨y1, hy4, h0⟩ := B.bind h0
  replace hy4 := B.top hy4
  refine J.cut (γ := Unit) (fun _ => True) (fun gy2 => [(0, v0), (1, .int .i64 p1_at), (2, .int .i64 p2_n), (14, .bool y1)]) (fun gy2 => []) ?_ ?_
  · have h1 := hy4
    refine J.region ?_
    refine J.op rfl rfl rfl (V.mv rfl rfl) ?_
    refine J.op rfl rfl rfl (V.mv rfl rfl) ?_
    refine J.op rfl rfl rfl (V.lenS hS0 rfl rfl tl31) ?_
    refine J.op rfl rfl rfl (V.cmp rfl rfl rfl rfl) ?_
    refine J.op rfl rfl rfl (V.mv rfl rfl) ?_
    refine J.split 11 rfl (fun hB3 => ?_) (fun hB3 => ?_)
    · replace h1 := B.t hB3 h1
      refine J.opOff rfl rfl rfl rfl rfl rfl ?_
      refine J.opOff rfl rfl rfl rfl rfl rfl ?_
      refine J.op rfl rfl rfl (V.pkT rfl rfl rfl) ?_
      refine J.nil ?_
      obtain rfl := B.e h1
      refine J.tN (J.to () trivial ?_)
      exact J.keep _ rfl (J.pickE [] rfl rfl J.here)
    · replace h1 := B.f hB3 h1
      refine J.opOn rfl rfl rfl rfl rfl (V.mv rfl rfl) ?_
      refine J.opOn rfl rfl rfl rfl rfl (V.cmp rfl rfl rfl rfl) ?_
      refine J.op rfl rfl rfl (V.pkF rfl rfl rfl) ?_
      refine J.nil ?_
      obtain rfl := B.e h1
      refine J.tN (J.to () trivial ?_)
      exact J.keep _ rfl (J.pickE [] rfl rfl J.here)
  · intro gy2 _
    refine J.cond rfl (fun hB5 => ?_) (fun hB5 => ?_)
    · replace h0 := B.t hB5 h0
      refine J.seq ?_
      refine J.region ?_
      refine J.op rfl rfl rfl (V.as rfl rfl) ?_
      refine J.nil ?_
      refine J.tN ?_
      refine J.ret ?_
      refine J.tR ?_
      obtain rfl := B.e h0
      exact J.ret1 rfl rfl fun w H => ⟨(), rfl, H.pick [] (by decide)⟩
    · replace h0 := B.f hB5 h0
      refine J.skip ?_
      refine J.tN ?_
      refine J.seq ?_
      refine J.region ?_
      refine J.op rfl rfl rfl (V.mv rfl rfl) ?_
      refine J.op rfl rfl rfl (V.mv rfl rfl) ?_
      obtain ⟨hC6, h0⟩ := B.chk h0
      refine J.op rfl rfl rfl (V.ixS hS0 rfl rfl rfl tl31 ts5 hC6) ?_
      refine J.op rfl rfl rfl (V.elS0 hS0 hC6 rfl rfl Try.underlying5 ta5 rfl) ?_
      refine J.op rfl rfl rfl (V.conv rfl rfl Try.underlying5 Try.underlying2) ?_
      refine J.op rfl rfl rfl (V.mv rfl rfl) ?_
      obtain ⟨hC7, h0⟩ := B.chk h0
      refine J.op rfl rfl rfl (V.rem rfl rfl rfl (nz hC7)) ?_
      refine J.op rfl rfl rfl (V.as rfl rfl) ?_
      obtain ⟨t8, et8, h0⟩ := B.lt h0
      refine J.val (congrArg (Value.int .i64) et8) ?_
      refine J.nil ?_
      refine J.tN ?_
      refine J.ret ?_
      obtain rfl := B.e h0
      exact J.ret1 rfl rfl fun w H => ⟨(), rfl, H.pick [] (by decide)⟩

end Go.Proofs.Ytopmellnegcfpaa
