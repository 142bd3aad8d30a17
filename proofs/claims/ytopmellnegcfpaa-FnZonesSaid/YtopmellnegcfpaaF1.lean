/- Go functions as Lean functions, and that each call of theirs comes to just that: by a program written for this work (walk.py). No condition. -/
import Derived.Test.YtopmellnegcfpaaF0
namespace Go.Proofs.Ytopmellnegcfpaa
open Go Go.RowKit G
set_option linter.unusedVariables false

/-! ### impl.ValidScene: function 31 -/
noncomputable def impl_ValidScene.f (p0_s : (Vector Int 24)) : Option (Bool) := (slices_ContainsFunc_int8_int8.f (p0_s.toList) (fun z3 => impl_ValidScene_1.f z3)).bind fun r4 => (some (!r4)).bind fun t7 => some t7
set_option maxRecDepth 100000 in
theorem impl_ValidScene.calls (p0_s : (Vector Int 24)) (r : Bool) (w : World) (H0 : Own [] w w []) (h0 : impl_ValidScene.f p0_s = some r) :
    Calls Try.prog 31 #[.agg (encA .i8 p0_s).toArray] w (fun e w' => ∃ _ : Unit, e = .returned (.bool r) ∧ Own [] w w' []) := by
  unfold impl_ValidScene.f at h0
  replace h0 := B.top h0
  refine calls_of_J (args := [.agg (encA .i8 p0_s).toArray]) Try.func31 rfl Try.ntmps31 rfl [(0, .agg (encA .i8 p0_s).toArray)] rfl H0 ?_
  refine J.seq ?_
  refine J.region ?_
  refine J.box rfl rfl rfl rfl rfl (fun _ _ => rfl) fun b1 => ?_
  refine J.op rfl rfl rfl (V.as rfl rfl) ?_
  refine J.nil ?_
  refine J.tN ?_
  refine J.seq ?_
  refine J.region ?_
  refine J.op rfl rfl rfl (V.arr rfl rfl tr26 ts22) ?_
  obtain ⟨r4, hr5, h0⟩ := B.bind h0
  refine J.cl (l := [.tmp 3, .func 57]) [] [.blk b1 (encA .i8 p0_s) 26] cf56 (wN rfl) rfl rfl rfl rfl rfl rfl (by simp) (fun w H => slices_ContainsFunc_int8_int8.calls (.slice (some ⟨b1, 0, none⟩) 24 24) (p0_s.toList) 57 (#[]) (fun z3 => impl_ValidScene_1.f z3) r4 w (Own.refl w) (Sl.arr (H.at (i := 0) rfl)) (cf57 : CallsFn _ 57) (fun w2 x r HO hp => impl_ValidScene_1.calls x r w2 (Own.refl w2) hp) hr5) fun g6 => ?_
  refine J.op rfl rfl rfl (V.nt rfl rfl) ?_
  refine J.op rfl rfl rfl (V.as rfl rfl) ?_
  obtain ⟨t7, et7, h0⟩ := B.lt h0
  refine J.val (congrArg (Value.bool) et7) ?_
  refine J.nil ?_
  refine J.tN ?_
  refine J.ret ?_
  obtain rfl := B.e h0
  exact J.ret1 rfl rfl fun w H => ⟨(), rfl, H.pick [] (by decide)⟩

/-! ### impl.placeCode: function 41 -/
noncomputable def impl_placeCode.f (p0_s : (Vector Int 24)) (p1_p : impl_Placement) : Option (Int) := ((impl_ValidScene.f p0_s).bind fun r7 => bif (!r7) then (some true) else ((impl_isPlacement.f (⟨p1_p.Reading, p1_p.Zone⟩ : impl_Placement)).bind fun r11 => some (!r11)) : Option (Bool)).bind fun y5 => bif y5 then (some 1) else (some 0)
set_option maxRecDepth 100000 in
theorem impl_placeCode.calls (p0_s : (Vector Int 24)) (p1_p : impl_Placement) (r : Int) (w : World) (H0 : Own [] w w []) (h0 : impl_placeCode.f p0_s p1_p = some r) :
    Calls Try.prog 41 #[.agg (encA .i8 p0_s).toArray, .agg #[.int .i8 p1_p.Reading, .int .i8 p1_p.Zone]] w (fun e w' => ∃ _ : Unit, e = .returned (.int .i64 r) ∧ Own [] w w' []) := by
  unfold impl_placeCode.f at h0
  replace h0 := B.top h0
  refine calls_of_J (args := [.agg (encA .i8 p0_s).toArray, .agg #[.int .i8 p1_p.Reading, .int .i8 p1_p.Zone]]) Try.func41 rfl Try.ntmps41 rfl [(0, .agg (encA .i8 p0_s).toArray), (1, .agg #[.int .i8 p1_p.Reading, .int .i8 p1_p.Zone])] rfl H0 ?_
  refine J.seq ?_
  refine J.region ?_
  refine J.box rfl rfl rfl rfl rfl (fun _ _ => rfl) fun b1 => ?_
  refine J.box rfl rfl rfl rfl rfl (fun _ _ => rfl) fun b3 => ?_
  refine J.op rfl rfl rfl (V.as rfl rfl) ?_
  refine J.nil ?_
  refine J.tN ?_
  refine J.seq ?_
  refine J.seq ?_
  obtain ⟨y5, hy14, h0⟩ := B.bind h0
  replace hy14 := B.top hy14
  refine J.cut (γ := Unit) (fun _ => True) (fun gy6 => [(12, .bool y5)]) (fun gy6 => [.blk b3 [.int .i8 p1_p.Reading, .int .i8 p1_p.Zone] 35, .blk b1 (encA .i8 p0_s) 26]) ?_ ?_
  · have h1 := hy14
    refine J.region ?_
    refine J.op rfl rfl rfl (V.ldW 1 rfl rfl rfl ts26 ta26 (encA_len _ _)) ?_
    obtain ⟨r7, hr8, h1⟩ := B.bind h1
    refine J.cl (l := [.tmp 5]) [] [.blk b3 [.int .i8 p1_p.Reading, .int .i8 p1_p.Zone] 35, .blk b1 (encA .i8 p0_s) 26] cf31 (wN rfl) rfl rfl rfl rfl rfl rfl (by simp) (fun w H => impl_ValidScene.calls p0_s r7 w (Own.refl w)  hr8) fun g9 => ?_
    refine J.op rfl rfl rfl (V.nt rfl rfl) ?_
    refine J.op rfl rfl rfl (V.mv rfl rfl) ?_
    refine J.split 8 rfl (fun hB10 => ?_) (fun hB10 => ?_)
    · replace h1 := B.t hB10 h1
      refine J.opOff rfl rfl rfl rfl rfl rfl ?_
      refine J.opOff rfl rfl rfl rfl rfl rfl ?_
      refine J.opOff rfl rfl rfl rfl rfl rfl ?_
      refine J.op rfl rfl rfl (V.pkT rfl rfl rfl) ?_
      refine J.nil ?_
      obtain rfl := B.e h1
      refine J.tN (J.to () trivial ?_)
      exact J.keep _ rfl (J.pickE [0, 1] rfl rfl J.here)
    · replace h1 := B.f hB10 h1
      refine J.opOn rfl rfl rfl rfl rfl (V.ldW 0 rfl rfl rfl ts35 ta35 rfl) ?_
      obtain ⟨r11, hr12, h1⟩ := B.bind h1
      refine J.cl (l := [.tmp 9]) [] [.blk b3 [.int .i8 p1_p.Reading, .int .i8 p1_p.Zone] 35, .blk b1 (encA .i8 p0_s) 26] cf38 (wY rfl rfl rfl) rfl rfl rfl rfl rfl rfl (by simp) (fun w H => impl_isPlacement.calls (⟨p1_p.Reading, p1_p.Zone⟩ : impl_Placement) r11 w (Own.refl w)  hr12) fun g13 => ?_
      refine J.opOn rfl rfl rfl rfl rfl (V.nt rfl rfl) ?_
      refine J.op rfl rfl rfl (V.pkF rfl rfl rfl) ?_
      refine J.nil ?_
      obtain rfl := B.e h1
      refine J.tN (J.to () trivial ?_)
      exact J.keep _ rfl (J.pickE [0, 1] rfl rfl J.here)
  · intro gy6 _
    refine J.cond rfl (fun hB15 => ?_) (fun hB15 => ?_)
    · replace h0 := B.t hB15 h0
      refine J.seq ?_
      refine J.region ?_
      refine J.op rfl rfl rfl (V.as rfl rfl) ?_
      refine J.nil ?_
      refine J.tN ?_
      refine J.ret ?_
      refine J.tR ?_
      obtain rfl := B.e h0
      exact J.ret1 rfl rfl fun w H => ⟨(), rfl, H.pick [] (by decide)⟩
    · replace h0 := B.f hB15 h0
      refine J.skip ?_
      refine J.tN ?_
      refine J.seq ?_
      refine J.region ?_
      refine J.op rfl rfl rfl (V.as rfl rfl) ?_
      refine J.nil ?_
      refine J.tN ?_
      refine J.ret ?_
      obtain rfl := B.e h0
      exact J.ret1 rfl rfl fun w H => ⟨(), rfl, H.pick [] (by decide)⟩

/-! ### (impl.Scene).zones: function 42 -/
noncomputable def impl_Scene_zones.b1 (p0_s : (Vector Int 24)) (p1_p : impl_Placement) : (Int × (Vector Int 24)) → Option (Step (Int × (Vector Int 24)) ((Vector Int 24))) := fun s10 => bif (decide (s10.1 < 24)) then (bif (inB s10.1 24) then ((some (rdA p0_s s10.1)).bind fun n_15 => (impl_Placement_zone.f (⟨p1_p.Reading, p1_p.Zone⟩ : impl_Placement) (IntKind.wrap .i64 n_15)).bind fun r16 => bif (inB s10.1 24) then ((some (wrA s10.2 s10.1 (IntKind.wrap .i8 r16))).bind fun m20 => some (.next (IntKind.wrap .i64 (s10.1 + 1), m20))) else none) else none) else (some (.done s10.2))
noncomputable def impl_Scene_zones.f (p0_s : (Vector Int 24)) (p1_p : impl_Placement) : Option ((Vector Int 24)) := (some (zA 24)).bind fun m9 => (loopW (impl_Scene_zones.b1 p0_s p1_p) (0, m9)).bind fun y21 => some y21
set_option maxRecDepth 100000 in
theorem impl_Scene_zones.calls (p0_s : (Vector Int 24)) (p1_p : impl_Placement) (r : (Vector Int 24)) (w : World) (H0 : Own [] w w []) (h0 : impl_Scene_zones.f p0_s p1_p = some r) :
    Calls Try.prog 42 #[.agg (encA .i8 p0_s).toArray, .agg #[.int .i8 p1_p.Reading, .int .i8 p1_p.Zone]] w (fun e w' => ∃ _ : Unit, e = .returned (.agg (encA .i8 r).toArray) ∧ Own [] w w' []) := by
  unfold impl_Scene_zones.f at h0
  replace h0 := B.top h0
  refine calls_of_J (args := [.agg (encA .i8 p0_s).toArray, .agg #[.int .i8 p1_p.Reading, .int .i8 p1_p.Zone]]) Try.func42 rfl Try.ntmps42 rfl [(0, .agg (encA .i8 p0_s).toArray), (1, .agg #[.int .i8 p1_p.Reading, .int .i8 p1_p.Zone])] rfl H0 ?_
  refine J.seq ?_
  refine J.region ?_
  refine J.box rfl rfl rfl rfl rfl (fun _ _ => rfl) fun b1 => ?_
  refine J.box rfl rfl rfl rfl rfl (fun _ _ => rfl) fun b3 => ?_
  refine J.alloc rfl rfl rfl rfl tz23 rfl fun b5 => ?_
  refine J.nil ?_
  refine J.tN ?_
  refine J.seq ?_
  refine J.region ?_
  refine J.op rfl rfl rfl (V.bd (l := []) (v := .agg (encA .i8 (zA 24)).toArray) rfl rfl (fun w H => by kernel_rfl)) ?_
  refine J.alloc rfl rfl rfl rfl tz23 rfl fun b7 => ?_
  refine J.stW (cs' := encA .i8 (zA 24)) 0 rfl rfl rfl rfl rfl rfl ts23 rfl (encA_one .i8 _) (encA_len _ _) (encA_len _ _) ?_
  obtain ⟨m9, em9, h0⟩ := B.lt h0
  refine J.setEnt 0 rfl (congrArg (fun q => Ent.blk _ (encA .i8 q) _) em9) ?_
  refine J.nil ?_
  refine J.tN ?_
  refine J.seq ?_
  refine J.seq ?_
  refine J.region ?_
  refine J.op rfl rfl rfl (V.ldW 3 rfl rfl rfl ts26 ta26 (encA_len _ _)) ?_
  refine J.op rfl rfl rfl (V.mv rfl rfl) ?_
  refine J.nil ?_
  refine J.tN ?_
  obtain ⟨y21, hy23, h0⟩ := B.bind h0
  refine J.cutQ (γ := Unit) (fun _ => True) (fun gy22 => [(4, bp b5 0), (5, bp b7 0)]) (fun gy22 => [.blk b7 (encA .i8 y21) 23, .blk b5 (encA .i8 (zA 24)) 23, .blk b3 [.int .i8 p1_p.Reading, .int .i8 p1_p.Zone] 35, .blk b1 (encA .i8 p0_s) 26]) ?_ ?_
  · refine J.block ?_
    refine J.loop (γ := Unit) hy23 (fun s10 g11 => [(3, bp b3 0), (4, bp b5 0), (5, bp b7 0), (9, .agg (encA .i8 p0_s).toArray), (10, .int .i64 s10.1)]) (fun s10 g11 => [.blk b7 (encA .i8 s10.2) 23, .blk b5 (encA .i8 (zA 24)) 23, .blk b3 [.int .i8 p1_p.Reading, .int .i8 p1_p.Zone] 35, .blk b1 (encA .i8 p0_s) 26]) () ?_ ?_
    · exact J.keep _ rfl (J.pickE [0, 1, 2, 3] rfl rfl J.here)
    · intro rec12 s10 g11 h1
      unfold impl_Scene_zones.b1 at h1
      refine J.seq ?_
      refine J.region ?_
      refine J.op rfl rfl rfl (V.cmp rfl rfl rfl rfl) ?_
      refine J.nil ?_
      refine J.tN ?_
      refine J.seq ?_
      refine J.cond rfl (fun hB13 => ?_) (fun hB13 => ?_)
      · replace h1 := B.t hB13 h1
        refine J.skip ?_
        refine J.tN ?_
        refine J.seq ?_
        refine J.block ?_
        refine J.seq ?_
        refine J.region ?_
        refine J.op rfl rfl rfl (V.mv rfl rfl) ?_
        obtain ⟨hC14, h1⟩ := B.chk h1
        refine J.op rfl rfl rfl (V.ixA rfl rfl rfl tr26 ts22 Try.underlying22 ta22 hC14 (encA_get .i8 _ hC14)) ?_
        refine J.op rfl rfl rfl (V.as rfl rfl) ?_
        refine J.op rfl rfl rfl (V.as rfl rfl) ?_
        obtain ⟨n_15, en_15, h1⟩ := B.lt h1
        refine J.val (congrArg (Value.int .i8) en_15) ?_
        refine J.nil ?_
        refine J.tN ?_
        refine J.region ?_
        refine J.op rfl rfl rfl (V.mv rfl rfl) ?_
        refine J.op rfl rfl rfl (V.ldW 2 rfl rfl rfl ts35 ta35 rfl) ?_
        refine J.op rfl rfl rfl (V.mv rfl rfl) ?_
        refine J.op rfl rfl rfl (V.conv rfl rfl Try.underlying22 Try.underlying2) ?_
        obtain ⟨r16, hr17, h1⟩ := B.bind h1
        refine J.cl (l := [.tmp 15, .tmp 17]) [] [.blk b7 (encA .i8 s10.2) 23, .blk b5 (encA .i8 (zA 24)) 23, .blk b3 [.int .i8 p1_p.Reading, .int .i8 p1_p.Zone] 35, .blk b1 (encA .i8 p0_s) 26] cf40 (wN rfl) rfl rfl rfl rfl rfl rfl (by simp) (fun w H => impl_Placement_zone.calls (⟨p1_p.Reading, p1_p.Zone⟩ : impl_Placement) (IntKind.wrap .i64 n_15) r16 w (Own.refl w)  hr17) fun g18 => ?_
        refine J.op rfl rfl rfl (V.conv rfl rfl Try.underlying2 Try.underlying22) ?_
        obtain ⟨hC19, h1⟩ := B.chk h1
        refine J.op rfl rfl rfl (V.ixB rfl rfl rfl tr23 ts22 hC19) ?_
        refine J.stB 0 rfl rfl rfl rfl rfl rfl ts22 (fun _ _ => rfl) (encA_lt .i8 _ hC19) ?_
        refine J.setEnt 0 rfl (congrArg (fun q => Ent.blk _ q _) (encA_set .i8 _ _ _)) ?_
        obtain ⟨m20, em20, h1⟩ := B.lt h1
        refine J.setEnt 0 rfl (congrArg (fun q => Ent.blk _ (encA .i8 q) _) em20) ?_
        refine J.nil ?_
        refine J.bN ?_
        refine J.tN ?_
        refine J.region ?_
        refine J.op rfl rfl rfl (V.ar rfl rfl rfl rfl) ?_
        refine J.op rfl rfl rfl (V.mv rfl rfl) ?_
        refine J.nil ?_
        refine J.tN (J.next (IntKind.wrap .i64 (s10.1 + 1), m20) () (B.n h1) ?_)
        exact J.keep _ rfl (J.pickE [0, 1, 2, 3] rfl rfl J.here)
      · replace h1 := B.f hB13 h1
        refine J.exit ?_
        refine J.tE ?_
        refine J.tE ?_
        refine J.bE ?_
        obtain rfl := B.d h1
        refine J.tN (J.to () trivial ?_)
        exact J.keep _ rfl (J.pickE [0, 1, 2, 3] rfl rfl J.here)
  · intro gy22 _
    refine J.tN ?_
    refine J.seq ?_
    refine J.region ?_
    refine J.op rfl rfl rfl (V.ldW 0 rfl rfl rfl ts23 ta23 (encA_len _ _)) ?_
    refine J.stW (cs' := encA .i8 y21) 1 rfl rfl rfl rfl rfl rfl ts23 rfl (encA_one .i8 _) (encA_len _ _) (encA_len _ _) ?_
    refine J.nil ?_
    refine J.tN ?_
    refine J.ret ?_
    obtain rfl := B.e h0
    exact J.retC 1 rfl rfl rfl ts23 ta23 (encA_len _ _) fun w H => ⟨(), rfl, H.pick [] (by decide)⟩

/-! ### impl.ZonesOf: function 15 -/
noncomputable def impl_ZonesOf.f (p0_s : (Vector Int 24)) (p1_p : impl_Placement) : Option ((Vector Int 24) × Int) := (impl_placeCode.f p0_s (⟨p1_p.Reading, p1_p.Zone⟩ : impl_Placement)).bind fun r7 => bif (r7 != 0) then ((some (zA 24)).bind fun m11 => some (m11, r7)) else ((impl_Scene_zones.f p0_s (⟨p1_p.Reading, p1_p.Zone⟩ : impl_Placement)).bind fun r12 => some (r12, 0))
set_option maxRecDepth 100000 in
theorem impl_ZonesOf.calls (p0_s : (Vector Int 24)) (p1_p : impl_Placement) (r : (Vector Int 24) × Int) (w : World) (H0 : Own [] w w []) (h0 : impl_ZonesOf.f p0_s p1_p = some r) :
    Calls Try.prog 15 #[.agg (encA .i8 p0_s).toArray, .agg #[.int .i8 p1_p.Reading, .int .i8 p1_p.Zone]] w (fun e w' => ∃ _ : Unit, e = .returned (.tuple #[.agg (encA .i8 r.1).toArray, .int .i64 r.2]) ∧ Own [] w w' []) := by
  unfold impl_ZonesOf.f at h0
  replace h0 := B.top h0
  refine calls_of_J (args := [.agg (encA .i8 p0_s).toArray, .agg #[.int .i8 p1_p.Reading, .int .i8 p1_p.Zone]]) Try.func15 rfl Try.ntmps15 rfl [(0, .agg (encA .i8 p0_s).toArray), (1, .agg #[.int .i8 p1_p.Reading, .int .i8 p1_p.Zone])] rfl H0 ?_
  refine J.seq ?_
  refine J.region ?_
  refine J.box rfl rfl rfl rfl rfl (fun _ _ => rfl) fun b1 => ?_
  refine J.box rfl rfl rfl rfl rfl (fun _ _ => rfl) fun b3 => ?_
  refine J.alloc rfl rfl rfl rfl tz23 rfl fun b5 => ?_
  refine J.op rfl rfl rfl (V.as rfl rfl) ?_
  refine J.nil ?_
  refine J.tN ?_
  refine J.seq ?_
  refine J.seq ?_
  refine J.region ?_
  refine J.op rfl rfl rfl (V.ldW 2 rfl rfl rfl ts26 ta26 (encA_len _ _)) ?_
  refine J.op rfl rfl rfl (V.ldW 1 rfl rfl rfl ts35 ta35 rfl) ?_
  obtain ⟨r7, hr8, h0⟩ := B.bind h0
  refine J.cl (l := [.tmp 7, .tmp 8]) [] [.blk b5 (encA .i8 (zA 24)) 23, .blk b3 [.int .i8 p1_p.Reading, .int .i8 p1_p.Zone] 35, .blk b1 (encA .i8 p0_s) 26] cf41 (wN rfl) rfl rfl rfl rfl rfl rfl (by simp) (fun w H => impl_placeCode.calls p0_s (⟨p1_p.Reading, p1_p.Zone⟩ : impl_Placement) r7 w (Own.refl w)  hr8) fun g9 => ?_
  refine J.op rfl rfl rfl (V.as rfl rfl) ?_
  refine J.nil ?_
  refine J.tN ?_
  refine J.seq ?_
  refine J.region ?_
  refine J.op rfl rfl rfl (V.mv rfl rfl) ?_
  refine J.op rfl rfl rfl (V.cmp rfl rfl rfl rfl) ?_
  refine J.nil ?_
  refine J.tN ?_
  refine J.cond rfl (fun hB10 => ?_) (fun hB10 => ?_)
  · replace h0 := B.t hB10 h0
    refine J.seq ?_
    refine J.region ?_
    refine J.op rfl rfl rfl (V.bd (l := []) (v := .agg (encA .i8 (zA 24)).toArray) rfl rfl (fun w H => by kernel_rfl)) ?_
    refine J.op rfl rfl rfl (V.mv rfl rfl) ?_
    refine J.stW (cs' := encA .i8 (zA 24)) 0 rfl rfl rfl rfl rfl rfl ts23 rfl (encA_one .i8 _) (encA_len _ _) (encA_len _ _) ?_
    obtain ⟨m11, em11, h0⟩ := B.lt h0
    refine J.setEnt 0 rfl (congrArg (fun q => Ent.blk _ (encA .i8 q) _) em11) ?_
    refine J.op rfl rfl rfl (V.as rfl rfl) ?_
    refine J.nil ?_
    refine J.tN ?_
    refine J.ret ?_
    refine J.tR ?_
    obtain rfl := B.e h0
    exact J.retC_1 0 rfl rfl rfl ts23 ta23 (encA_len _ _) rfl fun w H => ⟨(), rfl, H.pick [] (by decide)⟩
  · replace h0 := B.f hB10 h0
    refine J.skip ?_
    refine J.tN ?_
    refine J.seq ?_
    refine J.region ?_
    refine J.op rfl rfl rfl (V.ldW 2 rfl rfl rfl ts26 ta26 (encA_len _ _)) ?_
    refine J.op rfl rfl rfl (V.ldW 1 rfl rfl rfl ts35 ta35 rfl) ?_
    obtain ⟨r12, hr13, h0⟩ := B.bind h0
    refine J.cl (l := [.tmp 14, .tmp 15]) [] [.blk b5 (encA .i8 (zA 24)) 23, .blk b3 [.int .i8 p1_p.Reading, .int .i8 p1_p.Zone] 35, .blk b1 (encA .i8 p0_s) 26] cf42 (wN rfl) rfl rfl rfl rfl rfl rfl (by simp) (fun w H => impl_Scene_zones.calls p0_s (⟨p1_p.Reading, p1_p.Zone⟩ : impl_Placement) r12 w (Own.refl w)  hr13) fun g14 => ?_
    refine J.stW (cs' := encA .i8 r12) 0 rfl rfl rfl rfl rfl rfl ts23 rfl (encA_one .i8 _) (encA_len _ _) (encA_len _ _) ?_
    refine J.op rfl rfl rfl (V.as rfl rfl) ?_
    refine J.nil ?_
    refine J.tN ?_
    refine J.ret ?_
    obtain rfl := B.e h0
    exact J.retC_1 0 rfl rfl rfl ts23 ta23 (encA_len _ _) rfl fun w H => ⟨(), rfl, H.pick [] (by decide)⟩

/-! ### spec.l00In: function 33 -/
noncomputable def spec_l00In.f (p0_n : Int) (p1_low : Int) (p2_high : Int) : Option (Bool) := bif (decide (p1_low ≤ p0_n)) then ((some (decide (p0_n ≤ p2_high))).bind fun t2 => some t2) else (some false)
set_option maxRecDepth 100000 in
theorem spec_l00In.calls (p0_n : Int) (p1_low : Int) (p2_high : Int) (r : Bool) (w : World) (H0 : Own [] w w []) (h0 : spec_l00In.f p0_n p1_low p2_high = some r) :
    Calls Try.prog 33 #[.int .i64 p0_n, .int .i64 p1_low, .int .i64 p2_high] w (fun e w' => ∃ _ : Unit, e = .returned (.bool r) ∧ Own [] w w' []) := by
  unfold spec_l00In.f at h0
  replace h0 := B.top h0
  refine calls_of_J (args := [.int .i64 p0_n, .int .i64 p1_low, .int .i64 p2_high]) Try.func33 rfl Try.ntmps33 rfl [(0, .int .i64 p0_n), (1, .int .i64 p1_low), (2, .int .i64 p2_high)] rfl H0 ?_
  refine J.seq ?_
  refine J.region ?_
  refine J.op rfl rfl rfl (V.as rfl rfl) ?_
  refine J.nil ?_
  refine J.tN ?_
  refine J.seq ?_
  refine J.region ?_
  refine J.op rfl rfl rfl (V.mv rfl rfl) ?_
  refine J.op rfl rfl rfl (V.mv rfl rfl) ?_
  refine J.op rfl rfl rfl (V.cmp rfl rfl rfl rfl) ?_
  refine J.op rfl rfl rfl (V.mv rfl rfl) ?_
  refine J.split 10 rfl (fun hB1 => ?_) (fun hB1 => ?_)
  · replace h0 := B.t hB1 h0
    refine J.opOn rfl rfl rfl rfl rfl (V.mv rfl rfl) ?_
    refine J.opOn rfl rfl rfl rfl rfl (V.mv rfl rfl) ?_
    refine J.opOn rfl rfl rfl rfl rfl (V.cmp rfl rfl rfl rfl) ?_
    refine J.op rfl rfl rfl (V.pkT rfl rfl rfl) ?_
    refine J.op rfl rfl rfl (V.as rfl rfl) ?_
    obtain ⟨t2, et2, h0⟩ := B.lt h0
    refine J.val (congrArg (Value.bool) et2) ?_
    refine J.nil ?_
    refine J.tN ?_
    refine J.ret ?_
    obtain rfl := B.e h0
    exact J.ret1 rfl rfl fun w H => ⟨(), rfl, H.pick [] (by decide)⟩
  · replace h0 := B.f hB1 h0
    refine J.opOff rfl rfl rfl rfl rfl rfl ?_
    refine J.opOff rfl rfl rfl rfl rfl rfl ?_
    refine J.opOff rfl rfl rfl rfl rfl rfl ?_
    refine J.op rfl rfl rfl (V.pkF rfl rfl rfl) ?_
    refine J.op rfl rfl rfl (V.as rfl rfl) ?_
    refine J.nil ?_
    refine J.tN ?_
    refine J.ret ?_
    obtain rfl := B.e h0
    exact J.ret1 rfl rfl fun w H => ⟨(), rfl, H.pick [] (by decide)⟩

/-! ### spec.l06Reading: function 51 -/
noncomputable def spec_l06Reading.f (p0_n : Int) : Option (Bool) := (spec_l00In.f p0_n 0 60).bind fun r1 => some r1
set_option maxRecDepth 100000 in
theorem spec_l06Reading.calls (p0_n : Int) (r : Bool) (w : World) (H0 : Own [] w w []) (h0 : spec_l06Reading.f p0_n = some r) :
    Calls Try.prog 51 #[.int .i64 p0_n] w (fun e w' => ∃ _ : Unit, e = .returned (.bool r) ∧ Own [] w w' []) := by
  unfold spec_l06Reading.f at h0
  replace h0 := B.top h0
  refine calls_of_J (args := [.int .i64 p0_n]) Try.func51 rfl Try.ntmps51 rfl [(0, .int .i64 p0_n)] rfl H0 ?_
  refine J.seq ?_
  refine J.region ?_
  refine J.op rfl rfl rfl (V.as rfl rfl) ?_
  refine J.nil ?_
  refine J.tN ?_
  refine J.seq ?_
  refine J.region ?_
  refine J.op rfl rfl rfl (V.mv rfl rfl) ?_
  obtain ⟨r1, hr2, h0⟩ := B.bind h0
  refine J.cl (l := [.tmp 3, .const (.int .i64 0), .const (.int .i64 60)]) [] [] cf33 (wN rfl) rfl rfl rfl rfl rfl rfl (by simp) (fun w H => spec_l00In.calls p0_n 0 60 r1 w (Own.refl w)  hr2) fun g3 => ?_
  refine J.op rfl rfl rfl (V.as rfl rfl) ?_
  refine J.nil ?_
  refine J.tN ?_
  refine J.ret ?_
  obtain rfl := B.e h0
  exact J.ret1 rfl rfl fun w H => ⟨(), rfl, H.pick [] (by decide)⟩

/-! ### spec.l06Ok: function 29 -/
noncomputable def spec_l06Ok.b1 (p0_s : (Vector Int 24)) : Int → Option (Step (Int) (Sum (Unit) (Bool))) := fun s1 => bif (decide (s1 < 24)) then (bif (inB s1 24) then ((spec_l06Reading.f (IntKind.wrap .i64 (rdA p0_s s1))).bind fun r6 => bif (!r6) then (some (.done (.inr false))) else ((some (IntKind.wrap .i64 (s1 + 1))).bind fun i_10 => some (.next i_10))) else none) else (some (.done (.inl ())))
noncomputable def spec_l06Ok.f (p0_s : (Vector Int 24)) : Option (Bool) := (loopW (spec_l06Ok.b1 p0_s) 0).bind (Sum.elim (fun y12 => some true) (fun r => some r))
set_option maxRecDepth 100000 in
theorem spec_l06Ok.calls (b0_ : Nat) (p0_s : (Vector Int 24)) (r : Bool) (w : World) (H0 : Own [b0_] w w [.blk b0_ (encA .i8 p0_s) 26]) (h0 : spec_l06Ok.f p0_s = some r) :
    Calls Try.prog 29 #[bp b0_ 0] w (fun e w' => ∃ _ : Unit, e = .returned (.bool r) ∧ Own [b0_] w w' [.blk b0_ (encA .i8 p0_s) 26]) := by
  unfold spec_l06Ok.f at h0
  replace h0 := B.top h0
  refine calls_of_J (args := [bp b0_ 0]) Try.func29 rfl Try.ntmps29 rfl [(0, bp b0_ 0)] rfl H0 ?_
  refine J.seq ?_
  refine J.region ?_
  refine J.op rfl rfl rfl (V.as rfl rfl) ?_
  refine J.nil ?_
  refine J.tN ?_
  refine J.seq ?_
  refine J.seq ?_
  refine J.region ?_
  refine J.op rfl rfl rfl (V.as rfl rfl) ?_
  refine J.nil ?_
  refine J.tN ?_
  obtain ⟨o14, hy13, h0⟩ := B.bind h0
  refine J.cutQ (γ := (Unit) × (Unit)) (fun gy12 => o14 = .inl gy12.1) (fun gy12 => []) (fun gy12 => [.blk b0_ (encA .i8 p0_s) 26]) ?_ ?_
  · refine J.block ?_
    refine J.loop (γ := Unit) hy13 (fun s1 g2 => [(0, bp b0_ 0), (3, .int .i64 s1)]) (fun s1 g2 => [.blk b0_ (encA .i8 p0_s) 26]) () ?_ ?_
    · exact J.keep _ rfl (J.pickE [0] rfl rfl J.here)
    · intro rec3 s1 g2 h1
      unfold spec_l06Ok.b1 at h1
      refine J.seq ?_
      refine J.seq ?_
      refine J.region ?_
      refine J.op rfl rfl rfl (V.mv rfl rfl) ?_
      refine J.op rfl rfl rfl (V.cmp rfl rfl rfl rfl) ?_
      refine J.nil ?_
      refine J.tN ?_
      refine J.cond rfl (fun hB4 => ?_) (fun hB4 => ?_)
      · replace h1 := B.t hB4 h1
        refine J.skip ?_
        refine J.tN ?_
        refine J.seq ?_
        refine J.block ?_
        refine J.seq ?_
        refine J.region ?_
        refine J.op rfl rfl rfl (V.mv rfl rfl) ?_
        refine J.op rfl rfl rfl (V.mv rfl rfl) ?_
        refine J.op rfl rfl rfl (V.nc rfl rfl) ?_
        obtain ⟨hC5, h1⟩ := B.chk h1
        refine J.op rfl rfl rfl (V.ixB rfl rfl rfl tr26 ts22 hC5) ?_
        refine J.op rfl rfl rfl (V.ldB 0 rfl rfl rfl Try.underlying22 ta22 (encA_get0 .i8 _ hC5)) ?_
        refine J.op rfl rfl rfl (V.conv rfl rfl Try.underlying22 Try.underlying2) ?_
        obtain ⟨r6, hr7, h1⟩ := B.bind h1
        refine J.cl (l := [.tmp 13]) [] [.blk b0_ (encA .i8 p0_s) 26] cf51 (wN rfl) rfl rfl rfl rfl rfl rfl (by simp) (fun w H => spec_l06Reading.calls (IntKind.wrap .i64 (rdA p0_s s1)) r6 w (Own.refl w)  hr7) fun g8 => ?_
        refine J.op rfl rfl rfl (V.nt rfl rfl) ?_
        refine J.nil ?_
        refine J.tN ?_
        refine J.cond rfl (fun hB9 => ?_) (fun hB9 => ?_)
        · replace h1 := B.t hB9 h1
          refine J.seq ?_
          refine J.region ?_
          refine J.op rfl rfl rfl (V.as rfl rfl) ?_
          refine J.nil ?_
          refine J.tN ?_
          refine J.ret ?_
          refine J.bR ?_
          refine J.tR ?_
          refine J.tR ?_
          refine J.bR ?_
          refine J.tR ?_
          refine J.tR ?_
          obtain rfl := B.d h1
          replace h0 := B.inr h0
          obtain rfl := B.e h0
          exact J.ret1 rfl rfl fun w H => ⟨(), rfl, H.pick [0] (by decide)⟩
        · replace h1 := B.f hB9 h1
          refine J.skip ?_
          refine J.bN ?_
          refine J.tN ?_
          refine J.region ?_
          refine J.op rfl rfl rfl (V.mv rfl rfl) ?_
          refine J.op rfl rfl rfl (V.ar rfl rfl rfl rfl) ?_
          refine J.op rfl rfl rfl (V.as rfl rfl) ?_
          obtain ⟨i_10, ei_10, h1⟩ := B.lt h1
          refine J.val (congrArg (Value.int .i64) ei_10) ?_
          refine J.nil ?_
          refine J.tN (J.next i_10 () (B.n h1) ?_)
          exact J.keep _ rfl (J.pickE [0] rfl rfl J.here)
      · replace h1 := B.f hB4 h1
        refine J.exit ?_
        refine J.tE ?_
        refine J.tE ?_
        refine J.bE ?_
        obtain rfl := B.d h1
        refine J.tN (J.to ((), ()) rfl ?_)
        exact J.keep _ rfl (J.pickE [0] rfl rfl J.here)
  · intro gy12 hG
    replace h0 := B.inl hG h0
    refine J.tN ?_
    refine J.seq ?_
    refine J.region ?_
    refine J.op rfl rfl rfl (V.as rfl rfl) ?_
    refine J.nil ?_
    refine J.tN ?_
    refine J.ret ?_
    obtain rfl := B.e h0
    exact J.ret1 rfl rfl fun w H => ⟨(), rfl, H.pick [0] (by decide)⟩

/-! ### spec.l06Placement: function 50 -/
noncomputable def spec_l06Placement.f (p0_p : impl_Placement) : Option (Bool) := (spec_l06Reading.f (IntKind.wrap .i64 p0_p.Reading)).bind fun r3 => bif r3 then ((spec_l00In.f (IntKind.wrap .i64 p0_p.Zone) 0 10).bind fun r7 => some r7) else (some false)
set_option maxRecDepth 100000 in
theorem spec_l06Placement.calls (p0_p : impl_Placement) (r : Bool) (w : World) (H0 : Own [] w w []) (h0 : spec_l06Placement.f p0_p = some r) :
    Calls Try.prog 50 #[.agg #[.int .i8 p0_p.Reading, .int .i8 p0_p.Zone]] w (fun e w' => ∃ _ : Unit, e = .returned (.bool r) ∧ Own [] w w' []) := by
  unfold spec_l06Placement.f at h0
  replace h0 := B.top h0
  refine calls_of_J (args := [.agg #[.int .i8 p0_p.Reading, .int .i8 p0_p.Zone]]) Try.func50 rfl Try.ntmps50 rfl [(0, .agg #[.int .i8 p0_p.Reading, .int .i8 p0_p.Zone])] rfl H0 ?_
  refine J.seq ?_
  refine J.region ?_
  refine J.box rfl rfl rfl rfl rfl (fun _ _ => rfl) fun b1 => ?_
  refine J.op rfl rfl rfl (V.as rfl rfl) ?_
  refine J.nil ?_
  refine J.tN ?_
  refine J.seq ?_
  refine J.region ?_
  refine J.op rfl rfl rfl (V.faB rfl rfl tf0_35) ?_
  refine J.op rfl rfl rfl (V.ldB 0 rfl rfl rfl Try.underlying22 ta22 rfl) ?_
  refine J.op rfl rfl rfl (V.conv rfl rfl Try.underlying22 Try.underlying2) ?_
  obtain ⟨r3, hr4, h0⟩ := B.bind h0
  refine J.cl (l := [.tmp 5]) [] [.blk b1 [.int .i8 p0_p.Reading, .int .i8 p0_p.Zone] 35] cf51 (wN rfl) rfl rfl rfl rfl rfl rfl (by simp) (fun w H => spec_l06Reading.calls (IntKind.wrap .i64 p0_p.Reading) r3 w (Own.refl w)  hr4) fun g5 => ?_
  refine J.op rfl rfl rfl (V.mv rfl rfl) ?_
  refine J.split 7 rfl (fun hB6 => ?_) (fun hB6 => ?_)
  · replace h0 := B.t hB6 h0
    refine J.opOn rfl rfl rfl rfl rfl (V.faB rfl rfl tf1_35) ?_
    refine J.opOn rfl rfl rfl rfl rfl (V.ldB 0 rfl rfl rfl Try.underlying22 ta22 rfl) ?_
    refine J.opOn rfl rfl rfl rfl rfl (V.conv rfl rfl Try.underlying22 Try.underlying2) ?_
    obtain ⟨r7, hr8, h0⟩ := B.bind h0
    refine J.cl (l := [.tmp 10, .const (.int .i64 0), .const (.int .i64 10)]) [] [.blk b1 [.int .i8 p0_p.Reading, .int .i8 p0_p.Zone] 35] cf33 (wY rfl rfl rfl) rfl rfl rfl rfl rfl rfl (by simp) (fun w H => spec_l00In.calls (IntKind.wrap .i64 p0_p.Zone) 0 10 r7 w (Own.refl w)  hr8) fun g9 => ?_
    refine J.op rfl rfl rfl (V.pkT rfl rfl rfl) ?_
    refine J.op rfl rfl rfl (V.as rfl rfl) ?_
    refine J.nil ?_
    refine J.tN ?_
    refine J.ret ?_
    obtain rfl := B.e h0
    exact J.ret1 rfl rfl fun w H => ⟨(), rfl, H.pick [] (by decide)⟩
  · replace h0 := B.f hB6 h0
    refine J.opOff rfl rfl rfl rfl rfl rfl ?_
    refine J.opOff rfl rfl rfl rfl rfl rfl ?_
    refine J.opOff rfl rfl rfl rfl rfl rfl ?_
    refine J.opOff rfl rfl rfl rfl rfl rfl ?_
    refine J.op rfl rfl rfl (V.pkF rfl rfl rfl) ?_
    refine J.op rfl rfl rfl (V.as rfl rfl) ?_
    refine J.nil ?_
    refine J.tN ?_
    refine J.ret ?_
    obtain rfl := B.e h0
    exact J.ret1 rfl rfl fun w H => ⟨(), rfl, H.pick [] (by decide)⟩

/-! ### spec.l06Both: function 43 -/
noncomputable def spec_l06Both.f (p0_s : (Vector Int 24)) (p1_p : impl_Placement) : Option (Int) := ((spec_l06Ok.f p0_s).bind fun r5 => bif (!r5) then (some true) else ((spec_l06Placement.f (⟨p1_p.Reading, p1_p.Zone⟩ : impl_Placement)).bind fun r9 => some (!r9)) : Option (Bool)).bind fun y3 => bif y3 then (some 1) else (some 0)
set_option maxRecDepth 100000 in
theorem spec_l06Both.calls (b0_ : Nat) (p0_s : (Vector Int 24)) (p1_p : impl_Placement) (r : Int) (w : World) (H0 : Own [b0_] w w [.blk b0_ (encA .i8 p0_s) 26]) (h0 : spec_l06Both.f p0_s p1_p = some r) :
    Calls Try.prog 43 #[bp b0_ 0, .agg #[.int .i8 p1_p.Reading, .int .i8 p1_p.Zone]] w (fun e w' => ∃ _ : Unit, e = .returned (.int .i64 r) ∧ Own [b0_] w w' [.blk b0_ (encA .i8 p0_s) 26]) := by
  unfold spec_l06Both.f at h0
  replace h0 := B.top h0
  refine calls_of_J (args := [bp b0_ 0, .agg #[.int .i8 p1_p.Reading, .int .i8 p1_p.Zone]]) Try.func43 rfl Try.ntmps43 rfl [(0, bp b0_ 0), (1, .agg #[.int .i8 p1_p.Reading, .int .i8 p1_p.Zone])] rfl H0 ?_
  refine J.seq ?_
  refine J.region ?_
  refine J.box rfl rfl rfl rfl rfl (fun _ _ => rfl) fun b1 => ?_
  refine J.op rfl rfl rfl (V.as rfl rfl) ?_
  refine J.nil ?_
  refine J.tN ?_
  refine J.seq ?_
  refine J.seq ?_
  obtain ⟨y3, hy12, h0⟩ := B.bind h0
  replace hy12 := B.top hy12
  refine J.cut (γ := Unit) (fun _ => True) (fun gy4 => [(12, .bool y3)]) (fun gy4 => [.blk b1 [.int .i8 p1_p.Reading, .int .i8 p1_p.Zone] 35, .blk b0_ (encA .i8 p0_s) 26]) ?_ ?_
  · have h1 := hy12
    refine J.region ?_
    refine J.op rfl rfl rfl (V.mv rfl rfl) ?_
    refine J.pickE [1, 0] (es' := [.blk b0_ (encA .i8 p0_s) 26, .blk b1 [.int .i8 p1_p.Reading, .int .i8 p1_p.Zone] 35]) rfl rfl ?_
    obtain ⟨r5, hr6, h1⟩ := B.bind h1
    refine J.cl (l := [.tmp 5]) [.blk b0_ (encA .i8 p0_s) 26] [.blk b1 [.int .i8 p1_p.Reading, .int .i8 p1_p.Zone] 35] cf29 (wN rfl) rfl rfl rfl rfl rfl rfl hM1 (fun w H => spec_l06Ok.calls b0_ p0_s r5 w H.enter1  hr6) fun g7 => ?_
    refine J.op rfl rfl rfl (V.nt rfl rfl) ?_
    refine J.op rfl rfl rfl (V.mv rfl rfl) ?_
    refine J.split 8 rfl (fun hB8 => ?_) (fun hB8 => ?_)
    · replace h1 := B.t hB8 h1
      refine J.opOff rfl rfl rfl rfl rfl rfl ?_
      refine J.opOff rfl rfl rfl rfl rfl rfl ?_
      refine J.opOff rfl rfl rfl rfl rfl rfl ?_
      refine J.op rfl rfl rfl (V.pkT rfl rfl rfl) ?_
      refine J.nil ?_
      obtain rfl := B.e h1
      refine J.tN (J.to () trivial ?_)
      exact J.keep _ rfl (J.pickE [1, 0] rfl rfl J.here)
    · replace h1 := B.f hB8 h1
      refine J.opOn rfl rfl rfl rfl rfl (V.ldW 1 rfl rfl rfl ts35 ta35 rfl) ?_
      obtain ⟨r9, hr10, h1⟩ := B.bind h1
      refine J.cl (l := [.tmp 9]) [] [.blk b0_ (encA .i8 p0_s) 26, .blk b1 [.int .i8 p1_p.Reading, .int .i8 p1_p.Zone] 35] cf50 (wY rfl rfl rfl) rfl rfl rfl rfl rfl rfl (by simp) (fun w H => spec_l06Placement.calls (⟨p1_p.Reading, p1_p.Zone⟩ : impl_Placement) r9 w (Own.refl w)  hr10) fun g11 => ?_
      refine J.opOn rfl rfl rfl rfl rfl (V.nt rfl rfl) ?_
      refine J.op rfl rfl rfl (V.pkF rfl rfl rfl) ?_
      refine J.nil ?_
      obtain rfl := B.e h1
      refine J.tN (J.to () trivial ?_)
      exact J.keep _ rfl (J.pickE [1, 0] rfl rfl J.here)
  · intro gy4 _
    refine J.cond rfl (fun hB13 => ?_) (fun hB13 => ?_)
    · replace h0 := B.t hB13 h0
      refine J.seq ?_
      refine J.region ?_
      refine J.op rfl rfl rfl (V.as rfl rfl) ?_
      refine J.nil ?_
      refine J.tN ?_
      refine J.ret ?_
      refine J.tR ?_
      obtain rfl := B.e h0
      exact J.ret1 rfl rfl fun w H => ⟨(), rfl, H.pick [1] (by decide)⟩
    · replace h0 := B.f hB13 h0
      refine J.skip ?_
      refine J.tN ?_
      refine J.seq ?_
      refine J.region ?_
      refine J.op rfl rfl rfl (V.as rfl rfl) ?_
      refine J.nil ?_
      refine J.tN ?_
      refine J.ret ?_
      obtain rfl := B.e h0
      exact J.ret1 rfl rfl fun w H => ⟨(), rfl, H.pick [1] (by decide)⟩

/-! ### spec.l04Down: function 62 -/
noncomputable def spec_l04Down.f (p0_a : Int) (p1_b : Int) : Option (Int) := bif (!(p1_b == 0)) then ((some (IntKind.wrap .i64 (Int.tdiv p0_a p1_b))).bind fun q_2 => bif (!(p1_b == 0)) then (bif (decide ((Int.tmod p0_a p1_b) < 0)) then ((some (IntKind.wrap .i64 (q_2 - 1))).bind fun q_5 => some q_5) else (some q_2)) else none) else none
set_option maxRecDepth 100000 in
theorem spec_l04Down.calls (p0_a : Int) (p1_b : Int) (r : Int) (w : World) (H0 : Own [] w w []) (h0 : spec_l04Down.f p0_a p1_b = some r) :
    Calls Try.prog 62 #[.int .i64 p0_a, .int .i64 p1_b] w (fun e w' => ∃ _ : Unit, e = .returned (.int .i64 r) ∧ Own [] w w' []) := by
  unfold spec_l04Down.f at h0
  replace h0 := B.top h0
  refine calls_of_J (args := [.int .i64 p0_a, .int .i64 p1_b]) Try.func62 rfl Try.ntmps62 rfl [(0, .int .i64 p0_a), (1, .int .i64 p1_b)] rfl H0 ?_
  refine J.seq ?_
  refine J.region ?_
  refine J.op rfl rfl rfl (V.as rfl rfl) ?_
  refine J.nil ?_
  refine J.tN ?_
  refine J.seq ?_
  refine J.region ?_
  refine J.op rfl rfl rfl (V.mv rfl rfl) ?_
  refine J.op rfl rfl rfl (V.mv rfl rfl) ?_
  obtain ⟨hC1, h0⟩ := B.chk h0
  refine J.op rfl rfl rfl (V.quo rfl rfl rfl (nz hC1)) ?_
  refine J.op rfl rfl rfl (V.as rfl rfl) ?_
  obtain ⟨q_2, eq_2, h0⟩ := B.lt h0
  refine J.val (congrArg (Value.int .i64) eq_2) ?_
  refine J.nil ?_
  refine J.tN ?_
  refine J.seq ?_
  refine J.seq ?_
  refine J.region ?_
  refine J.op rfl rfl rfl (V.mv rfl rfl) ?_
  refine J.op rfl rfl rfl (V.mv rfl rfl) ?_
  obtain ⟨hC3, h0⟩ := B.chk h0
  refine J.op rfl rfl rfl (V.rem rfl rfl rfl (nz hC3)) ?_
  refine J.op rfl rfl rfl (V.cmp rfl rfl rfl rfl) ?_
  refine J.nil ?_
  refine J.tN ?_
  refine J.cond rfl (fun hB4 => ?_) (fun hB4 => ?_)
  · replace h0 := B.t hB4 h0
    refine J.region ?_
    refine J.op rfl rfl rfl (V.mv rfl rfl) ?_
    refine J.op rfl rfl rfl (V.ar rfl rfl rfl rfl) ?_
    refine J.op rfl rfl rfl (V.as rfl rfl) ?_
    obtain ⟨q_5, eq_5, h0⟩ := B.lt h0
    refine J.val (congrArg (Value.int .i64) eq_5) ?_
    refine J.nil ?_
    refine J.tN ?_
    refine J.seq ?_
    refine J.region ?_
    refine J.op rfl rfl rfl (V.mv rfl rfl) ?_
    refine J.op rfl rfl rfl (V.as rfl rfl) ?_
    refine J.nil ?_
    refine J.tN ?_
    refine J.ret ?_
    obtain rfl := B.e h0
    exact J.ret1 rfl rfl fun w H => ⟨(), rfl, H.pick [] (by decide)⟩
  · replace h0 := B.f hB4 h0
    refine J.skip ?_
    refine J.tN ?_
    refine J.seq ?_
    refine J.region ?_
    refine J.op rfl rfl rfl (V.mv rfl rfl) ?_
    refine J.op rfl rfl rfl (V.as rfl rfl) ?_
    refine J.nil ?_
    refine J.tN ?_
    refine J.ret ?_
    obtain rfl := B.e h0
    exact J.ret1 rfl rfl fun w H => ⟨(), rfl, H.pick [] (by decide)⟩

/-! ### spec.l06Zone: function 44 -/
noncomputable def spec_l06Zone.f (p0_p : impl_Placement) (p1_reading : Int) : Option (Int) := (spec_l04Down.f (IntKind.wrap .i64 ((IntKind.wrap .i64 (p1_reading - (IntKind.wrap .i64 p0_p.Reading))) + 1)) 3).bind fun r3 => (some (IntKind.wrap .i64 ((IntKind.wrap .i64 p0_p.Zone) + r3))).bind fun t6 => some t6
set_option maxRecDepth 100000 in
theorem spec_l06Zone.calls (p0_p : impl_Placement) (p1_reading : Int) (r : Int) (w : World) (H0 : Own [] w w []) (h0 : spec_l06Zone.f p0_p p1_reading = some r) :
    Calls Try.prog 44 #[.agg #[.int .i8 p0_p.Reading, .int .i8 p0_p.Zone], .int .i64 p1_reading] w (fun e w' => ∃ _ : Unit, e = .returned (.int .i64 r) ∧ Own [] w w' []) := by
  unfold spec_l06Zone.f at h0
  replace h0 := B.top h0
  refine calls_of_J (args := [.agg #[.int .i8 p0_p.Reading, .int .i8 p0_p.Zone], .int .i64 p1_reading]) Try.func44 rfl Try.ntmps44 rfl [(0, .agg #[.int .i8 p0_p.Reading, .int .i8 p0_p.Zone]), (1, .int .i64 p1_reading)] rfl H0 ?_
  refine J.seq ?_
  refine J.region ?_
  refine J.box rfl rfl rfl rfl rfl (fun _ _ => rfl) fun b1 => ?_
  refine J.op rfl rfl rfl (V.as rfl rfl) ?_
  refine J.nil ?_
  refine J.tN ?_
  refine J.seq ?_
  refine J.quiet mixed (by kernel_rfl) ?_
  refine JQ.op rfl rfl rfl (V.faB rfl rfl tf1_35) ?_
  refine JQ.op rfl rfl rfl (V.ldB 0 rfl rfl rfl Try.underlying22 ta22 rfl) ?_
  refine JQ.op rfl rfl rfl (V.conv rfl rfl Try.underlying22 Try.underlying2) ?_
  refine JQ.op rfl rfl rfl (V.mv rfl rfl) ?_
  refine JQ.op rfl rfl rfl (V.faB rfl rfl tf0_35) ?_
  refine JQ.op rfl rfl rfl (V.ldB 0 rfl rfl rfl Try.underlying22 ta22 rfl) ?_
  refine JQ.op rfl rfl rfl (V.conv rfl rfl Try.underlying22 Try.underlying2) ?_
  refine JQ.op rfl rfl rfl (V.ar rfl rfl rfl rfl) ?_
  refine JQ.op rfl rfl rfl (V.ar rfl rfl rfl rfl) ?_
  obtain ⟨r3, hr4, h0⟩ := B.bind h0
  obtain ⟨_, cf1, cf2, cf3⟩ := cf62
  refine JQ.cl (l := [.tmp 13, .const (.int .i64 3)]) cf1 cf2 cf3 (wN rfl) rfl rfl rfl rfl rfl (fun w H => spec_l04Down.calls (IntKind.wrap .i64 ((IntKind.wrap .i64 (p1_reading - (IntKind.wrap .i64 p0_p.Reading))) + 1)) 3 r3 w (Own.refl w)  hr4) ?_
  refine JQ.op rfl rfl rfl (V.ar rfl rfl rfl rfl) ?_
  refine JQ.op rfl rfl rfl (V.as rfl rfl) ?_
  obtain ⟨t6, et6, h0⟩ := B.lt h0
  refine JQ.val (congrArg (Value.int .i64) et6) ?_
  refine JQ.nil ?_
  refine J.tN ?_
  refine J.ret ?_
  obtain rfl := B.e h0
  exact J.ret1 rfl rfl fun w H => ⟨(), rfl, H.pick [] (by decide)⟩

/-! ### spec.ZonesOf: function 16 -/
noncomputable def spec_ZonesOf.b1 (p0_s : (Vector Int 24)) (p1_p : impl_Placement) : (Int × (Vector Int 24)) → Option (Step (Int × (Vector Int 24)) ((Vector Int 24))) := fun s14 => bif (decide (s14.1 < 24)) then (bif (inB s14.1 24) then ((spec_l06Zone.f (⟨p1_p.Reading, p1_p.Zone⟩ : impl_Placement) (IntKind.wrap .i64 (rdA p0_s s14.1))).bind fun r19 => bif (inB s14.1 24) then ((some (wrA s14.2 s14.1 (IntKind.wrap .i8 r19))).bind fun m23 => (some (IntKind.wrap .i64 (s14.1 + 1))).bind fun i_24 => some (.next (i_24, m23))) else none) else none) else (some (.done s14.2))
noncomputable def spec_ZonesOf.f (p0_s : (Vector Int 24)) (p1_p : impl_Placement) : Option ((Vector Int 24) × Int) := (some (zA 24)).bind fun m9 => (spec_l06Both.f p0_s (⟨p1_p.Reading, p1_p.Zone⟩ : impl_Placement)).bind fun r10 => bif (r10 != 0) then (some (m9, r10)) else ((loopW (spec_ZonesOf.b1 p0_s p1_p) (0, m9)).bind fun y25 => some (y25, 0))
set_option maxRecDepth 100000 in
theorem spec_ZonesOf.calls (p0_s : (Vector Int 24)) (p1_p : impl_Placement) (r : (Vector Int 24) × Int) (w : World) (H0 : Own [] w w []) (h0 : spec_ZonesOf.f p0_s p1_p = some r) :
    Calls Try.prog 16 #[.agg (encA .i8 p0_s).toArray, .agg #[.int .i8 p1_p.Reading, .int .i8 p1_p.Zone]] w (fun e w' => ∃ _ : Unit, e = .returned (.tuple #[.agg (encA .i8 r.1).toArray, .int .i64 r.2]) ∧ Own [] w w' []) := by
  unfold spec_ZonesOf.f at h0
  replace h0 := B.top h0
  refine calls_of_J (args := [.agg (encA .i8 p0_s).toArray, .agg #[.int .i8 p1_p.Reading, .int .i8 p1_p.Zone]]) Try.func16 rfl Try.ntmps16 rfl [(0, .agg (encA .i8 p0_s).toArray), (1, .agg #[.int .i8 p1_p.Reading, .int .i8 p1_p.Zone])] rfl H0 ?_
  refine J.seq ?_
  refine J.region ?_
  refine J.box rfl rfl rfl rfl rfl (fun _ _ => rfl) fun b1 => ?_
  refine J.box rfl rfl rfl rfl rfl (fun _ _ => rfl) fun b3 => ?_
  refine J.alloc rfl rfl rfl rfl tz23 rfl fun b5 => ?_
  refine J.op rfl rfl rfl (V.as rfl rfl) ?_
  refine J.nil ?_
  refine J.tN ?_
  refine J.seq ?_
  refine J.region ?_
  refine J.op rfl rfl rfl (V.bd (l := []) (v := .agg (encA .i8 (zA 24)).toArray) rfl rfl (fun w H => by kernel_rfl)) ?_
  refine J.alloc rfl rfl rfl rfl tz23 rfl fun b7 => ?_
  refine J.stW (cs' := encA .i8 (zA 24)) 0 rfl rfl rfl rfl rfl rfl ts23 rfl (encA_one .i8 _) (encA_len _ _) (encA_len _ _) ?_
  obtain ⟨m9, em9, h0⟩ := B.lt h0
  refine J.setEnt 0 rfl (congrArg (fun q => Ent.blk _ (encA .i8 q) _) em9) ?_
  refine J.nil ?_
  refine J.tN ?_
  refine J.seq ?_
  refine J.seq ?_
  refine J.region ?_
  refine J.op rfl rfl rfl (V.ldW 2 rfl rfl rfl ts35 ta35 rfl) ?_
  refine J.pickE [3, 0, 1, 2] (es' := [.blk b1 (encA .i8 p0_s) 26, .blk b7 (encA .i8 m9) 23, .blk b5 (encA .i8 (zA 24)) 23, .blk b3 [.int .i8 p1_p.Reading, .int .i8 p1_p.Zone] 35]) rfl rfl ?_
  obtain ⟨r10, hr11, h0⟩ := B.bind h0
  refine J.cl (l := [.tmp 2, .tmp 10]) [.blk b1 (encA .i8 p0_s) 26] [.blk b7 (encA .i8 m9) 23, .blk b5 (encA .i8 (zA 24)) 23, .blk b3 [.int .i8 p1_p.Reading, .int .i8 p1_p.Zone] 35] cf43 (wN rfl) rfl rfl rfl rfl rfl rfl hM1 (fun w H => spec_l06Both.calls b1 p0_s (⟨p1_p.Reading, p1_p.Zone⟩ : impl_Placement) r10 w H.enter1  hr11) fun g12 => ?_
  refine J.op rfl rfl rfl (V.as rfl rfl) ?_
  refine J.nil ?_
  refine J.tN ?_
  refine J.seq ?_
  refine J.region ?_
  refine J.op rfl rfl rfl (V.mv rfl rfl) ?_
  refine J.op rfl rfl rfl (V.cmp rfl rfl rfl rfl) ?_
  refine J.nil ?_
  refine J.tN ?_
  refine J.cond rfl (fun hB13 => ?_) (fun hB13 => ?_)
  · replace h0 := B.t hB13 h0
    refine J.seq ?_
    refine J.region ?_
    refine J.op rfl rfl rfl (V.ldW 1 rfl rfl rfl ts23 ta23 (encA_len _ _)) ?_
    refine J.op rfl rfl rfl (V.mv rfl rfl) ?_
    refine J.stW (cs' := encA .i8 m9) 2 rfl rfl rfl rfl rfl rfl ts23 rfl (encA_one .i8 _) (encA_len _ _) (encA_len _ _) ?_
    refine J.op rfl rfl rfl (V.as rfl rfl) ?_
    refine J.nil ?_
    refine J.tN ?_
    refine J.ret ?_
    refine J.tR ?_
    obtain rfl := B.e h0
    exact J.retC_1 2 rfl rfl rfl ts23 ta23 (encA_len _ _) rfl fun w H => ⟨(), rfl, H.pick [] (by decide)⟩
  · replace h0 := B.f hB13 h0
    refine J.skip ?_
    refine J.tN ?_
    refine J.seq ?_
    refine J.seq ?_
    refine J.region ?_
    refine J.op rfl rfl rfl (V.as rfl rfl) ?_
    refine J.nil ?_
    refine J.tN ?_
    obtain ⟨y25, hy27, h0⟩ := B.bind h0
    refine J.cutQ (γ := Unit) (fun _ => True) (fun gy26 => [(4, bp b5 0), (6, bp b7 0)]) (fun gy26 => [.blk b1 (encA .i8 p0_s) 26, .blk b7 (encA .i8 y25) 23, .blk b5 (encA .i8 (zA 24)) 23, .blk b3 [.int .i8 p1_p.Reading, .int .i8 p1_p.Zone] 35]) ?_ ?_
    · refine J.block ?_
      refine J.loop (γ := Unit) hy27 (fun s14 g15 => [(2, bp b1 0), (3, bp b3 0), (4, bp b5 0), (6, bp b7 0), (8, .int .i64 s14.1)]) (fun s14 g15 => [.blk b1 (encA .i8 p0_s) 26, .blk b7 (encA .i8 s14.2) 23, .blk b5 (encA .i8 (zA 24)) 23, .blk b3 [.int .i8 p1_p.Reading, .int .i8 p1_p.Zone] 35]) () ?_ ?_
      · exact J.keep _ rfl (J.pickE [0, 1, 2, 3] rfl rfl J.here)
      · intro rec16 s14 g15 h1
        unfold spec_ZonesOf.b1 at h1
        refine J.seq ?_
        refine J.seq ?_
        refine J.region ?_
        refine J.op rfl rfl rfl (V.mv rfl rfl) ?_
        refine J.op rfl rfl rfl (V.cmp rfl rfl rfl rfl) ?_
        refine J.nil ?_
        refine J.tN ?_
        refine J.cond rfl (fun hB17 => ?_) (fun hB17 => ?_)
        · replace h1 := B.t hB17 h1
          refine J.skip ?_
          refine J.tN ?_
          refine J.seq ?_
          refine J.block ?_
          refine J.quietTail 9 mixed (by kernel_rfl) ?_
          refine JQ.op rfl rfl rfl (V.mv rfl rfl) ?_
          refine JQ.op rfl rfl rfl (V.ldW 3 rfl rfl rfl ts35 ta35 rfl) ?_
          refine JQ.op rfl rfl rfl (V.mv rfl rfl) ?_
          obtain ⟨hC18, h1⟩ := B.chk h1
          refine JQ.op rfl rfl rfl (V.ixB rfl rfl rfl tr26 ts22 hC18) ?_
          refine JQ.op rfl rfl rfl (V.ldB 0 rfl rfl rfl Try.underlying22 ta22 (encA_get0 .i8 _ hC18)) ?_
          refine JQ.op rfl rfl rfl (V.conv rfl rfl Try.underlying22 Try.underlying2) ?_
          obtain ⟨r19, hr20, h1⟩ := B.bind h1
          obtain ⟨_, cf1, cf2, cf3⟩ := cf44
          refine JQ.cl (l := [.tmp 21, .tmp 25]) cf1 cf2 cf3 (wN rfl) rfl rfl rfl rfl rfl (fun w H => spec_l06Zone.calls (⟨p1_p.Reading, p1_p.Zone⟩ : impl_Placement) (IntKind.wrap .i64 (rdA p0_s s14.1)) r19 w (Own.refl w)  hr20) ?_
          refine JQ.op rfl rfl rfl (V.conv rfl rfl Try.underlying2 Try.underlying22) ?_
          obtain ⟨hC22, h1⟩ := B.chk h1
          refine JQ.op rfl rfl rfl (V.ixB rfl rfl rfl tr23 ts22 hC22) ?_
          refine JQ.tail ?_
          refine J.stB 1 rfl rfl rfl rfl rfl rfl ts22 (fun _ _ => rfl) (encA_lt .i8 _ hC22) ?_
          refine J.setEnt 1 rfl (congrArg (fun q => Ent.blk _ q _) (encA_set .i8 _ _ _)) ?_
          obtain ⟨m23, em23, h1⟩ := B.lt h1
          refine J.setEnt 1 rfl (congrArg (fun q => Ent.blk _ (encA .i8 q) _) em23) ?_
          refine J.nil ?_
          refine J.bN ?_
          refine J.tN ?_
          refine J.region ?_
          refine J.op rfl rfl rfl (V.mv rfl rfl) ?_
          refine J.op rfl rfl rfl (V.ar rfl rfl rfl rfl) ?_
          refine J.op rfl rfl rfl (V.as rfl rfl) ?_
          obtain ⟨i_24, ei_24, h1⟩ := B.lt h1
          refine J.val (congrArg (Value.int .i64) ei_24) ?_
          refine J.nil ?_
          refine J.tN (J.next (i_24, m23) () (B.n h1) ?_)
          exact J.keep _ rfl (J.pickE [0, 1, 2, 3] rfl rfl J.here)
        · replace h1 := B.f hB17 h1
          refine J.exit ?_
          refine J.tE ?_
          refine J.tE ?_
          refine J.bE ?_
          obtain rfl := B.d h1
          refine J.tN (J.to () trivial ?_)
          exact J.keep _ rfl (J.pickE [0, 1, 2, 3] rfl rfl J.here)
    · intro gy26 _
      refine J.tN ?_
      refine J.seq ?_
      refine J.region ?_
      refine J.op rfl rfl rfl (V.ldW 1 rfl rfl rfl ts23 ta23 (encA_len _ _)) ?_
      refine J.stW (cs' := encA .i8 y25) 2 rfl rfl rfl rfl rfl rfl ts23 rfl (encA_one .i8 _) (encA_len _ _) (encA_len _ _) ?_
      refine J.op rfl rfl rfl (V.as rfl rfl) ?_
      refine J.nil ?_
      refine J.tN ?_
      refine J.ret ?_
      obtain rfl := B.e h0
      exact J.retC_1 2 rfl rfl rfl ts23 ta23 (encA_len _ _) rfl fun w H => ⟨(), rfl, H.pick [] (by decide)⟩

/-! ### impl.CountZones: function 17 -/
noncomputable def impl_CountZones.b1 (r15 : (Vector Int 24)) : (Int × Int × Int × (Vector Int 11)) → Option (Step (Int × Int × Int × (Vector Int 11)) (Int × Int × (Vector Int 11))) := fun s18 => bif (decide (s18.2.2.1 < 24)) then (bif (inB s18.2.2.1 24) then ((some (rdA r15 s18.2.2.1)).bind fun zone_23 => (some (decide (zone_23 < 0))).bind fun t24 => bif t24 then ((some (IntKind.wrap .i64 (s18.1 + 1))).bind fun below_26 => some (.next (below_26, s18.2.1, IntKind.wrap .i64 (s18.2.2.1 + 1), s18.2.2.2))) else ((some (decide (11 ≤ zone_23))).bind fun t27 => bif t27 then ((some (IntKind.wrap .i64 (s18.2.1 + 1))).bind fun above_29 => some (.next (s18.1, above_29, IntKind.wrap .i64 (s18.2.2.1 + 1), s18.2.2.2))) else (bif (inB zone_23 11) then (bif (inB zone_23 11) then ((some (wrA s18.2.2.2 zone_23 (IntKind.wrap .i64 ((rdA s18.2.2.2 zone_23) + 1)))).bind fun m32 => some (.next (s18.1, s18.2.1, IntKind.wrap .i64 (s18.2.2.1 + 1), m32))) else none) else none))) else none) else (some (.done (s18.1, s18.2.1, s18.2.2.2)))
noncomputable def impl_CountZones.f (p0_s : (Vector Int 24)) (p1_p : impl_Placement) : Option ((Vector Int 11) × Int × Int × Int) := (impl_placeCode.f p0_s (⟨p1_p.Reading, p1_p.Zone⟩ : impl_Placement)).bind fun r7 => bif (r7 != 0) then ((some (zA 11)).bind fun m11 => some (m11, 0, 0, r7)) else ((some (zA 11)).bind fun m14 => (impl_Scene_zones.f p0_s (⟨p1_p.Reading, p1_p.Zone⟩ : impl_Placement)).bind fun r15 => (loopW (impl_CountZones.b1 r15) (0, 0, 0, m14)).bind fun y33 => some (y33.2.2, y33.1, y33.2.1, 0))
set_option maxRecDepth 100000 in
theorem impl_CountZones.calls (p0_s : (Vector Int 24)) (p1_p : impl_Placement) (r : (Vector Int 11) × Int × Int × Int) (w : World) (H0 : Own [] w w []) (h0 : impl_CountZones.f p0_s p1_p = some r) :
    Calls Try.prog 17 #[.agg (encA .i8 p0_s).toArray, .agg #[.int .i8 p1_p.Reading, .int .i8 p1_p.Zone]] w (fun e w' => ∃ _ : Unit, e = .returned (.tuple #[.agg (encA .i64 r.1).toArray, .int .i64 r.2.1, .int .i64 r.2.2.1, .int .i64 r.2.2.2]) ∧ Own [] w w' []) := by
  unfold impl_CountZones.f at h0
  replace h0 := B.top h0
  refine calls_of_J (args := [.agg (encA .i8 p0_s).toArray, .agg #[.int .i8 p1_p.Reading, .int .i8 p1_p.Zone]]) Try.func17 rfl Try.ntmps17 rfl [(0, .agg (encA .i8 p0_s).toArray), (1, .agg #[.int .i8 p1_p.Reading, .int .i8 p1_p.Zone])] rfl H0 ?_
  refine J.seq ?_
  refine J.region ?_
  refine J.box rfl rfl rfl rfl rfl (fun _ _ => rfl) fun b1 => ?_
  refine J.box rfl rfl rfl rfl rfl (fun _ _ => rfl) fun b3 => ?_
  refine J.alloc rfl rfl rfl rfl tz40 rfl fun b5 => ?_
  refine J.op rfl rfl rfl (V.as rfl rfl) ?_
  refine J.op rfl rfl rfl (V.as rfl rfl) ?_
  refine J.op rfl rfl rfl (V.as rfl rfl) ?_
  refine J.nil ?_
  refine J.tN ?_
  refine J.seq ?_
  refine J.seq ?_
  refine J.region ?_
  refine J.op rfl rfl rfl (V.ldW 2 rfl rfl rfl ts26 ta26 (encA_len _ _)) ?_
  refine J.op rfl rfl rfl (V.ldW 1 rfl rfl rfl ts35 ta35 rfl) ?_
  obtain ⟨r7, hr8, h0⟩ := B.bind h0
  refine J.cl (l := [.tmp 14, .tmp 15]) [] [.blk b5 (encA .i64 (zA 11)) 40, .blk b3 [.int .i8 p1_p.Reading, .int .i8 p1_p.Zone] 35, .blk b1 (encA .i8 p0_s) 26] cf41 (wN rfl) rfl rfl rfl rfl rfl rfl (by simp) (fun w H => impl_placeCode.calls p0_s (⟨p1_p.Reading, p1_p.Zone⟩ : impl_Placement) r7 w (Own.refl w)  hr8) fun g9 => ?_
  refine J.op rfl rfl rfl (V.as rfl rfl) ?_
  refine J.nil ?_
  refine J.tN ?_
  refine J.seq ?_
  refine J.region ?_
  refine J.op rfl rfl rfl (V.mv rfl rfl) ?_
  refine J.op rfl rfl rfl (V.cmp rfl rfl rfl rfl) ?_
  refine J.nil ?_
  refine J.tN ?_
  refine J.cond rfl (fun hB10 => ?_) (fun hB10 => ?_)
  · replace h0 := B.t hB10 h0
    refine J.seq ?_
    refine J.region ?_
    refine J.op rfl rfl rfl (V.bd (l := []) (v := .agg (encA .i64 (zA 11)).toArray) rfl rfl (fun w H => by kernel_rfl)) ?_
    refine J.op rfl rfl rfl (V.mv rfl rfl) ?_
    refine J.stW (cs' := encA .i64 (zA 11)) 0 rfl rfl rfl rfl rfl rfl ts40 rfl (encA_one .i64 _) (encA_len _ _) (encA_len _ _) ?_
    obtain ⟨m11, em11, h0⟩ := B.lt h0
    refine J.setEnt 0 rfl (congrArg (fun q => Ent.blk _ (encA .i64 q) _) em11) ?_
    refine J.op rfl rfl rfl (V.as rfl rfl) ?_
    refine J.op rfl rfl rfl (V.as rfl rfl) ?_
    refine J.op rfl rfl rfl (V.as rfl rfl) ?_
    refine J.nil ?_
    refine J.tN ?_
    refine J.ret ?_
    refine J.tR ?_
    obtain rfl := B.e h0
    exact J.retC_3 0 rfl rfl rfl ts40 ta40 (encA_len _ _) rfl rfl rfl fun w H => ⟨(), rfl, H.pick [] (by decide)⟩
  · replace h0 := B.f hB10 h0
    refine J.skip ?_
    refine J.tN ?_
    refine J.seq ?_
    refine J.region ?_
    refine J.op rfl rfl rfl (V.bd (l := []) (v := .agg (encA .i64 (zA 11)).toArray) rfl rfl (fun w H => by kernel_rfl)) ?_
    refine J.alloc rfl rfl rfl rfl tz40 rfl fun b12 => ?_
    refine J.stW (cs' := encA .i64 (zA 11)) 0 rfl rfl rfl rfl rfl rfl ts40 rfl (encA_one .i64 _) (encA_len _ _) (encA_len _ _) ?_
    obtain ⟨m14, em14, h0⟩ := B.lt h0
    refine J.setEnt 0 rfl (congrArg (fun q => Ent.blk _ (encA .i64 q) _) em14) ?_
    refine J.op rfl rfl rfl (V.as rfl rfl) ?_
    refine J.op rfl rfl rfl (V.as rfl rfl) ?_
    refine J.nil ?_
    refine J.tN ?_
    refine J.seq ?_
    refine J.seq ?_
    refine J.region ?_
    refine J.op rfl rfl rfl (V.ldW 3 rfl rfl rfl ts26 ta26 (encA_len _ _)) ?_
    refine J.op rfl rfl rfl (V.ldW 2 rfl rfl rfl ts35 ta35 rfl) ?_
    obtain ⟨r15, hr16, h0⟩ := B.bind h0
    refine J.cl (l := [.tmp 22, .tmp 23]) [] [.blk b12 (encA .i64 m14) 40, .blk b5 (encA .i64 (zA 11)) 40, .blk b3 [.int .i8 p1_p.Reading, .int .i8 p1_p.Zone] 35, .blk b1 (encA .i8 p0_s) 26] cf42 (wN rfl) rfl rfl rfl rfl rfl rfl (by simp) (fun w H => impl_Scene_zones.calls p0_s (⟨p1_p.Reading, p1_p.Zone⟩ : impl_Placement) r15 w (Own.refl w)  hr16) fun g17 => ?_
    refine J.op rfl rfl rfl (V.mv rfl rfl) ?_
    refine J.nil ?_
    refine J.tN ?_
    obtain ⟨y33, hy35, h0⟩ := B.bind h0
    refine J.cutQ (γ := Unit) (fun _ => True) (fun gy34 => [(4, bp b5 0), (9, bp b12 0), (10, .int .i64 y33.1), (11, .int .i64 y33.2.1)]) (fun gy34 => [.blk b12 (encA .i64 y33.2.2) 40, .blk b5 (encA .i64 (zA 11)) 40, .blk b3 [.int .i8 p1_p.Reading, .int .i8 p1_p.Zone] 35, .blk b1 (encA .i8 p0_s) 26]) ?_ ?_
    · refine J.block ?_
      refine J.loop (γ := Unit) hy35 (fun s18 g19 => [(4, bp b5 0), (9, bp b12 0), (10, .int .i64 s18.1), (11, .int .i64 s18.2.1), (24, .agg (encA .i8 r15).toArray), (25, .int .i64 s18.2.2.1)]) (fun s18 g19 => [.blk b12 (encA .i64 s18.2.2.2) 40, .blk b5 (encA .i64 (zA 11)) 40, .blk b3 [.int .i8 p1_p.Reading, .int .i8 p1_p.Zone] 35, .blk b1 (encA .i8 p0_s) 26]) () ?_ ?_
      · exact J.keep _ rfl (J.pickE [0, 1, 2, 3] rfl rfl J.here)
      · intro rec20 s18 g19 h1
        unfold impl_CountZones.b1 at h1
        refine J.seq ?_
        refine J.region ?_
        refine J.op rfl rfl rfl (V.cmp rfl rfl rfl rfl) ?_
        refine J.nil ?_
        refine J.tN ?_
        refine J.seq ?_
        refine J.cond rfl (fun hB21 => ?_) (fun hB21 => ?_)
        · replace h1 := B.t hB21 h1
          refine J.skip ?_
          refine J.tN ?_
          refine J.seq ?_
          refine J.block ?_
          refine J.seq ?_
          refine J.region ?_
          obtain ⟨hC22, h1⟩ := B.chk h1
          refine J.op rfl rfl rfl (V.ixA rfl rfl rfl tr23 ts22 Try.underlying22 ta22 hC22 (encA_get .i8 _ hC22)) ?_
          refine J.op rfl rfl rfl (V.as rfl rfl) ?_
          obtain ⟨zone_23, ezone_23, h1⟩ := B.lt h1
          refine J.val (congrArg (Value.int .i8) ezone_23) ?_
          refine J.nil ?_
          refine J.tN ?_
          refine J.block ?_
          refine J.seq ?_
          refine J.region ?_
          refine J.op rfl rfl rfl (V.mv rfl rfl) ?_
          refine J.op rfl rfl rfl (V.cmp rfl rfl rfl rfl) ?_
          refine J.op rfl rfl rfl (V.as rfl rfl) ?_
          obtain ⟨t24, et24, h1⟩ := B.lt h1
          refine J.val (congrArg (Value.bool) et24) ?_
          refine J.nil ?_
          refine J.tN ?_
          refine J.cond rfl (fun hB25 => ?_) (fun hB25 => ?_)
          · replace h1 := B.t hB25 h1
            refine J.region ?_
            refine J.op rfl rfl rfl (V.mv rfl rfl) ?_
            refine J.op rfl rfl rfl (V.ar rfl rfl rfl rfl) ?_
            refine J.op rfl rfl rfl (V.as rfl rfl) ?_
            obtain ⟨below_26, ebelow_26, h1⟩ := B.lt h1
            refine J.val (congrArg (Value.int .i64) ebelow_26) ?_
            refine J.nil ?_
            refine J.bN ?_
            refine J.bN ?_
            refine J.tN ?_
            refine J.region ?_
            refine J.op rfl rfl rfl (V.ar rfl rfl rfl rfl) ?_
            refine J.op rfl rfl rfl (V.mv rfl rfl) ?_
            refine J.nil ?_
            refine J.tN (J.next (below_26, s18.2.1, IntKind.wrap .i64 (s18.2.2.1 + 1), s18.2.2.2) () (B.n h1) ?_)
            exact J.keep _ rfl (J.pickE [0, 1, 2, 3] rfl rfl J.here)
          · replace h1 := B.f hB25 h1
            refine J.seq ?_
            refine J.region ?_
            refine J.op rfl rfl rfl (V.mv rfl rfl) ?_
            refine J.op rfl rfl rfl (V.cmp rfl rfl rfl rfl) ?_
            refine J.op rfl rfl rfl (V.as rfl rfl) ?_
            obtain ⟨t27, et27, h1⟩ := B.lt h1
            refine J.val (congrArg (Value.bool) et27) ?_
            refine J.nil ?_
            refine J.tN ?_
            refine J.cond rfl (fun hB28 => ?_) (fun hB28 => ?_)
            · replace h1 := B.t hB28 h1
              refine J.region ?_
              refine J.op rfl rfl rfl (V.mv rfl rfl) ?_
              refine J.op rfl rfl rfl (V.ar rfl rfl rfl rfl) ?_
              refine J.op rfl rfl rfl (V.as rfl rfl) ?_
              obtain ⟨above_29, eabove_29, h1⟩ := B.lt h1
              refine J.val (congrArg (Value.int .i64) eabove_29) ?_
              refine J.nil ?_
              refine J.bN ?_
              refine J.bN ?_
              refine J.tN ?_
              refine J.region ?_
              refine J.op rfl rfl rfl (V.ar rfl rfl rfl rfl) ?_
              refine J.op rfl rfl rfl (V.mv rfl rfl) ?_
              refine J.nil ?_
              refine J.tN (J.next (s18.1, above_29, IntKind.wrap .i64 (s18.2.2.1 + 1), s18.2.2.2) () (B.n h1) ?_)
              exact J.keep _ rfl (J.pickE [0, 1, 2, 3] rfl rfl J.here)
            · replace h1 := B.f hB28 h1
              refine J.region ?_
              refine J.op rfl rfl rfl (V.mv rfl rfl) ?_
              obtain ⟨hC30, h1⟩ := B.chk h1
              refine J.op rfl rfl rfl (V.ixB rfl rfl rfl tr40 ts2 hC30) ?_
              refine J.op rfl rfl rfl (V.ldB 0 rfl rfl rfl Try.underlying2 ta2 (encA_get0 .i64 _ hC30)) ?_
              refine J.op rfl rfl rfl (V.ar rfl rfl rfl rfl) ?_
              obtain ⟨hC31, h1⟩ := B.chk h1
              refine J.op rfl rfl rfl (V.ixB rfl rfl rfl tr40 ts2 hC31) ?_
              refine J.stB 0 rfl rfl rfl rfl rfl rfl ts2 (fun _ _ => rfl) (encA_lt .i64 _ hC31) ?_
              refine J.setEnt 0 rfl (congrArg (fun q => Ent.blk _ q _) (encA_set .i64 _ _ _)) ?_
              obtain ⟨m32, em32, h1⟩ := B.lt h1
              refine J.setEnt 0 rfl (congrArg (fun q => Ent.blk _ (encA .i64 q) _) em32) ?_
              refine J.nil ?_
              refine J.bN ?_
              refine J.bN ?_
              refine J.tN ?_
              refine J.region ?_
              refine J.op rfl rfl rfl (V.ar rfl rfl rfl rfl) ?_
              refine J.op rfl rfl rfl (V.mv rfl rfl) ?_
              refine J.nil ?_
              refine J.tN (J.next (s18.1, s18.2.1, IntKind.wrap .i64 (s18.2.2.1 + 1), m32) () (B.n h1) ?_)
              exact J.keep _ rfl (J.pickE [0, 1, 2, 3] rfl rfl J.here)
        · replace h1 := B.f hB21 h1
          refine J.exit ?_
          refine J.tE ?_
          refine J.tE ?_
          refine J.bE ?_
          obtain rfl := B.d h1
          refine J.tN (J.to () trivial ?_)
          exact J.keep _ rfl (J.pickE [0, 1, 2, 3] rfl rfl J.here)
    · intro gy34 _
      refine J.tN ?_
      refine J.seq ?_
      refine J.region ?_
      refine J.op rfl rfl rfl (V.ldW 0 rfl rfl rfl ts40 ta40 (encA_len _ _)) ?_
      refine J.op rfl rfl rfl (V.mv rfl rfl) ?_
      refine J.op rfl rfl rfl (V.mv rfl rfl) ?_
      refine J.stW (cs' := encA .i64 y33.2.2) 1 rfl rfl rfl rfl rfl rfl ts40 rfl (encA_one .i64 _) (encA_len _ _) (encA_len _ _) ?_
      refine J.op rfl rfl rfl (V.as rfl rfl) ?_
      refine J.op rfl rfl rfl (V.as rfl rfl) ?_
      refine J.op rfl rfl rfl (V.as rfl rfl) ?_
      refine J.nil ?_
      refine J.tN ?_
      refine J.ret ?_
      obtain rfl := B.e h0
      exact J.retC_3 1 rfl rfl rfl ts40 ta40 (encA_len _ _) rfl rfl rfl fun w H => ⟨(), rfl, H.pick [] (by decide)⟩

/-! ### (impl.Scene).offScale: function 45 -/
noncomputable def impl_Scene_offScale.b1 (r5 : (Vector Int 24)) : (Int × Int × Int) → Option (Step (Int × Int × Int) (Int × Int)) := fun s8 => bif (decide (s8.2.2 < 24)) then (bif (inB s8.2.2 24) then ((some (rdA r5 s8.2.2)).bind fun zone_13 => (some (decide (zone_13 < 0))).bind fun t14 => bif t14 then (bif (decide (0 ≤ s8.2.2)) then ((some (Go.bits .or .u32 s8.1 (shL .u32 1 s8.2.2))).bind fun below_17 => some (.next (below_17, s8.2.1, IntKind.wrap .i64 (s8.2.2 + 1)))) else none) else ((some (decide (11 ≤ zone_13))).bind fun t18 => bif t18 then (bif (decide (0 ≤ s8.2.2)) then ((some (Go.bits .or .u32 s8.2.1 (shL .u32 1 s8.2.2))).bind fun above_21 => some (.next (s8.1, above_21, IntKind.wrap .i64 (s8.2.2 + 1)))) else none) else (some (.next (s8.1, s8.2.1, IntKind.wrap .i64 (s8.2.2 + 1)))))) else none) else (some (.done (s8.1, s8.2.1)))
noncomputable def impl_Scene_offScale.f (p0_s : (Vector Int 24)) (p1_p : impl_Placement) : Option (Int × Int) := (impl_Scene_zones.f p0_s (⟨p1_p.Reading, p1_p.Zone⟩ : impl_Placement)).bind fun r5 => (loopW (impl_Scene_offScale.b1 r5) (0, 0, 0)).bind fun y22 => some (y22.1, y22.2)
set_option maxRecDepth 100000 in
theorem impl_Scene_offScale.calls (p0_s : (Vector Int 24)) (p1_p : impl_Placement) (r : Int × Int) (w : World) (H0 : Own [] w w []) (h0 : impl_Scene_offScale.f p0_s p1_p = some r) :
    Calls Try.prog 45 #[.agg (encA .i8 p0_s).toArray, .agg #[.int .i8 p1_p.Reading, .int .i8 p1_p.Zone]] w (fun e w' => ∃ _ : Unit, e = .returned (.tuple #[.int .u32 r.1, .int .u32 r.2]) ∧ Own [] w w' []) := by
  unfold impl_Scene_offScale.f at h0
  replace h0 := B.top h0
  refine calls_of_J (args := [.agg (encA .i8 p0_s).toArray, .agg #[.int .i8 p1_p.Reading, .int .i8 p1_p.Zone]]) Try.func45 rfl Try.ntmps45 rfl [(0, .agg (encA .i8 p0_s).toArray), (1, .agg #[.int .i8 p1_p.Reading, .int .i8 p1_p.Zone])] rfl H0 ?_
  refine J.seq ?_
  refine J.region ?_
  refine J.box rfl rfl rfl rfl rfl (fun _ _ => rfl) fun b1 => ?_
  refine J.box rfl rfl rfl rfl rfl (fun _ _ => rfl) fun b3 => ?_
  refine J.op rfl rfl rfl (V.as rfl rfl) ?_
  refine J.op rfl rfl rfl (V.as rfl rfl) ?_
  refine J.nil ?_
  refine J.tN ?_
  refine J.seq ?_
  refine J.region ?_
  refine J.op rfl rfl rfl (V.as rfl rfl) ?_
  refine J.op rfl rfl rfl (V.as rfl rfl) ?_
  refine J.nil ?_
  refine J.tN ?_
  refine J.seq ?_
  refine J.seq ?_
  refine J.region ?_
  refine J.op rfl rfl rfl (V.ldW 1 rfl rfl rfl ts26 ta26 (encA_len _ _)) ?_
  refine J.op rfl rfl rfl (V.ldW 0 rfl rfl rfl ts35 ta35 rfl) ?_
  obtain ⟨r5, hr6, h0⟩ := B.bind h0
  refine J.cl (l := [.tmp 10, .tmp 11]) [] [.blk b3 [.int .i8 p1_p.Reading, .int .i8 p1_p.Zone] 35, .blk b1 (encA .i8 p0_s) 26] cf42 (wN rfl) rfl rfl rfl rfl rfl rfl (by simp) (fun w H => impl_Scene_zones.calls p0_s (⟨p1_p.Reading, p1_p.Zone⟩ : impl_Placement) r5 w (Own.refl w)  hr6) fun g7 => ?_
  refine J.op rfl rfl rfl (V.mv rfl rfl) ?_
  refine J.nil ?_
  refine J.tN ?_
  obtain ⟨y22, hy24, h0⟩ := B.bind h0
  refine J.cutQ (γ := Unit) (fun _ => True) (fun gy23 => [(6, .int .u32 y22.1), (7, .int .u32 y22.2)]) (fun gy23 => [.blk b3 [.int .i8 p1_p.Reading, .int .i8 p1_p.Zone] 35, .blk b1 (encA .i8 p0_s) 26]) ?_ ?_
  · refine J.block ?_
    refine J.loop (γ := Unit) hy24 (fun s8 g9 => [(6, .int .u32 s8.1), (7, .int .u32 s8.2.1), (12, .agg (encA .i8 r5).toArray), (13, .int .i64 s8.2.2)]) (fun s8 g9 => [.blk b3 [.int .i8 p1_p.Reading, .int .i8 p1_p.Zone] 35, .blk b1 (encA .i8 p0_s) 26]) () ?_ ?_
    · exact J.keep _ rfl (J.pickE [0, 1] rfl rfl J.here)
    · intro rec10 s8 g9 h1
      unfold impl_Scene_offScale.b1 at h1
      refine J.seq ?_
      refine J.region ?_
      refine J.op rfl rfl rfl (V.cmp rfl rfl rfl rfl) ?_
      refine J.nil ?_
      refine J.tN ?_
      refine J.seq ?_
      refine J.cond rfl (fun hB11 => ?_) (fun hB11 => ?_)
      · replace h1 := B.t hB11 h1
        refine J.skip ?_
        refine J.tN ?_
        refine J.seq ?_
        refine J.block ?_
        refine J.seq ?_
        refine J.region ?_
        refine J.op rfl rfl rfl (V.mv rfl rfl) ?_
        obtain ⟨hC12, h1⟩ := B.chk h1
        refine J.op rfl rfl rfl (V.ixA rfl rfl rfl tr23 ts22 Try.underlying22 ta22 hC12 (encA_get .i8 _ hC12)) ?_
        refine J.op rfl rfl rfl (V.as rfl rfl) ?_
        refine J.op rfl rfl rfl (V.as rfl rfl) ?_
        obtain ⟨zone_13, ezone_13, h1⟩ := B.lt h1
        refine J.val (congrArg (Value.int .i8) ezone_13) ?_
        refine J.nil ?_
        refine J.tN ?_
        refine J.block ?_
        refine J.seq ?_
        refine J.region ?_
        refine J.op rfl rfl rfl (V.mv rfl rfl) ?_
        refine J.op rfl rfl rfl (V.cmp rfl rfl rfl rfl) ?_
        refine J.op rfl rfl rfl (V.as rfl rfl) ?_
        obtain ⟨t14, et14, h1⟩ := B.lt h1
        refine J.val (congrArg (Value.bool) et14) ?_
        refine J.nil ?_
        refine J.tN ?_
        refine J.cond rfl (fun hB15 => ?_) (fun hB15 => ?_)
        · replace h1 := B.t hB15 h1
          refine J.region ?_
          refine J.op rfl rfl rfl (V.mv rfl rfl) ?_
          refine J.op rfl rfl rfl (V.mv rfl rfl) ?_
          obtain ⟨hC16, h1⟩ := B.chk h1
          refine J.op rfl rfl rfl (V.shl rfl rfl rfl hC16) ?_
          refine J.op rfl rfl rfl (V.ar rfl rfl rfl rfl) ?_
          refine J.op rfl rfl rfl (V.as rfl rfl) ?_
          obtain ⟨below_17, ebelow_17, h1⟩ := B.lt h1
          refine J.val (congrArg (Value.int .u32) ebelow_17) ?_
          refine J.nil ?_
          refine J.bN ?_
          refine J.bN ?_
          refine J.tN ?_
          refine J.region ?_
          refine J.op rfl rfl rfl (V.ar rfl rfl rfl rfl) ?_
          refine J.op rfl rfl rfl (V.mv rfl rfl) ?_
          refine J.nil ?_
          refine J.tN (J.next (below_17, s8.2.1, IntKind.wrap .i64 (s8.2.2 + 1)) () (B.n h1) ?_)
          exact J.keep _ rfl (J.pickE [0, 1] rfl rfl J.here)
        · replace h1 := B.f hB15 h1
          refine J.seq ?_
          refine J.region ?_
          refine J.op rfl rfl rfl (V.mv rfl rfl) ?_
          refine J.op rfl rfl rfl (V.cmp rfl rfl rfl rfl) ?_
          refine J.op rfl rfl rfl (V.as rfl rfl) ?_
          obtain ⟨t18, et18, h1⟩ := B.lt h1
          refine J.val (congrArg (Value.bool) et18) ?_
          refine J.nil ?_
          refine J.tN ?_
          refine J.cond rfl (fun hB19 => ?_) (fun hB19 => ?_)
          · replace h1 := B.t hB19 h1
            refine J.region ?_
            refine J.op rfl rfl rfl (V.mv rfl rfl) ?_
            refine J.op rfl rfl rfl (V.mv rfl rfl) ?_
            obtain ⟨hC20, h1⟩ := B.chk h1
            refine J.op rfl rfl rfl (V.shl rfl rfl rfl hC20) ?_
            refine J.op rfl rfl rfl (V.ar rfl rfl rfl rfl) ?_
            refine J.op rfl rfl rfl (V.as rfl rfl) ?_
            obtain ⟨above_21, eabove_21, h1⟩ := B.lt h1
            refine J.val (congrArg (Value.int .u32) eabove_21) ?_
            refine J.nil ?_
            refine J.bN ?_
            refine J.bN ?_
            refine J.tN ?_
            refine J.region ?_
            refine J.op rfl rfl rfl (V.ar rfl rfl rfl rfl) ?_
            refine J.op rfl rfl rfl (V.mv rfl rfl) ?_
            refine J.nil ?_
            refine J.tN (J.next (s8.1, above_21, IntKind.wrap .i64 (s8.2.2 + 1)) () (B.n h1) ?_)
            exact J.keep _ rfl (J.pickE [0, 1] rfl rfl J.here)
          · replace h1 := B.f hB19 h1
            refine J.skip ?_
            refine J.bN ?_
            refine J.bN ?_
            refine J.tN ?_
            refine J.region ?_
            refine J.op rfl rfl rfl (V.ar rfl rfl rfl rfl) ?_
            refine J.op rfl rfl rfl (V.mv rfl rfl) ?_
            refine J.nil ?_
            refine J.tN (J.next (s8.1, s8.2.1, IntKind.wrap .i64 (s8.2.2 + 1)) () (B.n h1) ?_)
            exact J.keep _ rfl (J.pickE [0, 1] rfl rfl J.here)
      · replace h1 := B.f hB11 h1
        refine J.exit ?_
        refine J.tE ?_
        refine J.tE ?_
        refine J.bE ?_
        obtain rfl := B.d h1
        refine J.tN (J.to () trivial ?_)
        exact J.keep _ rfl (J.pickE [0, 1] rfl rfl J.here)
  · intro gy23 _
    refine J.tN ?_
    refine J.seq ?_
    refine J.region ?_
    refine J.op rfl rfl rfl (V.mv rfl rfl) ?_
    refine J.op rfl rfl rfl (V.mv rfl rfl) ?_
    refine J.op rfl rfl rfl (V.as rfl rfl) ?_
    refine J.op rfl rfl rfl (V.as rfl rfl) ?_
    refine J.nil ?_
    refine J.tN ?_
    refine J.ret ?_
    obtain rfl := B.e h0
    exact J.ret2 rfl rfl rfl fun w H => ⟨(), rfl, H.pick [] (by decide)⟩

end Go.Proofs.Ytopmellnegcfpaa
