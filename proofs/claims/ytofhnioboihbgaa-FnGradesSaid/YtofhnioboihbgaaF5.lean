/- Go functions as Lean functions, and that each call of theirs comes to just that: by a program written for this work (walk.py). No condition. -/
import Derived.Test.YtofhnioboihbgaaF4
namespace Go.Proofs.Ytofhnioboihbgaa
open Go Go.RowKit G
set_option linter.unusedVariables false

/-! ### slices.rotateCmpFunc[int64]: function 88 -/
noncomputable def slices_rotateCmpFunc_int64.b1 (n0_ : Nat) (p2_m : Int) (p4_cmp : Int → Int → Option Int) : (Int × Int × (Vector Int n0_)) → Option (Step (Int × Int × (Vector Int n0_)) (Int × (Vector Int n0_))) := fun s3 => bif (s3.1 != s3.2.1) then (bif (decide (s3.2.1 < s3.1)) then ((slices_swapRangeCmpFunc_int64.f n0_ s3.2.2 (IntKind.wrap .i64 (p2_m - s3.1)) p2_m s3.2.1 p4_cmp).bind fun r8 => (some (IntKind.wrap .i64 (s3.1 - s3.2.1))).bind fun i_11 => some (.next (i_11, s3.2.1, r8))) else ((slices_swapRangeCmpFunc_int64.f n0_ s3.2.2 (IntKind.wrap .i64 (p2_m - s3.1)) (IntKind.wrap .i64 ((IntKind.wrap .i64 (p2_m + s3.2.1)) - s3.1)) s3.1 p4_cmp).bind fun r12 => (some (IntKind.wrap .i64 (s3.2.1 - s3.1))).bind fun j_15 => some (.next (s3.1, j_15, r12)))) else (some (.done (s3.1, s3.2.2)))
noncomputable def slices_rotateCmpFunc_int64.f (n0_ : Nat) (p0_data : Vector Int n0_) (p1_a : Int) (p2_m : Int) (p3_b : Int) (p4_cmp : Int → Int → Option Int) : Option ((Vector Int n0_)) := (some (IntKind.wrap .i64 (p2_m - p1_a))).bind fun i_1 => (some (IntKind.wrap .i64 (p3_b - p2_m))).bind fun j_2 => (loopW (slices_rotateCmpFunc_int64.b1 n0_ p2_m p4_cmp) (i_1, j_2, p0_data)).bind fun y16 => (slices_swapRangeCmpFunc_int64.f n0_ y16.2 (IntKind.wrap .i64 (p2_m - y16.1)) p2_m y16.1 p4_cmp).bind fun r19 => some r19
set_option maxRecDepth 100000 in
theorem slices_rotateCmpFunc_int64.calls (v0 : Value) (n0_ T0_ : Nat) (p0_data : Vector Int n0_) (p1_a : Int) (p2_m : Int) (p3_b : Int) (g4_ : Nat) (c4_ : Array Value) (p4_cmp : Int → Int → Option Int) (r : (Vector Int n0_)) (w : World) (H0 : Own (Mof [.row v0 T0_ 1 n0_ (encA .i64 p0_data)]) w w [.row v0 T0_ 1 n0_ (encA .i64 p0_data)]) (hg4 : CallsFn Try.prog g4_) (hF4 : ∀ w2 (x0 : Int) (x1 : Int) r, Own (Mof [.row v0 T0_ 1 n0_ (encA .i64 p0_data)]) w w2 [] → p4_cmp x0 x1 = some r → Calls Try.prog g4_ (#[.int .i64 x0, .int .i64 x1] ++ c4_) w2 (fun e w3 => ∃ _ : Unit, e = .returned (.int .i64 r) ∧ Own [] w2 w3 [])) (h0 : slices_rotateCmpFunc_int64.f n0_ p0_data p1_a p2_m p3_b p4_cmp = some r) :
    Calls Try.prog 88 #[v0, .int .i64 p1_a, .int .i64 p2_m, .int .i64 p3_b, .func (.func g4_) #[] c4_] w (fun e w' => ∃ _ : Unit, e = .returned (.tuple #[]) ∧ Own (Mof [.row v0 T0_ 1 n0_ (encA .i64 p0_data)]) w w' [.row v0 T0_ 1 n0_ (encA .i64 r)]) := by
  unfold slices_rotateCmpFunc_int64.f at h0
  replace h0 := B.top h0
  refine calls_of_J (args := [v0, .int .i64 p1_a, .int .i64 p2_m, .int .i64 p3_b, .func (.func g4_) #[] c4_]) Try.func88 rfl Try.ntmps88 rfl [(0, v0), (1, .int .i64 p1_a), (2, .int .i64 p2_m), (3, .int .i64 p3_b), (4, .func (.func g4_) #[] c4_)] rfl H0 ?_
  refine J.seq ?_
  refine J.region ?_
  refine J.op rfl rfl rfl (V.mv rfl rfl) ?_
  refine J.op rfl rfl rfl (V.mv rfl rfl) ?_
  refine J.op rfl rfl rfl (V.ar rfl rfl rfl rfl) ?_
  refine J.op rfl rfl rfl (V.as rfl rfl) ?_
  obtain ⟨i_1, ei_1, h0⟩ := B.lt h0
  refine J.val (congrArg (Value.int .i64) ei_1) ?_
  refine J.nil ?_
  refine J.tN ?_
  refine J.seq ?_
  refine J.region ?_
  refine J.op rfl rfl rfl (V.mv rfl rfl) ?_
  refine J.op rfl rfl rfl (V.mv rfl rfl) ?_
  refine J.op rfl rfl rfl (V.ar rfl rfl rfl rfl) ?_
  refine J.op rfl rfl rfl (V.as rfl rfl) ?_
  obtain ⟨j_2, ej_2, h0⟩ := B.lt h0
  refine J.val (congrArg (Value.int .i64) ej_2) ?_
  refine J.nil ?_
  refine J.tN ?_
  refine J.seq ?_
  obtain ⟨y16, hy18, h0⟩ := B.bind h0
  refine J.cut (γ := Unit) (fun _ => True) (fun gy17 => [(0, v0), (2, .int .i64 p2_m), (4, .func (.func g4_) #[] c4_), (10, .int .i64 y16.1)]) (fun gy17 => [.row v0 T0_ 1 n0_ (encA .i64 y16.2)]) ?_ ?_
  · refine J.block ?_
    refine J.loop (γ := Unit) hy18 (fun s3 g4 => [(0, v0), (2, .int .i64 p2_m), (4, .func (.func g4_) #[] c4_), (10, .int .i64 s3.1), (11, .int .i64 s3.2.1)]) (fun s3 g4 => [.row v0 T0_ 1 n0_ (encA .i64 s3.2.2)]) () ?_ ?_
    · exact J.keep _ rfl (J.pickE [0] rfl rfl J.here)
    · intro rec5 s3 g4 h1
      unfold slices_rotateCmpFunc_int64.b1 at h1
      refine J.seq ?_
      refine J.seq ?_
      refine J.region ?_
      refine J.op rfl rfl rfl (V.mv rfl rfl) ?_
      refine J.op rfl rfl rfl (V.mv rfl rfl) ?_
      refine J.op rfl rfl rfl (V.cmp rfl rfl rfl rfl) ?_
      refine J.nil ?_
      refine J.tN ?_
      refine J.cond rfl (fun hB6 => ?_) (fun hB6 => ?_)
      · replace h1 := B.t hB6 h1
        refine J.skip ?_
        refine J.tN ?_
        refine J.block ?_
        refine J.seq ?_
        refine J.region ?_
        refine J.op rfl rfl rfl (V.mv rfl rfl) ?_
        refine J.op rfl rfl rfl (V.mv rfl rfl) ?_
        refine J.op rfl rfl rfl (V.cmp rfl rfl rfl rfl) ?_
        refine J.nil ?_
        refine J.tN ?_
        refine J.cond rfl (fun hB7 => ?_) (fun hB7 => ?_)
        · replace h1 := B.t hB7 h1
          refine J.seq ?_
          refine J.region ?_
          refine J.op rfl rfl rfl (V.mv rfl rfl) ?_
          refine J.op rfl rfl rfl (V.mv rfl rfl) ?_
          refine J.op rfl rfl rfl (V.mv rfl rfl) ?_
          refine J.op rfl rfl rfl (V.ar rfl rfl rfl rfl) ?_
          refine J.op rfl rfl rfl (V.mv rfl rfl) ?_
          refine J.op rfl rfl rfl (V.mv rfl rfl) ?_
          refine J.op rfl rfl rfl (V.mv rfl rfl) ?_
          obtain ⟨r8, hr9, h1⟩ := B.bind h1
          refine J.clA (l := [.tmp 24, .tmp 27, .tmp 28, .tmp 29, .tmp 30]) [.row v0 T0_ 1 n0_ (encA .i64 s3.2.2)] [] cf90 (wN rfl) rfl rfl rfl rfl rfl rfl (fun w H => slices_swapRangeCmpFunc_int64.calls v0 n0_ T0_ s3.2.2 (IntKind.wrap .i64 (p2_m - s3.1)) p2_m s3.2.1 g4_ c4_ p4_cmp r8 w H.enterA hg4 (fun w2 x0 x1 r HO  hp => hF4 w2 x0 x1 r (Own.through H HO)  hp) hr9) fun g10 => ?_
          refine J.nil ?_
          refine J.tN ?_
          refine J.region ?_
          refine J.op rfl rfl rfl (V.mv rfl rfl) ?_
          refine J.op rfl rfl rfl (V.mv rfl rfl) ?_
          refine J.op rfl rfl rfl (V.ar rfl rfl rfl rfl) ?_
          refine J.op rfl rfl rfl (V.as rfl rfl) ?_
          obtain ⟨i_11, ei_11, h1⟩ := B.lt h1
          refine J.val (congrArg (Value.int .i64) ei_11) ?_
          refine J.nil ?_
          refine J.bN ?_
          refine J.tN (J.next (i_11, s3.2.1, r8) () (B.n h1) ?_)
          exact J.keep _ rfl (J.pickE [0] rfl rfl J.here)
        · replace h1 := B.f hB7 h1
          refine J.seq ?_
          refine J.region ?_
          refine J.op rfl rfl rfl (V.mv rfl rfl) ?_
          refine J.op rfl rfl rfl (V.mv rfl rfl) ?_
          refine J.op rfl rfl rfl (V.mv rfl rfl) ?_
          refine J.op rfl rfl rfl (V.ar rfl rfl rfl rfl) ?_
          refine J.op rfl rfl rfl (V.mv rfl rfl) ?_
          refine J.op rfl rfl rfl (V.mv rfl rfl) ?_
          refine J.op rfl rfl rfl (V.ar rfl rfl rfl rfl) ?_
          refine J.op rfl rfl rfl (V.mv rfl rfl) ?_
          refine J.op rfl rfl rfl (V.ar rfl rfl rfl rfl) ?_
          refine J.op rfl rfl rfl (V.mv rfl rfl) ?_
          refine J.op rfl rfl rfl (V.mv rfl rfl) ?_
          obtain ⟨r12, hr13, h1⟩ := B.bind h1
          refine J.clA (l := [.tmp 35, .tmp 38, .tmp 43, .tmp 44, .tmp 45]) [.row v0 T0_ 1 n0_ (encA .i64 s3.2.2)] [] cf90 (wN rfl) rfl rfl rfl rfl rfl rfl (fun w H => slices_swapRangeCmpFunc_int64.calls v0 n0_ T0_ s3.2.2 (IntKind.wrap .i64 (p2_m - s3.1)) (IntKind.wrap .i64 ((IntKind.wrap .i64 (p2_m + s3.2.1)) - s3.1)) s3.1 g4_ c4_ p4_cmp r12 w H.enterA hg4 (fun w2 x0 x1 r HO  hp => hF4 w2 x0 x1 r (Own.through H HO)  hp) hr13) fun g14 => ?_
          refine J.nil ?_
          refine J.tN ?_
          refine J.region ?_
          refine J.op rfl rfl rfl (V.mv rfl rfl) ?_
          refine J.op rfl rfl rfl (V.mv rfl rfl) ?_
          refine J.op rfl rfl rfl (V.ar rfl rfl rfl rfl) ?_
          refine J.op rfl rfl rfl (V.as rfl rfl) ?_
          obtain ⟨j_15, ej_15, h1⟩ := B.lt h1
          refine J.val (congrArg (Value.int .i64) ej_15) ?_
          refine J.nil ?_
          refine J.bN ?_
          refine J.tN (J.next (s3.1, j_15, r12) () (B.n h1) ?_)
          exact J.keep _ rfl (J.pickE [0] rfl rfl J.here)
      · replace h1 := B.f hB6 h1
        refine J.exit ?_
        refine J.tE ?_
        refine J.tE ?_
        refine J.bE ?_
        obtain rfl := B.d h1
        refine J.tN (J.to () trivial ?_)
        exact J.keep _ rfl (J.pickE [0] rfl rfl J.here)
  · intro gy17 _
    refine J.region ?_
    refine J.op rfl rfl rfl (V.mv rfl rfl) ?_
    refine J.op rfl rfl rfl (V.mv rfl rfl) ?_
    refine J.op rfl rfl rfl (V.mv rfl rfl) ?_
    refine J.op rfl rfl rfl (V.ar rfl rfl rfl rfl) ?_
    refine J.op rfl rfl rfl (V.mv rfl rfl) ?_
    refine J.op rfl rfl rfl (V.mv rfl rfl) ?_
    refine J.op rfl rfl rfl (V.mv rfl rfl) ?_
    obtain ⟨r19, hr20, h0⟩ := B.bind h0
    refine J.clA (l := [.tmp 50, .tmp 53, .tmp 54, .tmp 55, .tmp 56]) [.row v0 T0_ 1 n0_ (encA .i64 y16.2)] [] cf90 (wN rfl) rfl rfl rfl rfl rfl rfl (fun w H => slices_swapRangeCmpFunc_int64.calls v0 n0_ T0_ y16.2 (IntKind.wrap .i64 (p2_m - y16.1)) p2_m y16.1 g4_ c4_ p4_cmp r19 w H.enterA hg4 (fun w2 x0 x1 r HO  hp => hF4 w2 x0 x1 r (Own.through H HO)  hp) hr20) fun g21 => ?_
    refine J.nil ?_
    refine J.fin ?_
    obtain rfl := B.e h0
    exact J.ret0 rfl fun w H => ⟨(), rfl, H.pick [0] (by decide)⟩

/-! ### slices.symMergeCmpFunc[int64]: function 85 -/
noncomputable def slices_symMergeCmpFunc_int64.b1 (n0_ : Nat) (p0_data : Vector Int n0_) (p1_a : Int) (p4_cmp : Int → Int → Option Int) : (Int × Int) → Option (Step (Int × Int) (Int)) := fun s2 => bif (decide (s2.1 < s2.2)) then ((some (IntKind.wrap .i64 (shR .u64 (IntKind.wrap .u64 (IntKind.wrap .i64 (s2.1 + s2.2))) 1))).bind fun h_6 => bif (inB h_6 n0_) then (bif (inB p1_a n0_) then ((p4_cmp (rdA p0_data h_6) (rdA p0_data p1_a)).bind fun r9 => bif (decide (r9 < 0)) then ((some (IntKind.wrap .i64 (h_6 + 1))).bind fun i_13 => some (.next (i_13, s2.2))) else (some (.next (s2.1, h_6)))) else none) else none) else (some (.done s2.1))
noncomputable def slices_symMergeCmpFunc_int64.b2 (n0_ : Nat) (y14 : Int) : (Int × (Vector Int n0_)) → Option (Step (Int × (Vector Int n0_)) ((Vector Int n0_))) := fun s17 => bif (decide (s17.1 < (IntKind.wrap .i64 (y14 - 1)))) then (bif (inB (IntKind.wrap .i64 (s17.1 + 1)) n0_) then (bif (inB s17.1 n0_) then (bif (inB s17.1 n0_) then ((some (wrA s17.2 s17.1 (rdA s17.2 (IntKind.wrap .i64 (s17.1 + 1))))).bind fun m24 => bif (inB (IntKind.wrap .i64 (s17.1 + 1)) n0_) then ((some (wrA m24 (IntKind.wrap .i64 (s17.1 + 1)) (rdA s17.2 s17.1))).bind fun m26 => (some (IntKind.wrap .i64 (s17.1 + 1))).bind fun k_28 => some (.next (k_28, m26))) else none) else none) else none) else none) else (some (.done s17.2))
noncomputable def slices_symMergeCmpFunc_int64.b3 (n0_ : Nat) (p0_data : Vector Int n0_) (p2_m : Int) (p4_cmp : Int → Int → Option Int) : (Int × Int) → Option (Step (Int × Int) (Int)) := fun s33 => bif (decide (s33.1 < s33.2)) then ((some (IntKind.wrap .i64 (shR .u64 (IntKind.wrap .u64 (IntKind.wrap .i64 (s33.1 + s33.2))) 1))).bind fun h_37 => bif (inB p2_m n0_) then (bif (inB h_37 n0_) then ((p4_cmp (rdA p0_data p2_m) (rdA p0_data h_37)).bind fun r40 => bif (!(decide (r40 < 0))) then ((some (IntKind.wrap .i64 (h_37 + 1))).bind fun i_44 => some (.next (i_44, s33.2))) else (some (.next (s33.1, h_37)))) else none) else none) else (some (.done s33.1))
noncomputable def slices_symMergeCmpFunc_int64.b4 (n0_ : Nat) (y45 : Int) : (Int × (Vector Int n0_)) → Option (Step (Int × (Vector Int n0_)) ((Vector Int n0_))) := fun s48 => bif (decide (y45 < s48.1)) then (bif (inB (IntKind.wrap .i64 (s48.1 - 1)) n0_) then (bif (inB s48.1 n0_) then (bif (inB s48.1 n0_) then ((some (wrA s48.2 s48.1 (rdA s48.2 (IntKind.wrap .i64 (s48.1 - 1))))).bind fun m55 => bif (inB (IntKind.wrap .i64 (s48.1 - 1)) n0_) then ((some (wrA m55 (IntKind.wrap .i64 (s48.1 - 1)) (rdA s48.2 s48.1))).bind fun m57 => (some (IntKind.wrap .i64 (s48.1 - 1))).bind fun k_59 => some (.next (k_59, m57))) else none) else none) else none) else none) else (some (.done s48.2))
noncomputable def slices_symMergeCmpFunc_int64.b5 (n0_ : Nat) (p0_data : Vector Int n0_) (p4_cmp : Int → Int → Option Int) (p_70 : Int) : (Int × Int) → Option (Step (Int × Int) (Int)) := fun s71 => bif (decide (s71.1 < s71.2)) then ((some (IntKind.wrap .i64 (shR .u64 (IntKind.wrap .u64 (IntKind.wrap .i64 (s71.1 + s71.2))) 1))).bind fun c_75 => bif (inB (IntKind.wrap .i64 (p_70 - c_75)) n0_) then (bif (inB c_75 n0_) then ((p4_cmp (rdA p0_data (IntKind.wrap .i64 (p_70 - c_75))) (rdA p0_data c_75)).bind fun r78 => bif (!(decide (r78 < 0))) then ((some (IntKind.wrap .i64 (c_75 + 1))).bind fun start_82 => some (.next (start_82, s71.2))) else (some (.next (s71.1, c_75)))) else none) else none) else (some (.done s71.1))
noncomputable def slices_symMergeCmpFunc_int64.step (rc : (n0_ : Nat) → (Vector Int n0_) → Int → Int → Int → (Int → Int → Option Int) → Option ((Vector Int n0_))) (n0_ : Nat) (p0_data : Vector Int n0_) (p1_a : Int) (p2_m : Int) (p3_b : Int) (p4_cmp : Int → Int → Option Int) : Option ((Vector Int n0_)) := bif ((IntKind.wrap .i64 (p2_m - p1_a)) == 1) then ((loopW (slices_symMergeCmpFunc_int64.b1 n0_ p0_data p1_a p4_cmp) (p2_m, p3_b)).bind fun y14 => (loopW (slices_symMergeCmpFunc_int64.b2 n0_ y14) (p1_a, p0_data)).bind fun y29 => some y29) else (bif ((IntKind.wrap .i64 (p3_b - p2_m)) == 1) then ((loopW (slices_symMergeCmpFunc_int64.b3 n0_ p0_data p2_m p4_cmp) (p1_a, p2_m)).bind fun y45 => (loopW (slices_symMergeCmpFunc_int64.b4 n0_ y45) (p2_m, p0_data)).bind fun y60 => some y60) else ((some (IntKind.wrap .i64 (shR .u64 (IntKind.wrap .u64 (IntKind.wrap .i64 (p1_a + p3_b))) 1))).bind fun mid_63 => (some (IntKind.wrap .i64 (mid_63 + p2_m))).bind fun n_64 => (bif (decide (mid_63 < p2_m)) then ((some (IntKind.wrap .i64 (n_64 - p3_b))).bind fun start_68 => some (start_68, mid_63)) else (some (p1_a, p2_m)) : Option (Int × Int)).bind fun y65 => (some (IntKind.wrap .i64 (n_64 - 1))).bind fun p_70 => (loopW (slices_symMergeCmpFunc_int64.b5 n0_ p0_data p4_cmp p_70) (y65.1, y65.2)).bind fun y83 => (some (IntKind.wrap .i64 (n_64 - y83))).bind fun end_86 => ((bif (decide (y83 < p2_m)) then (some (decide (p2_m < end_86))) else (some false) : Option (Bool)).bind fun y89 => bif y89 then ((slices_rotateCmpFunc_int64.f n0_ p0_data y83 p2_m end_86 p4_cmp).bind fun r94 => some r94) else (some p0_data) : Option ((Vector Int n0_))).bind fun y87 => ((bif (decide (p1_a < y83)) then (some (decide (y83 < mid_63))) else (some false) : Option (Bool)).bind fun y100 => bif y100 then ((rc n0_ y87 p1_a y83 mid_63 p4_cmp).bind fun r105 => some r105) else (some y87) : Option ((Vector Int n0_))).bind fun y98 => (bif (decide (mid_63 < end_86)) then (some (decide (end_86 < p3_b))) else (some false) : Option (Bool)).bind fun y109 => bif y109 then ((rc n0_ y98 mid_63 end_86 p3_b p4_cmp).bind fun r114 => some r114) else (some y98)))
/-- with so many calls of its own on one another -/
noncomputable def slices_symMergeCmpFunc_int64.fuel : Nat → (n0_ : Nat) → (Vector Int n0_) → Int → Int → Int → (Int → Int → Option Int) → Option ((Vector Int n0_))
  | 0, _, _, _, _, _, _ => none
  | k + 1, n0_, p0_data, p1_a, p2_m, p3_b, p4_cmp => slices_symMergeCmpFunc_int64.step (slices_symMergeCmpFunc_int64.fuel k) n0_ p0_data p1_a p2_m p3_b p4_cmp
noncomputable def slices_symMergeCmpFunc_int64.f (n0_ : Nat) (p0_data : Vector Int n0_) (p1_a : Int) (p2_m : Int) (p3_b : Int) (p4_cmp : Int → Int → Option Int) : Option ((Vector Int n0_)) := slices_symMergeCmpFunc_int64.fuel 64 n0_ p0_data p1_a p2_m p3_b p4_cmp
set_option maxRecDepth 100000 in
theorem slices_symMergeCmpFunc_int64.once (rc : (n0_ : Nat) → (Vector Int n0_) → Int → Int → Int → (Int → Int → Option Int) → Option ((Vector Int n0_))) (hrc : ∀ (v0 : Value) (n0_ T0_ : Nat) (p0_data : Vector Int n0_) (p1_a : Int) (p2_m : Int) (p3_b : Int) (g4_ : Nat) (c4_ : Array Value) (p4_cmp : Int → Int → Option Int) (r : (Vector Int n0_)) (w : World) (H0 : Own (Mof [.row v0 T0_ 1 n0_ (encA .i64 p0_data)]) w w [.row v0 T0_ 1 n0_ (encA .i64 p0_data)]) (hg4 : CallsFn Try.prog g4_) (hF4 : ∀ w2 (x0 : Int) (x1 : Int) r, Own (Mof [.row v0 T0_ 1 n0_ (encA .i64 p0_data)]) w w2 [] → p4_cmp x0 x1 = some r → Calls Try.prog g4_ (#[.int .i64 x0, .int .i64 x1] ++ c4_) w2 (fun e w3 => ∃ _ : Unit, e = .returned (.int .i64 r) ∧ Own [] w2 w3 [])) (h0 : rc n0_ p0_data p1_a p2_m p3_b p4_cmp = some r), Calls Try.prog 85 #[v0, .int .i64 p1_a, .int .i64 p2_m, .int .i64 p3_b, .func (.func g4_) #[] c4_] w (fun e w' => ∃ _ : Unit, e = .returned (.tuple #[]) ∧ Own (Mof [.row v0 T0_ 1 n0_ (encA .i64 p0_data)]) w w' [.row v0 T0_ 1 n0_ (encA .i64 r)])) : ∀ (v0 : Value) (n0_ T0_ : Nat) (p0_data : Vector Int n0_) (p1_a : Int) (p2_m : Int) (p3_b : Int) (g4_ : Nat) (c4_ : Array Value) (p4_cmp : Int → Int → Option Int) (r : (Vector Int n0_)) (w : World) (H0 : Own (Mof [.row v0 T0_ 1 n0_ (encA .i64 p0_data)]) w w [.row v0 T0_ 1 n0_ (encA .i64 p0_data)]) (hg4 : CallsFn Try.prog g4_) (hF4 : ∀ w2 (x0 : Int) (x1 : Int) r, Own (Mof [.row v0 T0_ 1 n0_ (encA .i64 p0_data)]) w w2 [] → p4_cmp x0 x1 = some r → Calls Try.prog g4_ (#[.int .i64 x0, .int .i64 x1] ++ c4_) w2 (fun e w3 => ∃ _ : Unit, e = .returned (.int .i64 r) ∧ Own [] w2 w3 [])) (h0 : slices_symMergeCmpFunc_int64.step rc n0_ p0_data p1_a p2_m p3_b p4_cmp = some r), Calls Try.prog 85 #[v0, .int .i64 p1_a, .int .i64 p2_m, .int .i64 p3_b, .func (.func g4_) #[] c4_] w (fun e w' => ∃ _ : Unit, e = .returned (.tuple #[]) ∧ Own (Mof [.row v0 T0_ 1 n0_ (encA .i64 p0_data)]) w w' [.row v0 T0_ 1 n0_ (encA .i64 r)]) := by
  intro v0 n0_ T0_ p0_data p1_a p2_m p3_b g4_ c4_ p4_cmp r w H0 hg4 hF4 h0
  unfold slices_symMergeCmpFunc_int64.step at h0
  replace h0 := B.top h0
  refine calls_of_J (args := [v0, .int .i64 p1_a, .int .i64 p2_m, .int .i64 p3_b, .func (.func g4_) #[] c4_]) Try.func85 rfl Try.ntmps85 rfl [(0, v0), (1, .int .i64 p1_a), (2, .int .i64 p2_m), (3, .int .i64 p3_b), (4, .func (.func g4_) #[] c4_)] rfl H0 ?_
  refine J.seq ?_
  refine J.seq ?_
  refine J.region ?_
  refine J.op rfl rfl rfl (V.mv rfl rfl) ?_
  refine J.op rfl rfl rfl (V.mv rfl rfl) ?_
  refine J.op rfl rfl rfl (V.ar rfl rfl rfl rfl) ?_
  refine J.op rfl rfl rfl (V.cmp rfl rfl rfl rfl) ?_
  refine J.nil ?_
  refine J.tN ?_
  refine J.cond rfl (fun hB1 => ?_) (fun hB1 => ?_)
  · replace h0 := B.t hB1 h0
    refine J.seq ?_
    refine J.region ?_
    refine J.op rfl rfl rfl (V.mv rfl rfl) ?_
    refine J.op rfl rfl rfl (V.as rfl rfl) ?_
    refine J.nil ?_
    refine J.tN ?_
    refine J.seq ?_
    refine J.region ?_
    refine J.op rfl rfl rfl (V.mv rfl rfl) ?_
    refine J.op rfl rfl rfl (V.as rfl rfl) ?_
    refine J.nil ?_
    refine J.tN ?_
    refine J.seq ?_
    obtain ⟨y14, hy16, h0⟩ := B.bind h0
    refine J.cut (γ := Unit) (fun _ => True) (fun gy15 => [(0, v0), (1, .int .i64 p1_a), (10, .int .i64 y14)]) (fun gy15 => [.row v0 T0_ 1 n0_ (encA .i64 p0_data)]) ?_ ?_
    · refine J.block ?_
      refine J.loop (γ := Unit) hy16 (fun s2 g3 => [(0, v0), (1, .int .i64 p1_a), (4, .func (.func g4_) #[] c4_), (10, .int .i64 s2.1), (11, .int .i64 s2.2)]) (fun s2 g3 => [.row v0 T0_ 1 n0_ (encA .i64 p0_data)]) () ?_ ?_
      · exact J.keep _ rfl (J.pickE [0] rfl rfl J.here)
      · intro rec4 s2 g3 h1
        unfold slices_symMergeCmpFunc_int64.b1 at h1
        refine J.seq ?_
        refine J.seq ?_
        refine J.region ?_
        refine J.op rfl rfl rfl (V.mv rfl rfl) ?_
        refine J.op rfl rfl rfl (V.mv rfl rfl) ?_
        refine J.op rfl rfl rfl (V.cmp rfl rfl rfl rfl) ?_
        refine J.nil ?_
        refine J.tN ?_
        refine J.cond rfl (fun hB5 => ?_) (fun hB5 => ?_)
        · replace h1 := B.t hB5 h1
          refine J.skip ?_
          refine J.tN ?_
          refine J.block ?_
          refine J.seq ?_
          refine J.region ?_
          refine J.op rfl rfl rfl (V.mv rfl rfl) ?_
          refine J.op rfl rfl rfl (V.mv rfl rfl) ?_
          refine J.op rfl rfl rfl (V.ar rfl rfl rfl rfl) ?_
          refine J.op rfl rfl rfl (V.conv rfl rfl Try.underlying3 Try.underlying93) ?_
          refine J.op rfl rfl rfl (V.shr rfl rfl rfl rfl) ?_
          refine J.op rfl rfl rfl (V.conv rfl rfl Try.underlying93 Try.underlying3) ?_
          refine J.op rfl rfl rfl (V.as rfl rfl) ?_
          obtain ⟨h_6, eh_6, h1⟩ := B.lt h1
          refine J.val (congrArg (Value.int .i64) eh_6) ?_
          refine J.nil ?_
          refine J.tN ?_
          refine J.seq ?_
          refine J.quiet mixed (by kernel_rfl) ?_
          refine JQ.op rfl rfl rfl (V.mv rfl rfl) ?_
          refine JQ.op rfl rfl rfl (V.mv rfl rfl) ?_
          refine JQ.op rfl rfl rfl (V.mv rfl rfl) ?_
          obtain ⟨hC7, h1⟩ := B.chk h1
          refine JQ.op rfl rfl rfl (V.ixR 0 rfl rfl rfl rfl tl30 ts2 hC7) ?_
          refine JQ.op rfl rfl rfl (V.ldR 0 rfl rfl rfl Try.underlying2 ta2 (lt_of_in hC7) (encA_get1 .i64 _ hC7)) ?_
          refine JQ.op rfl rfl rfl (V.mv rfl rfl) ?_
          refine JQ.op rfl rfl rfl (V.mv rfl rfl) ?_
          obtain ⟨hC8, h1⟩ := B.chk h1
          refine JQ.op rfl rfl rfl (V.ixR 0 rfl rfl rfl rfl tl30 ts2 hC8) ?_
          refine JQ.op rfl rfl rfl (V.ldR 0 rfl rfl rfl Try.underlying2 ta2 (lt_of_in hC8) (encA_get1 .i64 _ hC8)) ?_
          obtain ⟨r9, hr10, h1⟩ := B.bind h1
          refine JQ.clA (l := [.tmp 44, .tmp 48]) hg4 (wN rfl) rfl rfl rfl rfl rfl (fun w H => hF4 w (rdA p0_data h_6) (rdA p0_data p1_a) r9 (Own.bare H)  hr10) ?_
          refine JQ.op rfl rfl rfl (V.cmp rfl rfl rfl rfl) ?_
          refine JQ.nil ?_
          refine J.tN ?_
          refine J.cond rfl (fun hB12 => ?_) (fun hB12 => ?_)
          · replace h1 := B.t hB12 h1
            refine J.region ?_
            refine J.op rfl rfl rfl (V.mv rfl rfl) ?_
            refine J.op rfl rfl rfl (V.ar rfl rfl rfl rfl) ?_
            refine J.op rfl rfl rfl (V.as rfl rfl) ?_
            obtain ⟨i_13, ei_13, h1⟩ := B.lt h1
            refine J.val (congrArg (Value.int .i64) ei_13) ?_
            refine J.nil ?_
            refine J.bN ?_
            refine J.tN (J.next (i_13, s2.2) () (B.n h1) ?_)
            exact J.keep _ rfl (J.pickE [0] rfl rfl J.here)
          · replace h1 := B.f hB12 h1
            refine J.region ?_
            refine J.op rfl rfl rfl (V.mv rfl rfl) ?_
            refine J.op rfl rfl rfl (V.as rfl rfl) ?_
            refine J.nil ?_
            refine J.bN ?_
            refine J.tN (J.next (s2.1, h_6) () (B.n h1) ?_)
            exact J.keep _ rfl (J.pickE [0] rfl rfl J.here)
        · replace h1 := B.f hB5 h1
          refine J.exit ?_
          refine J.tE ?_
          refine J.tE ?_
          refine J.bE ?_
          obtain rfl := B.d h1
          refine J.tN (J.to () trivial ?_)
          exact J.keep _ rfl (J.pickE [0] rfl rfl J.here)
    · intro gy15 _
      refine J.seq ?_
      refine J.seq ?_
      refine J.region ?_
      refine J.op rfl rfl rfl (V.mv rfl rfl) ?_
      refine J.op rfl rfl rfl (V.as rfl rfl) ?_
      refine J.nil ?_
      refine J.tN ?_
      obtain ⟨y29, hy31, h0⟩ := B.bind h0
      refine J.cutQ (γ := Unit) (fun _ => True) (fun gy30 => []) (fun gy30 => [.row v0 T0_ 1 n0_ (encA .i64 y29)]) ?_ ?_
      · refine J.block ?_
        refine J.loop (γ := Unit) hy31 (fun s17 g18 => [(0, v0), (10, .int .i64 y14), (13, .int .i64 s17.1)]) (fun s17 g18 => [.row v0 T0_ 1 n0_ (encA .i64 s17.2)]) () ?_ ?_
        · exact J.keep _ rfl (J.pickE [0] rfl rfl J.here)
        · intro rec19 s17 g18 h1
          unfold slices_symMergeCmpFunc_int64.b2 at h1
          refine J.seq ?_
          refine J.seq ?_
          refine J.region ?_
          refine J.op rfl rfl rfl (V.mv rfl rfl) ?_
          refine J.op rfl rfl rfl (V.mv rfl rfl) ?_
          refine J.op rfl rfl rfl (V.ar rfl rfl rfl rfl) ?_
          refine J.op rfl rfl rfl (V.cmp rfl rfl rfl rfl) ?_
          refine J.nil ?_
          refine J.tN ?_
          refine J.cond rfl (fun hB20 => ?_) (fun hB20 => ?_)
          · replace h1 := B.t hB20 h1
            refine J.skip ?_
            refine J.tN ?_
            refine J.seq ?_
            refine J.block ?_
            obtain ⟨hC21, h1⟩ := B.chk h1
            obtain ⟨hC22, h1⟩ := B.chk h1
            obtain ⟨hC23, h1⟩ := B.chk h1
            obtain ⟨m24, em24, h1⟩ := B.lt h1
            obtain ⟨hC25, h1⟩ := B.chk h1
            obtain ⟨m26, em26, h1⟩ := B.lt h1
            refine J.cutQ (γ := Unit) (fun _ => True) (fun gx27 => [(0, v0), (10, .int .i64 y14), (13, .int .i64 s17.1)]) (fun gx27 => [.row v0 T0_ 1 n0_ (encA .i64 m26)]) ?_ ?_
            · refine J.any 18 rfl [] mixed ?_
              refine JH.take (i := 0) [] rfl (by kernel_rfl) rfl rfl rfl rfl rfl (V.mv rfl rfl) ?_
              refine JH.take (i := 1) [] rfl (by kernel_rfl) rfl rfl rfl rfl rfl (V.mv rfl rfl) ?_
              refine JH.take (i := 2) [] rfl (by kernel_rfl) rfl rfl rfl rfl rfl (V.mv rfl rfl) ?_
              refine JH.take (i := 3) [] rfl (by kernel_rfl) rfl rfl rfl rfl rfl (V.mv rfl rfl) ?_
              refine JH.take (i := 4) [] rfl (by kernel_rfl) rfl rfl rfl rfl rfl (V.ar rfl rfl rfl rfl) ?_
              refine JH.take (i := 5) [] rfl (by kernel_rfl) rfl rfl rfl rfl rfl (V.mv rfl rfl) ?_
              refine JH.take (i := 6) [] rfl (by kernel_rfl) rfl rfl rfl rfl rfl (V.mv rfl rfl) ?_
              refine JH.take (i := 7) [] rfl (by kernel_rfl) rfl rfl rfl rfl rfl (V.ar rfl rfl rfl rfl) ?_
              refine JH.take (i := 10) [] rfl (by kernel_rfl) rfl rfl rfl rfl rfl (V.mv rfl rfl) ?_
              refine JH.take (i := 11) [] rfl (by kernel_rfl) rfl rfl rfl rfl rfl (V.mv rfl rfl) ?_
              refine JH.all [8, 12] (by kernel_rfl) rfl (JHall.cons (JH.op rfl ?_) (JHall.cons (JH.op rfl ?_) (JHall.nil)))
              · refine J.op rfl rfl rfl (V.ixR 0 rfl rfl rfl rfl tl30 ts2 hC21) ?_
                refine J.nil ?_
                refine JH.back [] rfl rfl ?_
                refine JH.all [9, 12] (by kernel_rfl) rfl (JHall.cons (JH.op rfl ?_) (JHall.cons (JH.op rfl ?_) (JHall.nil)))
                · refine J.op rfl rfl rfl (V.ldR 0 rfl rfl rfl Try.underlying2 ta2 (lt_of_in hC21) (encA_get1 .i64 _ hC21)) ?_
                  refine J.nil ?_
                  refine JH.back [] rfl rfl ?_
                  refine JH.all [12] (by kernel_rfl) rfl (JHall.cons (JH.op rfl ?_) (JHall.nil))
                  refine J.op rfl rfl rfl (V.ixR 0 rfl rfl rfl rfl tl30 ts2 hC22) ?_
                  refine J.nil ?_
                  refine JH.back [] rfl rfl ?_
                  refine JH.all [13] (by kernel_rfl) rfl (JHall.cons (JH.op rfl ?_) (JHall.nil))
                  refine J.op rfl rfl rfl (V.ldR 0 rfl rfl rfl Try.underlying2 ta2 (lt_of_in hC22) (encA_get1 .i64 _ hC22)) ?_
                  refine J.nil ?_
                  refine JH.back [] rfl rfl ?_
                  refine JH.all [14] (by kernel_rfl) rfl (JHall.cons (JH.op rfl ?_) (JHall.nil))
                  refine J.op rfl rfl rfl (V.ixR 0 rfl rfl rfl rfl tl30 ts2 hC23) ?_
                  refine J.nil ?_
                  refine JH.back [] rfl rfl ?_
                  refine JH.all [15] (by kernel_rfl) rfl (JHall.cons (JH.op rfl ?_) (JHall.nil))
                  refine J.stR 0 rfl rfl rfl rfl rfl rfl ts2 (fun _ _ => rfl) (encA_lt1 .i64 _ hC23) ?_
                  refine J.setEnt 0 rfl (congrArg (fun q => Ent.row _ _ 1 _ q) (encA_set1 .i64 _ _ _)) ?_
                  refine J.setEnt 0 rfl (congrArg (fun q => Ent.row _ _ 1 _ (encA .i64 q)) em24) ?_
                  refine J.nil ?_
                  refine JH.back [] rfl rfl ?_
                  refine JH.all [16] (by kernel_rfl) rfl (JHall.cons (JH.op rfl ?_) (JHall.nil))
                  refine J.op rfl rfl rfl (V.ixR 0 rfl rfl rfl rfl tl30 ts2 hC25) ?_
                  refine J.nil ?_
                  refine JH.back [] rfl rfl ?_
                  refine JH.all [17] (by kernel_rfl) rfl (JHall.cons (JH.op rfl ?_) (JHall.nil))
                  refine J.stR 0 rfl rfl rfl rfl rfl rfl ts2 (fun _ _ => rfl) (encA_lt1 .i64 _ hC25) ?_
                  refine J.setEnt 0 rfl (congrArg (fun q => Ent.row _ _ 1 _ q) (encA_set1 .i64 _ _ _)) ?_
                  refine J.setEnt 0 rfl (congrArg (fun q => Ent.row _ _ 1 _ (encA .i64 q)) em26) ?_
                  refine J.nil ?_
                  refine JH.back [] rfl rfl ?_
                  refine JH.fin (by kernel_rfl) ?_
                  refine J.tN (J.to () trivial ?_)
                  exact J.keep _ rfl (J.pickE [0] rfl rfl J.here)
                · refine J.op rfl rfl rfl (V.ixR 0 rfl rfl rfl rfl tl30 ts2 hC22) ?_
                  refine J.nil ?_
                  refine JH.back [] rfl rfl ?_
                  refine JH.all [9, 13] (by kernel_rfl) rfl (JHall.cons (JH.op rfl ?_) (JHall.cons (JH.op rfl ?_) (JHall.nil)))
                  · refine J.op rfl rfl rfl (V.ldR 0 rfl rfl rfl Try.underlying2 ta2 (lt_of_in hC21) (encA_get1 .i64 _ hC21)) ?_
                    refine J.nil ?_
                    refine JH.back [] rfl rfl ?_
                    refine JH.all [13] (by kernel_rfl) rfl (JHall.cons (JH.op rfl ?_) (JHall.nil))
                    refine J.op rfl rfl rfl (V.ldR 0 rfl rfl rfl Try.underlying2 ta2 (lt_of_in hC22) (encA_get1 .i64 _ hC22)) ?_
                    refine J.nil ?_
                    refine JH.back [] rfl rfl ?_
                    refine JH.all [14] (by kernel_rfl) rfl (JHall.cons (JH.op rfl ?_) (JHall.nil))
                    refine J.op rfl rfl rfl (V.ixR 0 rfl rfl rfl rfl tl30 ts2 hC23) ?_
                    refine J.nil ?_
                    refine JH.back [] rfl rfl ?_
                    refine JH.all [15] (by kernel_rfl) rfl (JHall.cons (JH.op rfl ?_) (JHall.nil))
                    refine J.stR 0 rfl rfl rfl rfl rfl rfl ts2 (fun _ _ => rfl) (encA_lt1 .i64 _ hC23) ?_
                    refine J.setEnt 0 rfl (congrArg (fun q => Ent.row _ _ 1 _ q) (encA_set1 .i64 _ _ _)) ?_
                    refine J.setEnt 0 rfl (congrArg (fun q => Ent.row _ _ 1 _ (encA .i64 q)) em24) ?_
                    refine J.nil ?_
                    refine JH.back [] rfl rfl ?_
                    refine JH.all [16] (by kernel_rfl) rfl (JHall.cons (JH.op rfl ?_) (JHall.nil))
                    refine J.op rfl rfl rfl (V.ixR 0 rfl rfl rfl rfl tl30 ts2 hC25) ?_
                    refine J.nil ?_
                    refine JH.back [] rfl rfl ?_
                    refine JH.all [17] (by kernel_rfl) rfl (JHall.cons (JH.op rfl ?_) (JHall.nil))
                    refine J.stR 0 rfl rfl rfl rfl rfl rfl ts2 (fun _ _ => rfl) (encA_lt1 .i64 _ hC25) ?_
                    refine J.setEnt 0 rfl (congrArg (fun q => Ent.row _ _ 1 _ q) (encA_set1 .i64 _ _ _)) ?_
                    refine J.setEnt 0 rfl (congrArg (fun q => Ent.row _ _ 1 _ (encA .i64 q)) em26) ?_
                    refine J.nil ?_
                    refine JH.back [] rfl rfl ?_
                    refine JH.fin (by kernel_rfl) ?_
                    refine J.tN (J.to () trivial ?_)
                    exact J.keep _ rfl (J.pickE [0] rfl rfl J.here)
                  · refine J.op rfl rfl rfl (V.ldR 0 rfl rfl rfl Try.underlying2 ta2 (lt_of_in hC22) (encA_get1 .i64 _ hC22)) ?_
                    refine J.nil ?_
                    refine JH.back [] rfl rfl ?_
                    refine JH.all [9] (by kernel_rfl) rfl (JHall.cons (JH.op rfl ?_) (JHall.nil))
                    refine J.op rfl rfl rfl (V.ldR 0 rfl rfl rfl Try.underlying2 ta2 (lt_of_in hC21) (encA_get1 .i64 _ hC21)) ?_
                    refine J.nil ?_
                    refine JH.back [] rfl rfl ?_
                    refine JH.all [14] (by kernel_rfl) rfl (JHall.cons (JH.op rfl ?_) (JHall.nil))
                    refine J.op rfl rfl rfl (V.ixR 0 rfl rfl rfl rfl tl30 ts2 hC23) ?_
                    refine J.nil ?_
                    refine JH.back [] rfl rfl ?_
                    refine JH.all [15] (by kernel_rfl) rfl (JHall.cons (JH.op rfl ?_) (JHall.nil))
                    refine J.stR 0 rfl rfl rfl rfl rfl rfl ts2 (fun _ _ => rfl) (encA_lt1 .i64 _ hC23) ?_
                    refine J.setEnt 0 rfl (congrArg (fun q => Ent.row _ _ 1 _ q) (encA_set1 .i64 _ _ _)) ?_
                    refine J.setEnt 0 rfl (congrArg (fun q => Ent.row _ _ 1 _ (encA .i64 q)) em24) ?_
                    refine J.nil ?_
                    refine JH.back [] rfl rfl ?_
                    refine JH.all [16] (by kernel_rfl) rfl (JHall.cons (JH.op rfl ?_) (JHall.nil))
                    refine J.op rfl rfl rfl (V.ixR 0 rfl rfl rfl rfl tl30 ts2 hC25) ?_
                    refine J.nil ?_
                    refine JH.back [] rfl rfl ?_
                    refine JH.all [17] (by kernel_rfl) rfl (JHall.cons (JH.op rfl ?_) (JHall.nil))
                    refine J.stR 0 rfl rfl rfl rfl rfl rfl ts2 (fun _ _ => rfl) (encA_lt1 .i64 _ hC25) ?_
                    refine J.setEnt 0 rfl (congrArg (fun q => Ent.row _ _ 1 _ q) (encA_set1 .i64 _ _ _)) ?_
                    refine J.setEnt 0 rfl (congrArg (fun q => Ent.row _ _ 1 _ (encA .i64 q)) em26) ?_
                    refine J.nil ?_
                    refine JH.back [] rfl rfl ?_
                    refine JH.fin (by kernel_rfl) ?_
                    refine J.tN (J.to () trivial ?_)
                    exact J.keep _ rfl (J.pickE [0] rfl rfl J.here)
              · refine J.op rfl rfl rfl (V.ixR 0 rfl rfl rfl rfl tl30 ts2 hC22) ?_
                refine J.nil ?_
                refine JH.back [] rfl rfl ?_
                refine JH.all [8, 13] (by kernel_rfl) rfl (JHall.cons (JH.op rfl ?_) (JHall.cons (JH.op rfl ?_) (JHall.nil)))
                · refine J.op rfl rfl rfl (V.ixR 0 rfl rfl rfl rfl tl30 ts2 hC21) ?_
                  refine J.nil ?_
                  refine JH.back [] rfl rfl ?_
                  refine JH.all [9, 13] (by kernel_rfl) rfl (JHall.cons (JH.op rfl ?_) (JHall.cons (JH.op rfl ?_) (JHall.nil)))
                  · refine J.op rfl rfl rfl (V.ldR 0 rfl rfl rfl Try.underlying2 ta2 (lt_of_in hC21) (encA_get1 .i64 _ hC21)) ?_
                    refine J.nil ?_
                    refine JH.back [] rfl rfl ?_
                    refine JH.all [13] (by kernel_rfl) rfl (JHall.cons (JH.op rfl ?_) (JHall.nil))
                    refine J.op rfl rfl rfl (V.ldR 0 rfl rfl rfl Try.underlying2 ta2 (lt_of_in hC22) (encA_get1 .i64 _ hC22)) ?_
                    refine J.nil ?_
                    refine JH.back [] rfl rfl ?_
                    refine JH.all [14] (by kernel_rfl) rfl (JHall.cons (JH.op rfl ?_) (JHall.nil))
                    refine J.op rfl rfl rfl (V.ixR 0 rfl rfl rfl rfl tl30 ts2 hC23) ?_
                    refine J.nil ?_
                    refine JH.back [] rfl rfl ?_
                    refine JH.all [15] (by kernel_rfl) rfl (JHall.cons (JH.op rfl ?_) (JHall.nil))
                    refine J.stR 0 rfl rfl rfl rfl rfl rfl ts2 (fun _ _ => rfl) (encA_lt1 .i64 _ hC23) ?_
                    refine J.setEnt 0 rfl (congrArg (fun q => Ent.row _ _ 1 _ q) (encA_set1 .i64 _ _ _)) ?_
                    refine J.setEnt 0 rfl (congrArg (fun q => Ent.row _ _ 1 _ (encA .i64 q)) em24) ?_
                    refine J.nil ?_
                    refine JH.back [] rfl rfl ?_
                    refine JH.all [16] (by kernel_rfl) rfl (JHall.cons (JH.op rfl ?_) (JHall.nil))
                    refine J.op rfl rfl rfl (V.ixR 0 rfl rfl rfl rfl tl30 ts2 hC25) ?_
                    refine J.nil ?_
                    refine JH.back [] rfl rfl ?_
                    refine JH.all [17] (by kernel_rfl) rfl (JHall.cons (JH.op rfl ?_) (JHall.nil))
                    refine J.stR 0 rfl rfl rfl rfl rfl rfl ts2 (fun _ _ => rfl) (encA_lt1 .i64 _ hC25) ?_
                    refine J.setEnt 0 rfl (congrArg (fun q => Ent.row _ _ 1 _ q) (encA_set1 .i64 _ _ _)) ?_
                    refine J.setEnt 0 rfl (congrArg (fun q => Ent.row _ _ 1 _ (encA .i64 q)) em26) ?_
                    refine J.nil ?_
                    refine JH.back [] rfl rfl ?_
                    refine JH.fin (by kernel_rfl) ?_
                    refine J.tN (J.to () trivial ?_)
                    exact J.keep _ rfl (J.pickE [0] rfl rfl J.here)
                  · refine J.op rfl rfl rfl (V.ldR 0 rfl rfl rfl Try.underlying2 ta2 (lt_of_in hC22) (encA_get1 .i64 _ hC22)) ?_
                    refine J.nil ?_
                    refine JH.back [] rfl rfl ?_
                    refine JH.all [9] (by kernel_rfl) rfl (JHall.cons (JH.op rfl ?_) (JHall.nil))
                    refine J.op rfl rfl rfl (V.ldR 0 rfl rfl rfl Try.underlying2 ta2 (lt_of_in hC21) (encA_get1 .i64 _ hC21)) ?_
                    refine J.nil ?_
                    refine JH.back [] rfl rfl ?_
                    refine JH.all [14] (by kernel_rfl) rfl (JHall.cons (JH.op rfl ?_) (JHall.nil))
                    refine J.op rfl rfl rfl (V.ixR 0 rfl rfl rfl rfl tl30 ts2 hC23) ?_
                    refine J.nil ?_
                    refine JH.back [] rfl rfl ?_
                    refine JH.all [15] (by kernel_rfl) rfl (JHall.cons (JH.op rfl ?_) (JHall.nil))
                    refine J.stR 0 rfl rfl rfl rfl rfl rfl ts2 (fun _ _ => rfl) (encA_lt1 .i64 _ hC23) ?_
                    refine J.setEnt 0 rfl (congrArg (fun q => Ent.row _ _ 1 _ q) (encA_set1 .i64 _ _ _)) ?_
                    refine J.setEnt 0 rfl (congrArg (fun q => Ent.row _ _ 1 _ (encA .i64 q)) em24) ?_
                    refine J.nil ?_
                    refine JH.back [] rfl rfl ?_
                    refine JH.all [16] (by kernel_rfl) rfl (JHall.cons (JH.op rfl ?_) (JHall.nil))
                    refine J.op rfl rfl rfl (V.ixR 0 rfl rfl rfl rfl tl30 ts2 hC25) ?_
                    refine J.nil ?_
                    refine JH.back [] rfl rfl ?_
                    refine JH.all [17] (by kernel_rfl) rfl (JHall.cons (JH.op rfl ?_) (JHall.nil))
                    refine J.stR 0 rfl rfl rfl rfl rfl rfl ts2 (fun _ _ => rfl) (encA_lt1 .i64 _ hC25) ?_
                    refine J.setEnt 0 rfl (congrArg (fun q => Ent.row _ _ 1 _ q) (encA_set1 .i64 _ _ _)) ?_
                    refine J.setEnt 0 rfl (congrArg (fun q => Ent.row _ _ 1 _ (encA .i64 q)) em26) ?_
                    refine J.nil ?_
                    refine JH.back [] rfl rfl ?_
                    refine JH.fin (by kernel_rfl) ?_
                    refine J.tN (J.to () trivial ?_)
                    exact J.keep _ rfl (J.pickE [0] rfl rfl J.here)
                · refine J.op rfl rfl rfl (V.ldR 0 rfl rfl rfl Try.underlying2 ta2 (lt_of_in hC22) (encA_get1 .i64 _ hC22)) ?_
                  refine J.nil ?_
                  refine JH.back [] rfl rfl ?_
                  refine JH.all [8] (by kernel_rfl) rfl (JHall.cons (JH.op rfl ?_) (JHall.nil))
                  refine J.op rfl rfl rfl (V.ixR 0 rfl rfl rfl rfl tl30 ts2 hC21) ?_
                  refine J.nil ?_
                  refine JH.back [] rfl rfl ?_
                  refine JH.all [9] (by kernel_rfl) rfl (JHall.cons (JH.op rfl ?_) (JHall.nil))
                  refine J.op rfl rfl rfl (V.ldR 0 rfl rfl rfl Try.underlying2 ta2 (lt_of_in hC21) (encA_get1 .i64 _ hC21)) ?_
                  refine J.nil ?_
                  refine JH.back [] rfl rfl ?_
                  refine JH.all [14] (by kernel_rfl) rfl (JHall.cons (JH.op rfl ?_) (JHall.nil))
                  refine J.op rfl rfl rfl (V.ixR 0 rfl rfl rfl rfl tl30 ts2 hC23) ?_
                  refine J.nil ?_
                  refine JH.back [] rfl rfl ?_
                  refine JH.all [15] (by kernel_rfl) rfl (JHall.cons (JH.op rfl ?_) (JHall.nil))
                  refine J.stR 0 rfl rfl rfl rfl rfl rfl ts2 (fun _ _ => rfl) (encA_lt1 .i64 _ hC23) ?_
                  refine J.setEnt 0 rfl (congrArg (fun q => Ent.row _ _ 1 _ q) (encA_set1 .i64 _ _ _)) ?_
                  refine J.setEnt 0 rfl (congrArg (fun q => Ent.row _ _ 1 _ (encA .i64 q)) em24) ?_
                  refine J.nil ?_
                  refine JH.back [] rfl rfl ?_
                  refine JH.all [16] (by kernel_rfl) rfl (JHall.cons (JH.op rfl ?_) (JHall.nil))
                  refine J.op rfl rfl rfl (V.ixR 0 rfl rfl rfl rfl tl30 ts2 hC25) ?_
                  refine J.nil ?_
                  refine JH.back [] rfl rfl ?_
                  refine JH.all [17] (by kernel_rfl) rfl (JHall.cons (JH.op rfl ?_) (JHall.nil))
                  refine J.stR 0 rfl rfl rfl rfl rfl rfl ts2 (fun _ _ => rfl) (encA_lt1 .i64 _ hC25) ?_
                  refine J.setEnt 0 rfl (congrArg (fun q => Ent.row _ _ 1 _ q) (encA_set1 .i64 _ _ _)) ?_
                  refine J.setEnt 0 rfl (congrArg (fun q => Ent.row _ _ 1 _ (encA .i64 q)) em26) ?_
                  refine J.nil ?_
                  refine JH.back [] rfl rfl ?_
                  refine JH.fin (by kernel_rfl) ?_
                  refine J.tN (J.to () trivial ?_)
                  exact J.keep _ rfl (J.pickE [0] rfl rfl J.here)
            · intro gx27 _
              refine J.bN ?_
              refine J.tN ?_
              refine J.region ?_
              refine J.op rfl rfl rfl (V.mv rfl rfl) ?_
              refine J.op rfl rfl rfl (V.ar rfl rfl rfl rfl) ?_
              refine J.op rfl rfl rfl (V.as rfl rfl) ?_
              obtain ⟨k_28, ek_28, h1⟩ := B.lt h1
              refine J.val (congrArg (Value.int .i64) ek_28) ?_
              refine J.nil ?_
              refine J.tN (J.next (k_28, m26) () (B.n h1) ?_)
              exact J.keep _ rfl (J.pickE [0] rfl rfl J.here)
          · replace h1 := B.f hB20 h1
            refine J.exit ?_
            refine J.tE ?_
            refine J.tE ?_
            refine J.bE ?_
            obtain rfl := B.d h1
            refine J.tN (J.to () trivial ?_)
            exact J.keep _ rfl (J.pickE [0] rfl rfl J.here)
      · intro gy30 _
        refine J.tN ?_
        refine J.ret ?_
        refine J.tR ?_
        obtain rfl := B.e h0
        exact J.ret0 rfl fun w H => ⟨(), rfl, H.pick [0] (by decide)⟩
  · replace h0 := B.f hB1 h0
    refine J.skip ?_
    refine J.tN ?_
    refine J.seq ?_
    refine J.seq ?_
    refine J.region ?_
    refine J.op rfl rfl rfl (V.mv rfl rfl) ?_
    refine J.op rfl rfl rfl (V.mv rfl rfl) ?_
    refine J.op rfl rfl rfl (V.ar rfl rfl rfl rfl) ?_
    refine J.op rfl rfl rfl (V.cmp rfl rfl rfl rfl) ?_
    refine J.nil ?_
    refine J.tN ?_
    refine J.cond rfl (fun hB32 => ?_) (fun hB32 => ?_)
    · replace h0 := B.t hB32 h0
      refine J.seq ?_
      refine J.region ?_
      refine J.op rfl rfl rfl (V.mv rfl rfl) ?_
      refine J.op rfl rfl rfl (V.as rfl rfl) ?_
      refine J.nil ?_
      refine J.tN ?_
      refine J.seq ?_
      refine J.region ?_
      refine J.op rfl rfl rfl (V.mv rfl rfl) ?_
      refine J.op rfl rfl rfl (V.as rfl rfl) ?_
      refine J.nil ?_
      refine J.tN ?_
      refine J.seq ?_
      obtain ⟨y45, hy47, h0⟩ := B.bind h0
      refine J.cut (γ := Unit) (fun _ => True) (fun gy46 => [(0, v0), (2, .int .i64 p2_m), (14, .int .i64 y45)]) (fun gy46 => [.row v0 T0_ 1 n0_ (encA .i64 p0_data)]) ?_ ?_
      · refine J.block ?_
        refine J.loop (γ := Unit) hy47 (fun s33 g34 => [(0, v0), (2, .int .i64 p2_m), (4, .func (.func g4_) #[] c4_), (14, .int .i64 s33.1), (15, .int .i64 s33.2)]) (fun s33 g34 => [.row v0 T0_ 1 n0_ (encA .i64 p0_data)]) () ?_ ?_
        · exact J.keep _ rfl (J.pickE [0] rfl rfl J.here)
        · intro rec35 s33 g34 h1
          unfold slices_symMergeCmpFunc_int64.b3 at h1
          refine J.seq ?_
          refine J.seq ?_
          refine J.region ?_
          refine J.op rfl rfl rfl (V.mv rfl rfl) ?_
          refine J.op rfl rfl rfl (V.mv rfl rfl) ?_
          refine J.op rfl rfl rfl (V.cmp rfl rfl rfl rfl) ?_
          refine J.nil ?_
          refine J.tN ?_
          refine J.cond rfl (fun hB36 => ?_) (fun hB36 => ?_)
          · replace h1 := B.t hB36 h1
            refine J.skip ?_
            refine J.tN ?_
            refine J.block ?_
            refine J.seq ?_
            refine J.region ?_
            refine J.op rfl rfl rfl (V.mv rfl rfl) ?_
            refine J.op rfl rfl rfl (V.mv rfl rfl) ?_
            refine J.op rfl rfl rfl (V.ar rfl rfl rfl rfl) ?_
            refine J.op rfl rfl rfl (V.conv rfl rfl Try.underlying3 Try.underlying93) ?_
            refine J.op rfl rfl rfl (V.shr rfl rfl rfl rfl) ?_
            refine J.op rfl rfl rfl (V.conv rfl rfl Try.underlying93 Try.underlying3) ?_
            refine J.op rfl rfl rfl (V.as rfl rfl) ?_
            obtain ⟨h_37, eh_37, h1⟩ := B.lt h1
            refine J.val (congrArg (Value.int .i64) eh_37) ?_
            refine J.nil ?_
            refine J.tN ?_
            refine J.seq ?_
            refine J.quiet mixed (by kernel_rfl) ?_
            refine JQ.op rfl rfl rfl (V.mv rfl rfl) ?_
            refine JQ.op rfl rfl rfl (V.mv rfl rfl) ?_
            refine JQ.op rfl rfl rfl (V.mv rfl rfl) ?_
            obtain ⟨hC38, h1⟩ := B.chk h1
            refine JQ.op rfl rfl rfl (V.ixR 0 rfl rfl rfl rfl tl30 ts2 hC38) ?_
            refine JQ.op rfl rfl rfl (V.ldR 0 rfl rfl rfl Try.underlying2 ta2 (lt_of_in hC38) (encA_get1 .i64 _ hC38)) ?_
            refine JQ.op rfl rfl rfl (V.mv rfl rfl) ?_
            refine JQ.op rfl rfl rfl (V.mv rfl rfl) ?_
            obtain ⟨hC39, h1⟩ := B.chk h1
            refine JQ.op rfl rfl rfl (V.ixR 0 rfl rfl rfl rfl tl30 ts2 hC39) ?_
            refine JQ.op rfl rfl rfl (V.ldR 0 rfl rfl rfl Try.underlying2 ta2 (lt_of_in hC39) (encA_get1 .i64 _ hC39)) ?_
            obtain ⟨r40, hr41, h1⟩ := B.bind h1
            refine JQ.clA (l := [.tmp 96, .tmp 100]) hg4 (wN rfl) rfl rfl rfl rfl rfl (fun w H => hF4 w (rdA p0_data p2_m) (rdA p0_data h_37) r40 (Own.bare H)  hr41) ?_
            refine JQ.op rfl rfl rfl (V.cmp rfl rfl rfl rfl) ?_
            refine JQ.op rfl rfl rfl (V.nt rfl rfl) ?_
            refine JQ.nil ?_
            refine J.tN ?_
            refine J.cond rfl (fun hB43 => ?_) (fun hB43 => ?_)
            · replace h1 := B.t hB43 h1
              refine J.region ?_
              refine J.op rfl rfl rfl (V.mv rfl rfl) ?_
              refine J.op rfl rfl rfl (V.ar rfl rfl rfl rfl) ?_
              refine J.op rfl rfl rfl (V.as rfl rfl) ?_
              obtain ⟨i_44, ei_44, h1⟩ := B.lt h1
              refine J.val (congrArg (Value.int .i64) ei_44) ?_
              refine J.nil ?_
              refine J.bN ?_
              refine J.tN (J.next (i_44, s33.2) () (B.n h1) ?_)
              exact J.keep _ rfl (J.pickE [0] rfl rfl J.here)
            · replace h1 := B.f hB43 h1
              refine J.region ?_
              refine J.op rfl rfl rfl (V.mv rfl rfl) ?_
              refine J.op rfl rfl rfl (V.as rfl rfl) ?_
              refine J.nil ?_
              refine J.bN ?_
              refine J.tN (J.next (s33.1, h_37) () (B.n h1) ?_)
              exact J.keep _ rfl (J.pickE [0] rfl rfl J.here)
          · replace h1 := B.f hB36 h1
            refine J.exit ?_
            refine J.tE ?_
            refine J.tE ?_
            refine J.bE ?_
            obtain rfl := B.d h1
            refine J.tN (J.to () trivial ?_)
            exact J.keep _ rfl (J.pickE [0] rfl rfl J.here)
      · intro gy46 _
        refine J.seq ?_
        refine J.seq ?_
        refine J.region ?_
        refine J.op rfl rfl rfl (V.mv rfl rfl) ?_
        refine J.op rfl rfl rfl (V.as rfl rfl) ?_
        refine J.nil ?_
        refine J.tN ?_
        obtain ⟨y60, hy62, h0⟩ := B.bind h0
        refine J.cutQ (γ := Unit) (fun _ => True) (fun gy61 => []) (fun gy61 => [.row v0 T0_ 1 n0_ (encA .i64 y60)]) ?_ ?_
        · refine J.block ?_
          refine J.loop (γ := Unit) hy62 (fun s48 g49 => [(0, v0), (14, .int .i64 y45), (17, .int .i64 s48.1)]) (fun s48 g49 => [.row v0 T0_ 1 n0_ (encA .i64 s48.2)]) () ?_ ?_
          · exact J.keep _ rfl (J.pickE [0] rfl rfl J.here)
          · intro rec50 s48 g49 h1
            unfold slices_symMergeCmpFunc_int64.b4 at h1
            refine J.seq ?_
            refine J.seq ?_
            refine J.region ?_
            refine J.op rfl rfl rfl (V.mv rfl rfl) ?_
            refine J.op rfl rfl rfl (V.mv rfl rfl) ?_
            refine J.op rfl rfl rfl (V.cmp rfl rfl rfl rfl) ?_
            refine J.nil ?_
            refine J.tN ?_
            refine J.cond rfl (fun hB51 => ?_) (fun hB51 => ?_)
            · replace h1 := B.t hB51 h1
              refine J.skip ?_
              refine J.tN ?_
              refine J.seq ?_
              refine J.block ?_
              obtain ⟨hC52, h1⟩ := B.chk h1
              obtain ⟨hC53, h1⟩ := B.chk h1
              obtain ⟨hC54, h1⟩ := B.chk h1
              obtain ⟨m55, em55, h1⟩ := B.lt h1
              obtain ⟨hC56, h1⟩ := B.chk h1
              obtain ⟨m57, em57, h1⟩ := B.lt h1
              refine J.cutQ (γ := Unit) (fun _ => True) (fun gx58 => [(0, v0), (14, .int .i64 y45), (17, .int .i64 s48.1)]) (fun gx58 => [.row v0 T0_ 1 n0_ (encA .i64 m57)]) ?_ ?_
              · refine J.any 18 rfl [] mixed ?_
                refine JH.take (i := 0) [] rfl (by kernel_rfl) rfl rfl rfl rfl rfl (V.mv rfl rfl) ?_
                refine JH.take (i := 1) [] rfl (by kernel_rfl) rfl rfl rfl rfl rfl (V.mv rfl rfl) ?_
                refine JH.take (i := 2) [] rfl (by kernel_rfl) rfl rfl rfl rfl rfl (V.mv rfl rfl) ?_
                refine JH.take (i := 3) [] rfl (by kernel_rfl) rfl rfl rfl rfl rfl (V.mv rfl rfl) ?_
                refine JH.take (i := 4) [] rfl (by kernel_rfl) rfl rfl rfl rfl rfl (V.ar rfl rfl rfl rfl) ?_
                refine JH.take (i := 5) [] rfl (by kernel_rfl) rfl rfl rfl rfl rfl (V.mv rfl rfl) ?_
                refine JH.take (i := 6) [] rfl (by kernel_rfl) rfl rfl rfl rfl rfl (V.mv rfl rfl) ?_
                refine JH.take (i := 7) [] rfl (by kernel_rfl) rfl rfl rfl rfl rfl (V.ar rfl rfl rfl rfl) ?_
                refine JH.take (i := 10) [] rfl (by kernel_rfl) rfl rfl rfl rfl rfl (V.mv rfl rfl) ?_
                refine JH.take (i := 11) [] rfl (by kernel_rfl) rfl rfl rfl rfl rfl (V.mv rfl rfl) ?_
                refine JH.all [8, 12] (by kernel_rfl) rfl (JHall.cons (JH.op rfl ?_) (JHall.cons (JH.op rfl ?_) (JHall.nil)))
                · refine J.op rfl rfl rfl (V.ixR 0 rfl rfl rfl rfl tl30 ts2 hC52) ?_
                  refine J.nil ?_
                  refine JH.back [] rfl rfl ?_
                  refine JH.all [9, 12] (by kernel_rfl) rfl (JHall.cons (JH.op rfl ?_) (JHall.cons (JH.op rfl ?_) (JHall.nil)))
                  · refine J.op rfl rfl rfl (V.ldR 0 rfl rfl rfl Try.underlying2 ta2 (lt_of_in hC52) (encA_get1 .i64 _ hC52)) ?_
                    refine J.nil ?_
                    refine JH.back [] rfl rfl ?_
                    refine JH.all [12] (by kernel_rfl) rfl (JHall.cons (JH.op rfl ?_) (JHall.nil))
                    refine J.op rfl rfl rfl (V.ixR 0 rfl rfl rfl rfl tl30 ts2 hC53) ?_
                    refine J.nil ?_
                    refine JH.back [] rfl rfl ?_
                    refine JH.all [13] (by kernel_rfl) rfl (JHall.cons (JH.op rfl ?_) (JHall.nil))
                    refine J.op rfl rfl rfl (V.ldR 0 rfl rfl rfl Try.underlying2 ta2 (lt_of_in hC53) (encA_get1 .i64 _ hC53)) ?_
                    refine J.nil ?_
                    refine JH.back [] rfl rfl ?_
                    refine JH.all [14] (by kernel_rfl) rfl (JHall.cons (JH.op rfl ?_) (JHall.nil))
                    refine J.op rfl rfl rfl (V.ixR 0 rfl rfl rfl rfl tl30 ts2 hC54) ?_
                    refine J.nil ?_
                    refine JH.back [] rfl rfl ?_
                    refine JH.all [15] (by kernel_rfl) rfl (JHall.cons (JH.op rfl ?_) (JHall.nil))
                    refine J.stR 0 rfl rfl rfl rfl rfl rfl ts2 (fun _ _ => rfl) (encA_lt1 .i64 _ hC54) ?_
                    refine J.setEnt 0 rfl (congrArg (fun q => Ent.row _ _ 1 _ q) (encA_set1 .i64 _ _ _)) ?_
                    refine J.setEnt 0 rfl (congrArg (fun q => Ent.row _ _ 1 _ (encA .i64 q)) em55) ?_
                    refine J.nil ?_
                    refine JH.back [] rfl rfl ?_
                    refine JH.all [16] (by kernel_rfl) rfl (JHall.cons (JH.op rfl ?_) (JHall.nil))
                    refine J.op rfl rfl rfl (V.ixR 0 rfl rfl rfl rfl tl30 ts2 hC56) ?_
                    refine J.nil ?_
                    refine JH.back [] rfl rfl ?_
                    refine JH.all [17] (by kernel_rfl) rfl (JHall.cons (JH.op rfl ?_) (JHall.nil))
                    refine J.stR 0 rfl rfl rfl rfl rfl rfl ts2 (fun _ _ => rfl) (encA_lt1 .i64 _ hC56) ?_
                    refine J.setEnt 0 rfl (congrArg (fun q => Ent.row _ _ 1 _ q) (encA_set1 .i64 _ _ _)) ?_
                    refine J.setEnt 0 rfl (congrArg (fun q => Ent.row _ _ 1 _ (encA .i64 q)) em57) ?_
                    refine J.nil ?_
                    refine JH.back [] rfl rfl ?_
                    refine JH.fin (by kernel_rfl) ?_
                    refine J.tN (J.to () trivial ?_)
                    exact J.keep _ rfl (J.pickE [0] rfl rfl J.here)
                  · refine J.op rfl rfl rfl (V.ixR 0 rfl rfl rfl rfl tl30 ts2 hC53) ?_
                    refine J.nil ?_
                    refine JH.back [] rfl rfl ?_
                    refine JH.all [9, 13] (by kernel_rfl) rfl (JHall.cons (JH.op rfl ?_) (JHall.cons (JH.op rfl ?_) (JHall.nil)))
                    · refine J.op rfl rfl rfl (V.ldR 0 rfl rfl rfl Try.underlying2 ta2 (lt_of_in hC52) (encA_get1 .i64 _ hC52)) ?_
                      refine J.nil ?_
                      refine JH.back [] rfl rfl ?_
                      refine JH.all [13] (by kernel_rfl) rfl (JHall.cons (JH.op rfl ?_) (JHall.nil))
                      refine J.op rfl rfl rfl (V.ldR 0 rfl rfl rfl Try.underlying2 ta2 (lt_of_in hC53) (encA_get1 .i64 _ hC53)) ?_
                      refine J.nil ?_
                      refine JH.back [] rfl rfl ?_
                      refine JH.all [14] (by kernel_rfl) rfl (JHall.cons (JH.op rfl ?_) (JHall.nil))
                      refine J.op rfl rfl rfl (V.ixR 0 rfl rfl rfl rfl tl30 ts2 hC54) ?_
                      refine J.nil ?_
                      refine JH.back [] rfl rfl ?_
                      refine JH.all [15] (by kernel_rfl) rfl (JHall.cons (JH.op rfl ?_) (JHall.nil))
                      refine J.stR 0 rfl rfl rfl rfl rfl rfl ts2 (fun _ _ => rfl) (encA_lt1 .i64 _ hC54) ?_
                      refine J.setEnt 0 rfl (congrArg (fun q => Ent.row _ _ 1 _ q) (encA_set1 .i64 _ _ _)) ?_
                      refine J.setEnt 0 rfl (congrArg (fun q => Ent.row _ _ 1 _ (encA .i64 q)) em55) ?_
                      refine J.nil ?_
                      refine JH.back [] rfl rfl ?_
                      refine JH.all [16] (by kernel_rfl) rfl (JHall.cons (JH.op rfl ?_) (JHall.nil))
                      refine J.op rfl rfl rfl (V.ixR 0 rfl rfl rfl rfl tl30 ts2 hC56) ?_
                      refine J.nil ?_
                      refine JH.back [] rfl rfl ?_
                      refine JH.all [17] (by kernel_rfl) rfl (JHall.cons (JH.op rfl ?_) (JHall.nil))
                      refine J.stR 0 rfl rfl rfl rfl rfl rfl ts2 (fun _ _ => rfl) (encA_lt1 .i64 _ hC56) ?_
                      refine J.setEnt 0 rfl (congrArg (fun q => Ent.row _ _ 1 _ q) (encA_set1 .i64 _ _ _)) ?_
                      refine J.setEnt 0 rfl (congrArg (fun q => Ent.row _ _ 1 _ (encA .i64 q)) em57) ?_
                      refine J.nil ?_
                      refine JH.back [] rfl rfl ?_
                      refine JH.fin (by kernel_rfl) ?_
                      refine J.tN (J.to () trivial ?_)
                      exact J.keep _ rfl (J.pickE [0] rfl rfl J.here)
                    · refine J.op rfl rfl rfl (V.ldR 0 rfl rfl rfl Try.underlying2 ta2 (lt_of_in hC53) (encA_get1 .i64 _ hC53)) ?_
                      refine J.nil ?_
                      refine JH.back [] rfl rfl ?_
                      refine JH.all [9] (by kernel_rfl) rfl (JHall.cons (JH.op rfl ?_) (JHall.nil))
                      refine J.op rfl rfl rfl (V.ldR 0 rfl rfl rfl Try.underlying2 ta2 (lt_of_in hC52) (encA_get1 .i64 _ hC52)) ?_
                      refine J.nil ?_
                      refine JH.back [] rfl rfl ?_
                      refine JH.all [14] (by kernel_rfl) rfl (JHall.cons (JH.op rfl ?_) (JHall.nil))
                      refine J.op rfl rfl rfl (V.ixR 0 rfl rfl rfl rfl tl30 ts2 hC54) ?_
                      refine J.nil ?_
                      refine JH.back [] rfl rfl ?_
                      refine JH.all [15] (by kernel_rfl) rfl (JHall.cons (JH.op rfl ?_) (JHall.nil))
                      refine J.stR 0 rfl rfl rfl rfl rfl rfl ts2 (fun _ _ => rfl) (encA_lt1 .i64 _ hC54) ?_
                      refine J.setEnt 0 rfl (congrArg (fun q => Ent.row _ _ 1 _ q) (encA_set1 .i64 _ _ _)) ?_
                      refine J.setEnt 0 rfl (congrArg (fun q => Ent.row _ _ 1 _ (encA .i64 q)) em55) ?_
                      refine J.nil ?_
                      refine JH.back [] rfl rfl ?_
                      refine JH.all [16] (by kernel_rfl) rfl (JHall.cons (JH.op rfl ?_) (JHall.nil))
                      refine J.op rfl rfl rfl (V.ixR 0 rfl rfl rfl rfl tl30 ts2 hC56) ?_
                      refine J.nil ?_
                      refine JH.back [] rfl rfl ?_
                      refine JH.all [17] (by kernel_rfl) rfl (JHall.cons (JH.op rfl ?_) (JHall.nil))
                      refine J.stR 0 rfl rfl rfl rfl rfl rfl ts2 (fun _ _ => rfl) (encA_lt1 .i64 _ hC56) ?_
                      refine J.setEnt 0 rfl (congrArg (fun q => Ent.row _ _ 1 _ q) (encA_set1 .i64 _ _ _)) ?_
                      refine J.setEnt 0 rfl (congrArg (fun q => Ent.row _ _ 1 _ (encA .i64 q)) em57) ?_
                      refine J.nil ?_
                      refine JH.back [] rfl rfl ?_
                      refine JH.fin (by kernel_rfl) ?_
                      refine J.tN (J.to () trivial ?_)
                      exact J.keep _ rfl (J.pickE [0] rfl rfl J.here)
                · refine J.op rfl rfl rfl (V.ixR 0 rfl rfl rfl rfl tl30 ts2 hC53) ?_
                  refine J.nil ?_
                  refine JH.back [] rfl rfl ?_
                  refine JH.all [8, 13] (by kernel_rfl) rfl (JHall.cons (JH.op rfl ?_) (JHall.cons (JH.op rfl ?_) (JHall.nil)))
                  · refine J.op rfl rfl rfl (V.ixR 0 rfl rfl rfl rfl tl30 ts2 hC52) ?_
                    refine J.nil ?_
                    refine JH.back [] rfl rfl ?_
                    refine JH.all [9, 13] (by kernel_rfl) rfl (JHall.cons (JH.op rfl ?_) (JHall.cons (JH.op rfl ?_) (JHall.nil)))
                    · refine J.op rfl rfl rfl (V.ldR 0 rfl rfl rfl Try.underlying2 ta2 (lt_of_in hC52) (encA_get1 .i64 _ hC52)) ?_
                      refine J.nil ?_
                      refine JH.back [] rfl rfl ?_
                      refine JH.all [13] (by kernel_rfl) rfl (JHall.cons (JH.op rfl ?_) (JHall.nil))
                      refine J.op rfl rfl rfl (V.ldR 0 rfl rfl rfl Try.underlying2 ta2 (lt_of_in hC53) (encA_get1 .i64 _ hC53)) ?_
                      refine J.nil ?_
                      refine JH.back [] rfl rfl ?_
                      refine JH.all [14] (by kernel_rfl) rfl (JHall.cons (JH.op rfl ?_) (JHall.nil))
                      refine J.op rfl rfl rfl (V.ixR 0 rfl rfl rfl rfl tl30 ts2 hC54) ?_
                      refine J.nil ?_
                      refine JH.back [] rfl rfl ?_
                      refine JH.all [15] (by kernel_rfl) rfl (JHall.cons (JH.op rfl ?_) (JHall.nil))
                      refine J.stR 0 rfl rfl rfl rfl rfl rfl ts2 (fun _ _ => rfl) (encA_lt1 .i64 _ hC54) ?_
                      refine J.setEnt 0 rfl (congrArg (fun q => Ent.row _ _ 1 _ q) (encA_set1 .i64 _ _ _)) ?_
                      refine J.setEnt 0 rfl (congrArg (fun q => Ent.row _ _ 1 _ (encA .i64 q)) em55) ?_
                      refine J.nil ?_
                      refine JH.back [] rfl rfl ?_
                      refine JH.all [16] (by kernel_rfl) rfl (JHall.cons (JH.op rfl ?_) (JHall.nil))
                      refine J.op rfl rfl rfl (V.ixR 0 rfl rfl rfl rfl tl30 ts2 hC56) ?_
                      refine J.nil ?_
                      refine JH.back [] rfl rfl ?_
                      refine JH.all [17] (by kernel_rfl) rfl (JHall.cons (JH.op rfl ?_) (JHall.nil))
                      refine J.stR 0 rfl rfl rfl rfl rfl rfl ts2 (fun _ _ => rfl) (encA_lt1 .i64 _ hC56) ?_
                      refine J.setEnt 0 rfl (congrArg (fun q => Ent.row _ _ 1 _ q) (encA_set1 .i64 _ _ _)) ?_
                      refine J.setEnt 0 rfl (congrArg (fun q => Ent.row _ _ 1 _ (encA .i64 q)) em57) ?_
                      refine J.nil ?_
                      refine JH.back [] rfl rfl ?_
                      refine JH.fin (by kernel_rfl) ?_
                      refine J.tN (J.to () trivial ?_)
                      exact J.keep _ rfl (J.pickE [0] rfl rfl J.here)
                    · refine J.op rfl rfl rfl (V.ldR 0 rfl rfl rfl Try.underlying2 ta2 (lt_of_in hC53) (encA_get1 .i64 _ hC53)) ?_
                      refine J.nil ?_
                      refine JH.back [] rfl rfl ?_
                      refine JH.all [9] (by kernel_rfl) rfl (JHall.cons (JH.op rfl ?_) (JHall.nil))
                      refine J.op rfl rfl rfl (V.ldR 0 rfl rfl rfl Try.underlying2 ta2 (lt_of_in hC52) (encA_get1 .i64 _ hC52)) ?_
                      refine J.nil ?_
                      refine JH.back [] rfl rfl ?_
                      refine JH.all [14] (by kernel_rfl) rfl (JHall.cons (JH.op rfl ?_) (JHall.nil))
                      refine J.op rfl rfl rfl (V.ixR 0 rfl rfl rfl rfl tl30 ts2 hC54) ?_
                      refine J.nil ?_
                      refine JH.back [] rfl rfl ?_
                      refine JH.all [15] (by kernel_rfl) rfl (JHall.cons (JH.op rfl ?_) (JHall.nil))
                      refine J.stR 0 rfl rfl rfl rfl rfl rfl ts2 (fun _ _ => rfl) (encA_lt1 .i64 _ hC54) ?_
                      refine J.setEnt 0 rfl (congrArg (fun q => Ent.row _ _ 1 _ q) (encA_set1 .i64 _ _ _)) ?_
                      refine J.setEnt 0 rfl (congrArg (fun q => Ent.row _ _ 1 _ (encA .i64 q)) em55) ?_
                      refine J.nil ?_
                      refine JH.back [] rfl rfl ?_
                      refine JH.all [16] (by kernel_rfl) rfl (JHall.cons (JH.op rfl ?_) (JHall.nil))
                      refine J.op rfl rfl rfl (V.ixR 0 rfl rfl rfl rfl tl30 ts2 hC56) ?_
                      refine J.nil ?_
                      refine JH.back [] rfl rfl ?_
                      refine JH.all [17] (by kernel_rfl) rfl (JHall.cons (JH.op rfl ?_) (JHall.nil))
                      refine J.stR 0 rfl rfl rfl rfl rfl rfl ts2 (fun _ _ => rfl) (encA_lt1 .i64 _ hC56) ?_
                      refine J.setEnt 0 rfl (congrArg (fun q => Ent.row _ _ 1 _ q) (encA_set1 .i64 _ _ _)) ?_
                      refine J.setEnt 0 rfl (congrArg (fun q => Ent.row _ _ 1 _ (encA .i64 q)) em57) ?_
                      refine J.nil ?_
                      refine JH.back [] rfl rfl ?_
                      refine JH.fin (by kernel_rfl) ?_
                      refine J.tN (J.to () trivial ?_)
                      exact J.keep _ rfl (J.pickE [0] rfl rfl J.here)
                  · refine J.op rfl rfl rfl (V.ldR 0 rfl rfl rfl Try.underlying2 ta2 (lt_of_in hC53) (encA_get1 .i64 _ hC53)) ?_
                    refine J.nil ?_
                    refine JH.back [] rfl rfl ?_
                    refine JH.all [8] (by kernel_rfl) rfl (JHall.cons (JH.op rfl ?_) (JHall.nil))
                    refine J.op rfl rfl rfl (V.ixR 0 rfl rfl rfl rfl tl30 ts2 hC52) ?_
                    refine J.nil ?_
                    refine JH.back [] rfl rfl ?_
                    refine JH.all [9] (by kernel_rfl) rfl (JHall.cons (JH.op rfl ?_) (JHall.nil))
                    refine J.op rfl rfl rfl (V.ldR 0 rfl rfl rfl Try.underlying2 ta2 (lt_of_in hC52) (encA_get1 .i64 _ hC52)) ?_
                    refine J.nil ?_
                    refine JH.back [] rfl rfl ?_
                    refine JH.all [14] (by kernel_rfl) rfl (JHall.cons (JH.op rfl ?_) (JHall.nil))
                    refine J.op rfl rfl rfl (V.ixR 0 rfl rfl rfl rfl tl30 ts2 hC54) ?_
                    refine J.nil ?_
                    refine JH.back [] rfl rfl ?_
                    refine JH.all [15] (by kernel_rfl) rfl (JHall.cons (JH.op rfl ?_) (JHall.nil))
                    refine J.stR 0 rfl rfl rfl rfl rfl rfl ts2 (fun _ _ => rfl) (encA_lt1 .i64 _ hC54) ?_
                    refine J.setEnt 0 rfl (congrArg (fun q => Ent.row _ _ 1 _ q) (encA_set1 .i64 _ _ _)) ?_
                    refine J.setEnt 0 rfl (congrArg (fun q => Ent.row _ _ 1 _ (encA .i64 q)) em55) ?_
                    refine J.nil ?_
                    refine JH.back [] rfl rfl ?_
                    refine JH.all [16] (by kernel_rfl) rfl (JHall.cons (JH.op rfl ?_) (JHall.nil))
                    refine J.op rfl rfl rfl (V.ixR 0 rfl rfl rfl rfl tl30 ts2 hC56) ?_
                    refine J.nil ?_
                    refine JH.back [] rfl rfl ?_
                    refine JH.all [17] (by kernel_rfl) rfl (JHall.cons (JH.op rfl ?_) (JHall.nil))
                    refine J.stR 0 rfl rfl rfl rfl rfl rfl ts2 (fun _ _ => rfl) (encA_lt1 .i64 _ hC56) ?_
                    refine J.setEnt 0 rfl (congrArg (fun q => Ent.row _ _ 1 _ q) (encA_set1 .i64 _ _ _)) ?_
                    refine J.setEnt 0 rfl (congrArg (fun q => Ent.row _ _ 1 _ (encA .i64 q)) em57) ?_
                    refine J.nil ?_
                    refine JH.back [] rfl rfl ?_
                    refine JH.fin (by kernel_rfl) ?_
                    refine J.tN (J.to () trivial ?_)
                    exact J.keep _ rfl (J.pickE [0] rfl rfl J.here)
              · intro gx58 _
                refine J.bN ?_
                refine J.tN ?_
                refine J.region ?_
                refine J.op rfl rfl rfl (V.mv rfl rfl) ?_
                refine J.op rfl rfl rfl (V.ar rfl rfl rfl rfl) ?_
                refine J.op rfl rfl rfl (V.as rfl rfl) ?_
                obtain ⟨k_59, ek_59, h1⟩ := B.lt h1
                refine J.val (congrArg (Value.int .i64) ek_59) ?_
                refine J.nil ?_
                refine J.tN (J.next (k_59, m57) () (B.n h1) ?_)
                exact J.keep _ rfl (J.pickE [0] rfl rfl J.here)
            · replace h1 := B.f hB51 h1
              refine J.exit ?_
              refine J.tE ?_
              refine J.tE ?_
              refine J.bE ?_
              obtain rfl := B.d h1
              refine J.tN (J.to () trivial ?_)
              exact J.keep _ rfl (J.pickE [0] rfl rfl J.here)
        · intro gy61 _
          refine J.tN ?_
          refine J.ret ?_
          refine J.tR ?_
          obtain rfl := B.e h0
          exact J.ret0 rfl fun w H => ⟨(), rfl, H.pick [0] (by decide)⟩
    · replace h0 := B.f hB32 h0
      refine J.skip ?_
      refine J.tN ?_
      refine J.seq ?_
      refine J.region ?_
      refine J.op rfl rfl rfl (V.mv rfl rfl) ?_
      refine J.op rfl rfl rfl (V.mv rfl rfl) ?_
      refine J.op rfl rfl rfl (V.ar rfl rfl rfl rfl) ?_
      refine J.op rfl rfl rfl (V.conv rfl rfl Try.underlying3 Try.underlying93) ?_
      refine J.op rfl rfl rfl (V.shr rfl rfl rfl rfl) ?_
      refine J.op rfl rfl rfl (V.conv rfl rfl Try.underlying93 Try.underlying3) ?_
      refine J.op rfl rfl rfl (V.as rfl rfl) ?_
      obtain ⟨mid_63, emid_63, h0⟩ := B.lt h0
      refine J.val (congrArg (Value.int .i64) emid_63) ?_
      refine J.nil ?_
      refine J.tN ?_
      refine J.seq ?_
      refine J.region ?_
      refine J.op rfl rfl rfl (V.mv rfl rfl) ?_
      refine J.op rfl rfl rfl (V.mv rfl rfl) ?_
      refine J.op rfl rfl rfl (V.ar rfl rfl rfl rfl) ?_
      refine J.op rfl rfl rfl (V.as rfl rfl) ?_
      obtain ⟨n_64, en_64, h0⟩ := B.lt h0
      refine J.val (congrArg (Value.int .i64) en_64) ?_
      refine J.nil ?_
      refine J.tN ?_
      refine J.seq ?_
      refine J.region ?_
      refine J.op rfl rfl rfl (V.as rfl rfl) ?_
      refine J.op rfl rfl rfl (V.as rfl rfl) ?_
      refine J.nil ?_
      refine J.tN ?_
      refine J.seq ?_
      obtain ⟨y65, hy69, h0⟩ := B.bind h0
      replace hy69 := B.top hy69
      refine J.cut (γ := Unit) (fun _ => True) (fun gy66 => [(0, v0), (1, .int .i64 p1_a), (2, .int .i64 p2_m), (3, .int .i64 p3_b), (4, .func (.func g4_) #[] c4_), (18, .int .i64 mid_63), (19, .int .i64 n_64), (20, .int .i64 y65.1), (21, .int .i64 y65.2)]) (fun gy66 => [.row v0 T0_ 1 n0_ (encA .i64 p0_data)]) ?_ ?_
      · have h1 := hy69
        refine J.seq ?_
        refine J.region ?_
        refine J.op rfl rfl rfl (V.mv rfl rfl) ?_
        refine J.op rfl rfl rfl (V.mv rfl rfl) ?_
        refine J.op rfl rfl rfl (V.cmp rfl rfl rfl rfl) ?_
        refine J.nil ?_
        refine J.tN ?_
        refine J.cond rfl (fun hB67 => ?_) (fun hB67 => ?_)
        · replace h1 := B.t hB67 h1
          refine J.seq ?_
          refine J.region ?_
          refine J.op rfl rfl rfl (V.mv rfl rfl) ?_
          refine J.op rfl rfl rfl (V.mv rfl rfl) ?_
          refine J.op rfl rfl rfl (V.ar rfl rfl rfl rfl) ?_
          refine J.op rfl rfl rfl (V.as rfl rfl) ?_
          obtain ⟨start_68, estart_68, h1⟩ := B.lt h1
          refine J.val (congrArg (Value.int .i64) estart_68) ?_
          refine J.nil ?_
          refine J.tN ?_
          refine J.region ?_
          refine J.op rfl rfl rfl (V.mv rfl rfl) ?_
          refine J.op rfl rfl rfl (V.as rfl rfl) ?_
          refine J.nil ?_
          obtain rfl := B.e h1
          refine J.tN (J.to () trivial ?_)
          exact J.keep _ rfl (J.pickE [0] rfl rfl J.here)
        · replace h1 := B.f hB67 h1
          refine J.seq ?_
          refine J.region ?_
          refine J.op rfl rfl rfl (V.mv rfl rfl) ?_
          refine J.op rfl rfl rfl (V.as rfl rfl) ?_
          refine J.nil ?_
          refine J.tN ?_
          refine J.region ?_
          refine J.op rfl rfl rfl (V.mv rfl rfl) ?_
          refine J.op rfl rfl rfl (V.as rfl rfl) ?_
          refine J.nil ?_
          obtain rfl := B.e h1
          refine J.tN (J.to () trivial ?_)
          exact J.keep _ rfl (J.pickE [0] rfl rfl J.here)
      · intro gy66 _
        refine J.seq ?_
        refine J.region ?_
        refine J.op rfl rfl rfl (V.mv rfl rfl) ?_
        refine J.op rfl rfl rfl (V.ar rfl rfl rfl rfl) ?_
        refine J.op rfl rfl rfl (V.as rfl rfl) ?_
        obtain ⟨p_70, ep_70, h0⟩ := B.lt h0
        refine J.val (congrArg (Value.int .i64) ep_70) ?_
        refine J.nil ?_
        refine J.tN ?_
        refine J.seq ?_
        obtain ⟨y83, hy85, h0⟩ := B.bind h0
        refine J.cut (γ := Unit) (fun _ => True) (fun gy84 => [(0, v0), (1, .int .i64 p1_a), (2, .int .i64 p2_m), (3, .int .i64 p3_b), (4, .func (.func g4_) #[] c4_), (18, .int .i64 mid_63), (19, .int .i64 n_64), (20, .int .i64 y83)]) (fun gy84 => [.row v0 T0_ 1 n0_ (encA .i64 p0_data)]) ?_ ?_
        · refine J.block ?_
          refine J.loop (γ := Unit) hy85 (fun s71 g72 => [(0, v0), (1, .int .i64 p1_a), (2, .int .i64 p2_m), (3, .int .i64 p3_b), (4, .func (.func g4_) #[] c4_), (18, .int .i64 mid_63), (19, .int .i64 n_64), (20, .int .i64 s71.1), (21, .int .i64 s71.2), (22, .int .i64 p_70)]) (fun s71 g72 => [.row v0 T0_ 1 n0_ (encA .i64 p0_data)]) () ?_ ?_
          · exact J.keep _ rfl (J.pickE [0] rfl rfl J.here)
          · intro rec73 s71 g72 h1
            unfold slices_symMergeCmpFunc_int64.b5 at h1
            refine J.seq ?_
            refine J.seq ?_
            refine J.region ?_
            refine J.op rfl rfl rfl (V.mv rfl rfl) ?_
            refine J.op rfl rfl rfl (V.mv rfl rfl) ?_
            refine J.op rfl rfl rfl (V.cmp rfl rfl rfl rfl) ?_
            refine J.nil ?_
            refine J.tN ?_
            refine J.cond rfl (fun hB74 => ?_) (fun hB74 => ?_)
            · replace h1 := B.t hB74 h1
              refine J.skip ?_
              refine J.tN ?_
              refine J.block ?_
              refine J.seq ?_
              refine J.region ?_
              refine J.op rfl rfl rfl (V.mv rfl rfl) ?_
              refine J.op rfl rfl rfl (V.mv rfl rfl) ?_
              refine J.op rfl rfl rfl (V.ar rfl rfl rfl rfl) ?_
              refine J.op rfl rfl rfl (V.conv rfl rfl Try.underlying3 Try.underlying93) ?_
              refine J.op rfl rfl rfl (V.shr rfl rfl rfl rfl) ?_
              refine J.op rfl rfl rfl (V.conv rfl rfl Try.underlying93 Try.underlying3) ?_
              refine J.op rfl rfl rfl (V.as rfl rfl) ?_
              obtain ⟨c_75, ec_75, h1⟩ := B.lt h1
              refine J.val (congrArg (Value.int .i64) ec_75) ?_
              refine J.nil ?_
              refine J.tN ?_
              refine J.seq ?_
              refine J.quiet mixed (by kernel_rfl) ?_
              refine JQ.op rfl rfl rfl (V.mv rfl rfl) ?_
              refine JQ.op rfl rfl rfl (V.mv rfl rfl) ?_
              refine JQ.op rfl rfl rfl (V.mv rfl rfl) ?_
              refine JQ.op rfl rfl rfl (V.mv rfl rfl) ?_
              refine JQ.op rfl rfl rfl (V.ar rfl rfl rfl rfl) ?_
              obtain ⟨hC76, h1⟩ := B.chk h1
              refine JQ.op rfl rfl rfl (V.ixR 0 rfl rfl rfl rfl tl30 ts2 hC76) ?_
              refine JQ.op rfl rfl rfl (V.ldR 0 rfl rfl rfl Try.underlying2 ta2 (lt_of_in hC76) (encA_get1 .i64 _ hC76)) ?_
              refine JQ.op rfl rfl rfl (V.mv rfl rfl) ?_
              refine JQ.op rfl rfl rfl (V.mv rfl rfl) ?_
              obtain ⟨hC77, h1⟩ := B.chk h1
              refine JQ.op rfl rfl rfl (V.ixR 0 rfl rfl rfl rfl tl30 ts2 hC77) ?_
              refine JQ.op rfl rfl rfl (V.ldR 0 rfl rfl rfl Try.underlying2 ta2 (lt_of_in hC77) (encA_get1 .i64 _ hC77)) ?_
              obtain ⟨r78, hr79, h1⟩ := B.bind h1
              refine JQ.clA (l := [.tmp 164, .tmp 168]) hg4 (wN rfl) rfl rfl rfl rfl rfl (fun w H => hF4 w (rdA p0_data (IntKind.wrap .i64 (p_70 - c_75))) (rdA p0_data c_75) r78 (Own.bare H)  hr79) ?_
              refine JQ.op rfl rfl rfl (V.cmp rfl rfl rfl rfl) ?_
              refine JQ.op rfl rfl rfl (V.nt rfl rfl) ?_
              refine JQ.nil ?_
              refine J.tN ?_
              refine J.cond rfl (fun hB81 => ?_) (fun hB81 => ?_)
              · replace h1 := B.t hB81 h1
                refine J.region ?_
                refine J.op rfl rfl rfl (V.mv rfl rfl) ?_
                refine J.op rfl rfl rfl (V.ar rfl rfl rfl rfl) ?_
                refine J.op rfl rfl rfl (V.as rfl rfl) ?_
                obtain ⟨start_82, estart_82, h1⟩ := B.lt h1
                refine J.val (congrArg (Value.int .i64) estart_82) ?_
                refine J.nil ?_
                refine J.bN ?_
                refine J.tN (J.next (start_82, s71.2) () (B.n h1) ?_)
                exact J.keep _ rfl (J.pickE [0] rfl rfl J.here)
              · replace h1 := B.f hB81 h1
                refine J.region ?_
                refine J.op rfl rfl rfl (V.mv rfl rfl) ?_
                refine J.op rfl rfl rfl (V.as rfl rfl) ?_
                refine J.nil ?_
                refine J.bN ?_
                refine J.tN (J.next (s71.1, c_75) () (B.n h1) ?_)
                exact J.keep _ rfl (J.pickE [0] rfl rfl J.here)
            · replace h1 := B.f hB74 h1
              refine J.exit ?_
              refine J.tE ?_
              refine J.tE ?_
              refine J.bE ?_
              obtain rfl := B.d h1
              refine J.tN (J.to () trivial ?_)
              exact J.keep _ rfl (J.pickE [0] rfl rfl J.here)
        · intro gy84 _
          refine J.seq ?_
          refine J.region ?_
          refine J.op rfl rfl rfl (V.mv rfl rfl) ?_
          refine J.op rfl rfl rfl (V.mv rfl rfl) ?_
          refine J.op rfl rfl rfl (V.ar rfl rfl rfl rfl) ?_
          refine J.op rfl rfl rfl (V.as rfl rfl) ?_
          obtain ⟨end_86, eend_86, h0⟩ := B.lt h0
          refine J.val (congrArg (Value.int .i64) eend_86) ?_
          refine J.nil ?_
          refine J.tN ?_
          refine J.seq ?_
          obtain ⟨y87, hy97, h0⟩ := B.bind h0
          replace hy97 := B.top hy97
          refine J.cut (γ := Unit) (fun _ => True) (fun gy88 => [(0, v0), (1, .int .i64 p1_a), (3, .int .i64 p3_b), (4, .func (.func g4_) #[] c4_), (18, .int .i64 mid_63), (20, .int .i64 y83), (24, .int .i64 end_86)]) (fun gy88 => [.row v0 T0_ 1 n0_ (encA .i64 y87)]) ?_ ?_
          · have h1 := hy97
            refine J.seq ?_
            obtain ⟨y89, hy92, h1⟩ := B.bind h1
            replace hy92 := B.top hy92
            refine J.cut (γ := Unit) (fun _ => True) (fun gy90 => [(0, v0), (1, .int .i64 p1_a), (2, .int .i64 p2_m), (3, .int .i64 p3_b), (4, .func (.func g4_) #[] c4_), (18, .int .i64 mid_63), (20, .int .i64 y83), (24, .int .i64 end_86), (185, .bool y89)]) (fun gy90 => [.row v0 T0_ 1 n0_ (encA .i64 p0_data)]) ?_ ?_
            · have h2 := hy92
              refine J.region ?_
              refine J.op rfl rfl rfl (V.mv rfl rfl) ?_
              refine J.op rfl rfl rfl (V.mv rfl rfl) ?_
              refine J.op rfl rfl rfl (V.cmp rfl rfl rfl rfl) ?_
              refine J.op rfl rfl rfl (V.mv rfl rfl) ?_
              refine J.split 181 rfl (fun hB91 => ?_) (fun hB91 => ?_)
              · replace h2 := B.t hB91 h2
                refine J.opOn rfl rfl rfl rfl rfl (V.mv rfl rfl) ?_
                refine J.opOn rfl rfl rfl rfl rfl (V.mv rfl rfl) ?_
                refine J.opOn rfl rfl rfl rfl rfl (V.cmp rfl rfl rfl rfl) ?_
                refine J.op rfl rfl rfl (V.pkT rfl rfl rfl) ?_
                refine J.nil ?_
                obtain rfl := B.e h2
                refine J.tN (J.to () trivial ?_)
                exact J.keep _ rfl (J.pickE [0] rfl rfl J.here)
              · replace h2 := B.f hB91 h2
                refine J.opOff rfl rfl rfl rfl rfl rfl ?_
                refine J.opOff rfl rfl rfl rfl rfl rfl ?_
                refine J.opOff rfl rfl rfl rfl rfl rfl ?_
                refine J.op rfl rfl rfl (V.pkF rfl rfl rfl) ?_
                refine J.nil ?_
                obtain rfl := B.e h2
                refine J.tN (J.to () trivial ?_)
                exact J.keep _ rfl (J.pickE [0] rfl rfl J.here)
            · intro gy90 _
              refine J.cond rfl (fun hB93 => ?_) (fun hB93 => ?_)
              · replace h1 := B.t hB93 h1
                refine J.region ?_
                refine J.op rfl rfl rfl (V.mv rfl rfl) ?_
                refine J.op rfl rfl rfl (V.mv rfl rfl) ?_
                refine J.op rfl rfl rfl (V.mv rfl rfl) ?_
                refine J.op rfl rfl rfl (V.mv rfl rfl) ?_
                refine J.op rfl rfl rfl (V.mv rfl rfl) ?_
                obtain ⟨r94, hr95, h1⟩ := B.bind h1
                refine J.clA (l := [.tmp 186, .tmp 187, .tmp 188, .tmp 189, .tmp 190]) [.row v0 T0_ 1 n0_ (encA .i64 p0_data)] [] cf88 (wN rfl) rfl rfl rfl rfl rfl rfl (fun w H => slices_rotateCmpFunc_int64.calls v0 n0_ T0_ p0_data y83 p2_m end_86 g4_ c4_ p4_cmp r94 w H.enterA hg4 (fun w2 x0 x1 r HO  hp => hF4 w2 x0 x1 r (Own.through H HO)  hp) hr95) fun g96 => ?_
                refine J.nil ?_
                obtain rfl := B.e h1
                refine J.tN (J.to () trivial ?_)
                exact J.keep _ rfl (J.pickE [0] rfl rfl J.here)
              · replace h1 := B.f hB93 h1
                refine J.skip ?_
                obtain rfl := B.e h1
                refine J.tN (J.to () trivial ?_)
                exact J.keep _ rfl (J.pickE [0] rfl rfl J.here)
          · intro gy88 _
            refine J.seq ?_
            obtain ⟨y98, hy108, h0⟩ := B.bind h0
            replace hy108 := B.top hy108
            refine J.cut (γ := Unit) (fun _ => True) (fun gy99 => [(0, v0), (3, .int .i64 p3_b), (4, .func (.func g4_) #[] c4_), (18, .int .i64 mid_63), (24, .int .i64 end_86)]) (fun gy99 => [.row v0 T0_ 1 n0_ (encA .i64 y98)]) ?_ ?_
            · have h1 := hy108
              refine J.seq ?_
              obtain ⟨y100, hy103, h1⟩ := B.bind h1
              replace hy103 := B.top hy103
              refine J.cut (γ := Unit) (fun _ => True) (fun gy101 => [(0, v0), (1, .int .i64 p1_a), (3, .int .i64 p3_b), (4, .func (.func g4_) #[] c4_), (18, .int .i64 mid_63), (20, .int .i64 y83), (24, .int .i64 end_86), (199, .bool y100)]) (fun gy101 => [.row v0 T0_ 1 n0_ (encA .i64 y87)]) ?_ ?_
              · have h2 := hy103
                refine J.region ?_
                refine J.op rfl rfl rfl (V.mv rfl rfl) ?_
                refine J.op rfl rfl rfl (V.mv rfl rfl) ?_
                refine J.op rfl rfl rfl (V.cmp rfl rfl rfl rfl) ?_
                refine J.op rfl rfl rfl (V.mv rfl rfl) ?_
                refine J.split 195 rfl (fun hB102 => ?_) (fun hB102 => ?_)
                · replace h2 := B.t hB102 h2
                  refine J.opOn rfl rfl rfl rfl rfl (V.mv rfl rfl) ?_
                  refine J.opOn rfl rfl rfl rfl rfl (V.mv rfl rfl) ?_
                  refine J.opOn rfl rfl rfl rfl rfl (V.cmp rfl rfl rfl rfl) ?_
                  refine J.op rfl rfl rfl (V.pkT rfl rfl rfl) ?_
                  refine J.nil ?_
                  obtain rfl := B.e h2
                  refine J.tN (J.to () trivial ?_)
                  exact J.keep _ rfl (J.pickE [0] rfl rfl J.here)
                · replace h2 := B.f hB102 h2
                  refine J.opOff rfl rfl rfl rfl rfl rfl ?_
                  refine J.opOff rfl rfl rfl rfl rfl rfl ?_
                  refine J.opOff rfl rfl rfl rfl rfl rfl ?_
                  refine J.op rfl rfl rfl (V.pkF rfl rfl rfl) ?_
                  refine J.nil ?_
                  obtain rfl := B.e h2
                  refine J.tN (J.to () trivial ?_)
                  exact J.keep _ rfl (J.pickE [0] rfl rfl J.here)
              · intro gy101 _
                refine J.cond rfl (fun hB104 => ?_) (fun hB104 => ?_)
                · replace h1 := B.t hB104 h1
                  refine J.region ?_
                  refine J.op rfl rfl rfl (V.mv rfl rfl) ?_
                  refine J.op rfl rfl rfl (V.mv rfl rfl) ?_
                  refine J.op rfl rfl rfl (V.mv rfl rfl) ?_
                  refine J.op rfl rfl rfl (V.mv rfl rfl) ?_
                  refine J.op rfl rfl rfl (V.mv rfl rfl) ?_
                  obtain ⟨r105, hr106, h1⟩ := B.bind h1
                  refine J.clA (l := [.tmp 200, .tmp 201, .tmp 202, .tmp 203, .tmp 204]) [.row v0 T0_ 1 n0_ (encA .i64 y87)] [] cf85 (wN rfl) rfl rfl rfl rfl rfl rfl (fun w H => hrc v0 n0_ T0_ y87 p1_a y83 mid_63 g4_ c4_ p4_cmp r105 w H.enterA hg4 (fun w2 x0 x1 r HO  hp => hF4 w2 x0 x1 r (Own.through H HO)  hp) hr106) fun g107 => ?_
                  refine J.nil ?_
                  obtain rfl := B.e h1
                  refine J.tN (J.to () trivial ?_)
                  exact J.keep _ rfl (J.pickE [0] rfl rfl J.here)
                · replace h1 := B.f hB104 h1
                  refine J.skip ?_
                  obtain rfl := B.e h1
                  refine J.tN (J.to () trivial ?_)
                  exact J.keep _ rfl (J.pickE [0] rfl rfl J.here)
            · intro gy99 _
              refine J.seq ?_
              obtain ⟨y109, hy112, h0⟩ := B.bind h0
              replace hy112 := B.top hy112
              refine J.cut (γ := Unit) (fun _ => True) (fun gy110 => [(0, v0), (3, .int .i64 p3_b), (4, .func (.func g4_) #[] c4_), (18, .int .i64 mid_63), (24, .int .i64 end_86), (213, .bool y109)]) (fun gy110 => [.row v0 T0_ 1 n0_ (encA .i64 y98)]) ?_ ?_
              · have h1 := hy112
                refine J.region ?_
                refine J.op rfl rfl rfl (V.mv rfl rfl) ?_
                refine J.op rfl rfl rfl (V.mv rfl rfl) ?_
                refine J.op rfl rfl rfl (V.cmp rfl rfl rfl rfl) ?_
                refine J.op rfl rfl rfl (V.mv rfl rfl) ?_
                refine J.split 209 rfl (fun hB111 => ?_) (fun hB111 => ?_)
                · replace h1 := B.t hB111 h1
                  refine J.opOn rfl rfl rfl rfl rfl (V.mv rfl rfl) ?_
                  refine J.opOn rfl rfl rfl rfl rfl (V.mv rfl rfl) ?_
                  refine J.opOn rfl rfl rfl rfl rfl (V.cmp rfl rfl rfl rfl) ?_
                  refine J.op rfl rfl rfl (V.pkT rfl rfl rfl) ?_
                  refine J.nil ?_
                  obtain rfl := B.e h1
                  refine J.tN (J.to () trivial ?_)
                  exact J.keep _ rfl (J.pickE [0] rfl rfl J.here)
                · replace h1 := B.f hB111 h1
                  refine J.opOff rfl rfl rfl rfl rfl rfl ?_
                  refine J.opOff rfl rfl rfl rfl rfl rfl ?_
                  refine J.opOff rfl rfl rfl rfl rfl rfl ?_
                  refine J.op rfl rfl rfl (V.pkF rfl rfl rfl) ?_
                  refine J.nil ?_
                  obtain rfl := B.e h1
                  refine J.tN (J.to () trivial ?_)
                  exact J.keep _ rfl (J.pickE [0] rfl rfl J.here)
              · intro gy110 _
                refine J.cond rfl (fun hB113 => ?_) (fun hB113 => ?_)
                · replace h0 := B.t hB113 h0
                  refine J.region ?_
                  refine J.op rfl rfl rfl (V.mv rfl rfl) ?_
                  refine J.op rfl rfl rfl (V.mv rfl rfl) ?_
                  refine J.op rfl rfl rfl (V.mv rfl rfl) ?_
                  refine J.op rfl rfl rfl (V.mv rfl rfl) ?_
                  refine J.op rfl rfl rfl (V.mv rfl rfl) ?_
                  obtain ⟨r114, hr115, h0⟩ := B.bind h0
                  refine J.clA (l := [.tmp 214, .tmp 215, .tmp 216, .tmp 217, .tmp 218]) [.row v0 T0_ 1 n0_ (encA .i64 y98)] [] cf85 (wN rfl) rfl rfl rfl rfl rfl rfl (fun w H => hrc v0 n0_ T0_ y98 mid_63 end_86 p3_b g4_ c4_ p4_cmp r114 w H.enterA hg4 (fun w2 x0 x1 r HO  hp => hF4 w2 x0 x1 r (Own.through H HO)  hp) hr115) fun g116 => ?_
                  refine J.nil ?_
                  refine J.fin ?_
                  obtain rfl := B.e h0
                  exact J.ret0 rfl fun w H => ⟨(), rfl, H.pick [0] (by decide)⟩
                · replace h0 := B.f hB113 h0
                  refine J.skip ?_
                  refine J.fin ?_
                  obtain rfl := B.e h0
                  exact J.ret0 rfl fun w H => ⟨(), rfl, H.pick [0] (by decide)⟩
theorem slices_symMergeCmpFunc_int64.fuel_calls : ∀ k, ∀ (v0 : Value) (n0_ T0_ : Nat) (p0_data : Vector Int n0_) (p1_a : Int) (p2_m : Int) (p3_b : Int) (g4_ : Nat) (c4_ : Array Value) (p4_cmp : Int → Int → Option Int) (r : (Vector Int n0_)) (w : World) (H0 : Own (Mof [.row v0 T0_ 1 n0_ (encA .i64 p0_data)]) w w [.row v0 T0_ 1 n0_ (encA .i64 p0_data)]) (hg4 : CallsFn Try.prog g4_) (hF4 : ∀ w2 (x0 : Int) (x1 : Int) r, Own (Mof [.row v0 T0_ 1 n0_ (encA .i64 p0_data)]) w w2 [] → p4_cmp x0 x1 = some r → Calls Try.prog g4_ (#[.int .i64 x0, .int .i64 x1] ++ c4_) w2 (fun e w3 => ∃ _ : Unit, e = .returned (.int .i64 r) ∧ Own [] w2 w3 [])) (h0 : slices_symMergeCmpFunc_int64.fuel k n0_ p0_data p1_a p2_m p3_b p4_cmp = some r), Calls Try.prog 85 #[v0, .int .i64 p1_a, .int .i64 p2_m, .int .i64 p3_b, .func (.func g4_) #[] c4_] w (fun e w' => ∃ _ : Unit, e = .returned (.tuple #[]) ∧ Own (Mof [.row v0 T0_ 1 n0_ (encA .i64 p0_data)]) w w' [.row v0 T0_ 1 n0_ (encA .i64 r)])
  | 0 => fun _ => by intros; exact absurd ‹_› (by simp [slices_symMergeCmpFunc_int64.fuel])
  | k + 1 => slices_symMergeCmpFunc_int64.once (slices_symMergeCmpFunc_int64.fuel k) (slices_symMergeCmpFunc_int64.fuel_calls k)
theorem slices_symMergeCmpFunc_int64.calls (v0 : Value) (n0_ T0_ : Nat) (p0_data : Vector Int n0_) (p1_a : Int) (p2_m : Int) (p3_b : Int) (g4_ : Nat) (c4_ : Array Value) (p4_cmp : Int → Int → Option Int) (r : (Vector Int n0_)) (w : World) (H0 : Own (Mof [.row v0 T0_ 1 n0_ (encA .i64 p0_data)]) w w [.row v0 T0_ 1 n0_ (encA .i64 p0_data)]) (hg4 : CallsFn Try.prog g4_) (hF4 : ∀ w2 (x0 : Int) (x1 : Int) r, Own (Mof [.row v0 T0_ 1 n0_ (encA .i64 p0_data)]) w w2 [] → p4_cmp x0 x1 = some r → Calls Try.prog g4_ (#[.int .i64 x0, .int .i64 x1] ++ c4_) w2 (fun e w3 => ∃ _ : Unit, e = .returned (.int .i64 r) ∧ Own [] w2 w3 [])) (h0 : slices_symMergeCmpFunc_int64.f n0_ p0_data p1_a p2_m p3_b p4_cmp = some r) :
    Calls Try.prog 85 #[v0, .int .i64 p1_a, .int .i64 p2_m, .int .i64 p3_b, .func (.func g4_) #[] c4_] w (fun e w' => ∃ _ : Unit, e = .returned (.tuple #[]) ∧ Own (Mof [.row v0 T0_ 1 n0_ (encA .i64 p0_data)]) w w' [.row v0 T0_ 1 n0_ (encA .i64 r)]) := slices_symMergeCmpFunc_int64.fuel_calls 64 v0 n0_ T0_ p0_data p1_a p2_m p3_b g4_ c4_ p4_cmp r w H0 hg4 hF4 h0

end Go.Proofs.Ytofhnioboihbgaa
