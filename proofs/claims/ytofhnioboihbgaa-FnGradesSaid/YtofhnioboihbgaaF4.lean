/- Go functions as Lean functions, and that each call of theirs comes to just that: by a program written for this work (walk.py). No condition. -/
import Derived.Test.YtofhnioboihbgaaF3
namespace Go.Proofs.Ytofhnioboihbgaa
open Go Go.RowKit G
set_option linter.unusedVariables false

/-! ### impl.areScaled: function 43 -/
noncomputable def impl_areScaled.f (p0_light : Int) (p1_dark : Int) : Option (Bool) := (impl_isDensity.f p0_light).bind fun r1 => bif r1 then ((impl_isDensity.f p1_dark).bind fun r5 => bif r5 then ((some (decide (p0_light < p1_dark))).bind fun t9 => some t9) else (some false)) else (some false)
set_option maxRecDepth 100000 in
theorem impl_areScaled.calls (p0_light : Int) (p1_dark : Int) (r : Bool) (w : World) (H0 : Own [] w w []) (h0 : impl_areScaled.f p0_light p1_dark = some r) :
    Calls Try.prog 43 #[.int .i64 p0_light, .int .i64 p1_dark] w (fun e w' => ∃ _ : Unit, e = .returned (.bool r) ∧ Own [] w w' []) := by
  unfold impl_areScaled.f at h0
  replace h0 := B.top h0
  refine calls_of_J (args := [.int .i64 p0_light, .int .i64 p1_dark]) Try.func43 rfl Try.ntmps43 rfl [(0, .int .i64 p0_light), (1, .int .i64 p1_dark)] rfl H0 ?_
  refine J.seq ?_
  refine J.region ?_
  refine J.op rfl rfl rfl (V.as rfl rfl) ?_
  refine J.nil ?_
  refine J.tN ?_
  refine J.seq ?_
  refine J.region ?_
  refine J.op rfl rfl rfl (V.mv rfl rfl) ?_
  obtain ⟨r1, hr2, h0⟩ := B.bind h0
  refine J.clA (l := [.tmp 5]) [] [] cf64 (wN rfl) rfl rfl rfl rfl rfl rfl (fun w H => impl_isDensity.calls p0_light r1 w (Own.refl w)  hr2) fun g3 => ?_
  refine J.op rfl rfl rfl (V.mv rfl rfl) ?_
  refine J.split 7 rfl (fun hB4 => ?_) (fun hB4 => ?_)
  · replace h0 := B.t hB4 h0
    refine J.opOn rfl rfl rfl rfl rfl (V.mv rfl rfl) ?_
    obtain ⟨r5, hr6, h0⟩ := B.bind h0
    refine J.clA (l := [.tmp 8]) [] [] cf64 (wY rfl rfl rfl) rfl rfl rfl rfl rfl rfl (fun w H => impl_isDensity.calls p1_dark r5 w (Own.refl w)  hr6) fun g7 => ?_
    refine J.op rfl rfl rfl (V.pkT rfl rfl rfl) ?_
    refine J.op rfl rfl rfl (V.mv rfl rfl) ?_
    refine J.split 11 rfl (fun hB8 => ?_) (fun hB8 => ?_)
    · replace h0 := B.t hB8 h0
      refine J.opOn rfl rfl rfl rfl rfl (V.mv rfl rfl) ?_
      refine J.opOn rfl rfl rfl rfl rfl (V.mv rfl rfl) ?_
      refine J.opOn rfl rfl rfl rfl rfl (V.cmp rfl rfl rfl rfl) ?_
      refine J.op rfl rfl rfl (V.pkT rfl rfl rfl) ?_
      refine J.op rfl rfl rfl (V.as rfl rfl) ?_
      obtain ⟨t9, et9, h0⟩ := B.lt h0
      refine J.val (congrArg (Value.bool) et9) ?_
      refine J.nil ?_
      refine J.tN ?_
      refine J.ret ?_
      obtain rfl := B.e h0
      exact J.ret1 rfl rfl fun w H => ⟨(), rfl, H.pick [] (by decide)⟩
    · replace h0 := B.f hB8 h0
      refine J.opOff rfl rfl rfl rfl rfl rfl ?_
      refine J.opOff rfl rfl rfl rfl rfl rfl ?_
      refine J.opOff rfl rfl rfl rfl rfl rfl ?_
      refine J.op rfl rfl rfl (V.pkF rfl rfl rfl) ?_
      refine J.op rfl rfl rfl (V.as rfl rfl) ?_
      refine J.nil ?_
      refine J.tN ?_
      refine J.ret ?_
      obtain rfl := B.e h0
      exact J.ret1 rfl rfl fun w H => ⟨(), rfl, H.pick [] (by decide)⟩
  · replace h0 := B.f hB4 h0
    refine J.opOff rfl rfl rfl rfl rfl rfl ?_
    refine J.opOff rfl rfl rfl rfl rfl rfl ?_
    refine J.op rfl rfl rfl (V.pkF rfl rfl rfl) ?_
    refine J.op rfl rfl rfl (V.mv rfl rfl) ?_
    refine J.opOff rfl rfl rfl rfl rfl rfl ?_
    refine J.opOff rfl rfl rfl rfl rfl rfl ?_
    refine J.opOff rfl rfl rfl rfl rfl rfl ?_
    refine J.op rfl rfl rfl (V.pkF rfl rfl rfl) ?_
    refine J.op rfl rfl rfl (V.as rfl rfl) ?_
    refine J.nil ?_
    refine J.tN ?_
    refine J.ret ?_
    obtain rfl := B.e h0
    exact J.ret1 rfl rfl fun w H => ⟨(), rfl, H.pick [] (by decide)⟩

/-! ### (impl.Curve).firstPlace: function 75 -/
noncomputable def impl_Curve_firstPlace.b1 (p0_c : (List impl_Point)) (p1_y : Int) : Int → Option (Step (Int) (Int)) := fun s1 => bif (decide (s1 ≤ 200)) then ((impl_Curve_at.f p0_c s1).bind fun r5 => bif (decide (r5 < p1_y)) then ((some (IntKind.wrap .i64 (s1 + 1))).bind fun x_9 => some (.next x_9)) else (some (.done s1))) else (some (.done s1))
noncomputable def impl_Curve_firstPlace.f (p0_c : (List impl_Point)) (p1_y : Int) : Option (Int) := (loopW (impl_Curve_firstPlace.b1 p0_c p1_y) (-200)).bind fun y10 => some y10
set_option maxRecDepth 100000 in
theorem impl_Curve_firstPlace.calls (v0 : Value) (p0_c : (List impl_Point)) (p1_y : Int) (r : Int) (w : World) (H0 : Own [] w w []) (hS0 : SlE [] w v0 78 enc_impl_Point p0_c) (h0 : impl_Curve_firstPlace.f p0_c p1_y = some r) :
    Calls Try.prog 75 #[v0, .int .i64 p1_y] w (fun e w' => ∃ _ : Unit, e = .returned (.int .i64 r) ∧ Own [] w w' []) := by
  unfold impl_Curve_firstPlace.f at h0
  replace h0 := B.top h0
  refine calls_of_J (args := [v0, .int .i64 p1_y]) Try.func75 rfl Try.ntmps75 rfl [(0, v0), (1, .int .i64 p1_y)] rfl H0 ?_
  refine J.seq ?_
  refine J.region ?_
  refine J.op rfl rfl rfl (V.as rfl rfl) ?_
  refine J.nil ?_
  refine J.tN ?_
  refine J.seq ?_
  refine J.region ?_
  refine J.op rfl rfl rfl (V.as rfl rfl) ?_
  refine J.nil ?_
  refine J.tN ?_
  refine J.seq ?_
  obtain ⟨y10, hy12, h0⟩ := B.bind h0
  refine J.cut (γ := Unit) (fun _ => True) (fun gy11 => [(5, .int .i64 y10)]) (fun gy11 => []) ?_ ?_
  · refine J.block ?_
    refine J.loop (γ := Unit) hy12 (fun s1 g2 => [(0, v0), (1, .int .i64 p1_y), (5, .int .i64 s1)]) (fun s1 g2 => []) () ?_ ?_
    · exact J.keep _ rfl (J.pickE [] rfl rfl J.here)
    · intro rec3 s1 g2 h1
      unfold impl_Curve_firstPlace.b1 at h1
      refine J.seq ?_
      refine J.seq ?_
      refine J.region ?_
      refine J.op rfl rfl rfl (V.mv rfl rfl) ?_
      refine J.op rfl rfl rfl (V.cmp rfl rfl rfl rfl) ?_
      refine J.op rfl rfl rfl (V.mv rfl rfl) ?_
      refine J.split 8 rfl (fun hB4 => ?_) (fun hB4 => ?_)
      · replace h1 := B.t hB4 h1
        refine J.opOn rfl rfl rfl rfl rfl (V.mv rfl rfl) ?_
        refine J.opOn rfl rfl rfl rfl rfl (V.mv rfl rfl) ?_
        obtain ⟨r5, hr6, h1⟩ := B.bind h1
        refine J.clA (l := [.tmp 9, .tmp 10]) [] [] cf60 (wY rfl rfl rfl) rfl rfl rfl rfl rfl rfl (fun w H => impl_Curve_at.calls v0 p0_c s1 r5 w (Own.refl w) (Sl.laterA hS0 H) hr6) fun g7 => ?_
        refine J.opOn rfl rfl rfl rfl rfl (V.mv rfl rfl) ?_
        refine J.opOn rfl rfl rfl rfl rfl (V.cmp rfl rfl rfl rfl) ?_
        refine J.op rfl rfl rfl (V.pkT rfl rfl rfl) ?_
        refine J.nil ?_
        refine J.tN ?_
        refine J.cond rfl (fun hB8 => ?_) (fun hB8 => ?_)
        · replace h1 := B.t hB8 h1
          refine J.skip ?_
          refine J.tN ?_
          refine J.block ?_
          refine J.region ?_
          refine J.op rfl rfl rfl (V.mv rfl rfl) ?_
          refine J.op rfl rfl rfl (V.ar rfl rfl rfl rfl) ?_
          refine J.op rfl rfl rfl (V.as rfl rfl) ?_
          obtain ⟨x_9, ex_9, h1⟩ := B.lt h1
          refine J.val (congrArg (Value.int .i64) ex_9) ?_
          refine J.nil ?_
          refine J.bN ?_
          refine J.tN (J.next x_9 () (B.n h1) ?_)
          exact J.keep _ rfl (J.pickE [] rfl rfl J.here)
        · replace h1 := B.f hB8 h1
          refine J.exit ?_
          refine J.tE ?_
          refine J.tE ?_
          refine J.bE ?_
          obtain rfl := B.d h1
          refine J.tN (J.to () trivial ?_)
          exact J.keep _ rfl (J.pickE [] rfl rfl J.here)
      · replace h1 := B.f hB4 h1
        refine J.opOff rfl rfl rfl rfl rfl rfl ?_
        refine J.opOff rfl rfl rfl rfl rfl rfl ?_
        refine J.opOff rfl rfl rfl rfl rfl rfl ?_
        refine J.opOff rfl rfl rfl rfl rfl rfl ?_
        refine J.opOff rfl rfl rfl rfl rfl rfl ?_
        refine J.op rfl rfl rfl (V.pkF rfl rfl rfl) ?_
        refine J.nil ?_
        refine J.tN ?_
        refine J.condF rfl ?_
        refine J.exit ?_
        refine J.tE ?_
        refine J.tE ?_
        refine J.bE ?_
        obtain rfl := B.d h1
        refine J.tN (J.to () trivial ?_)
        exact J.keep _ rfl (J.pickE [] rfl rfl J.here)
  · intro gy11 _
    refine J.seq ?_
    refine J.region ?_
    refine J.op rfl rfl rfl (V.mv rfl rfl) ?_
    refine J.op rfl rfl rfl (V.as rfl rfl) ?_
    refine J.nil ?_
    refine J.tN ?_
    refine J.ret ?_
    obtain rfl := B.e h0
    exact J.ret1 rfl rfl fun w H => ⟨(), rfl, H.pick [] (by decide)⟩

/-! ### (impl.Curve).scale: function 44 -/
noncomputable def impl_Curve_scale.f (p0_c : (List impl_Point)) (p1_light : Int) (p2_dark : Int) : Option (Int × Int) := (impl_Curve_firstPlace.f p0_c (IntKind.wrap .i64 (p1_light + 1))).bind fun r1 => (impl_Curve_firstPlace.f p0_c p2_dark).bind fun r4 => (some (IntKind.wrap .i64 (r1 - 1))).bind fun low_7 => ((impl_isPlace.f low_7).bind fun r10 => bif (!r10) then (some true) else ((impl_isPlace.f r4).bind fun r14 => some (!r14)) : Option (Bool)).bind fun y8 => bif y8 then (some (0, 6)) else ((some (IntKind.wrap .i64 (r4 - low_7))).bind fun t19 => some (t19, 0))
set_option maxRecDepth 100000 in
theorem impl_Curve_scale.calls (v0 : Value) (p0_c : (List impl_Point)) (p1_light : Int) (p2_dark : Int) (r : Int × Int) (w : World) (H0 : Own [] w w []) (hS0 : SlE [] w v0 78 enc_impl_Point p0_c) (h0 : impl_Curve_scale.f p0_c p1_light p2_dark = some r) :
    Calls Try.prog 44 #[v0, .int .i64 p1_light, .int .i64 p2_dark] w (fun e w' => ∃ _ : Unit, e = .returned (.tuple #[.int .i64 r.1, .int .i64 r.2]) ∧ Own [] w w' []) := by
  unfold impl_Curve_scale.f at h0
  replace h0 := B.top h0
  refine calls_of_J (args := [v0, .int .i64 p1_light, .int .i64 p2_dark]) Try.func44 rfl Try.ntmps44 rfl [(0, v0), (1, .int .i64 p1_light), (2, .int .i64 p2_dark)] rfl H0 ?_
  refine J.seq ?_
  refine J.region ?_
  refine J.op rfl rfl rfl (V.as rfl rfl) ?_
  refine J.op rfl rfl rfl (V.as rfl rfl) ?_
  refine J.nil ?_
  refine J.tN ?_
  refine J.seq ?_
  refine J.region ?_
  refine J.op rfl rfl rfl (V.mv rfl rfl) ?_
  refine J.op rfl rfl rfl (V.mv rfl rfl) ?_
  refine J.op rfl rfl rfl (V.ar rfl rfl rfl rfl) ?_
  obtain ⟨r1, hr2, h0⟩ := B.bind h0
  refine J.clA (l := [.tmp 10, .tmp 12]) [] [] cf75 (wN rfl) rfl rfl rfl rfl rfl rfl (fun w H => impl_Curve_firstPlace.calls v0 p0_c (IntKind.wrap .i64 (p1_light + 1)) r1 w (Own.refl w) (Sl.laterA hS0 H) hr2) fun g3 => ?_
  refine J.op rfl rfl rfl (V.ar rfl rfl rfl rfl) ?_
  refine J.op rfl rfl rfl (V.mv rfl rfl) ?_
  refine J.op rfl rfl rfl (V.mv rfl rfl) ?_
  obtain ⟨r4, hr5, h0⟩ := B.bind h0
  refine J.clA (l := [.tmp 15, .tmp 16]) [] [] cf75 (wN rfl) rfl rfl rfl rfl rfl rfl (fun w H => impl_Curve_firstPlace.calls v0 p0_c p2_dark r4 w (Own.refl w) (Sl.laterA hS0 H) hr5) fun g6 => ?_
  refine J.op rfl rfl rfl (V.as rfl rfl) ?_
  obtain ⟨low_7, elow_7, h0⟩ := B.lt h0
  refine J.val (congrArg (Value.int .i64) elow_7) ?_
  refine J.op rfl rfl rfl (V.as rfl rfl) ?_
  refine J.nil ?_
  refine J.tN ?_
  refine J.seq ?_
  refine J.seq ?_
  obtain ⟨y8, hy17, h0⟩ := B.bind h0
  replace hy17 := B.top hy17
  refine J.cut (γ := Unit) (fun _ => True) (fun gy9 => [(8, .int .i64 low_7), (9, .int .i64 r4), (25, .bool y8)]) (fun gy9 => []) ?_ ?_
  · have h1 := hy17
    refine J.region ?_
    refine J.op rfl rfl rfl (V.mv rfl rfl) ?_
    obtain ⟨r10, hr11, h1⟩ := B.bind h1
    refine J.clA (l := [.tmp 18]) [] [] cf63 (wN rfl) rfl rfl rfl rfl rfl rfl (fun w H => impl_isPlace.calls low_7 r10 w (Own.refl w)  hr11) fun g12 => ?_
    refine J.op rfl rfl rfl (V.nt rfl rfl) ?_
    refine J.op rfl rfl rfl (V.mv rfl rfl) ?_
    refine J.split 21 rfl (fun hB13 => ?_) (fun hB13 => ?_)
    · replace h1 := B.t hB13 h1
      refine J.opOff rfl rfl rfl rfl rfl rfl ?_
      refine J.opOff rfl rfl rfl rfl rfl rfl ?_
      refine J.opOff rfl rfl rfl rfl rfl rfl ?_
      refine J.op rfl rfl rfl (V.pkT rfl rfl rfl) ?_
      refine J.nil ?_
      obtain rfl := B.e h1
      refine J.tN (J.to () trivial ?_)
      exact J.keep _ rfl (J.pickE [] rfl rfl J.here)
    · replace h1 := B.f hB13 h1
      refine J.opOn rfl rfl rfl rfl rfl (V.mv rfl rfl) ?_
      obtain ⟨r14, hr15, h1⟩ := B.bind h1
      refine J.clA (l := [.tmp 22]) [] [] cf63 (wY rfl rfl rfl) rfl rfl rfl rfl rfl rfl (fun w H => impl_isPlace.calls r4 r14 w (Own.refl w)  hr15) fun g16 => ?_
      refine J.opOn rfl rfl rfl rfl rfl (V.nt rfl rfl) ?_
      refine J.op rfl rfl rfl (V.pkF rfl rfl rfl) ?_
      refine J.nil ?_
      obtain rfl := B.e h1
      refine J.tN (J.to () trivial ?_)
      exact J.keep _ rfl (J.pickE [] rfl rfl J.here)
  · intro gy9 _
    refine J.cond rfl (fun hB18 => ?_) (fun hB18 => ?_)
    · replace h0 := B.t hB18 h0
      refine J.seq ?_
      refine J.region ?_
      refine J.op rfl rfl rfl (V.as rfl rfl) ?_
      refine J.op rfl rfl rfl (V.as rfl rfl) ?_
      refine J.nil ?_
      refine J.tN ?_
      refine J.ret ?_
      refine J.tR ?_
      obtain rfl := B.e h0
      exact J.ret2 rfl rfl rfl fun w H => ⟨(), rfl, H.pick [] (by decide)⟩
    · replace h0 := B.f hB18 h0
      refine J.skip ?_
      refine J.tN ?_
      refine J.seq ?_
      refine J.region ?_
      refine J.op rfl rfl rfl (V.mv rfl rfl) ?_
      refine J.op rfl rfl rfl (V.mv rfl rfl) ?_
      refine J.op rfl rfl rfl (V.ar rfl rfl rfl rfl) ?_
      refine J.op rfl rfl rfl (V.as rfl rfl) ?_
      obtain ⟨t19, et19, h0⟩ := B.lt h0
      refine J.val (congrArg (Value.int .i64) et19) ?_
      refine J.op rfl rfl rfl (V.as rfl rfl) ?_
      refine J.nil ?_
      refine J.tN ?_
      refine J.ret ?_
      obtain rfl := B.e h0
      exact J.ret2 rfl rfl rfl fun w H => ⟨(), rfl, H.pick [] (by decide)⟩

/-! ### slices.insertionSortCmpFunc[int64]: function 84 -/
noncomputable def slices_insertionSortCmpFunc_int64.b2 (n0_ : Nat) (p1_a : Int) (p3_cmp : Int → Int → Option Int) : (Int × (Vector Int n0_)) → Option (Step (Int × (Vector Int n0_)) ((Vector Int n0_))) := fun s6 => bif (decide (p1_a < s6.1)) then (bif (inB s6.1 n0_) then (bif (inB (IntKind.wrap .i64 (s6.1 - 1)) n0_) then ((p3_cmp (rdA s6.2 s6.1) (rdA s6.2 (IntKind.wrap .i64 (s6.1 - 1)))).bind fun r12 => bif (decide (r12 < 0)) then (bif (inB (IntKind.wrap .i64 (s6.1 - 1)) n0_) then (bif (inB s6.1 n0_) then (bif (inB s6.1 n0_) then ((some (wrA s6.2 s6.1 (rdA s6.2 (IntKind.wrap .i64 (s6.1 - 1))))).bind fun m19 => bif (inB (IntKind.wrap .i64 (s6.1 - 1)) n0_) then ((some (wrA m19 (IntKind.wrap .i64 (s6.1 - 1)) (rdA s6.2 s6.1))).bind fun m21 => (some (IntKind.wrap .i64 (s6.1 - 1))).bind fun j_23 => some (.next (j_23, m21))) else none) else none) else none) else none) else (some (.done s6.2))) else none) else none) else (some (.done s6.2))
noncomputable def slices_insertionSortCmpFunc_int64.b1 (n0_ : Nat) (p1_a : Int) (p2_b : Int) (p3_cmp : Int → Int → Option Int) : (Int × (Vector Int n0_)) → Option (Step (Int × (Vector Int n0_)) ((Vector Int n0_))) := fun s2 => bif (decide (s2.1 < p2_b)) then ((loopW (slices_insertionSortCmpFunc_int64.b2 n0_ p1_a p3_cmp) (s2.1, s2.2)).bind fun y24 => (some (IntKind.wrap .i64 (s2.1 + 1))).bind fun i_27 => some (.next (i_27, y24))) else (some (.done s2.2))
noncomputable def slices_insertionSortCmpFunc_int64.f (n0_ : Nat) (p0_data : Vector Int n0_) (p1_a : Int) (p2_b : Int) (p3_cmp : Int → Int → Option Int) : Option ((Vector Int n0_)) := (some (IntKind.wrap .i64 (p1_a + 1))).bind fun i_1 => (loopW (slices_insertionSortCmpFunc_int64.b1 n0_ p1_a p2_b p3_cmp) (i_1, p0_data)).bind fun y28 => some y28
set_option maxRecDepth 100000 in
theorem slices_insertionSortCmpFunc_int64.calls (v0 : Value) (n0_ T0_ : Nat) (p0_data : Vector Int n0_) (p1_a : Int) (p2_b : Int) (g3_ : Nat) (c3_ : Array Value) (p3_cmp : Int → Int → Option Int) (r : (Vector Int n0_)) (w : World) (H0 : Own (Mof [.row v0 T0_ 1 n0_ (encA .i64 p0_data)]) w w [.row v0 T0_ 1 n0_ (encA .i64 p0_data)]) (hg3 : CallsFn Try.prog g3_) (hF3 : ∀ w2 (x0 : Int) (x1 : Int) r, Own (Mof [.row v0 T0_ 1 n0_ (encA .i64 p0_data)]) w w2 [] → p3_cmp x0 x1 = some r → Calls Try.prog g3_ (#[.int .i64 x0, .int .i64 x1] ++ c3_) w2 (fun e w3 => ∃ _ : Unit, e = .returned (.int .i64 r) ∧ Own [] w2 w3 [])) (h0 : slices_insertionSortCmpFunc_int64.f n0_ p0_data p1_a p2_b p3_cmp = some r) :
    Calls Try.prog 84 #[v0, .int .i64 p1_a, .int .i64 p2_b, .func (.func g3_) #[] c3_] w (fun e w' => ∃ _ : Unit, e = .returned (.tuple #[]) ∧ Own (Mof [.row v0 T0_ 1 n0_ (encA .i64 p0_data)]) w w' [.row v0 T0_ 1 n0_ (encA .i64 r)]) := by
  unfold slices_insertionSortCmpFunc_int64.f at h0
  replace h0 := B.top h0
  refine calls_of_J (args := [v0, .int .i64 p1_a, .int .i64 p2_b, .func (.func g3_) #[] c3_]) Try.func84 rfl Try.ntmps84 rfl [(0, v0), (1, .int .i64 p1_a), (2, .int .i64 p2_b), (3, .func (.func g3_) #[] c3_)] rfl H0 ?_
  refine J.seq ?_
  refine J.region ?_
  refine J.op rfl rfl rfl (V.mv rfl rfl) ?_
  refine J.op rfl rfl rfl (V.ar rfl rfl rfl rfl) ?_
  refine J.op rfl rfl rfl (V.as rfl rfl) ?_
  obtain ⟨i_1, ei_1, h0⟩ := B.lt h0
  refine J.val (congrArg (Value.int .i64) ei_1) ?_
  refine J.nil ?_
  refine J.tN ?_
  obtain ⟨y28, hy30, h0⟩ := B.bind h0
  refine J.cutQ (γ := Unit) (fun _ => True) (fun gy29 => []) (fun gy29 => [.row v0 T0_ 1 n0_ (encA .i64 y28)]) ?_ ?_
  · refine J.block ?_
    refine J.loop (γ := Unit) hy30 (fun s2 g3 => [(0, v0), (1, .int .i64 p1_a), (2, .int .i64 p2_b), (3, .func (.func g3_) #[] c3_), (8, .int .i64 s2.1)]) (fun s2 g3 => [.row v0 T0_ 1 n0_ (encA .i64 s2.2)]) () ?_ ?_
    · exact J.keep _ rfl (J.pickE [0] rfl rfl J.here)
    · intro rec4 s2 g3 h1
      unfold slices_insertionSortCmpFunc_int64.b1 at h1
      refine J.seq ?_
      refine J.seq ?_
      refine J.region ?_
      refine J.op rfl rfl rfl (V.mv rfl rfl) ?_
      refine J.op rfl rfl rfl (V.mv rfl rfl) ?_
      refine J.op rfl rfl rfl (V.cmp rfl rfl rfl rfl) ?_
      refine J.nil ?_
      refine J.tN ?_
      refine J.cond rfl (fun hB5 => ?_) (fun hB5 => ?_)
      · replace h1 := B.t hB5 h1
        refine J.skip ?_
        refine J.tN ?_
        refine J.seq ?_
        refine J.block ?_
        refine J.seq ?_
        refine J.region ?_
        refine J.op rfl rfl rfl (V.mv rfl rfl) ?_
        refine J.op rfl rfl rfl (V.as rfl rfl) ?_
        refine J.nil ?_
        refine J.tN ?_
        obtain ⟨y24, hy26, h1⟩ := B.bind h1
        refine J.cutQ (γ := Unit) (fun _ => True) (fun gy25 => [(0, v0), (1, .int .i64 p1_a), (2, .int .i64 p2_b), (3, .func (.func g3_) #[] c3_), (8, .int .i64 s2.1)]) (fun gy25 => [.row v0 T0_ 1 n0_ (encA .i64 y24)]) ?_ ?_
        · refine J.block ?_
          refine J.loop (γ := Unit) hy26 (fun s6 g7 => [(0, v0), (1, .int .i64 p1_a), (2, .int .i64 p2_b), (3, .func (.func g3_) #[] c3_), (8, .int .i64 s2.1), (9, .int .i64 s6.1)]) (fun s6 g7 => [.row v0 T0_ 1 n0_ (encA .i64 s6.2)]) () ?_ ?_
          · exact J.keep _ rfl (J.pickE [0] rfl rfl J.here)
          · intro rec8 s6 g7 h2
            unfold slices_insertionSortCmpFunc_int64.b2 at h2
            refine J.seq ?_
            refine J.seq ?_
            refine J.quiet mixed (by kernel_rfl) ?_
            refine JQ.op rfl rfl rfl (V.mv rfl rfl) ?_
            refine JQ.op rfl rfl rfl (V.mv rfl rfl) ?_
            refine JQ.op rfl rfl rfl (V.cmp rfl rfl rfl rfl) ?_
            refine JQ.op rfl rfl rfl (V.mv rfl rfl) ?_
            refine JQ.split 21 rfl (fun hB9 => ?_) (fun hB9 => ?_)
            · replace h2 := B.t hB9 h2
              refine JQ.opOn rfl rfl rfl rfl rfl (V.mv rfl rfl) ?_
              refine JQ.opOn rfl rfl rfl rfl rfl (V.mv rfl rfl) ?_
              refine JQ.opOn rfl rfl rfl rfl rfl (V.mv rfl rfl) ?_
              obtain ⟨hC10, h2⟩ := B.chk h2
              refine JQ.opOn rfl rfl rfl rfl rfl (V.ixR 0 rfl rfl rfl rfl tl30 ts2 hC10) ?_
              refine JQ.opOn rfl rfl rfl rfl rfl (V.ldR 0 rfl rfl rfl Try.underlying2 ta2 (lt_of_in hC10) (encA_get1 .i64 _ hC10)) ?_
              refine JQ.opOn rfl rfl rfl rfl rfl (V.mv rfl rfl) ?_
              refine JQ.opOn rfl rfl rfl rfl rfl (V.mv rfl rfl) ?_
              refine JQ.opOn rfl rfl rfl rfl rfl (V.ar rfl rfl rfl rfl) ?_
              obtain ⟨hC11, h2⟩ := B.chk h2
              refine JQ.opOn rfl rfl rfl rfl rfl (V.ixR 0 rfl rfl rfl rfl tl30 ts2 hC11) ?_
              refine JQ.opOn rfl rfl rfl rfl rfl (V.ldR 0 rfl rfl rfl Try.underlying2 ta2 (lt_of_in hC11) (encA_get1 .i64 _ hC11)) ?_
              obtain ⟨r12, hr13, h2⟩ := B.bind h2
              refine JQ.clA (l := [.tmp 26, .tmp 31]) hg3 (wY rfl rfl rfl) rfl rfl rfl rfl rfl (fun w H => hF3 w (rdA s6.2 s6.1) (rdA s6.2 (IntKind.wrap .i64 (s6.1 - 1))) r12 (Own.bare H)  hr13) ?_
              refine JQ.opOn rfl rfl rfl rfl rfl (V.cmp rfl rfl rfl rfl) ?_
              refine JQ.op rfl rfl rfl (V.pkT rfl rfl rfl) ?_
              refine JQ.nil ?_
              refine J.tN ?_
              refine J.cond rfl (fun hB15 => ?_) (fun hB15 => ?_)
              · replace h2 := B.t hB15 h2
                refine J.skip ?_
                refine J.tN ?_
                refine J.seq ?_
                refine J.block ?_
                obtain ⟨hC16, h2⟩ := B.chk h2
                obtain ⟨hC17, h2⟩ := B.chk h2
                obtain ⟨hC18, h2⟩ := B.chk h2
                obtain ⟨m19, em19, h2⟩ := B.lt h2
                obtain ⟨hC20, h2⟩ := B.chk h2
                obtain ⟨m21, em21, h2⟩ := B.lt h2
                refine J.cutQ (γ := Unit) (fun _ => True) (fun gx22 => [(0, v0), (1, .int .i64 p1_a), (2, .int .i64 p2_b), (3, .func (.func g3_) #[] c3_), (8, .int .i64 s2.1), (9, .int .i64 s6.1)]) (fun gx22 => [.row v0 T0_ 1 n0_ (encA .i64 m21)]) ?_ ?_
                · refine J.any 18 rfl [] mixed ?_
                  refine JH.take (i := 0) [] rfl (by kernel_rfl) rfl rfl rfl rfl rfl (V.mv rfl rfl) ?_
                  refine JH.take (i := 1) [] rfl (by kernel_rfl) rfl rfl rfl rfl rfl (V.mv rfl rfl) ?_
                  refine JH.take (i := 2) [] rfl (by kernel_rfl) rfl rfl rfl rfl rfl (V.mv rfl rfl) ?_
                  refine JH.take (i := 3) [] rfl (by kernel_rfl) rfl rfl rfl rfl rfl (V.mv rfl rfl) ?_
                  refine JH.take (i := 4) [] rfl (by kernel_rfl) rfl rfl rfl rfl rfl (V.ar rfl rfl rfl rfl) ?_
                  refine JH.take (i := 5) [] rfl (by kernel_rfl) rfl rfl rfl rfl rfl (V.mv rfl rfl) ?_
                  refine JH.take (i := 6) [] rfl (by kernel_rfl) rfl rfl rfl rfl rfl (V.mv rfl rfl) ?_
                  refine JH.take (i := 7) [] rfl (by kernel_rfl) rfl rfl rfl rfl rfl (V.ar rfl rfl rfl rfl) ?_
                  refine JH.take (i := 10) [] rfl (by kernel_rfl) rfl rfl rfl rfl rfl (V.mv rfl rfl) ?_
                  refine JH.take (i := 11) [] rfl (by kernel_rfl) rfl rfl rfl rfl rfl (V.mv rfl rfl) ?_
                  refine JH.all [8, 12] (by kernel_rfl) rfl (JHall.cons (JH.op rfl ?_) (JHall.cons (JH.op rfl ?_) (JHall.nil)))
                  · refine J.op rfl rfl rfl (V.ixR 0 rfl rfl rfl rfl tl30 ts2 hC16) ?_
                    refine J.nil ?_
                    refine JH.back [] rfl rfl ?_
                    refine JH.all [9, 12] (by kernel_rfl) rfl (JHall.cons (JH.op rfl ?_) (JHall.cons (JH.op rfl ?_) (JHall.nil)))
                    · refine J.op rfl rfl rfl (V.ldR 0 rfl rfl rfl Try.underlying2 ta2 (lt_of_in hC16) (encA_get1 .i64 _ hC16)) ?_
                      refine J.nil ?_
                      refine JH.back [] rfl rfl ?_
                      refine JH.all [12] (by kernel_rfl) rfl (JHall.cons (JH.op rfl ?_) (JHall.nil))
                      refine J.op rfl rfl rfl (V.ixR 0 rfl rfl rfl rfl tl30 ts2 hC17) ?_
                      refine J.nil ?_
                      refine JH.back [] rfl rfl ?_
                      refine JH.all [13] (by kernel_rfl) rfl (JHall.cons (JH.op rfl ?_) (JHall.nil))
                      refine J.op rfl rfl rfl (V.ldR 0 rfl rfl rfl Try.underlying2 ta2 (lt_of_in hC17) (encA_get1 .i64 _ hC17)) ?_
                      refine J.nil ?_
                      refine JH.back [] rfl rfl ?_
                      refine JH.all [14] (by kernel_rfl) rfl (JHall.cons (JH.op rfl ?_) (JHall.nil))
                      refine J.op rfl rfl rfl (V.ixR 0 rfl rfl rfl rfl tl30 ts2 hC18) ?_
                      refine J.nil ?_
                      refine JH.back [] rfl rfl ?_
                      refine JH.all [15] (by kernel_rfl) rfl (JHall.cons (JH.op rfl ?_) (JHall.nil))
                      refine J.stR 0 rfl rfl rfl rfl rfl rfl ts2 (fun _ _ => rfl) (encA_lt1 .i64 _ hC18) ?_
                      refine J.setEnt 0 rfl (congrArg (fun q => Ent.row _ _ 1 _ q) (encA_set1 .i64 _ _ _)) ?_
                      refine J.setEnt 0 rfl (congrArg (fun q => Ent.row _ _ 1 _ (encA .i64 q)) em19) ?_
                      refine J.nil ?_
                      refine JH.back [] rfl rfl ?_
                      refine JH.all [16] (by kernel_rfl) rfl (JHall.cons (JH.op rfl ?_) (JHall.nil))
                      refine J.op rfl rfl rfl (V.ixR 0 rfl rfl rfl rfl tl30 ts2 hC20) ?_
                      refine J.nil ?_
                      refine JH.back [] rfl rfl ?_
                      refine JH.all [17] (by kernel_rfl) rfl (JHall.cons (JH.op rfl ?_) (JHall.nil))
                      refine J.stR 0 rfl rfl rfl rfl rfl rfl ts2 (fun _ _ => rfl) (encA_lt1 .i64 _ hC20) ?_
                      refine J.setEnt 0 rfl (congrArg (fun q => Ent.row _ _ 1 _ q) (encA_set1 .i64 _ _ _)) ?_
                      refine J.setEnt 0 rfl (congrArg (fun q => Ent.row _ _ 1 _ (encA .i64 q)) em21) ?_
                      refine J.nil ?_
                      refine JH.back [] rfl rfl ?_
                      refine JH.fin (by kernel_rfl) ?_
                      refine J.tN (J.to () trivial ?_)
                      exact J.keep _ rfl (J.pickE [0] rfl rfl J.here)
                    · refine J.op rfl rfl rfl (V.ixR 0 rfl rfl rfl rfl tl30 ts2 hC17) ?_
                      refine J.nil ?_
                      refine JH.back [] rfl rfl ?_
                      refine JH.all [9, 13] (by kernel_rfl) rfl (JHall.cons (JH.op rfl ?_) (JHall.cons (JH.op rfl ?_) (JHall.nil)))
                      · refine J.op rfl rfl rfl (V.ldR 0 rfl rfl rfl Try.underlying2 ta2 (lt_of_in hC16) (encA_get1 .i64 _ hC16)) ?_
                        refine J.nil ?_
                        refine JH.back [] rfl rfl ?_
                        refine JH.all [13] (by kernel_rfl) rfl (JHall.cons (JH.op rfl ?_) (JHall.nil))
                        refine J.op rfl rfl rfl (V.ldR 0 rfl rfl rfl Try.underlying2 ta2 (lt_of_in hC17) (encA_get1 .i64 _ hC17)) ?_
                        refine J.nil ?_
                        refine JH.back [] rfl rfl ?_
                        refine JH.all [14] (by kernel_rfl) rfl (JHall.cons (JH.op rfl ?_) (JHall.nil))
                        refine J.op rfl rfl rfl (V.ixR 0 rfl rfl rfl rfl tl30 ts2 hC18) ?_
                        refine J.nil ?_
                        refine JH.back [] rfl rfl ?_
                        refine JH.all [15] (by kernel_rfl) rfl (JHall.cons (JH.op rfl ?_) (JHall.nil))
                        refine J.stR 0 rfl rfl rfl rfl rfl rfl ts2 (fun _ _ => rfl) (encA_lt1 .i64 _ hC18) ?_
                        refine J.setEnt 0 rfl (congrArg (fun q => Ent.row _ _ 1 _ q) (encA_set1 .i64 _ _ _)) ?_
                        refine J.setEnt 0 rfl (congrArg (fun q => Ent.row _ _ 1 _ (encA .i64 q)) em19) ?_
                        refine J.nil ?_
                        refine JH.back [] rfl rfl ?_
                        refine JH.all [16] (by kernel_rfl) rfl (JHall.cons (JH.op rfl ?_) (JHall.nil))
                        refine J.op rfl rfl rfl (V.ixR 0 rfl rfl rfl rfl tl30 ts2 hC20) ?_
                        refine J.nil ?_
                        refine JH.back [] rfl rfl ?_
                        refine JH.all [17] (by kernel_rfl) rfl (JHall.cons (JH.op rfl ?_) (JHall.nil))
                        refine J.stR 0 rfl rfl rfl rfl rfl rfl ts2 (fun _ _ => rfl) (encA_lt1 .i64 _ hC20) ?_
                        refine J.setEnt 0 rfl (congrArg (fun q => Ent.row _ _ 1 _ q) (encA_set1 .i64 _ _ _)) ?_
                        refine J.setEnt 0 rfl (congrArg (fun q => Ent.row _ _ 1 _ (encA .i64 q)) em21) ?_
                        refine J.nil ?_
                        refine JH.back [] rfl rfl ?_
                        refine JH.fin (by kernel_rfl) ?_
                        refine J.tN (J.to () trivial ?_)
                        exact J.keep _ rfl (J.pickE [0] rfl rfl J.here)
                      · refine J.op rfl rfl rfl (V.ldR 0 rfl rfl rfl Try.underlying2 ta2 (lt_of_in hC17) (encA_get1 .i64 _ hC17)) ?_
                        refine J.nil ?_
                        refine JH.back [] rfl rfl ?_
                        refine JH.all [9] (by kernel_rfl) rfl (JHall.cons (JH.op rfl ?_) (JHall.nil))
                        refine J.op rfl rfl rfl (V.ldR 0 rfl rfl rfl Try.underlying2 ta2 (lt_of_in hC16) (encA_get1 .i64 _ hC16)) ?_
                        refine J.nil ?_
                        refine JH.back [] rfl rfl ?_
                        refine JH.all [14] (by kernel_rfl) rfl (JHall.cons (JH.op rfl ?_) (JHall.nil))
                        refine J.op rfl rfl rfl (V.ixR 0 rfl rfl rfl rfl tl30 ts2 hC18) ?_
                        refine J.nil ?_
                        refine JH.back [] rfl rfl ?_
                        refine JH.all [15] (by kernel_rfl) rfl (JHall.cons (JH.op rfl ?_) (JHall.nil))
                        refine J.stR 0 rfl rfl rfl rfl rfl rfl ts2 (fun _ _ => rfl) (encA_lt1 .i64 _ hC18) ?_
                        refine J.setEnt 0 rfl (congrArg (fun q => Ent.row _ _ 1 _ q) (encA_set1 .i64 _ _ _)) ?_
                        refine J.setEnt 0 rfl (congrArg (fun q => Ent.row _ _ 1 _ (encA .i64 q)) em19) ?_
                        refine J.nil ?_
                        refine JH.back [] rfl rfl ?_
                        refine JH.all [16] (by kernel_rfl) rfl (JHall.cons (JH.op rfl ?_) (JHall.nil))
                        refine J.op rfl rfl rfl (V.ixR 0 rfl rfl rfl rfl tl30 ts2 hC20) ?_
                        refine J.nil ?_
                        refine JH.back [] rfl rfl ?_
                        refine JH.all [17] (by kernel_rfl) rfl (JHall.cons (JH.op rfl ?_) (JHall.nil))
                        refine J.stR 0 rfl rfl rfl rfl rfl rfl ts2 (fun _ _ => rfl) (encA_lt1 .i64 _ hC20) ?_
                        refine J.setEnt 0 rfl (congrArg (fun q => Ent.row _ _ 1 _ q) (encA_set1 .i64 _ _ _)) ?_
                        refine J.setEnt 0 rfl (congrArg (fun q => Ent.row _ _ 1 _ (encA .i64 q)) em21) ?_
                        refine J.nil ?_
                        refine JH.back [] rfl rfl ?_
                        refine JH.fin (by kernel_rfl) ?_
                        refine J.tN (J.to () trivial ?_)
                        exact J.keep _ rfl (J.pickE [0] rfl rfl J.here)
                  · refine J.op rfl rfl rfl (V.ixR 0 rfl rfl rfl rfl tl30 ts2 hC17) ?_
                    refine J.nil ?_
                    refine JH.back [] rfl rfl ?_
                    refine JH.all [8, 13] (by kernel_rfl) rfl (JHall.cons (JH.op rfl ?_) (JHall.cons (JH.op rfl ?_) (JHall.nil)))
                    · refine J.op rfl rfl rfl (V.ixR 0 rfl rfl rfl rfl tl30 ts2 hC16) ?_
                      refine J.nil ?_
                      refine JH.back [] rfl rfl ?_
                      refine JH.all [9, 13] (by kernel_rfl) rfl (JHall.cons (JH.op rfl ?_) (JHall.cons (JH.op rfl ?_) (JHall.nil)))
                      · refine J.op rfl rfl rfl (V.ldR 0 rfl rfl rfl Try.underlying2 ta2 (lt_of_in hC16) (encA_get1 .i64 _ hC16)) ?_
                        refine J.nil ?_
                        refine JH.back [] rfl rfl ?_
                        refine JH.all [13] (by kernel_rfl) rfl (JHall.cons (JH.op rfl ?_) (JHall.nil))
                        refine J.op rfl rfl rfl (V.ldR 0 rfl rfl rfl Try.underlying2 ta2 (lt_of_in hC17) (encA_get1 .i64 _ hC17)) ?_
                        refine J.nil ?_
                        refine JH.back [] rfl rfl ?_
                        refine JH.all [14] (by kernel_rfl) rfl (JHall.cons (JH.op rfl ?_) (JHall.nil))
                        refine J.op rfl rfl rfl (V.ixR 0 rfl rfl rfl rfl tl30 ts2 hC18) ?_
                        refine J.nil ?_
                        refine JH.back [] rfl rfl ?_
                        refine JH.all [15] (by kernel_rfl) rfl (JHall.cons (JH.op rfl ?_) (JHall.nil))
                        refine J.stR 0 rfl rfl rfl rfl rfl rfl ts2 (fun _ _ => rfl) (encA_lt1 .i64 _ hC18) ?_
                        refine J.setEnt 0 rfl (congrArg (fun q => Ent.row _ _ 1 _ q) (encA_set1 .i64 _ _ _)) ?_
                        refine J.setEnt 0 rfl (congrArg (fun q => Ent.row _ _ 1 _ (encA .i64 q)) em19) ?_
                        refine J.nil ?_
                        refine JH.back [] rfl rfl ?_
                        refine JH.all [16] (by kernel_rfl) rfl (JHall.cons (JH.op rfl ?_) (JHall.nil))
                        refine J.op rfl rfl rfl (V.ixR 0 rfl rfl rfl rfl tl30 ts2 hC20) ?_
                        refine J.nil ?_
                        refine JH.back [] rfl rfl ?_
                        refine JH.all [17] (by kernel_rfl) rfl (JHall.cons (JH.op rfl ?_) (JHall.nil))
                        refine J.stR 0 rfl rfl rfl rfl rfl rfl ts2 (fun _ _ => rfl) (encA_lt1 .i64 _ hC20) ?_
                        refine J.setEnt 0 rfl (congrArg (fun q => Ent.row _ _ 1 _ q) (encA_set1 .i64 _ _ _)) ?_
                        refine J.setEnt 0 rfl (congrArg (fun q => Ent.row _ _ 1 _ (encA .i64 q)) em21) ?_
                        refine J.nil ?_
                        refine JH.back [] rfl rfl ?_
                        refine JH.fin (by kernel_rfl) ?_
                        refine J.tN (J.to () trivial ?_)
                        exact J.keep _ rfl (J.pickE [0] rfl rfl J.here)
                      · refine J.op rfl rfl rfl (V.ldR 0 rfl rfl rfl Try.underlying2 ta2 (lt_of_in hC17) (encA_get1 .i64 _ hC17)) ?_
                        refine J.nil ?_
                        refine JH.back [] rfl rfl ?_
                        refine JH.all [9] (by kernel_rfl) rfl (JHall.cons (JH.op rfl ?_) (JHall.nil))
                        refine J.op rfl rfl rfl (V.ldR 0 rfl rfl rfl Try.underlying2 ta2 (lt_of_in hC16) (encA_get1 .i64 _ hC16)) ?_
                        refine J.nil ?_
                        refine JH.back [] rfl rfl ?_
                        refine JH.all [14] (by kernel_rfl) rfl (JHall.cons (JH.op rfl ?_) (JHall.nil))
                        refine J.op rfl rfl rfl (V.ixR 0 rfl rfl rfl rfl tl30 ts2 hC18) ?_
                        refine J.nil ?_
                        refine JH.back [] rfl rfl ?_
                        refine JH.all [15] (by kernel_rfl) rfl (JHall.cons (JH.op rfl ?_) (JHall.nil))
                        refine J.stR 0 rfl rfl rfl rfl rfl rfl ts2 (fun _ _ => rfl) (encA_lt1 .i64 _ hC18) ?_
                        refine J.setEnt 0 rfl (congrArg (fun q => Ent.row _ _ 1 _ q) (encA_set1 .i64 _ _ _)) ?_
                        refine J.setEnt 0 rfl (congrArg (fun q => Ent.row _ _ 1 _ (encA .i64 q)) em19) ?_
                        refine J.nil ?_
                        refine JH.back [] rfl rfl ?_
                        refine JH.all [16] (by kernel_rfl) rfl (JHall.cons (JH.op rfl ?_) (JHall.nil))
                        refine J.op rfl rfl rfl (V.ixR 0 rfl rfl rfl rfl tl30 ts2 hC20) ?_
                        refine J.nil ?_
                        refine JH.back [] rfl rfl ?_
                        refine JH.all [17] (by kernel_rfl) rfl (JHall.cons (JH.op rfl ?_) (JHall.nil))
                        refine J.stR 0 rfl rfl rfl rfl rfl rfl ts2 (fun _ _ => rfl) (encA_lt1 .i64 _ hC20) ?_
                        refine J.setEnt 0 rfl (congrArg (fun q => Ent.row _ _ 1 _ q) (encA_set1 .i64 _ _ _)) ?_
                        refine J.setEnt 0 rfl (congrArg (fun q => Ent.row _ _ 1 _ (encA .i64 q)) em21) ?_
                        refine J.nil ?_
                        refine JH.back [] rfl rfl ?_
                        refine JH.fin (by kernel_rfl) ?_
                        refine J.tN (J.to () trivial ?_)
                        exact J.keep _ rfl (J.pickE [0] rfl rfl J.here)
                    · refine J.op rfl rfl rfl (V.ldR 0 rfl rfl rfl Try.underlying2 ta2 (lt_of_in hC17) (encA_get1 .i64 _ hC17)) ?_
                      refine J.nil ?_
                      refine JH.back [] rfl rfl ?_
                      refine JH.all [8] (by kernel_rfl) rfl (JHall.cons (JH.op rfl ?_) (JHall.nil))
                      refine J.op rfl rfl rfl (V.ixR 0 rfl rfl rfl rfl tl30 ts2 hC16) ?_
                      refine J.nil ?_
                      refine JH.back [] rfl rfl ?_
                      refine JH.all [9] (by kernel_rfl) rfl (JHall.cons (JH.op rfl ?_) (JHall.nil))
                      refine J.op rfl rfl rfl (V.ldR 0 rfl rfl rfl Try.underlying2 ta2 (lt_of_in hC16) (encA_get1 .i64 _ hC16)) ?_
                      refine J.nil ?_
                      refine JH.back [] rfl rfl ?_
                      refine JH.all [14] (by kernel_rfl) rfl (JHall.cons (JH.op rfl ?_) (JHall.nil))
                      refine J.op rfl rfl rfl (V.ixR 0 rfl rfl rfl rfl tl30 ts2 hC18) ?_
                      refine J.nil ?_
                      refine JH.back [] rfl rfl ?_
                      refine JH.all [15] (by kernel_rfl) rfl (JHall.cons (JH.op rfl ?_) (JHall.nil))
                      refine J.stR 0 rfl rfl rfl rfl rfl rfl ts2 (fun _ _ => rfl) (encA_lt1 .i64 _ hC18) ?_
                      refine J.setEnt 0 rfl (congrArg (fun q => Ent.row _ _ 1 _ q) (encA_set1 .i64 _ _ _)) ?_
                      refine J.setEnt 0 rfl (congrArg (fun q => Ent.row _ _ 1 _ (encA .i64 q)) em19) ?_
                      refine J.nil ?_
                      refine JH.back [] rfl rfl ?_
                      refine JH.all [16] (by kernel_rfl) rfl (JHall.cons (JH.op rfl ?_) (JHall.nil))
                      refine J.op rfl rfl rfl (V.ixR 0 rfl rfl rfl rfl tl30 ts2 hC20) ?_
                      refine J.nil ?_
                      refine JH.back [] rfl rfl ?_
                      refine JH.all [17] (by kernel_rfl) rfl (JHall.cons (JH.op rfl ?_) (JHall.nil))
                      refine J.stR 0 rfl rfl rfl rfl rfl rfl ts2 (fun _ _ => rfl) (encA_lt1 .i64 _ hC20) ?_
                      refine J.setEnt 0 rfl (congrArg (fun q => Ent.row _ _ 1 _ q) (encA_set1 .i64 _ _ _)) ?_
                      refine J.setEnt 0 rfl (congrArg (fun q => Ent.row _ _ 1 _ (encA .i64 q)) em21) ?_
                      refine J.nil ?_
                      refine JH.back [] rfl rfl ?_
                      refine JH.fin (by kernel_rfl) ?_
                      refine J.tN (J.to () trivial ?_)
                      exact J.keep _ rfl (J.pickE [0] rfl rfl J.here)
                · intro gx22 _
                  refine J.bN ?_
                  refine J.tN ?_
                  refine J.region ?_
                  refine J.op rfl rfl rfl (V.mv rfl rfl) ?_
                  refine J.op rfl rfl rfl (V.ar rfl rfl rfl rfl) ?_
                  refine J.op rfl rfl rfl (V.as rfl rfl) ?_
                  obtain ⟨j_23, ej_23, h2⟩ := B.lt h2
                  refine J.val (congrArg (Value.int .i64) ej_23) ?_
                  refine J.nil ?_
                  refine J.tN (J.next (j_23, m21) () (B.n h2) ?_)
                  exact J.keep _ rfl (J.pickE [0] rfl rfl J.here)
              · replace h2 := B.f hB15 h2
                refine J.exit ?_
                refine J.tE ?_
                refine J.tE ?_
                refine J.bE ?_
                obtain rfl := B.d h2
                refine J.tN (J.to () trivial ?_)
                exact J.keep _ rfl (J.pickE [0] rfl rfl J.here)
            · replace h2 := B.f hB9 h2
              refine JQ.opOff rfl rfl rfl rfl rfl rfl ?_
              refine JQ.opOff rfl rfl rfl rfl rfl rfl ?_
              refine JQ.opOff rfl rfl rfl rfl rfl rfl ?_
              refine JQ.opOff rfl rfl rfl rfl rfl rfl ?_
              refine JQ.opOff rfl rfl rfl rfl rfl rfl ?_
              refine JQ.opOff rfl rfl rfl rfl rfl rfl ?_
              refine JQ.opOff rfl rfl rfl rfl rfl rfl ?_
              refine JQ.opOff rfl rfl rfl rfl rfl rfl ?_
              refine JQ.opOff rfl rfl rfl rfl rfl rfl ?_
              refine JQ.opOff rfl rfl rfl rfl rfl rfl ?_
              refine JQ.opOff rfl rfl rfl rfl rfl rfl ?_
              refine JQ.opOff rfl rfl rfl rfl rfl rfl ?_
              refine JQ.op rfl rfl rfl (V.pkF rfl rfl rfl) ?_
              refine JQ.nil ?_
              refine J.tN ?_
              refine J.condF rfl ?_
              refine J.exit ?_
              refine J.tE ?_
              refine J.tE ?_
              refine J.bE ?_
              obtain rfl := B.d h2
              refine J.tN (J.to () trivial ?_)
              exact J.keep _ rfl (J.pickE [0] rfl rfl J.here)
        · intro gy25 _
          refine J.bN ?_
          refine J.tN ?_
          refine J.region ?_
          refine J.op rfl rfl rfl (V.mv rfl rfl) ?_
          refine J.op rfl rfl rfl (V.ar rfl rfl rfl rfl) ?_
          refine J.op rfl rfl rfl (V.as rfl rfl) ?_
          obtain ⟨i_27, ei_27, h1⟩ := B.lt h1
          refine J.val (congrArg (Value.int .i64) ei_27) ?_
          refine J.nil ?_
          refine J.tN (J.next (i_27, y24) () (B.n h1) ?_)
          exact J.keep _ rfl (J.pickE [0] rfl rfl J.here)
      · replace h1 := B.f hB5 h1
        refine J.exit ?_
        refine J.tE ?_
        refine J.tE ?_
        refine J.bE ?_
        obtain rfl := B.d h1
        refine J.tN (J.to () trivial ?_)
        exact J.keep _ rfl (J.pickE [0] rfl rfl J.here)
  · intro gy29 _
    refine J.fin ?_
    obtain rfl := B.e h0
    exact J.ret0 rfl fun w H => ⟨(), rfl, H.pick [0] (by decide)⟩

/-! ### slices.swapRangeCmpFunc[int64]: function 90 -/
noncomputable def slices_swapRangeCmpFunc_int64.b1 (n0_ : Nat) (p1_a : Int) (p2_b : Int) (p3_n : Int) : (Int × (Vector Int n0_)) → Option (Step (Int × (Vector Int n0_)) ((Vector Int n0_))) := fun s1 => bif (decide (s1.1 < p3_n)) then (bif (inB (IntKind.wrap .i64 (p2_b + s1.1)) n0_) then (bif (inB (IntKind.wrap .i64 (p1_a + s1.1)) n0_) then (bif (inB (IntKind.wrap .i64 (p1_a + s1.1)) n0_) then ((some (wrA s1.2 (IntKind.wrap .i64 (p1_a + s1.1)) (rdA s1.2 (IntKind.wrap .i64 (p2_b + s1.1))))).bind fun m8 => bif (inB (IntKind.wrap .i64 (p2_b + s1.1)) n0_) then ((some (wrA m8 (IntKind.wrap .i64 (p2_b + s1.1)) (rdA s1.2 (IntKind.wrap .i64 (p1_a + s1.1))))).bind fun m10 => (some (IntKind.wrap .i64 (s1.1 + 1))).bind fun i_12 => some (.next (i_12, m10))) else none) else none) else none) else none) else (some (.done s1.2))
noncomputable def slices_swapRangeCmpFunc_int64.f (n0_ : Nat) (p0_data : Vector Int n0_) (p1_a : Int) (p2_b : Int) (p3_n : Int) (p4_cmp : Int → Int → Option Int) : Option ((Vector Int n0_)) := (loopW (slices_swapRangeCmpFunc_int64.b1 n0_ p1_a p2_b p3_n) (0, p0_data)).bind fun y13 => some y13
set_option maxRecDepth 100000 in
theorem slices_swapRangeCmpFunc_int64.calls (v0 : Value) (n0_ T0_ : Nat) (p0_data : Vector Int n0_) (p1_a : Int) (p2_b : Int) (p3_n : Int) (g4_ : Nat) (c4_ : Array Value) (p4_cmp : Int → Int → Option Int) (r : (Vector Int n0_)) (w : World) (H0 : Own (Mof [.row v0 T0_ 1 n0_ (encA .i64 p0_data)]) w w [.row v0 T0_ 1 n0_ (encA .i64 p0_data)]) (hg4 : CallsFn Try.prog g4_) (hF4 : ∀ w2 (x0 : Int) (x1 : Int) r, Own (Mof [.row v0 T0_ 1 n0_ (encA .i64 p0_data)]) w w2 [] → p4_cmp x0 x1 = some r → Calls Try.prog g4_ (#[.int .i64 x0, .int .i64 x1] ++ c4_) w2 (fun e w3 => ∃ _ : Unit, e = .returned (.int .i64 r) ∧ Own [] w2 w3 [])) (h0 : slices_swapRangeCmpFunc_int64.f n0_ p0_data p1_a p2_b p3_n p4_cmp = some r) :
    Calls Try.prog 90 #[v0, .int .i64 p1_a, .int .i64 p2_b, .int .i64 p3_n, .func (.func g4_) #[] c4_] w (fun e w' => ∃ _ : Unit, e = .returned (.tuple #[]) ∧ Own (Mof [.row v0 T0_ 1 n0_ (encA .i64 p0_data)]) w w' [.row v0 T0_ 1 n0_ (encA .i64 r)]) := by
  unfold slices_swapRangeCmpFunc_int64.f at h0
  replace h0 := B.top h0
  refine calls_of_J (args := [v0, .int .i64 p1_a, .int .i64 p2_b, .int .i64 p3_n, .func (.func g4_) #[] c4_]) Try.func90 rfl Try.ntmps90 rfl [(0, v0), (1, .int .i64 p1_a), (2, .int .i64 p2_b), (3, .int .i64 p3_n), (4, .func (.func g4_) #[] c4_)] rfl H0 ?_
  refine J.seq ?_
  refine J.region ?_
  refine J.op rfl rfl rfl (V.as rfl rfl) ?_
  refine J.nil ?_
  refine J.tN ?_
  obtain ⟨y13, hy15, h0⟩ := B.bind h0
  refine J.cutQ (γ := Unit) (fun _ => True) (fun gy14 => []) (fun gy14 => [.row v0 T0_ 1 n0_ (encA .i64 y13)]) ?_ ?_
  · refine J.block ?_
    refine J.loop (γ := Unit) hy15 (fun s1 g2 => [(0, v0), (1, .int .i64 p1_a), (2, .int .i64 p2_b), (3, .int .i64 p3_n), (10, .int .i64 s1.1)]) (fun s1 g2 => [.row v0 T0_ 1 n0_ (encA .i64 s1.2)]) () ?_ ?_
    · exact J.keep _ rfl (J.pickE [0] rfl rfl J.here)
    · intro rec3 s1 g2 h1
      unfold slices_swapRangeCmpFunc_int64.b1 at h1
      refine J.seq ?_
      refine J.seq ?_
      refine J.region ?_
      refine J.op rfl rfl rfl (V.mv rfl rfl) ?_
      refine J.op rfl rfl rfl (V.mv rfl rfl) ?_
      refine J.op rfl rfl rfl (V.cmp rfl rfl rfl rfl) ?_
      refine J.nil ?_
      refine J.tN ?_
      refine J.cond rfl (fun hB4 => ?_) (fun hB4 => ?_)
      · replace h1 := B.t hB4 h1
        refine J.skip ?_
        refine J.tN ?_
        refine J.seq ?_
        refine J.block ?_
        obtain ⟨hC5, h1⟩ := B.chk h1
        obtain ⟨hC6, h1⟩ := B.chk h1
        obtain ⟨hC7, h1⟩ := B.chk h1
        obtain ⟨m8, em8, h1⟩ := B.lt h1
        obtain ⟨hC9, h1⟩ := B.chk h1
        obtain ⟨m10, em10, h1⟩ := B.lt h1
        refine J.cutQ (γ := Unit) (fun _ => True) (fun gx11 => [(0, v0), (1, .int .i64 p1_a), (2, .int .i64 p2_b), (3, .int .i64 p3_n), (10, .int .i64 s1.1)]) (fun gx11 => [.row v0 T0_ 1 n0_ (encA .i64 m10)]) ?_ ?_
        · refine J.any 24 rfl [] mixed ?_
          refine JH.take (i := 0) [] rfl (by kernel_rfl) rfl rfl rfl rfl rfl (V.mv rfl rfl) ?_
          refine JH.take (i := 1) [] rfl (by kernel_rfl) rfl rfl rfl rfl rfl (V.mv rfl rfl) ?_
          refine JH.take (i := 2) [] rfl (by kernel_rfl) rfl rfl rfl rfl rfl (V.mv rfl rfl) ?_
          refine JH.take (i := 3) [] rfl (by kernel_rfl) rfl rfl rfl rfl rfl (V.ar rfl rfl rfl rfl) ?_
          refine JH.take (i := 4) [] rfl (by kernel_rfl) rfl rfl rfl rfl rfl (V.mv rfl rfl) ?_
          refine JH.take (i := 5) [] rfl (by kernel_rfl) rfl rfl rfl rfl rfl (V.mv rfl rfl) ?_
          refine JH.take (i := 6) [] rfl (by kernel_rfl) rfl rfl rfl rfl rfl (V.mv rfl rfl) ?_
          refine JH.take (i := 7) [] rfl (by kernel_rfl) rfl rfl rfl rfl rfl (V.ar rfl rfl rfl rfl) ?_
          refine JH.take (i := 8) [] rfl (by kernel_rfl) rfl rfl rfl rfl rfl (V.mv rfl rfl) ?_
          refine JH.take (i := 9) [] rfl (by kernel_rfl) rfl rfl rfl rfl rfl (V.mv rfl rfl) ?_
          refine JH.take (i := 10) [] rfl (by kernel_rfl) rfl rfl rfl rfl rfl (V.mv rfl rfl) ?_
          refine JH.take (i := 11) [] rfl (by kernel_rfl) rfl rfl rfl rfl rfl (V.ar rfl rfl rfl rfl) ?_
          refine JH.take (i := 14) [] rfl (by kernel_rfl) rfl rfl rfl rfl rfl (V.mv rfl rfl) ?_
          refine JH.take (i := 15) [] rfl (by kernel_rfl) rfl rfl rfl rfl rfl (V.mv rfl rfl) ?_
          refine JH.take (i := 16) [] rfl (by kernel_rfl) rfl rfl rfl rfl rfl (V.mv rfl rfl) ?_
          refine JH.take (i := 17) [] rfl (by kernel_rfl) rfl rfl rfl rfl rfl (V.ar rfl rfl rfl rfl) ?_
          refine JH.all [12, 18] (by kernel_rfl) rfl (JHall.cons (JH.op rfl ?_) (JHall.cons (JH.op rfl ?_) (JHall.nil)))
          · refine J.op rfl rfl rfl (V.ixR 0 rfl rfl rfl rfl tl30 ts2 hC5) ?_
            refine J.nil ?_
            refine JH.back [] rfl rfl ?_
            refine JH.all [13, 18] (by kernel_rfl) rfl (JHall.cons (JH.op rfl ?_) (JHall.cons (JH.op rfl ?_) (JHall.nil)))
            · refine J.op rfl rfl rfl (V.ldR 0 rfl rfl rfl Try.underlying2 ta2 (lt_of_in hC5) (encA_get1 .i64 _ hC5)) ?_
              refine J.nil ?_
              refine JH.back [] rfl rfl ?_
              refine JH.all [18] (by kernel_rfl) rfl (JHall.cons (JH.op rfl ?_) (JHall.nil))
              refine J.op rfl rfl rfl (V.ixR 0 rfl rfl rfl rfl tl30 ts2 hC6) ?_
              refine J.nil ?_
              refine JH.back [] rfl rfl ?_
              refine JH.all [19] (by kernel_rfl) rfl (JHall.cons (JH.op rfl ?_) (JHall.nil))
              refine J.op rfl rfl rfl (V.ldR 0 rfl rfl rfl Try.underlying2 ta2 (lt_of_in hC6) (encA_get1 .i64 _ hC6)) ?_
              refine J.nil ?_
              refine JH.back [] rfl rfl ?_
              refine JH.all [20] (by kernel_rfl) rfl (JHall.cons (JH.op rfl ?_) (JHall.nil))
              refine J.op rfl rfl rfl (V.ixR 0 rfl rfl rfl rfl tl30 ts2 hC7) ?_
              refine J.nil ?_
              refine JH.back [] rfl rfl ?_
              refine JH.all [21] (by kernel_rfl) rfl (JHall.cons (JH.op rfl ?_) (JHall.nil))
              refine J.stR 0 rfl rfl rfl rfl rfl rfl ts2 (fun _ _ => rfl) (encA_lt1 .i64 _ hC7) ?_
              refine J.setEnt 0 rfl (congrArg (fun q => Ent.row _ _ 1 _ q) (encA_set1 .i64 _ _ _)) ?_
              refine J.setEnt 0 rfl (congrArg (fun q => Ent.row _ _ 1 _ (encA .i64 q)) em8) ?_
              refine J.nil ?_
              refine JH.back [] rfl rfl ?_
              refine JH.all [22] (by kernel_rfl) rfl (JHall.cons (JH.op rfl ?_) (JHall.nil))
              refine J.op rfl rfl rfl (V.ixR 0 rfl rfl rfl rfl tl30 ts2 hC9) ?_
              refine J.nil ?_
              refine JH.back [] rfl rfl ?_
              refine JH.all [23] (by kernel_rfl) rfl (JHall.cons (JH.op rfl ?_) (JHall.nil))
              refine J.stR 0 rfl rfl rfl rfl rfl rfl ts2 (fun _ _ => rfl) (encA_lt1 .i64 _ hC9) ?_
              refine J.setEnt 0 rfl (congrArg (fun q => Ent.row _ _ 1 _ q) (encA_set1 .i64 _ _ _)) ?_
              refine J.setEnt 0 rfl (congrArg (fun q => Ent.row _ _ 1 _ (encA .i64 q)) em10) ?_
              refine J.nil ?_
              refine JH.back [] rfl rfl ?_
              refine JH.fin (by kernel_rfl) ?_
              refine J.tN (J.to () trivial ?_)
              exact J.keep _ rfl (J.pickE [0] rfl rfl J.here)
            · refine J.op rfl rfl rfl (V.ixR 0 rfl rfl rfl rfl tl30 ts2 hC6) ?_
              refine J.nil ?_
              refine JH.back [] rfl rfl ?_
              refine JH.all [13, 19] (by kernel_rfl) rfl (JHall.cons (JH.op rfl ?_) (JHall.cons (JH.op rfl ?_) (JHall.nil)))
              · refine J.op rfl rfl rfl (V.ldR 0 rfl rfl rfl Try.underlying2 ta2 (lt_of_in hC5) (encA_get1 .i64 _ hC5)) ?_
                refine J.nil ?_
                refine JH.back [] rfl rfl ?_
                refine JH.all [19] (by kernel_rfl) rfl (JHall.cons (JH.op rfl ?_) (JHall.nil))
                refine J.op rfl rfl rfl (V.ldR 0 rfl rfl rfl Try.underlying2 ta2 (lt_of_in hC6) (encA_get1 .i64 _ hC6)) ?_
                refine J.nil ?_
                refine JH.back [] rfl rfl ?_
                refine JH.all [20] (by kernel_rfl) rfl (JHall.cons (JH.op rfl ?_) (JHall.nil))
                refine J.op rfl rfl rfl (V.ixR 0 rfl rfl rfl rfl tl30 ts2 hC7) ?_
                refine J.nil ?_
                refine JH.back [] rfl rfl ?_
                refine JH.all [21] (by kernel_rfl) rfl (JHall.cons (JH.op rfl ?_) (JHall.nil))
                refine J.stR 0 rfl rfl rfl rfl rfl rfl ts2 (fun _ _ => rfl) (encA_lt1 .i64 _ hC7) ?_
                refine J.setEnt 0 rfl (congrArg (fun q => Ent.row _ _ 1 _ q) (encA_set1 .i64 _ _ _)) ?_
                refine J.setEnt 0 rfl (congrArg (fun q => Ent.row _ _ 1 _ (encA .i64 q)) em8) ?_
                refine J.nil ?_
                refine JH.back [] rfl rfl ?_
                refine JH.all [22] (by kernel_rfl) rfl (JHall.cons (JH.op rfl ?_) (JHall.nil))
                refine J.op rfl rfl rfl (V.ixR 0 rfl rfl rfl rfl tl30 ts2 hC9) ?_
                refine J.nil ?_
                refine JH.back [] rfl rfl ?_
                refine JH.all [23] (by kernel_rfl) rfl (JHall.cons (JH.op rfl ?_) (JHall.nil))
                refine J.stR 0 rfl rfl rfl rfl rfl rfl ts2 (fun _ _ => rfl) (encA_lt1 .i64 _ hC9) ?_
                refine J.setEnt 0 rfl (congrArg (fun q => Ent.row _ _ 1 _ q) (encA_set1 .i64 _ _ _)) ?_
                refine J.setEnt 0 rfl (congrArg (fun q => Ent.row _ _ 1 _ (encA .i64 q)) em10) ?_
                refine J.nil ?_
                refine JH.back [] rfl rfl ?_
                refine JH.fin (by kernel_rfl) ?_
                refine J.tN (J.to () trivial ?_)
                exact J.keep _ rfl (J.pickE [0] rfl rfl J.here)
              · refine J.op rfl rfl rfl (V.ldR 0 rfl rfl rfl Try.underlying2 ta2 (lt_of_in hC6) (encA_get1 .i64 _ hC6)) ?_
                refine J.nil ?_
                refine JH.back [] rfl rfl ?_
                refine JH.all [13] (by kernel_rfl) rfl (JHall.cons (JH.op rfl ?_) (JHall.nil))
                refine J.op rfl rfl rfl (V.ldR 0 rfl rfl rfl Try.underlying2 ta2 (lt_of_in hC5) (encA_get1 .i64 _ hC5)) ?_
                refine J.nil ?_
                refine JH.back [] rfl rfl ?_
                refine JH.all [20] (by kernel_rfl) rfl (JHall.cons (JH.op rfl ?_) (JHall.nil))
                refine J.op rfl rfl rfl (V.ixR 0 rfl rfl rfl rfl tl30 ts2 hC7) ?_
                refine J.nil ?_
                refine JH.back [] rfl rfl ?_
                refine JH.all [21] (by kernel_rfl) rfl (JHall.cons (JH.op rfl ?_) (JHall.nil))
                refine J.stR 0 rfl rfl rfl rfl rfl rfl ts2 (fun _ _ => rfl) (encA_lt1 .i64 _ hC7) ?_
                refine J.setEnt 0 rfl (congrArg (fun q => Ent.row _ _ 1 _ q) (encA_set1 .i64 _ _ _)) ?_
                refine J.setEnt 0 rfl (congrArg (fun q => Ent.row _ _ 1 _ (encA .i64 q)) em8) ?_
                refine J.nil ?_
                refine JH.back [] rfl rfl ?_
                refine JH.all [22] (by kernel_rfl) rfl (JHall.cons (JH.op rfl ?_) (JHall.nil))
                refine J.op rfl rfl rfl (V.ixR 0 rfl rfl rfl rfl tl30 ts2 hC9) ?_
                refine J.nil ?_
                refine JH.back [] rfl rfl ?_
                refine JH.all [23] (by kernel_rfl) rfl (JHall.cons (JH.op rfl ?_) (JHall.nil))
                refine J.stR 0 rfl rfl rfl rfl rfl rfl ts2 (fun _ _ => rfl) (encA_lt1 .i64 _ hC9) ?_
                refine J.setEnt 0 rfl (congrArg (fun q => Ent.row _ _ 1 _ q) (encA_set1 .i64 _ _ _)) ?_
                refine J.setEnt 0 rfl (congrArg (fun q => Ent.row _ _ 1 _ (encA .i64 q)) em10) ?_
                refine J.nil ?_
                refine JH.back [] rfl rfl ?_
                refine JH.fin (by kernel_rfl) ?_
                refine J.tN (J.to () trivial ?_)
                exact J.keep _ rfl (J.pickE [0] rfl rfl J.here)
          · refine J.op rfl rfl rfl (V.ixR 0 rfl rfl rfl rfl tl30 ts2 hC6) ?_
            refine J.nil ?_
            refine JH.back [] rfl rfl ?_
            refine JH.all [12, 19] (by kernel_rfl) rfl (JHall.cons (JH.op rfl ?_) (JHall.cons (JH.op rfl ?_) (JHall.nil)))
            · refine J.op rfl rfl rfl (V.ixR 0 rfl rfl rfl rfl tl30 ts2 hC5) ?_
              refine J.nil ?_
              refine JH.back [] rfl rfl ?_
              refine JH.all [13, 19] (by kernel_rfl) rfl (JHall.cons (JH.op rfl ?_) (JHall.cons (JH.op rfl ?_) (JHall.nil)))
              · refine J.op rfl rfl rfl (V.ldR 0 rfl rfl rfl Try.underlying2 ta2 (lt_of_in hC5) (encA_get1 .i64 _ hC5)) ?_
                refine J.nil ?_
                refine JH.back [] rfl rfl ?_
                refine JH.all [19] (by kernel_rfl) rfl (JHall.cons (JH.op rfl ?_) (JHall.nil))
                refine J.op rfl rfl rfl (V.ldR 0 rfl rfl rfl Try.underlying2 ta2 (lt_of_in hC6) (encA_get1 .i64 _ hC6)) ?_
                refine J.nil ?_
                refine JH.back [] rfl rfl ?_
                refine JH.all [20] (by kernel_rfl) rfl (JHall.cons (JH.op rfl ?_) (JHall.nil))
                refine J.op rfl rfl rfl (V.ixR 0 rfl rfl rfl rfl tl30 ts2 hC7) ?_
                refine J.nil ?_
                refine JH.back [] rfl rfl ?_
                refine JH.all [21] (by kernel_rfl) rfl (JHall.cons (JH.op rfl ?_) (JHall.nil))
                refine J.stR 0 rfl rfl rfl rfl rfl rfl ts2 (fun _ _ => rfl) (encA_lt1 .i64 _ hC7) ?_
                refine J.setEnt 0 rfl (congrArg (fun q => Ent.row _ _ 1 _ q) (encA_set1 .i64 _ _ _)) ?_
                refine J.setEnt 0 rfl (congrArg (fun q => Ent.row _ _ 1 _ (encA .i64 q)) em8) ?_
                refine J.nil ?_
                refine JH.back [] rfl rfl ?_
                refine JH.all [22] (by kernel_rfl) rfl (JHall.cons (JH.op rfl ?_) (JHall.nil))
                refine J.op rfl rfl rfl (V.ixR 0 rfl rfl rfl rfl tl30 ts2 hC9) ?_
                refine J.nil ?_
                refine JH.back [] rfl rfl ?_
                refine JH.all [23] (by kernel_rfl) rfl (JHall.cons (JH.op rfl ?_) (JHall.nil))
                refine J.stR 0 rfl rfl rfl rfl rfl rfl ts2 (fun _ _ => rfl) (encA_lt1 .i64 _ hC9) ?_
                refine J.setEnt 0 rfl (congrArg (fun q => Ent.row _ _ 1 _ q) (encA_set1 .i64 _ _ _)) ?_
                refine J.setEnt 0 rfl (congrArg (fun q => Ent.row _ _ 1 _ (encA .i64 q)) em10) ?_
                refine J.nil ?_
                refine JH.back [] rfl rfl ?_
                refine JH.fin (by kernel_rfl) ?_
                refine J.tN (J.to () trivial ?_)
                exact J.keep _ rfl (J.pickE [0] rfl rfl J.here)
              · refine J.op rfl rfl rfl (V.ldR 0 rfl rfl rfl Try.underlying2 ta2 (lt_of_in hC6) (encA_get1 .i64 _ hC6)) ?_
                refine J.nil ?_
                refine JH.back [] rfl rfl ?_
                refine JH.all [13] (by kernel_rfl) rfl (JHall.cons (JH.op rfl ?_) (JHall.nil))
                refine J.op rfl rfl rfl (V.ldR 0 rfl rfl rfl Try.underlying2 ta2 (lt_of_in hC5) (encA_get1 .i64 _ hC5)) ?_
                refine J.nil ?_
                refine JH.back [] rfl rfl ?_
                refine JH.all [20] (by kernel_rfl) rfl (JHall.cons (JH.op rfl ?_) (JHall.nil))
                refine J.op rfl rfl rfl (V.ixR 0 rfl rfl rfl rfl tl30 ts2 hC7) ?_
                refine J.nil ?_
                refine JH.back [] rfl rfl ?_
                refine JH.all [21] (by kernel_rfl) rfl (JHall.cons (JH.op rfl ?_) (JHall.nil))
                refine J.stR 0 rfl rfl rfl rfl rfl rfl ts2 (fun _ _ => rfl) (encA_lt1 .i64 _ hC7) ?_
                refine J.setEnt 0 rfl (congrArg (fun q => Ent.row _ _ 1 _ q) (encA_set1 .i64 _ _ _)) ?_
                refine J.setEnt 0 rfl (congrArg (fun q => Ent.row _ _ 1 _ (encA .i64 q)) em8) ?_
                refine J.nil ?_
                refine JH.back [] rfl rfl ?_
                refine JH.all [22] (by kernel_rfl) rfl (JHall.cons (JH.op rfl ?_) (JHall.nil))
                refine J.op rfl rfl rfl (V.ixR 0 rfl rfl rfl rfl tl30 ts2 hC9) ?_
                refine J.nil ?_
                refine JH.back [] rfl rfl ?_
                refine JH.all [23] (by kernel_rfl) rfl (JHall.cons (JH.op rfl ?_) (JHall.nil))
                refine J.stR 0 rfl rfl rfl rfl rfl rfl ts2 (fun _ _ => rfl) (encA_lt1 .i64 _ hC9) ?_
                refine J.setEnt 0 rfl (congrArg (fun q => Ent.row _ _ 1 _ q) (encA_set1 .i64 _ _ _)) ?_
                refine J.setEnt 0 rfl (congrArg (fun q => Ent.row _ _ 1 _ (encA .i64 q)) em10) ?_
                refine J.nil ?_
                refine JH.back [] rfl rfl ?_
                refine JH.fin (by kernel_rfl) ?_
                refine J.tN (J.to () trivial ?_)
                exact J.keep _ rfl (J.pickE [0] rfl rfl J.here)
            · refine J.op rfl rfl rfl (V.ldR 0 rfl rfl rfl Try.underlying2 ta2 (lt_of_in hC6) (encA_get1 .i64 _ hC6)) ?_
              refine J.nil ?_
              refine JH.back [] rfl rfl ?_
              refine JH.all [12] (by kernel_rfl) rfl (JHall.cons (JH.op rfl ?_) (JHall.nil))
              refine J.op rfl rfl rfl (V.ixR 0 rfl rfl rfl rfl tl30 ts2 hC5) ?_
              refine J.nil ?_
              refine JH.back [] rfl rfl ?_
              refine JH.all [13] (by kernel_rfl) rfl (JHall.cons (JH.op rfl ?_) (JHall.nil))
              refine J.op rfl rfl rfl (V.ldR 0 rfl rfl rfl Try.underlying2 ta2 (lt_of_in hC5) (encA_get1 .i64 _ hC5)) ?_
              refine J.nil ?_
              refine JH.back [] rfl rfl ?_
              refine JH.all [20] (by kernel_rfl) rfl (JHall.cons (JH.op rfl ?_) (JHall.nil))
              refine J.op rfl rfl rfl (V.ixR 0 rfl rfl rfl rfl tl30 ts2 hC7) ?_
              refine J.nil ?_
              refine JH.back [] rfl rfl ?_
              refine JH.all [21] (by kernel_rfl) rfl (JHall.cons (JH.op rfl ?_) (JHall.nil))
              refine J.stR 0 rfl rfl rfl rfl rfl rfl ts2 (fun _ _ => rfl) (encA_lt1 .i64 _ hC7) ?_
              refine J.setEnt 0 rfl (congrArg (fun q => Ent.row _ _ 1 _ q) (encA_set1 .i64 _ _ _)) ?_
              refine J.setEnt 0 rfl (congrArg (fun q => Ent.row _ _ 1 _ (encA .i64 q)) em8) ?_
              refine J.nil ?_
              refine JH.back [] rfl rfl ?_
              refine JH.all [22] (by kernel_rfl) rfl (JHall.cons (JH.op rfl ?_) (JHall.nil))
              refine J.op rfl rfl rfl (V.ixR 0 rfl rfl rfl rfl tl30 ts2 hC9) ?_
              refine J.nil ?_
              refine JH.back [] rfl rfl ?_
              refine JH.all [23] (by kernel_rfl) rfl (JHall.cons (JH.op rfl ?_) (JHall.nil))
              refine J.stR 0 rfl rfl rfl rfl rfl rfl ts2 (fun _ _ => rfl) (encA_lt1 .i64 _ hC9) ?_
              refine J.setEnt 0 rfl (congrArg (fun q => Ent.row _ _ 1 _ q) (encA_set1 .i64 _ _ _)) ?_
              refine J.setEnt 0 rfl (congrArg (fun q => Ent.row _ _ 1 _ (encA .i64 q)) em10) ?_
              refine J.nil ?_
              refine JH.back [] rfl rfl ?_
              refine JH.fin (by kernel_rfl) ?_
              refine J.tN (J.to () trivial ?_)
              exact J.keep _ rfl (J.pickE [0] rfl rfl J.here)
        · intro gx11 _
          refine J.bN ?_
          refine J.tN ?_
          refine J.region ?_
          refine J.op rfl rfl rfl (V.mv rfl rfl) ?_
          refine J.op rfl rfl rfl (V.ar rfl rfl rfl rfl) ?_
          refine J.op rfl rfl rfl (V.as rfl rfl) ?_
          obtain ⟨i_12, ei_12, h1⟩ := B.lt h1
          refine J.val (congrArg (Value.int .i64) ei_12) ?_
          refine J.nil ?_
          refine J.tN (J.next (i_12, m10) () (B.n h1) ?_)
          exact J.keep _ rfl (J.pickE [0] rfl rfl J.here)
      · replace h1 := B.f hB4 h1
        refine J.exit ?_
        refine J.tE ?_
        refine J.tE ?_
        refine J.bE ?_
        obtain rfl := B.d h1
        refine J.tN (J.to () trivial ?_)
        exact J.keep _ rfl (J.pickE [0] rfl rfl J.here)
  · intro gy14 _
    refine J.fin ?_
    obtain rfl := B.e h0
    exact J.ret0 rfl fun w H => ⟨(), rfl, H.pick [0] (by decide)⟩

end Go.Proofs.Ytofhnioboihbgaa
