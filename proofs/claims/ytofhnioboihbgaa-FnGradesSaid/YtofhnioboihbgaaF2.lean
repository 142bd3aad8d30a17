/- Go functions as Lean functions, and that each call of theirs comes to just that: by a program written for this work (walk.py). No condition. -/
import Derived.Test.YtofhnioboihbgaaF1
namespace Go.Proofs.Ytofhnioboihbgaa
open Go Go.RowKit G
set_option linter.unusedVariables false

/-! ### impl.ValidCurve: function 70 -/
noncomputable def impl_ValidCurve.f (p0_c : (List impl_Point)) : Option (Bool) := (impl_isCurve.f p0_c).bind fun r1 => bif r1 then ((some (decide ((p0_c.length : Int) ≤ 12))).bind fun t5 => some t5) else (some false)
set_option maxRecDepth 100000 in
theorem impl_ValidCurve.calls (v0 : Value) (p0_c : (List impl_Point)) (r : Bool) (w : World) (H0 : Own [] w w []) (hS0 : SlE [] w v0 78 enc_impl_Point p0_c) (h0 : impl_ValidCurve.f p0_c = some r) :
    Calls Try.prog 70 #[v0] w (fun e w' => ∃ _ : Unit, e = .returned (.bool r) ∧ Own [] w w' []) := by
  unfold impl_ValidCurve.f at h0
  replace h0 := B.top h0
  refine calls_of_J (args := [v0]) Try.func70 rfl Try.ntmps70 rfl [(0, v0)] rfl H0 ?_
  refine J.seq ?_
  refine J.region ?_
  refine J.op rfl rfl rfl (V.as rfl rfl) ?_
  refine J.nil ?_
  refine J.tN ?_
  refine J.seq ?_
  refine J.region ?_
  refine J.op rfl rfl rfl (V.mv rfl rfl) ?_
  obtain ⟨r1, hr2, h0⟩ := B.bind h0
  refine J.clA (l := [.tmp 3]) [] [] cf81 (wN rfl) rfl rfl rfl rfl rfl rfl (fun w H => impl_isCurve.calls v0 p0_c r1 w (Own.refl w) (Sl.laterA hS0 H) hr2) fun g3 => ?_
  refine J.op rfl rfl rfl (V.mv rfl rfl) ?_
  refine J.split 5 rfl (fun hB4 => ?_) (fun hB4 => ?_)
  · replace h0 := B.t hB4 h0
    refine J.opOn rfl rfl rfl rfl rfl (V.mv rfl rfl) ?_
    refine J.opOn rfl rfl rfl rfl rfl (V.lenS hS0 rfl rfl tl40) ?_
    refine J.opOn rfl rfl rfl rfl rfl (V.cmp rfl rfl rfl rfl) ?_
    refine J.op rfl rfl rfl (V.pkT rfl rfl rfl) ?_
    refine J.op rfl rfl rfl (V.as rfl rfl) ?_
    obtain ⟨t5, et5, h0⟩ := B.lt h0
    refine J.val (congrArg (Value.bool) et5) ?_
    refine J.nil ?_
    refine J.tN ?_
    refine J.ret ?_
    obtain rfl := B.e h0
    exact J.ret1 rfl rfl fun w H => ⟨(), rfl, H.pick [] (by decide)⟩
  · replace h0 := B.f hB4 h0
    refine J.opOff rfl rfl rfl rfl rfl rfl ?_
    refine J.opOff rfl rfl rfl rfl rfl rfl ?_
    refine J.opOff rfl rfl rfl rfl rfl rfl ?_
    refine J.op rfl rfl rfl (V.pkF rfl rfl rfl) ?_
    refine J.op rfl rfl rfl (V.as rfl rfl) ?_
    refine J.nil ?_
    refine J.tN ?_
    refine J.ret ?_
    obtain rfl := B.e h0
    exact J.ret1 rfl rfl fun w H => ⟨(), rfl, H.pick [] (by decide)⟩

/-! ### impl.curveCode: function 51 -/
noncomputable def impl_curveCode.f (p0_c : (List impl_Point)) (p1_fine : Bool) : Option (Int) := (impl_ValidCurve.f p0_c).bind fun r1 => (some (!r1)).bind fun t4 => bif t4 then (some 1) else ((some (!p1_fine)).bind fun t6 => bif t6 then (some 2) else (some 0))
set_option maxRecDepth 100000 in
theorem impl_curveCode.calls (v0 : Value) (p0_c : (List impl_Point)) (p1_fine : Bool) (r : Int) (w : World) (H0 : Own [] w w []) (hS0 : SlE [] w v0 78 enc_impl_Point p0_c) (h0 : impl_curveCode.f p0_c p1_fine = some r) :
    Calls Try.prog 51 #[v0, .bool p1_fine] w (fun e w' => ∃ _ : Unit, e = .returned (.int .i64 r) ∧ Own [] w w' []) := by
  unfold impl_curveCode.f at h0
  replace h0 := B.top h0
  refine calls_of_J (args := [v0, .bool p1_fine]) Try.func51 rfl Try.ntmps51 rfl [(0, v0), (1, .bool p1_fine)] rfl H0 ?_
  refine J.seq ?_
  refine J.region ?_
  refine J.op rfl rfl rfl (V.as rfl rfl) ?_
  refine J.nil ?_
  refine J.tN ?_
  refine J.seq ?_
  refine J.block ?_
  refine J.seq ?_
  refine J.region ?_
  refine J.op rfl rfl rfl (V.mv rfl rfl) ?_
  obtain ⟨r1, hr2, h0⟩ := B.bind h0
  refine J.clA (l := [.tmp 6]) [] [] cf70 (wN rfl) rfl rfl rfl rfl rfl rfl (fun w H => impl_ValidCurve.calls v0 p0_c r1 w (Own.refl w) (Sl.laterA hS0 H) hr2) fun g3 => ?_
  refine J.op rfl rfl rfl (V.nt rfl rfl) ?_
  refine J.op rfl rfl rfl (V.as rfl rfl) ?_
  obtain ⟨t4, et4, h0⟩ := B.lt h0
  refine J.val (congrArg (Value.bool) et4) ?_
  refine J.nil ?_
  refine J.tN ?_
  refine J.cond rfl (fun hB5 => ?_) (fun hB5 => ?_)
  · replace h0 := B.t hB5 h0
    refine J.seq ?_
    refine J.region ?_
    refine J.op rfl rfl rfl (V.as rfl rfl) ?_
    refine J.nil ?_
    refine J.tN ?_
    refine J.ret ?_
    refine J.bR ?_
    refine J.tR ?_
    obtain rfl := B.e h0
    exact J.ret1 rfl rfl fun w H => ⟨(), rfl, H.pick [] (by decide)⟩
  · replace h0 := B.f hB5 h0
    refine J.seq ?_
    refine J.region ?_
    refine J.op rfl rfl rfl (V.mv rfl rfl) ?_
    refine J.op rfl rfl rfl (V.nt rfl rfl) ?_
    refine J.op rfl rfl rfl (V.as rfl rfl) ?_
    obtain ⟨t6, et6, h0⟩ := B.lt h0
    refine J.val (congrArg (Value.bool) et6) ?_
    refine J.nil ?_
    refine J.tN ?_
    refine J.cond rfl (fun hB7 => ?_) (fun hB7 => ?_)
    · replace h0 := B.t hB7 h0
      refine J.seq ?_
      refine J.region ?_
      refine J.op rfl rfl rfl (V.as rfl rfl) ?_
      refine J.nil ?_
      refine J.tN ?_
      refine J.ret ?_
      refine J.bR ?_
      refine J.tR ?_
      obtain rfl := B.e h0
      exact J.ret1 rfl rfl fun w H => ⟨(), rfl, H.pick [] (by decide)⟩
    · replace h0 := B.f hB7 h0
      refine J.skip ?_
      refine J.bN ?_
      refine J.tN ?_
      refine J.seq ?_
      refine J.region ?_
      refine J.op rfl rfl rfl (V.as rfl rfl) ?_
      refine J.nil ?_
      refine J.tN ?_
      refine J.ret ?_
      obtain rfl := B.e h0
      exact J.ret1 rfl rfl fun w H => ⟨(), rfl, H.pick [] (by decide)⟩

/-! ### impl.areThirds: function 53 -/
noncomputable def impl_areThirds.f (p0_n : Int) : Option (Bool) := (impl_within.f p0_n 0 36).bind fun r1 => some r1
set_option maxRecDepth 100000 in
theorem impl_areThirds.calls (p0_n : Int) (r : Bool) (w : World) (H0 : Own [] w w []) (h0 : impl_areThirds.f p0_n = some r) :
    Calls Try.prog 53 #[.int .i64 p0_n] w (fun e w' => ∃ _ : Unit, e = .returned (.bool r) ∧ Own [] w w' []) := by
  unfold impl_areThirds.f at h0
  replace h0 := B.top h0
  refine calls_of_J (args := [.int .i64 p0_n]) Try.func53 rfl Try.ntmps53 rfl [(0, .int .i64 p0_n)] rfl H0 ?_
  refine J.seq ?_
  refine J.region ?_
  refine J.op rfl rfl rfl (V.as rfl rfl) ?_
  refine J.nil ?_
  refine J.tN ?_
  refine J.seq ?_
  refine J.region ?_
  refine J.op rfl rfl rfl (V.mv rfl rfl) ?_
  obtain ⟨r1, hr2, h0⟩ := B.bind h0
  refine J.clA (l := [.tmp 3, .const (.int .i64 0), .const (.int .i64 36)]) [] [] cf71 (wN rfl) rfl rfl rfl rfl rfl rfl (fun w H => impl_within.calls p0_n 0 36 r1 w (Own.refl w)  hr2) fun g3 => ?_
  refine J.op rfl rfl rfl (V.as rfl rfl) ?_
  refine J.nil ?_
  refine J.tN ?_
  refine J.ret ?_
  obtain rfl := B.e h0
  exact J.ret1 rfl rfl fun w H => ⟨(), rfl, H.pick [] (by decide)⟩

/-! ### (impl.Curve).at: function 60 -/
noncomputable def impl_Curve_at.b1 (p0_c : (List impl_Point)) (p1_x : Int) : Int → Option (Step (Int) (Int)) := fun s12 => bif (inB s12 p0_c.length) then (bif (decide ((IntKind.wrap .i64 ((rd enc_impl_Point p0_c s12).X)) ≤ p1_x)) then ((some (IntKind.wrap .i64 (s12 + 1))).bind fun i_17 => some (.next i_17)) else (some (.done s12))) else none
noncomputable def impl_Curve_at.f (p0_c : (List impl_Point)) (p1_x : Int) : Option (Int) := (some (IntKind.wrap .i64 ((p0_c.length : Int) - 1))).bind fun last_1 => bif (inB 0 p0_c.length) then ((some (decide (p1_x ≤ (IntKind.wrap .i64 ((rd enc_impl_Point p0_c 0).X))))).bind fun t3 => bif t3 then (bif (inB 0 p0_c.length) then ((some (IntKind.wrap .i64 ((rd enc_impl_Point p0_c 0).Y))).bind fun t6 => some t6) else none) else (bif (inB last_1 p0_c.length) then ((some (decide ((IntKind.wrap .i64 ((rd enc_impl_Point p0_c last_1).X)) ≤ p1_x))).bind fun t8 => bif t8 then (bif (inB last_1 p0_c.length) then ((some (IntKind.wrap .i64 ((rd enc_impl_Point p0_c last_1).Y))).bind fun t11 => some t11) else none) else ((loopW (impl_Curve_at.b1 p0_c p1_x) 1).bind fun y18 => bif (inB (IntKind.wrap .i64 (y18 - 1)) p0_c.length) then (bif (inB y18 p0_c.length) then (bif (!((IntKind.wrap .i64 (IntKind.wrap .i16 (((rd enc_impl_Point p0_c y18).X) - ((rd enc_impl_Point p0_c (IntKind.wrap .i64 (y18 - 1))).X)))) == 0)) then ((some (IntKind.wrap .i64 ((IntKind.wrap .i64 ((rd enc_impl_Point p0_c (IntKind.wrap .i64 (y18 - 1))).Y)) + (IntKind.wrap .i64 (Int.tdiv (IntKind.wrap .i64 ((IntKind.wrap .i64 (IntKind.wrap .i16 (((rd enc_impl_Point p0_c y18).Y) - ((rd enc_impl_Point p0_c (IntKind.wrap .i64 (y18 - 1))).Y)))) * (IntKind.wrap .i64 (p1_x - (IntKind.wrap .i64 ((rd enc_impl_Point p0_c (IntKind.wrap .i64 (y18 - 1))).X)))))) (IntKind.wrap .i64 (IntKind.wrap .i16 (((rd enc_impl_Point p0_c y18).X) - ((rd enc_impl_Point p0_c (IntKind.wrap .i64 (y18 - 1))).X))))))))).bind fun t29 => some t29) else none) else none) else none)) else none)) else none
set_option maxRecDepth 100000 in
theorem impl_Curve_at.calls (v0 : Value) (p0_c : (List impl_Point)) (p1_x : Int) (r : Int) (w : World) (H0 : Own [] w w []) (hS0 : SlE [] w v0 78 enc_impl_Point p0_c) (h0 : impl_Curve_at.f p0_c p1_x = some r) :
    Calls Try.prog 60 #[v0, .int .i64 p1_x] w (fun e w' => ∃ _ : Unit, e = .returned (.int .i64 r) ∧ Own [] w w' []) := by
  unfold impl_Curve_at.f at h0
  replace h0 := B.top h0
  refine calls_of_J (args := [v0, .int .i64 p1_x]) Try.func60 rfl Try.ntmps60 rfl [(0, v0), (1, .int .i64 p1_x)] rfl H0 ?_
  refine J.seq ?_
  refine J.region ?_
  refine J.op rfl rfl rfl (V.as rfl rfl) ?_
  refine J.nil ?_
  refine J.tN ?_
  refine J.seq ?_
  refine J.region ?_
  refine J.op rfl rfl rfl (V.mv rfl rfl) ?_
  refine J.op rfl rfl rfl (V.lenS hS0 rfl rfl tl40) ?_
  refine J.op rfl rfl rfl (V.ar rfl rfl rfl rfl) ?_
  refine J.op rfl rfl rfl (V.as rfl rfl) ?_
  obtain ⟨last_1, elast_1, h0⟩ := B.lt h0
  refine J.val (congrArg (Value.int .i64) elast_1) ?_
  refine J.nil ?_
  refine J.tN ?_
  refine J.seq ?_
  refine J.block ?_
  refine J.seq ?_
  refine J.region ?_
  refine J.op rfl rfl rfl (V.mv rfl rfl) ?_
  refine J.op rfl rfl rfl (V.mv rfl rfl) ?_
  obtain ⟨hC2, h0⟩ := B.chk h0
  refine J.op rfl rfl rfl (V.ixS hS0 rfl rfl rfl tl40 ts78 hC2) ?_
  refine J.op rfl rfl rfl (V.faS hS0 (lt_of_in hC2) rfl rfl tf0_78) ?_
  refine J.op rfl rfl rfl (V.elS hS0 hC2 rfl rfl Try.underlying76 ta76 rfl) ?_
  refine J.op rfl rfl rfl (V.conv rfl rfl Try.underlying76 Try.underlying2) ?_
  refine J.op rfl rfl rfl (V.cmp rfl rfl rfl rfl) ?_
  refine J.op rfl rfl rfl (V.as rfl rfl) ?_
  obtain ⟨t3, et3, h0⟩ := B.lt h0
  refine J.val (congrArg (Value.bool) et3) ?_
  refine J.nil ?_
  refine J.tN ?_
  refine J.cond rfl (fun hB4 => ?_) (fun hB4 => ?_)
  · replace h0 := B.t hB4 h0
    refine J.seq ?_
    refine J.region ?_
    refine J.op rfl rfl rfl (V.mv rfl rfl) ?_
    obtain ⟨hC5, h0⟩ := B.chk h0
    refine J.op rfl rfl rfl (V.ixS hS0 rfl rfl rfl tl40 ts78 hC5) ?_
    refine J.op rfl rfl rfl (V.faS hS0 (lt_of_in hC5) rfl rfl tf1_78) ?_
    refine J.op rfl rfl rfl (V.elS hS0 hC5 rfl rfl Try.underlying76 ta76 rfl) ?_
    refine J.op rfl rfl rfl (V.conv rfl rfl Try.underlying76 Try.underlying2) ?_
    refine J.op rfl rfl rfl (V.as rfl rfl) ?_
    obtain ⟨t6, et6, h0⟩ := B.lt h0
    refine J.val (congrArg (Value.int .i64) et6) ?_
    refine J.nil ?_
    refine J.tN ?_
    refine J.ret ?_
    refine J.bR ?_
    refine J.tR ?_
    obtain rfl := B.e h0
    exact J.ret1 rfl rfl fun w H => ⟨(), rfl, H.pick [] (by decide)⟩
  · replace h0 := B.f hB4 h0
    refine J.seq ?_
    refine J.region ?_
    refine J.op rfl rfl rfl (V.mv rfl rfl) ?_
    refine J.op rfl rfl rfl (V.mv rfl rfl) ?_
    refine J.op rfl rfl rfl (V.mv rfl rfl) ?_
    obtain ⟨hC7, h0⟩ := B.chk h0
    refine J.op rfl rfl rfl (V.ixS hS0 rfl rfl rfl tl40 ts78 hC7) ?_
    refine J.op rfl rfl rfl (V.faS hS0 (lt_of_in hC7) rfl rfl tf0_78) ?_
    refine J.op rfl rfl rfl (V.elS hS0 hC7 rfl rfl Try.underlying76 ta76 rfl) ?_
    refine J.op rfl rfl rfl (V.conv rfl rfl Try.underlying76 Try.underlying2) ?_
    refine J.op rfl rfl rfl (V.cmp rfl rfl rfl rfl) ?_
    refine J.op rfl rfl rfl (V.as rfl rfl) ?_
    obtain ⟨t8, et8, h0⟩ := B.lt h0
    refine J.val (congrArg (Value.bool) et8) ?_
    refine J.nil ?_
    refine J.tN ?_
    refine J.cond rfl (fun hB9 => ?_) (fun hB9 => ?_)
    · replace h0 := B.t hB9 h0
      refine J.seq ?_
      refine J.region ?_
      refine J.op rfl rfl rfl (V.mv rfl rfl) ?_
      refine J.op rfl rfl rfl (V.mv rfl rfl) ?_
      obtain ⟨hC10, h0⟩ := B.chk h0
      refine J.op rfl rfl rfl (V.ixS hS0 rfl rfl rfl tl40 ts78 hC10) ?_
      refine J.op rfl rfl rfl (V.faS hS0 (lt_of_in hC10) rfl rfl tf1_78) ?_
      refine J.op rfl rfl rfl (V.elS hS0 hC10 rfl rfl Try.underlying76 ta76 rfl) ?_
      refine J.op rfl rfl rfl (V.conv rfl rfl Try.underlying76 Try.underlying2) ?_
      refine J.op rfl rfl rfl (V.as rfl rfl) ?_
      obtain ⟨t11, et11, h0⟩ := B.lt h0
      refine J.val (congrArg (Value.int .i64) et11) ?_
      refine J.nil ?_
      refine J.tN ?_
      refine J.ret ?_
      refine J.bR ?_
      refine J.tR ?_
      obtain rfl := B.e h0
      exact J.ret1 rfl rfl fun w H => ⟨(), rfl, H.pick [] (by decide)⟩
    · replace h0 := B.f hB9 h0
      refine J.skip ?_
      refine J.bN ?_
      refine J.tN ?_
      refine J.seq ?_
      refine J.region ?_
      refine J.op rfl rfl rfl (V.as rfl rfl) ?_
      refine J.nil ?_
      refine J.tN ?_
      refine J.seq ?_
      obtain ⟨y18, hy20, h0⟩ := B.bind h0
      refine J.cut (γ := Unit) (fun _ => True) (fun gy19 => [(0, v0), (1, .int .i64 p1_x), (6, .int .i64 y18)]) (fun gy19 => []) ?_ ?_
      · refine J.block ?_
        refine J.loop (γ := Unit) hy20 (fun s12 g13 => [(0, v0), (1, .int .i64 p1_x), (6, .int .i64 s12)]) (fun s12 g13 => []) () ?_ ?_
        · exact J.keep _ rfl (J.pickE [] rfl rfl J.here)
        · intro rec14 s12 g13 h1
          unfold impl_Curve_at.b1 at h1
          refine J.seq ?_
          refine J.seq ?_
          refine J.region ?_
          refine J.op rfl rfl rfl (V.mv rfl rfl) ?_
          refine J.op rfl rfl rfl (V.mv rfl rfl) ?_
          obtain ⟨hC15, h1⟩ := B.chk h1
          refine J.op rfl rfl rfl (V.ixS hS0 rfl rfl rfl tl40 ts78 hC15) ?_
          refine J.op rfl rfl rfl (V.faS hS0 (lt_of_in hC15) rfl rfl tf0_78) ?_
          refine J.op rfl rfl rfl (V.elS hS0 hC15 rfl rfl Try.underlying76 ta76 rfl) ?_
          refine J.op rfl rfl rfl (V.conv rfl rfl Try.underlying76 Try.underlying2) ?_
          refine J.op rfl rfl rfl (V.mv rfl rfl) ?_
          refine J.op rfl rfl rfl (V.cmp rfl rfl rfl rfl) ?_
          refine J.nil ?_
          refine J.tN ?_
          refine J.cond rfl (fun hB16 => ?_) (fun hB16 => ?_)
          · replace h1 := B.t hB16 h1
            refine J.skip ?_
            refine J.tN ?_
            refine J.block ?_
            refine J.region ?_
            refine J.op rfl rfl rfl (V.mv rfl rfl) ?_
            refine J.op rfl rfl rfl (V.ar rfl rfl rfl rfl) ?_
            refine J.op rfl rfl rfl (V.as rfl rfl) ?_
            obtain ⟨i_17, ei_17, h1⟩ := B.lt h1
            refine J.val (congrArg (Value.int .i64) ei_17) ?_
            refine J.nil ?_
            refine J.bN ?_
            refine J.tN (J.next i_17 () (B.n h1) ?_)
            exact J.keep _ rfl (J.pickE [] rfl rfl J.here)
          · replace h1 := B.f hB16 h1
            refine J.exit ?_
            refine J.tE ?_
            refine J.tE ?_
            refine J.bE ?_
            obtain rfl := B.d h1
            refine J.tN (J.to () trivial ?_)
            exact J.keep _ rfl (J.pickE [] rfl rfl J.here)
      · intro gy19 _
        refine J.seq ?_
        obtain ⟨hC21, h0⟩ := B.chk h0
        obtain ⟨hC22, h0⟩ := B.chk h0
        refine J.cutQ (γ := Nat × Nat) (fun _ => True) (fun gx27 => [(1, .int .i64 p1_x), (7, bp gx27.2 0), (8, bp gx27.1 0)]) (fun gx27 => [.blk gx27.1 [.int .i16 ((rd enc_impl_Point p0_c y18).X), .int .i16 ((rd enc_impl_Point p0_c y18).Y)] 78, .blk gx27.2 [.int .i16 ((rd enc_impl_Point p0_c (IntKind.wrap .i64 (y18 - 1))).X), .int .i16 ((rd enc_impl_Point p0_c (IntKind.wrap .i64 (y18 - 1))).Y)] 78]) ?_ ?_
        · refine J.any 13 rfl [] mixed ?_
          refine JH.take (i := 0) [] rfl (by kernel_rfl) rfl rfl rfl rfl rfl (V.mv rfl rfl) ?_
          refine JH.take (i := 1) [] rfl (by kernel_rfl) rfl rfl rfl rfl rfl (V.mv rfl rfl) ?_
          refine JH.take (i := 2) [] rfl (by kernel_rfl) rfl rfl rfl rfl rfl (V.ar rfl rfl rfl rfl) ?_
          refine JH.take (i := 3) [] rfl (by kernel_rfl) rfl rfl rfl rfl rfl (V.ixS hS0 rfl rfl rfl tl40 ts78 hC21) ?_
          refine JH.take (i := 4) [] rfl (by kernel_rfl) rfl rfl rfl rfl rfl (V.elSA hS0 hC21 rfl rfl ts78 ta78) ?_
          refine JH.take (i := 5) [] rfl (by kernel_rfl) rfl rfl rfl rfl rfl (V.mv rfl rfl) ?_
          refine JH.take (i := 6) [] rfl (by kernel_rfl) rfl rfl rfl rfl rfl (V.mv rfl rfl) ?_
          refine JH.take (i := 7) [] rfl (by kernel_rfl) rfl rfl rfl rfl rfl (V.ixS hS0 rfl rfl rfl tl40 ts78 hC22) ?_
          refine JH.take (i := 8) [] rfl (by kernel_rfl) rfl rfl rfl rfl rfl (V.elSA hS0 hC22 rfl rfl ts78 ta78) ?_
          refine JH.all [9, 10] (by kernel_rfl) rfl (JHall.cons (JH.op rfl ?_) (JHall.cons (JH.op rfl ?_) (JHall.nil)))
          · refine J.alloc rfl rfl rfl rfl tz78 rfl fun b23 => ?_
            refine J.nil ?_
            refine JH.back [] rfl rfl ?_
            refine JH.all [10] (by kernel_rfl) rfl (JHall.cons (JH.op rfl ?_) (JHall.nil))
            refine J.alloc rfl rfl rfl rfl tz78 rfl fun b25 => ?_
            refine J.nil ?_
            refine JH.back [] rfl rfl ?_
            refine JH.all [11] (by kernel_rfl) rfl (JHall.cons (JH.op rfl ?_) (JHall.nil))
            refine J.stW (cs' := [.int .i16 ((rd enc_impl_Point p0_c (IntKind.wrap .i64 (y18 - 1))).X), .int .i16 ((rd enc_impl_Point p0_c (IntKind.wrap .i64 (y18 - 1))).Y)]) 1 rfl rfl rfl rfl rfl rfl ts78 rfl (fun _ H => (one_cons rfl (one_cons rfl one_nil))) rfl rfl ?_
            refine J.nil ?_
            refine JH.back [] rfl rfl ?_
            refine JH.all [12] (by kernel_rfl) rfl (JHall.cons (JH.op rfl ?_) (JHall.nil))
            refine J.stW (cs' := [.int .i16 ((rd enc_impl_Point p0_c y18).X), .int .i16 ((rd enc_impl_Point p0_c y18).Y)]) 0 rfl rfl rfl rfl rfl rfl ts78 rfl (fun _ H => (one_cons rfl (one_cons rfl one_nil))) rfl rfl ?_
            refine J.nil ?_
            refine JH.back [] rfl rfl ?_
            refine JH.fin (by kernel_rfl) ?_
            refine J.tN (J.to (b25, b23) trivial ?_)
            exact J.keep _ rfl (J.pickE [0, 1] rfl rfl J.here)
          · refine J.alloc rfl rfl rfl rfl tz78 rfl fun b25 => ?_
            refine J.nil ?_
            refine JH.back [] rfl rfl ?_
            refine JH.all [9] (by kernel_rfl) rfl (JHall.cons (JH.op rfl ?_) (JHall.nil))
            refine J.alloc rfl rfl rfl rfl tz78 rfl fun b23 => ?_
            refine J.nil ?_
            refine JH.back [] rfl rfl ?_
            refine JH.all [11] (by kernel_rfl) rfl (JHall.cons (JH.op rfl ?_) (JHall.nil))
            refine J.stW (cs' := [.int .i16 ((rd enc_impl_Point p0_c (IntKind.wrap .i64 (y18 - 1))).X), .int .i16 ((rd enc_impl_Point p0_c (IntKind.wrap .i64 (y18 - 1))).Y)]) 0 rfl rfl rfl rfl rfl rfl ts78 rfl (fun _ H => (one_cons rfl (one_cons rfl one_nil))) rfl rfl ?_
            refine J.nil ?_
            refine JH.back [] rfl rfl ?_
            refine JH.all [12] (by kernel_rfl) rfl (JHall.cons (JH.op rfl ?_) (JHall.nil))
            refine J.stW (cs' := [.int .i16 ((rd enc_impl_Point p0_c y18).X), .int .i16 ((rd enc_impl_Point p0_c y18).Y)]) 1 rfl rfl rfl rfl rfl rfl ts78 rfl (fun _ H => (one_cons rfl (one_cons rfl one_nil))) rfl rfl ?_
            refine J.nil ?_
            refine JH.back [] rfl rfl ?_
            refine JH.fin (by kernel_rfl) ?_
            refine J.tN (J.to (b25, b23) trivial ?_)
            exact J.keep _ rfl (J.pickE [1, 0] rfl rfl J.here)
        · intro gx27 _
          refine J.tN ?_
          refine J.seq ?_
          refine J.quiet mixed (by kernel_rfl) ?_
          refine JQ.op rfl rfl rfl (V.faB rfl rfl tf1_78) ?_
          refine JQ.op rfl rfl rfl (V.ldB 1 rfl rfl rfl Try.underlying76 ta76 rfl) ?_
          refine JQ.op rfl rfl rfl (V.conv rfl rfl Try.underlying76 Try.underlying2) ?_
          refine JQ.op rfl rfl rfl (V.faB rfl rfl tf1_78) ?_
          refine JQ.op rfl rfl rfl (V.ldB 0 rfl rfl rfl Try.underlying76 ta76 rfl) ?_
          refine JQ.op rfl rfl rfl (V.faB rfl rfl tf1_78) ?_
          refine JQ.op rfl rfl rfl (V.ldB 1 rfl rfl rfl Try.underlying76 ta76 rfl) ?_
          refine JQ.op rfl rfl rfl (V.ar rfl rfl rfl rfl) ?_
          refine JQ.op rfl rfl rfl (V.conv rfl rfl Try.underlying76 Try.underlying2) ?_
          refine JQ.op rfl rfl rfl (V.mv rfl rfl) ?_
          refine JQ.op rfl rfl rfl (V.faB rfl rfl tf0_78) ?_
          refine JQ.op rfl rfl rfl (V.ldB 1 rfl rfl rfl Try.underlying76 ta76 rfl) ?_
          refine JQ.op rfl rfl rfl (V.conv rfl rfl Try.underlying76 Try.underlying2) ?_
          refine JQ.op rfl rfl rfl (V.ar rfl rfl rfl rfl) ?_
          refine JQ.op rfl rfl rfl (V.ar rfl rfl rfl rfl) ?_
          refine JQ.op rfl rfl rfl (V.faB rfl rfl tf0_78) ?_
          refine JQ.op rfl rfl rfl (V.ldB 0 rfl rfl rfl Try.underlying76 ta76 rfl) ?_
          refine JQ.op rfl rfl rfl (V.faB rfl rfl tf0_78) ?_
          refine JQ.op rfl rfl rfl (V.ldB 1 rfl rfl rfl Try.underlying76 ta76 rfl) ?_
          refine JQ.op rfl rfl rfl (V.ar rfl rfl rfl rfl) ?_
          refine JQ.op rfl rfl rfl (V.conv rfl rfl Try.underlying76 Try.underlying2) ?_
          obtain ⟨hC28, h0⟩ := B.chk h0
          refine JQ.op rfl rfl rfl (V.quo rfl rfl rfl (nz hC28)) ?_
          refine JQ.op rfl rfl rfl (V.ar rfl rfl rfl rfl) ?_
          refine JQ.op rfl rfl rfl (V.as rfl rfl) ?_
          obtain ⟨t29, et29, h0⟩ := B.lt h0
          refine JQ.val (congrArg (Value.int .i64) et29) ?_
          refine JQ.nil ?_
          refine J.tN ?_
          refine J.ret ?_
          obtain rfl := B.e h0
          exact J.ret1 rfl rfl fun w H => ⟨(), rfl, H.pick [] (by decide)⟩

/-! ### (impl.Curve).behind: function 54 -/
noncomputable def impl_Curve_behind.f (p0_c : (List impl_Point)) (p1_light : Int) (p2_density : Int) : Option (Int) := (impl_Curve_at.f p0_c (IntKind.wrap .i64 (p1_light - (IntKind.wrap .i64 (Int.tdiv (IntKind.wrap .i64 (p2_density + 5)) 10))))).bind fun r1 => some r1
set_option maxRecDepth 100000 in
theorem impl_Curve_behind.calls (v0 : Value) (p0_c : (List impl_Point)) (p1_light : Int) (p2_density : Int) (r : Int) (w : World) (H0 : Own [] w w []) (hS0 : SlE [] w v0 78 enc_impl_Point p0_c) (h0 : impl_Curve_behind.f p0_c p1_light p2_density = some r) :
    Calls Try.prog 54 #[v0, .int .i64 p1_light, .int .i64 p2_density] w (fun e w' => ∃ _ : Unit, e = .returned (.int .i64 r) ∧ Own [] w w' []) := by
  unfold impl_Curve_behind.f at h0
  replace h0 := B.top h0
  refine calls_of_J (args := [v0, .int .i64 p1_light, .int .i64 p2_density]) Try.func54 rfl Try.ntmps54 rfl [(0, v0), (1, .int .i64 p1_light), (2, .int .i64 p2_density)] rfl H0 ?_
  refine J.seq ?_
  refine J.region ?_
  refine J.op rfl rfl rfl (V.as rfl rfl) ?_
  refine J.nil ?_
  refine J.tN ?_
  refine J.seq ?_
  refine J.region ?_
  refine J.op rfl rfl rfl (V.mv rfl rfl) ?_
  refine J.op rfl rfl rfl (V.mv rfl rfl) ?_
  refine J.op rfl rfl rfl (V.mv rfl rfl) ?_
  refine J.op rfl rfl rfl (V.ar rfl rfl rfl rfl) ?_
  refine J.op rfl rfl rfl (V.quo rfl rfl rfl rfl) ?_
  refine J.op rfl rfl rfl (V.ar rfl rfl rfl rfl) ?_
  obtain ⟨r1, hr2, h0⟩ := B.bind h0
  refine J.clA (l := [.tmp 7, .tmp 12]) [] [] cf60 (wN rfl) rfl rfl rfl rfl rfl rfl (fun w H => impl_Curve_at.calls v0 p0_c (IntKind.wrap .i64 (p1_light - (IntKind.wrap .i64 (Int.tdiv (IntKind.wrap .i64 (p2_density + 5)) 10)))) r1 w (Own.refl w) (Sl.laterA hS0 H) hr2) fun g3 => ?_
  refine J.op rfl rfl rfl (V.as rfl rfl) ?_
  refine J.nil ?_
  refine J.tN ?_
  refine J.ret ?_
  obtain rfl := B.e h0
  exact J.ret1 rfl rfl fun w H => ⟨(), rfl, H.pick [] (by decide)⟩

/-! ### (impl.Curve).leastLight: function 52 -/
noncomputable def impl_Curve_leastLight.b1 (p0_c : (List impl_Point)) (p1_density : Int) (p2_target : Int) : Int → Option (Step (Int) (Int)) := fun s1 => (impl_areThirds.f s1).bind fun r4 => bif r4 then ((impl_Curve_behind.f p0_c s1 p1_density).bind fun r8 => bif (decide (r8 < p2_target)) then ((some (IntKind.wrap .i64 (s1 + 1))).bind fun k_12 => some (.next k_12)) else (some (.done s1))) else (some (.done s1))
noncomputable def impl_Curve_leastLight.f (p0_c : (List impl_Point)) (p1_density : Int) (p2_target : Int) : Option (Int) := (loopW (impl_Curve_leastLight.b1 p0_c p1_density p2_target) 0).bind fun y13 => some y13
set_option maxRecDepth 100000 in
theorem impl_Curve_leastLight.calls (v0 : Value) (p0_c : (List impl_Point)) (p1_density : Int) (p2_target : Int) (r : Int) (w : World) (H0 : Own [] w w []) (hS0 : SlE [] w v0 78 enc_impl_Point p0_c) (h0 : impl_Curve_leastLight.f p0_c p1_density p2_target = some r) :
    Calls Try.prog 52 #[v0, .int .i64 p1_density, .int .i64 p2_target] w (fun e w' => ∃ _ : Unit, e = .returned (.int .i64 r) ∧ Own [] w w' []) := by
  unfold impl_Curve_leastLight.f at h0
  replace h0 := B.top h0
  refine calls_of_J (args := [v0, .int .i64 p1_density, .int .i64 p2_target]) Try.func52 rfl Try.ntmps52 rfl [(0, v0), (1, .int .i64 p1_density), (2, .int .i64 p2_target)] rfl H0 ?_
  refine J.seq ?_
  refine J.region ?_
  refine J.op rfl rfl rfl (V.as rfl rfl) ?_
  refine J.nil ?_
  refine J.tN ?_
  refine J.seq ?_
  refine J.region ?_
  refine J.op rfl rfl rfl (V.as rfl rfl) ?_
  refine J.nil ?_
  refine J.tN ?_
  refine J.seq ?_
  obtain ⟨y13, hy15, h0⟩ := B.bind h0
  refine J.cut (γ := Unit) (fun _ => True) (fun gy14 => [(7, .int .i64 y13)]) (fun gy14 => []) ?_ ?_
  · refine J.block ?_
    refine J.loop (γ := Unit) hy15 (fun s1 g2 => [(0, v0), (1, .int .i64 p1_density), (2, .int .i64 p2_target), (7, .int .i64 s1)]) (fun s1 g2 => []) () ?_ ?_
    · exact J.keep _ rfl (J.pickE [] rfl rfl J.here)
    · intro rec3 s1 g2 h1
      unfold impl_Curve_leastLight.b1 at h1
      refine J.seq ?_
      refine J.seq ?_
      refine J.region ?_
      refine J.op rfl rfl rfl (V.mv rfl rfl) ?_
      obtain ⟨r4, hr5, h1⟩ := B.bind h1
      refine J.clA (l := [.tmp 8]) [] [] cf53 (wN rfl) rfl rfl rfl rfl rfl rfl (fun w H => impl_areThirds.calls s1 r4 w (Own.refl w)  hr5) fun g6 => ?_
      refine J.op rfl rfl rfl (V.mv rfl rfl) ?_
      refine J.split 10 rfl (fun hB7 => ?_) (fun hB7 => ?_)
      · replace h1 := B.t hB7 h1
        refine J.opOn rfl rfl rfl rfl rfl (V.mv rfl rfl) ?_
        refine J.opOn rfl rfl rfl rfl rfl (V.mv rfl rfl) ?_
        refine J.opOn rfl rfl rfl rfl rfl (V.mv rfl rfl) ?_
        obtain ⟨r8, hr9, h1⟩ := B.bind h1
        refine J.clA (l := [.tmp 11, .tmp 12, .tmp 13]) [] [] cf54 (wY rfl rfl rfl) rfl rfl rfl rfl rfl rfl (fun w H => impl_Curve_behind.calls v0 p0_c s1 p1_density r8 w (Own.refl w) (Sl.laterA hS0 H) hr9) fun g10 => ?_
        refine J.opOn rfl rfl rfl rfl rfl (V.mv rfl rfl) ?_
        refine J.opOn rfl rfl rfl rfl rfl (V.cmp rfl rfl rfl rfl) ?_
        refine J.op rfl rfl rfl (V.pkT rfl rfl rfl) ?_
        refine J.nil ?_
        refine J.tN ?_
        refine J.cond rfl (fun hB11 => ?_) (fun hB11 => ?_)
        · replace h1 := B.t hB11 h1
          refine J.skip ?_
          refine J.tN ?_
          refine J.block ?_
          refine J.region ?_
          refine J.op rfl rfl rfl (V.mv rfl rfl) ?_
          refine J.op rfl rfl rfl (V.ar rfl rfl rfl rfl) ?_
          refine J.op rfl rfl rfl (V.as rfl rfl) ?_
          obtain ⟨k_12, ek_12, h1⟩ := B.lt h1
          refine J.val (congrArg (Value.int .i64) ek_12) ?_
          refine J.nil ?_
          refine J.bN ?_
          refine J.tN (J.next k_12 () (B.n h1) ?_)
          exact J.keep _ rfl (J.pickE [] rfl rfl J.here)
        · replace h1 := B.f hB11 h1
          refine J.exit ?_
          refine J.tE ?_
          refine J.tE ?_
          refine J.bE ?_
          obtain rfl := B.d h1
          refine J.tN (J.to () trivial ?_)
          exact J.keep _ rfl (J.pickE [] rfl rfl J.here)
      · replace h1 := B.f hB7 h1
        refine J.opOff rfl rfl rfl rfl rfl rfl ?_
        refine J.opOff rfl rfl rfl rfl rfl rfl ?_
        refine J.opOff rfl rfl rfl rfl rfl rfl ?_
        refine J.opOff rfl rfl rfl rfl rfl rfl ?_
        refine J.opOff rfl rfl rfl rfl rfl rfl ?_
        refine J.opOff rfl rfl rfl rfl rfl rfl ?_
        refine J.op rfl rfl rfl (V.pkF rfl rfl rfl) ?_
        refine J.nil ?_
        refine J.tN ?_
        refine J.condF rfl ?_
        refine J.exit ?_
        refine J.tE ?_
        refine J.tE ?_
        refine J.bE ?_
        obtain rfl := B.d h1
        refine J.tN (J.to () trivial ?_)
        exact J.keep _ rfl (J.pickE [] rfl rfl J.here)
  · intro gy14 _
    refine J.seq ?_
    refine J.region ?_
    refine J.op rfl rfl rfl (V.mv rfl rfl) ?_
    refine J.op rfl rfl rfl (V.as rfl rfl) ?_
    refine J.nil ?_
    refine J.tN ?_
    refine J.ret ?_
    obtain rfl := B.e h0
    exact J.ret1 rfl rfl fun w H => ⟨(), rfl, H.pick [] (by decide)⟩

/-! ### impl.MisfitOf: function 20 -/
noncomputable def impl_MisfitOf.f (p0_paper : (List impl_Point)) (p1_thin : Int) (p2_thick : Int) (p3_dark : Int) (p4_light : Int) : Option (Int × Int × Int) := (impl_areFour.f p1_thin p2_thick p3_dark p4_light).bind fun r1 => (impl_curveCode.f p0_paper r1).bind fun r4 => bif (r4 != 0) then (some (0, 0, r4)) else ((impl_Curve_leastLight.f p0_paper p1_thin p3_dark).bind fun r8 => (impl_areThirds.f r8).bind fun r11 => bif (!r11) then (some (0, 0, 6)) else ((impl_Curve_behind.f p0_paper r8 p2_thick).bind fun r15 => (some (IntKind.wrap .i64 (r15 - p4_light))).bind fun t18 => some (r8, t18, 0)))
set_option maxRecDepth 100000 in
theorem impl_MisfitOf.calls (v0 : Value) (p0_paper : (List impl_Point)) (p1_thin : Int) (p2_thick : Int) (p3_dark : Int) (p4_light : Int) (r : Int × Int × Int) (w : World) (H0 : Own [] w w []) (hS0 : SlE [] w v0 78 enc_impl_Point p0_paper) (h0 : impl_MisfitOf.f p0_paper p1_thin p2_thick p3_dark p4_light = some r) :
    Calls Try.prog 20 #[v0, .int .i64 p1_thin, .int .i64 p2_thick, .int .i64 p3_dark, .int .i64 p4_light] w (fun e w' => ∃ _ : Unit, e = .returned (.tuple #[.int .i64 r.1, .int .i64 r.2.1, .int .i64 r.2.2]) ∧ Own [] w w' []) := by
  unfold impl_MisfitOf.f at h0
  replace h0 := B.top h0
  refine calls_of_J (args := [v0, .int .i64 p1_thin, .int .i64 p2_thick, .int .i64 p3_dark, .int .i64 p4_light]) Try.func20 rfl Try.ntmps20 rfl [(0, v0), (1, .int .i64 p1_thin), (2, .int .i64 p2_thick), (3, .int .i64 p3_dark), (4, .int .i64 p4_light)] rfl H0 ?_
  refine J.seq ?_
  refine J.region ?_
  refine J.op rfl rfl rfl (V.as rfl rfl) ?_
  refine J.op rfl rfl rfl (V.as rfl rfl) ?_
  refine J.op rfl rfl rfl (V.as rfl rfl) ?_
  refine J.nil ?_
  refine J.tN ?_
  refine J.seq ?_
  refine J.seq ?_
  refine J.region ?_
  refine J.op rfl rfl rfl (V.mv rfl rfl) ?_
  refine J.op rfl rfl rfl (V.mv rfl rfl) ?_
  refine J.op rfl rfl rfl (V.mv rfl rfl) ?_
  refine J.op rfl rfl rfl (V.mv rfl rfl) ?_
  refine J.op rfl rfl rfl (V.mv rfl rfl) ?_
  obtain ⟨r1, hr2, h0⟩ := B.bind h0
  refine J.clA (l := [.tmp 16, .tmp 17, .tmp 18, .tmp 19]) [] [] cf38 (wN rfl) rfl rfl rfl rfl rfl rfl (fun w H => impl_areFour.calls p1_thin p2_thick p3_dark p4_light r1 w (Own.refl w)  hr2) fun g3 => ?_
  obtain ⟨r4, hr5, h0⟩ := B.bind h0
  refine J.clA (l := [.tmp 15, .tmp 20]) [] [] cf51 (wN rfl) rfl rfl rfl rfl rfl rfl (fun w H => impl_curveCode.calls v0 p0_paper r1 r4 w (Own.refl w) (Sl.laterA hS0 H) hr5) fun g6 => ?_
  refine J.op rfl rfl rfl (V.as rfl rfl) ?_
  refine J.nil ?_
  refine J.tN ?_
  refine J.seq ?_
  refine J.region ?_
  refine J.op rfl rfl rfl (V.mv rfl rfl) ?_
  refine J.op rfl rfl rfl (V.cmp rfl rfl rfl rfl) ?_
  refine J.nil ?_
  refine J.tN ?_
  refine J.cond rfl (fun hB7 => ?_) (fun hB7 => ?_)
  · replace h0 := B.t hB7 h0
    refine J.seq ?_
    refine J.region ?_
    refine J.op rfl rfl rfl (V.mv rfl rfl) ?_
    refine J.op rfl rfl rfl (V.as rfl rfl) ?_
    refine J.op rfl rfl rfl (V.as rfl rfl) ?_
    refine J.op rfl rfl rfl (V.as rfl rfl) ?_
    refine J.nil ?_
    refine J.tN ?_
    refine J.ret ?_
    refine J.tR ?_
    obtain rfl := B.e h0
    exact J.ret3 rfl rfl rfl rfl fun w H => ⟨(), rfl, H.pick [] (by decide)⟩
  · replace h0 := B.f hB7 h0
    refine J.skip ?_
    refine J.tN ?_
    refine J.seq ?_
    refine J.region ?_
    refine J.op rfl rfl rfl (V.mv rfl rfl) ?_
    refine J.op rfl rfl rfl (V.mv rfl rfl) ?_
    refine J.op rfl rfl rfl (V.mv rfl rfl) ?_
    obtain ⟨r8, hr9, h0⟩ := B.bind h0
    refine J.clA (l := [.tmp 25, .tmp 26, .tmp 27]) [] [] cf52 (wN rfl) rfl rfl rfl rfl rfl rfl (fun w H => impl_Curve_leastLight.calls v0 p0_paper p1_thin p3_dark r8 w (Own.refl w) (Sl.laterA hS0 H) hr9) fun g10 => ?_
    refine J.op rfl rfl rfl (V.as rfl rfl) ?_
    refine J.nil ?_
    refine J.tN ?_
    refine J.seq ?_
    refine J.seq ?_
    refine J.region ?_
    refine J.op rfl rfl rfl (V.mv rfl rfl) ?_
    obtain ⟨r11, hr12, h0⟩ := B.bind h0
    refine J.clA (l := [.tmp 29]) [] [] cf53 (wN rfl) rfl rfl rfl rfl rfl rfl (fun w H => impl_areThirds.calls r8 r11 w (Own.refl w)  hr12) fun g13 => ?_
    refine J.op rfl rfl rfl (V.nt rfl rfl) ?_
    refine J.nil ?_
    refine J.tN ?_
    refine J.cond rfl (fun hB14 => ?_) (fun hB14 => ?_)
    · replace h0 := B.t hB14 h0
      refine J.seq ?_
      refine J.region ?_
      refine J.op rfl rfl rfl (V.as rfl rfl) ?_
      refine J.op rfl rfl rfl (V.as rfl rfl) ?_
      refine J.op rfl rfl rfl (V.as rfl rfl) ?_
      refine J.nil ?_
      refine J.tN ?_
      refine J.ret ?_
      refine J.tR ?_
      obtain rfl := B.e h0
      exact J.ret3 rfl rfl rfl rfl fun w H => ⟨(), rfl, H.pick [] (by decide)⟩
    · replace h0 := B.f hB14 h0
      refine J.skip ?_
      refine J.tN ?_
      refine J.seq ?_
      refine J.region ?_
      refine J.op rfl rfl rfl (V.mv rfl rfl) ?_
      refine J.op rfl rfl rfl (V.mv rfl rfl) ?_
      refine J.op rfl rfl rfl (V.mv rfl rfl) ?_
      refine J.op rfl rfl rfl (V.mv rfl rfl) ?_
      obtain ⟨r15, hr16, h0⟩ := B.bind h0
      refine J.clA (l := [.tmp 33, .tmp 34, .tmp 35]) [] [] cf54 (wN rfl) rfl rfl rfl rfl rfl rfl (fun w H => impl_Curve_behind.calls v0 p0_paper r8 p2_thick r15 w (Own.refl w) (Sl.laterA hS0 H) hr16) fun g17 => ?_
      refine J.op rfl rfl rfl (V.mv rfl rfl) ?_
      refine J.op rfl rfl rfl (V.ar rfl rfl rfl rfl) ?_
      refine J.op rfl rfl rfl (V.as rfl rfl) ?_
      refine J.op rfl rfl rfl (V.as rfl rfl) ?_
      obtain ⟨t18, et18, h0⟩ := B.lt h0
      refine J.val (congrArg (Value.int .i64) et18) ?_
      refine J.op rfl rfl rfl (V.as rfl rfl) ?_
      refine J.nil ?_
      refine J.tN ?_
      refine J.ret ?_
      obtain rfl := B.e h0
      exact J.ret3 rfl rfl rfl rfl fun w H => ⟨(), rfl, H.pick [] (by decide)⟩

/-! ### slices.IndexFunc[[]impl.Curve,impl.Curve]: function 80 -/
noncomputable def slices_IndexFunc_impl_Curve_impl_Curve.b1 (p0_s : (List (List impl_Point))) (p1_f : (List impl_Point) → Option Bool) : Int → Option (Step (Int) (Sum (Unit) (Int))) := fun s1 => bif (decide (s1 < (p0_s.length : Int))) then (bif (inB s1 p0_s.length) then ((p1_f (rdN p0_s s1)).bind fun r9 => bif r9 then (some (.done (.inr s1))) else (some (.next (IntKind.wrap .i64 (s1 + 1))))) else none) else (some (.done (.inl ())))
noncomputable def slices_IndexFunc_impl_Curve_impl_Curve.f (p0_s : (List (List impl_Point))) (p1_f : (List impl_Point) → Option Bool) : Option (Int) := (loopW (slices_IndexFunc_impl_Curve_impl_Curve.b1 p0_s p1_f) 0).bind (Sum.elim (fun y14 => some (-1)) (fun r => some r))
set_option maxRecDepth 100000 in
theorem slices_IndexFunc_impl_Curve_impl_Curve.calls (v0 : Value) (p0_s : (List (List impl_Point))) (g1_ : Nat) (c1_ : Array Value) (p1_f : (List impl_Point) → Option Bool) (r : Int) (w : World) (H0 : Own [] w w []) (hS0 : SlN [] w v0 40 78 enc_impl_Point p0_s) (hg1 : CallsFn Try.prog g1_) (hF1 : ∀ w2 u0 (x : (List impl_Point)) r, Own [] w w2 [] → SlE [] w2 u0 78 enc_impl_Point x → p1_f x = some r → Calls Try.prog g1_ (#[u0] ++ c1_) w2 (fun e w3 => ∃ _ : Unit, e = .returned (.bool r) ∧ Own [] w2 w3 [])) (h0 : slices_IndexFunc_impl_Curve_impl_Curve.f p0_s p1_f = some r) :
    Calls Try.prog 80 #[v0, .func (.func g1_) #[] c1_] w (fun e w' => ∃ _ : Unit, e = .returned (.int .i64 r) ∧ Own [] w w' []) := by
  unfold slices_IndexFunc_impl_Curve_impl_Curve.f at h0
  replace h0 := B.top h0
  refine calls_of_J (args := [v0, .func (.func g1_) #[] c1_]) Try.func80 rfl Try.ntmps80 rfl [(0, v0), (1, .func (.func g1_) #[] c1_)] rfl H0 ?_
  obtain ⟨us0_, hN0, hE0⟩ := id hS0
  refine J.seq ?_
  refine J.region ?_
  refine J.op rfl rfl rfl (V.as rfl rfl) ?_
  refine J.nil ?_
  refine J.tN ?_
  refine J.seq ?_
  refine J.seq ?_
  refine J.region ?_
  refine J.op rfl rfl rfl (V.mv rfl rfl) ?_
  refine J.op rfl rfl rfl (V.lenS hN0 rfl rfl tl26) ?_
  refine J.op rfl rfl rfl (V.mv rfl rfl) ?_
  refine J.nil ?_
  refine J.tN ?_
  obtain ⟨o16, hy15, h0⟩ := B.bind h0
  refine J.cutQ (γ := (Unit) × (Unit)) (fun gy14 => o16 = .inl gy14.1) (fun gy14 => []) (fun gy14 => []) ?_ ?_
  · refine J.block ?_
    refine J.loop (γ := Unit) hy15 (fun s1 g2 => [(0, v0), (1, .func (.func g1_) #[] c1_), (7, .int .i64 (p0_s.length : Int)), (8, .int .i64 s1)]) (fun s1 g2 => []) () ?_ ?_
    · exact J.keep _ rfl (J.pickE [] rfl rfl J.here)
    · intro rec3 s1 g2 h1
      unfold slices_IndexFunc_impl_Curve_impl_Curve.b1 at h1
      refine J.seq ?_
      refine J.region ?_
      refine J.op rfl rfl rfl (V.cmp rfl rfl rfl rfl) ?_
      refine J.nil ?_
      refine J.tN ?_
      refine J.seq ?_
      refine J.cond rfl (fun hB4 => ?_) (fun hB4 => ?_)
      · replace h1 := B.t hB4 h1
        refine J.skip ?_
        refine J.tN ?_
        refine J.seq ?_
        refine J.block ?_
        refine J.seq ?_
        refine J.region ?_
        refine J.op rfl rfl rfl (V.mv rfl rfl) ?_
        refine J.op rfl rfl rfl (V.as rfl rfl) ?_
        refine J.nil ?_
        refine J.tN ?_
        refine J.seq ?_
        refine J.region ?_
        refine J.op rfl rfl rfl (V.mv rfl rfl) ?_
        refine J.op rfl rfl rfl (V.mv rfl rfl) ?_
        refine J.op rfl rfl rfl (V.mv rfl rfl) ?_
        obtain ⟨hC5, h1⟩ := B.chk h1
        refine J.op rfl rfl rfl (V.ixS hN0 rfl rfl rfl tl26 ts40 hC5) ?_
        obtain ⟨u6, hu7, hS8⟩ := hE0 _ hC5
        refine J.op rfl rfl rfl (V.nld hN0 hC5 hu7 rfl rfl Try.underlying40 ta40) ?_
        obtain ⟨r9, hr10, h1⟩ := B.bind h1
        refine J.clA (l := [.tmp 15]) [] [] hg1 (wN rfl) rfl rfl rfl rfl rfl rfl (fun w H => hF1 w u6 (rdN p0_s s1) r9 (Own.bare H) (Sl.laterA hS8 H) hr10) fun g11 => ?_
        refine J.nil ?_
        refine J.tN ?_
        refine J.cond rfl (fun hB12 => ?_) (fun hB12 => ?_)
        · replace h1 := B.t hB12 h1
          refine J.seq ?_
          refine J.region ?_
          refine J.op rfl rfl rfl (V.mv rfl rfl) ?_
          refine J.op rfl rfl rfl (V.as rfl rfl) ?_
          refine J.nil ?_
          refine J.tN ?_
          refine J.ret ?_
          refine J.bR ?_
          refine J.tR ?_
          refine J.tR ?_
          refine J.bR ?_
          refine J.tR ?_
          refine J.tR ?_
          obtain rfl := B.d h1
          replace h0 := B.inr h0
          obtain rfl := B.e h0
          exact J.ret1 rfl rfl fun w H => ⟨(), rfl, H.pick [] (by decide)⟩
        · replace h1 := B.f hB12 h1
          refine J.skip ?_
          refine J.bN ?_
          refine J.tN ?_
          refine J.region ?_
          refine J.op rfl rfl rfl (V.ar rfl rfl rfl rfl) ?_
          refine J.op rfl rfl rfl (V.mv rfl rfl) ?_
          refine J.nil ?_
          refine J.tN (J.next (IntKind.wrap .i64 (s1 + 1)) () (B.n h1) ?_)
          exact J.keep _ rfl (J.pickE [] rfl rfl J.here)
      · replace h1 := B.f hB4 h1
        refine J.exit ?_
        refine J.tE ?_
        refine J.tE ?_
        refine J.bE ?_
        obtain rfl := B.d h1
        refine J.tN (J.to ((), ()) rfl ?_)
        exact J.keep _ rfl (J.pickE [] rfl rfl J.here)
  · intro gy14 hG
    replace h0 := B.inl hG h0
    refine J.tN ?_
    refine J.seq ?_
    refine J.region ?_
    refine J.op rfl rfl rfl (V.as rfl rfl) ?_
    refine J.nil ?_
    refine J.tN ?_
    refine J.ret ?_
    obtain rfl := B.e h0
    exact J.ret1 rfl rfl fun w H => ⟨(), rfl, H.pick [] (by decide)⟩

/-! ### slices.ContainsFunc[[]impl.Curve,impl.Curve]: function 68 -/
noncomputable def slices_ContainsFunc_impl_Curve_impl_Curve.f (p0_s : (List (List impl_Point))) (p1_f : (List impl_Point) → Option Bool) : Option (Bool) := (slices_IndexFunc_impl_Curve_impl_Curve.f p0_s p1_f).bind fun r1 => (some (decide (0 ≤ r1))).bind fun t4 => some t4
set_option maxRecDepth 100000 in
theorem slices_ContainsFunc_impl_Curve_impl_Curve.calls (v0 : Value) (p0_s : (List (List impl_Point))) (g1_ : Nat) (c1_ : Array Value) (p1_f : (List impl_Point) → Option Bool) (r : Bool) (w : World) (H0 : Own [] w w []) (hS0 : SlN [] w v0 40 78 enc_impl_Point p0_s) (hg1 : CallsFn Try.prog g1_) (hF1 : ∀ w2 u0 (x : (List impl_Point)) r, Own [] w w2 [] → SlE [] w2 u0 78 enc_impl_Point x → p1_f x = some r → Calls Try.prog g1_ (#[u0] ++ c1_) w2 (fun e w3 => ∃ _ : Unit, e = .returned (.bool r) ∧ Own [] w2 w3 [])) (h0 : slices_ContainsFunc_impl_Curve_impl_Curve.f p0_s p1_f = some r) :
    Calls Try.prog 68 #[v0, .func (.func g1_) #[] c1_] w (fun e w' => ∃ _ : Unit, e = .returned (.bool r) ∧ Own [] w w' []) := by
  unfold slices_ContainsFunc_impl_Curve_impl_Curve.f at h0
  replace h0 := B.top h0
  refine calls_of_J (args := [v0, .func (.func g1_) #[] c1_]) Try.func68 rfl Try.ntmps68 rfl [(0, v0), (1, .func (.func g1_) #[] c1_)] rfl H0 ?_
  obtain ⟨us0_, hN0, hE0⟩ := id hS0
  refine J.seq ?_
  refine J.region ?_
  refine J.op rfl rfl rfl (V.as rfl rfl) ?_
  refine J.nil ?_
  refine J.tN ?_
  refine J.seq ?_
  refine J.region ?_
  refine J.op rfl rfl rfl (V.mv rfl rfl) ?_
  refine J.op rfl rfl rfl (V.mv rfl rfl) ?_
  obtain ⟨r1, hr2, h0⟩ := B.bind h0
  refine J.clA (l := [.tmp 5, .tmp 6]) [] [] cf80 (wN rfl) rfl rfl rfl rfl rfl rfl (fun w H => slices_IndexFunc_impl_Curve_impl_Curve.calls v0 p0_s g1_ c1_ p1_f r1 w (Own.refl w) (SlN.laterA hS0 H) hg1 (fun w2 ux0 x0 r HO hx0 hp => hF1 w2 ux0 x0 r (Own.through H HO) hx0 hp) hr2) fun g3 => ?_
  refine J.op rfl rfl rfl (V.cmp rfl rfl rfl rfl) ?_
  refine J.op rfl rfl rfl (V.as rfl rfl) ?_
  obtain ⟨t4, et4, h0⟩ := B.lt h0
  refine J.val (congrArg (Value.bool) et4) ?_
  refine J.nil ?_
  refine J.tN ?_
  refine J.ret ?_
  obtain rfl := B.e h0
  exact J.ret1 rfl rfl fun w H => ⟨(), rfl, H.pick [] (by decide)⟩

/-! ### impl.gradesCode$1: function 69 -/
noncomputable def impl_gradesCode_1.f (p0_c : (List impl_Point)) : Option (Bool) := (impl_ValidCurve.f p0_c).bind fun r1 => (some (!r1)).bind fun t4 => some t4
set_option maxRecDepth 100000 in
theorem impl_gradesCode_1.calls (v0 : Value) (p0_c : (List impl_Point)) (r : Bool) (w : World) (H0 : Own [] w w []) (hS0 : SlE [] w v0 78 enc_impl_Point p0_c) (h0 : impl_gradesCode_1.f p0_c = some r) :
    Calls Try.prog 69 #[v0] w (fun e w' => ∃ _ : Unit, e = .returned (.bool r) ∧ Own [] w w' []) := by
  unfold impl_gradesCode_1.f at h0
  replace h0 := B.top h0
  refine calls_of_J (args := [v0]) Try.func69 rfl Try.ntmps69 rfl [(0, v0)] rfl H0 ?_
  refine J.seq ?_
  refine J.region ?_
  refine J.op rfl rfl rfl (V.as rfl rfl) ?_
  refine J.nil ?_
  refine J.tN ?_
  refine J.seq ?_
  refine J.region ?_
  refine J.op rfl rfl rfl (V.mv rfl rfl) ?_
  obtain ⟨r1, hr2, h0⟩ := B.bind h0
  refine J.clA (l := [.tmp 3]) [] [] cf70 (wN rfl) rfl rfl rfl rfl rfl rfl (fun w H => impl_ValidCurve.calls v0 p0_c r1 w (Own.refl w) (Sl.laterA hS0 H) hr2) fun g3 => ?_
  refine J.op rfl rfl rfl (V.nt rfl rfl) ?_
  refine J.op rfl rfl rfl (V.as rfl rfl) ?_
  obtain ⟨t4, et4, h0⟩ := B.lt h0
  refine J.val (congrArg (Value.bool) et4) ?_
  refine J.nil ?_
  refine J.tN ?_
  refine J.ret ?_
  obtain rfl := B.e h0
  exact J.ret1 rfl rfl fun w H => ⟨(), rfl, H.pick [] (by decide)⟩

/-! ### impl.length[impl.Curve]: function 72 -/
noncomputable def impl_length_impl_Curve.f (p0_list : (List (List impl_Point))) : Option (Int) := (some (p0_list.length : Int)).bind fun t1 => some t1
set_option maxRecDepth 100000 in
theorem impl_length_impl_Curve.calls (v0 : Value) (p0_list : (List (List impl_Point))) (r : Int) (w : World) (H0 : Own [] w w []) (hS0 : SlN [] w v0 40 78 enc_impl_Point p0_list) (h0 : impl_length_impl_Curve.f p0_list = some r) :
    Calls Try.prog 72 #[v0] w (fun e w' => ∃ _ : Unit, e = .returned (.int .i64 r) ∧ Own [] w w' []) := by
  unfold impl_length_impl_Curve.f at h0
  replace h0 := B.top h0
  refine calls_of_J (args := [v0]) Try.func72 rfl Try.ntmps72 rfl [(0, v0)] rfl H0 ?_
  obtain ⟨us0_, hN0, hE0⟩ := id hS0
  refine J.seq ?_
  refine J.region ?_
  refine J.op rfl rfl rfl (V.as rfl rfl) ?_
  refine J.nil ?_
  refine J.tN ?_
  refine J.seq ?_
  refine J.region ?_
  refine J.op rfl rfl rfl (V.mv rfl rfl) ?_
  refine J.op rfl rfl rfl (V.lenS hN0 rfl rfl tl26) ?_
  refine J.op rfl rfl rfl (V.as rfl rfl) ?_
  obtain ⟨t1, et1, h0⟩ := B.lt h0
  refine J.val (congrArg (Value.int .i64) et1) ?_
  refine J.nil ?_
  refine J.tN ?_
  refine J.ret ?_
  obtain rfl := B.e h0
  exact J.ret1 rfl rfl fun w H => ⟨(), rfl, H.pick [] (by decide)⟩

/-! ### impl.gradesCode: function 37 -/
noncomputable def impl_gradesCode.f (p0_grades : (List (List impl_Point))) (p1_fine : Bool) : Option (Int) := (slices_ContainsFunc_impl_Curve_impl_Curve.f p0_grades (fun z1 => impl_gradesCode_1.f z1 )).bind fun r2 => bif r2 then (some 1) else (((impl_length_impl_Curve.f p0_grades).bind fun r8 => (impl_within.f r8 1 6).bind fun r11 => bif (!r11) then (some true) else ((some (!p1_fine)).bind fun t15 => some t15) : Option (Bool)).bind fun y6 => bif y6 then (some 2) else (some 0))
set_option maxRecDepth 100000 in
theorem impl_gradesCode.calls (v0 : Value) (p0_grades : (List (List impl_Point))) (p1_fine : Bool) (r : Int) (w : World) (H0 : Own [] w w []) (hS0 : SlN [] w v0 40 78 enc_impl_Point p0_grades) (h0 : impl_gradesCode.f p0_grades p1_fine = some r) :
    Calls Try.prog 37 #[v0, .bool p1_fine] w (fun e w' => ∃ _ : Unit, e = .returned (.int .i64 r) ∧ Own [] w w' []) := by
  unfold impl_gradesCode.f at h0
  replace h0 := B.top h0
  refine calls_of_J (args := [v0, .bool p1_fine]) Try.func37 rfl Try.ntmps37 rfl [(0, v0), (1, .bool p1_fine)] rfl H0 ?_
  obtain ⟨us0_, hN0, hE0⟩ := id hS0
  refine J.seq ?_
  refine J.region ?_
  refine J.op rfl rfl rfl (V.as rfl rfl) ?_
  refine J.nil ?_
  refine J.tN ?_
  refine J.seq ?_
  refine J.block ?_
  refine J.seq ?_
  refine J.region ?_
  refine J.op rfl rfl rfl (V.mv rfl rfl) ?_
  obtain ⟨r2, hr3, h0⟩ := B.bind h0
  refine J.clA (l := [.tmp 6, .func 69]) [] [] cf68 (wN rfl) rfl rfl rfl rfl rfl rfl (fun w H => slices_ContainsFunc_impl_Curve_impl_Curve.calls v0 p0_grades 69 (#[]) (fun z1 => impl_gradesCode_1.f z1 ) r2 w (Own.refl w) (SlN.laterA hS0 H) (cf69 : CallsFn _ 69) (fun w2 uz1 z1 r HO hz1 hp => impl_gradesCode_1.calls uz1 z1  r w2 (Own.refl w2) hz1 hp) hr3) fun g4 => ?_
  refine J.op rfl rfl rfl (V.as rfl rfl) ?_
  refine J.nil ?_
  refine J.tN ?_
  refine J.cond rfl (fun hB5 => ?_) (fun hB5 => ?_)
  · replace h0 := B.t hB5 h0
    refine J.seq ?_
    refine J.region ?_
    refine J.op rfl rfl rfl (V.as rfl rfl) ?_
    refine J.nil ?_
    refine J.tN ?_
    refine J.ret ?_
    refine J.bR ?_
    refine J.tR ?_
    obtain rfl := B.e h0
    exact J.ret1 rfl rfl fun w H => ⟨(), rfl, H.pick [] (by decide)⟩
  · replace h0 := B.f hB5 h0
    refine J.seq ?_
    obtain ⟨y6, hy16, h0⟩ := B.bind h0
    replace hy16 := B.top hy16
    refine J.cut (γ := Unit) (fun _ => True) (fun gy7 => [(8, .bool y6)]) (fun gy7 => []) ?_ ?_
    · have h1 := hy16
      refine J.region ?_
      refine J.op rfl rfl rfl (V.mv rfl rfl) ?_
      obtain ⟨r8, hr9, h1⟩ := B.bind h1
      refine J.clA (l := [.tmp 9]) [] [] cf72 (wN rfl) rfl rfl rfl rfl rfl rfl (fun w H => impl_length_impl_Curve.calls v0 p0_grades r8 w (Own.refl w) (SlN.laterA hS0 H) hr9) fun g10 => ?_
      obtain ⟨r11, hr12, h1⟩ := B.bind h1
      refine J.clA (l := [.tmp 10, .const (.int .i64 1), .const (.int .i64 6)]) [] [] cf71 (wN rfl) rfl rfl rfl rfl rfl rfl (fun w H => impl_within.calls r8 1 6 r11 w (Own.refl w)  hr12) fun g13 => ?_
      refine J.op rfl rfl rfl (V.nt rfl rfl) ?_
      refine J.op rfl rfl rfl (V.mv rfl rfl) ?_
      refine J.split 13 rfl (fun hB14 => ?_) (fun hB14 => ?_)
      · replace h1 := B.t hB14 h1
        refine J.opOff rfl rfl rfl rfl rfl rfl ?_
        refine J.opOff rfl rfl rfl rfl rfl rfl ?_
        refine J.op rfl rfl rfl (V.pkT rfl rfl rfl) ?_
        refine J.op rfl rfl rfl (V.as rfl rfl) ?_
        refine J.nil ?_
        obtain rfl := B.e h1
        refine J.tN (J.to () trivial ?_)
        exact J.keep _ rfl (J.pickE [] rfl rfl J.here)
      · replace h1 := B.f hB14 h1
        refine J.opOn rfl rfl rfl rfl rfl (V.mv rfl rfl) ?_
        refine J.opOn rfl rfl rfl rfl rfl (V.nt rfl rfl) ?_
        refine J.op rfl rfl rfl (V.pkF rfl rfl rfl) ?_
        refine J.op rfl rfl rfl (V.as rfl rfl) ?_
        obtain ⟨t15, et15, h1⟩ := B.lt h1
        refine J.val (congrArg (Value.bool) et15) ?_
        refine J.nil ?_
        obtain rfl := B.e h1
        refine J.tN (J.to () trivial ?_)
        exact J.keep _ rfl (J.pickE [] rfl rfl J.here)
    · intro gy7 _
      refine J.cond rfl (fun hB17 => ?_) (fun hB17 => ?_)
      · replace h0 := B.t hB17 h0
        refine J.seq ?_
        refine J.region ?_
        refine J.op rfl rfl rfl (V.as rfl rfl) ?_
        refine J.nil ?_
        refine J.tN ?_
        refine J.ret ?_
        refine J.bR ?_
        refine J.tR ?_
        obtain rfl := B.e h0
        exact J.ret1 rfl rfl fun w H => ⟨(), rfl, H.pick [] (by decide)⟩
      · replace h0 := B.f hB17 h0
        refine J.skip ?_
        refine J.bN ?_
        refine J.tN ?_
        refine J.seq ?_
        refine J.region ?_
        refine J.op rfl rfl rfl (V.as rfl rfl) ?_
        refine J.nil ?_
        refine J.tN ?_
        refine J.ret ?_
        obtain rfl := B.e h0
        exact J.ret1 rfl rfl fun w H => ⟨(), rfl, H.pick [] (by decide)⟩

/-! ### impl.size: function 39 -/
noncomputable def impl_size.f (p0_n : Int) : Option (Int) := (some (mx p0_n (IntKind.wrap .i64 (0 - p0_n)))).bind fun t1 => some t1
set_option maxRecDepth 100000 in
theorem impl_size.calls (p0_n : Int) (r : Int) (w : World) (H0 : Own [] w w []) (h0 : impl_size.f p0_n = some r) :
    Calls Try.prog 39 #[.int .i64 p0_n] w (fun e w' => ∃ _ : Unit, e = .returned (.int .i64 r) ∧ Own [] w w' []) := by
  unfold impl_size.f at h0
  replace h0 := B.top h0
  refine calls_of_J (args := [.int .i64 p0_n]) Try.func39 rfl Try.ntmps39 rfl [(0, .int .i64 p0_n)] rfl H0 ?_
  refine J.seq ?_
  refine J.region ?_
  refine J.op rfl rfl rfl (V.as rfl rfl) ?_
  refine J.nil ?_
  refine J.tN ?_
  refine J.seq ?_
  refine J.region ?_
  refine J.op rfl rfl rfl (V.mv rfl rfl) ?_
  refine J.op rfl rfl rfl (V.mv rfl rfl) ?_
  refine J.op rfl rfl rfl (V.ng rfl rfl) ?_
  refine J.op rfl rfl rfl (V.mx rfl rfl rfl) ?_
  refine J.op rfl rfl rfl (V.as rfl rfl) ?_
  obtain ⟨t1, et1, h0⟩ := B.lt h0
  refine J.val (congrArg (Value.int .i64) et1) ?_
  refine J.nil ?_
  refine J.tN ?_
  refine J.ret ?_
  obtain rfl := B.e h0
  exact J.ret1 rfl rfl fun w H => ⟨(), rfl, H.pick [] (by decide)⟩

/-! ### impl.BestGrade: function 9 -/
noncomputable def impl_BestGrade.b1 (p0_grades : (List (List impl_Point))) (p1_thin : Int) (p2_thick : Int) (p3_dark : Int) (p4_light : Int) : (Int × Int × Int × Int) → Option (Step (Int × Int × Int × Int) (Int × Int × Int)) := fun s8 => bif (decide (s8.2.2.2 < (p0_grades.length : Int))) then (bif (inB s8.2.2.2 p0_grades.length) then ((impl_MisfitOf.f (rdN p0_grades s8.2.2.2) p1_thin p2_thick p3_dark p4_light).bind fun r16 => (bif (r16.2.2 == 0) then (bif (decide (s8.1 < 0)) then (some true) else ((impl_size.f r16.2.1).bind fun r23 => (impl_size.f s8.2.2.1).bind fun r26 => some (decide (r23 < r26)))) else (some false) : Option (Bool)).bind fun y19 => bif y19 then (some (.next (s8.2.2.2, r16.1, r16.2.1, IntKind.wrap .i64 (s8.2.2.2 + 1)))) else (some (.next (s8.1, s8.2.1, s8.2.2.1, IntKind.wrap .i64 (s8.2.2.2 + 1))))) else none) else (some (.done (s8.1, s8.2.1, s8.2.2.1)))
noncomputable def impl_BestGrade.f (p0_grades : (List (List impl_Point))) (p1_thin : Int) (p2_thick : Int) (p3_dark : Int) (p4_light : Int) : Option (Int × Int × Int × Int) := (impl_areFour.f p1_thin p2_thick p3_dark p4_light).bind fun r1 => (impl_gradesCode.f p0_grades r1).bind fun r4 => bif (r4 != 0) then (some (0, 0, 0, r4)) else ((loopW (impl_BestGrade.b1 p0_grades p1_thin p2_thick p3_dark p4_light) ((-1), 0, 0, 0)).bind fun y31 => bif (decide (y31.1 < 0)) then (some (0, 0, 0, 6)) else (some (y31.1, y31.2.1, y31.2.2, 0)))
set_option maxRecDepth 100000 in
theorem impl_BestGrade.calls (v0 : Value) (p0_grades : (List (List impl_Point))) (p1_thin : Int) (p2_thick : Int) (p3_dark : Int) (p4_light : Int) (r : Int × Int × Int × Int) (w : World) (H0 : Own [] w w []) (hS0 : SlN [] w v0 40 78 enc_impl_Point p0_grades) (h0 : impl_BestGrade.f p0_grades p1_thin p2_thick p3_dark p4_light = some r) :
    Calls Try.prog 9 #[v0, .int .i64 p1_thin, .int .i64 p2_thick, .int .i64 p3_dark, .int .i64 p4_light] w (fun e w' => ∃ _ : Unit, e = .returned (.tuple #[.int .i64 r.1, .int .i64 r.2.1, .int .i64 r.2.2.1, .int .i64 r.2.2.2]) ∧ Own [] w w' []) := by
  unfold impl_BestGrade.f at h0
  replace h0 := B.top h0
  refine calls_of_J (args := [v0, .int .i64 p1_thin, .int .i64 p2_thick, .int .i64 p3_dark, .int .i64 p4_light]) Try.func9 rfl Try.ntmps9 rfl [(0, v0), (1, .int .i64 p1_thin), (2, .int .i64 p2_thick), (3, .int .i64 p3_dark), (4, .int .i64 p4_light)] rfl H0 ?_
  obtain ⟨us0_, hN0, hE0⟩ := id hS0
  refine J.seq ?_
  refine J.region ?_
  refine J.op rfl rfl rfl (V.as rfl rfl) ?_
  refine J.op rfl rfl rfl (V.as rfl rfl) ?_
  refine J.op rfl rfl rfl (V.as rfl rfl) ?_
  refine J.op rfl rfl rfl (V.as rfl rfl) ?_
  refine J.nil ?_
  refine J.tN ?_
  refine J.seq ?_
  refine J.seq ?_
  refine J.region ?_
  refine J.op rfl rfl rfl (V.mv rfl rfl) ?_
  refine J.op rfl rfl rfl (V.mv rfl rfl) ?_
  refine J.op rfl rfl rfl (V.mv rfl rfl) ?_
  refine J.op rfl rfl rfl (V.mv rfl rfl) ?_
  refine J.op rfl rfl rfl (V.mv rfl rfl) ?_
  obtain ⟨r1, hr2, h0⟩ := B.bind h0
  refine J.clA (l := [.tmp 24, .tmp 25, .tmp 26, .tmp 27]) [] [] cf38 (wN rfl) rfl rfl rfl rfl rfl rfl (fun w H => impl_areFour.calls p1_thin p2_thick p3_dark p4_light r1 w (Own.refl w)  hr2) fun g3 => ?_
  obtain ⟨r4, hr5, h0⟩ := B.bind h0
  refine J.clA (l := [.tmp 23, .tmp 28]) [] [] cf37 (wN rfl) rfl rfl rfl rfl rfl rfl (fun w H => impl_gradesCode.calls v0 p0_grades r1 r4 w (Own.refl w) (SlN.laterA hS0 H) hr5) fun g6 => ?_
  refine J.op rfl rfl rfl (V.as rfl rfl) ?_
  refine J.nil ?_
  refine J.tN ?_
  refine J.seq ?_
  refine J.region ?_
  refine J.op rfl rfl rfl (V.mv rfl rfl) ?_
  refine J.op rfl rfl rfl (V.cmp rfl rfl rfl rfl) ?_
  refine J.nil ?_
  refine J.tN ?_
  refine J.cond rfl (fun hB7 => ?_) (fun hB7 => ?_)
  · replace h0 := B.t hB7 h0
    refine J.seq ?_
    refine J.region ?_
    refine J.op rfl rfl rfl (V.mv rfl rfl) ?_
    refine J.op rfl rfl rfl (V.as rfl rfl) ?_
    refine J.op rfl rfl rfl (V.as rfl rfl) ?_
    refine J.op rfl rfl rfl (V.as rfl rfl) ?_
    refine J.op rfl rfl rfl (V.as rfl rfl) ?_
    refine J.nil ?_
    refine J.tN ?_
    refine J.ret ?_
    refine J.tR ?_
    obtain rfl := B.e h0
    exact J.ret4 rfl rfl rfl rfl rfl fun w H => ⟨(), rfl, H.pick [] (by decide)⟩
  · replace h0 := B.f hB7 h0
    refine J.skip ?_
    refine J.tN ?_
    refine J.seq ?_
    refine J.region ?_
    refine J.op rfl rfl rfl (V.as rfl rfl) ?_
    refine J.op rfl rfl rfl (V.as rfl rfl) ?_
    refine J.op rfl rfl rfl (V.as rfl rfl) ?_
    refine J.nil ?_
    refine J.tN ?_
    refine J.seq ?_
    refine J.seq ?_
    refine J.region ?_
    refine J.op rfl rfl rfl (V.mv rfl rfl) ?_
    refine J.op rfl rfl rfl (V.lenS hN0 rfl rfl tl26) ?_
    refine J.op rfl rfl rfl (V.mv rfl rfl) ?_
    refine J.nil ?_
    refine J.tN ?_
    obtain ⟨y31, hy33, h0⟩ := B.bind h0
    refine J.cutQ (γ := Unit) (fun _ => True) (fun gy32 => [(15, .int .i64 y31.1), (16, .int .i64 y31.2.1), (17, .int .i64 y31.2.2)]) (fun gy32 => []) ?_ ?_
    · refine J.block ?_
      refine J.loop (γ := Unit) hy33 (fun s8 g9 => [(1, .int .i64 p1_thin), (2, .int .i64 p2_thick), (3, .int .i64 p3_dark), (4, .int .i64 p4_light), (15, .int .i64 s8.1), (16, .int .i64 s8.2.1), (17, .int .i64 s8.2.2.1), (33, v0), (34, .int .i64 (p0_grades.length : Int)), (35, .int .i64 s8.2.2.2)]) (fun s8 g9 => []) () ?_ ?_
      · exact J.keep _ rfl (J.pickE [] rfl rfl J.here)
      · intro rec10 s8 g9 h1
        unfold impl_BestGrade.b1 at h1
        refine J.seq ?_
        refine J.region ?_
        refine J.op rfl rfl rfl (V.cmp rfl rfl rfl rfl) ?_
        refine J.nil ?_
        refine J.tN ?_
        refine J.seq ?_
        refine J.cond rfl (fun hB11 => ?_) (fun hB11 => ?_)
        · replace h1 := B.t hB11 h1
          refine J.skip ?_
          refine J.tN ?_
          refine J.seq ?_
          refine J.block ?_
          refine J.seq ?_
          refine J.region ?_
          refine J.op rfl rfl rfl (V.mv rfl rfl) ?_
          obtain ⟨hC12, h1⟩ := B.chk h1
          refine J.op rfl rfl rfl (V.ixS hN0 rfl rfl rfl tl26 ts40 hC12) ?_
          obtain ⟨u13, hu14, hS15⟩ := hE0 _ hC12
          refine J.op rfl rfl rfl (V.nld hN0 hC12 hu14 rfl rfl Try.underlying40 ta40) ?_
          refine J.op rfl rfl rfl (V.as rfl rfl) ?_
          refine J.op rfl rfl rfl (V.as rfl rfl) ?_
          refine J.nil ?_
          refine J.tN ?_
          refine J.seq ?_
          refine J.region ?_
          refine J.op rfl rfl rfl (V.mv rfl rfl) ?_
          refine J.op rfl rfl rfl (V.mv rfl rfl) ?_
          refine J.op rfl rfl rfl (V.mv rfl rfl) ?_
          refine J.op rfl rfl rfl (V.mv rfl rfl) ?_
          refine J.op rfl rfl rfl (V.mv rfl rfl) ?_
          obtain ⟨r16, hr17, h1⟩ := B.bind h1
          refine J.clA (l := [.tmp 41, .tmp 42, .tmp 43, .tmp 44, .tmp 45]) [] [] cf20 (wN rfl) rfl rfl rfl rfl rfl rfl (fun w H => impl_MisfitOf.calls u13 (rdN p0_grades s8.2.2.2) p1_thin p2_thick p3_dark p4_light r16 w (Own.refl w) (Sl.laterA hS15 H) hr17) fun g18 => ?_
          refine J.op rfl rfl rfl (V.mv rfl rfl) ?_
          refine J.op rfl rfl rfl (V.ex rfl rfl rfl) ?_
          refine J.op rfl rfl rfl (V.ex rfl rfl rfl) ?_
          refine J.op rfl rfl rfl (V.ex rfl rfl rfl) ?_
          refine J.op rfl rfl rfl (V.as rfl rfl) ?_
          refine J.op rfl rfl rfl (V.as rfl rfl) ?_
          refine J.op rfl rfl rfl (V.as rfl rfl) ?_
          refine J.nil ?_
          refine J.tN ?_
          refine J.seq ?_
          obtain ⟨y19, hy29, h1⟩ := B.bind h1
          replace hy29 := B.top hy29
          refine J.cut (γ := Unit) (fun _ => True) (fun gy20 => [(1, .int .i64 p1_thin), (2, .int .i64 p2_thick), (3, .int .i64 p3_dark), (4, .int .i64 p4_light), (15, .int .i64 s8.1), (16, .int .i64 s8.2.1), (17, .int .i64 s8.2.2.1), (18, .int .i64 s8.2.2.2), (20, .int .i64 r16.1), (21, .int .i64 r16.2.1), (33, v0), (34, .int .i64 (p0_grades.length : Int)), (35, .int .i64 s8.2.2.2), (62, .bool y19)]) (fun gy20 => []) ?_ ?_
          · have h2 := hy29
            refine J.region ?_
            refine J.op rfl rfl rfl (V.mv rfl rfl) ?_
            refine J.op rfl rfl rfl (V.cmp rfl rfl rfl rfl) ?_
            refine J.op rfl rfl rfl (V.mv rfl rfl) ?_
            refine J.split 52 rfl (fun hB21 => ?_) (fun hB21 => ?_)
            · replace h2 := B.t hB21 h2
              refine J.opOn rfl rfl rfl rfl rfl (V.mv rfl rfl) ?_
              refine J.opOn rfl rfl rfl rfl rfl (V.cmp rfl rfl rfl rfl) ?_
              refine J.opOn rfl rfl rfl rfl rfl (V.mv rfl rfl) ?_
              refine J.split 55 rfl (fun hB22 => ?_) (fun hB22 => ?_)
              · replace h2 := B.t hB22 h2
                refine J.opOff rfl rfl rfl rfl rfl rfl ?_
                refine J.opOff rfl rfl rfl rfl rfl rfl ?_
                refine J.opOff rfl rfl rfl rfl rfl rfl ?_
                refine J.opOff rfl rfl rfl rfl rfl rfl ?_
                refine J.opOff rfl rfl rfl rfl rfl rfl ?_
                refine J.opOn rfl rfl rfl rfl rfl (V.pkT rfl rfl rfl) ?_
                refine J.op rfl rfl rfl (V.pkT rfl rfl rfl) ?_
                refine J.nil ?_
                obtain rfl := B.e h2
                refine J.tN (J.to () trivial ?_)
                exact J.keep _ rfl (J.pickE [] rfl rfl J.here)
              · replace h2 := B.f hB22 h2
                refine J.opOn rfl rfl rfl rfl rfl (V.mv rfl rfl) ?_
                obtain ⟨r23, hr24, h2⟩ := B.bind h2
                refine J.clA (l := [.tmp 56]) [] [] cf39 (wY rfl rfl rfl) rfl rfl rfl rfl rfl rfl (fun w H => impl_size.calls r16.2.1 r23 w (Own.refl w)  hr24) fun g25 => ?_
                refine J.opOn rfl rfl rfl rfl rfl (V.mv rfl rfl) ?_
                obtain ⟨r26, hr27, h2⟩ := B.bind h2
                refine J.clA (l := [.tmp 58]) [] [] cf39 (wY rfl rfl rfl) rfl rfl rfl rfl rfl rfl (fun w H => impl_size.calls s8.2.2.1 r26 w (Own.refl w)  hr27) fun g28 => ?_
                refine J.opOn rfl rfl rfl rfl rfl (V.cmp rfl rfl rfl rfl) ?_
                refine J.opOn rfl rfl rfl rfl rfl (V.pkF rfl rfl rfl) ?_
                refine J.op rfl rfl rfl (V.pkT rfl rfl rfl) ?_
                refine J.nil ?_
                obtain rfl := B.e h2
                refine J.tN (J.to () trivial ?_)
                exact J.keep _ rfl (J.pickE [] rfl rfl J.here)
            · replace h2 := B.f hB21 h2
              refine J.opOff rfl rfl rfl rfl rfl rfl ?_
              refine J.opOff rfl rfl rfl rfl rfl rfl ?_
              refine J.opOff rfl rfl rfl rfl rfl rfl ?_
              refine J.opOffU rfl rfl rfl rfl rfl ?_
              refine J.opOffU rfl rfl rfl rfl rfl ?_
              refine J.opOffU rfl rfl rfl rfl rfl ?_
              refine J.opOffU rfl rfl rfl rfl rfl ?_
              refine J.opOffU rfl rfl rfl rfl rfl ?_
              refine J.opOff rfl rfl rfl rfl rfl rfl ?_
              refine J.op rfl rfl rfl (V.pkF rfl rfl rfl) ?_
              refine J.nil ?_
              obtain rfl := B.e h2
              refine J.tN (J.to () trivial ?_)
              exact J.keep _ rfl (J.pickE [] rfl rfl J.here)
          · intro gy20 _
            refine J.cond rfl (fun hB30 => ?_) (fun hB30 => ?_)
            · replace h1 := B.t hB30 h1
              refine J.region ?_
              refine J.op rfl rfl rfl (V.mv rfl rfl) ?_
              refine J.op rfl rfl rfl (V.mv rfl rfl) ?_
              refine J.op rfl rfl rfl (V.mv rfl rfl) ?_
              refine J.op rfl rfl rfl (V.as rfl rfl) ?_
              refine J.op rfl rfl rfl (V.as rfl rfl) ?_
              refine J.op rfl rfl rfl (V.as rfl rfl) ?_
              refine J.nil ?_
              refine J.bN ?_
              refine J.tN ?_
              refine J.region ?_
              refine J.op rfl rfl rfl (V.ar rfl rfl rfl rfl) ?_
              refine J.op rfl rfl rfl (V.mv rfl rfl) ?_
              refine J.nil ?_
              refine J.tN (J.next (s8.2.2.2, r16.1, r16.2.1, IntKind.wrap .i64 (s8.2.2.2 + 1)) () (B.n h1) ?_)
              exact J.keep _ rfl (J.pickE [] rfl rfl J.here)
            · replace h1 := B.f hB30 h1
              refine J.skip ?_
              refine J.bN ?_
              refine J.tN ?_
              refine J.region ?_
              refine J.op rfl rfl rfl (V.ar rfl rfl rfl rfl) ?_
              refine J.op rfl rfl rfl (V.mv rfl rfl) ?_
              refine J.nil ?_
              refine J.tN (J.next (s8.1, s8.2.1, s8.2.2.1, IntKind.wrap .i64 (s8.2.2.2 + 1)) () (B.n h1) ?_)
              exact J.keep _ rfl (J.pickE [] rfl rfl J.here)
        · replace h1 := B.f hB11 h1
          refine J.exit ?_
          refine J.tE ?_
          refine J.tE ?_
          refine J.bE ?_
          obtain rfl := B.d h1
          refine J.tN (J.to () trivial ?_)
          exact J.keep _ rfl (J.pickE [] rfl rfl J.here)
    · intro gy32 _
      refine J.tN ?_
      refine J.seq ?_
      refine J.seq ?_
      refine J.region ?_
      refine J.op rfl rfl rfl (V.mv rfl rfl) ?_
      refine J.op rfl rfl rfl (V.cmp rfl rfl rfl rfl) ?_
      refine J.nil ?_
      refine J.tN ?_
      refine J.cond rfl (fun hB34 => ?_) (fun hB34 => ?_)
      · replace h0 := B.t hB34 h0
        refine J.seq ?_
        refine J.region ?_
        refine J.op rfl rfl rfl (V.as rfl rfl) ?_
        refine J.op rfl rfl rfl (V.as rfl rfl) ?_
        refine J.op rfl rfl rfl (V.as rfl rfl) ?_
        refine J.op rfl rfl rfl (V.as rfl rfl) ?_
        refine J.nil ?_
        refine J.tN ?_
        refine J.ret ?_
        refine J.tR ?_
        obtain rfl := B.e h0
        exact J.ret4 rfl rfl rfl rfl rfl fun w H => ⟨(), rfl, H.pick [] (by decide)⟩
      · replace h0 := B.f hB34 h0
        refine J.skip ?_
        refine J.tN ?_
        refine J.seq ?_
        refine J.region ?_
        refine J.op rfl rfl rfl (V.mv rfl rfl) ?_
        refine J.op rfl rfl rfl (V.mv rfl rfl) ?_
        refine J.op rfl rfl rfl (V.mv rfl rfl) ?_
        refine J.op rfl rfl rfl (V.as rfl rfl) ?_
        refine J.op rfl rfl rfl (V.as rfl rfl) ?_
        refine J.op rfl rfl rfl (V.as rfl rfl) ?_
        refine J.op rfl rfl rfl (V.as rfl rfl) ?_
        refine J.nil ?_
        refine J.tN ?_
        refine J.ret ?_
        obtain rfl := B.e h0
        exact J.ret4 rfl rfl rfl rfl rfl fun w H => ⟨(), rfl, H.pick [] (by decide)⟩

end Go.Proofs.Ytofhnioboihbgaa
