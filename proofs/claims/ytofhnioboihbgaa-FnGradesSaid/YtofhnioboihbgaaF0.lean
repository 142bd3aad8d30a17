/- Go functions as Lean functions, and that each call of theirs comes to just that: by a program written for this work (walk.py). No condition. -/
import Derived.Test.YtofhnioboihbgaaT
namespace Go.Proofs.Ytofhnioboihbgaa
open Go Go.RowKit G
set_option linter.unusedVariables false

/-! ### laws.szCurve: function 32 -/
noncomputable def laws_szCurve.f (p0_a : (List laws_Point)) (p1_left : Int) : Option (Int) := (some (IntKind.wrap .i64 (p1_left - (p0_a.length : Int)))).bind fun left_1 => bif (decide (left_1 < 0)) then (some (-1)) else (some left_1)
set_option maxRecDepth 100000 in
theorem laws_szCurve.calls (v0 : Value) (p0_a : (List laws_Point)) (p1_left : Int) (r : Int) (w : World) (H0 : Own [] w w []) (hS0 : SlE [] w v0 80 enc_laws_Point p0_a) (h0 : laws_szCurve.f p0_a p1_left = some r) :
    Calls Try.prog 32 #[v0, .int .i64 p1_left] w (fun e w' => ∃ _ : Unit, e = .returned (.int .i64 r) ∧ Own [] w w' []) := by
  unfold laws_szCurve.f at h0
  replace h0 := B.top h0
  refine calls_of_J (args := [v0, .int .i64 p1_left]) Try.func32 rfl Try.ntmps32 rfl [(0, v0), (1, .int .i64 p1_left)] rfl H0 ?_
  refine J.seq ?_
  refine J.region ?_
  refine J.op rfl rfl rfl (V.as rfl rfl) ?_
  refine J.nil ?_
  refine J.tN ?_
  refine J.seq ?_
  refine J.region ?_
  refine J.op rfl rfl rfl (V.mv rfl rfl) ?_
  refine J.op rfl rfl rfl (V.mv rfl rfl) ?_
  refine J.op rfl rfl rfl (V.lenS hS0 rfl rfl tl52) ?_
  refine J.op rfl rfl rfl (V.ar rfl rfl rfl rfl) ?_
  refine J.op rfl rfl rfl (V.as rfl rfl) ?_
  obtain ⟨left_1, eleft_1, h0⟩ := B.lt h0
  refine J.val (congrArg (Value.int .i64) eleft_1) ?_
  refine J.nil ?_
  refine J.tN ?_
  refine J.seq ?_
  refine J.seq ?_
  refine J.region ?_
  refine J.op rfl rfl rfl (V.mv rfl rfl) ?_
  refine J.op rfl rfl rfl (V.cmp rfl rfl rfl rfl) ?_
  refine J.nil ?_
  refine J.tN ?_
  refine J.cond rfl (fun hB2 => ?_) (fun hB2 => ?_)
  · replace h0 := B.t hB2 h0
    refine J.seq ?_
    refine J.region ?_
    refine J.op rfl rfl rfl (V.as rfl rfl) ?_
    refine J.nil ?_
    refine J.tN ?_
    refine J.ret ?_
    refine J.tR ?_
    obtain rfl := B.e h0
    exact J.ret1 rfl rfl fun w H => ⟨(), rfl, H.pick [] (by decide)⟩
  · replace h0 := B.f hB2 h0
    refine J.skip ?_
    refine J.tN ?_
    refine J.seq ?_
    refine J.region ?_
    refine J.op rfl rfl rfl (V.mv rfl rfl) ?_
    refine J.op rfl rfl rfl (V.as rfl rfl) ?_
    refine J.nil ?_
    refine J.tN ?_
    refine J.ret ?_
    obtain rfl := B.e h0
    exact J.ret1 rfl rfl fun w H => ⟨(), rfl, H.pick [] (by decide)⟩

/-! ### laws.szCurveS: function 6 -/
noncomputable def laws_szCurveS.b1 (p0_a : (List (List laws_Point))) : (Int × Int) → Option (Step (Int × Int) (Sum (Int) (Int))) := fun s3 => bif (decide (s3.2 < (p0_a.length : Int))) then (bif (inB s3.2 p0_a.length) then ((laws_szCurve.f (rdN p0_a s3.2) s3.1).bind fun r11 => bif (decide (r11 < 0)) then (some (.done (.inr (-1)))) else ((some (IntKind.wrap .i64 (s3.2 + 1))).bind fun i_15 => some (.next (r11, i_15)))) else none) else (some (.done (.inl s3.1)))
noncomputable def laws_szCurveS.f (p0_a : (List (List laws_Point))) (p1_left : Int) : Option (Int) := (some (IntKind.wrap .i64 (p1_left - (p0_a.length : Int)))).bind fun left_1 => bif (decide (left_1 < 0)) then (some (-1)) else ((loopW (laws_szCurveS.b1 p0_a) (left_1, 0)).bind (Sum.elim (fun y17 => some y17) (fun r => some r)))
set_option maxRecDepth 100000 in
theorem laws_szCurveS.calls (v0 : Value) (p0_a : (List (List laws_Point))) (p1_left : Int) (r : Int) (w : World) (H0 : Own [] w w []) (hS0 : SlN [] w v0 52 80 enc_laws_Point p0_a) (h0 : laws_szCurveS.f p0_a p1_left = some r) :
    Calls Try.prog 6 #[v0, .int .i64 p1_left] w (fun e w' => ∃ _ : Unit, e = .returned (.int .i64 r) ∧ Own [] w w' []) := by
  unfold laws_szCurveS.f at h0
  replace h0 := B.top h0
  refine calls_of_J (args := [v0, .int .i64 p1_left]) Try.func6 rfl Try.ntmps6 rfl [(0, v0), (1, .int .i64 p1_left)] rfl H0 ?_
  obtain ⟨us0_, hN0, hE0⟩ := id hS0
  refine J.seq ?_
  refine J.region ?_
  refine J.op rfl rfl rfl (V.as rfl rfl) ?_
  refine J.nil ?_
  refine J.tN ?_
  refine J.seq ?_
  refine J.region ?_
  refine J.op rfl rfl rfl (V.mv rfl rfl) ?_
  refine J.op rfl rfl rfl (V.mv rfl rfl) ?_
  refine J.op rfl rfl rfl (V.lenS hN0 rfl rfl tl22) ?_
  refine J.op rfl rfl rfl (V.ar rfl rfl rfl rfl) ?_
  refine J.op rfl rfl rfl (V.as rfl rfl) ?_
  obtain ⟨left_1, eleft_1, h0⟩ := B.lt h0
  refine J.val (congrArg (Value.int .i64) eleft_1) ?_
  refine J.nil ?_
  refine J.tN ?_
  refine J.seq ?_
  refine J.seq ?_
  refine J.region ?_
  refine J.op rfl rfl rfl (V.mv rfl rfl) ?_
  refine J.op rfl rfl rfl (V.cmp rfl rfl rfl rfl) ?_
  refine J.nil ?_
  refine J.tN ?_
  refine J.cond rfl (fun hB2 => ?_) (fun hB2 => ?_)
  · replace h0 := B.t hB2 h0
    refine J.seq ?_
    refine J.region ?_
    refine J.op rfl rfl rfl (V.as rfl rfl) ?_
    refine J.nil ?_
    refine J.tN ?_
    refine J.ret ?_
    refine J.tR ?_
    obtain rfl := B.e h0
    exact J.ret1 rfl rfl fun w H => ⟨(), rfl, H.pick [] (by decide)⟩
  · replace h0 := B.f hB2 h0
    refine J.skip ?_
    refine J.tN ?_
    refine J.seq ?_
    refine J.seq ?_
    refine J.region ?_
    refine J.op rfl rfl rfl (V.as rfl rfl) ?_
    refine J.nil ?_
    refine J.tN ?_
    obtain ⟨o19, hy18, h0⟩ := B.bind h0
    refine J.cutQ (γ := (Int) × (Unit)) (fun gy17 => o19 = .inl gy17.1) (fun gy17 => [(1, .int .i64 gy17.1)]) (fun gy17 => []) ?_ ?_
    · refine J.block ?_
      refine J.loop (γ := Unit) hy18 (fun s3 g4 => [(0, v0), (1, .int .i64 s3.1), (5, .int .i64 s3.2)]) (fun s3 g4 => []) () ?_ ?_
      · exact J.keep _ rfl (J.pickE [] rfl rfl J.here)
      · intro rec5 s3 g4 h1
        unfold laws_szCurveS.b1 at h1
        refine J.seq ?_
        refine J.seq ?_
        refine J.region ?_
        refine J.op rfl rfl rfl (V.mv rfl rfl) ?_
        refine J.op rfl rfl rfl (V.mv rfl rfl) ?_
        refine J.op rfl rfl rfl (V.lenS hN0 rfl rfl tl22) ?_
        refine J.op rfl rfl rfl (V.cmp rfl rfl rfl rfl) ?_
        refine J.nil ?_
        refine J.tN ?_
        refine J.cond rfl (fun hB6 => ?_) (fun hB6 => ?_)
        · replace h1 := B.t hB6 h1
          refine J.skip ?_
          refine J.tN ?_
          refine J.seq ?_
          refine J.block ?_
          refine J.seq ?_
          refine J.region ?_
          refine J.op rfl rfl rfl (V.mv rfl rfl) ?_
          refine J.op rfl rfl rfl (V.mv rfl rfl) ?_
          obtain ⟨hC7, h1⟩ := B.chk h1
          refine J.op rfl rfl rfl (V.ixS hN0 rfl rfl rfl tl22 ts52 hC7) ?_
          obtain ⟨u8, hu9, hS10⟩ := hE0 _ hC7
          refine J.op rfl rfl rfl (V.nld hN0 hC7 hu9 rfl rfl Try.underlying52 ta52) ?_
          refine J.op rfl rfl rfl (V.mv rfl rfl) ?_
          obtain ⟨r11, hr12, h1⟩ := B.bind h1
          refine J.clA (l := [.tmp 21, .tmp 22]) [] [] cf32 (wN rfl) rfl rfl rfl rfl rfl rfl (fun w H => laws_szCurve.calls u8 (rdN p0_a s3.2) s3.1 r11 w (Own.refl w) (Sl.laterA hS10 H) hr12) fun g13 => ?_
          refine J.op rfl rfl rfl (V.as rfl rfl) ?_
          refine J.nil ?_
          refine J.tN ?_
          refine J.seq ?_
          refine J.region ?_
          refine J.op rfl rfl rfl (V.mv rfl rfl) ?_
          refine J.op rfl rfl rfl (V.cmp rfl rfl rfl rfl) ?_
          refine J.nil ?_
          refine J.tN ?_
          refine J.cond rfl (fun hB14 => ?_) (fun hB14 => ?_)
          · replace h1 := B.t hB14 h1
            refine J.seq ?_
            refine J.region ?_
            refine J.op rfl rfl rfl (V.as rfl rfl) ?_
            refine J.nil ?_
            refine J.tN ?_
            refine J.ret ?_
            refine J.bR ?_
            refine J.tR ?_
            refine J.tR ?_
            refine J.bR ?_
            refine J.tR ?_
            refine J.tR ?_
            obtain rfl := B.d h1
            replace h0 := B.inr h0
            obtain rfl := B.e h0
            exact J.ret1 rfl rfl fun w H => ⟨(), rfl, H.pick [] (by decide)⟩
          · replace h1 := B.f hB14 h1
            refine J.skip ?_
            refine J.bN ?_
            refine J.tN ?_
            refine J.region ?_
            refine J.op rfl rfl rfl (V.mv rfl rfl) ?_
            refine J.op rfl rfl rfl (V.ar rfl rfl rfl rfl) ?_
            refine J.op rfl rfl rfl (V.as rfl rfl) ?_
            obtain ⟨i_15, ei_15, h1⟩ := B.lt h1
            refine J.val (congrArg (Value.int .i64) ei_15) ?_
            refine J.nil ?_
            refine J.tN (J.next (r11, i_15) () (B.n h1) ?_)
            exact J.keep _ rfl (J.pickE [] rfl rfl J.here)
        · replace h1 := B.f hB6 h1
          refine J.exit ?_
          refine J.tE ?_
          refine J.tE ?_
          refine J.bE ?_
          obtain rfl := B.d h1
          refine J.tN (J.to (s3.1, ()) rfl ?_)
          exact J.keep _ rfl (J.pickE [] rfl rfl J.here)
    · intro gy17 hG
      replace h0 := B.inl hG h0
      refine J.tN ?_
      refine J.seq ?_
      refine J.region ?_
      refine J.op rfl rfl rfl (V.mv rfl rfl) ?_
      refine J.op rfl rfl rfl (V.as rfl rfl) ?_
      refine J.nil ?_
      refine J.tN ?_
      refine J.ret ?_
      obtain rfl := B.e h0
      exact J.ret1 rfl rfl fun w H => ⟨(), rfl, H.pick [] (by decide)⟩

/-! ### spec.l00In: function 66 -/
noncomputable def spec_l00In.f (p0_n : Int) (p1_low : Int) (p2_high : Int) : Option (Bool) := bif (decide (p1_low ≤ p0_n)) then ((some (decide (p0_n ≤ p2_high))).bind fun t2 => some t2) else (some false)
set_option maxRecDepth 100000 in
theorem spec_l00In.calls (p0_n : Int) (p1_low : Int) (p2_high : Int) (r : Bool) (w : World) (H0 : Own [] w w []) (h0 : spec_l00In.f p0_n p1_low p2_high = some r) :
    Calls Try.prog 66 #[.int .i64 p0_n, .int .i64 p1_low, .int .i64 p2_high] w (fun e w' => ∃ _ : Unit, e = .returned (.bool r) ∧ Own [] w w' []) := by
  unfold spec_l00In.f at h0
  replace h0 := B.top h0
  refine calls_of_J (args := [.int .i64 p0_n, .int .i64 p1_low, .int .i64 p2_high]) Try.func66 rfl Try.ntmps66 rfl [(0, .int .i64 p0_n), (1, .int .i64 p1_low), (2, .int .i64 p2_high)] rfl H0 ?_
  refine J.seq ?_
  refine J.region ?_
  refine J.op rfl rfl rfl (V.as rfl rfl) ?_
  refine J.nil ?_
  refine J.tN ?_
  refine J.seq ?_
  refine J.region ?_
  refine J.op rfl rfl rfl (V.mv rfl rfl) ?_
  refine J.op rfl rfl rfl (V.mv rfl rfl) ?_
  refine J.op rfl rfl rfl (V.cmp rfl rfl rfl rfl) ?_
  refine J.op rfl rfl rfl (V.mv rfl rfl) ?_
  refine J.split 10 rfl (fun hB1 => ?_) (fun hB1 => ?_)
  · replace h0 := B.t hB1 h0
    refine J.opOn rfl rfl rfl rfl rfl (V.mv rfl rfl) ?_
    refine J.opOn rfl rfl rfl rfl rfl (V.mv rfl rfl) ?_
    refine J.opOn rfl rfl rfl rfl rfl (V.cmp rfl rfl rfl rfl) ?_
    refine J.op rfl rfl rfl (V.pkT rfl rfl rfl) ?_
    refine J.op rfl rfl rfl (V.as rfl rfl) ?_
    obtain ⟨t2, et2, h0⟩ := B.lt h0
    refine J.val (congrArg (Value.bool) et2) ?_
    refine J.nil ?_
    refine J.tN ?_
    refine J.ret ?_
    obtain rfl := B.e h0
    exact J.ret1 rfl rfl fun w H => ⟨(), rfl, H.pick [] (by decide)⟩
  · replace h0 := B.f hB1 h0
    refine J.opOff rfl rfl rfl rfl rfl rfl ?_
    refine J.opOff rfl rfl rfl rfl rfl rfl ?_
    refine J.opOff rfl rfl rfl rfl rfl rfl ?_
    refine J.op rfl rfl rfl (V.pkF rfl rfl rfl) ?_
    refine J.op rfl rfl rfl (V.as rfl rfl) ?_
    refine J.nil ?_
    refine J.tN ?_
    refine J.ret ?_
    obtain rfl := B.e h0
    exact J.ret1 rfl rfl fun w H => ⟨(), rfl, H.pick [] (by decide)⟩

/-! ### spec.l02Density: function 65 -/
noncomputable def spec_l02Density.f (p0_y : Int) : Option (Bool) := (spec_l00In.f p0_y 0 400).bind fun r1 => some r1
set_option maxRecDepth 100000 in
theorem spec_l02Density.calls (p0_y : Int) (r : Bool) (w : World) (H0 : Own [] w w []) (h0 : spec_l02Density.f p0_y = some r) :
    Calls Try.prog 65 #[.int .i64 p0_y] w (fun e w' => ∃ _ : Unit, e = .returned (.bool r) ∧ Own [] w w' []) := by
  unfold spec_l02Density.f at h0
  replace h0 := B.top h0
  refine calls_of_J (args := [.int .i64 p0_y]) Try.func65 rfl Try.ntmps65 rfl [(0, .int .i64 p0_y)] rfl H0 ?_
  refine J.seq ?_
  refine J.region ?_
  refine J.op rfl rfl rfl (V.as rfl rfl) ?_
  refine J.nil ?_
  refine J.tN ?_
  refine J.seq ?_
  refine J.region ?_
  refine J.op rfl rfl rfl (V.mv rfl rfl) ?_
  obtain ⟨r1, hr2, h0⟩ := B.bind h0
  refine J.clA (l := [.tmp 3, .const (.int .i64 0), .const (.int .i64 400)]) [] [] cf66 (wN rfl) rfl rfl rfl rfl rfl rfl (fun w H => spec_l00In.calls p0_y 0 400 r1 w (Own.refl w)  hr2) fun g3 => ?_
  refine J.op rfl rfl rfl (V.as rfl rfl) ?_
  refine J.nil ?_
  refine J.tN ?_
  refine J.ret ?_
  obtain rfl := B.e h0
  exact J.ret1 rfl rfl fun w H => ⟨(), rfl, H.pick [] (by decide)⟩

/-! ### spec.l05Four: function 34 -/
noncomputable def spec_l05Four.f (p0_thin : Int) (p1_thick : Int) (p2_dark : Int) (p3_light : Int) : Option (Bool) := (spec_l02Density.f p0_thin).bind fun r1 => bif r1 then ((spec_l02Density.f p1_thick).bind fun r5 => bif r5 then ((spec_l02Density.f p2_dark).bind fun r9 => bif r9 then ((spec_l02Density.f p3_light).bind fun r13 => bif r13 then ((some (decide (p0_thin ≤ p1_thick))).bind fun t17 => some t17) else (some false)) else (some false)) else (some false)) else (some false)
set_option maxRecDepth 100000 in
theorem spec_l05Four.calls (p0_thin : Int) (p1_thick : Int) (p2_dark : Int) (p3_light : Int) (r : Bool) (w : World) (H0 : Own [] w w []) (h0 : spec_l05Four.f p0_thin p1_thick p2_dark p3_light = some r) :
    Calls Try.prog 34 #[.int .i64 p0_thin, .int .i64 p1_thick, .int .i64 p2_dark, .int .i64 p3_light] w (fun e w' => ∃ _ : Unit, e = .returned (.bool r) ∧ Own [] w w' []) := by
  unfold spec_l05Four.f at h0
  replace h0 := B.top h0
  refine calls_of_J (args := [.int .i64 p0_thin, .int .i64 p1_thick, .int .i64 p2_dark, .int .i64 p3_light]) Try.func34 rfl Try.ntmps34 rfl [(0, .int .i64 p0_thin), (1, .int .i64 p1_thick), (2, .int .i64 p2_dark), (3, .int .i64 p3_light)] rfl H0 ?_
  refine J.seq ?_
  refine J.region ?_
  refine J.op rfl rfl rfl (V.as rfl rfl) ?_
  refine J.nil ?_
  refine J.tN ?_
  refine J.seq ?_
  refine J.region ?_
  refine J.op rfl rfl rfl (V.mv rfl rfl) ?_
  obtain ⟨r1, hr2, h0⟩ := B.bind h0
  refine J.clA (l := [.tmp 9]) [] [] cf65 (wN rfl) rfl rfl rfl rfl rfl rfl (fun w H => spec_l02Density.calls p0_thin r1 w (Own.refl w)  hr2) fun g3 => ?_
  refine J.op rfl rfl rfl (V.mv rfl rfl) ?_
  refine J.split 11 rfl (fun hB4 => ?_) (fun hB4 => ?_)
  · replace h0 := B.t hB4 h0
    refine J.opOn rfl rfl rfl rfl rfl (V.mv rfl rfl) ?_
    obtain ⟨r5, hr6, h0⟩ := B.bind h0
    refine J.clA (l := [.tmp 12]) [] [] cf65 (wY rfl rfl rfl) rfl rfl rfl rfl rfl rfl (fun w H => spec_l02Density.calls p1_thick r5 w (Own.refl w)  hr6) fun g7 => ?_
    refine J.op rfl rfl rfl (V.pkT rfl rfl rfl) ?_
    refine J.op rfl rfl rfl (V.mv rfl rfl) ?_
    refine J.split 15 rfl (fun hB8 => ?_) (fun hB8 => ?_)
    · replace h0 := B.t hB8 h0
      refine J.opOn rfl rfl rfl rfl rfl (V.mv rfl rfl) ?_
      obtain ⟨r9, hr10, h0⟩ := B.bind h0
      refine J.clA (l := [.tmp 16]) [] [] cf65 (wY rfl rfl rfl) rfl rfl rfl rfl rfl rfl (fun w H => spec_l02Density.calls p2_dark r9 w (Own.refl w)  hr10) fun g11 => ?_
      refine J.op rfl rfl rfl (V.pkT rfl rfl rfl) ?_
      refine J.op rfl rfl rfl (V.mv rfl rfl) ?_
      refine J.split 19 rfl (fun hB12 => ?_) (fun hB12 => ?_)
      · replace h0 := B.t hB12 h0
        refine J.opOn rfl rfl rfl rfl rfl (V.mv rfl rfl) ?_
        obtain ⟨r13, hr14, h0⟩ := B.bind h0
        refine J.clA (l := [.tmp 20]) [] [] cf65 (wY rfl rfl rfl) rfl rfl rfl rfl rfl rfl (fun w H => spec_l02Density.calls p3_light r13 w (Own.refl w)  hr14) fun g15 => ?_
        refine J.op rfl rfl rfl (V.pkT rfl rfl rfl) ?_
        refine J.op rfl rfl rfl (V.mv rfl rfl) ?_
        refine J.split 23 rfl (fun hB16 => ?_) (fun hB16 => ?_)
        · replace h0 := B.t hB16 h0
          refine J.opOn rfl rfl rfl rfl rfl (V.mv rfl rfl) ?_
          refine J.opOn rfl rfl rfl rfl rfl (V.mv rfl rfl) ?_
          refine J.opOn rfl rfl rfl rfl rfl (V.cmp rfl rfl rfl rfl) ?_
          refine J.op rfl rfl rfl (V.pkT rfl rfl rfl) ?_
          refine J.op rfl rfl rfl (V.as rfl rfl) ?_
          obtain ⟨t17, et17, h0⟩ := B.lt h0
          refine J.val (congrArg (Value.bool) et17) ?_
          refine J.nil ?_
          refine J.tN ?_
          refine J.ret ?_
          obtain rfl := B.e h0
          exact J.ret1 rfl rfl fun w H => ⟨(), rfl, H.pick [] (by decide)⟩
        · replace h0 := B.f hB16 h0
          refine J.opOff rfl rfl rfl rfl rfl rfl ?_
          refine J.opOff rfl rfl rfl rfl rfl rfl ?_
          refine J.opOff rfl rfl rfl rfl rfl rfl ?_
          refine J.op rfl rfl rfl (V.pkF rfl rfl rfl) ?_
          refine J.op rfl rfl rfl (V.as rfl rfl) ?_
          refine J.nil ?_
          refine J.tN ?_
          refine J.ret ?_
          obtain rfl := B.e h0
          exact J.ret1 rfl rfl fun w H => ⟨(), rfl, H.pick [] (by decide)⟩
      · replace h0 := B.f hB12 h0
        refine J.opOff rfl rfl rfl rfl rfl rfl ?_
        refine J.opOff rfl rfl rfl rfl rfl rfl ?_
        refine J.op rfl rfl rfl (V.pkF rfl rfl rfl) ?_
        refine J.op rfl rfl rfl (V.mv rfl rfl) ?_
        refine J.opOff rfl rfl rfl rfl rfl rfl ?_
        refine J.opOff rfl rfl rfl rfl rfl rfl ?_
        refine J.opOff rfl rfl rfl rfl rfl rfl ?_
        refine J.op rfl rfl rfl (V.pkF rfl rfl rfl) ?_
        refine J.op rfl rfl rfl (V.as rfl rfl) ?_
        refine J.nil ?_
        refine J.tN ?_
        refine J.ret ?_
        obtain rfl := B.e h0
        exact J.ret1 rfl rfl fun w H => ⟨(), rfl, H.pick [] (by decide)⟩
    · replace h0 := B.f hB8 h0
      refine J.opOff rfl rfl rfl rfl rfl rfl ?_
      refine J.opOff rfl rfl rfl rfl rfl rfl ?_
      refine J.op rfl rfl rfl (V.pkF rfl rfl rfl) ?_
      refine J.op rfl rfl rfl (V.mv rfl rfl) ?_
      refine J.opOff rfl rfl rfl rfl rfl rfl ?_
      refine J.opOff rfl rfl rfl rfl rfl rfl ?_
      refine J.op rfl rfl rfl (V.pkF rfl rfl rfl) ?_
      refine J.op rfl rfl rfl (V.mv rfl rfl) ?_
      refine J.opOff rfl rfl rfl rfl rfl rfl ?_
      refine J.opOff rfl rfl rfl rfl rfl rfl ?_
      refine J.opOff rfl rfl rfl rfl rfl rfl ?_
      refine J.op rfl rfl rfl (V.pkF rfl rfl rfl) ?_
      refine J.op rfl rfl rfl (V.as rfl rfl) ?_
      refine J.nil ?_
      refine J.tN ?_
      refine J.ret ?_
      obtain rfl := B.e h0
      exact J.ret1 rfl rfl fun w H => ⟨(), rfl, H.pick [] (by decide)⟩
  · replace h0 := B.f hB4 h0
    refine J.opOff rfl rfl rfl rfl rfl rfl ?_
    refine J.opOff rfl rfl rfl rfl rfl rfl ?_
    refine J.op rfl rfl rfl (V.pkF rfl rfl rfl) ?_
    refine J.op rfl rfl rfl (V.mv rfl rfl) ?_
    refine J.opOff rfl rfl rfl rfl rfl rfl ?_
    refine J.opOff rfl rfl rfl rfl rfl rfl ?_
    refine J.op rfl rfl rfl (V.pkF rfl rfl rfl) ?_
    refine J.op rfl rfl rfl (V.mv rfl rfl) ?_
    refine J.opOff rfl rfl rfl rfl rfl rfl ?_
    refine J.opOff rfl rfl rfl rfl rfl rfl ?_
    refine J.op rfl rfl rfl (V.pkF rfl rfl rfl) ?_
    refine J.op rfl rfl rfl (V.mv rfl rfl) ?_
    refine J.opOff rfl rfl rfl rfl rfl rfl ?_
    refine J.opOff rfl rfl rfl rfl rfl rfl ?_
    refine J.opOff rfl rfl rfl rfl rfl rfl ?_
    refine J.op rfl rfl rfl (V.pkF rfl rfl rfl) ?_
    refine J.op rfl rfl rfl (V.as rfl rfl) ?_
    refine J.nil ?_
    refine J.tN ?_
    refine J.ret ?_
    obtain rfl := B.e h0
    exact J.ret1 rfl rfl fun w H => ⟨(), rfl, H.pick [] (by decide)⟩

/-! ### spec.l02Place: function 89 -/
noncomputable def spec_l02Place.f (p0_x : Int) : Option (Bool) := (spec_l00In.f p0_x (-200) 200).bind fun r1 => some r1
set_option maxRecDepth 100000 in
theorem spec_l02Place.calls (p0_x : Int) (r : Bool) (w : World) (H0 : Own [] w w []) (h0 : spec_l02Place.f p0_x = some r) :
    Calls Try.prog 89 #[.int .i64 p0_x] w (fun e w' => ∃ _ : Unit, e = .returned (.bool r) ∧ Own [] w w' []) := by
  unfold spec_l02Place.f at h0
  replace h0 := B.top h0
  refine calls_of_J (args := [.int .i64 p0_x]) Try.func89 rfl Try.ntmps89 rfl [(0, .int .i64 p0_x)] rfl H0 ?_
  refine J.seq ?_
  refine J.region ?_
  refine J.op rfl rfl rfl (V.as rfl rfl) ?_
  refine J.nil ?_
  refine J.tN ?_
  refine J.seq ?_
  refine J.region ?_
  refine J.op rfl rfl rfl (V.mv rfl rfl) ?_
  obtain ⟨r1, hr2, h0⟩ := B.bind h0
  refine J.clA (l := [.tmp 3, .const (.int .i64 (-200)), .const (.int .i64 200)]) [] [] cf66 (wN rfl) rfl rfl rfl rfl rfl rfl (fun w H => spec_l00In.calls p0_x (-200) 200 r1 w (Own.refl w)  hr2) fun g3 => ?_
  refine J.op rfl rfl rfl (V.as rfl rfl) ?_
  refine J.nil ?_
  refine J.tN ?_
  refine J.ret ?_
  obtain rfl := B.e h0
  exact J.ret1 rfl rfl fun w H => ⟨(), rfl, H.pick [] (by decide)⟩

/-! ### spec.l02Point: function 86 -/
noncomputable def spec_l02Point.f (p0_p : impl_Point) : Option (Bool) := (spec_l02Place.f (IntKind.wrap .i64 p0_p.X)).bind fun r3 => bif r3 then ((spec_l02Density.f (IntKind.wrap .i64 p0_p.Y)).bind fun r7 => some r7) else (some false)
set_option maxRecDepth 100000 in
theorem spec_l02Point.calls (p0_p : impl_Point) (r : Bool) (w : World) (H0 : Own [] w w []) (h0 : spec_l02Point.f p0_p = some r) :
    Calls Try.prog 86 #[.agg #[.int .i16 p0_p.X, .int .i16 p0_p.Y]] w (fun e w' => ∃ _ : Unit, e = .returned (.bool r) ∧ Own [] w w' []) := by
  unfold spec_l02Point.f at h0
  replace h0 := B.top h0
  refine calls_of_J (args := [.agg #[.int .i16 p0_p.X, .int .i16 p0_p.Y]]) Try.func86 rfl Try.ntmps86 rfl [(0, .agg #[.int .i16 p0_p.X, .int .i16 p0_p.Y])] rfl H0 ?_
  refine J.seq ?_
  refine J.region ?_
  refine J.box rfl rfl rfl rfl rfl (fun _ _ => rfl) fun b1 => ?_
  refine J.op rfl rfl rfl (V.as rfl rfl) ?_
  refine J.nil ?_
  refine J.tN ?_
  refine J.seq ?_
  refine J.region ?_
  refine J.op rfl rfl rfl (V.faB rfl rfl tf0_78) ?_
  refine J.op rfl rfl rfl (V.ldB 0 rfl rfl rfl Try.underlying76 ta76 rfl) ?_
  refine J.op rfl rfl rfl (V.conv rfl rfl Try.underlying76 Try.underlying2) ?_
  obtain ⟨r3, hr4, h0⟩ := B.bind h0
  refine J.clA (l := [.tmp 5]) [] [.blk b1 [.int .i16 p0_p.X, .int .i16 p0_p.Y] 78] cf89 (wN rfl) rfl rfl rfl rfl rfl rfl (fun w H => spec_l02Place.calls (IntKind.wrap .i64 p0_p.X) r3 w (Own.refl w)  hr4) fun g5 => ?_
  refine J.op rfl rfl rfl (V.mv rfl rfl) ?_
  refine J.split 7 rfl (fun hB6 => ?_) (fun hB6 => ?_)
  · replace h0 := B.t hB6 h0
    refine J.opOn rfl rfl rfl rfl rfl (V.faB rfl rfl tf1_78) ?_
    refine J.opOn rfl rfl rfl rfl rfl (V.ldB 0 rfl rfl rfl Try.underlying76 ta76 rfl) ?_
    refine J.opOn rfl rfl rfl rfl rfl (V.conv rfl rfl Try.underlying76 Try.underlying2) ?_
    obtain ⟨r7, hr8, h0⟩ := B.bind h0
    refine J.clA (l := [.tmp 10]) [] [.blk b1 [.int .i16 p0_p.X, .int .i16 p0_p.Y] 78] cf65 (wY rfl rfl rfl) rfl rfl rfl rfl rfl rfl (fun w H => spec_l02Density.calls (IntKind.wrap .i64 p0_p.Y) r7 w (Own.refl w)  hr8) fun g9 => ?_
    refine J.op rfl rfl rfl (V.pkT rfl rfl rfl) ?_
    refine J.op rfl rfl rfl (V.as rfl rfl) ?_
    refine J.nil ?_
    refine J.tN ?_
    refine J.ret ?_
    obtain rfl := B.e h0
    exact J.ret1 rfl rfl fun w H => ⟨(), rfl, H.pick [] (by decide)⟩
  · replace h0 := B.f hB6 h0
    refine J.opOff rfl rfl rfl rfl rfl rfl ?_
    refine J.opOff rfl rfl rfl rfl rfl rfl ?_
    refine J.opOff rfl rfl rfl rfl rfl rfl ?_
    refine J.opOff rfl rfl rfl rfl rfl rfl ?_
    refine J.op rfl rfl rfl (V.pkF rfl rfl rfl) ?_
    refine J.op rfl rfl rfl (V.as rfl rfl) ?_
    refine J.nil ?_
    refine J.tN ?_
    refine J.ret ?_
    obtain rfl := B.e h0
    exact J.ret1 rfl rfl fun w H => ⟨(), rfl, H.pick [] (by decide)⟩

/-! ### spec.l02Shape: function 78 -/
noncomputable def spec_l02Shape.b1 (p0_c : (List impl_Point)) : Int → Option (Step (Int) (Sum (Unit) (Bool))) := fun s1 => bif (decide (s1 < (p0_c.length : Int))) then ((bif (inB s1 p0_c.length) then ((spec_l02Point.f (⟨(rd enc_impl_Point p0_c s1).X, (rd enc_impl_Point p0_c s1).Y⟩ : impl_Point)).bind fun r8 => bif (!r8) then (some true) else (bif (decide (0 < s1)) then (bif (inB s1 p0_c.length) then (bif (inB (IntKind.wrap .i64 (s1 - 1)) p0_c.length) then (bif (decide (((rd enc_impl_Point p0_c s1).X) ≤ ((rd enc_impl_Point p0_c (IntKind.wrap .i64 (s1 - 1))).X))) then (some true) else (bif (inB s1 p0_c.length) then (bif (inB (IntKind.wrap .i64 (s1 - 1)) p0_c.length) then (some (decide (((rd enc_impl_Point p0_c s1).Y) < ((rd enc_impl_Point p0_c (IntKind.wrap .i64 (s1 - 1))).Y)))) else none) else none)) else none) else none) else (some false))) else none : Option (Bool)).bind fun y5 => bif y5 then (some (.done (.inr false))) else ((some (IntKind.wrap .i64 (s1 + 1))).bind fun i_20 => some (.next i_20))) else (some (.done (.inl ())))
noncomputable def spec_l02Shape.f (p0_c : (List impl_Point)) : Option (Bool) := (loopW (spec_l02Shape.b1 p0_c) 0).bind (Sum.elim (fun y22 => (some (decide (0 < (p0_c.length : Int)))).bind fun t25 => some t25) (fun r => some r))
set_option maxRecDepth 100000 in
theorem spec_l02Shape.calls (v0 : Value) (p0_c : (List impl_Point)) (r : Bool) (w : World) (H0 : Own [] w w []) (hS0 : SlE [] w v0 78 enc_impl_Point p0_c) (h0 : spec_l02Shape.f p0_c = some r) :
    Calls Try.prog 78 #[v0] w (fun e w' => ∃ _ : Unit, e = .returned (.bool r) ∧ Own [] w w' []) := by
  unfold spec_l02Shape.f at h0
  replace h0 := B.top h0
  refine calls_of_J (args := [v0]) Try.func78 rfl Try.ntmps78 rfl [(0, v0)] rfl H0 ?_
  refine J.seq ?_
  refine J.region ?_
  refine J.op rfl rfl rfl (V.as rfl rfl) ?_
  refine J.nil ?_
  refine J.tN ?_
  refine J.seq ?_
  refine J.seq ?_
  refine J.region ?_
  refine J.op rfl rfl rfl (V.as rfl rfl) ?_
  refine J.nil ?_
  refine J.tN ?_
  obtain ⟨o24, hy23, h0⟩ := B.bind h0
  refine J.cutQ (γ := (Unit) × (Unit)) (fun gy22 => o24 = .inl gy22.1) (fun gy22 => [(0, v0)]) (fun gy22 => []) ?_ ?_
  · refine J.block ?_
    refine J.loop (γ := Unit) hy23 (fun s1 g2 => [(0, v0), (3, .int .i64 s1)]) (fun s1 g2 => []) () ?_ ?_
    · exact J.keep _ rfl (J.pickE [] rfl rfl J.here)
    · intro rec3 s1 g2 h1
      unfold spec_l02Shape.b1 at h1
      refine J.seq ?_
      refine J.seq ?_
      refine J.region ?_
      refine J.op rfl rfl rfl (V.mv rfl rfl) ?_
      refine J.op rfl rfl rfl (V.mv rfl rfl) ?_
      refine J.op rfl rfl rfl (V.lenS hS0 rfl rfl tl40) ?_
      refine J.op rfl rfl rfl (V.cmp rfl rfl rfl rfl) ?_
      refine J.nil ?_
      refine J.tN ?_
      refine J.cond rfl (fun hB4 => ?_) (fun hB4 => ?_)
      · replace h1 := B.t hB4 h1
        refine J.skip ?_
        refine J.tN ?_
        refine J.seq ?_
        refine J.block ?_
        refine J.seq ?_
        obtain ⟨y5, hy18, h1⟩ := B.bind h1
        replace hy18 := B.top hy18
        refine J.cut (γ := Unit) (fun _ => True) (fun gy6 => [(0, v0), (3, .int .i64 s1), (47, .bool y5)]) (fun gy6 => []) ?_ ?_
        · have h2 := hy18
          refine J.quiet mixed (by kernel_rfl) ?_
          refine JQ.op rfl rfl rfl (V.mv rfl rfl) ?_
          refine JQ.op rfl rfl rfl (V.mv rfl rfl) ?_
          obtain ⟨hC7, h2⟩ := B.chk h2
          refine JQ.op rfl rfl rfl (V.ixS hS0 rfl rfl rfl tl40 ts78 hC7) ?_
          refine JQ.op rfl rfl rfl (V.elSA hS0 hC7 rfl rfl ts78 ta78) ?_
          obtain ⟨r8, hr9, h2⟩ := B.bind h2
          refine JQ.clA (l := [.tmp 13]) cf86 (wN rfl) rfl rfl rfl rfl rfl (fun w H => spec_l02Point.calls (⟨(rd enc_impl_Point p0_c s1).X, (rd enc_impl_Point p0_c s1).Y⟩ : impl_Point) r8 w (Own.refl w)  hr9) ?_
          refine JQ.op rfl rfl rfl (V.nt rfl rfl) ?_
          refine JQ.op rfl rfl rfl (V.mv rfl rfl) ?_
          refine JQ.split 16 rfl (fun hB11 => ?_) (fun hB11 => ?_)
          · replace h2 := B.t hB11 h2
            refine JQ.opOff rfl rfl rfl rfl rfl rfl ?_
            refine JQ.opOff rfl rfl rfl rfl rfl rfl ?_
            refine JQ.opOff rfl rfl rfl rfl rfl rfl ?_
            refine JQ.opOffU rfl rfl rfl rfl rfl ?_
            refine JQ.opOffU rfl rfl rfl rfl rfl ?_
            refine JQ.opOffU rfl rfl rfl rfl rfl ?_
            refine JQ.opOffU rfl rfl rfl rfl rfl ?_
            refine JQ.opOffU rfl rfl rfl rfl rfl ?_
            refine JQ.opOffU rfl rfl rfl rfl rfl ?_
            refine JQ.opOffU rfl rfl rfl rfl rfl ?_
            refine JQ.opOffU rfl rfl rfl rfl rfl ?_
            refine JQ.opOffU rfl rfl rfl rfl rfl ?_
            refine JQ.opOffU rfl rfl rfl rfl rfl ?_
            refine JQ.opOffU rfl rfl rfl rfl rfl ?_
            refine JQ.opOffU rfl rfl rfl rfl rfl ?_
            refine JQ.opOffU rfl rfl rfl rfl rfl ?_
            refine JQ.opOffU rfl rfl rfl rfl rfl ?_
            refine JQ.opOffU rfl rfl rfl rfl rfl ?_
            refine JQ.opOffU rfl rfl rfl rfl rfl ?_
            refine JQ.opOffU rfl rfl rfl rfl rfl ?_
            refine JQ.opOffU rfl rfl rfl rfl rfl ?_
            refine JQ.opOffU rfl rfl rfl rfl rfl ?_
            refine JQ.opOffU rfl rfl rfl rfl rfl ?_
            refine JQ.opOffU rfl rfl rfl rfl rfl ?_
            refine JQ.opOffU rfl rfl rfl rfl rfl ?_
            refine JQ.opOffU rfl rfl rfl rfl rfl ?_
            refine JQ.opOffU rfl rfl rfl rfl rfl ?_
            refine JQ.opOffU rfl rfl rfl rfl rfl ?_
            refine JQ.opOffU rfl rfl rfl rfl rfl ?_
            refine JQ.opOff rfl rfl rfl rfl rfl rfl ?_
            refine JQ.op rfl rfl rfl (V.pkT rfl rfl rfl) ?_
            refine JQ.nil ?_
            obtain rfl := B.e h2
            refine J.tN (J.to () trivial ?_)
            exact J.keep _ rfl (J.pickE [] rfl rfl J.here)
          · replace h2 := B.f hB11 h2
            refine JQ.opOn rfl rfl rfl rfl rfl (V.mv rfl rfl) ?_
            refine JQ.opOn rfl rfl rfl rfl rfl (V.cmp rfl rfl rfl rfl) ?_
            refine JQ.opOn rfl rfl rfl rfl rfl (V.mv rfl rfl) ?_
            refine JQ.split 19 rfl (fun hB12 => ?_) (fun hB12 => ?_)
            · replace h2 := B.t hB12 h2
              refine JQ.opOn rfl rfl rfl rfl rfl (V.mv rfl rfl) ?_
              refine JQ.opOn rfl rfl rfl rfl rfl (V.mv rfl rfl) ?_
              obtain ⟨hC13, h2⟩ := B.chk h2
              refine JQ.opOn rfl rfl rfl rfl rfl (V.ixS hS0 rfl rfl rfl tl40 ts78 hC13) ?_
              refine JQ.opOn rfl rfl rfl rfl rfl (V.faS hS0 (lt_of_in hC13) rfl rfl tf0_78) ?_
              refine JQ.opOn rfl rfl rfl rfl rfl (V.elS hS0 hC13 rfl rfl Try.underlying76 ta76 rfl) ?_
              refine JQ.opOn rfl rfl rfl rfl rfl (V.mv rfl rfl) ?_
              refine JQ.opOn rfl rfl rfl rfl rfl (V.mv rfl rfl) ?_
              refine JQ.opOn rfl rfl rfl rfl rfl (V.ar rfl rfl rfl rfl) ?_
              obtain ⟨hC14, h2⟩ := B.chk h2
              refine JQ.opOn rfl rfl rfl rfl rfl (V.ixS hS0 rfl rfl rfl tl40 ts78 hC14) ?_
              refine JQ.opOn rfl rfl rfl rfl rfl (V.faS hS0 (lt_of_in hC14) rfl rfl tf0_78) ?_
              refine JQ.opOn rfl rfl rfl rfl rfl (V.elS hS0 hC14 rfl rfl Try.underlying76 ta76 rfl) ?_
              refine JQ.opOn rfl rfl rfl rfl rfl (V.cmp rfl rfl rfl rfl) ?_
              refine JQ.opOn rfl rfl rfl rfl rfl (V.mv rfl rfl) ?_
              refine JQ.split 32 rfl (fun hB15 => ?_) (fun hB15 => ?_)
              · replace h2 := B.t hB15 h2
                refine JQ.opOff rfl rfl rfl rfl rfl rfl ?_
                refine JQ.opOff rfl rfl rfl rfl rfl rfl ?_
                refine JQ.opOff rfl rfl rfl rfl rfl rfl ?_
                refine JQ.opOff rfl rfl rfl rfl rfl rfl ?_
                refine JQ.opOff rfl rfl rfl rfl rfl rfl ?_
                refine JQ.opOff rfl rfl rfl rfl rfl rfl ?_
                refine JQ.opOff rfl rfl rfl rfl rfl rfl ?_
                refine JQ.opOff rfl rfl rfl rfl rfl rfl ?_
                refine JQ.opOff rfl rfl rfl rfl rfl rfl ?_
                refine JQ.opOff rfl rfl rfl rfl rfl rfl ?_
                refine JQ.opOff rfl rfl rfl rfl rfl rfl ?_
                refine JQ.opOff rfl rfl rfl rfl rfl rfl ?_
                refine JQ.opOn rfl rfl rfl rfl rfl (V.pkT rfl rfl rfl) ?_
                refine JQ.opOn rfl rfl rfl rfl rfl (V.pkT rfl rfl rfl) ?_
                refine JQ.op rfl rfl rfl (V.pkF rfl rfl rfl) ?_
                refine JQ.nil ?_
                obtain rfl := B.e h2
                refine J.tN (J.to () trivial ?_)
                exact J.keep _ rfl (J.pickE [] rfl rfl J.here)
              · replace h2 := B.f hB15 h2
                refine JQ.opOn rfl rfl rfl rfl rfl (V.mv rfl rfl) ?_
                refine JQ.opOn rfl rfl rfl rfl rfl (V.mv rfl rfl) ?_
                obtain ⟨hC16, h2⟩ := B.chk h2
                refine JQ.opOn rfl rfl rfl rfl rfl (V.ixS hS0 rfl rfl rfl tl40 ts78 hC16) ?_
                refine JQ.opOn rfl rfl rfl rfl rfl (V.faS hS0 (lt_of_in hC16) rfl rfl tf1_78) ?_
                refine JQ.opOn rfl rfl rfl rfl rfl (V.elS hS0 hC16 rfl rfl Try.underlying76 ta76 rfl) ?_
                refine JQ.opOn rfl rfl rfl rfl rfl (V.mv rfl rfl) ?_
                refine JQ.opOn rfl rfl rfl rfl rfl (V.mv rfl rfl) ?_
                refine JQ.opOn rfl rfl rfl rfl rfl (V.ar rfl rfl rfl rfl) ?_
                obtain ⟨hC17, h2⟩ := B.chk h2
                refine JQ.opOn rfl rfl rfl rfl rfl (V.ixS hS0 rfl rfl rfl tl40 ts78 hC17) ?_
                refine JQ.opOn rfl rfl rfl rfl rfl (V.faS hS0 (lt_of_in hC17) rfl rfl tf1_78) ?_
                refine JQ.opOn rfl rfl rfl rfl rfl (V.elS hS0 hC17 rfl rfl Try.underlying76 ta76 rfl) ?_
                refine JQ.opOn rfl rfl rfl rfl rfl (V.cmp rfl rfl rfl rfl) ?_
                refine JQ.opOn rfl rfl rfl rfl rfl (V.pkF rfl rfl rfl) ?_
                refine JQ.opOn rfl rfl rfl rfl rfl (V.pkT rfl rfl rfl) ?_
                refine JQ.op rfl rfl rfl (V.pkF rfl rfl rfl) ?_
                refine JQ.nil ?_
                obtain rfl := B.e h2
                refine J.tN (J.to () trivial ?_)
                exact J.keep _ rfl (J.pickE [] rfl rfl J.here)
            · replace h2 := B.f hB12 h2
              refine JQ.opOff rfl rfl rfl rfl rfl rfl ?_
              refine JQ.opOff rfl rfl rfl rfl rfl rfl ?_
              refine JQ.opOff rfl rfl rfl rfl rfl rfl ?_
              refine JQ.opOff rfl rfl rfl rfl rfl rfl ?_
              refine JQ.opOff rfl rfl rfl rfl rfl rfl ?_
              refine JQ.opOff rfl rfl rfl rfl rfl rfl ?_
              refine JQ.opOff rfl rfl rfl rfl rfl rfl ?_
              refine JQ.opOff rfl rfl rfl rfl rfl rfl ?_
              refine JQ.opOff rfl rfl rfl rfl rfl rfl ?_
              refine JQ.opOff rfl rfl rfl rfl rfl rfl ?_
              refine JQ.opOff rfl rfl rfl rfl rfl rfl ?_
              refine JQ.opOff rfl rfl rfl rfl rfl rfl ?_
              refine JQ.opOff rfl rfl rfl rfl rfl rfl ?_
              refine JQ.opOffU rfl rfl rfl rfl rfl ?_
              refine JQ.opOffU rfl rfl rfl rfl rfl ?_
              refine JQ.opOffU rfl rfl rfl rfl rfl ?_
              refine JQ.opOffU rfl rfl rfl rfl rfl ?_
              refine JQ.opOffU rfl rfl rfl rfl rfl ?_
              refine JQ.opOffU rfl rfl rfl rfl rfl ?_
              refine JQ.opOffU rfl rfl rfl rfl rfl ?_
              refine JQ.opOffU rfl rfl rfl rfl rfl ?_
              refine JQ.opOffU rfl rfl rfl rfl rfl ?_
              refine JQ.opOffU rfl rfl rfl rfl rfl ?_
              refine JQ.opOffU rfl rfl rfl rfl rfl ?_
              refine JQ.opOffU rfl rfl rfl rfl rfl ?_
              refine JQ.opOff rfl rfl rfl rfl rfl rfl ?_
              refine JQ.opOn rfl rfl rfl rfl rfl (V.pkF rfl rfl rfl) ?_
              refine JQ.op rfl rfl rfl (V.pkF rfl rfl rfl) ?_
              refine JQ.nil ?_
              obtain rfl := B.e h2
              refine J.tN (J.to () trivial ?_)
              exact J.keep _ rfl (J.pickE [] rfl rfl J.here)
        · intro gy6 _
          refine J.cond rfl (fun hB19 => ?_) (fun hB19 => ?_)
          · replace h1 := B.t hB19 h1
            refine J.seq ?_
            refine J.region ?_
            refine J.op rfl rfl rfl (V.as rfl rfl) ?_
            refine J.nil ?_
            refine J.tN ?_
            refine J.ret ?_
            refine J.bR ?_
            refine J.tR ?_
            refine J.tR ?_
            refine J.bR ?_
            refine J.tR ?_
            refine J.tR ?_
            obtain rfl := B.d h1
            replace h0 := B.inr h0
            obtain rfl := B.e h0
            exact J.ret1 rfl rfl fun w H => ⟨(), rfl, H.pick [] (by decide)⟩
          · replace h1 := B.f hB19 h1
            refine J.skip ?_
            refine J.bN ?_
            refine J.tN ?_
            refine J.region ?_
            refine J.op rfl rfl rfl (V.mv rfl rfl) ?_
            refine J.op rfl rfl rfl (V.ar rfl rfl rfl rfl) ?_
            refine J.op rfl rfl rfl (V.as rfl rfl) ?_
            obtain ⟨i_20, ei_20, h1⟩ := B.lt h1
            refine J.val (congrArg (Value.int .i64) ei_20) ?_
            refine J.nil ?_
            refine J.tN (J.next i_20 () (B.n h1) ?_)
            exact J.keep _ rfl (J.pickE [] rfl rfl J.here)
      · replace h1 := B.f hB4 h1
        refine J.exit ?_
        refine J.tE ?_
        refine J.tE ?_
        refine J.bE ?_
        obtain rfl := B.d h1
        refine J.tN (J.to ((), ()) rfl ?_)
        exact J.keep _ rfl (J.pickE [] rfl rfl J.here)
  · intro gy22 hG
    replace h0 := B.inl hG h0
    refine J.tN ?_
    refine J.seq ?_
    refine J.region ?_
    refine J.op rfl rfl rfl (V.mv rfl rfl) ?_
    refine J.op rfl rfl rfl (V.lenS hS0 rfl rfl tl40) ?_
    refine J.op rfl rfl rfl (V.cmp rfl rfl rfl rfl) ?_
    refine J.op rfl rfl rfl (V.as rfl rfl) ?_
    obtain ⟨t25, et25, h0⟩ := B.lt h0
    refine J.val (congrArg (Value.bool) et25) ?_
    refine J.nil ?_
    refine J.tN ?_
    refine J.ret ?_
    obtain rfl := B.e h0
    exact J.ret1 rfl rfl fun w H => ⟨(), rfl, H.pick [] (by decide)⟩

/-! ### spec.l02Ok: function 55 -/
noncomputable def spec_l02Ok.f (p0_c : (List impl_Point)) : Option (Bool) := (spec_l02Shape.f p0_c).bind fun r1 => bif r1 then ((some (decide ((p0_c.length : Int) ≤ 12))).bind fun t5 => some t5) else (some false)
set_option maxRecDepth 100000 in
theorem spec_l02Ok.calls (v0 : Value) (p0_c : (List impl_Point)) (r : Bool) (w : World) (H0 : Own [] w w []) (hS0 : SlE [] w v0 78 enc_impl_Point p0_c) (h0 : spec_l02Ok.f p0_c = some r) :
    Calls Try.prog 55 #[v0] w (fun e w' => ∃ _ : Unit, e = .returned (.bool r) ∧ Own [] w w' []) := by
  unfold spec_l02Ok.f at h0
  replace h0 := B.top h0
  refine calls_of_J (args := [v0]) Try.func55 rfl Try.ntmps55 rfl [(0, v0)] rfl H0 ?_
  refine J.seq ?_
  refine J.region ?_
  refine J.op rfl rfl rfl (V.as rfl rfl) ?_
  refine J.nil ?_
  refine J.tN ?_
  refine J.seq ?_
  refine J.region ?_
  refine J.op rfl rfl rfl (V.mv rfl rfl) ?_
  obtain ⟨r1, hr2, h0⟩ := B.bind h0
  refine J.clA (l := [.tmp 3]) [] [] cf78 (wN rfl) rfl rfl rfl rfl rfl rfl (fun w H => spec_l02Shape.calls v0 p0_c r1 w (Own.refl w) (Sl.laterA hS0 H) hr2) fun g3 => ?_
  refine J.op rfl rfl rfl (V.mv rfl rfl) ?_
  refine J.split 5 rfl (fun hB4 => ?_) (fun hB4 => ?_)
  · replace h0 := B.t hB4 h0
    refine J.opOn rfl rfl rfl rfl rfl (V.mv rfl rfl) ?_
    refine J.opOn rfl rfl rfl rfl rfl (V.lenS hS0 rfl rfl tl40) ?_
    refine J.opOn rfl rfl rfl rfl rfl (V.cmp rfl rfl rfl rfl) ?_
    refine J.op rfl rfl rfl (V.pkT rfl rfl rfl) ?_
    refine J.op rfl rfl rfl (V.as rfl rfl) ?_
    obtain ⟨t5, et5, h0⟩ := B.lt h0
    refine J.val (congrArg (Value.bool) et5) ?_
    refine J.nil ?_
    refine J.tN ?_
    refine J.ret ?_
    obtain rfl := B.e h0
    exact J.ret1 rfl rfl fun w H => ⟨(), rfl, H.pick [] (by decide)⟩
  · replace h0 := B.f hB4 h0
    refine J.opOff rfl rfl rfl rfl rfl rfl ?_
    refine J.opOff rfl rfl rfl rfl rfl rfl ?_
    refine J.opOff rfl rfl rfl rfl rfl rfl ?_
    refine J.op rfl rfl rfl (V.pkF rfl rfl rfl) ?_
    refine J.op rfl rfl rfl (V.as rfl rfl) ?_
    refine J.nil ?_
    refine J.tN ?_
    refine J.ret ?_
    obtain rfl := B.e h0
    exact J.ret1 rfl rfl fun w H => ⟨(), rfl, H.pick [] (by decide)⟩

/-! ### spec.l02At: function 62 -/
noncomputable def spec_l02At.b1 (p0_c : (List impl_Point)) (p1_x : Int) : Int → Option (Step (Int) (Int)) := fun s10 => bif (inB (IntKind.wrap .i64 (s10 + 1)) p0_c.length) then (bif (decide ((IntKind.wrap .i64 ((rd enc_impl_Point p0_c (IntKind.wrap .i64 (s10 + 1))).X)) ≤ p1_x)) then ((some (IntKind.wrap .i64 (s10 + 1))).bind fun i_15 => some (.next i_15)) else (some (.done s10))) else none
noncomputable def spec_l02At.f (p0_c : (List impl_Point)) (p1_x : Int) : Option (Int) := (some (p0_c.length : Int)).bind fun n_1 => bif (inB 0 p0_c.length) then (bif (decide (p1_x ≤ (IntKind.wrap .i64 ((rd enc_impl_Point p0_c 0).X)))) then (bif (inB 0 p0_c.length) then ((some (IntKind.wrap .i64 ((rd enc_impl_Point p0_c 0).Y))).bind fun t5 => some t5) else none) else (bif (inB (IntKind.wrap .i64 (n_1 - 1)) p0_c.length) then (bif (decide ((IntKind.wrap .i64 ((rd enc_impl_Point p0_c (IntKind.wrap .i64 (n_1 - 1))).X)) ≤ p1_x)) then (bif (inB (IntKind.wrap .i64 (n_1 - 1)) p0_c.length) then ((some (IntKind.wrap .i64 ((rd enc_impl_Point p0_c (IntKind.wrap .i64 (n_1 - 1))).Y))).bind fun t9 => some t9) else none) else ((loopW (spec_l02At.b1 p0_c p1_x) 0).bind fun y16 => bif (inB y16 p0_c.length) then (bif (inB (IntKind.wrap .i64 (y16 + 1)) p0_c.length) then (bif (!((IntKind.wrap .i64 ((IntKind.wrap .i64 ((rd enc_impl_Point p0_c (IntKind.wrap .i64 (y16 + 1))).X)) - (IntKind.wrap .i64 ((rd enc_impl_Point p0_c y16).X)))) == 0)) then ((some (IntKind.wrap .i64 ((IntKind.wrap .i64 ((rd enc_impl_Point p0_c y16).Y)) + (IntKind.wrap .i64 (Int.tdiv (IntKind.wrap .i64 ((IntKind.wrap .i64 ((IntKind.wrap .i64 ((rd enc_impl_Point p0_c (IntKind.wrap .i64 (y16 + 1))).Y)) - (IntKind.wrap .i64 ((rd enc_impl_Point p0_c y16).Y)))) * (IntKind.wrap .i64 (p1_x - (IntKind.wrap .i64 ((rd enc_impl_Point p0_c y16).X)))))) (IntKind.wrap .i64 ((IntKind.wrap .i64 ((rd enc_impl_Point p0_c (IntKind.wrap .i64 (y16 + 1))).X)) - (IntKind.wrap .i64 ((rd enc_impl_Point p0_c y16).X))))))))).bind fun t26 => some t26) else none) else none) else none)) else none)) else none
set_option maxRecDepth 100000 in
theorem spec_l02At.calls (v0 : Value) (p0_c : (List impl_Point)) (p1_x : Int) (r : Int) (w : World) (H0 : Own [] w w []) (hS0 : SlE [] w v0 78 enc_impl_Point p0_c) (h0 : spec_l02At.f p0_c p1_x = some r) :
    Calls Try.prog 62 #[v0, .int .i64 p1_x] w (fun e w' => ∃ _ : Unit, e = .returned (.int .i64 r) ∧ Own [] w w' []) := by
  unfold spec_l02At.f at h0
  replace h0 := B.top h0
  refine calls_of_J (args := [v0, .int .i64 p1_x]) Try.func62 rfl Try.ntmps62 rfl [(0, v0), (1, .int .i64 p1_x)] rfl H0 ?_
  refine J.seq ?_
  refine J.region ?_
  refine J.op rfl rfl rfl (V.as rfl rfl) ?_
  refine J.nil ?_
  refine J.tN ?_
  refine J.seq ?_
  refine J.region ?_
  refine J.op rfl rfl rfl (V.mv rfl rfl) ?_
  refine J.op rfl rfl rfl (V.lenS hS0 rfl rfl tl40) ?_
  refine J.op rfl rfl rfl (V.as rfl rfl) ?_
  obtain ⟨n_1, en_1, h0⟩ := B.lt h0
  refine J.val (congrArg (Value.int .i64) en_1) ?_
  refine J.nil ?_
  refine J.tN ?_
  refine J.seq ?_
  refine J.seq ?_
  refine J.region ?_
  refine J.op rfl rfl rfl (V.mv rfl rfl) ?_
  refine J.op rfl rfl rfl (V.mv rfl rfl) ?_
  obtain ⟨hC2, h0⟩ := B.chk h0
  refine J.op rfl rfl rfl (V.ixS hS0 rfl rfl rfl tl40 ts78 hC2) ?_
  refine J.op rfl rfl rfl (V.faS hS0 (lt_of_in hC2) rfl rfl tf0_78) ?_
  refine J.op rfl rfl rfl (V.elS hS0 hC2 rfl rfl Try.underlying76 ta76 rfl) ?_
  refine J.op rfl rfl rfl (V.conv rfl rfl Try.underlying76 Try.underlying2) ?_
  refine J.op rfl rfl rfl (V.cmp rfl rfl rfl rfl) ?_
  refine J.nil ?_
  refine J.tN ?_
  refine J.cond rfl (fun hB3 => ?_) (fun hB3 => ?_)
  · replace h0 := B.t hB3 h0
    refine J.seq ?_
    refine J.region ?_
    refine J.op rfl rfl rfl (V.mv rfl rfl) ?_
    obtain ⟨hC4, h0⟩ := B.chk h0
    refine J.op rfl rfl rfl (V.ixS hS0 rfl rfl rfl tl40 ts78 hC4) ?_
    refine J.op rfl rfl rfl (V.faS hS0 (lt_of_in hC4) rfl rfl tf1_78) ?_
    refine J.op rfl rfl rfl (V.elS hS0 hC4 rfl rfl Try.underlying76 ta76 rfl) ?_
    refine J.op rfl rfl rfl (V.conv rfl rfl Try.underlying76 Try.underlying2) ?_
    refine J.op rfl rfl rfl (V.as rfl rfl) ?_
    obtain ⟨t5, et5, h0⟩ := B.lt h0
    refine J.val (congrArg (Value.int .i64) et5) ?_
    refine J.nil ?_
    refine J.tN ?_
    refine J.ret ?_
    refine J.tR ?_
    obtain rfl := B.e h0
    exact J.ret1 rfl rfl fun w H => ⟨(), rfl, H.pick [] (by decide)⟩
  · replace h0 := B.f hB3 h0
    refine J.skip ?_
    refine J.tN ?_
    refine J.seq ?_
    refine J.seq ?_
    refine J.region ?_
    refine J.op rfl rfl rfl (V.mv rfl rfl) ?_
    refine J.op rfl rfl rfl (V.mv rfl rfl) ?_
    refine J.op rfl rfl rfl (V.mv rfl rfl) ?_
    refine J.op rfl rfl rfl (V.ar rfl rfl rfl rfl) ?_
    obtain ⟨hC6, h0⟩ := B.chk h0
    refine J.op rfl rfl rfl (V.ixS hS0 rfl rfl rfl tl40 ts78 hC6) ?_
    refine J.op rfl rfl rfl (V.faS hS0 (lt_of_in hC6) rfl rfl tf0_78) ?_
    refine J.op rfl rfl rfl (V.elS hS0 hC6 rfl rfl Try.underlying76 ta76 rfl) ?_
    refine J.op rfl rfl rfl (V.conv rfl rfl Try.underlying76 Try.underlying2) ?_
    refine J.op rfl rfl rfl (V.cmp rfl rfl rfl rfl) ?_
    refine J.nil ?_
    refine J.tN ?_
    refine J.cond rfl (fun hB7 => ?_) (fun hB7 => ?_)
    · replace h0 := B.t hB7 h0
      refine J.seq ?_
      refine J.region ?_
      refine J.op rfl rfl rfl (V.mv rfl rfl) ?_
      refine J.op rfl rfl rfl (V.mv rfl rfl) ?_
      refine J.op rfl rfl rfl (V.ar rfl rfl rfl rfl) ?_
      obtain ⟨hC8, h0⟩ := B.chk h0
      refine J.op rfl rfl rfl (V.ixS hS0 rfl rfl rfl tl40 ts78 hC8) ?_
      refine J.op rfl rfl rfl (V.faS hS0 (lt_of_in hC8) rfl rfl tf1_78) ?_
      refine J.op rfl rfl rfl (V.elS hS0 hC8 rfl rfl Try.underlying76 ta76 rfl) ?_
      refine J.op rfl rfl rfl (V.conv rfl rfl Try.underlying76 Try.underlying2) ?_
      refine J.op rfl rfl rfl (V.as rfl rfl) ?_
      obtain ⟨t9, et9, h0⟩ := B.lt h0
      refine J.val (congrArg (Value.int .i64) et9) ?_
      refine J.nil ?_
      refine J.tN ?_
      refine J.ret ?_
      refine J.tR ?_
      obtain rfl := B.e h0
      exact J.ret1 rfl rfl fun w H => ⟨(), rfl, H.pick [] (by decide)⟩
    · replace h0 := B.f hB7 h0
      refine J.skip ?_
      refine J.tN ?_
      refine J.seq ?_
      refine J.region ?_
      refine J.op rfl rfl rfl (V.as rfl rfl) ?_
      refine J.nil ?_
      refine J.tN ?_
      refine J.seq ?_
      obtain ⟨y16, hy18, h0⟩ := B.bind h0
      refine J.cut (γ := Unit) (fun _ => True) (fun gy17 => [(0, v0), (1, .int .i64 p1_x), (6, .int .i64 y16)]) (fun gy17 => []) ?_ ?_
      · refine J.block ?_
        refine J.loop (γ := Unit) hy18 (fun s10 g11 => [(0, v0), (1, .int .i64 p1_x), (6, .int .i64 s10)]) (fun s10 g11 => []) () ?_ ?_
        · exact J.keep _ rfl (J.pickE [] rfl rfl J.here)
        · intro rec12 s10 g11 h1
          unfold spec_l02At.b1 at h1
          refine J.seq ?_
          refine J.seq ?_
          refine J.region ?_
          refine J.op rfl rfl rfl (V.mv rfl rfl) ?_
          refine J.op rfl rfl rfl (V.mv rfl rfl) ?_
          refine J.op rfl rfl rfl (V.ar rfl rfl rfl rfl) ?_
          obtain ⟨hC13, h1⟩ := B.chk h1
          refine J.op rfl rfl rfl (V.ixS hS0 rfl rfl rfl tl40 ts78 hC13) ?_
          refine J.op rfl rfl rfl (V.faS hS0 (lt_of_in hC13) rfl rfl tf0_78) ?_
          refine J.op rfl rfl rfl (V.elS hS0 hC13 rfl rfl Try.underlying76 ta76 rfl) ?_
          refine J.op rfl rfl rfl (V.conv rfl rfl Try.underlying76 Try.underlying2) ?_
          refine J.op rfl rfl rfl (V.mv rfl rfl) ?_
          refine J.op rfl rfl rfl (V.cmp rfl rfl rfl rfl) ?_
          refine J.nil ?_
          refine J.tN ?_
          refine J.cond rfl (fun hB14 => ?_) (fun hB14 => ?_)
          · replace h1 := B.t hB14 h1
            refine J.skip ?_
            refine J.tN ?_
            refine J.block ?_
            refine J.region ?_
            refine J.op rfl rfl rfl (V.mv rfl rfl) ?_
            refine J.op rfl rfl rfl (V.ar rfl rfl rfl rfl) ?_
            refine J.op rfl rfl rfl (V.as rfl rfl) ?_
            obtain ⟨i_15, ei_15, h1⟩ := B.lt h1
            refine J.val (congrArg (Value.int .i64) ei_15) ?_
            refine J.nil ?_
            refine J.bN ?_
            refine J.tN (J.next i_15 () (B.n h1) ?_)
            exact J.keep _ rfl (J.pickE [] rfl rfl J.here)
          · replace h1 := B.f hB14 h1
            refine J.exit ?_
            refine J.tE ?_
            refine J.tE ?_
            refine J.bE ?_
            obtain rfl := B.d h1
            refine J.tN (J.to () trivial ?_)
            exact J.keep _ rfl (J.pickE [] rfl rfl J.here)
      · intro gy17 _
        refine J.seq ?_
        refine J.region ?_
        refine J.op rfl rfl rfl (V.mv rfl rfl) ?_
        refine J.op rfl rfl rfl (V.mv rfl rfl) ?_
        obtain ⟨hC19, h0⟩ := B.chk h0
        refine J.op rfl rfl rfl (V.ixS hS0 rfl rfl rfl tl40 ts78 hC19) ?_
        refine J.op rfl rfl rfl (V.elSA hS0 hC19 rfl rfl ts78 ta78) ?_
        refine J.alloc rfl rfl rfl rfl tz78 rfl fun b20 => ?_
        refine J.stW (cs' := [.int .i16 ((rd enc_impl_Point p0_c y16).X), .int .i16 ((rd enc_impl_Point p0_c y16).Y)]) 0 rfl rfl rfl rfl rfl rfl ts78 rfl (fun _ H => (one_cons rfl (one_cons rfl one_nil))) rfl rfl ?_
        refine J.nil ?_
        refine J.tN ?_
        refine J.seq ?_
        refine J.region ?_
        refine J.op rfl rfl rfl (V.mv rfl rfl) ?_
        refine J.op rfl rfl rfl (V.mv rfl rfl) ?_
        refine J.op rfl rfl rfl (V.ar rfl rfl rfl rfl) ?_
        obtain ⟨hC22, h0⟩ := B.chk h0
        refine J.op rfl rfl rfl (V.ixS hS0 rfl rfl rfl tl40 ts78 hC22) ?_
        refine J.op rfl rfl rfl (V.elSA hS0 hC22 rfl rfl ts78 ta78) ?_
        refine J.alloc rfl rfl rfl rfl tz78 rfl fun b23 => ?_
        refine J.stW (cs' := [.int .i16 ((rd enc_impl_Point p0_c (IntKind.wrap .i64 (y16 + 1))).X), .int .i16 ((rd enc_impl_Point p0_c (IntKind.wrap .i64 (y16 + 1))).Y)]) 0 rfl rfl rfl rfl rfl rfl ts78 rfl (fun _ H => (one_cons rfl (one_cons rfl one_nil))) rfl rfl ?_
        refine J.nil ?_
        refine J.tN ?_
        refine J.seq ?_
        refine J.quiet mixed (by kernel_rfl) ?_
        refine JQ.op rfl rfl rfl (V.faB rfl rfl tf1_78) ?_
        refine JQ.op rfl rfl rfl (V.ldB 1 rfl rfl rfl Try.underlying76 ta76 rfl) ?_
        refine JQ.op rfl rfl rfl (V.conv rfl rfl Try.underlying76 Try.underlying2) ?_
        refine JQ.op rfl rfl rfl (V.faB rfl rfl tf1_78) ?_
        refine JQ.op rfl rfl rfl (V.ldB 0 rfl rfl rfl Try.underlying76 ta76 rfl) ?_
        refine JQ.op rfl rfl rfl (V.conv rfl rfl Try.underlying76 Try.underlying2) ?_
        refine JQ.op rfl rfl rfl (V.faB rfl rfl tf1_78) ?_
        refine JQ.op rfl rfl rfl (V.ldB 1 rfl rfl rfl Try.underlying76 ta76 rfl) ?_
        refine JQ.op rfl rfl rfl (V.conv rfl rfl Try.underlying76 Try.underlying2) ?_
        refine JQ.op rfl rfl rfl (V.ar rfl rfl rfl rfl) ?_
        refine JQ.op rfl rfl rfl (V.mv rfl rfl) ?_
        refine JQ.op rfl rfl rfl (V.faB rfl rfl tf0_78) ?_
        refine JQ.op rfl rfl rfl (V.ldB 1 rfl rfl rfl Try.underlying76 ta76 rfl) ?_
        refine JQ.op rfl rfl rfl (V.conv rfl rfl Try.underlying76 Try.underlying2) ?_
        refine JQ.op rfl rfl rfl (V.ar rfl rfl rfl rfl) ?_
        refine JQ.op rfl rfl rfl (V.ar rfl rfl rfl rfl) ?_
        refine JQ.op rfl rfl rfl (V.faB rfl rfl tf0_78) ?_
        refine JQ.op rfl rfl rfl (V.ldB 0 rfl rfl rfl Try.underlying76 ta76 rfl) ?_
        refine JQ.op rfl rfl rfl (V.conv rfl rfl Try.underlying76 Try.underlying2) ?_
        refine JQ.op rfl rfl rfl (V.faB rfl rfl tf0_78) ?_
        refine JQ.op rfl rfl rfl (V.ldB 1 rfl rfl rfl Try.underlying76 ta76 rfl) ?_
        refine JQ.op rfl rfl rfl (V.conv rfl rfl Try.underlying76 Try.underlying2) ?_
        refine JQ.op rfl rfl rfl (V.ar rfl rfl rfl rfl) ?_
        obtain ⟨hC25, h0⟩ := B.chk h0
        refine JQ.op rfl rfl rfl (V.quo rfl rfl rfl (nz hC25)) ?_
        refine JQ.op rfl rfl rfl (V.ar rfl rfl rfl rfl) ?_
        refine JQ.op rfl rfl rfl (V.as rfl rfl) ?_
        obtain ⟨t26, et26, h0⟩ := B.lt h0
        refine JQ.val (congrArg (Value.int .i64) et26) ?_
        refine JQ.nil ?_
        refine J.tN ?_
        refine J.ret ?_
        obtain rfl := B.e h0
        exact J.ret1 rfl rfl fun w H => ⟨(), rfl, H.pick [] (by decide)⟩

/-! ### spec.l03Held: function 79 -/
noncomputable def spec_l03Held.f (p0_d : Int) : Option (Int) := (some (IntKind.wrap .i64 (Int.tdiv (IntKind.wrap .i64 ((IntKind.wrap .i64 p0_d) + 5)) 10))).bind fun t1 => some t1
set_option maxRecDepth 100000 in
theorem spec_l03Held.calls (p0_d : Int) (r : Int) (w : World) (H0 : Own [] w w []) (h0 : spec_l03Held.f p0_d = some r) :
    Calls Try.prog 79 #[.int .i16 p0_d] w (fun e w' => ∃ _ : Unit, e = .returned (.int .i64 r) ∧ Own [] w w' []) := by
  unfold spec_l03Held.f at h0
  replace h0 := B.top h0
  refine calls_of_J (args := [.int .i16 p0_d]) Try.func79 rfl Try.ntmps79 rfl [(0, .int .i16 p0_d)] rfl H0 ?_
  refine J.seq ?_
  refine J.region ?_
  refine J.op rfl rfl rfl (V.as rfl rfl) ?_
  refine J.nil ?_
  refine J.tN ?_
  refine J.seq ?_
  refine J.region ?_
  refine J.op rfl rfl rfl (V.mv rfl rfl) ?_
  refine J.op rfl rfl rfl (V.conv rfl rfl Try.underlying76 Try.underlying2) ?_
  refine J.op rfl rfl rfl (V.ar rfl rfl rfl rfl) ?_
  refine J.op rfl rfl rfl (V.quo rfl rfl rfl rfl) ?_
  refine J.op rfl rfl rfl (V.as rfl rfl) ?_
  obtain ⟨t1, et1, h0⟩ := B.lt h0
  refine J.val (congrArg (Value.int .i64) et1) ?_
  refine J.nil ?_
  refine J.tN ?_
  refine J.ret ?_
  obtain rfl := B.e h0
  exact J.ret1 rfl rfl fun w H => ⟨(), rfl, H.pick [] (by decide)⟩

/-! ### spec.l05Dark: function 57 -/
noncomputable def spec_l05Dark.f (p0_paper : (List impl_Point)) (p1_density : Int) (p2_light : Int) : Option (Int) := (spec_l03Held.f (IntKind.wrap .i16 p1_density)).bind fun r1 => (spec_l02At.f p0_paper (IntKind.wrap .i64 (p2_light - r1))).bind fun r4 => some r4
set_option maxRecDepth 100000 in
theorem spec_l05Dark.calls (v0 : Value) (p0_paper : (List impl_Point)) (p1_density : Int) (p2_light : Int) (r : Int) (w : World) (H0 : Own [] w w []) (hS0 : SlE [] w v0 78 enc_impl_Point p0_paper) (h0 : spec_l05Dark.f p0_paper p1_density p2_light = some r) :
    Calls Try.prog 57 #[v0, .int .i64 p1_density, .int .i64 p2_light] w (fun e w' => ∃ _ : Unit, e = .returned (.int .i64 r) ∧ Own [] w w' []) := by
  unfold spec_l05Dark.f at h0
  replace h0 := B.top h0
  refine calls_of_J (args := [v0, .int .i64 p1_density, .int .i64 p2_light]) Try.func57 rfl Try.ntmps57 rfl [(0, v0), (1, .int .i64 p1_density), (2, .int .i64 p2_light)] rfl H0 ?_
  refine J.seq ?_
  refine J.region ?_
  refine J.op rfl rfl rfl (V.as rfl rfl) ?_
  refine J.nil ?_
  refine J.tN ?_
  refine J.seq ?_
  refine J.region ?_
  refine J.op rfl rfl rfl (V.mv rfl rfl) ?_
  refine J.op rfl rfl rfl (V.mv rfl rfl) ?_
  refine J.op rfl rfl rfl (V.mv rfl rfl) ?_
  refine J.op rfl rfl rfl (V.conv rfl rfl Try.underlying2 Try.underlying76) ?_
  obtain ⟨r1, hr2, h0⟩ := B.bind h0
  refine J.clA (l := [.tmp 10]) [] [] cf79 (wN rfl) rfl rfl rfl rfl rfl rfl (fun w H => spec_l03Held.calls (IntKind.wrap .i16 p1_density) r1 w (Own.refl w)  hr2) fun g3 => ?_
  refine J.op rfl rfl rfl (V.ar rfl rfl rfl rfl) ?_
  obtain ⟨r4, hr5, h0⟩ := B.bind h0
  refine J.clA (l := [.tmp 7, .tmp 12]) [] [] cf62 (wN rfl) rfl rfl rfl rfl rfl rfl (fun w H => spec_l02At.calls v0 p0_paper (IntKind.wrap .i64 (p2_light - r1)) r4 w (Own.refl w) (Sl.laterA hS0 H) hr5) fun g6 => ?_
  refine J.op rfl rfl rfl (V.as rfl rfl) ?_
  refine J.nil ?_
  refine J.tN ?_
  refine J.ret ?_
  obtain rfl := B.e h0
  exact J.ret1 rfl rfl fun w H => ⟨(), rfl, H.pick [] (by decide)⟩

/-! ### spec.l05Least: function 56 -/
noncomputable def spec_l05Least.b1 (p0_paper : (List impl_Point)) (p1_density : Int) (p2_target : Int) : Int → Option (Step (Int) (Sum (Unit) (Int))) := fun s1 => bif (decide (s1 ≤ 36)) then ((spec_l05Dark.f p0_paper p1_density s1).bind fun r5 => bif (decide (p2_target ≤ r5)) then (some (.done (.inr s1))) else ((some (IntKind.wrap .i64 (s1 + 1))).bind fun light_9 => some (.next light_9))) else (some (.done (.inl ())))
noncomputable def spec_l05Least.f (p0_paper : (List impl_Point)) (p1_density : Int) (p2_target : Int) : Option (Int) := (loopW (spec_l05Least.b1 p0_paper p1_density p2_target) 0).bind (Sum.elim (fun y11 => some (-1)) (fun r => some r))
set_option maxRecDepth 100000 in
theorem spec_l05Least.calls (v0 : Value) (p0_paper : (List impl_Point)) (p1_density : Int) (p2_target : Int) (r : Int) (w : World) (H0 : Own [] w w []) (hS0 : SlE [] w v0 78 enc_impl_Point p0_paper) (h0 : spec_l05Least.f p0_paper p1_density p2_target = some r) :
    Calls Try.prog 56 #[v0, .int .i64 p1_density, .int .i64 p2_target] w (fun e w' => ∃ _ : Unit, e = .returned (.int .i64 r) ∧ Own [] w w' []) := by
  unfold spec_l05Least.f at h0
  replace h0 := B.top h0
  refine calls_of_J (args := [v0, .int .i64 p1_density, .int .i64 p2_target]) Try.func56 rfl Try.ntmps56 rfl [(0, v0), (1, .int .i64 p1_density), (2, .int .i64 p2_target)] rfl H0 ?_
  refine J.seq ?_
  refine J.region ?_
  refine J.op rfl rfl rfl (V.as rfl rfl) ?_
  refine J.nil ?_
  refine J.tN ?_
  refine J.seq ?_
  refine J.seq ?_
  refine J.region ?_
  refine J.op rfl rfl rfl (V.as rfl rfl) ?_
  refine J.nil ?_
  refine J.tN ?_
  obtain ⟨o13, hy12, h0⟩ := B.bind h0
  refine J.cutQ (γ := (Unit) × (Unit)) (fun gy11 => o13 = .inl gy11.1) (fun gy11 => []) (fun gy11 => []) ?_ ?_
  · refine J.block ?_
    refine J.loop (γ := Unit) hy12 (fun s1 g2 => [(0, v0), (1, .int .i64 p1_density), (2, .int .i64 p2_target), (7, .int .i64 s1)]) (fun s1 g2 => []) () ?_ ?_
    · exact J.keep _ rfl (J.pickE [] rfl rfl J.here)
    · intro rec3 s1 g2 h1
      unfold spec_l05Least.b1 at h1
      refine J.seq ?_
      refine J.seq ?_
      refine J.region ?_
      refine J.op rfl rfl rfl (V.mv rfl rfl) ?_
      refine J.op rfl rfl rfl (V.cmp rfl rfl rfl rfl) ?_
      refine J.nil ?_
      refine J.tN ?_
      refine J.cond rfl (fun hB4 => ?_) (fun hB4 => ?_)
      · replace h1 := B.t hB4 h1
        refine J.skip ?_
        refine J.tN ?_
        refine J.seq ?_
        refine J.block ?_
        refine J.seq ?_
        refine J.region ?_
        refine J.op rfl rfl rfl (V.mv rfl rfl) ?_
        refine J.op rfl rfl rfl (V.mv rfl rfl) ?_
        refine J.op rfl rfl rfl (V.mv rfl rfl) ?_
        obtain ⟨r5, hr6, h1⟩ := B.bind h1
        refine J.clA (l := [.tmp 12, .tmp 13, .tmp 14]) [] [] cf57 (wN rfl) rfl rfl rfl rfl rfl rfl (fun w H => spec_l05Dark.calls v0 p0_paper p1_density s1 r5 w (Own.refl w) (Sl.laterA hS0 H) hr6) fun g7 => ?_
        refine J.op rfl rfl rfl (V.mv rfl rfl) ?_
        refine J.op rfl rfl rfl (V.cmp rfl rfl rfl rfl) ?_
        refine J.nil ?_
        refine J.tN ?_
        refine J.cond rfl (fun hB8 => ?_) (fun hB8 => ?_)
        · replace h1 := B.t hB8 h1
          refine J.seq ?_
          refine J.region ?_
          refine J.op rfl rfl rfl (V.mv rfl rfl) ?_
          refine J.op rfl rfl rfl (V.as rfl rfl) ?_
          refine J.nil ?_
          refine J.tN ?_
          refine J.ret ?_
          refine J.bR ?_
          refine J.tR ?_
          refine J.tR ?_
          refine J.bR ?_
          refine J.tR ?_
          refine J.tR ?_
          obtain rfl := B.d h1
          replace h0 := B.inr h0
          obtain rfl := B.e h0
          exact J.ret1 rfl rfl fun w H => ⟨(), rfl, H.pick [] (by decide)⟩
        · replace h1 := B.f hB8 h1
          refine J.skip ?_
          refine J.bN ?_
          refine J.tN ?_
          refine J.region ?_
          refine J.op rfl rfl rfl (V.mv rfl rfl) ?_
          refine J.op rfl rfl rfl (V.ar rfl rfl rfl rfl) ?_
          refine J.op rfl rfl rfl (V.as rfl rfl) ?_
          obtain ⟨light_9, elight_9, h1⟩ := B.lt h1
          refine J.val (congrArg (Value.int .i64) elight_9) ?_
          refine J.nil ?_
          refine J.tN (J.next light_9 () (B.n h1) ?_)
          exact J.keep _ rfl (J.pickE [] rfl rfl J.here)
      · replace h1 := B.f hB4 h1
        refine J.exit ?_
        refine J.tE ?_
        refine J.tE ?_
        refine J.bE ?_
        obtain rfl := B.d h1
        refine J.tN (J.to ((), ()) rfl ?_)
        exact J.keep _ rfl (J.pickE [] rfl rfl J.here)
  · intro gy11 hG
    replace h0 := B.inl hG h0
    refine J.tN ?_
    refine J.seq ?_
    refine J.region ?_
    refine J.op rfl rfl rfl (V.as rfl rfl) ?_
    refine J.nil ?_
    refine J.tN ?_
    refine J.ret ?_
    obtain rfl := B.e h0
    exact J.ret1 rfl rfl fun w H => ⟨(), rfl, H.pick [] (by decide)⟩

/-! ### spec.MisfitOf: function 21 -/
noncomputable def spec_MisfitOf.f (p0_paper : (List impl_Point)) (p1_thin : Int) (p2_thick : Int) (p3_dark : Int) (p4_light : Int) : Option (Int × Int × Int) := (spec_l02Ok.f p0_paper).bind fun r1 => bif (!r1) then (some (0, 0, 1)) else ((spec_l05Four.f p1_thin p2_thick p3_dark p4_light).bind fun r5 => bif (!r5) then (some (0, 0, 2)) else ((spec_l05Least.f p0_paper p1_thin p3_dark).bind fun r9 => bif (decide (r9 < 0)) then (some (0, 0, 6)) else ((spec_l05Dark.f p0_paper p2_thick r9).bind fun r13 => (some (IntKind.wrap .i64 (r13 - p4_light))).bind fun t16 => some (r9, t16, 0))))
set_option maxRecDepth 100000 in
theorem spec_MisfitOf.calls (v0 : Value) (p0_paper : (List impl_Point)) (p1_thin : Int) (p2_thick : Int) (p3_dark : Int) (p4_light : Int) (r : Int × Int × Int) (w : World) (H0 : Own [] w w []) (hS0 : SlE [] w v0 78 enc_impl_Point p0_paper) (h0 : spec_MisfitOf.f p0_paper p1_thin p2_thick p3_dark p4_light = some r) :
    Calls Try.prog 21 #[v0, .int .i64 p1_thin, .int .i64 p2_thick, .int .i64 p3_dark, .int .i64 p4_light] w (fun e w' => ∃ _ : Unit, e = .returned (.tuple #[.int .i64 r.1, .int .i64 r.2.1, .int .i64 r.2.2]) ∧ Own [] w w' []) := by
  unfold spec_MisfitOf.f at h0
  replace h0 := B.top h0
  refine calls_of_J (args := [v0, .int .i64 p1_thin, .int .i64 p2_thick, .int .i64 p3_dark, .int .i64 p4_light]) Try.func21 rfl Try.ntmps21 rfl [(0, v0), (1, .int .i64 p1_thin), (2, .int .i64 p2_thick), (3, .int .i64 p3_dark), (4, .int .i64 p4_light)] rfl H0 ?_
  refine J.seq ?_
  refine J.region ?_
  refine J.op rfl rfl rfl (V.as rfl rfl) ?_
  refine J.op rfl rfl rfl (V.as rfl rfl) ?_
  refine J.op rfl rfl rfl (V.as rfl rfl) ?_
  refine J.nil ?_
  refine J.tN ?_
  refine J.seq ?_
  refine J.seq ?_
  refine J.region ?_
  refine J.op rfl rfl rfl (V.mv rfl rfl) ?_
  obtain ⟨r1, hr2, h0⟩ := B.bind h0
  refine J.clA (l := [.tmp 14]) [] [] cf55 (wN rfl) rfl rfl rfl rfl rfl rfl (fun w H => spec_l02Ok.calls v0 p0_paper r1 w (Own.refl w) (Sl.laterA hS0 H) hr2) fun g3 => ?_
  refine J.op rfl rfl rfl (V.nt rfl rfl) ?_
  refine J.nil ?_
  refine J.tN ?_
  refine J.cond rfl (fun hB4 => ?_) (fun hB4 => ?_)
  · replace h0 := B.t hB4 h0
    refine J.seq ?_
    refine J.region ?_
    refine J.op rfl rfl rfl (V.as rfl rfl) ?_
    refine J.op rfl rfl rfl (V.as rfl rfl) ?_
    refine J.op rfl rfl rfl (V.as rfl rfl) ?_
    refine J.nil ?_
    refine J.tN ?_
    refine J.ret ?_
    refine J.tR ?_
    obtain rfl := B.e h0
    exact J.ret3 rfl rfl rfl rfl fun w H => ⟨(), rfl, H.pick [] (by decide)⟩
  · replace h0 := B.f hB4 h0
    refine J.skip ?_
    refine J.tN ?_
    refine J.seq ?_
    refine J.seq ?_
    refine J.region ?_
    refine J.op rfl rfl rfl (V.mv rfl rfl) ?_
    refine J.op rfl rfl rfl (V.mv rfl rfl) ?_
    refine J.op rfl rfl rfl (V.mv rfl rfl) ?_
    refine J.op rfl rfl rfl (V.mv rfl rfl) ?_
    obtain ⟨r5, hr6, h0⟩ := B.bind h0
    refine J.clA (l := [.tmp 17, .tmp 18, .tmp 19, .tmp 20]) [] [] cf34 (wN rfl) rfl rfl rfl rfl rfl rfl (fun w H => spec_l05Four.calls p1_thin p2_thick p3_dark p4_light r5 w (Own.refl w)  hr6) fun g7 => ?_
    refine J.op rfl rfl rfl (V.nt rfl rfl) ?_
    refine J.nil ?_
    refine J.tN ?_
    refine J.cond rfl (fun hB8 => ?_) (fun hB8 => ?_)
    · replace h0 := B.t hB8 h0
      refine J.seq ?_
      refine J.region ?_
      refine J.op rfl rfl rfl (V.as rfl rfl) ?_
      refine J.op rfl rfl rfl (V.as rfl rfl) ?_
      refine J.op rfl rfl rfl (V.as rfl rfl) ?_
      refine J.nil ?_
      refine J.tN ?_
      refine J.ret ?_
      refine J.tR ?_
      obtain rfl := B.e h0
      exact J.ret3 rfl rfl rfl rfl fun w H => ⟨(), rfl, H.pick [] (by decide)⟩
    · replace h0 := B.f hB8 h0
      refine J.skip ?_
      refine J.tN ?_
      refine J.seq ?_
      refine J.region ?_
      refine J.op rfl rfl rfl (V.mv rfl rfl) ?_
      refine J.op rfl rfl rfl (V.mv rfl rfl) ?_
      refine J.op rfl rfl rfl (V.mv rfl rfl) ?_
      obtain ⟨r9, hr10, h0⟩ := B.bind h0
      refine J.clA (l := [.tmp 23, .tmp 24, .tmp 25]) [] [] cf56 (wN rfl) rfl rfl rfl rfl rfl rfl (fun w H => spec_l05Least.calls v0 p0_paper p1_thin p3_dark r9 w (Own.refl w) (Sl.laterA hS0 H) hr10) fun g11 => ?_
      refine J.op rfl rfl rfl (V.as rfl rfl) ?_
      refine J.nil ?_
      refine J.tN ?_
      refine J.seq ?_
      refine J.seq ?_
      refine J.region ?_
      refine J.op rfl rfl rfl (V.mv rfl rfl) ?_
      refine J.op rfl rfl rfl (V.cmp rfl rfl rfl rfl) ?_
      refine J.nil ?_
      refine J.tN ?_
      refine J.cond rfl (fun hB12 => ?_) (fun hB12 => ?_)
      · replace h0 := B.t hB12 h0
        refine J.seq ?_
        refine J.region ?_
        refine J.op rfl rfl rfl (V.as rfl rfl) ?_
        refine J.op rfl rfl rfl (V.as rfl rfl) ?_
        refine J.op rfl rfl rfl (V.as rfl rfl) ?_
        refine J.nil ?_
        refine J.tN ?_
        refine J.ret ?_
        refine J.tR ?_
        obtain rfl := B.e h0
        exact J.ret3 rfl rfl rfl rfl fun w H => ⟨(), rfl, H.pick [] (by decide)⟩
      · replace h0 := B.f hB12 h0
        refine J.skip ?_
        refine J.tN ?_
        refine J.seq ?_
        refine J.region ?_
        refine J.op rfl rfl rfl (V.mv rfl rfl) ?_
        refine J.op rfl rfl rfl (V.mv rfl rfl) ?_
        refine J.op rfl rfl rfl (V.mv rfl rfl) ?_
        refine J.op rfl rfl rfl (V.mv rfl rfl) ?_
        obtain ⟨r13, hr14, h0⟩ := B.bind h0
        refine J.clA (l := [.tmp 30, .tmp 31, .tmp 32]) [] [] cf57 (wN rfl) rfl rfl rfl rfl rfl rfl (fun w H => spec_l05Dark.calls v0 p0_paper p2_thick r9 r13 w (Own.refl w) (Sl.laterA hS0 H) hr14) fun g15 => ?_
        refine J.op rfl rfl rfl (V.mv rfl rfl) ?_
        refine J.op rfl rfl rfl (V.ar rfl rfl rfl rfl) ?_
        refine J.op rfl rfl rfl (V.as rfl rfl) ?_
        refine J.op rfl rfl rfl (V.as rfl rfl) ?_
        obtain ⟨t16, et16, h0⟩ := B.lt h0
        refine J.val (congrArg (Value.int .i64) et16) ?_
        refine J.op rfl rfl rfl (V.as rfl rfl) ?_
        refine J.nil ?_
        refine J.tN ?_
        refine J.ret ?_
        obtain rfl := B.e h0
        exact J.ret3 rfl rfl rfl rfl fun w H => ⟨(), rfl, H.pick [] (by decide)⟩

end Go.Proofs.Ytofhnioboihbgaa
