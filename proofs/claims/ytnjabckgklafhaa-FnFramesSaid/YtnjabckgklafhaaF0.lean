/- Go functions as Lean functions, and that each call of theirs comes to just that: by a program written for this work (walk.py). No condition. -/
import Derived.Test.YtnjabckgklafhaaT
namespace Go.Proofs.Ytnjabckgklafhaa
open Go Go.RowKit G
set_option linter.unusedVariables false

/-! ### laws.szPrintS: function 26 -/
noncomputable def laws_szPrintS.f (p0_a : (List (Vector Int 64))) (p1_left : Int) : Option (Int) := (some (IntKind.wrap .i64 (p1_left - (p0_a.length : Int)))).bind fun left_1 => bif (decide (left_1 < 0)) then (some (-1)) else (some left_1)
set_option maxRecDepth 100000 in
theorem laws_szPrintS.calls (v0 : Value) (p0_a : (List (Vector Int 64))) (p1_left : Int) (r : Int) (w : World) (H0 : Own [] w w []) (hS0 : SlE [] w v0 59 (eA .i16 64) p0_a) (h0 : laws_szPrintS.f p0_a p1_left = some r) :
    Calls Try.prog 26 #[v0, .int .i64 p1_left] w (fun e w' => ∃ _ : Unit, e = .returned (.int .i64 r) ∧ Own [] w w' []) := by
  unfold laws_szPrintS.f at h0
  replace h0 := B.top h0
  refine calls_of_J (args := [v0, .int .i64 p1_left]) Try.func26 rfl Try.ntmps26 rfl [(0, v0), (1, .int .i64 p1_left)] rfl H0 ?_
  refine J.seq ?_
  refine J.region ?_
  refine J.op rfl rfl rfl (V.as rfl rfl) ?_
  refine J.nil ?_
  refine J.tN ?_
  refine J.seq ?_
  refine J.region ?_
  refine J.op rfl rfl rfl (V.mv rfl rfl) ?_
  refine J.op rfl rfl rfl (V.mv rfl rfl) ?_
  refine J.op rfl rfl rfl (V.lenS hS0 rfl rfl tl23) ?_
  refine J.op rfl rfl rfl (V.ar rfl rfl rfl rfl) ?_
  refine J.op rfl rfl rfl (V.as rfl rfl) ?_
  obtain ⟨left_1, eleft_1, h0⟩ := B.lt h0
  refine J.val (congrArg (Value.int .i64) eleft_1) ?_
  refine J.nil ?_
  refine J.tN ?_
  refine J.seq ?_
  refine J.seq ?_
  refine J.region ?_
  refine J.op rfl rfl rfl (V.mv rfl rfl) ?_
  refine J.op rfl rfl rfl (V.cmp rfl rfl rfl rfl) ?_
  refine J.nil ?_
  refine J.tN ?_
  refine J.cond rfl (fun hB2 => ?_) (fun hB2 => ?_)
  · replace h0 := B.t hB2 h0
    refine J.seq ?_
    refine J.region ?_
    refine J.op rfl rfl rfl (V.as rfl rfl) ?_
    refine J.nil ?_
    refine J.tN ?_
    refine J.ret ?_
    refine J.tR ?_
    obtain rfl := B.e h0
    exact J.ret1 rfl rfl fun w H => ⟨(), rfl, H.pick [] (by decide)⟩
  · replace h0 := B.f hB2 h0
    refine J.skip ?_
    refine J.tN ?_
    refine J.seq ?_
    refine J.region ?_
    refine J.op rfl rfl rfl (V.mv rfl rfl) ?_
    refine J.op rfl rfl rfl (V.as rfl rfl) ?_
    refine J.nil ?_
    refine J.tN ?_
    refine J.ret ?_
    obtain rfl := B.e h0
    exact J.ret1 rfl rfl fun w H => ⟨(), rfl, H.pick [] (by decide)⟩

/-! ### laws.szSheet: function 5 -/
noncomputable def laws_szSheet.f (p0_a : laws_Sheet) (p1_left : Int) : Option (Int) := (laws_szPrintS.f p0_a.Frames p1_left).bind fun r3 => bif (decide (r3 < 0)) then (some (-1)) else (some r3)
set_option maxRecDepth 100000 in
theorem laws_szSheet.calls (p0_a : laws_Sheet) (v0_Frames : Value) (p1_left : Int) (r : Int) (w : World) (H0 : Own [] w w []) (hS0_Frames : SlE [] w v0_Frames 59 (eA .i16 64) p0_a.Frames) (h0 : laws_szSheet.f p0_a p1_left = some r) :
    Calls Try.prog 5 #[.agg #[.int .i8 p0_a.Across, v0_Frames], .int .i64 p1_left] w (fun e w' => ∃ _ : Unit, e = .returned (.int .i64 r) ∧ Own [] w w' []) := by
  unfold laws_szSheet.f at h0
  replace h0 := B.top h0
  refine calls_of_J (args := [.agg #[.int .i8 p0_a.Across, v0_Frames], .int .i64 p1_left]) Try.func5 rfl Try.ntmps5 rfl [(0, .agg #[.int .i8 p0_a.Across, v0_Frames]), (1, .int .i64 p1_left)] rfl H0 ?_
  refine J.seq ?_
  refine J.region ?_
  refine J.box rfl rfl rfl rfl rfl (fun _ _ => rfl) fun b1 => ?_
  refine J.op rfl rfl rfl (V.as rfl rfl) ?_
  refine J.nil ?_
  refine J.tN ?_
  refine J.seq ?_
  refine J.region ?_
  refine J.op rfl rfl rfl (V.faB rfl rfl tf1_25) ?_
  refine J.op rfl rfl rfl (V.ldB 0 rfl rfl rfl Try.underlying23 ta23 rfl) ?_
  refine J.op rfl rfl rfl (V.mv rfl rfl) ?_
  obtain ⟨r3, hr4, h0⟩ := B.bind h0
  refine J.clA (l := [.tmp 6, .tmp 7]) [] [.blk b1 [.int .i8 p0_a.Across, v0_Frames] 25] cf26 (wN rfl) rfl rfl rfl rfl rfl rfl (fun w H => laws_szPrintS.calls v0_Frames p0_a.Frames p1_left r3 w (Own.refl w) (Sl.laterA hS0_Frames H) hr4) fun g5 => ?_
  refine J.op rfl rfl rfl (V.as rfl rfl) ?_
  refine J.nil ?_
  refine J.tN ?_
  refine J.seq ?_
  refine J.seq ?_
  refine J.region ?_
  refine J.op rfl rfl rfl (V.mv rfl rfl) ?_
  refine J.op rfl rfl rfl (V.cmp rfl rfl rfl rfl) ?_
  refine J.nil ?_
  refine J.tN ?_
  refine J.cond rfl (fun hB6 => ?_) (fun hB6 => ?_)
  · replace h0 := B.t hB6 h0
    refine J.seq ?_
    refine J.region ?_
    refine J.op rfl rfl rfl (V.as rfl rfl) ?_
    refine J.nil ?_
    refine J.tN ?_
    refine J.ret ?_
    refine J.tR ?_
    obtain rfl := B.e h0
    exact J.ret1 rfl rfl fun w H => ⟨(), rfl, H.pick [] (by decide)⟩
  · replace h0 := B.f hB6 h0
    refine J.skip ?_
    refine J.tN ?_
    refine J.seq ?_
    refine J.region ?_
    refine J.op rfl rfl rfl (V.mv rfl rfl) ?_
    refine J.op rfl rfl rfl (V.as rfl rfl) ?_
    refine J.nil ?_
    refine J.tN ?_
    refine J.ret ?_
    obtain rfl := B.e h0
    exact J.ret1 rfl rfl fun w H => ⟨(), rfl, H.pick [] (by decide)⟩

/-! ### spec.l00In: function 45 -/
noncomputable def spec_l00In.f (p0_n : Int) (p1_low : Int) (p2_high : Int) : Option (Bool) := bif (decide (p1_low ≤ p0_n)) then ((some (decide (p0_n ≤ p2_high))).bind fun t2 => some t2) else (some false)
set_option maxRecDepth 100000 in
theorem spec_l00In.calls (p0_n : Int) (p1_low : Int) (p2_high : Int) (r : Bool) (w : World) (H0 : Own [] w w []) (h0 : spec_l00In.f p0_n p1_low p2_high = some r) :
    Calls Try.prog 45 #[.int .i64 p0_n, .int .i64 p1_low, .int .i64 p2_high] w (fun e w' => ∃ _ : Unit, e = .returned (.bool r) ∧ Own [] w w' []) := by
  unfold spec_l00In.f at h0
  replace h0 := B.top h0
  refine calls_of_J (args := [.int .i64 p0_n, .int .i64 p1_low, .int .i64 p2_high]) Try.func45 rfl Try.ntmps45 rfl [(0, .int .i64 p0_n), (1, .int .i64 p1_low), (2, .int .i64 p2_high)] rfl H0 ?_
  refine J.seq ?_
  refine J.region ?_
  refine J.op rfl rfl rfl (V.as rfl rfl) ?_
  refine J.nil ?_
  refine J.tN ?_
  refine J.seq ?_
  refine J.region ?_
  refine J.op rfl rfl rfl (V.mv rfl rfl) ?_
  refine J.op rfl rfl rfl (V.mv rfl rfl) ?_
  refine J.op rfl rfl rfl (V.cmp rfl rfl rfl rfl) ?_
  refine J.op rfl rfl rfl (V.mv rfl rfl) ?_
  refine J.split 10 rfl (fun hB1 => ?_) (fun hB1 => ?_)
  · replace h0 := B.t hB1 h0
    refine J.opOn rfl rfl rfl rfl rfl (V.mv rfl rfl) ?_
    refine J.opOn rfl rfl rfl rfl rfl (V.mv rfl rfl) ?_
    refine J.opOn rfl rfl rfl rfl rfl (V.cmp rfl rfl rfl rfl) ?_
    refine J.op rfl rfl rfl (V.pkT rfl rfl rfl) ?_
    refine J.op rfl rfl rfl (V.as rfl rfl) ?_
    obtain ⟨t2, et2, h0⟩ := B.lt h0
    refine J.val (congrArg (Value.bool) et2) ?_
    refine J.nil ?_
    refine J.tN ?_
    refine J.ret ?_
    obtain rfl := B.e h0
    exact J.ret1 rfl rfl fun w H => ⟨(), rfl, H.pick [] (by decide)⟩
  · replace h0 := B.f hB1 h0
    refine J.opOff rfl rfl rfl rfl rfl rfl ?_
    refine J.opOff rfl rfl rfl rfl rfl rfl ?_
    refine J.opOff rfl rfl rfl rfl rfl rfl ?_
    refine J.op rfl rfl rfl (V.pkF rfl rfl rfl) ?_
    refine J.op rfl rfl rfl (V.as rfl rfl) ?_
    refine J.nil ?_
    refine J.tN ?_
    refine J.ret ?_
    obtain rfl := B.e h0
    exact J.ret1 rfl rfl fun w H => ⟨(), rfl, H.pick [] (by decide)⟩

/-! ### spec.l02Density: function 60 -/
noncomputable def spec_l02Density.f (p0_y : Int) : Option (Bool) := (spec_l00In.f p0_y 0 400).bind fun r1 => some r1
set_option maxRecDepth 100000 in
theorem spec_l02Density.calls (p0_y : Int) (r : Bool) (w : World) (H0 : Own [] w w []) (h0 : spec_l02Density.f p0_y = some r) :
    Calls Try.prog 60 #[.int .i64 p0_y] w (fun e w' => ∃ _ : Unit, e = .returned (.bool r) ∧ Own [] w w' []) := by
  unfold spec_l02Density.f at h0
  replace h0 := B.top h0
  refine calls_of_J (args := [.int .i64 p0_y]) Try.func60 rfl Try.ntmps60 rfl [(0, .int .i64 p0_y)] rfl H0 ?_
  refine J.seq ?_
  refine J.region ?_
  refine J.op rfl rfl rfl (V.as rfl rfl) ?_
  refine J.nil ?_
  refine J.tN ?_
  refine J.seq ?_
  refine J.region ?_
  refine J.op rfl rfl rfl (V.mv rfl rfl) ?_
  obtain ⟨r1, hr2, h0⟩ := B.bind h0
  refine J.clA (l := [.tmp 3, .const (.int .i64 0), .const (.int .i64 400)]) [] [] cf45 (wN rfl) rfl rfl rfl rfl rfl rfl (fun w H => spec_l00In.calls p0_y 0 400 r1 w (Own.refl w)  hr2) fun g3 => ?_
  refine J.op rfl rfl rfl (V.as rfl rfl) ?_
  refine J.nil ?_
  refine J.tN ?_
  refine J.ret ?_
  obtain rfl := B.e h0
  exact J.ret1 rfl rfl fun w H => ⟨(), rfl, H.pick [] (by decide)⟩

/-! ### spec.l03Dense: function 57 -/
noncomputable def spec_l03Dense.b1 (p0_list : (Vector Int 64)) : Int → Option (Step (Int) (Sum (Unit) (Bool))) := fun s1 => bif (decide (s1 < 64)) then (bif (inB s1 64) then ((spec_l02Density.f (IntKind.wrap .i64 (rdA p0_list s1))).bind fun r6 => bif (!r6) then (some (.done (.inr false))) else ((some (IntKind.wrap .i64 (s1 + 1))).bind fun i_10 => some (.next i_10))) else none) else (some (.done (.inl ())))
noncomputable def spec_l03Dense.f (p0_list : (Vector Int 64)) : Option (Bool) := (loopW (spec_l03Dense.b1 p0_list) 0).bind (Sum.elim (fun y12 => some true) (fun r => some r))
set_option maxRecDepth 100000 in
theorem spec_l03Dense.calls (v0 : Value) (p0_list : (Vector Int 64)) (r : Bool) (w : World) (H0 : Own [] w w []) (hP0 : Rp [] w v0 (encA .i16 p0_list)) (h0 : spec_l03Dense.f p0_list = some r) :
    Calls Try.prog 57 #[v0] w (fun e w' => ∃ _ : Unit, e = .returned (.bool r) ∧ Own [] w w' []) := by
  unfold spec_l03Dense.f at h0
  replace h0 := B.top h0
  refine calls_of_J (args := [v0]) Try.func57 rfl Try.ntmps57 rfl [(0, v0)] rfl H0 ?_
  refine J.seq ?_
  refine J.region ?_
  refine J.op rfl rfl rfl (V.as rfl rfl) ?_
  refine J.nil ?_
  refine J.tN ?_
  refine J.seq ?_
  refine J.seq ?_
  refine J.region ?_
  refine J.op rfl rfl rfl (V.as rfl rfl) ?_
  refine J.nil ?_
  refine J.tN ?_
  obtain ⟨o14, hy13, h0⟩ := B.bind h0
  refine J.cutQ (γ := (Unit) × (Unit)) (fun gy12 => o14 = .inl gy12.1) (fun gy12 => []) (fun gy12 => []) ?_ ?_
  · refine J.block ?_
    refine J.loop (γ := Unit) hy13 (fun s1 g2 => [(0, v0), (3, .int .i64 s1)]) (fun s1 g2 => []) () ?_ ?_
    · exact J.keep _ rfl (J.pickE [] rfl rfl J.here)
    · intro rec3 s1 g2 h1
      unfold spec_l03Dense.b1 at h1
      refine J.seq ?_
      refine J.seq ?_
      refine J.region ?_
      refine J.op rfl rfl rfl (V.mv rfl rfl) ?_
      refine J.op rfl rfl rfl (V.cmp rfl rfl rfl rfl) ?_
      refine J.nil ?_
      refine J.tN ?_
      refine J.cond rfl (fun hB4 => ?_) (fun hB4 => ?_)
      · replace h1 := B.t hB4 h1
        refine J.skip ?_
        refine J.tN ?_
        refine J.seq ?_
        refine J.block ?_
        refine J.seq ?_
        refine J.region ?_
        refine J.op rfl rfl rfl (V.mv rfl rfl) ?_
        refine J.op rfl rfl rfl (V.mv rfl rfl) ?_
        refine J.op rfl rfl rfl (V.ncP hP0 rfl rfl) ?_
        obtain ⟨hC5, h1⟩ := B.chk h1
        refine J.op rfl rfl rfl (V.ixP0 hP0 rfl rfl rfl tr59 ts58 hC5) ?_
        refine J.op rfl rfl rfl (V.ldPk hP0 rfl rfl Try.underlying58 ta58 (encA_get1 .i16 _ hC5)) ?_
        refine J.op rfl rfl rfl (V.conv rfl rfl Try.underlying58 Try.underlying2) ?_
        obtain ⟨r6, hr7, h1⟩ := B.bind h1
        refine J.clA (l := [.tmp 13]) [] [] cf60 (wN rfl) rfl rfl rfl rfl rfl rfl (fun w H => spec_l02Density.calls (IntKind.wrap .i64 (rdA p0_list s1)) r6 w (Own.refl w)  hr7) fun g8 => ?_
        refine J.op rfl rfl rfl (V.nt rfl rfl) ?_
        refine J.nil ?_
        refine J.tN ?_
        refine J.cond rfl (fun hB9 => ?_) (fun hB9 => ?_)
        · replace h1 := B.t hB9 h1
          refine J.seq ?_
          refine J.region ?_
          refine J.op rfl rfl rfl (V.as rfl rfl) ?_
          refine J.nil ?_
          refine J.tN ?_
          refine J.ret ?_
          refine J.bR ?_
          refine J.tR ?_
          refine J.tR ?_
          refine J.bR ?_
          refine J.tR ?_
          refine J.tR ?_
          obtain rfl := B.d h1
          replace h0 := B.inr h0
          obtain rfl := B.e h0
          exact J.ret1 rfl rfl fun w H => ⟨(), rfl, H.pick [] (by decide)⟩
        · replace h1 := B.f hB9 h1
          refine J.skip ?_
          refine J.bN ?_
          refine J.tN ?_
          refine J.region ?_
          refine J.op rfl rfl rfl (V.mv rfl rfl) ?_
          refine J.op rfl rfl rfl (V.ar rfl rfl rfl rfl) ?_
          refine J.op rfl rfl rfl (V.as rfl rfl) ?_
          obtain ⟨i_10, ei_10, h1⟩ := B.lt h1
          refine J.val (congrArg (Value.int .i64) ei_10) ?_
          refine J.nil ?_
          refine J.tN (J.next i_10 () (B.n h1) ?_)
          exact J.keep _ rfl (J.pickE [] rfl rfl J.here)
      · replace h1 := B.f hB4 h1
        refine J.exit ?_
        refine J.tE ?_
        refine J.tE ?_
        refine J.bE ?_
        obtain rfl := B.d h1
        refine J.tN (J.to ((), ()) rfl ?_)
        exact J.keep _ rfl (J.pickE [] rfl rfl J.here)
  · intro gy12 hG
    replace h0 := B.inl hG h0
    refine J.tN ?_
    refine J.seq ?_
    refine J.region ?_
    refine J.op rfl rfl rfl (V.as rfl rfl) ?_
    refine J.nil ?_
    refine J.tN ?_
    refine J.ret ?_
    obtain rfl := B.e h0
    exact J.ret1 rfl rfl fun w H => ⟨(), rfl, H.pick [] (by decide)⟩

/-! ### spec.l03Print: function 51 -/
noncomputable def spec_l03Print.f (p0_p : (Vector Int 64)) : Option (Bool) := (spec_l03Dense.f p0_p).bind fun r3 => some r3
set_option maxRecDepth 100000 in
theorem spec_l03Print.calls (v0 : Value) (p0_p : (Vector Int 64)) (r : Bool) (w : World) (H0 : Own [] w w []) (hP0 : Rp [] w v0 (encA .i16 p0_p)) (h0 : spec_l03Print.f p0_p = some r) :
    Calls Try.prog 51 #[v0] w (fun e w' => ∃ _ : Unit, e = .returned (.bool r) ∧ Own [] w w' []) := by
  unfold spec_l03Print.f at h0
  replace h0 := B.top h0
  refine calls_of_J (args := [v0]) Try.func51 rfl Try.ntmps51 rfl [(0, v0)] rfl H0 ?_
  refine J.seq ?_
  refine J.region ?_
  refine J.op rfl rfl rfl (V.as rfl rfl) ?_
  refine J.nil ?_
  refine J.tN ?_
  refine J.seq ?_
  refine J.region ?_
  refine J.op rfl rfl rfl (V.mv rfl rfl) ?_
  refine J.op rfl rfl rfl (V.ncP hP0 rfl rfl) ?_
  refine J.op rfl rfl rfl (V.ldPW hP0 rfl rfl ts60 ta60 (encA_len _ _)) ?_
  refine J.alloc rfl rfl rfl rfl tz59 rfl fun b1 => ?_
  refine J.stW (cs' := encA .i16 p0_p) 0 rfl rfl rfl rfl rfl rfl ts59 rfl (fun _ _ => encA_one .i16 _) (encA_len _ _) (encA_len _ _) ?_
  refine J.nil ?_
  refine J.tN ?_
  refine J.seq ?_
  refine J.region ?_
  obtain ⟨r3, hr4, h0⟩ := B.bind h0
  refine J.clA (l := [.tmp 3]) [] [.blk b1 (encA .i16 p0_p) 59] cf57 (wN rfl) rfl rfl rfl rfl rfl rfl (fun w H => spec_l03Dense.calls (bp b1 0) p0_p r3 w (Own.refl w) (Own.rpA 0 H rfl) hr4) fun g5 => ?_
  refine J.op rfl rfl rfl (V.as rfl rfl) ?_
  refine J.nil ?_
  refine J.tN ?_
  refine J.ret ?_
  obtain rfl := B.e h0
  exact J.ret1 rfl rfl fun w H => ⟨(), rfl, H.pick [] (by decide)⟩

/-! ### spec.l07Ok: function 39 -/
noncomputable def spec_l07Ok.b1 (p0_s : impl_Sheet) : Int → Option (Step (Int) (Sum (Unit) (Bool))) := fun s1 => bif (decide (s1 < (p0_s.Frames.length : Int))) then (bif (inB s1 p0_s.Frames.length) then ((spec_l03Print.f (rd (eA .i16 64) p0_s.Frames s1)).bind fun r6 => bif (!r6) then (some (.done (.inr false))) else ((some (IntKind.wrap .i64 (s1 + 1))).bind fun i_10 => some (.next i_10))) else none) else (some (.done (.inl ())))
noncomputable def spec_l07Ok.f (p0_s : impl_Sheet) : Option (Bool) := (loopW (spec_l07Ok.b1 p0_s) 0).bind (Sum.elim (fun y12 => (spec_l00In.f (IntKind.wrap .i64 p0_s.Across) 1 12).bind fun r15 => bif r15 then ((some (decide ((p0_s.Frames.length : Int) ≤ 12))).bind fun t19 => some t19) else (some false)) (fun r => some r))
set_option maxRecDepth 100000 in
theorem spec_l07Ok.calls (v0 : Value) (p0_s : impl_Sheet) (v0_Frames : Value) (r : Bool) (w : World) (H0 : Own [] w w []) (hS0_Frames : SlE [] w v0_Frames 60 (eA .i16 64) p0_s.Frames) (hP0 : Rp [] w v0 [.int .i8 p0_s.Across, v0_Frames]) (h0 : spec_l07Ok.f p0_s = some r) :
    Calls Try.prog 39 #[v0] w (fun e w' => ∃ _ : Unit, e = .returned (.bool r) ∧ Own [] w w' []) := by
  unfold spec_l07Ok.f at h0
  replace h0 := B.top h0
  refine calls_of_J (args := [v0]) Try.func39 rfl Try.ntmps39 rfl [(0, v0)] rfl H0 ?_
  refine J.seq ?_
  refine J.region ?_
  refine J.op rfl rfl rfl (V.as rfl rfl) ?_
  refine J.nil ?_
  refine J.tN ?_
  refine J.seq ?_
  refine J.seq ?_
  refine J.region ?_
  refine J.op rfl rfl rfl (V.as rfl rfl) ?_
  refine J.nil ?_
  refine J.tN ?_
  obtain ⟨o14, hy13, h0⟩ := B.bind h0
  refine J.cutQ (γ := (Unit) × (Unit)) (fun gy12 => o14 = .inl gy12.1) (fun gy12 => [(0, v0)]) (fun gy12 => []) ?_ ?_
  · refine J.block ?_
    refine J.loop (γ := Unit) hy13 (fun s1 g2 => [(0, v0), (3, .int .i64 s1)]) (fun s1 g2 => []) () ?_ ?_
    · exact J.keep _ rfl (J.pickE [] rfl rfl J.here)
    · intro rec3 s1 g2 h1
      unfold spec_l07Ok.b1 at h1
      refine J.seq ?_
      refine J.seq ?_
      refine J.region ?_
      refine J.op rfl rfl rfl (V.mv rfl rfl) ?_
      refine J.op rfl rfl rfl (V.mv rfl rfl) ?_
      refine J.op rfl rfl rfl (V.ncP hP0 rfl rfl) ?_
      refine J.op rfl rfl rfl (V.faP0 hP0 rfl rfl tf1_29) ?_
      refine J.op rfl rfl rfl (V.ldPk hP0 rfl rfl Try.underlying27 ta27 rfl) ?_
      refine J.op rfl rfl rfl (V.lenS hS0_Frames rfl rfl tl27) ?_
      refine J.op rfl rfl rfl (V.cmp rfl rfl rfl rfl) ?_
      refine J.nil ?_
      refine J.tN ?_
      refine J.cond rfl (fun hB4 => ?_) (fun hB4 => ?_)
      · replace h1 := B.t hB4 h1
        refine J.skip ?_
        refine J.tN ?_
        refine J.seq ?_
        refine J.block ?_
        refine J.seq ?_
        refine J.region ?_
        refine J.op rfl rfl rfl (V.mv rfl rfl) ?_
        refine J.op rfl rfl rfl (V.ncP hP0 rfl rfl) ?_
        refine J.op rfl rfl rfl (V.faP0 hP0 rfl rfl tf1_29) ?_
        refine J.op rfl rfl rfl (V.ldPk hP0 rfl rfl Try.underlying27 ta27 rfl) ?_
        refine J.op rfl rfl rfl (V.mv rfl rfl) ?_
        obtain ⟨hC5, h1⟩ := B.chk h1
        refine J.op rfl rfl rfl (V.ixS hS0_Frames rfl rfl rfl tl27 ts60 hC5) ?_
        obtain ⟨r6, hr7, h1⟩ := B.bind h1
        refine J.clA (l := [.tmp 18]) [] [] cf51 (wN rfl) rfl rfl rfl rfl rfl rfl (fun w H => spec_l03Print.calls (sp v0_Frames (s1.toNat * 64)) (rd (eA .i16 64) p0_s.Frames s1) r6 w (Own.refl w) (Rp.laterA (Sl.rp hS0_Frames hC5) H) hr7) fun g8 => ?_
        refine J.op rfl rfl rfl (V.nt rfl rfl) ?_
        refine J.nil ?_
        refine J.tN ?_
        refine J.cond rfl (fun hB9 => ?_) (fun hB9 => ?_)
        · replace h1 := B.t hB9 h1
          refine J.seq ?_
          refine J.region ?_
          refine J.op rfl rfl rfl (V.as rfl rfl) ?_
          refine J.nil ?_
          refine J.tN ?_
          refine J.ret ?_
          refine J.bR ?_
          refine J.tR ?_
          refine J.tR ?_
          refine J.bR ?_
          refine J.tR ?_
          refine J.tR ?_
          obtain rfl := B.d h1
          replace h0 := B.inr h0
          obtain rfl := B.e h0
          exact J.ret1 rfl rfl fun w H => ⟨(), rfl, H.pick [] (by decide)⟩
        · replace h1 := B.f hB9 h1
          refine J.skip ?_
          refine J.bN ?_
          refine J.tN ?_
          refine J.region ?_
          refine J.op rfl rfl rfl (V.mv rfl rfl) ?_
          refine J.op rfl rfl rfl (V.ar rfl rfl rfl rfl) ?_
          refine J.op rfl rfl rfl (V.as rfl rfl) ?_
          obtain ⟨i_10, ei_10, h1⟩ := B.lt h1
          refine J.val (congrArg (Value.int .i64) ei_10) ?_
          refine J.nil ?_
          refine J.tN (J.next i_10 () (B.n h1) ?_)
          exact J.keep _ rfl (J.pickE [] rfl rfl J.here)
      · replace h1 := B.f hB4 h1
        refine J.exit ?_
        refine J.tE ?_
        refine J.tE ?_
        refine J.bE ?_
        obtain rfl := B.d h1
        refine J.tN (J.to ((), ()) rfl ?_)
        exact J.keep _ rfl (J.pickE [] rfl rfl J.here)
  · intro gy12 hG
    replace h0 := B.inl hG h0
    refine J.tN ?_
    refine J.seq ?_
    refine J.region ?_
    refine J.op rfl rfl rfl (V.mv rfl rfl) ?_
    refine J.op rfl rfl rfl (V.ncP hP0 rfl rfl) ?_
    refine J.op rfl rfl rfl (V.faP0 hP0 rfl rfl tf0_29) ?_
    refine J.op rfl rfl rfl (V.ldPk hP0 rfl rfl Try.underlying22 ta22 rfl) ?_
    refine J.op rfl rfl rfl (V.conv rfl rfl Try.underlying22 Try.underlying2) ?_
    obtain ⟨r15, hr16, h0⟩ := B.bind h0
    refine J.clA (l := [.tmp 25, .const (.int .i64 1), .const (.int .i64 12)]) [] [] cf45 (wN rfl) rfl rfl rfl rfl rfl rfl (fun w H => spec_l00In.calls (IntKind.wrap .i64 p0_s.Across) 1 12 r15 w (Own.refl w)  hr16) fun g17 => ?_
    refine J.op rfl rfl rfl (V.mv rfl rfl) ?_
    refine J.split 27 rfl (fun hB18 => ?_) (fun hB18 => ?_)
    · replace h0 := B.t hB18 h0
      refine J.opOn rfl rfl rfl rfl rfl (V.mv rfl rfl) ?_
      refine J.opOn rfl rfl rfl rfl rfl (V.ncP hP0 rfl rfl) ?_
      refine J.opOn rfl rfl rfl rfl rfl (V.faP0 hP0 rfl rfl tf1_29) ?_
      refine J.opOn rfl rfl rfl rfl rfl (V.ldPk hP0 rfl rfl Try.underlying27 ta27 rfl) ?_
      refine J.opOn rfl rfl rfl rfl rfl (V.lenS hS0_Frames rfl rfl tl27) ?_
      refine J.opOn rfl rfl rfl rfl rfl (V.cmp rfl rfl rfl rfl) ?_
      refine J.op rfl rfl rfl (V.pkT rfl rfl rfl) ?_
      refine J.op rfl rfl rfl (V.as rfl rfl) ?_
      obtain ⟨t19, et19, h0⟩ := B.lt h0
      refine J.val (congrArg (Value.bool) et19) ?_
      refine J.nil ?_
      refine J.tN ?_
      refine J.ret ?_
      obtain rfl := B.e h0
      exact J.ret1 rfl rfl fun w H => ⟨(), rfl, H.pick [] (by decide)⟩
    · replace h0 := B.f hB18 h0
      refine J.opOff rfl rfl rfl rfl rfl rfl ?_
      refine J.opOff rfl rfl rfl rfl rfl rfl ?_
      refine J.opOff rfl rfl rfl rfl rfl rfl ?_
      refine J.opOff rfl rfl rfl rfl rfl rfl ?_
      refine J.opOff rfl rfl rfl rfl rfl rfl ?_
      refine J.opOff rfl rfl rfl rfl rfl rfl ?_
      refine J.op rfl rfl rfl (V.pkF rfl rfl rfl) ?_
      refine J.op rfl rfl rfl (V.as rfl rfl) ?_
      refine J.nil ?_
      refine J.tN ?_
      refine J.ret ?_
      obtain rfl := B.e h0
      exact J.ret1 rfl rfl fun w H => ⟨(), rfl, H.pick [] (by decide)⟩

/-! ### spec.l07Asked: function 27 -/
noncomputable def spec_l07Asked.f (p0_s : impl_Sheet) (p1_i : Int) : Option (Int) := (spec_l07Ok.f (⟨p0_s.Across, p0_s.Frames⟩ : impl_Sheet)).bind fun r1 => bif (!r1) then (some 1) else ((spec_l00In.f p1_i 0 (IntKind.wrap .i64 ((p0_s.Frames.length : Int) - 1))).bind fun r5 => bif (!r5) then (some 2) else (some 0))
set_option maxRecDepth 100000 in
theorem spec_l07Asked.calls (v0 : Value) (p0_s : impl_Sheet) (v0_Frames : Value) (p1_i : Int) (r : Int) (w : World) (H0 : Own [] w w []) (hS0_Frames : SlE [] w v0_Frames 60 (eA .i16 64) p0_s.Frames) (hP0 : Rp [] w v0 [.int .i8 p0_s.Across, v0_Frames]) (h0 : spec_l07Asked.f p0_s p1_i = some r) :
    Calls Try.prog 27 #[v0, .int .i64 p1_i] w (fun e w' => ∃ _ : Unit, e = .returned (.int .i64 r) ∧ Own [] w w' []) := by
  unfold spec_l07Asked.f at h0
  replace h0 := B.top h0
  refine calls_of_J (args := [v0, .int .i64 p1_i]) Try.func27 rfl Try.ntmps27 rfl [(0, v0), (1, .int .i64 p1_i)] rfl H0 ?_
  refine J.seq ?_
  refine J.region ?_
  refine J.op rfl rfl rfl (V.as rfl rfl) ?_
  refine J.nil ?_
  refine J.tN ?_
  refine J.seq ?_
  refine J.seq ?_
  refine J.region ?_
  refine J.op rfl rfl rfl (V.mv rfl rfl) ?_
  obtain ⟨r1, hr2, h0⟩ := B.bind h0
  refine J.clA (l := [.tmp 5]) [] [] cf39 (wN rfl) rfl rfl rfl rfl rfl rfl (fun w H => spec_l07Ok.calls v0 (⟨p0_s.Across, p0_s.Frames⟩ : impl_Sheet) v0_Frames r1 w (Own.refl w) (Sl.laterA hS0_Frames H) (Rp.laterA hP0 H) hr2) fun g3 => ?_
  refine J.op rfl rfl rfl (V.nt rfl rfl) ?_
  refine J.nil ?_
  refine J.tN ?_
  refine J.cond rfl (fun hB4 => ?_) (fun hB4 => ?_)
  · replace h0 := B.t hB4 h0
    refine J.seq ?_
    refine J.region ?_
    refine J.op rfl rfl rfl (V.as rfl rfl) ?_
    refine J.nil ?_
    refine J.tN ?_
    refine J.ret ?_
    refine J.tR ?_
    obtain rfl := B.e h0
    exact J.ret1 rfl rfl fun w H => ⟨(), rfl, H.pick [] (by decide)⟩
  · replace h0 := B.f hB4 h0
    refine J.skip ?_
    refine J.tN ?_
    refine J.seq ?_
    refine J.seq ?_
    refine J.region ?_
    refine J.op rfl rfl rfl (V.mv rfl rfl) ?_
    refine J.op rfl rfl rfl (V.mv rfl rfl) ?_
    refine J.op rfl rfl rfl (V.ncP hP0 rfl rfl) ?_
    refine J.op rfl rfl rfl (V.faP0 hP0 rfl rfl tf1_29) ?_
    refine J.op rfl rfl rfl (V.ldPk hP0 rfl rfl Try.underlying27 ta27 rfl) ?_
    refine J.op rfl rfl rfl (V.lenS hS0_Frames rfl rfl tl27) ?_
    refine J.op rfl rfl rfl (V.ar rfl rfl rfl rfl) ?_
    obtain ⟨r5, hr6, h0⟩ := B.bind h0
    refine J.clA (l := [.tmp 8, .const (.int .i64 0), .tmp 14]) [] [] cf45 (wN rfl) rfl rfl rfl rfl rfl rfl (fun w H => spec_l00In.calls p1_i 0 (IntKind.wrap .i64 ((p0_s.Frames.length : Int) - 1)) r5 w (Own.refl w)  hr6) fun g7 => ?_
    refine J.op rfl rfl rfl (V.nt rfl rfl) ?_
    refine J.nil ?_
    refine J.tN ?_
    refine J.cond rfl (fun hB8 => ?_) (fun hB8 => ?_)
    · replace h0 := B.t hB8 h0
      refine J.seq ?_
      refine J.region ?_
      refine J.op rfl rfl rfl (V.as rfl rfl) ?_
      refine J.nil ?_
      refine J.tN ?_
      refine J.ret ?_
      refine J.tR ?_
      obtain rfl := B.e h0
      exact J.ret1 rfl rfl fun w H => ⟨(), rfl, H.pick [] (by decide)⟩
    · replace h0 := B.f hB8 h0
      refine J.skip ?_
      refine J.tN ?_
      refine J.seq ?_
      refine J.region ?_
      refine J.op rfl rfl rfl (V.as rfl rfl) ?_
      refine J.nil ?_
      refine J.tN ?_
      refine J.ret ?_
      obtain rfl := B.e h0
      exact J.ret1 rfl rfl fun w H => ⟨(), rfl, H.pick [] (by decide)⟩

/-! ### spec.l07With: function 28 -/
noncomputable def spec_l07With.f (p0_s : impl_Sheet) (p1_frames : (List (Vector Int 64))) : Option (impl_Sheet) := bif (roomB ([] : List (Vector Int 64)).length p1_frames.length 128) then (some (⟨p0_s.Across, ([] : List (Vector Int 64)) ++ p1_frames⟩ : impl_Sheet)) else none
set_option maxRecDepth 100000 in
theorem spec_l07With.calls (v0 : Value) (p0_s : impl_Sheet) (v0_Frames : Value) (v1 : Value) (p1_frames : (List (Vector Int 64))) (r : impl_Sheet) (w : World) (H0 : Own [] w w []) (hS0_Frames : SlE [] w v0_Frames 60 (eA .i16 64) p0_s.Frames) (hP0 : Rp [] w v0 [.int .i8 p0_s.Across, v0_Frames]) (hS1 : SlE [] w v1 60 (eA .i16 64) p1_frames) (h0 : spec_l07With.f p0_s p1_frames = some r) :
    Calls Try.prog 28 #[v0, v1] w (fun e w' => ∃ gh : Value, e = .returned (.agg #[.int .i8 r.Across, gh]) ∧ Own [] w w' [.rowE gh 60 (eA .i16 64) r.Frames]) := by
  unfold spec_l07With.f at h0
  replace h0 := B.top h0
  refine calls_of_J (args := [v0, v1]) Try.func28 rfl Try.ntmps28 rfl [(0, v0), (1, v1)] rfl H0 ?_
  refine J.seq ?_
  refine J.region ?_
  refine J.alloc rfl rfl rfl rfl tz29 rfl fun b1 => ?_
  refine J.nil ?_
  refine J.tN ?_
  refine J.seq ?_
  obtain ⟨hC6, h0⟩ := B.chk h0
  refine J.any 9 rfl [] mixed ?_
  refine JH.take (i := 0) [] rfl (by kernel_rfl) rfl rfl rfl rfl rfl (V.mv rfl rfl) ?_
  refine JH.take (i := 1) [] rfl (by kernel_rfl) rfl rfl rfl rfl rfl (V.ncP hP0 rfl rfl) ?_
  refine JH.take (i := 2) [] rfl (by kernel_rfl) rfl rfl rfl rfl rfl (V.faP0 hP0 rfl rfl tf0_29) ?_
  refine JH.take (i := 3) [] rfl (by kernel_rfl) rfl rfl rfl rfl rfl (V.ldPk hP0 rfl rfl Try.underlying22 ta22 rfl) ?_
  refine JH.take (i := 5) [] rfl (by kernel_rfl) rfl rfl rfl rfl rfl (V.mv rfl rfl) ?_
  refine JH.all [4] (by kernel_rfl) rfl (JHall.cons (JH.op rfl ?_) (JHall.nil))
  refine J.bs (l := []) (cs := []) (E := 60) rfl rfl rfl rfl rfl (fun w => by kernel_rfl) fun b3 => ?_
  refine J.nil ?_
  refine JH.back [] rfl rfl ?_
  refine JH.all [6] (by kernel_rfl) rfl (JHall.cons (JH.op rfl ?_) (JHall.nil))
  refine J.blkRowE (eA .i16 64) ([] : List (Vector Int 64)) 0 rfl rfl rfl ?_
  obtain ⟨_, ti1, ti2, ti3, ti4⟩ := ti60
  refine J.ap2 (e := (eA .i16 64)) (xs := ([] : List (Vector Int 64))) 0 hS1 hC6 ti1 tl27 ti2 ti3 ti4 rfl rfl rfl rfl rfl rfl rfl rfl rfl fun v5 => ?_
  refine J.nil ?_
  refine JH.back [] rfl rfl ?_
  refine JH.all [7] (by kernel_rfl) rfl (JHall.cons (JH.op rfl ?_) (JHall.nil))
  refine J.op rfl rfl rfl (V.bd (l := [(0, .tmp 8), (1, .tmp 11)]) (v := .agg #[.int .i8 p0_s.Across, v5]) rfl rfl (fun w H => by obtain ⟨_, _, e1, _⟩ := (Own.sl0 0 H rfl).len; rw [e1]; kernel_rfl)) ?_
  refine J.nil ?_
  refine JH.back [] rfl rfl ?_
  refine JH.all [8] (by kernel_rfl) rfl (JHall.cons (JH.op rfl ?_) (JHall.nil))
  refine J.stW (cs' := [.int .i8 p0_s.Across, v5]) 1 rfl rfl rfl rfl rfl rfl ts29 rfl (fun _ H => (one_cons rfl (one_cons (Own.sl0 0 H rfl).one one_nil))) rfl rfl ?_
  refine J.nil ?_
  refine JH.back [] rfl rfl ?_
  refine JH.fin (by kernel_rfl) ?_
  refine J.tN ?_
  refine J.ret ?_
  obtain rfl := B.e h0
  exact J.retC 1 rfl rfl rfl ts29 ta29 rfl fun w H => ⟨v5, rfl, H.pick [0] (by decide)⟩

/-! ### spec.DropFrame: function 6 -/
noncomputable def spec_DropFrame.f (p0_s : impl_Sheet) (p1_i : Int) : Option (impl_Sheet × Int) := (spec_l07Asked.f (⟨p0_s.Across, p0_s.Frames⟩ : impl_Sheet) p1_i).bind fun r5 => bif (r5 != 0) then (some ((⟨0, ([] : List (Vector Int 64))⟩ : impl_Sheet), r5)) else (bif (inS 0 p1_i p0_s.Frames.length) then (bif (roomB ([] : List (Vector Int 64)).length (subL p0_s.Frames 0 p1_i).length 128) then (bif (inS (IntKind.wrap .i64 (p1_i + 1)) (p0_s.Frames.length : Int) p0_s.Frames.length) then (bif (roomB (([] : List (Vector Int 64)) ++ (subL p0_s.Frames 0 p1_i)).length (subL p0_s.Frames (IntKind.wrap .i64 (p1_i + 1)) (p0_s.Frames.length : Int)).length 128) then ((spec_l07With.f (⟨p0_s.Across, p0_s.Frames⟩ : impl_Sheet) ((([] : List (Vector Int 64)) ++ (subL p0_s.Frames 0 p1_i)) ++ (subL p0_s.Frames (IntKind.wrap .i64 (p1_i + 1)) (p0_s.Frames.length : Int)))).bind fun r18 => some ((⟨r18.Across, r18.Frames⟩ : impl_Sheet), 0)) else none) else none) else none) else none)
set_option maxRecDepth 100000 in
theorem spec_DropFrame.calls (p0_s : impl_Sheet) (v0_Frames : Value) (p1_i : Int) (r : impl_Sheet × Int) (w : World) (H0 : Own [] w w []) (hS0_Frames : SlE [] w v0_Frames 60 (eA .i16 64) p0_s.Frames) (h0 : spec_DropFrame.f p0_s p1_i = some r) :
    Calls Try.prog 6 #[.agg #[.int .i8 p0_s.Across, v0_Frames], .int .i64 p1_i] w (fun e w' => ∃ gh : Value, e = .returned (.tuple #[.agg #[.int .i8 r.1.Across, gh], .int .i64 r.2]) ∧ Own [] w w' [.rowE gh 60 (eA .i16 64) r.1.Frames]) := by
  unfold spec_DropFrame.f at h0
  replace h0 := B.top h0
  refine calls_of_J (args := [.agg #[.int .i8 p0_s.Across, v0_Frames], .int .i64 p1_i]) Try.func6 rfl Try.ntmps6 rfl [(0, .agg #[.int .i8 p0_s.Across, v0_Frames]), (1, .int .i64 p1_i)] rfl H0 ?_
  refine J.seq ?_
  refine J.region ?_
  refine J.box rfl rfl rfl rfl rfl (fun _ _ => rfl) fun b1 => ?_
  refine J.alloc rfl rfl rfl rfl tz29 rfl fun b3 => ?_
  refine J.op rfl rfl rfl (V.as rfl rfl) ?_
  refine J.nil ?_
  refine J.tN ?_
  refine J.seq ?_
  refine J.seq ?_
  refine J.region ?_
  refine J.op rfl rfl rfl (V.mv rfl rfl) ?_
  obtain ⟨r5, hr6, h0⟩ := B.bind h0
  refine J.clA (l := [.tmp 2, .tmp 7]) [] [.blk b3 [.int .i8 0, .slice none 0 0] 29, .blk b1 [.int .i8 p0_s.Across, v0_Frames] 29] cf27 (wN rfl) rfl rfl rfl rfl rfl rfl (fun w H => spec_l07Asked.calls (bp b1 0) (⟨p0_s.Across, p0_s.Frames⟩ : impl_Sheet) v0_Frames p1_i r5 w (Own.refl w) (Sl.laterA hS0_Frames H) (Own.rpA 1 H rfl) hr6) fun g7 => ?_
  refine J.op rfl rfl rfl (V.as rfl rfl) ?_
  refine J.nil ?_
  refine J.tN ?_
  refine J.seq ?_
  refine J.region ?_
  refine J.op rfl rfl rfl (V.mv rfl rfl) ?_
  refine J.op rfl rfl rfl (V.cmp rfl rfl rfl rfl) ?_
  refine J.nil ?_
  refine J.tN ?_
  refine J.cond rfl (fun hB8 => ?_) (fun hB8 => ?_)
  · replace h0 := B.t hB8 h0
    refine J.seq ?_
    refine J.region ?_
    refine J.op rfl rfl rfl (V.bd (l := []) (v := .agg #[.int .i8 0, .slice none 0 0]) rfl rfl (fun w H => by kernel_rfl)) ?_
    refine J.op rfl rfl rfl (V.mv rfl rfl) ?_
    refine J.stW (cs' := [.int .i8 0, .slice none 0 0]) 0 rfl rfl rfl rfl rfl rfl ts29 rfl (fun _ H => (one_cons rfl (one_cons rfl one_nil))) rfl rfl ?_
    refine J.op rfl rfl rfl (V.as rfl rfl) ?_
    refine J.nil ?_
    refine J.tN ?_
    refine J.ret ?_
    refine J.tR ?_
    refine J.nilRow 60 (eA .i16 64) ?_
    obtain rfl := B.e h0
    exact J.retC_1 1 rfl rfl rfl ts29 ta29 rfl rfl fun w H => ⟨(.slice none 0 0), rfl, H.pick [0] (by decide)⟩
  · replace h0 := B.f hB8 h0
    refine J.skip ?_
    refine J.tN ?_
    refine J.seq ?_
    obtain ⟨hC12, h0⟩ := B.chk h0
    obtain ⟨hC14, h0⟩ := B.chk h0
    obtain ⟨hC15, h0⟩ := B.chk h0
    obtain ⟨hC17, h0⟩ := B.chk h0
    obtain ⟨r18, hr19, h0⟩ := B.bind h0
    refine J.any 15 rfl [.blk b1 [.int .i8 p0_s.Across, v0_Frames] 29] mixed ?_
    refine JH.take (i := 1) [1] rfl (by kernel_rfl) rfl rfl rfl rfl rfl (V.faB rfl rfl tf1_29) ?_
    refine JH.take (i := 2) [1] rfl (by kernel_rfl) rfl rfl rfl rfl rfl (V.ldB 0 rfl rfl rfl Try.underlying27 ta27 rfl) ?_
    refine JH.take (i := 3) [1] rfl (by kernel_rfl) rfl rfl rfl rfl rfl (V.mv rfl rfl) ?_
    refine JH.take (i := 4) [1] rfl (by kernel_rfl) rfl rfl rfl rfl rfl (V.subS (L := none) (H := some p1_i) hS0_Frames hC12 rfl rfl rfl rfl rfl rfl tl27 ts60) ?_
    refine JH.take (i := 6) [1] rfl (by kernel_rfl) rfl rfl rfl rfl rfl (V.faB rfl rfl tf1_29) ?_
    refine JH.take (i := 7) [1] rfl (by kernel_rfl) rfl rfl rfl rfl rfl (V.ldB 0 rfl rfl rfl Try.underlying27 ta27 rfl) ?_
    refine JH.take (i := 8) [1] rfl (by kernel_rfl) rfl rfl rfl rfl rfl (V.mv rfl rfl) ?_
    refine JH.take (i := 9) [1] rfl (by kernel_rfl) rfl rfl rfl rfl rfl (V.ar rfl rfl rfl rfl) ?_
    refine JH.take (i := 10) [1] rfl (by kernel_rfl) rfl rfl rfl rfl rfl (V.subS (L := some (IntKind.wrap .i64 (p1_i + 1))) (H := none) hS0_Frames hC15 rfl rfl rfl rfl rfl rfl tl27 ts60) ?_
    refine JH.all [0] (by kernel_rfl) rfl (JHall.cons (JH.op rfl ?_) (JHall.nil))
    refine J.bs (l := []) (cs := []) (E := 60) rfl rfl rfl rfl rfl (fun w => by kernel_rfl) fun b10 => ?_
    refine J.nil ?_
    refine JH.back [2] rfl rfl ?_
    refine JH.all [5] (by kernel_rfl) rfl (JHall.cons (JH.op rfl ?_) (JHall.nil))
    refine J.blkRowE (eA .i16 64) ([] : List (Vector Int 64)) 0 rfl rfl rfl ?_
    obtain ⟨_, ti1, ti2, ti3, ti4⟩ := ti60
    refine J.ap2 (e := (eA .i16 64)) (xs := ([] : List (Vector Int 64))) 0 (Sl.sub hS0_Frames hC12) hC14 ti1 tl27 ti2 ti3 ti4 rfl rfl rfl rfl rfl rfl rfl rfl rfl fun v13 => ?_
    refine J.nil ?_
    refine JH.back [2] rfl rfl ?_
    refine JH.all [11] (by kernel_rfl) rfl (JHall.cons (JH.op rfl ?_) (JHall.nil))
    obtain ⟨_, ti1, ti2, ti3, ti4⟩ := ti60
    refine J.ap2 (e := (eA .i16 64)) (xs := (([] : List (Vector Int 64)) ++ (subL p0_s.Frames 0 p1_i))) 0 (Sl.sub hS0_Frames hC15) hC17 ti1 tl27 ti2 ti3 ti4 rfl rfl rfl rfl rfl rfl rfl rfl rfl fun v16 => ?_
    refine J.nil ?_
    refine JH.back [2] rfl rfl ?_
    refine JH.all [12] (by kernel_rfl) rfl (JHall.cons (JH.op rfl ?_) (JHall.nil))
    refine J.clA (l := [.tmp 2, .tmp 24]) [] [.rowE v16 60 (eA .i16 64) ((([] : List (Vector Int 64)) ++ (subL p0_s.Frames 0 p1_i)) ++ (subL p0_s.Frames (IntKind.wrap .i64 (p1_i + 1)) (p0_s.Frames.length : Int))), .blk b3 [.int .i8 0, .slice none 0 0] 29, .blk b1 [.int .i8 p0_s.Across, v0_Frames] 29] cf28 (wN rfl) rfl rfl rfl rfl rfl rfl (fun w H => spec_l07With.calls (bp b1 0) (⟨p0_s.Across, p0_s.Frames⟩ : impl_Sheet) v0_Frames v16 ((([] : List (Vector Int 64)) ++ (subL p0_s.Frames 0 p1_i)) ++ (subL p0_s.Frames (IntKind.wrap .i64 (p1_i + 1)) (p0_s.Frames.length : Int))) r18 w (Own.refl w) (Sl.laterA hS0_Frames H) (Own.rpA 2 H rfl) (Own.slA 0 H rfl) hr19) fun g20 => ?_
    refine J.nil ?_
    refine JH.back [3] rfl rfl ?_
    refine JH.all [13] (by kernel_rfl) rfl (JHall.cons (JH.op rfl ?_) (JHall.nil))
    refine J.stW (cs' := [.int .i8 r18.Across, g20]) 2 rfl rfl rfl rfl rfl rfl ts29 rfl (fun _ H => (one_cons rfl (one_cons (Own.sl0 0 H rfl).one one_nil))) rfl rfl ?_
    refine J.nil ?_
    refine JH.back [3] rfl rfl ?_
    refine JH.take (i := 14) [3] rfl (by kernel_rfl) rfl rfl rfl rfl rfl (V.as rfl rfl) ?_
    refine JH.fin (by kernel_rfl) ?_
    refine J.tN ?_
    refine J.ret ?_
    obtain rfl := B.e h0
    exact J.retC_1 2 rfl rfl rfl ts29 ta29 rfl rfl fun w H => ⟨g20, rfl, H.pick [0] (by decide)⟩

/-! ### laws.toPrint: function 46 -/
noncomputable def laws_toPrint.b1 (p0_a : (Vector Int 64)) : (Int × (Vector Int 64)) → Option (Step (Int × (Vector Int 64)) ((Vector Int 64))) := fun s7 => bif (decide (s7.1 < 64)) then (bif (inB s7.1 64) then (bif (inB s7.1 64) then ((some (wrA s7.2 s7.1 (rdA p0_a s7.1))).bind fun m13 => (some (IntKind.wrap .i64 (s7.1 + 1))).bind fun i_14 => some (.next (i_14, m13))) else none) else none) else (some (.done s7.2))
noncomputable def laws_toPrint.f (p0_a : (Vector Int 64)) : Option ((Vector Int 64)) := (loopW (laws_toPrint.b1 p0_a) (0, (zA 64))).bind fun y15 => some y15
set_option maxRecDepth 100000 in
theorem laws_toPrint.calls (p0_a : (Vector Int 64)) (r : (Vector Int 64)) (w : World) (H0 : Own [] w w []) (h0 : laws_toPrint.f p0_a = some r) :
    Calls Try.prog 46 #[.agg (encA .i16 p0_a).toArray] w (fun e w' => ∃ _ : Unit, e = .returned (.agg (encA .i16 r).toArray) ∧ Own [] w w' []) := by
  unfold laws_toPrint.f at h0
  replace h0 := B.top h0
  refine calls_of_J (args := [.agg (encA .i16 p0_a).toArray]) Try.func46 rfl Try.ntmps46 rfl [(0, .agg (encA .i16 p0_a).toArray)] rfl H0 ?_
  refine J.seq ?_
  refine J.region ?_
  refine J.box rfl rfl rfl rfl rfl (fun _ _ => rfl) fun b1 => ?_
  refine J.alloc rfl rfl rfl rfl tz60 rfl fun b3 => ?_
  refine J.nil ?_
  refine J.tN ?_
  refine J.seq ?_
  refine J.region ?_
  refine J.alloc rfl rfl rfl rfl tz60 rfl fun b5 => ?_
  refine J.nil ?_
  refine J.tN ?_
  refine J.seq ?_
  refine J.seq ?_
  refine J.region ?_
  refine J.op rfl rfl rfl (V.as rfl rfl) ?_
  refine J.nil ?_
  refine J.tN ?_
  obtain ⟨y15, hy17, h0⟩ := B.bind h0
  refine J.cutQ (γ := Unit) (fun _ => True) (fun gy16 => [(2, bp b3 0), (3, bp b5 0)]) (fun gy16 => [.blk b5 (encA .i16 y15) 60, .blk b3 (encA .i16 (zA 64)) 60, .blk b1 (encA .i16 p0_a) 59]) ?_ ?_
  · refine J.block ?_
    refine J.loop (γ := Unit) hy17 (fun s7 g8 => [(1, bp b1 0), (2, bp b3 0), (3, bp b5 0), (4, .int .i64 s7.1)]) (fun s7 g8 => [.blk b5 (encA .i16 s7.2) 60, .blk b3 (encA .i16 (zA 64)) 60, .blk b1 (encA .i16 p0_a) 59]) () ?_ ?_
    · exact J.keep _ rfl (J.pickE [0, 1, 2] rfl rfl J.here)
    · intro rec9 s7 g8 h1
      unfold laws_toPrint.b1 at h1
      refine J.seq ?_
      refine J.seq ?_
      refine J.region ?_
      refine J.op rfl rfl rfl (V.mv rfl rfl) ?_
      refine J.op rfl rfl rfl (V.cmp rfl rfl rfl rfl) ?_
      refine J.nil ?_
      refine J.tN ?_
      refine J.cond rfl (fun hB10 => ?_) (fun hB10 => ?_)
      · replace h1 := B.t hB10 h1
        refine J.skip ?_
        refine J.tN ?_
        refine J.seq ?_
        refine J.block ?_
        refine J.region ?_
        refine J.op rfl rfl rfl (V.mv rfl rfl) ?_
        refine J.op rfl rfl rfl (V.mv rfl rfl) ?_
        obtain ⟨hC11, h1⟩ := B.chk h1
        refine J.op rfl rfl rfl (V.ixB rfl rfl rfl tr59 ts58 hC11) ?_
        refine J.op rfl rfl rfl (V.ldB 2 rfl rfl rfl Try.underlying58 ta58 (encA_get0 .i16 _ hC11)) ?_
        obtain ⟨hC12, h1⟩ := B.chk h1
        refine J.op rfl rfl rfl (V.ixB rfl rfl rfl tr60 ts58 hC12) ?_
        refine J.stB 0 rfl rfl rfl rfl rfl rfl ts58 (fun _ _ => rfl) (encA_lt .i16 _ hC12) ?_
        refine J.setEnt 0 rfl (congrArg (fun q => Ent.blk _ q _) (encA_set .i16 _ _ _)) ?_
        obtain ⟨m13, em13, h1⟩ := B.lt h1
        refine J.setEnt 0 rfl (congrArg (fun q => Ent.blk _ (encA .i16 q) _) em13) ?_
        refine J.nil ?_
        refine J.bN ?_
        refine J.tN ?_
        refine J.region ?_
        refine J.op rfl rfl rfl (V.mv rfl rfl) ?_
        refine J.op rfl rfl rfl (V.ar rfl rfl rfl rfl) ?_
        refine J.op rfl rfl rfl (V.as rfl rfl) ?_
        obtain ⟨i_14, ei_14, h1⟩ := B.lt h1
        refine J.val (congrArg (Value.int .i64) ei_14) ?_
        refine J.nil ?_
        refine J.tN (J.next (i_14, m13) () (B.n h1) ?_)
        exact J.keep _ rfl (J.pickE [0, 1, 2] rfl rfl J.here)
      · replace h1 := B.f hB10 h1
        refine J.exit ?_
        refine J.tE ?_
        refine J.tE ?_
        refine J.bE ?_
        obtain rfl := B.d h1
        refine J.tN (J.to () trivial ?_)
        exact J.keep _ rfl (J.pickE [0, 1, 2] rfl rfl J.here)
  · intro gy16 _
    refine J.tN ?_
    refine J.seq ?_
    refine J.region ?_
    refine J.op rfl rfl rfl (V.ldW 0 rfl rfl rfl ts60 ta60 (encA_len _ _)) ?_
    refine J.stW (cs' := encA .i16 y15) 1 rfl rfl rfl rfl rfl rfl ts60 rfl (fun _ _ => encA_one .i16 _) (encA_len _ _) (encA_len _ _) ?_
    refine J.nil ?_
    refine J.tN ?_
    refine J.ret ?_
    obtain rfl := B.e h0
    exact J.retC 1 rfl rfl rfl ts60 ta60 (encA_len _ _) fun w H => ⟨(), rfl, H.pick [] (by decide)⟩

/-! ### laws.toPrintS: function 29 -/
noncomputable def laws_toPrintS.b1 (p0_a : (List (Vector Int 64))) : (Int × (List (Vector Int 64))) → Option (Step (Int × (List (Vector Int 64))) ((List (Vector Int 64)))) := fun s4 => bif (decide (s4.1 < (p0_a.length : Int))) then (bif (inB s4.1 p0_a.length) then ((laws_toPrint.f (rd (eA .i16 64) p0_a s4.1)).bind fun r9 => bif (inB s4.1 s4.2.length) then ((some (s4.2.set s4.1.toNat r9)).bind fun w13 => (some (IntKind.wrap .i64 (s4.1 + 1))).bind fun i_14 => some (.next (i_14, w13))) else none) else none) else (some (.done s4.2))
noncomputable def laws_toPrintS.f (p0_a : (List (Vector Int 64))) : Option ((List (Vector Int 64))) := bif (mkB (p0_a.length : Int) 128) then ((loopW (laws_toPrintS.b1 p0_a) (0, List.replicate (p0_a.length : Int).toNat (eA .i16 64).dflt)).bind fun y15 => some y15) else none
set_option maxRecDepth 100000 in
theorem laws_toPrintS.calls (v0 : Value) (p0_a : (List (Vector Int 64))) (r : (List (Vector Int 64))) (w : World) (H0 : Own [] w w []) (hS0 : SlE [] w v0 59 (eA .i16 64) p0_a) (h0 : laws_toPrintS.f p0_a = some r) :
    Calls Try.prog 29 #[v0] w (fun e w' => ∃ gh : Value, e = .returned (gh) ∧ Own [] w w' [.rowE gh 60 (eA .i16 64) r]) := by
  unfold laws_toPrintS.f at h0
  replace h0 := B.top h0
  refine calls_of_J (args := [v0]) Try.func29 rfl Try.ntmps29 rfl [(0, v0)] rfl H0 ?_
  refine J.seq ?_
  refine J.region ?_
  refine J.op rfl rfl rfl (V.as rfl rfl) ?_
  refine J.nil ?_
  refine J.tN ?_
  refine J.seq ?_
  refine J.region ?_
  refine J.op rfl rfl rfl (V.mv rfl rfl) ?_
  refine J.op rfl rfl rfl (V.lenS hS0 rfl rfl tl23) ?_
  obtain ⟨hC2, h0⟩ := B.chk h0
  obtain ⟨_, ti1, ti2, ti3, ti4⟩ := ti60
  refine J.mk (e := (eA .i16 64)) hC2 ti1 tl27 ti2 ti3 ti4 rfl rfl rfl rfl rfl rfl rfl rfl fun v1 => ?_
  refine J.op rfl rfl rfl (V.as rfl rfl) ?_
  refine J.nil ?_
  refine J.tN ?_
  refine J.seq ?_
  refine J.seq ?_
  refine J.region ?_
  refine J.op rfl rfl rfl (V.as rfl rfl) ?_
  refine J.nil ?_
  refine J.tN ?_
  obtain ⟨y15, hy17, h0⟩ := B.bind h0
  refine J.cutQ (γ := Unit) (fun _ => True) (fun gy16 => [(3, v1)]) (fun gy16 => [.rowE v1 60 (eA .i16 64) y15]) ?_ ?_
  · refine J.block ?_
    refine J.loop (γ := Unit) hy17 (fun s4 g5 => [(0, v0), (3, v1), (4, .int .i64 s4.1)]) (fun s4 g5 => [.rowE v1 60 (eA .i16 64) s4.2]) () ?_ ?_
    · exact J.keep _ rfl (J.pickE [0] rfl rfl J.here)
    · intro rec6 s4 g5 h1
      unfold laws_toPrintS.b1 at h1
      refine J.seq ?_
      refine J.seq ?_
      refine J.region ?_
      refine J.op rfl rfl rfl (V.mv rfl rfl) ?_
      refine J.op rfl rfl rfl (V.mv rfl rfl) ?_
      refine J.op rfl rfl rfl (V.lenS hS0 rfl rfl tl23) ?_
      refine J.op rfl rfl rfl (V.cmp rfl rfl rfl rfl) ?_
      refine J.nil ?_
      refine J.tN ?_
      refine J.cond rfl (fun hB7 => ?_) (fun hB7 => ?_)
      · replace h1 := B.t hB7 h1
        refine J.skip ?_
        refine J.tN ?_
        refine J.seq ?_
        refine J.block ?_
        refine J.region ?_
        refine J.op rfl rfl rfl (V.mv rfl rfl) ?_
        refine J.op rfl rfl rfl (V.mv rfl rfl) ?_
        refine J.op rfl rfl rfl (V.mv rfl rfl) ?_
        refine J.op rfl rfl rfl (V.mv rfl rfl) ?_
        obtain ⟨hC8, h1⟩ := B.chk h1
        refine J.op rfl rfl rfl (V.ixS hS0 rfl rfl rfl tl23 ts59 hC8) ?_
        refine J.op rfl rfl rfl (V.elSA hS0 hC8 rfl rfl ts59 ta59) ?_
        obtain ⟨r9, hr10, h1⟩ := B.bind h1
        refine J.clA (l := [.tmp 19]) [] [.rowE v1 60 (eA .i16 64) s4.2] cf46 (wN rfl) rfl rfl rfl rfl rfl rfl (fun w H => laws_toPrint.calls (rd (eA .i16 64) p0_a s4.1) r9 w (Own.refl w)  hr10) fun g11 => ?_
        obtain ⟨hC12, h1⟩ := B.chk h1
        refine J.op rfl rfl rfl (V.ixR 0 rfl rfl rfl rfl tl27 ts60 hC12) ?_
        refine J.stEA (e := (eA .i16 64)) (xs := s4.2) 0 r9 hC12 rfl rfl rfl rfl rfl rfl ts60 ?_
        obtain ⟨w13, ew13, h1⟩ := B.lt h1
        refine J.setEnt 0 rfl (congrArg (fun q => Ent.rowE _ _ (eA .i16 64) q) ew13) ?_
        refine J.nil ?_
        refine J.bN ?_
        refine J.tN ?_
        refine J.region ?_
        refine J.op rfl rfl rfl (V.mv rfl rfl) ?_
        refine J.op rfl rfl rfl (V.ar rfl rfl rfl rfl) ?_
        refine J.op rfl rfl rfl (V.as rfl rfl) ?_
        obtain ⟨i_14, ei_14, h1⟩ := B.lt h1
        refine J.val (congrArg (Value.int .i64) ei_14) ?_
        refine J.nil ?_
        refine J.tN (J.next (i_14, w13) () (B.n h1) ?_)
        exact J.keep _ rfl (J.pickE [0] rfl rfl J.here)
      · replace h1 := B.f hB7 h1
        refine J.exit ?_
        refine J.tE ?_
        refine J.tE ?_
        refine J.bE ?_
        obtain rfl := B.d h1
        refine J.tN (J.to () trivial ?_)
        exact J.keep _ rfl (J.pickE [0] rfl rfl J.here)
  · intro gy16 _
    refine J.tN ?_
    refine J.seq ?_
    refine J.region ?_
    refine J.op rfl rfl rfl (V.mv rfl rfl) ?_
    refine J.op rfl rfl rfl (V.as rfl rfl) ?_
    refine J.nil ?_
    refine J.tN ?_
    refine J.ret ?_
    obtain rfl := B.e h0
    exact J.ret1 rfl rfl fun w H => ⟨v1, rfl, H.pick [0] (by decide)⟩

/-! ### laws.toSheet: function 7 -/
noncomputable def laws_toSheet.f (p0_a : laws_Sheet) : Option (impl_Sheet) := (laws_toPrintS.f p0_a.Frames).bind fun r7 => some (⟨p0_a.Across, r7⟩ : impl_Sheet)
set_option maxRecDepth 100000 in
theorem laws_toSheet.calls (p0_a : laws_Sheet) (v0_Frames : Value) (r : impl_Sheet) (w : World) (H0 : Own [] w w []) (hS0_Frames : SlE [] w v0_Frames 59 (eA .i16 64) p0_a.Frames) (h0 : laws_toSheet.f p0_a = some r) :
    Calls Try.prog 7 #[.agg #[.int .i8 p0_a.Across, v0_Frames]] w (fun e w' => ∃ gh : Value, e = .returned (.agg #[.int .i8 r.Across, gh]) ∧ Own [] w w' [.rowE gh 60 (eA .i16 64) r.Frames]) := by
  unfold laws_toSheet.f at h0
  replace h0 := B.top h0
  refine calls_of_J (args := [.agg #[.int .i8 p0_a.Across, v0_Frames]]) Try.func7 rfl Try.ntmps7 rfl [(0, .agg #[.int .i8 p0_a.Across, v0_Frames])] rfl H0 ?_
  refine J.seq ?_
  refine J.region ?_
  refine J.box rfl rfl rfl rfl rfl (fun _ _ => rfl) fun b1 => ?_
  refine J.alloc rfl rfl rfl rfl tz29 rfl fun b3 => ?_
  refine J.nil ?_
  refine J.tN ?_
  refine J.seq ?_
  refine J.region ?_
  refine J.alloc rfl rfl rfl rfl tz29 rfl fun b5 => ?_
  refine J.nil ?_
  refine J.tN ?_
  refine J.seq ?_
  refine J.region ?_
  refine J.op rfl rfl rfl (V.faB rfl rfl tf0_25) ?_
  refine J.op rfl rfl rfl (V.ldB 2 rfl rfl rfl Try.underlying22 ta22 rfl) ?_
  refine J.op rfl rfl rfl (V.faB rfl rfl tf0_29) ?_
  refine J.stB 0 rfl rfl rfl rfl rfl rfl ts22 (fun _ _ => rfl) rfl ?_
  refine J.nil ?_
  refine J.tN ?_
  refine J.seq ?_
  refine J.region ?_
  refine J.op rfl rfl rfl (V.faB rfl rfl tf1_25) ?_
  refine J.op rfl rfl rfl (V.ldB 2 rfl rfl rfl Try.underlying23 ta23 rfl) ?_
  obtain ⟨r7, hr8, h0⟩ := B.bind h0
  refine J.clA (l := [.tmp 8]) [] [.blk b5 [.int .i8 p0_a.Across, .slice none 0 0] 29, .blk b3 [.int .i8 0, .slice none 0 0] 29, .blk b1 [.int .i8 p0_a.Across, v0_Frames] 25] cf29 (wN rfl) rfl rfl rfl rfl rfl rfl (fun w H => laws_toPrintS.calls v0_Frames p0_a.Frames r7 w (Own.refl w) (Sl.laterA hS0_Frames H) hr8) fun g9 => ?_
  refine J.op rfl rfl rfl (V.faB rfl rfl tf1_29) ?_
  refine J.stB 1 rfl rfl rfl rfl rfl rfl ts27 (fun _ H => (Own.sl0 0 H rfl).one) rfl ?_
  refine J.nil ?_
  refine J.tN ?_
  refine J.seq ?_
  refine J.region ?_
  refine J.op rfl rfl rfl (V.ldW 1 rfl rfl rfl ts29 ta29 rfl) ?_
  refine J.stW (cs' := [.int .i8 p0_a.Across, g9]) 2 rfl rfl rfl rfl rfl rfl ts29 rfl (fun _ H => (one_cons rfl (one_cons (Own.sl0 0 H rfl).one one_nil))) rfl rfl ?_
  refine J.nil ?_
  refine J.tN ?_
  refine J.ret ?_
  obtain rfl := B.e h0
  exact J.retC 2 rfl rfl rfl ts29 ta29 rfl fun w H => ⟨g9, rfl, H.pick [0] (by decide)⟩

/-! ### impl.within: function 40 -/
noncomputable def impl_within.f (p0_n : Int) (p1_low : Int) (p2_high : Int) : Option (Bool) := bif (decide (p1_low ≤ p0_n)) then ((some (decide (p0_n ≤ p2_high))).bind fun t2 => some t2) else (some false)
set_option maxRecDepth 100000 in
theorem impl_within.calls (p0_n : Int) (p1_low : Int) (p2_high : Int) (r : Bool) (w : World) (H0 : Own [] w w []) (h0 : impl_within.f p0_n p1_low p2_high = some r) :
    Calls Try.prog 40 #[.int .i64 p0_n, .int .i64 p1_low, .int .i64 p2_high] w (fun e w' => ∃ _ : Unit, e = .returned (.bool r) ∧ Own [] w w' []) := by
  unfold impl_within.f at h0
  replace h0 := B.top h0
  refine calls_of_J (args := [.int .i64 p0_n, .int .i64 p1_low, .int .i64 p2_high]) Try.func40 rfl Try.ntmps40 rfl [(0, .int .i64 p0_n), (1, .int .i64 p1_low), (2, .int .i64 p2_high)] rfl H0 ?_
  refine J.seq ?_
  refine J.region ?_
  refine J.op rfl rfl rfl (V.as rfl rfl) ?_
  refine J.nil ?_
  refine J.tN ?_
  refine J.seq ?_
  refine J.region ?_
  refine J.op rfl rfl rfl (V.mv rfl rfl) ?_
  refine J.op rfl rfl rfl (V.mv rfl rfl) ?_
  refine J.op rfl rfl rfl (V.cmp rfl rfl rfl rfl) ?_
  refine J.op rfl rfl rfl (V.mv rfl rfl) ?_
  refine J.split 10 rfl (fun hB1 => ?_) (fun hB1 => ?_)
  · replace h0 := B.t hB1 h0
    refine J.opOn rfl rfl rfl rfl rfl (V.mv rfl rfl) ?_
    refine J.opOn rfl rfl rfl rfl rfl (V.mv rfl rfl) ?_
    refine J.opOn rfl rfl rfl rfl rfl (V.cmp rfl rfl rfl rfl) ?_
    refine J.op rfl rfl rfl (V.pkT rfl rfl rfl) ?_
    refine J.op rfl rfl rfl (V.as rfl rfl) ?_
    obtain ⟨t2, et2, h0⟩ := B.lt h0
    refine J.val (congrArg (Value.bool) et2) ?_
    refine J.nil ?_
    refine J.tN ?_
    refine J.ret ?_
    obtain rfl := B.e h0
    exact J.ret1 rfl rfl fun w H => ⟨(), rfl, H.pick [] (by decide)⟩
  · replace h0 := B.f hB1 h0
    refine J.opOff rfl rfl rfl rfl rfl rfl ?_
    refine J.opOff rfl rfl rfl rfl rfl rfl ?_
    refine J.opOff rfl rfl rfl rfl rfl rfl ?_
    refine J.op rfl rfl rfl (V.pkF rfl rfl rfl) ?_
    refine J.op rfl rfl rfl (V.as rfl rfl) ?_
    refine J.nil ?_
    refine J.tN ?_
    refine J.ret ?_
    obtain rfl := B.e h0
    exact J.ret1 rfl rfl fun w H => ⟨(), rfl, H.pick [] (by decide)⟩

/-! ### slices.IndexFunc[[]impl.Print,impl.Print]: function 58 -/
noncomputable def slices_IndexFunc_impl_Print_impl_Print.b1 (p0_s : (List (Vector Int 64))) (p1_f : (Vector Int 64) → Option Bool) : Int → Option (Step (Int) (Sum (Unit) (Int))) := fun s1 => bif (decide (s1 < (p0_s.length : Int))) then (bif (inB s1 p0_s.length) then ((p1_f (rd (eA .i16 64) p0_s s1)).bind fun r6 => bif r6 then (some (.done (.inr s1))) else (some (.next (IntKind.wrap .i64 (s1 + 1))))) else none) else (some (.done (.inl ())))
noncomputable def slices_IndexFunc_impl_Print_impl_Print.f (p0_s : (List (Vector Int 64))) (p1_f : (Vector Int 64) → Option Bool) : Option (Int) := (loopW (slices_IndexFunc_impl_Print_impl_Print.b1 p0_s p1_f) 0).bind (Sum.elim (fun y11 => some (-1)) (fun r => some r))
set_option maxRecDepth 100000 in
theorem slices_IndexFunc_impl_Print_impl_Print.calls (v0 : Value) (p0_s : (List (Vector Int 64))) (g1_ : Nat) (c1_ : Array Value) (p1_f : (Vector Int 64) → Option Bool) (r : Int) (w : World) (H0 : Own [] w w []) (hS0 : SlE [] w v0 60 (eA .i16 64) p0_s) (hg1 : CallsFn Try.prog g1_) (hF1 : ∀ w2 x r, Own [] w w2 [] → p1_f x = some r → Calls Try.prog g1_ (#[.agg (encA .i16 x).toArray] ++ c1_) w2 (fun e w3 => ∃ _ : Unit, e = .returned (.bool r) ∧ Own [] w2 w3 [])) (h0 : slices_IndexFunc_impl_Print_impl_Print.f p0_s p1_f = some r) :
    Calls Try.prog 58 #[v0, .func (.func g1_) #[] c1_] w (fun e w' => ∃ _ : Unit, e = .returned (.int .i64 r) ∧ Own [] w w' []) := by
  unfold slices_IndexFunc_impl_Print_impl_Print.f at h0
  replace h0 := B.top h0
  refine calls_of_J (args := [v0, .func (.func g1_) #[] c1_]) Try.func58 rfl Try.ntmps58 rfl [(0, v0), (1, .func (.func g1_) #[] c1_)] rfl H0 ?_
  refine J.seq ?_
  refine J.region ?_
  refine J.op rfl rfl rfl (V.as rfl rfl) ?_
  refine J.nil ?_
  refine J.tN ?_
  refine J.seq ?_
  refine J.seq ?_
  refine J.region ?_
  refine J.op rfl rfl rfl (V.mv rfl rfl) ?_
  refine J.op rfl rfl rfl (V.lenS hS0 rfl rfl tl27) ?_
  refine J.op rfl rfl rfl (V.mv rfl rfl) ?_
  refine J.nil ?_
  refine J.tN ?_
  obtain ⟨o13, hy12, h0⟩ := B.bind h0
  refine J.cutQ (γ := (Unit) × (Unit)) (fun gy11 => o13 = .inl gy11.1) (fun gy11 => []) (fun gy11 => []) ?_ ?_
  · refine J.block ?_
    refine J.loop (γ := Unit) hy12 (fun s1 g2 => [(0, v0), (1, .func (.func g1_) #[] c1_), (7, .int .i64 (p0_s.length : Int)), (8, .int .i64 s1)]) (fun s1 g2 => []) () ?_ ?_
    · exact J.keep _ rfl (J.pickE [] rfl rfl J.here)
    · intro rec3 s1 g2 h1
      unfold slices_IndexFunc_impl_Print_impl_Print.b1 at h1
      refine J.seq ?_
      refine J.region ?_
      refine J.op rfl rfl rfl (V.cmp rfl rfl rfl rfl) ?_
      refine J.nil ?_
      refine J.tN ?_
      refine J.seq ?_
      refine J.cond rfl (fun hB4 => ?_) (fun hB4 => ?_)
      · replace h1 := B.t hB4 h1
        refine J.skip ?_
        refine J.tN ?_
        refine J.seq ?_
        refine J.block ?_
        refine J.seq ?_
        refine J.region ?_
        refine J.op rfl rfl rfl (V.mv rfl rfl) ?_
        refine J.op rfl rfl rfl (V.as rfl rfl) ?_
        refine J.nil ?_
        refine J.tN ?_
        refine J.seq ?_
        refine J.region ?_
        refine J.op rfl rfl rfl (V.mv rfl rfl) ?_
        refine J.op rfl rfl rfl (V.mv rfl rfl) ?_
        refine J.op rfl rfl rfl (V.mv rfl rfl) ?_
        obtain ⟨hC5, h1⟩ := B.chk h1
        refine J.op rfl rfl rfl (V.ixS hS0 rfl rfl rfl tl27 ts60 hC5) ?_
        refine J.op rfl rfl rfl (V.elSA hS0 hC5 rfl rfl ts60 ta60) ?_
        obtain ⟨r6, hr7, h1⟩ := B.bind h1
        refine J.clA (l := [.tmp 15]) [] [] hg1 (wN rfl) rfl rfl rfl rfl rfl rfl (fun w H => hF1 w (rd (eA .i16 64) p0_s s1) r6 H.none hr7) fun g8 => ?_
        refine J.nil ?_
        refine J.tN ?_
        refine J.cond rfl (fun hB9 => ?_) (fun hB9 => ?_)
        · replace h1 := B.t hB9 h1
          refine J.seq ?_
          refine J.region ?_
          refine J.op rfl rfl rfl (V.mv rfl rfl) ?_
          refine J.op rfl rfl rfl (V.as rfl rfl) ?_
          refine J.nil ?_
          refine J.tN ?_
          refine J.ret ?_
          refine J.bR ?_
          refine J.tR ?_
          refine J.tR ?_
          refine J.bR ?_
          refine J.tR ?_
          refine J.tR ?_
          obtain rfl := B.d h1
          replace h0 := B.inr h0
          obtain rfl := B.e h0
          exact J.ret1 rfl rfl fun w H => ⟨(), rfl, H.pick [] (by decide)⟩
        · replace h1 := B.f hB9 h1
          refine J.skip ?_
          refine J.bN ?_
          refine J.tN ?_
          refine J.region ?_
          refine J.op rfl rfl rfl (V.ar rfl rfl rfl rfl) ?_
          refine J.op rfl rfl rfl (V.mv rfl rfl) ?_
          refine J.nil ?_
          refine J.tN (J.next (IntKind.wrap .i64 (s1 + 1)) () (B.n h1) ?_)
          exact J.keep _ rfl (J.pickE [] rfl rfl J.here)
      · replace h1 := B.f hB4 h1
        refine J.exit ?_
        refine J.tE ?_
        refine J.tE ?_
        refine J.bE ?_
        obtain rfl := B.d h1
        refine J.tN (J.to ((), ()) rfl ?_)
        exact J.keep _ rfl (J.pickE [] rfl rfl J.here)
  · intro gy11 hG
    replace h0 := B.inl hG h0
    refine J.tN ?_
    refine J.seq ?_
    refine J.region ?_
    refine J.op rfl rfl rfl (V.as rfl rfl) ?_
    refine J.nil ?_
    refine J.tN ?_
    refine J.ret ?_
    obtain rfl := B.e h0
    exact J.ret1 rfl rfl fun w H => ⟨(), rfl, H.pick [] (by decide)⟩

/-! ### slices.ContainsFunc[[]impl.Print,impl.Print]: function 52 -/
noncomputable def slices_ContainsFunc_impl_Print_impl_Print.f (p0_s : (List (Vector Int 64))) (p1_f : (Vector Int 64) → Option Bool) : Option (Bool) := (slices_IndexFunc_impl_Print_impl_Print.f p0_s p1_f).bind fun r1 => (some (decide (0 ≤ r1))).bind fun t4 => some t4
set_option maxRecDepth 100000 in
theorem slices_ContainsFunc_impl_Print_impl_Print.calls (v0 : Value) (p0_s : (List (Vector Int 64))) (g1_ : Nat) (c1_ : Array Value) (p1_f : (Vector Int 64) → Option Bool) (r : Bool) (w : World) (H0 : Own [] w w []) (hS0 : SlE [] w v0 60 (eA .i16 64) p0_s) (hg1 : CallsFn Try.prog g1_) (hF1 : ∀ w2 x r, Own [] w w2 [] → p1_f x = some r → Calls Try.prog g1_ (#[.agg (encA .i16 x).toArray] ++ c1_) w2 (fun e w3 => ∃ _ : Unit, e = .returned (.bool r) ∧ Own [] w2 w3 [])) (h0 : slices_ContainsFunc_impl_Print_impl_Print.f p0_s p1_f = some r) :
    Calls Try.prog 52 #[v0, .func (.func g1_) #[] c1_] w (fun e w' => ∃ _ : Unit, e = .returned (.bool r) ∧ Own [] w w' []) := by
  unfold slices_ContainsFunc_impl_Print_impl_Print.f at h0
  replace h0 := B.top h0
  refine calls_of_J (args := [v0, .func (.func g1_) #[] c1_]) Try.func52 rfl Try.ntmps52 rfl [(0, v0), (1, .func (.func g1_) #[] c1_)] rfl H0 ?_
  refine J.seq ?_
  refine J.region ?_
  refine J.op rfl rfl rfl (V.as rfl rfl) ?_
  refine J.nil ?_
  refine J.tN ?_
  refine J.seq ?_
  refine J.region ?_
  refine J.op rfl rfl rfl (V.mv rfl rfl) ?_
  refine J.op rfl rfl rfl (V.mv rfl rfl) ?_
  obtain ⟨r1, hr2, h0⟩ := B.bind h0
  refine J.clA (l := [.tmp 5, .tmp 6]) [] [] cf58 (wN rfl) rfl rfl rfl rfl rfl rfl (fun w H => slices_IndexFunc_impl_Print_impl_Print.calls v0 p0_s g1_ c1_ p1_f r1 w (Own.refl w) (Sl.laterA hS0 H) hg1 (fun w2 x r HO hp => hF1 w2 x r (H.none.trans0 HO) hp) hr2) fun g3 => ?_
  refine J.op rfl rfl rfl (V.cmp rfl rfl rfl rfl) ?_
  refine J.op rfl rfl rfl (V.as rfl rfl) ?_
  obtain ⟨t4, et4, h0⟩ := B.lt h0
  refine J.val (congrArg (Value.bool) et4) ?_
  refine J.nil ?_
  refine J.tN ?_
  refine J.ret ?_
  obtain rfl := B.e h0
  exact J.ret1 rfl rfl fun w H => ⟨(), rfl, H.pick [] (by decide)⟩

/-! ### impl.isDensity: function 61 -/
noncomputable def impl_isDensity.f (p0_y : Int) : Option (Bool) := (impl_within.f p0_y 0 400).bind fun r1 => some r1
set_option maxRecDepth 100000 in
theorem impl_isDensity.calls (p0_y : Int) (r : Bool) (w : World) (H0 : Own [] w w []) (h0 : impl_isDensity.f p0_y = some r) :
    Calls Try.prog 61 #[.int .i64 p0_y] w (fun e w' => ∃ _ : Unit, e = .returned (.bool r) ∧ Own [] w w' []) := by
  unfold impl_isDensity.f at h0
  replace h0 := B.top h0
  refine calls_of_J (args := [.int .i64 p0_y]) Try.func61 rfl Try.ntmps61 rfl [(0, .int .i64 p0_y)] rfl H0 ?_
  refine J.seq ?_
  refine J.region ?_
  refine J.op rfl rfl rfl (V.as rfl rfl) ?_
  refine J.nil ?_
  refine J.tN ?_
  refine J.seq ?_
  refine J.region ?_
  refine J.op rfl rfl rfl (V.mv rfl rfl) ?_
  obtain ⟨r1, hr2, h0⟩ := B.bind h0
  refine J.clA (l := [.tmp 3, .const (.int .i64 0), .const (.int .i64 400)]) [] [] cf40 (wN rfl) rfl rfl rfl rfl rfl rfl (fun w H => impl_within.calls p0_y 0 400 r1 w (Own.refl w)  hr2) fun g3 => ?_
  refine J.op rfl rfl rfl (V.as rfl rfl) ?_
  refine J.nil ?_
  refine J.tN ?_
  refine J.ret ?_
  obtain rfl := B.e h0
  exact J.ret1 rfl rfl fun w H => ⟨(), rfl, H.pick [] (by decide)⟩

/-! ### impl.areDensities: function 59 -/
noncomputable def impl_areDensities.b1 (p0_cells : (Vector Int 64)) : Int → Option (Step (Int) (Sum (Unit) (Bool))) := fun s3 => bif (decide (s3 < 64)) then (bif (inB s3 64) then ((some (rdA p0_cells s3)).bind fun d_8 => (impl_isDensity.f (IntKind.wrap .i64 d_8)).bind fun r9 => bif (!r9) then (some (.done (.inr false))) else (some (.next (IntKind.wrap .i64 (s3 + 1))))) else none) else (some (.done (.inl ())))
noncomputable def impl_areDensities.f (p0_cells : (Vector Int 64)) : Option (Bool) := (loopW (impl_areDensities.b1 p0_cells) 0).bind (Sum.elim (fun y14 => some true) (fun r => some r))
set_option maxRecDepth 100000 in
theorem impl_areDensities.calls (p0_cells : (Vector Int 64)) (r : Bool) (w : World) (H0 : Own [] w w []) (h0 : impl_areDensities.f p0_cells = some r) :
    Calls Try.prog 59 #[.agg (encA .i16 p0_cells).toArray] w (fun e w' => ∃ _ : Unit, e = .returned (.bool r) ∧ Own [] w w' []) := by
  unfold impl_areDensities.f at h0
  replace h0 := B.top h0
  refine calls_of_J (args := [.agg (encA .i16 p0_cells).toArray]) Try.func59 rfl Try.ntmps59 rfl [(0, .agg (encA .i16 p0_cells).toArray)] rfl H0 ?_
  refine J.seq ?_
  refine J.region ?_
  refine J.box rfl rfl rfl rfl rfl (fun _ _ => rfl) fun b1 => ?_
  refine J.op rfl rfl rfl (V.as rfl rfl) ?_
  refine J.nil ?_
  refine J.tN ?_
  refine J.seq ?_
  refine J.seq ?_
  refine J.region ?_
  refine J.op rfl rfl rfl (V.ldW 0 rfl rfl rfl ts59 ta59 (encA_len _ _)) ?_
  refine J.op rfl rfl rfl (V.mv rfl rfl) ?_
  refine J.nil ?_
  refine J.tN ?_
  obtain ⟨o16, hy15, h0⟩ := B.bind h0
  refine J.cutQ (γ := (Unit) × (Unit)) (fun gy14 => o16 = .inl gy14.1) (fun gy14 => []) (fun gy14 => [.blk b1 (encA .i16 p0_cells) 59]) ?_ ?_
  · refine J.block ?_
    refine J.loop (γ := Unit) hy15 (fun s3 g4 => [(5, .agg (encA .i16 p0_cells).toArray), (6, .int .i64 s3)]) (fun s3 g4 => [.blk b1 (encA .i16 p0_cells) 59]) () ?_ ?_
    · exact J.keep _ rfl (J.pickE [0] rfl rfl J.here)
    · intro rec5 s3 g4 h1
      unfold impl_areDensities.b1 at h1
      refine J.seq ?_
      refine J.region ?_
      refine J.op rfl rfl rfl (V.cmp rfl rfl rfl rfl) ?_
      refine J.nil ?_
      refine J.tN ?_
      refine J.seq ?_
      refine J.cond rfl (fun hB6 => ?_) (fun hB6 => ?_)
      · replace h1 := B.t hB6 h1
        refine J.skip ?_
        refine J.tN ?_
        refine J.seq ?_
        refine J.block ?_
        refine J.seq ?_
        refine J.region ?_
        obtain ⟨hC7, h1⟩ := B.chk h1
        refine J.op rfl rfl rfl (V.ixA rfl rfl rfl tr59 ts58 Try.underlying58 ta58 hC7 (encA_get .i16 _ hC7)) ?_
        refine J.op rfl rfl rfl (V.as rfl rfl) ?_
        obtain ⟨d_8, ed_8, h1⟩ := B.lt h1
        refine J.val (congrArg (Value.int .i16) ed_8) ?_
        refine J.nil ?_
        refine J.tN ?_
        refine J.seq ?_
        refine J.region ?_
        refine J.op rfl rfl rfl (V.mv rfl rfl) ?_
        refine J.op rfl rfl rfl (V.conv rfl rfl Try.underlying58 Try.underlying2) ?_
        obtain ⟨r9, hr10, h1⟩ := B.bind h1
        refine J.clA (l := [.tmp 10]) [] [.blk b1 (encA .i16 p0_cells) 59] cf61 (wN rfl) rfl rfl rfl rfl rfl rfl (fun w H => impl_isDensity.calls (IntKind.wrap .i64 d_8) r9 w (Own.refl w)  hr10) fun g11 => ?_
        refine J.op rfl rfl rfl (V.nt rfl rfl) ?_
        refine J.nil ?_
        refine J.tN ?_
        refine J.cond rfl (fun hB12 => ?_) (fun hB12 => ?_)
        · replace h1 := B.t hB12 h1
          refine J.seq ?_
          refine J.region ?_
          refine J.op rfl rfl rfl (V.as rfl rfl) ?_
          refine J.nil ?_
          refine J.tN ?_
          refine J.ret ?_
          refine J.bR ?_
          refine J.tR ?_
          refine J.tR ?_
          refine J.bR ?_
          refine J.tR ?_
          refine J.tR ?_
          obtain rfl := B.d h1
          replace h0 := B.inr h0
          obtain rfl := B.e h0
          exact J.ret1 rfl rfl fun w H => ⟨(), rfl, H.pick [] (by decide)⟩
        · replace h1 := B.f hB12 h1
          refine J.skip ?_
          refine J.bN ?_
          refine J.tN ?_
          refine J.region ?_
          refine J.op rfl rfl rfl (V.ar rfl rfl rfl rfl) ?_
          refine J.op rfl rfl rfl (V.mv rfl rfl) ?_
          refine J.nil ?_
          refine J.tN (J.next (IntKind.wrap .i64 (s3 + 1)) () (B.n h1) ?_)
          exact J.keep _ rfl (J.pickE [0] rfl rfl J.here)
      · replace h1 := B.f hB6 h1
        refine J.exit ?_
        refine J.tE ?_
        refine J.tE ?_
        refine J.bE ?_
        obtain rfl := B.d h1
        refine J.tN (J.to ((), ()) rfl ?_)
        exact J.keep _ rfl (J.pickE [0] rfl rfl J.here)
  · intro gy14 hG
    replace h0 := B.inl hG h0
    refine J.tN ?_
    refine J.seq ?_
    refine J.region ?_
    refine J.op rfl rfl rfl (V.as rfl rfl) ?_
    refine J.nil ?_
    refine J.tN ?_
    refine J.ret ?_
    obtain rfl := B.e h0
    exact J.ret1 rfl rfl fun w H => ⟨(), rfl, H.pick [] (by decide)⟩

end Go.Proofs.Ytnjabckgklafhaa
