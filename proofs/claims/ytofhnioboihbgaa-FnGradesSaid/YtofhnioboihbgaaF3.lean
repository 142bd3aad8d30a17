/- Go functions as Lean functions, and that each call of theirs comes to just that: by a program written for this work (walk.py). No condition. -/
import Derived.Test.YtofhnioboihbgaaF2
namespace Go.Proofs.Ytofhnioboihbgaa
open Go Go.RowKit G
set_option linter.unusedVariables false

/-! ### laws.eqPoint: function 73 -/
noncomputable def laws_eqPoint.f (p0_a : impl_Point) (p1_b : impl_Point) : Option (Bool) := bif (p0_a.X != p1_b.X) then (some false) else (bif (p0_a.Y != p1_b.Y) then (some false) else (some true))
set_option maxRecDepth 100000 in
theorem laws_eqPoint.calls (p0_a : impl_Point) (p1_b : impl_Point) (r : Bool) (w : World) (H0 : Own [] w w []) (h0 : laws_eqPoint.f p0_a p1_b = some r) :
    Calls Try.prog 73 #[.agg #[.int .i16 p0_a.X, .int .i16 p0_a.Y], .agg #[.int .i16 p1_b.X, .int .i16 p1_b.Y]] w (fun e w' => ∃ _ : Unit, e = .returned (.bool r) ∧ Own [] w w' []) := by
  unfold laws_eqPoint.f at h0
  replace h0 := B.top h0
  refine calls_of_J (args := [.agg #[.int .i16 p0_a.X, .int .i16 p0_a.Y], .agg #[.int .i16 p1_b.X, .int .i16 p1_b.Y]]) Try.func73 rfl Try.ntmps73 rfl [(0, .agg #[.int .i16 p0_a.X, .int .i16 p0_a.Y]), (1, .agg #[.int .i16 p1_b.X, .int .i16 p1_b.Y])] rfl H0 ?_
  refine J.seq ?_
  refine J.region ?_
  refine J.box rfl rfl rfl rfl rfl (fun _ _ => rfl) fun b1 => ?_
  refine J.box rfl rfl rfl rfl rfl (fun _ _ => rfl) fun b3 => ?_
  refine J.op rfl rfl rfl (V.as rfl rfl) ?_
  refine J.nil ?_
  refine J.tN ?_
  refine J.seq ?_
  refine J.seq ?_
  refine J.region ?_
  refine J.op rfl rfl rfl (V.faB rfl rfl tf0_78) ?_
  refine J.op rfl rfl rfl (V.ldB 1 rfl rfl rfl Try.underlying76 ta76 rfl) ?_
  refine J.op rfl rfl rfl (V.faB rfl rfl tf0_78) ?_
  refine J.op rfl rfl rfl (V.ldB 0 rfl rfl rfl Try.underlying76 ta76 rfl) ?_
  refine J.op rfl rfl rfl (V.cmp rfl rfl rfl rfl) ?_
  refine J.nil ?_
  refine J.tN ?_
  refine J.cond rfl (fun hB5 => ?_) (fun hB5 => ?_)
  · replace h0 := B.t hB5 h0
    refine J.seq ?_
    refine J.region ?_
    refine J.op rfl rfl rfl (V.as rfl rfl) ?_
    refine J.nil ?_
    refine J.tN ?_
    refine J.ret ?_
    refine J.tR ?_
    obtain rfl := B.e h0
    exact J.ret1 rfl rfl fun w H => ⟨(), rfl, H.pick [] (by decide)⟩
  · replace h0 := B.f hB5 h0
    refine J.skip ?_
    refine J.tN ?_
    refine J.seq ?_
    refine J.seq ?_
    refine J.region ?_
    refine J.op rfl rfl rfl (V.faB rfl rfl tf1_78) ?_
    refine J.op rfl rfl rfl (V.ldB 1 rfl rfl rfl Try.underlying76 ta76 rfl) ?_
    refine J.op rfl rfl rfl (V.faB rfl rfl tf1_78) ?_
    refine J.op rfl rfl rfl (V.ldB 0 rfl rfl rfl Try.underlying76 ta76 rfl) ?_
    refine J.op rfl rfl rfl (V.cmp rfl rfl rfl rfl) ?_
    refine J.nil ?_
    refine J.tN ?_
    refine J.cond rfl (fun hB6 => ?_) (fun hB6 => ?_)
    · replace h0 := B.t hB6 h0
      refine J.seq ?_
      refine J.region ?_
      refine J.op rfl rfl rfl (V.as rfl rfl) ?_
      refine J.nil ?_
      refine J.tN ?_
      refine J.ret ?_
      refine J.tR ?_
      obtain rfl := B.e h0
      exact J.ret1 rfl rfl fun w H => ⟨(), rfl, H.pick [] (by decide)⟩
    · replace h0 := B.f hB6 h0
      refine J.skip ?_
      refine J.tN ?_
      refine J.seq ?_
      refine J.region ?_
      refine J.op rfl rfl rfl (V.as rfl rfl) ?_
      refine J.nil ?_
      refine J.tN ?_
      refine J.ret ?_
      obtain rfl := B.e h0
      exact J.ret1 rfl rfl fun w H => ⟨(), rfl, H.pick [] (by decide)⟩

/-! ### laws.eqCurve: function 40 -/
noncomputable def laws_eqCurve.b1 (p0_a : (List impl_Point)) (p1_b : (List impl_Point)) : Int → Option (Step (Int) (Sum (Unit) (Bool))) := fun s2 => bif (decide (s2 < (p0_a.length : Int))) then (bif (inB s2 p0_a.length) then (bif (inB s2 p1_b.length) then ((laws_eqPoint.f (⟨(rd enc_impl_Point p0_a s2).X, (rd enc_impl_Point p0_a s2).Y⟩ : impl_Point) (⟨(rd enc_impl_Point p1_b s2).X, (rd enc_impl_Point p1_b s2).Y⟩ : impl_Point)).bind fun r8 => bif (!r8) then (some (.done (.inr false))) else ((some (IntKind.wrap .i64 (s2 + 1))).bind fun i_12 => some (.next i_12))) else none) else none) else (some (.done (.inl ())))
noncomputable def laws_eqCurve.f (p0_a : (List impl_Point)) (p1_b : (List impl_Point)) : Option (Bool) := bif ((p0_a.length : Int) != (p1_b.length : Int)) then (some false) else ((loopW (laws_eqCurve.b1 p0_a p1_b) 0).bind (Sum.elim (fun y14 => some true) (fun r => some r)))
set_option maxRecDepth 100000 in
theorem laws_eqCurve.calls (v0 : Value) (p0_a : (List impl_Point)) (v1 : Value) (p1_b : (List impl_Point)) (r : Bool) (w : World) (H0 : Own [] w w []) (hS0 : SlE [] w v0 78 enc_impl_Point p0_a) (hS1 : SlE [] w v1 78 enc_impl_Point p1_b) (h0 : laws_eqCurve.f p0_a p1_b = some r) :
    Calls Try.prog 40 #[v0, v1] w (fun e w' => ∃ _ : Unit, e = .returned (.bool r) ∧ Own [] w w' []) := by
  unfold laws_eqCurve.f at h0
  replace h0 := B.top h0
  refine calls_of_J (args := [v0, v1]) Try.func40 rfl Try.ntmps40 rfl [(0, v0), (1, v1)] rfl H0 ?_
  refine J.seq ?_
  refine J.region ?_
  refine J.op rfl rfl rfl (V.as rfl rfl) ?_
  refine J.nil ?_
  refine J.tN ?_
  refine J.seq ?_
  refine J.seq ?_
  refine J.region ?_
  refine J.op rfl rfl rfl (V.mv rfl rfl) ?_
  refine J.op rfl rfl rfl (V.lenS hS0 rfl rfl tl40) ?_
  refine J.op rfl rfl rfl (V.mv rfl rfl) ?_
  refine J.op rfl rfl rfl (V.lenS hS1 rfl rfl tl40) ?_
  refine J.op rfl rfl rfl (V.cmp rfl rfl rfl rfl) ?_
  refine J.nil ?_
  refine J.tN ?_
  refine J.cond rfl (fun hB1 => ?_) (fun hB1 => ?_)
  · replace h0 := B.t hB1 h0
    refine J.seq ?_
    refine J.region ?_
    refine J.op rfl rfl rfl (V.as rfl rfl) ?_
    refine J.nil ?_
    refine J.tN ?_
    refine J.ret ?_
    refine J.tR ?_
    obtain rfl := B.e h0
    exact J.ret1 rfl rfl fun w H => ⟨(), rfl, H.pick [] (by decide)⟩
  · replace h0 := B.f hB1 h0
    refine J.skip ?_
    refine J.tN ?_
    refine J.seq ?_
    refine J.seq ?_
    refine J.region ?_
    refine J.op rfl rfl rfl (V.as rfl rfl) ?_
    refine J.nil ?_
    refine J.tN ?_
    obtain ⟨o16, hy15, h0⟩ := B.bind h0
    refine J.cutQ (γ := (Unit) × (Unit)) (fun gy14 => o16 = .inl gy14.1) (fun gy14 => []) (fun gy14 => []) ?_ ?_
    · refine J.block ?_
      refine J.loop (γ := Unit) hy15 (fun s2 g3 => [(0, v0), (1, v1), (5, .int .i64 s2)]) (fun s2 g3 => []) () ?_ ?_
      · exact J.keep _ rfl (J.pickE [] rfl rfl J.here)
      · intro rec4 s2 g3 h1
        unfold laws_eqCurve.b1 at h1
        refine J.seq ?_
        refine J.seq ?_
        refine J.region ?_
        refine J.op rfl rfl rfl (V.mv rfl rfl) ?_
        refine J.op rfl rfl rfl (V.mv rfl rfl) ?_
        refine J.op rfl rfl rfl (V.lenS hS0 rfl rfl tl40) ?_
        refine J.op rfl rfl rfl (V.cmp rfl rfl rfl rfl) ?_
        refine J.nil ?_
        refine J.tN ?_
        refine J.cond rfl (fun hB5 => ?_) (fun hB5 => ?_)
        · replace h1 := B.t hB5 h1
          refine J.skip ?_
          refine J.tN ?_
          refine J.seq ?_
          refine J.block ?_
          refine J.seq ?_
          refine J.quiet mixed (by kernel_rfl) ?_
          refine JQ.op rfl rfl rfl (V.mv rfl rfl) ?_
          refine JQ.op rfl rfl rfl (V.mv rfl rfl) ?_
          obtain ⟨hC6, h1⟩ := B.chk h1
          refine JQ.op rfl rfl rfl (V.ixS hS0 rfl rfl rfl tl40 ts78 hC6) ?_
          refine JQ.op rfl rfl rfl (V.elSA hS0 hC6 rfl rfl ts78 ta78) ?_
          refine JQ.op rfl rfl rfl (V.mv rfl rfl) ?_
          refine JQ.op rfl rfl rfl (V.mv rfl rfl) ?_
          obtain ⟨hC7, h1⟩ := B.chk h1
          refine JQ.op rfl rfl rfl (V.ixS hS1 rfl rfl rfl tl40 ts78 hC7) ?_
          refine JQ.op rfl rfl rfl (V.elSA hS1 hC7 rfl rfl ts78 ta78) ?_
          obtain ⟨r8, hr9, h1⟩ := B.bind h1
          refine JQ.clA (l := [.tmp 20, .tmp 24]) cf73 (wN rfl) rfl rfl rfl rfl rfl (fun w H => laws_eqPoint.calls (⟨(rd enc_impl_Point p0_a s2).X, (rd enc_impl_Point p0_a s2).Y⟩ : impl_Point) (⟨(rd enc_impl_Point p1_b s2).X, (rd enc_impl_Point p1_b s2).Y⟩ : impl_Point) r8 w (Own.refl w)  hr9) ?_
          refine JQ.op rfl rfl rfl (V.nt rfl rfl) ?_
          refine JQ.nil ?_
          refine J.tN ?_
          refine J.cond rfl (fun hB11 => ?_) (fun hB11 => ?_)
          · replace h1 := B.t hB11 h1
            refine J.seq ?_
            refine J.region ?_
            refine J.op rfl rfl rfl (V.as rfl rfl) ?_
            refine J.nil ?_
            refine J.tN ?_
            refine J.ret ?_
            refine J.bR ?_
            refine J.tR ?_
            refine J.tR ?_
            refine J.bR ?_
            refine J.tR ?_
            refine J.tR ?_
            obtain rfl := B.d h1
            replace h0 := B.inr h0
            obtain rfl := B.e h0
            exact J.ret1 rfl rfl fun w H => ⟨(), rfl, H.pick [] (by decide)⟩
          · replace h1 := B.f hB11 h1
            refine J.skip ?_
            refine J.bN ?_
            refine J.tN ?_
            refine J.region ?_
            refine J.op rfl rfl rfl (V.mv rfl rfl) ?_
            refine J.op rfl rfl rfl (V.ar rfl rfl rfl rfl) ?_
            refine J.op rfl rfl rfl (V.as rfl rfl) ?_
            obtain ⟨i_12, ei_12, h1⟩ := B.lt h1
            refine J.val (congrArg (Value.int .i64) ei_12) ?_
            refine J.nil ?_
            refine J.tN (J.next i_12 () (B.n h1) ?_)
            exact J.keep _ rfl (J.pickE [] rfl rfl J.here)
        · replace h1 := B.f hB5 h1
          refine J.exit ?_
          refine J.tE ?_
          refine J.tE ?_
          refine J.bE ?_
          obtain rfl := B.d h1
          refine J.tN (J.to ((), ()) rfl ?_)
          exact J.keep _ rfl (J.pickE [] rfl rfl J.here)
    · intro gy14 hG
      replace h0 := B.inl hG h0
      refine J.tN ?_
      refine J.seq ?_
      refine J.region ?_
      refine J.op rfl rfl rfl (V.as rfl rfl) ?_
      refine J.nil ?_
      refine J.tN ?_
      refine J.ret ?_
      obtain rfl := B.e h0
      exact J.ret1 rfl rfl fun w H => ⟨(), rfl, H.pick [] (by decide)⟩

/-! ### laws.eqCurveS: function 10 -/
noncomputable def laws_eqCurveS.b1 (p0_a : (List (List impl_Point))) (p1_b : (List (List impl_Point))) : Int → Option (Step (Int) (Sum (Unit) (Bool))) := fun s2 => bif (decide (s2 < (p0_a.length : Int))) then (bif (inB s2 p0_a.length) then (bif (inB s2 p1_b.length) then ((laws_eqCurve.f (rdN p0_a s2) (rdN p1_b s2)).bind fun r14 => bif (!r14) then (some (.done (.inr false))) else ((some (IntKind.wrap .i64 (s2 + 1))).bind fun i_18 => some (.next i_18))) else none) else none) else (some (.done (.inl ())))
noncomputable def laws_eqCurveS.f (p0_a : (List (List impl_Point))) (p1_b : (List (List impl_Point))) : Option (Bool) := bif ((p0_a.length : Int) != (p1_b.length : Int)) then (some false) else ((loopW (laws_eqCurveS.b1 p0_a p1_b) 0).bind (Sum.elim (fun y20 => some true) (fun r => some r)))
set_option maxRecDepth 100000 in
theorem laws_eqCurveS.calls (v0 : Value) (p0_a : (List (List impl_Point))) (v1 : Value) (p1_b : (List (List impl_Point))) (r : Bool) (w : World) (H0 : Own [] w w []) (hS0 : SlN [] w v0 40 78 enc_impl_Point p0_a) (hS1 : SlN [] w v1 40 78 enc_impl_Point p1_b) (h0 : laws_eqCurveS.f p0_a p1_b = some r) :
    Calls Try.prog 10 #[v0, v1] w (fun e w' => ∃ _ : Unit, e = .returned (.bool r) ∧ Own [] w w' []) := by
  unfold laws_eqCurveS.f at h0
  replace h0 := B.top h0
  refine calls_of_J (args := [v0, v1]) Try.func10 rfl Try.ntmps10 rfl [(0, v0), (1, v1)] rfl H0 ?_
  obtain ⟨us0_, hN0, hE0⟩ := id hS0
  obtain ⟨us1_, hN1, hE1⟩ := id hS1
  refine J.seq ?_
  refine J.region ?_
  refine J.op rfl rfl rfl (V.as rfl rfl) ?_
  refine J.nil ?_
  refine J.tN ?_
  refine J.seq ?_
  refine J.seq ?_
  refine J.region ?_
  refine J.op rfl rfl rfl (V.mv rfl rfl) ?_
  refine J.op rfl rfl rfl (V.lenS hN0 rfl rfl tl26) ?_
  refine J.op rfl rfl rfl (V.mv rfl rfl) ?_
  refine J.op rfl rfl rfl (V.lenS hN1 rfl rfl tl26) ?_
  refine J.op rfl rfl rfl (V.cmp rfl rfl rfl rfl) ?_
  refine J.nil ?_
  refine J.tN ?_
  refine J.cond rfl (fun hB1 => ?_) (fun hB1 => ?_)
  · replace h0 := B.t hB1 h0
    refine J.seq ?_
    refine J.region ?_
    refine J.op rfl rfl rfl (V.as rfl rfl) ?_
    refine J.nil ?_
    refine J.tN ?_
    refine J.ret ?_
    refine J.tR ?_
    obtain rfl := B.e h0
    exact J.ret1 rfl rfl fun w H => ⟨(), rfl, H.pick [] (by decide)⟩
  · replace h0 := B.f hB1 h0
    refine J.skip ?_
    refine J.tN ?_
    refine J.seq ?_
    refine J.seq ?_
    refine J.region ?_
    refine J.op rfl rfl rfl (V.as rfl rfl) ?_
    refine J.nil ?_
    refine J.tN ?_
    obtain ⟨o22, hy21, h0⟩ := B.bind h0
    refine J.cutQ (γ := (Unit) × (Unit)) (fun gy20 => o22 = .inl gy20.1) (fun gy20 => []) (fun gy20 => []) ?_ ?_
    · refine J.block ?_
      refine J.loop (γ := Unit) hy21 (fun s2 g3 => [(0, v0), (1, v1), (5, .int .i64 s2)]) (fun s2 g3 => []) () ?_ ?_
      · exact J.keep _ rfl (J.pickE [] rfl rfl J.here)
      · intro rec4 s2 g3 h1
        unfold laws_eqCurveS.b1 at h1
        refine J.seq ?_
        refine J.seq ?_
        refine J.region ?_
        refine J.op rfl rfl rfl (V.mv rfl rfl) ?_
        refine J.op rfl rfl rfl (V.mv rfl rfl) ?_
        refine J.op rfl rfl rfl (V.lenS hN0 rfl rfl tl26) ?_
        refine J.op rfl rfl rfl (V.cmp rfl rfl rfl rfl) ?_
        refine J.nil ?_
        refine J.tN ?_
        refine J.cond rfl (fun hB5 => ?_) (fun hB5 => ?_)
        · replace h1 := B.t hB5 h1
          refine J.skip ?_
          refine J.tN ?_
          refine J.seq ?_
          refine J.block ?_
          refine J.seq ?_
          refine J.quiet mixed (by kernel_rfl) ?_
          refine JQ.op rfl rfl rfl (V.mv rfl rfl) ?_
          refine JQ.op rfl rfl rfl (V.mv rfl rfl) ?_
          obtain ⟨hC6, h1⟩ := B.chk h1
          refine JQ.op rfl rfl rfl (V.ixS hN0 rfl rfl rfl tl26 ts40 hC6) ?_
          obtain ⟨u7, hu8, hS9⟩ := hE0 _ hC6
          refine JQ.op rfl rfl rfl (V.nld hN0 hC6 hu8 rfl rfl Try.underlying40 ta40) ?_
          refine JQ.op rfl rfl rfl (V.mv rfl rfl) ?_
          refine JQ.op rfl rfl rfl (V.mv rfl rfl) ?_
          obtain ⟨hC10, h1⟩ := B.chk h1
          refine JQ.op rfl rfl rfl (V.ixS hN1 rfl rfl rfl tl26 ts40 hC10) ?_
          obtain ⟨u11, hu12, hS13⟩ := hE1 _ hC10
          refine JQ.op rfl rfl rfl (V.nld hN1 hC10 hu12 rfl rfl Try.underlying40 ta40) ?_
          obtain ⟨r14, hr15, h1⟩ := B.bind h1
          refine JQ.clA (l := [.tmp 20, .tmp 24]) cf40 (wN rfl) rfl rfl rfl rfl rfl (fun w H => laws_eqCurve.calls u7 (rdN p0_a s2) u11 (rdN p1_b s2) r14 w (Own.refl w) (Sl.laterA hS9 H) (Sl.laterA hS13 H) hr15) ?_
          refine JQ.op rfl rfl rfl (V.nt rfl rfl) ?_
          refine JQ.nil ?_
          refine J.tN ?_
          refine J.cond rfl (fun hB17 => ?_) (fun hB17 => ?_)
          · replace h1 := B.t hB17 h1
            refine J.seq ?_
            refine J.region ?_
            refine J.op rfl rfl rfl (V.as rfl rfl) ?_
            refine J.nil ?_
            refine J.tN ?_
            refine J.ret ?_
            refine J.bR ?_
            refine J.tR ?_
            refine J.tR ?_
            refine J.bR ?_
            refine J.tR ?_
            refine J.tR ?_
            obtain rfl := B.d h1
            replace h0 := B.inr h0
            obtain rfl := B.e h0
            exact J.ret1 rfl rfl fun w H => ⟨(), rfl, H.pick [] (by decide)⟩
          · replace h1 := B.f hB17 h1
            refine J.skip ?_
            refine J.bN ?_
            refine J.tN ?_
            refine J.region ?_
            refine J.op rfl rfl rfl (V.mv rfl rfl) ?_
            refine J.op rfl rfl rfl (V.ar rfl rfl rfl rfl) ?_
            refine J.op rfl rfl rfl (V.as rfl rfl) ?_
            obtain ⟨i_18, ei_18, h1⟩ := B.lt h1
            refine J.val (congrArg (Value.int .i64) ei_18) ?_
            refine J.nil ?_
            refine J.tN (J.next i_18 () (B.n h1) ?_)
            exact J.keep _ rfl (J.pickE [] rfl rfl J.here)
        · replace h1 := B.f hB5 h1
          refine J.exit ?_
          refine J.tE ?_
          refine J.tE ?_
          refine J.bE ?_
          obtain rfl := B.d h1
          refine J.tN (J.to ((), ()) rfl ?_)
          exact J.keep _ rfl (J.pickE [] rfl rfl J.here)
    · intro gy20 hG
      replace h0 := B.inl hG h0
      refine J.tN ?_
      refine J.seq ?_
      refine J.region ?_
      refine J.op rfl rfl rfl (V.as rfl rfl) ?_
      refine J.nil ?_
      refine J.tN ?_
      refine J.ret ?_
      obtain rfl := B.e h0
      exact J.ret1 rfl rfl fun w H => ⟨(), rfl, H.pick [] (by decide)⟩

/-! ### laws.FnExactBestGrade: function 3 -/
noncomputable def laws_FnExactBestGrade.f (p0_aGrades : (List (List laws_Point))) (p1_aThin : Int) (p2_aThick : Int) (p3_aDark : Int) (p4_aLight : Int) : Option (Bool) := (laws_szCurveS.f p0_aGrades 1048576).bind fun r1 => bif (decide (r1 < 0)) then (some true) else ((laws_toCurveS.f p0_aGrades).bind fun r5 => (spec_BestGrade.f r5 p1_aThin p2_aThick p3_aDark p4_aLight).bind fun r9 => (laws_toCurveS.f p0_aGrades).bind fun r12 => (impl_BestGrade.f r12 p1_aThin p2_aThick p3_aDark p4_aLight).bind fun r16 => (bif (r16.1 != r9.1) then (some true) else (bif (r16.2.1 != r9.2.1) then (some true) else (bif (r16.2.2.1 != r9.2.2.1) then (some true) else (some (r16.2.2.2 != r9.2.2.2)))) : Option (Bool)).bind fun y19 => bif y19 then (some false) else ((laws_toCurveS.f p0_aGrades).bind fun r26 => (laws_eqCurveS.f r12 r26).bind fun r30 => bif (!r30) then (some false) else (some true)))
set_option maxRecDepth 100000 in
theorem laws_FnExactBestGrade.calls (v0 : Value) (p0_aGrades : (List (List laws_Point))) (p1_aThin : Int) (p2_aThick : Int) (p3_aDark : Int) (p4_aLight : Int) (r : Bool) (w : World) (H0 : Own [] w w []) (hS0 : SlN [] w v0 52 80 enc_laws_Point p0_aGrades) (h0 : laws_FnExactBestGrade.f p0_aGrades p1_aThin p2_aThick p3_aDark p4_aLight = some r) :
    Calls Try.prog 3 #[v0, .int .i64 p1_aThin, .int .i64 p2_aThick, .int .i64 p3_aDark, .int .i64 p4_aLight] w (fun e w' => ∃ _ : Unit, e = .returned (.bool r) ∧ Own [] w w' []) := by
  unfold laws_FnExactBestGrade.f at h0
  replace h0 := B.top h0
  refine calls_of_J (args := [v0, .int .i64 p1_aThin, .int .i64 p2_aThick, .int .i64 p3_aDark, .int .i64 p4_aLight]) Try.func3 rfl Try.ntmps3 rfl [(0, v0), (1, .int .i64 p1_aThin), (2, .int .i64 p2_aThick), (3, .int .i64 p3_aDark), (4, .int .i64 p4_aLight)] rfl H0 ?_
  obtain ⟨us0_, hN0, hE0⟩ := id hS0
  refine J.seq ?_
  refine J.region ?_
  refine J.op rfl rfl rfl (V.as rfl rfl) ?_
  refine J.nil ?_
  refine J.tN ?_
  refine J.seq ?_
  refine J.region ?_
  refine J.op rfl rfl rfl (V.as rfl rfl) ?_
  refine J.nil ?_
  refine J.tN ?_
  refine J.seq ?_
  refine J.region ?_
  refine J.op rfl rfl rfl (V.mv rfl rfl) ?_
  refine J.op rfl rfl rfl (V.mv rfl rfl) ?_
  obtain ⟨r1, hr2, h0⟩ := B.bind h0
  refine J.clA (l := [.tmp 21, .tmp 22]) [] [] cf6 (wN rfl) rfl rfl rfl rfl rfl rfl (fun w H => laws_szCurveS.calls v0 p0_aGrades 1048576 r1 w (Own.refl w) (SlN.laterA hS0 H) hr2) fun g3 => ?_
  refine J.op rfl rfl rfl (V.as rfl rfl) ?_
  refine J.nil ?_
  refine J.tN ?_
  refine J.seq ?_
  refine J.seq ?_
  refine J.region ?_
  refine J.op rfl rfl rfl (V.mv rfl rfl) ?_
  refine J.op rfl rfl rfl (V.cmp rfl rfl rfl rfl) ?_
  refine J.nil ?_
  refine J.tN ?_
  refine J.cond rfl (fun hB4 => ?_) (fun hB4 => ?_)
  · replace h0 := B.t hB4 h0
    refine J.seq ?_
    refine J.region ?_
    refine J.op rfl rfl rfl (V.as rfl rfl) ?_
    refine J.nil ?_
    refine J.tN ?_
    refine J.ret ?_
    refine J.tR ?_
    obtain rfl := B.e h0
    exact J.ret1 rfl rfl fun w H => ⟨(), rfl, H.pick [] (by decide)⟩
  · replace h0 := B.f hB4 h0
    refine J.skip ?_
    refine J.tN ?_
    refine J.seq ?_
    refine J.region ?_
    refine J.op rfl rfl rfl (V.mv rfl rfl) ?_
    obtain ⟨r5, hr6, h0⟩ := B.bind h0
    refine J.clA (l := [.tmp 27]) [] [] cf8 (wN rfl) rfl rfl rfl rfl rfl rfl (fun w H => laws_toCurveS.calls v0 p0_aGrades r5 w (Own.refl w) (SlN.laterA hS0 H) hr6) fun g7 => ?_
    refine J.op rfl rfl rfl (V.mv rfl rfl) ?_
    refine J.op rfl rfl rfl (V.mv rfl rfl) ?_
    refine J.op rfl rfl rfl (V.mv rfl rfl) ?_
    refine J.op rfl rfl rfl (V.mv rfl rfl) ?_
    obtain ⟨r9, hr10, h0⟩ := B.bind h0
    refine J.clA (l := [.tmp 28, .tmp 29, .tmp 30, .tmp 31, .tmp 32]) [] [.nestE g7.1 40 78 enc_impl_Point g7.2 r5] cf7 (wN rfl) rfl rfl rfl rfl rfl rfl (fun w H => spec_BestGrade.calls g7.1 r5 p1_aThin p2_aThick p3_aDark p4_aLight r9 w (Own.refl w) (Own.nA 0 H rfl) hr10) fun g11 => ?_
    refine J.op rfl rfl rfl (V.mv rfl rfl) ?_
    refine J.op rfl rfl rfl (V.ex rfl rfl rfl) ?_
    refine J.op rfl rfl rfl (V.ex rfl rfl rfl) ?_
    refine J.op rfl rfl rfl (V.ex rfl rfl rfl) ?_
    refine J.op rfl rfl rfl (V.ex rfl rfl rfl) ?_
    refine J.op rfl rfl rfl (V.as rfl rfl) ?_
    refine J.op rfl rfl rfl (V.as rfl rfl) ?_
    refine J.op rfl rfl rfl (V.as rfl rfl) ?_
    refine J.op rfl rfl rfl (V.as rfl rfl) ?_
    refine J.nil ?_
    refine J.tN ?_
    refine J.seq ?_
    refine J.region ?_
    refine J.op rfl rfl rfl (V.mv rfl rfl) ?_
    obtain ⟨r12, hr13, h0⟩ := B.bind h0
    refine J.clA (l := [.tmp 38]) [] [.nestE g7.1 40 78 enc_impl_Point g7.2 r5] cf8 (wN rfl) rfl rfl rfl rfl rfl rfl (fun w H => laws_toCurveS.calls v0 p0_aGrades r12 w (Own.refl w) (SlN.laterA hS0 H) hr13) fun g14 => ?_
    refine J.op rfl rfl rfl (V.as rfl rfl) ?_
    refine J.nil ?_
    refine J.tN ?_
    refine J.seq ?_
    refine J.region ?_
    refine J.op rfl rfl rfl (V.mv rfl rfl) ?_
    refine J.op rfl rfl rfl (V.mv rfl rfl) ?_
    refine J.op rfl rfl rfl (V.mv rfl rfl) ?_
    refine J.op rfl rfl rfl (V.mv rfl rfl) ?_
    refine J.op rfl rfl rfl (V.mv rfl rfl) ?_
    obtain ⟨r16, hr17, h0⟩ := B.bind h0
    refine J.clA (l := [.tmp 41, .tmp 42, .tmp 43, .tmp 44, .tmp 45]) [] [.nestE g14.1 40 78 enc_impl_Point g14.2 r12, .nestE g7.1 40 78 enc_impl_Point g7.2 r5] cf9 (wN rfl) rfl rfl rfl rfl rfl rfl (fun w H => impl_BestGrade.calls g14.1 r12 p1_aThin p2_aThick p3_aDark p4_aLight r16 w (Own.refl w) (Own.nA 0 H rfl) hr17) fun g18 => ?_
    refine J.op rfl rfl rfl (V.mv rfl rfl) ?_
    refine J.op rfl rfl rfl (V.ex rfl rfl rfl) ?_
    refine J.op rfl rfl rfl (V.ex rfl rfl rfl) ?_
    refine J.op rfl rfl rfl (V.ex rfl rfl rfl) ?_
    refine J.op rfl rfl rfl (V.ex rfl rfl rfl) ?_
    refine J.op rfl rfl rfl (V.as rfl rfl) ?_
    refine J.op rfl rfl rfl (V.as rfl rfl) ?_
    refine J.op rfl rfl rfl (V.as rfl rfl) ?_
    refine J.op rfl rfl rfl (V.as rfl rfl) ?_
    refine J.nil ?_
    refine J.tN ?_
    refine J.seq ?_
    refine J.seq ?_
    obtain ⟨y19, hy24, h0⟩ := B.bind h0
    replace hy24 := B.top hy24
    refine J.cut (γ := Unit) (fun _ => True) (fun gy20 => [(0, v0), (16, g14.1), (68, .bool y19)]) (fun gy20 => [.nestE g14.1 40 78 enc_impl_Point g14.2 r12, .nestE g7.1 40 78 enc_impl_Point g7.2 r5]) ?_ ?_
    · have h1 := hy24
      refine J.region ?_
      refine J.op rfl rfl rfl (V.mv rfl rfl) ?_
      refine J.op rfl rfl rfl (V.mv rfl rfl) ?_
      refine J.op rfl rfl rfl (V.cmp rfl rfl rfl rfl) ?_
      refine J.op rfl rfl rfl (V.mv rfl rfl) ?_
      refine J.split 54 rfl (fun hB21 => ?_) (fun hB21 => ?_)
      · replace h1 := B.t hB21 h1
        refine J.opOff rfl rfl rfl rfl rfl rfl ?_
        refine J.opOff rfl rfl rfl rfl rfl rfl ?_
        refine J.opOff rfl rfl rfl rfl rfl rfl ?_
        refine J.op rfl rfl rfl (V.pkT rfl rfl rfl) ?_
        refine J.op rfl rfl rfl (V.mv rfl rfl) ?_
        refine J.opOff rfl rfl rfl rfl rfl rfl ?_
        refine J.opOff rfl rfl rfl rfl rfl rfl ?_
        refine J.opOff rfl rfl rfl rfl rfl rfl ?_
        refine J.op rfl rfl rfl (V.pkT rfl rfl rfl) ?_
        refine J.op rfl rfl rfl (V.mv rfl rfl) ?_
        refine J.opOff rfl rfl rfl rfl rfl rfl ?_
        refine J.opOff rfl rfl rfl rfl rfl rfl ?_
        refine J.opOff rfl rfl rfl rfl rfl rfl ?_
        refine J.op rfl rfl rfl (V.pkT rfl rfl rfl) ?_
        refine J.nil ?_
        obtain rfl := B.e h1
        refine J.tN (J.to () trivial ?_)
        exact J.keep _ rfl (J.pickE [0, 1] rfl rfl J.here)
      · replace h1 := B.f hB21 h1
        refine J.opOn rfl rfl rfl rfl rfl (V.mv rfl rfl) ?_
        refine J.opOn rfl rfl rfl rfl rfl (V.mv rfl rfl) ?_
        refine J.opOn rfl rfl rfl rfl rfl (V.cmp rfl rfl rfl rfl) ?_
        refine J.op rfl rfl rfl (V.pkF rfl rfl rfl) ?_
        refine J.op rfl rfl rfl (V.mv rfl rfl) ?_
        refine J.split 59 rfl (fun hB22 => ?_) (fun hB22 => ?_)
        · replace h1 := B.t hB22 h1
          refine J.opOff rfl rfl rfl rfl rfl rfl ?_
          refine J.opOff rfl rfl rfl rfl rfl rfl ?_
          refine J.opOff rfl rfl rfl rfl rfl rfl ?_
          refine J.op rfl rfl rfl (V.pkT rfl rfl rfl) ?_
          refine J.op rfl rfl rfl (V.mv rfl rfl) ?_
          refine J.opOff rfl rfl rfl rfl rfl rfl ?_
          refine J.opOff rfl rfl rfl rfl rfl rfl ?_
          refine J.opOff rfl rfl rfl rfl rfl rfl ?_
          refine J.op rfl rfl rfl (V.pkT rfl rfl rfl) ?_
          refine J.nil ?_
          obtain rfl := B.e h1
          refine J.tN (J.to () trivial ?_)
          exact J.keep _ rfl (J.pickE [0, 1] rfl rfl J.here)
        · replace h1 := B.f hB22 h1
          refine J.opOn rfl rfl rfl rfl rfl (V.mv rfl rfl) ?_
          refine J.opOn rfl rfl rfl rfl rfl (V.mv rfl rfl) ?_
          refine J.opOn rfl rfl rfl rfl rfl (V.cmp rfl rfl rfl rfl) ?_
          refine J.op rfl rfl rfl (V.pkF rfl rfl rfl) ?_
          refine J.op rfl rfl rfl (V.mv rfl rfl) ?_
          refine J.split 64 rfl (fun hB23 => ?_) (fun hB23 => ?_)
          · replace h1 := B.t hB23 h1
            refine J.opOff rfl rfl rfl rfl rfl rfl ?_
            refine J.opOff rfl rfl rfl rfl rfl rfl ?_
            refine J.opOff rfl rfl rfl rfl rfl rfl ?_
            refine J.op rfl rfl rfl (V.pkT rfl rfl rfl) ?_
            refine J.nil ?_
            obtain rfl := B.e h1
            refine J.tN (J.to () trivial ?_)
            exact J.keep _ rfl (J.pickE [0, 1] rfl rfl J.here)
          · replace h1 := B.f hB23 h1
            refine J.opOn rfl rfl rfl rfl rfl (V.mv rfl rfl) ?_
            refine J.opOn rfl rfl rfl rfl rfl (V.mv rfl rfl) ?_
            refine J.opOn rfl rfl rfl rfl rfl (V.cmp rfl rfl rfl rfl) ?_
            refine J.op rfl rfl rfl (V.pkF rfl rfl rfl) ?_
            refine J.nil ?_
            obtain rfl := B.e h1
            refine J.tN (J.to () trivial ?_)
            exact J.keep _ rfl (J.pickE [0, 1] rfl rfl J.here)
    · intro gy20 _
      refine J.cond rfl (fun hB25 => ?_) (fun hB25 => ?_)
      · replace h0 := B.t hB25 h0
        refine J.seq ?_
        refine J.region ?_
        refine J.op rfl rfl rfl (V.as rfl rfl) ?_
        refine J.nil ?_
        refine J.tN ?_
        refine J.ret ?_
        refine J.tR ?_
        obtain rfl := B.e h0
        exact J.ret1 rfl rfl fun w H => ⟨(), rfl, H.pick [] (by decide)⟩
      · replace h0 := B.f hB25 h0
        refine J.skip ?_
        refine J.tN ?_
        refine J.seq ?_
        refine J.seq ?_
        refine J.region ?_
        refine J.op rfl rfl rfl (V.mv rfl rfl) ?_
        refine J.op rfl rfl rfl (V.mv rfl rfl) ?_
        obtain ⟨r26, hr27, h0⟩ := B.bind h0
        refine J.clA (l := [.tmp 70]) [] [.nestE g14.1 40 78 enc_impl_Point g14.2 r12, .nestE g7.1 40 78 enc_impl_Point g7.2 r5] cf8 (wN rfl) rfl rfl rfl rfl rfl rfl (fun w H => laws_toCurveS.calls v0 p0_aGrades r26 w (Own.refl w) (SlN.laterA hS0 H) hr27) fun g28 => ?_
        obtain ⟨r30, hr31, h0⟩ := B.bind h0
        refine J.clA (l := [.tmp 69, .tmp 71]) [] [.nestE g28.1 40 78 enc_impl_Point g28.2 r26, .nestE g14.1 40 78 enc_impl_Point g14.2 r12, .nestE g7.1 40 78 enc_impl_Point g7.2 r5] cf10 (wN rfl) rfl rfl rfl rfl rfl rfl (fun w H => laws_eqCurveS.calls g14.1 r12 g28.1 r26 r30 w (Own.refl w) (Own.nA 1 H rfl) (Own.nA 0 H rfl) hr31) fun g32 => ?_
        refine J.op rfl rfl rfl (V.nt rfl rfl) ?_
        refine J.nil ?_
        refine J.tN ?_
        refine J.cond rfl (fun hB33 => ?_) (fun hB33 => ?_)
        · replace h0 := B.t hB33 h0
          refine J.seq ?_
          refine J.region ?_
          refine J.op rfl rfl rfl (V.as rfl rfl) ?_
          refine J.nil ?_
          refine J.tN ?_
          refine J.ret ?_
          refine J.tR ?_
          obtain rfl := B.e h0
          exact J.ret1 rfl rfl fun w H => ⟨(), rfl, H.pick [] (by decide)⟩
        · replace h0 := B.f hB33 h0
          refine J.skip ?_
          refine J.tN ?_
          refine J.seq ?_
          refine J.region ?_
          refine J.op rfl rfl rfl (V.as rfl rfl) ?_
          refine J.nil ?_
          refine J.tN ?_
          refine J.ret ?_
          obtain rfl := B.e h0
          exact J.ret1 rfl rfl fun w H => ⟨(), rfl, H.pick [] (by decide)⟩

/-! ### spec.l05Ends: function 41 -/
noncomputable def spec_l05Ends.f (p0_light : Int) (p1_dark : Int) : Option (Bool) := (spec_l02Density.f p0_light).bind fun r1 => bif r1 then ((spec_l02Density.f p1_dark).bind fun r5 => bif r5 then ((some (decide (p0_light < p1_dark))).bind fun t9 => some t9) else (some false)) else (some false)
set_option maxRecDepth 100000 in
theorem spec_l05Ends.calls (p0_light : Int) (p1_dark : Int) (r : Bool) (w : World) (H0 : Own [] w w []) (h0 : spec_l05Ends.f p0_light p1_dark = some r) :
    Calls Try.prog 41 #[.int .i64 p0_light, .int .i64 p1_dark] w (fun e w' => ∃ _ : Unit, e = .returned (.bool r) ∧ Own [] w w' []) := by
  unfold spec_l05Ends.f at h0
  replace h0 := B.top h0
  refine calls_of_J (args := [.int .i64 p0_light, .int .i64 p1_dark]) Try.func41 rfl Try.ntmps41 rfl [(0, .int .i64 p0_light), (1, .int .i64 p1_dark)] rfl H0 ?_
  refine J.seq ?_
  refine J.region ?_
  refine J.op rfl rfl rfl (V.as rfl rfl) ?_
  refine J.nil ?_
  refine J.tN ?_
  refine J.seq ?_
  refine J.region ?_
  refine J.op rfl rfl rfl (V.mv rfl rfl) ?_
  obtain ⟨r1, hr2, h0⟩ := B.bind h0
  refine J.clA (l := [.tmp 5]) [] [] cf65 (wN rfl) rfl rfl rfl rfl rfl rfl (fun w H => spec_l02Density.calls p0_light r1 w (Own.refl w)  hr2) fun g3 => ?_
  refine J.op rfl rfl rfl (V.mv rfl rfl) ?_
  refine J.split 7 rfl (fun hB4 => ?_) (fun hB4 => ?_)
  · replace h0 := B.t hB4 h0
    refine J.opOn rfl rfl rfl rfl rfl (V.mv rfl rfl) ?_
    obtain ⟨r5, hr6, h0⟩ := B.bind h0
    refine J.clA (l := [.tmp 8]) [] [] cf65 (wY rfl rfl rfl) rfl rfl rfl rfl rfl rfl (fun w H => spec_l02Density.calls p1_dark r5 w (Own.refl w)  hr6) fun g7 => ?_
    refine J.op rfl rfl rfl (V.pkT rfl rfl rfl) ?_
    refine J.op rfl rfl rfl (V.mv rfl rfl) ?_
    refine J.split 11 rfl (fun hB8 => ?_) (fun hB8 => ?_)
    · replace h0 := B.t hB8 h0
      refine J.opOn rfl rfl rfl rfl rfl (V.mv rfl rfl) ?_
      refine J.opOn rfl rfl rfl rfl rfl (V.mv rfl rfl) ?_
      refine J.opOn rfl rfl rfl rfl rfl (V.cmp rfl rfl rfl rfl) ?_
      refine J.op rfl rfl rfl (V.pkT rfl rfl rfl) ?_
      refine J.op rfl rfl rfl (V.as rfl rfl) ?_
      obtain ⟨t9, et9, h0⟩ := B.lt h0
      refine J.val (congrArg (Value.bool) et9) ?_
      refine J.nil ?_
      refine J.tN ?_
      refine J.ret ?_
      obtain rfl := B.e h0
      exact J.ret1 rfl rfl fun w H => ⟨(), rfl, H.pick [] (by decide)⟩
    · replace h0 := B.f hB8 h0
      refine J.opOff rfl rfl rfl rfl rfl rfl ?_
      refine J.opOff rfl rfl rfl rfl rfl rfl ?_
      refine J.opOff rfl rfl rfl rfl rfl rfl ?_
      refine J.op rfl rfl rfl (V.pkF rfl rfl rfl) ?_
      refine J.op rfl rfl rfl (V.as rfl rfl) ?_
      refine J.nil ?_
      refine J.tN ?_
      refine J.ret ?_
      obtain rfl := B.e h0
      exact J.ret1 rfl rfl fun w H => ⟨(), rfl, H.pick [] (by decide)⟩
  · replace h0 := B.f hB4 h0
    refine J.opOff rfl rfl rfl rfl rfl rfl ?_
    refine J.opOff rfl rfl rfl rfl rfl rfl ?_
    refine J.op rfl rfl rfl (V.pkF rfl rfl rfl) ?_
    refine J.op rfl rfl rfl (V.mv rfl rfl) ?_
    refine J.opOff rfl rfl rfl rfl rfl rfl ?_
    refine J.opOff rfl rfl rfl rfl rfl rfl ?_
    refine J.opOff rfl rfl rfl rfl rfl rfl ?_
    refine J.op rfl rfl rfl (V.pkF rfl rfl rfl) ?_
    refine J.op rfl rfl rfl (V.as rfl rfl) ?_
    refine J.nil ?_
    refine J.tN ?_
    refine J.ret ?_
    obtain rfl := B.e h0
    exact J.ret1 rfl rfl fun w H => ⟨(), rfl, H.pick [] (by decide)⟩

/-! ### spec.l02Dense: function 82 -/
noncomputable def spec_l02Dense.f (p0_c : (List impl_Point)) (p1_y : Int) : Option (Int) := (spec_l02Ok.f p0_c).bind fun r1 => bif (!r1) then (some 1) else ((spec_l02Density.f p1_y).bind fun r5 => bif (!r5) then (some 2) else (some 0))
set_option maxRecDepth 100000 in
theorem spec_l02Dense.calls (v0 : Value) (p0_c : (List impl_Point)) (p1_y : Int) (r : Int) (w : World) (H0 : Own [] w w []) (hS0 : SlE [] w v0 78 enc_impl_Point p0_c) (h0 : spec_l02Dense.f p0_c p1_y = some r) :
    Calls Try.prog 82 #[v0, .int .i64 p1_y] w (fun e w' => ∃ _ : Unit, e = .returned (.int .i64 r) ∧ Own [] w w' []) := by
  unfold spec_l02Dense.f at h0
  replace h0 := B.top h0
  refine calls_of_J (args := [v0, .int .i64 p1_y]) Try.func82 rfl Try.ntmps82 rfl [(0, v0), (1, .int .i64 p1_y)] rfl H0 ?_
  refine J.seq ?_
  refine J.region ?_
  refine J.op rfl rfl rfl (V.as rfl rfl) ?_
  refine J.nil ?_
  refine J.tN ?_
  refine J.seq ?_
  refine J.seq ?_
  refine J.region ?_
  refine J.op rfl rfl rfl (V.mv rfl rfl) ?_
  obtain ⟨r1, hr2, h0⟩ := B.bind h0
  refine J.clA (l := [.tmp 5]) [] [] cf55 (wN rfl) rfl rfl rfl rfl rfl rfl (fun w H => spec_l02Ok.calls v0 p0_c r1 w (Own.refl w) (Sl.laterA hS0 H) hr2) fun g3 => ?_
  refine J.op rfl rfl rfl (V.nt rfl rfl) ?_
  refine J.nil ?_
  refine J.tN ?_
  refine J.cond rfl (fun hB4 => ?_) (fun hB4 => ?_)
  · replace h0 := B.t hB4 h0
    refine J.seq ?_
    refine J.region ?_
    refine J.op rfl rfl rfl (V.as rfl rfl) ?_
    refine J.nil ?_
    refine J.tN ?_
    refine J.ret ?_
    refine J.tR ?_
    obtain rfl := B.e h0
    exact J.ret1 rfl rfl fun w H => ⟨(), rfl, H.pick [] (by decide)⟩
  · replace h0 := B.f hB4 h0
    refine J.skip ?_
    refine J.tN ?_
    refine J.seq ?_
    refine J.seq ?_
    refine J.region ?_
    refine J.op rfl rfl rfl (V.mv rfl rfl) ?_
    obtain ⟨r5, hr6, h0⟩ := B.bind h0
    refine J.clA (l := [.tmp 8]) [] [] cf65 (wN rfl) rfl rfl rfl rfl rfl rfl (fun w H => spec_l02Density.calls p1_y r5 w (Own.refl w)  hr6) fun g7 => ?_
    refine J.op rfl rfl rfl (V.nt rfl rfl) ?_
    refine J.nil ?_
    refine J.tN ?_
    refine J.cond rfl (fun hB8 => ?_) (fun hB8 => ?_)
    · replace h0 := B.t hB8 h0
      refine J.seq ?_
      refine J.region ?_
      refine J.op rfl rfl rfl (V.as rfl rfl) ?_
      refine J.nil ?_
      refine J.tN ?_
      refine J.ret ?_
      refine J.tR ?_
      obtain rfl := B.e h0
      exact J.ret1 rfl rfl fun w H => ⟨(), rfl, H.pick [] (by decide)⟩
    · replace h0 := B.f hB8 h0
      refine J.skip ?_
      refine J.tN ?_
      refine J.seq ?_
      refine J.region ?_
      refine J.op rfl rfl rfl (V.as rfl rfl) ?_
      refine J.nil ?_
      refine J.tN ?_
      refine J.ret ?_
      obtain rfl := B.e h0
      exact J.ret1 rfl rfl fun w H => ⟨(), rfl, H.pick [] (by decide)⟩

/-! ### spec.l02For: function 83 -/
noncomputable def spec_l02For.b1 (p0_c : (List impl_Point)) (p1_y : Int) : Int → Option (Step (Int) (Int)) := fun s1 => bif (decide (s1 ≤ 200)) then ((spec_l02At.f p0_c s1).bind fun r5 => bif (decide (r5 < p1_y)) then ((some (IntKind.wrap .i64 (s1 + 1))).bind fun x_9 => some (.next x_9)) else (some (.done s1))) else (some (.done s1))
noncomputable def spec_l02For.f (p0_c : (List impl_Point)) (p1_y : Int) : Option (Int) := (loopW (spec_l02For.b1 p0_c p1_y) (-200)).bind fun y10 => some y10
set_option maxRecDepth 100000 in
theorem spec_l02For.calls (v0 : Value) (p0_c : (List impl_Point)) (p1_y : Int) (r : Int) (w : World) (H0 : Own [] w w []) (hS0 : SlE [] w v0 78 enc_impl_Point p0_c) (h0 : spec_l02For.f p0_c p1_y = some r) :
    Calls Try.prog 83 #[v0, .int .i64 p1_y] w (fun e w' => ∃ _ : Unit, e = .returned (.int .i64 r) ∧ Own [] w w' []) := by
  unfold spec_l02For.f at h0
  replace h0 := B.top h0
  refine calls_of_J (args := [v0, .int .i64 p1_y]) Try.func83 rfl Try.ntmps83 rfl [(0, v0), (1, .int .i64 p1_y)] rfl H0 ?_
  refine J.seq ?_
  refine J.region ?_
  refine J.op rfl rfl rfl (V.as rfl rfl) ?_
  refine J.nil ?_
  refine J.tN ?_
  refine J.seq ?_
  refine J.region ?_
  refine J.op rfl rfl rfl (V.as rfl rfl) ?_
  refine J.nil ?_
  refine J.tN ?_
  refine J.seq ?_
  obtain ⟨y10, hy12, h0⟩ := B.bind h0
  refine J.cut (γ := Unit) (fun _ => True) (fun gy11 => [(5, .int .i64 y10)]) (fun gy11 => []) ?_ ?_
  · refine J.block ?_
    refine J.loop (γ := Unit) hy12 (fun s1 g2 => [(0, v0), (1, .int .i64 p1_y), (5, .int .i64 s1)]) (fun s1 g2 => []) () ?_ ?_
    · exact J.keep _ rfl (J.pickE [] rfl rfl J.here)
    · intro rec3 s1 g2 h1
      unfold spec_l02For.b1 at h1
      refine J.seq ?_
      refine J.seq ?_
      refine J.region ?_
      refine J.op rfl rfl rfl (V.mv rfl rfl) ?_
      refine J.op rfl rfl rfl (V.cmp rfl rfl rfl rfl) ?_
      refine J.op rfl rfl rfl (V.mv rfl rfl) ?_
      refine J.split 8 rfl (fun hB4 => ?_) (fun hB4 => ?_)
      · replace h1 := B.t hB4 h1
        refine J.opOn rfl rfl rfl rfl rfl (V.mv rfl rfl) ?_
        refine J.opOn rfl rfl rfl rfl rfl (V.mv rfl rfl) ?_
        obtain ⟨r5, hr6, h1⟩ := B.bind h1
        refine J.clA (l := [.tmp 9, .tmp 10]) [] [] cf62 (wY rfl rfl rfl) rfl rfl rfl rfl rfl rfl (fun w H => spec_l02At.calls v0 p0_c s1 r5 w (Own.refl w) (Sl.laterA hS0 H) hr6) fun g7 => ?_
        refine J.opOn rfl rfl rfl rfl rfl (V.mv rfl rfl) ?_
        refine J.opOn rfl rfl rfl rfl rfl (V.cmp rfl rfl rfl rfl) ?_
        refine J.op rfl rfl rfl (V.pkT rfl rfl rfl) ?_
        refine J.nil ?_
        refine J.tN ?_
        refine J.cond rfl (fun hB8 => ?_) (fun hB8 => ?_)
        · replace h1 := B.t hB8 h1
          refine J.skip ?_
          refine J.tN ?_
          refine J.block ?_
          refine J.region ?_
          refine J.op rfl rfl rfl (V.mv rfl rfl) ?_
          refine J.op rfl rfl rfl (V.ar rfl rfl rfl rfl) ?_
          refine J.op rfl rfl rfl (V.as rfl rfl) ?_
          obtain ⟨x_9, ex_9, h1⟩ := B.lt h1
          refine J.val (congrArg (Value.int .i64) ex_9) ?_
          refine J.nil ?_
          refine J.bN ?_
          refine J.tN (J.next x_9 () (B.n h1) ?_)
          exact J.keep _ rfl (J.pickE [] rfl rfl J.here)
        · replace h1 := B.f hB8 h1
          refine J.exit ?_
          refine J.tE ?_
          refine J.tE ?_
          refine J.bE ?_
          obtain rfl := B.d h1
          refine J.tN (J.to () trivial ?_)
          exact J.keep _ rfl (J.pickE [] rfl rfl J.here)
      · replace h1 := B.f hB4 h1
        refine J.opOff rfl rfl rfl rfl rfl rfl ?_
        refine J.opOff rfl rfl rfl rfl rfl rfl ?_
        refine J.opOff rfl rfl rfl rfl rfl rfl ?_
        refine J.opOff rfl rfl rfl rfl rfl rfl ?_
        refine J.opOff rfl rfl rfl rfl rfl rfl ?_
        refine J.op rfl rfl rfl (V.pkF rfl rfl rfl) ?_
        refine J.nil ?_
        refine J.tN ?_
        refine J.condF rfl ?_
        refine J.exit ?_
        refine J.tE ?_
        refine J.tE ?_
        refine J.bE ?_
        obtain rfl := B.d h1
        refine J.tN (J.to () trivial ?_)
        exact J.keep _ rfl (J.pickE [] rfl rfl J.here)
  · intro gy11 _
    refine J.seq ?_
    refine J.region ?_
    refine J.op rfl rfl rfl (V.mv rfl rfl) ?_
    refine J.op rfl rfl rfl (V.as rfl rfl) ?_
    refine J.nil ?_
    refine J.tN ?_
    refine J.ret ?_
    obtain rfl := B.e h0
    exact J.ret1 rfl rfl fun w H => ⟨(), rfl, H.pick [] (by decide)⟩

/-! ### spec.ExposureFor: function 74 -/
noncomputable def spec_ExposureFor.f (p0_c : (List impl_Point)) (p1_y : Int) : Option (Int × Int) := (spec_l02Dense.f p0_c p1_y).bind fun r1 => bif (r1 != 0) then (some (0, r1)) else ((spec_l02For.f p0_c p1_y).bind fun r5 => bif (decide (200 < r5)) then (some (0, 6)) else (some (r5, 0)))
set_option maxRecDepth 100000 in
theorem spec_ExposureFor.calls (v0 : Value) (p0_c : (List impl_Point)) (p1_y : Int) (r : Int × Int) (w : World) (H0 : Own [] w w []) (hS0 : SlE [] w v0 78 enc_impl_Point p0_c) (h0 : spec_ExposureFor.f p0_c p1_y = some r) :
    Calls Try.prog 74 #[v0, .int .i64 p1_y] w (fun e w' => ∃ _ : Unit, e = .returned (.tuple #[.int .i64 r.1, .int .i64 r.2]) ∧ Own [] w w' []) := by
  unfold spec_ExposureFor.f at h0
  replace h0 := B.top h0
  refine calls_of_J (args := [v0, .int .i64 p1_y]) Try.func74 rfl Try.ntmps74 rfl [(0, v0), (1, .int .i64 p1_y)] rfl H0 ?_
  refine J.seq ?_
  refine J.region ?_
  refine J.op rfl rfl rfl (V.as rfl rfl) ?_
  refine J.op rfl rfl rfl (V.as rfl rfl) ?_
  refine J.nil ?_
  refine J.tN ?_
  refine J.seq ?_
  refine J.seq ?_
  refine J.region ?_
  refine J.op rfl rfl rfl (V.mv rfl rfl) ?_
  refine J.op rfl rfl rfl (V.mv rfl rfl) ?_
  obtain ⟨r1, hr2, h0⟩ := B.bind h0
  refine J.clA (l := [.tmp 8, .tmp 9]) [] [] cf82 (wN rfl) rfl rfl rfl rfl rfl rfl (fun w H => spec_l02Dense.calls v0 p0_c p1_y r1 w (Own.refl w) (Sl.laterA hS0 H) hr2) fun g3 => ?_
  refine J.op rfl rfl rfl (V.as rfl rfl) ?_
  refine J.nil ?_
  refine J.tN ?_
  refine J.seq ?_
  refine J.region ?_
  refine J.op rfl rfl rfl (V.mv rfl rfl) ?_
  refine J.op rfl rfl rfl (V.cmp rfl rfl rfl rfl) ?_
  refine J.nil ?_
  refine J.tN ?_
  refine J.cond rfl (fun hB4 => ?_) (fun hB4 => ?_)
  · replace h0 := B.t hB4 h0
    refine J.seq ?_
    refine J.region ?_
    refine J.op rfl rfl rfl (V.mv rfl rfl) ?_
    refine J.op rfl rfl rfl (V.as rfl rfl) ?_
    refine J.op rfl rfl rfl (V.as rfl rfl) ?_
    refine J.nil ?_
    refine J.tN ?_
    refine J.ret ?_
    refine J.tR ?_
    obtain rfl := B.e h0
    exact J.ret2 rfl rfl rfl fun w H => ⟨(), rfl, H.pick [] (by decide)⟩
  · replace h0 := B.f hB4 h0
    refine J.skip ?_
    refine J.tN ?_
    refine J.seq ?_
    refine J.region ?_
    refine J.op rfl rfl rfl (V.mv rfl rfl) ?_
    refine J.op rfl rfl rfl (V.mv rfl rfl) ?_
    obtain ⟨r5, hr6, h0⟩ := B.bind h0
    refine J.clA (l := [.tmp 14, .tmp 15]) [] [] cf83 (wN rfl) rfl rfl rfl rfl rfl rfl (fun w H => spec_l02For.calls v0 p0_c p1_y r5 w (Own.refl w) (Sl.laterA hS0 H) hr6) fun g7 => ?_
    refine J.op rfl rfl rfl (V.as rfl rfl) ?_
    refine J.nil ?_
    refine J.tN ?_
    refine J.seq ?_
    refine J.seq ?_
    refine J.region ?_
    refine J.op rfl rfl rfl (V.mv rfl rfl) ?_
    refine J.op rfl rfl rfl (V.cmp rfl rfl rfl rfl) ?_
    refine J.nil ?_
    refine J.tN ?_
    refine J.cond rfl (fun hB8 => ?_) (fun hB8 => ?_)
    · replace h0 := B.t hB8 h0
      refine J.seq ?_
      refine J.region ?_
      refine J.op rfl rfl rfl (V.as rfl rfl) ?_
      refine J.op rfl rfl rfl (V.as rfl rfl) ?_
      refine J.nil ?_
      refine J.tN ?_
      refine J.ret ?_
      refine J.tR ?_
      obtain rfl := B.e h0
      exact J.ret2 rfl rfl rfl fun w H => ⟨(), rfl, H.pick [] (by decide)⟩
    · replace h0 := B.f hB8 h0
      refine J.skip ?_
      refine J.tN ?_
      refine J.seq ?_
      refine J.region ?_
      refine J.op rfl rfl rfl (V.mv rfl rfl) ?_
      refine J.op rfl rfl rfl (V.as rfl rfl) ?_
      refine J.op rfl rfl rfl (V.as rfl rfl) ?_
      refine J.nil ?_
      refine J.tN ?_
      refine J.ret ?_
      obtain rfl := B.e h0
      exact J.ret2 rfl rfl rfl fun w H => ⟨(), rfl, H.pick [] (by decide)⟩

/-! ### spec.l05Scale: function 42 -/
noncomputable def spec_l05Scale.b1 (p0_paper : (List impl_Point)) (p1_light : Int) (r1 : Int × Int) : Int → Option (Step (Int) (Sum (Unit) (Int × Bool))) := fun s5 => bif (decide ((-200) ≤ s5)) then ((spec_l02At.f p0_paper s5).bind fun r9 => bif (decide (r9 ≤ p1_light)) then ((some (IntKind.wrap .i64 (r1.1 - s5))).bind fun t13 => some (.done (.inr (t13, true)))) else ((some (IntKind.wrap .i64 (s5 - 1))).bind fun x_14 => some (.next x_14))) else (some (.done (.inl ())))
noncomputable def spec_l05Scale.f (p0_paper : (List impl_Point)) (p1_light : Int) (p2_dark : Int) : Option (Int × Bool) := (spec_ExposureFor.f p0_paper p2_dark).bind fun r1 => bif (r1.2 != 0) then (some (0, false)) else ((loopW (spec_l05Scale.b1 p0_paper p1_light r1) 200).bind (Sum.elim (fun y16 => some (0, false)) (fun r => some r)))
set_option maxRecDepth 100000 in
theorem spec_l05Scale.calls (v0 : Value) (p0_paper : (List impl_Point)) (p1_light : Int) (p2_dark : Int) (r : Int × Bool) (w : World) (H0 : Own [] w w []) (hS0 : SlE [] w v0 78 enc_impl_Point p0_paper) (h0 : spec_l05Scale.f p0_paper p1_light p2_dark = some r) :
    Calls Try.prog 42 #[v0, .int .i64 p1_light, .int .i64 p2_dark] w (fun e w' => ∃ _ : Unit, e = .returned (.tuple #[.int .i64 r.1, .bool r.2]) ∧ Own [] w w' []) := by
  unfold spec_l05Scale.f at h0
  replace h0 := B.top h0
  refine calls_of_J (args := [v0, .int .i64 p1_light, .int .i64 p2_dark]) Try.func42 rfl Try.ntmps42 rfl [(0, v0), (1, .int .i64 p1_light), (2, .int .i64 p2_dark)] rfl H0 ?_
  refine J.seq ?_
  refine J.region ?_
  refine J.op rfl rfl rfl (V.as rfl rfl) ?_
  refine J.op rfl rfl rfl (V.as rfl rfl) ?_
  refine J.nil ?_
  refine J.tN ?_
  refine J.seq ?_
  refine J.region ?_
  refine J.op rfl rfl rfl (V.mv rfl rfl) ?_
  refine J.op rfl rfl rfl (V.mv rfl rfl) ?_
  obtain ⟨r1, hr2, h0⟩ := B.bind h0
  refine J.clA (l := [.tmp 12, .tmp 13]) [] [] cf74 (wN rfl) rfl rfl rfl rfl rfl rfl (fun w H => spec_ExposureFor.calls v0 p0_paper p2_dark r1 w (Own.refl w) (Sl.laterA hS0 H) hr2) fun g3 => ?_
  refine J.op rfl rfl rfl (V.mv rfl rfl) ?_
  refine J.op rfl rfl rfl (V.ex rfl rfl rfl) ?_
  refine J.op rfl rfl rfl (V.ex rfl rfl rfl) ?_
  refine J.op rfl rfl rfl (V.as rfl rfl) ?_
  refine J.op rfl rfl rfl (V.as rfl rfl) ?_
  refine J.nil ?_
  refine J.tN ?_
  refine J.seq ?_
  refine J.seq ?_
  refine J.region ?_
  refine J.op rfl rfl rfl (V.mv rfl rfl) ?_
  refine J.op rfl rfl rfl (V.cmp rfl rfl rfl rfl) ?_
  refine J.nil ?_
  refine J.tN ?_
  refine J.cond rfl (fun hB4 => ?_) (fun hB4 => ?_)
  · replace h0 := B.t hB4 h0
    refine J.seq ?_
    refine J.region ?_
    refine J.op rfl rfl rfl (V.as rfl rfl) ?_
    refine J.op rfl rfl rfl (V.as rfl rfl) ?_
    refine J.nil ?_
    refine J.tN ?_
    refine J.ret ?_
    refine J.tR ?_
    obtain rfl := B.e h0
    exact J.ret2 rfl rfl rfl fun w H => ⟨(), rfl, H.pick [] (by decide)⟩
  · replace h0 := B.f hB4 h0
    refine J.skip ?_
    refine J.tN ?_
    refine J.seq ?_
    refine J.seq ?_
    refine J.region ?_
    refine J.op rfl rfl rfl (V.as rfl rfl) ?_
    refine J.nil ?_
    refine J.tN ?_
    obtain ⟨o18, hy17, h0⟩ := B.bind h0
    refine J.cutQ (γ := (Unit) × (Unit)) (fun gy16 => o18 = .inl gy16.1) (fun gy16 => []) (fun gy16 => []) ?_ ?_
    · refine J.block ?_
      refine J.loop (γ := Unit) hy17 (fun s5 g6 => [(0, v0), (1, .int .i64 p1_light), (8, .int .i64 r1.1), (10, .int .i64 s5)]) (fun s5 g6 => []) () ?_ ?_
      · exact J.keep _ rfl (J.pickE [] rfl rfl J.here)
      · intro rec7 s5 g6 h1
        unfold spec_l05Scale.b1 at h1
        refine J.seq ?_
        refine J.seq ?_
        refine J.region ?_
        refine J.op rfl rfl rfl (V.mv rfl rfl) ?_
        refine J.op rfl rfl rfl (V.cmp rfl rfl rfl rfl) ?_
        refine J.nil ?_
        refine J.tN ?_
        refine J.cond rfl (fun hB8 => ?_) (fun hB8 => ?_)
        · replace h1 := B.t hB8 h1
          refine J.skip ?_
          refine J.tN ?_
          refine J.seq ?_
          refine J.block ?_
          refine J.seq ?_
          refine J.region ?_
          refine J.op rfl rfl rfl (V.mv rfl rfl) ?_
          refine J.op rfl rfl rfl (V.mv rfl rfl) ?_
          obtain ⟨r9, hr10, h1⟩ := B.bind h1
          refine J.clA (l := [.tmp 23, .tmp 24]) [] [] cf62 (wN rfl) rfl rfl rfl rfl rfl rfl (fun w H => spec_l02At.calls v0 p0_paper s5 r9 w (Own.refl w) (Sl.laterA hS0 H) hr10) fun g11 => ?_
          refine J.op rfl rfl rfl (V.mv rfl rfl) ?_
          refine J.op rfl rfl rfl (V.cmp rfl rfl rfl rfl) ?_
          refine J.nil ?_
          refine J.tN ?_
          refine J.cond rfl (fun hB12 => ?_) (fun hB12 => ?_)
          · replace h1 := B.t hB12 h1
            refine J.seq ?_
            refine J.region ?_
            refine J.op rfl rfl rfl (V.mv rfl rfl) ?_
            refine J.op rfl rfl rfl (V.mv rfl rfl) ?_
            refine J.op rfl rfl rfl (V.ar rfl rfl rfl rfl) ?_
            refine J.op rfl rfl rfl (V.as rfl rfl) ?_
            obtain ⟨t13, et13, h1⟩ := B.lt h1
            refine J.val (congrArg (Value.int .i64) et13) ?_
            refine J.op rfl rfl rfl (V.as rfl rfl) ?_
            refine J.nil ?_
            refine J.tN ?_
            refine J.ret ?_
            refine J.bR ?_
            refine J.tR ?_
            refine J.tR ?_
            refine J.bR ?_
            refine J.tR ?_
            refine J.tR ?_
            obtain rfl := B.d h1
            replace h0 := B.inr h0
            obtain rfl := B.e h0
            exact J.ret2 rfl rfl rfl fun w H => ⟨(), rfl, H.pick [] (by decide)⟩
          · replace h1 := B.f hB12 h1
            refine J.skip ?_
            refine J.bN ?_
            refine J.tN ?_
            refine J.region ?_
            refine J.op rfl rfl rfl (V.mv rfl rfl) ?_
            refine J.op rfl rfl rfl (V.ar rfl rfl rfl rfl) ?_
            refine J.op rfl rfl rfl (V.as rfl rfl) ?_
            obtain ⟨x_14, ex_14, h1⟩ := B.lt h1
            refine J.val (congrArg (Value.int .i64) ex_14) ?_
            refine J.nil ?_
            refine J.tN (J.next x_14 () (B.n h1) ?_)
            exact J.keep _ rfl (J.pickE [] rfl rfl J.here)
        · replace h1 := B.f hB8 h1
          refine J.exit ?_
          refine J.tE ?_
          refine J.tE ?_
          refine J.bE ?_
          obtain rfl := B.d h1
          refine J.tN (J.to ((), ()) rfl ?_)
          exact J.keep _ rfl (J.pickE [] rfl rfl J.here)
    · intro gy16 hG
      replace h0 := B.inl hG h0
      refine J.tN ?_
      refine J.seq ?_
      refine J.region ?_
      refine J.op rfl rfl rfl (V.as rfl rfl) ?_
      refine J.op rfl rfl rfl (V.as rfl rfl) ?_
      refine J.nil ?_
      refine J.tN ?_
      refine J.ret ?_
      obtain rfl := B.e h0
      exact J.ret2 rfl rfl rfl fun w H => ⟨(), rfl, H.pick [] (by decide)⟩

/-! ### spec.OrderGrades: function 11 -/
noncomputable def spec_OrderGrades.b2 (s14 : Int × (List Int) × (List Int)) (r22 : Int × Bool) : (Int × (List Int)) → Option (Step (Int × (List Int)) (Int × (List Int))) := fun s37 => bif (decide (0 < s37.1)) then (bif (inB (IntKind.wrap .i64 (s37.1 - 1)) s37.2.length) then (bif (inB (rd (eI .i64) s37.2 (IntKind.wrap .i64 (s37.1 - 1))) (s14.2.2 ++ [r22.1]).length) then (bif (decide ((rd (eI .i64) (s14.2.2 ++ [r22.1]) (rd (eI .i64) s37.2 (IntKind.wrap .i64 (s37.1 - 1)))) < r22.1)) then (bif (inB (IntKind.wrap .i64 (s37.1 - 1)) s37.2.length) then (bif (inB s37.1 s37.2.length) then ((some (s37.2.set s37.1.toNat (rd (eI .i64) s37.2 (IntKind.wrap .i64 (s37.1 - 1))))).bind fun w46 => (some (IntKind.wrap .i64 (s37.1 - 1))).bind fun k_47 => some (.next (k_47, w46))) else none) else none) else (some (.done (s37.1, s37.2)))) else none) else none) else (some (.done (s37.1, s37.2)))
noncomputable def spec_OrderGrades.b1 (p0_grades : (List (List impl_Point))) (p1_light : Int) (p2_dark : Int) : (Int × (List Int) × (List Int)) → Option (Step (Int × (List Int) × (List Int)) (Sum ((List Int) × (List Int)) ((List Int) × Int))) := fun s14 => bif (decide (s14.1 < (p0_grades.length : Int))) then (bif (inB s14.1 p0_grades.length) then ((spec_l05Scale.f (rdN p0_grades s14.1) p1_light p2_dark).bind fun r22 => bif (!r22.2) then (some (.done (.inr (([] : List Int), 6)))) else (bif (roomB s14.2.2.length 1 8) then ((some (s14.2.1.length : Int)).bind fun k_32 => bif (roomB s14.2.1.length 1 8) then ((loopW (spec_OrderGrades.b2 s14 r22) (k_32, s14.2.1 ++ [s14.1])).bind fun y48 => bif (inB y48.1 y48.2.length) then ((some (y48.2.set y48.1.toNat s14.1)).bind fun w52 => (some (IntKind.wrap .i64 (s14.1 + 1))).bind fun i_53 => some (.next (i_53, w52, s14.2.2 ++ [r22.1]))) else none) else none) else none)) else none) else (some (.done (.inl (s14.2.1, s14.2.2))))
noncomputable def spec_OrderGrades.f (p0_grades : (List (List impl_Point))) (p1_light : Int) (p2_dark : Int) : Option ((List Int) × Int) := (spec_l05Ends.f p1_light p2_dark).bind fun r1 => (spec_l05Grades.f p0_grades r1).bind fun r4 => bif (r4 != 0) then (some (([] : List Int), r4)) else ((loopW (spec_OrderGrades.b1 p0_grades p1_light p2_dark) (0, ([] : List Int), ([] : List Int))).bind (Sum.elim (fun y55 => some (y55.1, 0)) (fun r => some r)))
set_option maxRecDepth 100000 in
theorem spec_OrderGrades.calls (v0 : Value) (p0_grades : (List (List impl_Point))) (p1_light : Int) (p2_dark : Int) (r : (List Int) × Int) (w : World) (H0 : Own [] w w []) (hS0 : SlN [] w v0 40 78 enc_impl_Point p0_grades) (h0 : spec_OrderGrades.f p0_grades p1_light p2_dark = some r) :
    Calls Try.prog 11 #[v0, .int .i64 p1_light, .int .i64 p2_dark] w (fun e w' => ∃ gh : Value, e = .returned (.tuple #[gh, .int .i64 r.2]) ∧ Own [] w w' [.rowE gh 2 (eI .i64) r.1]) := by
  unfold spec_OrderGrades.f at h0
  replace h0 := B.top h0
  refine calls_of_J (args := [v0, .int .i64 p1_light, .int .i64 p2_dark]) Try.func11 rfl Try.ntmps11 rfl [(0, v0), (1, .int .i64 p1_light), (2, .int .i64 p2_dark)] rfl H0 ?_
  obtain ⟨us0_, hN0, hE0⟩ := id hS0
  refine J.seq ?_
  refine J.region ?_
  refine J.op rfl rfl rfl (V.as rfl rfl) ?_
  refine J.op rfl rfl rfl (V.as rfl rfl) ?_
  refine J.nil ?_
  refine J.tN ?_
  refine J.seq ?_
  refine J.seq ?_
  refine J.region ?_
  refine J.op rfl rfl rfl (V.mv rfl rfl) ?_
  refine J.op rfl rfl rfl (V.mv rfl rfl) ?_
  refine J.op rfl rfl rfl (V.mv rfl rfl) ?_
  obtain ⟨r1, hr2, h0⟩ := B.bind h0
  refine J.clA (l := [.tmp 16, .tmp 17]) [] [] cf41 (wN rfl) rfl rfl rfl rfl rfl rfl (fun w H => spec_l05Ends.calls p1_light p2_dark r1 w (Own.refl w)  hr2) fun g3 => ?_
  obtain ⟨r4, hr5, h0⟩ := B.bind h0
  refine J.clA (l := [.tmp 15, .tmp 18]) [] [] cf33 (wN rfl) rfl rfl rfl rfl rfl rfl (fun w H => spec_l05Grades.calls v0 p0_grades r1 r4 w (Own.refl w) (SlN.laterA hS0 H) hr5) fun g6 => ?_
  refine J.op rfl rfl rfl (V.as rfl rfl) ?_
  refine J.nil ?_
  refine J.tN ?_
  refine J.seq ?_
  refine J.region ?_
  refine J.op rfl rfl rfl (V.mv rfl rfl) ?_
  refine J.op rfl rfl rfl (V.cmp rfl rfl rfl rfl) ?_
  refine J.nil ?_
  refine J.tN ?_
  refine J.cond rfl (fun hB7 => ?_) (fun hB7 => ?_)
  · replace h0 := B.t hB7 h0
    refine J.seq ?_
    refine J.region ?_
    refine J.bs (l := []) (cs := []) (E := 2) rfl rfl rfl rfl rfl (fun w => by kernel_rfl) fun b8 => ?_
    refine J.op rfl rfl rfl (V.mv rfl rfl) ?_
    refine J.op rfl rfl rfl (V.as rfl rfl) ?_
    refine J.op rfl rfl rfl (V.as rfl rfl) ?_
    refine J.nil ?_
    refine J.tN ?_
    refine J.ret ?_
    refine J.tR ?_
    refine J.blkRowE (eI .i64) ([] : List Int) 0 rfl rfl rfl ?_
    obtain rfl := B.e h0
    exact J.ret2 rfl rfl rfl fun w H => ⟨(.slice (some ⟨b8, 0, none⟩) 0 0), rfl, H.pick [0] (by decide)⟩
  · replace h0 := B.f hB7 h0
    refine J.skip ?_
    refine J.tN ?_
    refine J.seq ?_
    refine J.region ?_
    refine J.bs (l := []) (cs := []) (E := 2) rfl rfl rfl rfl rfl (fun w => by kernel_rfl) fun b10 => ?_
    refine J.op rfl rfl rfl (V.as rfl rfl) ?_
    refine J.nil ?_
    refine J.tN ?_
    refine J.seq ?_
    refine J.region ?_
    refine J.bs (l := []) (cs := []) (E := 2) rfl rfl rfl rfl rfl (fun w => by kernel_rfl) fun b12 => ?_
    refine J.op rfl rfl rfl (V.as rfl rfl) ?_
    refine J.nil ?_
    refine J.tN ?_
    refine J.seq ?_
    refine J.seq ?_
    refine J.region ?_
    refine J.op rfl rfl rfl (V.as rfl rfl) ?_
    refine J.nil ?_
    refine J.tN ?_
    refine J.pickE [1, 0] (es' := [.blk b10 [] 2, .blk b12 [] 2]) rfl rfl ?_
    refine J.blkRowE (eI .i64) ([] : List Int) 0 rfl rfl rfl ?_
    refine J.pickE [1, 0] (es' := [.blk b12 [] 2, .rowE (.slice (some ⟨b10, 0, none⟩) 0 0) 2 (eI .i64) ([] : List Int)]) rfl rfl ?_
    refine J.blkRowE (eI .i64) ([] : List Int) 0 rfl rfl rfl ?_
    obtain ⟨o57, hy56, h0⟩ := B.bind h0
    refine J.cutQ (γ := ((List Int) × (List Int)) × (Value × Value)) (fun gy55 => o57 = .inl gy55.1) (fun gy55 => [(10, gy55.2.1)]) (fun gy55 => [.rowE gy55.2.1 2 (eI .i64) gy55.1.1, .rowE gy55.2.2 2 (eI .i64) gy55.1.2]) ?_ ?_
    · refine J.block ?_
      refine J.loop (γ := Value × Value) hy56 (fun s14 g15 => [(0, v0), (1, .int .i64 p1_light), (2, .int .i64 p2_dark), (9, g15.2), (10, g15.1), (11, .int .i64 s14.1)]) (fun s14 g15 => [.rowE g15.1 2 (eI .i64) s14.2.1, .rowE g15.2 2 (eI .i64) s14.2.2]) ((.slice (some ⟨b12, 0, none⟩) 0 0), (.slice (some ⟨b10, 0, none⟩) 0 0)) ?_ ?_
      · exact J.keep _ rfl (J.pickE [0, 1] rfl rfl J.here)
      · intro rec16 s14 g15 h1
        unfold spec_OrderGrades.b1 at h1
        refine J.seq ?_
        refine J.seq ?_
        refine J.region ?_
        refine J.op rfl rfl rfl (V.mv rfl rfl) ?_
        refine J.op rfl rfl rfl (V.mv rfl rfl) ?_
        refine J.op rfl rfl rfl (V.lenS hN0 rfl rfl tl26) ?_
        refine J.op rfl rfl rfl (V.cmp rfl rfl rfl rfl) ?_
        refine J.nil ?_
        refine J.tN ?_
        refine J.cond rfl (fun hB17 => ?_) (fun hB17 => ?_)
        · replace h1 := B.t hB17 h1
          refine J.skip ?_
          refine J.tN ?_
          refine J.seq ?_
          refine J.block ?_
          refine J.seq ?_
          refine J.region ?_
          refine J.op rfl rfl rfl (V.mv rfl rfl) ?_
          refine J.op rfl rfl rfl (V.mv rfl rfl) ?_
          obtain ⟨hC18, h1⟩ := B.chk h1
          refine J.op rfl rfl rfl (V.ixS hN0 rfl rfl rfl tl26 ts40 hC18) ?_
          obtain ⟨u19, hu20, hS21⟩ := hE0 _ hC18
          refine J.op rfl rfl rfl (V.nld hN0 hC18 hu20 rfl rfl Try.underlying40 ta40) ?_
          refine J.op rfl rfl rfl (V.mv rfl rfl) ?_
          refine J.op rfl rfl rfl (V.mv rfl rfl) ?_
          obtain ⟨r22, hr23, h1⟩ := B.bind h1
          refine J.clA (l := [.tmp 36, .tmp 37, .tmp 38]) [] [.rowE g15.1 2 (eI .i64) s14.2.1, .rowE g15.2 2 (eI .i64) s14.2.2] cf42 (wN rfl) rfl rfl rfl rfl rfl rfl (fun w H => spec_l05Scale.calls u19 (rdN p0_grades s14.1) p1_light p2_dark r22 w (Own.refl w) (Sl.laterA hS21 H) hr23) fun g24 => ?_
          refine J.op rfl rfl rfl (V.mv rfl rfl) ?_
          refine J.op rfl rfl rfl (V.ex rfl rfl rfl) ?_
          refine J.op rfl rfl rfl (V.ex rfl rfl rfl) ?_
          refine J.op rfl rfl rfl (V.as rfl rfl) ?_
          refine J.op rfl rfl rfl (V.as rfl rfl) ?_
          refine J.nil ?_
          refine J.tN ?_
          refine J.seq ?_
          refine J.seq ?_
          refine J.region ?_
          refine J.op rfl rfl rfl (V.mv rfl rfl) ?_
          refine J.op rfl rfl rfl (V.nt rfl rfl) ?_
          refine J.nil ?_
          refine J.tN ?_
          refine J.cond rfl (fun hB25 => ?_) (fun hB25 => ?_)
          · replace h1 := B.t hB25 h1
            refine J.seq ?_
            refine J.region ?_
            refine J.bs (l := []) (cs := []) (E := 2) rfl rfl rfl rfl rfl (fun w => by kernel_rfl) fun b26 => ?_
            refine J.op rfl rfl rfl (V.as rfl rfl) ?_
            refine J.op rfl rfl rfl (V.as rfl rfl) ?_
            refine J.nil ?_
            refine J.tN ?_
            refine J.ret ?_
            refine J.tR ?_
            refine J.bR ?_
            refine J.tR ?_
            refine J.tR ?_
            refine J.bR ?_
            refine J.tR ?_
            refine J.tR ?_
            refine J.blkRowE (eI .i64) ([] : List Int) 0 rfl rfl rfl ?_
            obtain rfl := B.d h1
            replace h0 := B.inr h0
            obtain rfl := B.e h0
            exact J.ret2 rfl rfl rfl fun w H => ⟨(.slice (some ⟨b26, 0, none⟩) 0 0), rfl, H.pick [0] (by decide)⟩
          · replace h1 := B.f hB25 h1
            refine J.skip ?_
            refine J.tN ?_
            refine J.seq ?_
            refine J.region ?_
            refine J.op rfl rfl rfl (V.mv rfl rfl) ?_
            refine J.op rfl rfl rfl (V.mv rfl rfl) ?_
            refine J.bs (l := [(0, .tmp 46)]) (cs := [.int .i64 r22.1]) (E := 2) rfl rfl rfl rfl rfl (fun w => by kernel_rfl) fun b28 => ?_
            obtain ⟨hC31, h1⟩ := B.chk h1
            obtain ⟨_, qi1, qi2, qi3, qi4⟩ := ti2
            refine J.ap1 (e := (eI .i64)) (xs := s14.2.2) 2 0 r22.1 hC31 qi1 tl30 qi2 qi3 qi4 rfl rfl rfl rfl rfl rfl rfl rfl rfl rfl fun v30 => ?_
            refine J.op rfl rfl rfl (V.as rfl rfl) ?_
            refine J.nil ?_
            refine J.tN ?_
            refine J.seq ?_
            refine J.region ?_
            refine J.op rfl rfl rfl (V.mv rfl rfl) ?_
            refine J.op rfl rfl rfl (V.lenR 1 rfl rfl rfl tl30) ?_
            refine J.op rfl rfl rfl (V.as rfl rfl) ?_
            obtain ⟨k_32, ek_32, h1⟩ := B.lt h1
            refine J.val (congrArg (Value.int .i64) ek_32) ?_
            refine J.nil ?_
            refine J.tN ?_
            refine J.seq ?_
            refine J.region ?_
            refine J.op rfl rfl rfl (V.mv rfl rfl) ?_
            refine J.op rfl rfl rfl (V.mv rfl rfl) ?_
            refine J.bs (l := [(0, .tmp 52)]) (cs := [.int .i64 s14.1]) (E := 2) rfl rfl rfl rfl rfl (fun w => by kernel_rfl) fun b33 => ?_
            obtain ⟨hC36, h1⟩ := B.chk h1
            obtain ⟨_, qi1, qi2, qi3, qi4⟩ := ti2
            refine J.ap1 (e := (eI .i64)) (xs := s14.2.1) 2 0 s14.1 hC36 qi1 tl30 qi2 qi3 qi4 rfl rfl rfl rfl rfl rfl rfl rfl rfl rfl fun v35 => ?_
            refine J.op rfl rfl rfl (V.as rfl rfl) ?_
            refine J.nil ?_
            refine J.tN ?_
            refine J.seq ?_
            obtain ⟨y48, hy50, h1⟩ := B.bind h1
            refine J.cut (γ := Unit) (fun _ => True) (fun gy49 => [(0, v0), (1, .int .i64 p1_light), (2, .int .i64 p2_dark), (9, v30), (10, v35), (11, .int .i64 s14.1), (14, .int .i64 y48.1)]) (fun gy49 => [.blk b33 [.int .i64 s14.1] 2, .blk b28 [.int .i64 r22.1] 2, .rowE v35 2 (eI .i64) y48.2, .rowE v30 2 (eI .i64) (s14.2.2 ++ [r22.1])]) ?_ ?_
            · refine J.block ?_
              refine J.loop (γ := Unit) hy50 (fun s37 g38 => [(0, v0), (1, .int .i64 p1_light), (2, .int .i64 p2_dark), (9, v30), (10, v35), (11, .int .i64 s14.1), (12, .int .i64 r22.1), (14, .int .i64 s37.1)]) (fun s37 g38 => [.blk b33 [.int .i64 s14.1] 2, .blk b28 [.int .i64 r22.1] 2, .rowE v35 2 (eI .i64) s37.2, .rowE v30 2 (eI .i64) (s14.2.2 ++ [r22.1])]) () ?_ ?_
              · exact J.keep _ rfl (J.pickE [0, 1, 2, 3] rfl rfl J.here)
              · intro rec39 s37 g38 h2
                unfold spec_OrderGrades.b2 at h2
                refine J.seq ?_
                refine J.seq ?_
                refine J.region ?_
                refine J.op rfl rfl rfl (V.mv rfl rfl) ?_
                refine J.op rfl rfl rfl (V.cmp rfl rfl rfl rfl) ?_
                refine J.op rfl rfl rfl (V.mv rfl rfl) ?_
                refine J.split 57 rfl (fun hB40 => ?_) (fun hB40 => ?_)
                · replace h2 := B.t hB40 h2
                  refine J.opOn rfl rfl rfl rfl rfl (V.mv rfl rfl) ?_
                  refine J.opOn rfl rfl rfl rfl rfl (V.mv rfl rfl) ?_
                  refine J.opOn rfl rfl rfl rfl rfl (V.mv rfl rfl) ?_
                  refine J.opOn rfl rfl rfl rfl rfl (V.ar rfl rfl rfl rfl) ?_
                  obtain ⟨hC41, h2⟩ := B.chk h2
                  refine J.opOn rfl rfl rfl rfl rfl (V.ixR 2 rfl rfl rfl rfl tl30 ts2 hC41) ?_
                  refine J.opOn rfl rfl rfl rfl rfl (V.elR0 2 rfl hC41 rfl rfl Try.underlying2 ta2 rfl) ?_
                  obtain ⟨hC42, h2⟩ := B.chk h2
                  refine J.opOn rfl rfl rfl rfl rfl (V.ixR 3 rfl rfl rfl rfl tl30 ts2 hC42) ?_
                  refine J.opOn rfl rfl rfl rfl rfl (V.elR0 3 rfl hC42 rfl rfl Try.underlying2 ta2 rfl) ?_
                  refine J.opOn rfl rfl rfl rfl rfl (V.mv rfl rfl) ?_
                  refine J.opOn rfl rfl rfl rfl rfl (V.cmp rfl rfl rfl rfl) ?_
                  refine J.op rfl rfl rfl (V.pkT rfl rfl rfl) ?_
                  refine J.nil ?_
                  refine J.tN ?_
                  refine J.cond rfl (fun hB43 => ?_) (fun hB43 => ?_)
                  · replace h2 := B.t hB43 h2
                    refine J.skip ?_
                    refine J.tN ?_
                    refine J.block ?_
                    refine J.seq ?_
                    refine J.region ?_
                    refine J.op rfl rfl rfl (V.mv rfl rfl) ?_
                    refine J.op rfl rfl rfl (V.mv rfl rfl) ?_
                    refine J.op rfl rfl rfl (V.mv rfl rfl) ?_
                    refine J.op rfl rfl rfl (V.mv rfl rfl) ?_
                    refine J.op rfl rfl rfl (V.ar rfl rfl rfl rfl) ?_
                    obtain ⟨hC44, h2⟩ := B.chk h2
                    refine J.op rfl rfl rfl (V.ixR 2 rfl rfl rfl rfl tl30 ts2 hC44) ?_
                    refine J.op rfl rfl rfl (V.elR0 2 rfl hC44 rfl rfl Try.underlying2 ta2 rfl) ?_
                    obtain ⟨hC45, h2⟩ := B.chk h2
                    refine J.op rfl rfl rfl (V.ixR 2 rfl rfl rfl rfl tl30 ts2 hC45) ?_
                    refine J.stE0 (e := (eI .i64)) (xs := s37.2) 2 (rd (eI .i64) s37.2 (IntKind.wrap .i64 (s37.1 - 1))) hC45 rfl rfl rfl rfl rfl rfl rfl rfl ts2 (fun _ _ => rfl) ?_
                    obtain ⟨w46, ew46, h2⟩ := B.lt h2
                    refine J.setEnt 2 rfl (congrArg (fun q => Ent.rowE _ _ (eI .i64) q) ew46) ?_
                    refine J.nil ?_
                    refine J.tN ?_
                    refine J.region ?_
                    refine J.op rfl rfl rfl (V.mv rfl rfl) ?_
                    refine J.op rfl rfl rfl (V.ar rfl rfl rfl rfl) ?_
                    refine J.op rfl rfl rfl (V.as rfl rfl) ?_
                    obtain ⟨k_47, ek_47, h2⟩ := B.lt h2
                    refine J.val (congrArg (Value.int .i64) ek_47) ?_
                    refine J.nil ?_
                    refine J.bN ?_
                    refine J.tN (J.next (k_47, w46) () (B.n h2) ?_)
                    exact J.keep _ rfl (J.pickE [0, 1, 2, 3] rfl rfl J.here)
                  · replace h2 := B.f hB43 h2
                    refine J.exit ?_
                    refine J.tE ?_
                    refine J.tE ?_
                    refine J.bE ?_
                    obtain rfl := B.d h2
                    refine J.tN (J.to () trivial ?_)
                    exact J.keep _ rfl (J.pickE [0, 1, 2, 3] rfl rfl J.here)
                · replace h2 := B.f hB40 h2
                  refine J.opOff rfl rfl rfl rfl rfl rfl ?_
                  refine J.opOff rfl rfl rfl rfl rfl rfl ?_
                  refine J.opOff rfl rfl rfl rfl rfl rfl ?_
                  refine J.opOff rfl rfl rfl rfl rfl rfl ?_
                  refine J.opOff rfl rfl rfl rfl rfl rfl ?_
                  refine J.opOff rfl rfl rfl rfl rfl rfl ?_
                  refine J.opOff rfl rfl rfl rfl rfl rfl ?_
                  refine J.opOff rfl rfl rfl rfl rfl rfl ?_
                  refine J.opOff rfl rfl rfl rfl rfl rfl ?_
                  refine J.opOff rfl rfl rfl rfl rfl rfl ?_
                  refine J.op rfl rfl rfl (V.pkF rfl rfl rfl) ?_
                  refine J.nil ?_
                  refine J.tN ?_
                  refine J.condF rfl ?_
                  refine J.exit ?_
                  refine J.tE ?_
                  refine J.tE ?_
                  refine J.bE ?_
                  obtain rfl := B.d h2
                  refine J.tN (J.to () trivial ?_)
                  exact J.keep _ rfl (J.pickE [0, 1, 2, 3] rfl rfl J.here)
            · intro gy49 _
              refine J.region ?_
              refine J.op rfl rfl rfl (V.mv rfl rfl) ?_
              refine J.op rfl rfl rfl (V.mv rfl rfl) ?_
              refine J.op rfl rfl rfl (V.mv rfl rfl) ?_
              obtain ⟨hC51, h1⟩ := B.chk h1
              refine J.op rfl rfl rfl (V.ixR 2 rfl rfl rfl rfl tl30 ts2 hC51) ?_
              refine J.stE0 (e := (eI .i64)) (xs := y48.2) 2 s14.1 hC51 rfl rfl rfl rfl rfl rfl rfl rfl ts2 (fun _ _ => rfl) ?_
              obtain ⟨w52, ew52, h1⟩ := B.lt h1
              refine J.setEnt 2 rfl (congrArg (fun q => Ent.rowE _ _ (eI .i64) q) ew52) ?_
              refine J.nil ?_
              refine J.bN ?_
              refine J.tN ?_
              refine J.region ?_
              refine J.op rfl rfl rfl (V.mv rfl rfl) ?_
              refine J.op rfl rfl rfl (V.ar rfl rfl rfl rfl) ?_
              refine J.op rfl rfl rfl (V.as rfl rfl) ?_
              obtain ⟨i_53, ei_53, h1⟩ := B.lt h1
              refine J.val (congrArg (Value.int .i64) ei_53) ?_
              refine J.nil ?_
              refine J.tN (J.next (i_53, w52, s14.2.2 ++ [r22.1]) (v35, v30) (B.n h1) ?_)
              exact J.keep _ rfl (J.pickE [2, 3] rfl rfl J.here)
        · replace h1 := B.f hB17 h1
          refine J.exit ?_
          refine J.tE ?_
          refine J.tE ?_
          refine J.bE ?_
          obtain rfl := B.d h1
          refine J.tN (J.to ((s14.2.1, s14.2.2), (g15.1, g15.2)) rfl ?_)
          exact J.keep _ rfl (J.pickE [0, 1] rfl rfl J.here)
    · intro gy55 hG
      replace h0 := B.inl hG h0
      refine J.tN ?_
      refine J.seq ?_
      refine J.region ?_
      refine J.op rfl rfl rfl (V.mv rfl rfl) ?_
      refine J.op rfl rfl rfl (V.as rfl rfl) ?_
      refine J.op rfl rfl rfl (V.as rfl rfl) ?_
      refine J.nil ?_
      refine J.tN ?_
      refine J.ret ?_
      obtain rfl := B.e h0
      exact J.ret2 rfl rfl rfl fun w H => ⟨gy55.2.1, rfl, H.pick [0] (by decide)⟩

end Go.Proofs.Ytofhnioboihbgaa
