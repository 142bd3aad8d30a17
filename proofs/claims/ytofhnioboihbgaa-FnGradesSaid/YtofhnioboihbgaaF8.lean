/- Go functions as Lean functions, and that each call of theirs comes to just that: by a program written for this work (walk.py). No condition. -/
import Derived.Test.YtofhnioboihbgaaF7
namespace Go.Proofs.Ytofhnioboihbgaa
open Go Go.RowKit G
set_option linter.unusedVariables false

/-! ### spec.l00From: function 49 -/
noncomputable def spec_l00From.f (p0_code : (List Int)) : Option (Int × Int) := some (0, 0)
set_option maxRecDepth 100000 in
theorem spec_l00From.calls (v0 : Value) (p0_code : (List Int)) (r : Int × Int) (w : World) (H0 : Own [] w w []) (hS0 : SlE [] w v0 5 (eI .u8) p0_code) (h0 : spec_l00From.f p0_code = some r) :
    Calls Try.prog 49 #[v0] w (fun e w' => ∃ gh : Nat, e = .returned (bp gh 0) ∧ Own [] w w' [.blk gh [v0, .int .i64 r.1, .int .u64 r.2] 87]) := by
  unfold spec_l00From.f at h0
  replace h0 := B.top h0
  refine calls_of_J (args := [v0]) Try.func49 rfl Try.ntmps49 rfl [(0, v0)] rfl H0 ?_
  refine J.seq ?_
  refine J.region ?_
  refine J.op rfl rfl rfl (V.as rfl rfl) ?_
  refine J.nil ?_
  refine J.tN ?_
  refine J.seq ?_
  refine J.region ?_
  refine J.op rfl rfl rfl (V.mv rfl rfl) ?_
  refine J.op rfl rfl rfl (V.bd (l := [(0, .tmp 3)]) (v := .agg #[v0, .int .i64 0, .int .u64 0]) rfl rfl (fun w H => by obtain ⟨_, _, e0, _⟩ := hS0.len; rw [e0]; kernel_rfl)) ?_
  refine J.box rfl rfl rfl rfl rfl (fun _ _ => rfl) fun b1 => ?_
  refine J.op rfl rfl rfl (V.as rfl rfl) ?_
  refine J.nil ?_
  refine J.tN ?_
  refine J.ret ?_
  obtain rfl := B.e h0
  exact J.ret1 rfl rfl fun w H => ⟨b1, rfl, H.pick [0] (by decide)⟩

/-! ### spec.P6Paper: function 18 -/
noncomputable def spec_P6Paper.f (p0_code : (List Int)) : Option ((List impl_Point)) := (spec_l00From.f p0_code).bind fun r1 => (spec_l02Drawn.f (⟨p0_code, r1.1, r1.2⟩ : spec_l00Src)).bind fun r5 => some r5.1
set_option maxRecDepth 100000 in
theorem spec_P6Paper.calls (v0 : Value) (p0_code : (List Int)) (r : (List impl_Point)) (w : World) (H0 : Own [] w w []) (hS0 : SlE [] w v0 5 (eI .u8) p0_code) (h0 : spec_P6Paper.f p0_code = some r) :
    Calls Try.prog 18 #[v0] w (fun e w' => ∃ gh : Value, e = .returned (gh) ∧ Own [] w w' [.rowE gh 78 enc_impl_Point r]) := by
  unfold spec_P6Paper.f at h0
  replace h0 := B.top h0
  refine calls_of_J (args := [v0]) Try.func18 rfl Try.ntmps18 rfl [(0, v0)] rfl H0 ?_
  refine J.seq ?_
  refine J.region ?_
  refine J.op rfl rfl rfl (V.as rfl rfl) ?_
  refine J.nil ?_
  refine J.tN ?_
  refine J.seq ?_
  refine J.region ?_
  refine J.op rfl rfl rfl (V.mv rfl rfl) ?_
  obtain ⟨r1, hr2, h0⟩ := B.bind h0
  refine J.clA (l := [.tmp 3]) [] [] cf49 (wN rfl) rfl rfl rfl rfl rfl rfl (fun w H => spec_l00From.calls v0 p0_code r1 w (Own.refl w) (Sl.laterA hS0 H) hr2) fun g3 => ?_
  obtain ⟨r5, hr6, h0⟩ := B.bind h0
  refine J.clA (l := [.tmp 4]) [.blk g3 [v0, .int .i64 r1.1, .int .u64 r1.2] 87] [] cf48 (wN rfl) rfl rfl rfl rfl rfl rfl (fun w H => spec_l02Drawn.calls g3 (⟨p0_code, r1.1, r1.2⟩ : spec_l00Src) v0 r5 w H.enterA (Sl.laterA hS0 H) hr6) fun g7 => ?_
  refine J.op rfl rfl rfl (V.as rfl rfl) ?_
  refine J.nil ?_
  refine J.tN ?_
  refine J.ret ?_
  obtain rfl := B.e h0
  exact J.ret1 rfl rfl fun w H => ⟨g7, rfl, H.pick [1] (by decide)⟩

/-! ### spec.P6Pick: function 19 -/
noncomputable def spec_P6Pick.f (p0_code : (List Int)) (p1_n : Int) : Option (Int) := (spec_l00From.f p0_code).bind fun r1 => (spec_l00Src_pick.f (⟨p0_code, r1.1, r1.2⟩ : spec_l00Src) p1_n).bind fun r5 => some r5.1
set_option maxRecDepth 100000 in
theorem spec_P6Pick.calls (v0 : Value) (p0_code : (List Int)) (p1_n : Int) (r : Int) (w : World) (H0 : Own [] w w []) (hS0 : SlE [] w v0 5 (eI .u8) p0_code) (h0 : spec_P6Pick.f p0_code p1_n = some r) :
    Calls Try.prog 19 #[v0, .int .i64 p1_n] w (fun e w' => ∃ _ : Unit, e = .returned (.int .i64 r) ∧ Own [] w w' []) := by
  unfold spec_P6Pick.f at h0
  replace h0 := B.top h0
  refine calls_of_J (args := [v0, .int .i64 p1_n]) Try.func19 rfl Try.ntmps19 rfl [(0, v0), (1, .int .i64 p1_n)] rfl H0 ?_
  refine J.seq ?_
  refine J.region ?_
  refine J.op rfl rfl rfl (V.as rfl rfl) ?_
  refine J.nil ?_
  refine J.tN ?_
  refine J.seq ?_
  refine J.region ?_
  refine J.op rfl rfl rfl (V.mv rfl rfl) ?_
  obtain ⟨r1, hr2, h0⟩ := B.bind h0
  refine J.clA (l := [.tmp 5]) [] [] cf49 (wN rfl) rfl rfl rfl rfl rfl rfl (fun w H => spec_l00From.calls v0 p0_code r1 w (Own.refl w) (Sl.laterA hS0 H) hr2) fun g3 => ?_
  refine J.op rfl rfl rfl (V.mv rfl rfl) ?_
  obtain ⟨r5, hr6, h0⟩ := B.bind h0
  refine J.clA (l := [.tmp 6, .tmp 7]) [.blk g3 [v0, .int .i64 r1.1, .int .u64 r1.2] 87] [] cf50 (wN rfl) rfl rfl rfl rfl rfl rfl (fun w H => spec_l00Src_pick.calls g3 (⟨p0_code, r1.1, r1.2⟩ : spec_l00Src) v0 p1_n r5 w H.enterA (Sl.laterA hS0 H) hr6) fun g7 => ?_
  refine J.op rfl rfl rfl (V.as rfl rfl) ?_
  refine J.nil ?_
  refine J.tN ?_
  refine J.ret ?_
  obtain rfl := B.e h0
  exact J.ret1 rfl rfl fun w H => ⟨(), rfl, H.pick [] (by decide)⟩

/-! ### impl.ScaleOf: function 22 -/
noncomputable def impl_ScaleOf.f (p0_paper : (List impl_Point)) (p1_light : Int) (p2_dark : Int) : Option (Int × Int) := (impl_areScaled.f p1_light p2_dark).bind fun r1 => (impl_curveCode.f p0_paper r1).bind fun r4 => bif (r4 != 0) then (some (0, r4)) else ((impl_Curve_scale.f p0_paper p1_light p2_dark).bind fun r8 => some (r8.1, r8.2))
set_option maxRecDepth 100000 in
theorem impl_ScaleOf.calls (v0 : Value) (p0_paper : (List impl_Point)) (p1_light : Int) (p2_dark : Int) (r : Int × Int) (w : World) (H0 : Own [] w w []) (hS0 : SlE [] w v0 78 enc_impl_Point p0_paper) (h0 : impl_ScaleOf.f p0_paper p1_light p2_dark = some r) :
    Calls Try.prog 22 #[v0, .int .i64 p1_light, .int .i64 p2_dark] w (fun e w' => ∃ _ : Unit, e = .returned (.tuple #[.int .i64 r.1, .int .i64 r.2]) ∧ Own [] w w' []) := by
  unfold impl_ScaleOf.f at h0
  replace h0 := B.top h0
  refine calls_of_J (args := [v0, .int .i64 p1_light, .int .i64 p2_dark]) Try.func22 rfl Try.ntmps22 rfl [(0, v0), (1, .int .i64 p1_light), (2, .int .i64 p2_dark)] rfl H0 ?_
  refine J.seq ?_
  refine J.region ?_
  refine J.op rfl rfl rfl (V.as rfl rfl) ?_
  refine J.op rfl rfl rfl (V.as rfl rfl) ?_
  refine J.nil ?_
  refine J.tN ?_
  refine J.seq ?_
  refine J.seq ?_
  refine J.region ?_
  refine J.op rfl rfl rfl (V.mv rfl rfl) ?_
  refine J.op rfl rfl rfl (V.mv rfl rfl) ?_
  refine J.op rfl rfl rfl (V.mv rfl rfl) ?_
  obtain ⟨r1, hr2, h0⟩ := B.bind h0
  refine J.clA (l := [.tmp 10, .tmp 11]) [] [] cf43 (wN rfl) rfl rfl rfl rfl rfl rfl (fun w H => impl_areScaled.calls p1_light p2_dark r1 w (Own.refl w)  hr2) fun g3 => ?_
  obtain ⟨r4, hr5, h0⟩ := B.bind h0
  refine J.clA (l := [.tmp 9, .tmp 12]) [] [] cf51 (wN rfl) rfl rfl rfl rfl rfl rfl (fun w H => impl_curveCode.calls v0 p0_paper r1 r4 w (Own.refl w) (Sl.laterA hS0 H) hr5) fun g6 => ?_
  refine J.op rfl rfl rfl (V.as rfl rfl) ?_
  refine J.nil ?_
  refine J.tN ?_
  refine J.seq ?_
  refine J.region ?_
  refine J.op rfl rfl rfl (V.mv rfl rfl) ?_
  refine J.op rfl rfl rfl (V.cmp rfl rfl rfl rfl) ?_
  refine J.nil ?_
  refine J.tN ?_
  refine J.cond rfl (fun hB7 => ?_) (fun hB7 => ?_)
  · replace h0 := B.t hB7 h0
    refine J.seq ?_
    refine J.region ?_
    refine J.op rfl rfl rfl (V.mv rfl rfl) ?_
    refine J.op rfl rfl rfl (V.as rfl rfl) ?_
    refine J.op rfl rfl rfl (V.as rfl rfl) ?_
    refine J.nil ?_
    refine J.tN ?_
    refine J.ret ?_
    refine J.tR ?_
    obtain rfl := B.e h0
    exact J.ret2 rfl rfl rfl fun w H => ⟨(), rfl, H.pick [] (by decide)⟩
  · replace h0 := B.f hB7 h0
    refine J.skip ?_
    refine J.tN ?_
    refine J.seq ?_
    refine J.region ?_
    refine J.op rfl rfl rfl (V.mv rfl rfl) ?_
    refine J.op rfl rfl rfl (V.mv rfl rfl) ?_
    refine J.op rfl rfl rfl (V.mv rfl rfl) ?_
    obtain ⟨r8, hr9, h0⟩ := B.bind h0
    refine J.clA (l := [.tmp 17, .tmp 18, .tmp 19]) [] [] cf44 (wN rfl) rfl rfl rfl rfl rfl rfl (fun w H => impl_Curve_scale.calls v0 p0_paper p1_light p2_dark r8 w (Own.refl w) (Sl.laterA hS0 H) hr9) fun g10 => ?_
    refine J.op rfl rfl rfl (V.ex rfl rfl rfl) ?_
    refine J.op rfl rfl rfl (V.ex rfl rfl rfl) ?_
    refine J.op rfl rfl rfl (V.as rfl rfl) ?_
    refine J.op rfl rfl rfl (V.as rfl rfl) ?_
    refine J.nil ?_
    refine J.tN ?_
    refine J.ret ?_
    obtain rfl := B.e h0
    exact J.ret2 rfl rfl rfl fun w H => ⟨(), rfl, H.pick [] (by decide)⟩

/-! ### spec.l00Same: function 58 -/
noncomputable def spec_l00Same.b1 (p0_a : (List Int)) (p1_b : (List Int)) : Int → Option (Step (Int) (Sum (Unit) (Bool))) := fun s2 => bif (decide (s2 < (p0_a.length : Int))) then (bif (inB s2 p0_a.length) then (bif (inB s2 p1_b.length) then (bif ((rd (eI .i64) p0_a s2) != (rd (eI .i64) p1_b s2)) then (some (.done (.inr false))) else ((some (IntKind.wrap .i64 (s2 + 1))).bind fun i_9 => some (.next i_9))) else none) else none) else (some (.done (.inl ())))
noncomputable def spec_l00Same.f (p0_a : (List Int)) (p1_b : (List Int)) : Option (Bool) := bif ((p0_a.length : Int) != (p1_b.length : Int)) then (some false) else ((loopW (spec_l00Same.b1 p0_a p1_b) 0).bind (Sum.elim (fun y11 => some true) (fun r => some r)))
set_option maxRecDepth 100000 in
theorem spec_l00Same.calls (v0 : Value) (p0_a : (List Int)) (v1 : Value) (p1_b : (List Int)) (r : Bool) (w : World) (H0 : Own [] w w []) (hS0 : SlE [] w v0 2 (eI .i64) p0_a) (hS1 : SlE [] w v1 2 (eI .i64) p1_b) (h0 : spec_l00Same.f p0_a p1_b = some r) :
    Calls Try.prog 58 #[v0, v1] w (fun e w' => ∃ _ : Unit, e = .returned (.bool r) ∧ Own [] w w' []) := by
  unfold spec_l00Same.f at h0
  replace h0 := B.top h0
  refine calls_of_J (args := [v0, v1]) Try.func58 rfl Try.ntmps58 rfl [(0, v0), (1, v1)] rfl H0 ?_
  refine J.seq ?_
  refine J.region ?_
  refine J.op rfl rfl rfl (V.as rfl rfl) ?_
  refine J.nil ?_
  refine J.tN ?_
  refine J.seq ?_
  refine J.seq ?_
  refine J.region ?_
  refine J.op rfl rfl rfl (V.mv rfl rfl) ?_
  refine J.op rfl rfl rfl (V.lenS hS0 rfl rfl tl30) ?_
  refine J.op rfl rfl rfl (V.mv rfl rfl) ?_
  refine J.op rfl rfl rfl (V.lenS hS1 rfl rfl tl30) ?_
  refine J.op rfl rfl rfl (V.cmp rfl rfl rfl rfl) ?_
  refine J.nil ?_
  refine J.tN ?_
  refine J.cond rfl (fun hB1 => ?_) (fun hB1 => ?_)
  · replace h0 := B.t hB1 h0
    refine J.seq ?_
    refine J.region ?_
    refine J.op rfl rfl rfl (V.as rfl rfl) ?_
    refine J.nil ?_
    refine J.tN ?_
    refine J.ret ?_
    refine J.tR ?_
    obtain rfl := B.e h0
    exact J.ret1 rfl rfl fun w H => ⟨(), rfl, H.pick [] (by decide)⟩
  · replace h0 := B.f hB1 h0
    refine J.skip ?_
    refine J.tN ?_
    refine J.seq ?_
    refine J.seq ?_
    refine J.region ?_
    refine J.op rfl rfl rfl (V.as rfl rfl) ?_
    refine J.nil ?_
    refine J.tN ?_
    obtain ⟨o13, hy12, h0⟩ := B.bind h0
    refine J.cutQ (γ := (Unit) × (Unit)) (fun gy11 => o13 = .inl gy11.1) (fun gy11 => []) (fun gy11 => []) ?_ ?_
    · refine J.block ?_
      refine J.loop (γ := Unit) hy12 (fun s2 g3 => [(0, v0), (1, v1), (5, .int .i64 s2)]) (fun s2 g3 => []) () ?_ ?_
      · exact J.keep _ rfl (J.pickE [] rfl rfl J.here)
      · intro rec4 s2 g3 h1
        unfold spec_l00Same.b1 at h1
        refine J.seq ?_
        refine J.seq ?_
        refine J.region ?_
        refine J.op rfl rfl rfl (V.mv rfl rfl) ?_
        refine J.op rfl rfl rfl (V.mv rfl rfl) ?_
        refine J.op rfl rfl rfl (V.lenS hS0 rfl rfl tl30) ?_
        refine J.op rfl rfl rfl (V.cmp rfl rfl rfl rfl) ?_
        refine J.nil ?_
        refine J.tN ?_
        refine J.cond rfl (fun hB5 => ?_) (fun hB5 => ?_)
        · replace h1 := B.t hB5 h1
          refine J.skip ?_
          refine J.tN ?_
          refine J.seq ?_
          refine J.block ?_
          refine J.seq ?_
          refine J.quiet mixed (by kernel_rfl) ?_
          refine JQ.op rfl rfl rfl (V.mv rfl rfl) ?_
          refine JQ.op rfl rfl rfl (V.mv rfl rfl) ?_
          obtain ⟨hC6, h1⟩ := B.chk h1
          refine JQ.op rfl rfl rfl (V.ixS hS0 rfl rfl rfl tl30 ts2 hC6) ?_
          refine JQ.op rfl rfl rfl (V.elS0 hS0 hC6 rfl rfl Try.underlying2 ta2 rfl) ?_
          refine JQ.op rfl rfl rfl (V.mv rfl rfl) ?_
          refine JQ.op rfl rfl rfl (V.mv rfl rfl) ?_
          obtain ⟨hC7, h1⟩ := B.chk h1
          refine JQ.op rfl rfl rfl (V.ixS hS1 rfl rfl rfl tl30 ts2 hC7) ?_
          refine JQ.op rfl rfl rfl (V.elS0 hS1 hC7 rfl rfl Try.underlying2 ta2 rfl) ?_
          refine JQ.op rfl rfl rfl (V.cmp rfl rfl rfl rfl) ?_
          refine JQ.nil ?_
          refine J.tN ?_
          refine J.cond rfl (fun hB8 => ?_) (fun hB8 => ?_)
          · replace h1 := B.t hB8 h1
            refine J.seq ?_
            refine J.region ?_
            refine J.op rfl rfl rfl (V.as rfl rfl) ?_
            refine J.nil ?_
            refine J.tN ?_
            refine J.ret ?_
            refine J.bR ?_
            refine J.tR ?_
            refine J.tR ?_
            refine J.bR ?_
            refine J.tR ?_
            refine J.tR ?_
            obtain rfl := B.d h1
            replace h0 := B.inr h0
            obtain rfl := B.e h0
            exact J.ret1 rfl rfl fun w H => ⟨(), rfl, H.pick [] (by decide)⟩
          · replace h1 := B.f hB8 h1
            refine J.skip ?_
            refine J.bN ?_
            refine J.tN ?_
            refine J.region ?_
            refine J.op rfl rfl rfl (V.mv rfl rfl) ?_
            refine J.op rfl rfl rfl (V.ar rfl rfl rfl rfl) ?_
            refine J.op rfl rfl rfl (V.as rfl rfl) ?_
            obtain ⟨i_9, ei_9, h1⟩ := B.lt h1
            refine J.val (congrArg (Value.int .i64) ei_9) ?_
            refine J.nil ?_
            refine J.tN (J.next i_9 () (B.n h1) ?_)
            exact J.keep _ rfl (J.pickE [] rfl rfl J.here)
        · replace h1 := B.f hB5 h1
          refine J.exit ?_
          refine J.tE ?_
          refine J.tE ?_
          refine J.bE ?_
          obtain rfl := B.d h1
          refine J.tN (J.to ((), ()) rfl ?_)
          exact J.keep _ rfl (J.pickE [] rfl rfl J.here)
    · intro gy11 hG
      replace h0 := B.inl hG h0
      refine J.tN ?_
      refine J.seq ?_
      refine J.region ?_
      refine J.op rfl rfl rfl (V.as rfl rfl) ?_
      refine J.nil ?_
      refine J.tN ?_
      refine J.ret ?_
      obtain rfl := B.e h0
      exact J.ret1 rfl rfl fun w H => ⟨(), rfl, H.pick [] (by decide)⟩

/-! ### spec.SameNumbers: function 23 -/
noncomputable def spec_SameNumbers.f (p0_a : (List Int)) (p1_b : (List Int)) : Option (Bool) := (spec_l00Same.f p0_a p1_b).bind fun r1 => some r1
set_option maxRecDepth 100000 in
theorem spec_SameNumbers.calls (v0 : Value) (p0_a : (List Int)) (v1 : Value) (p1_b : (List Int)) (r : Bool) (w : World) (H0 : Own [] w w []) (hS0 : SlE [] w v0 2 (eI .i64) p0_a) (hS1 : SlE [] w v1 2 (eI .i64) p1_b) (h0 : spec_SameNumbers.f p0_a p1_b = some r) :
    Calls Try.prog 23 #[v0, v1] w (fun e w' => ∃ _ : Unit, e = .returned (.bool r) ∧ Own [] w w' []) := by
  unfold spec_SameNumbers.f at h0
  replace h0 := B.top h0
  refine calls_of_J (args := [v0, v1]) Try.func23 rfl Try.ntmps23 rfl [(0, v0), (1, v1)] rfl H0 ?_
  refine J.seq ?_
  refine J.region ?_
  refine J.op rfl rfl rfl (V.as rfl rfl) ?_
  refine J.nil ?_
  refine J.tN ?_
  refine J.seq ?_
  refine J.region ?_
  refine J.op rfl rfl rfl (V.mv rfl rfl) ?_
  refine J.op rfl rfl rfl (V.mv rfl rfl) ?_
  obtain ⟨r1, hr2, h0⟩ := B.bind h0
  refine J.clA (l := [.tmp 5, .tmp 6]) [] [] cf58 (wN rfl) rfl rfl rfl rfl rfl rfl (fun w H => spec_l00Same.calls v0 p0_a v1 p1_b r1 w (Own.refl w) (Sl.laterA hS0 H) (Sl.laterA hS1 H) hr2) fun g3 => ?_
  refine J.op rfl rfl rfl (V.as rfl rfl) ?_
  refine J.nil ?_
  refine J.tN ?_
  refine J.ret ?_
  obtain rfl := B.e h0
  exact J.ret1 rfl rfl fun w H => ⟨(), rfl, H.pick [] (by decide)⟩

/-! ### spec.ScaleOf: function 24 -/
noncomputable def spec_ScaleOf.f (p0_paper : (List impl_Point)) (p1_light : Int) (p2_dark : Int) : Option (Int × Int) := (spec_l02Ok.f p0_paper).bind fun r1 => bif (!r1) then (some (0, 1)) else ((spec_l05Ends.f p1_light p2_dark).bind fun r5 => bif (!r5) then (some (0, 2)) else ((spec_l05Scale.f p0_paper p1_light p2_dark).bind fun r9 => bif (!r9.2) then (some (0, 6)) else (some (r9.1, 0))))
set_option maxRecDepth 100000 in
theorem spec_ScaleOf.calls (v0 : Value) (p0_paper : (List impl_Point)) (p1_light : Int) (p2_dark : Int) (r : Int × Int) (w : World) (H0 : Own [] w w []) (hS0 : SlE [] w v0 78 enc_impl_Point p0_paper) (h0 : spec_ScaleOf.f p0_paper p1_light p2_dark = some r) :
    Calls Try.prog 24 #[v0, .int .i64 p1_light, .int .i64 p2_dark] w (fun e w' => ∃ _ : Unit, e = .returned (.tuple #[.int .i64 r.1, .int .i64 r.2]) ∧ Own [] w w' []) := by
  unfold spec_ScaleOf.f at h0
  replace h0 := B.top h0
  refine calls_of_J (args := [v0, .int .i64 p1_light, .int .i64 p2_dark]) Try.func24 rfl Try.ntmps24 rfl [(0, v0), (1, .int .i64 p1_light), (2, .int .i64 p2_dark)] rfl H0 ?_
  refine J.seq ?_
  refine J.region ?_
  refine J.op rfl rfl rfl (V.as rfl rfl) ?_
  refine J.op rfl rfl rfl (V.as rfl rfl) ?_
  refine J.nil ?_
  refine J.tN ?_
  refine J.seq ?_
  refine J.seq ?_
  refine J.region ?_
  refine J.op rfl rfl rfl (V.mv rfl rfl) ?_
  obtain ⟨r1, hr2, h0⟩ := B.bind h0
  refine J.clA (l := [.tmp 10]) [] [] cf55 (wN rfl) rfl rfl rfl rfl rfl rfl (fun w H => spec_l02Ok.calls v0 p0_paper r1 w (Own.refl w) (Sl.laterA hS0 H) hr2) fun g3 => ?_
  refine J.op rfl rfl rfl (V.nt rfl rfl) ?_
  refine J.nil ?_
  refine J.tN ?_
  refine J.cond rfl (fun hB4 => ?_) (fun hB4 => ?_)
  · replace h0 := B.t hB4 h0
    refine J.seq ?_
    refine J.region ?_
    refine J.op rfl rfl rfl (V.as rfl rfl) ?_
    refine J.op rfl rfl rfl (V.as rfl rfl) ?_
    refine J.nil ?_
    refine J.tN ?_
    refine J.ret ?_
    refine J.tR ?_
    obtain rfl := B.e h0
    exact J.ret2 rfl rfl rfl fun w H => ⟨(), rfl, H.pick [] (by decide)⟩
  · replace h0 := B.f hB4 h0
    refine J.skip ?_
    refine J.tN ?_
    refine J.seq ?_
    refine J.seq ?_
    refine J.region ?_
    refine J.op rfl rfl rfl (V.mv rfl rfl) ?_
    refine J.op rfl rfl rfl (V.mv rfl rfl) ?_
    obtain ⟨r5, hr6, h0⟩ := B.bind h0
    refine J.clA (l := [.tmp 13, .tmp 14]) [] [] cf41 (wN rfl) rfl rfl rfl rfl rfl rfl (fun w H => spec_l05Ends.calls p1_light p2_dark r5 w (Own.refl w)  hr6) fun g7 => ?_
    refine J.op rfl rfl rfl (V.nt rfl rfl) ?_
    refine J.nil ?_
    refine J.tN ?_
    refine J.cond rfl (fun hB8 => ?_) (fun hB8 => ?_)
    · replace h0 := B.t hB8 h0
      refine J.seq ?_
      refine J.region ?_
      refine J.op rfl rfl rfl (V.as rfl rfl) ?_
      refine J.op rfl rfl rfl (V.as rfl rfl) ?_
      refine J.nil ?_
      refine J.tN ?_
      refine J.ret ?_
      refine J.tR ?_
      obtain rfl := B.e h0
      exact J.ret2 rfl rfl rfl fun w H => ⟨(), rfl, H.pick [] (by decide)⟩
    · replace h0 := B.f hB8 h0
      refine J.skip ?_
      refine J.tN ?_
      refine J.seq ?_
      refine J.region ?_
      refine J.op rfl rfl rfl (V.mv rfl rfl) ?_
      refine J.op rfl rfl rfl (V.mv rfl rfl) ?_
      refine J.op rfl rfl rfl (V.mv rfl rfl) ?_
      obtain ⟨r9, hr10, h0⟩ := B.bind h0
      refine J.clA (l := [.tmp 18, .tmp 19, .tmp 20]) [] [] cf42 (wN rfl) rfl rfl rfl rfl rfl rfl (fun w H => spec_l05Scale.calls v0 p0_paper p1_light p2_dark r9 w (Own.refl w) (Sl.laterA hS0 H) hr10) fun g11 => ?_
      refine J.op rfl rfl rfl (V.mv rfl rfl) ?_
      refine J.op rfl rfl rfl (V.ex rfl rfl rfl) ?_
      refine J.op rfl rfl rfl (V.ex rfl rfl rfl) ?_
      refine J.op rfl rfl rfl (V.as rfl rfl) ?_
      refine J.op rfl rfl rfl (V.as rfl rfl) ?_
      refine J.nil ?_
      refine J.tN ?_
      refine J.seq ?_
      refine J.seq ?_
      refine J.region ?_
      refine J.op rfl rfl rfl (V.mv rfl rfl) ?_
      refine J.op rfl rfl rfl (V.nt rfl rfl) ?_
      refine J.nil ?_
      refine J.tN ?_
      refine J.cond rfl (fun hB12 => ?_) (fun hB12 => ?_)
      · replace h0 := B.t hB12 h0
        refine J.seq ?_
        refine J.region ?_
        refine J.op rfl rfl rfl (V.as rfl rfl) ?_
        refine J.op rfl rfl rfl (V.as rfl rfl) ?_
        refine J.nil ?_
        refine J.tN ?_
        refine J.ret ?_
        refine J.tR ?_
        obtain rfl := B.e h0
        exact J.ret2 rfl rfl rfl fun w H => ⟨(), rfl, H.pick [] (by decide)⟩
      · replace h0 := B.f hB12 h0
        refine J.skip ?_
        refine J.tN ?_
        refine J.seq ?_
        refine J.region ?_
        refine J.op rfl rfl rfl (V.mv rfl rfl) ?_
        refine J.op rfl rfl rfl (V.as rfl rfl) ?_
        refine J.op rfl rfl rfl (V.as rfl rfl) ?_
        refine J.nil ?_
        refine J.tN ?_
        refine J.ret ?_
        obtain rfl := B.e h0
        exact J.ret2 rfl rfl rfl fun w H => ⟨(), rfl, H.pick [] (by decide)⟩

/-! ### impl.printCode: function 59 -/
noncomputable def impl_printCode.f (p0_film : (List impl_Point)) (p1_paper : (List impl_Point)) (p2_fine : Bool) : Option (Int) := (impl_ValidCurve.f p0_film).bind fun r1 => bif (!r1) then (some 1) else ((impl_curveCode.f p1_paper p2_fine).bind fun r5 => some r5)
set_option maxRecDepth 100000 in
theorem impl_printCode.calls (v0 : Value) (p0_film : (List impl_Point)) (v1 : Value) (p1_paper : (List impl_Point)) (p2_fine : Bool) (r : Int) (w : World) (H0 : Own [] w w []) (hS0 : SlE [] w v0 78 enc_impl_Point p0_film) (hS1 : SlE [] w v1 78 enc_impl_Point p1_paper) (h0 : impl_printCode.f p0_film p1_paper p2_fine = some r) :
    Calls Try.prog 59 #[v0, v1, .bool p2_fine] w (fun e w' => ∃ _ : Unit, e = .returned (.int .i64 r) ∧ Own [] w w' []) := by
  unfold impl_printCode.f at h0
  replace h0 := B.top h0
  refine calls_of_J (args := [v0, v1, .bool p2_fine]) Try.func59 rfl Try.ntmps59 rfl [(0, v0), (1, v1), (2, .bool p2_fine)] rfl H0 ?_
  refine J.seq ?_
  refine J.region ?_
  refine J.op rfl rfl rfl (V.as rfl rfl) ?_
  refine J.nil ?_
  refine J.tN ?_
  refine J.seq ?_
  refine J.seq ?_
  refine J.region ?_
  refine J.op rfl rfl rfl (V.mv rfl rfl) ?_
  obtain ⟨r1, hr2, h0⟩ := B.bind h0
  refine J.clA (l := [.tmp 7]) [] [] cf70 (wN rfl) rfl rfl rfl rfl rfl rfl (fun w H => impl_ValidCurve.calls v0 p0_film r1 w (Own.refl w) (Sl.laterA hS0 H) hr2) fun g3 => ?_
  refine J.op rfl rfl rfl (V.nt rfl rfl) ?_
  refine J.nil ?_
  refine J.tN ?_
  refine J.cond rfl (fun hB4 => ?_) (fun hB4 => ?_)
  · replace h0 := B.t hB4 h0
    refine J.seq ?_
    refine J.region ?_
    refine J.op rfl rfl rfl (V.as rfl rfl) ?_
    refine J.nil ?_
    refine J.tN ?_
    refine J.ret ?_
    refine J.tR ?_
    obtain rfl := B.e h0
    exact J.ret1 rfl rfl fun w H => ⟨(), rfl, H.pick [] (by decide)⟩
  · replace h0 := B.f hB4 h0
    refine J.skip ?_
    refine J.tN ?_
    refine J.seq ?_
    refine J.region ?_
    refine J.op rfl rfl rfl (V.mv rfl rfl) ?_
    refine J.op rfl rfl rfl (V.mv rfl rfl) ?_
    obtain ⟨r5, hr6, h0⟩ := B.bind h0
    refine J.clA (l := [.tmp 10, .tmp 11]) [] [] cf51 (wN rfl) rfl rfl rfl rfl rfl rfl (fun w H => impl_curveCode.calls v1 p1_paper p2_fine r5 w (Own.refl w) (Sl.laterA hS1 H) hr6) fun g7 => ?_
    refine J.op rfl rfl rfl (V.as rfl rfl) ?_
    refine J.nil ?_
    refine J.tN ?_
    refine J.ret ?_
    obtain rfl := B.e h0
    exact J.ret1 rfl rfl fun w H => ⟨(), rfl, H.pick [] (by decide)⟩

/-! ### impl.ConvertLight: function 25 -/
noncomputable def impl_ConvertLight.f (p0_from : (List impl_Point)) (p1_to : (List impl_Point)) (p2_light : Int) : Option (Int × Int) := (impl_areThirds.f p2_light).bind fun r1 => (impl_printCode.f p0_from p1_to r1).bind fun r4 => bif (r4 != 0) then (some (0, r4)) else ((impl_Curve_at.f p0_from p2_light).bind fun r8 => (impl_Curve_leastLight.f p1_to 0 r8).bind fun r11 => (impl_areThirds.f r11).bind fun r14 => bif (!r14) then (some (0, 6)) else (some (r11, 0)))
set_option maxRecDepth 100000 in
theorem impl_ConvertLight.calls (v0 : Value) (p0_from : (List impl_Point)) (v1 : Value) (p1_to : (List impl_Point)) (p2_light : Int) (r : Int × Int) (w : World) (H0 : Own [] w w []) (hS0 : SlE [] w v0 78 enc_impl_Point p0_from) (hS1 : SlE [] w v1 78 enc_impl_Point p1_to) (h0 : impl_ConvertLight.f p0_from p1_to p2_light = some r) :
    Calls Try.prog 25 #[v0, v1, .int .i64 p2_light] w (fun e w' => ∃ _ : Unit, e = .returned (.tuple #[.int .i64 r.1, .int .i64 r.2]) ∧ Own [] w w' []) := by
  unfold impl_ConvertLight.f at h0
  replace h0 := B.top h0
  refine calls_of_J (args := [v0, v1, .int .i64 p2_light]) Try.func25 rfl Try.ntmps25 rfl [(0, v0), (1, v1), (2, .int .i64 p2_light)] rfl H0 ?_
  refine J.seq ?_
  refine J.region ?_
  refine J.op rfl rfl rfl (V.as rfl rfl) ?_
  refine J.op rfl rfl rfl (V.as rfl rfl) ?_
  refine J.nil ?_
  refine J.tN ?_
  refine J.seq ?_
  refine J.seq ?_
  refine J.region ?_
  refine J.op rfl rfl rfl (V.mv rfl rfl) ?_
  refine J.op rfl rfl rfl (V.mv rfl rfl) ?_
  refine J.op rfl rfl rfl (V.mv rfl rfl) ?_
  obtain ⟨r1, hr2, h0⟩ := B.bind h0
  refine J.clA (l := [.tmp 12]) [] [] cf53 (wN rfl) rfl rfl rfl rfl rfl rfl (fun w H => impl_areThirds.calls p2_light r1 w (Own.refl w)  hr2) fun g3 => ?_
  obtain ⟨r4, hr5, h0⟩ := B.bind h0
  refine J.clA (l := [.tmp 10, .tmp 11, .tmp 13]) [] [] cf59 (wN rfl) rfl rfl rfl rfl rfl rfl (fun w H => impl_printCode.calls v0 p0_from v1 p1_to r1 r4 w (Own.refl w) (Sl.laterA hS0 H) (Sl.laterA hS1 H) hr5) fun g6 => ?_
  refine J.op rfl rfl rfl (V.as rfl rfl) ?_
  refine J.nil ?_
  refine J.tN ?_
  refine J.seq ?_
  refine J.region ?_
  refine J.op rfl rfl rfl (V.mv rfl rfl) ?_
  refine J.op rfl rfl rfl (V.cmp rfl rfl rfl rfl) ?_
  refine J.nil ?_
  refine J.tN ?_
  refine J.cond rfl (fun hB7 => ?_) (fun hB7 => ?_)
  · replace h0 := B.t hB7 h0
    refine J.seq ?_
    refine J.region ?_
    refine J.op rfl rfl rfl (V.mv rfl rfl) ?_
    refine J.op rfl rfl rfl (V.as rfl rfl) ?_
    refine J.op rfl rfl rfl (V.as rfl rfl) ?_
    refine J.nil ?_
    refine J.tN ?_
    refine J.ret ?_
    refine J.tR ?_
    obtain rfl := B.e h0
    exact J.ret2 rfl rfl rfl fun w H => ⟨(), rfl, H.pick [] (by decide)⟩
  · replace h0 := B.f hB7 h0
    refine J.skip ?_
    refine J.tN ?_
    refine J.seq ?_
    refine J.region ?_
    refine J.op rfl rfl rfl (V.mv rfl rfl) ?_
    refine J.op rfl rfl rfl (V.mv rfl rfl) ?_
    refine J.op rfl rfl rfl (V.mv rfl rfl) ?_
    obtain ⟨r8, hr9, h0⟩ := B.bind h0
    refine J.clA (l := [.tmp 19, .tmp 20]) [] [] cf60 (wN rfl) rfl rfl rfl rfl rfl rfl (fun w H => impl_Curve_at.calls v0 p0_from p2_light r8 w (Own.refl w) (Sl.laterA hS0 H) hr9) fun g10 => ?_
    obtain ⟨r11, hr12, h0⟩ := B.bind h0
    refine J.clA (l := [.tmp 18, .const (.int .i64 0), .tmp 21]) [] [] cf52 (wN rfl) rfl rfl rfl rfl rfl rfl (fun w H => impl_Curve_leastLight.calls v1 p1_to 0 r8 r11 w (Own.refl w) (Sl.laterA hS1 H) hr12) fun g13 => ?_
    refine J.op rfl rfl rfl (V.as rfl rfl) ?_
    refine J.nil ?_
    refine J.tN ?_
    refine J.seq ?_
    refine J.seq ?_
    refine J.region ?_
    refine J.op rfl rfl rfl (V.mv rfl rfl) ?_
    obtain ⟨r14, hr15, h0⟩ := B.bind h0
    refine J.clA (l := [.tmp 23]) [] [] cf53 (wN rfl) rfl rfl rfl rfl rfl rfl (fun w H => impl_areThirds.calls r11 r14 w (Own.refl w)  hr15) fun g16 => ?_
    refine J.op rfl rfl rfl (V.nt rfl rfl) ?_
    refine J.nil ?_
    refine J.tN ?_
    refine J.cond rfl (fun hB17 => ?_) (fun hB17 => ?_)
    · replace h0 := B.t hB17 h0
      refine J.seq ?_
      refine J.region ?_
      refine J.op rfl rfl rfl (V.as rfl rfl) ?_
      refine J.op rfl rfl rfl (V.as rfl rfl) ?_
      refine J.nil ?_
      refine J.tN ?_
      refine J.ret ?_
      refine J.tR ?_
      obtain rfl := B.e h0
      exact J.ret2 rfl rfl rfl fun w H => ⟨(), rfl, H.pick [] (by decide)⟩
    · replace h0 := B.f hB17 h0
      refine J.skip ?_
      refine J.tN ?_
      refine J.seq ?_
      refine J.region ?_
      refine J.op rfl rfl rfl (V.mv rfl rfl) ?_
      refine J.op rfl rfl rfl (V.as rfl rfl) ?_
      refine J.op rfl rfl rfl (V.as rfl rfl) ?_
      refine J.nil ?_
      refine J.tN ?_
      refine J.ret ?_
      obtain rfl := B.e h0
      exact J.ret2 rfl rfl rfl fun w H => ⟨(), rfl, H.pick [] (by decide)⟩

/-! ### spec.l03Thirds: function 61 -/
noncomputable def spec_l03Thirds.f (p0_n : Int) : Option (Bool) := (spec_l00In.f p0_n 0 36).bind fun r1 => some r1
set_option maxRecDepth 100000 in
theorem spec_l03Thirds.calls (p0_n : Int) (r : Bool) (w : World) (H0 : Own [] w w []) (h0 : spec_l03Thirds.f p0_n = some r) :
    Calls Try.prog 61 #[.int .i64 p0_n] w (fun e w' => ∃ _ : Unit, e = .returned (.bool r) ∧ Own [] w w' []) := by
  unfold spec_l03Thirds.f at h0
  replace h0 := B.top h0
  refine calls_of_J (args := [.int .i64 p0_n]) Try.func61 rfl Try.ntmps61 rfl [(0, .int .i64 p0_n)] rfl H0 ?_
  refine J.seq ?_
  refine J.region ?_
  refine J.op rfl rfl rfl (V.as rfl rfl) ?_
  refine J.nil ?_
  refine J.tN ?_
  refine J.seq ?_
  refine J.region ?_
  refine J.op rfl rfl rfl (V.mv rfl rfl) ?_
  obtain ⟨r1, hr2, h0⟩ := B.bind h0
  refine J.clA (l := [.tmp 3, .const (.int .i64 0), .const (.int .i64 36)]) [] [] cf66 (wN rfl) rfl rfl rfl rfl rfl rfl (fun w H => spec_l00In.calls p0_n 0 36 r1 w (Own.refl w)  hr2) fun g3 => ?_
  refine J.op rfl rfl rfl (V.as rfl rfl) ?_
  refine J.nil ?_
  refine J.tN ?_
  refine J.ret ?_
  obtain rfl := B.e h0
  exact J.ret1 rfl rfl fun w H => ⟨(), rfl, H.pick [] (by decide)⟩

/-! ### spec.ConvertLight: function 26 -/
noncomputable def spec_ConvertLight.f (p0_from : (List impl_Point)) (p1_to : (List impl_Point)) (p2_light : Int) : Option (Int × Int) := ((spec_l02Ok.f p0_from).bind fun r3 => bif (!r3) then (some true) else ((spec_l02Ok.f p1_to).bind fun r7 => some (!r7)) : Option (Bool)).bind fun y1 => bif y1 then (some (0, 1)) else ((spec_l03Thirds.f p2_light).bind fun r12 => bif (!r12) then (some (0, 2)) else ((spec_l02At.f p0_from p2_light).bind fun r16 => (spec_l05Least.f p1_to 0 r16).bind fun r19 => bif (decide (r19 < 0)) then (some (0, 6)) else (some (r19, 0))))
set_option maxRecDepth 100000 in
theorem spec_ConvertLight.calls (v0 : Value) (p0_from : (List impl_Point)) (v1 : Value) (p1_to : (List impl_Point)) (p2_light : Int) (r : Int × Int) (w : World) (H0 : Own [] w w []) (hS0 : SlE [] w v0 78 enc_impl_Point p0_from) (hS1 : SlE [] w v1 78 enc_impl_Point p1_to) (h0 : spec_ConvertLight.f p0_from p1_to p2_light = some r) :
    Calls Try.prog 26 #[v0, v1, .int .i64 p2_light] w (fun e w' => ∃ _ : Unit, e = .returned (.tuple #[.int .i64 r.1, .int .i64 r.2]) ∧ Own [] w w' []) := by
  unfold spec_ConvertLight.f at h0
  replace h0 := B.top h0
  refine calls_of_J (args := [v0, v1, .int .i64 p2_light]) Try.func26 rfl Try.ntmps26 rfl [(0, v0), (1, v1), (2, .int .i64 p2_light)] rfl H0 ?_
  refine J.seq ?_
  refine J.region ?_
  refine J.op rfl rfl rfl (V.as rfl rfl) ?_
  refine J.op rfl rfl rfl (V.as rfl rfl) ?_
  refine J.nil ?_
  refine J.tN ?_
  refine J.seq ?_
  refine J.seq ?_
  obtain ⟨y1, hy10, h0⟩ := B.bind h0
  replace hy10 := B.top hy10
  refine J.cut (γ := Unit) (fun _ => True) (fun gy2 => [(0, v0), (1, v1), (2, .int .i64 p2_light), (16, .bool y1)]) (fun gy2 => []) ?_ ?_
  · have h1 := hy10
    refine J.region ?_
    refine J.op rfl rfl rfl (V.mv rfl rfl) ?_
    obtain ⟨r3, hr4, h1⟩ := B.bind h1
    refine J.clA (l := [.tmp 9]) [] [] cf55 (wN rfl) rfl rfl rfl rfl rfl rfl (fun w H => spec_l02Ok.calls v0 p0_from r3 w (Own.refl w) (Sl.laterA hS0 H) hr4) fun g5 => ?_
    refine J.op rfl rfl rfl (V.nt rfl rfl) ?_
    refine J.op rfl rfl rfl (V.mv rfl rfl) ?_
    refine J.split 12 rfl (fun hB6 => ?_) (fun hB6 => ?_)
    · replace h1 := B.t hB6 h1
      refine J.opOff rfl rfl rfl rfl rfl rfl ?_
      refine J.opOff rfl rfl rfl rfl rfl rfl ?_
      refine J.opOff rfl rfl rfl rfl rfl rfl ?_
      refine J.op rfl rfl rfl (V.pkT rfl rfl rfl) ?_
      refine J.nil ?_
      obtain rfl := B.e h1
      refine J.tN (J.to () trivial ?_)
      exact J.keep _ rfl (J.pickE [] rfl rfl J.here)
    · replace h1 := B.f hB6 h1
      refine J.opOn rfl rfl rfl rfl rfl (V.mv rfl rfl) ?_
      obtain ⟨r7, hr8, h1⟩ := B.bind h1
      refine J.clA (l := [.tmp 13]) [] [] cf55 (wY rfl rfl rfl) rfl rfl rfl rfl rfl rfl (fun w H => spec_l02Ok.calls v1 p1_to r7 w (Own.refl w) (Sl.laterA hS1 H) hr8) fun g9 => ?_
      refine J.opOn rfl rfl rfl rfl rfl (V.nt rfl rfl) ?_
      refine J.op rfl rfl rfl (V.pkF rfl rfl rfl) ?_
      refine J.nil ?_
      obtain rfl := B.e h1
      refine J.tN (J.to () trivial ?_)
      exact J.keep _ rfl (J.pickE [] rfl rfl J.here)
  · intro gy2 _
    refine J.cond rfl (fun hB11 => ?_) (fun hB11 => ?_)
    · replace h0 := B.t hB11 h0
      refine J.seq ?_
      refine J.region ?_
      refine J.op rfl rfl rfl (V.as rfl rfl) ?_
      refine J.op rfl rfl rfl (V.as rfl rfl) ?_
      refine J.nil ?_
      refine J.tN ?_
      refine J.ret ?_
      refine J.tR ?_
      obtain rfl := B.e h0
      exact J.ret2 rfl rfl rfl fun w H => ⟨(), rfl, H.pick [] (by decide)⟩
    · replace h0 := B.f hB11 h0
      refine J.skip ?_
      refine J.tN ?_
      refine J.seq ?_
      refine J.seq ?_
      refine J.region ?_
      refine J.op rfl rfl rfl (V.mv rfl rfl) ?_
      obtain ⟨r12, hr13, h0⟩ := B.bind h0
      refine J.clA (l := [.tmp 17]) [] [] cf61 (wN rfl) rfl rfl rfl rfl rfl rfl (fun w H => spec_l03Thirds.calls p2_light r12 w (Own.refl w)  hr13) fun g14 => ?_
      refine J.op rfl rfl rfl (V.nt rfl rfl) ?_
      refine J.nil ?_
      refine J.tN ?_
      refine J.cond rfl (fun hB15 => ?_) (fun hB15 => ?_)
      · replace h0 := B.t hB15 h0
        refine J.seq ?_
        refine J.region ?_
        refine J.op rfl rfl rfl (V.as rfl rfl) ?_
        refine J.op rfl rfl rfl (V.as rfl rfl) ?_
        refine J.nil ?_
        refine J.tN ?_
        refine J.ret ?_
        refine J.tR ?_
        obtain rfl := B.e h0
        exact J.ret2 rfl rfl rfl fun w H => ⟨(), rfl, H.pick [] (by decide)⟩
      · replace h0 := B.f hB15 h0
        refine J.skip ?_
        refine J.tN ?_
        refine J.seq ?_
        refine J.region ?_
        refine J.op rfl rfl rfl (V.mv rfl rfl) ?_
        refine J.op rfl rfl rfl (V.mv rfl rfl) ?_
        refine J.op rfl rfl rfl (V.mv rfl rfl) ?_
        obtain ⟨r16, hr17, h0⟩ := B.bind h0
        refine J.clA (l := [.tmp 21, .tmp 22]) [] [] cf62 (wN rfl) rfl rfl rfl rfl rfl rfl (fun w H => spec_l02At.calls v0 p0_from p2_light r16 w (Own.refl w) (Sl.laterA hS0 H) hr17) fun g18 => ?_
        obtain ⟨r19, hr20, h0⟩ := B.bind h0
        refine J.clA (l := [.tmp 20, .const (.int .i64 0), .tmp 23]) [] [] cf56 (wN rfl) rfl rfl rfl rfl rfl rfl (fun w H => spec_l05Least.calls v1 p1_to 0 r16 r19 w (Own.refl w) (Sl.laterA hS1 H) hr20) fun g21 => ?_
        refine J.op rfl rfl rfl (V.as rfl rfl) ?_
        refine J.nil ?_
        refine J.tN ?_
        refine J.seq ?_
        refine J.seq ?_
        refine J.region ?_
        refine J.op rfl rfl rfl (V.mv rfl rfl) ?_
        refine J.op rfl rfl rfl (V.cmp rfl rfl rfl rfl) ?_
        refine J.nil ?_
        refine J.tN ?_
        refine J.cond rfl (fun hB22 => ?_) (fun hB22 => ?_)
        · replace h0 := B.t hB22 h0
          refine J.seq ?_
          refine J.region ?_
          refine J.op rfl rfl rfl (V.as rfl rfl) ?_
          refine J.op rfl rfl rfl (V.as rfl rfl) ?_
          refine J.nil ?_
          refine J.tN ?_
          refine J.ret ?_
          refine J.tR ?_
          obtain rfl := B.e h0
          exact J.ret2 rfl rfl rfl fun w H => ⟨(), rfl, H.pick [] (by decide)⟩
        · replace h0 := B.f hB22 h0
          refine J.skip ?_
          refine J.tN ?_
          refine J.seq ?_
          refine J.region ?_
          refine J.op rfl rfl rfl (V.mv rfl rfl) ?_
          refine J.op rfl rfl rfl (V.as rfl rfl) ?_
          refine J.op rfl rfl rfl (V.as rfl rfl) ?_
          refine J.nil ?_
          refine J.tN ?_
          refine J.ret ?_
          obtain rfl := B.e h0
          exact J.ret2 rfl rfl rfl fun w H => ⟨(), rfl, H.pick [] (by decide)⟩

/-! ### impl.ConvertTable: function 27 -/
noncomputable def impl_ConvertTable.b1 (p0_from : (List impl_Point)) (p1_to : (List impl_Point)) : (Int × (List Int)) → Option (Step (Int × (List Int)) ((List Int))) := fun s8 => (impl_areThirds.f s8.1).bind fun r11 => bif r11 then ((impl_Curve_at.f p0_from s8.1).bind fun r15 => (impl_Curve_leastLight.f p1_to 0 r15).bind fun r18 => ((impl_areThirds.f r18).bind fun r23 => bif (!r23) then (some (-1)) else (some r18) : Option (Int)).bind fun y21 => bif (roomB s8.2.length 1 8) then ((some (IntKind.wrap .i64 (s8.1 + 1))).bind fun light_32 => some (.next (light_32, s8.2 ++ [y21]))) else none) else (some (.done s8.2))
noncomputable def impl_ConvertTable.f (p0_from : (List impl_Point)) (p1_to : (List impl_Point)) : Option ((List Int) × Int) := (impl_printCode.f p0_from p1_to true).bind fun r1 => bif (r1 != 0) then (some (([] : List Int), r1)) else ((loopW (impl_ConvertTable.b1 p0_from p1_to) (0, ([] : List Int))).bind fun y33 => some (y33, 0))
set_option maxRecDepth 100000 in
theorem impl_ConvertTable.calls (v0 : Value) (p0_from : (List impl_Point)) (v1 : Value) (p1_to : (List impl_Point)) (r : (List Int) × Int) (w : World) (H0 : Own [] w w []) (hS0 : SlE [] w v0 78 enc_impl_Point p0_from) (hS1 : SlE [] w v1 78 enc_impl_Point p1_to) (h0 : impl_ConvertTable.f p0_from p1_to = some r) :
    Calls Try.prog 27 #[v0, v1] w (fun e w' => ∃ gh : Value, e = .returned (.tuple #[gh, .int .i64 r.2]) ∧ Own [] w w' [.rowE gh 2 (eI .i64) r.1]) := by
  unfold impl_ConvertTable.f at h0
  replace h0 := B.top h0
  refine calls_of_J (args := [v0, v1]) Try.func27 rfl Try.ntmps27 rfl [(0, v0), (1, v1)] rfl H0 ?_
  refine J.seq ?_
  refine J.region ?_
  refine J.op rfl rfl rfl (V.as rfl rfl) ?_
  refine J.op rfl rfl rfl (V.as rfl rfl) ?_
  refine J.nil ?_
  refine J.tN ?_
  refine J.seq ?_
  refine J.seq ?_
  refine J.region ?_
  refine J.op rfl rfl rfl (V.mv rfl rfl) ?_
  refine J.op rfl rfl rfl (V.mv rfl rfl) ?_
  obtain ⟨r1, hr2, h0⟩ := B.bind h0
  refine J.clA (l := [.tmp 10, .tmp 11, .const (.bool true)]) [] [] cf59 (wN rfl) rfl rfl rfl rfl rfl rfl (fun w H => impl_printCode.calls v0 p0_from v1 p1_to true r1 w (Own.refl w) (Sl.laterA hS0 H) (Sl.laterA hS1 H) hr2) fun g3 => ?_
  refine J.op rfl rfl rfl (V.as rfl rfl) ?_
  refine J.nil ?_
  refine J.tN ?_
  refine J.seq ?_
  refine J.region ?_
  refine J.op rfl rfl rfl (V.mv rfl rfl) ?_
  refine J.op rfl rfl rfl (V.cmp rfl rfl rfl rfl) ?_
  refine J.nil ?_
  refine J.tN ?_
  refine J.cond rfl (fun hB4 => ?_) (fun hB4 => ?_)
  · replace h0 := B.t hB4 h0
    refine J.seq ?_
    refine J.region ?_
    refine J.op rfl rfl rfl (V.mv rfl rfl) ?_
    refine J.op rfl rfl rfl (V.as rfl rfl) ?_
    refine J.op rfl rfl rfl (V.as rfl rfl) ?_
    refine J.nil ?_
    refine J.tN ?_
    refine J.ret ?_
    refine J.tR ?_
    refine J.nilRow 2 (eI .i64) ?_
    obtain rfl := B.e h0
    exact J.ret2 rfl rfl rfl fun w H => ⟨(.slice none 0 0), rfl, H.pick [0] (by decide)⟩
  · replace h0 := B.f hB4 h0
    refine J.skip ?_
    refine J.tN ?_
    refine J.seq ?_
    refine J.region ?_
    refine J.bs (l := []) (cs := []) (E := 2) rfl rfl rfl rfl rfl (fun w => by kernel_rfl) fun b6 => ?_
    refine J.op rfl rfl rfl (V.as rfl rfl) ?_
    refine J.nil ?_
    refine J.tN ?_
    refine J.seq ?_
    refine J.seq ?_
    refine J.region ?_
    refine J.op rfl rfl rfl (V.as rfl rfl) ?_
    refine J.nil ?_
    refine J.tN ?_
    refine J.blkRowE (eI .i64) ([] : List Int) 0 rfl rfl rfl ?_
    obtain ⟨y33, hy35, h0⟩ := B.bind h0
    refine J.cutQ (γ := Value) (fun _ => True) (fun gy34 => [(7, gy34)]) (fun gy34 => [.rowE gy34 2 (eI .i64) y33]) ?_ ?_
    · refine J.block ?_
      refine J.loop (γ := Value) hy35 (fun s8 g9 => [(0, v0), (1, v1), (7, g9), (8, .int .i64 s8.1)]) (fun s8 g9 => [.rowE g9 2 (eI .i64) s8.2]) (.slice (some ⟨b6, 0, none⟩) 0 0) ?_ ?_
      · exact J.keep _ rfl (J.pickE [0] rfl rfl J.here)
      · intro rec10 s8 g9 h1
        unfold impl_ConvertTable.b1 at h1
        refine J.seq ?_
        refine J.seq ?_
        refine J.region ?_
        refine J.op rfl rfl rfl (V.mv rfl rfl) ?_
        obtain ⟨r11, hr12, h1⟩ := B.bind h1
        refine J.clA (l := [.tmp 17]) [] [.rowE g9 2 (eI .i64) s8.2] cf53 (wN rfl) rfl rfl rfl rfl rfl rfl (fun w H => impl_areThirds.calls s8.1 r11 w (Own.refl w)  hr12) fun g13 => ?_
        refine J.nil ?_
        refine J.tN ?_
        refine J.cond rfl (fun hB14 => ?_) (fun hB14 => ?_)
        · replace h1 := B.t hB14 h1
          refine J.skip ?_
          refine J.tN ?_
          refine J.seq ?_
          refine J.block ?_
          refine J.seq ?_
          refine J.region ?_
          refine J.op rfl rfl rfl (V.mv rfl rfl) ?_
          refine J.op rfl rfl rfl (V.mv rfl rfl) ?_
          refine J.op rfl rfl rfl (V.mv rfl rfl) ?_
          obtain ⟨r15, hr16, h1⟩ := B.bind h1
          refine J.clA (l := [.tmp 22, .tmp 23]) [] [.rowE g9 2 (eI .i64) s8.2] cf60 (wN rfl) rfl rfl rfl rfl rfl rfl (fun w H => impl_Curve_at.calls v0 p0_from s8.1 r15 w (Own.refl w) (Sl.laterA hS0 H) hr16) fun g17 => ?_
          obtain ⟨r18, hr19, h1⟩ := B.bind h1
          refine J.clA (l := [.tmp 21, .const (.int .i64 0), .tmp 24]) [] [.rowE g9 2 (eI .i64) s8.2] cf52 (wN rfl) rfl rfl rfl rfl rfl rfl (fun w H => impl_Curve_leastLight.calls v1 p1_to 0 r15 r18 w (Own.refl w) (Sl.laterA hS1 H) hr19) fun g20 => ?_
          refine J.op rfl rfl rfl (V.as rfl rfl) ?_
          refine J.nil ?_
          refine J.tN ?_
          refine J.seq ?_
          obtain ⟨y21, hy27, h1⟩ := B.bind h1
          replace hy27 := B.top hy27
          refine J.cut (γ := Unit) (fun _ => True) (fun gy22 => [(0, v0), (1, v1), (7, g9), (8, .int .i64 s8.1), (9, .int .i64 y21)]) (fun gy22 => [.rowE g9 2 (eI .i64) s8.2]) ?_ ?_
          · have h2 := hy27
            refine J.seq ?_
            refine J.region ?_
            refine J.op rfl rfl rfl (V.mv rfl rfl) ?_
            obtain ⟨r23, hr24, h2⟩ := B.bind h2
            refine J.clA (l := [.tmp 26]) [] [.rowE g9 2 (eI .i64) s8.2] cf53 (wN rfl) rfl rfl rfl rfl rfl rfl (fun w H => impl_areThirds.calls r18 r23 w (Own.refl w)  hr24) fun g25 => ?_
            refine J.op rfl rfl rfl (V.nt rfl rfl) ?_
            refine J.nil ?_
            refine J.tN ?_
            refine J.cond rfl (fun hB26 => ?_) (fun hB26 => ?_)
            · replace h2 := B.t hB26 h2
              refine J.region ?_
              refine J.op rfl rfl rfl (V.as rfl rfl) ?_
              refine J.nil ?_
              obtain rfl := B.e h2
              refine J.tN (J.to () trivial ?_)
              exact J.keep _ rfl (J.pickE [0] rfl rfl J.here)
            · replace h2 := B.f hB26 h2
              refine J.skip ?_
              obtain rfl := B.e h2
              refine J.tN (J.to () trivial ?_)
              exact J.keep _ rfl (J.pickE [0] rfl rfl J.here)
          · intro gy22 _
            refine J.region ?_
            refine J.op rfl rfl rfl (V.mv rfl rfl) ?_
            refine J.op rfl rfl rfl (V.mv rfl rfl) ?_
            refine J.bs (l := [(0, .tmp 30)]) (cs := [.int .i64 y21]) (E := 2) rfl rfl rfl rfl rfl (fun w => by kernel_rfl) fun b28 => ?_
            obtain ⟨hC31, h1⟩ := B.chk h1
            obtain ⟨_, qi1, qi2, qi3, qi4⟩ := ti2
            refine J.ap1 (e := (eI .i64)) (xs := s8.2) 1 0 y21 hC31 qi1 tl30 qi2 qi3 qi4 rfl rfl rfl rfl rfl rfl rfl rfl rfl rfl fun v30 => ?_
            refine J.op rfl rfl rfl (V.as rfl rfl) ?_
            refine J.nil ?_
            refine J.bN ?_
            refine J.tN ?_
            refine J.region ?_
            refine J.op rfl rfl rfl (V.mv rfl rfl) ?_
            refine J.op rfl rfl rfl (V.ar rfl rfl rfl rfl) ?_
            refine J.op rfl rfl rfl (V.as rfl rfl) ?_
            obtain ⟨light_32, elight_32, h1⟩ := B.lt h1
            refine J.val (congrArg (Value.int .i64) elight_32) ?_
            refine J.nil ?_
            refine J.tN (J.next (light_32, s8.2 ++ [y21]) v30 (B.n h1) ?_)
            exact J.keep _ rfl (J.pickE [1] rfl rfl J.here)
        · replace h1 := B.f hB14 h1
          refine J.exit ?_
          refine J.tE ?_
          refine J.tE ?_
          refine J.bE ?_
          obtain rfl := B.d h1
          refine J.tN (J.to g9 trivial ?_)
          exact J.keep _ rfl (J.pickE [0] rfl rfl J.here)
    · intro gy34 _
      refine J.tN ?_
      refine J.seq ?_
      refine J.region ?_
      refine J.op rfl rfl rfl (V.mv rfl rfl) ?_
      refine J.op rfl rfl rfl (V.as rfl rfl) ?_
      refine J.op rfl rfl rfl (V.as rfl rfl) ?_
      refine J.nil ?_
      refine J.tN ?_
      refine J.ret ?_
      obtain rfl := B.e h0
      exact J.ret2 rfl rfl rfl fun w H => ⟨gy34, rfl, H.pick [0] (by decide)⟩

/-! ### spec.ConvertTable: function 28 -/
noncomputable def spec_ConvertTable.b1 (p0_from : (List impl_Point)) (p1_to : (List impl_Point)) : (Int × (List Int)) → Option (Step (Int × (List Int)) ((List Int))) := fun s16 => bif (decide (s16.1 ≤ 36)) then ((spec_l02At.f p0_from s16.1).bind fun r20 => (spec_l05Least.f p1_to 0 r20).bind fun r23 => bif (roomB s16.2.length 1 8) then ((some (IntKind.wrap .i64 (s16.1 + 1))).bind fun light_30 => some (.next (light_30, s16.2 ++ [r23]))) else none) else (some (.done s16.2))
noncomputable def spec_ConvertTable.f (p0_from : (List impl_Point)) (p1_to : (List impl_Point)) : Option ((List Int) × Int) := ((spec_l02Ok.f p0_from).bind fun r3 => bif (!r3) then (some true) else ((spec_l02Ok.f p1_to).bind fun r7 => some (!r7)) : Option (Bool)).bind fun y1 => bif y1 then (some (([] : List Int), 1)) else ((loopW (spec_ConvertTable.b1 p0_from p1_to) (0, ([] : List Int))).bind fun y31 => some (y31, 0))
set_option maxRecDepth 100000 in
theorem spec_ConvertTable.calls (v0 : Value) (p0_from : (List impl_Point)) (v1 : Value) (p1_to : (List impl_Point)) (r : (List Int) × Int) (w : World) (H0 : Own [] w w []) (hS0 : SlE [] w v0 78 enc_impl_Point p0_from) (hS1 : SlE [] w v1 78 enc_impl_Point p1_to) (h0 : spec_ConvertTable.f p0_from p1_to = some r) :
    Calls Try.prog 28 #[v0, v1] w (fun e w' => ∃ gh : Value, e = .returned (.tuple #[gh, .int .i64 r.2]) ∧ Own [] w w' [.rowE gh 2 (eI .i64) r.1]) := by
  unfold spec_ConvertTable.f at h0
  replace h0 := B.top h0
  refine calls_of_J (args := [v0, v1]) Try.func28 rfl Try.ntmps28 rfl [(0, v0), (1, v1)] rfl H0 ?_
  refine J.seq ?_
  refine J.region ?_
  refine J.op rfl rfl rfl (V.as rfl rfl) ?_
  refine J.op rfl rfl rfl (V.as rfl rfl) ?_
  refine J.nil ?_
  refine J.tN ?_
  refine J.seq ?_
  refine J.seq ?_
  obtain ⟨y1, hy10, h0⟩ := B.bind h0
  replace hy10 := B.top hy10
  refine J.cut (γ := Unit) (fun _ => True) (fun gy2 => [(0, v0), (1, v1), (15, .bool y1)]) (fun gy2 => []) ?_ ?_
  · have h1 := hy10
    refine J.region ?_
    refine J.op rfl rfl rfl (V.mv rfl rfl) ?_
    obtain ⟨r3, hr4, h1⟩ := B.bind h1
    refine J.clA (l := [.tmp 8]) [] [] cf55 (wN rfl) rfl rfl rfl rfl rfl rfl (fun w H => spec_l02Ok.calls v0 p0_from r3 w (Own.refl w) (Sl.laterA hS0 H) hr4) fun g5 => ?_
    refine J.op rfl rfl rfl (V.nt rfl rfl) ?_
    refine J.op rfl rfl rfl (V.mv rfl rfl) ?_
    refine J.split 11 rfl (fun hB6 => ?_) (fun hB6 => ?_)
    · replace h1 := B.t hB6 h1
      refine J.opOff rfl rfl rfl rfl rfl rfl ?_
      refine J.opOff rfl rfl rfl rfl rfl rfl ?_
      refine J.opOff rfl rfl rfl rfl rfl rfl ?_
      refine J.op rfl rfl rfl (V.pkT rfl rfl rfl) ?_
      refine J.nil ?_
      obtain rfl := B.e h1
      refine J.tN (J.to () trivial ?_)
      exact J.keep _ rfl (J.pickE [] rfl rfl J.here)
    · replace h1 := B.f hB6 h1
      refine J.opOn rfl rfl rfl rfl rfl (V.mv rfl rfl) ?_
      obtain ⟨r7, hr8, h1⟩ := B.bind h1
      refine J.clA (l := [.tmp 12]) [] [] cf55 (wY rfl rfl rfl) rfl rfl rfl rfl rfl rfl (fun w H => spec_l02Ok.calls v1 p1_to r7 w (Own.refl w) (Sl.laterA hS1 H) hr8) fun g9 => ?_
      refine J.opOn rfl rfl rfl rfl rfl (V.nt rfl rfl) ?_
      refine J.op rfl rfl rfl (V.pkF rfl rfl rfl) ?_
      refine J.nil ?_
      obtain rfl := B.e h1
      refine J.tN (J.to () trivial ?_)
      exact J.keep _ rfl (J.pickE [] rfl rfl J.here)
  · intro gy2 _
    refine J.cond rfl (fun hB11 => ?_) (fun hB11 => ?_)
    · replace h0 := B.t hB11 h0
      refine J.seq ?_
      refine J.region ?_
      refine J.bs (l := []) (cs := []) (E := 2) rfl rfl rfl rfl rfl (fun w => by kernel_rfl) fun b12 => ?_
      refine J.op rfl rfl rfl (V.as rfl rfl) ?_
      refine J.op rfl rfl rfl (V.as rfl rfl) ?_
      refine J.nil ?_
      refine J.tN ?_
      refine J.ret ?_
      refine J.tR ?_
      refine J.blkRowE (eI .i64) ([] : List Int) 0 rfl rfl rfl ?_
      obtain rfl := B.e h0
      exact J.ret2 rfl rfl rfl fun w H => ⟨(.slice (some ⟨b12, 0, none⟩) 0 0), rfl, H.pick [0] (by decide)⟩
    · replace h0 := B.f hB11 h0
      refine J.skip ?_
      refine J.tN ?_
      refine J.seq ?_
      refine J.region ?_
      refine J.bs (l := []) (cs := []) (E := 2) rfl rfl rfl rfl rfl (fun w => by kernel_rfl) fun b14 => ?_
      refine J.op rfl rfl rfl (V.as rfl rfl) ?_
      refine J.nil ?_
      refine J.tN ?_
      refine J.seq ?_
      refine J.seq ?_
      refine J.region ?_
      refine J.op rfl rfl rfl (V.as rfl rfl) ?_
      refine J.nil ?_
      refine J.tN ?_
      refine J.blkRowE (eI .i64) ([] : List Int) 0 rfl rfl rfl ?_
      obtain ⟨y31, hy33, h0⟩ := B.bind h0
      refine J.cutQ (γ := Value) (fun _ => True) (fun gy32 => [(6, gy32)]) (fun gy32 => [.rowE gy32 2 (eI .i64) y31]) ?_ ?_
      · refine J.block ?_
        refine J.loop (γ := Value) hy33 (fun s16 g17 => [(0, v0), (1, v1), (6, g17), (7, .int .i64 s16.1)]) (fun s16 g17 => [.rowE g17 2 (eI .i64) s16.2]) (.slice (some ⟨b14, 0, none⟩) 0 0) ?_ ?_
        · exact J.keep _ rfl (J.pickE [0] rfl rfl J.here)
        · intro rec18 s16 g17 h1
          unfold spec_ConvertTable.b1 at h1
          refine J.seq ?_
          refine J.seq ?_
          refine J.region ?_
          refine J.op rfl rfl rfl (V.mv rfl rfl) ?_
          refine J.op rfl rfl rfl (V.cmp rfl rfl rfl rfl) ?_
          refine J.nil ?_
          refine J.tN ?_
          refine J.cond rfl (fun hB19 => ?_) (fun hB19 => ?_)
          · replace h1 := B.t hB19 h1
            refine J.skip ?_
            refine J.tN ?_
            refine J.seq ?_
            refine J.block ?_
            refine J.region ?_
            refine J.op rfl rfl rfl (V.mv rfl rfl) ?_
            refine J.op rfl rfl rfl (V.mv rfl rfl) ?_
            refine J.op rfl rfl rfl (V.mv rfl rfl) ?_
            refine J.op rfl rfl rfl (V.mv rfl rfl) ?_
            obtain ⟨r20, hr21, h1⟩ := B.bind h1
            refine J.clA (l := [.tmp 24, .tmp 25]) [] [.rowE g17 2 (eI .i64) s16.2] cf62 (wN rfl) rfl rfl rfl rfl rfl rfl (fun w H => spec_l02At.calls v0 p0_from s16.1 r20 w (Own.refl w) (Sl.laterA hS0 H) hr21) fun g22 => ?_
            obtain ⟨r23, hr24, h1⟩ := B.bind h1
            refine J.clA (l := [.tmp 23, .const (.int .i64 0), .tmp 26]) [] [.rowE g17 2 (eI .i64) s16.2] cf56 (wN rfl) rfl rfl rfl rfl rfl rfl (fun w H => spec_l05Least.calls v1 p1_to 0 r20 r23 w (Own.refl w) (Sl.laterA hS1 H) hr24) fun g25 => ?_
            refine J.bs (l := [(0, .tmp 27)]) (cs := [.int .i64 r23]) (E := 2) rfl rfl rfl rfl rfl (fun w => by kernel_rfl) fun b26 => ?_
            obtain ⟨hC29, h1⟩ := B.chk h1
            obtain ⟨_, qi1, qi2, qi3, qi4⟩ := ti2
            refine J.ap1 (e := (eI .i64)) (xs := s16.2) 1 0 r23 hC29 qi1 tl30 qi2 qi3 qi4 rfl rfl rfl rfl rfl rfl rfl rfl rfl rfl fun v28 => ?_
            refine J.op rfl rfl rfl (V.as rfl rfl) ?_
            refine J.nil ?_
            refine J.bN ?_
            refine J.tN ?_
            refine J.region ?_
            refine J.op rfl rfl rfl (V.mv rfl rfl) ?_
            refine J.op rfl rfl rfl (V.ar rfl rfl rfl rfl) ?_
            refine J.op rfl rfl rfl (V.as rfl rfl) ?_
            obtain ⟨light_30, elight_30, h1⟩ := B.lt h1
            refine J.val (congrArg (Value.int .i64) elight_30) ?_
            refine J.nil ?_
            refine J.tN (J.next (light_30, s16.2 ++ [r23]) v28 (B.n h1) ?_)
            exact J.keep _ rfl (J.pickE [1] rfl rfl J.here)
          · replace h1 := B.f hB19 h1
            refine J.exit ?_
            refine J.tE ?_
            refine J.tE ?_
            refine J.bE ?_
            obtain rfl := B.d h1
            refine J.tN (J.to g17 trivial ?_)
            exact J.keep _ rfl (J.pickE [0] rfl rfl J.here)
      · intro gy32 _
        refine J.tN ?_
        refine J.seq ?_
        refine J.region ?_
        refine J.op rfl rfl rfl (V.mv rfl rfl) ?_
        refine J.op rfl rfl rfl (V.as rfl rfl) ?_
        refine J.op rfl rfl rfl (V.as rfl rfl) ?_
        refine J.nil ?_
        refine J.tN ?_
        refine J.ret ?_
        obtain rfl := B.e h0
        exact J.ret2 rfl rfl rfl fun w H => ⟨gy32, rfl, H.pick [0] (by decide)⟩

/-! ### impl.CurveAt: function 29 -/
noncomputable def impl_CurveAt.f (p0_c : (List impl_Point)) (p1_x : Int) : Option (Int × Int) := (impl_isPlace.f p1_x).bind fun r1 => (impl_curveCode.f p0_c r1).bind fun r4 => bif (r4 != 0) then (some (0, r4)) else ((impl_Curve_at.f p0_c p1_x).bind fun r8 => some (r8, 0))
set_option maxRecDepth 100000 in
theorem impl_CurveAt.calls (v0 : Value) (p0_c : (List impl_Point)) (p1_x : Int) (r : Int × Int) (w : World) (H0 : Own [] w w []) (hS0 : SlE [] w v0 78 enc_impl_Point p0_c) (h0 : impl_CurveAt.f p0_c p1_x = some r) :
    Calls Try.prog 29 #[v0, .int .i64 p1_x] w (fun e w' => ∃ _ : Unit, e = .returned (.tuple #[.int .i64 r.1, .int .i64 r.2]) ∧ Own [] w w' []) := by
  unfold impl_CurveAt.f at h0
  replace h0 := B.top h0
  refine calls_of_J (args := [v0, .int .i64 p1_x]) Try.func29 rfl Try.ntmps29 rfl [(0, v0), (1, .int .i64 p1_x)] rfl H0 ?_
  refine J.seq ?_
  refine J.region ?_
  refine J.op rfl rfl rfl (V.as rfl rfl) ?_
  refine J.op rfl rfl rfl (V.as rfl rfl) ?_
  refine J.nil ?_
  refine J.tN ?_
  refine J.seq ?_
  refine J.seq ?_
  refine J.region ?_
  refine J.op rfl rfl rfl (V.mv rfl rfl) ?_
  refine J.op rfl rfl rfl (V.mv rfl rfl) ?_
  obtain ⟨r1, hr2, h0⟩ := B.bind h0
  refine J.clA (l := [.tmp 8]) [] [] cf63 (wN rfl) rfl rfl rfl rfl rfl rfl (fun w H => impl_isPlace.calls p1_x r1 w (Own.refl w)  hr2) fun g3 => ?_
  obtain ⟨r4, hr5, h0⟩ := B.bind h0
  refine J.clA (l := [.tmp 7, .tmp 9]) [] [] cf51 (wN rfl) rfl rfl rfl rfl rfl rfl (fun w H => impl_curveCode.calls v0 p0_c r1 r4 w (Own.refl w) (Sl.laterA hS0 H) hr5) fun g6 => ?_
  refine J.op rfl rfl rfl (V.as rfl rfl) ?_
  refine J.nil ?_
  refine J.tN ?_
  refine J.seq ?_
  refine J.region ?_
  refine J.op rfl rfl rfl (V.mv rfl rfl) ?_
  refine J.op rfl rfl rfl (V.cmp rfl rfl rfl rfl) ?_
  refine J.nil ?_
  refine J.tN ?_
  refine J.cond rfl (fun hB7 => ?_) (fun hB7 => ?_)
  · replace h0 := B.t hB7 h0
    refine J.seq ?_
    refine J.region ?_
    refine J.op rfl rfl rfl (V.mv rfl rfl) ?_
    refine J.op rfl rfl rfl (V.as rfl rfl) ?_
    refine J.op rfl rfl rfl (V.as rfl rfl) ?_
    refine J.nil ?_
    refine J.tN ?_
    refine J.ret ?_
    refine J.tR ?_
    obtain rfl := B.e h0
    exact J.ret2 rfl rfl rfl fun w H => ⟨(), rfl, H.pick [] (by decide)⟩
  · replace h0 := B.f hB7 h0
    refine J.skip ?_
    refine J.tN ?_
    refine J.seq ?_
    refine J.region ?_
    refine J.op rfl rfl rfl (V.mv rfl rfl) ?_
    refine J.op rfl rfl rfl (V.mv rfl rfl) ?_
    obtain ⟨r8, hr9, h0⟩ := B.bind h0
    refine J.clA (l := [.tmp 14, .tmp 15]) [] [] cf60 (wN rfl) rfl rfl rfl rfl rfl rfl (fun w H => impl_Curve_at.calls v0 p0_c p1_x r8 w (Own.refl w) (Sl.laterA hS0 H) hr9) fun g10 => ?_
    refine J.op rfl rfl rfl (V.as rfl rfl) ?_
    refine J.op rfl rfl rfl (V.as rfl rfl) ?_
    refine J.nil ?_
    refine J.tN ?_
    refine J.ret ?_
    obtain rfl := B.e h0
    exact J.ret2 rfl rfl rfl fun w H => ⟨(), rfl, H.pick [] (by decide)⟩

/-! ### impl.BlackTime: function 30 -/
noncomputable def impl_BlackTime.f (p0_paper : (List impl_Point)) (p1_base : Int) : Option (Int × Int) := (impl_isDensity.f p1_base).bind fun r1 => (impl_curveCode.f p0_paper r1).bind fun r4 => bif (r4 != 0) then (some (0, r4)) else ((impl_Curve_at.f p0_paper 36).bind fun r8 => (impl_Curve_leastLight.f p0_paper p1_base r8).bind fun r11 => (impl_areThirds.f r11).bind fun r14 => bif (!r14) then (some (0, 6)) else (some (r11, 0)))
set_option maxRecDepth 100000 in
theorem impl_BlackTime.calls (v0 : Value) (p0_paper : (List impl_Point)) (p1_base : Int) (r : Int × Int) (w : World) (H0 : Own [] w w []) (hS0 : SlE [] w v0 78 enc_impl_Point p0_paper) (h0 : impl_BlackTime.f p0_paper p1_base = some r) :
    Calls Try.prog 30 #[v0, .int .i64 p1_base] w (fun e w' => ∃ _ : Unit, e = .returned (.tuple #[.int .i64 r.1, .int .i64 r.2]) ∧ Own [] w w' []) := by
  unfold impl_BlackTime.f at h0
  replace h0 := B.top h0
  refine calls_of_J (args := [v0, .int .i64 p1_base]) Try.func30 rfl Try.ntmps30 rfl [(0, v0), (1, .int .i64 p1_base)] rfl H0 ?_
  refine J.seq ?_
  refine J.region ?_
  refine J.op rfl rfl rfl (V.as rfl rfl) ?_
  refine J.op rfl rfl rfl (V.as rfl rfl) ?_
  refine J.nil ?_
  refine J.tN ?_
  refine J.seq ?_
  refine J.seq ?_
  refine J.region ?_
  refine J.op rfl rfl rfl (V.mv rfl rfl) ?_
  refine J.op rfl rfl rfl (V.mv rfl rfl) ?_
  obtain ⟨r1, hr2, h0⟩ := B.bind h0
  refine J.clA (l := [.tmp 9]) [] [] cf64 (wN rfl) rfl rfl rfl rfl rfl rfl (fun w H => impl_isDensity.calls p1_base r1 w (Own.refl w)  hr2) fun g3 => ?_
  obtain ⟨r4, hr5, h0⟩ := B.bind h0
  refine J.clA (l := [.tmp 8, .tmp 10]) [] [] cf51 (wN rfl) rfl rfl rfl rfl rfl rfl (fun w H => impl_curveCode.calls v0 p0_paper r1 r4 w (Own.refl w) (Sl.laterA hS0 H) hr5) fun g6 => ?_
  refine J.op rfl rfl rfl (V.as rfl rfl) ?_
  refine J.nil ?_
  refine J.tN ?_
  refine J.seq ?_
  refine J.region ?_
  refine J.op rfl rfl rfl (V.mv rfl rfl) ?_
  refine J.op rfl rfl rfl (V.cmp rfl rfl rfl rfl) ?_
  refine J.nil ?_
  refine J.tN ?_
  refine J.cond rfl (fun hB7 => ?_) (fun hB7 => ?_)
  · replace h0 := B.t hB7 h0
    refine J.seq ?_
    refine J.region ?_
    refine J.op rfl rfl rfl (V.mv rfl rfl) ?_
    refine J.op rfl rfl rfl (V.as rfl rfl) ?_
    refine J.op rfl rfl rfl (V.as rfl rfl) ?_
    refine J.nil ?_
    refine J.tN ?_
    refine J.ret ?_
    refine J.tR ?_
    obtain rfl := B.e h0
    exact J.ret2 rfl rfl rfl fun w H => ⟨(), rfl, H.pick [] (by decide)⟩
  · replace h0 := B.f hB7 h0
    refine J.skip ?_
    refine J.tN ?_
    refine J.seq ?_
    refine J.region ?_
    refine J.op rfl rfl rfl (V.mv rfl rfl) ?_
    refine J.op rfl rfl rfl (V.mv rfl rfl) ?_
    refine J.op rfl rfl rfl (V.mv rfl rfl) ?_
    obtain ⟨r8, hr9, h0⟩ := B.bind h0
    refine J.clA (l := [.tmp 17, .const (.int .i64 36)]) [] [] cf60 (wN rfl) rfl rfl rfl rfl rfl rfl (fun w H => impl_Curve_at.calls v0 p0_paper 36 r8 w (Own.refl w) (Sl.laterA hS0 H) hr9) fun g10 => ?_
    obtain ⟨r11, hr12, h0⟩ := B.bind h0
    refine J.clA (l := [.tmp 15, .tmp 16, .tmp 18]) [] [] cf52 (wN rfl) rfl rfl rfl rfl rfl rfl (fun w H => impl_Curve_leastLight.calls v0 p0_paper p1_base r8 r11 w (Own.refl w) (Sl.laterA hS0 H) hr12) fun g13 => ?_
    refine J.op rfl rfl rfl (V.as rfl rfl) ?_
    refine J.nil ?_
    refine J.tN ?_
    refine J.seq ?_
    refine J.seq ?_
    refine J.region ?_
    refine J.op rfl rfl rfl (V.mv rfl rfl) ?_
    obtain ⟨r14, hr15, h0⟩ := B.bind h0
    refine J.clA (l := [.tmp 20]) [] [] cf53 (wN rfl) rfl rfl rfl rfl rfl rfl (fun w H => impl_areThirds.calls r11 r14 w (Own.refl w)  hr15) fun g16 => ?_
    refine J.op rfl rfl rfl (V.nt rfl rfl) ?_
    refine J.nil ?_
    refine J.tN ?_
    refine J.cond rfl (fun hB17 => ?_) (fun hB17 => ?_)
    · replace h0 := B.t hB17 h0
      refine J.seq ?_
      refine J.region ?_
      refine J.op rfl rfl rfl (V.as rfl rfl) ?_
      refine J.op rfl rfl rfl (V.as rfl rfl) ?_
      refine J.nil ?_
      refine J.tN ?_
      refine J.ret ?_
      refine J.tR ?_
      obtain rfl := B.e h0
      exact J.ret2 rfl rfl rfl fun w H => ⟨(), rfl, H.pick [] (by decide)⟩
    · replace h0 := B.f hB17 h0
      refine J.skip ?_
      refine J.tN ?_
      refine J.seq ?_
      refine J.region ?_
      refine J.op rfl rfl rfl (V.mv rfl rfl) ?_
      refine J.op rfl rfl rfl (V.as rfl rfl) ?_
      refine J.op rfl rfl rfl (V.as rfl rfl) ?_
      refine J.nil ?_
      refine J.tN ?_
      refine J.ret ?_
      obtain rfl := B.e h0
      exact J.ret2 rfl rfl rfl fun w H => ⟨(), rfl, H.pick [] (by decide)⟩

/-! ### spec.BlackTime: function 31 -/
noncomputable def spec_BlackTime.f (p0_paper : (List impl_Point)) (p1_base : Int) : Option (Int × Int) := (spec_l02Ok.f p0_paper).bind fun r1 => bif (!r1) then (some (0, 1)) else ((spec_l02Density.f p1_base).bind fun r5 => bif (!r5) then (some (0, 2)) else ((spec_l02At.f p0_paper 36).bind fun r9 => (spec_l05Least.f p0_paper p1_base r9).bind fun r12 => bif (decide (r12 < 0)) then (some (0, 6)) else (some (r12, 0))))
set_option maxRecDepth 100000 in
theorem spec_BlackTime.calls (v0 : Value) (p0_paper : (List impl_Point)) (p1_base : Int) (r : Int × Int) (w : World) (H0 : Own [] w w []) (hS0 : SlE [] w v0 78 enc_impl_Point p0_paper) (h0 : spec_BlackTime.f p0_paper p1_base = some r) :
    Calls Try.prog 31 #[v0, .int .i64 p1_base] w (fun e w' => ∃ _ : Unit, e = .returned (.tuple #[.int .i64 r.1, .int .i64 r.2]) ∧ Own [] w w' []) := by
  unfold spec_BlackTime.f at h0
  replace h0 := B.top h0
  refine calls_of_J (args := [v0, .int .i64 p1_base]) Try.func31 rfl Try.ntmps31 rfl [(0, v0), (1, .int .i64 p1_base)] rfl H0 ?_
  refine J.seq ?_
  refine J.region ?_
  refine J.op rfl rfl rfl (V.as rfl rfl) ?_
  refine J.op rfl rfl rfl (V.as rfl rfl) ?_
  refine J.nil ?_
  refine J.tN ?_
  refine J.seq ?_
  refine J.seq ?_
  refine J.region ?_
  refine J.op rfl rfl rfl (V.mv rfl rfl) ?_
  obtain ⟨r1, hr2, h0⟩ := B.bind h0
  refine J.clA (l := [.tmp 7]) [] [] cf55 (wN rfl) rfl rfl rfl rfl rfl rfl (fun w H => spec_l02Ok.calls v0 p0_paper r1 w (Own.refl w) (Sl.laterA hS0 H) hr2) fun g3 => ?_
  refine J.op rfl rfl rfl (V.nt rfl rfl) ?_
  refine J.nil ?_
  refine J.tN ?_
  refine J.cond rfl (fun hB4 => ?_) (fun hB4 => ?_)
  · replace h0 := B.t hB4 h0
    refine J.seq ?_
    refine J.region ?_
    refine J.op rfl rfl rfl (V.as rfl rfl) ?_
    refine J.op rfl rfl rfl (V.as rfl rfl) ?_
    refine J.nil ?_
    refine J.tN ?_
    refine J.ret ?_
    refine J.tR ?_
    obtain rfl := B.e h0
    exact J.ret2 rfl rfl rfl fun w H => ⟨(), rfl, H.pick [] (by decide)⟩
  · replace h0 := B.f hB4 h0
    refine J.skip ?_
    refine J.tN ?_
    refine J.seq ?_
    refine J.seq ?_
    refine J.region ?_
    refine J.op rfl rfl rfl (V.mv rfl rfl) ?_
    obtain ⟨r5, hr6, h0⟩ := B.bind h0
    refine J.clA (l := [.tmp 10]) [] [] cf65 (wN rfl) rfl rfl rfl rfl rfl rfl (fun w H => spec_l02Density.calls p1_base r5 w (Own.refl w)  hr6) fun g7 => ?_
    refine J.op rfl rfl rfl (V.nt rfl rfl) ?_
    refine J.nil ?_
    refine J.tN ?_
    refine J.cond rfl (fun hB8 => ?_) (fun hB8 => ?_)
    · replace h0 := B.t hB8 h0
      refine J.seq ?_
      refine J.region ?_
      refine J.op rfl rfl rfl (V.as rfl rfl) ?_
      refine J.op rfl rfl rfl (V.as rfl rfl) ?_
      refine J.nil ?_
      refine J.tN ?_
      refine J.ret ?_
      refine J.tR ?_
      obtain rfl := B.e h0
      exact J.ret2 rfl rfl rfl fun w H => ⟨(), rfl, H.pick [] (by decide)⟩
    · replace h0 := B.f hB8 h0
      refine J.skip ?_
      refine J.tN ?_
      refine J.seq ?_
      refine J.region ?_
      refine J.op rfl rfl rfl (V.mv rfl rfl) ?_
      refine J.op rfl rfl rfl (V.mv rfl rfl) ?_
      refine J.op rfl rfl rfl (V.mv rfl rfl) ?_
      obtain ⟨r9, hr10, h0⟩ := B.bind h0
      refine J.clA (l := [.tmp 15, .const (.int .i64 36)]) [] [] cf62 (wN rfl) rfl rfl rfl rfl rfl rfl (fun w H => spec_l02At.calls v0 p0_paper 36 r9 w (Own.refl w) (Sl.laterA hS0 H) hr10) fun g11 => ?_
      obtain ⟨r12, hr13, h0⟩ := B.bind h0
      refine J.clA (l := [.tmp 13, .tmp 14, .tmp 16]) [] [] cf56 (wN rfl) rfl rfl rfl rfl rfl rfl (fun w H => spec_l05Least.calls v0 p0_paper p1_base r9 r12 w (Own.refl w) (Sl.laterA hS0 H) hr13) fun g14 => ?_
      refine J.op rfl rfl rfl (V.as rfl rfl) ?_
      refine J.nil ?_
      refine J.tN ?_
      refine J.seq ?_
      refine J.seq ?_
      refine J.region ?_
      refine J.op rfl rfl rfl (V.mv rfl rfl) ?_
      refine J.op rfl rfl rfl (V.cmp rfl rfl rfl rfl) ?_
      refine J.nil ?_
      refine J.tN ?_
      refine J.cond rfl (fun hB15 => ?_) (fun hB15 => ?_)
      · replace h0 := B.t hB15 h0
        refine J.seq ?_
        refine J.region ?_
        refine J.op rfl rfl rfl (V.as rfl rfl) ?_
        refine J.op rfl rfl rfl (V.as rfl rfl) ?_
        refine J.nil ?_
        refine J.tN ?_
        refine J.ret ?_
        refine J.tR ?_
        obtain rfl := B.e h0
        exact J.ret2 rfl rfl rfl fun w H => ⟨(), rfl, H.pick [] (by decide)⟩
      · replace h0 := B.f hB15 h0
        refine J.skip ?_
        refine J.tN ?_
        refine J.seq ?_
        refine J.region ?_
        refine J.op rfl rfl rfl (V.mv rfl rfl) ?_
        refine J.op rfl rfl rfl (V.as rfl rfl) ?_
        refine J.op rfl rfl rfl (V.as rfl rfl) ?_
        refine J.nil ?_
        refine J.tN ?_
        refine J.ret ?_
        obtain rfl := B.e h0
        exact J.ret2 rfl rfl rfl fun w H => ⟨(), rfl, H.pick [] (by decide)⟩

end Go.Proofs.Ytofhnioboihbgaa
