/- Go functions as Lean functions, and that each call of theirs comes to just that: by a program written for this work (walk.py). No condition. -/
import Derived.Test.YtnjabckgklafhaaF1
namespace Go.Proofs.Ytnjabckgklafhaa
open Go Go.RowKit G
set_option linter.unusedVariables false

/-! ### laws.markSheet: function 10 -/
noncomputable def laws_markSheet.f (p0_a : impl_Sheet) (p1_k : Int) : Option (Int × (List (Vector Int 64))) := (laws_markPrintS.f p0_a.Frames p1_k).bind fun r3 => some (r3.1, r3.2)
set_option maxRecDepth 100000 in
theorem laws_markSheet.calls (p0_a : impl_Sheet) (v0_Frames : Value) (p1_k : Int) (r : Int × (List (Vector Int 64))) (w : World) (H0 : Own (Mof [.rowE v0_Frames 60 (eA .i16 64) p0_a.Frames]) w w [.rowE v0_Frames 60 (eA .i16 64) p0_a.Frames]) (h0 : laws_markSheet.f p0_a p1_k = some r) :
    Calls Try.prog 10 #[.agg #[.int .i8 p0_a.Across, v0_Frames], .int .i64 p1_k] w (fun e w' => ∃ _ : Unit, e = .returned (.int .i64 r.1) ∧ Own (Mof [.rowE v0_Frames 60 (eA .i16 64) p0_a.Frames]) w w' [.rowE v0_Frames 60 (eA .i16 64) r.2]) := by
  unfold laws_markSheet.f at h0
  replace h0 := B.top h0
  refine calls_of_J (args := [.agg #[.int .i8 p0_a.Across, v0_Frames], .int .i64 p1_k]) Try.func10 rfl Try.ntmps10 rfl [(0, .agg #[.int .i8 p0_a.Across, v0_Frames]), (1, .int .i64 p1_k)] rfl H0 ?_
  refine J.seq ?_
  refine J.region ?_
  refine J.box rfl rfl rfl rfl rfl (fun _ _ => rfl) fun b1 => ?_
  refine J.op rfl rfl rfl (V.as rfl rfl) ?_
  refine J.nil ?_
  refine J.tN ?_
  refine J.seq ?_
  refine J.region ?_
  refine J.op rfl rfl rfl (V.faB rfl rfl tf1_29) ?_
  refine J.op rfl rfl rfl (V.ldB 0 rfl rfl rfl Try.underlying27 ta27 rfl) ?_
  refine J.op rfl rfl rfl (V.mv rfl rfl) ?_
  refine J.pickE [1, 0] (es' := [.rowE v0_Frames 60 (eA .i16 64) p0_a.Frames, .blk b1 [.int .i8 p0_a.Across, v0_Frames] 29]) rfl rfl ?_
  obtain ⟨r3, hr4, h0⟩ := B.bind h0
  refine J.clA (l := [.tmp 6, .tmp 7]) [.rowE v0_Frames 60 (eA .i16 64) p0_a.Frames] [.blk b1 [.int .i8 p0_a.Across, v0_Frames] 29] cf34 (wN rfl) rfl rfl rfl rfl rfl rfl (fun w H => laws_markPrintS.calls v0_Frames p0_a.Frames p1_k r3 w H.enterA  hr4) fun g5 => ?_
  refine J.op rfl rfl rfl (V.as rfl rfl) ?_
  refine J.nil ?_
  refine J.tN ?_
  refine J.seq ?_
  refine J.region ?_
  refine J.op rfl rfl rfl (V.mv rfl rfl) ?_
  refine J.op rfl rfl rfl (V.as rfl rfl) ?_
  refine J.nil ?_
  refine J.tN ?_
  refine J.ret ?_
  obtain rfl := B.e h0
  exact J.ret1 rfl rfl fun w H => ⟨(), rfl, H.pick [0] (by decide)⟩

/-! ### laws.heldPrintS: function 35 -/
noncomputable def laws_heldPrintS.b2 (p0_a : (List (Vector Int 64))) (s1 : Int × Int) : (Int × Int) → Option (Step (Int × Int) (Sum (Int) (Int))) := fun s5 => bif (decide (s5.2 < 64)) then (bif (inB s1.2 p0_a.length) then (bif (inB s5.2 64) then (bif ((rdA (rd (eA .i16 64) p0_a s1.2) s5.2) != (IntKind.wrap .i16 s5.1)) then (some (.done (.inr (-1)))) else ((some (IntKind.wrap .i64 (s5.1 + 1))).bind fun k_12 => (some (IntKind.wrap .i64 (s5.2 + 1))).bind fun j_13 => some (.next (k_12, j_13)))) else none) else none) else (some (.done (.inl s5.1)))
noncomputable def laws_heldPrintS.b1 (p0_a : (List (Vector Int 64))) : (Int × Int) → Option (Step (Int × Int) (Sum (Int) (Int))) := fun s1 => bif (decide (s1.2 < (p0_a.length : Int))) then ((loopW (laws_heldPrintS.b2 p0_a s1) (s1.1, 0)).bind (Sum.elim (fun y15 => (some (IntKind.wrap .i64 (s1.2 + 1))).bind fun i_18 => some (.next (y15, i_18))) (fun r => some (.done (.inr r))))) else (some (.done (.inl s1.1)))
noncomputable def laws_heldPrintS.f (p0_a : (List (Vector Int 64))) (p1_k : Int) : Option (Int) := (loopW (laws_heldPrintS.b1 p0_a) (p1_k, 0)).bind (Sum.elim (fun y20 => some y20) (fun r => some r))
set_option maxRecDepth 100000 in
theorem laws_heldPrintS.calls (v0 : Value) (p0_a : (List (Vector Int 64))) (p1_k : Int) (r : Int) (w : World) (H0 : Own [] w w []) (hS0 : SlE [] w v0 60 (eA .i16 64) p0_a) (h0 : laws_heldPrintS.f p0_a p1_k = some r) :
    Calls Try.prog 35 #[v0, .int .i64 p1_k] w (fun e w' => ∃ _ : Unit, e = .returned (.int .i64 r) ∧ Own [] w w' []) := by
  unfold laws_heldPrintS.f at h0
  replace h0 := B.top h0
  refine calls_of_J (args := [v0, .int .i64 p1_k]) Try.func35 rfl Try.ntmps35 rfl [(0, v0), (1, .int .i64 p1_k)] rfl H0 ?_
  refine J.seq ?_
  refine J.region ?_
  refine J.op rfl rfl rfl (V.as rfl rfl) ?_
  refine J.nil ?_
  refine J.tN ?_
  refine J.seq ?_
  refine J.seq ?_
  refine J.region ?_
  refine J.op rfl rfl rfl (V.as rfl rfl) ?_
  refine J.nil ?_
  refine J.tN ?_
  obtain ⟨o22, hy21, h0⟩ := B.bind h0
  refine J.cutQ (γ := (Int) × (Unit)) (fun gy20 => o22 = .inl gy20.1) (fun gy20 => [(1, .int .i64 gy20.1)]) (fun gy20 => []) ?_ ?_
  · refine J.block ?_
    refine J.loop (γ := Unit) hy21 (fun s1 g2 => [(0, v0), (1, .int .i64 s1.1), (5, .int .i64 s1.2)]) (fun s1 g2 => []) () ?_ ?_
    · exact J.keep _ rfl (J.pickE [] rfl rfl J.here)
    · intro rec3 s1 g2 h1
      unfold laws_heldPrintS.b1 at h1
      refine J.seq ?_
      refine J.seq ?_
      refine J.region ?_
      refine J.op rfl rfl rfl (V.mv rfl rfl) ?_
      refine J.op rfl rfl rfl (V.mv rfl rfl) ?_
      refine J.op rfl rfl rfl (V.lenS hS0 rfl rfl tl27) ?_
      refine J.op rfl rfl rfl (V.cmp rfl rfl rfl rfl) ?_
      refine J.nil ?_
      refine J.tN ?_
      refine J.cond rfl (fun hB4 => ?_) (fun hB4 => ?_)
      · replace h1 := B.t hB4 h1
        refine J.skip ?_
        refine J.tN ?_
        refine J.seq ?_
        refine J.block ?_
        refine J.seq ?_
        refine J.region ?_
        refine J.op rfl rfl rfl (V.as rfl rfl) ?_
        refine J.nil ?_
        refine J.tN ?_
        obtain ⟨o17, hy16, h1⟩ := B.bind h1
        refine J.cutQ (γ := (Int) × (Unit)) (fun gy15 => o17 = .inl gy15.1) (fun gy15 => [(0, v0), (1, .int .i64 gy15.1), (5, .int .i64 s1.2)]) (fun gy15 => []) ?_ ?_
        · refine J.block ?_
          refine J.loop (γ := Unit) hy16 (fun s5 g6 => [(0, v0), (1, .int .i64 s5.1), (5, .int .i64 s1.2), (6, .int .i64 s5.2)]) (fun s5 g6 => []) () ?_ ?_
          · exact J.keep _ rfl (J.pickE [] rfl rfl J.here)
          · intro rec7 s5 g6 h2
            unfold laws_heldPrintS.b2 at h2
            refine J.seq ?_
            refine J.seq ?_
            refine J.region ?_
            refine J.op rfl rfl rfl (V.mv rfl rfl) ?_
            refine J.op rfl rfl rfl (V.cmp rfl rfl rfl rfl) ?_
            refine J.nil ?_
            refine J.tN ?_
            refine J.cond rfl (fun hB8 => ?_) (fun hB8 => ?_)
            · replace h2 := B.t hB8 h2
              refine J.skip ?_
              refine J.tN ?_
              refine J.seq ?_
              refine J.block ?_
              refine J.seq ?_
              refine J.seq ?_
              refine J.region ?_
              refine J.op rfl rfl rfl (V.mv rfl rfl) ?_
              refine J.op rfl rfl rfl (V.mv rfl rfl) ?_
              refine J.op rfl rfl rfl (V.mv rfl rfl) ?_
              obtain ⟨hC9, h2⟩ := B.chk h2
              refine J.op rfl rfl rfl (V.ixS hS0 rfl rfl rfl tl27 ts60 hC9) ?_
              obtain ⟨hC10, h2⟩ := B.chk h2
              refine J.op rfl rfl rfl (V.ixES hS0 hC9 rfl rfl rfl tr60 ts58 hC10) ?_
              refine J.op rfl rfl rfl (V.elS (j := s5.2.toNat * 1) hS0 hC9 rfl rfl Try.underlying58 ta58 (encA_get1 .i16 _ hC10)) ?_
              refine J.op rfl rfl rfl (V.mv rfl rfl) ?_
              refine J.op rfl rfl rfl (V.conv rfl rfl Try.underlying3 Try.underlying58) ?_
              refine J.op rfl rfl rfl (V.cmp rfl rfl rfl rfl) ?_
              refine J.nil ?_
              refine J.tN ?_
              refine J.cond rfl (fun hB11 => ?_) (fun hB11 => ?_)
              · replace h2 := B.t hB11 h2
                refine J.seq ?_
                refine J.region ?_
                refine J.op rfl rfl rfl (V.as rfl rfl) ?_
                refine J.nil ?_
                refine J.tN ?_
                refine J.ret ?_
                refine J.tR ?_
                refine J.bR ?_
                refine J.tR ?_
                refine J.tR ?_
                refine J.bR ?_
                refine J.tR ?_
                refine J.bR ?_
                refine J.tR ?_
                refine J.tR ?_
                refine J.bR ?_
                refine J.tR ?_
                refine J.tR ?_
                obtain rfl := B.d h2
                replace h1 := B.inr h1
                obtain rfl := B.d h1
                replace h0 := B.inr h0
                obtain rfl := B.e h0
                exact J.ret1 rfl rfl fun w H => ⟨(), rfl, H.pick [] (by decide)⟩
              · replace h2 := B.f hB11 h2
                refine J.skip ?_
                refine J.tN ?_
                refine J.region ?_
                refine J.op rfl rfl rfl (V.mv rfl rfl) ?_
                refine J.op rfl rfl rfl (V.ar rfl rfl rfl rfl) ?_
                refine J.op rfl rfl rfl (V.as rfl rfl) ?_
                obtain ⟨k_12, ek_12, h2⟩ := B.lt h2
                refine J.val (congrArg (Value.int .i64) ek_12) ?_
                refine J.nil ?_
                refine J.bN ?_
                refine J.tN ?_
                refine J.region ?_
                refine J.op rfl rfl rfl (V.mv rfl rfl) ?_
                refine J.op rfl rfl rfl (V.ar rfl rfl rfl rfl) ?_
                refine J.op rfl rfl rfl (V.as rfl rfl) ?_
                obtain ⟨j_13, ej_13, h2⟩ := B.lt h2
                refine J.val (congrArg (Value.int .i64) ej_13) ?_
                refine J.nil ?_
                refine J.tN (J.next (k_12, j_13) () (B.n h2) ?_)
                exact J.keep _ rfl (J.pickE [] rfl rfl J.here)
            · replace h2 := B.f hB8 h2
              refine J.exit ?_
              refine J.tE ?_
              refine J.tE ?_
              refine J.bE ?_
              obtain rfl := B.d h2
              refine J.tN (J.to (s5.1, ()) rfl ?_)
              exact J.keep _ rfl (J.pickE [] rfl rfl J.here)
        · intro gy15 hG
          replace h1 := B.inl hG h1
          refine J.bN ?_
          refine J.tN ?_
          refine J.region ?_
          refine J.op rfl rfl rfl (V.mv rfl rfl) ?_
          refine J.op rfl rfl rfl (V.ar rfl rfl rfl rfl) ?_
          refine J.op rfl rfl rfl (V.as rfl rfl) ?_
          obtain ⟨i_18, ei_18, h1⟩ := B.lt h1
          refine J.val (congrArg (Value.int .i64) ei_18) ?_
          refine J.nil ?_
          refine J.tN (J.next (gy15.1, i_18) () (B.n h1) ?_)
          exact J.keep _ rfl (J.pickE [] rfl rfl J.here)
      · replace h1 := B.f hB4 h1
        refine J.exit ?_
        refine J.tE ?_
        refine J.tE ?_
        refine J.bE ?_
        obtain rfl := B.d h1
        refine J.tN (J.to (s1.1, ()) rfl ?_)
        exact J.keep _ rfl (J.pickE [] rfl rfl J.here)
  · intro gy20 hG
    replace h0 := B.inl hG h0
    refine J.tN ?_
    refine J.seq ?_
    refine J.region ?_
    refine J.op rfl rfl rfl (V.mv rfl rfl) ?_
    refine J.op rfl rfl rfl (V.as rfl rfl) ?_
    refine J.nil ?_
    refine J.tN ?_
    refine J.ret ?_
    obtain rfl := B.e h0
    exact J.ret1 rfl rfl fun w H => ⟨(), rfl, H.pick [] (by decide)⟩

/-! ### laws.heldSheet: function 11 -/
noncomputable def laws_heldSheet.f (p0_a : impl_Sheet) (p1_k : Int) : Option (Int) := (laws_heldPrintS.f p0_a.Frames p1_k).bind fun r3 => bif (decide (r3 < 0)) then (some (-1)) else (some r3)
set_option maxRecDepth 100000 in
theorem laws_heldSheet.calls (p0_a : impl_Sheet) (v0_Frames : Value) (p1_k : Int) (r : Int) (w : World) (H0 : Own [] w w []) (hS0_Frames : SlE [] w v0_Frames 60 (eA .i16 64) p0_a.Frames) (h0 : laws_heldSheet.f p0_a p1_k = some r) :
    Calls Try.prog 11 #[.agg #[.int .i8 p0_a.Across, v0_Frames], .int .i64 p1_k] w (fun e w' => ∃ _ : Unit, e = .returned (.int .i64 r) ∧ Own [] w w' []) := by
  unfold laws_heldSheet.f at h0
  replace h0 := B.top h0
  refine calls_of_J (args := [.agg #[.int .i8 p0_a.Across, v0_Frames], .int .i64 p1_k]) Try.func11 rfl Try.ntmps11 rfl [(0, .agg #[.int .i8 p0_a.Across, v0_Frames]), (1, .int .i64 p1_k)] rfl H0 ?_
  refine J.seq ?_
  refine J.region ?_
  refine J.box rfl rfl rfl rfl rfl (fun _ _ => rfl) fun b1 => ?_
  refine J.op rfl rfl rfl (V.as rfl rfl) ?_
  refine J.nil ?_
  refine J.tN ?_
  refine J.seq ?_
  refine J.region ?_
  refine J.op rfl rfl rfl (V.faB rfl rfl tf1_29) ?_
  refine J.op rfl rfl rfl (V.ldB 0 rfl rfl rfl Try.underlying27 ta27 rfl) ?_
  refine J.op rfl rfl rfl (V.mv rfl rfl) ?_
  obtain ⟨r3, hr4, h0⟩ := B.bind h0
  refine J.clA (l := [.tmp 6, .tmp 7]) [] [.blk b1 [.int .i8 p0_a.Across, v0_Frames] 29] cf35 (wN rfl) rfl rfl rfl rfl rfl rfl (fun w H => laws_heldPrintS.calls v0_Frames p0_a.Frames p1_k r3 w (Own.refl w) (Sl.laterA hS0_Frames H) hr4) fun g5 => ?_
  refine J.op rfl rfl rfl (V.as rfl rfl) ?_
  refine J.nil ?_
  refine J.tN ?_
  refine J.seq ?_
  refine J.seq ?_
  refine J.region ?_
  refine J.op rfl rfl rfl (V.mv rfl rfl) ?_
  refine J.op rfl rfl rfl (V.cmp rfl rfl rfl rfl) ?_
  refine J.nil ?_
  refine J.tN ?_
  refine J.cond rfl (fun hB6 => ?_) (fun hB6 => ?_)
  · replace h0 := B.t hB6 h0
    refine J.seq ?_
    refine J.region ?_
    refine J.op rfl rfl rfl (V.as rfl rfl) ?_
    refine J.nil ?_
    refine J.tN ?_
    refine J.ret ?_
    refine J.tR ?_
    obtain rfl := B.e h0
    exact J.ret1 rfl rfl fun w H => ⟨(), rfl, H.pick [] (by decide)⟩
  · replace h0 := B.f hB6 h0
    refine J.skip ?_
    refine J.tN ?_
    refine J.seq ?_
    refine J.region ?_
    refine J.op rfl rfl rfl (V.mv rfl rfl) ?_
    refine J.op rfl rfl rfl (V.as rfl rfl) ?_
    refine J.nil ?_
    refine J.tN ?_
    refine J.ret ?_
    obtain rfl := B.e h0
    exact J.ret1 rfl rfl fun w H => ⟨(), rfl, H.pick [] (by decide)⟩

/-! ### laws.FnExactDropFrame: function 3 -/
noncomputable def laws_FnExactDropFrame.f (p0_aS : laws_Sheet) (p1_aI : Int) : Option (Bool) := (laws_szSheet.f (⟨p0_aS.Across, p0_aS.Frames⟩ : laws_Sheet) 1048576).bind fun r3 => bif (decide (r3 < 0)) then (some true) else ((laws_toSheet.f (⟨p0_aS.Across, p0_aS.Frames⟩ : laws_Sheet)).bind fun r7 => (spec_DropFrame.f (⟨r7.Across, r7.Frames⟩ : impl_Sheet) p1_aI).bind fun r11 => (laws_toSheet.f (⟨p0_aS.Across, p0_aS.Frames⟩ : laws_Sheet)).bind fun r17 => (impl_DropFrame.f (⟨r17.Across, r17.Frames⟩ : impl_Sheet) p1_aI).bind fun r23 => ((laws_eqSheet.f (⟨r23.1.Across, r23.1.Frames⟩ : impl_Sheet) (⟨r11.1.Across, r11.1.Frames⟩ : impl_Sheet)).bind fun r31 => bif (!r31) then (some true) else (some (r23.2 != r11.2)) : Option (Bool)).bind fun y29 => bif y29 then (some false) else ((laws_toSheet.f (⟨p0_aS.Across, p0_aS.Frames⟩ : laws_Sheet)).bind fun r37 => (laws_eqSheet.f (⟨r17.Across, r17.Frames⟩ : impl_Sheet) (⟨r37.Across, r37.Frames⟩ : impl_Sheet)).bind fun r41 => bif (!r41) then (some false) else ((laws_markSheet.f (⟨r17.Across, r17.Frames⟩ : impl_Sheet) 1).bind fun r45 => (bif (decide (r45.1 < 0)) then (some true) else ((laws_eqSheet.f (⟨r23.1.Across, r23.1.Frames⟩ : impl_Sheet) (⟨r11.1.Across, r11.1.Frames⟩ : impl_Sheet)).bind fun r51 => bif (!r51) then (some true) else (some (r23.2 != r11.2))) : Option (Bool)).bind fun y48 => bif y48 then (some false) else ((laws_markSheet.f (⟨r23.1.Across, r23.1.Frames⟩ : impl_Sheet) 1).bind fun r57 => (laws_heldSheet.f (⟨r23.1.Across, r57.2⟩ : impl_Sheet) 1).bind fun r60 => bif (decide (r60 < 0)) then (some false) else (bif (r60 != r57.1) then (some false) else ((laws_toSheet.f (⟨p0_aS.Across, p0_aS.Frames⟩ : laws_Sheet)).bind fun r65 => (impl_DropFrame.f (⟨r65.Across, r65.Frames⟩ : impl_Sheet) p1_aI).bind fun r69 => ((laws_eqSheet.f (⟨r69.1.Across, r69.1.Frames⟩ : impl_Sheet) (⟨r11.1.Across, r11.1.Frames⟩ : impl_Sheet)).bind fun r77 => bif (!r77) then (some true) else (some (r69.2 != r11.2)) : Option (Bool)).bind fun y75 => bif y75 then (some false) else ((laws_heldSheet.f (⟨r23.1.Across, r57.2⟩ : impl_Sheet) 1).bind fun r83 => bif (decide (r83 < 0)) then (some false) else (bif (r83 != r57.1) then (some false) else (some true)))))))))
set_option maxRecDepth 100000 in
theorem laws_FnExactDropFrame.calls (p0_aS : laws_Sheet) (v0_Frames : Value) (p1_aI : Int) (r : Bool) (w : World) (H0 : Own [] w w []) (hS0_Frames : SlE [] w v0_Frames 59 (eA .i16 64) p0_aS.Frames) (h0 : laws_FnExactDropFrame.f p0_aS p1_aI = some r) :
    Calls Try.prog 3 #[.agg #[.int .i8 p0_aS.Across, v0_Frames], .int .i64 p1_aI] w (fun e w' => ∃ _ : Unit, e = .returned (.bool r) ∧ Own [] w w' []) := by
  unfold laws_FnExactDropFrame.f at h0
  replace h0 := B.top h0
  refine calls_of_J (args := [.agg #[.int .i8 p0_aS.Across, v0_Frames], .int .i64 p1_aI]) Try.func3 rfl Try.ntmps3 rfl [(0, .agg #[.int .i8 p0_aS.Across, v0_Frames]), (1, .int .i64 p1_aI)] rfl H0 ?_
  refine J.seq ?_
  refine J.region ?_
  refine J.box rfl rfl rfl rfl rfl (fun _ _ => rfl) fun b1 => ?_
  refine J.op rfl rfl rfl (V.as rfl rfl) ?_
  refine J.nil ?_
  refine J.tN ?_
  refine J.seq ?_
  refine J.region ?_
  refine J.op rfl rfl rfl (V.as rfl rfl) ?_
  refine J.nil ?_
  refine J.tN ?_
  refine J.seq ?_
  refine J.region ?_
  refine J.op rfl rfl rfl (V.ldW 0 rfl rfl rfl ts25 ta25 rfl) ?_
  refine J.op rfl rfl rfl (V.mv rfl rfl) ?_
  obtain ⟨r3, hr4, h0⟩ := B.bind h0
  refine J.clA (l := [.tmp 16, .tmp 17]) [] [.blk b1 [.int .i8 p0_aS.Across, v0_Frames] 25] cf5 (wN rfl) rfl rfl rfl rfl rfl rfl (fun w H => laws_szSheet.calls (⟨p0_aS.Across, p0_aS.Frames⟩ : laws_Sheet) v0_Frames 1048576 r3 w (Own.refl w) (Sl.laterA hS0_Frames H) hr4) fun g5 => ?_
  refine J.op rfl rfl rfl (V.as rfl rfl) ?_
  refine J.nil ?_
  refine J.tN ?_
  refine J.seq ?_
  refine J.seq ?_
  refine J.region ?_
  refine J.op rfl rfl rfl (V.mv rfl rfl) ?_
  refine J.op rfl rfl rfl (V.cmp rfl rfl rfl rfl) ?_
  refine J.nil ?_
  refine J.tN ?_
  refine J.cond rfl (fun hB6 => ?_) (fun hB6 => ?_)
  · replace h0 := B.t hB6 h0
    refine J.seq ?_
    refine J.region ?_
    refine J.op rfl rfl rfl (V.as rfl rfl) ?_
    refine J.nil ?_
    refine J.tN ?_
    refine J.ret ?_
    refine J.tR ?_
    obtain rfl := B.e h0
    exact J.ret1 rfl rfl fun w H => ⟨(), rfl, H.pick [] (by decide)⟩
  · replace h0 := B.f hB6 h0
    refine J.skip ?_
    refine J.tN ?_
    refine J.seq ?_
    refine J.region ?_
    refine J.op rfl rfl rfl (V.ldW 0 rfl rfl rfl ts25 ta25 rfl) ?_
    obtain ⟨r7, hr8, h0⟩ := B.bind h0
    refine J.clA (l := [.tmp 22]) [] [.blk b1 [.int .i8 p0_aS.Across, v0_Frames] 25] cf7 (wN rfl) rfl rfl rfl rfl rfl rfl (fun w H => laws_toSheet.calls (⟨p0_aS.Across, p0_aS.Frames⟩ : laws_Sheet) v0_Frames r7 w (Own.refl w) (Sl.laterA hS0_Frames H) hr8) fun g9 => ?_
    refine J.op rfl rfl rfl (V.mv rfl rfl) ?_
    obtain ⟨r11, hr12, h0⟩ := B.bind h0
    refine J.clA (l := [.tmp 23, .tmp 24]) [] [.rowE g9 60 (eA .i16 64) r7.Frames, .blk b1 [.int .i8 p0_aS.Across, v0_Frames] 25] cf6 (wN rfl) rfl rfl rfl rfl rfl rfl (fun w H => spec_DropFrame.calls (⟨r7.Across, r7.Frames⟩ : impl_Sheet) g9 p1_aI r11 w (Own.refl w) (Own.slA 0 H rfl) hr12) fun g13 => ?_
    refine J.op rfl rfl rfl (V.mv rfl rfl) ?_
    refine J.op rfl rfl rfl (V.ex rfl rfl rfl) ?_
    refine J.op rfl rfl rfl (V.ex rfl rfl rfl) ?_
    refine J.alloc rfl rfl rfl rfl tz29 rfl fun b15 => ?_
    refine J.stW (cs' := [.int .i8 r11.1.Across, g13]) 0 rfl rfl rfl rfl rfl rfl ts29 rfl (fun _ H => (one_cons rfl (one_cons (Own.sl0 1 H rfl).one one_nil))) rfl rfl ?_
    refine J.op rfl rfl rfl (V.as rfl rfl) ?_
    refine J.nil ?_
    refine J.tN ?_
    refine J.seq ?_
    refine J.region ?_
    refine J.op rfl rfl rfl (V.ldW 3 rfl rfl rfl ts25 ta25 rfl) ?_
    obtain ⟨r17, hr18, h0⟩ := B.bind h0
    refine J.clA (l := [.tmp 28]) [] [.blk b15 [.int .i8 r11.1.Across, g13] 29, .rowE g13 60 (eA .i16 64) r11.1.Frames, .rowE g9 60 (eA .i16 64) r7.Frames, .blk b1 [.int .i8 p0_aS.Across, v0_Frames] 25] cf7 (wN rfl) rfl rfl rfl rfl rfl rfl (fun w H => laws_toSheet.calls (⟨p0_aS.Across, p0_aS.Frames⟩ : laws_Sheet) v0_Frames r17 w (Own.refl w) (Sl.laterA hS0_Frames H) hr18) fun g19 => ?_
    refine J.alloc rfl rfl rfl rfl tz29 rfl fun b21 => ?_
    refine J.stW (cs' := [.int .i8 r17.Across, g19]) 0 rfl rfl rfl rfl rfl rfl ts29 rfl (fun _ H => (one_cons rfl (one_cons (Own.sl0 1 H rfl).one one_nil))) rfl rfl ?_
    refine J.nil ?_
    refine J.tN ?_
    refine J.seq ?_
    refine J.region ?_
    refine J.op rfl rfl rfl (V.ldW 0 rfl rfl rfl ts29 ta29 rfl) ?_
    refine J.op rfl rfl rfl (V.mv rfl rfl) ?_
    obtain ⟨r23, hr24, h0⟩ := B.bind h0
    refine J.clA (l := [.tmp 31, .tmp 32]) [] [.blk b21 [.int .i8 r17.Across, g19] 29, .rowE g19 60 (eA .i16 64) r17.Frames, .blk b15 [.int .i8 r11.1.Across, g13] 29, .rowE g13 60 (eA .i16 64) r11.1.Frames, .rowE g9 60 (eA .i16 64) r7.Frames, .blk b1 [.int .i8 p0_aS.Across, v0_Frames] 25] cf8 (wN rfl) rfl rfl rfl rfl rfl rfl (fun w H => impl_DropFrame.calls (⟨r17.Across, r17.Frames⟩ : impl_Sheet) g19 p1_aI r23 w (Own.refl w) (Own.slA 1 H rfl) hr24) fun g25 => ?_
    refine J.op rfl rfl rfl (V.mv rfl rfl) ?_
    refine J.op rfl rfl rfl (V.ex rfl rfl rfl) ?_
    refine J.op rfl rfl rfl (V.ex rfl rfl rfl) ?_
    refine J.alloc rfl rfl rfl rfl tz29 rfl fun b27 => ?_
    refine J.stW (cs' := [.int .i8 r23.1.Across, g25]) 0 rfl rfl rfl rfl rfl rfl ts29 rfl (fun _ H => (one_cons rfl (one_cons (Own.sl0 1 H rfl).one one_nil))) rfl rfl ?_
    refine J.op rfl rfl rfl (V.as rfl rfl) ?_
    refine J.nil ?_
    refine J.tN ?_
    refine J.seq ?_
    refine J.seq ?_
    obtain ⟨y29, hy35, h0⟩ := B.bind h0
    replace hy35 := B.top hy35
    refine J.cut (γ := Unit) (fun _ => True) (fun gy30 => [(1, .int .i64 p1_aI), (2, bp b1 0), (6, bp b15 0), (7, .int .i64 r11.2), (8, bp b21 0), (9, bp b27 0), (10, .int .i64 r23.2), (44, .bool y29)]) (fun gy30 => [.blk b27 [.int .i8 r23.1.Across, g25] 29, .rowE g25 60 (eA .i16 64) r23.1.Frames, .blk b21 [.int .i8 r17.Across, g19] 29, .rowE g19 60 (eA .i16 64) r17.Frames, .blk b15 [.int .i8 r11.1.Across, g13] 29, .rowE g13 60 (eA .i16 64) r11.1.Frames, .rowE g9 60 (eA .i16 64) r7.Frames, .blk b1 [.int .i8 p0_aS.Across, v0_Frames] 25]) ?_ ?_
    · have h1 := hy35
      refine J.region ?_
      refine J.op rfl rfl rfl (V.ldW 0 rfl rfl rfl ts29 ta29 rfl) ?_
      refine J.op rfl rfl rfl (V.ldW 4 rfl rfl rfl ts29 ta29 rfl) ?_
      obtain ⟨r31, hr32, h1⟩ := B.bind h1
      refine J.clA (l := [.tmp 36, .tmp 37]) [] [.blk b27 [.int .i8 r23.1.Across, g25] 29, .rowE g25 60 (eA .i16 64) r23.1.Frames, .blk b21 [.int .i8 r17.Across, g19] 29, .rowE g19 60 (eA .i16 64) r17.Frames, .blk b15 [.int .i8 r11.1.Across, g13] 29, .rowE g13 60 (eA .i16 64) r11.1.Frames, .rowE g9 60 (eA .i16 64) r7.Frames, .blk b1 [.int .i8 p0_aS.Across, v0_Frames] 25] cf9 (wN rfl) rfl rfl rfl rfl rfl rfl (fun w H => laws_eqSheet.calls (⟨r23.1.Across, r23.1.Frames⟩ : impl_Sheet) g25 (⟨r11.1.Across, r11.1.Frames⟩ : impl_Sheet) g13 r31 w (Own.refl w) (Own.slA 1 H rfl) (Own.slA 5 H rfl) hr32) fun g33 => ?_
      refine J.op rfl rfl rfl (V.nt rfl rfl) ?_
      refine J.op rfl rfl rfl (V.mv rfl rfl) ?_
      refine J.split 40 rfl (fun hB34 => ?_) (fun hB34 => ?_)
      · replace h1 := B.t hB34 h1
        refine J.opOff rfl rfl rfl rfl rfl rfl ?_
        refine J.opOff rfl rfl rfl rfl rfl rfl ?_
        refine J.opOff rfl rfl rfl rfl rfl rfl ?_
        refine J.op rfl rfl rfl (V.pkT rfl rfl rfl) ?_
        refine J.nil ?_
        obtain rfl := B.e h1
        refine J.tN (J.to () trivial ?_)
        exact J.keep _ rfl (J.pickE [0, 1, 2, 3, 4, 5, 6, 7] rfl rfl J.here)
      · replace h1 := B.f hB34 h1
        refine J.opOn rfl rfl rfl rfl rfl (V.mv rfl rfl) ?_
        refine J.opOn rfl rfl rfl rfl rfl (V.mv rfl rfl) ?_
        refine J.opOn rfl rfl rfl rfl rfl (V.cmp rfl rfl rfl rfl) ?_
        refine J.op rfl rfl rfl (V.pkF rfl rfl rfl) ?_
        refine J.nil ?_
        obtain rfl := B.e h1
        refine J.tN (J.to () trivial ?_)
        exact J.keep _ rfl (J.pickE [0, 1, 2, 3, 4, 5, 6, 7] rfl rfl J.here)
    · intro gy30 _
      refine J.cond rfl (fun hB36 => ?_) (fun hB36 => ?_)
      · replace h0 := B.t hB36 h0
        refine J.seq ?_
        refine J.region ?_
        refine J.op rfl rfl rfl (V.as rfl rfl) ?_
        refine J.nil ?_
        refine J.tN ?_
        refine J.ret ?_
        refine J.tR ?_
        obtain rfl := B.e h0
        exact J.ret1 rfl rfl fun w H => ⟨(), rfl, H.pick [] (by decide)⟩
      · replace h0 := B.f hB36 h0
        refine J.skip ?_
        refine J.tN ?_
        refine J.seq ?_
        refine J.seq ?_
        obtain ⟨r37, hr38, h0⟩ := B.bind h0
        obtain ⟨r41, hr42, h0⟩ := B.bind h0
        refine J.any 5 rfl [.blk b27 [.int .i8 r23.1.Across, g25] 29, .rowE g25 60 (eA .i16 64) r23.1.Frames, .blk b21 [.int .i8 r17.Across, g19] 29, .rowE g19 60 (eA .i16 64) r17.Frames, .blk b15 [.int .i8 r11.1.Across, g13] 29, .rowE g13 60 (eA .i16 64) r11.1.Frames, .rowE g9 60 (eA .i16 64) r7.Frames, .blk b1 [.int .i8 p0_aS.Across, v0_Frames] 25] mixed ?_
        refine JH.take (i := 0) [0, 1, 2, 3, 4, 5, 6, 7] rfl (by kernel_rfl) rfl rfl rfl rfl rfl (V.ldW 2 rfl rfl rfl ts29 ta29 rfl) ?_
        refine JH.take (i := 1) [0, 1, 2, 3, 4, 5, 6, 7] rfl (by kernel_rfl) rfl rfl rfl rfl rfl (V.ldW 7 rfl rfl rfl ts25 ta25 rfl) ?_
        refine JH.all [2] (by kernel_rfl) rfl (JHall.cons (JH.op rfl ?_) (JHall.nil))
        refine J.clA (l := [.tmp 46]) [] [.blk b27 [.int .i8 r23.1.Across, g25] 29, .rowE g25 60 (eA .i16 64) r23.1.Frames, .blk b21 [.int .i8 r17.Across, g19] 29, .rowE g19 60 (eA .i16 64) r17.Frames, .blk b15 [.int .i8 r11.1.Across, g13] 29, .rowE g13 60 (eA .i16 64) r11.1.Frames, .rowE g9 60 (eA .i16 64) r7.Frames, .blk b1 [.int .i8 p0_aS.Across, v0_Frames] 25] cf7 (wN rfl) rfl rfl rfl rfl rfl rfl (fun w H => laws_toSheet.calls (⟨p0_aS.Across, p0_aS.Frames⟩ : laws_Sheet) v0_Frames r37 w (Own.refl w) (Sl.laterA hS0_Frames H) hr38) fun g39 => ?_
        refine J.nil ?_
        refine JH.back [1, 2, 3, 4, 5, 6, 7, 8] rfl rfl ?_
        refine JH.all [3] (by kernel_rfl) rfl (JHall.cons (JH.op rfl ?_) (JHall.nil))
        refine J.clA (l := [.tmp 45, .tmp 47]) [] [.rowE g39 60 (eA .i16 64) r37.Frames, .blk b27 [.int .i8 r23.1.Across, g25] 29, .rowE g25 60 (eA .i16 64) r23.1.Frames, .blk b21 [.int .i8 r17.Across, g19] 29, .rowE g19 60 (eA .i16 64) r17.Frames, .blk b15 [.int .i8 r11.1.Across, g13] 29, .rowE g13 60 (eA .i16 64) r11.1.Frames, .rowE g9 60 (eA .i16 64) r7.Frames, .blk b1 [.int .i8 p0_aS.Across, v0_Frames] 25] cf9 (wN rfl) rfl rfl rfl rfl rfl rfl (fun w H => laws_eqSheet.calls (⟨r17.Across, r17.Frames⟩ : impl_Sheet) g19 (⟨r37.Across, r37.Frames⟩ : impl_Sheet) g39 r41 w (Own.refl w) (Own.slA 4 H rfl) (Own.slA 0 H rfl) hr42) fun g43 => ?_
        refine J.nil ?_
        refine JH.back [1, 2, 3, 4, 5, 6, 7, 8] rfl rfl ?_
        refine JH.take (i := 4) [1, 2, 3, 4, 5, 6, 7, 8] rfl (by kernel_rfl) rfl rfl rfl rfl rfl (V.nt rfl rfl) ?_
        refine JH.fin (by kernel_rfl) ?_
        refine J.tN ?_
        refine J.cond rfl (fun hB44 => ?_) (fun hB44 => ?_)
        · replace h0 := B.t hB44 h0
          refine J.seq ?_
          refine J.region ?_
          refine J.op rfl rfl rfl (V.as rfl rfl) ?_
          refine J.nil ?_
          refine J.tN ?_
          refine J.ret ?_
          refine J.tR ?_
          obtain rfl := B.e h0
          exact J.ret1 rfl rfl fun w H => ⟨(), rfl, H.pick [] (by decide)⟩
        · replace h0 := B.f hB44 h0
          refine J.skip ?_
          refine J.tN ?_
          refine J.seq ?_
          refine J.region ?_
          refine J.op rfl rfl rfl (V.as rfl rfl) ?_
          refine J.nil ?_
          refine J.tN ?_
          refine J.seq ?_
          refine J.region ?_
          refine J.op rfl rfl rfl (V.ldW 3 rfl rfl rfl ts29 ta29 rfl) ?_
          refine J.op rfl rfl rfl (V.mv rfl rfl) ?_
          refine J.pickE [4, 0, 1, 2, 3, 5, 6, 7, 8] (es' := [.rowE g19 60 (eA .i16 64) r17.Frames, .rowE g39 60 (eA .i16 64) r37.Frames, .blk b27 [.int .i8 r23.1.Across, g25] 29, .rowE g25 60 (eA .i16 64) r23.1.Frames, .blk b21 [.int .i8 r17.Across, g19] 29, .blk b15 [.int .i8 r11.1.Across, g13] 29, .rowE g13 60 (eA .i16 64) r11.1.Frames, .rowE g9 60 (eA .i16 64) r7.Frames, .blk b1 [.int .i8 p0_aS.Across, v0_Frames] 25]) rfl rfl ?_
          obtain ⟨r45, hr46, h0⟩ := B.bind h0
          refine J.clA (l := [.tmp 50, .tmp 51]) [.rowE g19 60 (eA .i16 64) r17.Frames] [.rowE g39 60 (eA .i16 64) r37.Frames, .blk b27 [.int .i8 r23.1.Across, g25] 29, .rowE g25 60 (eA .i16 64) r23.1.Frames, .blk b21 [.int .i8 r17.Across, g19] 29, .blk b15 [.int .i8 r11.1.Across, g13] 29, .rowE g13 60 (eA .i16 64) r11.1.Frames, .rowE g9 60 (eA .i16 64) r7.Frames, .blk b1 [.int .i8 p0_aS.Across, v0_Frames] 25] cf10 (wN rfl) rfl rfl rfl rfl rfl rfl (fun w H => laws_markSheet.calls (⟨r17.Across, r17.Frames⟩ : impl_Sheet) g19 1 r45 w H.enterA  hr46) fun g47 => ?_
          refine J.op rfl rfl rfl (V.as rfl rfl) ?_
          refine J.nil ?_
          refine J.tN ?_
          refine J.seq ?_
          refine J.seq ?_
          obtain ⟨y48, hy55, h0⟩ := B.bind h0
          replace hy55 := B.top hy55
          refine J.cut (γ := Unit) (fun _ => True) (fun gy49 => [(1, .int .i64 p1_aI), (2, bp b1 0), (6, bp b15 0), (7, .int .i64 r11.2), (9, bp b27 0), (65, .bool y48)]) (fun gy49 => [.rowE g19 60 (eA .i16 64) r45.2, .rowE g39 60 (eA .i16 64) r37.Frames, .blk b27 [.int .i8 r23.1.Across, g25] 29, .rowE g25 60 (eA .i16 64) r23.1.Frames, .blk b21 [.int .i8 r17.Across, g19] 29, .blk b15 [.int .i8 r11.1.Across, g13] 29, .rowE g13 60 (eA .i16 64) r11.1.Frames, .rowE g9 60 (eA .i16 64) r7.Frames, .blk b1 [.int .i8 p0_aS.Across, v0_Frames] 25]) ?_ ?_
          · have h1 := hy55
            refine J.region ?_
            refine J.op rfl rfl rfl (V.mv rfl rfl) ?_
            refine J.op rfl rfl rfl (V.cmp rfl rfl rfl rfl) ?_
            refine J.op rfl rfl rfl (V.mv rfl rfl) ?_
            refine J.split 55 rfl (fun hB50 => ?_) (fun hB50 => ?_)
            · replace h1 := B.t hB50 h1
              refine J.opOff rfl rfl rfl rfl rfl rfl ?_
              refine J.opOff rfl rfl rfl rfl rfl rfl ?_
              refine J.opOff rfl rfl rfl rfl rfl rfl ?_
              refine J.opOff rfl rfl rfl rfl rfl rfl ?_
              refine J.op rfl rfl rfl (V.pkT rfl rfl rfl) ?_
              refine J.op rfl rfl rfl (V.mv rfl rfl) ?_
              refine J.opOff rfl rfl rfl rfl rfl rfl ?_
              refine J.opOff rfl rfl rfl rfl rfl rfl ?_
              refine J.opOff rfl rfl rfl rfl rfl rfl ?_
              refine J.op rfl rfl rfl (V.pkT rfl rfl rfl) ?_
              refine J.nil ?_
              obtain rfl := B.e h1
              refine J.tN (J.to () trivial ?_)
              exact J.keep _ rfl (J.pickE [0, 1, 2, 3, 4, 5, 6, 7, 8] rfl rfl J.here)
            · replace h1 := B.f hB50 h1
              refine J.opOn rfl rfl rfl rfl rfl (V.ldW 2 rfl rfl rfl ts29 ta29 rfl) ?_
              refine J.opOn rfl rfl rfl rfl rfl (V.ldW 5 rfl rfl rfl ts29 ta29 rfl) ?_
              obtain ⟨r51, hr52, h1⟩ := B.bind h1
              refine J.clA (l := [.tmp 56, .tmp 57]) [] [.rowE g19 60 (eA .i16 64) r45.2, .rowE g39 60 (eA .i16 64) r37.Frames, .blk b27 [.int .i8 r23.1.Across, g25] 29, .rowE g25 60 (eA .i16 64) r23.1.Frames, .blk b21 [.int .i8 r17.Across, g19] 29, .blk b15 [.int .i8 r11.1.Across, g13] 29, .rowE g13 60 (eA .i16 64) r11.1.Frames, .rowE g9 60 (eA .i16 64) r7.Frames, .blk b1 [.int .i8 p0_aS.Across, v0_Frames] 25] cf9 (wY rfl rfl rfl) rfl rfl rfl rfl rfl rfl (fun w H => laws_eqSheet.calls (⟨r23.1.Across, r23.1.Frames⟩ : impl_Sheet) g25 (⟨r11.1.Across, r11.1.Frames⟩ : impl_Sheet) g13 r51 w (Own.refl w) (Own.slA 3 H rfl) (Own.slA 6 H rfl) hr52) fun g53 => ?_
              refine J.opOn rfl rfl rfl rfl rfl (V.nt rfl rfl) ?_
              refine J.op rfl rfl rfl (V.pkF rfl rfl rfl) ?_
              refine J.op rfl rfl rfl (V.mv rfl rfl) ?_
              refine J.split 61 rfl (fun hB54 => ?_) (fun hB54 => ?_)
              · replace h1 := B.t hB54 h1
                refine J.opOff rfl rfl rfl rfl rfl rfl ?_
                refine J.opOff rfl rfl rfl rfl rfl rfl ?_
                refine J.opOff rfl rfl rfl rfl rfl rfl ?_
                refine J.op rfl rfl rfl (V.pkT rfl rfl rfl) ?_
                refine J.nil ?_
                obtain rfl := B.e h1
                refine J.tN (J.to () trivial ?_)
                exact J.keep _ rfl (J.pickE [0, 1, 2, 3, 4, 5, 6, 7, 8] rfl rfl J.here)
              · replace h1 := B.f hB54 h1
                refine J.opOn rfl rfl rfl rfl rfl (V.mv rfl rfl) ?_
                refine J.opOn rfl rfl rfl rfl rfl (V.mv rfl rfl) ?_
                refine J.opOn rfl rfl rfl rfl rfl (V.cmp rfl rfl rfl rfl) ?_
                refine J.op rfl rfl rfl (V.pkF rfl rfl rfl) ?_
                refine J.nil ?_
                obtain rfl := B.e h1
                refine J.tN (J.to () trivial ?_)
                exact J.keep _ rfl (J.pickE [0, 1, 2, 3, 4, 5, 6, 7, 8] rfl rfl J.here)
          · intro gy49 _
            refine J.cond rfl (fun hB56 => ?_) (fun hB56 => ?_)
            · replace h0 := B.t hB56 h0
              refine J.seq ?_
              refine J.region ?_
              refine J.op rfl rfl rfl (V.as rfl rfl) ?_
              refine J.nil ?_
              refine J.tN ?_
              refine J.ret ?_
              refine J.tR ?_
              obtain rfl := B.e h0
              exact J.ret1 rfl rfl fun w H => ⟨(), rfl, H.pick [] (by decide)⟩
            · replace h0 := B.f hB56 h0
              refine J.skip ?_
              refine J.tN ?_
              refine J.seq ?_
              refine J.region ?_
              refine J.op rfl rfl rfl (V.as rfl rfl) ?_
              refine J.nil ?_
              refine J.tN ?_
              refine J.seq ?_
              refine J.region ?_
              refine J.op rfl rfl rfl (V.ldW 2 rfl rfl rfl ts29 ta29 rfl) ?_
              refine J.op rfl rfl rfl (V.mv rfl rfl) ?_
              refine J.pickE [3, 0, 1, 2, 4, 5, 6, 7, 8] (es' := [.rowE g25 60 (eA .i16 64) r23.1.Frames, .rowE g19 60 (eA .i16 64) r45.2, .rowE g39 60 (eA .i16 64) r37.Frames, .blk b27 [.int .i8 r23.1.Across, g25] 29, .blk b21 [.int .i8 r17.Across, g19] 29, .blk b15 [.int .i8 r11.1.Across, g13] 29, .rowE g13 60 (eA .i16 64) r11.1.Frames, .rowE g9 60 (eA .i16 64) r7.Frames, .blk b1 [.int .i8 p0_aS.Across, v0_Frames] 25]) rfl rfl ?_
              obtain ⟨r57, hr58, h0⟩ := B.bind h0
              refine J.clA (l := [.tmp 66, .tmp 67]) [.rowE g25 60 (eA .i16 64) r23.1.Frames] [.rowE g19 60 (eA .i16 64) r45.2, .rowE g39 60 (eA .i16 64) r37.Frames, .blk b27 [.int .i8 r23.1.Across, g25] 29, .blk b21 [.int .i8 r17.Across, g19] 29, .blk b15 [.int .i8 r11.1.Across, g13] 29, .rowE g13 60 (eA .i16 64) r11.1.Frames, .rowE g9 60 (eA .i16 64) r7.Frames, .blk b1 [.int .i8 p0_aS.Across, v0_Frames] 25] cf10 (wN rfl) rfl rfl rfl rfl rfl rfl (fun w H => laws_markSheet.calls (⟨r23.1.Across, r23.1.Frames⟩ : impl_Sheet) g25 1 r57 w H.enterA  hr58) fun g59 => ?_
              refine J.op rfl rfl rfl (V.as rfl rfl) ?_
              refine J.nil ?_
              refine J.tN ?_
              refine J.seq ?_
              refine J.region ?_
              refine J.op rfl rfl rfl (V.as rfl rfl) ?_
              refine J.nil ?_
              refine J.tN ?_
              refine J.seq ?_
              refine J.region ?_
              refine J.op rfl rfl rfl (V.ldW 3 rfl rfl rfl ts29 ta29 rfl) ?_
              refine J.op rfl rfl rfl (V.mv rfl rfl) ?_
              obtain ⟨r60, hr61, h0⟩ := B.bind h0
              refine J.clA (l := [.tmp 69, .tmp 70]) [] [.rowE g25 60 (eA .i16 64) r57.2, .rowE g19 60 (eA .i16 64) r45.2, .rowE g39 60 (eA .i16 64) r37.Frames, .blk b27 [.int .i8 r23.1.Across, g25] 29, .blk b21 [.int .i8 r17.Across, g19] 29, .blk b15 [.int .i8 r11.1.Across, g13] 29, .rowE g13 60 (eA .i16 64) r11.1.Frames, .rowE g9 60 (eA .i16 64) r7.Frames, .blk b1 [.int .i8 p0_aS.Across, v0_Frames] 25] cf11 (wN rfl) rfl rfl rfl rfl rfl rfl (fun w H => laws_heldSheet.calls (⟨r23.1.Across, r57.2⟩ : impl_Sheet) g25 1 r60 w (Own.refl w) (Own.slA 0 H rfl) hr61) fun g62 => ?_
              refine J.op rfl rfl rfl (V.as rfl rfl) ?_
              refine J.nil ?_
              refine J.tN ?_
              refine J.seq ?_
              refine J.seq ?_
              refine J.region ?_
              refine J.op rfl rfl rfl (V.mv rfl rfl) ?_
              refine J.op rfl rfl rfl (V.cmp rfl rfl rfl rfl) ?_
              refine J.nil ?_
              refine J.tN ?_
              refine J.cond rfl (fun hB63 => ?_) (fun hB63 => ?_)
              · replace h0 := B.t hB63 h0
                refine J.seq ?_
                refine J.region ?_
                refine J.op rfl rfl rfl (V.as rfl rfl) ?_
                refine J.nil ?_
                refine J.tN ?_
                refine J.ret ?_
                refine J.tR ?_
                obtain rfl := B.e h0
                exact J.ret1 rfl rfl fun w H => ⟨(), rfl, H.pick [] (by decide)⟩
              · replace h0 := B.f hB63 h0
                refine J.skip ?_
                refine J.tN ?_
                refine J.seq ?_
                refine J.seq ?_
                refine J.region ?_
                refine J.op rfl rfl rfl (V.mv rfl rfl) ?_
                refine J.op rfl rfl rfl (V.mv rfl rfl) ?_
                refine J.op rfl rfl rfl (V.cmp rfl rfl rfl rfl) ?_
                refine J.nil ?_
                refine J.tN ?_
                refine J.cond rfl (fun hB64 => ?_) (fun hB64 => ?_)
                · replace h0 := B.t hB64 h0
                  refine J.seq ?_
                  refine J.region ?_
                  refine J.op rfl rfl rfl (V.as rfl rfl) ?_
                  refine J.nil ?_
                  refine J.tN ?_
                  refine J.ret ?_
                  refine J.tR ?_
                  obtain rfl := B.e h0
                  exact J.ret1 rfl rfl fun w H => ⟨(), rfl, H.pick [] (by decide)⟩
                · replace h0 := B.f hB64 h0
                  refine J.skip ?_
                  refine J.tN ?_
                  refine J.seq ?_
                  refine J.region ?_
                  refine J.op rfl rfl rfl (V.ldW 8 rfl rfl rfl ts25 ta25 rfl) ?_
                  obtain ⟨r65, hr66, h0⟩ := B.bind h0
                  refine J.clA (l := [.tmp 78]) [] [.rowE g25 60 (eA .i16 64) r57.2, .rowE g19 60 (eA .i16 64) r45.2, .rowE g39 60 (eA .i16 64) r37.Frames, .blk b27 [.int .i8 r23.1.Across, g25] 29, .blk b21 [.int .i8 r17.Across, g19] 29, .blk b15 [.int .i8 r11.1.Across, g13] 29, .rowE g13 60 (eA .i16 64) r11.1.Frames, .rowE g9 60 (eA .i16 64) r7.Frames, .blk b1 [.int .i8 p0_aS.Across, v0_Frames] 25] cf7 (wN rfl) rfl rfl rfl rfl rfl rfl (fun w H => laws_toSheet.calls (⟨p0_aS.Across, p0_aS.Frames⟩ : laws_Sheet) v0_Frames r65 w (Own.refl w) (Sl.laterA hS0_Frames H) hr66) fun g67 => ?_
                  refine J.op rfl rfl rfl (V.mv rfl rfl) ?_
                  obtain ⟨r69, hr70, h0⟩ := B.bind h0
                  refine J.clA (l := [.tmp 79, .tmp 80]) [] [.rowE g67 60 (eA .i16 64) r65.Frames, .rowE g25 60 (eA .i16 64) r57.2, .rowE g19 60 (eA .i16 64) r45.2, .rowE g39 60 (eA .i16 64) r37.Frames, .blk b27 [.int .i8 r23.1.Across, g25] 29, .blk b21 [.int .i8 r17.Across, g19] 29, .blk b15 [.int .i8 r11.1.Across, g13] 29, .rowE g13 60 (eA .i16 64) r11.1.Frames, .rowE g9 60 (eA .i16 64) r7.Frames, .blk b1 [.int .i8 p0_aS.Across, v0_Frames] 25] cf8 (wN rfl) rfl rfl rfl rfl rfl rfl (fun w H => impl_DropFrame.calls (⟨r65.Across, r65.Frames⟩ : impl_Sheet) g67 p1_aI r69 w (Own.refl w) (Own.slA 0 H rfl) hr70) fun g71 => ?_
                  refine J.op rfl rfl rfl (V.mv rfl rfl) ?_
                  refine J.op rfl rfl rfl (V.ex rfl rfl rfl) ?_
                  refine J.op rfl rfl rfl (V.ex rfl rfl rfl) ?_
                  refine J.alloc rfl rfl rfl rfl tz29 rfl fun b73 => ?_
                  refine J.stW (cs' := [.int .i8 r69.1.Across, g71]) 0 rfl rfl rfl rfl rfl rfl ts29 rfl (fun _ H => (one_cons rfl (one_cons (Own.sl0 1 H rfl).one one_nil))) rfl rfl ?_
                  refine J.op rfl rfl rfl (V.as rfl rfl) ?_
                  refine J.nil ?_
                  refine J.tN ?_
                  refine J.seq ?_
                  refine J.seq ?_
                  obtain ⟨y75, hy81, h0⟩ := B.bind h0
                  replace hy81 := B.top hy81
                  refine J.cut (γ := Unit) (fun _ => True) (fun gy76 => [(9, bp b27 0), (12, .int .i64 r57.1), (92, .bool y75)]) (fun gy76 => [.blk b73 [.int .i8 r69.1.Across, g71] 29, .rowE g71 60 (eA .i16 64) r69.1.Frames, .rowE g67 60 (eA .i16 64) r65.Frames, .rowE g25 60 (eA .i16 64) r57.2, .rowE g19 60 (eA .i16 64) r45.2, .rowE g39 60 (eA .i16 64) r37.Frames, .blk b27 [.int .i8 r23.1.Across, g25] 29, .blk b21 [.int .i8 r17.Across, g19] 29, .blk b15 [.int .i8 r11.1.Across, g13] 29, .rowE g13 60 (eA .i16 64) r11.1.Frames, .rowE g9 60 (eA .i16 64) r7.Frames, .blk b1 [.int .i8 p0_aS.Across, v0_Frames] 25]) ?_ ?_
                  · have h1 := hy81
                    refine J.region ?_
                    refine J.op rfl rfl rfl (V.ldW 0 rfl rfl rfl ts29 ta29 rfl) ?_
                    refine J.op rfl rfl rfl (V.ldW 8 rfl rfl rfl ts29 ta29 rfl) ?_
                    obtain ⟨r77, hr78, h1⟩ := B.bind h1
                    refine J.clA (l := [.tmp 84, .tmp 85]) [] [.blk b73 [.int .i8 r69.1.Across, g71] 29, .rowE g71 60 (eA .i16 64) r69.1.Frames, .rowE g67 60 (eA .i16 64) r65.Frames, .rowE g25 60 (eA .i16 64) r57.2, .rowE g19 60 (eA .i16 64) r45.2, .rowE g39 60 (eA .i16 64) r37.Frames, .blk b27 [.int .i8 r23.1.Across, g25] 29, .blk b21 [.int .i8 r17.Across, g19] 29, .blk b15 [.int .i8 r11.1.Across, g13] 29, .rowE g13 60 (eA .i16 64) r11.1.Frames, .rowE g9 60 (eA .i16 64) r7.Frames, .blk b1 [.int .i8 p0_aS.Across, v0_Frames] 25] cf9 (wN rfl) rfl rfl rfl rfl rfl rfl (fun w H => laws_eqSheet.calls (⟨r69.1.Across, r69.1.Frames⟩ : impl_Sheet) g71 (⟨r11.1.Across, r11.1.Frames⟩ : impl_Sheet) g13 r77 w (Own.refl w) (Own.slA 1 H rfl) (Own.slA 9 H rfl) hr78) fun g79 => ?_
                    refine J.op rfl rfl rfl (V.nt rfl rfl) ?_
                    refine J.op rfl rfl rfl (V.mv rfl rfl) ?_
                    refine J.split 88 rfl (fun hB80 => ?_) (fun hB80 => ?_)
                    · replace h1 := B.t hB80 h1
                      refine J.opOff rfl rfl rfl rfl rfl rfl ?_
                      refine J.opOff rfl rfl rfl rfl rfl rfl ?_
                      refine J.opOff rfl rfl rfl rfl rfl rfl ?_
                      refine J.op rfl rfl rfl (V.pkT rfl rfl rfl) ?_
                      refine J.nil ?_
                      obtain rfl := B.e h1
                      refine J.tN (J.to () trivial ?_)
                      exact J.keep _ rfl (J.pickE [0, 1, 2, 3, 4, 5, 6, 7, 8, 9, 10, 11] rfl rfl J.here)
                    · replace h1 := B.f hB80 h1
                      refine J.opOn rfl rfl rfl rfl rfl (V.mv rfl rfl) ?_
                      refine J.opOn rfl rfl rfl rfl rfl (V.mv rfl rfl) ?_
                      refine J.opOn rfl rfl rfl rfl rfl (V.cmp rfl rfl rfl rfl) ?_
                      refine J.op rfl rfl rfl (V.pkF rfl rfl rfl) ?_
                      refine J.nil ?_
                      obtain rfl := B.e h1
                      refine J.tN (J.to () trivial ?_)
                      exact J.keep _ rfl (J.pickE [0, 1, 2, 3, 4, 5, 6, 7, 8, 9, 10, 11] rfl rfl J.here)
                  · intro gy76 _
                    refine J.cond rfl (fun hB82 => ?_) (fun hB82 => ?_)
                    · replace h0 := B.t hB82 h0
                      refine J.seq ?_
                      refine J.region ?_
                      refine J.op rfl rfl rfl (V.as rfl rfl) ?_
                      refine J.nil ?_
                      refine J.tN ?_
                      refine J.ret ?_
                      refine J.tR ?_
                      obtain rfl := B.e h0
                      exact J.ret1 rfl rfl fun w H => ⟨(), rfl, H.pick [] (by decide)⟩
                    · replace h0 := B.f hB82 h0
                      refine J.skip ?_
                      refine J.tN ?_
                      refine J.seq ?_
                      refine J.region ?_
                      refine J.op rfl rfl rfl (V.as rfl rfl) ?_
                      refine J.nil ?_
                      refine J.tN ?_
                      refine J.seq ?_
                      refine J.region ?_
                      refine J.op rfl rfl rfl (V.ldW 6 rfl rfl rfl ts29 ta29 rfl) ?_
                      refine J.op rfl rfl rfl (V.mv rfl rfl) ?_
                      obtain ⟨r83, hr84, h0⟩ := B.bind h0
                      refine J.clA (l := [.tmp 93, .tmp 94]) [] [.blk b73 [.int .i8 r69.1.Across, g71] 29, .rowE g71 60 (eA .i16 64) r69.1.Frames, .rowE g67 60 (eA .i16 64) r65.Frames, .rowE g25 60 (eA .i16 64) r57.2, .rowE g19 60 (eA .i16 64) r45.2, .rowE g39 60 (eA .i16 64) r37.Frames, .blk b27 [.int .i8 r23.1.Across, g25] 29, .blk b21 [.int .i8 r17.Across, g19] 29, .blk b15 [.int .i8 r11.1.Across, g13] 29, .rowE g13 60 (eA .i16 64) r11.1.Frames, .rowE g9 60 (eA .i16 64) r7.Frames, .blk b1 [.int .i8 p0_aS.Across, v0_Frames] 25] cf11 (wN rfl) rfl rfl rfl rfl rfl rfl (fun w H => laws_heldSheet.calls (⟨r23.1.Across, r57.2⟩ : impl_Sheet) g25 1 r83 w (Own.refl w) (Own.slA 3 H rfl) hr84) fun g85 => ?_
                      refine J.op rfl rfl rfl (V.as rfl rfl) ?_
                      refine J.nil ?_
                      refine J.tN ?_
                      refine J.seq ?_
                      refine J.seq ?_
                      refine J.region ?_
                      refine J.op rfl rfl rfl (V.mv rfl rfl) ?_
                      refine J.op rfl rfl rfl (V.cmp rfl rfl rfl rfl) ?_
                      refine J.nil ?_
                      refine J.tN ?_
                      refine J.cond rfl (fun hB86 => ?_) (fun hB86 => ?_)
                      · replace h0 := B.t hB86 h0
                        refine J.seq ?_
                        refine J.region ?_
                        refine J.op rfl rfl rfl (V.as rfl rfl) ?_
                        refine J.nil ?_
                        refine J.tN ?_
                        refine J.ret ?_
                        refine J.tR ?_
                        obtain rfl := B.e h0
                        exact J.ret1 rfl rfl fun w H => ⟨(), rfl, H.pick [] (by decide)⟩
                      · replace h0 := B.f hB86 h0
                        refine J.skip ?_
                        refine J.tN ?_
                        refine J.seq ?_
                        refine J.seq ?_
                        refine J.region ?_
                        refine J.op rfl rfl rfl (V.mv rfl rfl) ?_
                        refine J.op rfl rfl rfl (V.mv rfl rfl) ?_
                        refine J.op rfl rfl rfl (V.cmp rfl rfl rfl rfl) ?_
                        refine J.nil ?_
                        refine J.tN ?_
                        refine J.cond rfl (fun hB87 => ?_) (fun hB87 => ?_)
                        · replace h0 := B.t hB87 h0
                          refine J.seq ?_
                          refine J.region ?_
                          refine J.op rfl rfl rfl (V.as rfl rfl) ?_
                          refine J.nil ?_
                          refine J.tN ?_
                          refine J.ret ?_
                          refine J.tR ?_
                          obtain rfl := B.e h0
                          exact J.ret1 rfl rfl fun w H => ⟨(), rfl, H.pick [] (by decide)⟩
                        · replace h0 := B.f hB87 h0
                          refine J.skip ?_
                          refine J.tN ?_
                          refine J.seq ?_
                          refine J.region ?_
                          refine J.op rfl rfl rfl (V.as rfl rfl) ?_
                          refine J.nil ?_
                          refine J.tN ?_
                          refine J.ret ?_
                          obtain rfl := B.e h0
                          exact J.ret1 rfl rfl fun w H => ⟨(), rfl, H.pick [] (by decide)⟩

/-! ### laws.f6big: function 12 -/
noncomputable def laws_f6big.f (p0_code : (List Int)) : Option (Bool) := (some (decide (4096 < (p0_code.length : Int)))).bind fun t1 => some t1
set_option maxRecDepth 100000 in
theorem laws_f6big.calls (v0 : Value) (p0_code : (List Int)) (r : Bool) (w : World) (H0 : Own [] w w []) (hS0 : SlE [] w v0 5 (eI .u8) p0_code) (h0 : laws_f6big.f p0_code = some r) :
    Calls Try.prog 12 #[v0] w (fun e w' => ∃ _ : Unit, e = .returned (.bool r) ∧ Own [] w w' []) := by
  unfold laws_f6big.f at h0
  replace h0 := B.top h0
  refine calls_of_J (args := [v0]) Try.func12 rfl Try.ntmps12 rfl [(0, v0)] rfl H0 ?_
  refine J.seq ?_
  refine J.region ?_
  refine J.op rfl rfl rfl (V.as rfl rfl) ?_
  refine J.nil ?_
  refine J.tN ?_
  refine J.seq ?_
  refine J.region ?_
  refine J.op rfl rfl rfl (V.mv rfl rfl) ?_
  refine J.op rfl rfl rfl (V.lenS hS0 rfl rfl tl36) ?_
  refine J.op rfl rfl rfl (V.cmp rfl rfl rfl rfl) ?_
  refine J.op rfl rfl rfl (V.as rfl rfl) ?_
  obtain ⟨t1, et1, h0⟩ := B.lt h0
  refine J.val (congrArg (Value.bool) et1) ?_
  refine J.nil ?_
  refine J.tN ?_
  refine J.ret ?_
  obtain rfl := B.e h0
  exact J.ret1 rfl rfl fun w H => ⟨(), rfl, H.pick [] (by decide)⟩

/-! ### (*spec.l00Src).next: function 55 -/
noncomputable def spec_l00Src_next.f (p0_s : spec_l00Src) : Option (Int × spec_l00Src) := (bif (decide (p0_s.at_ < (p0_s.code.length : Int))) then (bif (inB p0_s.at_ p0_s.code.length) then ((some (IntKind.wrap .i64 (rd (eI .u8) p0_s.code p0_s.at_))).bind fun b_5 => some b_5) else none) else (some 0) : Option (Int)).bind fun y1 => bif (decide ((IntKind.wrap .i64 (p0_s.at_ + 1)) ≤ (p0_s.code.length : Int))) then (some (y1, (⟨p0_s.code, IntKind.wrap .i64 (p0_s.at_ + 1), IntKind.wrap .u64 ((IntKind.wrap .u64 ((IntKind.wrap .u64 (p0_s.seed * 6364136223846793005)) + (IntKind.wrap .u64 y1))) + 1442695040888963407)⟩ : spec_l00Src))) else ((some (IntKind.wrap .i64 (Go.bits .and .u64 (shR .u64 (IntKind.wrap .u64 ((IntKind.wrap .u64 ((IntKind.wrap .u64 (p0_s.seed * 6364136223846793005)) + (IntKind.wrap .u64 y1))) + 1442695040888963407)) 40) 255))).bind fun t8 => some (t8, (⟨p0_s.code, IntKind.wrap .i64 (p0_s.at_ + 1), IntKind.wrap .u64 ((IntKind.wrap .u64 ((IntKind.wrap .u64 (p0_s.seed * 6364136223846793005)) + (IntKind.wrap .u64 y1))) + 1442695040888963407)⟩ : spec_l00Src)))
set_option maxRecDepth 100000 in
theorem spec_l00Src_next.calls (b0_ : Nat) (p0_s : spec_l00Src) (v0_code : Value) (r : Int × spec_l00Src) (w : World) (H0 : Own (Mof [.blk b0_ [v0_code, .int .i64 p0_s.at_, .int .u64 p0_s.seed] 79]) w w [.blk b0_ [v0_code, .int .i64 p0_s.at_, .int .u64 p0_s.seed] 79]) (hS0_code : SlE (Mof [.blk b0_ [v0_code, .int .i64 p0_s.at_, .int .u64 p0_s.seed] 79]) w v0_code 5 (eI .u8) p0_s.code) (h0 : spec_l00Src_next.f p0_s = some r) :
    Calls Try.prog 55 #[bp b0_ 0] w (fun e w' => ∃ _ : Unit, e = .returned (.int .i64 r.1) ∧ Own (Mof [.blk b0_ [v0_code, .int .i64 p0_s.at_, .int .u64 p0_s.seed] 79]) w w' [.blk b0_ [v0_code, .int .i64 r.2.at_, .int .u64 r.2.seed] 79]) := by
  unfold spec_l00Src_next.f at h0
  replace h0 := B.top h0
  refine calls_of_J (args := [bp b0_ 0]) Try.func55 rfl Try.ntmps55 rfl [(0, bp b0_ 0)] rfl H0 ?_
  refine J.seq ?_
  refine J.region ?_
  refine J.op rfl rfl rfl (V.as rfl rfl) ?_
  refine J.nil ?_
  refine J.tN ?_
  refine J.seq ?_
  refine J.region ?_
  refine J.op rfl rfl rfl (V.as rfl rfl) ?_
  refine J.nil ?_
  refine J.tN ?_
  refine J.seq ?_
  obtain ⟨y1, hy6, h0⟩ := B.bind h0
  replace hy6 := B.top hy6
  refine J.cut (γ := Unit) (fun _ => True) (fun gy2 => [(0, bp b0_ 0), (3, .int .i64 y1)]) (fun gy2 => [.blk b0_ [v0_code, .int .i64 p0_s.at_, .int .u64 p0_s.seed] 79]) ?_ ?_
  · have h1 := hy6
    refine J.seq ?_
    refine J.quiet mixed (by kernel_rfl) ?_
    refine JQ.op rfl rfl rfl (V.mv rfl rfl) ?_
    refine JQ.op rfl rfl rfl (V.nc rfl rfl) ?_
    refine JQ.op rfl rfl rfl (V.faB rfl rfl tf1_79) ?_
    refine JQ.op rfl rfl rfl (V.ldB 0 rfl rfl rfl Try.underlying3 ta3 rfl) ?_
    refine JQ.op rfl rfl rfl (V.mv rfl rfl) ?_
    refine JQ.op rfl rfl rfl (V.nc rfl rfl) ?_
    refine JQ.op rfl rfl rfl (V.faB rfl rfl tf0_79) ?_
    refine JQ.op rfl rfl rfl (V.ldB 0 rfl rfl rfl Try.underlying36 ta36 rfl) ?_
    refine JQ.op rfl rfl rfl (V.lenS hS0_code rfl rfl tl36) ?_
    refine JQ.op rfl rfl rfl (V.cmp rfl rfl rfl rfl) ?_
    refine JQ.nil ?_
    refine J.tN ?_
    refine J.cond rfl (fun hB3 => ?_) (fun hB3 => ?_)
    · replace h1 := B.t hB3 h1
      refine J.quiet mixed (by kernel_rfl) ?_
      refine JQ.op rfl rfl rfl (V.mv rfl rfl) ?_
      refine JQ.op rfl rfl rfl (V.nc rfl rfl) ?_
      refine JQ.op rfl rfl rfl (V.faB rfl rfl tf0_79) ?_
      refine JQ.op rfl rfl rfl (V.ldB 0 rfl rfl rfl Try.underlying36 ta36 rfl) ?_
      refine JQ.op rfl rfl rfl (V.mv rfl rfl) ?_
      refine JQ.op rfl rfl rfl (V.nc rfl rfl) ?_
      refine JQ.op rfl rfl rfl (V.faB rfl rfl tf1_79) ?_
      refine JQ.op rfl rfl rfl (V.ldB 0 rfl rfl rfl Try.underlying3 ta3 rfl) ?_
      obtain ⟨hC4, h1⟩ := B.chk h1
      refine JQ.op rfl rfl rfl (V.ixS hS0_code rfl rfl rfl tl36 ts5 hC4) ?_
      refine JQ.op rfl rfl rfl (V.elS0 hS0_code hC4 rfl rfl Try.underlying5 ta5 rfl) ?_
      refine JQ.op rfl rfl rfl (V.conv rfl rfl Try.underlying5 Try.underlying3) ?_
      refine JQ.op rfl rfl rfl (V.as rfl rfl) ?_
      obtain ⟨b_5, eb_5, h1⟩ := B.lt h1
      refine JQ.val (congrArg (Value.int .i64) eb_5) ?_
      refine JQ.nil ?_
      obtain rfl := B.e h1
      refine J.tN (J.to () trivial ?_)
      exact J.keep _ rfl (J.pickE [0] rfl rfl J.here)
    · replace h1 := B.f hB3 h1
      refine J.skip ?_
      obtain rfl := B.e h1
      refine J.tN (J.to () trivial ?_)
      exact J.keep _ rfl (J.pickE [0] rfl rfl J.here)
  · intro gy2 _
    refine J.seq ?_
    refine J.region ?_
    refine J.op rfl rfl rfl (V.mv rfl rfl) ?_
    refine J.op rfl rfl rfl (V.nc rfl rfl) ?_
    refine J.op rfl rfl rfl (V.faB rfl rfl tf1_79) ?_
    refine J.op rfl rfl rfl (V.ldB 0 rfl rfl rfl Try.underlying3 ta3 rfl) ?_
    refine J.op rfl rfl rfl (V.ar rfl rfl rfl rfl) ?_
    refine J.op rfl rfl rfl (V.nc rfl rfl) ?_
    refine J.op rfl rfl rfl (V.faB rfl rfl tf1_79) ?_
    refine J.stB 0 rfl rfl rfl rfl rfl rfl ts3 (fun _ _ => rfl) rfl ?_
    refine J.nil ?_
    refine J.tN ?_
    refine J.seq ?_
    refine J.region ?_
    refine J.op rfl rfl rfl (V.mv rfl rfl) ?_
    refine J.op rfl rfl rfl (V.mv rfl rfl) ?_
    refine J.op rfl rfl rfl (V.nc rfl rfl) ?_
    refine J.op rfl rfl rfl (V.faB rfl rfl tf2_79) ?_
    refine J.op rfl rfl rfl (V.ldB 0 rfl rfl rfl Try.underlying77 ta77 rfl) ?_
    refine J.op rfl rfl rfl (V.ar rfl rfl rfl rfl) ?_
    refine J.op rfl rfl rfl (V.mv rfl rfl) ?_
    refine J.op rfl rfl rfl (V.conv rfl rfl Try.underlying3 Try.underlying77) ?_
    refine J.op rfl rfl rfl (V.ar rfl rfl rfl rfl) ?_
    refine J.op rfl rfl rfl (V.ar rfl rfl rfl rfl) ?_
    refine J.op rfl rfl rfl (V.nc rfl rfl) ?_
    refine J.op rfl rfl rfl (V.faB rfl rfl tf2_79) ?_
    refine J.stB 0 rfl rfl rfl rfl rfl rfl ts77 (fun _ _ => rfl) rfl ?_
    refine J.nil ?_
    refine J.tN ?_
    refine J.seq ?_
    refine J.seq ?_
    refine J.quiet mixed (by kernel_rfl) ?_
    refine JQ.op rfl rfl rfl (V.mv rfl rfl) ?_
    refine JQ.op rfl rfl rfl (V.nc rfl rfl) ?_
    refine JQ.op rfl rfl rfl (V.faB rfl rfl tf1_79) ?_
    refine JQ.op rfl rfl rfl (V.ldB 0 rfl rfl rfl Try.underlying3 ta3 rfl) ?_
    refine JQ.op rfl rfl rfl (V.mv rfl rfl) ?_
    refine JQ.op rfl rfl rfl (V.nc rfl rfl) ?_
    refine JQ.op rfl rfl rfl (V.faB rfl rfl tf0_79) ?_
    refine JQ.op rfl rfl rfl (V.ldB 0 rfl rfl rfl Try.underlying36 ta36 rfl) ?_
    refine JQ.op rfl rfl rfl (V.lenS hS0_code rfl rfl tl36) ?_
    refine JQ.op rfl rfl rfl (V.cmp rfl rfl rfl rfl) ?_
    refine JQ.nil ?_
    refine J.tN ?_
    refine J.cond rfl (fun hB7 => ?_) (fun hB7 => ?_)
    · replace h0 := B.t hB7 h0
      refine J.seq ?_
      refine J.region ?_
      refine J.op rfl rfl rfl (V.mv rfl rfl) ?_
      refine J.op rfl rfl rfl (V.as rfl rfl) ?_
      refine J.nil ?_
      refine J.tN ?_
      refine J.ret ?_
      refine J.tR ?_
      obtain rfl := B.e h0
      exact J.ret1 rfl rfl fun w H => ⟨(), rfl, H.pick [0] (by decide)⟩
    · replace h0 := B.f hB7 h0
      refine J.skip ?_
      refine J.tN ?_
      refine J.seq ?_
      refine J.region ?_
      refine J.op rfl rfl rfl (V.mv rfl rfl) ?_
      refine J.op rfl rfl rfl (V.nc rfl rfl) ?_
      refine J.op rfl rfl rfl (V.faB rfl rfl tf2_79) ?_
      refine J.op rfl rfl rfl (V.ldB 0 rfl rfl rfl Try.underlying77 ta77 rfl) ?_
      refine J.op rfl rfl rfl (V.shr rfl rfl rfl rfl) ?_
      refine J.op rfl rfl rfl (V.ar rfl rfl rfl rfl) ?_
      refine J.op rfl rfl rfl (V.conv rfl rfl Try.underlying77 Try.underlying2) ?_
      refine J.op rfl rfl rfl (V.as rfl rfl) ?_
      obtain ⟨t8, et8, h0⟩ := B.lt h0
      refine J.val (congrArg (Value.int .i64) et8) ?_
      refine J.nil ?_
      refine J.tN ?_
      refine J.ret ?_
      obtain rfl := B.e h0
      exact J.ret1 rfl rfl fun w H => ⟨(), rfl, H.pick [0] (by decide)⟩

/-! ### (*spec.l00Src).pick: function 43 -/
noncomputable def spec_l00Src_pick.f (p0_s : spec_l00Src) (p1_n : Int) : Option (Int × spec_l00Src) := bif (decide (p1_n ≤ 1)) then (some (0, (⟨p0_s.code, p0_s.at_, p0_s.seed⟩ : spec_l00Src))) else ((spec_l00Src_next.f (⟨p0_s.code, p0_s.at_, p0_s.seed⟩ : spec_l00Src)).bind fun r2 => (bif (decide (200 < p1_n)) then ((spec_l00Src_next.f (⟨p0_s.code, r2.2.at_, r2.2.seed⟩ : spec_l00Src)).bind fun r8 => (some (IntKind.wrap .i64 ((IntKind.wrap .i64 (r2.1 * 256)) + r8.1))).bind fun x_11 => some (x_11, r8.2.at_, r8.2.seed)) else (some (r2.1, r2.2.at_, r2.2.seed)) : Option (Int × Int × Int)).bind fun y5 => bif (!(p1_n == 0)) then ((some (Int.tmod y5.1 p1_n)).bind fun t14 => some (t14, (⟨p0_s.code, y5.2.1, y5.2.2⟩ : spec_l00Src))) else none)
set_option maxRecDepth 100000 in
theorem spec_l00Src_pick.calls (b0_ : Nat) (p0_s : spec_l00Src) (v0_code : Value) (p1_n : Int) (r : Int × spec_l00Src) (w : World) (H0 : Own (Mof [.blk b0_ [v0_code, .int .i64 p0_s.at_, .int .u64 p0_s.seed] 79]) w w [.blk b0_ [v0_code, .int .i64 p0_s.at_, .int .u64 p0_s.seed] 79]) (hS0_code : SlE (Mof [.blk b0_ [v0_code, .int .i64 p0_s.at_, .int .u64 p0_s.seed] 79]) w v0_code 5 (eI .u8) p0_s.code) (h0 : spec_l00Src_pick.f p0_s p1_n = some r) :
    Calls Try.prog 43 #[bp b0_ 0, .int .i64 p1_n] w (fun e w' => ∃ _ : Unit, e = .returned (.int .i64 r.1) ∧ Own (Mof [.blk b0_ [v0_code, .int .i64 p0_s.at_, .int .u64 p0_s.seed] 79]) w w' [.blk b0_ [v0_code, .int .i64 r.2.at_, .int .u64 r.2.seed] 79]) := by
  unfold spec_l00Src_pick.f at h0
  replace h0 := B.top h0
  refine calls_of_J (args := [bp b0_ 0, .int .i64 p1_n]) Try.func43 rfl Try.ntmps43 rfl [(0, bp b0_ 0), (1, .int .i64 p1_n)] rfl H0 ?_
  refine J.seq ?_
  refine J.region ?_
  refine J.op rfl rfl rfl (V.as rfl rfl) ?_
  refine J.nil ?_
  refine J.tN ?_
  refine J.seq ?_
  refine J.seq ?_
  refine J.region ?_
  refine J.op rfl rfl rfl (V.mv rfl rfl) ?_
  refine J.op rfl rfl rfl (V.cmp rfl rfl rfl rfl) ?_
  refine J.nil ?_
  refine J.tN ?_
  refine J.cond rfl (fun hB1 => ?_) (fun hB1 => ?_)
  · replace h0 := B.t hB1 h0
    refine J.seq ?_
    refine J.region ?_
    refine J.op rfl rfl rfl (V.as rfl rfl) ?_
    refine J.nil ?_
    refine J.tN ?_
    refine J.ret ?_
    refine J.tR ?_
    obtain rfl := B.e h0
    exact J.ret1 rfl rfl fun w H => ⟨(), rfl, H.pick [0] (by decide)⟩
  · replace h0 := B.f hB1 h0
    refine J.skip ?_
    refine J.tN ?_
    refine J.seq ?_
    refine J.region ?_
    refine J.op rfl rfl rfl (V.mv rfl rfl) ?_
    obtain ⟨r2, hr3, h0⟩ := B.bind h0
    refine J.clA (l := [.tmp 8]) [.blk b0_ [v0_code, .int .i64 p0_s.at_, .int .u64 p0_s.seed] 79] [] cf55 (wN rfl) rfl rfl rfl rfl rfl rfl (fun w H => spec_l00Src_next.calls b0_ (⟨p0_s.code, p0_s.at_, p0_s.seed⟩ : spec_l00Src) v0_code r2 w H.enterA (Sl.laterA hS0_code H) hr3) fun g4 => ?_
    refine J.op rfl rfl rfl (V.as rfl rfl) ?_
    refine J.nil ?_
    refine J.tN ?_
    refine J.seq ?_
    obtain ⟨y5, hy12, h0⟩ := B.bind h0
    replace hy12 := B.top hy12
    refine J.cut (γ := Unit) (fun _ => True) (fun gy6 => [(1, .int .i64 p1_n), (5, .int .i64 y5.1)]) (fun gy6 => [.blk b0_ [v0_code, .int .i64 y5.2.1, .int .u64 y5.2.2] 79]) ?_ ?_
    · have h1 := hy12
      refine J.seq ?_
      refine J.region ?_
      refine J.op rfl rfl rfl (V.mv rfl rfl) ?_
      refine J.op rfl rfl rfl (V.cmp rfl rfl rfl rfl) ?_
      refine J.nil ?_
      refine J.tN ?_
      refine J.cond rfl (fun hB7 => ?_) (fun hB7 => ?_)
      · replace h1 := B.t hB7 h1
        refine J.region ?_
        refine J.op rfl rfl rfl (V.mv rfl rfl) ?_
        refine J.op rfl rfl rfl (V.ar rfl rfl rfl rfl) ?_
        refine J.op rfl rfl rfl (V.mv rfl rfl) ?_
        obtain ⟨r8, hr9, h1⟩ := B.bind h1
        refine J.clA (l := [.tmp 14]) [.blk b0_ [v0_code, .int .i64 r2.2.at_, .int .u64 r2.2.seed] 79] [] cf55 (wN rfl) rfl rfl rfl rfl rfl rfl (fun w H => spec_l00Src_next.calls b0_ (⟨p0_s.code, r2.2.at_, r2.2.seed⟩ : spec_l00Src) v0_code r8 w H.enterA (Sl.laterA hS0_code H) hr9) fun g10 => ?_
        refine J.op rfl rfl rfl (V.ar rfl rfl rfl rfl) ?_
        refine J.op rfl rfl rfl (V.as rfl rfl) ?_
        obtain ⟨x_11, ex_11, h1⟩ := B.lt h1
        refine J.val (congrArg (Value.int .i64) ex_11) ?_
        refine J.nil ?_
        obtain rfl := B.e h1
        refine J.tN (J.to () trivial ?_)
        exact J.keep _ rfl (J.pickE [0] rfl rfl J.here)
      · replace h1 := B.f hB7 h1
        refine J.skip ?_
        obtain rfl := B.e h1
        refine J.tN (J.to () trivial ?_)
        exact J.keep _ rfl (J.pickE [0] rfl rfl J.here)
    · intro gy6 _
      refine J.seq ?_
      refine J.region ?_
      refine J.op rfl rfl rfl (V.mv rfl rfl) ?_
      refine J.op rfl rfl rfl (V.mv rfl rfl) ?_
      obtain ⟨hC13, h0⟩ := B.chk h0
      refine J.op rfl rfl rfl (V.rem rfl rfl rfl (nz hC13)) ?_
      refine J.op rfl rfl rfl (V.as rfl rfl) ?_
      obtain ⟨t14, et14, h0⟩ := B.lt h0
      refine J.val (congrArg (Value.int .i64) et14) ?_
      refine J.nil ?_
      refine J.tN ?_
      refine J.ret ?_
      obtain rfl := B.e h0
      exact J.ret1 rfl rfl fun w H => ⟨(), rfl, H.pick [0] (by decide)⟩

end Go.Proofs.Ytnjabckgklafhaa
