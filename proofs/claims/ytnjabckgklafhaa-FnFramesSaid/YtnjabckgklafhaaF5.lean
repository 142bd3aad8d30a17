/- Go functions as Lean functions, and that each call of theirs comes to just that: by a program written for this work (walk.py). No condition. -/
import Derived.Test.YtnjabckgklafhaaF4
namespace Go.Proofs.Ytnjabckgklafhaa
open Go Go.RowKit G
set_option linter.unusedVariables false

/-! ### slices.Equal[[]impl.Print,impl.Print]: function 44 -/
noncomputable def slices_Equal_impl_Print_impl_Print.b1 (p0_s1 : (List (Vector Int 64))) (p1_s2 : (List (Vector Int 64))) : Int → Option (Step (Int) (Sum (Unit) (Bool))) := fun s2 => bif (decide (s2 < (p0_s1.length : Int))) then (bif (inB s2 p0_s1.length) then (bif (inB s2 p1_s2.length) then (bif (!((rd (eA .i16 64) p0_s1 s2) == (rd (eA .i16 64) p1_s2 s2))) then (some (.done (.inr false))) else (some (.next (IntKind.wrap .i64 (s2 + 1))))) else none) else none) else (some (.done (.inl ())))
noncomputable def slices_Equal_impl_Print_impl_Print.f (p0_s1 : (List (Vector Int 64))) (p1_s2 : (List (Vector Int 64))) : Option (Bool) := bif ((p0_s1.length : Int) != (p1_s2.length : Int)) then (some false) else ((loopW (slices_Equal_impl_Print_impl_Print.b1 p0_s1 p1_s2) 0).bind (Sum.elim (fun y10 => some true) (fun r => some r)))
set_option maxRecDepth 100000 in
theorem slices_Equal_impl_Print_impl_Print.calls (v0 : Value) (p0_s1 : (List (Vector Int 64))) (v1 : Value) (p1_s2 : (List (Vector Int 64))) (r : Bool) (w : World) (H0 : Own [] w w []) (hS0 : SlE [] w v0 60 (eA .i16 64) p0_s1) (hS1 : SlE [] w v1 60 (eA .i16 64) p1_s2) (h0 : slices_Equal_impl_Print_impl_Print.f p0_s1 p1_s2 = some r) :
    Calls Try.prog 44 #[v0, v1] w (fun e w' => ∃ _ : Unit, e = .returned (.bool r) ∧ Own [] w w' []) := by
  unfold slices_Equal_impl_Print_impl_Print.f at h0
  replace h0 := B.top h0
  refine calls_of_J (args := [v0, v1]) Try.func44 rfl Try.ntmps44 rfl [(0, v0), (1, v1)] rfl H0 ?_
  refine J.seq ?_
  refine J.region ?_
  refine J.op rfl rfl rfl (V.as rfl rfl) ?_
  refine J.nil ?_
  refine J.tN ?_
  refine J.seq ?_
  refine J.seq ?_
  refine J.region ?_
  refine J.op rfl rfl rfl (V.mv rfl rfl) ?_
  refine J.op rfl rfl rfl (V.lenS hS0 rfl rfl tl27) ?_
  refine J.op rfl rfl rfl (V.mv rfl rfl) ?_
  refine J.op rfl rfl rfl (V.lenS hS1 rfl rfl tl27) ?_
  refine J.op rfl rfl rfl (V.cmp rfl rfl rfl rfl) ?_
  refine J.nil ?_
  refine J.tN ?_
  refine J.cond rfl (fun hB1 => ?_) (fun hB1 => ?_)
  · replace h0 := B.t hB1 h0
    refine J.seq ?_
    refine J.region ?_
    refine J.op rfl rfl rfl (V.as rfl rfl) ?_
    refine J.nil ?_
    refine J.tN ?_
    refine J.ret ?_
    refine J.tR ?_
    obtain rfl := B.e h0
    exact J.ret1 rfl rfl fun w H => ⟨(), rfl, H.pick [] (by decide)⟩
  · replace h0 := B.f hB1 h0
    refine J.skip ?_
    refine J.tN ?_
    refine J.seq ?_
    refine J.seq ?_
    refine J.region ?_
    refine J.op rfl rfl rfl (V.mv rfl rfl) ?_
    refine J.op rfl rfl rfl (V.lenS hS0 rfl rfl tl27) ?_
    refine J.op rfl rfl rfl (V.mv rfl rfl) ?_
    refine J.nil ?_
    refine J.tN ?_
    obtain ⟨o12, hy11, h0⟩ := B.bind h0
    refine J.cutQ (γ := (Unit) × (Unit)) (fun gy10 => o12 = .inl gy10.1) (fun gy10 => []) (fun gy10 => []) ?_ ?_
    · refine J.block ?_
      refine J.loop (γ := Unit) hy11 (fun s2 g3 => [(0, v0), (1, v1), (12, .int .i64 (p0_s1.length : Int)), (13, .int .i64 s2)]) (fun s2 g3 => []) () ?_ ?_
      · exact J.keep _ rfl (J.pickE [] rfl rfl J.here)
      · intro rec4 s2 g3 h1
        unfold slices_Equal_impl_Print_impl_Print.b1 at h1
        refine J.seq ?_
        refine J.region ?_
        refine J.op rfl rfl rfl (V.cmp rfl rfl rfl rfl) ?_
        refine J.nil ?_
        refine J.tN ?_
        refine J.seq ?_
        refine J.cond rfl (fun hB5 => ?_) (fun hB5 => ?_)
        · replace h1 := B.t hB5 h1
          refine J.skip ?_
          refine J.tN ?_
          refine J.seq ?_
          refine J.block ?_
          refine J.seq ?_
          refine J.region ?_
          refine J.op rfl rfl rfl (V.mv rfl rfl) ?_
          refine J.op rfl rfl rfl (V.as rfl rfl) ?_
          refine J.nil ?_
          refine J.tN ?_
          refine J.seq ?_
          refine J.quiet mixed (by kernel_rfl) ?_
          refine JQ.op rfl rfl rfl (V.mv rfl rfl) ?_
          refine JQ.op rfl rfl rfl (V.mv rfl rfl) ?_
          obtain ⟨hC6, h1⟩ := B.chk h1
          refine JQ.op rfl rfl rfl (V.ixS hS0 rfl rfl rfl tl27 ts60 hC6) ?_
          refine JQ.op rfl rfl rfl (V.elSA hS0 hC6 rfl rfl ts60 ta60) ?_
          refine JQ.op rfl rfl rfl (V.mv rfl rfl) ?_
          refine JQ.op rfl rfl rfl (V.mv rfl rfl) ?_
          obtain ⟨hC7, h1⟩ := B.chk h1
          refine JQ.op rfl rfl rfl (V.ixS hS1 rfl rfl rfl tl27 ts60 hC7) ?_
          refine JQ.op rfl rfl rfl (V.elSA hS1 hC7 rfl rfl ts60 ta60) ?_
          refine JQ.op rfl rfl rfl (V.neA rfl rfl rfl tr60 ts58 Try.underlying58 ta58 (by kernel_rfl)) ?_
          refine JQ.nil ?_
          refine J.tN ?_
          refine J.cond rfl (fun hB8 => ?_) (fun hB8 => ?_)
          · replace h1 := B.t hB8 h1
            refine J.seq ?_
            refine J.region ?_
            refine J.op rfl rfl rfl (V.as rfl rfl) ?_
            refine J.nil ?_
            refine J.tN ?_
            refine J.ret ?_
            refine J.bR ?_
            refine J.tR ?_
            refine J.tR ?_
            refine J.bR ?_
            refine J.tR ?_
            refine J.tR ?_
            obtain rfl := B.d h1
            replace h0 := B.inr h0
            obtain rfl := B.e h0
            exact J.ret1 rfl rfl fun w H => ⟨(), rfl, H.pick [] (by decide)⟩
          · replace h1 := B.f hB8 h1
            refine J.skip ?_
            refine J.bN ?_
            refine J.tN ?_
            refine J.region ?_
            refine J.op rfl rfl rfl (V.ar rfl rfl rfl rfl) ?_
            refine J.op rfl rfl rfl (V.mv rfl rfl) ?_
            refine J.nil ?_
            refine J.tN (J.next (IntKind.wrap .i64 (s2 + 1)) () (B.n h1) ?_)
            exact J.keep _ rfl (J.pickE [] rfl rfl J.here)
        · replace h1 := B.f hB5 h1
          refine J.exit ?_
          refine J.tE ?_
          refine J.tE ?_
          refine J.bE ?_
          obtain rfl := B.d h1
          refine J.tN (J.to ((), ()) rfl ?_)
          exact J.keep _ rfl (J.pickE [] rfl rfl J.here)
    · intro gy10 hG
      replace h0 := B.inl hG h0
      refine J.tN ?_
      refine J.seq ?_
      refine J.region ?_
      refine J.op rfl rfl rfl (V.as rfl rfl) ?_
      refine J.nil ?_
      refine J.tN ?_
      refine J.ret ?_
      obtain rfl := B.e h0
      exact J.ret1 rfl rfl fun w H => ⟨(), rfl, H.pick [] (by decide)⟩

/-! ### impl.SameSheet: function 25 -/
noncomputable def impl_SameSheet.f (p0_a : impl_Sheet) (p1_b : impl_Sheet) : Option (Bool) := bif (p0_a.Across == p1_b.Across) then ((slices_Equal_impl_Print_impl_Print.f p0_a.Frames p1_b.Frames).bind fun r6 => some r6) else (some false)
set_option maxRecDepth 100000 in
theorem impl_SameSheet.calls (p0_a : impl_Sheet) (v0_Frames : Value) (p1_b : impl_Sheet) (v1_Frames : Value) (r : Bool) (w : World) (H0 : Own [] w w []) (hS0_Frames : SlE [] w v0_Frames 60 (eA .i16 64) p0_a.Frames) (hS1_Frames : SlE [] w v1_Frames 60 (eA .i16 64) p1_b.Frames) (h0 : impl_SameSheet.f p0_a p1_b = some r) :
    Calls Try.prog 25 #[.agg #[.int .i8 p0_a.Across, v0_Frames], .agg #[.int .i8 p1_b.Across, v1_Frames]] w (fun e w' => ∃ _ : Unit, e = .returned (.bool r) ∧ Own [] w w' []) := by
  unfold impl_SameSheet.f at h0
  replace h0 := B.top h0
  refine calls_of_J (args := [.agg #[.int .i8 p0_a.Across, v0_Frames], .agg #[.int .i8 p1_b.Across, v1_Frames]]) Try.func25 rfl Try.ntmps25 rfl [(0, .agg #[.int .i8 p0_a.Across, v0_Frames]), (1, .agg #[.int .i8 p1_b.Across, v1_Frames])] rfl H0 ?_
  refine J.seq ?_
  refine J.region ?_
  refine J.box rfl rfl rfl rfl rfl (fun _ _ => rfl) fun b1 => ?_
  refine J.box rfl rfl rfl rfl rfl (fun _ _ => rfl) fun b3 => ?_
  refine J.op rfl rfl rfl (V.as rfl rfl) ?_
  refine J.nil ?_
  refine J.tN ?_
  refine J.seq ?_
  refine J.region ?_
  refine J.op rfl rfl rfl (V.faB rfl rfl tf0_29) ?_
  refine J.op rfl rfl rfl (V.ldB 1 rfl rfl rfl Try.underlying22 ta22 rfl) ?_
  refine J.op rfl rfl rfl (V.faB rfl rfl tf0_29) ?_
  refine J.op rfl rfl rfl (V.ldB 0 rfl rfl rfl Try.underlying22 ta22 rfl) ?_
  refine J.op rfl rfl rfl (V.cmp rfl rfl rfl rfl) ?_
  refine J.op rfl rfl rfl (V.mv rfl rfl) ?_
  refine J.split 10 rfl (fun hB5 => ?_) (fun hB5 => ?_)
  · replace h0 := B.t hB5 h0
    refine J.opOn rfl rfl rfl rfl rfl (V.faB rfl rfl tf1_29) ?_
    refine J.opOn rfl rfl rfl rfl rfl (V.ldB 1 rfl rfl rfl Try.underlying27 ta27 rfl) ?_
    refine J.opOn rfl rfl rfl rfl rfl (V.faB rfl rfl tf1_29) ?_
    refine J.opOn rfl rfl rfl rfl rfl (V.ldB 0 rfl rfl rfl Try.underlying27 ta27 rfl) ?_
    obtain ⟨r6, hr7, h0⟩ := B.bind h0
    refine J.clA (l := [.tmp 12, .tmp 14]) [] [.blk b3 [.int .i8 p1_b.Across, v1_Frames] 29, .blk b1 [.int .i8 p0_a.Across, v0_Frames] 29] cf44 (wY rfl rfl rfl) rfl rfl rfl rfl rfl rfl (fun w H => slices_Equal_impl_Print_impl_Print.calls v0_Frames p0_a.Frames v1_Frames p1_b.Frames r6 w (Own.refl w) (Sl.laterA hS0_Frames H) (Sl.laterA hS1_Frames H) hr7) fun g8 => ?_
    refine J.op rfl rfl rfl (V.pkT rfl rfl rfl) ?_
    refine J.op rfl rfl rfl (V.as rfl rfl) ?_
    refine J.nil ?_
    refine J.tN ?_
    refine J.ret ?_
    obtain rfl := B.e h0
    exact J.ret1 rfl rfl fun w H => ⟨(), rfl, H.pick [] (by decide)⟩
  · replace h0 := B.f hB5 h0
    refine J.opOff rfl rfl rfl rfl rfl rfl ?_
    refine J.opOff rfl rfl rfl rfl rfl rfl ?_
    refine J.opOff rfl rfl rfl rfl rfl rfl ?_
    refine J.opOff rfl rfl rfl rfl rfl rfl ?_
    refine J.opOff rfl rfl rfl rfl rfl rfl ?_
    refine J.op rfl rfl rfl (V.pkF rfl rfl rfl) ?_
    refine J.op rfl rfl rfl (V.as rfl rfl) ?_
    refine J.nil ?_
    refine J.tN ?_
    refine J.ret ?_
    obtain rfl := B.e h0
    exact J.ret1 rfl rfl fun w H => ⟨(), rfl, H.pick [] (by decide)⟩

/-! ### laws.FnFrames: function 4 -/
noncomputable def laws_FnFrames.b1 (r12 : impl_Sheet) (n_18 : Int) (r19 : Int × Int) : Int → Option (Step (Int) (Sum (Unit) (Bool))) := fun s50 => bif (decide (s50 < n_18)) then ((impl_PlaceOf.f (⟨r12.Across, r12.Frames⟩ : impl_Sheet) s50).bind fun r54 => (impl_FrameAt.f (⟨r12.Across, r12.Frames⟩ : impl_Sheet) r54.1 r54.2.1).bind fun r57 => (bif (r54.2.2 != 0) then (some true) else (bif (decide (r54.1 < 0)) then (some true) else (bif (decide ((IntKind.wrap .i64 r12.Across) ≤ r54.1)) then (some true) else (bif (decide (r54.2.1 < 0)) then (some true) else (bif (decide (r19.1 ≤ r54.2.1)) then (some true) else (bif (r57.2 != 0) then (some true) else (some (r57.1 != s50))))))) : Option (Bool)).bind fun y60 => bif y60 then (some (.done (.inr false))) else ((some (IntKind.wrap .i64 (s50 + 1))).bind fun i_70 => some (.next i_70))) else (some (.done (.inl ())))
noncomputable def laws_FnFrames.b2 (n_18 : Int) (r77 : Int) : (Int × (List Int)) → Option (Step (Int × (List Int)) ((List Int))) := fun s115 => bif (decide (s115.1 < n_18)) then (bif (s115.1 != r77) then (bif (roomB s115.2.length 1 8) then ((some (IntKind.wrap .i64 (s115.1 + 1))).bind fun j_124 => some (.next (j_124, s115.2 ++ [s115.1]))) else none) else ((some (IntKind.wrap .i64 (s115.1 + 1))).bind fun j_125 => some (.next (j_125, s115.2)))) else (some (.done s115.2))
noncomputable def laws_FnFrames.f (p0_code : (List Int)) (p1_more : (List Int)) : Option (Bool) := ((laws_f6big.f p0_code).bind fun r3 => bif r3 then (some true) else ((laws_f6big.f p1_more).bind fun r7 => some r7) : Option (Bool)).bind fun y1 => bif y1 then (some true) else ((spec_P6Sheet.f p0_code).bind fun r12 => (some (r12.Frames.length : Int)).bind fun n_18 => (impl_RowsOf.f (⟨r12.Across, r12.Frames⟩ : impl_Sheet)).bind fun r19 => (impl_DarkestFrame.f (⟨r12.Across, r12.Frames⟩ : impl_Sheet)).bind fun r22 => (spec_DarkestFrame.f (⟨r12.Across, r12.Frames⟩ : impl_Sheet)).bind fun r25 => (bif (r19.2 != 0) then (some true) else (bif (decide ((IntKind.wrap .i64 (r19.1 * (IntKind.wrap .i64 r12.Across))) < n_18)) then (some true) else (bif (decide (n_18 ≤ (IntKind.wrap .i64 ((IntKind.wrap .i64 (r19.1 - 1)) * (IntKind.wrap .i64 r12.Across))))) then (bif (decide (0 < n_18)) then (some true) else ((impl_ValidSheet.f (⟨r12.Across, r12.Frames⟩ : impl_Sheet)).bind fun r34 => bif (!r34) then (some true) else (bif (r22.2.2 != r25.2.2) then (some true) else (bif (r22.1 != r25.1) then (some true) else (bif (r22.2.1 != r25.2.1) then (some true) else (some (!((r22.2.2 == 0) == (decide (0 < n_18)))))))))) else ((impl_ValidSheet.f (⟨r12.Across, r12.Frames⟩ : impl_Sheet)).bind fun r41 => bif (!r41) then (some true) else (bif (r22.2.2 != r25.2.2) then (some true) else (bif (r22.1 != r25.1) then (some true) else (bif (r22.2.1 != r25.2.1) then (some true) else (some (!((r22.2.2 == 0) == (decide (0 < n_18))))))))))) : Option (Bool)).bind fun y28 => bif y28 then (some false) else ((loopW (laws_FnFrames.b1 r12 n_18 r19) 0).bind (Sum.elim (fun y72 => bif (n_18 == 0) then ((some (r19.1 == 0)).bind fun t76 => some t76) else ((spec_P6Pick.f p1_more n_18).bind fun r77 => (spec_P6Pick.f p0_code n_18).bind fun r80 => (impl_SwapFrames.f (⟨r12.Across, r12.Frames⟩ : impl_Sheet) r77 r80).bind fun r83 => (spec_SwapFrames.f (⟨r12.Across, r12.Frames⟩ : impl_Sheet) r77 r80).bind fun r89 => (impl_SwapFrames.f (⟨r89.1.Across, r89.1.Frames⟩ : impl_Sheet) r77 r80).bind fun r95 => (impl_DropFrame.f (⟨r12.Across, r12.Frames⟩ : impl_Sheet) r77).bind fun r101 => (spec_DropFrame.f (⟨r12.Across, r12.Frames⟩ : impl_Sheet) r77).bind fun r107 => (loopW (laws_FnFrames.b2 n_18 r77) (0, ([] : List Int))).bind fun y126 => (impl_PickFrames.f (⟨r12.Across, r12.Frames⟩ : impl_Sheet) y126).bind fun r129 => bif (r83.2 == r89.2) then (bif (r83.2 == 0) then ((spec_SameSheet.f (⟨r83.1.Across, r83.1.Frames⟩ : impl_Sheet) (⟨r89.1.Across, r89.1.Frames⟩ : impl_Sheet)).bind fun r137 => bif r137 then (bif (r95.2 == 0) then ((spec_SameSheet.f (⟨r95.1.Across, r95.1.Frames⟩ : impl_Sheet) (⟨r12.Across, r12.Frames⟩ : impl_Sheet)).bind fun r142 => bif r142 then ((impl_SameSheet.f (⟨r95.1.Across, r95.1.Frames⟩ : impl_Sheet) (⟨r12.Across, r12.Frames⟩ : impl_Sheet)).bind fun r146 => bif r146 then (bif (r101.2 == r107.2) then (bif (r101.2 == 0) then ((spec_SameSheet.f (⟨r101.1.Across, r101.1.Frames⟩ : impl_Sheet) (⟨r107.1.Across, r107.1.Frames⟩ : impl_Sheet)).bind fun r152 => bif r152 then (bif (r129.2 == 0) then ((spec_SameSheet.f (⟨r129.1.Across, r129.1.Frames⟩ : impl_Sheet) (⟨r107.1.Across, r107.1.Frames⟩ : impl_Sheet)).bind fun r157 => some r157) else (some false)) else (some false)) else (some false)) else (some false)) else (some false)) else (some false)) else (some false)) else (some false)) else (some false)) else (some false))) (fun r => some r))))
set_option maxRecDepth 100000 in
theorem laws_FnFrames.calls (v0 : Value) (p0_code : (List Int)) (v1 : Value) (p1_more : (List Int)) (r : Bool) (w : World) (H0 : Own [] w w []) (hS0 : SlE [] w v0 5 (eI .u8) p0_code) (hS1 : SlE [] w v1 5 (eI .u8) p1_more) (h0 : laws_FnFrames.f p0_code p1_more = some r) :
    Calls Try.prog 4 #[v0, v1] w (fun e w' => ∃ _ : Unit, e = .returned (.bool r) ∧ Own [] w w' []) := by
  unfold laws_FnFrames.f at h0
  replace h0 := B.top h0
  refine calls_of_J (args := [v0, v1]) Try.func4 rfl Try.ntmps4 rfl [(0, v0), (1, v1)] rfl H0 ?_
  refine J.seq ?_
  refine J.region ?_
  refine J.op rfl rfl rfl (V.as rfl rfl) ?_
  refine J.nil ?_
  refine J.tN ?_
  refine J.seq ?_
  refine J.seq ?_
  obtain ⟨y1, hy10, h0⟩ := B.bind h0
  replace hy10 := B.top hy10
  refine J.cut (γ := Unit) (fun _ => True) (fun gy2 => [(0, v0), (1, v1), (42, .bool y1)]) (fun gy2 => []) ?_ ?_
  · have h1 := hy10
    refine J.region ?_
    refine J.op rfl rfl rfl (V.mv rfl rfl) ?_
    obtain ⟨r3, hr4, h1⟩ := B.bind h1
    refine J.clA (l := [.tmp 37]) [] [] cf12 (wN rfl) rfl rfl rfl rfl rfl rfl (fun w H => laws_f6big.calls v0 p0_code r3 w (Own.refl w) (Sl.laterA hS0 H) hr4) fun g5 => ?_
    refine J.op rfl rfl rfl (V.mv rfl rfl) ?_
    refine J.split 39 rfl (fun hB6 => ?_) (fun hB6 => ?_)
    · replace h1 := B.t hB6 h1
      refine J.opOff rfl rfl rfl rfl rfl rfl ?_
      refine J.opOff rfl rfl rfl rfl rfl rfl ?_
      refine J.op rfl rfl rfl (V.pkT rfl rfl rfl) ?_
      refine J.nil ?_
      obtain rfl := B.e h1
      refine J.tN (J.to () trivial ?_)
      exact J.keep _ rfl (J.pickE [] rfl rfl J.here)
    · replace h1 := B.f hB6 h1
      refine J.opOn rfl rfl rfl rfl rfl (V.mv rfl rfl) ?_
      obtain ⟨r7, hr8, h1⟩ := B.bind h1
      refine J.clA (l := [.tmp 40]) [] [] cf12 (wY rfl rfl rfl) rfl rfl rfl rfl rfl rfl (fun w H => laws_f6big.calls v1 p1_more r7 w (Own.refl w) (Sl.laterA hS1 H) hr8) fun g9 => ?_
      refine J.op rfl rfl rfl (V.pkF rfl rfl rfl) ?_
      refine J.nil ?_
      obtain rfl := B.e h1
      refine J.tN (J.to () trivial ?_)
      exact J.keep _ rfl (J.pickE [] rfl rfl J.here)
  · intro gy2 _
    refine J.cond rfl (fun hB11 => ?_) (fun hB11 => ?_)
    · replace h0 := B.t hB11 h0
      refine J.seq ?_
      refine J.region ?_
      refine J.op rfl rfl rfl (V.as rfl rfl) ?_
      refine J.nil ?_
      refine J.tN ?_
      refine J.ret ?_
      refine J.tR ?_
      obtain rfl := B.e h0
      exact J.ret1 rfl rfl fun w H => ⟨(), rfl, H.pick [] (by decide)⟩
    · replace h0 := B.f hB11 h0
      refine J.skip ?_
      refine J.tN ?_
      refine J.seq ?_
      refine J.region ?_
      refine J.op rfl rfl rfl (V.mv rfl rfl) ?_
      obtain ⟨r12, hr13, h0⟩ := B.bind h0
      refine J.clA (l := [.tmp 43]) [] [] cf13 (wN rfl) rfl rfl rfl rfl rfl rfl (fun w H => spec_P6Sheet.calls v0 p0_code r12 w (Own.refl w) (Sl.laterA hS0 H) hr13) fun g14 => ?_
      refine J.alloc rfl rfl rfl rfl tz29 rfl fun b16 => ?_
      refine J.stW (cs' := [.int .i8 r12.Across, g14]) 0 rfl rfl rfl rfl rfl rfl ts29 rfl (fun _ H => (one_cons rfl (one_cons (Own.sl0 1 H rfl).one one_nil))) rfl rfl ?_
      refine J.nil ?_
      refine J.tN ?_
      refine J.seq ?_
      refine J.region ?_
      refine J.op rfl rfl rfl (V.faB rfl rfl tf1_29) ?_
      refine J.op rfl rfl rfl (V.ldB 0 rfl rfl rfl Try.underlying27 ta27 rfl) ?_
      refine J.op rfl rfl rfl (V.lenR 1 rfl rfl rfl tl27) ?_
      refine J.op rfl rfl rfl (V.as rfl rfl) ?_
      obtain ⟨n_18, en_18, h0⟩ := B.lt h0
      refine J.val (congrArg (Value.int .i64) en_18) ?_
      refine J.nil ?_
      refine J.tN ?_
      refine J.seq ?_
      refine J.region ?_
      refine J.op rfl rfl rfl (V.ldW 0 rfl rfl rfl ts29 ta29 rfl) ?_
      obtain ⟨r19, hr20, h0⟩ := B.bind h0
      refine J.clA (l := [.tmp 49]) [] [.blk b16 [.int .i8 r12.Across, g14] 29, .rowE g14 60 (eA .i16 64) r12.Frames] cf14 (wN rfl) rfl rfl rfl rfl rfl rfl (fun w H => impl_RowsOf.calls (⟨r12.Across, r12.Frames⟩ : impl_Sheet) g14 r19 w (Own.refl w) (Own.slA 1 H rfl) hr20) fun g21 => ?_
      refine J.op rfl rfl rfl (V.mv rfl rfl) ?_
      refine J.op rfl rfl rfl (V.ex rfl rfl rfl) ?_
      refine J.op rfl rfl rfl (V.ex rfl rfl rfl) ?_
      refine J.op rfl rfl rfl (V.as rfl rfl) ?_
      refine J.op rfl rfl rfl (V.as rfl rfl) ?_
      refine J.nil ?_
      refine J.tN ?_
      refine J.seq ?_
      refine J.region ?_
      refine J.op rfl rfl rfl (V.ldW 0 rfl rfl rfl ts29 ta29 rfl) ?_
      obtain ⟨r22, hr23, h0⟩ := B.bind h0
      refine J.clA (l := [.tmp 54]) [] [.blk b16 [.int .i8 r12.Across, g14] 29, .rowE g14 60 (eA .i16 64) r12.Frames] cf15 (wN rfl) rfl rfl rfl rfl rfl rfl (fun w H => impl_DarkestFrame.calls (⟨r12.Across, r12.Frames⟩ : impl_Sheet) g14 r22 w (Own.refl w) (Own.slA 1 H rfl) hr23) fun g24 => ?_
      refine J.op rfl rfl rfl (V.mv rfl rfl) ?_
      refine J.op rfl rfl rfl (V.ex rfl rfl rfl) ?_
      refine J.op rfl rfl rfl (V.ex rfl rfl rfl) ?_
      refine J.op rfl rfl rfl (V.ex rfl rfl rfl) ?_
      refine J.op rfl rfl rfl (V.as rfl rfl) ?_
      refine J.op rfl rfl rfl (V.as rfl rfl) ?_
      refine J.op rfl rfl rfl (V.as rfl rfl) ?_
      refine J.nil ?_
      refine J.tN ?_
      refine J.seq ?_
      refine J.region ?_
      refine J.op rfl rfl rfl (V.ldW 0 rfl rfl rfl ts29 ta29 rfl) ?_
      obtain ⟨r25, hr26, h0⟩ := B.bind h0
      refine J.clA (l := [.tmp 60]) [] [.blk b16 [.int .i8 r12.Across, g14] 29, .rowE g14 60 (eA .i16 64) r12.Frames] cf16 (wN rfl) rfl rfl rfl rfl rfl rfl (fun w H => spec_DarkestFrame.calls (⟨r12.Across, r12.Frames⟩ : impl_Sheet) g14 r25 w (Own.refl w) (Own.slA 1 H rfl) hr26) fun g27 => ?_
      refine J.op rfl rfl rfl (V.mv rfl rfl) ?_
      refine J.op rfl rfl rfl (V.ex rfl rfl rfl) ?_
      refine J.op rfl rfl rfl (V.ex rfl rfl rfl) ?_
      refine J.op rfl rfl rfl (V.ex rfl rfl rfl) ?_
      refine J.op rfl rfl rfl (V.as rfl rfl) ?_
      refine J.op rfl rfl rfl (V.as rfl rfl) ?_
      refine J.op rfl rfl rfl (V.as rfl rfl) ?_
      refine J.nil ?_
      refine J.tN ?_
      refine J.seq ?_
      refine J.seq ?_
      obtain ⟨y28, hy48, h0⟩ := B.bind h0
      replace hy48 := B.top hy48
      refine J.cut (γ := Unit) (fun _ => True) (fun gy29 => [(0, v0), (1, v1), (5, bp b16 0), (6, .int .i64 n_18), (7, .int .i64 r19.1), (116, .bool y28)]) (fun gy29 => [.blk b16 [.int .i8 r12.Across, g14] 29, .rowE g14 60 (eA .i16 64) r12.Frames]) ?_ ?_
      · have h1 := hy48
        refine J.region ?_
        refine J.op rfl rfl rfl (V.mv rfl rfl) ?_
        refine J.op rfl rfl rfl (V.cmp rfl rfl rfl rfl) ?_
        refine J.op rfl rfl rfl (V.mv rfl rfl) ?_
        refine J.split 67 rfl (fun hB30 => ?_) (fun hB30 => ?_)
        · replace h1 := B.t hB30 h1
          refine J.opOff rfl rfl rfl rfl rfl rfl ?_
          refine J.opOff rfl rfl rfl rfl rfl rfl ?_
          refine J.opOff rfl rfl rfl rfl rfl rfl ?_
          refine J.opOff rfl rfl rfl rfl rfl rfl ?_
          refine J.opOff rfl rfl rfl rfl rfl rfl ?_
          refine J.opOff rfl rfl rfl rfl rfl rfl ?_
          refine J.opOff rfl rfl rfl rfl rfl rfl ?_
          refine J.op rfl rfl rfl (V.pkT rfl rfl rfl) ?_
          refine J.op rfl rfl rfl (V.mv rfl rfl) ?_
          refine J.opOff rfl rfl rfl rfl rfl rfl ?_
          refine J.opOff rfl rfl rfl rfl rfl rfl ?_
          refine J.opOff rfl rfl rfl rfl rfl rfl ?_
          refine J.opOff rfl rfl rfl rfl rfl rfl ?_
          refine J.opOff rfl rfl rfl rfl rfl rfl ?_
          refine J.opOff rfl rfl rfl rfl rfl rfl ?_
          refine J.opOff rfl rfl rfl rfl rfl rfl ?_
          refine J.opOff rfl rfl rfl rfl rfl rfl ?_
          refine J.opOff rfl rfl rfl rfl rfl rfl ?_
          refine J.opOffU rfl rfl rfl rfl rfl ?_
          refine J.opOffU rfl rfl rfl rfl rfl ?_
          refine J.opOff rfl rfl rfl rfl rfl rfl ?_
          refine J.op rfl rfl rfl (V.pkT rfl rfl rfl) ?_
          refine J.op rfl rfl rfl (V.mv rfl rfl) ?_
          refine J.opOff rfl rfl rfl rfl rfl rfl ?_
          refine J.opOff rfl rfl rfl rfl rfl rfl ?_
          refine J.opOff rfl rfl rfl rfl rfl rfl ?_
          refine J.op rfl rfl rfl (V.pkT rfl rfl rfl) ?_
          refine J.op rfl rfl rfl (V.mv rfl rfl) ?_
          refine J.opOff rfl rfl rfl rfl rfl rfl ?_
          refine J.opOff rfl rfl rfl rfl rfl rfl ?_
          refine J.opOff rfl rfl rfl rfl rfl rfl ?_
          refine J.op rfl rfl rfl (V.pkT rfl rfl rfl) ?_
          refine J.op rfl rfl rfl (V.mv rfl rfl) ?_
          refine J.opOff rfl rfl rfl rfl rfl rfl ?_
          refine J.opOff rfl rfl rfl rfl rfl rfl ?_
          refine J.opOff rfl rfl rfl rfl rfl rfl ?_
          refine J.op rfl rfl rfl (V.pkT rfl rfl rfl) ?_
          refine J.op rfl rfl rfl (V.mv rfl rfl) ?_
          refine J.opOff rfl rfl rfl rfl rfl rfl ?_
          refine J.opOff rfl rfl rfl rfl rfl rfl ?_
          refine J.opOff rfl rfl rfl rfl rfl rfl ?_
          refine J.op rfl rfl rfl (V.pkT rfl rfl rfl) ?_
          refine J.op rfl rfl rfl (V.mv rfl rfl) ?_
          refine J.opOff rfl rfl rfl rfl rfl rfl ?_
          refine J.opOff rfl rfl rfl rfl rfl rfl ?_
          refine J.opOff rfl rfl rfl rfl rfl rfl ?_
          refine J.opOff rfl rfl rfl rfl rfl rfl ?_
          refine J.opOff rfl rfl rfl rfl rfl rfl ?_
          refine J.op rfl rfl rfl (V.pkT rfl rfl rfl) ?_
          refine J.nil ?_
          obtain rfl := B.e h1
          refine J.tN (J.to () trivial ?_)
          exact J.keep _ rfl (J.pickE [0, 1] rfl rfl J.here)
        · replace h1 := B.f hB30 h1
          refine J.opOn rfl rfl rfl rfl rfl (V.mv rfl rfl) ?_
          refine J.opOn rfl rfl rfl rfl rfl (V.faB rfl rfl tf0_29) ?_
          refine J.opOn rfl rfl rfl rfl rfl (V.ldB 0 rfl rfl rfl Try.underlying22 ta22 rfl) ?_
          refine J.opOn rfl rfl rfl rfl rfl (V.conv rfl rfl Try.underlying22 Try.underlying2) ?_
          refine J.opOn rfl rfl rfl rfl rfl (V.ar rfl rfl rfl rfl) ?_
          refine J.opOn rfl rfl rfl rfl rfl (V.mv rfl rfl) ?_
          refine J.opOn rfl rfl rfl rfl rfl (V.cmp rfl rfl rfl rfl) ?_
          refine J.op rfl rfl rfl (V.pkF rfl rfl rfl) ?_
          refine J.op rfl rfl rfl (V.mv rfl rfl) ?_
          refine J.split 76 rfl (fun hB31 => ?_) (fun hB31 => ?_)
          · replace h1 := B.t hB31 h1
            refine J.opOff rfl rfl rfl rfl rfl rfl ?_
            refine J.opOff rfl rfl rfl rfl rfl rfl ?_
            refine J.opOff rfl rfl rfl rfl rfl rfl ?_
            refine J.opOff rfl rfl rfl rfl rfl rfl ?_
            refine J.opOff rfl rfl rfl rfl rfl rfl ?_
            refine J.opOff rfl rfl rfl rfl rfl rfl ?_
            refine J.opOff rfl rfl rfl rfl rfl rfl ?_
            refine J.opOff rfl rfl rfl rfl rfl rfl ?_
            refine J.opOff rfl rfl rfl rfl rfl rfl ?_
            refine J.opOffU rfl rfl rfl rfl rfl ?_
            refine J.opOffU rfl rfl rfl rfl rfl ?_
            refine J.opOff rfl rfl rfl rfl rfl rfl ?_
            refine J.op rfl rfl rfl (V.pkT rfl rfl rfl) ?_
            refine J.op rfl rfl rfl (V.mv rfl rfl) ?_
            refine J.opOff rfl rfl rfl rfl rfl rfl ?_
            refine J.opOff rfl rfl rfl rfl rfl rfl ?_
            refine J.opOff rfl rfl rfl rfl rfl rfl ?_
            refine J.op rfl rfl rfl (V.pkT rfl rfl rfl) ?_
            refine J.op rfl rfl rfl (V.mv rfl rfl) ?_
            refine J.opOff rfl rfl rfl rfl rfl rfl ?_
            refine J.opOff rfl rfl rfl rfl rfl rfl ?_
            refine J.opOff rfl rfl rfl rfl rfl rfl ?_
            refine J.op rfl rfl rfl (V.pkT rfl rfl rfl) ?_
            refine J.op rfl rfl rfl (V.mv rfl rfl) ?_
            refine J.opOff rfl rfl rfl rfl rfl rfl ?_
            refine J.opOff rfl rfl rfl rfl rfl rfl ?_
            refine J.opOff rfl rfl rfl rfl rfl rfl ?_
            refine J.op rfl rfl rfl (V.pkT rfl rfl rfl) ?_
            refine J.op rfl rfl rfl (V.mv rfl rfl) ?_
            refine J.opOff rfl rfl rfl rfl rfl rfl ?_
            refine J.opOff rfl rfl rfl rfl rfl rfl ?_
            refine J.opOff rfl rfl rfl rfl rfl rfl ?_
            refine J.op rfl rfl rfl (V.pkT rfl rfl rfl) ?_
            refine J.op rfl rfl rfl (V.mv rfl rfl) ?_
            refine J.opOff rfl rfl rfl rfl rfl rfl ?_
            refine J.opOff rfl rfl rfl rfl rfl rfl ?_
            refine J.opOff rfl rfl rfl rfl rfl rfl ?_
            refine J.opOff rfl rfl rfl rfl rfl rfl ?_
            refine J.opOff rfl rfl rfl rfl rfl rfl ?_
            refine J.op rfl rfl rfl (V.pkT rfl rfl rfl) ?_
            refine J.nil ?_
            obtain rfl := B.e h1
            refine J.tN (J.to () trivial ?_)
            exact J.keep _ rfl (J.pickE [0, 1] rfl rfl J.here)
          · replace h1 := B.f hB31 h1
            refine J.opOn rfl rfl rfl rfl rfl (V.mv rfl rfl) ?_
            refine J.opOn rfl rfl rfl rfl rfl (V.ar rfl rfl rfl rfl) ?_
            refine J.opOn rfl rfl rfl rfl rfl (V.faB rfl rfl tf0_29) ?_
            refine J.opOn rfl rfl rfl rfl rfl (V.ldB 0 rfl rfl rfl Try.underlying22 ta22 rfl) ?_
            refine J.opOn rfl rfl rfl rfl rfl (V.conv rfl rfl Try.underlying22 Try.underlying2) ?_
            refine J.opOn rfl rfl rfl rfl rfl (V.ar rfl rfl rfl rfl) ?_
            refine J.opOn rfl rfl rfl rfl rfl (V.mv rfl rfl) ?_
            refine J.opOn rfl rfl rfl rfl rfl (V.cmp rfl rfl rfl rfl) ?_
            refine J.opOn rfl rfl rfl rfl rfl (V.mv rfl rfl) ?_
            refine J.split 85 rfl (fun hB32 => ?_) (fun hB32 => ?_)
            · replace h1 := B.t hB32 h1
              refine J.opOn rfl rfl rfl rfl rfl (V.mv rfl rfl) ?_
              refine J.opOn rfl rfl rfl rfl rfl (V.cmp rfl rfl rfl rfl) ?_
              refine J.opOn rfl rfl rfl rfl rfl (V.pkT rfl rfl rfl) ?_
              refine J.op rfl rfl rfl (V.pkF rfl rfl rfl) ?_
              refine J.op rfl rfl rfl (V.mv rfl rfl) ?_
              refine J.split 90 rfl (fun hB33 => ?_) (fun hB33 => ?_)
              · replace h1 := B.t hB33 h1
                refine J.opOff rfl rfl rfl rfl rfl rfl ?_
                refine J.opOff rfl rfl rfl rfl rfl rfl ?_
                refine J.opOff rfl rfl rfl rfl rfl rfl ?_
                refine J.op rfl rfl rfl (V.pkT rfl rfl rfl) ?_
                refine J.op rfl rfl rfl (V.mv rfl rfl) ?_
                refine J.opOff rfl rfl rfl rfl rfl rfl ?_
                refine J.opOff rfl rfl rfl rfl rfl rfl ?_
                refine J.opOff rfl rfl rfl rfl rfl rfl ?_
                refine J.op rfl rfl rfl (V.pkT rfl rfl rfl) ?_
                refine J.op rfl rfl rfl (V.mv rfl rfl) ?_
                refine J.opOff rfl rfl rfl rfl rfl rfl ?_
                refine J.opOff rfl rfl rfl rfl rfl rfl ?_
                refine J.opOff rfl rfl rfl rfl rfl rfl ?_
                refine J.op rfl rfl rfl (V.pkT rfl rfl rfl) ?_
                refine J.op rfl rfl rfl (V.mv rfl rfl) ?_
                refine J.opOff rfl rfl rfl rfl rfl rfl ?_
                refine J.opOff rfl rfl rfl rfl rfl rfl ?_
                refine J.opOff rfl rfl rfl rfl rfl rfl ?_
                refine J.op rfl rfl rfl (V.pkT rfl rfl rfl) ?_
                refine J.op rfl rfl rfl (V.mv rfl rfl) ?_
                refine J.opOff rfl rfl rfl rfl rfl rfl ?_
                refine J.opOff rfl rfl rfl rfl rfl rfl ?_
                refine J.opOff rfl rfl rfl rfl rfl rfl ?_
                refine J.opOff rfl rfl rfl rfl rfl rfl ?_
                refine J.opOff rfl rfl rfl rfl rfl rfl ?_
                refine J.op rfl rfl rfl (V.pkT rfl rfl rfl) ?_
                refine J.nil ?_
                obtain rfl := B.e h1
                refine J.tN (J.to () trivial ?_)
                exact J.keep _ rfl (J.pickE [0, 1] rfl rfl J.here)
              · replace h1 := B.f hB33 h1
                refine J.opOn rfl rfl rfl rfl rfl (V.ldW 0 rfl rfl rfl ts29 ta29 rfl) ?_
                obtain ⟨r34, hr35, h1⟩ := B.bind h1
                refine J.clA (l := [.tmp 91]) [] [.blk b16 [.int .i8 r12.Across, g14] 29, .rowE g14 60 (eA .i16 64) r12.Frames] cf17 (wY rfl rfl rfl) rfl rfl rfl rfl rfl rfl (fun w H => impl_ValidSheet.calls (⟨r12.Across, r12.Frames⟩ : impl_Sheet) g14 r34 w (Own.refl w) (Own.slA 1 H rfl) hr35) fun g36 => ?_
                refine J.opOn rfl rfl rfl rfl rfl (V.nt rfl rfl) ?_
                refine J.op rfl rfl rfl (V.pkF rfl rfl rfl) ?_
                refine J.op rfl rfl rfl (V.mv rfl rfl) ?_
                refine J.split 95 rfl (fun hB37 => ?_) (fun hB37 => ?_)
                · replace h1 := B.t hB37 h1
                  refine J.opOff rfl rfl rfl rfl rfl rfl ?_
                  refine J.opOff rfl rfl rfl rfl rfl rfl ?_
                  refine J.opOff rfl rfl rfl rfl rfl rfl ?_
                  refine J.op rfl rfl rfl (V.pkT rfl rfl rfl) ?_
                  refine J.op rfl rfl rfl (V.mv rfl rfl) ?_
                  refine J.opOff rfl rfl rfl rfl rfl rfl ?_
                  refine J.opOff rfl rfl rfl rfl rfl rfl ?_
                  refine J.opOff rfl rfl rfl rfl rfl rfl ?_
                  refine J.op rfl rfl rfl (V.pkT rfl rfl rfl) ?_
                  refine J.op rfl rfl rfl (V.mv rfl rfl) ?_
                  refine J.opOff rfl rfl rfl rfl rfl rfl ?_
                  refine J.opOff rfl rfl rfl rfl rfl rfl ?_
                  refine J.opOff rfl rfl rfl rfl rfl rfl ?_
                  refine J.op rfl rfl rfl (V.pkT rfl rfl rfl) ?_
                  refine J.op rfl rfl rfl (V.mv rfl rfl) ?_
                  refine J.opOff rfl rfl rfl rfl rfl rfl ?_
                  refine J.opOff rfl rfl rfl rfl rfl rfl ?_
                  refine J.opOff rfl rfl rfl rfl rfl rfl ?_
                  refine J.opOff rfl rfl rfl rfl rfl rfl ?_
                  refine J.opOff rfl rfl rfl rfl rfl rfl ?_
                  refine J.op rfl rfl rfl (V.pkT rfl rfl rfl) ?_
                  refine J.nil ?_
                  obtain rfl := B.e h1
                  refine J.tN (J.to () trivial ?_)
                  exact J.keep _ rfl (J.pickE [0, 1] rfl rfl J.here)
                · replace h1 := B.f hB37 h1
                  refine J.opOn rfl rfl rfl rfl rfl (V.mv rfl rfl) ?_
                  refine J.opOn rfl rfl rfl rfl rfl (V.mv rfl rfl) ?_
                  refine J.opOn rfl rfl rfl rfl rfl (V.cmp rfl rfl rfl rfl) ?_
                  refine J.op rfl rfl rfl (V.pkF rfl rfl rfl) ?_
                  refine J.op rfl rfl rfl (V.mv rfl rfl) ?_
                  refine J.split 100 rfl (fun hB38 => ?_) (fun hB38 => ?_)
                  · replace h1 := B.t hB38 h1
                    refine J.opOff rfl rfl rfl rfl rfl rfl ?_
                    refine J.opOff rfl rfl rfl rfl rfl rfl ?_
                    refine J.opOff rfl rfl rfl rfl rfl rfl ?_
                    refine J.op rfl rfl rfl (V.pkT rfl rfl rfl) ?_
                    refine J.op rfl rfl rfl (V.mv rfl rfl) ?_
                    refine J.opOff rfl rfl rfl rfl rfl rfl ?_
                    refine J.opOff rfl rfl rfl rfl rfl rfl ?_
                    refine J.opOff rfl rfl rfl rfl rfl rfl ?_
                    refine J.op rfl rfl rfl (V.pkT rfl rfl rfl) ?_
                    refine J.op rfl rfl rfl (V.mv rfl rfl) ?_
                    refine J.opOff rfl rfl rfl rfl rfl rfl ?_
                    refine J.opOff rfl rfl rfl rfl rfl rfl ?_
                    refine J.opOff rfl rfl rfl rfl rfl rfl ?_
                    refine J.opOff rfl rfl rfl rfl rfl rfl ?_
                    refine J.opOff rfl rfl rfl rfl rfl rfl ?_
                    refine J.op rfl rfl rfl (V.pkT rfl rfl rfl) ?_
                    refine J.nil ?_
                    obtain rfl := B.e h1
                    refine J.tN (J.to () trivial ?_)
                    exact J.keep _ rfl (J.pickE [0, 1] rfl rfl J.here)
                  · replace h1 := B.f hB38 h1
                    refine J.opOn rfl rfl rfl rfl rfl (V.mv rfl rfl) ?_
                    refine J.opOn rfl rfl rfl rfl rfl (V.mv rfl rfl) ?_
                    refine J.opOn rfl rfl rfl rfl rfl (V.cmp rfl rfl rfl rfl) ?_
                    refine J.op rfl rfl rfl (V.pkF rfl rfl rfl) ?_
                    refine J.op rfl rfl rfl (V.mv rfl rfl) ?_
                    refine J.split 105 rfl (fun hB39 => ?_) (fun hB39 => ?_)
                    · replace h1 := B.t hB39 h1
                      refine J.opOff rfl rfl rfl rfl rfl rfl ?_
                      refine J.opOff rfl rfl rfl rfl rfl rfl ?_
                      refine J.opOff rfl rfl rfl rfl rfl rfl ?_
                      refine J.op rfl rfl rfl (V.pkT rfl rfl rfl) ?_
                      refine J.op rfl rfl rfl (V.mv rfl rfl) ?_
                      refine J.opOff rfl rfl rfl rfl rfl rfl ?_
                      refine J.opOff rfl rfl rfl rfl rfl rfl ?_
                      refine J.opOff rfl rfl rfl rfl rfl rfl ?_
                      refine J.opOff rfl rfl rfl rfl rfl rfl ?_
                      refine J.opOff rfl rfl rfl rfl rfl rfl ?_
                      refine J.op rfl rfl rfl (V.pkT rfl rfl rfl) ?_
                      refine J.nil ?_
                      obtain rfl := B.e h1
                      refine J.tN (J.to () trivial ?_)
                      exact J.keep _ rfl (J.pickE [0, 1] rfl rfl J.here)
                    · replace h1 := B.f hB39 h1
                      refine J.opOn rfl rfl rfl rfl rfl (V.mv rfl rfl) ?_
                      refine J.opOn rfl rfl rfl rfl rfl (V.mv rfl rfl) ?_
                      refine J.opOn rfl rfl rfl rfl rfl (V.cmp rfl rfl rfl rfl) ?_
                      refine J.op rfl rfl rfl (V.pkF rfl rfl rfl) ?_
                      refine J.op rfl rfl rfl (V.mv rfl rfl) ?_
                      refine J.split 110 rfl (fun hB40 => ?_) (fun hB40 => ?_)
                      · replace h1 := B.t hB40 h1
                        refine J.opOff rfl rfl rfl rfl rfl rfl ?_
                        refine J.opOff rfl rfl rfl rfl rfl rfl ?_
                        refine J.opOff rfl rfl rfl rfl rfl rfl ?_
                        refine J.opOff rfl rfl rfl rfl rfl rfl ?_
                        refine J.opOff rfl rfl rfl rfl rfl rfl ?_
                        refine J.op rfl rfl rfl (V.pkT rfl rfl rfl) ?_
                        refine J.nil ?_
                        obtain rfl := B.e h1
                        refine J.tN (J.to () trivial ?_)
                        exact J.keep _ rfl (J.pickE [0, 1] rfl rfl J.here)
                      · replace h1 := B.f hB40 h1
                        refine J.opOn rfl rfl rfl rfl rfl (V.mv rfl rfl) ?_
                        refine J.opOn rfl rfl rfl rfl rfl (V.cmp rfl rfl rfl rfl) ?_
                        refine J.opOn rfl rfl rfl rfl rfl (V.mv rfl rfl) ?_
                        refine J.opOn rfl rfl rfl rfl rfl (V.cmp rfl rfl rfl rfl) ?_
                        refine J.opOn rfl rfl rfl rfl rfl (V.neB rfl rfl rfl Try.underlying4) ?_
                        refine J.op rfl rfl rfl (V.pkF rfl rfl rfl) ?_
                        refine J.nil ?_
                        obtain rfl := B.e h1
                        refine J.tN (J.to () trivial ?_)
                        exact J.keep _ rfl (J.pickE [0, 1] rfl rfl J.here)
            · replace h1 := B.f hB32 h1
              refine J.opOff rfl rfl rfl rfl rfl rfl ?_
              refine J.opOff rfl rfl rfl rfl rfl rfl ?_
              refine J.opOn rfl rfl rfl rfl rfl (V.pkF rfl rfl rfl) ?_
              refine J.op rfl rfl rfl (V.pkF rfl rfl rfl) ?_
              refine J.op rfl rfl rfl (V.mv rfl rfl) ?_
              refine J.opOn rfl rfl rfl rfl rfl (V.ldW 0 rfl rfl rfl ts29 ta29 rfl) ?_
              obtain ⟨r41, hr42, h1⟩ := B.bind h1
              refine J.clA (l := [.tmp 91]) [] [.blk b16 [.int .i8 r12.Across, g14] 29, .rowE g14 60 (eA .i16 64) r12.Frames] cf17 (wY rfl rfl rfl) rfl rfl rfl rfl rfl rfl (fun w H => impl_ValidSheet.calls (⟨r12.Across, r12.Frames⟩ : impl_Sheet) g14 r41 w (Own.refl w) (Own.slA 1 H rfl) hr42) fun g43 => ?_
              refine J.opOn rfl rfl rfl rfl rfl (V.nt rfl rfl) ?_
              refine J.op rfl rfl rfl (V.pkF rfl rfl rfl) ?_
              refine J.op rfl rfl rfl (V.mv rfl rfl) ?_
              refine J.split 95 rfl (fun hB44 => ?_) (fun hB44 => ?_)
              · replace h1 := B.t hB44 h1
                refine J.opOff rfl rfl rfl rfl rfl rfl ?_
                refine J.opOff rfl rfl rfl rfl rfl rfl ?_
                refine J.opOff rfl rfl rfl rfl rfl rfl ?_
                refine J.op rfl rfl rfl (V.pkT rfl rfl rfl) ?_
                refine J.op rfl rfl rfl (V.mv rfl rfl) ?_
                refine J.opOff rfl rfl rfl rfl rfl rfl ?_
                refine J.opOff rfl rfl rfl rfl rfl rfl ?_
                refine J.opOff rfl rfl rfl rfl rfl rfl ?_
                refine J.op rfl rfl rfl (V.pkT rfl rfl rfl) ?_
                refine J.op rfl rfl rfl (V.mv rfl rfl) ?_
                refine J.opOff rfl rfl rfl rfl rfl rfl ?_
                refine J.opOff rfl rfl rfl rfl rfl rfl ?_
                refine J.opOff rfl rfl rfl rfl rfl rfl ?_
                refine J.op rfl rfl rfl (V.pkT rfl rfl rfl) ?_
                refine J.op rfl rfl rfl (V.mv rfl rfl) ?_
                refine J.opOff rfl rfl rfl rfl rfl rfl ?_
                refine J.opOff rfl rfl rfl rfl rfl rfl ?_
                refine J.opOff rfl rfl rfl rfl rfl rfl ?_
                refine J.opOff rfl rfl rfl rfl rfl rfl ?_
                refine J.opOff rfl rfl rfl rfl rfl rfl ?_
                refine J.op rfl rfl rfl (V.pkT rfl rfl rfl) ?_
                refine J.nil ?_
                obtain rfl := B.e h1
                refine J.tN (J.to () trivial ?_)
                exact J.keep _ rfl (J.pickE [0, 1] rfl rfl J.here)
              · replace h1 := B.f hB44 h1
                refine J.opOn rfl rfl rfl rfl rfl (V.mv rfl rfl) ?_
                refine J.opOn rfl rfl rfl rfl rfl (V.mv rfl rfl) ?_
                refine J.opOn rfl rfl rfl rfl rfl (V.cmp rfl rfl rfl rfl) ?_
                refine J.op rfl rfl rfl (V.pkF rfl rfl rfl) ?_
                refine J.op rfl rfl rfl (V.mv rfl rfl) ?_
                refine J.split 100 rfl (fun hB45 => ?_) (fun hB45 => ?_)
                · replace h1 := B.t hB45 h1
                  refine J.opOff rfl rfl rfl rfl rfl rfl ?_
                  refine J.opOff rfl rfl rfl rfl rfl rfl ?_
                  refine J.opOff rfl rfl rfl rfl rfl rfl ?_
                  refine J.op rfl rfl rfl (V.pkT rfl rfl rfl) ?_
                  refine J.op rfl rfl rfl (V.mv rfl rfl) ?_
                  refine J.opOff rfl rfl rfl rfl rfl rfl ?_
                  refine J.opOff rfl rfl rfl rfl rfl rfl ?_
                  refine J.opOff rfl rfl rfl rfl rfl rfl ?_
                  refine J.op rfl rfl rfl (V.pkT rfl rfl rfl) ?_
                  refine J.op rfl rfl rfl (V.mv rfl rfl) ?_
                  refine J.opOff rfl rfl rfl rfl rfl rfl ?_
                  refine J.opOff rfl rfl rfl rfl rfl rfl ?_
                  refine J.opOff rfl rfl rfl rfl rfl rfl ?_
                  refine J.opOff rfl rfl rfl rfl rfl rfl ?_
                  refine J.opOff rfl rfl rfl rfl rfl rfl ?_
                  refine J.op rfl rfl rfl (V.pkT rfl rfl rfl) ?_
                  refine J.nil ?_
                  obtain rfl := B.e h1
                  refine J.tN (J.to () trivial ?_)
                  exact J.keep _ rfl (J.pickE [0, 1] rfl rfl J.here)
                · replace h1 := B.f hB45 h1
                  refine J.opOn rfl rfl rfl rfl rfl (V.mv rfl rfl) ?_
                  refine J.opOn rfl rfl rfl rfl rfl (V.mv rfl rfl) ?_
                  refine J.opOn rfl rfl rfl rfl rfl (V.cmp rfl rfl rfl rfl) ?_
                  refine J.op rfl rfl rfl (V.pkF rfl rfl rfl) ?_
                  refine J.op rfl rfl rfl (V.mv rfl rfl) ?_
                  refine J.split 105 rfl (fun hB46 => ?_) (fun hB46 => ?_)
                  · replace h1 := B.t hB46 h1
                    refine J.opOff rfl rfl rfl rfl rfl rfl ?_
                    refine J.opOff rfl rfl rfl rfl rfl rfl ?_
                    refine J.opOff rfl rfl rfl rfl rfl rfl ?_
                    refine J.op rfl rfl rfl (V.pkT rfl rfl rfl) ?_
                    refine J.op rfl rfl rfl (V.mv rfl rfl) ?_
                    refine J.opOff rfl rfl rfl rfl rfl rfl ?_
                    refine J.opOff rfl rfl rfl rfl rfl rfl ?_
                    refine J.opOff rfl rfl rfl rfl rfl rfl ?_
                    refine J.opOff rfl rfl rfl rfl rfl rfl ?_
                    refine J.opOff rfl rfl rfl rfl rfl rfl ?_
                    refine J.op rfl rfl rfl (V.pkT rfl rfl rfl) ?_
                    refine J.nil ?_
                    obtain rfl := B.e h1
                    refine J.tN (J.to () trivial ?_)
                    exact J.keep _ rfl (J.pickE [0, 1] rfl rfl J.here)
                  · replace h1 := B.f hB46 h1
                    refine J.opOn rfl rfl rfl rfl rfl (V.mv rfl rfl) ?_
                    refine J.opOn rfl rfl rfl rfl rfl (V.mv rfl rfl) ?_
                    refine J.opOn rfl rfl rfl rfl rfl (V.cmp rfl rfl rfl rfl) ?_
                    refine J.op rfl rfl rfl (V.pkF rfl rfl rfl) ?_
                    refine J.op rfl rfl rfl (V.mv rfl rfl) ?_
                    refine J.split 110 rfl (fun hB47 => ?_) (fun hB47 => ?_)
                    · replace h1 := B.t hB47 h1
                      refine J.opOff rfl rfl rfl rfl rfl rfl ?_
                      refine J.opOff rfl rfl rfl rfl rfl rfl ?_
                      refine J.opOff rfl rfl rfl rfl rfl rfl ?_
                      refine J.opOff rfl rfl rfl rfl rfl rfl ?_
                      refine J.opOff rfl rfl rfl rfl rfl rfl ?_
                      refine J.op rfl rfl rfl (V.pkT rfl rfl rfl) ?_
                      refine J.nil ?_
                      obtain rfl := B.e h1
                      refine J.tN (J.to () trivial ?_)
                      exact J.keep _ rfl (J.pickE [0, 1] rfl rfl J.here)
                    · replace h1 := B.f hB47 h1
                      refine J.opOn rfl rfl rfl rfl rfl (V.mv rfl rfl) ?_
                      refine J.opOn rfl rfl rfl rfl rfl (V.cmp rfl rfl rfl rfl) ?_
                      refine J.opOn rfl rfl rfl rfl rfl (V.mv rfl rfl) ?_
                      refine J.opOn rfl rfl rfl rfl rfl (V.cmp rfl rfl rfl rfl) ?_
                      refine J.opOn rfl rfl rfl rfl rfl (V.neB rfl rfl rfl Try.underlying4) ?_
                      refine J.op rfl rfl rfl (V.pkF rfl rfl rfl) ?_
                      refine J.nil ?_
                      obtain rfl := B.e h1
                      refine J.tN (J.to () trivial ?_)
                      exact J.keep _ rfl (J.pickE [0, 1] rfl rfl J.here)
      · intro gy29 _
        refine J.cond rfl (fun hB49 => ?_) (fun hB49 => ?_)
        · replace h0 := B.t hB49 h0
          refine J.seq ?_
          refine J.region ?_
          refine J.op rfl rfl rfl (V.as rfl rfl) ?_
          refine J.nil ?_
          refine J.tN ?_
          refine J.ret ?_
          refine J.tR ?_
          obtain rfl := B.e h0
          exact J.ret1 rfl rfl fun w H => ⟨(), rfl, H.pick [] (by decide)⟩
        · replace h0 := B.f hB49 h0
          refine J.skip ?_
          refine J.tN ?_
          refine J.seq ?_
          refine J.seq ?_
          refine J.region ?_
          refine J.op rfl rfl rfl (V.as rfl rfl) ?_
          refine J.nil ?_
          refine J.tN ?_
          obtain ⟨o74, hy73, h0⟩ := B.bind h0
          refine J.cutQ (γ := (Unit) × (Unit)) (fun gy72 => o74 = .inl gy72.1) (fun gy72 => [(0, v0), (1, v1), (5, bp b16 0), (6, .int .i64 n_18), (7, .int .i64 r19.1)]) (fun gy72 => [.blk b16 [.int .i8 r12.Across, g14] 29, .rowE g14 60 (eA .i16 64) r12.Frames]) ?_ ?_
          · refine J.block ?_
            refine J.loop (γ := Unit) hy73 (fun s50 g51 => [(0, v0), (1, v1), (5, bp b16 0), (6, .int .i64 n_18), (7, .int .i64 r19.1), (15, .int .i64 s50)]) (fun s50 g51 => [.blk b16 [.int .i8 r12.Across, g14] 29, .rowE g14 60 (eA .i16 64) r12.Frames]) () ?_ ?_
            · exact J.keep _ rfl (J.pickE [0, 1] rfl rfl J.here)
            · intro rec52 s50 g51 h1
              unfold laws_FnFrames.b1 at h1
              refine J.seq ?_
              refine J.seq ?_
              refine J.region ?_
              refine J.op rfl rfl rfl (V.mv rfl rfl) ?_
              refine J.op rfl rfl rfl (V.mv rfl rfl) ?_
              refine J.op rfl rfl rfl (V.cmp rfl rfl rfl rfl) ?_
              refine J.nil ?_
              refine J.tN ?_
              refine J.cond rfl (fun hB53 => ?_) (fun hB53 => ?_)
              · replace h1 := B.t hB53 h1
                refine J.skip ?_
                refine J.tN ?_
                refine J.seq ?_
                refine J.block ?_
                refine J.seq ?_
                refine J.region ?_
                refine J.op rfl rfl rfl (V.ldW 0 rfl rfl rfl ts29 ta29 rfl) ?_
                refine J.op rfl rfl rfl (V.mv rfl rfl) ?_
                obtain ⟨r54, hr55, h1⟩ := B.bind h1
                refine J.clA (l := [.tmp 123, .tmp 124]) [] [.blk b16 [.int .i8 r12.Across, g14] 29, .rowE g14 60 (eA .i16 64) r12.Frames] cf18 (wN rfl) rfl rfl rfl rfl rfl rfl (fun w H => impl_PlaceOf.calls (⟨r12.Across, r12.Frames⟩ : impl_Sheet) g14 s50 r54 w (Own.refl w) (Own.slA 1 H rfl) hr55) fun g56 => ?_
                refine J.op rfl rfl rfl (V.mv rfl rfl) ?_
                refine J.op rfl rfl rfl (V.ex rfl rfl rfl) ?_
                refine J.op rfl rfl rfl (V.ex rfl rfl rfl) ?_
                refine J.op rfl rfl rfl (V.ex rfl rfl rfl) ?_
                refine J.op rfl rfl rfl (V.as rfl rfl) ?_
                refine J.op rfl rfl rfl (V.as rfl rfl) ?_
                refine J.op rfl rfl rfl (V.as rfl rfl) ?_
                refine J.nil ?_
                refine J.tN ?_
                refine J.seq ?_
                refine J.region ?_
                refine J.op rfl rfl rfl (V.ldW 0 rfl rfl rfl ts29 ta29 rfl) ?_
                refine J.op rfl rfl rfl (V.mv rfl rfl) ?_
                refine J.op rfl rfl rfl (V.mv rfl rfl) ?_
                obtain ⟨r57, hr58, h1⟩ := B.bind h1
                refine J.clA (l := [.tmp 130, .tmp 131, .tmp 132]) [] [.blk b16 [.int .i8 r12.Across, g14] 29, .rowE g14 60 (eA .i16 64) r12.Frames] cf19 (wN rfl) rfl rfl rfl rfl rfl rfl (fun w H => impl_FrameAt.calls (⟨r12.Across, r12.Frames⟩ : impl_Sheet) g14 r54.1 r54.2.1 r57 w (Own.refl w) (Own.slA 1 H rfl) hr58) fun g59 => ?_
                refine J.op rfl rfl rfl (V.mv rfl rfl) ?_
                refine J.op rfl rfl rfl (V.ex rfl rfl rfl) ?_
                refine J.op rfl rfl rfl (V.ex rfl rfl rfl) ?_
                refine J.op rfl rfl rfl (V.as rfl rfl) ?_
                refine J.op rfl rfl rfl (V.as rfl rfl) ?_
                refine J.nil ?_
                refine J.tN ?_
                refine J.seq ?_
                obtain ⟨y60, hy68, h1⟩ := B.bind h1
                replace hy68 := B.top hy68
                refine J.cut (γ := Unit) (fun _ => True) (fun gy61 => [(0, v0), (1, v1), (5, bp b16 0), (6, .int .i64 n_18), (7, .int .i64 r19.1), (15, .int .i64 s50), (166, .bool y60)]) (fun gy61 => [.blk b16 [.int .i8 r12.Across, g14] 29, .rowE g14 60 (eA .i16 64) r12.Frames]) ?_ ?_
                · have h2 := hy68
                  refine J.region ?_
                  refine J.op rfl rfl rfl (V.mv rfl rfl) ?_
                  refine J.op rfl rfl rfl (V.cmp rfl rfl rfl rfl) ?_
                  refine J.op rfl rfl rfl (V.mv rfl rfl) ?_
                  refine J.split 138 rfl (fun hB62 => ?_) (fun hB62 => ?_)
                  · replace h2 := B.t hB62 h2
                    refine J.opOff rfl rfl rfl rfl rfl rfl ?_
                    refine J.opOff rfl rfl rfl rfl rfl rfl ?_
                    refine J.op rfl rfl rfl (V.pkT rfl rfl rfl) ?_
                    refine J.op rfl rfl rfl (V.mv rfl rfl) ?_
                    refine J.opOff rfl rfl rfl rfl rfl rfl ?_
                    refine J.opOff rfl rfl rfl rfl rfl rfl ?_
                    refine J.opOff rfl rfl rfl rfl rfl rfl ?_
                    refine J.opOff rfl rfl rfl rfl rfl rfl ?_
                    refine J.opOff rfl rfl rfl rfl rfl rfl ?_
                    refine J.op rfl rfl rfl (V.pkT rfl rfl rfl) ?_
                    refine J.op rfl rfl rfl (V.mv rfl rfl) ?_
                    refine J.opOff rfl rfl rfl rfl rfl rfl ?_
                    refine J.opOff rfl rfl rfl rfl rfl rfl ?_
                    refine J.op rfl rfl rfl (V.pkT rfl rfl rfl) ?_
                    refine J.op rfl rfl rfl (V.mv rfl rfl) ?_
                    refine J.opOff rfl rfl rfl rfl rfl rfl ?_
                    refine J.opOff rfl rfl rfl rfl rfl rfl ?_
                    refine J.opOff rfl rfl rfl rfl rfl rfl ?_
                    refine J.op rfl rfl rfl (V.pkT rfl rfl rfl) ?_
                    refine J.op rfl rfl rfl (V.mv rfl rfl) ?_
                    refine J.opOff rfl rfl rfl rfl rfl rfl ?_
                    refine J.opOff rfl rfl rfl rfl rfl rfl ?_
                    refine J.op rfl rfl rfl (V.pkT rfl rfl rfl) ?_
                    refine J.op rfl rfl rfl (V.mv rfl rfl) ?_
                    refine J.opOff rfl rfl rfl rfl rfl rfl ?_
                    refine J.opOff rfl rfl rfl rfl rfl rfl ?_
                    refine J.opOff rfl rfl rfl rfl rfl rfl ?_
                    refine J.op rfl rfl rfl (V.pkT rfl rfl rfl) ?_
                    refine J.nil ?_
                    obtain rfl := B.e h2
                    refine J.tN (J.to () trivial ?_)
                    exact J.keep _ rfl (J.pickE [0, 1] rfl rfl J.here)
                  · replace h2 := B.f hB62 h2
                    refine J.opOn rfl rfl rfl rfl rfl (V.mv rfl rfl) ?_
                    refine J.opOn rfl rfl rfl rfl rfl (V.cmp rfl rfl rfl rfl) ?_
                    refine J.op rfl rfl rfl (V.pkF rfl rfl rfl) ?_
                    refine J.op rfl rfl rfl (V.mv rfl rfl) ?_
                    refine J.split 142 rfl (fun hB63 => ?_) (fun hB63 => ?_)
                    · replace h2 := B.t hB63 h2
                      refine J.opOff rfl rfl rfl rfl rfl rfl ?_
                      refine J.opOff rfl rfl rfl rfl rfl rfl ?_
                      refine J.opOff rfl rfl rfl rfl rfl rfl ?_
                      refine J.opOff rfl rfl rfl rfl rfl rfl ?_
                      refine J.opOff rfl rfl rfl rfl rfl rfl ?_
                      refine J.op rfl rfl rfl (V.pkT rfl rfl rfl) ?_
                      refine J.op rfl rfl rfl (V.mv rfl rfl) ?_
                      refine J.opOff rfl rfl rfl rfl rfl rfl ?_
                      refine J.opOff rfl rfl rfl rfl rfl rfl ?_
                      refine J.op rfl rfl rfl (V.pkT rfl rfl rfl) ?_
                      refine J.op rfl rfl rfl (V.mv rfl rfl) ?_
                      refine J.opOff rfl rfl rfl rfl rfl rfl ?_
                      refine J.opOff rfl rfl rfl rfl rfl rfl ?_
                      refine J.opOff rfl rfl rfl rfl rfl rfl ?_
                      refine J.op rfl rfl rfl (V.pkT rfl rfl rfl) ?_
                      refine J.op rfl rfl rfl (V.mv rfl rfl) ?_
                      refine J.opOff rfl rfl rfl rfl rfl rfl ?_
                      refine J.opOff rfl rfl rfl rfl rfl rfl ?_
                      refine J.op rfl rfl rfl (V.pkT rfl rfl rfl) ?_
                      refine J.op rfl rfl rfl (V.mv rfl rfl) ?_
                      refine J.opOff rfl rfl rfl rfl rfl rfl ?_
                      refine J.opOff rfl rfl rfl rfl rfl rfl ?_
                      refine J.opOff rfl rfl rfl rfl rfl rfl ?_
                      refine J.op rfl rfl rfl (V.pkT rfl rfl rfl) ?_
                      refine J.nil ?_
                      obtain rfl := B.e h2
                      refine J.tN (J.to () trivial ?_)
                      exact J.keep _ rfl (J.pickE [0, 1] rfl rfl J.here)
                    · replace h2 := B.f hB63 h2
                      refine J.opOn rfl rfl rfl rfl rfl (V.mv rfl rfl) ?_
                      refine J.opOn rfl rfl rfl rfl rfl (V.faB rfl rfl tf0_29) ?_
                      refine J.opOn rfl rfl rfl rfl rfl (V.ldB 0 rfl rfl rfl Try.underlying22 ta22 rfl) ?_
                      refine J.opOn rfl rfl rfl rfl rfl (V.conv rfl rfl Try.underlying22 Try.underlying2) ?_
                      refine J.opOn rfl rfl rfl rfl rfl (V.cmp rfl rfl rfl rfl) ?_
                      refine J.op rfl rfl rfl (V.pkF rfl rfl rfl) ?_
                      refine J.op rfl rfl rfl (V.mv rfl rfl) ?_
                      refine J.split 149 rfl (fun hB64 => ?_) (fun hB64 => ?_)
                      · replace h2 := B.t hB64 h2
                        refine J.opOff rfl rfl rfl rfl rfl rfl ?_
                        refine J.opOff rfl rfl rfl rfl rfl rfl ?_
                        refine J.op rfl rfl rfl (V.pkT rfl rfl rfl) ?_
                        refine J.op rfl rfl rfl (V.mv rfl rfl) ?_
                        refine J.opOff rfl rfl rfl rfl rfl rfl ?_
                        refine J.opOff rfl rfl rfl rfl rfl rfl ?_
                        refine J.opOff rfl rfl rfl rfl rfl rfl ?_
                        refine J.op rfl rfl rfl (V.pkT rfl rfl rfl) ?_
                        refine J.op rfl rfl rfl (V.mv rfl rfl) ?_
                        refine J.opOff rfl rfl rfl rfl rfl rfl ?_
                        refine J.opOff rfl rfl rfl rfl rfl rfl ?_
                        refine J.op rfl rfl rfl (V.pkT rfl rfl rfl) ?_
                        refine J.op rfl rfl rfl (V.mv rfl rfl) ?_
                        refine J.opOff rfl rfl rfl rfl rfl rfl ?_
                        refine J.opOff rfl rfl rfl rfl rfl rfl ?_
                        refine J.opOff rfl rfl rfl rfl rfl rfl ?_
                        refine J.op rfl rfl rfl (V.pkT rfl rfl rfl) ?_
                        refine J.nil ?_
                        obtain rfl := B.e h2
                        refine J.tN (J.to () trivial ?_)
                        exact J.keep _ rfl (J.pickE [0, 1] rfl rfl J.here)
                      · replace h2 := B.f hB64 h2
                        refine J.opOn rfl rfl rfl rfl rfl (V.mv rfl rfl) ?_
                        refine J.opOn rfl rfl rfl rfl rfl (V.cmp rfl rfl rfl rfl) ?_
                        refine J.op rfl rfl rfl (V.pkF rfl rfl rfl) ?_
                        refine J.op rfl rfl rfl (V.mv rfl rfl) ?_
                        refine J.split 153 rfl (fun hB65 => ?_) (fun hB65 => ?_)
                        · replace h2 := B.t hB65 h2
                          refine J.opOff rfl rfl rfl rfl rfl rfl ?_
                          refine J.opOff rfl rfl rfl rfl rfl rfl ?_
                          refine J.opOff rfl rfl rfl rfl rfl rfl ?_
                          refine J.op rfl rfl rfl (V.pkT rfl rfl rfl) ?_
                          refine J.op rfl rfl rfl (V.mv rfl rfl) ?_
                          refine J.opOff rfl rfl rfl rfl rfl rfl ?_
                          refine J.opOff rfl rfl rfl rfl rfl rfl ?_
                          refine J.op rfl rfl rfl (V.pkT rfl rfl rfl) ?_
                          refine J.op rfl rfl rfl (V.mv rfl rfl) ?_
                          refine J.opOff rfl rfl rfl rfl rfl rfl ?_
                          refine J.opOff rfl rfl rfl rfl rfl rfl ?_
                          refine J.opOff rfl rfl rfl rfl rfl rfl ?_
                          refine J.op rfl rfl rfl (V.pkT rfl rfl rfl) ?_
                          refine J.nil ?_
                          obtain rfl := B.e h2
                          refine J.tN (J.to () trivial ?_)
                          exact J.keep _ rfl (J.pickE [0, 1] rfl rfl J.here)
                        · replace h2 := B.f hB65 h2
                          refine J.opOn rfl rfl rfl rfl rfl (V.mv rfl rfl) ?_
                          refine J.opOn rfl rfl rfl rfl rfl (V.mv rfl rfl) ?_
                          refine J.opOn rfl rfl rfl rfl rfl (V.cmp rfl rfl rfl rfl) ?_
                          refine J.op rfl rfl rfl (V.pkF rfl rfl rfl) ?_
                          refine J.op rfl rfl rfl (V.mv rfl rfl) ?_
                          refine J.split 158 rfl (fun hB66 => ?_) (fun hB66 => ?_)
                          · replace h2 := B.t hB66 h2
                            refine J.opOff rfl rfl rfl rfl rfl rfl ?_
                            refine J.opOff rfl rfl rfl rfl rfl rfl ?_
                            refine J.op rfl rfl rfl (V.pkT rfl rfl rfl) ?_
                            refine J.op rfl rfl rfl (V.mv rfl rfl) ?_
                            refine J.opOff rfl rfl rfl rfl rfl rfl ?_
                            refine J.opOff rfl rfl rfl rfl rfl rfl ?_
                            refine J.opOff rfl rfl rfl rfl rfl rfl ?_
                            refine J.op rfl rfl rfl (V.pkT rfl rfl rfl) ?_
                            refine J.nil ?_
                            obtain rfl := B.e h2
                            refine J.tN (J.to () trivial ?_)
                            exact J.keep _ rfl (J.pickE [0, 1] rfl rfl J.here)
                          · replace h2 := B.f hB66 h2
                            refine J.opOn rfl rfl rfl rfl rfl (V.mv rfl rfl) ?_
                            refine J.opOn rfl rfl rfl rfl rfl (V.cmp rfl rfl rfl rfl) ?_
                            refine J.op rfl rfl rfl (V.pkF rfl rfl rfl) ?_
                            refine J.op rfl rfl rfl (V.mv rfl rfl) ?_
                            refine J.split 162 rfl (fun hB67 => ?_) (fun hB67 => ?_)
                            · replace h2 := B.t hB67 h2
                              refine J.opOff rfl rfl rfl rfl rfl rfl ?_
                              refine J.opOff rfl rfl rfl rfl rfl rfl ?_
                              refine J.opOff rfl rfl rfl rfl rfl rfl ?_
                              refine J.op rfl rfl rfl (V.pkT rfl rfl rfl) ?_
                              refine J.nil ?_
                              obtain rfl := B.e h2
                              refine J.tN (J.to () trivial ?_)
                              exact J.keep _ rfl (J.pickE [0, 1] rfl rfl J.here)
                            · replace h2 := B.f hB67 h2
                              refine J.opOn rfl rfl rfl rfl rfl (V.mv rfl rfl) ?_
                              refine J.opOn rfl rfl rfl rfl rfl (V.mv rfl rfl) ?_
                              refine J.opOn rfl rfl rfl rfl rfl (V.cmp rfl rfl rfl rfl) ?_
                              refine J.op rfl rfl rfl (V.pkF rfl rfl rfl) ?_
                              refine J.nil ?_
                              obtain rfl := B.e h2
                              refine J.tN (J.to () trivial ?_)
                              exact J.keep _ rfl (J.pickE [0, 1] rfl rfl J.here)
                · intro gy61 _
                  refine J.cond rfl (fun hB69 => ?_) (fun hB69 => ?_)
                  · replace h1 := B.t hB69 h1
                    refine J.seq ?_
                    refine J.region ?_
                    refine J.op rfl rfl rfl (V.as rfl rfl) ?_
                    refine J.nil ?_
                    refine J.tN ?_
                    refine J.ret ?_
                    refine J.bR ?_
                    refine J.tR ?_
                    refine J.tR ?_
                    refine J.bR ?_
                    refine J.tR ?_
                    refine J.tR ?_
                    obtain rfl := B.d h1
                    replace h0 := B.inr h0
                    obtain rfl := B.e h0
                    exact J.ret1 rfl rfl fun w H => ⟨(), rfl, H.pick [] (by decide)⟩
                  · replace h1 := B.f hB69 h1
                    refine J.skip ?_
                    refine J.bN ?_
                    refine J.tN ?_
                    refine J.region ?_
                    refine J.op rfl rfl rfl (V.mv rfl rfl) ?_
                    refine J.op rfl rfl rfl (V.ar rfl rfl rfl rfl) ?_
                    refine J.op rfl rfl rfl (V.as rfl rfl) ?_
                    obtain ⟨i_70, ei_70, h1⟩ := B.lt h1
                    refine J.val (congrArg (Value.int .i64) ei_70) ?_
                    refine J.nil ?_
                    refine J.tN (J.next i_70 () (B.n h1) ?_)
                    exact J.keep _ rfl (J.pickE [0, 1] rfl rfl J.here)
              · replace h1 := B.f hB53 h1
                refine J.exit ?_
                refine J.tE ?_
                refine J.tE ?_
                refine J.bE ?_
                obtain rfl := B.d h1
                refine J.tN (J.to ((), ()) rfl ?_)
                exact J.keep _ rfl (J.pickE [0, 1] rfl rfl J.here)
          · intro gy72 hG
            replace h0 := B.inl hG h0
            refine J.tN ?_
            refine J.seq ?_
            refine J.seq ?_
            refine J.region ?_
            refine J.op rfl rfl rfl (V.mv rfl rfl) ?_
            refine J.op rfl rfl rfl (V.cmp rfl rfl rfl rfl) ?_
            refine J.nil ?_
            refine J.tN ?_
            refine J.cond rfl (fun hB75 => ?_) (fun hB75 => ?_)
            · replace h0 := B.t hB75 h0
              refine J.seq ?_
              refine J.region ?_
              refine J.op rfl rfl rfl (V.mv rfl rfl) ?_
              refine J.op rfl rfl rfl (V.cmp rfl rfl rfl rfl) ?_
              refine J.op rfl rfl rfl (V.as rfl rfl) ?_
              obtain ⟨t76, et76, h0⟩ := B.lt h0
              refine J.val (congrArg (Value.bool) et76) ?_
              refine J.nil ?_
              refine J.tN ?_
              refine J.ret ?_
              refine J.tR ?_
              obtain rfl := B.e h0
              exact J.ret1 rfl rfl fun w H => ⟨(), rfl, H.pick [] (by decide)⟩
            · replace h0 := B.f hB75 h0
              refine J.skip ?_
              refine J.tN ?_
              refine J.seq ?_
              refine J.region ?_
              refine J.op rfl rfl rfl (V.mv rfl rfl) ?_
              refine J.op rfl rfl rfl (V.mv rfl rfl) ?_
              obtain ⟨r77, hr78, h0⟩ := B.bind h0
              refine J.clA (l := [.tmp 171, .tmp 172]) [] [.blk b16 [.int .i8 r12.Across, g14] 29, .rowE g14 60 (eA .i16 64) r12.Frames] cf20 (wN rfl) rfl rfl rfl rfl rfl rfl (fun w H => spec_P6Pick.calls v1 p1_more n_18 r77 w (Own.refl w) (Sl.laterA hS1 H) hr78) fun g79 => ?_
              refine J.op rfl rfl rfl (V.as rfl rfl) ?_
              refine J.nil ?_
              refine J.tN ?_
              refine J.seq ?_
              refine J.region ?_
              refine J.op rfl rfl rfl (V.mv rfl rfl) ?_
              refine J.op rfl rfl rfl (V.mv rfl rfl) ?_
              obtain ⟨r80, hr81, h0⟩ := B.bind h0
              refine J.clA (l := [.tmp 174, .tmp 175]) [] [.blk b16 [.int .i8 r12.Across, g14] 29, .rowE g14 60 (eA .i16 64) r12.Frames] cf20 (wN rfl) rfl rfl rfl rfl rfl rfl (fun w H => spec_P6Pick.calls v0 p0_code n_18 r80 w (Own.refl w) (Sl.laterA hS0 H) hr81) fun g82 => ?_
              refine J.op rfl rfl rfl (V.as rfl rfl) ?_
              refine J.nil ?_
              refine J.tN ?_
              refine J.seq ?_
              refine J.region ?_
              refine J.op rfl rfl rfl (V.ldW 0 rfl rfl rfl ts29 ta29 rfl) ?_
              refine J.op rfl rfl rfl (V.mv rfl rfl) ?_
              refine J.op rfl rfl rfl (V.mv rfl rfl) ?_
              obtain ⟨r83, hr84, h0⟩ := B.bind h0
              refine J.clA (l := [.tmp 178, .tmp 179, .tmp 180]) [] [.blk b16 [.int .i8 r12.Across, g14] 29, .rowE g14 60 (eA .i16 64) r12.Frames] cf21 (wN rfl) rfl rfl rfl rfl rfl rfl (fun w H => impl_SwapFrames.calls (⟨r12.Across, r12.Frames⟩ : impl_Sheet) g14 r77 r80 r83 w (Own.refl w) (Own.slA 1 H rfl) hr84) fun g85 => ?_
              refine J.op rfl rfl rfl (V.mv rfl rfl) ?_
              refine J.op rfl rfl rfl (V.ex rfl rfl rfl) ?_
              refine J.op rfl rfl rfl (V.ex rfl rfl rfl) ?_
              refine J.alloc rfl rfl rfl rfl tz29 rfl fun b87 => ?_
              refine J.stW (cs' := [.int .i8 r83.1.Across, g85]) 0 rfl rfl rfl rfl rfl rfl ts29 rfl (fun _ H => (one_cons rfl (one_cons (Own.sl0 1 H rfl).one one_nil))) rfl rfl ?_
              refine J.op rfl rfl rfl (V.as rfl rfl) ?_
              refine J.nil ?_
              refine J.tN ?_
              refine J.seq ?_
              refine J.region ?_
              refine J.op rfl rfl rfl (V.ldW 2 rfl rfl rfl ts29 ta29 rfl) ?_
              refine J.op rfl rfl rfl (V.mv rfl rfl) ?_
              refine J.op rfl rfl rfl (V.mv rfl rfl) ?_
              obtain ⟨r89, hr90, h0⟩ := B.bind h0
              refine J.clA (l := [.tmp 185, .tmp 186, .tmp 187]) [] [.blk b87 [.int .i8 r83.1.Across, g85] 29, .rowE g85 60 (eA .i16 64) r83.1.Frames, .blk b16 [.int .i8 r12.Across, g14] 29, .rowE g14 60 (eA .i16 64) r12.Frames] cf22 (wN rfl) rfl rfl rfl rfl rfl rfl (fun w H => spec_SwapFrames.calls (⟨r12.Across, r12.Frames⟩ : impl_Sheet) g14 r77 r80 r89 w (Own.refl w) (Own.slA 3 H rfl) hr90) fun g91 => ?_
              refine J.op rfl rfl rfl (V.mv rfl rfl) ?_
              refine J.op rfl rfl rfl (V.ex rfl rfl rfl) ?_
              refine J.op rfl rfl rfl (V.ex rfl rfl rfl) ?_
              refine J.alloc rfl rfl rfl rfl tz29 rfl fun b93 => ?_
              refine J.stW (cs' := [.int .i8 r89.1.Across, g91]) 0 rfl rfl rfl rfl rfl rfl ts29 rfl (fun _ H => (one_cons rfl (one_cons (Own.sl0 1 H rfl).one one_nil))) rfl rfl ?_
              refine J.op rfl rfl rfl (V.as rfl rfl) ?_
              refine J.nil ?_
              refine J.tN ?_
              refine J.seq ?_
              refine J.region ?_
              refine J.op rfl rfl rfl (V.ldW 0 rfl rfl rfl ts29 ta29 rfl) ?_
              refine J.op rfl rfl rfl (V.mv rfl rfl) ?_
              refine J.op rfl rfl rfl (V.mv rfl rfl) ?_
              obtain ⟨r95, hr96, h0⟩ := B.bind h0
              refine J.clA (l := [.tmp 192, .tmp 193, .tmp 194]) [] [.blk b93 [.int .i8 r89.1.Across, g91] 29, .rowE g91 60 (eA .i16 64) r89.1.Frames, .blk b87 [.int .i8 r83.1.Across, g85] 29, .rowE g85 60 (eA .i16 64) r83.1.Frames, .blk b16 [.int .i8 r12.Across, g14] 29, .rowE g14 60 (eA .i16 64) r12.Frames] cf21 (wN rfl) rfl rfl rfl rfl rfl rfl (fun w H => impl_SwapFrames.calls (⟨r89.1.Across, r89.1.Frames⟩ : impl_Sheet) g91 r77 r80 r95 w (Own.refl w) (Own.slA 1 H rfl) hr96) fun g97 => ?_
              refine J.op rfl rfl rfl (V.mv rfl rfl) ?_
              refine J.op rfl rfl rfl (V.ex rfl rfl rfl) ?_
              refine J.op rfl rfl rfl (V.ex rfl rfl rfl) ?_
              refine J.alloc rfl rfl rfl rfl tz29 rfl fun b99 => ?_
              refine J.stW (cs' := [.int .i8 r95.1.Across, g97]) 0 rfl rfl rfl rfl rfl rfl ts29 rfl (fun _ H => (one_cons rfl (one_cons (Own.sl0 1 H rfl).one one_nil))) rfl rfl ?_
              refine J.op rfl rfl rfl (V.as rfl rfl) ?_
              refine J.nil ?_
              refine J.tN ?_
              refine J.seq ?_
              refine J.region ?_
              refine J.op rfl rfl rfl (V.ldW 6 rfl rfl rfl ts29 ta29 rfl) ?_
              refine J.op rfl rfl rfl (V.mv rfl rfl) ?_
              obtain ⟨r101, hr102, h0⟩ := B.bind h0
              refine J.clA (l := [.tmp 199, .tmp 200]) [] [.blk b99 [.int .i8 r95.1.Across, g97] 29, .rowE g97 60 (eA .i16 64) r95.1.Frames, .blk b93 [.int .i8 r89.1.Across, g91] 29, .rowE g91 60 (eA .i16 64) r89.1.Frames, .blk b87 [.int .i8 r83.1.Across, g85] 29, .rowE g85 60 (eA .i16 64) r83.1.Frames, .blk b16 [.int .i8 r12.Across, g14] 29, .rowE g14 60 (eA .i16 64) r12.Frames] cf8 (wN rfl) rfl rfl rfl rfl rfl rfl (fun w H => impl_DropFrame.calls (⟨r12.Across, r12.Frames⟩ : impl_Sheet) g14 r77 r101 w (Own.refl w) (Own.slA 7 H rfl) hr102) fun g103 => ?_
              refine J.op rfl rfl rfl (V.mv rfl rfl) ?_
              refine J.op rfl rfl rfl (V.ex rfl rfl rfl) ?_
              refine J.op rfl rfl rfl (V.ex rfl rfl rfl) ?_
              refine J.alloc rfl rfl rfl rfl tz29 rfl fun b105 => ?_
              refine J.stW (cs' := [.int .i8 r101.1.Across, g103]) 0 rfl rfl rfl rfl rfl rfl ts29 rfl (fun _ H => (one_cons rfl (one_cons (Own.sl0 1 H rfl).one one_nil))) rfl rfl ?_
              refine J.op rfl rfl rfl (V.as rfl rfl) ?_
              refine J.nil ?_
              refine J.tN ?_
              refine J.seq ?_
              refine J.region ?_
              refine J.op rfl rfl rfl (V.ldW 8 rfl rfl rfl ts29 ta29 rfl) ?_
              refine J.op rfl rfl rfl (V.mv rfl rfl) ?_
              obtain ⟨r107, hr108, h0⟩ := B.bind h0
              refine J.clA (l := [.tmp 205, .tmp 206]) [] [.blk b105 [.int .i8 r101.1.Across, g103] 29, .rowE g103 60 (eA .i16 64) r101.1.Frames, .blk b99 [.int .i8 r95.1.Across, g97] 29, .rowE g97 60 (eA .i16 64) r95.1.Frames, .blk b93 [.int .i8 r89.1.Across, g91] 29, .rowE g91 60 (eA .i16 64) r89.1.Frames, .blk b87 [.int .i8 r83.1.Across, g85] 29, .rowE g85 60 (eA .i16 64) r83.1.Frames, .blk b16 [.int .i8 r12.Across, g14] 29, .rowE g14 60 (eA .i16 64) r12.Frames] cf6 (wN rfl) rfl rfl rfl rfl rfl rfl (fun w H => spec_DropFrame.calls (⟨r12.Across, r12.Frames⟩ : impl_Sheet) g14 r77 r107 w (Own.refl w) (Own.slA 9 H rfl) hr108) fun g109 => ?_
              refine J.op rfl rfl rfl (V.mv rfl rfl) ?_
              refine J.op rfl rfl rfl (V.ex rfl rfl rfl) ?_
              refine J.op rfl rfl rfl (V.ex rfl rfl rfl) ?_
              refine J.alloc rfl rfl rfl rfl tz29 rfl fun b111 => ?_
              refine J.stW (cs' := [.int .i8 r107.1.Across, g109]) 0 rfl rfl rfl rfl rfl rfl ts29 rfl (fun _ H => (one_cons rfl (one_cons (Own.sl0 1 H rfl).one one_nil))) rfl rfl ?_
              refine J.op rfl rfl rfl (V.as rfl rfl) ?_
              refine J.nil ?_
              refine J.tN ?_
              refine J.seq ?_
              refine J.region ?_
              refine J.bs (l := []) (cs := []) (E := 2) rfl rfl rfl rfl rfl (fun w => by kernel_rfl) fun b113 => ?_
              refine J.op rfl rfl rfl (V.as rfl rfl) ?_
              refine J.nil ?_
              refine J.tN ?_
              refine J.seq ?_
              refine J.seq ?_
              refine J.region ?_
              refine J.op rfl rfl rfl (V.as rfl rfl) ?_
              refine J.nil ?_
              refine J.tN ?_
              refine J.blkRowE (eI .i64) ([] : List Int) 0 rfl rfl rfl ?_
              obtain ⟨y126, hy128, h0⟩ := B.bind h0
              refine J.cutQ (γ := Value) (fun _ => True) (fun gy127 => [(5, bp b16 0), (23, bp b87 0), (24, .int .i64 r83.2), (25, bp b93 0), (26, .int .i64 r89.2), (27, bp b99 0), (28, .int .i64 r95.2), (29, bp b105 0), (30, .int .i64 r101.2), (31, bp b111 0), (32, .int .i64 r107.2), (33, gy127)]) (fun gy127 => [.rowE gy127 2 (eI .i64) y126, .blk b111 [.int .i8 r107.1.Across, g109] 29, .rowE g109 60 (eA .i16 64) r107.1.Frames, .blk b105 [.int .i8 r101.1.Across, g103] 29, .rowE g103 60 (eA .i16 64) r101.1.Frames, .blk b99 [.int .i8 r95.1.Across, g97] 29, .rowE g97 60 (eA .i16 64) r95.1.Frames, .blk b93 [.int .i8 r89.1.Across, g91] 29, .rowE g91 60 (eA .i16 64) r89.1.Frames, .blk b87 [.int .i8 r83.1.Across, g85] 29, .rowE g85 60 (eA .i16 64) r83.1.Frames, .blk b16 [.int .i8 r12.Across, g14] 29, .rowE g14 60 (eA .i16 64) r12.Frames]) ?_ ?_
              · refine J.block ?_
                refine J.loop (γ := Value) hy128 (fun s115 g116 => [(5, bp b16 0), (6, .int .i64 n_18), (21, .int .i64 r77), (23, bp b87 0), (24, .int .i64 r83.2), (25, bp b93 0), (26, .int .i64 r89.2), (27, bp b99 0), (28, .int .i64 r95.2), (29, bp b105 0), (30, .int .i64 r101.2), (31, bp b111 0), (32, .int .i64 r107.2), (33, g116), (34, .int .i64 s115.1)]) (fun s115 g116 => [.rowE g116 2 (eI .i64) s115.2, .blk b111 [.int .i8 r107.1.Across, g109] 29, .rowE g109 60 (eA .i16 64) r107.1.Frames, .blk b105 [.int .i8 r101.1.Across, g103] 29, .rowE g103 60 (eA .i16 64) r101.1.Frames, .blk b99 [.int .i8 r95.1.Across, g97] 29, .rowE g97 60 (eA .i16 64) r95.1.Frames, .blk b93 [.int .i8 r89.1.Across, g91] 29, .rowE g91 60 (eA .i16 64) r89.1.Frames, .blk b87 [.int .i8 r83.1.Across, g85] 29, .rowE g85 60 (eA .i16 64) r83.1.Frames, .blk b16 [.int .i8 r12.Across, g14] 29, .rowE g14 60 (eA .i16 64) r12.Frames]) (.slice (some ⟨b113, 0, none⟩) 0 0) ?_ ?_
                · exact J.keep _ rfl (J.pickE [0, 1, 2, 3, 4, 5, 6, 7, 8, 9, 10, 11, 12] rfl rfl J.here)
                · intro rec117 s115 g116 h1
                  unfold laws_FnFrames.b2 at h1
                  refine J.seq ?_
                  refine J.seq ?_
                  refine J.region ?_
                  refine J.op rfl rfl rfl (V.mv rfl rfl) ?_
                  refine J.op rfl rfl rfl (V.mv rfl rfl) ?_
                  refine J.op rfl rfl rfl (V.cmp rfl rfl rfl rfl) ?_
                  refine J.nil ?_
                  refine J.tN ?_
                  refine J.cond rfl (fun hB118 => ?_) (fun hB118 => ?_)
                  · replace h1 := B.t hB118 h1
                    refine J.skip ?_
                    refine J.tN ?_
                    refine J.seq ?_
                    refine J.block ?_
                    refine J.seq ?_
                    refine J.region ?_
                    refine J.op rfl rfl rfl (V.mv rfl rfl) ?_
                    refine J.op rfl rfl rfl (V.mv rfl rfl) ?_
                    refine J.op rfl rfl rfl (V.cmp rfl rfl rfl rfl) ?_
                    refine J.nil ?_
                    refine J.tN ?_
                    refine J.cond rfl (fun hB119 => ?_) (fun hB119 => ?_)
                    · replace h1 := B.t hB119 h1
                      refine J.region ?_
                      refine J.op rfl rfl rfl (V.mv rfl rfl) ?_
                      refine J.op rfl rfl rfl (V.mv rfl rfl) ?_
                      refine J.bs (l := [(0, .tmp 220)]) (cs := [.int .i64 s115.1]) (E := 2) rfl rfl rfl rfl rfl (fun w => by kernel_rfl) fun b120 => ?_
                      obtain ⟨hC123, h1⟩ := B.chk h1
                      obtain ⟨_, ti1, ti2, ti3, ti4⟩ := ti2
                      refine J.ap1 (e := (eI .i64)) (xs := s115.2) 1 0 s115.1 hC123 ti1 tl48 ti2 ti3 ti4 rfl rfl rfl rfl rfl rfl rfl rfl rfl rfl fun v122 => ?_
                      refine J.op rfl rfl rfl (V.as rfl rfl) ?_
                      refine J.nil ?_
                      refine J.bN ?_
                      refine J.tN ?_
                      refine J.region ?_
                      refine J.op rfl rfl rfl (V.mv rfl rfl) ?_
                      refine J.op rfl rfl rfl (V.ar rfl rfl rfl rfl) ?_
                      refine J.op rfl rfl rfl (V.as rfl rfl) ?_
                      obtain ⟨j_124, ej_124, h1⟩ := B.lt h1
                      refine J.val (congrArg (Value.int .i64) ej_124) ?_
                      refine J.nil ?_
                      refine J.tN (J.next (j_124, s115.2 ++ [s115.1]) v122 (B.n h1) ?_)
                      exact J.keep _ rfl (J.pickE [1, 2, 3, 4, 5, 6, 7, 8, 9, 10, 11, 12, 13] rfl rfl J.here)
                    · replace h1 := B.f hB119 h1
                      refine J.skip ?_
                      refine J.bN ?_
                      refine J.tN ?_
                      refine J.region ?_
                      refine J.op rfl rfl rfl (V.mv rfl rfl) ?_
                      refine J.op rfl rfl rfl (V.ar rfl rfl rfl rfl) ?_
                      refine J.op rfl rfl rfl (V.as rfl rfl) ?_
                      obtain ⟨j_125, ej_125, h1⟩ := B.lt h1
                      refine J.val (congrArg (Value.int .i64) ej_125) ?_
                      refine J.nil ?_
                      refine J.tN (J.next (j_125, s115.2) g116 (B.n h1) ?_)
                      exact J.keep _ rfl (J.pickE [0, 1, 2, 3, 4, 5, 6, 7, 8, 9, 10, 11, 12] rfl rfl J.here)
                  · replace h1 := B.f hB118 h1
                    refine J.exit ?_
                    refine J.tE ?_
                    refine J.tE ?_
                    refine J.bE ?_
                    obtain rfl := B.d h1
                    refine J.tN (J.to g116 trivial ?_)
                    exact J.keep _ rfl (J.pickE [0, 1, 2, 3, 4, 5, 6, 7, 8, 9, 10, 11, 12] rfl rfl J.here)
              · intro gy127 _
                refine J.tN ?_
                refine J.seq ?_
                refine J.region ?_
                refine J.op rfl rfl rfl (V.ldW 11 rfl rfl rfl ts29 ta29 rfl) ?_
                refine J.op rfl rfl rfl (V.mv rfl rfl) ?_
                obtain ⟨r129, hr130, h0⟩ := B.bind h0
                refine J.clA (l := [.tmp 224, .tmp 225]) [] [.rowE gy127 2 (eI .i64) y126, .blk b111 [.int .i8 r107.1.Across, g109] 29, .rowE g109 60 (eA .i16 64) r107.1.Frames, .blk b105 [.int .i8 r101.1.Across, g103] 29, .rowE g103 60 (eA .i16 64) r101.1.Frames, .blk b99 [.int .i8 r95.1.Across, g97] 29, .rowE g97 60 (eA .i16 64) r95.1.Frames, .blk b93 [.int .i8 r89.1.Across, g91] 29, .rowE g91 60 (eA .i16 64) r89.1.Frames, .blk b87 [.int .i8 r83.1.Across, g85] 29, .rowE g85 60 (eA .i16 64) r83.1.Frames, .blk b16 [.int .i8 r12.Across, g14] 29, .rowE g14 60 (eA .i16 64) r12.Frames] cf23 (wN rfl) rfl rfl rfl rfl rfl rfl (fun w H => impl_PickFrames.calls (⟨r12.Across, r12.Frames⟩ : impl_Sheet) g14 gy127 y126 r129 w (Own.refl w) (Own.slA 12 H rfl) (Own.slA 0 H rfl) hr130) fun g131 => ?_
                refine J.op rfl rfl rfl (V.mv rfl rfl) ?_
                refine J.op rfl rfl rfl (V.ex rfl rfl rfl) ?_
                refine J.op rfl rfl rfl (V.ex rfl rfl rfl) ?_
                refine J.alloc rfl rfl rfl rfl tz29 rfl fun b133 => ?_
                refine J.stW (cs' := [.int .i8 r129.1.Across, g131]) 0 rfl rfl rfl rfl rfl rfl ts29 rfl (fun _ H => (one_cons rfl (one_cons (Own.sl0 1 H rfl).one one_nil))) rfl rfl ?_
                refine J.op rfl rfl rfl (V.as rfl rfl) ?_
                refine J.nil ?_
                refine J.tN ?_
                refine J.seq ?_
                refine J.region ?_
                refine J.op rfl rfl rfl (V.mv rfl rfl) ?_
                refine J.op rfl rfl rfl (V.mv rfl rfl) ?_
                refine J.op rfl rfl rfl (V.cmp rfl rfl rfl rfl) ?_
                refine J.op rfl rfl rfl (V.mv rfl rfl) ?_
                refine J.split 232 rfl (fun hB135 => ?_) (fun hB135 => ?_)
                · replace h0 := B.t hB135 h0
                  refine J.opOn rfl rfl rfl rfl rfl (V.mv rfl rfl) ?_
                  refine J.opOn rfl rfl rfl rfl rfl (V.cmp rfl rfl rfl rfl) ?_
                  refine J.op rfl rfl rfl (V.pkT rfl rfl rfl) ?_
                  refine J.op rfl rfl rfl (V.mv rfl rfl) ?_
                  refine J.split 236 rfl (fun hB136 => ?_) (fun hB136 => ?_)
                  · replace h0 := B.t hB136 h0
                    refine J.opOn rfl rfl rfl rfl rfl (V.ldW 11 rfl rfl rfl ts29 ta29 rfl) ?_
                    refine J.opOn rfl rfl rfl rfl rfl (V.ldW 9 rfl rfl rfl ts29 ta29 rfl) ?_
                    obtain ⟨r137, hr138, h0⟩ := B.bind h0
                    refine J.clA (l := [.tmp 237, .tmp 238]) [] [.blk b133 [.int .i8 r129.1.Across, g131] 29, .rowE g131 60 (eA .i16 64) r129.1.Frames, .rowE gy127 2 (eI .i64) y126, .blk b111 [.int .i8 r107.1.Across, g109] 29, .rowE g109 60 (eA .i16 64) r107.1.Frames, .blk b105 [.int .i8 r101.1.Across, g103] 29, .rowE g103 60 (eA .i16 64) r101.1.Frames, .blk b99 [.int .i8 r95.1.Across, g97] 29, .rowE g97 60 (eA .i16 64) r95.1.Frames, .blk b93 [.int .i8 r89.1.Across, g91] 29, .rowE g91 60 (eA .i16 64) r89.1.Frames, .blk b87 [.int .i8 r83.1.Across, g85] 29, .rowE g85 60 (eA .i16 64) r83.1.Frames, .blk b16 [.int .i8 r12.Across, g14] 29, .rowE g14 60 (eA .i16 64) r12.Frames] cf24 (wY rfl rfl rfl) rfl rfl rfl rfl rfl rfl (fun w H => spec_SameSheet.calls (⟨r83.1.Across, r83.1.Frames⟩ : impl_Sheet) g85 (⟨r89.1.Across, r89.1.Frames⟩ : impl_Sheet) g91 r137 w (Own.refl w) (Own.slA 12 H rfl) (Own.slA 10 H rfl) hr138) fun g139 => ?_
                    refine J.op rfl rfl rfl (V.pkT rfl rfl rfl) ?_
                    refine J.op rfl rfl rfl (V.mv rfl rfl) ?_
                    refine J.split 241 rfl (fun hB140 => ?_) (fun hB140 => ?_)
                    · replace h0 := B.t hB140 h0
                      refine J.opOn rfl rfl rfl rfl rfl (V.mv rfl rfl) ?_
                      refine J.opOn rfl rfl rfl rfl rfl (V.cmp rfl rfl rfl rfl) ?_
                      refine J.op rfl rfl rfl (V.pkT rfl rfl rfl) ?_
                      refine J.op rfl rfl rfl (V.mv rfl rfl) ?_
                      refine J.split 245 rfl (fun hB141 => ?_) (fun hB141 => ?_)
                      · replace h0 := B.t hB141 h0
                        refine J.opOn rfl rfl rfl rfl rfl (V.ldW 7 rfl rfl rfl ts29 ta29 rfl) ?_
                        refine J.opOn rfl rfl rfl rfl rfl (V.ldW 13 rfl rfl rfl ts29 ta29 rfl) ?_
                        obtain ⟨r142, hr143, h0⟩ := B.bind h0
                        refine J.clA (l := [.tmp 246, .tmp 247]) [] [.blk b133 [.int .i8 r129.1.Across, g131] 29, .rowE g131 60 (eA .i16 64) r129.1.Frames, .rowE gy127 2 (eI .i64) y126, .blk b111 [.int .i8 r107.1.Across, g109] 29, .rowE g109 60 (eA .i16 64) r107.1.Frames, .blk b105 [.int .i8 r101.1.Across, g103] 29, .rowE g103 60 (eA .i16 64) r101.1.Frames, .blk b99 [.int .i8 r95.1.Across, g97] 29, .rowE g97 60 (eA .i16 64) r95.1.Frames, .blk b93 [.int .i8 r89.1.Across, g91] 29, .rowE g91 60 (eA .i16 64) r89.1.Frames, .blk b87 [.int .i8 r83.1.Across, g85] 29, .rowE g85 60 (eA .i16 64) r83.1.Frames, .blk b16 [.int .i8 r12.Across, g14] 29, .rowE g14 60 (eA .i16 64) r12.Frames] cf24 (wY rfl rfl rfl) rfl rfl rfl rfl rfl rfl (fun w H => spec_SameSheet.calls (⟨r95.1.Across, r95.1.Frames⟩ : impl_Sheet) g97 (⟨r12.Across, r12.Frames⟩ : impl_Sheet) g14 r142 w (Own.refl w) (Own.slA 8 H rfl) (Own.slA 14 H rfl) hr143) fun g144 => ?_
                        refine J.op rfl rfl rfl (V.pkT rfl rfl rfl) ?_
                        refine J.op rfl rfl rfl (V.mv rfl rfl) ?_
                        refine J.split 250 rfl (fun hB145 => ?_) (fun hB145 => ?_)
                        · replace h0 := B.t hB145 h0
                          refine J.opOn rfl rfl rfl rfl rfl (V.ldW 7 rfl rfl rfl ts29 ta29 rfl) ?_
                          refine J.opOn rfl rfl rfl rfl rfl (V.ldW 13 rfl rfl rfl ts29 ta29 rfl) ?_
                          obtain ⟨r146, hr147, h0⟩ := B.bind h0
                          refine J.clA (l := [.tmp 251, .tmp 252]) [] [.blk b133 [.int .i8 r129.1.Across, g131] 29, .rowE g131 60 (eA .i16 64) r129.1.Frames, .rowE gy127 2 (eI .i64) y126, .blk b111 [.int .i8 r107.1.Across, g109] 29, .rowE g109 60 (eA .i16 64) r107.1.Frames, .blk b105 [.int .i8 r101.1.Across, g103] 29, .rowE g103 60 (eA .i16 64) r101.1.Frames, .blk b99 [.int .i8 r95.1.Across, g97] 29, .rowE g97 60 (eA .i16 64) r95.1.Frames, .blk b93 [.int .i8 r89.1.Across, g91] 29, .rowE g91 60 (eA .i16 64) r89.1.Frames, .blk b87 [.int .i8 r83.1.Across, g85] 29, .rowE g85 60 (eA .i16 64) r83.1.Frames, .blk b16 [.int .i8 r12.Across, g14] 29, .rowE g14 60 (eA .i16 64) r12.Frames] cf25 (wY rfl rfl rfl) rfl rfl rfl rfl rfl rfl (fun w H => impl_SameSheet.calls (⟨r95.1.Across, r95.1.Frames⟩ : impl_Sheet) g97 (⟨r12.Across, r12.Frames⟩ : impl_Sheet) g14 r146 w (Own.refl w) (Own.slA 8 H rfl) (Own.slA 14 H rfl) hr147) fun g148 => ?_
                          refine J.op rfl rfl rfl (V.pkT rfl rfl rfl) ?_
                          refine J.op rfl rfl rfl (V.mv rfl rfl) ?_
                          refine J.split 255 rfl (fun hB149 => ?_) (fun hB149 => ?_)
                          · replace h0 := B.t hB149 h0
                            refine J.opOn rfl rfl rfl rfl rfl (V.mv rfl rfl) ?_
                            refine J.opOn rfl rfl rfl rfl rfl (V.mv rfl rfl) ?_
                            refine J.opOn rfl rfl rfl rfl rfl (V.cmp rfl rfl rfl rfl) ?_
                            refine J.op rfl rfl rfl (V.pkT rfl rfl rfl) ?_
                            refine J.op rfl rfl rfl (V.mv rfl rfl) ?_
                            refine J.split 260 rfl (fun hB150 => ?_) (fun hB150 => ?_)
                            · replace h0 := B.t hB150 h0
                              refine J.opOn rfl rfl rfl rfl rfl (V.mv rfl rfl) ?_
                              refine J.opOn rfl rfl rfl rfl rfl (V.cmp rfl rfl rfl rfl) ?_
                              refine J.op rfl rfl rfl (V.pkT rfl rfl rfl) ?_
                              refine J.op rfl rfl rfl (V.mv rfl rfl) ?_
                              refine J.split 264 rfl (fun hB151 => ?_) (fun hB151 => ?_)
                              · replace h0 := B.t hB151 h0
                                refine J.opOn rfl rfl rfl rfl rfl (V.ldW 5 rfl rfl rfl ts29 ta29 rfl) ?_
                                refine J.opOn rfl rfl rfl rfl rfl (V.ldW 3 rfl rfl rfl ts29 ta29 rfl) ?_
                                obtain ⟨r152, hr153, h0⟩ := B.bind h0
                                refine J.clA (l := [.tmp 265, .tmp 266]) [] [.blk b133 [.int .i8 r129.1.Across, g131] 29, .rowE g131 60 (eA .i16 64) r129.1.Frames, .rowE gy127 2 (eI .i64) y126, .blk b111 [.int .i8 r107.1.Across, g109] 29, .rowE g109 60 (eA .i16 64) r107.1.Frames, .blk b105 [.int .i8 r101.1.Across, g103] 29, .rowE g103 60 (eA .i16 64) r101.1.Frames, .blk b99 [.int .i8 r95.1.Across, g97] 29, .rowE g97 60 (eA .i16 64) r95.1.Frames, .blk b93 [.int .i8 r89.1.Across, g91] 29, .rowE g91 60 (eA .i16 64) r89.1.Frames, .blk b87 [.int .i8 r83.1.Across, g85] 29, .rowE g85 60 (eA .i16 64) r83.1.Frames, .blk b16 [.int .i8 r12.Across, g14] 29, .rowE g14 60 (eA .i16 64) r12.Frames] cf24 (wY rfl rfl rfl) rfl rfl rfl rfl rfl rfl (fun w H => spec_SameSheet.calls (⟨r101.1.Across, r101.1.Frames⟩ : impl_Sheet) g103 (⟨r107.1.Across, r107.1.Frames⟩ : impl_Sheet) g109 r152 w (Own.refl w) (Own.slA 6 H rfl) (Own.slA 4 H rfl) hr153) fun g154 => ?_
                                refine J.op rfl rfl rfl (V.pkT rfl rfl rfl) ?_
                                refine J.op rfl rfl rfl (V.mv rfl rfl) ?_
                                refine J.split 269 rfl (fun hB155 => ?_) (fun hB155 => ?_)
                                · replace h0 := B.t hB155 h0
                                  refine J.opOn rfl rfl rfl rfl rfl (V.mv rfl rfl) ?_
                                  refine J.opOn rfl rfl rfl rfl rfl (V.cmp rfl rfl rfl rfl) ?_
                                  refine J.op rfl rfl rfl (V.pkT rfl rfl rfl) ?_
                                  refine J.op rfl rfl rfl (V.mv rfl rfl) ?_
                                  refine J.split 273 rfl (fun hB156 => ?_) (fun hB156 => ?_)
                                  · replace h0 := B.t hB156 h0
                                    refine J.opOn rfl rfl rfl rfl rfl (V.ldW 0 rfl rfl rfl ts29 ta29 rfl) ?_
                                    refine J.opOn rfl rfl rfl rfl rfl (V.ldW 3 rfl rfl rfl ts29 ta29 rfl) ?_
                                    obtain ⟨r157, hr158, h0⟩ := B.bind h0
                                    refine J.clA (l := [.tmp 274, .tmp 275]) [] [.blk b133 [.int .i8 r129.1.Across, g131] 29, .rowE g131 60 (eA .i16 64) r129.1.Frames, .rowE gy127 2 (eI .i64) y126, .blk b111 [.int .i8 r107.1.Across, g109] 29, .rowE g109 60 (eA .i16 64) r107.1.Frames, .blk b105 [.int .i8 r101.1.Across, g103] 29, .rowE g103 60 (eA .i16 64) r101.1.Frames, .blk b99 [.int .i8 r95.1.Across, g97] 29, .rowE g97 60 (eA .i16 64) r95.1.Frames, .blk b93 [.int .i8 r89.1.Across, g91] 29, .rowE g91 60 (eA .i16 64) r89.1.Frames, .blk b87 [.int .i8 r83.1.Across, g85] 29, .rowE g85 60 (eA .i16 64) r83.1.Frames, .blk b16 [.int .i8 r12.Across, g14] 29, .rowE g14 60 (eA .i16 64) r12.Frames] cf24 (wY rfl rfl rfl) rfl rfl rfl rfl rfl rfl (fun w H => spec_SameSheet.calls (⟨r129.1.Across, r129.1.Frames⟩ : impl_Sheet) g131 (⟨r107.1.Across, r107.1.Frames⟩ : impl_Sheet) g109 r157 w (Own.refl w) (Own.slA 1 H rfl) (Own.slA 4 H rfl) hr158) fun g159 => ?_
                                    refine J.op rfl rfl rfl (V.pkT rfl rfl rfl) ?_
                                    refine J.op rfl rfl rfl (V.as rfl rfl) ?_
                                    refine J.nil ?_
                                    refine J.tN ?_
                                    refine J.ret ?_
                                    obtain rfl := B.e h0
                                    exact J.ret1 rfl rfl fun w H => ⟨(), rfl, H.pick [] (by decide)⟩
                                  · replace h0 := B.f hB156 h0
                                    refine J.opOff rfl rfl rfl rfl rfl rfl ?_
                                    refine J.opOff rfl rfl rfl rfl rfl rfl ?_
                                    refine J.opOff rfl rfl rfl rfl rfl rfl ?_
                                    refine J.op rfl rfl rfl (V.pkF rfl rfl rfl) ?_
                                    refine J.op rfl rfl rfl (V.as rfl rfl) ?_
                                    refine J.nil ?_
                                    refine J.tN ?_
                                    refine J.ret ?_
                                    obtain rfl := B.e h0
                                    exact J.ret1 rfl rfl fun w H => ⟨(), rfl, H.pick [] (by decide)⟩
                                · replace h0 := B.f hB155 h0
                                  refine J.opOff rfl rfl rfl rfl rfl rfl ?_
                                  refine J.opOff rfl rfl rfl rfl rfl rfl ?_
                                  refine J.op rfl rfl rfl (V.pkF rfl rfl rfl) ?_
                                  refine J.op rfl rfl rfl (V.mv rfl rfl) ?_
                                  refine J.opOff rfl rfl rfl rfl rfl rfl ?_
                                  refine J.opOff rfl rfl rfl rfl rfl rfl ?_
                                  refine J.opOff rfl rfl rfl rfl rfl rfl ?_
                                  refine J.op rfl rfl rfl (V.pkF rfl rfl rfl) ?_
                                  refine J.op rfl rfl rfl (V.as rfl rfl) ?_
                                  refine J.nil ?_
                                  refine J.tN ?_
                                  refine J.ret ?_
                                  obtain rfl := B.e h0
                                  exact J.ret1 rfl rfl fun w H => ⟨(), rfl, H.pick [] (by decide)⟩
                              · replace h0 := B.f hB151 h0
                                refine J.opOff rfl rfl rfl rfl rfl rfl ?_
                                refine J.opOff rfl rfl rfl rfl rfl rfl ?_
                                refine J.opOff rfl rfl rfl rfl rfl rfl ?_
                                refine J.op rfl rfl rfl (V.pkF rfl rfl rfl) ?_
                                refine J.op rfl rfl rfl (V.mv rfl rfl) ?_
                                refine J.opOff rfl rfl rfl rfl rfl rfl ?_
                                refine J.opOff rfl rfl rfl rfl rfl rfl ?_
                                refine J.op rfl rfl rfl (V.pkF rfl rfl rfl) ?_
                                refine J.op rfl rfl rfl (V.mv rfl rfl) ?_
                                refine J.opOff rfl rfl rfl rfl rfl rfl ?_
                                refine J.opOff rfl rfl rfl rfl rfl rfl ?_
                                refine J.opOff rfl rfl rfl rfl rfl rfl ?_
                                refine J.op rfl rfl rfl (V.pkF rfl rfl rfl) ?_
                                refine J.op rfl rfl rfl (V.as rfl rfl) ?_
                                refine J.nil ?_
                                refine J.tN ?_
                                refine J.ret ?_
                                obtain rfl := B.e h0
                                exact J.ret1 rfl rfl fun w H => ⟨(), rfl, H.pick [] (by decide)⟩
                            · replace h0 := B.f hB150 h0
                              refine J.opOff rfl rfl rfl rfl rfl rfl ?_
                              refine J.opOff rfl rfl rfl rfl rfl rfl ?_
                              refine J.op rfl rfl rfl (V.pkF rfl rfl rfl) ?_
                              refine J.op rfl rfl rfl (V.mv rfl rfl) ?_
                              refine J.opOff rfl rfl rfl rfl rfl rfl ?_
                              refine J.opOff rfl rfl rfl rfl rfl rfl ?_
                              refine J.opOff rfl rfl rfl rfl rfl rfl ?_
                              refine J.op rfl rfl rfl (V.pkF rfl rfl rfl) ?_
                              refine J.op rfl rfl rfl (V.mv rfl rfl) ?_
                              refine J.opOff rfl rfl rfl rfl rfl rfl ?_
                              refine J.opOff rfl rfl rfl rfl rfl rfl ?_
                              refine J.op rfl rfl rfl (V.pkF rfl rfl rfl) ?_
                              refine J.op rfl rfl rfl (V.mv rfl rfl) ?_
                              refine J.opOff rfl rfl rfl rfl rfl rfl ?_
                              refine J.opOff rfl rfl rfl rfl rfl rfl ?_
                              refine J.opOff rfl rfl rfl rfl rfl rfl ?_
                              refine J.op rfl rfl rfl (V.pkF rfl rfl rfl) ?_
                              refine J.op rfl rfl rfl (V.as rfl rfl) ?_
                              refine J.nil ?_
                              refine J.tN ?_
                              refine J.ret ?_
                              obtain rfl := B.e h0
                              exact J.ret1 rfl rfl fun w H => ⟨(), rfl, H.pick [] (by decide)⟩
                          · replace h0 := B.f hB149 h0
                            refine J.opOff rfl rfl rfl rfl rfl rfl ?_
                            refine J.opOff rfl rfl rfl rfl rfl rfl ?_
                            refine J.opOff rfl rfl rfl rfl rfl rfl ?_
                            refine J.op rfl rfl rfl (V.pkF rfl rfl rfl) ?_
                            refine J.op rfl rfl rfl (V.mv rfl rfl) ?_
                            refine J.opOff rfl rfl rfl rfl rfl rfl ?_
                            refine J.opOff rfl rfl rfl rfl rfl rfl ?_
                            refine J.op rfl rfl rfl (V.pkF rfl rfl rfl) ?_
                            refine J.op rfl rfl rfl (V.mv rfl rfl) ?_
                            refine J.opOff rfl rfl rfl rfl rfl rfl ?_
                            refine J.opOff rfl rfl rfl rfl rfl rfl ?_
                            refine J.opOff rfl rfl rfl rfl rfl rfl ?_
                            refine J.op rfl rfl rfl (V.pkF rfl rfl rfl) ?_
                            refine J.op rfl rfl rfl (V.mv rfl rfl) ?_
                            refine J.opOff rfl rfl rfl rfl rfl rfl ?_
                            refine J.opOff rfl rfl rfl rfl rfl rfl ?_
                            refine J.op rfl rfl rfl (V.pkF rfl rfl rfl) ?_
                            refine J.op rfl rfl rfl (V.mv rfl rfl) ?_
                            refine J.opOff rfl rfl rfl rfl rfl rfl ?_
                            refine J.opOff rfl rfl rfl rfl rfl rfl ?_
                            refine J.opOff rfl rfl rfl rfl rfl rfl ?_
                            refine J.op rfl rfl rfl (V.pkF rfl rfl rfl) ?_
                            refine J.op rfl rfl rfl (V.as rfl rfl) ?_
                            refine J.nil ?_
                            refine J.tN ?_
                            refine J.ret ?_
                            obtain rfl := B.e h0
                            exact J.ret1 rfl rfl fun w H => ⟨(), rfl, H.pick [] (by decide)⟩
                        · replace h0 := B.f hB145 h0
                          refine J.opOff rfl rfl rfl rfl rfl rfl ?_
                          refine J.opOff rfl rfl rfl rfl rfl rfl ?_
                          refine J.opOff rfl rfl rfl rfl rfl rfl ?_
                          refine J.op rfl rfl rfl (V.pkF rfl rfl rfl) ?_
                          refine J.op rfl rfl rfl (V.mv rfl rfl) ?_
                          refine J.opOff rfl rfl rfl rfl rfl rfl ?_
                          refine J.opOff rfl rfl rfl rfl rfl rfl ?_
                          refine J.opOff rfl rfl rfl rfl rfl rfl ?_
                          refine J.op rfl rfl rfl (V.pkF rfl rfl rfl) ?_
                          refine J.op rfl rfl rfl (V.mv rfl rfl) ?_
                          refine J.opOff rfl rfl rfl rfl rfl rfl ?_
                          refine J.opOff rfl rfl rfl rfl rfl rfl ?_
                          refine J.op rfl rfl rfl (V.pkF rfl rfl rfl) ?_
                          refine J.op rfl rfl rfl (V.mv rfl rfl) ?_
                          refine J.opOff rfl rfl rfl rfl rfl rfl ?_
                          refine J.opOff rfl rfl rfl rfl rfl rfl ?_
                          refine J.opOff rfl rfl rfl rfl rfl rfl ?_
                          refine J.op rfl rfl rfl (V.pkF rfl rfl rfl) ?_
                          refine J.op rfl rfl rfl (V.mv rfl rfl) ?_
                          refine J.opOff rfl rfl rfl rfl rfl rfl ?_
                          refine J.opOff rfl rfl rfl rfl rfl rfl ?_
                          refine J.op rfl rfl rfl (V.pkF rfl rfl rfl) ?_
                          refine J.op rfl rfl rfl (V.mv rfl rfl) ?_
                          refine J.opOff rfl rfl rfl rfl rfl rfl ?_
                          refine J.opOff rfl rfl rfl rfl rfl rfl ?_
                          refine J.opOff rfl rfl rfl rfl rfl rfl ?_
                          refine J.op rfl rfl rfl (V.pkF rfl rfl rfl) ?_
                          refine J.op rfl rfl rfl (V.as rfl rfl) ?_
                          refine J.nil ?_
                          refine J.tN ?_
                          refine J.ret ?_
                          obtain rfl := B.e h0
                          exact J.ret1 rfl rfl fun w H => ⟨(), rfl, H.pick [] (by decide)⟩
                      · replace h0 := B.f hB141 h0
                        refine J.opOff rfl rfl rfl rfl rfl rfl ?_
                        refine J.opOff rfl rfl rfl rfl rfl rfl ?_
                        refine J.opOff rfl rfl rfl rfl rfl rfl ?_
                        refine J.op rfl rfl rfl (V.pkF rfl rfl rfl) ?_
                        refine J.op rfl rfl rfl (V.mv rfl rfl) ?_
                        refine J.opOff rfl rfl rfl rfl rfl rfl ?_
                        refine J.opOff rfl rfl rfl rfl rfl rfl ?_
                        refine J.opOff rfl rfl rfl rfl rfl rfl ?_
                        refine J.op rfl rfl rfl (V.pkF rfl rfl rfl) ?_
                        refine J.op rfl rfl rfl (V.mv rfl rfl) ?_
                        refine J.opOff rfl rfl rfl rfl rfl rfl ?_
                        refine J.opOff rfl rfl rfl rfl rfl rfl ?_
                        refine J.opOff rfl rfl rfl rfl rfl rfl ?_
                        refine J.op rfl rfl rfl (V.pkF rfl rfl rfl) ?_
                        refine J.op rfl rfl rfl (V.mv rfl rfl) ?_
                        refine J.opOff rfl rfl rfl rfl rfl rfl ?_
                        refine J.opOff rfl rfl rfl rfl rfl rfl ?_
                        refine J.op rfl rfl rfl (V.pkF rfl rfl rfl) ?_
                        refine J.op rfl rfl rfl (V.mv rfl rfl) ?_
                        refine J.opOff rfl rfl rfl rfl rfl rfl ?_
                        refine J.opOff rfl rfl rfl rfl rfl rfl ?_
                        refine J.opOff rfl rfl rfl rfl rfl rfl ?_
                        refine J.op rfl rfl rfl (V.pkF rfl rfl rfl) ?_
                        refine J.op rfl rfl rfl (V.mv rfl rfl) ?_
                        refine J.opOff rfl rfl rfl rfl rfl rfl ?_
                        refine J.opOff rfl rfl rfl rfl rfl rfl ?_
                        refine J.op rfl rfl rfl (V.pkF rfl rfl rfl) ?_
                        refine J.op rfl rfl rfl (V.mv rfl rfl) ?_
                        refine J.opOff rfl rfl rfl rfl rfl rfl ?_
                        refine J.opOff rfl rfl rfl rfl rfl rfl ?_
                        refine J.opOff rfl rfl rfl rfl rfl rfl ?_
                        refine J.op rfl rfl rfl (V.pkF rfl rfl rfl) ?_
                        refine J.op rfl rfl rfl (V.as rfl rfl) ?_
                        refine J.nil ?_
                        refine J.tN ?_
                        refine J.ret ?_
                        obtain rfl := B.e h0
                        exact J.ret1 rfl rfl fun w H => ⟨(), rfl, H.pick [] (by decide)⟩
                    · replace h0 := B.f hB140 h0
                      refine J.opOff rfl rfl rfl rfl rfl rfl ?_
                      refine J.opOff rfl rfl rfl rfl rfl rfl ?_
                      refine J.op rfl rfl rfl (V.pkF rfl rfl rfl) ?_
                      refine J.op rfl rfl rfl (V.mv rfl rfl) ?_
                      refine J.opOff rfl rfl rfl rfl rfl rfl ?_
                      refine J.opOff rfl rfl rfl rfl rfl rfl ?_
                      refine J.opOff rfl rfl rfl rfl rfl rfl ?_
                      refine J.op rfl rfl rfl (V.pkF rfl rfl rfl) ?_
                      refine J.op rfl rfl rfl (V.mv rfl rfl) ?_
                      refine J.opOff rfl rfl rfl rfl rfl rfl ?_
                      refine J.opOff rfl rfl rfl rfl rfl rfl ?_
                      refine J.opOff rfl rfl rfl rfl rfl rfl ?_
                      refine J.op rfl rfl rfl (V.pkF rfl rfl rfl) ?_
                      refine J.op rfl rfl rfl (V.mv rfl rfl) ?_
                      refine J.opOff rfl rfl rfl rfl rfl rfl ?_
                      refine J.opOff rfl rfl rfl rfl rfl rfl ?_
                      refine J.opOff rfl rfl rfl rfl rfl rfl ?_
                      refine J.op rfl rfl rfl (V.pkF rfl rfl rfl) ?_
                      refine J.op rfl rfl rfl (V.mv rfl rfl) ?_
                      refine J.opOff rfl rfl rfl rfl rfl rfl ?_
                      refine J.opOff rfl rfl rfl rfl rfl rfl ?_
                      refine J.op rfl rfl rfl (V.pkF rfl rfl rfl) ?_
                      refine J.op rfl rfl rfl (V.mv rfl rfl) ?_
                      refine J.opOff rfl rfl rfl rfl rfl rfl ?_
                      refine J.opOff rfl rfl rfl rfl rfl rfl ?_
                      refine J.opOff rfl rfl rfl rfl rfl rfl ?_
                      refine J.op rfl rfl rfl (V.pkF rfl rfl rfl) ?_
                      refine J.op rfl rfl rfl (V.mv rfl rfl) ?_
                      refine J.opOff rfl rfl rfl rfl rfl rfl ?_
                      refine J.opOff rfl rfl rfl rfl rfl rfl ?_
                      refine J.op rfl rfl rfl (V.pkF rfl rfl rfl) ?_
                      refine J.op rfl rfl rfl (V.mv rfl rfl) ?_
                      refine J.opOff rfl rfl rfl rfl rfl rfl ?_
                      refine J.opOff rfl rfl rfl rfl rfl rfl ?_
                      refine J.opOff rfl rfl rfl rfl rfl rfl ?_
                      refine J.op rfl rfl rfl (V.pkF rfl rfl rfl) ?_
                      refine J.op rfl rfl rfl (V.as rfl rfl) ?_
                      refine J.nil ?_
                      refine J.tN ?_
                      refine J.ret ?_
                      obtain rfl := B.e h0
                      exact J.ret1 rfl rfl fun w H => ⟨(), rfl, H.pick [] (by decide)⟩
                  · replace h0 := B.f hB136 h0
                    refine J.opOff rfl rfl rfl rfl rfl rfl ?_
                    refine J.opOff rfl rfl rfl rfl rfl rfl ?_
                    refine J.opOff rfl rfl rfl rfl rfl rfl ?_
                    refine J.op rfl rfl rfl (V.pkF rfl rfl rfl) ?_
                    refine J.op rfl rfl rfl (V.mv rfl rfl) ?_
                    refine J.opOff rfl rfl rfl rfl rfl rfl ?_
                    refine J.opOff rfl rfl rfl rfl rfl rfl ?_
                    refine J.op rfl rfl rfl (V.pkF rfl rfl rfl) ?_
                    refine J.op rfl rfl rfl (V.mv rfl rfl) ?_
                    refine J.opOff rfl rfl rfl rfl rfl rfl ?_
                    refine J.opOff rfl rfl rfl rfl rfl rfl ?_
                    refine J.opOff rfl rfl rfl rfl rfl rfl ?_
                    refine J.op rfl rfl rfl (V.pkF rfl rfl rfl) ?_
                    refine J.op rfl rfl rfl (V.mv rfl rfl) ?_
                    refine J.opOff rfl rfl rfl rfl rfl rfl ?_
                    refine J.opOff rfl rfl rfl rfl rfl rfl ?_
                    refine J.opOff rfl rfl rfl rfl rfl rfl ?_
                    refine J.op rfl rfl rfl (V.pkF rfl rfl rfl) ?_
                    refine J.op rfl rfl rfl (V.mv rfl rfl) ?_
                    refine J.opOff rfl rfl rfl rfl rfl rfl ?_
                    refine J.opOff rfl rfl rfl rfl rfl rfl ?_
                    refine J.opOff rfl rfl rfl rfl rfl rfl ?_
                    refine J.op rfl rfl rfl (V.pkF rfl rfl rfl) ?_
                    refine J.op rfl rfl rfl (V.mv rfl rfl) ?_
                    refine J.opOff rfl rfl rfl rfl rfl rfl ?_
                    refine J.opOff rfl rfl rfl rfl rfl rfl ?_
                    refine J.op rfl rfl rfl (V.pkF rfl rfl rfl) ?_
                    refine J.op rfl rfl rfl (V.mv rfl rfl) ?_
                    refine J.opOff rfl rfl rfl rfl rfl rfl ?_
                    refine J.opOff rfl rfl rfl rfl rfl rfl ?_
                    refine J.opOff rfl rfl rfl rfl rfl rfl ?_
                    refine J.op rfl rfl rfl (V.pkF rfl rfl rfl) ?_
                    refine J.op rfl rfl rfl (V.mv rfl rfl) ?_
                    refine J.opOff rfl rfl rfl rfl rfl rfl ?_
                    refine J.opOff rfl rfl rfl rfl rfl rfl ?_
                    refine J.op rfl rfl rfl (V.pkF rfl rfl rfl) ?_
                    refine J.op rfl rfl rfl (V.mv rfl rfl) ?_
                    refine J.opOff rfl rfl rfl rfl rfl rfl ?_
                    refine J.opOff rfl rfl rfl rfl rfl rfl ?_
                    refine J.opOff rfl rfl rfl rfl rfl rfl ?_
                    refine J.op rfl rfl rfl (V.pkF rfl rfl rfl) ?_
                    refine J.op rfl rfl rfl (V.as rfl rfl) ?_
                    refine J.nil ?_
                    refine J.tN ?_
                    refine J.ret ?_
                    obtain rfl := B.e h0
                    exact J.ret1 rfl rfl fun w H => ⟨(), rfl, H.pick [] (by decide)⟩
                · replace h0 := B.f hB135 h0
                  refine J.opOff rfl rfl rfl rfl rfl rfl ?_
                  refine J.opOff rfl rfl rfl rfl rfl rfl ?_
                  refine J.op rfl rfl rfl (V.pkF rfl rfl rfl) ?_
                  refine J.op rfl rfl rfl (V.mv rfl rfl) ?_
                  refine J.opOff rfl rfl rfl rfl rfl rfl ?_
                  refine J.opOff rfl rfl rfl rfl rfl rfl ?_
                  refine J.opOff rfl rfl rfl rfl rfl rfl ?_
                  refine J.op rfl rfl rfl (V.pkF rfl rfl rfl) ?_
                  refine J.op rfl rfl rfl (V.mv rfl rfl) ?_
                  refine J.opOff rfl rfl rfl rfl rfl rfl ?_
                  refine J.opOff rfl rfl rfl rfl rfl rfl ?_
                  refine J.op rfl rfl rfl (V.pkF rfl rfl rfl) ?_
                  refine J.op rfl rfl rfl (V.mv rfl rfl) ?_
                  refine J.opOff rfl rfl rfl rfl rfl rfl ?_
                  refine J.opOff rfl rfl rfl rfl rfl rfl ?_
                  refine J.opOff rfl rfl rfl rfl rfl rfl ?_
                  refine J.op rfl rfl rfl (V.pkF rfl rfl rfl) ?_
                  refine J.op rfl rfl rfl (V.mv rfl rfl) ?_
                  refine J.opOff rfl rfl rfl rfl rfl rfl ?_
                  refine J.opOff rfl rfl rfl rfl rfl rfl ?_
                  refine J.opOff rfl rfl rfl rfl rfl rfl ?_
                  refine J.op rfl rfl rfl (V.pkF rfl rfl rfl) ?_
                  refine J.op rfl rfl rfl (V.mv rfl rfl) ?_
                  refine J.opOff rfl rfl rfl rfl rfl rfl ?_
                  refine J.opOff rfl rfl rfl rfl rfl rfl ?_
                  refine J.opOff rfl rfl rfl rfl rfl rfl ?_
                  refine J.op rfl rfl rfl (V.pkF rfl rfl rfl) ?_
                  refine J.op rfl rfl rfl (V.mv rfl rfl) ?_
                  refine J.opOff rfl rfl rfl rfl rfl rfl ?_
                  refine J.opOff rfl rfl rfl rfl rfl rfl ?_
                  refine J.op rfl rfl rfl (V.pkF rfl rfl rfl) ?_
                  refine J.op rfl rfl rfl (V.mv rfl rfl) ?_
                  refine J.opOff rfl rfl rfl rfl rfl rfl ?_
                  refine J.opOff rfl rfl rfl rfl rfl rfl ?_
                  refine J.opOff rfl rfl rfl rfl rfl rfl ?_
                  refine J.op rfl rfl rfl (V.pkF rfl rfl rfl) ?_
                  refine J.op rfl rfl rfl (V.mv rfl rfl) ?_
                  refine J.opOff rfl rfl rfl rfl rfl rfl ?_
                  refine J.opOff rfl rfl rfl rfl rfl rfl ?_
                  refine J.op rfl rfl rfl (V.pkF rfl rfl rfl) ?_
                  refine J.op rfl rfl rfl (V.mv rfl rfl) ?_
                  refine J.opOff rfl rfl rfl rfl rfl rfl ?_
                  refine J.opOff rfl rfl rfl rfl rfl rfl ?_
                  refine J.opOff rfl rfl rfl rfl rfl rfl ?_
                  refine J.op rfl rfl rfl (V.pkF rfl rfl rfl) ?_
                  refine J.op rfl rfl rfl (V.as rfl rfl) ?_
                  refine J.nil ?_
                  refine J.tN ?_
                  refine J.ret ?_
                  obtain rfl := B.e h0
                  exact J.ret1 rfl rfl fun w H => ⟨(), rfl, H.pick [] (by decide)⟩

end Go.Proofs.Ytnjabckgklafhaa
