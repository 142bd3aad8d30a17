/- Go functions as Lean functions, and that each call of theirs comes to just that: by a program written for this work (walk.py). No condition. -/
import Derived.Test.YtnjabckgklafhaaF0
namespace Go.Proofs.Ytnjabckgklafhaa
open Go Go.RowKit G
set_option linter.unusedVariables false

/-! ### impl.ValidPrint: function 54 -/
noncomputable def impl_ValidPrint.f (p0_p : (Vector Int 64)) : Option (Bool) := (impl_areDensities.f p0_p).bind fun r3 => some r3
set_option maxRecDepth 100000 in
theorem impl_ValidPrint.calls (p0_p : (Vector Int 64)) (r : Bool) (w : World) (H0 : Own [] w w []) (h0 : impl_ValidPrint.f p0_p = some r) :
    Calls Try.prog 54 #[.agg (encA .i16 p0_p).toArray] w (fun e w' => ∃ _ : Unit, e = .returned (.bool r) ∧ Own [] w w' []) := by
  unfold impl_ValidPrint.f at h0
  replace h0 := B.top h0
  refine calls_of_J (args := [.agg (encA .i16 p0_p).toArray]) Try.func54 rfl Try.ntmps54 rfl [(0, .agg (encA .i16 p0_p).toArray)] rfl H0 ?_
  refine J.seq ?_
  refine J.region ?_
  refine J.box rfl rfl rfl rfl rfl (fun _ _ => rfl) fun b1 => ?_
  refine J.op rfl rfl rfl (V.as rfl rfl) ?_
  refine J.nil ?_
  refine J.tN ?_
  refine J.seq ?_
  refine J.region ?_
  refine J.op rfl rfl rfl (V.ldW 0 rfl rfl rfl ts60 ta60 (encA_len _ _)) ?_
  obtain ⟨r3, hr4, h0⟩ := B.bind h0
  refine J.clA (l := [.tmp 3]) [] [.blk b1 (encA .i16 p0_p) 60] cf59 (wN rfl) rfl rfl rfl rfl rfl rfl (fun w H => impl_areDensities.calls p0_p r3 w (Own.refl w)  hr4) fun g5 => ?_
  refine J.op rfl rfl rfl (V.as rfl rfl) ?_
  refine J.nil ?_
  refine J.tN ?_
  refine J.ret ?_
  obtain rfl := B.e h0
  exact J.ret1 rfl rfl fun w H => ⟨(), rfl, H.pick [] (by decide)⟩

/-! ### impl.arePrints$1: function 53 -/
noncomputable def impl_arePrints_1.f (p0_p : (Vector Int 64)) : Option (Bool) := (impl_ValidPrint.f p0_p).bind fun r3 => (some (!r3)).bind fun t6 => some t6
set_option maxRecDepth 100000 in
theorem impl_arePrints_1.calls (p0_p : (Vector Int 64)) (r : Bool) (w : World) (H0 : Own [] w w []) (h0 : impl_arePrints_1.f p0_p = some r) :
    Calls Try.prog 53 #[.agg (encA .i16 p0_p).toArray] w (fun e w' => ∃ _ : Unit, e = .returned (.bool r) ∧ Own [] w w' []) := by
  unfold impl_arePrints_1.f at h0
  replace h0 := B.top h0
  refine calls_of_J (args := [.agg (encA .i16 p0_p).toArray]) Try.func53 rfl Try.ntmps53 rfl [(0, .agg (encA .i16 p0_p).toArray)] rfl H0 ?_
  refine J.seq ?_
  refine J.region ?_
  refine J.box rfl rfl rfl rfl rfl (fun _ _ => rfl) fun b1 => ?_
  refine J.op rfl rfl rfl (V.as rfl rfl) ?_
  refine J.nil ?_
  refine J.tN ?_
  refine J.seq ?_
  refine J.region ?_
  refine J.op rfl rfl rfl (V.ldW 0 rfl rfl rfl ts60 ta60 (encA_len _ _)) ?_
  obtain ⟨r3, hr4, h0⟩ := B.bind h0
  refine J.clA (l := [.tmp 3]) [] [.blk b1 (encA .i16 p0_p) 60] cf54 (wN rfl) rfl rfl rfl rfl rfl rfl (fun w H => impl_ValidPrint.calls p0_p r3 w (Own.refl w)  hr4) fun g5 => ?_
  refine J.op rfl rfl rfl (V.nt rfl rfl) ?_
  refine J.op rfl rfl rfl (V.as rfl rfl) ?_
  obtain ⟨t6, et6, h0⟩ := B.lt h0
  refine J.val (congrArg (Value.bool) et6) ?_
  refine J.nil ?_
  refine J.tN ?_
  refine J.ret ?_
  obtain rfl := B.e h0
  exact J.ret1 rfl rfl fun w H => ⟨(), rfl, H.pick [] (by decide)⟩

/-! ### impl.arePrints: function 41 -/
noncomputable def impl_arePrints.f (p0_list : (List (Vector Int 64))) : Option (Bool) := (slices_ContainsFunc_impl_Print_impl_Print.f p0_list (fun z1 => impl_arePrints_1.f z1 )).bind fun r2 => (some (!r2)).bind fun t5 => some t5
set_option maxRecDepth 100000 in
theorem impl_arePrints.calls (v0 : Value) (p0_list : (List (Vector Int 64))) (r : Bool) (w : World) (H0 : Own [] w w []) (hS0 : SlE [] w v0 60 (eA .i16 64) p0_list) (h0 : impl_arePrints.f p0_list = some r) :
    Calls Try.prog 41 #[v0] w (fun e w' => ∃ _ : Unit, e = .returned (.bool r) ∧ Own [] w w' []) := by
  unfold impl_arePrints.f at h0
  replace h0 := B.top h0
  refine calls_of_J (args := [v0]) Try.func41 rfl Try.ntmps41 rfl [(0, v0)] rfl H0 ?_
  refine J.seq ?_
  refine J.region ?_
  refine J.op rfl rfl rfl (V.as rfl rfl) ?_
  refine J.nil ?_
  refine J.tN ?_
  refine J.seq ?_
  refine J.region ?_
  refine J.op rfl rfl rfl (V.mv rfl rfl) ?_
  obtain ⟨r2, hr3, h0⟩ := B.bind h0
  refine J.clA (l := [.tmp 3, .func 53]) [] [] cf52 (wN rfl) rfl rfl rfl rfl rfl rfl (fun w H => slices_ContainsFunc_impl_Print_impl_Print.calls v0 p0_list 53 (#[]) (fun z1 => impl_arePrints_1.f z1 ) r2 w (Own.refl w) (Sl.laterA hS0 H) (cf53 : CallsFn _ 53) (fun w2 x r HO hp => impl_arePrints_1.calls x  r w2 (Own.refl w2)  hp) hr3) fun g4 => ?_
  refine J.op rfl rfl rfl (V.nt rfl rfl) ?_
  refine J.op rfl rfl rfl (V.as rfl rfl) ?_
  obtain ⟨t5, et5, h0⟩ := B.lt h0
  refine J.val (congrArg (Value.bool) et5) ?_
  refine J.nil ?_
  refine J.tN ?_
  refine J.ret ?_
  obtain rfl := B.e h0
  exact J.ret1 rfl rfl fun w H => ⟨(), rfl, H.pick [] (by decide)⟩

/-! ### impl.ValidSheet: function 17 -/
noncomputable def impl_ValidSheet.f (p0_s : impl_Sheet) : Option (Bool) := (impl_within.f (IntKind.wrap .i64 p0_s.Across) 1 12).bind fun r3 => bif r3 then (bif (decide ((p0_s.Frames.length : Int) ≤ 12)) then ((impl_arePrints.f p0_s.Frames).bind fun r8 => some r8) else (some false)) else (some false)
set_option maxRecDepth 100000 in
theorem impl_ValidSheet.calls (p0_s : impl_Sheet) (v0_Frames : Value) (r : Bool) (w : World) (H0 : Own [] w w []) (hS0_Frames : SlE [] w v0_Frames 60 (eA .i16 64) p0_s.Frames) (h0 : impl_ValidSheet.f p0_s = some r) :
    Calls Try.prog 17 #[.agg #[.int .i8 p0_s.Across, v0_Frames]] w (fun e w' => ∃ _ : Unit, e = .returned (.bool r) ∧ Own [] w w' []) := by
  unfold impl_ValidSheet.f at h0
  replace h0 := B.top h0
  refine calls_of_J (args := [.agg #[.int .i8 p0_s.Across, v0_Frames]]) Try.func17 rfl Try.ntmps17 rfl [(0, .agg #[.int .i8 p0_s.Across, v0_Frames])] rfl H0 ?_
  refine J.seq ?_
  refine J.region ?_
  refine J.box rfl rfl rfl rfl rfl (fun _ _ => rfl) fun b1 => ?_
  refine J.op rfl rfl rfl (V.as rfl rfl) ?_
  refine J.nil ?_
  refine J.tN ?_
  refine J.seq ?_
  refine J.region ?_
  refine J.op rfl rfl rfl (V.faB rfl rfl tf0_29) ?_
  refine J.op rfl rfl rfl (V.ldB 0 rfl rfl rfl Try.underlying22 ta22 rfl) ?_
  refine J.op rfl rfl rfl (V.conv rfl rfl Try.underlying22 Try.underlying2) ?_
  obtain ⟨r3, hr4, h0⟩ := B.bind h0
  refine J.clA (l := [.tmp 5, .const (.int .i64 1), .const (.int .i64 12)]) [] [.blk b1 [.int .i8 p0_s.Across, v0_Frames] 29] cf40 (wN rfl) rfl rfl rfl rfl rfl rfl (fun w H => impl_within.calls (IntKind.wrap .i64 p0_s.Across) 1 12 r3 w (Own.refl w)  hr4) fun g5 => ?_
  refine J.op rfl rfl rfl (V.mv rfl rfl) ?_
  refine J.split 7 rfl (fun hB6 => ?_) (fun hB6 => ?_)
  · replace h0 := B.t hB6 h0
    refine J.opOn rfl rfl rfl rfl rfl (V.faB rfl rfl tf1_29) ?_
    refine J.opOn rfl rfl rfl rfl rfl (V.ldB 0 rfl rfl rfl Try.underlying27 ta27 rfl) ?_
    refine J.opOn rfl rfl rfl rfl rfl (V.lenS hS0_Frames rfl rfl tl27) ?_
    refine J.opOn rfl rfl rfl rfl rfl (V.cmp rfl rfl rfl rfl) ?_
    refine J.op rfl rfl rfl (V.pkT rfl rfl rfl) ?_
    refine J.op rfl rfl rfl (V.mv rfl rfl) ?_
    refine J.split 13 rfl (fun hB7 => ?_) (fun hB7 => ?_)
    · replace h0 := B.t hB7 h0
      refine J.opOn rfl rfl rfl rfl rfl (V.faB rfl rfl tf1_29) ?_
      refine J.opOn rfl rfl rfl rfl rfl (V.ldB 0 rfl rfl rfl Try.underlying27 ta27 rfl) ?_
      obtain ⟨r8, hr9, h0⟩ := B.bind h0
      refine J.clA (l := [.tmp 15]) [] [.blk b1 [.int .i8 p0_s.Across, v0_Frames] 29] cf41 (wY rfl rfl rfl) rfl rfl rfl rfl rfl rfl (fun w H => impl_arePrints.calls v0_Frames p0_s.Frames r8 w (Own.refl w) (Sl.laterA hS0_Frames H) hr9) fun g10 => ?_
      refine J.op rfl rfl rfl (V.pkT rfl rfl rfl) ?_
      refine J.op rfl rfl rfl (V.as rfl rfl) ?_
      refine J.nil ?_
      refine J.tN ?_
      refine J.ret ?_
      obtain rfl := B.e h0
      exact J.ret1 rfl rfl fun w H => ⟨(), rfl, H.pick [] (by decide)⟩
    · replace h0 := B.f hB7 h0
      refine J.opOff rfl rfl rfl rfl rfl rfl ?_
      refine J.opOff rfl rfl rfl rfl rfl rfl ?_
      refine J.opOff rfl rfl rfl rfl rfl rfl ?_
      refine J.op rfl rfl rfl (V.pkF rfl rfl rfl) ?_
      refine J.op rfl rfl rfl (V.as rfl rfl) ?_
      refine J.nil ?_
      refine J.tN ?_
      refine J.ret ?_
      obtain rfl := B.e h0
      exact J.ret1 rfl rfl fun w H => ⟨(), rfl, H.pick [] (by decide)⟩
  · replace h0 := B.f hB6 h0
    refine J.opOff rfl rfl rfl rfl rfl rfl ?_
    refine J.opOff rfl rfl rfl rfl rfl rfl ?_
    refine J.opOff rfl rfl rfl rfl rfl rfl ?_
    refine J.opOff rfl rfl rfl rfl rfl rfl ?_
    refine J.op rfl rfl rfl (V.pkF rfl rfl rfl) ?_
    refine J.op rfl rfl rfl (V.mv rfl rfl) ?_
    refine J.opOff rfl rfl rfl rfl rfl rfl ?_
    refine J.opOff rfl rfl rfl rfl rfl rfl ?_
    refine J.opOff rfl rfl rfl rfl rfl rfl ?_
    refine J.op rfl rfl rfl (V.pkF rfl rfl rfl) ?_
    refine J.op rfl rfl rfl (V.as rfl rfl) ?_
    refine J.nil ?_
    refine J.tN ?_
    refine J.ret ?_
    obtain rfl := B.e h0
    exact J.ret1 rfl rfl fun w H => ⟨(), rfl, H.pick [] (by decide)⟩

/-! ### slices.IndexFunc[[]int64,int64]: function 56 -/
noncomputable def slices_IndexFunc_int64_int64.b1 (p0_s : (List Int)) (p1_f : Int → Option Bool) : Int → Option (Step (Int) (Sum (Unit) (Int))) := fun s1 => bif (decide (s1 < (p0_s.length : Int))) then (bif (inB s1 p0_s.length) then ((p1_f (rd (eI .i64) p0_s s1)).bind fun r6 => bif r6 then (some (.done (.inr s1))) else (some (.next (IntKind.wrap .i64 (s1 + 1))))) else none) else (some (.done (.inl ())))
noncomputable def slices_IndexFunc_int64_int64.f (p0_s : (List Int)) (p1_f : Int → Option Bool) : Option (Int) := (loopW (slices_IndexFunc_int64_int64.b1 p0_s p1_f) 0).bind (Sum.elim (fun y11 => some (-1)) (fun r => some r))
set_option maxRecDepth 100000 in
theorem slices_IndexFunc_int64_int64.calls (v0 : Value) (p0_s : (List Int)) (g1_ : Nat) (c1_ : Array Value) (p1_f : Int → Option Bool) (r : Int) (w : World) (H0 : Own [] w w []) (hS0 : SlE [] w v0 2 (eI .i64) p0_s) (hg1 : CallsFn Try.prog g1_) (hF1 : ∀ w2 x r, Own [] w w2 [] → p1_f x = some r → Calls Try.prog g1_ (#[.int .i64 x] ++ c1_) w2 (fun e w3 => ∃ _ : Unit, e = .returned (.bool r) ∧ Own [] w2 w3 [])) (h0 : slices_IndexFunc_int64_int64.f p0_s p1_f = some r) :
    Calls Try.prog 56 #[v0, .func (.func g1_) #[] c1_] w (fun e w' => ∃ _ : Unit, e = .returned (.int .i64 r) ∧ Own [] w w' []) := by
  unfold slices_IndexFunc_int64_int64.f at h0
  replace h0 := B.top h0
  refine calls_of_J (args := [v0, .func (.func g1_) #[] c1_]) Try.func56 rfl Try.ntmps56 rfl [(0, v0), (1, .func (.func g1_) #[] c1_)] rfl H0 ?_
  refine J.seq ?_
  refine J.region ?_
  refine J.op rfl rfl rfl (V.as rfl rfl) ?_
  refine J.nil ?_
  refine J.tN ?_
  refine J.seq ?_
  refine J.seq ?_
  refine J.region ?_
  refine J.op rfl rfl rfl (V.mv rfl rfl) ?_
  refine J.op rfl rfl rfl (V.lenS hS0 rfl rfl tl48) ?_
  refine J.op rfl rfl rfl (V.mv rfl rfl) ?_
  refine J.nil ?_
  refine J.tN ?_
  obtain ⟨o13, hy12, h0⟩ := B.bind h0
  refine J.cutQ (γ := (Unit) × (Unit)) (fun gy11 => o13 = .inl gy11.1) (fun gy11 => []) (fun gy11 => []) ?_ ?_
  · refine J.block ?_
    refine J.loop (γ := Unit) hy12 (fun s1 g2 => [(0, v0), (1, .func (.func g1_) #[] c1_), (7, .int .i64 (p0_s.length : Int)), (8, .int .i64 s1)]) (fun s1 g2 => []) () ?_ ?_
    · exact J.keep _ rfl (J.pickE [] rfl rfl J.here)
    · intro rec3 s1 g2 h1
      unfold slices_IndexFunc_int64_int64.b1 at h1
      refine J.seq ?_
      refine J.region ?_
      refine J.op rfl rfl rfl (V.cmp rfl rfl rfl rfl) ?_
      refine J.nil ?_
      refine J.tN ?_
      refine J.seq ?_
      refine J.cond rfl (fun hB4 => ?_) (fun hB4 => ?_)
      · replace h1 := B.t hB4 h1
        refine J.skip ?_
        refine J.tN ?_
        refine J.seq ?_
        refine J.block ?_
        refine J.seq ?_
        refine J.region ?_
        refine J.op rfl rfl rfl (V.mv rfl rfl) ?_
        refine J.op rfl rfl rfl (V.as rfl rfl) ?_
        refine J.nil ?_
        refine J.tN ?_
        refine J.seq ?_
        refine J.region ?_
        refine J.op rfl rfl rfl (V.mv rfl rfl) ?_
        refine J.op rfl rfl rfl (V.mv rfl rfl) ?_
        refine J.op rfl rfl rfl (V.mv rfl rfl) ?_
        obtain ⟨hC5, h1⟩ := B.chk h1
        refine J.op rfl rfl rfl (V.ixS hS0 rfl rfl rfl tl48 ts2 hC5) ?_
        refine J.op rfl rfl rfl (V.elS0 hS0 hC5 rfl rfl Try.underlying2 ta2 rfl) ?_
        obtain ⟨r6, hr7, h1⟩ := B.bind h1
        refine J.clA (l := [.tmp 15]) [] [] hg1 (wN rfl) rfl rfl rfl rfl rfl rfl (fun w H => hF1 w (rd (eI .i64) p0_s s1) r6 H.none hr7) fun g8 => ?_
        refine J.nil ?_
        refine J.tN ?_
        refine J.cond rfl (fun hB9 => ?_) (fun hB9 => ?_)
        · replace h1 := B.t hB9 h1
          refine J.seq ?_
          refine J.region ?_
          refine J.op rfl rfl rfl (V.mv rfl rfl) ?_
          refine J.op rfl rfl rfl (V.as rfl rfl) ?_
          refine J.nil ?_
          refine J.tN ?_
          refine J.ret ?_
          refine J.bR ?_
          refine J.tR ?_
          refine J.tR ?_
          refine J.bR ?_
          refine J.tR ?_
          refine J.tR ?_
          obtain rfl := B.d h1
          replace h0 := B.inr h0
          obtain rfl := B.e h0
          exact J.ret1 rfl rfl fun w H => ⟨(), rfl, H.pick [] (by decide)⟩
        · replace h1 := B.f hB9 h1
          refine J.skip ?_
          refine J.bN ?_
          refine J.tN ?_
          refine J.region ?_
          refine J.op rfl rfl rfl (V.ar rfl rfl rfl rfl) ?_
          refine J.op rfl rfl rfl (V.mv rfl rfl) ?_
          refine J.nil ?_
          refine J.tN (J.next (IntKind.wrap .i64 (s1 + 1)) () (B.n h1) ?_)
          exact J.keep _ rfl (J.pickE [] rfl rfl J.here)
      · replace h1 := B.f hB4 h1
        refine J.exit ?_
        refine J.tE ?_
        refine J.tE ?_
        refine J.bE ?_
        obtain rfl := B.d h1
        refine J.tN (J.to ((), ()) rfl ?_)
        exact J.keep _ rfl (J.pickE [] rfl rfl J.here)
  · intro gy11 hG
    replace h0 := B.inl hG h0
    refine J.tN ?_
    refine J.seq ?_
    refine J.region ?_
    refine J.op rfl rfl rfl (V.as rfl rfl) ?_
    refine J.nil ?_
    refine J.tN ?_
    refine J.ret ?_
    obtain rfl := B.e h0
    exact J.ret1 rfl rfl fun w H => ⟨(), rfl, H.pick [] (by decide)⟩

/-! ### slices.ContainsFunc[[]int64,int64]: function 47 -/
noncomputable def slices_ContainsFunc_int64_int64.f (p0_s : (List Int)) (p1_f : Int → Option Bool) : Option (Bool) := (slices_IndexFunc_int64_int64.f p0_s p1_f).bind fun r1 => (some (decide (0 ≤ r1))).bind fun t4 => some t4
set_option maxRecDepth 100000 in
theorem slices_ContainsFunc_int64_int64.calls (v0 : Value) (p0_s : (List Int)) (g1_ : Nat) (c1_ : Array Value) (p1_f : Int → Option Bool) (r : Bool) (w : World) (H0 : Own [] w w []) (hS0 : SlE [] w v0 2 (eI .i64) p0_s) (hg1 : CallsFn Try.prog g1_) (hF1 : ∀ w2 x r, Own [] w w2 [] → p1_f x = some r → Calls Try.prog g1_ (#[.int .i64 x] ++ c1_) w2 (fun e w3 => ∃ _ : Unit, e = .returned (.bool r) ∧ Own [] w2 w3 [])) (h0 : slices_ContainsFunc_int64_int64.f p0_s p1_f = some r) :
    Calls Try.prog 47 #[v0, .func (.func g1_) #[] c1_] w (fun e w' => ∃ _ : Unit, e = .returned (.bool r) ∧ Own [] w w' []) := by
  unfold slices_ContainsFunc_int64_int64.f at h0
  replace h0 := B.top h0
  refine calls_of_J (args := [v0, .func (.func g1_) #[] c1_]) Try.func47 rfl Try.ntmps47 rfl [(0, v0), (1, .func (.func g1_) #[] c1_)] rfl H0 ?_
  refine J.seq ?_
  refine J.region ?_
  refine J.op rfl rfl rfl (V.as rfl rfl) ?_
  refine J.nil ?_
  refine J.tN ?_
  refine J.seq ?_
  refine J.region ?_
  refine J.op rfl rfl rfl (V.mv rfl rfl) ?_
  refine J.op rfl rfl rfl (V.mv rfl rfl) ?_
  obtain ⟨r1, hr2, h0⟩ := B.bind h0
  refine J.clA (l := [.tmp 5, .tmp 6]) [] [] cf56 (wN rfl) rfl rfl rfl rfl rfl rfl (fun w H => slices_IndexFunc_int64_int64.calls v0 p0_s g1_ c1_ p1_f r1 w (Own.refl w) (Sl.laterA hS0 H) hg1 (fun w2 x r HO hp => hF1 w2 x r (H.none.trans0 HO) hp) hr2) fun g3 => ?_
  refine J.op rfl rfl rfl (V.cmp rfl rfl rfl rfl) ?_
  refine J.op rfl rfl rfl (V.as rfl rfl) ?_
  obtain ⟨t4, et4, h0⟩ := B.lt h0
  refine J.val (congrArg (Value.bool) et4) ?_
  refine J.nil ?_
  refine J.tN ?_
  refine J.ret ?_
  obtain rfl := B.e h0
  exact J.ret1 rfl rfl fun w H => ⟨(), rfl, H.pick [] (by decide)⟩

/-! ### impl.length[impl.Print]: function 38 -/
noncomputable def impl_length_impl_Print.f (p0_list : (List (Vector Int 64))) : Option (Int) := (some (p0_list.length : Int)).bind fun t1 => some t1
set_option maxRecDepth 100000 in
theorem impl_length_impl_Print.calls (v0 : Value) (p0_list : (List (Vector Int 64))) (r : Int) (w : World) (H0 : Own [] w w []) (hS0 : SlE [] w v0 60 (eA .i16 64) p0_list) (h0 : impl_length_impl_Print.f p0_list = some r) :
    Calls Try.prog 38 #[v0] w (fun e w' => ∃ _ : Unit, e = .returned (.int .i64 r) ∧ Own [] w w' []) := by
  unfold impl_length_impl_Print.f at h0
  replace h0 := B.top h0
  refine calls_of_J (args := [v0]) Try.func38 rfl Try.ntmps38 rfl [(0, v0)] rfl H0 ?_
  refine J.seq ?_
  refine J.region ?_
  refine J.op rfl rfl rfl (V.as rfl rfl) ?_
  refine J.nil ?_
  refine J.tN ?_
  refine J.seq ?_
  refine J.region ?_
  refine J.op rfl rfl rfl (V.mv rfl rfl) ?_
  refine J.op rfl rfl rfl (V.lenS hS0 rfl rfl tl27) ?_
  refine J.op rfl rfl rfl (V.as rfl rfl) ?_
  obtain ⟨t1, et1, h0⟩ := B.lt h0
  refine J.val (congrArg (Value.int .i64) et1) ?_
  refine J.nil ?_
  refine J.tN ?_
  refine J.ret ?_
  obtain rfl := B.e h0
  exact J.ret1 rfl rfl fun w H => ⟨(), rfl, H.pick [] (by decide)⟩

/-! ### (impl.Sheet).isFrame: function 42 -/
noncomputable def impl_Sheet_isFrame.f (p0_s : impl_Sheet) (p1_i : Int) : Option (Bool) := (impl_length_impl_Print.f p0_s.Frames).bind fun r3 => (impl_within.f p1_i 0 (IntKind.wrap .i64 (r3 - 1))).bind fun r6 => some r6
set_option maxRecDepth 100000 in
theorem impl_Sheet_isFrame.calls (p0_s : impl_Sheet) (v0_Frames : Value) (p1_i : Int) (r : Bool) (w : World) (H0 : Own [] w w []) (hS0_Frames : SlE [] w v0_Frames 60 (eA .i16 64) p0_s.Frames) (h0 : impl_Sheet_isFrame.f p0_s p1_i = some r) :
    Calls Try.prog 42 #[.agg #[.int .i8 p0_s.Across, v0_Frames], .int .i64 p1_i] w (fun e w' => ∃ _ : Unit, e = .returned (.bool r) ∧ Own [] w w' []) := by
  unfold impl_Sheet_isFrame.f at h0
  replace h0 := B.top h0
  refine calls_of_J (args := [.agg #[.int .i8 p0_s.Across, v0_Frames], .int .i64 p1_i]) Try.func42 rfl Try.ntmps42 rfl [(0, .agg #[.int .i8 p0_s.Across, v0_Frames]), (1, .int .i64 p1_i)] rfl H0 ?_
  refine J.seq ?_
  refine J.region ?_
  refine J.box rfl rfl rfl rfl rfl (fun _ _ => rfl) fun b1 => ?_
  refine J.op rfl rfl rfl (V.as rfl rfl) ?_
  refine J.nil ?_
  refine J.tN ?_
  refine J.seq ?_
  refine J.region ?_
  refine J.op rfl rfl rfl (V.mv rfl rfl) ?_
  refine J.op rfl rfl rfl (V.faB rfl rfl tf1_29) ?_
  refine J.op rfl rfl rfl (V.ldB 0 rfl rfl rfl Try.underlying27 ta27 rfl) ?_
  obtain ⟨r3, hr4, h0⟩ := B.bind h0
  refine J.clA (l := [.tmp 7]) [] [.blk b1 [.int .i8 p0_s.Across, v0_Frames] 29] cf38 (wN rfl) rfl rfl rfl rfl rfl rfl (fun w H => impl_length_impl_Print.calls v0_Frames p0_s.Frames r3 w (Own.refl w) (Sl.laterA hS0_Frames H) hr4) fun g5 => ?_
  refine J.op rfl rfl rfl (V.ar rfl rfl rfl rfl) ?_
  obtain ⟨r6, hr7, h0⟩ := B.bind h0
  refine J.clA (l := [.tmp 5, .const (.int .i64 0), .tmp 9]) [] [.blk b1 [.int .i8 p0_s.Across, v0_Frames] 29] cf40 (wN rfl) rfl rfl rfl rfl rfl rfl (fun w H => impl_within.calls p1_i 0 (IntKind.wrap .i64 (r3 - 1)) r6 w (Own.refl w)  hr7) fun g8 => ?_
  refine J.op rfl rfl rfl (V.as rfl rfl) ?_
  refine J.nil ?_
  refine J.tN ?_
  refine J.ret ?_
  obtain rfl := B.e h0
  exact J.ret1 rfl rfl fun w H => ⟨(), rfl, H.pick [] (by decide)⟩

/-! ### impl.sheetCode$1: function 48 -/
noncomputable def impl_sheetCode_1.f (p0_i : Int) (p1_a : impl_Sheet) : Option (Bool) := (impl_Sheet_isFrame.f (⟨p1_a.Across, p1_a.Frames⟩ : impl_Sheet) p0_i).bind fun r1 => (some (!r1)).bind fun t4 => some t4
set_option maxRecDepth 100000 in
theorem impl_sheetCode_1.calls (p0_i : Int) (v1 : Value) (p1_a : impl_Sheet) (v1_Frames : Value) (r : Bool) (w : World) (H0 : Own [] w w []) (hS1_Frames : SlE [] w v1_Frames 60 (eA .i16 64) p1_a.Frames) (hP1 : Rp [] w v1 [.int .i8 p1_a.Across, v1_Frames]) (h0 : impl_sheetCode_1.f p0_i p1_a = some r) :
    Calls Try.prog 48 #[.int .i64 p0_i, v1] w (fun e w' => ∃ _ : Unit, e = .returned (.bool r) ∧ Own [] w w' []) := by
  unfold impl_sheetCode_1.f at h0
  replace h0 := B.top h0
  refine calls_of_J (args := [.int .i64 p0_i, v1]) Try.func48 rfl Try.ntmps48 rfl [(0, .int .i64 p0_i), (1, v1)] rfl H0 ?_
  refine J.seq ?_
  refine J.region ?_
  refine J.op rfl rfl rfl (V.as rfl rfl) ?_
  refine J.nil ?_
  refine J.tN ?_
  refine J.seq ?_
  refine J.region ?_
  refine J.op rfl rfl rfl (V.ldPW hP1 rfl rfl ts29 ta29 rfl) ?_
  refine J.op rfl rfl rfl (V.mv rfl rfl) ?_
  obtain ⟨r1, hr2, h0⟩ := B.bind h0
  refine J.clA (l := [.tmp 4, .tmp 5]) [] [] cf42 (wN rfl) rfl rfl rfl rfl rfl rfl (fun w H => impl_Sheet_isFrame.calls (⟨p1_a.Across, p1_a.Frames⟩ : impl_Sheet) v1_Frames p0_i r1 w (Own.refl w) (Sl.laterA hS1_Frames H) hr2) fun g3 => ?_
  refine J.op rfl rfl rfl (V.nt rfl rfl) ?_
  refine J.op rfl rfl rfl (V.as rfl rfl) ?_
  obtain ⟨t4, et4, h0⟩ := B.lt h0
  refine J.val (congrArg (Value.bool) et4) ?_
  refine J.nil ?_
  refine J.tN ?_
  refine J.ret ?_
  obtain rfl := B.e h0
  exact J.ret1 rfl rfl fun w H => ⟨(), rfl, H.pick [] (by decide)⟩

/-! ### impl.sheetCode: function 30 -/
noncomputable def impl_sheetCode.f (p0_s : impl_Sheet) (p1_frames : (List Int)) : Option (Int) := (impl_ValidSheet.f (⟨p0_s.Across, p0_s.Frames⟩ : impl_Sheet)).bind fun r3 => (some (!r3)).bind fun t6 => bif t6 then (some 1) else ((slices_ContainsFunc_int64_int64.f p1_frames (fun z8 => impl_sheetCode_1.f z8 (⟨p0_s.Across, p0_s.Frames⟩ : impl_Sheet))).bind fun r9 => bif r9 then (some 2) else (some 0))
set_option maxRecDepth 100000 in
theorem impl_sheetCode.calls (p0_s : impl_Sheet) (v0_Frames : Value) (v1 : Value) (p1_frames : (List Int)) (r : Int) (w : World) (H0 : Own [] w w []) (hS0_Frames : SlE [] w v0_Frames 60 (eA .i16 64) p0_s.Frames) (hS1 : SlE [] w v1 2 (eI .i64) p1_frames) (h0 : impl_sheetCode.f p0_s p1_frames = some r) :
    Calls Try.prog 30 #[.agg #[.int .i8 p0_s.Across, v0_Frames], v1] w (fun e w' => ∃ _ : Unit, e = .returned (.int .i64 r) ∧ Own [] w w' []) := by
  unfold impl_sheetCode.f at h0
  replace h0 := B.top h0
  refine calls_of_J (args := [.agg #[.int .i8 p0_s.Across, v0_Frames], v1]) Try.func30 rfl Try.ntmps30 rfl [(0, .agg #[.int .i8 p0_s.Across, v0_Frames]), (1, v1)] rfl H0 ?_
  refine J.seq ?_
  refine J.region ?_
  refine J.box rfl rfl rfl rfl rfl (fun _ _ => rfl) fun b1 => ?_
  refine J.op rfl rfl rfl (V.as rfl rfl) ?_
  refine J.nil ?_
  refine J.tN ?_
  refine J.seq ?_
  refine J.block ?_
  refine J.seq ?_
  refine J.region ?_
  refine J.op rfl rfl rfl (V.ldW 0 rfl rfl rfl ts29 ta29 rfl) ?_
  obtain ⟨r3, hr4, h0⟩ := B.bind h0
  refine J.clA (l := [.tmp 6]) [] [.blk b1 [.int .i8 p0_s.Across, v0_Frames] 29] cf17 (wN rfl) rfl rfl rfl rfl rfl rfl (fun w H => impl_ValidSheet.calls (⟨p0_s.Across, p0_s.Frames⟩ : impl_Sheet) v0_Frames r3 w (Own.refl w) (Sl.laterA hS0_Frames H) hr4) fun g5 => ?_
  refine J.op rfl rfl rfl (V.nt rfl rfl) ?_
  refine J.op rfl rfl rfl (V.as rfl rfl) ?_
  obtain ⟨t6, et6, h0⟩ := B.lt h0
  refine J.val (congrArg (Value.bool) et6) ?_
  refine J.nil ?_
  refine J.tN ?_
  refine J.cond rfl (fun hB7 => ?_) (fun hB7 => ?_)
  · replace h0 := B.t hB7 h0
    refine J.seq ?_
    refine J.region ?_
    refine J.op rfl rfl rfl (V.as rfl rfl) ?_
    refine J.nil ?_
    refine J.tN ?_
    refine J.ret ?_
    refine J.bR ?_
    refine J.tR ?_
    obtain rfl := B.e h0
    exact J.ret1 rfl rfl fun w H => ⟨(), rfl, H.pick [] (by decide)⟩
  · replace h0 := B.f hB7 h0
    refine J.seq ?_
    refine J.region ?_
    refine J.op rfl rfl rfl (V.mv rfl rfl) ?_
    refine J.op rfl rfl rfl (V.fn (l := [.tmp 2]) rfl rfl) ?_
    obtain ⟨r9, hr10, h0⟩ := B.bind h0
    refine J.clA (l := [.tmp 10, .tmp 11]) [] [.blk b1 [.int .i8 p0_s.Across, v0_Frames] 29] cf47 (wN rfl) rfl rfl rfl rfl rfl rfl (fun w H => slices_ContainsFunc_int64_int64.calls v1 p1_frames 48 (#[bp b1 0]) (fun z8 => impl_sheetCode_1.f z8 (⟨p0_s.Across, p0_s.Frames⟩ : impl_Sheet)) r9 w (Own.refl w) (Sl.laterA hS1 H) (cf48 : CallsFn _ 48) (fun w2 x r HO hp => impl_sheetCode_1.calls x (bp b1 0) (⟨p0_s.Across, p0_s.Frames⟩ : impl_Sheet) v0_Frames r w2 (Own.refl w2) (Sl.none (Sl.laterA hS0_Frames H) HO) (Rp.none (Own.rpA 0 H rfl) HO) hp) hr10) fun g11 => ?_
    refine J.op rfl rfl rfl (V.as rfl rfl) ?_
    refine J.nil ?_
    refine J.tN ?_
    refine J.cond rfl (fun hB12 => ?_) (fun hB12 => ?_)
    · replace h0 := B.t hB12 h0
      refine J.seq ?_
      refine J.region ?_
      refine J.op rfl rfl rfl (V.as rfl rfl) ?_
      refine J.nil ?_
      refine J.tN ?_
      refine J.ret ?_
      refine J.bR ?_
      refine J.tR ?_
      obtain rfl := B.e h0
      exact J.ret1 rfl rfl fun w H => ⟨(), rfl, H.pick [] (by decide)⟩
    · replace h0 := B.f hB12 h0
      refine J.skip ?_
      refine J.bN ?_
      refine J.tN ?_
      refine J.seq ?_
      refine J.region ?_
      refine J.op rfl rfl rfl (V.as rfl rfl) ?_
      refine J.nil ?_
      refine J.tN ?_
      refine J.ret ?_
      obtain rfl := B.e h0
      exact J.ret1 rfl rfl fun w H => ⟨(), rfl, H.pick [] (by decide)⟩

/-! ### slices.Delete[[]impl.Print,impl.Print]: function 31 -/
noncomputable def slices_Delete_impl_Print_impl_Print.f (p0_s : (List (Vector Int 64))) (p1_i : Int) (p2_j : Int) : Option ((List (Vector Int 64))) := bif (inS p1_i p2_j p0_s.length) then (bif (p1_i == p2_j) then (some p0_s) else (bif (inS 0 p1_i p0_s.length) then (bif (inS p2_j (p0_s.length : Int) p0_s.length) then (some (p0_s.take p1_i.toNat ++ p0_s.drop p2_j.toNat)) else none) else none)) else none
set_option maxRecDepth 100000 in
theorem slices_Delete_impl_Print_impl_Print.calls (v0 : Value) (p0_s : (List (Vector Int 64))) (p1_i : Int) (p2_j : Int) (r : (List (Vector Int 64))) (w : World) (H0 : Own (Mof [.rowE v0 60 (eA .i16 64) p0_s]) w w [.rowE v0 60 (eA .i16 64) p0_s]) (h0 : slices_Delete_impl_Print_impl_Print.f p0_s p1_i p2_j = some r) :
    Calls Try.prog 31 #[v0, .int .i64 p1_i, .int .i64 p2_j] w (fun e w' => ∃ gh : Value, e = .returned (gh) ∧ Own (Mof [.rowE v0 60 (eA .i16 64) p0_s]) w w' [.rowE gh 60 (eA .i16 64) r]) := by
  unfold slices_Delete_impl_Print_impl_Print.f at h0
  replace h0 := B.top h0
  refine calls_of_J (args := [v0, .int .i64 p1_i, .int .i64 p2_j]) Try.func31 rfl Try.ntmps31 rfl [(0, v0), (1, .int .i64 p1_i), (2, .int .i64 p2_j)] rfl H0 ?_
  refine J.capR 0 rfl fun hcap0 => ?_
  refine J.shapeR 0 rfl fun hsh0 => ?_
  refine J.seq ?_
  refine J.region ?_
  refine J.op rfl rfl rfl (V.as rfl rfl) ?_
  refine J.nil ?_
  refine J.tN ?_
  refine J.seq ?_
  refine J.region ?_
  refine J.op rfl rfl rfl (V.mv rfl rfl) ?_
  refine J.op rfl rfl rfl (V.mv rfl rfl) ?_
  refine J.op rfl rfl rfl (V.mv rfl rfl) ?_
  refine J.op rfl rfl rfl (V.mv rfl rfl) ?_
  refine J.op rfl rfl rfl (V.lenR 0 rfl rfl rfl tl27) ?_
  obtain ⟨hC1, h0⟩ := B.chk h0
  refine J.sub3 0 hC1 rfl rfl rfl rfl rfl rfl rfl rfl rfl rfl tl27 ts60 fun jk2 => ?_
  refine J.nil ?_
  refine J.tN ?_
  refine J.seq ?_
  refine J.seq ?_
  refine J.region ?_
  refine J.op rfl rfl rfl (V.mv rfl rfl) ?_
  refine J.op rfl rfl rfl (V.mv rfl rfl) ?_
  refine J.op rfl rfl rfl (V.cmp rfl rfl rfl rfl) ?_
  refine J.nil ?_
  refine J.tN ?_
  refine J.cond rfl (fun hB3 => ?_) (fun hB3 => ?_)
  · replace h0 := B.t hB3 h0
    refine J.seq ?_
    refine J.region ?_
    refine J.op rfl rfl rfl (V.mv rfl rfl) ?_
    refine J.op rfl rfl rfl (V.as rfl rfl) ?_
    refine J.nil ?_
    refine J.tN ?_
    refine J.ret ?_
    refine J.tR ?_
    obtain rfl := B.e h0
    exact J.ret1 rfl rfl fun w H => ⟨v0, rfl, H.pick [0] (by decide)⟩
  · replace h0 := B.f hB3 h0
    refine J.skip ?_
    refine J.tN ?_
    refine J.seq ?_
    refine J.region ?_
    refine J.op rfl rfl rfl (V.mv rfl rfl) ?_
    refine J.op rfl rfl rfl (V.lenR 0 rfl rfl rfl tl27) ?_
    refine J.op rfl rfl rfl (V.as rfl rfl) ?_
    refine J.nil ?_
    refine J.tN ?_
    refine J.seq ?_
    obtain ⟨hC4, h0⟩ := B.chk h0
    obtain ⟨hC5, h0⟩ := B.chk h0
    refine J.any 8 rfl [] mixed ?_
    refine JH.take (i := 0) [] rfl (by kernel_rfl) rfl rfl rfl rfl rfl (V.mv rfl rfl) ?_
    refine JH.take (i := 1) [] rfl (by kernel_rfl) rfl rfl rfl rfl rfl (V.mv rfl rfl) ?_
    refine JH.take (i := 2) [] rfl (by kernel_rfl) rfl rfl rfl rfl rfl (V.sub (L := none) (H := some p1_i) (fun _ _ => hsh0) rfl rfl rfl rfl rfl rfl tl27 ts60 hC4) ?_
    refine JH.take (i := 3) [] rfl (by kernel_rfl) rfl rfl rfl rfl rfl (V.mv rfl rfl) ?_
    refine JH.take (i := 4) [] rfl (by kernel_rfl) rfl rfl rfl rfl rfl (V.mv rfl rfl) ?_
    refine JH.take (i := 5) [] rfl (by kernel_rfl) rfl rfl rfl rfl rfl (V.sub (L := some p2_j) (H := none) (fun _ _ => hsh0) rfl rfl rfl rfl rfl rfl tl27 ts60 hC5) ?_
    refine JH.all [6] (by kernel_rfl) rfl (JHall.cons (JH.op rfl ?_) (JHall.nil))
    obtain ⟨_, ti1, ti2, ti3, ti4⟩ := ti60
    refine J.apDel 0 hcap0 hC4 hC5 (inS_le hC1) ti1 tl27 ti3 rfl rfl rfl rfl rfl rfl rfl ?_
    refine J.nil ?_
    refine JH.back [] rfl rfl ?_
    refine JH.take (i := 7) [] rfl (by kernel_rfl) rfl rfl rfl rfl rfl (V.as rfl rfl) ?_
    refine JH.fin (by kernel_rfl) ?_
    refine J.tN ?_
    refine J.seq ?_
    refine J.region ?_
    refine J.op rfl rfl rfl (V.mv rfl rfl) ?_
    refine J.op rfl rfl rfl (V.mv rfl rfl) ?_
    refine J.op rfl rfl rfl (V.lenR 0 rfl rfl rfl tl27) ?_
    refine J.op rfl rfl rfl (V.mv rfl rfl) ?_
    refine J.op rfl rfl rfl (V.subC 0 rfl (Int.ofNat_le.2 hcap0) (Int.natCast_nonneg _) (del_le hC1) rfl rfl rfl rfl tl27 ts60) ?_
    obtain ⟨_, ti1, ti2, ti3, ti4⟩ := ti60
    refine J.clr 0 (del_lenI hC1) (del_len hC1) (Int.ofNat_le.2 hcap0) (del_leN hC1) ti1 tl27 ti2 rfl rfl rfl rfl rfl rfl rfl ?_
    refine J.nil ?_
    refine J.tN ?_
    refine J.seq ?_
    refine J.region ?_
    refine J.op rfl rfl rfl (V.mv rfl rfl) ?_
    refine J.op rfl rfl rfl (V.as rfl rfl) ?_
    refine J.nil ?_
    refine J.tN ?_
    refine J.ret ?_
    obtain rfl := B.e h0
    exact J.ret1 rfl rfl fun w H => ⟨(lenV v0 (p1_i.toNat + (p0_s.length - p2_j.toNat))), rfl, H.pick [0] (by decide)⟩

/-! ### slices.Clone[[]impl.Print,impl.Print]: function 32 -/
noncomputable def slices_Clone_impl_Print_impl_Print.f (p0_s : (List (Vector Int 64))) : Option ((List (Vector Int 64))) := bif (roomB ([] : List (Vector Int 64)).length p0_s.length 128) then (some (([] : List (Vector Int 64)) ++ p0_s)) else none
set_option maxRecDepth 100000 in
theorem slices_Clone_impl_Print_impl_Print.calls (v0 : Value) (p0_s : (List (Vector Int 64))) (r : (List (Vector Int 64))) (w : World) (H0 : Own [] w w []) (hS0 : SlE [] w v0 60 (eA .i16 64) p0_s) (h0 : slices_Clone_impl_Print_impl_Print.f p0_s = some r) :
    Calls Try.prog 32 #[v0] w (fun e w' => ∃ gh : Value, e = .returned (gh) ∧ Own [] w w' [.rowE gh 60 (eA .i16 64) r]) := by
  unfold slices_Clone_impl_Print_impl_Print.f at h0
  replace h0 := B.top h0
  refine calls_of_J (args := [v0]) Try.func32 rfl Try.ntmps32 rfl [(0, v0)] rfl H0 ?_
  refine J.seq ?_
  refine J.region ?_
  refine J.op rfl rfl rfl (V.as rfl rfl) ?_
  refine J.nil ?_
  refine J.tN ?_
  refine J.seq ?_
  refine J.seq ?_
  refine J.region ?_
  refine J.op rfl rfl rfl (V.mv rfl rfl) ?_
  refine J.op rfl rfl rfl (V.eqNil (fun _ _ => Sl.shape hS0) tl27 rfl rfl) ?_
  refine J.nil ?_
  refine J.tN ?_
  refine J.cond rfl (fun hB1 => ?_) (fun hB1 => ?_)
  · obtain rfl : p0_s = [] := Sl.nilLen hS0 hB1
    replace h0 : Option.bind (some ([] : List (Vector Int 64))) some = some r := by simpa [roomB] using h0
    refine J.seq ?_
    refine J.region ?_
    refine J.op rfl rfl rfl (V.as rfl rfl) ?_
    refine J.nil ?_
    refine J.tN ?_
    refine J.ret ?_
    refine J.tR ?_
    refine J.nilRow 60 (eA .i16 64) ?_
    obtain rfl := B.e h0
    exact J.ret1 rfl rfl fun w H => ⟨(.slice none 0 0), rfl, H.pick [0] (by decide)⟩
  · refine J.skip ?_
    refine J.tN ?_
    refine J.seq ?_
    refine J.region ?_
    refine J.bs (l := []) (cs := []) (E := 60) rfl rfl rfl rfl rfl (fun w => by kernel_rfl) fun b3 => ?_
    refine J.op rfl rfl rfl (V.mv rfl rfl) ?_
    refine J.blkRowE (eA .i16 64) ([] : List (Vector Int 64)) 0 rfl rfl rfl ?_
    obtain ⟨hC6, h0⟩ := B.chk h0
    obtain ⟨_, ti1, ti2, ti3, ti4⟩ := ti60
    refine J.ap2 (e := (eA .i16 64)) (xs := ([] : List (Vector Int 64))) 0 hS0 hC6 ti1 tl27 ti2 ti3 ti4 rfl rfl rfl rfl rfl rfl rfl rfl rfl fun v5 => ?_
    refine J.op rfl rfl rfl (V.as rfl rfl) ?_
    refine J.nil ?_
    refine J.tN ?_
    refine J.ret ?_
    obtain rfl := B.e h0
    exact J.ret1 rfl rfl fun w H => ⟨v5, rfl, H.pick [0] (by decide)⟩

/-! ### impl.DropFrame: function 8 -/
noncomputable def impl_DropFrame.f (p0_s : impl_Sheet) (p1_i : Int) : Option (impl_Sheet × Int) := (impl_sheetCode.f (⟨p0_s.Across, p0_s.Frames⟩ : impl_Sheet) [p1_i]).bind fun r7 => bif (r7 != 0) then (some ((⟨0, ([] : List (Vector Int 64))⟩ : impl_Sheet), r7)) else ((slices_Clone_impl_Print_impl_Print.f p0_s.Frames).bind fun r12 => (slices_Delete_impl_Print_impl_Print.f r12 p1_i (IntKind.wrap .i64 (p1_i + 1))).bind fun r16 => some ((⟨p0_s.Across, r16⟩ : impl_Sheet), 0))
set_option maxRecDepth 100000 in
theorem impl_DropFrame.calls (p0_s : impl_Sheet) (v0_Frames : Value) (p1_i : Int) (r : impl_Sheet × Int) (w : World) (H0 : Own [] w w []) (hS0_Frames : SlE [] w v0_Frames 60 (eA .i16 64) p0_s.Frames) (h0 : impl_DropFrame.f p0_s p1_i = some r) :
    Calls Try.prog 8 #[.agg #[.int .i8 p0_s.Across, v0_Frames], .int .i64 p1_i] w (fun e w' => ∃ gh : Value, e = .returned (.tuple #[.agg #[.int .i8 r.1.Across, gh], .int .i64 r.2]) ∧ Own [] w w' [.rowE gh 60 (eA .i16 64) r.1.Frames]) := by
  unfold impl_DropFrame.f at h0
  replace h0 := B.top h0
  refine calls_of_J (args := [.agg #[.int .i8 p0_s.Across, v0_Frames], .int .i64 p1_i]) Try.func8 rfl Try.ntmps8 rfl [(0, .agg #[.int .i8 p0_s.Across, v0_Frames]), (1, .int .i64 p1_i)] rfl H0 ?_
  refine J.seq ?_
  refine J.region ?_
  refine J.box rfl rfl rfl rfl rfl (fun _ _ => rfl) fun b1 => ?_
  refine J.alloc rfl rfl rfl rfl tz29 rfl fun b3 => ?_
  refine J.op rfl rfl rfl (V.as rfl rfl) ?_
  refine J.nil ?_
  refine J.tN ?_
  refine J.seq ?_
  refine J.seq ?_
  refine J.region ?_
  refine J.op rfl rfl rfl (V.ldW 1 rfl rfl rfl ts29 ta29 rfl) ?_
  refine J.op rfl rfl rfl (V.mv rfl rfl) ?_
  refine J.bs (l := [(0, .tmp 8)]) (cs := [.int .i64 p1_i]) (E := 2) rfl rfl rfl rfl rfl (fun w => by kernel_rfl) fun b5 => ?_
  refine J.blkRowE (eI .i64) [p1_i] 1 rfl rfl rfl ?_
  obtain ⟨r7, hr8, h0⟩ := B.bind h0
  refine J.clA (l := [.tmp 7, .tmp 9]) [] [.rowE (.slice (some ⟨b5, 0, none⟩) 1 1) 2 (eI .i64) [p1_i], .blk b3 [.int .i8 0, .slice none 0 0] 29, .blk b1 [.int .i8 p0_s.Across, v0_Frames] 29] cf30 (wN rfl) rfl rfl rfl rfl rfl rfl (fun w H => impl_sheetCode.calls (⟨p0_s.Across, p0_s.Frames⟩ : impl_Sheet) v0_Frames (.slice (some ⟨b5, 0, none⟩) 1 1) [p1_i] r7 w (Own.refl w) (Sl.laterA hS0_Frames H) (Own.slA 0 H rfl) hr8) fun g9 => ?_
  refine J.op rfl rfl rfl (V.as rfl rfl) ?_
  refine J.nil ?_
  refine J.tN ?_
  refine J.seq ?_
  refine J.region ?_
  refine J.op rfl rfl rfl (V.mv rfl rfl) ?_
  refine J.op rfl rfl rfl (V.cmp rfl rfl rfl rfl) ?_
  refine J.nil ?_
  refine J.tN ?_
  refine J.cond rfl (fun hB10 => ?_) (fun hB10 => ?_)
  · replace h0 := B.t hB10 h0
    refine J.seq ?_
    refine J.region ?_
    refine J.op rfl rfl rfl (V.bd (l := []) (v := .agg #[.int .i8 0, .slice none 0 0]) rfl rfl (fun w H => by kernel_rfl)) ?_
    refine J.op rfl rfl rfl (V.mv rfl rfl) ?_
    refine J.stW (cs' := [.int .i8 0, .slice none 0 0]) 1 rfl rfl rfl rfl rfl rfl ts29 rfl (fun _ H => (one_cons rfl (one_cons rfl one_nil))) rfl rfl ?_
    refine J.op rfl rfl rfl (V.as rfl rfl) ?_
    refine J.nil ?_
    refine J.tN ?_
    refine J.ret ?_
    refine J.tR ?_
    refine J.nilRow 60 (eA .i16 64) ?_
    obtain rfl := B.e h0
    exact J.retC_1 2 rfl rfl rfl ts29 ta29 rfl rfl fun w H => ⟨(.slice none 0 0), rfl, H.pick [0] (by decide)⟩
  · replace h0 := B.f hB10 h0
    refine J.skip ?_
    refine J.tN ?_
    refine J.seq ?_
    obtain ⟨r12, hr13, h0⟩ := B.bind h0
    obtain ⟨r16, hr17, h0⟩ := B.bind h0
    refine J.any 12 rfl [.rowE (.slice (some ⟨b5, 0, none⟩) 1 1) 2 (eI .i64) [p1_i], .blk b1 [.int .i8 p0_s.Across, v0_Frames] 29] mixed ?_
    refine JH.take (i := 0) [0, 2] rfl (by kernel_rfl) rfl rfl rfl rfl rfl (V.faB rfl rfl tf0_29) ?_
    refine JH.take (i := 1) [0, 2] rfl (by kernel_rfl) rfl rfl rfl rfl rfl (V.ldB 1 rfl rfl rfl Try.underlying22 ta22 rfl) ?_
    refine JH.take (i := 2) [0, 2] rfl (by kernel_rfl) rfl rfl rfl rfl rfl (V.faB rfl rfl tf1_29) ?_
    refine JH.take (i := 3) [0, 2] rfl (by kernel_rfl) rfl rfl rfl rfl rfl (V.ldB 1 rfl rfl rfl Try.underlying27 ta27 rfl) ?_
    refine JH.take (i := 5) [0, 2] rfl (by kernel_rfl) rfl rfl rfl rfl rfl (V.mv rfl rfl) ?_
    refine JH.take (i := 6) [0, 2] rfl (by kernel_rfl) rfl rfl rfl rfl rfl (V.mv rfl rfl) ?_
    refine JH.take (i := 7) [0, 2] rfl (by kernel_rfl) rfl rfl rfl rfl rfl (V.ar rfl rfl rfl rfl) ?_
    refine JH.all [4] (by kernel_rfl) rfl (JHall.cons (JH.op rfl ?_) (JHall.nil))
    refine J.clA (l := [.tmp 18]) [] [.rowE (.slice (some ⟨b5, 0, none⟩) 1 1) 2 (eI .i64) [p1_i], .blk b3 [.int .i8 0, .slice none 0 0] 29, .blk b1 [.int .i8 p0_s.Across, v0_Frames] 29] cf32 (wN rfl) rfl rfl rfl rfl rfl rfl (fun w H => slices_Clone_impl_Print_impl_Print.calls v0_Frames p0_s.Frames r12 w (Own.refl w) (Sl.laterA hS0_Frames H) hr13) fun g14 => ?_
    refine J.nil ?_
    refine JH.back [1, 3] rfl rfl ?_
    refine JH.all [8] (by kernel_rfl) rfl (JHall.cons (JH.op rfl ?_) (JHall.nil))
    refine J.clA (l := [.tmp 19, .tmp 20, .tmp 22]) [.rowE g14 60 (eA .i16 64) r12] [.rowE (.slice (some ⟨b5, 0, none⟩) 1 1) 2 (eI .i64) [p1_i], .blk b3 [.int .i8 0, .slice none 0 0] 29, .blk b1 [.int .i8 p0_s.Across, v0_Frames] 29] cf31 (wN rfl) rfl rfl rfl rfl rfl rfl (fun w H => slices_Delete_impl_Print_impl_Print.calls g14 r12 p1_i (IntKind.wrap .i64 (p1_i + 1)) r16 w H.enterA  hr17) fun g18 => ?_
    refine J.nil ?_
    refine JH.back [1, 3] rfl rfl ?_
    refine JH.all [9] (by kernel_rfl) rfl (JHall.cons (JH.op rfl ?_) (JHall.nil))
    refine J.op rfl rfl rfl (V.bd (l := [(0, .tmp 16), (1, .tmp 23)]) (v := .agg #[.int .i8 p0_s.Across, g18]) rfl rfl (fun w H => by obtain ⟨_, _, e1, _⟩ := (Own.sl0 0 H rfl).len; rw [e1]; kernel_rfl)) ?_
    refine J.nil ?_
    refine JH.back [1, 3] rfl rfl ?_
    refine JH.all [10] (by kernel_rfl) rfl (JHall.cons (JH.op rfl ?_) (JHall.nil))
    refine J.stW (cs' := [.int .i8 p0_s.Across, g18]) 2 rfl rfl rfl rfl rfl rfl ts29 rfl (fun _ H => (one_cons rfl (one_cons (Own.sl0 0 H rfl).one one_nil))) rfl rfl ?_
    refine J.nil ?_
    refine JH.back [1, 3] rfl rfl ?_
    refine JH.take (i := 11) [1, 3] rfl (by kernel_rfl) rfl rfl rfl rfl rfl (V.as rfl rfl) ?_
    refine JH.fin (by kernel_rfl) ?_
    refine J.tN ?_
    refine J.ret ?_
    obtain rfl := B.e h0
    exact J.retC_1 2 rfl rfl rfl ts29 ta29 rfl rfl fun w H => ⟨g18, rfl, H.pick [0] (by decide)⟩

/-! ### laws.eqPrint: function 49 -/
noncomputable def laws_eqPrint.b1 (p0_a : (Vector Int 64)) (p1_b : (Vector Int 64)) : Int → Option (Step (Int) (Sum (Unit) (Bool))) := fun s5 => bif (decide (s5 < 64)) then (bif (inB s5 64) then (bif (inB s5 64) then (bif ((rdA p0_a s5) != (rdA p1_b s5)) then (some (.done (.inr false))) else ((some (IntKind.wrap .i64 (s5 + 1))).bind fun i_12 => some (.next i_12))) else none) else none) else (some (.done (.inl ())))
noncomputable def laws_eqPrint.f (p0_a : (Vector Int 64)) (p1_b : (Vector Int 64)) : Option (Bool) := (loopW (laws_eqPrint.b1 p0_a p1_b) 0).bind (Sum.elim (fun y14 => some true) (fun r => some r))
set_option maxRecDepth 100000 in
theorem laws_eqPrint.calls (p0_a : (Vector Int 64)) (p1_b : (Vector Int 64)) (r : Bool) (w : World) (H0 : Own [] w w []) (h0 : laws_eqPrint.f p0_a p1_b = some r) :
    Calls Try.prog 49 #[.agg (encA .i16 p0_a).toArray, .agg (encA .i16 p1_b).toArray] w (fun e w' => ∃ _ : Unit, e = .returned (.bool r) ∧ Own [] w w' []) := by
  unfold laws_eqPrint.f at h0
  replace h0 := B.top h0
  refine calls_of_J (args := [.agg (encA .i16 p0_a).toArray, .agg (encA .i16 p1_b).toArray]) Try.func49 rfl Try.ntmps49 rfl [(0, .agg (encA .i16 p0_a).toArray), (1, .agg (encA .i16 p1_b).toArray)] rfl H0 ?_
  refine J.seq ?_
  refine J.region ?_
  refine J.box rfl rfl rfl rfl rfl (fun _ _ => rfl) fun b1 => ?_
  refine J.box rfl rfl rfl rfl rfl (fun _ _ => rfl) fun b3 => ?_
  refine J.op rfl rfl rfl (V.as rfl rfl) ?_
  refine J.nil ?_
  refine J.tN ?_
  refine J.seq ?_
  refine J.seq ?_
  refine J.region ?_
  refine J.op rfl rfl rfl (V.as rfl rfl) ?_
  refine J.nil ?_
  refine J.tN ?_
  obtain ⟨o16, hy15, h0⟩ := B.bind h0
  refine J.cutQ (γ := (Unit) × (Unit)) (fun gy14 => o16 = .inl gy14.1) (fun gy14 => []) (fun gy14 => [.blk b3 (encA .i16 p1_b) 60, .blk b1 (encA .i16 p0_a) 60]) ?_ ?_
  · refine J.block ?_
    refine J.loop (γ := Unit) hy15 (fun s5 g6 => [(2, bp b1 0), (3, bp b3 0), (5, .int .i64 s5)]) (fun s5 g6 => [.blk b3 (encA .i16 p1_b) 60, .blk b1 (encA .i16 p0_a) 60]) () ?_ ?_
    · exact J.keep _ rfl (J.pickE [0, 1] rfl rfl J.here)
    · intro rec7 s5 g6 h1
      unfold laws_eqPrint.b1 at h1
      refine J.seq ?_
      refine J.seq ?_
      refine J.region ?_
      refine J.op rfl rfl rfl (V.mv rfl rfl) ?_
      refine J.op rfl rfl rfl (V.cmp rfl rfl rfl rfl) ?_
      refine J.nil ?_
      refine J.tN ?_
      refine J.cond rfl (fun hB8 => ?_) (fun hB8 => ?_)
      · replace h1 := B.t hB8 h1
        refine J.skip ?_
        refine J.tN ?_
        refine J.seq ?_
        refine J.block ?_
        refine J.seq ?_
        refine J.quiet mixed (by kernel_rfl) ?_
        refine JQ.op rfl rfl rfl (V.mv rfl rfl) ?_
        obtain ⟨hC9, h1⟩ := B.chk h1
        refine JQ.op rfl rfl rfl (V.ixB rfl rfl rfl tr60 ts58 hC9) ?_
        refine JQ.op rfl rfl rfl (V.ldB 1 rfl rfl rfl Try.underlying58 ta58 (encA_get0 .i16 _ hC9)) ?_
        refine JQ.op rfl rfl rfl (V.mv rfl rfl) ?_
        obtain ⟨hC10, h1⟩ := B.chk h1
        refine JQ.op rfl rfl rfl (V.ixB rfl rfl rfl tr60 ts58 hC10) ?_
        refine JQ.op rfl rfl rfl (V.ldB 0 rfl rfl rfl Try.underlying58 ta58 (encA_get0 .i16 _ hC10)) ?_
        refine JQ.op rfl rfl rfl (V.cmp rfl rfl rfl rfl) ?_
        refine JQ.nil ?_
        refine J.tN ?_
        refine J.cond rfl (fun hB11 => ?_) (fun hB11 => ?_)
        · replace h1 := B.t hB11 h1
          refine J.seq ?_
          refine J.region ?_
          refine J.op rfl rfl rfl (V.as rfl rfl) ?_
          refine J.nil ?_
          refine J.tN ?_
          refine J.ret ?_
          refine J.bR ?_
          refine J.tR ?_
          refine J.tR ?_
          refine J.bR ?_
          refine J.tR ?_
          refine J.tR ?_
          obtain rfl := B.d h1
          replace h0 := B.inr h0
          obtain rfl := B.e h0
          exact J.ret1 rfl rfl fun w H => ⟨(), rfl, H.pick [] (by decide)⟩
        · replace h1 := B.f hB11 h1
          refine J.skip ?_
          refine J.bN ?_
          refine J.tN ?_
          refine J.region ?_
          refine J.op rfl rfl rfl (V.mv rfl rfl) ?_
          refine J.op rfl rfl rfl (V.ar rfl rfl rfl rfl) ?_
          refine J.op rfl rfl rfl (V.as rfl rfl) ?_
          obtain ⟨i_12, ei_12, h1⟩ := B.lt h1
          refine J.val (congrArg (Value.int .i64) ei_12) ?_
          refine J.nil ?_
          refine J.tN (J.next i_12 () (B.n h1) ?_)
          exact J.keep _ rfl (J.pickE [0, 1] rfl rfl J.here)
      · replace h1 := B.f hB8 h1
        refine J.exit ?_
        refine J.tE ?_
        refine J.tE ?_
        refine J.bE ?_
        obtain rfl := B.d h1
        refine J.tN (J.to ((), ()) rfl ?_)
        exact J.keep _ rfl (J.pickE [0, 1] rfl rfl J.here)
  · intro gy14 hG
    replace h0 := B.inl hG h0
    refine J.tN ?_
    refine J.seq ?_
    refine J.region ?_
    refine J.op rfl rfl rfl (V.as rfl rfl) ?_
    refine J.nil ?_
    refine J.tN ?_
    refine J.ret ?_
    obtain rfl := B.e h0
    exact J.ret1 rfl rfl fun w H => ⟨(), rfl, H.pick [] (by decide)⟩

/-! ### laws.eqPrintS: function 33 -/
noncomputable def laws_eqPrintS.b1 (p0_a : (List (Vector Int 64))) (p1_b : (List (Vector Int 64))) : Int → Option (Step (Int) (Sum (Unit) (Bool))) := fun s2 => bif (decide (s2 < (p0_a.length : Int))) then (bif (inB s2 p0_a.length) then (bif (inB s2 p1_b.length) then ((laws_eqPrint.f (rd (eA .i16 64) p0_a s2) (rd (eA .i16 64) p1_b s2)).bind fun r8 => bif (!r8) then (some (.done (.inr false))) else ((some (IntKind.wrap .i64 (s2 + 1))).bind fun i_12 => some (.next i_12))) else none) else none) else (some (.done (.inl ())))
noncomputable def laws_eqPrintS.f (p0_a : (List (Vector Int 64))) (p1_b : (List (Vector Int 64))) : Option (Bool) := bif ((p0_a.length : Int) != (p1_b.length : Int)) then (some false) else ((loopW (laws_eqPrintS.b1 p0_a p1_b) 0).bind (Sum.elim (fun y14 => some true) (fun r => some r)))
set_option maxRecDepth 100000 in
theorem laws_eqPrintS.calls (v0 : Value) (p0_a : (List (Vector Int 64))) (v1 : Value) (p1_b : (List (Vector Int 64))) (r : Bool) (w : World) (H0 : Own [] w w []) (hS0 : SlE [] w v0 60 (eA .i16 64) p0_a) (hS1 : SlE [] w v1 60 (eA .i16 64) p1_b) (h0 : laws_eqPrintS.f p0_a p1_b = some r) :
    Calls Try.prog 33 #[v0, v1] w (fun e w' => ∃ _ : Unit, e = .returned (.bool r) ∧ Own [] w w' []) := by
  unfold laws_eqPrintS.f at h0
  replace h0 := B.top h0
  refine calls_of_J (args := [v0, v1]) Try.func33 rfl Try.ntmps33 rfl [(0, v0), (1, v1)] rfl H0 ?_
  refine J.seq ?_
  refine J.region ?_
  refine J.op rfl rfl rfl (V.as rfl rfl) ?_
  refine J.nil ?_
  refine J.tN ?_
  refine J.seq ?_
  refine J.seq ?_
  refine J.region ?_
  refine J.op rfl rfl rfl (V.mv rfl rfl) ?_
  refine J.op rfl rfl rfl (V.lenS hS0 rfl rfl tl27) ?_
  refine J.op rfl rfl rfl (V.mv rfl rfl) ?_
  refine J.op rfl rfl rfl (V.lenS hS1 rfl rfl tl27) ?_
  refine J.op rfl rfl rfl (V.cmp rfl rfl rfl rfl) ?_
  refine J.nil ?_
  refine J.tN ?_
  refine J.cond rfl (fun hB1 => ?_) (fun hB1 => ?_)
  · replace h0 := B.t hB1 h0
    refine J.seq ?_
    refine J.region ?_
    refine J.op rfl rfl rfl (V.as rfl rfl) ?_
    refine J.nil ?_
    refine J.tN ?_
    refine J.ret ?_
    refine J.tR ?_
    obtain rfl := B.e h0
    exact J.ret1 rfl rfl fun w H => ⟨(), rfl, H.pick [] (by decide)⟩
  · replace h0 := B.f hB1 h0
    refine J.skip ?_
    refine J.tN ?_
    refine J.seq ?_
    refine J.seq ?_
    refine J.region ?_
    refine J.op rfl rfl rfl (V.as rfl rfl) ?_
    refine J.nil ?_
    refine J.tN ?_
    obtain ⟨o16, hy15, h0⟩ := B.bind h0
    refine J.cutQ (γ := (Unit) × (Unit)) (fun gy14 => o16 = .inl gy14.1) (fun gy14 => []) (fun gy14 => []) ?_ ?_
    · refine J.block ?_
      refine J.loop (γ := Unit) hy15 (fun s2 g3 => [(0, v0), (1, v1), (5, .int .i64 s2)]) (fun s2 g3 => []) () ?_ ?_
      · exact J.keep _ rfl (J.pickE [] rfl rfl J.here)
      · intro rec4 s2 g3 h1
        unfold laws_eqPrintS.b1 at h1
        refine J.seq ?_
        refine J.seq ?_
        refine J.region ?_
        refine J.op rfl rfl rfl (V.mv rfl rfl) ?_
        refine J.op rfl rfl rfl (V.mv rfl rfl) ?_
        refine J.op rfl rfl rfl (V.lenS hS0 rfl rfl tl27) ?_
        refine J.op rfl rfl rfl (V.cmp rfl rfl rfl rfl) ?_
        refine J.nil ?_
        refine J.tN ?_
        refine J.cond rfl (fun hB5 => ?_) (fun hB5 => ?_)
        · replace h1 := B.t hB5 h1
          refine J.skip ?_
          refine J.tN ?_
          refine J.seq ?_
          refine J.block ?_
          refine J.seq ?_
          refine J.quiet mixed (by kernel_rfl) ?_
          refine JQ.op rfl rfl rfl (V.mv rfl rfl) ?_
          refine JQ.op rfl rfl rfl (V.mv rfl rfl) ?_
          obtain ⟨hC6, h1⟩ := B.chk h1
          refine JQ.op rfl rfl rfl (V.ixS hS0 rfl rfl rfl tl27 ts60 hC6) ?_
          refine JQ.op rfl rfl rfl (V.elSA hS0 hC6 rfl rfl ts60 ta60) ?_
          refine JQ.op rfl rfl rfl (V.mv rfl rfl) ?_
          refine JQ.op rfl rfl rfl (V.mv rfl rfl) ?_
          obtain ⟨hC7, h1⟩ := B.chk h1
          refine JQ.op rfl rfl rfl (V.ixS hS1 rfl rfl rfl tl27 ts60 hC7) ?_
          refine JQ.op rfl rfl rfl (V.elSA hS1 hC7 rfl rfl ts60 ta60) ?_
          obtain ⟨r8, hr9, h1⟩ := B.bind h1
          refine JQ.clA (l := [.tmp 20, .tmp 24]) cf49 (wN rfl) rfl rfl rfl rfl rfl (fun w H => laws_eqPrint.calls (rd (eA .i16 64) p0_a s2) (rd (eA .i16 64) p1_b s2) r8 w (Own.refl w)  hr9) ?_
          refine JQ.op rfl rfl rfl (V.nt rfl rfl) ?_
          refine JQ.nil ?_
          refine J.tN ?_
          refine J.cond rfl (fun hB11 => ?_) (fun hB11 => ?_)
          · replace h1 := B.t hB11 h1
            refine J.seq ?_
            refine J.region ?_
            refine J.op rfl rfl rfl (V.as rfl rfl) ?_
            refine J.nil ?_
            refine J.tN ?_
            refine J.ret ?_
            refine J.bR ?_
            refine J.tR ?_
            refine J.tR ?_
            refine J.bR ?_
            refine J.tR ?_
            refine J.tR ?_
            obtain rfl := B.d h1
            replace h0 := B.inr h0
            obtain rfl := B.e h0
            exact J.ret1 rfl rfl fun w H => ⟨(), rfl, H.pick [] (by decide)⟩
          · replace h1 := B.f hB11 h1
            refine J.skip ?_
            refine J.bN ?_
            refine J.tN ?_
            refine J.region ?_
            refine J.op rfl rfl rfl (V.mv rfl rfl) ?_
            refine J.op rfl rfl rfl (V.ar rfl rfl rfl rfl) ?_
            refine J.op rfl rfl rfl (V.as rfl rfl) ?_
            obtain ⟨i_12, ei_12, h1⟩ := B.lt h1
            refine J.val (congrArg (Value.int .i64) ei_12) ?_
            refine J.nil ?_
            refine J.tN (J.next i_12 () (B.n h1) ?_)
            exact J.keep _ rfl (J.pickE [] rfl rfl J.here)
        · replace h1 := B.f hB5 h1
          refine J.exit ?_
          refine J.tE ?_
          refine J.tE ?_
          refine J.bE ?_
          obtain rfl := B.d h1
          refine J.tN (J.to ((), ()) rfl ?_)
          exact J.keep _ rfl (J.pickE [] rfl rfl J.here)
    · intro gy14 hG
      replace h0 := B.inl hG h0
      refine J.tN ?_
      refine J.seq ?_
      refine J.region ?_
      refine J.op rfl rfl rfl (V.as rfl rfl) ?_
      refine J.nil ?_
      refine J.tN ?_
      refine J.ret ?_
      obtain rfl := B.e h0
      exact J.ret1 rfl rfl fun w H => ⟨(), rfl, H.pick [] (by decide)⟩

/-! ### laws.eqSheet: function 9 -/
noncomputable def laws_eqSheet.f (p0_a : impl_Sheet) (p1_b : impl_Sheet) : Option (Bool) := bif (p0_a.Across != p1_b.Across) then (some false) else ((laws_eqPrintS.f p0_a.Frames p1_b.Frames).bind fun r6 => bif (!r6) then (some false) else (some true))
set_option maxRecDepth 100000 in
theorem laws_eqSheet.calls (p0_a : impl_Sheet) (v0_Frames : Value) (p1_b : impl_Sheet) (v1_Frames : Value) (r : Bool) (w : World) (H0 : Own [] w w []) (hS0_Frames : SlE [] w v0_Frames 60 (eA .i16 64) p0_a.Frames) (hS1_Frames : SlE [] w v1_Frames 60 (eA .i16 64) p1_b.Frames) (h0 : laws_eqSheet.f p0_a p1_b = some r) :
    Calls Try.prog 9 #[.agg #[.int .i8 p0_a.Across, v0_Frames], .agg #[.int .i8 p1_b.Across, v1_Frames]] w (fun e w' => ∃ _ : Unit, e = .returned (.bool r) ∧ Own [] w w' []) := by
  unfold laws_eqSheet.f at h0
  replace h0 := B.top h0
  refine calls_of_J (args := [.agg #[.int .i8 p0_a.Across, v0_Frames], .agg #[.int .i8 p1_b.Across, v1_Frames]]) Try.func9 rfl Try.ntmps9 rfl [(0, .agg #[.int .i8 p0_a.Across, v0_Frames]), (1, .agg #[.int .i8 p1_b.Across, v1_Frames])] rfl H0 ?_
  refine J.seq ?_
  refine J.region ?_
  refine J.box rfl rfl rfl rfl rfl (fun _ _ => rfl) fun b1 => ?_
  refine J.box rfl rfl rfl rfl rfl (fun _ _ => rfl) fun b3 => ?_
  refine J.op rfl rfl rfl (V.as rfl rfl) ?_
  refine J.nil ?_
  refine J.tN ?_
  refine J.seq ?_
  refine J.seq ?_
  refine J.region ?_
  refine J.op rfl rfl rfl (V.faB rfl rfl tf0_29) ?_
  refine J.op rfl rfl rfl (V.ldB 1 rfl rfl rfl Try.underlying22 ta22 rfl) ?_
  refine J.op rfl rfl rfl (V.faB rfl rfl tf0_29) ?_
  refine J.op rfl rfl rfl (V.ldB 0 rfl rfl rfl Try.underlying22 ta22 rfl) ?_
  refine J.op rfl rfl rfl (V.cmp rfl rfl rfl rfl) ?_
  refine J.nil ?_
  refine J.tN ?_
  refine J.cond rfl (fun hB5 => ?_) (fun hB5 => ?_)
  · replace h0 := B.t hB5 h0
    refine J.seq ?_
    refine J.region ?_
    refine J.op rfl rfl rfl (V.as rfl rfl) ?_
    refine J.nil ?_
    refine J.tN ?_
    refine J.ret ?_
    refine J.tR ?_
    obtain rfl := B.e h0
    exact J.ret1 rfl rfl fun w H => ⟨(), rfl, H.pick [] (by decide)⟩
  · replace h0 := B.f hB5 h0
    refine J.skip ?_
    refine J.tN ?_
    refine J.seq ?_
    refine J.seq ?_
    refine J.region ?_
    refine J.op rfl rfl rfl (V.faB rfl rfl tf1_29) ?_
    refine J.op rfl rfl rfl (V.ldB 1 rfl rfl rfl Try.underlying27 ta27 rfl) ?_
    refine J.op rfl rfl rfl (V.faB rfl rfl tf1_29) ?_
    refine J.op rfl rfl rfl (V.ldB 0 rfl rfl rfl Try.underlying27 ta27 rfl) ?_
    obtain ⟨r6, hr7, h0⟩ := B.bind h0
    refine J.clA (l := [.tmp 11, .tmp 13]) [] [.blk b3 [.int .i8 p1_b.Across, v1_Frames] 29, .blk b1 [.int .i8 p0_a.Across, v0_Frames] 29] cf33 (wN rfl) rfl rfl rfl rfl rfl rfl (fun w H => laws_eqPrintS.calls v0_Frames p0_a.Frames v1_Frames p1_b.Frames r6 w (Own.refl w) (Sl.laterA hS0_Frames H) (Sl.laterA hS1_Frames H) hr7) fun g8 => ?_
    refine J.op rfl rfl rfl (V.nt rfl rfl) ?_
    refine J.nil ?_
    refine J.tN ?_
    refine J.cond rfl (fun hB9 => ?_) (fun hB9 => ?_)
    · replace h0 := B.t hB9 h0
      refine J.seq ?_
      refine J.region ?_
      refine J.op rfl rfl rfl (V.as rfl rfl) ?_
      refine J.nil ?_
      refine J.tN ?_
      refine J.ret ?_
      refine J.tR ?_
      obtain rfl := B.e h0
      exact J.ret1 rfl rfl fun w H => ⟨(), rfl, H.pick [] (by decide)⟩
    · replace h0 := B.f hB9 h0
      refine J.skip ?_
      refine J.tN ?_
      refine J.seq ?_
      refine J.region ?_
      refine J.op rfl rfl rfl (V.as rfl rfl) ?_
      refine J.nil ?_
      refine J.tN ?_
      refine J.ret ?_
      obtain rfl := B.e h0
      exact J.ret1 rfl rfl fun w H => ⟨(), rfl, H.pick [] (by decide)⟩

/-! ### laws.markPrintS: function 34 -/
noncomputable def laws_markPrintS.b2 (s1 : Int × Int × (List (Vector Int 64))) : (Int × Int × (List (Vector Int 64))) → Option (Step (Int × Int × (List (Vector Int 64))) (Int × (List (Vector Int 64)))) := fun s5 => bif (decide (s5.2.1 < 64)) then (bif (inB s1.2.1 s5.2.2.length) then (bif (inB s5.2.1 64) then ((some (s5.2.2.set s1.2.1.toNat (wrA (rd (eA .i16 64) s5.2.2 s1.2.1) s5.2.1 (IntKind.wrap .i16 s5.1)))).bind fun w11 => (some (IntKind.wrap .i64 (s5.1 + 1))).bind fun k_12 => (some (IntKind.wrap .i64 (s5.2.1 + 1))).bind fun j_13 => some (.next (k_12, j_13, w11))) else none) else none) else (some (.done (s5.1, s5.2.2)))
noncomputable def laws_markPrintS.b1  : (Int × Int × (List (Vector Int 64))) → Option (Step (Int × Int × (List (Vector Int 64))) (Int × (List (Vector Int 64)))) := fun s1 => bif (decide (s1.2.1 < (s1.2.2.length : Int))) then ((loopW (laws_markPrintS.b2 s1) (s1.1, 0, s1.2.2)).bind fun y14 => (some (IntKind.wrap .i64 (s1.2.1 + 1))).bind fun i_17 => some (.next (y14.1, i_17, y14.2))) else (some (.done (s1.1, s1.2.2)))
noncomputable def laws_markPrintS.f (p0_a : (List (Vector Int 64))) (p1_k : Int) : Option (Int × (List (Vector Int 64))) := (loopW laws_markPrintS.b1 (p1_k, 0, p0_a)).bind fun y18 => some (y18.1, y18.2)
set_option maxRecDepth 100000 in
theorem laws_markPrintS.calls (v0 : Value) (p0_a : (List (Vector Int 64))) (p1_k : Int) (r : Int × (List (Vector Int 64))) (w : World) (H0 : Own (Mof [.rowE v0 60 (eA .i16 64) p0_a]) w w [.rowE v0 60 (eA .i16 64) p0_a]) (h0 : laws_markPrintS.f p0_a p1_k = some r) :
    Calls Try.prog 34 #[v0, .int .i64 p1_k] w (fun e w' => ∃ _ : Unit, e = .returned (.int .i64 r.1) ∧ Own (Mof [.rowE v0 60 (eA .i16 64) p0_a]) w w' [.rowE v0 60 (eA .i16 64) r.2]) := by
  unfold laws_markPrintS.f at h0
  replace h0 := B.top h0
  refine calls_of_J (args := [v0, .int .i64 p1_k]) Try.func34 rfl Try.ntmps34 rfl [(0, v0), (1, .int .i64 p1_k)] rfl H0 ?_
  refine J.seq ?_
  refine J.region ?_
  refine J.op rfl rfl rfl (V.as rfl rfl) ?_
  refine J.nil ?_
  refine J.tN ?_
  refine J.seq ?_
  refine J.seq ?_
  refine J.region ?_
  refine J.op rfl rfl rfl (V.as rfl rfl) ?_
  refine J.nil ?_
  refine J.tN ?_
  obtain ⟨y18, hy20, h0⟩ := B.bind h0
  refine J.cutQ (γ := Unit) (fun _ => True) (fun gy19 => [(1, .int .i64 y18.1)]) (fun gy19 => [.rowE v0 60 (eA .i16 64) y18.2]) ?_ ?_
  · refine J.block ?_
    refine J.loop (γ := Unit) hy20 (fun s1 g2 => [(0, v0), (1, .int .i64 s1.1), (5, .int .i64 s1.2.1)]) (fun s1 g2 => [.rowE v0 60 (eA .i16 64) s1.2.2]) () ?_ ?_
    · exact J.keep _ rfl (J.pickE [0] rfl rfl J.here)
    · intro rec3 s1 g2 h1
      unfold laws_markPrintS.b1 at h1
      refine J.seq ?_
      refine J.seq ?_
      refine J.region ?_
      refine J.op rfl rfl rfl (V.mv rfl rfl) ?_
      refine J.op rfl rfl rfl (V.mv rfl rfl) ?_
      refine J.op rfl rfl rfl (V.lenR 0 rfl rfl rfl tl27) ?_
      refine J.op rfl rfl rfl (V.cmp rfl rfl rfl rfl) ?_
      refine J.nil ?_
      refine J.tN ?_
      refine J.cond rfl (fun hB4 => ?_) (fun hB4 => ?_)
      · replace h1 := B.t hB4 h1
        refine J.skip ?_
        refine J.tN ?_
        refine J.seq ?_
        refine J.block ?_
        refine J.seq ?_
        refine J.region ?_
        refine J.op rfl rfl rfl (V.as rfl rfl) ?_
        refine J.nil ?_
        refine J.tN ?_
        obtain ⟨y14, hy16, h1⟩ := B.bind h1
        refine J.cutQ (γ := Unit) (fun _ => True) (fun gy15 => [(0, v0), (1, .int .i64 y14.1), (5, .int .i64 s1.2.1)]) (fun gy15 => [.rowE v0 60 (eA .i16 64) y14.2]) ?_ ?_
        · refine J.block ?_
          refine J.loop (γ := Unit) hy16 (fun s5 g6 => [(0, v0), (1, .int .i64 s5.1), (5, .int .i64 s1.2.1), (6, .int .i64 s5.2.1)]) (fun s5 g6 => [.rowE v0 60 (eA .i16 64) s5.2.2]) () ?_ ?_
          · exact J.keep _ rfl (J.pickE [0] rfl rfl J.here)
          · intro rec7 s5 g6 h2
            unfold laws_markPrintS.b2 at h2
            refine J.seq ?_
            refine J.seq ?_
            refine J.region ?_
            refine J.op rfl rfl rfl (V.mv rfl rfl) ?_
            refine J.op rfl rfl rfl (V.cmp rfl rfl rfl rfl) ?_
            refine J.nil ?_
            refine J.tN ?_
            refine J.cond rfl (fun hB8 => ?_) (fun hB8 => ?_)
            · replace h2 := B.t hB8 h2
              refine J.skip ?_
              refine J.tN ?_
              refine J.seq ?_
              refine J.block ?_
              refine J.seq ?_
              refine J.region ?_
              refine J.op rfl rfl rfl (V.mv rfl rfl) ?_
              refine J.op rfl rfl rfl (V.mv rfl rfl) ?_
              refine J.op rfl rfl rfl (V.mv rfl rfl) ?_
              refine J.op rfl rfl rfl (V.mv rfl rfl) ?_
              refine J.op rfl rfl rfl (V.conv rfl rfl Try.underlying3 Try.underlying58) ?_
              obtain ⟨hC9, h2⟩ := B.chk h2
              refine J.op rfl rfl rfl (V.ixR 0 rfl rfl rfl rfl tl27 ts60 hC9) ?_
              obtain ⟨hC10, h2⟩ := B.chk h2
              refine J.op rfl rfl rfl (V.ixER 0 rfl hC9 rfl rfl rfl tr60 ts58 hC10) ?_
              refine J.stEj (j := s5.2.1.toNat * 1) (e := (eA .i16 64)) (xs := s5.2.2) 0 (wrA (rd (eA .i16 64) s5.2.2 s1.2.1) s5.2.1 (IntKind.wrap .i16 s5.1)) hC9 (encA_set1 .i16 _ _ _).symm (encA_ltE hC10) rfl rfl rfl rfl rfl rfl ts58 (fun _ _ => rfl) ?_
              obtain ⟨w11, ew11, h2⟩ := B.lt h2
              refine J.setEnt 0 rfl (congrArg (fun q => Ent.rowE _ _ (eA .i16 64) q) ew11) ?_
              refine J.nil ?_
              refine J.tN ?_
              refine J.region ?_
              refine J.op rfl rfl rfl (V.mv rfl rfl) ?_
              refine J.op rfl rfl rfl (V.ar rfl rfl rfl rfl) ?_
              refine J.op rfl rfl rfl (V.as rfl rfl) ?_
              obtain ⟨k_12, ek_12, h2⟩ := B.lt h2
              refine J.val (congrArg (Value.int .i64) ek_12) ?_
              refine J.nil ?_
              refine J.bN ?_
              refine J.tN ?_
              refine J.region ?_
              refine J.op rfl rfl rfl (V.mv rfl rfl) ?_
              refine J.op rfl rfl rfl (V.ar rfl rfl rfl rfl) ?_
              refine J.op rfl rfl rfl (V.as rfl rfl) ?_
              obtain ⟨j_13, ej_13, h2⟩ := B.lt h2
              refine J.val (congrArg (Value.int .i64) ej_13) ?_
              refine J.nil ?_
              refine J.tN (J.next (k_12, j_13, w11) () (B.n h2) ?_)
              exact J.keep _ rfl (J.pickE [0] rfl rfl J.here)
            · replace h2 := B.f hB8 h2
              refine J.exit ?_
              refine J.tE ?_
              refine J.tE ?_
              refine J.bE ?_
              obtain rfl := B.d h2
              refine J.tN (J.to () trivial ?_)
              exact J.keep _ rfl (J.pickE [0] rfl rfl J.here)
        · intro gy15 _
          refine J.bN ?_
          refine J.tN ?_
          refine J.region ?_
          refine J.op rfl rfl rfl (V.mv rfl rfl) ?_
          refine J.op rfl rfl rfl (V.ar rfl rfl rfl rfl) ?_
          refine J.op rfl rfl rfl (V.as rfl rfl) ?_
          obtain ⟨i_17, ei_17, h1⟩ := B.lt h1
          refine J.val (congrArg (Value.int .i64) ei_17) ?_
          refine J.nil ?_
          refine J.tN (J.next (y14.1, i_17, y14.2) () (B.n h1) ?_)
          exact J.keep _ rfl (J.pickE [0] rfl rfl J.here)
      · replace h1 := B.f hB4 h1
        refine J.exit ?_
        refine J.tE ?_
        refine J.tE ?_
        refine J.bE ?_
        obtain rfl := B.d h1
        refine J.tN (J.to () trivial ?_)
        exact J.keep _ rfl (J.pickE [0] rfl rfl J.here)
  · intro gy19 _
    refine J.tN ?_
    refine J.seq ?_
    refine J.region ?_
    refine J.op rfl rfl rfl (V.mv rfl rfl) ?_
    refine J.op rfl rfl rfl (V.as rfl rfl) ?_
    refine J.nil ?_
    refine J.tN ?_
    refine J.ret ?_
    obtain rfl := B.e h0
    exact J.ret1 rfl rfl fun w H => ⟨(), rfl, H.pick [0] (by decide)⟩

end Go.Proofs.Ytnjabckgklafhaa
