/- Go functions as Lean functions, and that each call of theirs comes to just that: by a program written for this work (walk.py). No condition. -/
import Derived.Test.YtfbkabcpmcofpaaF0
namespace Go.Proofs.Ytfbkabcpmcofpaa
open Go Go.RowKit G
set_option linter.unusedVariables false

/-! ### impl.BrighterField: function 9 -/
noncomputable def impl_BrighterField.f (p0_s : (Vector Int 24)) (p1_a : Int) (p2_b : Int) : Option (Int × Int) := (impl_twoMeans.f p0_s p1_a p2_b).bind fun r3 => (some (r3.2.2 != 0)).bind fun t6 => bif t6 then (some (0, r3.2.2)) else ((some (decide (r3.2.1 < r3.1))).bind fun t8 => bif t8 then (some (1, 0)) else ((some (decide (r3.1 < r3.2.1))).bind fun t10 => bif t10 then (some ((-1), 0)) else (some (0, 0))))
set_option maxRecDepth 100000 in
theorem impl_BrighterField.calls (p0_s : (Vector Int 24)) (p1_a : Int) (p2_b : Int) (r : Int × Int) (w : World) (H0 : Own [] w w []) (h0 : impl_BrighterField.f p0_s p1_a p2_b = some r) :
    Calls Try.prog 9 #[.agg (encA .i8 p0_s).toArray, .int .u32 p1_a, .int .u32 p2_b] w (fun e w' => ∃ _ : Unit, e = .returned (.tuple #[.int .i64 r.1, .int .i64 r.2]) ∧ Own [] w w' []) := by
  unfold impl_BrighterField.f at h0
  replace h0 := B.top h0
  refine calls_of_J (args := [.agg (encA .i8 p0_s).toArray, .int .u32 p1_a, .int .u32 p2_b]) Try.func9 rfl Try.ntmps9 rfl [(0, .agg (encA .i8 p0_s).toArray), (1, .int .u32 p1_a), (2, .int .u32 p2_b)] rfl H0 ?_
  refine J.seq ?_
  refine J.region ?_
  refine J.box rfl rfl rfl rfl rfl (fun _ _ => rfl) fun b1 => ?_
  refine J.op rfl rfl rfl (V.as rfl rfl) ?_
  refine J.op rfl rfl rfl (V.as rfl rfl) ?_
  refine J.nil ?_
  refine J.tN ?_
  refine J.seq ?_
  refine J.region ?_
  refine J.op rfl rfl rfl (V.ldW 0 rfl rfl rfl ts26 ta26 (encA_len _ _)) ?_
  refine J.op rfl rfl rfl (V.mv rfl rfl) ?_
  refine J.op rfl rfl rfl (V.mv rfl rfl) ?_
  obtain ⟨r3, hr4, h0⟩ := B.bind h0
  refine J.cl (l := [.tmp 12, .tmp 13, .tmp 14]) [] [.blk b1 (encA .i8 p0_s) 26] cf30 (wN rfl) rfl rfl rfl rfl rfl rfl (by simp) (fun w H => impl_twoMeans.calls p0_s p1_a p2_b r3 w (Own.refl w)  hr4) fun g5 => ?_
  refine J.op rfl rfl rfl (V.mv rfl rfl) ?_
  refine J.op rfl rfl rfl (V.ex rfl rfl rfl) ?_
  refine J.op rfl rfl rfl (V.ex rfl rfl rfl) ?_
  refine J.op rfl rfl rfl (V.ex rfl rfl rfl) ?_
  refine J.op rfl rfl rfl (V.as rfl rfl) ?_
  refine J.op rfl rfl rfl (V.as rfl rfl) ?_
  refine J.op rfl rfl rfl (V.as rfl rfl) ?_
  refine J.nil ?_
  refine J.tN ?_
  refine J.seq ?_
  refine J.block ?_
  refine J.seq ?_
  refine J.region ?_
  refine J.op rfl rfl rfl (V.mv rfl rfl) ?_
  refine J.op rfl rfl rfl (V.cmp rfl rfl rfl rfl) ?_
  refine J.op rfl rfl rfl (V.as rfl rfl) ?_
  obtain ⟨t6, et6, h0⟩ := B.lt h0
  refine J.val (congrArg (Value.bool) et6) ?_
  refine J.nil ?_
  refine J.tN ?_
  refine J.cond rfl (fun hB7 => ?_) (fun hB7 => ?_)
  · replace h0 := B.t hB7 h0
    refine J.seq ?_
    refine J.region ?_
    refine J.op rfl rfl rfl (V.mv rfl rfl) ?_
    refine J.op rfl rfl rfl (V.as rfl rfl) ?_
    refine J.op rfl rfl rfl (V.as rfl rfl) ?_
    refine J.nil ?_
    refine J.tN ?_
    refine J.ret ?_
    refine J.bR ?_
    refine J.tR ?_
    obtain rfl := B.e h0
    exact J.ret2 rfl rfl rfl fun w H => ⟨(), rfl, H.pick [] (by decide)⟩
  · replace h0 := B.f hB7 h0
    refine J.seq ?_
    refine J.region ?_
    refine J.op rfl rfl rfl (V.mv rfl rfl) ?_
    refine J.op rfl rfl rfl (V.mv rfl rfl) ?_
    refine J.op rfl rfl rfl (V.cmp rfl rfl rfl rfl) ?_
    refine J.op rfl rfl rfl (V.as rfl rfl) ?_
    obtain ⟨t8, et8, h0⟩ := B.lt h0
    refine J.val (congrArg (Value.bool) et8) ?_
    refine J.nil ?_
    refine J.tN ?_
    refine J.cond rfl (fun hB9 => ?_) (fun hB9 => ?_)
    · replace h0 := B.t hB9 h0
      refine J.seq ?_
      refine J.region ?_
      refine J.op rfl rfl rfl (V.as rfl rfl) ?_
      refine J.op rfl rfl rfl (V.as rfl rfl) ?_
      refine J.nil ?_
      refine J.tN ?_
      refine J.ret ?_
      refine J.bR ?_
      refine J.tR ?_
      obtain rfl := B.e h0
      exact J.ret2 rfl rfl rfl fun w H => ⟨(), rfl, H.pick [] (by decide)⟩
    · replace h0 := B.f hB9 h0
      refine J.seq ?_
      refine J.region ?_
      refine J.op rfl rfl rfl (V.mv rfl rfl) ?_
      refine J.op rfl rfl rfl (V.mv rfl rfl) ?_
      refine J.op rfl rfl rfl (V.cmp rfl rfl rfl rfl) ?_
      refine J.op rfl rfl rfl (V.as rfl rfl) ?_
      obtain ⟨t10, et10, h0⟩ := B.lt h0
      refine J.val (congrArg (Value.bool) et10) ?_
      refine J.nil ?_
      refine J.tN ?_
      refine J.cond rfl (fun hB11 => ?_) (fun hB11 => ?_)
      · replace h0 := B.t hB11 h0
        refine J.seq ?_
        refine J.region ?_
        refine J.op rfl rfl rfl (V.as rfl rfl) ?_
        refine J.op rfl rfl rfl (V.as rfl rfl) ?_
        refine J.nil ?_
        refine J.tN ?_
        refine J.ret ?_
        refine J.bR ?_
        refine J.tR ?_
        obtain rfl := B.e h0
        exact J.ret2 rfl rfl rfl fun w H => ⟨(), rfl, H.pick [] (by decide)⟩
      · replace h0 := B.f hB11 h0
        refine J.skip ?_
        refine J.bN ?_
        refine J.tN ?_
        refine J.seq ?_
        refine J.region ?_
        refine J.op rfl rfl rfl (V.as rfl rfl) ?_
        refine J.op rfl rfl rfl (V.as rfl rfl) ?_
        refine J.nil ?_
        refine J.tN ?_
        refine J.ret ?_
        obtain rfl := B.e h0
        exact J.ret2 rfl rfl rfl fun w H => ⟨(), rfl, H.pick [] (by decide)⟩

/-! ### spec.l00In: function 66 -/
noncomputable def spec_l00In.f (p0_n : Int) (p1_low : Int) (p2_high : Int) : Option (Bool) := bif (decide (p1_low ≤ p0_n)) then ((some (decide (p0_n ≤ p2_high))).bind fun t2 => some t2) else (some false)
set_option maxRecDepth 100000 in
theorem spec_l00In.calls (p0_n : Int) (p1_low : Int) (p2_high : Int) (r : Bool) (w : World) (H0 : Own [] w w []) (h0 : spec_l00In.f p0_n p1_low p2_high = some r) :
    Calls Try.prog 66 #[.int .i64 p0_n, .int .i64 p1_low, .int .i64 p2_high] w (fun e w' => ∃ _ : Unit, e = .returned (.bool r) ∧ Own [] w w' []) := by
  unfold spec_l00In.f at h0
  replace h0 := B.top h0
  refine calls_of_J (args := [.int .i64 p0_n, .int .i64 p1_low, .int .i64 p2_high]) Try.func66 rfl Try.ntmps66 rfl [(0, .int .i64 p0_n), (1, .int .i64 p1_low), (2, .int .i64 p2_high)] rfl H0 ?_
  refine J.seq ?_
  refine J.region ?_
  refine J.op rfl rfl rfl (V.as rfl rfl) ?_
  refine J.nil ?_
  refine J.tN ?_
  refine J.seq ?_
  refine J.region ?_
  refine J.op rfl rfl rfl (V.mv rfl rfl) ?_
  refine J.op rfl rfl rfl (V.mv rfl rfl) ?_
  refine J.op rfl rfl rfl (V.cmp rfl rfl rfl rfl) ?_
  refine J.op rfl rfl rfl (V.mv rfl rfl) ?_
  refine J.split 10 rfl (fun hB1 => ?_) (fun hB1 => ?_)
  · replace h0 := B.t hB1 h0
    refine J.opOn rfl rfl rfl rfl rfl (V.mv rfl rfl) ?_
    refine J.opOn rfl rfl rfl rfl rfl (V.mv rfl rfl) ?_
    refine J.opOn rfl rfl rfl rfl rfl (V.cmp rfl rfl rfl rfl) ?_
    refine J.op rfl rfl rfl (V.pkT rfl rfl rfl) ?_
    refine J.op rfl rfl rfl (V.as rfl rfl) ?_
    obtain ⟨t2, et2, h0⟩ := B.lt h0
    refine J.val (congrArg (Value.bool) et2) ?_
    refine J.nil ?_
    refine J.tN ?_
    refine J.ret ?_
    obtain rfl := B.e h0
    exact J.ret1 rfl rfl fun w H => ⟨(), rfl, H.pick [] (by decide)⟩
  · replace h0 := B.f hB1 h0
    refine J.opOff rfl rfl rfl rfl rfl rfl ?_
    refine J.opOff rfl rfl rfl rfl rfl rfl ?_
    refine J.opOff rfl rfl rfl rfl rfl rfl ?_
    refine J.op rfl rfl rfl (V.pkF rfl rfl rfl) ?_
    refine J.op rfl rfl rfl (V.as rfl rfl) ?_
    refine J.nil ?_
    refine J.tN ?_
    refine J.ret ?_
    obtain rfl := B.e h0
    exact J.ret1 rfl rfl fun w H => ⟨(), rfl, H.pick [] (by decide)⟩

/-! ### spec.l06Reading: function 91 -/
noncomputable def spec_l06Reading.f (p0_n : Int) : Option (Bool) := (spec_l00In.f p0_n 0 60).bind fun r1 => some r1
set_option maxRecDepth 100000 in
theorem spec_l06Reading.calls (p0_n : Int) (r : Bool) (w : World) (H0 : Own [] w w []) (h0 : spec_l06Reading.f p0_n = some r) :
    Calls Try.prog 91 #[.int .i64 p0_n] w (fun e w' => ∃ _ : Unit, e = .returned (.bool r) ∧ Own [] w w' []) := by
  unfold spec_l06Reading.f at h0
  replace h0 := B.top h0
  refine calls_of_J (args := [.int .i64 p0_n]) Try.func91 rfl Try.ntmps91 rfl [(0, .int .i64 p0_n)] rfl H0 ?_
  refine J.seq ?_
  refine J.region ?_
  refine J.op rfl rfl rfl (V.as rfl rfl) ?_
  refine J.nil ?_
  refine J.tN ?_
  refine J.seq ?_
  refine J.region ?_
  refine J.op rfl rfl rfl (V.mv rfl rfl) ?_
  obtain ⟨r1, hr2, h0⟩ := B.bind h0
  refine J.cl (l := [.tmp 3, .const (.int .i64 0), .const (.int .i64 60)]) [] [] cf66 (wN rfl) rfl rfl rfl rfl rfl rfl (by simp) (fun w H => spec_l00In.calls p0_n 0 60 r1 w (Own.refl w)  hr2) fun g3 => ?_
  refine J.op rfl rfl rfl (V.as rfl rfl) ?_
  refine J.nil ?_
  refine J.tN ?_
  refine J.ret ?_
  obtain rfl := B.e h0
  exact J.ret1 rfl rfl fun w H => ⟨(), rfl, H.pick [] (by decide)⟩

/-! ### spec.l06Ok: function 59 -/
noncomputable def spec_l06Ok.b1 (p0_s : (Vector Int 24)) : Int → Option (Step (Int) (Sum (Unit) (Bool))) := fun s1 => bif (decide (s1 < 24)) then (bif (inB s1 24) then ((spec_l06Reading.f (IntKind.wrap .i64 (rdA p0_s s1))).bind fun r6 => bif (!r6) then (some (.done (.inr false))) else ((some (IntKind.wrap .i64 (s1 + 1))).bind fun i_10 => some (.next i_10))) else none) else (some (.done (.inl ())))
noncomputable def spec_l06Ok.f (p0_s : (Vector Int 24)) : Option (Bool) := (loopW (spec_l06Ok.b1 p0_s) 0).bind (Sum.elim (fun y12 => some true) (fun r => some r))
set_option maxRecDepth 100000 in
theorem spec_l06Ok.calls (b0_ : Nat) (p0_s : (Vector Int 24)) (r : Bool) (w : World) (H0 : Own [b0_] w w [.blk b0_ (encA .i8 p0_s) 26]) (h0 : spec_l06Ok.f p0_s = some r) :
    Calls Try.prog 59 #[bp b0_ 0] w (fun e w' => ∃ _ : Unit, e = .returned (.bool r) ∧ Own [b0_] w w' [.blk b0_ (encA .i8 p0_s) 26]) := by
  unfold spec_l06Ok.f at h0
  replace h0 := B.top h0
  refine calls_of_J (args := [bp b0_ 0]) Try.func59 rfl Try.ntmps59 rfl [(0, bp b0_ 0)] rfl H0 ?_
  refine J.seq ?_
  refine J.region ?_
  refine J.op rfl rfl rfl (V.as rfl rfl) ?_
  refine J.nil ?_
  refine J.tN ?_
  refine J.seq ?_
  refine J.seq ?_
  refine J.region ?_
  refine J.op rfl rfl rfl (V.as rfl rfl) ?_
  refine J.nil ?_
  refine J.tN ?_
  obtain ⟨o14, hy13, h0⟩ := B.bind h0
  refine J.cutQ (γ := (Unit) × (Unit)) (fun gy12 => o14 = .inl gy12.1) (fun gy12 => []) (fun gy12 => [.blk b0_ (encA .i8 p0_s) 26]) ?_ ?_
  · refine J.block ?_
    refine J.loop (γ := Unit) hy13 (fun s1 g2 => [(0, bp b0_ 0), (3, .int .i64 s1)]) (fun s1 g2 => [.blk b0_ (encA .i8 p0_s) 26]) () ?_ ?_
    · exact J.keep _ rfl (J.pickE [0] rfl rfl J.here)
    · intro rec3 s1 g2 h1
      unfold spec_l06Ok.b1 at h1
      refine J.seq ?_
      refine J.seq ?_
      refine J.region ?_
      refine J.op rfl rfl rfl (V.mv rfl rfl) ?_
      refine J.op rfl rfl rfl (V.cmp rfl rfl rfl rfl) ?_
      refine J.nil ?_
      refine J.tN ?_
      refine J.cond rfl (fun hB4 => ?_) (fun hB4 => ?_)
      · replace h1 := B.t hB4 h1
        refine J.skip ?_
        refine J.tN ?_
        refine J.seq ?_
        refine J.block ?_
        refine J.seq ?_
        refine J.region ?_
        refine J.op rfl rfl rfl (V.mv rfl rfl) ?_
        refine J.op rfl rfl rfl (V.mv rfl rfl) ?_
        refine J.op rfl rfl rfl (V.nc rfl rfl) ?_
        obtain ⟨hC5, h1⟩ := B.chk h1
        refine J.op rfl rfl rfl (V.ixB rfl rfl rfl tr26 ts24 hC5) ?_
        refine J.op rfl rfl rfl (V.ldB 0 rfl rfl rfl Try.underlying24 ta24 (encA_get0 .i8 _ hC5)) ?_
        refine J.op rfl rfl rfl (V.conv rfl rfl Try.underlying24 Try.underlying2) ?_
        obtain ⟨r6, hr7, h1⟩ := B.bind h1
        refine J.cl (l := [.tmp 13]) [] [.blk b0_ (encA .i8 p0_s) 26] cf91 (wN rfl) rfl rfl rfl rfl rfl rfl (by simp) (fun w H => spec_l06Reading.calls (IntKind.wrap .i64 (rdA p0_s s1)) r6 w (Own.refl w)  hr7) fun g8 => ?_
        refine J.op rfl rfl rfl (V.nt rfl rfl) ?_
        refine J.nil ?_
        refine J.tN ?_
        refine J.cond rfl (fun hB9 => ?_) (fun hB9 => ?_)
        · replace h1 := B.t hB9 h1
          refine J.seq ?_
          refine J.region ?_
          refine J.op rfl rfl rfl (V.as rfl rfl) ?_
          refine J.nil ?_
          refine J.tN ?_
          refine J.ret ?_
          refine J.bR ?_
          refine J.tR ?_
          refine J.tR ?_
          refine J.bR ?_
          refine J.tR ?_
          refine J.tR ?_
          obtain rfl := B.d h1
          replace h0 := B.inr h0
          obtain rfl := B.e h0
          exact J.ret1 rfl rfl fun w H => ⟨(), rfl, H.pick [0] (by decide)⟩
        · replace h1 := B.f hB9 h1
          refine J.skip ?_
          refine J.bN ?_
          refine J.tN ?_
          refine J.region ?_
          refine J.op rfl rfl rfl (V.mv rfl rfl) ?_
          refine J.op rfl rfl rfl (V.ar rfl rfl rfl rfl) ?_
          refine J.op rfl rfl rfl (V.as rfl rfl) ?_
          obtain ⟨i_10, ei_10, h1⟩ := B.lt h1
          refine J.val (congrArg (Value.int .i64) ei_10) ?_
          refine J.nil ?_
          refine J.tN (J.next i_10 () (B.n h1) ?_)
          exact J.keep _ rfl (J.pickE [0] rfl rfl J.here)
      · replace h1 := B.f hB4 h1
        refine J.exit ?_
        refine J.tE ?_
        refine J.tE ?_
        refine J.bE ?_
        obtain rfl := B.d h1
        refine J.tN (J.to ((), ()) rfl ?_)
        exact J.keep _ rfl (J.pickE [0] rfl rfl J.here)
  · intro gy12 hG
    replace h0 := B.inl hG h0
    refine J.tN ?_
    refine J.seq ?_
    refine J.region ?_
    refine J.op rfl rfl rfl (V.as rfl rfl) ?_
    refine J.nil ?_
    refine J.tN ?_
    refine J.ret ?_
    obtain rfl := B.e h0
    exact J.ret1 rfl rfl fun w H => ⟨(), rfl, H.pick [0] (by decide)⟩

/-! ### spec.l06Counts: function 60 -/
noncomputable def spec_l06Counts.b1 (p0_field : Int) : (Int × (Vector Int 24)) → Option (Step (Int × (Vector Int 24)) ((Vector Int 24))) := fun s6 => bif (decide (s6.1 < 24)) then (bif (decide (0 ≤ (IntKind.wrap .u64 s6.1))) then (bif (inB s6.1 24) then ((some (wrA s6.2 s6.1 (IntKind.wrap .i64 (Int.tmod (shR .u32 p0_field (IntKind.wrap .u64 s6.1)) 2)))).bind fun m12 => (some (IntKind.wrap .i64 (s6.1 + 1))).bind fun i_13 => some (.next (i_13, m12))) else none) else none) else (some (.done s6.2))
noncomputable def spec_l06Counts.f (p0_field : Int) : Option ((Vector Int 24)) := (some (zA 24)).bind fun m5 => (loopW (spec_l06Counts.b1 p0_field) (0, m5)).bind fun y14 => some y14
set_option maxRecDepth 100000 in
theorem spec_l06Counts.calls (p0_field : Int) (r : (Vector Int 24)) (w : World) (H0 : Own [] w w []) (h0 : spec_l06Counts.f p0_field = some r) :
    Calls Try.prog 60 #[.int .u32 p0_field] w (fun e w' => ∃ _ : Unit, e = .returned (.agg (encA .i64 r).toArray) ∧ Own [] w w' []) := by
  unfold spec_l06Counts.f at h0
  replace h0 := B.top h0
  refine calls_of_J (args := [.int .u32 p0_field]) Try.func60 rfl Try.ntmps60 rfl [(0, .int .u32 p0_field)] rfl H0 ?_
  refine J.seq ?_
  refine J.region ?_
  refine J.alloc rfl rfl rfl rfl tz96 rfl fun b1 => ?_
  refine J.nil ?_
  refine J.tN ?_
  refine J.seq ?_
  refine J.region ?_
  refine J.op rfl rfl rfl (V.bd (l := []) (v := .agg (encA .i64 (zA 24)).toArray) rfl rfl (fun w H => by kernel_rfl)) ?_
  refine J.alloc rfl rfl rfl rfl tz96 rfl fun b3 => ?_
  refine J.stW (cs' := encA .i64 (zA 24)) 0 rfl rfl rfl rfl rfl rfl ts96 rfl (encA_one .i64 _) (encA_len _ _) (encA_len _ _) ?_
  obtain ⟨m5, em5, h0⟩ := B.lt h0
  refine J.setEnt 0 rfl (congrArg (fun q => Ent.blk _ (encA .i64 q) _) em5) ?_
  refine J.nil ?_
  refine J.tN ?_
  refine J.seq ?_
  refine J.seq ?_
  refine J.region ?_
  refine J.op rfl rfl rfl (V.as rfl rfl) ?_
  refine J.nil ?_
  refine J.tN ?_
  obtain ⟨y14, hy16, h0⟩ := B.bind h0
  refine J.cutQ (γ := Unit) (fun _ => True) (fun gy15 => [(2, bp b1 0), (3, bp b3 0)]) (fun gy15 => [.blk b3 (encA .i64 y14) 96, .blk b1 (encA .i64 (zA 24)) 96]) ?_ ?_
  · refine J.block ?_
    refine J.loop (γ := Unit) hy16 (fun s6 g7 => [(0, .int .u32 p0_field), (2, bp b1 0), (3, bp b3 0), (4, .int .i64 s6.1)]) (fun s6 g7 => [.blk b3 (encA .i64 s6.2) 96, .blk b1 (encA .i64 (zA 24)) 96]) () ?_ ?_
    · exact J.keep _ rfl (J.pickE [0, 1] rfl rfl J.here)
    · intro rec8 s6 g7 h1
      unfold spec_l06Counts.b1 at h1
      refine J.seq ?_
      refine J.seq ?_
      refine J.region ?_
      refine J.op rfl rfl rfl (V.mv rfl rfl) ?_
      refine J.op rfl rfl rfl (V.cmp rfl rfl rfl rfl) ?_
      refine J.nil ?_
      refine J.tN ?_
      refine J.cond rfl (fun hB9 => ?_) (fun hB9 => ?_)
      · replace h1 := B.t hB9 h1
        refine J.skip ?_
        refine J.tN ?_
        refine J.seq ?_
        refine J.block ?_
        refine J.region ?_
        refine J.op rfl rfl rfl (V.mv rfl rfl) ?_
        refine J.op rfl rfl rfl (V.mv rfl rfl) ?_
        refine J.op rfl rfl rfl (V.mv rfl rfl) ?_
        refine J.op rfl rfl rfl (V.conv rfl rfl Try.underlying3 Try.underlying95) ?_
        obtain ⟨hC10, h1⟩ := B.chk h1
        refine J.op rfl rfl rfl (V.shr rfl rfl rfl hC10) ?_
        refine J.op rfl rfl rfl (V.rem rfl rfl rfl rfl) ?_
        refine J.op rfl rfl rfl (V.conv rfl rfl Try.underlying28 Try.underlying2) ?_
        obtain ⟨hC11, h1⟩ := B.chk h1
        refine J.op rfl rfl rfl (V.ixB rfl rfl rfl tr96 ts2 hC11) ?_
        refine J.stB 0 rfl rfl rfl rfl rfl rfl ts2 (fun _ _ => rfl) (encA_lt .i64 _ hC11) ?_
        refine J.setEnt 0 rfl (congrArg (fun q => Ent.blk _ q _) (encA_set .i64 _ _ _)) ?_
        obtain ⟨m12, em12, h1⟩ := B.lt h1
        refine J.setEnt 0 rfl (congrArg (fun q => Ent.blk _ (encA .i64 q) _) em12) ?_
        refine J.nil ?_
        refine J.bN ?_
        refine J.tN ?_
        refine J.region ?_
        refine J.op rfl rfl rfl (V.mv rfl rfl) ?_
        refine J.op rfl rfl rfl (V.ar rfl rfl rfl rfl) ?_
        refine J.op rfl rfl rfl (V.as rfl rfl) ?_
        obtain ⟨i_13, ei_13, h1⟩ := B.lt h1
        refine J.val (congrArg (Value.int .i64) ei_13) ?_
        refine J.nil ?_
        refine J.tN (J.next (i_13, m12) () (B.n h1) ?_)
        exact J.keep _ rfl (J.pickE [0, 1] rfl rfl J.here)
      · replace h1 := B.f hB9 h1
        refine J.exit ?_
        refine J.tE ?_
        refine J.tE ?_
        refine J.bE ?_
        obtain rfl := B.d h1
        refine J.tN (J.to () trivial ?_)
        exact J.keep _ rfl (J.pickE [0, 1] rfl rfl J.here)
  · intro gy15 _
    refine J.tN ?_
    refine J.seq ?_
    refine J.region ?_
    refine J.op rfl rfl rfl (V.ldW 0 rfl rfl rfl ts96 ta96 (encA_len _ _)) ?_
    refine J.stW (cs' := encA .i64 y14) 1 rfl rfl rfl rfl rfl rfl ts96 rfl (encA_one .i64 _) (encA_len _ _) (encA_len _ _) ?_
    refine J.nil ?_
    refine J.tN ?_
    refine J.ret ?_
    obtain rfl := B.e h0
    exact J.retC 1 rfl rfl rfl ts96 ta96 (encA_len _ _) fun w H => ⟨(), rfl, H.pick [] (by decide)⟩

/-! ### spec.l06Mean: function 61 -/
noncomputable def spec_l06Mean.b1 (p0_s : (Vector Int 24)) (p1_counts : (Vector Int 24)) : (Int × Int × Int) → Option (Step (Int × Int × Int) (Int × Int)) := fun s1 => bif (decide (s1.2.2 < 24)) then (bif (inB s1.2.2 24) then (bif (inB s1.2.2 24) then ((some (IntKind.wrap .i64 (s1.1 + (IntKind.wrap .i64 ((rdA p1_counts s1.2.2) * (IntKind.wrap .i64 (rdA p0_s s1.2.2))))))).bind fun sum_7 => bif (inB s1.2.2 24) then ((some (IntKind.wrap .i64 (s1.2.1 + (rdA p1_counts s1.2.2)))).bind fun n_9 => (some (IntKind.wrap .i64 (s1.2.2 + 1))).bind fun i_10 => some (.next (sum_7, n_9, i_10))) else none) else none) else none) else (some (.done (s1.1, s1.2.1)))
noncomputable def spec_l06Mean.f (p0_s : (Vector Int 24)) (p1_counts : (Vector Int 24)) : Option (Int) := (loopW (spec_l06Mean.b1 p0_s p1_counts) (0, 0, 0)).bind fun y11 => bif (!(y11.2 == 0)) then ((some (IntKind.wrap .i64 (Int.tdiv y11.1 y11.2))).bind fun t15 => some t15) else none
set_option maxRecDepth 100000 in
theorem spec_l06Mean.calls (b0_ : Nat) (p0_s : (Vector Int 24)) (b1_ : Nat) (p1_counts : (Vector Int 24)) (r : Int) (w : World) (H0 : Own [b0_, b1_] w w [.blk b0_ (encA .i8 p0_s) 26, .blk b1_ (encA .i64 p1_counts) 96]) (h0 : spec_l06Mean.f p0_s p1_counts = some r) :
    Calls Try.prog 61 #[bp b0_ 0, bp b1_ 0] w (fun e w' => ∃ _ : Unit, e = .returned (.int .i64 r) ∧ Own [b0_, b1_] w w' [.blk b0_ (encA .i8 p0_s) 26, .blk b1_ (encA .i64 p1_counts) 96]) := by
  unfold spec_l06Mean.f at h0
  replace h0 := B.top h0
  refine calls_of_J (args := [bp b0_ 0, bp b1_ 0]) Try.func61 rfl Try.ntmps61 rfl [(0, bp b0_ 0), (1, bp b1_ 0)] rfl H0 ?_
  refine J.seq ?_
  refine J.region ?_
  refine J.op rfl rfl rfl (V.as rfl rfl) ?_
  refine J.nil ?_
  refine J.tN ?_
  refine J.seq ?_
  refine J.region ?_
  refine J.op rfl rfl rfl (V.as rfl rfl) ?_
  refine J.nil ?_
  refine J.tN ?_
  refine J.seq ?_
  refine J.region ?_
  refine J.op rfl rfl rfl (V.as rfl rfl) ?_
  refine J.nil ?_
  refine J.tN ?_
  refine J.seq ?_
  refine J.seq ?_
  refine J.region ?_
  refine J.op rfl rfl rfl (V.as rfl rfl) ?_
  refine J.nil ?_
  refine J.tN ?_
  obtain ⟨y11, hy13, h0⟩ := B.bind h0
  refine J.cutQ (γ := Unit) (fun _ => True) (fun gy12 => [(5, .int .i64 y11.1), (6, .int .i64 y11.2)]) (fun gy12 => [.blk b0_ (encA .i8 p0_s) 26, .blk b1_ (encA .i64 p1_counts) 96]) ?_ ?_
  · refine J.block ?_
    refine J.loop (γ := Unit) hy13 (fun s1 g2 => [(0, bp b0_ 0), (1, bp b1_ 0), (5, .int .i64 s1.1), (6, .int .i64 s1.2.1), (7, .int .i64 s1.2.2)]) (fun s1 g2 => [.blk b0_ (encA .i8 p0_s) 26, .blk b1_ (encA .i64 p1_counts) 96]) () ?_ ?_
    · exact J.keep _ rfl (J.pickE [0, 1] rfl rfl J.here)
    · intro rec3 s1 g2 h1
      unfold spec_l06Mean.b1 at h1
      refine J.seq ?_
      refine J.seq ?_
      refine J.region ?_
      refine J.op rfl rfl rfl (V.mv rfl rfl) ?_
      refine J.op rfl rfl rfl (V.cmp rfl rfl rfl rfl) ?_
      refine J.nil ?_
      refine J.tN ?_
      refine J.cond rfl (fun hB4 => ?_) (fun hB4 => ?_)
      · replace h1 := B.t hB4 h1
        refine J.skip ?_
        refine J.tN ?_
        refine J.seq ?_
        refine J.block ?_
        refine J.seq ?_
        refine J.quiet mixed (by kernel_rfl) ?_
        refine JQ.op rfl rfl rfl (V.mv rfl rfl) ?_
        refine JQ.op rfl rfl rfl (V.mv rfl rfl) ?_
        refine JQ.op rfl rfl rfl (V.mv rfl rfl) ?_
        refine JQ.op rfl rfl rfl (V.nc rfl rfl) ?_
        obtain ⟨hC5, h1⟩ := B.chk h1
        refine JQ.op rfl rfl rfl (V.ixB rfl rfl rfl tr96 ts2 hC5) ?_
        refine JQ.op rfl rfl rfl (V.ldB 1 rfl rfl rfl Try.underlying2 ta2 (encA_get0 .i64 _ hC5)) ?_
        refine JQ.op rfl rfl rfl (V.mv rfl rfl) ?_
        refine JQ.op rfl rfl rfl (V.mv rfl rfl) ?_
        refine JQ.op rfl rfl rfl (V.nc rfl rfl) ?_
        obtain ⟨hC6, h1⟩ := B.chk h1
        refine JQ.op rfl rfl rfl (V.ixB rfl rfl rfl tr26 ts24 hC6) ?_
        refine JQ.op rfl rfl rfl (V.ldB 0 rfl rfl rfl Try.underlying24 ta24 (encA_get0 .i8 _ hC6)) ?_
        refine JQ.op rfl rfl rfl (V.conv rfl rfl Try.underlying24 Try.underlying2) ?_
        refine JQ.op rfl rfl rfl (V.ar rfl rfl rfl rfl) ?_
        refine JQ.op rfl rfl rfl (V.ar rfl rfl rfl rfl) ?_
        refine JQ.op rfl rfl rfl (V.as rfl rfl) ?_
        obtain ⟨sum_7, esum_7, h1⟩ := B.lt h1
        refine JQ.val (congrArg (Value.int .i64) esum_7) ?_
        refine JQ.nil ?_
        refine J.tN ?_
        refine J.region ?_
        refine J.op rfl rfl rfl (V.mv rfl rfl) ?_
        refine J.op rfl rfl rfl (V.mv rfl rfl) ?_
        refine J.op rfl rfl rfl (V.mv rfl rfl) ?_
        refine J.op rfl rfl rfl (V.nc rfl rfl) ?_
        obtain ⟨hC8, h1⟩ := B.chk h1
        refine J.op rfl rfl rfl (V.ixB rfl rfl rfl tr96 ts2 hC8) ?_
        refine J.op rfl rfl rfl (V.ldB 1 rfl rfl rfl Try.underlying2 ta2 (encA_get0 .i64 _ hC8)) ?_
        refine J.op rfl rfl rfl (V.ar rfl rfl rfl rfl) ?_
        refine J.op rfl rfl rfl (V.as rfl rfl) ?_
        obtain ⟨n_9, en_9, h1⟩ := B.lt h1
        refine J.val (congrArg (Value.int .i64) en_9) ?_
        refine J.nil ?_
        refine J.bN ?_
        refine J.tN ?_
        refine J.region ?_
        refine J.op rfl rfl rfl (V.mv rfl rfl) ?_
        refine J.op rfl rfl rfl (V.ar rfl rfl rfl rfl) ?_
        refine J.op rfl rfl rfl (V.as rfl rfl) ?_
        obtain ⟨i_10, ei_10, h1⟩ := B.lt h1
        refine J.val (congrArg (Value.int .i64) ei_10) ?_
        refine J.nil ?_
        refine J.tN (J.next (sum_7, n_9, i_10) () (B.n h1) ?_)
        exact J.keep _ rfl (J.pickE [0, 1] rfl rfl J.here)
      · replace h1 := B.f hB4 h1
        refine J.exit ?_
        refine J.tE ?_
        refine J.tE ?_
        refine J.bE ?_
        obtain rfl := B.d h1
        refine J.tN (J.to () trivial ?_)
        exact J.keep _ rfl (J.pickE [0, 1] rfl rfl J.here)
  · intro gy12 _
    refine J.tN ?_
    refine J.seq ?_
    refine J.region ?_
    refine J.op rfl rfl rfl (V.mv rfl rfl) ?_
    refine J.op rfl rfl rfl (V.mv rfl rfl) ?_
    obtain ⟨hC14, h0⟩ := B.chk h0
    refine J.op rfl rfl rfl (V.quo rfl rfl rfl (nz hC14)) ?_
    refine J.op rfl rfl rfl (V.as rfl rfl) ?_
    obtain ⟨t15, et15, h0⟩ := B.lt h0
    refine J.val (congrArg (Value.int .i64) et15) ?_
    refine J.nil ?_
    refine J.tN ?_
    refine J.ret ?_
    obtain rfl := B.e h0
    exact J.ret1 rfl rfl fun w H => ⟨(), rfl, H.pick [0, 1] (by decide)⟩

/-! ### spec.l06Field: function 32 -/
noncomputable def spec_l06Field.f (p0_s : (Vector Int 24)) (p1_field : Int) : Option (Int × Int) := (spec_l06Ok.f p0_s).bind fun r1 => bif (!r1) then (some (0, 1)) else (bif ((shR .u32 p1_field 24) != 0) then (some (0, 2)) else (bif (p1_field == 0) then (some (0, 4)) else ((spec_l06Counts.f p1_field).bind fun r7 => (spec_l06Mean.f p0_s r7).bind fun r12 => some (r12, 0))))
set_option maxRecDepth 100000 in
theorem spec_l06Field.calls (b0_ : Nat) (p0_s : (Vector Int 24)) (p1_field : Int) (r : Int × Int) (w : World) (H0 : Own [b0_] w w [.blk b0_ (encA .i8 p0_s) 26]) (h0 : spec_l06Field.f p0_s p1_field = some r) :
    Calls Try.prog 32 #[bp b0_ 0, .int .u32 p1_field] w (fun e w' => ∃ _ : Unit, e = .returned (.tuple #[.int .i64 r.1, .int .i64 r.2]) ∧ Own [b0_] w w' [.blk b0_ (encA .i8 p0_s) 26]) := by
  unfold spec_l06Field.f at h0
  replace h0 := B.top h0
  refine calls_of_J (args := [bp b0_ 0, .int .u32 p1_field]) Try.func32 rfl Try.ntmps32 rfl [(0, bp b0_ 0), (1, .int .u32 p1_field)] rfl H0 ?_
  refine J.seq ?_
  refine J.region ?_
  refine J.op rfl rfl rfl (V.as rfl rfl) ?_
  refine J.op rfl rfl rfl (V.as rfl rfl) ?_
  refine J.nil ?_
  refine J.tN ?_
  refine J.seq ?_
  refine J.seq ?_
  refine J.region ?_
  refine J.op rfl rfl rfl (V.mv rfl rfl) ?_
  obtain ⟨r1, hr2, h0⟩ := B.bind h0
  refine J.cl (l := [.tmp 7]) [.blk b0_ (encA .i8 p0_s) 26] [] cf59 (wN rfl) rfl rfl rfl rfl rfl rfl hM1 (fun w H => spec_l06Ok.calls b0_ p0_s r1 w H.enter1  hr2) fun g3 => ?_
  refine J.op rfl rfl rfl (V.nt rfl rfl) ?_
  refine J.nil ?_
  refine J.tN ?_
  refine J.cond rfl (fun hB4 => ?_) (fun hB4 => ?_)
  · replace h0 := B.t hB4 h0
    refine J.seq ?_
    refine J.region ?_
    refine J.op rfl rfl rfl (V.as rfl rfl) ?_
    refine J.op rfl rfl rfl (V.as rfl rfl) ?_
    refine J.nil ?_
    refine J.tN ?_
    refine J.ret ?_
    refine J.tR ?_
    obtain rfl := B.e h0
    exact J.ret2 rfl rfl rfl fun w H => ⟨(), rfl, H.pick [0] (by decide)⟩
  · replace h0 := B.f hB4 h0
    refine J.skip ?_
    refine J.tN ?_
    refine J.seq ?_
    refine J.seq ?_
    refine J.region ?_
    refine J.op rfl rfl rfl (V.mv rfl rfl) ?_
    refine J.op rfl rfl rfl (V.shr rfl rfl rfl rfl) ?_
    refine J.op rfl rfl rfl (V.cmp rfl rfl rfl rfl) ?_
    refine J.nil ?_
    refine J.tN ?_
    refine J.cond rfl (fun hB5 => ?_) (fun hB5 => ?_)
    · replace h0 := B.t hB5 h0
      refine J.seq ?_
      refine J.region ?_
      refine J.op rfl rfl rfl (V.as rfl rfl) ?_
      refine J.op rfl rfl rfl (V.as rfl rfl) ?_
      refine J.nil ?_
      refine J.tN ?_
      refine J.ret ?_
      refine J.tR ?_
      obtain rfl := B.e h0
      exact J.ret2 rfl rfl rfl fun w H => ⟨(), rfl, H.pick [0] (by decide)⟩
    · replace h0 := B.f hB5 h0
      refine J.skip ?_
      refine J.tN ?_
      refine J.seq ?_
      refine J.seq ?_
      refine J.region ?_
      refine J.op rfl rfl rfl (V.mv rfl rfl) ?_
      refine J.op rfl rfl rfl (V.cmp rfl rfl rfl rfl) ?_
      refine J.nil ?_
      refine J.tN ?_
      refine J.cond rfl (fun hB6 => ?_) (fun hB6 => ?_)
      · replace h0 := B.t hB6 h0
        refine J.seq ?_
        refine J.region ?_
        refine J.op rfl rfl rfl (V.as rfl rfl) ?_
        refine J.op rfl rfl rfl (V.as rfl rfl) ?_
        refine J.nil ?_
        refine J.tN ?_
        refine J.ret ?_
        refine J.tR ?_
        obtain rfl := B.e h0
        exact J.ret2 rfl rfl rfl fun w H => ⟨(), rfl, H.pick [0] (by decide)⟩
      · replace h0 := B.f hB6 h0
        refine J.skip ?_
        refine J.tN ?_
        refine J.seq ?_
        refine J.region ?_
        refine J.op rfl rfl rfl (V.mv rfl rfl) ?_
        obtain ⟨r7, hr8, h0⟩ := B.bind h0
        refine J.cl (l := [.tmp 15]) [] [.blk b0_ (encA .i8 p0_s) 26] cf60 (wN rfl) rfl rfl rfl rfl rfl rfl (by simp) (fun w H => spec_l06Counts.calls p1_field r7 w (Own.refl w)  hr8) fun g9 => ?_
        refine J.alloc rfl rfl rfl rfl tz96 rfl fun b10 => ?_
        refine J.stW (cs' := encA .i64 r7) 0 rfl rfl rfl rfl rfl rfl ts96 rfl (encA_one .i64 _) (encA_len _ _) (encA_len _ _) ?_
        refine J.nil ?_
        refine J.tN ?_
        refine J.seq ?_
        refine J.region ?_
        refine J.op rfl rfl rfl (V.mv rfl rfl) ?_
        refine J.pickE [1, 0] (es' := [.blk b0_ (encA .i8 p0_s) 26, .blk b10 (encA .i64 r7) 96]) rfl rfl ?_
        obtain ⟨r12, hr13, h0⟩ := B.bind h0
        refine J.cl (l := [.tmp 17, .tmp 6]) [.blk b0_ (encA .i8 p0_s) 26, .blk b10 (encA .i64 r7) 96] [] cf61 (wN rfl) rfl rfl rfl rfl rfl rfl hM2 (fun w H => spec_l06Mean.calls b0_ p0_s b10 r7 r12 w H.enter2  hr13) fun g14 => ?_
        refine J.op rfl rfl rfl (V.as rfl rfl) ?_
        refine J.op rfl rfl rfl (V.as rfl rfl) ?_
        refine J.nil ?_
        refine J.tN ?_
        refine J.ret ?_
        obtain rfl := B.e h0
        exact J.ret2 rfl rfl rfl fun w H => ⟨(), rfl, H.pick [0] (by decide)⟩

/-! ### spec.l06Fields: function 31 -/
noncomputable def spec_l06Fields.f (p0_s : (Vector Int 24)) (p1_a : Int) (p2_b : Int) : Option (Int × Int × Int) := (spec_l06Field.f p0_s p1_a).bind fun r1 => bif (r1.2 != 0) then (some (0, 0, r1.2)) else ((spec_l06Field.f p0_s p2_b).bind fun r5 => bif (r5.2 != 0) then (some (0, 0, r5.2)) else (some (r1.1, r5.1, 0)))
set_option maxRecDepth 100000 in
theorem spec_l06Fields.calls (b0_ : Nat) (p0_s : (Vector Int 24)) (p1_a : Int) (p2_b : Int) (r : Int × Int × Int) (w : World) (H0 : Own [b0_] w w [.blk b0_ (encA .i8 p0_s) 26]) (h0 : spec_l06Fields.f p0_s p1_a p2_b = some r) :
    Calls Try.prog 31 #[bp b0_ 0, .int .u32 p1_a, .int .u32 p2_b] w (fun e w' => ∃ _ : Unit, e = .returned (.tuple #[.int .i64 r.1, .int .i64 r.2.1, .int .i64 r.2.2]) ∧ Own [b0_] w w' [.blk b0_ (encA .i8 p0_s) 26]) := by
  unfold spec_l06Fields.f at h0
  replace h0 := B.top h0
  refine calls_of_J (args := [bp b0_ 0, .int .u32 p1_a, .int .u32 p2_b]) Try.func31 rfl Try.ntmps31 rfl [(0, bp b0_ 0), (1, .int .u32 p1_a), (2, .int .u32 p2_b)] rfl H0 ?_
  refine J.seq ?_
  refine J.region ?_
  refine J.op rfl rfl rfl (V.as rfl rfl) ?_
  refine J.op rfl rfl rfl (V.as rfl rfl) ?_
  refine J.op rfl rfl rfl (V.as rfl rfl) ?_
  refine J.nil ?_
  refine J.tN ?_
  refine J.seq ?_
  refine J.region ?_
  refine J.op rfl rfl rfl (V.mv rfl rfl) ?_
  refine J.op rfl rfl rfl (V.mv rfl rfl) ?_
  obtain ⟨r1, hr2, h0⟩ := B.bind h0
  refine J.cl (l := [.tmp 14, .tmp 15]) [.blk b0_ (encA .i8 p0_s) 26] [] cf32 (wN rfl) rfl rfl rfl rfl rfl rfl hM1 (fun w H => spec_l06Field.calls b0_ p0_s p1_a r1 w H.enter1  hr2) fun g3 => ?_
  refine J.op rfl rfl rfl (V.mv rfl rfl) ?_
  refine J.op rfl rfl rfl (V.ex rfl rfl rfl) ?_
  refine J.op rfl rfl rfl (V.ex rfl rfl rfl) ?_
  refine J.op rfl rfl rfl (V.as rfl rfl) ?_
  refine J.op rfl rfl rfl (V.as rfl rfl) ?_
  refine J.nil ?_
  refine J.tN ?_
  refine J.seq ?_
  refine J.seq ?_
  refine J.region ?_
  refine J.op rfl rfl rfl (V.mv rfl rfl) ?_
  refine J.op rfl rfl rfl (V.cmp rfl rfl rfl rfl) ?_
  refine J.nil ?_
  refine J.tN ?_
  refine J.cond rfl (fun hB4 => ?_) (fun hB4 => ?_)
  · replace h0 := B.t hB4 h0
    refine J.seq ?_
    refine J.region ?_
    refine J.op rfl rfl rfl (V.mv rfl rfl) ?_
    refine J.op rfl rfl rfl (V.as rfl rfl) ?_
    refine J.op rfl rfl rfl (V.as rfl rfl) ?_
    refine J.op rfl rfl rfl (V.as rfl rfl) ?_
    refine J.nil ?_
    refine J.tN ?_
    refine J.ret ?_
    refine J.tR ?_
    obtain rfl := B.e h0
    exact J.ret3 rfl rfl rfl rfl fun w H => ⟨(), rfl, H.pick [0] (by decide)⟩
  · replace h0 := B.f hB4 h0
    refine J.skip ?_
    refine J.tN ?_
    refine J.seq ?_
    refine J.region ?_
    refine J.op rfl rfl rfl (V.mv rfl rfl) ?_
    refine J.op rfl rfl rfl (V.mv rfl rfl) ?_
    obtain ⟨r5, hr6, h0⟩ := B.bind h0
    refine J.cl (l := [.tmp 23, .tmp 24]) [.blk b0_ (encA .i8 p0_s) 26] [] cf32 (wN rfl) rfl rfl rfl rfl rfl rfl hM1 (fun w H => spec_l06Field.calls b0_ p0_s p2_b r5 w H.enter1  hr6) fun g7 => ?_
    refine J.op rfl rfl rfl (V.mv rfl rfl) ?_
    refine J.op rfl rfl rfl (V.ex rfl rfl rfl) ?_
    refine J.op rfl rfl rfl (V.ex rfl rfl rfl) ?_
    refine J.op rfl rfl rfl (V.as rfl rfl) ?_
    refine J.op rfl rfl rfl (V.as rfl rfl) ?_
    refine J.nil ?_
    refine J.tN ?_
    refine J.seq ?_
    refine J.seq ?_
    refine J.region ?_
    refine J.op rfl rfl rfl (V.mv rfl rfl) ?_
    refine J.op rfl rfl rfl (V.cmp rfl rfl rfl rfl) ?_
    refine J.nil ?_
    refine J.tN ?_
    refine J.cond rfl (fun hB8 => ?_) (fun hB8 => ?_)
    · replace h0 := B.t hB8 h0
      refine J.seq ?_
      refine J.region ?_
      refine J.op rfl rfl rfl (V.mv rfl rfl) ?_
      refine J.op rfl rfl rfl (V.as rfl rfl) ?_
      refine J.op rfl rfl rfl (V.as rfl rfl) ?_
      refine J.op rfl rfl rfl (V.as rfl rfl) ?_
      refine J.nil ?_
      refine J.tN ?_
      refine J.ret ?_
      refine J.tR ?_
      obtain rfl := B.e h0
      exact J.ret3 rfl rfl rfl rfl fun w H => ⟨(), rfl, H.pick [0] (by decide)⟩
    · replace h0 := B.f hB8 h0
      refine J.skip ?_
      refine J.tN ?_
      refine J.seq ?_
      refine J.region ?_
      refine J.op rfl rfl rfl (V.mv rfl rfl) ?_
      refine J.op rfl rfl rfl (V.mv rfl rfl) ?_
      refine J.op rfl rfl rfl (V.as rfl rfl) ?_
      refine J.op rfl rfl rfl (V.as rfl rfl) ?_
      refine J.op rfl rfl rfl (V.as rfl rfl) ?_
      refine J.nil ?_
      refine J.tN ?_
      refine J.ret ?_
      obtain rfl := B.e h0
      exact J.ret3 rfl rfl rfl rfl fun w H => ⟨(), rfl, H.pick [0] (by decide)⟩

/-! ### spec.BrighterField: function 10 -/
noncomputable def spec_BrighterField.f (p0_s : (Vector Int 24)) (p1_a : Int) (p2_b : Int) : Option (Int × Int) := (spec_l06Fields.f p0_s p1_a p2_b).bind fun r3 => (some (r3.2.2 != 0)).bind fun t6 => bif t6 then (some (0, r3.2.2)) else ((some (decide (r3.2.1 < r3.1))).bind fun t8 => bif t8 then (some (1, 0)) else ((some (decide (r3.1 < r3.2.1))).bind fun t10 => bif t10 then (some ((-1), 0)) else (some (0, 0))))
set_option maxRecDepth 100000 in
theorem spec_BrighterField.calls (p0_s : (Vector Int 24)) (p1_a : Int) (p2_b : Int) (r : Int × Int) (w : World) (H0 : Own [] w w []) (h0 : spec_BrighterField.f p0_s p1_a p2_b = some r) :
    Calls Try.prog 10 #[.agg (encA .i8 p0_s).toArray, .int .u32 p1_a, .int .u32 p2_b] w (fun e w' => ∃ _ : Unit, e = .returned (.tuple #[.int .i64 r.1, .int .i64 r.2]) ∧ Own [] w w' []) := by
  unfold spec_BrighterField.f at h0
  replace h0 := B.top h0
  refine calls_of_J (args := [.agg (encA .i8 p0_s).toArray, .int .u32 p1_a, .int .u32 p2_b]) Try.func10 rfl Try.ntmps10 rfl [(0, .agg (encA .i8 p0_s).toArray), (1, .int .u32 p1_a), (2, .int .u32 p2_b)] rfl H0 ?_
  refine J.seq ?_
  refine J.region ?_
  refine J.box rfl rfl rfl rfl rfl (fun _ _ => rfl) fun b1 => ?_
  refine J.op rfl rfl rfl (V.as rfl rfl) ?_
  refine J.op rfl rfl rfl (V.as rfl rfl) ?_
  refine J.nil ?_
  refine J.tN ?_
  refine J.seq ?_
  refine J.region ?_
  refine J.op rfl rfl rfl (V.mv rfl rfl) ?_
  refine J.op rfl rfl rfl (V.mv rfl rfl) ?_
  obtain ⟨r3, hr4, h0⟩ := B.bind h0
  refine J.cl (l := [.tmp 3, .tmp 12, .tmp 13]) [.blk b1 (encA .i8 p0_s) 26] [] cf31 (wN rfl) rfl rfl rfl rfl rfl rfl hM1 (fun w H => spec_l06Fields.calls b1 p0_s p1_a p2_b r3 w H.enter1  hr4) fun g5 => ?_
  refine J.op rfl rfl rfl (V.mv rfl rfl) ?_
  refine J.op rfl rfl rfl (V.ex rfl rfl rfl) ?_
  refine J.op rfl rfl rfl (V.ex rfl rfl rfl) ?_
  refine J.op rfl rfl rfl (V.ex rfl rfl rfl) ?_
  refine J.op rfl rfl rfl (V.as rfl rfl) ?_
  refine J.op rfl rfl rfl (V.as rfl rfl) ?_
  refine J.op rfl rfl rfl (V.as rfl rfl) ?_
  refine J.nil ?_
  refine J.tN ?_
  refine J.seq ?_
  refine J.block ?_
  refine J.seq ?_
  refine J.region ?_
  refine J.op rfl rfl rfl (V.mv rfl rfl) ?_
  refine J.op rfl rfl rfl (V.cmp rfl rfl rfl rfl) ?_
  refine J.op rfl rfl rfl (V.as rfl rfl) ?_
  obtain ⟨t6, et6, h0⟩ := B.lt h0
  refine J.val (congrArg (Value.bool) et6) ?_
  refine J.nil ?_
  refine J.tN ?_
  refine J.cond rfl (fun hB7 => ?_) (fun hB7 => ?_)
  · replace h0 := B.t hB7 h0
    refine J.seq ?_
    refine J.region ?_
    refine J.op rfl rfl rfl (V.mv rfl rfl) ?_
    refine J.op rfl rfl rfl (V.as rfl rfl) ?_
    refine J.op rfl rfl rfl (V.as rfl rfl) ?_
    refine J.nil ?_
    refine J.tN ?_
    refine J.ret ?_
    refine J.bR ?_
    refine J.tR ?_
    obtain rfl := B.e h0
    exact J.ret2 rfl rfl rfl fun w H => ⟨(), rfl, H.pick [] (by decide)⟩
  · replace h0 := B.f hB7 h0
    refine J.seq ?_
    refine J.region ?_
    refine J.op rfl rfl rfl (V.mv rfl rfl) ?_
    refine J.op rfl rfl rfl (V.mv rfl rfl) ?_
    refine J.op rfl rfl rfl (V.cmp rfl rfl rfl rfl) ?_
    refine J.op rfl rfl rfl (V.as rfl rfl) ?_
    obtain ⟨t8, et8, h0⟩ := B.lt h0
    refine J.val (congrArg (Value.bool) et8) ?_
    refine J.nil ?_
    refine J.tN ?_
    refine J.cond rfl (fun hB9 => ?_) (fun hB9 => ?_)
    · replace h0 := B.t hB9 h0
      refine J.seq ?_
      refine J.region ?_
      refine J.op rfl rfl rfl (V.as rfl rfl) ?_
      refine J.op rfl rfl rfl (V.as rfl rfl) ?_
      refine J.nil ?_
      refine J.tN ?_
      refine J.ret ?_
      refine J.bR ?_
      refine J.tR ?_
      obtain rfl := B.e h0
      exact J.ret2 rfl rfl rfl fun w H => ⟨(), rfl, H.pick [] (by decide)⟩
    · replace h0 := B.f hB9 h0
      refine J.seq ?_
      refine J.region ?_
      refine J.op rfl rfl rfl (V.mv rfl rfl) ?_
      refine J.op rfl rfl rfl (V.mv rfl rfl) ?_
      refine J.op rfl rfl rfl (V.cmp rfl rfl rfl rfl) ?_
      refine J.op rfl rfl rfl (V.as rfl rfl) ?_
      obtain ⟨t10, et10, h0⟩ := B.lt h0
      refine J.val (congrArg (Value.bool) et10) ?_
      refine J.nil ?_
      refine J.tN ?_
      refine J.cond rfl (fun hB11 => ?_) (fun hB11 => ?_)
      · replace h0 := B.t hB11 h0
        refine J.seq ?_
        refine J.region ?_
        refine J.op rfl rfl rfl (V.as rfl rfl) ?_
        refine J.op rfl rfl rfl (V.as rfl rfl) ?_
        refine J.nil ?_
        refine J.tN ?_
        refine J.ret ?_
        refine J.bR ?_
        refine J.tR ?_
        obtain rfl := B.e h0
        exact J.ret2 rfl rfl rfl fun w H => ⟨(), rfl, H.pick [] (by decide)⟩
      · replace h0 := B.f hB11 h0
        refine J.skip ?_
        refine J.bN ?_
        refine J.tN ?_
        refine J.seq ?_
        refine J.region ?_
        refine J.op rfl rfl rfl (V.as rfl rfl) ?_
        refine J.op rfl rfl rfl (V.as rfl rfl) ?_
        refine J.nil ?_
        refine J.tN ?_
        refine J.ret ?_
        obtain rfl := B.e h0
        exact J.ret2 rfl rfl rfl fun w H => ⟨(), rfl, H.pick [] (by decide)⟩

/-! ### impl.DevelopBy: function 11 -/
noncomputable def impl_DevelopBy.f (p0_s : (Vector Int 24)) (p1_dark : Int) (p2_bright : Int) : Option (Int × Int) := (impl_twoMeans.f p0_s p1_dark p2_bright).bind fun r3 => (some (r3.2.2 != 0)).bind fun t6 => bif t6 then (some (0, r3.2.2)) else ((some (decide (r3.2.1 < r3.1))).bind fun t8 => bif t8 then (some (0, 4)) else ((some (IntKind.wrap .i64 (5 - (IntKind.wrap .i64 (Int.tdiv (IntKind.wrap .i64 ((IntKind.wrap .i64 (r3.2.1 - r3.1)) + 1)) 3))))).bind fun t10 => some (t10, 0)))
set_option maxRecDepth 100000 in
theorem impl_DevelopBy.calls (p0_s : (Vector Int 24)) (p1_dark : Int) (p2_bright : Int) (r : Int × Int) (w : World) (H0 : Own [] w w []) (h0 : impl_DevelopBy.f p0_s p1_dark p2_bright = some r) :
    Calls Try.prog 11 #[.agg (encA .i8 p0_s).toArray, .int .u32 p1_dark, .int .u32 p2_bright] w (fun e w' => ∃ _ : Unit, e = .returned (.tuple #[.int .i64 r.1, .int .i64 r.2]) ∧ Own [] w w' []) := by
  unfold impl_DevelopBy.f at h0
  replace h0 := B.top h0
  refine calls_of_J (args := [.agg (encA .i8 p0_s).toArray, .int .u32 p1_dark, .int .u32 p2_bright]) Try.func11 rfl Try.ntmps11 rfl [(0, .agg (encA .i8 p0_s).toArray), (1, .int .u32 p1_dark), (2, .int .u32 p2_bright)] rfl H0 ?_
  refine J.seq ?_
  refine J.region ?_
  refine J.box rfl rfl rfl rfl rfl (fun _ _ => rfl) fun b1 => ?_
  refine J.op rfl rfl rfl (V.as rfl rfl) ?_
  refine J.op rfl rfl rfl (V.as rfl rfl) ?_
  refine J.nil ?_
  refine J.tN ?_
  refine J.seq ?_
  refine J.region ?_
  refine J.op rfl rfl rfl (V.ldW 0 rfl rfl rfl ts26 ta26 (encA_len _ _)) ?_
  refine J.op rfl rfl rfl (V.mv rfl rfl) ?_
  refine J.op rfl rfl rfl (V.mv rfl rfl) ?_
  obtain ⟨r3, hr4, h0⟩ := B.bind h0
  refine J.cl (l := [.tmp 12, .tmp 13, .tmp 14]) [] [.blk b1 (encA .i8 p0_s) 26] cf30 (wN rfl) rfl rfl rfl rfl rfl rfl (by simp) (fun w H => impl_twoMeans.calls p0_s p1_dark p2_bright r3 w (Own.refl w)  hr4) fun g5 => ?_
  refine J.op rfl rfl rfl (V.mv rfl rfl) ?_
  refine J.op rfl rfl rfl (V.ex rfl rfl rfl) ?_
  refine J.op rfl rfl rfl (V.ex rfl rfl rfl) ?_
  refine J.op rfl rfl rfl (V.ex rfl rfl rfl) ?_
  refine J.op rfl rfl rfl (V.as rfl rfl) ?_
  refine J.op rfl rfl rfl (V.as rfl rfl) ?_
  refine J.op rfl rfl rfl (V.as rfl rfl) ?_
  refine J.nil ?_
  refine J.tN ?_
  refine J.seq ?_
  refine J.block ?_
  refine J.seq ?_
  refine J.region ?_
  refine J.op rfl rfl rfl (V.mv rfl rfl) ?_
  refine J.op rfl rfl rfl (V.cmp rfl rfl rfl rfl) ?_
  refine J.op rfl rfl rfl (V.as rfl rfl) ?_
  obtain ⟨t6, et6, h0⟩ := B.lt h0
  refine J.val (congrArg (Value.bool) et6) ?_
  refine J.nil ?_
  refine J.tN ?_
  refine J.cond rfl (fun hB7 => ?_) (fun hB7 => ?_)
  · replace h0 := B.t hB7 h0
    refine J.seq ?_
    refine J.region ?_
    refine J.op rfl rfl rfl (V.mv rfl rfl) ?_
    refine J.op rfl rfl rfl (V.as rfl rfl) ?_
    refine J.op rfl rfl rfl (V.as rfl rfl) ?_
    refine J.nil ?_
    refine J.tN ?_
    refine J.ret ?_
    refine J.bR ?_
    refine J.tR ?_
    obtain rfl := B.e h0
    exact J.ret2 rfl rfl rfl fun w H => ⟨(), rfl, H.pick [] (by decide)⟩
  · replace h0 := B.f hB7 h0
    refine J.seq ?_
    refine J.region ?_
    refine J.op rfl rfl rfl (V.mv rfl rfl) ?_
    refine J.op rfl rfl rfl (V.mv rfl rfl) ?_
    refine J.op rfl rfl rfl (V.cmp rfl rfl rfl rfl) ?_
    refine J.op rfl rfl rfl (V.as rfl rfl) ?_
    obtain ⟨t8, et8, h0⟩ := B.lt h0
    refine J.val (congrArg (Value.bool) et8) ?_
    refine J.nil ?_
    refine J.tN ?_
    refine J.cond rfl (fun hB9 => ?_) (fun hB9 => ?_)
    · replace h0 := B.t hB9 h0
      refine J.seq ?_
      refine J.region ?_
      refine J.op rfl rfl rfl (V.as rfl rfl) ?_
      refine J.op rfl rfl rfl (V.as rfl rfl) ?_
      refine J.nil ?_
      refine J.tN ?_
      refine J.ret ?_
      refine J.bR ?_
      refine J.tR ?_
      obtain rfl := B.e h0
      exact J.ret2 rfl rfl rfl fun w H => ⟨(), rfl, H.pick [] (by decide)⟩
    · replace h0 := B.f hB9 h0
      refine J.skip ?_
      refine J.bN ?_
      refine J.tN ?_
      refine J.seq ?_
      refine J.region ?_
      refine J.op rfl rfl rfl (V.mv rfl rfl) ?_
      refine J.op rfl rfl rfl (V.mv rfl rfl) ?_
      refine J.op rfl rfl rfl (V.ar rfl rfl rfl rfl) ?_
      refine J.op rfl rfl rfl (V.ar rfl rfl rfl rfl) ?_
      refine J.op rfl rfl rfl (V.quo rfl rfl rfl rfl) ?_
      refine J.op rfl rfl rfl (V.ar rfl rfl rfl rfl) ?_
      refine J.op rfl rfl rfl (V.as rfl rfl) ?_
      obtain ⟨t10, et10, h0⟩ := B.lt h0
      refine J.val (congrArg (Value.int .i64) et10) ?_
      refine J.op rfl rfl rfl (V.as rfl rfl) ?_
      refine J.nil ?_
      refine J.tN ?_
      refine J.ret ?_
      obtain rfl := B.e h0
      exact J.ret2 rfl rfl rfl fun w H => ⟨(), rfl, H.pick [] (by decide)⟩

/-! ### spec.DevelopBy: function 12 -/
noncomputable def spec_DevelopBy.f (p0_s : (Vector Int 24)) (p1_dark : Int) (p2_bright : Int) : Option (Int × Int) := (spec_l06Fields.f p0_s p1_dark p2_bright).bind fun r3 => ((bif (r3.2.2 == 0) then (some (decide (r3.2.1 < r3.1))) else (some false) : Option (Bool)).bind fun y8 => bif y8 then (some 4) else (some r3.2.2) : Option (Int)).bind fun y6 => bif (y6 != 0) then (some (0, y6)) else ((some (IntKind.wrap .i64 (5 - (IntKind.wrap .i64 (Int.tdiv (IntKind.wrap .i64 ((IntKind.wrap .i64 (r3.2.1 - r3.1)) + 1)) 3))))).bind fun t15 => some (t15, 0))
set_option maxRecDepth 100000 in
theorem spec_DevelopBy.calls (p0_s : (Vector Int 24)) (p1_dark : Int) (p2_bright : Int) (r : Int × Int) (w : World) (H0 : Own [] w w []) (h0 : spec_DevelopBy.f p0_s p1_dark p2_bright = some r) :
    Calls Try.prog 12 #[.agg (encA .i8 p0_s).toArray, .int .u32 p1_dark, .int .u32 p2_bright] w (fun e w' => ∃ _ : Unit, e = .returned (.tuple #[.int .i64 r.1, .int .i64 r.2]) ∧ Own [] w w' []) := by
  unfold spec_DevelopBy.f at h0
  replace h0 := B.top h0
  refine calls_of_J (args := [.agg (encA .i8 p0_s).toArray, .int .u32 p1_dark, .int .u32 p2_bright]) Try.func12 rfl Try.ntmps12 rfl [(0, .agg (encA .i8 p0_s).toArray), (1, .int .u32 p1_dark), (2, .int .u32 p2_bright)] rfl H0 ?_
  refine J.seq ?_
  refine J.region ?_
  refine J.box rfl rfl rfl rfl rfl (fun _ _ => rfl) fun b1 => ?_
  refine J.op rfl rfl rfl (V.as rfl rfl) ?_
  refine J.op rfl rfl rfl (V.as rfl rfl) ?_
  refine J.nil ?_
  refine J.tN ?_
  refine J.seq ?_
  refine J.region ?_
  refine J.op rfl rfl rfl (V.mv rfl rfl) ?_
  refine J.op rfl rfl rfl (V.mv rfl rfl) ?_
  obtain ⟨r3, hr4, h0⟩ := B.bind h0
  refine J.cl (l := [.tmp 3, .tmp 12, .tmp 13]) [.blk b1 (encA .i8 p0_s) 26] [] cf31 (wN rfl) rfl rfl rfl rfl rfl rfl hM1 (fun w H => spec_l06Fields.calls b1 p0_s p1_dark p2_bright r3 w H.enter1  hr4) fun g5 => ?_
  refine J.op rfl rfl rfl (V.mv rfl rfl) ?_
  refine J.op rfl rfl rfl (V.ex rfl rfl rfl) ?_
  refine J.op rfl rfl rfl (V.ex rfl rfl rfl) ?_
  refine J.op rfl rfl rfl (V.ex rfl rfl rfl) ?_
  refine J.op rfl rfl rfl (V.as rfl rfl) ?_
  refine J.op rfl rfl rfl (V.as rfl rfl) ?_
  refine J.op rfl rfl rfl (V.as rfl rfl) ?_
  refine J.nil ?_
  refine J.tN ?_
  refine J.seq ?_
  obtain ⟨y6, hy13, h0⟩ := B.bind h0
  replace hy13 := B.top hy13
  refine J.cut (γ := Unit) (fun _ => True) (fun gy7 => [(8, .int .i64 r3.1), (9, .int .i64 r3.2.1), (10, .int .i64 y6)]) (fun gy7 => [.blk b1 (encA .i8 p0_s) 26]) ?_ ?_
  · have h1 := hy13
    refine J.seq ?_
    obtain ⟨y8, hy11, h1⟩ := B.bind h1
    replace hy11 := B.top hy11
    refine J.cut (γ := Unit) (fun _ => True) (fun gy9 => [(8, .int .i64 r3.1), (9, .int .i64 r3.2.1), (10, .int .i64 r3.2.2), (24, .bool y8)]) (fun gy9 => [.blk b1 (encA .i8 p0_s) 26]) ?_ ?_
    · have h2 := hy11
      refine J.region ?_
      refine J.op rfl rfl rfl (V.mv rfl rfl) ?_
      refine J.op rfl rfl rfl (V.cmp rfl rfl rfl rfl) ?_
      refine J.op rfl rfl rfl (V.mv rfl rfl) ?_
      refine J.split 20 rfl (fun hB10 => ?_) (fun hB10 => ?_)
      · replace h2 := B.t hB10 h2
        refine J.opOn rfl rfl rfl rfl rfl (V.mv rfl rfl) ?_
        refine J.opOn rfl rfl rfl rfl rfl (V.mv rfl rfl) ?_
        refine J.opOn rfl rfl rfl rfl rfl (V.cmp rfl rfl rfl rfl) ?_
        refine J.op rfl rfl rfl (V.pkT rfl rfl rfl) ?_
        refine J.nil ?_
        obtain rfl := B.e h2
        refine J.tN (J.to () trivial ?_)
        exact J.keep _ rfl (J.pickE [0] rfl rfl J.here)
      · replace h2 := B.f hB10 h2
        refine J.opOff rfl rfl rfl rfl rfl rfl ?_
        refine J.opOff rfl rfl rfl rfl rfl rfl ?_
        refine J.opOff rfl rfl rfl rfl rfl rfl ?_
        refine J.op rfl rfl rfl (V.pkF rfl rfl rfl) ?_
        refine J.nil ?_
        obtain rfl := B.e h2
        refine J.tN (J.to () trivial ?_)
        exact J.keep _ rfl (J.pickE [0] rfl rfl J.here)
    · intro gy9 _
      refine J.cond rfl (fun hB12 => ?_) (fun hB12 => ?_)
      · replace h1 := B.t hB12 h1
        refine J.region ?_
        refine J.op rfl rfl rfl (V.as rfl rfl) ?_
        refine J.nil ?_
        obtain rfl := B.e h1
        refine J.tN (J.to () trivial ?_)
        exact J.keep _ rfl (J.pickE [0] rfl rfl J.here)
      · replace h1 := B.f hB12 h1
        refine J.skip ?_
        obtain rfl := B.e h1
        refine J.tN (J.to () trivial ?_)
        exact J.keep _ rfl (J.pickE [0] rfl rfl J.here)
  · intro gy7 _
    refine J.seq ?_
    refine J.seq ?_
    refine J.region ?_
    refine J.op rfl rfl rfl (V.mv rfl rfl) ?_
    refine J.op rfl rfl rfl (V.cmp rfl rfl rfl rfl) ?_
    refine J.nil ?_
    refine J.tN ?_
    refine J.cond rfl (fun hB14 => ?_) (fun hB14 => ?_)
    · replace h0 := B.t hB14 h0
      refine J.seq ?_
      refine J.region ?_
      refine J.op rfl rfl rfl (V.mv rfl rfl) ?_
      refine J.op rfl rfl rfl (V.as rfl rfl) ?_
      refine J.op rfl rfl rfl (V.as rfl rfl) ?_
      refine J.nil ?_
      refine J.tN ?_
      refine J.ret ?_
      refine J.tR ?_
      obtain rfl := B.e h0
      exact J.ret2 rfl rfl rfl fun w H => ⟨(), rfl, H.pick [] (by decide)⟩
    · replace h0 := B.f hB14 h0
      refine J.skip ?_
      refine J.tN ?_
      refine J.seq ?_
      refine J.region ?_
      refine J.op rfl rfl rfl (V.mv rfl rfl) ?_
      refine J.op rfl rfl rfl (V.mv rfl rfl) ?_
      refine J.op rfl rfl rfl (V.ar rfl rfl rfl rfl) ?_
      refine J.op rfl rfl rfl (V.ar rfl rfl rfl rfl) ?_
      refine J.op rfl rfl rfl (V.quo rfl rfl rfl rfl) ?_
      refine J.op rfl rfl rfl (V.ar rfl rfl rfl rfl) ?_
      refine J.op rfl rfl rfl (V.as rfl rfl) ?_
      obtain ⟨t15, et15, h0⟩ := B.lt h0
      refine J.val (congrArg (Value.int .i64) et15) ?_
      refine J.op rfl rfl rfl (V.as rfl rfl) ?_
      refine J.nil ?_
      refine J.tN ?_
      refine J.ret ?_
      obtain rfl := B.e h0
      exact J.ret2 rfl rfl rfl fun w H => ⟨(), rfl, H.pick [] (by decide)⟩

/-! ### spec.FieldMean: function 13 -/
noncomputable def spec_FieldMean.f (p0_s : (Vector Int 24)) (p1_field : Int) : Option (Int × Int) := (spec_l06Field.f p0_s p1_field).bind fun r3 => some (r3.1, r3.2)
set_option maxRecDepth 100000 in
theorem spec_FieldMean.calls (p0_s : (Vector Int 24)) (p1_field : Int) (r : Int × Int) (w : World) (H0 : Own [] w w []) (h0 : spec_FieldMean.f p0_s p1_field = some r) :
    Calls Try.prog 13 #[.agg (encA .i8 p0_s).toArray, .int .u32 p1_field] w (fun e w' => ∃ _ : Unit, e = .returned (.tuple #[.int .i64 r.1, .int .i64 r.2]) ∧ Own [] w w' []) := by
  unfold spec_FieldMean.f at h0
  replace h0 := B.top h0
  refine calls_of_J (args := [.agg (encA .i8 p0_s).toArray, .int .u32 p1_field]) Try.func13 rfl Try.ntmps13 rfl [(0, .agg (encA .i8 p0_s).toArray), (1, .int .u32 p1_field)] rfl H0 ?_
  refine J.seq ?_
  refine J.region ?_
  refine J.box rfl rfl rfl rfl rfl (fun _ _ => rfl) fun b1 => ?_
  refine J.op rfl rfl rfl (V.as rfl rfl) ?_
  refine J.op rfl rfl rfl (V.as rfl rfl) ?_
  refine J.nil ?_
  refine J.tN ?_
  refine J.seq ?_
  refine J.region ?_
  refine J.op rfl rfl rfl (V.mv rfl rfl) ?_
  obtain ⟨r3, hr4, h0⟩ := B.bind h0
  refine J.cl (l := [.tmp 2, .tmp 6]) [.blk b1 (encA .i8 p0_s) 26] [] cf32 (wN rfl) rfl rfl rfl rfl rfl rfl hM1 (fun w H => spec_l06Field.calls b1 p0_s p1_field r3 w H.enter1  hr4) fun g5 => ?_
  refine J.op rfl rfl rfl (V.ex rfl rfl rfl) ?_
  refine J.op rfl rfl rfl (V.ex rfl rfl rfl) ?_
  refine J.op rfl rfl rfl (V.as rfl rfl) ?_
  refine J.op rfl rfl rfl (V.as rfl rfl) ?_
  refine J.nil ?_
  refine J.tN ?_
  refine J.ret ?_
  obtain rfl := B.e h0
  exact J.ret2 rfl rfl rfl fun w H => ⟨(), rfl, H.pick [] (by decide)⟩

/-! ### impl.isZone: function 62 -/
noncomputable def impl_isZone.f (p0_n : Int) : Option (Bool) := (impl_within.f p0_n 0 10).bind fun r1 => some r1
set_option maxRecDepth 100000 in
theorem impl_isZone.calls (p0_n : Int) (r : Bool) (w : World) (H0 : Own [] w w []) (h0 : impl_isZone.f p0_n = some r) :
    Calls Try.prog 62 #[.int .i64 p0_n] w (fun e w' => ∃ _ : Unit, e = .returned (.bool r) ∧ Own [] w w' []) := by
  unfold impl_isZone.f at h0
  replace h0 := B.top h0
  refine calls_of_J (args := [.int .i64 p0_n]) Try.func62 rfl Try.ntmps62 rfl [(0, .int .i64 p0_n)] rfl H0 ?_
  refine J.seq ?_
  refine J.region ?_
  refine J.op rfl rfl rfl (V.as rfl rfl) ?_
  refine J.nil ?_
  refine J.tN ?_
  refine J.seq ?_
  refine J.region ?_
  refine J.op rfl rfl rfl (V.mv rfl rfl) ?_
  obtain ⟨r1, hr2, h0⟩ := B.bind h0
  refine J.cl (l := [.tmp 3, .const (.int .i64 0), .const (.int .i64 10)]) [] [] cf63 (wN rfl) rfl rfl rfl rfl rfl rfl (by simp) (fun w H => impl_within.calls p0_n 0 10 r1 w (Own.refl w)  hr2) fun g3 => ?_
  refine J.op rfl rfl rfl (V.as rfl rfl) ?_
  refine J.nil ?_
  refine J.tN ?_
  refine J.ret ?_
  obtain rfl := B.e h0
  exact J.ret1 rfl rfl fun w H => ⟨(), rfl, H.pick [] (by decide)⟩

/-! ### impl.isPlacement: function 33 -/
noncomputable def impl_isPlacement.f (p0_p : impl_Placement) : Option (Bool) := (impl_isReading.f (IntKind.wrap .i64 p0_p.Reading)).bind fun r3 => bif r3 then ((impl_isZone.f (IntKind.wrap .i64 p0_p.Zone)).bind fun r7 => some r7) else (some false)
set_option maxRecDepth 100000 in
theorem impl_isPlacement.calls (p0_p : impl_Placement) (r : Bool) (w : World) (H0 : Own [] w w []) (h0 : impl_isPlacement.f p0_p = some r) :
    Calls Try.prog 33 #[.agg #[.int .i8 p0_p.Reading, .int .i8 p0_p.Zone]] w (fun e w' => ∃ _ : Unit, e = .returned (.bool r) ∧ Own [] w w' []) := by
  unfold impl_isPlacement.f at h0
  replace h0 := B.top h0
  refine calls_of_J (args := [.agg #[.int .i8 p0_p.Reading, .int .i8 p0_p.Zone]]) Try.func33 rfl Try.ntmps33 rfl [(0, .agg #[.int .i8 p0_p.Reading, .int .i8 p0_p.Zone])] rfl H0 ?_
  refine J.seq ?_
  refine J.region ?_
  refine J.box rfl rfl rfl rfl rfl (fun _ _ => rfl) fun b1 => ?_
  refine J.op rfl rfl rfl (V.as rfl rfl) ?_
  refine J.nil ?_
  refine J.tN ?_
  refine J.seq ?_
  refine J.region ?_
  refine J.op rfl rfl rfl (V.faB rfl rfl tf0_35) ?_
  refine J.op rfl rfl rfl (V.ldB 0 rfl rfl rfl Try.underlying24 ta24 rfl) ?_
  refine J.op rfl rfl rfl (V.conv rfl rfl Try.underlying24 Try.underlying2) ?_
  obtain ⟨r3, hr4, h0⟩ := B.bind h0
  refine J.cl (l := [.tmp 5]) [] [.blk b1 [.int .i8 p0_p.Reading, .int .i8 p0_p.Zone] 35] cf34 (wN rfl) rfl rfl rfl rfl rfl rfl (by simp) (fun w H => impl_isReading.calls (IntKind.wrap .i64 p0_p.Reading) r3 w (Own.refl w)  hr4) fun g5 => ?_
  refine J.op rfl rfl rfl (V.mv rfl rfl) ?_
  refine J.split 7 rfl (fun hB6 => ?_) (fun hB6 => ?_)
  · replace h0 := B.t hB6 h0
    refine J.opOn rfl rfl rfl rfl rfl (V.faB rfl rfl tf1_35) ?_
    refine J.opOn rfl rfl rfl rfl rfl (V.ldB 0 rfl rfl rfl Try.underlying24 ta24 rfl) ?_
    refine J.opOn rfl rfl rfl rfl rfl (V.conv rfl rfl Try.underlying24 Try.underlying2) ?_
    obtain ⟨r7, hr8, h0⟩ := B.bind h0
    refine J.cl (l := [.tmp 10]) [] [.blk b1 [.int .i8 p0_p.Reading, .int .i8 p0_p.Zone] 35] cf62 (wY rfl rfl rfl) rfl rfl rfl rfl rfl rfl (by simp) (fun w H => impl_isZone.calls (IntKind.wrap .i64 p0_p.Zone) r7 w (Own.refl w)  hr8) fun g9 => ?_
    refine J.op rfl rfl rfl (V.pkT rfl rfl rfl) ?_
    refine J.op rfl rfl rfl (V.as rfl rfl) ?_
    refine J.nil ?_
    refine J.tN ?_
    refine J.ret ?_
    obtain rfl := B.e h0
    exact J.ret1 rfl rfl fun w H => ⟨(), rfl, H.pick [] (by decide)⟩
  · replace h0 := B.f hB6 h0
    refine J.opOff rfl rfl rfl rfl rfl rfl ?_
    refine J.opOff rfl rfl rfl rfl rfl rfl ?_
    refine J.opOff rfl rfl rfl rfl rfl rfl ?_
    refine J.opOff rfl rfl rfl rfl rfl rfl ?_
    refine J.op rfl rfl rfl (V.pkF rfl rfl rfl) ?_
    refine J.op rfl rfl rfl (V.as rfl rfl) ?_
    refine J.nil ?_
    refine J.tN ?_
    refine J.ret ?_
    obtain rfl := B.e h0
    exact J.ret1 rfl rfl fun w H => ⟨(), rfl, H.pick [] (by decide)⟩

/-! ### impl.floor: function 64 -/
noncomputable def impl_floor.f (p0_a : Int) (p1_b : Int) : Option (Int) := bif (decide (p0_a < 0)) then (bif (!(p1_b == 0)) then ((some (IntKind.wrap .i64 (0 - (IntKind.wrap .i64 (Int.tdiv (IntKind.wrap .i64 ((IntKind.wrap .i64 ((IntKind.wrap .i64 (0 - p0_a)) + p1_b)) - 1)) p1_b))))).bind fun t3 => some t3) else none) else (bif (!(p1_b == 0)) then ((some (IntKind.wrap .i64 (Int.tdiv p0_a p1_b))).bind fun t5 => some t5) else none)
set_option maxRecDepth 100000 in
theorem impl_floor.calls (p0_a : Int) (p1_b : Int) (r : Int) (w : World) (H0 : Own [] w w []) (h0 : impl_floor.f p0_a p1_b = some r) :
    Calls Try.prog 64 #[.int .i64 p0_a, .int .i64 p1_b] w (fun e w' => ∃ _ : Unit, e = .returned (.int .i64 r) ∧ Own [] w w' []) := by
  unfold impl_floor.f at h0
  replace h0 := B.top h0
  refine calls_of_J (args := [.int .i64 p0_a, .int .i64 p1_b]) Try.func64 rfl Try.ntmps64 rfl [(0, .int .i64 p0_a), (1, .int .i64 p1_b)] rfl H0 ?_
  refine J.seq ?_
  refine J.region ?_
  refine J.op rfl rfl rfl (V.as rfl rfl) ?_
  refine J.nil ?_
  refine J.tN ?_
  refine J.seq ?_
  refine J.seq ?_
  refine J.region ?_
  refine J.op rfl rfl rfl (V.mv rfl rfl) ?_
  refine J.op rfl rfl rfl (V.cmp rfl rfl rfl rfl) ?_
  refine J.nil ?_
  refine J.tN ?_
  refine J.cond rfl (fun hB1 => ?_) (fun hB1 => ?_)
  · replace h0 := B.t hB1 h0
    refine J.seq ?_
    refine J.region ?_
    refine J.op rfl rfl rfl (V.mv rfl rfl) ?_
    refine J.op rfl rfl rfl (V.ng rfl rfl) ?_
    refine J.op rfl rfl rfl (V.mv rfl rfl) ?_
    refine J.op rfl rfl rfl (V.ar rfl rfl rfl rfl) ?_
    refine J.op rfl rfl rfl (V.ar rfl rfl rfl rfl) ?_
    refine J.op rfl rfl rfl (V.mv rfl rfl) ?_
    obtain ⟨hC2, h0⟩ := B.chk h0
    refine J.op rfl rfl rfl (V.quo rfl rfl rfl (nz hC2)) ?_
    refine J.op rfl rfl rfl (V.ng rfl rfl) ?_
    refine J.op rfl rfl rfl (V.as rfl rfl) ?_
    obtain ⟨t3, et3, h0⟩ := B.lt h0
    refine J.val (congrArg (Value.int .i64) et3) ?_
    refine J.nil ?_
    refine J.tN ?_
    refine J.ret ?_
    refine J.tR ?_
    obtain rfl := B.e h0
    exact J.ret1 rfl rfl fun w H => ⟨(), rfl, H.pick [] (by decide)⟩
  · replace h0 := B.f hB1 h0
    refine J.skip ?_
    refine J.tN ?_
    refine J.seq ?_
    refine J.region ?_
    refine J.op rfl rfl rfl (V.mv rfl rfl) ?_
    refine J.op rfl rfl rfl (V.mv rfl rfl) ?_
    obtain ⟨hC4, h0⟩ := B.chk h0
    refine J.op rfl rfl rfl (V.quo rfl rfl rfl (nz hC4)) ?_
    refine J.op rfl rfl rfl (V.as rfl rfl) ?_
    obtain ⟨t5, et5, h0⟩ := B.lt h0
    refine J.val (congrArg (Value.int .i64) et5) ?_
    refine J.nil ?_
    refine J.tN ?_
    refine J.ret ?_
    obtain rfl := B.e h0
    exact J.ret1 rfl rfl fun w H => ⟨(), rfl, H.pick [] (by decide)⟩

/-! ### (impl.Placement).zone: function 35 -/
noncomputable def impl_Placement_zone.f (p0_p : impl_Placement) (p1_reading : Int) : Option (Int) := (impl_floor.f (IntKind.wrap .i64 ((IntKind.wrap .i64 (p1_reading - (IntKind.wrap .i64 p0_p.Reading))) + 1)) 3).bind fun r3 => (some (IntKind.wrap .i64 ((IntKind.wrap .i64 p0_p.Zone) + r3))).bind fun t6 => some t6
set_option maxRecDepth 100000 in
theorem impl_Placement_zone.calls (p0_p : impl_Placement) (p1_reading : Int) (r : Int) (w : World) (H0 : Own [] w w []) (h0 : impl_Placement_zone.f p0_p p1_reading = some r) :
    Calls Try.prog 35 #[.agg #[.int .i8 p0_p.Reading, .int .i8 p0_p.Zone], .int .i64 p1_reading] w (fun e w' => ∃ _ : Unit, e = .returned (.int .i64 r) ∧ Own [] w w' []) := by
  unfold impl_Placement_zone.f at h0
  replace h0 := B.top h0
  refine calls_of_J (args := [.agg #[.int .i8 p0_p.Reading, .int .i8 p0_p.Zone], .int .i64 p1_reading]) Try.func35 rfl Try.ntmps35 rfl [(0, .agg #[.int .i8 p0_p.Reading, .int .i8 p0_p.Zone]), (1, .int .i64 p1_reading)] rfl H0 ?_
  refine J.seq ?_
  refine J.region ?_
  refine J.box rfl rfl rfl rfl rfl (fun _ _ => rfl) fun b1 => ?_
  refine J.op rfl rfl rfl (V.as rfl rfl) ?_
  refine J.nil ?_
  refine J.tN ?_
  refine J.seq ?_
  refine J.quiet mixed (by kernel_rfl) ?_
  refine JQ.op rfl rfl rfl (V.faB rfl rfl tf1_35) ?_
  refine JQ.op rfl rfl rfl (V.ldB 0 rfl rfl rfl Try.underlying24 ta24 rfl) ?_
  refine JQ.op rfl rfl rfl (V.conv rfl rfl Try.underlying24 Try.underlying2) ?_
  refine JQ.op rfl rfl rfl (V.mv rfl rfl) ?_
  refine JQ.op rfl rfl rfl (V.faB rfl rfl tf0_35) ?_
  refine JQ.op rfl rfl rfl (V.ldB 0 rfl rfl rfl Try.underlying24 ta24 rfl) ?_
  refine JQ.op rfl rfl rfl (V.conv rfl rfl Try.underlying24 Try.underlying2) ?_
  refine JQ.op rfl rfl rfl (V.ar rfl rfl rfl rfl) ?_
  refine JQ.op rfl rfl rfl (V.ar rfl rfl rfl rfl) ?_
  obtain ⟨r3, hr4, h0⟩ := B.bind h0
  obtain ⟨_, cf1, cf2, cf3⟩ := cf64
  refine JQ.cl (l := [.tmp 13, .const (.int .i64 3)]) cf1 cf2 cf3 (wN rfl) rfl rfl rfl rfl rfl (fun w H => impl_floor.calls (IntKind.wrap .i64 ((IntKind.wrap .i64 (p1_reading - (IntKind.wrap .i64 p0_p.Reading))) + 1)) 3 r3 w (Own.refl w)  hr4) ?_
  refine JQ.op rfl rfl rfl (V.ar rfl rfl rfl rfl) ?_
  refine JQ.op rfl rfl rfl (V.as rfl rfl) ?_
  obtain ⟨t6, et6, h0⟩ := B.lt h0
  refine JQ.val (congrArg (Value.int .i64) et6) ?_
  refine JQ.nil ?_
  refine J.tN ?_
  refine J.ret ?_
  obtain rfl := B.e h0
  exact J.ret1 rfl rfl fun w H => ⟨(), rfl, H.pick [] (by decide)⟩

end Go.Proofs.Ytfbkabcpmcofpaa
