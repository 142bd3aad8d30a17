/- Go functions as Lean functions, and that each call of theirs comes to just that: by a program written for this work (walk.py). No condition. -/
import Derived.Test.YtopmellnegcfpaaT
namespace Go.Proofs.Ytopmellnegcfpaa
open Go Go.RowKit G
set_option linter.unusedVariables false

/-! ### spec.l00In: function 33 -/
noncomputable def spec_l00In.f (p0_n : Int) (p1_low : Int) (p2_high : Int) : Option (Bool) := bif (decide (p1_low ≤ p0_n)) then ((some (decide (p0_n ≤ p2_high))).bind fun t2 => some t2) else (some false)
set_option maxRecDepth 100000 in
theorem spec_l00In.calls (p0_n : Int) (p1_low : Int) (p2_high : Int) (r : Bool) (w : World) (H0 : Own [] w w []) (h0 : spec_l00In.f p0_n p1_low p2_high = some r) :
    Calls Try.prog 33 #[.int .i64 p0_n, .int .i64 p1_low, .int .i64 p2_high] w (fun e w' => ∃ _ : Unit, e = .returned (.bool r) ∧ Own [] w w' []) := by
  unfold spec_l00In.f at h0
  replace h0 := B.top h0
  refine calls_of_J (args := [.int .i64 p0_n, .int .i64 p1_low, .int .i64 p2_high]) Try.func33 rfl Try.ntmps33 rfl [(0, .int .i64 p0_n), (1, .int .i64 p1_low), (2, .int .i64 p2_high)] rfl H0 ?_
  refine J.seq ?_
  refine J.region ?_
  refine J.op rfl rfl rfl (V.as rfl rfl) ?_
  refine J.nil ?_
  refine J.tN ?_
  refine J.seq ?_
  refine J.region ?_
  refine J.op rfl rfl rfl (V.mv rfl rfl) ?_
  refine J.op rfl rfl rfl (V.mv rfl rfl) ?_
  refine J.op rfl rfl rfl (V.cmp rfl rfl rfl rfl) ?_
  refine J.op rfl rfl rfl (V.mv rfl rfl) ?_
  refine J.split 10 rfl (fun hB1 => ?_) (fun hB1 => ?_)
  · replace h0 := B.t hB1 h0
    refine J.opOn rfl rfl rfl rfl rfl (V.mv rfl rfl) ?_
    refine J.opOn rfl rfl rfl rfl rfl (V.mv rfl rfl) ?_
    refine J.opOn rfl rfl rfl rfl rfl (V.cmp rfl rfl rfl rfl) ?_
    refine J.op rfl rfl rfl (V.pkT rfl rfl rfl) ?_
    refine J.op rfl rfl rfl (V.as rfl rfl) ?_
    obtain ⟨t2, et2, h0⟩ := B.lt h0
    refine J.val (congrArg (Value.bool) et2) ?_
    refine J.nil ?_
    refine J.tN ?_
    refine J.ret ?_
    obtain rfl := B.e h0
    exact J.ret1 rfl rfl fun w H => ⟨(), rfl, H.pick [] (by decide)⟩
  · replace h0 := B.f hB1 h0
    refine J.opOff rfl rfl rfl rfl rfl rfl ?_
    refine J.opOff rfl rfl rfl rfl rfl rfl ?_
    refine J.opOff rfl rfl rfl rfl rfl rfl ?_
    refine J.op rfl rfl rfl (V.pkF rfl rfl rfl) ?_
    refine J.op rfl rfl rfl (V.as rfl rfl) ?_
    refine J.nil ?_
    refine J.tN ?_
    refine J.ret ?_
    obtain rfl := B.e h0
    exact J.ret1 rfl rfl fun w H => ⟨(), rfl, H.pick [] (by decide)⟩

/-! ### spec.l06Reading: function 51 -/
noncomputable def spec_l06Reading.f (p0_n : Int) : Option (Bool) := (spec_l00In.f p0_n 0 60).bind fun r1 => some r1
set_option maxRecDepth 100000 in
theorem spec_l06Reading.calls (p0_n : Int) (r : Bool) (w : World) (H0 : Own [] w w []) (h0 : spec_l06Reading.f p0_n = some r) :
    Calls Try.prog 51 #[.int .i64 p0_n] w (fun e w' => ∃ _ : Unit, e = .returned (.bool r) ∧ Own [] w w' []) := by
  unfold spec_l06Reading.f at h0
  replace h0 := B.top h0
  refine calls_of_J (args := [.int .i64 p0_n]) Try.func51 rfl Try.ntmps51 rfl [(0, .int .i64 p0_n)] rfl H0 ?_
  refine J.seq ?_
  refine J.region ?_
  refine J.op rfl rfl rfl (V.as rfl rfl) ?_
  refine J.nil ?_
  refine J.tN ?_
  refine J.seq ?_
  refine J.region ?_
  refine J.op rfl rfl rfl (V.mv rfl rfl) ?_
  obtain ⟨r1, hr2, h0⟩ := B.bind h0
  refine J.cl (l := [.tmp 3, .const (.int .i64 0), .const (.int .i64 60)]) [] [] cf33 (wN rfl) rfl rfl rfl rfl rfl rfl (by simp) (fun w H => spec_l00In.calls p0_n 0 60 r1 w (Own.refl w)  hr2) fun g3 => ?_
  refine J.op rfl rfl rfl (V.as rfl rfl) ?_
  refine J.nil ?_
  refine J.tN ?_
  refine J.ret ?_
  obtain rfl := B.e h0
  exact J.ret1 rfl rfl fun w H => ⟨(), rfl, H.pick [] (by decide)⟩

/-! ### spec.l06Ok: function 29 -/
noncomputable def spec_l06Ok.b1 (p0_s : (Vector Int 24)) : Int → Option (Step (Int) (Sum (Unit) (Bool))) := fun s1 => bif (decide (s1 < 24)) then (bif (inB s1 24) then ((spec_l06Reading.f (IntKind.wrap .i64 (rdA p0_s s1))).bind fun r6 => bif (!r6) then (some (.done (.inr false))) else ((some (IntKind.wrap .i64 (s1 + 1))).bind fun i_10 => some (.next i_10))) else none) else (some (.done (.inl ())))
noncomputable def spec_l06Ok.f (p0_s : (Vector Int 24)) : Option (Bool) := (loopW (spec_l06Ok.b1 p0_s) 0).bind (Sum.elim (fun y12 => some true) (fun r => some r))
set_option maxRecDepth 100000 in
theorem spec_l06Ok.calls (b0_ : Nat) (p0_s : (Vector Int 24)) (r : Bool) (w : World) (H0 : Own [b0_] w w [.blk b0_ (encA .i8 p0_s) 26]) (h0 : spec_l06Ok.f p0_s = some r) :
    Calls Try.prog 29 #[bp b0_ 0] w (fun e w' => ∃ _ : Unit, e = .returned (.bool r) ∧ Own [b0_] w w' [.blk b0_ (encA .i8 p0_s) 26]) := by
  unfold spec_l06Ok.f at h0
  replace h0 := B.top h0
  refine calls_of_J (args := [bp b0_ 0]) Try.func29 rfl Try.ntmps29 rfl [(0, bp b0_ 0)] rfl H0 ?_
  refine J.seq ?_
  refine J.region ?_
  refine J.op rfl rfl rfl (V.as rfl rfl) ?_
  refine J.nil ?_
  refine J.tN ?_
  refine J.seq ?_
  refine J.seq ?_
  refine J.region ?_
  refine J.op rfl rfl rfl (V.as rfl rfl) ?_
  refine J.nil ?_
  refine J.tN ?_
  obtain ⟨o14, hy13, h0⟩ := B.bind h0
  refine J.cutQ (γ := (Unit) × (Unit)) (fun gy12 => o14 = .inl gy12.1) (fun gy12 => []) (fun gy12 => [.blk b0_ (encA .i8 p0_s) 26]) ?_ ?_
  · refine J.block ?_
    refine J.loop (γ := Unit) hy13 (fun s1 g2 => [(0, bp b0_ 0), (3, .int .i64 s1)]) (fun s1 g2 => [.blk b0_ (encA .i8 p0_s) 26]) () ?_ ?_
    · exact J.keep _ rfl (J.pickE [0] rfl rfl J.here)
    · intro rec3 s1 g2 h1
      unfold spec_l06Ok.b1 at h1
      refine J.seq ?_
      refine J.seq ?_
      refine J.region ?_
      refine J.op rfl rfl rfl (V.mv rfl rfl) ?_
      refine J.op rfl rfl rfl (V.cmp rfl rfl rfl rfl) ?_
      refine J.nil ?_
      refine J.tN ?_
      refine J.cond rfl (fun hB4 => ?_) (fun hB4 => ?_)
      · replace h1 := B.t hB4 h1
        refine J.skip ?_
        refine J.tN ?_
        refine J.seq ?_
        refine J.block ?_
        refine J.seq ?_
        refine J.region ?_
        refine J.op rfl rfl rfl (V.mv rfl rfl) ?_
        refine J.op rfl rfl rfl (V.mv rfl rfl) ?_
        refine J.op rfl rfl rfl (V.nc rfl rfl) ?_
        obtain ⟨hC5, h1⟩ := B.chk h1
        refine J.op rfl rfl rfl (V.ixB rfl rfl rfl tr26 ts22 hC5) ?_
        refine J.op rfl rfl rfl (V.ldB 0 rfl rfl rfl Try.underlying22 ta22 (encA_get0 .i8 _ hC5)) ?_
        refine J.op rfl rfl rfl (V.conv rfl rfl Try.underlying22 Try.underlying2) ?_
        obtain ⟨r6, hr7, h1⟩ := B.bind h1
        refine J.cl (l := [.tmp 13]) [] [.blk b0_ (encA .i8 p0_s) 26] cf51 (wN rfl) rfl rfl rfl rfl rfl rfl (by simp) (fun w H => spec_l06Reading.calls (IntKind.wrap .i64 (rdA p0_s s1)) r6 w (Own.refl w)  hr7) fun g8 => ?_
        refine J.op rfl rfl rfl (V.nt rfl rfl) ?_
        refine J.nil ?_
        refine J.tN ?_
        refine J.cond rfl (fun hB9 => ?_) (fun hB9 => ?_)
        · replace h1 := B.t hB9 h1
          refine J.seq ?_
          refine J.region ?_
          refine J.op rfl rfl rfl (V.as rfl rfl) ?_
          refine J.nil ?_
          refine J.tN ?_
          refine J.ret ?_
          refine J.bR ?_
          refine J.tR ?_
          refine J.tR ?_
          refine J.bR ?_
          refine J.tR ?_
          refine J.tR ?_
          obtain rfl := B.d h1
          replace h0 := B.inr h0
          obtain rfl := B.e h0
          exact J.ret1 rfl rfl fun w H => ⟨(), rfl, H.pick [0] (by decide)⟩
        · replace h1 := B.f hB9 h1
          refine J.skip ?_
          refine J.bN ?_
          refine J.tN ?_
          refine J.region ?_
          refine J.op rfl rfl rfl (V.mv rfl rfl) ?_
          refine J.op rfl rfl rfl (V.ar rfl rfl rfl rfl) ?_
          refine J.op rfl rfl rfl (V.as rfl rfl) ?_
          obtain ⟨i_10, ei_10, h1⟩ := B.lt h1
          refine J.val (congrArg (Value.int .i64) ei_10) ?_
          refine J.nil ?_
          refine J.tN (J.next i_10 () (B.n h1) ?_)
          exact J.keep _ rfl (J.pickE [0] rfl rfl J.here)
      · replace h1 := B.f hB4 h1
        refine J.exit ?_
        refine J.tE ?_
        refine J.tE ?_
        refine J.bE ?_
        obtain rfl := B.d h1
        refine J.tN (J.to ((), ()) rfl ?_)
        exact J.keep _ rfl (J.pickE [0] rfl rfl J.here)
  · intro gy12 hG
    replace h0 := B.inl hG h0
    refine J.tN ?_
    refine J.seq ?_
    refine J.region ?_
    refine J.op rfl rfl rfl (V.as rfl rfl) ?_
    refine J.nil ?_
    refine J.tN ?_
    refine J.ret ?_
    obtain rfl := B.e h0
    exact J.ret1 rfl rfl fun w H => ⟨(), rfl, H.pick [0] (by decide)⟩

/-! ### spec.l06Sorted: function 30 -/
noncomputable def spec_l06Sorted.b2 (p0_s : (Vector Int 24)) (s3 : Int × (List Int)) : (Int × (List Int)) → Option (Step (Int × (List Int)) ((List Int))) := fun s7 => bif (decide (s7.1 < 24)) then (bif (inB s7.1 24) then (bif ((IntKind.wrap .i64 (rdA p0_s s7.1)) == s3.1) then (bif (roomB s7.2.length 1 8) then ((some (IntKind.wrap .i64 (s7.1 + 1))).bind fun i_17 => some (.next (i_17, s7.2 ++ [s3.1]))) else none) else ((some (IntKind.wrap .i64 (s7.1 + 1))).bind fun i_18 => some (.next (i_18, s7.2)))) else none) else (some (.done s7.2))
noncomputable def spec_l06Sorted.b1 (p0_s : (Vector Int 24)) : (Int × (List Int)) → Option (Step (Int × (List Int)) ((List Int))) := fun s3 => bif (decide (s3.1 ≤ 60)) then ((loopW (spec_l06Sorted.b2 p0_s s3) (0, s3.2)).bind fun y19 => (some (IntKind.wrap .i64 (s3.1 + 1))).bind fun n_22 => some (.next (n_22, y19))) else (some (.done s3.2))
noncomputable def spec_l06Sorted.f (p0_s : (Vector Int 24)) : Option ((List Int)) := (loopW (spec_l06Sorted.b1 p0_s) (0, [])).bind fun y23 => some y23
set_option maxRecDepth 100000 in
theorem spec_l06Sorted.calls (b0_ : Nat) (p0_s : (Vector Int 24)) (r : (List Int)) (w : World) (H0 : Own [b0_] w w [.blk b0_ (encA .i8 p0_s) 26]) (h0 : spec_l06Sorted.f p0_s = some r) :
    Calls Try.prog 30 #[bp b0_ 0] w (fun e w' => ∃ gh : Value, e = .returned (gh) ∧ Own [b0_] w w' [.blk b0_ (encA .i8 p0_s) 26, .rowE gh 2 (eI .i64) r]) := by
  unfold spec_l06Sorted.f at h0
  replace h0 := B.top h0
  refine calls_of_J (args := [bp b0_ 0]) Try.func30 rfl Try.ntmps30 rfl [(0, bp b0_ 0)] rfl H0 ?_
  refine J.seq ?_
  refine J.region ?_
  refine J.op rfl rfl rfl (V.as rfl rfl) ?_
  refine J.nil ?_
  refine J.tN ?_
  refine J.seq ?_
  refine J.region ?_
  refine J.bs (l := []) (cs := []) (E := 2) rfl rfl rfl rfl rfl (fun w => by kernel_rfl) fun b1 => ?_
  refine J.op rfl rfl rfl (V.as rfl rfl) ?_
  refine J.nil ?_
  refine J.tN ?_
  refine J.seq ?_
  refine J.seq ?_
  refine J.region ?_
  refine J.op rfl rfl rfl (V.as rfl rfl) ?_
  refine J.nil ?_
  refine J.tN ?_
  refine J.blkRowE (eI .i64) [] 0 rfl rfl rfl ?_
  obtain ⟨y23, hy25, h0⟩ := B.bind h0
  refine J.cutQ (γ := Value) (fun _ => True) (fun gy24 => [(3, gy24)]) (fun gy24 => [.rowE gy24 2 (eI .i64) y23, .blk b0_ (encA .i8 p0_s) 26]) ?_ ?_
  · refine J.block ?_
    refine J.loop (γ := Value) hy25 (fun s3 g4 => [(0, bp b0_ 0), (3, g4), (4, .int .i64 s3.1)]) (fun s3 g4 => [.rowE g4 2 (eI .i64) s3.2, .blk b0_ (encA .i8 p0_s) 26]) (.slice (some ⟨b1, 0, none⟩) 0 0) ?_ ?_
    · exact J.keep _ rfl (J.pickE [0, 1] rfl rfl J.here)
    · intro rec5 s3 g4 h1
      unfold spec_l06Sorted.b1 at h1
      refine J.seq ?_
      refine J.seq ?_
      refine J.region ?_
      refine J.op rfl rfl rfl (V.mv rfl rfl) ?_
      refine J.op rfl rfl rfl (V.cmp rfl rfl rfl rfl) ?_
      refine J.nil ?_
      refine J.tN ?_
      refine J.cond rfl (fun hB6 => ?_) (fun hB6 => ?_)
      · replace h1 := B.t hB6 h1
        refine J.skip ?_
        refine J.tN ?_
        refine J.seq ?_
        refine J.block ?_
        refine J.seq ?_
        refine J.region ?_
        refine J.op rfl rfl rfl (V.as rfl rfl) ?_
        refine J.nil ?_
        refine J.tN ?_
        obtain ⟨y19, hy21, h1⟩ := B.bind h1
        refine J.cutQ (γ := Value) (fun _ => True) (fun gy20 => [(0, bp b0_ 0), (3, gy20), (4, .int .i64 s3.1)]) (fun gy20 => [.rowE gy20 2 (eI .i64) y19, .blk b0_ (encA .i8 p0_s) 26]) ?_ ?_
        · refine J.block ?_
          refine J.loop (γ := Value) hy21 (fun s7 g8 => [(0, bp b0_ 0), (3, g8), (4, .int .i64 s3.1), (5, .int .i64 s7.1)]) (fun s7 g8 => [.rowE g8 2 (eI .i64) s7.2, .blk b0_ (encA .i8 p0_s) 26]) g4 ?_ ?_
          · exact J.keep _ rfl (J.pickE [0, 1] rfl rfl J.here)
          · intro rec9 s7 g8 h2
            unfold spec_l06Sorted.b2 at h2
            refine J.seq ?_
            refine J.seq ?_
            refine J.region ?_
            refine J.op rfl rfl rfl (V.mv rfl rfl) ?_
            refine J.op rfl rfl rfl (V.cmp rfl rfl rfl rfl) ?_
            refine J.nil ?_
            refine J.tN ?_
            refine J.cond rfl (fun hB10 => ?_) (fun hB10 => ?_)
            · replace h2 := B.t hB10 h2
              refine J.skip ?_
              refine J.tN ?_
              refine J.seq ?_
              refine J.block ?_
              refine J.seq ?_
              refine J.region ?_
              refine J.op rfl rfl rfl (V.mv rfl rfl) ?_
              refine J.op rfl rfl rfl (V.mv rfl rfl) ?_
              refine J.op rfl rfl rfl (V.nc rfl rfl) ?_
              obtain ⟨hC11, h2⟩ := B.chk h2
              refine J.op rfl rfl rfl (V.ixB rfl rfl rfl tr26 ts22 hC11) ?_
              refine J.op rfl rfl rfl (V.ldB 1 rfl rfl rfl Try.underlying22 ta22 (encA_get0 .i8 _ hC11)) ?_
              refine J.op rfl rfl rfl (V.conv rfl rfl Try.underlying22 Try.underlying2) ?_
              refine J.op rfl rfl rfl (V.mv rfl rfl) ?_
              refine J.op rfl rfl rfl (V.cmp rfl rfl rfl rfl) ?_
              refine J.nil ?_
              refine J.tN ?_
              refine J.cond rfl (fun hB12 => ?_) (fun hB12 => ?_)
              · replace h2 := B.t hB12 h2
                refine J.region ?_
                refine J.op rfl rfl rfl (V.mv rfl rfl) ?_
                refine J.op rfl rfl rfl (V.mv rfl rfl) ?_
                refine J.bs (l := [(0, .tmp 24)]) (cs := [.int .i64 s3.1]) (E := 2) rfl rfl rfl rfl rfl (fun w => by kernel_rfl) fun b13 => ?_
                obtain ⟨hC16, h2⟩ := B.chk h2
                obtain ⟨_, ti1, ti2, ti3, ti4⟩ := ti2
                refine J.ap1 (e := (eI .i64)) (xs := s7.2) 1 0 s3.1 hC16 ti1 tl62 ti2 ti3 ti4 rfl rfl rfl rfl rfl rfl rfl rfl rfl rfl fun v15 => ?_
                refine J.op rfl rfl rfl (V.as rfl rfl) ?_
                refine J.nil ?_
                refine J.bN ?_
                refine J.tN ?_
                refine J.region ?_
                refine J.op rfl rfl rfl (V.mv rfl rfl) ?_
                refine J.op rfl rfl rfl (V.ar rfl rfl rfl rfl) ?_
                refine J.op rfl rfl rfl (V.as rfl rfl) ?_
                obtain ⟨i_17, ei_17, h2⟩ := B.lt h2
                refine J.val (congrArg (Value.int .i64) ei_17) ?_
                refine J.nil ?_
                refine J.tN (J.next (i_17, s7.2 ++ [s3.1]) v15 (B.n h2) ?_)
                exact J.keep _ rfl (J.pickE [1, 2] rfl rfl J.here)
              · replace h2 := B.f hB12 h2
                refine J.skip ?_
                refine J.bN ?_
                refine J.tN ?_
                refine J.region ?_
                refine J.op rfl rfl rfl (V.mv rfl rfl) ?_
                refine J.op rfl rfl rfl (V.ar rfl rfl rfl rfl) ?_
                refine J.op rfl rfl rfl (V.as rfl rfl) ?_
                obtain ⟨i_18, ei_18, h2⟩ := B.lt h2
                refine J.val (congrArg (Value.int .i64) ei_18) ?_
                refine J.nil ?_
                refine J.tN (J.next (i_18, s7.2) g8 (B.n h2) ?_)
                exact J.keep _ rfl (J.pickE [0, 1] rfl rfl J.here)
            · replace h2 := B.f hB10 h2
              refine J.exit ?_
              refine J.tE ?_
              refine J.tE ?_
              refine J.bE ?_
              obtain rfl := B.d h2
              refine J.tN (J.to g8 trivial ?_)
              exact J.keep _ rfl (J.pickE [0, 1] rfl rfl J.here)
        · intro gy20 _
          refine J.bN ?_
          refine J.tN ?_
          refine J.region ?_
          refine J.op rfl rfl rfl (V.mv rfl rfl) ?_
          refine J.op rfl rfl rfl (V.ar rfl rfl rfl rfl) ?_
          refine J.op rfl rfl rfl (V.as rfl rfl) ?_
          obtain ⟨n_22, en_22, h1⟩ := B.lt h1
          refine J.val (congrArg (Value.int .i64) en_22) ?_
          refine J.nil ?_
          refine J.tN (J.next (n_22, y19) gy20 (B.n h1) ?_)
          exact J.keep _ rfl (J.pickE [0, 1] rfl rfl J.here)
      · replace h1 := B.f hB6 h1
        refine J.exit ?_
        refine J.tE ?_
        refine J.tE ?_
        refine J.bE ?_
        obtain rfl := B.d h1
        refine J.tN (J.to g4 trivial ?_)
        exact J.keep _ rfl (J.pickE [0, 1] rfl rfl J.here)
  · intro gy24 _
    refine J.tN ?_
    refine J.seq ?_
    refine J.region ?_
    refine J.op rfl rfl rfl (V.mv rfl rfl) ?_
    refine J.op rfl rfl rfl (V.as rfl rfl) ?_
    refine J.nil ?_
    refine J.tN ?_
    refine J.ret ?_
    obtain rfl := B.e h0
    exact J.ret1 rfl rfl fun w H => ⟨gy24, rfl, H.pick [1, 0] (by decide)⟩

/-! ### spec.MedianReading: function 6 -/
noncomputable def spec_MedianReading.f (p0_s : (Vector Int 24)) : Option (Int × Int) := (spec_l06Ok.f p0_s).bind fun r3 => bif (!r3) then (some (0, 1)) else ((spec_l06Sorted.f p0_s).bind fun r7 => bif (inB 11 r7.length) then ((some (rd (eI .i64) r7 11)).bind fun t12 => some (t12, 0)) else none)
set_option maxRecDepth 100000 in
theorem spec_MedianReading.calls (p0_s : (Vector Int 24)) (r : Int × Int) (w : World) (H0 : Own [] w w []) (h0 : spec_MedianReading.f p0_s = some r) :
    Calls Try.prog 6 #[.agg (encA .i8 p0_s).toArray] w (fun e w' => ∃ _ : Unit, e = .returned (.tuple #[.int .i64 r.1, .int .i64 r.2]) ∧ Own [] w w' []) := by
  unfold spec_MedianReading.f at h0
  replace h0 := B.top h0
  refine calls_of_J (args := [.agg (encA .i8 p0_s).toArray]) Try.func6 rfl Try.ntmps6 rfl [(0, .agg (encA .i8 p0_s).toArray)] rfl H0 ?_
  refine J.seq ?_
  refine J.region ?_
  refine J.box rfl rfl rfl rfl rfl (fun _ _ => rfl) fun b1 => ?_
  refine J.op rfl rfl rfl (V.as rfl rfl) ?_
  refine J.op rfl rfl rfl (V.as rfl rfl) ?_
  refine J.nil ?_
  refine J.tN ?_
  refine J.seq ?_
  refine J.seq ?_
  refine J.region ?_
  obtain ⟨r3, hr4, h0⟩ := B.bind h0
  refine J.cl (l := [.tmp 1]) [.blk b1 (encA .i8 p0_s) 26] [] cf29 (wN rfl) rfl rfl rfl rfl rfl rfl hM1 (fun w H => spec_l06Ok.calls b1 p0_s r3 w H.enter1  hr4) fun g5 => ?_
  refine J.op rfl rfl rfl (V.nt rfl rfl) ?_
  refine J.nil ?_
  refine J.tN ?_
  refine J.cond rfl (fun hB6 => ?_) (fun hB6 => ?_)
  · replace h0 := B.t hB6 h0
    refine J.seq ?_
    refine J.region ?_
    refine J.op rfl rfl rfl (V.as rfl rfl) ?_
    refine J.op rfl rfl rfl (V.as rfl rfl) ?_
    refine J.nil ?_
    refine J.tN ?_
    refine J.ret ?_
    refine J.tR ?_
    obtain rfl := B.e h0
    exact J.ret2 rfl rfl rfl fun w H => ⟨(), rfl, H.pick [] (by decide)⟩
  · replace h0 := B.f hB6 h0
    refine J.skip ?_
    refine J.tN ?_
    refine J.seq ?_
    refine J.region ?_
    obtain ⟨r7, hr8, h0⟩ := B.bind h0
    refine J.cl (l := [.tmp 1]) [.blk b1 (encA .i8 p0_s) 26] [] cf30 (wN rfl) rfl rfl rfl rfl rfl rfl hM1 (fun w H => spec_l06Sorted.calls b1 p0_s r7 w H.enter1  hr8) fun g9 => ?_
    obtain ⟨hC11, h0⟩ := B.chk h0
    refine J.op rfl rfl rfl (V.ixR 1 rfl rfl rfl rfl tl62 ts2 hC11) ?_
    refine J.op rfl rfl rfl (V.elR0 1 rfl hC11 rfl rfl Try.underlying2 ta2 rfl) ?_
    refine J.op rfl rfl rfl (V.as rfl rfl) ?_
    obtain ⟨t12, et12, h0⟩ := B.lt h0
    refine J.val (congrArg (Value.int .i64) et12) ?_
    refine J.op rfl rfl rfl (V.as rfl rfl) ?_
    refine J.nil ?_
    refine J.tN ?_
    refine J.ret ?_
    obtain rfl := B.e h0
    exact J.ret2 rfl rfl rfl fun w H => ⟨(), rfl, H.pick [] (by decide)⟩

/-! ### laws.toScene: function 7 -/
noncomputable def laws_toScene.b1 (p0_a : (Vector Int 24)) : (Int × (Vector Int 24)) → Option (Step (Int × (Vector Int 24)) ((Vector Int 24))) := fun s7 => bif (decide (s7.1 < 24)) then (bif (inB s7.1 24) then (bif (inB s7.1 24) then ((some (wrA s7.2 s7.1 (rdA p0_a s7.1))).bind fun m13 => (some (IntKind.wrap .i64 (s7.1 + 1))).bind fun i_14 => some (.next (i_14, m13))) else none) else none) else (some (.done s7.2))
noncomputable def laws_toScene.f (p0_a : (Vector Int 24)) : Option ((Vector Int 24)) := (loopW (laws_toScene.b1 p0_a) (0, (zA 24))).bind fun y15 => some y15
set_option maxRecDepth 100000 in
theorem laws_toScene.calls (p0_a : (Vector Int 24)) (r : (Vector Int 24)) (w : World) (H0 : Own [] w w []) (h0 : laws_toScene.f p0_a = some r) :
    Calls Try.prog 7 #[.agg (encA .i8 p0_a).toArray] w (fun e w' => ∃ _ : Unit, e = .returned (.agg (encA .i8 r).toArray) ∧ Own [] w w' []) := by
  unfold laws_toScene.f at h0
  replace h0 := B.top h0
  refine calls_of_J (args := [.agg (encA .i8 p0_a).toArray]) Try.func7 rfl Try.ntmps7 rfl [(0, .agg (encA .i8 p0_a).toArray)] rfl H0 ?_
  refine J.seq ?_
  refine J.region ?_
  refine J.box rfl rfl rfl rfl rfl (fun _ _ => rfl) fun b1 => ?_
  refine J.alloc rfl rfl rfl rfl tz26 rfl fun b3 => ?_
  refine J.nil ?_
  refine J.tN ?_
  refine J.seq ?_
  refine J.region ?_
  refine J.alloc rfl rfl rfl rfl tz26 rfl fun b5 => ?_
  refine J.nil ?_
  refine J.tN ?_
  refine J.seq ?_
  refine J.seq ?_
  refine J.region ?_
  refine J.op rfl rfl rfl (V.as rfl rfl) ?_
  refine J.nil ?_
  refine J.tN ?_
  obtain ⟨y15, hy17, h0⟩ := B.bind h0
  refine J.cutQ (γ := Unit) (fun _ => True) (fun gy16 => [(2, bp b3 0), (3, bp b5 0)]) (fun gy16 => [.blk b5 (encA .i8 y15) 26, .blk b3 (encA .i8 (zA 24)) 26, .blk b1 (encA .i8 p0_a) 23]) ?_ ?_
  · refine J.block ?_
    refine J.loop (γ := Unit) hy17 (fun s7 g8 => [(1, bp b1 0), (2, bp b3 0), (3, bp b5 0), (4, .int .i64 s7.1)]) (fun s7 g8 => [.blk b5 (encA .i8 s7.2) 26, .blk b3 (encA .i8 (zA 24)) 26, .blk b1 (encA .i8 p0_a) 23]) () ?_ ?_
    · exact J.keep _ rfl (J.pickE [0, 1, 2] rfl rfl J.here)
    · intro rec9 s7 g8 h1
      unfold laws_toScene.b1 at h1
      refine J.seq ?_
      refine J.seq ?_
      refine J.region ?_
      refine J.op rfl rfl rfl (V.mv rfl rfl) ?_
      refine J.op rfl rfl rfl (V.cmp rfl rfl rfl rfl) ?_
      refine J.nil ?_
      refine J.tN ?_
      refine J.cond rfl (fun hB10 => ?_) (fun hB10 => ?_)
      · replace h1 := B.t hB10 h1
        refine J.skip ?_
        refine J.tN ?_
        refine J.seq ?_
        refine J.block ?_
        refine J.region ?_
        refine J.op rfl rfl rfl (V.mv rfl rfl) ?_
        refine J.op rfl rfl rfl (V.mv rfl rfl) ?_
        obtain ⟨hC11, h1⟩ := B.chk h1
        refine J.op rfl rfl rfl (V.ixB rfl rfl rfl tr23 ts22 hC11) ?_
        refine J.op rfl rfl rfl (V.ldB 2 rfl rfl rfl Try.underlying22 ta22 (encA_get0 .i8 _ hC11)) ?_
        obtain ⟨hC12, h1⟩ := B.chk h1
        refine J.op rfl rfl rfl (V.ixB rfl rfl rfl tr26 ts22 hC12) ?_
        refine J.stB 0 rfl rfl rfl rfl rfl rfl ts22 (fun _ _ => rfl) (encA_lt .i8 _ hC12) ?_
        refine J.setEnt 0 rfl (congrArg (fun q => Ent.blk _ q _) (encA_set .i8 _ _ _)) ?_
        obtain ⟨m13, em13, h1⟩ := B.lt h1
        refine J.setEnt 0 rfl (congrArg (fun q => Ent.blk _ (encA .i8 q) _) em13) ?_
        refine J.nil ?_
        refine J.bN ?_
        refine J.tN ?_
        refine J.region ?_
        refine J.op rfl rfl rfl (V.mv rfl rfl) ?_
        refine J.op rfl rfl rfl (V.ar rfl rfl rfl rfl) ?_
        refine J.op rfl rfl rfl (V.as rfl rfl) ?_
        obtain ⟨i_14, ei_14, h1⟩ := B.lt h1
        refine J.val (congrArg (Value.int .i64) ei_14) ?_
        refine J.nil ?_
        refine J.tN (J.next (i_14, m13) () (B.n h1) ?_)
        exact J.keep _ rfl (J.pickE [0, 1, 2] rfl rfl J.here)
      · replace h1 := B.f hB10 h1
        refine J.exit ?_
        refine J.tE ?_
        refine J.tE ?_
        refine J.bE ?_
        obtain rfl := B.d h1
        refine J.tN (J.to () trivial ?_)
        exact J.keep _ rfl (J.pickE [0, 1, 2] rfl rfl J.here)
  · intro gy16 _
    refine J.tN ?_
    refine J.seq ?_
    refine J.region ?_
    refine J.op rfl rfl rfl (V.ldW 0 rfl rfl rfl ts26 ta26 (encA_len _ _)) ?_
    refine J.stW (cs' := encA .i8 y15) 1 rfl rfl rfl rfl rfl rfl ts26 rfl (encA_one .i8 _) (encA_len _ _) (encA_len _ _) ?_
    refine J.nil ?_
    refine J.tN ?_
    refine J.ret ?_
    obtain rfl := B.e h0
    exact J.retC 1 rfl rfl rfl ts26 ta26 (encA_len _ _) fun w H => ⟨(), rfl, H.pick [] (by decide)⟩

/-! ### slices.IndexFunc[[]int8,int8]: function 64 -/
noncomputable def slices_IndexFunc_int8_int8.b1 (p0_s : (List Int)) (p1_f : Int → Option Bool) : Int → Option (Step (Int) (Sum (Unit) (Int))) := fun s1 => bif (decide (s1 < (p0_s.length : Int))) then (bif (inB s1 p0_s.length) then ((p1_f (rd (eI .i8) p0_s s1)).bind fun r6 => bif r6 then (some (.done (.inr s1))) else (some (.next (IntKind.wrap .i64 (s1 + 1))))) else none) else (some (.done (.inl ())))
noncomputable def slices_IndexFunc_int8_int8.f (p0_s : (List Int)) (p1_f : Int → Option Bool) : Option (Int) := (loopW (slices_IndexFunc_int8_int8.b1 p0_s p1_f) 0).bind (Sum.elim (fun y11 => some (-1)) (fun r => some r))
set_option maxRecDepth 100000 in
theorem slices_IndexFunc_int8_int8.calls (v0 : Value) (p0_s : (List Int)) (g1_ : Nat) (c1_ : Array Value) (p1_f : Int → Option Bool) (r : Int) (w : World) (H0 : Own [] w w []) (hS0 : SlE [] w v0 22 (eI .i8) p0_s) (hg1 : CallsFn Try.prog g1_) (hF1 : ∀ w2 x r, Own [] w w2 [] → p1_f x = some r → Calls Try.prog g1_ (#[.int .i8 x] ++ c1_) w2 (fun e w3 => ∃ _ : Unit, e = .returned (.bool r) ∧ Own [] w2 w3 [])) (h0 : slices_IndexFunc_int8_int8.f p0_s p1_f = some r) :
    Calls Try.prog 64 #[v0, .func (.func g1_) #[] c1_] w (fun e w' => ∃ _ : Unit, e = .returned (.int .i64 r) ∧ Own [] w w' []) := by
  unfold slices_IndexFunc_int8_int8.f at h0
  replace h0 := B.top h0
  refine calls_of_J (args := [v0, .func (.func g1_) #[] c1_]) Try.func64 rfl Try.ntmps64 rfl [(0, v0), (1, .func (.func g1_) #[] c1_)] rfl H0 ?_
  refine J.seq ?_
  refine J.region ?_
  refine J.op rfl rfl rfl (V.as rfl rfl) ?_
  refine J.nil ?_
  refine J.tN ?_
  refine J.seq ?_
  refine J.seq ?_
  refine J.region ?_
  refine J.op rfl rfl rfl (V.mv rfl rfl) ?_
  refine J.op rfl rfl rfl (V.lenS hS0 rfl rfl tl66) ?_
  refine J.op rfl rfl rfl (V.mv rfl rfl) ?_
  refine J.nil ?_
  refine J.tN ?_
  obtain ⟨o13, hy12, h0⟩ := B.bind h0
  refine J.cutQ (γ := (Unit) × (Unit)) (fun gy11 => o13 = .inl gy11.1) (fun gy11 => []) (fun gy11 => []) ?_ ?_
  · refine J.block ?_
    refine J.loop (γ := Unit) hy12 (fun s1 g2 => [(0, v0), (1, .func (.func g1_) #[] c1_), (7, .int .i64 (p0_s.length : Int)), (8, .int .i64 s1)]) (fun s1 g2 => []) () ?_ ?_
    · exact J.keep _ rfl (J.pickE [] rfl rfl J.here)
    · intro rec3 s1 g2 h1
      unfold slices_IndexFunc_int8_int8.b1 at h1
      refine J.seq ?_
      refine J.region ?_
      refine J.op rfl rfl rfl (V.cmp rfl rfl rfl rfl) ?_
      refine J.nil ?_
      refine J.tN ?_
      refine J.seq ?_
      refine J.cond rfl (fun hB4 => ?_) (fun hB4 => ?_)
      · replace h1 := B.t hB4 h1
        refine J.skip ?_
        refine J.tN ?_
        refine J.seq ?_
        refine J.block ?_
        refine J.seq ?_
        refine J.region ?_
        refine J.op rfl rfl rfl (V.mv rfl rfl) ?_
        refine J.op rfl rfl rfl (V.as rfl rfl) ?_
        refine J.nil ?_
        refine J.tN ?_
        refine J.seq ?_
        refine J.region ?_
        refine J.op rfl rfl rfl (V.mv rfl rfl) ?_
        refine J.op rfl rfl rfl (V.mv rfl rfl) ?_
        refine J.op rfl rfl rfl (V.mv rfl rfl) ?_
        obtain ⟨hC5, h1⟩ := B.chk h1
        refine J.op rfl rfl rfl (V.ixS hS0 rfl rfl rfl tl66 ts22 hC5) ?_
        refine J.op rfl rfl rfl (V.elS0 hS0 hC5 rfl rfl Try.underlying22 ta22 rfl) ?_
        obtain ⟨r6, hr7, h1⟩ := B.bind h1
        refine J.cl (l := [.tmp 15]) [] [] hg1 (wN rfl) rfl rfl rfl rfl rfl rfl (by simp) (fun w H => hF1 w (rd (eI .i8) p0_s s1) r6 H.none hr7) fun g8 => ?_
        refine J.nil ?_
        refine J.tN ?_
        refine J.cond rfl (fun hB9 => ?_) (fun hB9 => ?_)
        · replace h1 := B.t hB9 h1
          refine J.seq ?_
          refine J.region ?_
          refine J.op rfl rfl rfl (V.mv rfl rfl) ?_
          refine J.op rfl rfl rfl (V.as rfl rfl) ?_
          refine J.nil ?_
          refine J.tN ?_
          refine J.ret ?_
          refine J.bR ?_
          refine J.tR ?_
          refine J.tR ?_
          refine J.bR ?_
          refine J.tR ?_
          refine J.tR ?_
          obtain rfl := B.d h1
          replace h0 := B.inr h0
          obtain rfl := B.e h0
          exact J.ret1 rfl rfl fun w H => ⟨(), rfl, H.pick [] (by decide)⟩
        · replace h1 := B.f hB9 h1
          refine J.skip ?_
          refine J.bN ?_
          refine J.tN ?_
          refine J.region ?_
          refine J.op rfl rfl rfl (V.ar rfl rfl rfl rfl) ?_
          refine J.op rfl rfl rfl (V.mv rfl rfl) ?_
          refine J.nil ?_
          refine J.tN (J.next (IntKind.wrap .i64 (s1 + 1)) () (B.n h1) ?_)
          exact J.keep _ rfl (J.pickE [] rfl rfl J.here)
      · replace h1 := B.f hB4 h1
        refine J.exit ?_
        refine J.tE ?_
        refine J.tE ?_
        refine J.bE ?_
        obtain rfl := B.d h1
        refine J.tN (J.to ((), ()) rfl ?_)
        exact J.keep _ rfl (J.pickE [] rfl rfl J.here)
  · intro gy11 hG
    replace h0 := B.inl hG h0
    refine J.tN ?_
    refine J.seq ?_
    refine J.region ?_
    refine J.op rfl rfl rfl (V.as rfl rfl) ?_
    refine J.nil ?_
    refine J.tN ?_
    refine J.ret ?_
    obtain rfl := B.e h0
    exact J.ret1 rfl rfl fun w H => ⟨(), rfl, H.pick [] (by decide)⟩

/-! ### slices.ContainsFunc[[]int8,int8]: function 56 -/
noncomputable def slices_ContainsFunc_int8_int8.f (p0_s : (List Int)) (p1_f : Int → Option Bool) : Option (Bool) := (slices_IndexFunc_int8_int8.f p0_s p1_f).bind fun r1 => (some (decide (0 ≤ r1))).bind fun t4 => some t4
set_option maxRecDepth 100000 in
theorem slices_ContainsFunc_int8_int8.calls (v0 : Value) (p0_s : (List Int)) (g1_ : Nat) (c1_ : Array Value) (p1_f : Int → Option Bool) (r : Bool) (w : World) (H0 : Own [] w w []) (hS0 : SlE [] w v0 22 (eI .i8) p0_s) (hg1 : CallsFn Try.prog g1_) (hF1 : ∀ w2 x r, Own [] w w2 [] → p1_f x = some r → Calls Try.prog g1_ (#[.int .i8 x] ++ c1_) w2 (fun e w3 => ∃ _ : Unit, e = .returned (.bool r) ∧ Own [] w2 w3 [])) (h0 : slices_ContainsFunc_int8_int8.f p0_s p1_f = some r) :
    Calls Try.prog 56 #[v0, .func (.func g1_) #[] c1_] w (fun e w' => ∃ _ : Unit, e = .returned (.bool r) ∧ Own [] w w' []) := by
  unfold slices_ContainsFunc_int8_int8.f at h0
  replace h0 := B.top h0
  refine calls_of_J (args := [v0, .func (.func g1_) #[] c1_]) Try.func56 rfl Try.ntmps56 rfl [(0, v0), (1, .func (.func g1_) #[] c1_)] rfl H0 ?_
  refine J.seq ?_
  refine J.region ?_
  refine J.op rfl rfl rfl (V.as rfl rfl) ?_
  refine J.nil ?_
  refine J.tN ?_
  refine J.seq ?_
  refine J.region ?_
  refine J.op rfl rfl rfl (V.mv rfl rfl) ?_
  refine J.op rfl rfl rfl (V.mv rfl rfl) ?_
  obtain ⟨r1, hr2, h0⟩ := B.bind h0
  refine J.cl (l := [.tmp 5, .tmp 6]) [] [] cf64 (wN rfl) rfl rfl rfl rfl rfl rfl (by simp) (fun w H => slices_IndexFunc_int8_int8.calls v0 p0_s g1_ c1_ p1_f r1 w (Own.refl w) (Sl.later0 hS0 H) hg1 (fun w2 x r HO hp => hF1 w2 x r (H.none.trans0 HO) hp) hr2) fun g3 => ?_
  refine J.op rfl rfl rfl (V.cmp rfl rfl rfl rfl) ?_
  refine J.op rfl rfl rfl (V.as rfl rfl) ?_
  obtain ⟨t4, et4, h0⟩ := B.lt h0
  refine J.val (congrArg (Value.bool) et4) ?_
  refine J.nil ?_
  refine J.tN ?_
  refine J.ret ?_
  obtain rfl := B.e h0
  exact J.ret1 rfl rfl fun w H => ⟨(), rfl, H.pick [] (by decide)⟩

/-! ### impl.within: function 34 -/
noncomputable def impl_within.f (p0_n : Int) (p1_low : Int) (p2_high : Int) : Option (Bool) := bif (decide (p1_low ≤ p0_n)) then ((some (decide (p0_n ≤ p2_high))).bind fun t2 => some t2) else (some false)
set_option maxRecDepth 100000 in
theorem impl_within.calls (p0_n : Int) (p1_low : Int) (p2_high : Int) (r : Bool) (w : World) (H0 : Own [] w w []) (h0 : impl_within.f p0_n p1_low p2_high = some r) :
    Calls Try.prog 34 #[.int .i64 p0_n, .int .i64 p1_low, .int .i64 p2_high] w (fun e w' => ∃ _ : Unit, e = .returned (.bool r) ∧ Own [] w w' []) := by
  unfold impl_within.f at h0
  replace h0 := B.top h0
  refine calls_of_J (args := [.int .i64 p0_n, .int .i64 p1_low, .int .i64 p2_high]) Try.func34 rfl Try.ntmps34 rfl [(0, .int .i64 p0_n), (1, .int .i64 p1_low), (2, .int .i64 p2_high)] rfl H0 ?_
  refine J.seq ?_
  refine J.region ?_
  refine J.op rfl rfl rfl (V.as rfl rfl) ?_
  refine J.nil ?_
  refine J.tN ?_
  refine J.seq ?_
  refine J.region ?_
  refine J.op rfl rfl rfl (V.mv rfl rfl) ?_
  refine J.op rfl rfl rfl (V.mv rfl rfl) ?_
  refine J.op rfl rfl rfl (V.cmp rfl rfl rfl rfl) ?_
  refine J.op rfl rfl rfl (V.mv rfl rfl) ?_
  refine J.split 10 rfl (fun hB1 => ?_) (fun hB1 => ?_)
  · replace h0 := B.t hB1 h0
    refine J.opOn rfl rfl rfl rfl rfl (V.mv rfl rfl) ?_
    refine J.opOn rfl rfl rfl rfl rfl (V.mv rfl rfl) ?_
    refine J.opOn rfl rfl rfl rfl rfl (V.cmp rfl rfl rfl rfl) ?_
    refine J.op rfl rfl rfl (V.pkT rfl rfl rfl) ?_
    refine J.op rfl rfl rfl (V.as rfl rfl) ?_
    obtain ⟨t2, et2, h0⟩ := B.lt h0
    refine J.val (congrArg (Value.bool) et2) ?_
    refine J.nil ?_
    refine J.tN ?_
    refine J.ret ?_
    obtain rfl := B.e h0
    exact J.ret1 rfl rfl fun w H => ⟨(), rfl, H.pick [] (by decide)⟩
  · replace h0 := B.f hB1 h0
    refine J.opOff rfl rfl rfl rfl rfl rfl ?_
    refine J.opOff rfl rfl rfl rfl rfl rfl ?_
    refine J.opOff rfl rfl rfl rfl rfl rfl ?_
    refine J.op rfl rfl rfl (V.pkF rfl rfl rfl) ?_
    refine J.op rfl rfl rfl (V.as rfl rfl) ?_
    refine J.nil ?_
    refine J.tN ?_
    refine J.ret ?_
    obtain rfl := B.e h0
    exact J.ret1 rfl rfl fun w H => ⟨(), rfl, H.pick [] (by decide)⟩

/-! ### impl.isReading: function 39 -/
noncomputable def impl_isReading.f (p0_n : Int) : Option (Bool) := (impl_within.f p0_n 0 60).bind fun r1 => some r1
set_option maxRecDepth 100000 in
theorem impl_isReading.calls (p0_n : Int) (r : Bool) (w : World) (H0 : Own [] w w []) (h0 : impl_isReading.f p0_n = some r) :
    Calls Try.prog 39 #[.int .i64 p0_n] w (fun e w' => ∃ _ : Unit, e = .returned (.bool r) ∧ Own [] w w' []) := by
  unfold impl_isReading.f at h0
  replace h0 := B.top h0
  refine calls_of_J (args := [.int .i64 p0_n]) Try.func39 rfl Try.ntmps39 rfl [(0, .int .i64 p0_n)] rfl H0 ?_
  refine J.seq ?_
  refine J.region ?_
  refine J.op rfl rfl rfl (V.as rfl rfl) ?_
  refine J.nil ?_
  refine J.tN ?_
  refine J.seq ?_
  refine J.region ?_
  refine J.op rfl rfl rfl (V.mv rfl rfl) ?_
  obtain ⟨r1, hr2, h0⟩ := B.bind h0
  refine J.cl (l := [.tmp 3, .const (.int .i64 0), .const (.int .i64 60)]) [] [] cf34 (wN rfl) rfl rfl rfl rfl rfl rfl (by simp) (fun w H => impl_within.calls p0_n 0 60 r1 w (Own.refl w)  hr2) fun g3 => ?_
  refine J.op rfl rfl rfl (V.as rfl rfl) ?_
  refine J.nil ?_
  refine J.tN ?_
  refine J.ret ?_
  obtain rfl := B.e h0
  exact J.ret1 rfl rfl fun w H => ⟨(), rfl, H.pick [] (by decide)⟩

/-! ### impl.ValidScene$1: function 57 -/
noncomputable def impl_ValidScene_1.f (p0_n : Int) : Option (Bool) := (impl_isReading.f (IntKind.wrap .i64 p0_n)).bind fun r1 => (some (!r1)).bind fun t4 => some t4
set_option maxRecDepth 100000 in
theorem impl_ValidScene_1.calls (p0_n : Int) (r : Bool) (w : World) (H0 : Own [] w w []) (h0 : impl_ValidScene_1.f p0_n = some r) :
    Calls Try.prog 57 #[.int .i8 p0_n] w (fun e w' => ∃ _ : Unit, e = .returned (.bool r) ∧ Own [] w w' []) := by
  unfold impl_ValidScene_1.f at h0
  replace h0 := B.top h0
  refine calls_of_J (args := [.int .i8 p0_n]) Try.func57 rfl Try.ntmps57 rfl [(0, .int .i8 p0_n)] rfl H0 ?_
  refine J.seq ?_
  refine J.region ?_
  refine J.op rfl rfl rfl (V.as rfl rfl) ?_
  refine J.nil ?_
  refine J.tN ?_
  refine J.seq ?_
  refine J.region ?_
  refine J.op rfl rfl rfl (V.mv rfl rfl) ?_
  refine J.op rfl rfl rfl (V.conv rfl rfl Try.underlying22 Try.underlying2) ?_
  obtain ⟨r1, hr2, h0⟩ := B.bind h0
  refine J.cl (l := [.tmp 4]) [] [] cf39 (wN rfl) rfl rfl rfl rfl rfl rfl (by simp) (fun w H => impl_isReading.calls (IntKind.wrap .i64 p0_n) r1 w (Own.refl w)  hr2) fun g3 => ?_
  refine J.op rfl rfl rfl (V.nt rfl rfl) ?_
  refine J.op rfl rfl rfl (V.as rfl rfl) ?_
  obtain ⟨t4, et4, h0⟩ := B.lt h0
  refine J.val (congrArg (Value.bool) et4) ?_
  refine J.nil ?_
  refine J.tN ?_
  refine J.ret ?_
  obtain rfl := B.e h0
  exact J.ret1 rfl rfl fun w H => ⟨(), rfl, H.pick [] (by decide)⟩

/-! ### impl.ValidScene: function 31 -/
noncomputable def impl_ValidScene.f (p0_s : (Vector Int 24)) : Option (Bool) := (slices_ContainsFunc_int8_int8.f (p0_s.toList) (fun z3 => impl_ValidScene_1.f z3)).bind fun r4 => (some (!r4)).bind fun t7 => some t7
set_option maxRecDepth 100000 in
theorem impl_ValidScene.calls (p0_s : (Vector Int 24)) (r : Bool) (w : World) (H0 : Own [] w w []) (h0 : impl_ValidScene.f p0_s = some r) :
    Calls Try.prog 31 #[.agg (encA .i8 p0_s).toArray] w (fun e w' => ∃ _ : Unit, e = .returned (.bool r) ∧ Own [] w w' []) := by
  unfold impl_ValidScene.f at h0
  replace h0 := B.top h0
  refine calls_of_J (args := [.agg (encA .i8 p0_s).toArray]) Try.func31 rfl Try.ntmps31 rfl [(0, .agg (encA .i8 p0_s).toArray)] rfl H0 ?_
  refine J.seq ?_
  refine J.region ?_
  refine J.box rfl rfl rfl rfl rfl (fun _ _ => rfl) fun b1 => ?_
  refine J.op rfl rfl rfl (V.as rfl rfl) ?_
  refine J.nil ?_
  refine J.tN ?_
  refine J.seq ?_
  refine J.region ?_
  refine J.op rfl rfl rfl (V.arr rfl rfl tr26 ts22) ?_
  obtain ⟨r4, hr5, h0⟩ := B.bind h0
  refine J.cl (l := [.tmp 3, .func 57]) [] [.blk b1 (encA .i8 p0_s) 26] cf56 (wN rfl) rfl rfl rfl rfl rfl rfl (by simp) (fun w H => slices_ContainsFunc_int8_int8.calls (.slice (some ⟨b1, 0, none⟩) 24 24) (p0_s.toList) 57 (#[]) (fun z3 => impl_ValidScene_1.f z3) r4 w (Own.refl w) (Sl.arr (H.at (i := 0) rfl)) (cf57 : CallsFn _ 57) (fun w2 x r HO hp => impl_ValidScene_1.calls x r w2 (Own.refl w2) hp) hr5) fun g6 => ?_
  refine J.op rfl rfl rfl (V.nt rfl rfl) ?_
  refine J.op rfl rfl rfl (V.as rfl rfl) ?_
  obtain ⟨t7, et7, h0⟩ := B.lt h0
  refine J.val (congrArg (Value.bool) et7) ?_
  refine J.nil ?_
  refine J.tN ?_
  refine J.ret ?_
  obtain rfl := B.e h0
  exact J.ret1 rfl rfl fun w H => ⟨(), rfl, H.pick [] (by decide)⟩

/-! ### cmp.isNaN[int8]: function 81 -/
noncomputable def cmp_isNaN_int8.f (p0_x : Int) : Option (Bool) := (some (p0_x != p0_x)).bind fun t1 => some t1
set_option maxRecDepth 100000 in
theorem cmp_isNaN_int8.calls (p0_x : Int) (r : Bool) (w : World) (H0 : Own [] w w []) (h0 : cmp_isNaN_int8.f p0_x = some r) :
    Calls Try.prog 81 #[.int .i8 p0_x] w (fun e w' => ∃ _ : Unit, e = .returned (.bool r) ∧ Own [] w w' []) := by
  unfold cmp_isNaN_int8.f at h0
  replace h0 := B.top h0
  refine calls_of_J (args := [.int .i8 p0_x]) Try.func81 rfl Try.ntmps81 rfl [(0, .int .i8 p0_x)] rfl H0 ?_
  refine J.seq ?_
  refine J.region ?_
  refine J.op rfl rfl rfl (V.as rfl rfl) ?_
  refine J.nil ?_
  refine J.tN ?_
  refine J.seq ?_
  refine J.region ?_
  refine J.op rfl rfl rfl (V.mv rfl rfl) ?_
  refine J.op rfl rfl rfl (V.mv rfl rfl) ?_
  refine J.op rfl rfl rfl (V.cmp rfl rfl rfl rfl) ?_
  refine J.op rfl rfl rfl (V.as rfl rfl) ?_
  obtain ⟨t1, et1, h0⟩ := B.lt h0
  refine J.val (congrArg (Value.bool) et1) ?_
  refine J.nil ?_
  refine J.tN ?_
  refine J.ret ?_
  obtain rfl := B.e h0
  exact J.ret1 rfl rfl fun w H => ⟨(), rfl, H.pick [] (by decide)⟩

/-! ### cmp.Less[int8]: function 71 -/
noncomputable def cmp_Less_int8.f (p0_x : Int) (p1_y : Int) : Option (Bool) := (cmp_isNaN_int8.f p0_x).bind fun r1 => bif r1 then ((cmp_isNaN_int8.f p1_y).bind fun r5 => bif (!r5) then (some true) else ((some (decide (p0_x < p1_y))).bind fun t9 => some t9)) else ((some (decide (p0_x < p1_y))).bind fun t10 => some t10)
set_option maxRecDepth 100000 in
theorem cmp_Less_int8.calls (p0_x : Int) (p1_y : Int) (r : Bool) (w : World) (H0 : Own [] w w []) (h0 : cmp_Less_int8.f p0_x p1_y = some r) :
    Calls Try.prog 71 #[.int .i8 p0_x, .int .i8 p1_y] w (fun e w' => ∃ _ : Unit, e = .returned (.bool r) ∧ Own [] w w' []) := by
  unfold cmp_Less_int8.f at h0
  replace h0 := B.top h0
  refine calls_of_J (args := [.int .i8 p0_x, .int .i8 p1_y]) Try.func71 rfl Try.ntmps71 rfl [(0, .int .i8 p0_x), (1, .int .i8 p1_y)] rfl H0 ?_
  refine J.seq ?_
  refine J.region ?_
  refine J.op rfl rfl rfl (V.as rfl rfl) ?_
  refine J.nil ?_
  refine J.tN ?_
  refine J.seq ?_
  refine J.region ?_
  refine J.op rfl rfl rfl (V.mv rfl rfl) ?_
  obtain ⟨r1, hr2, h0⟩ := B.bind h0
  refine J.cl (l := [.tmp 5]) [] [] cf81 (wN rfl) rfl rfl rfl rfl rfl rfl (by simp) (fun w H => cmp_isNaN_int8.calls p0_x r1 w (Own.refl w)  hr2) fun g3 => ?_
  refine J.op rfl rfl rfl (V.mv rfl rfl) ?_
  refine J.split 7 rfl (fun hB4 => ?_) (fun hB4 => ?_)
  · replace h0 := B.t hB4 h0
    refine J.opOn rfl rfl rfl rfl rfl (V.mv rfl rfl) ?_
    obtain ⟨r5, hr6, h0⟩ := B.bind h0
    refine J.cl (l := [.tmp 8]) [] [] cf81 (wY rfl rfl rfl) rfl rfl rfl rfl rfl rfl (by simp) (fun w H => cmp_isNaN_int8.calls p1_y r5 w (Own.refl w)  hr6) fun g7 => ?_
    refine J.opOn rfl rfl rfl rfl rfl (V.nt rfl rfl) ?_
    refine J.op rfl rfl rfl (V.pkT rfl rfl rfl) ?_
    refine J.op rfl rfl rfl (V.mv rfl rfl) ?_
    refine J.split 12 rfl (fun hB8 => ?_) (fun hB8 => ?_)
    · replace h0 := B.t hB8 h0
      refine J.opOff rfl rfl rfl rfl rfl rfl ?_
      refine J.opOff rfl rfl rfl rfl rfl rfl ?_
      refine J.opOff rfl rfl rfl rfl rfl rfl ?_
      refine J.op rfl rfl rfl (V.pkT rfl rfl rfl) ?_
      refine J.op rfl rfl rfl (V.as rfl rfl) ?_
      refine J.nil ?_
      refine J.tN ?_
      refine J.ret ?_
      obtain rfl := B.e h0
      exact J.ret1 rfl rfl fun w H => ⟨(), rfl, H.pick [] (by decide)⟩
    · replace h0 := B.f hB8 h0
      refine J.opOn rfl rfl rfl rfl rfl (V.mv rfl rfl) ?_
      refine J.opOn rfl rfl rfl rfl rfl (V.mv rfl rfl) ?_
      refine J.opOn rfl rfl rfl rfl rfl (V.cmp rfl rfl rfl rfl) ?_
      refine J.op rfl rfl rfl (V.pkF rfl rfl rfl) ?_
      refine J.op rfl rfl rfl (V.as rfl rfl) ?_
      obtain ⟨t9, et9, h0⟩ := B.lt h0
      refine J.val (congrArg (Value.bool) et9) ?_
      refine J.nil ?_
      refine J.tN ?_
      refine J.ret ?_
      obtain rfl := B.e h0
      exact J.ret1 rfl rfl fun w H => ⟨(), rfl, H.pick [] (by decide)⟩
  · replace h0 := B.f hB4 h0
    refine J.opOff rfl rfl rfl rfl rfl rfl ?_
    refine J.opOff rfl rfl rfl rfl rfl rfl ?_
    refine J.opOff rfl rfl rfl rfl rfl rfl ?_
    refine J.op rfl rfl rfl (V.pkF rfl rfl rfl) ?_
    refine J.op rfl rfl rfl (V.mv rfl rfl) ?_
    refine J.opOn rfl rfl rfl rfl rfl (V.mv rfl rfl) ?_
    refine J.opOn rfl rfl rfl rfl rfl (V.mv rfl rfl) ?_
    refine J.opOn rfl rfl rfl rfl rfl (V.cmp rfl rfl rfl rfl) ?_
    refine J.op rfl rfl rfl (V.pkF rfl rfl rfl) ?_
    refine J.op rfl rfl rfl (V.as rfl rfl) ?_
    obtain ⟨t10, et10, h0⟩ := B.lt h0
    refine J.val (congrArg (Value.bool) et10) ?_
    refine J.nil ?_
    refine J.tN ?_
    refine J.ret ?_
    obtain rfl := B.e h0
    exact J.ret1 rfl rfl fun w H => ⟨(), rfl, H.pick [] (by decide)⟩

/-! ### slices.insertionSortOrdered[int8]: function 65 -/
noncomputable def slices_insertionSortOrdered_int8.b2 (n0_ : Nat) (p1_a : Int) : (Int × (Vector Int n0_)) → Option (Step (Int × (Vector Int n0_)) ((Vector Int n0_))) := fun s6 => bif (decide (p1_a < s6.1)) then (bif (inB s6.1 n0_) then (bif (inB (IntKind.wrap .i64 (s6.1 - 1)) n0_) then ((cmp_Less_int8.f (rdA s6.2 s6.1) (rdA s6.2 (IntKind.wrap .i64 (s6.1 - 1)))).bind fun r12 => bif r12 then (bif (inB (IntKind.wrap .i64 (s6.1 - 1)) n0_) then (bif (inB s6.1 n0_) then (bif (inB s6.1 n0_) then ((some (wrA s6.2 s6.1 (rdA s6.2 (IntKind.wrap .i64 (s6.1 - 1))))).bind fun m19 => bif (inB (IntKind.wrap .i64 (s6.1 - 1)) n0_) then ((some (wrA m19 (IntKind.wrap .i64 (s6.1 - 1)) (rdA s6.2 s6.1))).bind fun m21 => (some (IntKind.wrap .i64 (s6.1 - 1))).bind fun j_22 => some (.next (j_22, m21))) else none) else none) else none) else none) else (some (.done s6.2))) else none) else none) else (some (.done s6.2))
noncomputable def slices_insertionSortOrdered_int8.b1 (n0_ : Nat) (p1_a : Int) (p2_b : Int) : (Int × (Vector Int n0_)) → Option (Step (Int × (Vector Int n0_)) ((Vector Int n0_))) := fun s2 => bif (decide (s2.1 < p2_b)) then ((loopW (slices_insertionSortOrdered_int8.b2 n0_ p1_a) (s2.1, s2.2)).bind fun y23 => (some (IntKind.wrap .i64 (s2.1 + 1))).bind fun i_26 => some (.next (i_26, y23))) else (some (.done s2.2))
noncomputable def slices_insertionSortOrdered_int8.f (n0_ : Nat) (p0_data : Vector Int n0_) (p1_a : Int) (p2_b : Int) : Option ((Vector Int n0_)) := (some (IntKind.wrap .i64 (p1_a + 1))).bind fun i_1 => (loopW (slices_insertionSortOrdered_int8.b1 n0_ p1_a p2_b) (i_1, p0_data)).bind fun y27 => some y27
set_option maxRecDepth 100000 in
theorem slices_insertionSortOrdered_int8.calls (b0_ n0_ T0_ : Nat) (p0_data : Vector Int n0_) (p1_a : Int) (p2_b : Int) (r : (Vector Int n0_)) (w : World) (H0 : Own [b0_] w w [.blk b0_ (encA .i8 p0_data) T0_]) (h0 : slices_insertionSortOrdered_int8.f n0_ p0_data p1_a p2_b = some r) :
    Calls Try.prog 65 #[.slice (some ⟨b0_, 0, none⟩) n0_ n0_, .int .i64 p1_a, .int .i64 p2_b] w (fun e w' => ∃ _ : Unit, e = .returned (.tuple #[]) ∧ Own [b0_] w w' [.blk b0_ (encA .i8 r) T0_]) := by
  unfold slices_insertionSortOrdered_int8.f at h0
  replace h0 := B.top h0
  refine calls_of_J (args := [.slice (some ⟨b0_, 0, none⟩) n0_ n0_, .int .i64 p1_a, .int .i64 p2_b]) Try.func65 rfl Try.ntmps65 rfl [(0, .slice (some ⟨b0_, 0, none⟩) n0_ n0_), (1, .int .i64 p1_a), (2, .int .i64 p2_b)] rfl H0 ?_
  refine J.seq ?_
  refine J.region ?_
  refine J.op rfl rfl rfl (V.mv rfl rfl) ?_
  refine J.op rfl rfl rfl (V.ar rfl rfl rfl rfl) ?_
  refine J.op rfl rfl rfl (V.as rfl rfl) ?_
  obtain ⟨i_1, ei_1, h0⟩ := B.lt h0
  refine J.val (congrArg (Value.int .i64) ei_1) ?_
  refine J.nil ?_
  refine J.tN ?_
  obtain ⟨y27, hy29, h0⟩ := B.bind h0
  refine J.cutQ (γ := Unit) (fun _ => True) (fun gy28 => []) (fun gy28 => [.blk b0_ (encA .i8 y27) T0_]) ?_ ?_
  · refine J.block ?_
    refine J.loop (γ := Unit) hy29 (fun s2 g3 => [(0, .slice (some ⟨b0_, 0, none⟩) n0_ n0_), (1, .int .i64 p1_a), (2, .int .i64 p2_b), (6, .int .i64 s2.1)]) (fun s2 g3 => [.blk b0_ (encA .i8 s2.2) T0_]) () ?_ ?_
    · exact J.keep _ rfl (J.pickE [0] rfl rfl J.here)
    · intro rec4 s2 g3 h1
      unfold slices_insertionSortOrdered_int8.b1 at h1
      refine J.seq ?_
      refine J.seq ?_
      refine J.region ?_
      refine J.op rfl rfl rfl (V.mv rfl rfl) ?_
      refine J.op rfl rfl rfl (V.mv rfl rfl) ?_
      refine J.op rfl rfl rfl (V.cmp rfl rfl rfl rfl) ?_
      refine J.nil ?_
      refine J.tN ?_
      refine J.cond rfl (fun hB5 => ?_) (fun hB5 => ?_)
      · replace h1 := B.t hB5 h1
        refine J.skip ?_
        refine J.tN ?_
        refine J.seq ?_
        refine J.block ?_
        refine J.seq ?_
        refine J.region ?_
        refine J.op rfl rfl rfl (V.mv rfl rfl) ?_
        refine J.op rfl rfl rfl (V.as rfl rfl) ?_
        refine J.nil ?_
        refine J.tN ?_
        obtain ⟨y23, hy25, h1⟩ := B.bind h1
        refine J.cutQ (γ := Unit) (fun _ => True) (fun gy24 => [(0, .slice (some ⟨b0_, 0, none⟩) n0_ n0_), (1, .int .i64 p1_a), (2, .int .i64 p2_b), (6, .int .i64 s2.1)]) (fun gy24 => [.blk b0_ (encA .i8 y23) T0_]) ?_ ?_
        · refine J.block ?_
          refine J.loop (γ := Unit) hy25 (fun s6 g7 => [(0, .slice (some ⟨b0_, 0, none⟩) n0_ n0_), (1, .int .i64 p1_a), (2, .int .i64 p2_b), (6, .int .i64 s2.1), (7, .int .i64 s6.1)]) (fun s6 g7 => [.blk b0_ (encA .i8 s6.2) T0_]) () ?_ ?_
          · exact J.keep _ rfl (J.pickE [0] rfl rfl J.here)
          · intro rec8 s6 g7 h2
            unfold slices_insertionSortOrdered_int8.b2 at h2
            refine J.seq ?_
            refine J.seq ?_
            refine J.quiet mixed (by kernel_rfl) ?_
            refine JQ.op rfl rfl rfl (V.mv rfl rfl) ?_
            refine JQ.op rfl rfl rfl (V.mv rfl rfl) ?_
            refine JQ.op rfl rfl rfl (V.cmp rfl rfl rfl rfl) ?_
            refine JQ.op rfl rfl rfl (V.mv rfl rfl) ?_
            refine JQ.split 19 rfl (fun hB9 => ?_) (fun hB9 => ?_)
            · replace h2 := B.t hB9 h2
              refine JQ.opOn rfl rfl rfl rfl rfl (V.mv rfl rfl) ?_
              refine JQ.opOn rfl rfl rfl rfl rfl (V.mv rfl rfl) ?_
              obtain ⟨hC10, h2⟩ := B.chk h2
              refine JQ.opOn rfl rfl rfl rfl rfl (V.ixM rfl rfl rfl tl66 ts22 hC10) ?_
              refine JQ.opOn rfl rfl rfl rfl rfl (V.ldB 0 rfl rfl rfl Try.underlying22 ta22 (encA_get0 .i8 _ hC10)) ?_
              refine JQ.opOn rfl rfl rfl rfl rfl (V.mv rfl rfl) ?_
              refine JQ.opOn rfl rfl rfl rfl rfl (V.mv rfl rfl) ?_
              refine JQ.opOn rfl rfl rfl rfl rfl (V.ar rfl rfl rfl rfl) ?_
              obtain ⟨hC11, h2⟩ := B.chk h2
              refine JQ.opOn rfl rfl rfl rfl rfl (V.ixM rfl rfl rfl tl66 ts22 hC11) ?_
              refine JQ.opOn rfl rfl rfl rfl rfl (V.ldB 0 rfl rfl rfl Try.underlying22 ta22 (encA_get0 .i8 _ hC11)) ?_
              obtain ⟨r12, hr13, h2⟩ := B.bind h2
              obtain ⟨_, cf1, cf2, cf3⟩ := cf71
              refine JQ.cl (l := [.tmp 23, .tmp 28]) cf1 cf2 cf3 (wY rfl rfl rfl) rfl rfl rfl rfl rfl (fun w H => cmp_Less_int8.calls (rdA s6.2 s6.1) (rdA s6.2 (IntKind.wrap .i64 (s6.1 - 1))) r12 w (Own.refl w)  hr13) ?_
              refine JQ.op rfl rfl rfl (V.pkT rfl rfl rfl) ?_
              refine JQ.nil ?_
              refine J.tN ?_
              refine J.cond rfl (fun hB15 => ?_) (fun hB15 => ?_)
              · replace h2 := B.t hB15 h2
                refine J.skip ?_
                refine J.tN ?_
                refine J.seq ?_
                refine J.block ?_
                refine J.lateW 15 [2, 3, 4, 10, 11, 12] mixed (by kernel_rfl) ?_
                refine JL.op rfl rfl rfl rfl (V.mv rfl rfl) ?_
                refine JL.op rfl rfl rfl rfl (V.mv rfl rfl) ?_
                refine JL.pure rfl rfl rfl (fun w1 => V.mv rfl rfl) ?_
                refine JL.pure rfl rfl rfl (fun w1 => V.mv rfl rfl) ?_
                refine JL.pure rfl rfl rfl (fun w1 => V.ar rfl rfl rfl rfl) ?_
                refine JL.op rfl rfl rfl rfl (V.mv rfl rfl) ?_
                refine JL.op rfl rfl rfl rfl (V.mv rfl rfl) ?_
                refine JL.op rfl rfl rfl rfl (V.ar rfl rfl rfl rfl) ?_
                obtain ⟨hC16, h2⟩ := B.chk h2
                refine JL.op rfl rfl rfl rfl (V.ixM rfl rfl rfl tl66 ts22 hC16) ?_
                refine JL.op rfl rfl rfl rfl (V.ldB 0 rfl rfl rfl Try.underlying22 ta22 (encA_get0 .i8 _ hC16)) ?_
                refine JL.pure rfl rfl rfl (fun w1 => V.mv rfl rfl) ?_
                refine JL.pure rfl rfl rfl (fun w1 => V.mv rfl rfl) ?_
                obtain ⟨hC17, h2⟩ := B.chk h2
                refine JL.pure rfl rfl rfl (fun w1 => V.ixM rfl rfl rfl tl66 ts22 hC17) ?_
                refine JL.op rfl rfl rfl rfl (V.ldB 0 rfl rfl rfl Try.underlying22 ta22 (encA_get0 .i8 _ hC17)) ?_
                obtain ⟨hC18, h2⟩ := B.chk h2
                refine JL.op rfl rfl rfl rfl (V.ixM rfl rfl rfl tl66 ts22 hC18) ?_
                refine JL.tail ?_
                refine J.stB 0 rfl rfl rfl rfl rfl rfl ts22 (fun _ _ => rfl) (encA_lt .i8 _ hC18) ?_
                refine J.setEnt 0 rfl (congrArg (fun q => Ent.blk _ q _) (encA_set .i8 _ _ _)) ?_
                obtain ⟨m19, em19, h2⟩ := B.lt h2
                refine J.setEnt 0 rfl (congrArg (fun q => Ent.blk _ (encA .i8 q) _) em19) ?_
                obtain ⟨hC20, h2⟩ := B.chk h2
                refine J.op rfl rfl rfl (V.ixM rfl rfl rfl tl66 ts22 hC20) ?_
                refine J.stB 0 rfl rfl rfl rfl rfl rfl ts22 (fun _ _ => rfl) (encA_lt .i8 _ hC20) ?_
                refine J.setEnt 0 rfl (congrArg (fun q => Ent.blk _ q _) (encA_set .i8 _ _ _)) ?_
                obtain ⟨m21, em21, h2⟩ := B.lt h2
                refine J.setEnt 0 rfl (congrArg (fun q => Ent.blk _ (encA .i8 q) _) em21) ?_
                refine J.nil ?_
                refine J.calm ?_
                refine J.bN ?_
                refine J.tN ?_
                refine J.region ?_
                refine J.op rfl rfl rfl (V.mv rfl rfl) ?_
                refine J.op rfl rfl rfl (V.ar rfl rfl rfl rfl) ?_
                refine J.op rfl rfl rfl (V.as rfl rfl) ?_
                obtain ⟨j_22, ej_22, h2⟩ := B.lt h2
                refine J.val (congrArg (Value.int .i64) ej_22) ?_
                refine J.nil ?_
                refine J.tN (J.next (j_22, m21) () (B.n h2) ?_)
                exact J.keep _ rfl (J.pickE [0] rfl rfl J.here)
              · replace h2 := B.f hB15 h2
                refine J.exit ?_
                refine J.tE ?_
                refine J.tE ?_
                refine J.bE ?_
                obtain rfl := B.d h2
                refine J.tN (J.to () trivial ?_)
                exact J.keep _ rfl (J.pickE [0] rfl rfl J.here)
            · replace h2 := B.f hB9 h2
              refine JQ.opOff rfl rfl rfl rfl rfl rfl ?_
              refine JQ.opOff rfl rfl rfl rfl rfl rfl ?_
              refine JQ.opOff rfl rfl rfl rfl rfl rfl ?_
              refine JQ.opOff rfl rfl rfl rfl rfl rfl ?_
              refine JQ.opOff rfl rfl rfl rfl rfl rfl ?_
              refine JQ.opOff rfl rfl rfl rfl rfl rfl ?_
              refine JQ.opOff rfl rfl rfl rfl rfl rfl ?_
              refine JQ.opOff rfl rfl rfl rfl rfl rfl ?_
              refine JQ.opOff rfl rfl rfl rfl rfl rfl ?_
              refine JQ.opOff rfl rfl rfl rfl rfl rfl ?_
              refine JQ.op rfl rfl rfl (V.pkF rfl rfl rfl) ?_
              refine JQ.nil ?_
              refine J.tN ?_
              refine J.condF rfl ?_
              refine J.exit ?_
              refine J.tE ?_
              refine J.tE ?_
              refine J.bE ?_
              obtain rfl := B.d h2
              refine J.tN (J.to () trivial ?_)
              exact J.keep _ rfl (J.pickE [0] rfl rfl J.here)
        · intro gy24 _
          refine J.bN ?_
          refine J.tN ?_
          refine J.region ?_
          refine J.op rfl rfl rfl (V.mv rfl rfl) ?_
          refine J.op rfl rfl rfl (V.ar rfl rfl rfl rfl) ?_
          refine J.op rfl rfl rfl (V.as rfl rfl) ?_
          obtain ⟨i_26, ei_26, h1⟩ := B.lt h1
          refine J.val (congrArg (Value.int .i64) ei_26) ?_
          refine J.nil ?_
          refine J.tN (J.next (i_26, y23) () (B.n h1) ?_)
          exact J.keep _ rfl (J.pickE [0] rfl rfl J.here)
      · replace h1 := B.f hB5 h1
        refine J.exit ?_
        refine J.tE ?_
        refine J.tE ?_
        refine J.bE ?_
        obtain rfl := B.d h1
        refine J.tN (J.to () trivial ?_)
        exact J.keep _ rfl (J.pickE [0] rfl rfl J.here)
  · intro gy28 _
    refine J.fin ?_
    obtain rfl := B.e h0
    exact J.ret0 rfl fun w H => ⟨(), rfl, H.pick [0] (by decide)⟩

/-! ### slices.siftDownOrdered[int8]: function 76 -/
noncomputable def slices_siftDownOrdered_int8.b1 (n0_ : Nat) (p2_hi : Int) (p3_first : Int) : (Int × (Vector Int n0_)) → Option (Step (Int × (Vector Int n0_)) (Sum ((Vector Int n0_)) ((Vector Int n0_)))) := fun s1 => (some (IntKind.wrap .i64 ((IntKind.wrap .i64 (2 * s1.1)) + 1))).bind fun child_4 => bif (decide (p2_hi ≤ child_4)) then (some (.done (.inl s1.2))) else (((bif (decide ((IntKind.wrap .i64 (child_4 + 1)) < p2_hi)) then (bif (inB (IntKind.wrap .i64 (p3_first + child_4)) n0_) then (bif (inB (IntKind.wrap .i64 ((IntKind.wrap .i64 (p3_first + child_4)) + 1)) n0_) then ((cmp_Less_int8.f (rdA s1.2 (IntKind.wrap .i64 (p3_first + child_4))) (rdA s1.2 (IntKind.wrap .i64 ((IntKind.wrap .i64 (p3_first + child_4)) + 1)))).bind fun r13 => some r13) else none) else none) else (some false) : Option (Bool)).bind fun y8 => bif y8 then ((some (IntKind.wrap .i64 (child_4 + 1))).bind fun child_18 => some child_18) else (some child_4) : Option (Int)).bind fun y6 => bif (inB (IntKind.wrap .i64 (p3_first + s1.1)) n0_) then (bif (inB (IntKind.wrap .i64 (p3_first + y6)) n0_) then ((cmp_Less_int8.f (rdA s1.2 (IntKind.wrap .i64 (p3_first + s1.1))) (rdA s1.2 (IntKind.wrap .i64 (p3_first + y6)))).bind fun r22 => bif (!r22) then (some (.done (.inr s1.2))) else (bif (inB (IntKind.wrap .i64 (p3_first + y6)) n0_) then (bif (inB (IntKind.wrap .i64 (p3_first + s1.1)) n0_) then (bif (inB (IntKind.wrap .i64 (p3_first + s1.1)) n0_) then ((some (wrA s1.2 (IntKind.wrap .i64 (p3_first + s1.1)) (rdA s1.2 (IntKind.wrap .i64 (p3_first + y6))))).bind fun m29 => bif (inB (IntKind.wrap .i64 (p3_first + y6)) n0_) then ((some (wrA m29 (IntKind.wrap .i64 (p3_first + y6)) (rdA s1.2 (IntKind.wrap .i64 (p3_first + s1.1))))).bind fun m31 => some (.next (y6, m31))) else none) else none) else none) else none)) else none) else none)
noncomputable def slices_siftDownOrdered_int8.f (n0_ : Nat) (p0_data : Vector Int n0_) (p1_lo : Int) (p2_hi : Int) (p3_first : Int) : Option ((Vector Int n0_)) := (loopW (slices_siftDownOrdered_int8.b1 n0_ p2_hi p3_first) (p1_lo, p0_data)).bind (Sum.elim (fun y33 => some y33) (fun r => some r))
set_option maxRecDepth 100000 in
theorem slices_siftDownOrdered_int8.calls (b0_ n0_ T0_ : Nat) (p0_data : Vector Int n0_) (p1_lo : Int) (p2_hi : Int) (p3_first : Int) (r : (Vector Int n0_)) (w : World) (H0 : Own [b0_] w w [.blk b0_ (encA .i8 p0_data) T0_]) (h0 : slices_siftDownOrdered_int8.f n0_ p0_data p1_lo p2_hi p3_first = some r) :
    Calls Try.prog 76 #[.slice (some ⟨b0_, 0, none⟩) n0_ n0_, .int .i64 p1_lo, .int .i64 p2_hi, .int .i64 p3_first] w (fun e w' => ∃ _ : Unit, e = .returned (.tuple #[]) ∧ Own [b0_] w w' [.blk b0_ (encA .i8 r) T0_]) := by
  unfold slices_siftDownOrdered_int8.f at h0
  replace h0 := B.top h0
  refine calls_of_J (args := [.slice (some ⟨b0_, 0, none⟩) n0_ n0_, .int .i64 p1_lo, .int .i64 p2_hi, .int .i64 p3_first]) Try.func76 rfl Try.ntmps76 rfl [(0, .slice (some ⟨b0_, 0, none⟩) n0_ n0_), (1, .int .i64 p1_lo), (2, .int .i64 p2_hi), (3, .int .i64 p3_first)] rfl H0 ?_
  refine J.seq ?_
  refine J.region ?_
  refine J.op rfl rfl rfl (V.mv rfl rfl) ?_
  refine J.op rfl rfl rfl (V.as rfl rfl) ?_
  refine J.nil ?_
  refine J.tN ?_
  obtain ⟨o35, hy34, h0⟩ := B.bind h0
  refine J.cutQ (γ := ((Vector Int n0_)) × (Unit)) (fun gy33 => o35 = .inl gy33.1) (fun gy33 => []) (fun gy33 => [.blk b0_ (encA .i8 gy33.1) T0_]) ?_ ?_
  · refine J.block ?_
    refine J.loop (γ := Unit) hy34 (fun s1 g2 => [(0, .slice (some ⟨b0_, 0, none⟩) n0_ n0_), (2, .int .i64 p2_hi), (3, .int .i64 p3_first), (8, .int .i64 s1.1)]) (fun s1 g2 => [.blk b0_ (encA .i8 s1.2) T0_]) () ?_ ?_
    · exact J.keep _ rfl (J.pickE [0] rfl rfl J.here)
    · intro rec3 s1 g2 h1
      unfold slices_siftDownOrdered_int8.b1 at h1
      refine J.block ?_
      refine J.seq ?_
      refine J.region ?_
      refine J.op rfl rfl rfl (V.mv rfl rfl) ?_
      refine J.op rfl rfl rfl (V.ar rfl rfl rfl rfl) ?_
      refine J.op rfl rfl rfl (V.ar rfl rfl rfl rfl) ?_
      refine J.op rfl rfl rfl (V.as rfl rfl) ?_
      obtain ⟨child_4, echild_4, h1⟩ := B.lt h1
      refine J.val (congrArg (Value.int .i64) echild_4) ?_
      refine J.nil ?_
      refine J.tN ?_
      refine J.seq ?_
      refine J.seq ?_
      refine J.region ?_
      refine J.op rfl rfl rfl (V.mv rfl rfl) ?_
      refine J.op rfl rfl rfl (V.mv rfl rfl) ?_
      refine J.op rfl rfl rfl (V.cmp rfl rfl rfl rfl) ?_
      refine J.nil ?_
      refine J.tN ?_
      refine J.cond rfl (fun hB5 => ?_) (fun hB5 => ?_)
      · replace h1 := B.t hB5 h1
        refine J.exit ?_
        refine J.tE ?_
        refine J.bF rfl ?_
        refine J.tE ?_
        refine J.bE ?_
        obtain rfl := B.d h1
        refine J.tN (J.to (s1.2, ()) rfl ?_)
        exact J.keep _ rfl (J.pickE [0] rfl rfl J.here)
      · replace h1 := B.f hB5 h1
        refine J.skip ?_
        refine J.tN ?_
        refine J.seq ?_
        obtain ⟨y6, hy19, h1⟩ := B.bind h1
        replace hy19 := B.top hy19
        refine J.cut (γ := Unit) (fun _ => True) (fun gy7 => [(0, .slice (some ⟨b0_, 0, none⟩) n0_ n0_), (2, .int .i64 p2_hi), (3, .int .i64 p3_first), (8, .int .i64 s1.1), (9, .int .i64 y6)]) (fun gy7 => [.blk b0_ (encA .i8 s1.2) T0_]) ?_ ?_
        · have h2 := hy19
          refine J.seq ?_
          obtain ⟨y8, hy16, h2⟩ := B.bind h2
          replace hy16 := B.top hy16
          refine J.cut (γ := Unit) (fun _ => True) (fun gy9 => [(0, .slice (some ⟨b0_, 0, none⟩) n0_ n0_), (2, .int .i64 p2_hi), (3, .int .i64 p3_first), (8, .int .i64 s1.1), (9, .int .i64 child_4), (36, .bool y8)]) (fun gy9 => [.blk b0_ (encA .i8 s1.2) T0_]) ?_ ?_
          · have h3 := hy16
            refine J.quiet mixed (by kernel_rfl) ?_
            refine JQ.op rfl rfl rfl (V.mv rfl rfl) ?_
            refine JQ.op rfl rfl rfl (V.ar rfl rfl rfl rfl) ?_
            refine JQ.op rfl rfl rfl (V.mv rfl rfl) ?_
            refine JQ.op rfl rfl rfl (V.cmp rfl rfl rfl rfl) ?_
            refine JQ.op rfl rfl rfl (V.mv rfl rfl) ?_
            refine JQ.split 21 rfl (fun hB10 => ?_) (fun hB10 => ?_)
            · replace h3 := B.t hB10 h3
              refine JQ.opOn rfl rfl rfl rfl rfl (V.mv rfl rfl) ?_
              refine JQ.opOn rfl rfl rfl rfl rfl (V.mv rfl rfl) ?_
              refine JQ.opOn rfl rfl rfl rfl rfl (V.mv rfl rfl) ?_
              refine JQ.opOn rfl rfl rfl rfl rfl (V.ar rfl rfl rfl rfl) ?_
              obtain ⟨hC11, h3⟩ := B.chk h3
              refine JQ.opOn rfl rfl rfl rfl rfl (V.ixM rfl rfl rfl tl66 ts22 hC11) ?_
              refine JQ.opOn rfl rfl rfl rfl rfl (V.ldB 0 rfl rfl rfl Try.underlying22 ta22 (encA_get0 .i8 _ hC11)) ?_
              refine JQ.opOn rfl rfl rfl rfl rfl (V.mv rfl rfl) ?_
              refine JQ.opOn rfl rfl rfl rfl rfl (V.mv rfl rfl) ?_
              refine JQ.opOn rfl rfl rfl rfl rfl (V.mv rfl rfl) ?_
              refine JQ.opOn rfl rfl rfl rfl rfl (V.ar rfl rfl rfl rfl) ?_
              refine JQ.opOn rfl rfl rfl rfl rfl (V.ar rfl rfl rfl rfl) ?_
              obtain ⟨hC12, h3⟩ := B.chk h3
              refine JQ.opOn rfl rfl rfl rfl rfl (V.ixM rfl rfl rfl tl66 ts22 hC12) ?_
              refine JQ.opOn rfl rfl rfl rfl rfl (V.ldB 0 rfl rfl rfl Try.underlying22 ta22 (encA_get0 .i8 _ hC12)) ?_
              obtain ⟨r13, hr14, h3⟩ := B.bind h3
              obtain ⟨_, cf1, cf2, cf3⟩ := cf71
              refine JQ.cl (l := [.tmp 27, .tmp 34]) cf1 cf2 cf3 (wY rfl rfl rfl) rfl rfl rfl rfl rfl (fun w H => cmp_Less_int8.calls (rdA s1.2 (IntKind.wrap .i64 (p3_first + child_4))) (rdA s1.2 (IntKind.wrap .i64 ((IntKind.wrap .i64 (p3_first + child_4)) + 1))) r13 w (Own.refl w)  hr14) ?_
              refine JQ.op rfl rfl rfl (V.pkT rfl rfl rfl) ?_
              refine JQ.nil ?_
              obtain rfl := B.e h3
              refine J.tN (J.to () trivial ?_)
              exact J.keep _ rfl (J.pickE [0] rfl rfl J.here)
            · replace h3 := B.f hB10 h3
              refine JQ.opOff rfl rfl rfl rfl rfl rfl ?_
              refine JQ.opOff rfl rfl rfl rfl rfl rfl ?_
              refine JQ.opOff rfl rfl rfl rfl rfl rfl ?_
              refine JQ.opOff rfl rfl rfl rfl rfl rfl ?_
              refine JQ.opOff rfl rfl rfl rfl rfl rfl ?_
              refine JQ.opOff rfl rfl rfl rfl rfl rfl ?_
              refine JQ.opOff rfl rfl rfl rfl rfl rfl ?_
              refine JQ.opOff rfl rfl rfl rfl rfl rfl ?_
              refine JQ.opOff rfl rfl rfl rfl rfl rfl ?_
              refine JQ.opOff rfl rfl rfl rfl rfl rfl ?_
              refine JQ.opOff rfl rfl rfl rfl rfl rfl ?_
              refine JQ.opOff rfl rfl rfl rfl rfl rfl ?_
              refine JQ.opOff rfl rfl rfl rfl rfl rfl ?_
              refine JQ.opOff rfl rfl rfl rfl rfl rfl ?_
              refine JQ.op rfl rfl rfl (V.pkF rfl rfl rfl) ?_
              refine JQ.nil ?_
              obtain rfl := B.e h3
              refine J.tN (J.to () trivial ?_)
              exact J.keep _ rfl (J.pickE [0] rfl rfl J.here)
          · intro gy9 _
            refine J.cond rfl (fun hB17 => ?_) (fun hB17 => ?_)
            · replace h2 := B.t hB17 h2
              refine J.region ?_
              refine J.op rfl rfl rfl (V.mv rfl rfl) ?_
              refine J.op rfl rfl rfl (V.ar rfl rfl rfl rfl) ?_
              refine J.op rfl rfl rfl (V.as rfl rfl) ?_
              obtain ⟨child_18, echild_18, h2⟩ := B.lt h2
              refine J.val (congrArg (Value.int .i64) echild_18) ?_
              refine J.nil ?_
              obtain rfl := B.e h2
              refine J.tN (J.to () trivial ?_)
              exact J.keep _ rfl (J.pickE [0] rfl rfl J.here)
            · replace h2 := B.f hB17 h2
              refine J.skip ?_
              obtain rfl := B.e h2
              refine J.tN (J.to () trivial ?_)
              exact J.keep _ rfl (J.pickE [0] rfl rfl J.here)
        · intro gy7 _
          refine J.seq ?_
          refine J.seq ?_
          refine J.quiet mixed (by kernel_rfl) ?_
          refine JQ.op rfl rfl rfl (V.mv rfl rfl) ?_
          refine JQ.op rfl rfl rfl (V.mv rfl rfl) ?_
          refine JQ.op rfl rfl rfl (V.mv rfl rfl) ?_
          refine JQ.op rfl rfl rfl (V.ar rfl rfl rfl rfl) ?_
          obtain ⟨hC20, h1⟩ := B.chk h1
          refine JQ.op rfl rfl rfl (V.ixM rfl rfl rfl tl66 ts22 hC20) ?_
          refine JQ.op rfl rfl rfl (V.ldB 0 rfl rfl rfl Try.underlying22 ta22 (encA_get0 .i8 _ hC20)) ?_
          refine JQ.op rfl rfl rfl (V.mv rfl rfl) ?_
          refine JQ.op rfl rfl rfl (V.mv rfl rfl) ?_
          refine JQ.op rfl rfl rfl (V.mv rfl rfl) ?_
          refine JQ.op rfl rfl rfl (V.ar rfl rfl rfl rfl) ?_
          obtain ⟨hC21, h1⟩ := B.chk h1
          refine JQ.op rfl rfl rfl (V.ixM rfl rfl rfl tl66 ts22 hC21) ?_
          refine JQ.op rfl rfl rfl (V.ldB 0 rfl rfl rfl Try.underlying22 ta22 (encA_get0 .i8 _ hC21)) ?_
          obtain ⟨r22, hr23, h1⟩ := B.bind h1
          obtain ⟨_, cf1, cf2, cf3⟩ := cf71
          refine JQ.cl (l := [.tmp 44, .tmp 50]) cf1 cf2 cf3 (wN rfl) rfl rfl rfl rfl rfl (fun w H => cmp_Less_int8.calls (rdA s1.2 (IntKind.wrap .i64 (p3_first + s1.1))) (rdA s1.2 (IntKind.wrap .i64 (p3_first + y6))) r22 w (Own.refl w)  hr23) ?_
          refine JQ.op rfl rfl rfl (V.nt rfl rfl) ?_
          refine JQ.nil ?_
          refine J.tN ?_
          refine J.cond rfl (fun hB25 => ?_) (fun hB25 => ?_)
          · replace h1 := B.t hB25 h1
            refine J.ret ?_
            refine J.tR ?_
            refine J.bR ?_
            refine J.tR ?_
            refine J.bR ?_
            refine J.tR ?_
            obtain rfl := B.d h1
            replace h0 := B.inr h0
            obtain rfl := B.e h0
            exact J.ret0 rfl fun w H => ⟨(), rfl, H.pick [0] (by decide)⟩
          · replace h1 := B.f hB25 h1
            refine J.skip ?_
            refine J.tN ?_
            refine J.seq ?_
            refine J.lateW 21 [4, 5, 6, 7, 14, 15, 16, 17, 18] mixed (by kernel_rfl) ?_
            refine JL.op rfl rfl rfl rfl (V.mv rfl rfl) ?_
            refine JL.op rfl rfl rfl rfl (V.mv rfl rfl) ?_
            refine JL.op rfl rfl rfl rfl (V.mv rfl rfl) ?_
            refine JL.op rfl rfl rfl rfl (V.ar rfl rfl rfl rfl) ?_
            refine JL.pure rfl rfl rfl (fun w1 => V.mv rfl rfl) ?_
            refine JL.pure rfl rfl rfl (fun w1 => V.mv rfl rfl) ?_
            refine JL.pure rfl rfl rfl (fun w1 => V.mv rfl rfl) ?_
            refine JL.pure rfl rfl rfl (fun w1 => V.ar rfl rfl rfl rfl) ?_
            refine JL.op rfl rfl rfl rfl (V.mv rfl rfl) ?_
            refine JL.op rfl rfl rfl rfl (V.mv rfl rfl) ?_
            refine JL.op rfl rfl rfl rfl (V.mv rfl rfl) ?_
            refine JL.op rfl rfl rfl rfl (V.ar rfl rfl rfl rfl) ?_
            obtain ⟨hC26, h1⟩ := B.chk h1
            refine JL.op rfl rfl rfl rfl (V.ixM rfl rfl rfl tl66 ts22 hC26) ?_
            refine JL.op rfl rfl rfl rfl (V.ldB 0 rfl rfl rfl Try.underlying22 ta22 (encA_get0 .i8 _ hC26)) ?_
            refine JL.pure rfl rfl rfl (fun w1 => V.mv rfl rfl) ?_
            refine JL.pure rfl rfl rfl (fun w1 => V.mv rfl rfl) ?_
            refine JL.pure rfl rfl rfl (fun w1 => V.mv rfl rfl) ?_
            refine JL.pure rfl rfl rfl (fun w1 => V.ar rfl rfl rfl rfl) ?_
            obtain ⟨hC27, h1⟩ := B.chk h1
            refine JL.pure rfl rfl rfl (fun w1 => V.ixM rfl rfl rfl tl66 ts22 hC27) ?_
            refine JL.op rfl rfl rfl rfl (V.ldB 0 rfl rfl rfl Try.underlying22 ta22 (encA_get0 .i8 _ hC27)) ?_
            obtain ⟨hC28, h1⟩ := B.chk h1
            refine JL.op rfl rfl rfl rfl (V.ixM rfl rfl rfl tl66 ts22 hC28) ?_
            refine JL.tail ?_
            refine J.stB 0 rfl rfl rfl rfl rfl rfl ts22 (fun _ _ => rfl) (encA_lt .i8 _ hC28) ?_
            refine J.setEnt 0 rfl (congrArg (fun q => Ent.blk _ q _) (encA_set .i8 _ _ _)) ?_
            obtain ⟨m29, em29, h1⟩ := B.lt h1
            refine J.setEnt 0 rfl (congrArg (fun q => Ent.blk _ (encA .i8 q) _) em29) ?_
            obtain ⟨hC30, h1⟩ := B.chk h1
            refine J.op rfl rfl rfl (V.ixM rfl rfl rfl tl66 ts22 hC30) ?_
            refine J.stB 0 rfl rfl rfl rfl rfl rfl ts22 (fun _ _ => rfl) (encA_lt .i8 _ hC30) ?_
            refine J.setEnt 0 rfl (congrArg (fun q => Ent.blk _ q _) (encA_set .i8 _ _ _)) ?_
            obtain ⟨m31, em31, h1⟩ := B.lt h1
            refine J.setEnt 0 rfl (congrArg (fun q => Ent.blk _ (encA .i8 q) _) em31) ?_
            refine J.nil ?_
            refine J.calm ?_
            refine J.tN ?_
            refine J.region ?_
            refine J.op rfl rfl rfl (V.mv rfl rfl) ?_
            refine J.op rfl rfl rfl (V.as rfl rfl) ?_
            refine J.nil ?_
            refine J.bN ?_
            refine J.tN (J.next (y6, m31) () (B.n h1) ?_)
            exact J.keep _ rfl (J.pickE [0] rfl rfl J.here)
  · intro gy33 hG
    replace h0 := B.inl hG h0
    refine J.fin ?_
    obtain rfl := B.e h0
    exact J.ret0 rfl fun w H => ⟨(), rfl, H.pick [0] (by decide)⟩

end Go.Proofs.Ytopmellnegcfpaa
