/- Go functions as Lean functions, and that each call of theirs comes to just that: by a program written for this work (walk.py). No condition. -/
import Derived.Test.YtopmellnegcfpaaF2
namespace Go.Proofs.Ytopmellnegcfpaa
open Go Go.RowKit G
set_option linter.unusedVariables false

/-! ### slices.partitionOrdered[int8]: function 73 -/
noncomputable def slices_partitionOrdered_int8.b1 (n0_ : Nat) (p1_a : Int) (m6 : (Vector Int n0_)) (j_8 : Int) : Int → Option (Step (Int) (Int)) := fun s9 => bif (decide (s9 ≤ j_8)) then (bif (inB s9 n0_) then (bif (inB p1_a n0_) then ((cmp_Less_int8.f (rdA m6 s9) (rdA m6 p1_a)).bind fun r15 => bif r15 then ((some (IntKind.wrap .i64 (s9 + 1))).bind fun i_19 => some (.next i_19)) else (some (.done s9))) else none) else none) else (some (.done s9))
noncomputable def slices_partitionOrdered_int8.b2 (n0_ : Nat) (p1_a : Int) (m6 : (Vector Int n0_)) (y20 : Int) : Int → Option (Step (Int) (Int)) := fun s23 => bif (decide (y20 ≤ s23)) then (bif (inB s23 n0_) then (bif (inB p1_a n0_) then ((cmp_Less_int8.f (rdA m6 s23) (rdA m6 p1_a)).bind fun r29 => bif (!r29) then ((some (IntKind.wrap .i64 (s23 - 1))).bind fun j_33 => some (.next j_33)) else (some (.done s23))) else none) else none) else (some (.done s23))
noncomputable def slices_partitionOrdered_int8.b4 (n0_ : Nat) (p1_a : Int) (s52 : Int × Int × (Vector Int n0_)) : Int → Option (Step (Int) (Int)) := fun s55 => bif (decide (s55 ≤ s52.2.1)) then (bif (inB s55 n0_) then (bif (inB p1_a n0_) then ((cmp_Less_int8.f (rdA s52.2.2 s55) (rdA s52.2.2 p1_a)).bind fun r61 => bif r61 then ((some (IntKind.wrap .i64 (s55 + 1))).bind fun i_65 => some (.next i_65)) else (some (.done s55))) else none) else none) else (some (.done s55))
noncomputable def slices_partitionOrdered_int8.b5 (n0_ : Nat) (p1_a : Int) (s52 : Int × Int × (Vector Int n0_)) (y66 : Int) : Int → Option (Step (Int) (Int)) := fun s69 => bif (decide (y66 ≤ s69)) then (bif (inB s69 n0_) then (bif (inB p1_a n0_) then ((cmp_Less_int8.f (rdA s52.2.2 s69) (rdA s52.2.2 p1_a)).bind fun r75 => bif (!r75) then ((some (IntKind.wrap .i64 (s69 - 1))).bind fun j_79 => some (.next j_79)) else (some (.done s69))) else none) else none) else (some (.done s69))
noncomputable def slices_partitionOrdered_int8.b3 (n0_ : Nat) (p1_a : Int) : (Int × Int × (Vector Int n0_)) → Option (Step (Int × Int × (Vector Int n0_)) (Int × (Vector Int n0_))) := fun s52 => (loopW (slices_partitionOrdered_int8.b4 n0_ p1_a s52) s52.1).bind fun y66 => (loopW (slices_partitionOrdered_int8.b5 n0_ p1_a s52 y66) s52.2.1).bind fun y80 => bif (decide (y80 < y66)) then (some (.done (y80, s52.2.2))) else (bif (inB y80 n0_) then (bif (inB y66 n0_) then (bif (inB y66 n0_) then ((some (wrA s52.2.2 y66 (rdA s52.2.2 y80))).bind fun m87 => bif (inB y80 n0_) then ((some (wrA m87 y80 (rdA s52.2.2 y66))).bind fun m89 => (some (IntKind.wrap .i64 (y66 + 1))).bind fun i_90 => (some (IntKind.wrap .i64 (y80 - 1))).bind fun j_91 => some (.next (i_90, j_91, m89))) else none) else none) else none) else none)
noncomputable def slices_partitionOrdered_int8.f (n0_ : Nat) (p0_data : Vector Int n0_) (p1_a : Int) (p2_b : Int) (p3_pivot : Int) : Option (Int × Bool × (Vector Int n0_)) := bif (inB p3_pivot n0_) then (bif (inB p1_a n0_) then (bif (inB p1_a n0_) then ((some (wrA p0_data p1_a (rdA p0_data p3_pivot))).bind fun m4 => bif (inB p3_pivot n0_) then ((some (wrA m4 p3_pivot (rdA p0_data p1_a))).bind fun m6 => (some (IntKind.wrap .i64 (p1_a + 1))).bind fun i_7 => (some (IntKind.wrap .i64 (p2_b - 1))).bind fun j_8 => (loopW (slices_partitionOrdered_int8.b1 n0_ p1_a m6 j_8) i_7).bind fun y20 => (loopW (slices_partitionOrdered_int8.b2 n0_ p1_a m6 y20) j_8).bind fun y34 => bif (decide (y34 < y20)) then (bif (inB p1_a n0_) then (bif (inB y34 n0_) then (bif (inB y34 n0_) then ((some (wrA m6 y34 (rdA m6 p1_a))).bind fun m41 => bif (inB p1_a n0_) then ((some (wrA m41 p1_a (rdA m6 y34))).bind fun m43 => some (y34, true, m43)) else none) else none) else none) else none) else (bif (inB y34 n0_) then (bif (inB y20 n0_) then (bif (inB y20 n0_) then ((some (wrA m6 y20 (rdA m6 y34))).bind fun m47 => bif (inB y34 n0_) then ((some (wrA m47 y34 (rdA m6 y20))).bind fun m49 => (some (IntKind.wrap .i64 (y20 + 1))).bind fun i_50 => (some (IntKind.wrap .i64 (y34 - 1))).bind fun j_51 => (loopW (slices_partitionOrdered_int8.b3 n0_ p1_a) (i_50, j_51, m49)).bind fun y92 => bif (inB p1_a n0_) then (bif (inB y92.1 n0_) then (bif (inB y92.1 n0_) then ((some (wrA y92.2 y92.1 (rdA y92.2 p1_a))).bind fun m98 => bif (inB p1_a n0_) then ((some (wrA m98 p1_a (rdA y92.2 y92.1))).bind fun m100 => some (y92.1, false, m100)) else none) else none) else none) else none) else none) else none) else none) else none)) else none) else none) else none) else none
set_option maxRecDepth 100000 in
theorem slices_partitionOrdered_int8.calls (b0_ n0_ T0_ : Nat) (p0_data : Vector Int n0_) (p1_a : Int) (p2_b : Int) (p3_pivot : Int) (r : Int × Bool × (Vector Int n0_)) (w : World) (H0 : Own [b0_] w w [.blk b0_ (encA .i8 p0_data) T0_]) (h0 : slices_partitionOrdered_int8.f n0_ p0_data p1_a p2_b p3_pivot = some r) :
    Calls Try.prog 73 #[.slice (some ⟨b0_, 0, none⟩) n0_ n0_, .int .i64 p1_a, .int .i64 p2_b, .int .i64 p3_pivot] w (fun e w' => ∃ _ : Unit, e = .returned (.tuple #[.int .i64 r.1, .bool r.2.1]) ∧ Own [b0_] w w' [.blk b0_ (encA .i8 r.2.2) T0_]) := by
  unfold slices_partitionOrdered_int8.f at h0
  replace h0 := B.top h0
  refine calls_of_J (args := [.slice (some ⟨b0_, 0, none⟩) n0_ n0_, .int .i64 p1_a, .int .i64 p2_b, .int .i64 p3_pivot]) Try.func73 rfl Try.ntmps73 rfl [(0, .slice (some ⟨b0_, 0, none⟩) n0_ n0_), (1, .int .i64 p1_a), (2, .int .i64 p2_b), (3, .int .i64 p3_pivot)] rfl H0 ?_
  refine J.seq ?_
  refine J.region ?_
  refine J.op rfl rfl rfl (V.as rfl rfl) ?_
  refine J.op rfl rfl rfl (V.as rfl rfl) ?_
  refine J.nil ?_
  refine J.tN ?_
  refine J.seq ?_
  refine J.lateW 13 [2, 3, 8, 9, 10] mixed (by kernel_rfl) ?_
  refine JL.op rfl rfl rfl rfl (V.mv rfl rfl) ?_
  refine JL.op rfl rfl rfl rfl (V.mv rfl rfl) ?_
  refine JL.pure rfl rfl rfl (fun w1 => V.mv rfl rfl) ?_
  refine JL.pure rfl rfl rfl (fun w1 => V.mv rfl rfl) ?_
  refine JL.op rfl rfl rfl rfl (V.mv rfl rfl) ?_
  refine JL.op rfl rfl rfl rfl (V.mv rfl rfl) ?_
  obtain ⟨hC1, h0⟩ := B.chk h0
  refine JL.op rfl rfl rfl rfl (V.ixM rfl rfl rfl tl66 ts22 hC1) ?_
  refine JL.op rfl rfl rfl rfl (V.ldB 0 rfl rfl rfl Try.underlying22 ta22 (encA_get0 .i8 _ hC1)) ?_
  refine JL.pure rfl rfl rfl (fun w1 => V.mv rfl rfl) ?_
  refine JL.pure rfl rfl rfl (fun w1 => V.mv rfl rfl) ?_
  obtain ⟨hC2, h0⟩ := B.chk h0
  refine JL.pure rfl rfl rfl (fun w1 => V.ixM rfl rfl rfl tl66 ts22 hC2) ?_
  refine JL.op rfl rfl rfl rfl (V.ldB 0 rfl rfl rfl Try.underlying22 ta22 (encA_get0 .i8 _ hC2)) ?_
  obtain ⟨hC3, h0⟩ := B.chk h0
  refine JL.op rfl rfl rfl rfl (V.ixM rfl rfl rfl tl66 ts22 hC3) ?_
  refine JL.tail ?_
  refine J.stB 0 rfl rfl rfl rfl rfl rfl ts22 (fun _ _ => rfl) (encA_lt .i8 _ hC3) ?_
  refine J.setEnt 0 rfl (congrArg (fun q => Ent.blk _ q _) (encA_set .i8 _ _ _)) ?_
  obtain ⟨m4, em4, h0⟩ := B.lt h0
  refine J.setEnt 0 rfl (congrArg (fun q => Ent.blk _ (encA .i8 q) _) em4) ?_
  obtain ⟨hC5, h0⟩ := B.chk h0
  refine J.op rfl rfl rfl (V.ixM rfl rfl rfl tl66 ts22 hC5) ?_
  refine J.stB 0 rfl rfl rfl rfl rfl rfl ts22 (fun _ _ => rfl) (encA_lt .i8 _ hC5) ?_
  refine J.setEnt 0 rfl (congrArg (fun q => Ent.blk _ q _) (encA_set .i8 _ _ _)) ?_
  obtain ⟨m6, em6, h0⟩ := B.lt h0
  refine J.setEnt 0 rfl (congrArg (fun q => Ent.blk _ (encA .i8 q) _) em6) ?_
  refine J.nil ?_
  refine J.calm ?_
  refine J.tN ?_
  refine J.seq ?_
  refine J.region ?_
  refine J.op rfl rfl rfl (V.mv rfl rfl) ?_
  refine J.op rfl rfl rfl (V.ar rfl rfl rfl rfl) ?_
  refine J.op rfl rfl rfl (V.mv rfl rfl) ?_
  refine J.op rfl rfl rfl (V.ar rfl rfl rfl rfl) ?_
  refine J.op rfl rfl rfl (V.as rfl rfl) ?_
  obtain ⟨i_7, ei_7, h0⟩ := B.lt h0
  refine J.val (congrArg (Value.int .i64) ei_7) ?_
  refine J.op rfl rfl rfl (V.as rfl rfl) ?_
  obtain ⟨j_8, ej_8, h0⟩ := B.lt h0
  refine J.val (congrArg (Value.int .i64) ej_8) ?_
  refine J.nil ?_
  refine J.tN ?_
  refine J.seq ?_
  obtain ⟨y20, hy22, h0⟩ := B.bind h0
  refine J.cut (γ := Unit) (fun _ => True) (fun gy21 => [(0, .slice (some ⟨b0_, 0, none⟩) n0_ n0_), (1, .int .i64 p1_a), (10, .int .i64 y20), (11, .int .i64 j_8)]) (fun gy21 => [.blk b0_ (encA .i8 m6) T0_]) ?_ ?_
  · refine J.block ?_
    refine J.loop (γ := Unit) hy22 (fun s9 g10 => [(0, .slice (some ⟨b0_, 0, none⟩) n0_ n0_), (1, .int .i64 p1_a), (10, .int .i64 s9), (11, .int .i64 j_8)]) (fun s9 g10 => [.blk b0_ (encA .i8 m6) T0_]) () ?_ ?_
    · exact J.keep _ rfl (J.pickE [0] rfl rfl J.here)
    · intro rec11 s9 g10 h1
      unfold slices_partitionOrdered_int8.b1 at h1
      refine J.seq ?_
      refine J.seq ?_
      refine J.quiet mixed (by kernel_rfl) ?_
      refine JQ.op rfl rfl rfl (V.mv rfl rfl) ?_
      refine JQ.op rfl rfl rfl (V.mv rfl rfl) ?_
      refine JQ.op rfl rfl rfl (V.cmp rfl rfl rfl rfl) ?_
      refine JQ.op rfl rfl rfl (V.mv rfl rfl) ?_
      refine JQ.split 33 rfl (fun hB12 => ?_) (fun hB12 => ?_)
      · replace h1 := B.t hB12 h1
        refine JQ.opOn rfl rfl rfl rfl rfl (V.mv rfl rfl) ?_
        refine JQ.opOn rfl rfl rfl rfl rfl (V.mv rfl rfl) ?_
        obtain ⟨hC13, h1⟩ := B.chk h1
        refine JQ.opOn rfl rfl rfl rfl rfl (V.ixM rfl rfl rfl tl66 ts22 hC13) ?_
        refine JQ.opOn rfl rfl rfl rfl rfl (V.ldB 0 rfl rfl rfl Try.underlying22 ta22 (encA_get0 .i8 _ hC13)) ?_
        refine JQ.opOn rfl rfl rfl rfl rfl (V.mv rfl rfl) ?_
        refine JQ.opOn rfl rfl rfl rfl rfl (V.mv rfl rfl) ?_
        obtain ⟨hC14, h1⟩ := B.chk h1
        refine JQ.opOn rfl rfl rfl rfl rfl (V.ixM rfl rfl rfl tl66 ts22 hC14) ?_
        refine JQ.opOn rfl rfl rfl rfl rfl (V.ldB 0 rfl rfl rfl Try.underlying22 ta22 (encA_get0 .i8 _ hC14)) ?_
        obtain ⟨r15, hr16, h1⟩ := B.bind h1
        obtain ⟨_, cf1, cf2, cf3⟩ := cf71
        refine JQ.cl (l := [.tmp 37, .tmp 41]) cf1 cf2 cf3 (wY rfl rfl rfl) rfl rfl rfl rfl rfl (fun w H => cmp_Less_int8.calls (rdA m6 s9) (rdA m6 p1_a) r15 w (Own.refl w)  hr16) ?_
        refine JQ.op rfl rfl rfl (V.pkT rfl rfl rfl) ?_
        refine JQ.nil ?_
        refine J.tN ?_
        refine J.cond rfl (fun hB18 => ?_) (fun hB18 => ?_)
        · replace h1 := B.t hB18 h1
          refine J.skip ?_
          refine J.tN ?_
          refine J.block ?_
          refine J.region ?_
          refine J.op rfl rfl rfl (V.mv rfl rfl) ?_
          refine J.op rfl rfl rfl (V.ar rfl rfl rfl rfl) ?_
          refine J.op rfl rfl rfl (V.as rfl rfl) ?_
          obtain ⟨i_19, ei_19, h1⟩ := B.lt h1
          refine J.val (congrArg (Value.int .i64) ei_19) ?_
          refine J.nil ?_
          refine J.bN ?_
          refine J.tN (J.next i_19 () (B.n h1) ?_)
          exact J.keep _ rfl (J.pickE [0] rfl rfl J.here)
        · replace h1 := B.f hB18 h1
          refine J.exit ?_
          refine J.tE ?_
          refine J.tE ?_
          refine J.bE ?_
          obtain rfl := B.d h1
          refine J.tN (J.to () trivial ?_)
          exact J.keep _ rfl (J.pickE [0] rfl rfl J.here)
      · replace h1 := B.f hB12 h1
        refine JQ.opOff rfl rfl rfl rfl rfl rfl ?_
        refine JQ.opOff rfl rfl rfl rfl rfl rfl ?_
        refine JQ.opOff rfl rfl rfl rfl rfl rfl ?_
        refine JQ.opOff rfl rfl rfl rfl rfl rfl ?_
        refine JQ.opOff rfl rfl rfl rfl rfl rfl ?_
        refine JQ.opOff rfl rfl rfl rfl rfl rfl ?_
        refine JQ.opOff rfl rfl rfl rfl rfl rfl ?_
        refine JQ.opOff rfl rfl rfl rfl rfl rfl ?_
        refine JQ.opOff rfl rfl rfl rfl rfl rfl ?_
        refine JQ.op rfl rfl rfl (V.pkF rfl rfl rfl) ?_
        refine JQ.nil ?_
        refine J.tN ?_
        refine J.condF rfl ?_
        refine J.exit ?_
        refine J.tE ?_
        refine J.tE ?_
        refine J.bE ?_
        obtain rfl := B.d h1
        refine J.tN (J.to () trivial ?_)
        exact J.keep _ rfl (J.pickE [0] rfl rfl J.here)
  · intro gy21 _
    refine J.seq ?_
    obtain ⟨y34, hy36, h0⟩ := B.bind h0
    refine J.cut (γ := Unit) (fun _ => True) (fun gy35 => [(0, .slice (some ⟨b0_, 0, none⟩) n0_ n0_), (1, .int .i64 p1_a), (10, .int .i64 y20), (11, .int .i64 y34)]) (fun gy35 => [.blk b0_ (encA .i8 m6) T0_]) ?_ ?_
    · refine J.block ?_
      refine J.loop (γ := Unit) hy36 (fun s23 g24 => [(0, .slice (some ⟨b0_, 0, none⟩) n0_ n0_), (1, .int .i64 p1_a), (10, .int .i64 y20), (11, .int .i64 s23)]) (fun s23 g24 => [.blk b0_ (encA .i8 m6) T0_]) () ?_ ?_
      · exact J.keep _ rfl (J.pickE [0] rfl rfl J.here)
      · intro rec25 s23 g24 h1
        unfold slices_partitionOrdered_int8.b2 at h1
        refine J.seq ?_
        refine J.seq ?_
        refine J.quiet mixed (by kernel_rfl) ?_
        refine JQ.op rfl rfl rfl (V.mv rfl rfl) ?_
        refine JQ.op rfl rfl rfl (V.mv rfl rfl) ?_
        refine JQ.op rfl rfl rfl (V.cmp rfl rfl rfl rfl) ?_
        refine JQ.op rfl rfl rfl (V.mv rfl rfl) ?_
        refine JQ.split 49 rfl (fun hB26 => ?_) (fun hB26 => ?_)
        · replace h1 := B.t hB26 h1
          refine JQ.opOn rfl rfl rfl rfl rfl (V.mv rfl rfl) ?_
          refine JQ.opOn rfl rfl rfl rfl rfl (V.mv rfl rfl) ?_
          obtain ⟨hC27, h1⟩ := B.chk h1
          refine JQ.opOn rfl rfl rfl rfl rfl (V.ixM rfl rfl rfl tl66 ts22 hC27) ?_
          refine JQ.opOn rfl rfl rfl rfl rfl (V.ldB 0 rfl rfl rfl Try.underlying22 ta22 (encA_get0 .i8 _ hC27)) ?_
          refine JQ.opOn rfl rfl rfl rfl rfl (V.mv rfl rfl) ?_
          refine JQ.opOn rfl rfl rfl rfl rfl (V.mv rfl rfl) ?_
          obtain ⟨hC28, h1⟩ := B.chk h1
          refine JQ.opOn rfl rfl rfl rfl rfl (V.ixM rfl rfl rfl tl66 ts22 hC28) ?_
          refine JQ.opOn rfl rfl rfl rfl rfl (V.ldB 0 rfl rfl rfl Try.underlying22 ta22 (encA_get0 .i8 _ hC28)) ?_
          obtain ⟨r29, hr30, h1⟩ := B.bind h1
          obtain ⟨_, cf1, cf2, cf3⟩ := cf71
          refine JQ.cl (l := [.tmp 53, .tmp 57]) cf1 cf2 cf3 (wY rfl rfl rfl) rfl rfl rfl rfl rfl (fun w H => cmp_Less_int8.calls (rdA m6 s23) (rdA m6 p1_a) r29 w (Own.refl w)  hr30) ?_
          refine JQ.opOn rfl rfl rfl rfl rfl (V.nt rfl rfl) ?_
          refine JQ.op rfl rfl rfl (V.pkT rfl rfl rfl) ?_
          refine JQ.nil ?_
          refine J.tN ?_
          refine J.cond rfl (fun hB32 => ?_) (fun hB32 => ?_)
          · replace h1 := B.t hB32 h1
            refine J.skip ?_
            refine J.tN ?_
            refine J.block ?_
            refine J.region ?_
            refine J.op rfl rfl rfl (V.mv rfl rfl) ?_
            refine J.op rfl rfl rfl (V.ar rfl rfl rfl rfl) ?_
            refine J.op rfl rfl rfl (V.as rfl rfl) ?_
            obtain ⟨j_33, ej_33, h1⟩ := B.lt h1
            refine J.val (congrArg (Value.int .i64) ej_33) ?_
            refine J.nil ?_
            refine J.bN ?_
            refine J.tN (J.next j_33 () (B.n h1) ?_)
            exact J.keep _ rfl (J.pickE [0] rfl rfl J.here)
          · replace h1 := B.f hB32 h1
            refine J.exit ?_
            refine J.tE ?_
            refine J.tE ?_
            refine J.bE ?_
            obtain rfl := B.d h1
            refine J.tN (J.to () trivial ?_)
            exact J.keep _ rfl (J.pickE [0] rfl rfl J.here)
        · replace h1 := B.f hB26 h1
          refine JQ.opOff rfl rfl rfl rfl rfl rfl ?_
          refine JQ.opOff rfl rfl rfl rfl rfl rfl ?_
          refine JQ.opOff rfl rfl rfl rfl rfl rfl ?_
          refine JQ.opOff rfl rfl rfl rfl rfl rfl ?_
          refine JQ.opOff rfl rfl rfl rfl rfl rfl ?_
          refine JQ.opOff rfl rfl rfl rfl rfl rfl ?_
          refine JQ.opOff rfl rfl rfl rfl rfl rfl ?_
          refine JQ.opOff rfl rfl rfl rfl rfl rfl ?_
          refine JQ.opOff rfl rfl rfl rfl rfl rfl ?_
          refine JQ.opOff rfl rfl rfl rfl rfl rfl ?_
          refine JQ.op rfl rfl rfl (V.pkF rfl rfl rfl) ?_
          refine JQ.nil ?_
          refine J.tN ?_
          refine J.condF rfl ?_
          refine J.exit ?_
          refine J.tE ?_
          refine J.tE ?_
          refine J.bE ?_
          obtain rfl := B.d h1
          refine J.tN (J.to () trivial ?_)
          exact J.keep _ rfl (J.pickE [0] rfl rfl J.here)
    · intro gy35 _
      refine J.seq ?_
      refine J.seq ?_
      refine J.region ?_
      refine J.op rfl rfl rfl (V.mv rfl rfl) ?_
      refine J.op rfl rfl rfl (V.mv rfl rfl) ?_
      refine J.op rfl rfl rfl (V.cmp rfl rfl rfl rfl) ?_
      refine J.nil ?_
      refine J.tN ?_
      refine J.cond rfl (fun hB37 => ?_) (fun hB37 => ?_)
      · replace h0 := B.t hB37 h0
        refine J.seq ?_
        refine J.lateW 13 [2, 3, 8, 9, 10] mixed (by kernel_rfl) ?_
        refine JL.op rfl rfl rfl rfl (V.mv rfl rfl) ?_
        refine JL.op rfl rfl rfl rfl (V.mv rfl rfl) ?_
        refine JL.pure rfl rfl rfl (fun w1 => V.mv rfl rfl) ?_
        refine JL.pure rfl rfl rfl (fun w1 => V.mv rfl rfl) ?_
        refine JL.op rfl rfl rfl rfl (V.mv rfl rfl) ?_
        refine JL.op rfl rfl rfl rfl (V.mv rfl rfl) ?_
        obtain ⟨hC38, h0⟩ := B.chk h0
        refine JL.op rfl rfl rfl rfl (V.ixM rfl rfl rfl tl66 ts22 hC38) ?_
        refine JL.op rfl rfl rfl rfl (V.ldB 0 rfl rfl rfl Try.underlying22 ta22 (encA_get0 .i8 _ hC38)) ?_
        refine JL.pure rfl rfl rfl (fun w1 => V.mv rfl rfl) ?_
        refine JL.pure rfl rfl rfl (fun w1 => V.mv rfl rfl) ?_
        obtain ⟨hC39, h0⟩ := B.chk h0
        refine JL.pure rfl rfl rfl (fun w1 => V.ixM rfl rfl rfl tl66 ts22 hC39) ?_
        refine JL.op rfl rfl rfl rfl (V.ldB 0 rfl rfl rfl Try.underlying22 ta22 (encA_get0 .i8 _ hC39)) ?_
        obtain ⟨hC40, h0⟩ := B.chk h0
        refine JL.op rfl rfl rfl rfl (V.ixM rfl rfl rfl tl66 ts22 hC40) ?_
        refine JL.tail ?_
        refine J.stB 0 rfl rfl rfl rfl rfl rfl ts22 (fun _ _ => rfl) (encA_lt .i8 _ hC40) ?_
        refine J.setEnt 0 rfl (congrArg (fun q => Ent.blk _ q _) (encA_set .i8 _ _ _)) ?_
        obtain ⟨m41, em41, h0⟩ := B.lt h0
        refine J.setEnt 0 rfl (congrArg (fun q => Ent.blk _ (encA .i8 q) _) em41) ?_
        obtain ⟨hC42, h0⟩ := B.chk h0
        refine J.op rfl rfl rfl (V.ixM rfl rfl rfl tl66 ts22 hC42) ?_
        refine J.stB 0 rfl rfl rfl rfl rfl rfl ts22 (fun _ _ => rfl) (encA_lt .i8 _ hC42) ?_
        refine J.setEnt 0 rfl (congrArg (fun q => Ent.blk _ q _) (encA_set .i8 _ _ _)) ?_
        obtain ⟨m43, em43, h0⟩ := B.lt h0
        refine J.setEnt 0 rfl (congrArg (fun q => Ent.blk _ (encA .i8 q) _) em43) ?_
        refine J.nil ?_
        refine J.calm ?_
        refine J.tN ?_
        refine J.seq ?_
        refine J.region ?_
        refine J.op rfl rfl rfl (V.mv rfl rfl) ?_
        refine J.op rfl rfl rfl (V.as rfl rfl) ?_
        refine J.op rfl rfl rfl (V.as rfl rfl) ?_
        refine J.nil ?_
        refine J.tN ?_
        refine J.ret ?_
        refine J.tR ?_
        obtain rfl := B.e h0
        exact J.ret2 rfl rfl rfl fun w H => ⟨(), rfl, H.pick [0] (by decide)⟩
      · replace h0 := B.f hB37 h0
        refine J.skip ?_
        refine J.tN ?_
        refine J.seq ?_
        refine J.lateW 13 [2, 3, 8, 9, 10] mixed (by kernel_rfl) ?_
        refine JL.op rfl rfl rfl rfl (V.mv rfl rfl) ?_
        refine JL.op rfl rfl rfl rfl (V.mv rfl rfl) ?_
        refine JL.pure rfl rfl rfl (fun w1 => V.mv rfl rfl) ?_
        refine JL.pure rfl rfl rfl (fun w1 => V.mv rfl rfl) ?_
        refine JL.op rfl rfl rfl rfl (V.mv rfl rfl) ?_
        refine JL.op rfl rfl rfl rfl (V.mv rfl rfl) ?_
        obtain ⟨hC44, h0⟩ := B.chk h0
        refine JL.op rfl rfl rfl rfl (V.ixM rfl rfl rfl tl66 ts22 hC44) ?_
        refine JL.op rfl rfl rfl rfl (V.ldB 0 rfl rfl rfl Try.underlying22 ta22 (encA_get0 .i8 _ hC44)) ?_
        refine JL.pure rfl rfl rfl (fun w1 => V.mv rfl rfl) ?_
        refine JL.pure rfl rfl rfl (fun w1 => V.mv rfl rfl) ?_
        obtain ⟨hC45, h0⟩ := B.chk h0
        refine JL.pure rfl rfl rfl (fun w1 => V.ixM rfl rfl rfl tl66 ts22 hC45) ?_
        refine JL.op rfl rfl rfl rfl (V.ldB 0 rfl rfl rfl Try.underlying22 ta22 (encA_get0 .i8 _ hC45)) ?_
        obtain ⟨hC46, h0⟩ := B.chk h0
        refine JL.op rfl rfl rfl rfl (V.ixM rfl rfl rfl tl66 ts22 hC46) ?_
        refine JL.tail ?_
        refine J.stB 0 rfl rfl rfl rfl rfl rfl ts22 (fun _ _ => rfl) (encA_lt .i8 _ hC46) ?_
        refine J.setEnt 0 rfl (congrArg (fun q => Ent.blk _ q _) (encA_set .i8 _ _ _)) ?_
        obtain ⟨m47, em47, h0⟩ := B.lt h0
        refine J.setEnt 0 rfl (congrArg (fun q => Ent.blk _ (encA .i8 q) _) em47) ?_
        obtain ⟨hC48, h0⟩ := B.chk h0
        refine J.op rfl rfl rfl (V.ixM rfl rfl rfl tl66 ts22 hC48) ?_
        refine J.stB 0 rfl rfl rfl rfl rfl rfl ts22 (fun _ _ => rfl) (encA_lt .i8 _ hC48) ?_
        refine J.setEnt 0 rfl (congrArg (fun q => Ent.blk _ q _) (encA_set .i8 _ _ _)) ?_
        obtain ⟨m49, em49, h0⟩ := B.lt h0
        refine J.setEnt 0 rfl (congrArg (fun q => Ent.blk _ (encA .i8 q) _) em49) ?_
        refine J.nil ?_
        refine J.calm ?_
        refine J.tN ?_
        refine J.seq ?_
        refine J.region ?_
        refine J.op rfl rfl rfl (V.mv rfl rfl) ?_
        refine J.op rfl rfl rfl (V.ar rfl rfl rfl rfl) ?_
        refine J.op rfl rfl rfl (V.as rfl rfl) ?_
        obtain ⟨i_50, ei_50, h0⟩ := B.lt h0
        refine J.val (congrArg (Value.int .i64) ei_50) ?_
        refine J.nil ?_
        refine J.tN ?_
        refine J.seq ?_
        refine J.region ?_
        refine J.op rfl rfl rfl (V.mv rfl rfl) ?_
        refine J.op rfl rfl rfl (V.ar rfl rfl rfl rfl) ?_
        refine J.op rfl rfl rfl (V.as rfl rfl) ?_
        obtain ⟨j_51, ej_51, h0⟩ := B.lt h0
        refine J.val (congrArg (Value.int .i64) ej_51) ?_
        refine J.nil ?_
        refine J.tN ?_
        refine J.seq ?_
        obtain ⟨y92, hy94, h0⟩ := B.bind h0
        refine J.cut (γ := Unit) (fun _ => True) (fun gy93 => [(0, .slice (some ⟨b0_, 0, none⟩) n0_ n0_), (1, .int .i64 p1_a), (11, .int .i64 y92.1)]) (fun gy93 => [.blk b0_ (encA .i8 y92.2) T0_]) ?_ ?_
        · refine J.block ?_
          refine J.loop (γ := Unit) hy94 (fun s52 g53 => [(0, .slice (some ⟨b0_, 0, none⟩) n0_ n0_), (1, .int .i64 p1_a), (10, .int .i64 s52.1), (11, .int .i64 s52.2.1)]) (fun s52 g53 => [.blk b0_ (encA .i8 s52.2.2) T0_]) () ?_ ?_
          · exact J.keep _ rfl (J.pickE [0] rfl rfl J.here)
          · intro rec54 s52 g53 h1
            unfold slices_partitionOrdered_int8.b3 at h1
            refine J.block ?_
            refine J.seq ?_
            obtain ⟨y66, hy68, h1⟩ := B.bind h1
            refine J.cut (γ := Unit) (fun _ => True) (fun gy67 => [(0, .slice (some ⟨b0_, 0, none⟩) n0_ n0_), (1, .int .i64 p1_a), (10, .int .i64 y66), (11, .int .i64 s52.2.1)]) (fun gy67 => [.blk b0_ (encA .i8 s52.2.2) T0_]) ?_ ?_
            · refine J.block ?_
              refine J.loop (γ := Unit) hy68 (fun s55 g56 => [(0, .slice (some ⟨b0_, 0, none⟩) n0_ n0_), (1, .int .i64 p1_a), (10, .int .i64 s55), (11, .int .i64 s52.2.1)]) (fun s55 g56 => [.blk b0_ (encA .i8 s52.2.2) T0_]) () ?_ ?_
              · exact J.keep _ rfl (J.pickE [0] rfl rfl J.here)
              · intro rec57 s55 g56 h2
                unfold slices_partitionOrdered_int8.b4 at h2
                refine J.seq ?_
                refine J.seq ?_
                refine J.quiet mixed (by kernel_rfl) ?_
                refine JQ.op rfl rfl rfl (V.mv rfl rfl) ?_
                refine JQ.op rfl rfl rfl (V.mv rfl rfl) ?_
                refine JQ.op rfl rfl rfl (V.cmp rfl rfl rfl rfl) ?_
                refine JQ.op rfl rfl rfl (V.mv rfl rfl) ?_
                refine JQ.split 102 rfl (fun hB58 => ?_) (fun hB58 => ?_)
                · replace h2 := B.t hB58 h2
                  refine JQ.opOn rfl rfl rfl rfl rfl (V.mv rfl rfl) ?_
                  refine JQ.opOn rfl rfl rfl rfl rfl (V.mv rfl rfl) ?_
                  obtain ⟨hC59, h2⟩ := B.chk h2
                  refine JQ.opOn rfl rfl rfl rfl rfl (V.ixM rfl rfl rfl tl66 ts22 hC59) ?_
                  refine JQ.opOn rfl rfl rfl rfl rfl (V.ldB 0 rfl rfl rfl Try.underlying22 ta22 (encA_get0 .i8 _ hC59)) ?_
                  refine JQ.opOn rfl rfl rfl rfl rfl (V.mv rfl rfl) ?_
                  refine JQ.opOn rfl rfl rfl rfl rfl (V.mv rfl rfl) ?_
                  obtain ⟨hC60, h2⟩ := B.chk h2
                  refine JQ.opOn rfl rfl rfl rfl rfl (V.ixM rfl rfl rfl tl66 ts22 hC60) ?_
                  refine JQ.opOn rfl rfl rfl rfl rfl (V.ldB 0 rfl rfl rfl Try.underlying22 ta22 (encA_get0 .i8 _ hC60)) ?_
                  obtain ⟨r61, hr62, h2⟩ := B.bind h2
                  obtain ⟨_, cf1, cf2, cf3⟩ := cf71
                  refine JQ.cl (l := [.tmp 106, .tmp 110]) cf1 cf2 cf3 (wY rfl rfl rfl) rfl rfl rfl rfl rfl (fun w H => cmp_Less_int8.calls (rdA s52.2.2 s55) (rdA s52.2.2 p1_a) r61 w (Own.refl w)  hr62) ?_
                  refine JQ.op rfl rfl rfl (V.pkT rfl rfl rfl) ?_
                  refine JQ.nil ?_
                  refine J.tN ?_
                  refine J.cond rfl (fun hB64 => ?_) (fun hB64 => ?_)
                  · replace h2 := B.t hB64 h2
                    refine J.skip ?_
                    refine J.tN ?_
                    refine J.block ?_
                    refine J.region ?_
                    refine J.op rfl rfl rfl (V.mv rfl rfl) ?_
                    refine J.op rfl rfl rfl (V.ar rfl rfl rfl rfl) ?_
                    refine J.op rfl rfl rfl (V.as rfl rfl) ?_
                    obtain ⟨i_65, ei_65, h2⟩ := B.lt h2
                    refine J.val (congrArg (Value.int .i64) ei_65) ?_
                    refine J.nil ?_
                    refine J.bN ?_
                    refine J.tN (J.next i_65 () (B.n h2) ?_)
                    exact J.keep _ rfl (J.pickE [0] rfl rfl J.here)
                  · replace h2 := B.f hB64 h2
                    refine J.exit ?_
                    refine J.tE ?_
                    refine J.tE ?_
                    refine J.bE ?_
                    obtain rfl := B.d h2
                    refine J.tN (J.to () trivial ?_)
                    exact J.keep _ rfl (J.pickE [0] rfl rfl J.here)
                · replace h2 := B.f hB58 h2
                  refine JQ.opOff rfl rfl rfl rfl rfl rfl ?_
                  refine JQ.opOff rfl rfl rfl rfl rfl rfl ?_
                  refine JQ.opOff rfl rfl rfl rfl rfl rfl ?_
                  refine JQ.opOff rfl rfl rfl rfl rfl rfl ?_
                  refine JQ.opOff rfl rfl rfl rfl rfl rfl ?_
                  refine JQ.opOff rfl rfl rfl rfl rfl rfl ?_
                  refine JQ.opOff rfl rfl rfl rfl rfl rfl ?_
                  refine JQ.opOff rfl rfl rfl rfl rfl rfl ?_
                  refine JQ.opOff rfl rfl rfl rfl rfl rfl ?_
                  refine JQ.op rfl rfl rfl (V.pkF rfl rfl rfl) ?_
                  refine JQ.nil ?_
                  refine J.tN ?_
                  refine J.condF rfl ?_
                  refine J.exit ?_
                  refine J.tE ?_
                  refine J.tE ?_
                  refine J.bE ?_
                  obtain rfl := B.d h2
                  refine J.tN (J.to () trivial ?_)
                  exact J.keep _ rfl (J.pickE [0] rfl rfl J.here)
            · intro gy67 _
              refine J.seq ?_
              obtain ⟨y80, hy82, h1⟩ := B.bind h1
              refine J.cut (γ := Unit) (fun _ => True) (fun gy81 => [(0, .slice (some ⟨b0_, 0, none⟩) n0_ n0_), (1, .int .i64 p1_a), (10, .int .i64 y66), (11, .int .i64 y80)]) (fun gy81 => [.blk b0_ (encA .i8 s52.2.2) T0_]) ?_ ?_
              · refine J.block ?_
                refine J.loop (γ := Unit) hy82 (fun s69 g70 => [(0, .slice (some ⟨b0_, 0, none⟩) n0_ n0_), (1, .int .i64 p1_a), (10, .int .i64 y66), (11, .int .i64 s69)]) (fun s69 g70 => [.blk b0_ (encA .i8 s52.2.2) T0_]) () ?_ ?_
                · exact J.keep _ rfl (J.pickE [0] rfl rfl J.here)
                · intro rec71 s69 g70 h2
                  unfold slices_partitionOrdered_int8.b5 at h2
                  refine J.seq ?_
                  refine J.seq ?_
                  refine J.quiet mixed (by kernel_rfl) ?_
                  refine JQ.op rfl rfl rfl (V.mv rfl rfl) ?_
                  refine JQ.op rfl rfl rfl (V.mv rfl rfl) ?_
                  refine JQ.op rfl rfl rfl (V.cmp rfl rfl rfl rfl) ?_
                  refine JQ.op rfl rfl rfl (V.mv rfl rfl) ?_
                  refine JQ.split 118 rfl (fun hB72 => ?_) (fun hB72 => ?_)
                  · replace h2 := B.t hB72 h2
                    refine JQ.opOn rfl rfl rfl rfl rfl (V.mv rfl rfl) ?_
                    refine JQ.opOn rfl rfl rfl rfl rfl (V.mv rfl rfl) ?_
                    obtain ⟨hC73, h2⟩ := B.chk h2
                    refine JQ.opOn rfl rfl rfl rfl rfl (V.ixM rfl rfl rfl tl66 ts22 hC73) ?_
                    refine JQ.opOn rfl rfl rfl rfl rfl (V.ldB 0 rfl rfl rfl Try.underlying22 ta22 (encA_get0 .i8 _ hC73)) ?_
                    refine JQ.opOn rfl rfl rfl rfl rfl (V.mv rfl rfl) ?_
                    refine JQ.opOn rfl rfl rfl rfl rfl (V.mv rfl rfl) ?_
                    obtain ⟨hC74, h2⟩ := B.chk h2
                    refine JQ.opOn rfl rfl rfl rfl rfl (V.ixM rfl rfl rfl tl66 ts22 hC74) ?_
                    refine JQ.opOn rfl rfl rfl rfl rfl (V.ldB 0 rfl rfl rfl Try.underlying22 ta22 (encA_get0 .i8 _ hC74)) ?_
                    obtain ⟨r75, hr76, h2⟩ := B.bind h2
                    obtain ⟨_, cf1, cf2, cf3⟩ := cf71
                    refine JQ.cl (l := [.tmp 122, .tmp 126]) cf1 cf2 cf3 (wY rfl rfl rfl) rfl rfl rfl rfl rfl (fun w H => cmp_Less_int8.calls (rdA s52.2.2 s69) (rdA s52.2.2 p1_a) r75 w (Own.refl w)  hr76) ?_
                    refine JQ.opOn rfl rfl rfl rfl rfl (V.nt rfl rfl) ?_
                    refine JQ.op rfl rfl rfl (V.pkT rfl rfl rfl) ?_
                    refine JQ.nil ?_
                    refine J.tN ?_
                    refine J.cond rfl (fun hB78 => ?_) (fun hB78 => ?_)
                    · replace h2 := B.t hB78 h2
                      refine J.skip ?_
                      refine J.tN ?_
                      refine J.block ?_
                      refine J.region ?_
                      refine J.op rfl rfl rfl (V.mv rfl rfl) ?_
                      refine J.op rfl rfl rfl (V.ar rfl rfl rfl rfl) ?_
                      refine J.op rfl rfl rfl (V.as rfl rfl) ?_
                      obtain ⟨j_79, ej_79, h2⟩ := B.lt h2
                      refine J.val (congrArg (Value.int .i64) ej_79) ?_
                      refine J.nil ?_
                      refine J.bN ?_
                      refine J.tN (J.next j_79 () (B.n h2) ?_)
                      exact J.keep _ rfl (J.pickE [0] rfl rfl J.here)
                    · replace h2 := B.f hB78 h2
                      refine J.exit ?_
                      refine J.tE ?_
                      refine J.tE ?_
                      refine J.bE ?_
                      obtain rfl := B.d h2
                      refine J.tN (J.to () trivial ?_)
                      exact J.keep _ rfl (J.pickE [0] rfl rfl J.here)
                  · replace h2 := B.f hB72 h2
                    refine JQ.opOff rfl rfl rfl rfl rfl rfl ?_
                    refine JQ.opOff rfl rfl rfl rfl rfl rfl ?_
                    refine JQ.opOff rfl rfl rfl rfl rfl rfl ?_
                    refine JQ.opOff rfl rfl rfl rfl rfl rfl ?_
                    refine JQ.opOff rfl rfl rfl rfl rfl rfl ?_
                    refine JQ.opOff rfl rfl rfl rfl rfl rfl ?_
                    refine JQ.opOff rfl rfl rfl rfl rfl rfl ?_
                    refine JQ.opOff rfl rfl rfl rfl rfl rfl ?_
                    refine JQ.opOff rfl rfl rfl rfl rfl rfl ?_
                    refine JQ.opOff rfl rfl rfl rfl rfl rfl ?_
                    refine JQ.op rfl rfl rfl (V.pkF rfl rfl rfl) ?_
                    refine JQ.nil ?_
                    refine J.tN ?_
                    refine J.condF rfl ?_
                    refine J.exit ?_
                    refine J.tE ?_
                    refine J.tE ?_
                    refine J.bE ?_
                    obtain rfl := B.d h2
                    refine J.tN (J.to () trivial ?_)
                    exact J.keep _ rfl (J.pickE [0] rfl rfl J.here)
              · intro gy81 _
                refine J.seq ?_
                refine J.seq ?_
                refine J.region ?_
                refine J.op rfl rfl rfl (V.mv rfl rfl) ?_
                refine J.op rfl rfl rfl (V.mv rfl rfl) ?_
                refine J.op rfl rfl rfl (V.cmp rfl rfl rfl rfl) ?_
                refine J.nil ?_
                refine J.tN ?_
                refine J.cond rfl (fun hB83 => ?_) (fun hB83 => ?_)
                · replace h1 := B.t hB83 h1
                  refine J.exit ?_
                  refine J.tE ?_
                  refine J.bF rfl ?_
                  refine J.tE ?_
                  refine J.bE ?_
                  obtain rfl := B.d h1
                  refine J.tN (J.to () trivial ?_)
                  exact J.keep _ rfl (J.pickE [0] rfl rfl J.here)
                · replace h1 := B.f hB83 h1
                  refine J.skip ?_
                  refine J.tN ?_
                  refine J.seq ?_
                  refine J.lateW 13 [2, 3, 8, 9, 10] mixed (by kernel_rfl) ?_
                  refine JL.op rfl rfl rfl rfl (V.mv rfl rfl) ?_
                  refine JL.op rfl rfl rfl rfl (V.mv rfl rfl) ?_
                  refine JL.pure rfl rfl rfl (fun w1 => V.mv rfl rfl) ?_
                  refine JL.pure rfl rfl rfl (fun w1 => V.mv rfl rfl) ?_
                  refine JL.op rfl rfl rfl rfl (V.mv rfl rfl) ?_
                  refine JL.op rfl rfl rfl rfl (V.mv rfl rfl) ?_
                  obtain ⟨hC84, h1⟩ := B.chk h1
                  refine JL.op rfl rfl rfl rfl (V.ixM rfl rfl rfl tl66 ts22 hC84) ?_
                  refine JL.op rfl rfl rfl rfl (V.ldB 0 rfl rfl rfl Try.underlying22 ta22 (encA_get0 .i8 _ hC84)) ?_
                  refine JL.pure rfl rfl rfl (fun w1 => V.mv rfl rfl) ?_
                  refine JL.pure rfl rfl rfl (fun w1 => V.mv rfl rfl) ?_
                  obtain ⟨hC85, h1⟩ := B.chk h1
                  refine JL.pure rfl rfl rfl (fun w1 => V.ixM rfl rfl rfl tl66 ts22 hC85) ?_
                  refine JL.op rfl rfl rfl rfl (V.ldB 0 rfl rfl rfl Try.underlying22 ta22 (encA_get0 .i8 _ hC85)) ?_
                  obtain ⟨hC86, h1⟩ := B.chk h1
                  refine JL.op rfl rfl rfl rfl (V.ixM rfl rfl rfl tl66 ts22 hC86) ?_
                  refine JL.tail ?_
                  refine J.stB 0 rfl rfl rfl rfl rfl rfl ts22 (fun _ _ => rfl) (encA_lt .i8 _ hC86) ?_
                  refine J.setEnt 0 rfl (congrArg (fun q => Ent.blk _ q _) (encA_set .i8 _ _ _)) ?_
                  obtain ⟨m87, em87, h1⟩ := B.lt h1
                  refine J.setEnt 0 rfl (congrArg (fun q => Ent.blk _ (encA .i8 q) _) em87) ?_
                  obtain ⟨hC88, h1⟩ := B.chk h1
                  refine J.op rfl rfl rfl (V.ixM rfl rfl rfl tl66 ts22 hC88) ?_
                  refine J.stB 0 rfl rfl rfl rfl rfl rfl ts22 (fun _ _ => rfl) (encA_lt .i8 _ hC88) ?_
                  refine J.setEnt 0 rfl (congrArg (fun q => Ent.blk _ q _) (encA_set .i8 _ _ _)) ?_
                  obtain ⟨m89, em89, h1⟩ := B.lt h1
                  refine J.setEnt 0 rfl (congrArg (fun q => Ent.blk _ (encA .i8 q) _) em89) ?_
                  refine J.nil ?_
                  refine J.calm ?_
                  refine J.tN ?_
                  refine J.seq ?_
                  refine J.region ?_
                  refine J.op rfl rfl rfl (V.mv rfl rfl) ?_
                  refine J.op rfl rfl rfl (V.ar rfl rfl rfl rfl) ?_
                  refine J.op rfl rfl rfl (V.as rfl rfl) ?_
                  obtain ⟨i_90, ei_90, h1⟩ := B.lt h1
                  refine J.val (congrArg (Value.int .i64) ei_90) ?_
                  refine J.nil ?_
                  refine J.tN ?_
                  refine J.region ?_
                  refine J.op rfl rfl rfl (V.mv rfl rfl) ?_
                  refine J.op rfl rfl rfl (V.ar rfl rfl rfl rfl) ?_
                  refine J.op rfl rfl rfl (V.as rfl rfl) ?_
                  obtain ⟨j_91, ej_91, h1⟩ := B.lt h1
                  refine J.val (congrArg (Value.int .i64) ej_91) ?_
                  refine J.nil ?_
                  refine J.bN ?_
                  refine J.tN (J.next (i_90, j_91, m89) () (B.n h1) ?_)
                  exact J.keep _ rfl (J.pickE [0] rfl rfl J.here)
        · intro gy93 _
          refine J.seq ?_
          refine J.lateW 13 [2, 3, 8, 9, 10] mixed (by kernel_rfl) ?_
          refine JL.op rfl rfl rfl rfl (V.mv rfl rfl) ?_
          refine JL.op rfl rfl rfl rfl (V.mv rfl rfl) ?_
          refine JL.pure rfl rfl rfl (fun w1 => V.mv rfl rfl) ?_
          refine JL.pure rfl rfl rfl (fun w1 => V.mv rfl rfl) ?_
          refine JL.op rfl rfl rfl rfl (V.mv rfl rfl) ?_
          refine JL.op rfl rfl rfl rfl (V.mv rfl rfl) ?_
          obtain ⟨hC95, h0⟩ := B.chk h0
          refine JL.op rfl rfl rfl rfl (V.ixM rfl rfl rfl tl66 ts22 hC95) ?_
          refine JL.op rfl rfl rfl rfl (V.ldB 0 rfl rfl rfl Try.underlying22 ta22 (encA_get0 .i8 _ hC95)) ?_
          refine JL.pure rfl rfl rfl (fun w1 => V.mv rfl rfl) ?_
          refine JL.pure rfl rfl rfl (fun w1 => V.mv rfl rfl) ?_
          obtain ⟨hC96, h0⟩ := B.chk h0
          refine JL.pure rfl rfl rfl (fun w1 => V.ixM rfl rfl rfl tl66 ts22 hC96) ?_
          refine JL.op rfl rfl rfl rfl (V.ldB 0 rfl rfl rfl Try.underlying22 ta22 (encA_get0 .i8 _ hC96)) ?_
          obtain ⟨hC97, h0⟩ := B.chk h0
          refine JL.op rfl rfl rfl rfl (V.ixM rfl rfl rfl tl66 ts22 hC97) ?_
          refine JL.tail ?_
          refine J.stB 0 rfl rfl rfl rfl rfl rfl ts22 (fun _ _ => rfl) (encA_lt .i8 _ hC97) ?_
          refine J.setEnt 0 rfl (congrArg (fun q => Ent.blk _ q _) (encA_set .i8 _ _ _)) ?_
          obtain ⟨m98, em98, h0⟩ := B.lt h0
          refine J.setEnt 0 rfl (congrArg (fun q => Ent.blk _ (encA .i8 q) _) em98) ?_
          obtain ⟨hC99, h0⟩ := B.chk h0
          refine J.op rfl rfl rfl (V.ixM rfl rfl rfl tl66 ts22 hC99) ?_
          refine J.stB 0 rfl rfl rfl rfl rfl rfl ts22 (fun _ _ => rfl) (encA_lt .i8 _ hC99) ?_
          refine J.setEnt 0 rfl (congrArg (fun q => Ent.blk _ q _) (encA_set .i8 _ _ _)) ?_
          obtain ⟨m100, em100, h0⟩ := B.lt h0
          refine J.setEnt 0 rfl (congrArg (fun q => Ent.blk _ (encA .i8 q) _) em100) ?_
          refine J.nil ?_
          refine J.calm ?_
          refine J.tN ?_
          refine J.seq ?_
          refine J.region ?_
          refine J.op rfl rfl rfl (V.mv rfl rfl) ?_
          refine J.op rfl rfl rfl (V.as rfl rfl) ?_
          refine J.op rfl rfl rfl (V.as rfl rfl) ?_
          refine J.nil ?_
          refine J.tN ?_
          refine J.ret ?_
          obtain rfl := B.e h0
          exact J.ret2 rfl rfl rfl fun w H => ⟨(), rfl, H.pick [0] (by decide)⟩

/-! ### slices.pdqsortOrdered[int8]: function 58 -/
noncomputable def slices_pdqsortOrdered_int8.b1 (rc : (n0_ : Nat) → (Vector Int n0_) → Int → Int → Int → Option ((Vector Int n0_))) (n0_ : Nat) : (Int × Int × Int × Bool × Bool × (Vector Int n0_)) → Option (Step (Int × Int × Int × Bool × Bool × (Vector Int n0_)) (Sum (Unit) ((Vector Int n0_)))) := fun s1 => (some (IntKind.wrap .i64 (s1.2.1 - s1.1))).bind fun length_4 => bif (decide (length_4 ≤ 12)) then ((slices_insertionSortOrdered_int8.f n0_ s1.2.2.2.2.2 s1.1 s1.2.1).bind fun r6 => some (.done (.inr r6))) else (bif (s1.2.2.1 == 0) then ((slices_heapSortOrdered_int8.f n0_ s1.2.2.2.2.2 s1.1 s1.2.1).bind fun r10 => some (.done (.inr r10))) else ((bif (!s1.2.2.2.1) then ((slices_breakPatternsOrdered_int8.f n0_ s1.2.2.2.2.2 s1.1 s1.2.1).bind fun r16 => (some (IntKind.wrap .i64 (s1.2.2.1 - 1))).bind fun limit_19 => some (limit_19, r16)) else (some (s1.2.2.1, s1.2.2.2.2.2)) : Option (Int × (Vector Int n0_))).bind fun y13 => (slices_choosePivotOrdered_int8.f (y13.2.toList) s1.1 s1.2.1).bind fun r21 => (bif (r21.2 == 2) then ((slices_reverseRangeOrdered_int8.f n0_ y13.2 s1.1 s1.2.1).bind fun r27 => (some (IntKind.wrap .i64 ((IntKind.wrap .i64 (s1.2.1 - 1)) - (IntKind.wrap .i64 (r21.1 - s1.1))))).bind fun pivot_30 => some (pivot_30, 1, r27)) else (some (r21.1, r21.2, y13.2)) : Option (Int × Int × (Vector Int n0_))).bind fun y24 => ((bif s1.2.2.2.1 then (bif s1.2.2.2.2.1 then (some (y24.2.1 == 1)) else (some false)) else (some false) : Option (Bool)).bind fun y34 => bif y34 then ((slices_partialInsertionSortOrdered_int8.f n0_ y24.2.2 s1.1 s1.2.1).bind fun r40 => bif r40.1 then (some (.inr r40.2)) else (some (.inl r40.2))) else (some (.inl y24.2.2)) : Option (Sum ((Vector Int n0_)) ((Vector Int n0_)))).bind (Sum.elim (fun y33 => (bif (decide (0 < s1.1)) then (bif (inB (IntKind.wrap .i64 (s1.1 - 1)) n0_) then (bif (inB y24.1 n0_) then ((cmp_Less_int8.f (rdA y33 (IntKind.wrap .i64 (s1.1 - 1))) (rdA y33 y24.1)).bind fun r51 => some (!r51)) else none) else none) else (some false) : Option (Bool)).bind fun y46 => bif y46 then ((slices_partitionEqualOrdered_int8.f n0_ y33 s1.1 s1.2.1 y24.1).bind fun r56 => some (.next (r56.1, s1.2.1, y13.1, s1.2.2.2.1, s1.2.2.2.2.1, r56.2))) else ((slices_partitionOrdered_int8.f n0_ y33 s1.1 s1.2.1 y24.1).bind fun r59 => (some (IntKind.wrap .i64 (r59.1 - s1.1))).bind fun leftLen_62 => (some (IntKind.wrap .i64 (s1.2.1 - r59.1))).bind fun rightLen_63 => (some (IntKind.wrap .i64 (Int.tdiv length_4 8))).bind fun balanceThreshold_64 => bif (decide (leftLen_62 < rightLen_63)) then ((some (decide (balanceThreshold_64 ≤ leftLen_62))).bind fun wasBalanced_66 => (rc n0_ r59.2.2 s1.1 r59.1 y13.1).bind fun r67 => (some (IntKind.wrap .i64 (r59.1 + 1))).bind fun a_70 => some (.next (a_70, s1.2.1, y13.1, wasBalanced_66, r59.2.1, r67))) else ((some (decide (balanceThreshold_64 ≤ rightLen_63))).bind fun wasBalanced_71 => (rc n0_ r59.2.2 (IntKind.wrap .i64 (r59.1 + 1)) s1.2.1 y13.1).bind fun r72 => some (.next (s1.1, r59.1, y13.1, wasBalanced_71, r59.2.1, r72))))) (fun r => some (.done (.inr r))))))
noncomputable def slices_pdqsortOrdered_int8.step (rc : (n0_ : Nat) → (Vector Int n0_) → Int → Int → Int → Option ((Vector Int n0_))) (n0_ : Nat) (p0_data : Vector Int n0_) (p1_a : Int) (p2_b : Int) (p3_limit : Int) : Option ((Vector Int n0_)) := (loopW (slices_pdqsortOrdered_int8.b1 rc n0_) (p1_a, p2_b, p3_limit, true, true, p0_data)).bind (Sum.elim (fun y76 => none) (fun r => some r))
/-- with so many calls of its own on one another -/
noncomputable def slices_pdqsortOrdered_int8.fuel : Nat → (n0_ : Nat) → (Vector Int n0_) → Int → Int → Int → Option ((Vector Int n0_))
  | 0, _, _, _, _, _ => none
  | k + 1, n0_, p0_data, p1_a, p2_b, p3_limit => slices_pdqsortOrdered_int8.step (slices_pdqsortOrdered_int8.fuel k) n0_ p0_data p1_a p2_b p3_limit
noncomputable def slices_pdqsortOrdered_int8.f (n0_ : Nat) (p0_data : Vector Int n0_) (p1_a : Int) (p2_b : Int) (p3_limit : Int) : Option ((Vector Int n0_)) := slices_pdqsortOrdered_int8.fuel 64 n0_ p0_data p1_a p2_b p3_limit
set_option maxRecDepth 100000 in
theorem slices_pdqsortOrdered_int8.once (rc : (n0_ : Nat) → (Vector Int n0_) → Int → Int → Int → Option ((Vector Int n0_))) (hrc : ∀ (b0_ n0_ T0_ : Nat) (p0_data : Vector Int n0_) (p1_a : Int) (p2_b : Int) (p3_limit : Int) (r : (Vector Int n0_)) (w : World) (H0 : Own [b0_] w w [.blk b0_ (encA .i8 p0_data) T0_]) (h0 : rc n0_ p0_data p1_a p2_b p3_limit = some r), Calls Try.prog 58 #[.slice (some ⟨b0_, 0, none⟩) n0_ n0_, .int .i64 p1_a, .int .i64 p2_b, .int .i64 p3_limit] w (fun e w' => ∃ _ : Unit, e = .returned (.tuple #[]) ∧ Own [b0_] w w' [.blk b0_ (encA .i8 r) T0_])) : ∀ (b0_ n0_ T0_ : Nat) (p0_data : Vector Int n0_) (p1_a : Int) (p2_b : Int) (p3_limit : Int) (r : (Vector Int n0_)) (w : World) (H0 : Own [b0_] w w [.blk b0_ (encA .i8 p0_data) T0_]) (h0 : slices_pdqsortOrdered_int8.step rc n0_ p0_data p1_a p2_b p3_limit = some r), Calls Try.prog 58 #[.slice (some ⟨b0_, 0, none⟩) n0_ n0_, .int .i64 p1_a, .int .i64 p2_b, .int .i64 p3_limit] w (fun e w' => ∃ _ : Unit, e = .returned (.tuple #[]) ∧ Own [b0_] w w' [.blk b0_ (encA .i8 r) T0_]) := by
  intro b0_ n0_ T0_ p0_data p1_a p2_b p3_limit r w H0  h0
  unfold slices_pdqsortOrdered_int8.step at h0
  replace h0 := B.top h0
  refine calls_of_J (args := [.slice (some ⟨b0_, 0, none⟩) n0_ n0_, .int .i64 p1_a, .int .i64 p2_b, .int .i64 p3_limit]) Try.func58 rfl Try.ntmps58 rfl [(0, .slice (some ⟨b0_, 0, none⟩) n0_ n0_), (1, .int .i64 p1_a), (2, .int .i64 p2_b), (3, .int .i64 p3_limit)] rfl H0 ?_
  refine J.seq ?_
  refine J.region ?_
  refine J.op rfl rfl rfl (V.as rfl rfl) ?_
  refine J.nil ?_
  refine J.tN ?_
  refine J.seq ?_
  refine J.region ?_
  refine J.op rfl rfl rfl (V.as rfl rfl) ?_
  refine J.nil ?_
  refine J.tN ?_
  obtain ⟨o78, hy77, h0⟩ := B.bind h0
  refine J.block ?_
  refine J.loop (γ := Unit) hy77 (fun s1 g2 => [(0, .slice (some ⟨b0_, 0, none⟩) n0_ n0_), (1, .int .i64 s1.1), (2, .int .i64 s1.2.1), (3, .int .i64 s1.2.2.1), (8, .bool s1.2.2.2.1), (9, .bool s1.2.2.2.2.1)]) (fun s1 g2 => [.blk b0_ (encA .i8 s1.2.2.2.2.2) T0_]) () ?_ ?_
  · exact J.keep _ rfl (J.pickE [0] rfl rfl J.here)
  · intro rec3 s1 g2 h1
    unfold slices_pdqsortOrdered_int8.b1 at h1
    refine J.block ?_
    refine J.seq ?_
    refine J.region ?_
    refine J.op rfl rfl rfl (V.mv rfl rfl) ?_
    refine J.op rfl rfl rfl (V.mv rfl rfl) ?_
    refine J.op rfl rfl rfl (V.ar rfl rfl rfl rfl) ?_
    refine J.op rfl rfl rfl (V.as rfl rfl) ?_
    obtain ⟨length_4, elength_4, h1⟩ := B.lt h1
    refine J.val (congrArg (Value.int .i64) elength_4) ?_
    refine J.nil ?_
    refine J.tN ?_
    refine J.seq ?_
    refine J.seq ?_
    refine J.region ?_
    refine J.op rfl rfl rfl (V.mv rfl rfl) ?_
    refine J.op rfl rfl rfl (V.cmp rfl rfl rfl rfl) ?_
    refine J.nil ?_
    refine J.tN ?_
    refine J.cond rfl (fun hB5 => ?_) (fun hB5 => ?_)
    · replace h1 := B.t hB5 h1
      refine J.seq ?_
      refine J.region ?_
      refine J.op rfl rfl rfl (V.mv rfl rfl) ?_
      refine J.op rfl rfl rfl (V.mv rfl rfl) ?_
      refine J.op rfl rfl rfl (V.mv rfl rfl) ?_
      obtain ⟨r6, hr7, h1⟩ := B.bind h1
      refine J.cl (l := [.tmp 24, .tmp 25, .tmp 26]) [.blk b0_ (encA .i8 s1.2.2.2.2.2) T0_] [] cf65 (wN rfl) rfl rfl rfl rfl rfl rfl hM1 (fun w H => slices_insertionSortOrdered_int8.calls b0_ n0_ T0_ s1.2.2.2.2.2 s1.1 s1.2.1 r6 w H.enter1  hr7) fun g8 => ?_
      refine J.nil ?_
      refine J.tN ?_
      refine J.ret ?_
      refine J.tR ?_
      refine J.bR ?_
      refine J.tR ?_
      refine J.bR ?_
      obtain rfl := B.d h1
      replace h0 := B.inr h0
      obtain rfl := B.e h0
      exact J.ret0 rfl fun w H => ⟨(), rfl, H.pick [0] (by decide)⟩
    · replace h1 := B.f hB5 h1
      refine J.skip ?_
      refine J.tN ?_
      refine J.seq ?_
      refine J.seq ?_
      refine J.region ?_
      refine J.op rfl rfl rfl (V.mv rfl rfl) ?_
      refine J.op rfl rfl rfl (V.cmp rfl rfl rfl rfl) ?_
      refine J.nil ?_
      refine J.tN ?_
      refine J.cond rfl (fun hB9 => ?_) (fun hB9 => ?_)
      · replace h1 := B.t hB9 h1
        refine J.seq ?_
        refine J.region ?_
        refine J.op rfl rfl rfl (V.mv rfl rfl) ?_
        refine J.op rfl rfl rfl (V.mv rfl rfl) ?_
        refine J.op rfl rfl rfl (V.mv rfl rfl) ?_
        obtain ⟨r10, hr11, h1⟩ := B.bind h1
        refine J.cl (l := [.tmp 30, .tmp 31, .tmp 32]) [.blk b0_ (encA .i8 s1.2.2.2.2.2) T0_] [] cf66 (wN rfl) rfl rfl rfl rfl rfl rfl hM1 (fun w H => slices_heapSortOrdered_int8.calls b0_ n0_ T0_ s1.2.2.2.2.2 s1.1 s1.2.1 r10 w H.enter1  hr11) fun g12 => ?_
        refine J.nil ?_
        refine J.tN ?_
        refine J.ret ?_
        refine J.tR ?_
        refine J.bR ?_
        refine J.tR ?_
        refine J.bR ?_
        obtain rfl := B.d h1
        replace h0 := B.inr h0
        obtain rfl := B.e h0
        exact J.ret0 rfl fun w H => ⟨(), rfl, H.pick [0] (by decide)⟩
      · replace h1 := B.f hB9 h1
        refine J.skip ?_
        refine J.tN ?_
        refine J.seq ?_
        obtain ⟨y13, hy20, h1⟩ := B.bind h1
        replace hy20 := B.top hy20
        refine J.cut (γ := Unit) (fun _ => True) (fun gy14 => [(0, .slice (some ⟨b0_, 0, none⟩) n0_ n0_), (1, .int .i64 s1.1), (2, .int .i64 s1.2.1), (3, .int .i64 y13.1), (8, .bool s1.2.2.2.1), (9, .bool s1.2.2.2.2.1), (10, .int .i64 length_4)]) (fun gy14 => [.blk b0_ (encA .i8 y13.2) T0_]) ?_ ?_
        · have h2 := hy20
          refine J.seq ?_
          refine J.region ?_
          refine J.op rfl rfl rfl (V.mv rfl rfl) ?_
          refine J.op rfl rfl rfl (V.nt rfl rfl) ?_
          refine J.nil ?_
          refine J.tN ?_
          refine J.cond rfl (fun hB15 => ?_) (fun hB15 => ?_)
          · replace h2 := B.t hB15 h2
            refine J.seq ?_
            refine J.region ?_
            refine J.op rfl rfl rfl (V.mv rfl rfl) ?_
            refine J.op rfl rfl rfl (V.mv rfl rfl) ?_
            refine J.op rfl rfl rfl (V.mv rfl rfl) ?_
            obtain ⟨r16, hr17, h2⟩ := B.bind h2
            refine J.cl (l := [.tmp 36, .tmp 37, .tmp 38]) [.blk b0_ (encA .i8 s1.2.2.2.2.2) T0_] [] cf67 (wN rfl) rfl rfl rfl rfl rfl rfl hM1 (fun w H => slices_breakPatternsOrdered_int8.calls b0_ n0_ T0_ s1.2.2.2.2.2 s1.1 s1.2.1 r16 w H.enter1  hr17) fun g18 => ?_
            refine J.nil ?_
            refine J.tN ?_
            refine J.region ?_
            refine J.op rfl rfl rfl (V.mv rfl rfl) ?_
            refine J.op rfl rfl rfl (V.ar rfl rfl rfl rfl) ?_
            refine J.op rfl rfl rfl (V.as rfl rfl) ?_
            obtain ⟨limit_19, elimit_19, h2⟩ := B.lt h2
            refine J.val (congrArg (Value.int .i64) elimit_19) ?_
            refine J.nil ?_
            obtain rfl := B.e h2
            refine J.tN (J.to () trivial ?_)
            exact J.keep _ rfl (J.pickE [0] rfl rfl J.here)
          · replace h2 := B.f hB15 h2
            refine J.skip ?_
            obtain rfl := B.e h2
            refine J.tN (J.to () trivial ?_)
            exact J.keep _ rfl (J.pickE [0] rfl rfl J.here)
        · intro gy14 _
          refine J.seq ?_
          refine J.region ?_
          refine J.op rfl rfl rfl (V.mv rfl rfl) ?_
          refine J.op rfl rfl rfl (V.mv rfl rfl) ?_
          refine J.op rfl rfl rfl (V.mv rfl rfl) ?_
          obtain ⟨r21, hr22, h1⟩ := B.bind h1
          refine J.cl (l := [.tmp 43, .tmp 44, .tmp 45]) [] [.blk b0_ (encA .i8 y13.2) T0_] cf68 (wN rfl) rfl rfl rfl rfl rfl rfl (by simp) (fun w H => slices_choosePivotOrdered_int8.calls (.slice (some ⟨b0_, 0, none⟩) n0_ n0_) (y13.2.toList) s1.1 s1.2.1 r21 w (Own.refl w) (Sl.arr (H.at (i := 0) rfl)) hr22) fun g23 => ?_
          refine J.op rfl rfl rfl (V.mv rfl rfl) ?_
          refine J.op rfl rfl rfl (V.ex rfl rfl rfl) ?_
          refine J.op rfl rfl rfl (V.ex rfl rfl rfl) ?_
          refine J.op rfl rfl rfl (V.as rfl rfl) ?_
          refine J.op rfl rfl rfl (V.as rfl rfl) ?_
          refine J.nil ?_
          refine J.tN ?_
          refine J.seq ?_
          obtain ⟨y24, hy31, h1⟩ := B.bind h1
          replace hy31 := B.top hy31
          refine J.cut (γ := Unit) (fun _ => True) (fun gy25 => [(0, .slice (some ⟨b0_, 0, none⟩) n0_ n0_), (1, .int .i64 s1.1), (2, .int .i64 s1.2.1), (3, .int .i64 y13.1), (8, .bool s1.2.2.2.1), (9, .bool s1.2.2.2.2.1), (10, .int .i64 length_4), (11, .int .i64 y24.1), (12, .int .i64 y24.2.1)]) (fun gy25 => [.blk b0_ (encA .i8 y24.2.2) T0_]) ?_ ?_
          · have h2 := hy31
            refine J.seq ?_
            refine J.region ?_
            refine J.op rfl rfl rfl (V.mv rfl rfl) ?_
            refine J.op rfl rfl rfl (V.cmp rfl rfl rfl rfl) ?_
            refine J.nil ?_
            refine J.tN ?_
            refine J.cond rfl (fun hB26 => ?_) (fun hB26 => ?_)
            · replace h2 := B.t hB26 h2
              refine J.seq ?_
              refine J.region ?_
              refine J.op rfl rfl rfl (V.mv rfl rfl) ?_
              refine J.op rfl rfl rfl (V.mv rfl rfl) ?_
              refine J.op rfl rfl rfl (V.mv rfl rfl) ?_
              obtain ⟨r27, hr28, h2⟩ := B.bind h2
              refine J.cl (l := [.tmp 51, .tmp 52, .tmp 53]) [.blk b0_ (encA .i8 y13.2) T0_] [] cf69 (wN rfl) rfl rfl rfl rfl rfl rfl hM1 (fun w H => slices_reverseRangeOrdered_int8.calls b0_ n0_ T0_ y13.2 s1.1 s1.2.1 r27 w H.enter1  hr28) fun g29 => ?_
              refine J.nil ?_
              refine J.tN ?_
              refine J.seq ?_
              refine J.region ?_
              refine J.op rfl rfl rfl (V.mv rfl rfl) ?_
              refine J.op rfl rfl rfl (V.ar rfl rfl rfl rfl) ?_
              refine J.op rfl rfl rfl (V.mv rfl rfl) ?_
              refine J.op rfl rfl rfl (V.mv rfl rfl) ?_
              refine J.op rfl rfl rfl (V.ar rfl rfl rfl rfl) ?_
              refine J.op rfl rfl rfl (V.ar rfl rfl rfl rfl) ?_
              refine J.op rfl rfl rfl (V.as rfl rfl) ?_
              obtain ⟨pivot_30, epivot_30, h2⟩ := B.lt h2
              refine J.val (congrArg (Value.int .i64) epivot_30) ?_
              refine J.nil ?_
              refine J.tN ?_
              refine J.region ?_
              refine J.op rfl rfl rfl (V.as rfl rfl) ?_
              refine J.nil ?_
              obtain rfl := B.e h2
              refine J.tN (J.to () trivial ?_)
              exact J.keep _ rfl (J.pickE [0] rfl rfl J.here)
            · replace h2 := B.f hB26 h2
              refine J.skip ?_
              obtain rfl := B.e h2
              refine J.tN (J.to () trivial ?_)
              exact J.keep _ rfl (J.pickE [0] rfl rfl J.here)
          · intro gy25 _
            refine J.seq ?_
            obtain ⟨o45, hy44, h1⟩ := B.bind h1
            replace hy44 := B.top hy44
            refine J.cut (γ := ((Vector Int n0_)) × (Unit)) (fun gy33 => o45 = .inl gy33.1) (fun gy33 => [(0, .slice (some ⟨b0_, 0, none⟩) n0_ n0_), (1, .int .i64 s1.1), (2, .int .i64 s1.2.1), (3, .int .i64 y13.1), (8, .bool s1.2.2.2.1), (9, .bool s1.2.2.2.2.1), (10, .int .i64 length_4), (11, .int .i64 y24.1)]) (fun gy33 => [.blk b0_ (encA .i8 gy33.1) T0_]) ?_ ?_
            · have h2 := hy44
              refine J.seq ?_
              obtain ⟨y34, hy38, h2⟩ := B.bind h2
              replace hy38 := B.top hy38
              refine J.cut (γ := Unit) (fun _ => True) (fun gy35 => [(0, .slice (some ⟨b0_, 0, none⟩) n0_ n0_), (1, .int .i64 s1.1), (2, .int .i64 s1.2.1), (3, .int .i64 y13.1), (8, .bool s1.2.2.2.1), (9, .bool s1.2.2.2.2.1), (10, .int .i64 length_4), (11, .int .i64 y24.1), (68, .bool y34)]) (fun gy35 => [.blk b0_ (encA .i8 y24.2.2) T0_]) ?_ ?_
              · have h3 := hy38
                refine J.region ?_
                refine J.op rfl rfl rfl (V.mv rfl rfl) ?_
                refine J.op rfl rfl rfl (V.mv rfl rfl) ?_
                refine J.split 62 rfl (fun hB36 => ?_) (fun hB36 => ?_)
                · replace h3 := B.t hB36 h3
                  refine J.opOn rfl rfl rfl rfl rfl (V.mv rfl rfl) ?_
                  refine J.op rfl rfl rfl (V.pkT rfl rfl rfl) ?_
                  refine J.op rfl rfl rfl (V.mv rfl rfl) ?_
                  refine J.split 65 rfl (fun hB37 => ?_) (fun hB37 => ?_)
                  · replace h3 := B.t hB37 h3
                    refine J.opOn rfl rfl rfl rfl rfl (V.mv rfl rfl) ?_
                    refine J.opOn rfl rfl rfl rfl rfl (V.cmp rfl rfl rfl rfl) ?_
                    refine J.op rfl rfl rfl (V.pkT rfl rfl rfl) ?_
                    refine J.nil ?_
                    obtain rfl := B.e h3
                    refine J.tN (J.to () trivial ?_)
                    exact J.keep _ rfl (J.pickE [0] rfl rfl J.here)
                  · replace h3 := B.f hB37 h3
                    refine J.opOff rfl rfl rfl rfl rfl rfl ?_
                    refine J.opOff rfl rfl rfl rfl rfl rfl ?_
                    refine J.op rfl rfl rfl (V.pkF rfl rfl rfl) ?_
                    refine J.nil ?_
                    obtain rfl := B.e h3
                    refine J.tN (J.to () trivial ?_)
                    exact J.keep _ rfl (J.pickE [0] rfl rfl J.here)
                · replace h3 := B.f hB36 h3
                  refine J.opOff rfl rfl rfl rfl rfl rfl ?_
                  refine J.op rfl rfl rfl (V.pkF rfl rfl rfl) ?_
                  refine J.op rfl rfl rfl (V.mv rfl rfl) ?_
                  refine J.opOff rfl rfl rfl rfl rfl rfl ?_
                  refine J.opOff rfl rfl rfl rfl rfl rfl ?_
                  refine J.op rfl rfl rfl (V.pkF rfl rfl rfl) ?_
                  refine J.nil ?_
                  obtain rfl := B.e h3
                  refine J.tN (J.to () trivial ?_)
                  exact J.keep _ rfl (J.pickE [0] rfl rfl J.here)
              · intro gy35 _
                refine J.cond rfl (fun hB39 => ?_) (fun hB39 => ?_)
                · replace h2 := B.t hB39 h2
                  refine J.seq ?_
                  refine J.region ?_
                  refine J.op rfl rfl rfl (V.mv rfl rfl) ?_
                  refine J.op rfl rfl rfl (V.mv rfl rfl) ?_
                  refine J.op rfl rfl rfl (V.mv rfl rfl) ?_
                  obtain ⟨r40, hr41, h2⟩ := B.bind h2
                  refine J.cl (l := [.tmp 69, .tmp 70, .tmp 71]) [.blk b0_ (encA .i8 y24.2.2) T0_] [] cf70 (wN rfl) rfl rfl rfl rfl rfl rfl hM1 (fun w H => slices_partialInsertionSortOrdered_int8.calls b0_ n0_ T0_ y24.2.2 s1.1 s1.2.1 r40 w H.enter1  hr41) fun g42 => ?_
                  refine J.nil ?_
                  refine J.tN ?_
                  refine J.cond rfl (fun hB43 => ?_) (fun hB43 => ?_)
                  · replace h2 := B.t hB43 h2
                    refine J.ret ?_
                    refine J.tR ?_
                    refine J.bR ?_
                    refine J.tR ?_
                    refine J.bR ?_
                    obtain rfl := B.e h2
                    replace h1 := B.inr h1
                    obtain rfl := B.d h1
                    replace h0 := B.inr h0
                    obtain rfl := B.e h0
                    exact J.ret0 rfl fun w H => ⟨(), rfl, H.pick [0] (by decide)⟩
                  · replace h2 := B.f hB43 h2
                    refine J.skip ?_
                    obtain rfl := B.e h2
                    refine J.tN (J.to (r40.2, ()) rfl ?_)
                    exact J.keep _ rfl (J.pickE [0] rfl rfl J.here)
                · replace h2 := B.f hB39 h2
                  refine J.skip ?_
                  obtain rfl := B.e h2
                  refine J.tN (J.to (y24.2.2, ()) rfl ?_)
                  exact J.keep _ rfl (J.pickE [0] rfl rfl J.here)
            · intro gy33 hG
              replace h1 := B.inl hG h1
              refine J.seq ?_
              refine J.seq ?_
              obtain ⟨y46, hy54, h1⟩ := B.bind h1
              replace hy54 := B.top hy54
              refine J.cut (γ := Unit) (fun _ => True) (fun gy47 => [(0, .slice (some ⟨b0_, 0, none⟩) n0_ n0_), (1, .int .i64 s1.1), (2, .int .i64 s1.2.1), (3, .int .i64 y13.1), (8, .bool s1.2.2.2.1), (9, .bool s1.2.2.2.2.1), (10, .int .i64 length_4), (11, .int .i64 y24.1), (87, .bool y46)]) (fun gy47 => [.blk b0_ (encA .i8 gy33.1) T0_]) ?_ ?_
              · have h2 := hy54
                refine J.quiet mixed (by kernel_rfl) ?_
                refine JQ.op rfl rfl rfl (V.mv rfl rfl) ?_
                refine JQ.op rfl rfl rfl (V.cmp rfl rfl rfl rfl) ?_
                refine JQ.op rfl rfl rfl (V.mv rfl rfl) ?_
                refine JQ.split 75 rfl (fun hB48 => ?_) (fun hB48 => ?_)
                · replace h2 := B.t hB48 h2
                  refine JQ.opOn rfl rfl rfl rfl rfl (V.mv rfl rfl) ?_
                  refine JQ.opOn rfl rfl rfl rfl rfl (V.mv rfl rfl) ?_
                  refine JQ.opOn rfl rfl rfl rfl rfl (V.ar rfl rfl rfl rfl) ?_
                  obtain ⟨hC49, h2⟩ := B.chk h2
                  refine JQ.opOn rfl rfl rfl rfl rfl (V.ixM rfl rfl rfl tl66 ts22 hC49) ?_
                  refine JQ.opOn rfl rfl rfl rfl rfl (V.ldB 0 rfl rfl rfl Try.underlying22 ta22 (encA_get0 .i8 _ hC49)) ?_
                  refine JQ.opOn rfl rfl rfl rfl rfl (V.mv rfl rfl) ?_
                  refine JQ.opOn rfl rfl rfl rfl rfl (V.mv rfl rfl) ?_
                  obtain ⟨hC50, h2⟩ := B.chk h2
                  refine JQ.opOn rfl rfl rfl rfl rfl (V.ixM rfl rfl rfl tl66 ts22 hC50) ?_
                  refine JQ.opOn rfl rfl rfl rfl rfl (V.ldB 0 rfl rfl rfl Try.underlying22 ta22 (encA_get0 .i8 _ hC50)) ?_
                  obtain ⟨r51, hr52, h2⟩ := B.bind h2
                  obtain ⟨_, cf1, cf2, cf3⟩ := cf71
                  refine JQ.cl (l := [.tmp 80, .tmp 84]) cf1 cf2 cf3 (wY rfl rfl rfl) rfl rfl rfl rfl rfl (fun w H => cmp_Less_int8.calls (rdA gy33.1 (IntKind.wrap .i64 (s1.1 - 1))) (rdA gy33.1 y24.1) r51 w (Own.refl w)  hr52) ?_
                  refine JQ.opOn rfl rfl rfl rfl rfl (V.nt rfl rfl) ?_
                  refine JQ.op rfl rfl rfl (V.pkT rfl rfl rfl) ?_
                  refine JQ.nil ?_
                  obtain rfl := B.e h2
                  refine J.tN (J.to () trivial ?_)
                  exact J.keep _ rfl (J.pickE [0] rfl rfl J.here)
                · replace h2 := B.f hB48 h2
                  refine JQ.opOff rfl rfl rfl rfl rfl rfl ?_
                  refine JQ.opOff rfl rfl rfl rfl rfl rfl ?_
                  refine JQ.opOff rfl rfl rfl rfl rfl rfl ?_
                  refine JQ.opOff rfl rfl rfl rfl rfl rfl ?_
                  refine JQ.opOff rfl rfl rfl rfl rfl rfl ?_
                  refine JQ.opOff rfl rfl rfl rfl rfl rfl ?_
                  refine JQ.opOff rfl rfl rfl rfl rfl rfl ?_
                  refine JQ.opOff rfl rfl rfl rfl rfl rfl ?_
                  refine JQ.opOff rfl rfl rfl rfl rfl rfl ?_
                  refine JQ.opOff rfl rfl rfl rfl rfl rfl ?_
                  refine JQ.opOff rfl rfl rfl rfl rfl rfl ?_
                  refine JQ.op rfl rfl rfl (V.pkF rfl rfl rfl) ?_
                  refine JQ.nil ?_
                  obtain rfl := B.e h2
                  refine J.tN (J.to () trivial ?_)
                  exact J.keep _ rfl (J.pickE [0] rfl rfl J.here)
              · intro gy47 _
                refine J.cond rfl (fun hB55 => ?_) (fun hB55 => ?_)
                · replace h1 := B.t hB55 h1
                  refine J.seq ?_
                  refine J.region ?_
                  refine J.op rfl rfl rfl (V.mv rfl rfl) ?_
                  refine J.op rfl rfl rfl (V.mv rfl rfl) ?_
                  refine J.op rfl rfl rfl (V.mv rfl rfl) ?_
                  refine J.op rfl rfl rfl (V.mv rfl rfl) ?_
                  obtain ⟨r56, hr57, h1⟩ := B.bind h1
                  refine J.cl (l := [.tmp 88, .tmp 89, .tmp 90, .tmp 91]) [.blk b0_ (encA .i8 gy33.1) T0_] [] cf72 (wN rfl) rfl rfl rfl rfl rfl rfl hM1 (fun w H => slices_partitionEqualOrdered_int8.calls b0_ n0_ T0_ gy33.1 s1.1 s1.2.1 y24.1 r56 w H.enter1  hr57) fun g58 => ?_
                  refine J.op rfl rfl rfl (V.as rfl rfl) ?_
                  refine J.nil ?_
                  refine J.tN ?_
                  refine J.seq ?_
                  refine J.region ?_
                  refine J.op rfl rfl rfl (V.mv rfl rfl) ?_
                  refine J.op rfl rfl rfl (V.as rfl rfl) ?_
                  refine J.nil ?_
                  refine J.tN ?_
                  refine J.exit ?_
                  refine J.tE ?_
                  refine J.bE ?_
                  refine J.tN (J.next (r56.1, s1.2.1, y13.1, s1.2.2.2.1, s1.2.2.2.2.1, r56.2) () (B.n h1) ?_)
                  exact J.keep _ rfl (J.pickE [0] rfl rfl J.here)
                · replace h1 := B.f hB55 h1
                  refine J.skip ?_
                  refine J.tN ?_
                  refine J.seq ?_
                  refine J.region ?_
                  refine J.op rfl rfl rfl (V.mv rfl rfl) ?_
                  refine J.op rfl rfl rfl (V.mv rfl rfl) ?_
                  refine J.op rfl rfl rfl (V.mv rfl rfl) ?_
                  refine J.op rfl rfl rfl (V.mv rfl rfl) ?_
                  obtain ⟨r59, hr60, h1⟩ := B.bind h1
                  refine J.cl (l := [.tmp 95, .tmp 96, .tmp 97, .tmp 98]) [.blk b0_ (encA .i8 gy33.1) T0_] [] cf73 (wN rfl) rfl rfl rfl rfl rfl rfl hM1 (fun w H => slices_partitionOrdered_int8.calls b0_ n0_ T0_ gy33.1 s1.1 s1.2.1 y24.1 r59 w H.enter1  hr60) fun g61 => ?_
                  refine J.op rfl rfl rfl (V.mv rfl rfl) ?_
                  refine J.op rfl rfl rfl (V.ex rfl rfl rfl) ?_
                  refine J.op rfl rfl rfl (V.ex rfl rfl rfl) ?_
                  refine J.op rfl rfl rfl (V.as rfl rfl) ?_
                  refine J.op rfl rfl rfl (V.as rfl rfl) ?_
                  refine J.nil ?_
                  refine J.tN ?_
                  refine J.seq ?_
                  refine J.region ?_
                  refine J.op rfl rfl rfl (V.mv rfl rfl) ?_
                  refine J.op rfl rfl rfl (V.as rfl rfl) ?_
                  refine J.nil ?_
                  refine J.tN ?_
                  refine J.seq ?_
                  refine J.region ?_
                  refine J.op rfl rfl rfl (V.mv rfl rfl) ?_
                  refine J.op rfl rfl rfl (V.mv rfl rfl) ?_
                  refine J.op rfl rfl rfl (V.ar rfl rfl rfl rfl) ?_
                  refine J.op rfl rfl rfl (V.mv rfl rfl) ?_
                  refine J.op rfl rfl rfl (V.mv rfl rfl) ?_
                  refine J.op rfl rfl rfl (V.ar rfl rfl rfl rfl) ?_
                  refine J.op rfl rfl rfl (V.as rfl rfl) ?_
                  obtain ⟨leftLen_62, eleftLen_62, h1⟩ := B.lt h1
                  refine J.val (congrArg (Value.int .i64) eleftLen_62) ?_
                  refine J.op rfl rfl rfl (V.as rfl rfl) ?_
                  obtain ⟨rightLen_63, erightLen_63, h1⟩ := B.lt h1
                  refine J.val (congrArg (Value.int .i64) erightLen_63) ?_
                  refine J.nil ?_
                  refine J.tN ?_
                  refine J.seq ?_
                  refine J.region ?_
                  refine J.op rfl rfl rfl (V.mv rfl rfl) ?_
                  refine J.op rfl rfl rfl (V.quo rfl rfl rfl rfl) ?_
                  refine J.op rfl rfl rfl (V.as rfl rfl) ?_
                  obtain ⟨balanceThreshold_64, ebalanceThreshold_64, h1⟩ := B.lt h1
                  refine J.val (congrArg (Value.int .i64) ebalanceThreshold_64) ?_
                  refine J.nil ?_
                  refine J.tN ?_
                  refine J.seq ?_
                  refine J.region ?_
                  refine J.op rfl rfl rfl (V.mv rfl rfl) ?_
                  refine J.op rfl rfl rfl (V.mv rfl rfl) ?_
                  refine J.op rfl rfl rfl (V.cmp rfl rfl rfl rfl) ?_
                  refine J.nil ?_
                  refine J.tN ?_
                  refine J.cond rfl (fun hB65 => ?_) (fun hB65 => ?_)
                  · replace h1 := B.t hB65 h1
                    refine J.seq ?_
                    refine J.region ?_
                    refine J.op rfl rfl rfl (V.mv rfl rfl) ?_
                    refine J.op rfl rfl rfl (V.mv rfl rfl) ?_
                    refine J.op rfl rfl rfl (V.cmp rfl rfl rfl rfl) ?_
                    refine J.op rfl rfl rfl (V.as rfl rfl) ?_
                    obtain ⟨wasBalanced_66, ewasBalanced_66, h1⟩ := B.lt h1
                    refine J.val (congrArg (Value.bool) ewasBalanced_66) ?_
                    refine J.nil ?_
                    refine J.tN ?_
                    refine J.seq ?_
                    refine J.region ?_
                    refine J.op rfl rfl rfl (V.mv rfl rfl) ?_
                    refine J.op rfl rfl rfl (V.mv rfl rfl) ?_
                    refine J.op rfl rfl rfl (V.mv rfl rfl) ?_
                    refine J.op rfl rfl rfl (V.mv rfl rfl) ?_
                    obtain ⟨r67, hr68, h1⟩ := B.bind h1
                    refine J.cl (l := [.tmp 117, .tmp 118, .tmp 119, .tmp 120]) [.blk b0_ (encA .i8 r59.2.2) T0_] [] cf58 (wN rfl) rfl rfl rfl rfl rfl rfl hM1 (fun w H => hrc b0_ n0_ T0_ r59.2.2 s1.1 r59.1 y13.1 r67 w H.enter1  hr68) fun g69 => ?_
                    refine J.nil ?_
                    refine J.tN ?_
                    refine J.region ?_
                    refine J.op rfl rfl rfl (V.mv rfl rfl) ?_
                    refine J.op rfl rfl rfl (V.ar rfl rfl rfl rfl) ?_
                    refine J.op rfl rfl rfl (V.as rfl rfl) ?_
                    obtain ⟨a_70, ea_70, h1⟩ := B.lt h1
                    refine J.val (congrArg (Value.int .i64) ea_70) ?_
                    refine J.nil ?_
                    refine J.bN ?_
                    refine J.tN (J.next (a_70, s1.2.1, y13.1, wasBalanced_66, r59.2.1, r67) () (B.n h1) ?_)
                    exact J.keep _ rfl (J.pickE [0] rfl rfl J.here)
                  · replace h1 := B.f hB65 h1
                    refine J.seq ?_
                    refine J.region ?_
                    refine J.op rfl rfl rfl (V.mv rfl rfl) ?_
                    refine J.op rfl rfl rfl (V.mv rfl rfl) ?_
                    refine J.op rfl rfl rfl (V.cmp rfl rfl rfl rfl) ?_
                    refine J.op rfl rfl rfl (V.as rfl rfl) ?_
                    obtain ⟨wasBalanced_71, ewasBalanced_71, h1⟩ := B.lt h1
                    refine J.val (congrArg (Value.bool) ewasBalanced_71) ?_
                    refine J.nil ?_
                    refine J.tN ?_
                    refine J.seq ?_
                    refine J.region ?_
                    refine J.op rfl rfl rfl (V.mv rfl rfl) ?_
                    refine J.op rfl rfl rfl (V.mv rfl rfl) ?_
                    refine J.op rfl rfl rfl (V.ar rfl rfl rfl rfl) ?_
                    refine J.op rfl rfl rfl (V.mv rfl rfl) ?_
                    refine J.op rfl rfl rfl (V.mv rfl rfl) ?_
                    obtain ⟨r72, hr73, h1⟩ := B.bind h1
                    refine J.cl (l := [.tmp 127, .tmp 129, .tmp 130, .tmp 131]) [.blk b0_ (encA .i8 r59.2.2) T0_] [] cf58 (wN rfl) rfl rfl rfl rfl rfl rfl hM1 (fun w H => hrc b0_ n0_ T0_ r59.2.2 (IntKind.wrap .i64 (r59.1 + 1)) s1.2.1 y13.1 r72 w H.enter1  hr73) fun g74 => ?_
                    refine J.nil ?_
                    refine J.tN ?_
                    refine J.region ?_
                    refine J.op rfl rfl rfl (V.mv rfl rfl) ?_
                    refine J.op rfl rfl rfl (V.as rfl rfl) ?_
                    refine J.nil ?_
                    refine J.bN ?_
                    refine J.tN (J.next (s1.1, r59.1, y13.1, wasBalanced_71, r59.2.1, r72) () (B.n h1) ?_)
                    exact J.keep _ rfl (J.pickE [0] rfl rfl J.here)
theorem slices_pdqsortOrdered_int8.fuel_calls : ∀ k, ∀ (b0_ n0_ T0_ : Nat) (p0_data : Vector Int n0_) (p1_a : Int) (p2_b : Int) (p3_limit : Int) (r : (Vector Int n0_)) (w : World) (H0 : Own [b0_] w w [.blk b0_ (encA .i8 p0_data) T0_]) (h0 : slices_pdqsortOrdered_int8.fuel k n0_ p0_data p1_a p2_b p3_limit = some r), Calls Try.prog 58 #[.slice (some ⟨b0_, 0, none⟩) n0_ n0_, .int .i64 p1_a, .int .i64 p2_b, .int .i64 p3_limit] w (fun e w' => ∃ _ : Unit, e = .returned (.tuple #[]) ∧ Own [b0_] w w' [.blk b0_ (encA .i8 r) T0_])
  | 0 => fun _ => by intros; exact absurd ‹_› (by simp [slices_pdqsortOrdered_int8.fuel])
  | k + 1 => slices_pdqsortOrdered_int8.once (slices_pdqsortOrdered_int8.fuel k) (slices_pdqsortOrdered_int8.fuel_calls k)
theorem slices_pdqsortOrdered_int8.calls (b0_ n0_ T0_ : Nat) (p0_data : Vector Int n0_) (p1_a : Int) (p2_b : Int) (p3_limit : Int) (r : (Vector Int n0_)) (w : World) (H0 : Own [b0_] w w [.blk b0_ (encA .i8 p0_data) T0_]) (h0 : slices_pdqsortOrdered_int8.f n0_ p0_data p1_a p2_b p3_limit = some r) :
    Calls Try.prog 58 #[.slice (some ⟨b0_, 0, none⟩) n0_ n0_, .int .i64 p1_a, .int .i64 p2_b, .int .i64 p3_limit] w (fun e w' => ∃ _ : Unit, e = .returned (.tuple #[]) ∧ Own [b0_] w w' [.blk b0_ (encA .i8 r) T0_]) := slices_pdqsortOrdered_int8.fuel_calls 64 b0_ n0_ T0_ p0_data p1_a p2_b p3_limit r w H0  h0

end Go.Proofs.Ytopmellnegcfpaa
