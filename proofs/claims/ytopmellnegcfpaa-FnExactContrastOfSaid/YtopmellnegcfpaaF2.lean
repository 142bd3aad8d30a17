/- Go functions as Lean functions, and that each call of theirs comes to just that: by a program written for this work (walk.py). No condition. -/
import Derived.Test.YtopmellnegcfpaaF1
namespace Go.Proofs.Ytopmellnegcfpaa
open Go Go.RowKit G
set_option linter.unusedVariables false

/-! ### slices.reverseRangeOrdered[int8]: function 69 -/
noncomputable def slices_reverseRangeOrdered_int8.b1 (n0_ : Nat) : (Int × Int × (Vector Int n0_)) → Option (Step (Int × Int × (Vector Int n0_)) ((Vector Int n0_))) := fun s2 => bif (decide (s2.1 < s2.2.1)) then (bif (inB s2.2.1 n0_) then (bif (inB s2.1 n0_) then (bif (inB s2.1 n0_) then ((some (wrA s2.2.2 s2.1 (rdA s2.2.2 s2.2.1))).bind fun m9 => bif (inB s2.2.1 n0_) then ((some (wrA m9 s2.2.1 (rdA s2.2.2 s2.1))).bind fun m11 => (some (IntKind.wrap .i64 (s2.1 + 1))).bind fun i_12 => (some (IntKind.wrap .i64 (s2.2.1 - 1))).bind fun j_13 => some (.next (i_12, j_13, m11))) else none) else none) else none) else none) else (some (.done s2.2.2))
noncomputable def slices_reverseRangeOrdered_int8.f (n0_ : Nat) (p0_data : Vector Int n0_) (p1_a : Int) (p2_b : Int) : Option ((Vector Int n0_)) := (some (IntKind.wrap .i64 (p2_b - 1))).bind fun j_1 => (loopW (slices_reverseRangeOrdered_int8.b1 n0_) (p1_a, j_1, p0_data)).bind fun y14 => some y14
set_option maxRecDepth 100000 in
theorem slices_reverseRangeOrdered_int8.calls (b0_ n0_ T0_ : Nat) (p0_data : Vector Int n0_) (p1_a : Int) (p2_b : Int) (r : (Vector Int n0_)) (w : World) (H0 : Own [b0_] w w [.blk b0_ (encA .i8 p0_data) T0_]) (h0 : slices_reverseRangeOrdered_int8.f n0_ p0_data p1_a p2_b = some r) :
    Calls Try.prog 69 #[.slice (some ⟨b0_, 0, none⟩) n0_ n0_, .int .i64 p1_a, .int .i64 p2_b] w (fun e w' => ∃ _ : Unit, e = .returned (.tuple #[]) ∧ Own [b0_] w w' [.blk b0_ (encA .i8 r) T0_]) := by
  unfold slices_reverseRangeOrdered_int8.f at h0
  replace h0 := B.top h0
  refine calls_of_J (args := [.slice (some ⟨b0_, 0, none⟩) n0_ n0_, .int .i64 p1_a, .int .i64 p2_b]) Try.func69 rfl Try.ntmps69 rfl [(0, .slice (some ⟨b0_, 0, none⟩) n0_ n0_), (1, .int .i64 p1_a), (2, .int .i64 p2_b)] rfl H0 ?_
  refine J.seq ?_
  refine J.region ?_
  refine J.op rfl rfl rfl (V.mv rfl rfl) ?_
  refine J.op rfl rfl rfl (V.as rfl rfl) ?_
  refine J.nil ?_
  refine J.tN ?_
  refine J.seq ?_
  refine J.region ?_
  refine J.op rfl rfl rfl (V.mv rfl rfl) ?_
  refine J.op rfl rfl rfl (V.ar rfl rfl rfl rfl) ?_
  refine J.op rfl rfl rfl (V.as rfl rfl) ?_
  obtain ⟨j_1, ej_1, h0⟩ := B.lt h0
  refine J.val (congrArg (Value.int .i64) ej_1) ?_
  refine J.nil ?_
  refine J.tN ?_
  obtain ⟨y14, hy16, h0⟩ := B.bind h0
  refine J.cutQ (γ := Unit) (fun _ => True) (fun gy15 => []) (fun gy15 => [.blk b0_ (encA .i8 y14) T0_]) ?_ ?_
  · refine J.block ?_
    refine J.loop (γ := Unit) hy16 (fun s2 g3 => [(0, .slice (some ⟨b0_, 0, none⟩) n0_ n0_), (6, .int .i64 s2.1), (7, .int .i64 s2.2.1)]) (fun s2 g3 => [.blk b0_ (encA .i8 s2.2.2) T0_]) () ?_ ?_
    · exact J.keep _ rfl (J.pickE [0] rfl rfl J.here)
    · intro rec4 s2 g3 h1
      unfold slices_reverseRangeOrdered_int8.b1 at h1
      refine J.seq ?_
      refine J.seq ?_
      refine J.region ?_
      refine J.op rfl rfl rfl (V.mv rfl rfl) ?_
      refine J.op rfl rfl rfl (V.mv rfl rfl) ?_
      refine J.op rfl rfl rfl (V.cmp rfl rfl rfl rfl) ?_
      refine J.nil ?_
      refine J.tN ?_
      refine J.cond rfl (fun hB5 => ?_) (fun hB5 => ?_)
      · replace h1 := B.t hB5 h1
        refine J.skip ?_
        refine J.tN ?_
        refine J.block ?_
        refine J.seq ?_
        refine J.lateW 13 [2, 3, 8, 9, 10] mixed (by kernel_rfl) ?_
        refine JL.op rfl rfl rfl rfl (V.mv rfl rfl) ?_
        refine JL.op rfl rfl rfl rfl (V.mv rfl rfl) ?_
        refine JL.pure rfl rfl rfl (fun w1 => V.mv rfl rfl) ?_
        refine JL.pure rfl rfl rfl (fun w1 => V.mv rfl rfl) ?_
        refine JL.op rfl rfl rfl rfl (V.mv rfl rfl) ?_
        refine JL.op rfl rfl rfl rfl (V.mv rfl rfl) ?_
        obtain ⟨hC6, h1⟩ := B.chk h1
        refine JL.op rfl rfl rfl rfl (V.ixM rfl rfl rfl tl66 ts22 hC6) ?_
        refine JL.op rfl rfl rfl rfl (V.ldB 0 rfl rfl rfl Try.underlying22 ta22 (encA_get0 .i8 _ hC6)) ?_
        refine JL.pure rfl rfl rfl (fun w1 => V.mv rfl rfl) ?_
        refine JL.pure rfl rfl rfl (fun w1 => V.mv rfl rfl) ?_
        obtain ⟨hC7, h1⟩ := B.chk h1
        refine JL.pure rfl rfl rfl (fun w1 => V.ixM rfl rfl rfl tl66 ts22 hC7) ?_
        refine JL.op rfl rfl rfl rfl (V.ldB 0 rfl rfl rfl Try.underlying22 ta22 (encA_get0 .i8 _ hC7)) ?_
        obtain ⟨hC8, h1⟩ := B.chk h1
        refine JL.op rfl rfl rfl rfl (V.ixM rfl rfl rfl tl66 ts22 hC8) ?_
        refine JL.tail ?_
        refine J.stB 0 rfl rfl rfl rfl rfl rfl ts22 (fun _ _ => rfl) (encA_lt .i8 _ hC8) ?_
        refine J.setEnt 0 rfl (congrArg (fun q => Ent.blk _ q _) (encA_set .i8 _ _ _)) ?_
        obtain ⟨m9, em9, h1⟩ := B.lt h1
        refine J.setEnt 0 rfl (congrArg (fun q => Ent.blk _ (encA .i8 q) _) em9) ?_
        obtain ⟨hC10, h1⟩ := B.chk h1
        refine J.op rfl rfl rfl (V.ixM rfl rfl rfl tl66 ts22 hC10) ?_
        refine J.stB 0 rfl rfl rfl rfl rfl rfl ts22 (fun _ _ => rfl) (encA_lt .i8 _ hC10) ?_
        refine J.setEnt 0 rfl (congrArg (fun q => Ent.blk _ q _) (encA_set .i8 _ _ _)) ?_
        obtain ⟨m11, em11, h1⟩ := B.lt h1
        refine J.setEnt 0 rfl (congrArg (fun q => Ent.blk _ (encA .i8 q) _) em11) ?_
        refine J.nil ?_
        refine J.calm ?_
        refine J.tN ?_
        refine J.seq ?_
        refine J.region ?_
        refine J.op rfl rfl rfl (V.mv rfl rfl) ?_
        refine J.op rfl rfl rfl (V.ar rfl rfl rfl rfl) ?_
        refine J.op rfl rfl rfl (V.as rfl rfl) ?_
        obtain ⟨i_12, ei_12, h1⟩ := B.lt h1
        refine J.val (congrArg (Value.int .i64) ei_12) ?_
        refine J.nil ?_
        refine J.tN ?_
        refine J.region ?_
        refine J.op rfl rfl rfl (V.mv rfl rfl) ?_
        refine J.op rfl rfl rfl (V.ar rfl rfl rfl rfl) ?_
        refine J.op rfl rfl rfl (V.as rfl rfl) ?_
        obtain ⟨j_13, ej_13, h1⟩ := B.lt h1
        refine J.val (congrArg (Value.int .i64) ej_13) ?_
        refine J.nil ?_
        refine J.bN ?_
        refine J.tN (J.next (i_12, j_13, m11) () (B.n h1) ?_)
        exact J.keep _ rfl (J.pickE [0] rfl rfl J.here)
      · replace h1 := B.f hB5 h1
        refine J.exit ?_
        refine J.tE ?_
        refine J.tE ?_
        refine J.bE ?_
        obtain rfl := B.d h1
        refine J.tN (J.to () trivial ?_)
        exact J.keep _ rfl (J.pickE [0] rfl rfl J.here)
  · intro gy15 _
    refine J.fin ?_
    obtain rfl := B.e h0
    exact J.ret0 rfl fun w H => ⟨(), rfl, H.pick [0] (by decide)⟩

/-! ### slices.partialInsertionSortOrdered[int8]: function 70 -/
noncomputable def slices_partialInsertionSortOrdered_int8.b2 (n0_ : Nat) (p2_b : Int) (s2 : Int × Int × (Vector Int n0_)) : Int → Option (Step (Int) (Int)) := fun s6 => bif (decide (s6 < p2_b)) then (bif (inB s6 n0_) then (bif (inB (IntKind.wrap .i64 (s6 - 1)) n0_) then ((cmp_Less_int8.f (rdA s2.2.2 s6) (rdA s2.2.2 (IntKind.wrap .i64 (s6 - 1)))).bind fun r12 => bif (!r12) then ((some (IntKind.wrap .i64 (s6 + 1))).bind fun i_16 => some (.next i_16)) else (some (.done s6))) else none) else none) else (some (.done s6))
noncomputable def slices_partialInsertionSortOrdered_int8.b3 (n0_ : Nat) : (Int × (Vector Int n0_)) → Option (Step (Int × (Vector Int n0_)) ((Vector Int n0_))) := fun s32 => bif (decide (1 ≤ s32.1)) then (bif (inB s32.1 n0_) then (bif (inB (IntKind.wrap .i64 (s32.1 - 1)) n0_) then ((cmp_Less_int8.f (rdA s32.2 s32.1) (rdA s32.2 (IntKind.wrap .i64 (s32.1 - 1)))).bind fun r38 => bif (!r38) then (some (.done s32.2)) else (bif (inB (IntKind.wrap .i64 (s32.1 - 1)) n0_) then (bif (inB s32.1 n0_) then (bif (inB s32.1 n0_) then ((some (wrA s32.2 s32.1 (rdA s32.2 (IntKind.wrap .i64 (s32.1 - 1))))).bind fun m45 => bif (inB (IntKind.wrap .i64 (s32.1 - 1)) n0_) then ((some (wrA m45 (IntKind.wrap .i64 (s32.1 - 1)) (rdA s32.2 s32.1))).bind fun m47 => (some (IntKind.wrap .i64 (s32.1 - 1))).bind fun j_48 => some (.next (j_48, m47))) else none) else none) else none) else none)) else none) else none) else (some (.done s32.2))
noncomputable def slices_partialInsertionSortOrdered_int8.b4 (n0_ : Nat) (p2_b : Int) : (Int × (Vector Int n0_)) → Option (Step (Int × (Vector Int n0_)) ((Vector Int n0_))) := fun s55 => bif (decide (s55.1 < p2_b)) then (bif (inB s55.1 n0_) then (bif (inB (IntKind.wrap .i64 (s55.1 - 1)) n0_) then ((cmp_Less_int8.f (rdA s55.2 s55.1) (rdA s55.2 (IntKind.wrap .i64 (s55.1 - 1)))).bind fun r61 => bif (!r61) then (some (.done s55.2)) else (bif (inB (IntKind.wrap .i64 (s55.1 - 1)) n0_) then (bif (inB s55.1 n0_) then (bif (inB s55.1 n0_) then ((some (wrA s55.2 s55.1 (rdA s55.2 (IntKind.wrap .i64 (s55.1 - 1))))).bind fun m68 => bif (inB (IntKind.wrap .i64 (s55.1 - 1)) n0_) then ((some (wrA m68 (IntKind.wrap .i64 (s55.1 - 1)) (rdA s55.2 s55.1))).bind fun m70 => (some (IntKind.wrap .i64 (s55.1 + 1))).bind fun j_71 => some (.next (j_71, m70))) else none) else none) else none) else none)) else none) else none) else (some (.done s55.2))
noncomputable def slices_partialInsertionSortOrdered_int8.b1 (n0_ : Nat) (p1_a : Int) (p2_b : Int) : (Int × Int × (Vector Int n0_)) → Option (Step (Int × Int × (Vector Int n0_)) (Sum ((Vector Int n0_)) (Bool × (Vector Int n0_)))) := fun s2 => bif (decide (s2.2.1 < 5)) then ((loopW (slices_partialInsertionSortOrdered_int8.b2 n0_ p2_b s2) s2.1).bind fun y17 => bif (y17 == p2_b) then (some (.done (.inr (true, s2.2.2)))) else (bif (decide ((IntKind.wrap .i64 (p2_b - p1_a)) < 50)) then (some (.done (.inr (false, s2.2.2)))) else (bif (inB (IntKind.wrap .i64 (y17 - 1)) n0_) then (bif (inB y17 n0_) then (bif (inB y17 n0_) then ((some (wrA s2.2.2 y17 (rdA s2.2.2 (IntKind.wrap .i64 (y17 - 1))))).bind fun m25 => bif (inB (IntKind.wrap .i64 (y17 - 1)) n0_) then ((some (wrA m25 (IntKind.wrap .i64 (y17 - 1)) (rdA s2.2.2 y17))).bind fun m27 => (bif (decide (2 ≤ (IntKind.wrap .i64 (y17 - p1_a)))) then ((some (IntKind.wrap .i64 (y17 - 1))).bind fun j_31 => (loopW (slices_partialInsertionSortOrdered_int8.b3 n0_) (j_31, m27)).bind fun y49 => some y49) else (some m27) : Option ((Vector Int n0_))).bind fun y28 => bif (decide (2 ≤ (IntKind.wrap .i64 (p2_b - y17)))) then ((some (IntKind.wrap .i64 (y17 + 1))).bind fun j_54 => (loopW (slices_partialInsertionSortOrdered_int8.b4 n0_ p2_b) (j_54, y28)).bind fun y72 => (some (IntKind.wrap .i64 (s2.2.1 + 1))).bind fun j_75 => some (.next (y17, j_75, y72))) else ((some (IntKind.wrap .i64 (s2.2.1 + 1))).bind fun j_76 => some (.next (y17, j_76, y28)))) else none) else none) else none) else none))) else (some (.done (.inl s2.2.2)))
noncomputable def slices_partialInsertionSortOrdered_int8.f (n0_ : Nat) (p0_data : Vector Int n0_) (p1_a : Int) (p2_b : Int) : Option (Bool × (Vector Int n0_)) := (some (IntKind.wrap .i64 (p1_a + 1))).bind fun i_1 => (loopW (slices_partialInsertionSortOrdered_int8.b1 n0_ p1_a p2_b) (i_1, 0, p0_data)).bind (Sum.elim (fun y78 => some (false, y78)) (fun r => some r))
set_option maxRecDepth 100000 in
theorem slices_partialInsertionSortOrdered_int8.calls (b0_ n0_ T0_ : Nat) (p0_data : Vector Int n0_) (p1_a : Int) (p2_b : Int) (r : Bool × (Vector Int n0_)) (w : World) (H0 : Own [b0_] w w [.blk b0_ (encA .i8 p0_data) T0_]) (h0 : slices_partialInsertionSortOrdered_int8.f n0_ p0_data p1_a p2_b = some r) :
    Calls Try.prog 70 #[.slice (some ⟨b0_, 0, none⟩) n0_ n0_, .int .i64 p1_a, .int .i64 p2_b] w (fun e w' => ∃ _ : Unit, e = .returned (.bool r.1) ∧ Own [b0_] w w' [.blk b0_ (encA .i8 r.2) T0_]) := by
  unfold slices_partialInsertionSortOrdered_int8.f at h0
  replace h0 := B.top h0
  refine calls_of_J (args := [.slice (some ⟨b0_, 0, none⟩) n0_ n0_, .int .i64 p1_a, .int .i64 p2_b]) Try.func70 rfl Try.ntmps70 rfl [(0, .slice (some ⟨b0_, 0, none⟩) n0_ n0_), (1, .int .i64 p1_a), (2, .int .i64 p2_b)] rfl H0 ?_
  refine J.seq ?_
  refine J.region ?_
  refine J.op rfl rfl rfl (V.as rfl rfl) ?_
  refine J.nil ?_
  refine J.tN ?_
  refine J.seq ?_
  refine J.region ?_
  refine J.op rfl rfl rfl (V.mv rfl rfl) ?_
  refine J.op rfl rfl rfl (V.ar rfl rfl rfl rfl) ?_
  refine J.op rfl rfl rfl (V.as rfl rfl) ?_
  obtain ⟨i_1, ei_1, h0⟩ := B.lt h0
  refine J.val (congrArg (Value.int .i64) ei_1) ?_
  refine J.nil ?_
  refine J.tN ?_
  refine J.seq ?_
  refine J.seq ?_
  refine J.region ?_
  refine J.op rfl rfl rfl (V.as rfl rfl) ?_
  refine J.nil ?_
  refine J.tN ?_
  obtain ⟨o80, hy79, h0⟩ := B.bind h0
  refine J.cutQ (γ := ((Vector Int n0_)) × (Unit)) (fun gy78 => o80 = .inl gy78.1) (fun gy78 => []) (fun gy78 => [.blk b0_ (encA .i8 gy78.1) T0_]) ?_ ?_
  · refine J.block ?_
    refine J.loop (γ := Unit) hy79 (fun s2 g3 => [(0, .slice (some ⟨b0_, 0, none⟩) n0_ n0_), (1, .int .i64 p1_a), (2, .int .i64 p2_b), (7, .int .i64 s2.1), (8, .int .i64 s2.2.1)]) (fun s2 g3 => [.blk b0_ (encA .i8 s2.2.2) T0_]) () ?_ ?_
    · exact J.keep _ rfl (J.pickE [0] rfl rfl J.here)
    · intro rec4 s2 g3 h1
      unfold slices_partialInsertionSortOrdered_int8.b1 at h1
      refine J.seq ?_
      refine J.seq ?_
      refine J.region ?_
      refine J.op rfl rfl rfl (V.mv rfl rfl) ?_
      refine J.op rfl rfl rfl (V.cmp rfl rfl rfl rfl) ?_
      refine J.nil ?_
      refine J.tN ?_
      refine J.cond rfl (fun hB5 => ?_) (fun hB5 => ?_)
      · replace h1 := B.t hB5 h1
        refine J.skip ?_
        refine J.tN ?_
        refine J.seq ?_
        refine J.block ?_
        refine J.seq ?_
        obtain ⟨y17, hy19, h1⟩ := B.bind h1
        refine J.cut (γ := Unit) (fun _ => True) (fun gy18 => [(0, .slice (some ⟨b0_, 0, none⟩) n0_ n0_), (1, .int .i64 p1_a), (2, .int .i64 p2_b), (7, .int .i64 y17), (8, .int .i64 s2.2.1)]) (fun gy18 => [.blk b0_ (encA .i8 s2.2.2) T0_]) ?_ ?_
        · refine J.block ?_
          refine J.loop (γ := Unit) hy19 (fun s6 g7 => [(0, .slice (some ⟨b0_, 0, none⟩) n0_ n0_), (1, .int .i64 p1_a), (2, .int .i64 p2_b), (7, .int .i64 s6), (8, .int .i64 s2.2.1)]) (fun s6 g7 => [.blk b0_ (encA .i8 s2.2.2) T0_]) () ?_ ?_
          · exact J.keep _ rfl (J.pickE [0] rfl rfl J.here)
          · intro rec8 s6 g7 h2
            unfold slices_partialInsertionSortOrdered_int8.b2 at h2
            refine J.seq ?_
            refine J.seq ?_
            refine J.quiet mixed (by kernel_rfl) ?_
            refine JQ.op rfl rfl rfl (V.mv rfl rfl) ?_
            refine JQ.op rfl rfl rfl (V.mv rfl rfl) ?_
            refine JQ.op rfl rfl rfl (V.cmp rfl rfl rfl rfl) ?_
            refine JQ.op rfl rfl rfl (V.mv rfl rfl) ?_
            refine JQ.split 20 rfl (fun hB9 => ?_) (fun hB9 => ?_)
            · replace h2 := B.t hB9 h2
              refine JQ.opOn rfl rfl rfl rfl rfl (V.mv rfl rfl) ?_
              refine JQ.opOn rfl rfl rfl rfl rfl (V.mv rfl rfl) ?_
              obtain ⟨hC10, h2⟩ := B.chk h2
              refine JQ.opOn rfl rfl rfl rfl rfl (V.ixM rfl rfl rfl tl66 ts22 hC10) ?_
              refine JQ.opOn rfl rfl rfl rfl rfl (V.ldB 0 rfl rfl rfl Try.underlying22 ta22 (encA_get0 .i8 _ hC10)) ?_
              refine JQ.opOn rfl rfl rfl rfl rfl (V.mv rfl rfl) ?_
              refine JQ.opOn rfl rfl rfl rfl rfl (V.mv rfl rfl) ?_
              refine JQ.opOn rfl rfl rfl rfl rfl (V.ar rfl rfl rfl rfl) ?_
              obtain ⟨hC11, h2⟩ := B.chk h2
              refine JQ.opOn rfl rfl rfl rfl rfl (V.ixM rfl rfl rfl tl66 ts22 hC11) ?_
              refine JQ.opOn rfl rfl rfl rfl rfl (V.ldB 0 rfl rfl rfl Try.underlying22 ta22 (encA_get0 .i8 _ hC11)) ?_
              obtain ⟨r12, hr13, h2⟩ := B.bind h2
              obtain ⟨_, cf1, cf2, cf3⟩ := cf71
              refine JQ.cl (l := [.tmp 24, .tmp 29]) cf1 cf2 cf3 (wY rfl rfl rfl) rfl rfl rfl rfl rfl (fun w H => cmp_Less_int8.calls (rdA s2.2.2 s6) (rdA s2.2.2 (IntKind.wrap .i64 (s6 - 1))) r12 w (Own.refl w)  hr13) ?_
              refine JQ.opOn rfl rfl rfl rfl rfl (V.nt rfl rfl) ?_
              refine JQ.op rfl rfl rfl (V.pkT rfl rfl rfl) ?_
              refine JQ.nil ?_
              refine J.tN ?_
              refine J.cond rfl (fun hB15 => ?_) (fun hB15 => ?_)
              · replace h2 := B.t hB15 h2
                refine J.skip ?_
                refine J.tN ?_
                refine J.block ?_
                refine J.region ?_
                refine J.op rfl rfl rfl (V.mv rfl rfl) ?_
                refine J.op rfl rfl rfl (V.ar rfl rfl rfl rfl) ?_
                refine J.op rfl rfl rfl (V.as rfl rfl) ?_
                obtain ⟨i_16, ei_16, h2⟩ := B.lt h2
                refine J.val (congrArg (Value.int .i64) ei_16) ?_
                refine J.nil ?_
                refine J.bN ?_
                refine J.tN (J.next i_16 () (B.n h2) ?_)
                exact J.keep _ rfl (J.pickE [0] rfl rfl J.here)
              · replace h2 := B.f hB15 h2
                refine J.exit ?_
                refine J.tE ?_
                refine J.tE ?_
                refine J.bE ?_
                obtain rfl := B.d h2
                refine J.tN (J.to () trivial ?_)
                exact J.keep _ rfl (J.pickE [0] rfl rfl J.here)
            · replace h2 := B.f hB9 h2
              refine JQ.opOff rfl rfl rfl rfl rfl rfl ?_
              refine JQ.opOff rfl rfl rfl rfl rfl rfl ?_
              refine JQ.opOff rfl rfl rfl rfl rfl rfl ?_
              refine JQ.opOff rfl rfl rfl rfl rfl rfl ?_
              refine JQ.opOff rfl rfl rfl rfl rfl rfl ?_
              refine JQ.opOff rfl rfl rfl rfl rfl rfl ?_
              refine JQ.opOff rfl rfl rfl rfl rfl rfl ?_
              refine JQ.opOff rfl rfl rfl rfl rfl rfl ?_
              refine JQ.opOff rfl rfl rfl rfl rfl rfl ?_
              refine JQ.opOff rfl rfl rfl rfl rfl rfl ?_
              refine JQ.opOff rfl rfl rfl rfl rfl rfl ?_
              refine JQ.op rfl rfl rfl (V.pkF rfl rfl rfl) ?_
              refine JQ.nil ?_
              refine J.tN ?_
              refine J.condF rfl ?_
              refine J.exit ?_
              refine J.tE ?_
              refine J.tE ?_
              refine J.bE ?_
              obtain rfl := B.d h2
              refine J.tN (J.to () trivial ?_)
              exact J.keep _ rfl (J.pickE [0] rfl rfl J.here)
        · intro gy18 _
          refine J.seq ?_
          refine J.seq ?_
          refine J.region ?_
          refine J.op rfl rfl rfl (V.mv rfl rfl) ?_
          refine J.op rfl rfl rfl (V.mv rfl rfl) ?_
          refine J.op rfl rfl rfl (V.cmp rfl rfl rfl rfl) ?_
          refine J.nil ?_
          refine J.tN ?_
          refine J.cond rfl (fun hB20 => ?_) (fun hB20 => ?_)
          · replace h1 := B.t hB20 h1
            refine J.seq ?_
            refine J.region ?_
            refine J.op rfl rfl rfl (V.as rfl rfl) ?_
            refine J.nil ?_
            refine J.tN ?_
            refine J.ret ?_
            refine J.tR ?_
            refine J.bR ?_
            refine J.tR ?_
            refine J.tR ?_
            refine J.bR ?_
            refine J.tR ?_
            refine J.tR ?_
            obtain rfl := B.d h1
            replace h0 := B.inr h0
            obtain rfl := B.e h0
            exact J.ret1 rfl rfl fun w H => ⟨(), rfl, H.pick [0] (by decide)⟩
          · replace h1 := B.f hB20 h1
            refine J.skip ?_
            refine J.tN ?_
            refine J.seq ?_
            refine J.seq ?_
            refine J.region ?_
            refine J.op rfl rfl rfl (V.mv rfl rfl) ?_
            refine J.op rfl rfl rfl (V.mv rfl rfl) ?_
            refine J.op rfl rfl rfl (V.ar rfl rfl rfl rfl) ?_
            refine J.op rfl rfl rfl (V.cmp rfl rfl rfl rfl) ?_
            refine J.nil ?_
            refine J.tN ?_
            refine J.cond rfl (fun hB21 => ?_) (fun hB21 => ?_)
            · replace h1 := B.t hB21 h1
              refine J.seq ?_
              refine J.region ?_
              refine J.op rfl rfl rfl (V.as rfl rfl) ?_
              refine J.nil ?_
              refine J.tN ?_
              refine J.ret ?_
              refine J.tR ?_
              refine J.bR ?_
              refine J.tR ?_
              refine J.tR ?_
              refine J.bR ?_
              refine J.tR ?_
              refine J.tR ?_
              obtain rfl := B.d h1
              replace h0 := B.inr h0
              obtain rfl := B.e h0
              exact J.ret1 rfl rfl fun w H => ⟨(), rfl, H.pick [0] (by decide)⟩
            · replace h1 := B.f hB21 h1
              refine J.skip ?_
              refine J.tN ?_
              refine J.seq ?_
              refine J.lateW 15 [2, 3, 4, 10, 11, 12] mixed (by kernel_rfl) ?_
              refine JL.op rfl rfl rfl rfl (V.mv rfl rfl) ?_
              refine JL.op rfl rfl rfl rfl (V.mv rfl rfl) ?_
              refine JL.pure rfl rfl rfl (fun w1 => V.mv rfl rfl) ?_
              refine JL.pure rfl rfl rfl (fun w1 => V.mv rfl rfl) ?_
              refine JL.pure rfl rfl rfl (fun w1 => V.ar rfl rfl rfl rfl) ?_
              refine JL.op rfl rfl rfl rfl (V.mv rfl rfl) ?_
              refine JL.op rfl rfl rfl rfl (V.mv rfl rfl) ?_
              refine JL.op rfl rfl rfl rfl (V.ar rfl rfl rfl rfl) ?_
              obtain ⟨hC22, h1⟩ := B.chk h1
              refine JL.op rfl rfl rfl rfl (V.ixM rfl rfl rfl tl66 ts22 hC22) ?_
              refine JL.op rfl rfl rfl rfl (V.ldB 0 rfl rfl rfl Try.underlying22 ta22 (encA_get0 .i8 _ hC22)) ?_
              refine JL.pure rfl rfl rfl (fun w1 => V.mv rfl rfl) ?_
              refine JL.pure rfl rfl rfl (fun w1 => V.mv rfl rfl) ?_
              obtain ⟨hC23, h1⟩ := B.chk h1
              refine JL.pure rfl rfl rfl (fun w1 => V.ixM rfl rfl rfl tl66 ts22 hC23) ?_
              refine JL.op rfl rfl rfl rfl (V.ldB 0 rfl rfl rfl Try.underlying22 ta22 (encA_get0 .i8 _ hC23)) ?_
              obtain ⟨hC24, h1⟩ := B.chk h1
              refine JL.op rfl rfl rfl rfl (V.ixM rfl rfl rfl tl66 ts22 hC24) ?_
              refine JL.tail ?_
              refine J.stB 0 rfl rfl rfl rfl rfl rfl ts22 (fun _ _ => rfl) (encA_lt .i8 _ hC24) ?_
              refine J.setEnt 0 rfl (congrArg (fun q => Ent.blk _ q _) (encA_set .i8 _ _ _)) ?_
              obtain ⟨m25, em25, h1⟩ := B.lt h1
              refine J.setEnt 0 rfl (congrArg (fun q => Ent.blk _ (encA .i8 q) _) em25) ?_
              obtain ⟨hC26, h1⟩ := B.chk h1
              refine J.op rfl rfl rfl (V.ixM rfl rfl rfl tl66 ts22 hC26) ?_
              refine J.stB 0 rfl rfl rfl rfl rfl rfl ts22 (fun _ _ => rfl) (encA_lt .i8 _ hC26) ?_
              refine J.setEnt 0 rfl (congrArg (fun q => Ent.blk _ q _) (encA_set .i8 _ _ _)) ?_
              obtain ⟨m27, em27, h1⟩ := B.lt h1
              refine J.setEnt 0 rfl (congrArg (fun q => Ent.blk _ (encA .i8 q) _) em27) ?_
              refine J.nil ?_
              refine J.calm ?_
              refine J.tN ?_
              refine J.seq ?_
              obtain ⟨y28, hy52, h1⟩ := B.bind h1
              replace hy52 := B.top hy52
              refine J.cut (γ := Unit) (fun _ => True) (fun gy29 => [(0, .slice (some ⟨b0_, 0, none⟩) n0_ n0_), (1, .int .i64 p1_a), (2, .int .i64 p2_b), (7, .int .i64 y17), (8, .int .i64 s2.2.1)]) (fun gy29 => [.blk b0_ (encA .i8 y28) T0_]) ?_ ?_
              · have h2 := hy52
                refine J.seq ?_
                refine J.region ?_
                refine J.op rfl rfl rfl (V.mv rfl rfl) ?_
                refine J.op rfl rfl rfl (V.mv rfl rfl) ?_
                refine J.op rfl rfl rfl (V.ar rfl rfl rfl rfl) ?_
                refine J.op rfl rfl rfl (V.cmp rfl rfl rfl rfl) ?_
                refine J.nil ?_
                refine J.tN ?_
                refine J.cond rfl (fun hB30 => ?_) (fun hB30 => ?_)
                · replace h2 := B.t hB30 h2
                  refine J.seq ?_
                  refine J.region ?_
                  refine J.op rfl rfl rfl (V.mv rfl rfl) ?_
                  refine J.op rfl rfl rfl (V.ar rfl rfl rfl rfl) ?_
                  refine J.op rfl rfl rfl (V.as rfl rfl) ?_
                  obtain ⟨j_31, ej_31, h2⟩ := B.lt h2
                  refine J.val (congrArg (Value.int .i64) ej_31) ?_
                  refine J.nil ?_
                  refine J.tN ?_
                  obtain ⟨y49, hy51, h2⟩ := B.bind h2
                  refine J.cutQ (γ := Unit) (fun _ => True) (fun gy50 => [(0, .slice (some ⟨b0_, 0, none⟩) n0_ n0_), (1, .int .i64 p1_a), (2, .int .i64 p2_b), (7, .int .i64 y17), (8, .int .i64 s2.2.1)]) (fun gy50 => [.blk b0_ (encA .i8 y49) T0_]) ?_ ?_
                  · refine J.block ?_
                    refine J.loop (γ := Unit) hy51 (fun s32 g33 => [(0, .slice (some ⟨b0_, 0, none⟩) n0_ n0_), (1, .int .i64 p1_a), (2, .int .i64 p2_b), (7, .int .i64 y17), (8, .int .i64 s2.2.1), (9, .int .i64 s32.1)]) (fun s32 g33 => [.blk b0_ (encA .i8 s32.2) T0_]) () ?_ ?_
                    · exact J.keep _ rfl (J.pickE [0] rfl rfl J.here)
                    · intro rec34 s32 g33 h3
                      unfold slices_partialInsertionSortOrdered_int8.b3 at h3
                      refine J.seq ?_
                      refine J.seq ?_
                      refine J.region ?_
                      refine J.op rfl rfl rfl (V.mv rfl rfl) ?_
                      refine J.op rfl rfl rfl (V.cmp rfl rfl rfl rfl) ?_
                      refine J.nil ?_
                      refine J.tN ?_
                      refine J.cond rfl (fun hB35 => ?_) (fun hB35 => ?_)
                      · replace h3 := B.t hB35 h3
                        refine J.skip ?_
                        refine J.tN ?_
                        refine J.seq ?_
                        refine J.block ?_
                        refine J.seq ?_
                        refine J.seq ?_
                        refine J.quiet mixed (by kernel_rfl) ?_
                        refine JQ.op rfl rfl rfl (V.mv rfl rfl) ?_
                        refine JQ.op rfl rfl rfl (V.mv rfl rfl) ?_
                        obtain ⟨hC36, h3⟩ := B.chk h3
                        refine JQ.op rfl rfl rfl (V.ixM rfl rfl rfl tl66 ts22 hC36) ?_
                        refine JQ.op rfl rfl rfl (V.ldB 0 rfl rfl rfl Try.underlying22 ta22 (encA_get0 .i8 _ hC36)) ?_
                        refine JQ.op rfl rfl rfl (V.mv rfl rfl) ?_
                        refine JQ.op rfl rfl rfl (V.mv rfl rfl) ?_
                        refine JQ.op rfl rfl rfl (V.ar rfl rfl rfl rfl) ?_
                        obtain ⟨hC37, h3⟩ := B.chk h3
                        refine JQ.op rfl rfl rfl (V.ixM rfl rfl rfl tl66 ts22 hC37) ?_
                        refine JQ.op rfl rfl rfl (V.ldB 0 rfl rfl rfl Try.underlying22 ta22 (encA_get0 .i8 _ hC37)) ?_
                        obtain ⟨r38, hr39, h3⟩ := B.bind h3
                        obtain ⟨_, cf1, cf2, cf3⟩ := cf71
                        refine JQ.cl (l := [.tmp 71, .tmp 76]) cf1 cf2 cf3 (wN rfl) rfl rfl rfl rfl rfl (fun w H => cmp_Less_int8.calls (rdA s32.2 s32.1) (rdA s32.2 (IntKind.wrap .i64 (s32.1 - 1))) r38 w (Own.refl w)  hr39) ?_
                        refine JQ.op rfl rfl rfl (V.nt rfl rfl) ?_
                        refine JQ.nil ?_
                        refine J.tN ?_
                        refine J.cond rfl (fun hB41 => ?_) (fun hB41 => ?_)
                        · replace h3 := B.t hB41 h3
                          refine J.exit ?_
                          refine J.tE ?_
                          refine J.bF rfl ?_
                          refine J.tE ?_
                          refine J.tE ?_
                          refine J.bE ?_
                          obtain rfl := B.d h3
                          refine J.tN (J.to () trivial ?_)
                          exact J.keep _ rfl (J.pickE [0] rfl rfl J.here)
                        · replace h3 := B.f hB41 h3
                          refine J.skip ?_
                          refine J.tN ?_
                          refine J.lateW 15 [2, 3, 4, 10, 11, 12] mixed (by kernel_rfl) ?_
                          refine JL.op rfl rfl rfl rfl (V.mv rfl rfl) ?_
                          refine JL.op rfl rfl rfl rfl (V.mv rfl rfl) ?_
                          refine JL.pure rfl rfl rfl (fun w1 => V.mv rfl rfl) ?_
                          refine JL.pure rfl rfl rfl (fun w1 => V.mv rfl rfl) ?_
                          refine JL.pure rfl rfl rfl (fun w1 => V.ar rfl rfl rfl rfl) ?_
                          refine JL.op rfl rfl rfl rfl (V.mv rfl rfl) ?_
                          refine JL.op rfl rfl rfl rfl (V.mv rfl rfl) ?_
                          refine JL.op rfl rfl rfl rfl (V.ar rfl rfl rfl rfl) ?_
                          obtain ⟨hC42, h3⟩ := B.chk h3
                          refine JL.op rfl rfl rfl rfl (V.ixM rfl rfl rfl tl66 ts22 hC42) ?_
                          refine JL.op rfl rfl rfl rfl (V.ldB 0 rfl rfl rfl Try.underlying22 ta22 (encA_get0 .i8 _ hC42)) ?_
                          refine JL.pure rfl rfl rfl (fun w1 => V.mv rfl rfl) ?_
                          refine JL.pure rfl rfl rfl (fun w1 => V.mv rfl rfl) ?_
                          obtain ⟨hC43, h3⟩ := B.chk h3
                          refine JL.pure rfl rfl rfl (fun w1 => V.ixM rfl rfl rfl tl66 ts22 hC43) ?_
                          refine JL.op rfl rfl rfl rfl (V.ldB 0 rfl rfl rfl Try.underlying22 ta22 (encA_get0 .i8 _ hC43)) ?_
                          obtain ⟨hC44, h3⟩ := B.chk h3
                          refine JL.op rfl rfl rfl rfl (V.ixM rfl rfl rfl tl66 ts22 hC44) ?_
                          refine JL.tail ?_
                          refine J.stB 0 rfl rfl rfl rfl rfl rfl ts22 (fun _ _ => rfl) (encA_lt .i8 _ hC44) ?_
                          refine J.setEnt 0 rfl (congrArg (fun q => Ent.blk _ q _) (encA_set .i8 _ _ _)) ?_
                          obtain ⟨m45, em45, h3⟩ := B.lt h3
                          refine J.setEnt 0 rfl (congrArg (fun q => Ent.blk _ (encA .i8 q) _) em45) ?_
                          obtain ⟨hC46, h3⟩ := B.chk h3
                          refine J.op rfl rfl rfl (V.ixM rfl rfl rfl tl66 ts22 hC46) ?_
                          refine J.stB 0 rfl rfl rfl rfl rfl rfl ts22 (fun _ _ => rfl) (encA_lt .i8 _ hC46) ?_
                          refine J.setEnt 0 rfl (congrArg (fun q => Ent.blk _ q _) (encA_set .i8 _ _ _)) ?_
                          obtain ⟨m47, em47, h3⟩ := B.lt h3
                          refine J.setEnt 0 rfl (congrArg (fun q => Ent.blk _ (encA .i8 q) _) em47) ?_
                          refine J.nil ?_
                          refine J.calm ?_
                          refine J.bN ?_
                          refine J.tN ?_
                          refine J.region ?_
                          refine J.op rfl rfl rfl (V.mv rfl rfl) ?_
                          refine J.op rfl rfl rfl (V.ar rfl rfl rfl rfl) ?_
                          refine J.op rfl rfl rfl (V.as rfl rfl) ?_
                          obtain ⟨j_48, ej_48, h3⟩ := B.lt h3
                          refine J.val (congrArg (Value.int .i64) ej_48) ?_
                          refine J.nil ?_
                          refine J.tN (J.next (j_48, m47) () (B.n h3) ?_)
                          exact J.keep _ rfl (J.pickE [0] rfl rfl J.here)
                      · replace h3 := B.f hB35 h3
                        refine J.exit ?_
                        refine J.tE ?_
                        refine J.tE ?_
                        refine J.bE ?_
                        obtain rfl := B.d h3
                        refine J.tN (J.to () trivial ?_)
                        exact J.keep _ rfl (J.pickE [0] rfl rfl J.here)
                  · intro gy50 _
                    obtain rfl := B.e h2
                    refine J.tN (J.to () trivial ?_)
                    exact J.keep _ rfl (J.pickE [0] rfl rfl J.here)
                · replace h2 := B.f hB30 h2
                  refine J.skip ?_
                  obtain rfl := B.e h2
                  refine J.tN (J.to () trivial ?_)
                  exact J.keep _ rfl (J.pickE [0] rfl rfl J.here)
              · intro gy29 _
                refine J.seq ?_
                refine J.region ?_
                refine J.op rfl rfl rfl (V.mv rfl rfl) ?_
                refine J.op rfl rfl rfl (V.mv rfl rfl) ?_
                refine J.op rfl rfl rfl (V.ar rfl rfl rfl rfl) ?_
                refine J.op rfl rfl rfl (V.cmp rfl rfl rfl rfl) ?_
                refine J.nil ?_
                refine J.tN ?_
                refine J.cond rfl (fun hB53 => ?_) (fun hB53 => ?_)
                · replace h1 := B.t hB53 h1
                  refine J.seq ?_
                  refine J.region ?_
                  refine J.op rfl rfl rfl (V.mv rfl rfl) ?_
                  refine J.op rfl rfl rfl (V.ar rfl rfl rfl rfl) ?_
                  refine J.op rfl rfl rfl (V.as rfl rfl) ?_
                  obtain ⟨j_54, ej_54, h1⟩ := B.lt h1
                  refine J.val (congrArg (Value.int .i64) ej_54) ?_
                  refine J.nil ?_
                  refine J.tN ?_
                  obtain ⟨y72, hy74, h1⟩ := B.bind h1
                  refine J.cutQ (γ := Unit) (fun _ => True) (fun gy73 => [(0, .slice (some ⟨b0_, 0, none⟩) n0_ n0_), (1, .int .i64 p1_a), (2, .int .i64 p2_b), (7, .int .i64 y17), (8, .int .i64 s2.2.1)]) (fun gy73 => [.blk b0_ (encA .i8 y72) T0_]) ?_ ?_
                  · refine J.block ?_
                    refine J.loop (γ := Unit) hy74 (fun s55 g56 => [(0, .slice (some ⟨b0_, 0, none⟩) n0_ n0_), (1, .int .i64 p1_a), (2, .int .i64 p2_b), (7, .int .i64 y17), (8, .int .i64 s2.2.1), (10, .int .i64 s55.1)]) (fun s55 g56 => [.blk b0_ (encA .i8 s55.2) T0_]) () ?_ ?_
                    · exact J.keep _ rfl (J.pickE [0] rfl rfl J.here)
                    · intro rec57 s55 g56 h2
                      unfold slices_partialInsertionSortOrdered_int8.b4 at h2
                      refine J.seq ?_
                      refine J.seq ?_
                      refine J.region ?_
                      refine J.op rfl rfl rfl (V.mv rfl rfl) ?_
                      refine J.op rfl rfl rfl (V.mv rfl rfl) ?_
                      refine J.op rfl rfl rfl (V.cmp rfl rfl rfl rfl) ?_
                      refine J.nil ?_
                      refine J.tN ?_
                      refine J.cond rfl (fun hB58 => ?_) (fun hB58 => ?_)
                      · replace h2 := B.t hB58 h2
                        refine J.skip ?_
                        refine J.tN ?_
                        refine J.seq ?_
                        refine J.block ?_
                        refine J.seq ?_
                        refine J.seq ?_
                        refine J.quiet mixed (by kernel_rfl) ?_
                        refine JQ.op rfl rfl rfl (V.mv rfl rfl) ?_
                        refine JQ.op rfl rfl rfl (V.mv rfl rfl) ?_
                        obtain ⟨hC59, h2⟩ := B.chk h2
                        refine JQ.op rfl rfl rfl (V.ixM rfl rfl rfl tl66 ts22 hC59) ?_
                        refine JQ.op rfl rfl rfl (V.ldB 0 rfl rfl rfl Try.underlying22 ta22 (encA_get0 .i8 _ hC59)) ?_
                        refine JQ.op rfl rfl rfl (V.mv rfl rfl) ?_
                        refine JQ.op rfl rfl rfl (V.mv rfl rfl) ?_
                        refine JQ.op rfl rfl rfl (V.ar rfl rfl rfl rfl) ?_
                        obtain ⟨hC60, h2⟩ := B.chk h2
                        refine JQ.op rfl rfl rfl (V.ixM rfl rfl rfl tl66 ts22 hC60) ?_
                        refine JQ.op rfl rfl rfl (V.ldB 0 rfl rfl rfl Try.underlying22 ta22 (encA_get0 .i8 _ hC60)) ?_
                        obtain ⟨r61, hr62, h2⟩ := B.bind h2
                        obtain ⟨_, cf1, cf2, cf3⟩ := cf71
                        refine JQ.cl (l := [.tmp 109, .tmp 114]) cf1 cf2 cf3 (wN rfl) rfl rfl rfl rfl rfl (fun w H => cmp_Less_int8.calls (rdA s55.2 s55.1) (rdA s55.2 (IntKind.wrap .i64 (s55.1 - 1))) r61 w (Own.refl w)  hr62) ?_
                        refine JQ.op rfl rfl rfl (V.nt rfl rfl) ?_
                        refine JQ.nil ?_
                        refine J.tN ?_
                        refine J.cond rfl (fun hB64 => ?_) (fun hB64 => ?_)
                        · replace h2 := B.t hB64 h2
                          refine J.exit ?_
                          refine J.tE ?_
                          refine J.bF rfl ?_
                          refine J.tE ?_
                          refine J.tE ?_
                          refine J.bE ?_
                          obtain rfl := B.d h2
                          refine J.tN (J.to () trivial ?_)
                          exact J.keep _ rfl (J.pickE [0] rfl rfl J.here)
                        · replace h2 := B.f hB64 h2
                          refine J.skip ?_
                          refine J.tN ?_
                          refine J.lateW 15 [2, 3, 4, 10, 11, 12] mixed (by kernel_rfl) ?_
                          refine JL.op rfl rfl rfl rfl (V.mv rfl rfl) ?_
                          refine JL.op rfl rfl rfl rfl (V.mv rfl rfl) ?_
                          refine JL.pure rfl rfl rfl (fun w1 => V.mv rfl rfl) ?_
                          refine JL.pure rfl rfl rfl (fun w1 => V.mv rfl rfl) ?_
                          refine JL.pure rfl rfl rfl (fun w1 => V.ar rfl rfl rfl rfl) ?_
                          refine JL.op rfl rfl rfl rfl (V.mv rfl rfl) ?_
                          refine JL.op rfl rfl rfl rfl (V.mv rfl rfl) ?_
                          refine JL.op rfl rfl rfl rfl (V.ar rfl rfl rfl rfl) ?_
                          obtain ⟨hC65, h2⟩ := B.chk h2
                          refine JL.op rfl rfl rfl rfl (V.ixM rfl rfl rfl tl66 ts22 hC65) ?_
                          refine JL.op rfl rfl rfl rfl (V.ldB 0 rfl rfl rfl Try.underlying22 ta22 (encA_get0 .i8 _ hC65)) ?_
                          refine JL.pure rfl rfl rfl (fun w1 => V.mv rfl rfl) ?_
                          refine JL.pure rfl rfl rfl (fun w1 => V.mv rfl rfl) ?_
                          obtain ⟨hC66, h2⟩ := B.chk h2
                          refine JL.pure rfl rfl rfl (fun w1 => V.ixM rfl rfl rfl tl66 ts22 hC66) ?_
                          refine JL.op rfl rfl rfl rfl (V.ldB 0 rfl rfl rfl Try.underlying22 ta22 (encA_get0 .i8 _ hC66)) ?_
                          obtain ⟨hC67, h2⟩ := B.chk h2
                          refine JL.op rfl rfl rfl rfl (V.ixM rfl rfl rfl tl66 ts22 hC67) ?_
                          refine JL.tail ?_
                          refine J.stB 0 rfl rfl rfl rfl rfl rfl ts22 (fun _ _ => rfl) (encA_lt .i8 _ hC67) ?_
                          refine J.setEnt 0 rfl (congrArg (fun q => Ent.blk _ q _) (encA_set .i8 _ _ _)) ?_
                          obtain ⟨m68, em68, h2⟩ := B.lt h2
                          refine J.setEnt 0 rfl (congrArg (fun q => Ent.blk _ (encA .i8 q) _) em68) ?_
                          obtain ⟨hC69, h2⟩ := B.chk h2
                          refine J.op rfl rfl rfl (V.ixM rfl rfl rfl tl66 ts22 hC69) ?_
                          refine J.stB 0 rfl rfl rfl rfl rfl rfl ts22 (fun _ _ => rfl) (encA_lt .i8 _ hC69) ?_
                          refine J.setEnt 0 rfl (congrArg (fun q => Ent.blk _ q _) (encA_set .i8 _ _ _)) ?_
                          obtain ⟨m70, em70, h2⟩ := B.lt h2
                          refine J.setEnt 0 rfl (congrArg (fun q => Ent.blk _ (encA .i8 q) _) em70) ?_
                          refine J.nil ?_
                          refine J.calm ?_
                          refine J.bN ?_
                          refine J.tN ?_
                          refine J.region ?_
                          refine J.op rfl rfl rfl (V.mv rfl rfl) ?_
                          refine J.op rfl rfl rfl (V.ar rfl rfl rfl rfl) ?_
                          refine J.op rfl rfl rfl (V.as rfl rfl) ?_
                          obtain ⟨j_71, ej_71, h2⟩ := B.lt h2
                          refine J.val (congrArg (Value.int .i64) ej_71) ?_
                          refine J.nil ?_
                          refine J.tN (J.next (j_71, m70) () (B.n h2) ?_)
                          exact J.keep _ rfl (J.pickE [0] rfl rfl J.here)
                      · replace h2 := B.f hB58 h2
                        refine J.exit ?_
                        refine J.tE ?_
                        refine J.tE ?_
                        refine J.bE ?_
                        obtain rfl := B.d h2
                        refine J.tN (J.to () trivial ?_)
                        exact J.keep _ rfl (J.pickE [0] rfl rfl J.here)
                  · intro gy73 _
                    refine J.bN ?_
                    refine J.tN ?_
                    refine J.region ?_
                    refine J.op rfl rfl rfl (V.mv rfl rfl) ?_
                    refine J.op rfl rfl rfl (V.ar rfl rfl rfl rfl) ?_
                    refine J.op rfl rfl rfl (V.as rfl rfl) ?_
                    obtain ⟨j_75, ej_75, h1⟩ := B.lt h1
                    refine J.val (congrArg (Value.int .i64) ej_75) ?_
                    refine J.nil ?_
                    refine J.tN (J.next (y17, j_75, y72) () (B.n h1) ?_)
                    exact J.keep _ rfl (J.pickE [0] rfl rfl J.here)
                · replace h1 := B.f hB53 h1
                  refine J.skip ?_
                  refine J.bN ?_
                  refine J.tN ?_
                  refine J.region ?_
                  refine J.op rfl rfl rfl (V.mv rfl rfl) ?_
                  refine J.op rfl rfl rfl (V.ar rfl rfl rfl rfl) ?_
                  refine J.op rfl rfl rfl (V.as rfl rfl) ?_
                  obtain ⟨j_76, ej_76, h1⟩ := B.lt h1
                  refine J.val (congrArg (Value.int .i64) ej_76) ?_
                  refine J.nil ?_
                  refine J.tN (J.next (y17, j_76, y28) () (B.n h1) ?_)
                  exact J.keep _ rfl (J.pickE [0] rfl rfl J.here)
      · replace h1 := B.f hB5 h1
        refine J.exit ?_
        refine J.tE ?_
        refine J.tE ?_
        refine J.bE ?_
        obtain rfl := B.d h1
        refine J.tN (J.to (s2.2.2, ()) rfl ?_)
        exact J.keep _ rfl (J.pickE [0] rfl rfl J.here)
  · intro gy78 hG
    replace h0 := B.inl hG h0
    refine J.tN ?_
    refine J.seq ?_
    refine J.region ?_
    refine J.op rfl rfl rfl (V.as rfl rfl) ?_
    refine J.nil ?_
    refine J.tN ?_
    refine J.ret ?_
    obtain rfl := B.e h0
    exact J.ret1 rfl rfl fun w H => ⟨(), rfl, H.pick [0] (by decide)⟩

/-! ### slices.partitionEqualOrdered[int8]: function 72 -/
noncomputable def slices_partitionEqualOrdered_int8.b2 (n0_ : Nat) (p1_a : Int) (s9 : Int × Int × (Vector Int n0_)) : Int → Option (Step (Int) (Int)) := fun s12 => bif (decide (s12 ≤ s9.2.1)) then (bif (inB p1_a n0_) then (bif (inB s12 n0_) then ((cmp_Less_int8.f (rdA s9.2.2 p1_a) (rdA s9.2.2 s12)).bind fun r18 => bif (!r18) then ((some (IntKind.wrap .i64 (s12 + 1))).bind fun i_22 => some (.next i_22)) else (some (.done s12))) else none) else none) else (some (.done s12))
noncomputable def slices_partitionEqualOrdered_int8.b3 (n0_ : Nat) (p1_a : Int) (s9 : Int × Int × (Vector Int n0_)) (y23 : Int) : Int → Option (Step (Int) (Int)) := fun s26 => bif (decide (y23 ≤ s26)) then (bif (inB p1_a n0_) then (bif (inB s26 n0_) then ((cmp_Less_int8.f (rdA s9.2.2 p1_a) (rdA s9.2.2 s26)).bind fun r32 => bif r32 then ((some (IntKind.wrap .i64 (s26 - 1))).bind fun j_36 => some (.next j_36)) else (some (.done s26))) else none) else none) else (some (.done s26))
noncomputable def slices_partitionEqualOrdered_int8.b1 (n0_ : Nat) (p1_a : Int) : (Int × Int × (Vector Int n0_)) → Option (Step (Int × Int × (Vector Int n0_)) (Int × (Vector Int n0_))) := fun s9 => (loopW (slices_partitionEqualOrdered_int8.b2 n0_ p1_a s9) s9.1).bind fun y23 => (loopW (slices_partitionEqualOrdered_int8.b3 n0_ p1_a s9 y23) s9.2.1).bind fun y37 => bif (decide (y37 < y23)) then (some (.done (y23, s9.2.2))) else (bif (inB y37 n0_) then (bif (inB y23 n0_) then (bif (inB y23 n0_) then ((some (wrA s9.2.2 y23 (rdA s9.2.2 y37))).bind fun m44 => bif (inB y37 n0_) then ((some (wrA m44 y37 (rdA s9.2.2 y23))).bind fun m46 => (some (IntKind.wrap .i64 (y23 + 1))).bind fun i_47 => (some (IntKind.wrap .i64 (y37 - 1))).bind fun j_48 => some (.next (i_47, j_48, m46))) else none) else none) else none) else none)
noncomputable def slices_partitionEqualOrdered_int8.f (n0_ : Nat) (p0_data : Vector Int n0_) (p1_a : Int) (p2_b : Int) (p3_pivot : Int) : Option (Int × (Vector Int n0_)) := bif (inB p3_pivot n0_) then (bif (inB p1_a n0_) then (bif (inB p1_a n0_) then ((some (wrA p0_data p1_a (rdA p0_data p3_pivot))).bind fun m4 => bif (inB p3_pivot n0_) then ((some (wrA m4 p3_pivot (rdA p0_data p1_a))).bind fun m6 => (some (IntKind.wrap .i64 (p1_a + 1))).bind fun i_7 => (some (IntKind.wrap .i64 (p2_b - 1))).bind fun j_8 => (loopW (slices_partitionEqualOrdered_int8.b1 n0_ p1_a) (i_7, j_8, m6)).bind fun y49 => some (y49.1, y49.2)) else none) else none) else none) else none
set_option maxRecDepth 100000 in
theorem slices_partitionEqualOrdered_int8.calls (b0_ n0_ T0_ : Nat) (p0_data : Vector Int n0_) (p1_a : Int) (p2_b : Int) (p3_pivot : Int) (r : Int × (Vector Int n0_)) (w : World) (H0 : Own [b0_] w w [.blk b0_ (encA .i8 p0_data) T0_]) (h0 : slices_partitionEqualOrdered_int8.f n0_ p0_data p1_a p2_b p3_pivot = some r) :
    Calls Try.prog 72 #[.slice (some ⟨b0_, 0, none⟩) n0_ n0_, .int .i64 p1_a, .int .i64 p2_b, .int .i64 p3_pivot] w (fun e w' => ∃ _ : Unit, e = .returned (.int .i64 r.1) ∧ Own [b0_] w w' [.blk b0_ (encA .i8 r.2) T0_]) := by
  unfold slices_partitionEqualOrdered_int8.f at h0
  replace h0 := B.top h0
  refine calls_of_J (args := [.slice (some ⟨b0_, 0, none⟩) n0_ n0_, .int .i64 p1_a, .int .i64 p2_b, .int .i64 p3_pivot]) Try.func72 rfl Try.ntmps72 rfl [(0, .slice (some ⟨b0_, 0, none⟩) n0_ n0_), (1, .int .i64 p1_a), (2, .int .i64 p2_b), (3, .int .i64 p3_pivot)] rfl H0 ?_
  refine J.seq ?_
  refine J.region ?_
  refine J.op rfl rfl rfl (V.as rfl rfl) ?_
  refine J.nil ?_
  refine J.tN ?_
  refine J.seq ?_
  refine J.lateW 13 [2, 3, 8, 9, 10] mixed (by kernel_rfl) ?_
  refine JL.op rfl rfl rfl rfl (V.mv rfl rfl) ?_
  refine JL.op rfl rfl rfl rfl (V.mv rfl rfl) ?_
  refine JL.pure rfl rfl rfl (fun w1 => V.mv rfl rfl) ?_
  refine JL.pure rfl rfl rfl (fun w1 => V.mv rfl rfl) ?_
  refine JL.op rfl rfl rfl rfl (V.mv rfl rfl) ?_
  refine JL.op rfl rfl rfl rfl (V.mv rfl rfl) ?_
  obtain ⟨hC1, h0⟩ := B.chk h0
  refine JL.op rfl rfl rfl rfl (V.ixM rfl rfl rfl tl66 ts22 hC1) ?_
  refine JL.op rfl rfl rfl rfl (V.ldB 0 rfl rfl rfl Try.underlying22 ta22 (encA_get0 .i8 _ hC1)) ?_
  refine JL.pure rfl rfl rfl (fun w1 => V.mv rfl rfl) ?_
  refine JL.pure rfl rfl rfl (fun w1 => V.mv rfl rfl) ?_
  obtain ⟨hC2, h0⟩ := B.chk h0
  refine JL.pure rfl rfl rfl (fun w1 => V.ixM rfl rfl rfl tl66 ts22 hC2) ?_
  refine JL.op rfl rfl rfl rfl (V.ldB 0 rfl rfl rfl Try.underlying22 ta22 (encA_get0 .i8 _ hC2)) ?_
  obtain ⟨hC3, h0⟩ := B.chk h0
  refine JL.op rfl rfl rfl rfl (V.ixM rfl rfl rfl tl66 ts22 hC3) ?_
  refine JL.tail ?_
  refine J.stB 0 rfl rfl rfl rfl rfl rfl ts22 (fun _ _ => rfl) (encA_lt .i8 _ hC3) ?_
  refine J.setEnt 0 rfl (congrArg (fun q => Ent.blk _ q _) (encA_set .i8 _ _ _)) ?_
  obtain ⟨m4, em4, h0⟩ := B.lt h0
  refine J.setEnt 0 rfl (congrArg (fun q => Ent.blk _ (encA .i8 q) _) em4) ?_
  obtain ⟨hC5, h0⟩ := B.chk h0
  refine J.op rfl rfl rfl (V.ixM rfl rfl rfl tl66 ts22 hC5) ?_
  refine J.stB 0 rfl rfl rfl rfl rfl rfl ts22 (fun _ _ => rfl) (encA_lt .i8 _ hC5) ?_
  refine J.setEnt 0 rfl (congrArg (fun q => Ent.blk _ q _) (encA_set .i8 _ _ _)) ?_
  obtain ⟨m6, em6, h0⟩ := B.lt h0
  refine J.setEnt 0 rfl (congrArg (fun q => Ent.blk _ (encA .i8 q) _) em6) ?_
  refine J.nil ?_
  refine J.calm ?_
  refine J.tN ?_
  refine J.seq ?_
  refine J.region ?_
  refine J.op rfl rfl rfl (V.mv rfl rfl) ?_
  refine J.op rfl rfl rfl (V.ar rfl rfl rfl rfl) ?_
  refine J.op rfl rfl rfl (V.mv rfl rfl) ?_
  refine J.op rfl rfl rfl (V.ar rfl rfl rfl rfl) ?_
  refine J.op rfl rfl rfl (V.as rfl rfl) ?_
  obtain ⟨i_7, ei_7, h0⟩ := B.lt h0
  refine J.val (congrArg (Value.int .i64) ei_7) ?_
  refine J.op rfl rfl rfl (V.as rfl rfl) ?_
  obtain ⟨j_8, ej_8, h0⟩ := B.lt h0
  refine J.val (congrArg (Value.int .i64) ej_8) ?_
  refine J.nil ?_
  refine J.tN ?_
  refine J.seq ?_
  obtain ⟨y49, hy51, h0⟩ := B.bind h0
  refine J.cut (γ := Unit) (fun _ => True) (fun gy50 => [(9, .int .i64 y49.1)]) (fun gy50 => [.blk b0_ (encA .i8 y49.2) T0_]) ?_ ?_
  · refine J.block ?_
    refine J.loop (γ := Unit) hy51 (fun s9 g10 => [(0, .slice (some ⟨b0_, 0, none⟩) n0_ n0_), (1, .int .i64 p1_a), (9, .int .i64 s9.1), (10, .int .i64 s9.2.1)]) (fun s9 g10 => [.blk b0_ (encA .i8 s9.2.2) T0_]) () ?_ ?_
    · exact J.keep _ rfl (J.pickE [0] rfl rfl J.here)
    · intro rec11 s9 g10 h1
      unfold slices_partitionEqualOrdered_int8.b1 at h1
      refine J.block ?_
      refine J.seq ?_
      obtain ⟨y23, hy25, h1⟩ := B.bind h1
      refine J.cut (γ := Unit) (fun _ => True) (fun gy24 => [(0, .slice (some ⟨b0_, 0, none⟩) n0_ n0_), (1, .int .i64 p1_a), (9, .int .i64 y23), (10, .int .i64 s9.2.1)]) (fun gy24 => [.blk b0_ (encA .i8 s9.2.2) T0_]) ?_ ?_
      · refine J.block ?_
        refine J.loop (γ := Unit) hy25 (fun s12 g13 => [(0, .slice (some ⟨b0_, 0, none⟩) n0_ n0_), (1, .int .i64 p1_a), (9, .int .i64 s12), (10, .int .i64 s9.2.1)]) (fun s12 g13 => [.blk b0_ (encA .i8 s9.2.2) T0_]) () ?_ ?_
        · exact J.keep _ rfl (J.pickE [0] rfl rfl J.here)
        · intro rec14 s12 g13 h2
          unfold slices_partitionEqualOrdered_int8.b2 at h2
          refine J.seq ?_
          refine J.seq ?_
          refine J.quiet mixed (by kernel_rfl) ?_
          refine JQ.op rfl rfl rfl (V.mv rfl rfl) ?_
          refine JQ.op rfl rfl rfl (V.mv rfl rfl) ?_
          refine JQ.op rfl rfl rfl (V.cmp rfl rfl rfl rfl) ?_
          refine JQ.op rfl rfl rfl (V.mv rfl rfl) ?_
          refine JQ.split 32 rfl (fun hB15 => ?_) (fun hB15 => ?_)
          · replace h2 := B.t hB15 h2
            refine JQ.opOn rfl rfl rfl rfl rfl (V.mv rfl rfl) ?_
            refine JQ.opOn rfl rfl rfl rfl rfl (V.mv rfl rfl) ?_
            obtain ⟨hC16, h2⟩ := B.chk h2
            refine JQ.opOn rfl rfl rfl rfl rfl (V.ixM rfl rfl rfl tl66 ts22 hC16) ?_
            refine JQ.opOn rfl rfl rfl rfl rfl (V.ldB 0 rfl rfl rfl Try.underlying22 ta22 (encA_get0 .i8 _ hC16)) ?_
            refine JQ.opOn rfl rfl rfl rfl rfl (V.mv rfl rfl) ?_
            refine JQ.opOn rfl rfl rfl rfl rfl (V.mv rfl rfl) ?_
            obtain ⟨hC17, h2⟩ := B.chk h2
            refine JQ.opOn rfl rfl rfl rfl rfl (V.ixM rfl rfl rfl tl66 ts22 hC17) ?_
            refine JQ.opOn rfl rfl rfl rfl rfl (V.ldB 0 rfl rfl rfl Try.underlying22 ta22 (encA_get0 .i8 _ hC17)) ?_
            obtain ⟨r18, hr19, h2⟩ := B.bind h2
            obtain ⟨_, cf1, cf2, cf3⟩ := cf71
            refine JQ.cl (l := [.tmp 36, .tmp 40]) cf1 cf2 cf3 (wY rfl rfl rfl) rfl rfl rfl rfl rfl (fun w H => cmp_Less_int8.calls (rdA s9.2.2 p1_a) (rdA s9.2.2 s12) r18 w (Own.refl w)  hr19) ?_
            refine JQ.opOn rfl rfl rfl rfl rfl (V.nt rfl rfl) ?_
            refine JQ.op rfl rfl rfl (V.pkT rfl rfl rfl) ?_
            refine JQ.nil ?_
            refine J.tN ?_
            refine J.cond rfl (fun hB21 => ?_) (fun hB21 => ?_)
            · replace h2 := B.t hB21 h2
              refine J.skip ?_
              refine J.tN ?_
              refine J.block ?_
              refine J.region ?_
              refine J.op rfl rfl rfl (V.mv rfl rfl) ?_
              refine J.op rfl rfl rfl (V.ar rfl rfl rfl rfl) ?_
              refine J.op rfl rfl rfl (V.as rfl rfl) ?_
              obtain ⟨i_22, ei_22, h2⟩ := B.lt h2
              refine J.val (congrArg (Value.int .i64) ei_22) ?_
              refine J.nil ?_
              refine J.bN ?_
              refine J.tN (J.next i_22 () (B.n h2) ?_)
              exact J.keep _ rfl (J.pickE [0] rfl rfl J.here)
            · replace h2 := B.f hB21 h2
              refine J.exit ?_
              refine J.tE ?_
              refine J.tE ?_
              refine J.bE ?_
              obtain rfl := B.d h2
              refine J.tN (J.to () trivial ?_)
              exact J.keep _ rfl (J.pickE [0] rfl rfl J.here)
          · replace h2 := B.f hB15 h2
            refine JQ.opOff rfl rfl rfl rfl rfl rfl ?_
            refine JQ.opOff rfl rfl rfl rfl rfl rfl ?_
            refine JQ.opOff rfl rfl rfl rfl rfl rfl ?_
            refine JQ.opOff rfl rfl rfl rfl rfl rfl ?_
            refine JQ.opOff rfl rfl rfl rfl rfl rfl ?_
            refine JQ.opOff rfl rfl rfl rfl rfl rfl ?_
            refine JQ.opOff rfl rfl rfl rfl rfl rfl ?_
            refine JQ.opOff rfl rfl rfl rfl rfl rfl ?_
            refine JQ.opOff rfl rfl rfl rfl rfl rfl ?_
            refine JQ.opOff rfl rfl rfl rfl rfl rfl ?_
            refine JQ.op rfl rfl rfl (V.pkF rfl rfl rfl) ?_
            refine JQ.nil ?_
            refine J.tN ?_
            refine J.condF rfl ?_
            refine J.exit ?_
            refine J.tE ?_
            refine J.tE ?_
            refine J.bE ?_
            obtain rfl := B.d h2
            refine J.tN (J.to () trivial ?_)
            exact J.keep _ rfl (J.pickE [0] rfl rfl J.here)
      · intro gy24 _
        refine J.seq ?_
        obtain ⟨y37, hy39, h1⟩ := B.bind h1
        refine J.cut (γ := Unit) (fun _ => True) (fun gy38 => [(0, .slice (some ⟨b0_, 0, none⟩) n0_ n0_), (1, .int .i64 p1_a), (9, .int .i64 y23), (10, .int .i64 y37)]) (fun gy38 => [.blk b0_ (encA .i8 s9.2.2) T0_]) ?_ ?_
        · refine J.block ?_
          refine J.loop (γ := Unit) hy39 (fun s26 g27 => [(0, .slice (some ⟨b0_, 0, none⟩) n0_ n0_), (1, .int .i64 p1_a), (9, .int .i64 y23), (10, .int .i64 s26)]) (fun s26 g27 => [.blk b0_ (encA .i8 s9.2.2) T0_]) () ?_ ?_
          · exact J.keep _ rfl (J.pickE [0] rfl rfl J.here)
          · intro rec28 s26 g27 h2
            unfold slices_partitionEqualOrdered_int8.b3 at h2
            refine J.seq ?_
            refine J.seq ?_
            refine J.quiet mixed (by kernel_rfl) ?_
            refine JQ.op rfl rfl rfl (V.mv rfl rfl) ?_
            refine JQ.op rfl rfl rfl (V.mv rfl rfl) ?_
            refine JQ.op rfl rfl rfl (V.cmp rfl rfl rfl rfl) ?_
            refine JQ.op rfl rfl rfl (V.mv rfl rfl) ?_
            refine JQ.split 49 rfl (fun hB29 => ?_) (fun hB29 => ?_)
            · replace h2 := B.t hB29 h2
              refine JQ.opOn rfl rfl rfl rfl rfl (V.mv rfl rfl) ?_
              refine JQ.opOn rfl rfl rfl rfl rfl (V.mv rfl rfl) ?_
              obtain ⟨hC30, h2⟩ := B.chk h2
              refine JQ.opOn rfl rfl rfl rfl rfl (V.ixM rfl rfl rfl tl66 ts22 hC30) ?_
              refine JQ.opOn rfl rfl rfl rfl rfl (V.ldB 0 rfl rfl rfl Try.underlying22 ta22 (encA_get0 .i8 _ hC30)) ?_
              refine JQ.opOn rfl rfl rfl rfl rfl (V.mv rfl rfl) ?_
              refine JQ.opOn rfl rfl rfl rfl rfl (V.mv rfl rfl) ?_
              obtain ⟨hC31, h2⟩ := B.chk h2
              refine JQ.opOn rfl rfl rfl rfl rfl (V.ixM rfl rfl rfl tl66 ts22 hC31) ?_
              refine JQ.opOn rfl rfl rfl rfl rfl (V.ldB 0 rfl rfl rfl Try.underlying22 ta22 (encA_get0 .i8 _ hC31)) ?_
              obtain ⟨r32, hr33, h2⟩ := B.bind h2
              obtain ⟨_, cf1, cf2, cf3⟩ := cf71
              refine JQ.cl (l := [.tmp 53, .tmp 57]) cf1 cf2 cf3 (wY rfl rfl rfl) rfl rfl rfl rfl rfl (fun w H => cmp_Less_int8.calls (rdA s9.2.2 p1_a) (rdA s9.2.2 s26) r32 w (Own.refl w)  hr33) ?_
              refine JQ.op rfl rfl rfl (V.pkT rfl rfl rfl) ?_
              refine JQ.nil ?_
              refine J.tN ?_
              refine J.cond rfl (fun hB35 => ?_) (fun hB35 => ?_)
              · replace h2 := B.t hB35 h2
                refine J.skip ?_
                refine J.tN ?_
                refine J.block ?_
                refine J.region ?_
                refine J.op rfl rfl rfl (V.mv rfl rfl) ?_
                refine J.op rfl rfl rfl (V.ar rfl rfl rfl rfl) ?_
                refine J.op rfl rfl rfl (V.as rfl rfl) ?_
                obtain ⟨j_36, ej_36, h2⟩ := B.lt h2
                refine J.val (congrArg (Value.int .i64) ej_36) ?_
                refine J.nil ?_
                refine J.bN ?_
                refine J.tN (J.next j_36 () (B.n h2) ?_)
                exact J.keep _ rfl (J.pickE [0] rfl rfl J.here)
              · replace h2 := B.f hB35 h2
                refine J.exit ?_
                refine J.tE ?_
                refine J.tE ?_
                refine J.bE ?_
                obtain rfl := B.d h2
                refine J.tN (J.to () trivial ?_)
                exact J.keep _ rfl (J.pickE [0] rfl rfl J.here)
            · replace h2 := B.f hB29 h2
              refine JQ.opOff rfl rfl rfl rfl rfl rfl ?_
              refine JQ.opOff rfl rfl rfl rfl rfl rfl ?_
              refine JQ.opOff rfl rfl rfl rfl rfl rfl ?_
              refine JQ.opOff rfl rfl rfl rfl rfl rfl ?_
              refine JQ.opOff rfl rfl rfl rfl rfl rfl ?_
              refine JQ.opOff rfl rfl rfl rfl rfl rfl ?_
              refine JQ.opOff rfl rfl rfl rfl rfl rfl ?_
              refine JQ.opOff rfl rfl rfl rfl rfl rfl ?_
              refine JQ.opOff rfl rfl rfl rfl rfl rfl ?_
              refine JQ.op rfl rfl rfl (V.pkF rfl rfl rfl) ?_
              refine JQ.nil ?_
              refine J.tN ?_
              refine J.condF rfl ?_
              refine J.exit ?_
              refine J.tE ?_
              refine J.tE ?_
              refine J.bE ?_
              obtain rfl := B.d h2
              refine J.tN (J.to () trivial ?_)
              exact J.keep _ rfl (J.pickE [0] rfl rfl J.here)
        · intro gy38 _
          refine J.seq ?_
          refine J.seq ?_
          refine J.region ?_
          refine J.op rfl rfl rfl (V.mv rfl rfl) ?_
          refine J.op rfl rfl rfl (V.mv rfl rfl) ?_
          refine J.op rfl rfl rfl (V.cmp rfl rfl rfl rfl) ?_
          refine J.nil ?_
          refine J.tN ?_
          refine J.cond rfl (fun hB40 => ?_) (fun hB40 => ?_)
          · replace h1 := B.t hB40 h1
            refine J.exit ?_
            refine J.tE ?_
            refine J.bF rfl ?_
            refine J.tE ?_
            refine J.bE ?_
            obtain rfl := B.d h1
            refine J.tN (J.to () trivial ?_)
            exact J.keep _ rfl (J.pickE [0] rfl rfl J.here)
          · replace h1 := B.f hB40 h1
            refine J.skip ?_
            refine J.tN ?_
            refine J.seq ?_
            refine J.lateW 13 [2, 3, 8, 9, 10] mixed (by kernel_rfl) ?_
            refine JL.op rfl rfl rfl rfl (V.mv rfl rfl) ?_
            refine JL.op rfl rfl rfl rfl (V.mv rfl rfl) ?_
            refine JL.pure rfl rfl rfl (fun w1 => V.mv rfl rfl) ?_
            refine JL.pure rfl rfl rfl (fun w1 => V.mv rfl rfl) ?_
            refine JL.op rfl rfl rfl rfl (V.mv rfl rfl) ?_
            refine JL.op rfl rfl rfl rfl (V.mv rfl rfl) ?_
            obtain ⟨hC41, h1⟩ := B.chk h1
            refine JL.op rfl rfl rfl rfl (V.ixM rfl rfl rfl tl66 ts22 hC41) ?_
            refine JL.op rfl rfl rfl rfl (V.ldB 0 rfl rfl rfl Try.underlying22 ta22 (encA_get0 .i8 _ hC41)) ?_
            refine JL.pure rfl rfl rfl (fun w1 => V.mv rfl rfl) ?_
            refine JL.pure rfl rfl rfl (fun w1 => V.mv rfl rfl) ?_
            obtain ⟨hC42, h1⟩ := B.chk h1
            refine JL.pure rfl rfl rfl (fun w1 => V.ixM rfl rfl rfl tl66 ts22 hC42) ?_
            refine JL.op rfl rfl rfl rfl (V.ldB 0 rfl rfl rfl Try.underlying22 ta22 (encA_get0 .i8 _ hC42)) ?_
            obtain ⟨hC43, h1⟩ := B.chk h1
            refine JL.op rfl rfl rfl rfl (V.ixM rfl rfl rfl tl66 ts22 hC43) ?_
            refine JL.tail ?_
            refine J.stB 0 rfl rfl rfl rfl rfl rfl ts22 (fun _ _ => rfl) (encA_lt .i8 _ hC43) ?_
            refine J.setEnt 0 rfl (congrArg (fun q => Ent.blk _ q _) (encA_set .i8 _ _ _)) ?_
            obtain ⟨m44, em44, h1⟩ := B.lt h1
            refine J.setEnt 0 rfl (congrArg (fun q => Ent.blk _ (encA .i8 q) _) em44) ?_
            obtain ⟨hC45, h1⟩ := B.chk h1
            refine J.op rfl rfl rfl (V.ixM rfl rfl rfl tl66 ts22 hC45) ?_
            refine J.stB 0 rfl rfl rfl rfl rfl rfl ts22 (fun _ _ => rfl) (encA_lt .i8 _ hC45) ?_
            refine J.setEnt 0 rfl (congrArg (fun q => Ent.blk _ q _) (encA_set .i8 _ _ _)) ?_
            obtain ⟨m46, em46, h1⟩ := B.lt h1
            refine J.setEnt 0 rfl (congrArg (fun q => Ent.blk _ (encA .i8 q) _) em46) ?_
            refine J.nil ?_
            refine J.calm ?_
            refine J.tN ?_
            refine J.seq ?_
            refine J.region ?_
            refine J.op rfl rfl rfl (V.mv rfl rfl) ?_
            refine J.op rfl rfl rfl (V.ar rfl rfl rfl rfl) ?_
            refine J.op rfl rfl rfl (V.as rfl rfl) ?_
            obtain ⟨i_47, ei_47, h1⟩ := B.lt h1
            refine J.val (congrArg (Value.int .i64) ei_47) ?_
            refine J.nil ?_
            refine J.tN ?_
            refine J.region ?_
            refine J.op rfl rfl rfl (V.mv rfl rfl) ?_
            refine J.op rfl rfl rfl (V.ar rfl rfl rfl rfl) ?_
            refine J.op rfl rfl rfl (V.as rfl rfl) ?_
            obtain ⟨j_48, ej_48, h1⟩ := B.lt h1
            refine J.val (congrArg (Value.int .i64) ej_48) ?_
            refine J.nil ?_
            refine J.bN ?_
            refine J.tN (J.next (i_47, j_48, m46) () (B.n h1) ?_)
            exact J.keep _ rfl (J.pickE [0] rfl rfl J.here)
  · intro gy50 _
    refine J.seq ?_
    refine J.region ?_
    refine J.op rfl rfl rfl (V.mv rfl rfl) ?_
    refine J.op rfl rfl rfl (V.as rfl rfl) ?_
    refine J.nil ?_
    refine J.tN ?_
    refine J.ret ?_
    obtain rfl := B.e h0
    exact J.ret1 rfl rfl fun w H => ⟨(), rfl, H.pick [0] (by decide)⟩

end Go.Proofs.Ytopmellnegcfpaa
