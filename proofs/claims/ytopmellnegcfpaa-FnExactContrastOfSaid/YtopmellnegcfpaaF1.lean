/- Go functions as Lean functions, and that each call of theirs comes to just that: by a program written for this work (walk.py). No condition. -/
import Derived.Test.YtopmellnegcfpaaF0
namespace Go.Proofs.Ytopmellnegcfpaa
open Go Go.RowKit G
set_option linter.unusedVariables false

/-! ### slices.heapSortOrdered[int8]: function 66 -/
noncomputable def slices_heapSortOrdered_int8.b1 (n0_ : Nat) (p1_a : Int) (hi_1 : Int) : (Int × (Vector Int n0_)) → Option (Step (Int × (Vector Int n0_)) ((Vector Int n0_))) := fun s3 => bif (decide (0 ≤ s3.1)) then ((slices_siftDownOrdered_int8.f n0_ s3.2 s3.1 hi_1 p1_a).bind fun r7 => (some (IntKind.wrap .i64 (s3.1 - 1))).bind fun i_10 => some (.next (i_10, r7))) else (some (.done s3.2))
noncomputable def slices_heapSortOrdered_int8.b2 (n0_ : Nat) (p1_a : Int) : (Int × (Vector Int n0_)) → Option (Step (Int × (Vector Int n0_)) ((Vector Int n0_))) := fun s15 => bif (decide (0 ≤ s15.1)) then (bif (inB (IntKind.wrap .i64 (p1_a + s15.1)) n0_) then (bif (inB p1_a n0_) then (bif (inB p1_a n0_) then ((some (wrA s15.2 p1_a (rdA s15.2 (IntKind.wrap .i64 (p1_a + s15.1))))).bind fun m22 => bif (inB (IntKind.wrap .i64 (p1_a + s15.1)) n0_) then ((some (wrA m22 (IntKind.wrap .i64 (p1_a + s15.1)) (rdA s15.2 p1_a))).bind fun m24 => (slices_siftDownOrdered_int8.f n0_ m24 0 s15.1 p1_a).bind fun r25 => (some (IntKind.wrap .i64 (s15.1 - 1))).bind fun i_28 => some (.next (i_28, r25))) else none) else none) else none) else none) else (some (.done s15.2))
noncomputable def slices_heapSortOrdered_int8.f (n0_ : Nat) (p0_data : Vector Int n0_) (p1_a : Int) (p2_b : Int) : Option ((Vector Int n0_)) := (some (IntKind.wrap .i64 (p2_b - p1_a))).bind fun hi_1 => (some (IntKind.wrap .i64 (Int.tdiv (IntKind.wrap .i64 (hi_1 - 1)) 2))).bind fun i_2 => (loopW (slices_heapSortOrdered_int8.b1 n0_ p1_a hi_1) (i_2, p0_data)).bind fun y11 => (some (IntKind.wrap .i64 (hi_1 - 1))).bind fun i_14 => (loopW (slices_heapSortOrdered_int8.b2 n0_ p1_a) (i_14, y11)).bind fun y29 => some y29
set_option maxRecDepth 100000 in
theorem slices_heapSortOrdered_int8.calls (b0_ n0_ T0_ : Nat) (p0_data : Vector Int n0_) (p1_a : Int) (p2_b : Int) (r : (Vector Int n0_)) (w : World) (H0 : Own [b0_] w w [.blk b0_ (encA .i8 p0_data) T0_]) (h0 : slices_heapSortOrdered_int8.f n0_ p0_data p1_a p2_b = some r) :
    Calls Try.prog 66 #[.slice (some ⟨b0_, 0, none⟩) n0_ n0_, .int .i64 p1_a, .int .i64 p2_b] w (fun e w' => ∃ _ : Unit, e = .returned (.tuple #[]) ∧ Own [b0_] w w' [.blk b0_ (encA .i8 r) T0_]) := by
  unfold slices_heapSortOrdered_int8.f at h0
  replace h0 := B.top h0
  refine calls_of_J (args := [.slice (some ⟨b0_, 0, none⟩) n0_ n0_, .int .i64 p1_a, .int .i64 p2_b]) Try.func66 rfl Try.ntmps66 rfl [(0, .slice (some ⟨b0_, 0, none⟩) n0_ n0_), (1, .int .i64 p1_a), (2, .int .i64 p2_b)] rfl H0 ?_
  refine J.seq ?_
  refine J.region ?_
  refine J.op rfl rfl rfl (V.mv rfl rfl) ?_
  refine J.op rfl rfl rfl (V.as rfl rfl) ?_
  refine J.nil ?_
  refine J.tN ?_
  refine J.seq ?_
  refine J.region ?_
  refine J.op rfl rfl rfl (V.as rfl rfl) ?_
  refine J.nil ?_
  refine J.tN ?_
  refine J.seq ?_
  refine J.region ?_
  refine J.op rfl rfl rfl (V.mv rfl rfl) ?_
  refine J.op rfl rfl rfl (V.mv rfl rfl) ?_
  refine J.op rfl rfl rfl (V.ar rfl rfl rfl rfl) ?_
  refine J.op rfl rfl rfl (V.as rfl rfl) ?_
  obtain ⟨hi_1, ehi_1, h0⟩ := B.lt h0
  refine J.val (congrArg (Value.int .i64) ehi_1) ?_
  refine J.nil ?_
  refine J.tN ?_
  refine J.seq ?_
  refine J.seq ?_
  refine J.region ?_
  refine J.op rfl rfl rfl (V.mv rfl rfl) ?_
  refine J.op rfl rfl rfl (V.ar rfl rfl rfl rfl) ?_
  refine J.op rfl rfl rfl (V.quo rfl rfl rfl rfl) ?_
  refine J.op rfl rfl rfl (V.as rfl rfl) ?_
  obtain ⟨i_2, ei_2, h0⟩ := B.lt h0
  refine J.val (congrArg (Value.int .i64) ei_2) ?_
  refine J.nil ?_
  refine J.tN ?_
  obtain ⟨y11, hy13, h0⟩ := B.bind h0
  refine J.cutQ (γ := Unit) (fun _ => True) (fun gy12 => [(0, .slice (some ⟨b0_, 0, none⟩) n0_ n0_), (6, .int .i64 p1_a), (7, .int .i64 0), (8, .int .i64 hi_1)]) (fun gy12 => [.blk b0_ (encA .i8 y11) T0_]) ?_ ?_
  · refine J.block ?_
    refine J.loop (γ := Unit) hy13 (fun s3 g4 => [(0, .slice (some ⟨b0_, 0, none⟩) n0_ n0_), (6, .int .i64 p1_a), (7, .int .i64 0), (8, .int .i64 hi_1), (9, .int .i64 s3.1)]) (fun s3 g4 => [.blk b0_ (encA .i8 s3.2) T0_]) () ?_ ?_
    · exact J.keep _ rfl (J.pickE [0] rfl rfl J.here)
    · intro rec5 s3 g4 h1
      unfold slices_heapSortOrdered_int8.b1 at h1
      refine J.seq ?_
      refine J.seq ?_
      refine J.region ?_
      refine J.op rfl rfl rfl (V.mv rfl rfl) ?_
      refine J.op rfl rfl rfl (V.cmp rfl rfl rfl rfl) ?_
      refine J.nil ?_
      refine J.tN ?_
      refine J.cond rfl (fun hB6 => ?_) (fun hB6 => ?_)
      · replace h1 := B.t hB6 h1
        refine J.skip ?_
        refine J.tN ?_
        refine J.seq ?_
        refine J.block ?_
        refine J.region ?_
        refine J.op rfl rfl rfl (V.mv rfl rfl) ?_
        refine J.op rfl rfl rfl (V.mv rfl rfl) ?_
        refine J.op rfl rfl rfl (V.mv rfl rfl) ?_
        refine J.op rfl rfl rfl (V.mv rfl rfl) ?_
        obtain ⟨r7, hr8, h1⟩ := B.bind h1
        refine J.cl (l := [.tmp 22, .tmp 23, .tmp 24, .tmp 25]) [.blk b0_ (encA .i8 s3.2) T0_] [] cf76 (wN rfl) rfl rfl rfl rfl rfl rfl hM1 (fun w H => slices_siftDownOrdered_int8.calls b0_ n0_ T0_ s3.2 s3.1 hi_1 p1_a r7 w H.enter1  hr8) fun g9 => ?_
        refine J.nil ?_
        refine J.bN ?_
        refine J.tN ?_
        refine J.region ?_
        refine J.op rfl rfl rfl (V.mv rfl rfl) ?_
        refine J.op rfl rfl rfl (V.ar rfl rfl rfl rfl) ?_
        refine J.op rfl rfl rfl (V.as rfl rfl) ?_
        obtain ⟨i_10, ei_10, h1⟩ := B.lt h1
        refine J.val (congrArg (Value.int .i64) ei_10) ?_
        refine J.nil ?_
        refine J.tN (J.next (i_10, r7) () (B.n h1) ?_)
        exact J.keep _ rfl (J.pickE [0] rfl rfl J.here)
      · replace h1 := B.f hB6 h1
        refine J.exit ?_
        refine J.tE ?_
        refine J.tE ?_
        refine J.bE ?_
        obtain rfl := B.d h1
        refine J.tN (J.to () trivial ?_)
        exact J.keep _ rfl (J.pickE [0] rfl rfl J.here)
  · intro gy12 _
    refine J.tN ?_
    refine J.seq ?_
    refine J.region ?_
    refine J.op rfl rfl rfl (V.mv rfl rfl) ?_
    refine J.op rfl rfl rfl (V.ar rfl rfl rfl rfl) ?_
    refine J.op rfl rfl rfl (V.as rfl rfl) ?_
    obtain ⟨i_14, ei_14, h0⟩ := B.lt h0
    refine J.val (congrArg (Value.int .i64) ei_14) ?_
    refine J.nil ?_
    refine J.tN ?_
    obtain ⟨y29, hy31, h0⟩ := B.bind h0
    refine J.cutQ (γ := Unit) (fun _ => True) (fun gy30 => []) (fun gy30 => [.blk b0_ (encA .i8 y29) T0_]) ?_ ?_
    · refine J.block ?_
      refine J.loop (γ := Unit) hy31 (fun s15 g16 => [(0, .slice (some ⟨b0_, 0, none⟩) n0_ n0_), (6, .int .i64 p1_a), (7, .int .i64 0), (10, .int .i64 s15.1)]) (fun s15 g16 => [.blk b0_ (encA .i8 s15.2) T0_]) () ?_ ?_
      · exact J.keep _ rfl (J.pickE [0] rfl rfl J.here)
      · intro rec17 s15 g16 h1
        unfold slices_heapSortOrdered_int8.b2 at h1
        refine J.seq ?_
        refine J.seq ?_
        refine J.region ?_
        refine J.op rfl rfl rfl (V.mv rfl rfl) ?_
        refine J.op rfl rfl rfl (V.cmp rfl rfl rfl rfl) ?_
        refine J.nil ?_
        refine J.tN ?_
        refine J.cond rfl (fun hB18 => ?_) (fun hB18 => ?_)
        · replace h1 := B.t hB18 h1
          refine J.skip ?_
          refine J.tN ?_
          refine J.seq ?_
          refine J.block ?_
          refine J.seq ?_
          refine J.lateW 17 [2, 3, 4, 5, 12, 13, 14] mixed (by kernel_rfl) ?_
          refine JL.op rfl rfl rfl rfl (V.mv rfl rfl) ?_
          refine JL.op rfl rfl rfl rfl (V.mv rfl rfl) ?_
          refine JL.pure rfl rfl rfl (fun w1 => V.mv rfl rfl) ?_
          refine JL.pure rfl rfl rfl (fun w1 => V.mv rfl rfl) ?_
          refine JL.pure rfl rfl rfl (fun w1 => V.mv rfl rfl) ?_
          refine JL.pure rfl rfl rfl (fun w1 => V.ar rfl rfl rfl rfl) ?_
          refine JL.op rfl rfl rfl rfl (V.mv rfl rfl) ?_
          refine JL.op rfl rfl rfl rfl (V.mv rfl rfl) ?_
          refine JL.op rfl rfl rfl rfl (V.mv rfl rfl) ?_
          refine JL.op rfl rfl rfl rfl (V.ar rfl rfl rfl rfl) ?_
          obtain ⟨hC19, h1⟩ := B.chk h1
          refine JL.op rfl rfl rfl rfl (V.ixM rfl rfl rfl tl66 ts22 hC19) ?_
          refine JL.op rfl rfl rfl rfl (V.ldB 0 rfl rfl rfl Try.underlying22 ta22 (encA_get0 .i8 _ hC19)) ?_
          refine JL.pure rfl rfl rfl (fun w1 => V.mv rfl rfl) ?_
          refine JL.pure rfl rfl rfl (fun w1 => V.mv rfl rfl) ?_
          obtain ⟨hC20, h1⟩ := B.chk h1
          refine JL.pure rfl rfl rfl (fun w1 => V.ixM rfl rfl rfl tl66 ts22 hC20) ?_
          refine JL.op rfl rfl rfl rfl (V.ldB 0 rfl rfl rfl Try.underlying22 ta22 (encA_get0 .i8 _ hC20)) ?_
          obtain ⟨hC21, h1⟩ := B.chk h1
          refine JL.op rfl rfl rfl rfl (V.ixM rfl rfl rfl tl66 ts22 hC21) ?_
          refine JL.tail ?_
          refine J.stB 0 rfl rfl rfl rfl rfl rfl ts22 (fun _ _ => rfl) (encA_lt .i8 _ hC21) ?_
          refine J.setEnt 0 rfl (congrArg (fun q => Ent.blk _ q _) (encA_set .i8 _ _ _)) ?_
          obtain ⟨m22, em22, h1⟩ := B.lt h1
          refine J.setEnt 0 rfl (congrArg (fun q => Ent.blk _ (encA .i8 q) _) em22) ?_
          obtain ⟨hC23, h1⟩ := B.chk h1
          refine J.op rfl rfl rfl (V.ixM rfl rfl rfl tl66 ts22 hC23) ?_
          refine J.stB 0 rfl rfl rfl rfl rfl rfl ts22 (fun _ _ => rfl) (encA_lt .i8 _ hC23) ?_
          refine J.setEnt 0 rfl (congrArg (fun q => Ent.blk _ q _) (encA_set .i8 _ _ _)) ?_
          obtain ⟨m24, em24, h1⟩ := B.lt h1
          refine J.setEnt 0 rfl (congrArg (fun q => Ent.blk _ (encA .i8 q) _) em24) ?_
          refine J.nil ?_
          refine J.calm ?_
          refine J.tN ?_
          refine J.region ?_
          refine J.op rfl rfl rfl (V.mv rfl rfl) ?_
          refine J.op rfl rfl rfl (V.mv rfl rfl) ?_
          refine J.op rfl rfl rfl (V.mv rfl rfl) ?_
          refine J.op rfl rfl rfl (V.mv rfl rfl) ?_
          obtain ⟨r25, hr26, h1⟩ := B.bind h1
          refine J.cl (l := [.tmp 51, .tmp 52, .tmp 53, .tmp 54]) [.blk b0_ (encA .i8 m24) T0_] [] cf76 (wN rfl) rfl rfl rfl rfl rfl rfl hM1 (fun w H => slices_siftDownOrdered_int8.calls b0_ n0_ T0_ m24 0 s15.1 p1_a r25 w H.enter1  hr26) fun g27 => ?_
          refine J.nil ?_
          refine J.bN ?_
          refine J.tN ?_
          refine J.region ?_
          refine J.op rfl rfl rfl (V.mv rfl rfl) ?_
          refine J.op rfl rfl rfl (V.ar rfl rfl rfl rfl) ?_
          refine J.op rfl rfl rfl (V.as rfl rfl) ?_
          obtain ⟨i_28, ei_28, h1⟩ := B.lt h1
          refine J.val (congrArg (Value.int .i64) ei_28) ?_
          refine J.nil ?_
          refine J.tN (J.next (i_28, r25) () (B.n h1) ?_)
          exact J.keep _ rfl (J.pickE [0] rfl rfl J.here)
        · replace h1 := B.f hB18 h1
          refine J.exit ?_
          refine J.tE ?_
          refine J.tE ?_
          refine J.bE ?_
          obtain rfl := B.d h1
          refine J.tN (J.to () trivial ?_)
          exact J.keep _ rfl (J.pickE [0] rfl rfl J.here)
    · intro gy30 _
      refine J.fin ?_
      obtain rfl := B.e h0
      exact J.ret0 rfl fun w H => ⟨(), rfl, H.pick [0] (by decide)⟩

/-! ### math/bits.Len32: function 74 -/
noncomputable def math_bits_Len32.f (p0_x : Int) : Option (Int) := (bif (decide (65536 ≤ p0_x)) then ((some (shR .u32 p0_x 16)).bind fun x_4 => some (x_4, 16)) else (some (p0_x, 0)) : Option (Int × Int)).bind fun y1 => (bif (decide (256 ≤ y1.1)) then ((some (shR .u32 y1.1 8)).bind fun x_9 => (some (IntKind.wrap .i64 (y1.2 + 8))).bind fun n_10 => some (x_9, n_10)) else (some (y1.1, y1.2)) : Option (Int × Int)).bind fun y6 => bif (inB (IntKind.wrap .u8 y6.1) (⟨#[0, 1, 2, 2, 3, 3, 3, 3, 4, 4, 4, 4, 4, 4, 4, 4, 5, 5, 5, 5, 5, 5, 5, 5, 5, 5, 5, 5, 5, 5, 5, 5, 6, 6, 6, 6, 6, 6, 6, 6, 6, 6, 6, 6, 6, 6, 6, 6, 6, 6, 6, 6, 6, 6, 6, 6, 6, 6, 6, 6, 6, 6, 6, 6, 7, 7, 7, 7, 7, 7, 7, 7, 7, 7, 7, 7, 7, 7, 7, 7, 7, 7, 7, 7, 7, 7, 7, 7, 7, 7, 7, 7, 7, 7, 7, 7, 7, 7, 7, 7, 7, 7, 7, 7, 7, 7, 7, 7, 7, 7, 7, 7, 7, 7, 7, 7, 7, 7, 7, 7, 7, 7, 7, 7, 7, 7, 7, 7, 8, 8, 8, 8, 8, 8, 8, 8, 8, 8, 8, 8, 8, 8, 8, 8, 8, 8, 8, 8, 8, 8, 8, 8, 8, 8, 8, 8, 8, 8, 8, 8, 8, 8, 8, 8, 8, 8, 8, 8, 8, 8, 8, 8, 8, 8, 8, 8, 8, 8, 8, 8, 8, 8, 8, 8, 8, 8, 8, 8, 8, 8, 8, 8, 8, 8, 8, 8, 8, 8, 8, 8, 8, 8, 8, 8, 8, 8, 8, 8, 8, 8, 8, 8, 8, 8, 8, 8, 8, 8, 8, 8, 8, 8, 8, 8, 8, 8, 8, 8, 8, 8, 8, 8, 8, 8, 8, 8, 8, 8, 8, 8, 8, 8, 8, 8, 8, 8, 8, 8, 8, 8, 8, 8, 8, 8, 8, 8]⟩ : ByteArray).size) then ((some (IntKind.wrap .i64 (y6.2 + (IntKind.wrap .i64 (rdT (⟨#[0, 1, 2, 2, 3, 3, 3, 3, 4, 4, 4, 4, 4, 4, 4, 4, 5, 5, 5, 5, 5, 5, 5, 5, 5, 5, 5, 5, 5, 5, 5, 5, 6, 6, 6, 6, 6, 6, 6, 6, 6, 6, 6, 6, 6, 6, 6, 6, 6, 6, 6, 6, 6, 6, 6, 6, 6, 6, 6, 6, 6, 6, 6, 6, 7, 7, 7, 7, 7, 7, 7, 7, 7, 7, 7, 7, 7, 7, 7, 7, 7, 7, 7, 7, 7, 7, 7, 7, 7, 7, 7, 7, 7, 7, 7, 7, 7, 7, 7, 7, 7, 7, 7, 7, 7, 7, 7, 7, 7, 7, 7, 7, 7, 7, 7, 7, 7, 7, 7, 7, 7, 7, 7, 7, 7, 7, 7, 7, 8, 8, 8, 8, 8, 8, 8, 8, 8, 8, 8, 8, 8, 8, 8, 8, 8, 8, 8, 8, 8, 8, 8, 8, 8, 8, 8, 8, 8, 8, 8, 8, 8, 8, 8, 8, 8, 8, 8, 8, 8, 8, 8, 8, 8, 8, 8, 8, 8, 8, 8, 8, 8, 8, 8, 8, 8, 8, 8, 8, 8, 8, 8, 8, 8, 8, 8, 8, 8, 8, 8, 8, 8, 8, 8, 8, 8, 8, 8, 8, 8, 8, 8, 8, 8, 8, 8, 8, 8, 8, 8, 8, 8, 8, 8, 8, 8, 8, 8, 8, 8, 8, 8, 8, 8, 8, 8, 8, 8, 8, 8, 8, 8, 8, 8, 8, 8, 8, 8, 8, 8, 8, 8, 8, 8, 8, 8, 8]⟩ : ByteArray) (IntKind.wrap .u8 y6.1)))))).bind fun n_13 => some n_13) else none
set_option maxRecDepth 100000 in
theorem math_bits_Len32.calls (p0_x : Int) (r : Int) (w : World) (H0 : Own [] w w []) (h0 : math_bits_Len32.f p0_x = some r) :
    Calls Try.prog 74 #[.int .u32 p0_x] w (fun e w' => ∃ _ : Unit, e = .returned (.int .i64 r) ∧ Own [] w w' []) := by
  unfold math_bits_Len32.f at h0
  replace h0 := B.top h0
  refine calls_of_J (args := [.int .u32 p0_x]) Try.func74 rfl Try.ntmps74 rfl [(0, .int .u32 p0_x)] rfl H0 ?_
  refine J.seq ?_
  refine J.region ?_
  refine J.op rfl rfl rfl (V.as rfl rfl) ?_
  refine J.nil ?_
  refine J.tN ?_
  refine J.seq ?_
  obtain ⟨y1, hy5, h0⟩ := B.bind h0
  replace hy5 := B.top hy5
  refine J.cut (γ := Unit) (fun _ => True) (fun gy2 => [(0, .int .u32 y1.1), (2, .int .i64 y1.2)]) (fun gy2 => []) ?_ ?_
  · have h1 := hy5
    refine J.seq ?_
    refine J.region ?_
    refine J.op rfl rfl rfl (V.mv rfl rfl) ?_
    refine J.op rfl rfl rfl (V.cmp rfl rfl rfl rfl) ?_
    refine J.nil ?_
    refine J.tN ?_
    refine J.cond rfl (fun hB3 => ?_) (fun hB3 => ?_)
    · replace h1 := B.t hB3 h1
      refine J.seq ?_
      refine J.region ?_
      refine J.op rfl rfl rfl (V.mv rfl rfl) ?_
      refine J.op rfl rfl rfl (V.shr rfl rfl rfl rfl) ?_
      refine J.op rfl rfl rfl (V.as rfl rfl) ?_
      obtain ⟨x_4, ex_4, h1⟩ := B.lt h1
      refine J.val (congrArg (Value.int .u32) ex_4) ?_
      refine J.nil ?_
      refine J.tN ?_
      refine J.region ?_
      refine J.op rfl rfl rfl (V.as rfl rfl) ?_
      refine J.nil ?_
      obtain rfl := B.e h1
      refine J.tN (J.to () trivial ?_)
      exact J.keep _ rfl (J.pickE [] rfl rfl J.here)
    · replace h1 := B.f hB3 h1
      refine J.skip ?_
      obtain rfl := B.e h1
      refine J.tN (J.to () trivial ?_)
      exact J.keep _ rfl (J.pickE [] rfl rfl J.here)
  · intro gy2 _
    refine J.seq ?_
    obtain ⟨y6, hy11, h0⟩ := B.bind h0
    replace hy11 := B.top hy11
    refine J.cut (γ := Unit) (fun _ => True) (fun gy7 => [(0, .int .u32 y6.1), (2, .int .i64 y6.2)]) (fun gy7 => []) ?_ ?_
    · have h1 := hy11
      refine J.seq ?_
      refine J.region ?_
      refine J.op rfl rfl rfl (V.mv rfl rfl) ?_
      refine J.op rfl rfl rfl (V.cmp rfl rfl rfl rfl) ?_
      refine J.nil ?_
      refine J.tN ?_
      refine J.cond rfl (fun hB8 => ?_) (fun hB8 => ?_)
      · replace h1 := B.t hB8 h1
        refine J.seq ?_
        refine J.region ?_
        refine J.op rfl rfl rfl (V.mv rfl rfl) ?_
        refine J.op rfl rfl rfl (V.shr rfl rfl rfl rfl) ?_
        refine J.op rfl rfl rfl (V.as rfl rfl) ?_
        obtain ⟨x_9, ex_9, h1⟩ := B.lt h1
        refine J.val (congrArg (Value.int .u32) ex_9) ?_
        refine J.nil ?_
        refine J.tN ?_
        refine J.region ?_
        refine J.op rfl rfl rfl (V.mv rfl rfl) ?_
        refine J.op rfl rfl rfl (V.ar rfl rfl rfl rfl) ?_
        refine J.op rfl rfl rfl (V.as rfl rfl) ?_
        obtain ⟨n_10, en_10, h1⟩ := B.lt h1
        refine J.val (congrArg (Value.int .i64) en_10) ?_
        refine J.nil ?_
        obtain rfl := B.e h1
        refine J.tN (J.to () trivial ?_)
        exact J.keep _ rfl (J.pickE [] rfl rfl J.here)
      · replace h1 := B.f hB8 h1
        refine J.skip ?_
        obtain rfl := B.e h1
        refine J.tN (J.to () trivial ?_)
        exact J.keep _ rfl (J.pickE [] rfl rfl J.here)
    · intro gy7 _
      refine J.seq ?_
      refine J.region ?_
      refine J.op rfl rfl rfl (V.mv rfl rfl) ?_
      refine J.op rfl rfl rfl (V.mv rfl rfl) ?_
      refine J.op rfl rfl rfl (V.conv rfl rfl Try.underlying43 Try.underlying5) ?_
      obtain ⟨hC12, h0⟩ := B.chk h0
      refine J.op rfl rfl rfl (V.ixT rfl rfl rfl Try.underlying9 hC12) ?_
      refine J.op rfl rfl rfl (V.conv rfl rfl Try.underlying5 Try.underlying3) ?_
      refine J.op rfl rfl rfl (V.ar rfl rfl rfl rfl) ?_
      refine J.op rfl rfl rfl (V.as rfl rfl) ?_
      obtain ⟨n_13, en_13, h0⟩ := B.lt h0
      refine J.val (congrArg (Value.int .i64) en_13) ?_
      refine J.nil ?_
      refine J.tN ?_
      refine J.ret ?_
      obtain rfl := B.e h0
      exact J.ret1 rfl rfl fun w H => ⟨(), rfl, H.pick [] (by decide)⟩

/-! ### math/bits.Len64: function 75 -/
noncomputable def math_bits_Len64.f (p0_x : Int) : Option (Int) := (bif (decide (4294967296 ≤ p0_x)) then ((some (shR .u64 p0_x 32)).bind fun x_4 => some (x_4, 32)) else (some (p0_x, 0)) : Option (Int × Int)).bind fun y1 => (bif (decide (65536 ≤ y1.1)) then ((some (shR .u64 y1.1 16)).bind fun x_9 => (some (IntKind.wrap .i64 (y1.2 + 16))).bind fun n_10 => some (x_9, n_10)) else (some (y1.1, y1.2)) : Option (Int × Int)).bind fun y6 => (bif (decide (256 ≤ y6.1)) then ((some (shR .u64 y6.1 8)).bind fun x_15 => (some (IntKind.wrap .i64 (y6.2 + 8))).bind fun n_16 => some (x_15, n_16)) else (some (y6.1, y6.2)) : Option (Int × Int)).bind fun y12 => bif (inB (IntKind.wrap .u8 y12.1) (⟨#[0, 1, 2, 2, 3, 3, 3, 3, 4, 4, 4, 4, 4, 4, 4, 4, 5, 5, 5, 5, 5, 5, 5, 5, 5, 5, 5, 5, 5, 5, 5, 5, 6, 6, 6, 6, 6, 6, 6, 6, 6, 6, 6, 6, 6, 6, 6, 6, 6, 6, 6, 6, 6, 6, 6, 6, 6, 6, 6, 6, 6, 6, 6, 6, 7, 7, 7, 7, 7, 7, 7, 7, 7, 7, 7, 7, 7, 7, 7, 7, 7, 7, 7, 7, 7, 7, 7, 7, 7, 7, 7, 7, 7, 7, 7, 7, 7, 7, 7, 7, 7, 7, 7, 7, 7, 7, 7, 7, 7, 7, 7, 7, 7, 7, 7, 7, 7, 7, 7, 7, 7, 7, 7, 7, 7, 7, 7, 7, 8, 8, 8, 8, 8, 8, 8, 8, 8, 8, 8, 8, 8, 8, 8, 8, 8, 8, 8, 8, 8, 8, 8, 8, 8, 8, 8, 8, 8, 8, 8, 8, 8, 8, 8, 8, 8, 8, 8, 8, 8, 8, 8, 8, 8, 8, 8, 8, 8, 8, 8, 8, 8, 8, 8, 8, 8, 8, 8, 8, 8, 8, 8, 8, 8, 8, 8, 8, 8, 8, 8, 8, 8, 8, 8, 8, 8, 8, 8, 8, 8, 8, 8, 8, 8, 8, 8, 8, 8, 8, 8, 8, 8, 8, 8, 8, 8, 8, 8, 8, 8, 8, 8, 8, 8, 8, 8, 8, 8, 8, 8, 8, 8, 8, 8, 8, 8, 8, 8, 8, 8, 8, 8, 8, 8, 8, 8, 8]⟩ : ByteArray).size) then ((some (IntKind.wrap .i64 (y12.2 + (IntKind.wrap .i64 (rdT (⟨#[0, 1, 2, 2, 3, 3, 3, 3, 4, 4, 4, 4, 4, 4, 4, 4, 5, 5, 5, 5, 5, 5, 5, 5, 5, 5, 5, 5, 5, 5, 5, 5, 6, 6, 6, 6, 6, 6, 6, 6, 6, 6, 6, 6, 6, 6, 6, 6, 6, 6, 6, 6, 6, 6, 6, 6, 6, 6, 6, 6, 6, 6, 6, 6, 7, 7, 7, 7, 7, 7, 7, 7, 7, 7, 7, 7, 7, 7, 7, 7, 7, 7, 7, 7, 7, 7, 7, 7, 7, 7, 7, 7, 7, 7, 7, 7, 7, 7, 7, 7, 7, 7, 7, 7, 7, 7, 7, 7, 7, 7, 7, 7, 7, 7, 7, 7, 7, 7, 7, 7, 7, 7, 7, 7, 7, 7, 7, 7, 8, 8, 8, 8, 8, 8, 8, 8, 8, 8, 8, 8, 8, 8, 8, 8, 8, 8, 8, 8, 8, 8, 8, 8, 8, 8, 8, 8, 8, 8, 8, 8, 8, 8, 8, 8, 8, 8, 8, 8, 8, 8, 8, 8, 8, 8, 8, 8, 8, 8, 8, 8, 8, 8, 8, 8, 8, 8, 8, 8, 8, 8, 8, 8, 8, 8, 8, 8, 8, 8, 8, 8, 8, 8, 8, 8, 8, 8, 8, 8, 8, 8, 8, 8, 8, 8, 8, 8, 8, 8, 8, 8, 8, 8, 8, 8, 8, 8, 8, 8, 8, 8, 8, 8, 8, 8, 8, 8, 8, 8, 8, 8, 8, 8, 8, 8, 8, 8, 8, 8, 8, 8, 8, 8, 8, 8, 8, 8]⟩ : ByteArray) (IntKind.wrap .u8 y12.1)))))).bind fun n_19 => some n_19) else none
set_option maxRecDepth 100000 in
theorem math_bits_Len64.calls (p0_x : Int) (r : Int) (w : World) (H0 : Own [] w w []) (h0 : math_bits_Len64.f p0_x = some r) :
    Calls Try.prog 75 #[.int .u64 p0_x] w (fun e w' => ∃ _ : Unit, e = .returned (.int .i64 r) ∧ Own [] w w' []) := by
  unfold math_bits_Len64.f at h0
  replace h0 := B.top h0
  refine calls_of_J (args := [.int .u64 p0_x]) Try.func75 rfl Try.ntmps75 rfl [(0, .int .u64 p0_x)] rfl H0 ?_
  refine J.seq ?_
  refine J.region ?_
  refine J.op rfl rfl rfl (V.as rfl rfl) ?_
  refine J.nil ?_
  refine J.tN ?_
  refine J.seq ?_
  obtain ⟨y1, hy5, h0⟩ := B.bind h0
  replace hy5 := B.top hy5
  refine J.cut (γ := Unit) (fun _ => True) (fun gy2 => [(0, .int .u64 y1.1), (2, .int .i64 y1.2)]) (fun gy2 => []) ?_ ?_
  · have h1 := hy5
    refine J.seq ?_
    refine J.region ?_
    refine J.op rfl rfl rfl (V.mv rfl rfl) ?_
    refine J.op rfl rfl rfl (V.cmp rfl rfl rfl rfl) ?_
    refine J.nil ?_
    refine J.tN ?_
    refine J.cond rfl (fun hB3 => ?_) (fun hB3 => ?_)
    · replace h1 := B.t hB3 h1
      refine J.seq ?_
      refine J.region ?_
      refine J.op rfl rfl rfl (V.mv rfl rfl) ?_
      refine J.op rfl rfl rfl (V.shr rfl rfl rfl rfl) ?_
      refine J.op rfl rfl rfl (V.as rfl rfl) ?_
      obtain ⟨x_4, ex_4, h1⟩ := B.lt h1
      refine J.val (congrArg (Value.int .u64) ex_4) ?_
      refine J.nil ?_
      refine J.tN ?_
      refine J.region ?_
      refine J.op rfl rfl rfl (V.as rfl rfl) ?_
      refine J.nil ?_
      obtain rfl := B.e h1
      refine J.tN (J.to () trivial ?_)
      exact J.keep _ rfl (J.pickE [] rfl rfl J.here)
    · replace h1 := B.f hB3 h1
      refine J.skip ?_
      obtain rfl := B.e h1
      refine J.tN (J.to () trivial ?_)
      exact J.keep _ rfl (J.pickE [] rfl rfl J.here)
  · intro gy2 _
    refine J.seq ?_
    obtain ⟨y6, hy11, h0⟩ := B.bind h0
    replace hy11 := B.top hy11
    refine J.cut (γ := Unit) (fun _ => True) (fun gy7 => [(0, .int .u64 y6.1), (2, .int .i64 y6.2)]) (fun gy7 => []) ?_ ?_
    · have h1 := hy11
      refine J.seq ?_
      refine J.region ?_
      refine J.op rfl rfl rfl (V.mv rfl rfl) ?_
      refine J.op rfl rfl rfl (V.cmp rfl rfl rfl rfl) ?_
      refine J.nil ?_
      refine J.tN ?_
      refine J.cond rfl (fun hB8 => ?_) (fun hB8 => ?_)
      · replace h1 := B.t hB8 h1
        refine J.seq ?_
        refine J.region ?_
        refine J.op rfl rfl rfl (V.mv rfl rfl) ?_
        refine J.op rfl rfl rfl (V.shr rfl rfl rfl rfl) ?_
        refine J.op rfl rfl rfl (V.as rfl rfl) ?_
        obtain ⟨x_9, ex_9, h1⟩ := B.lt h1
        refine J.val (congrArg (Value.int .u64) ex_9) ?_
        refine J.nil ?_
        refine J.tN ?_
        refine J.region ?_
        refine J.op rfl rfl rfl (V.mv rfl rfl) ?_
        refine J.op rfl rfl rfl (V.ar rfl rfl rfl rfl) ?_
        refine J.op rfl rfl rfl (V.as rfl rfl) ?_
        obtain ⟨n_10, en_10, h1⟩ := B.lt h1
        refine J.val (congrArg (Value.int .i64) en_10) ?_
        refine J.nil ?_
        obtain rfl := B.e h1
        refine J.tN (J.to () trivial ?_)
        exact J.keep _ rfl (J.pickE [] rfl rfl J.here)
      · replace h1 := B.f hB8 h1
        refine J.skip ?_
        obtain rfl := B.e h1
        refine J.tN (J.to () trivial ?_)
        exact J.keep _ rfl (J.pickE [] rfl rfl J.here)
    · intro gy7 _
      refine J.seq ?_
      obtain ⟨y12, hy17, h0⟩ := B.bind h0
      replace hy17 := B.top hy17
      refine J.cut (γ := Unit) (fun _ => True) (fun gy13 => [(0, .int .u64 y12.1), (2, .int .i64 y12.2)]) (fun gy13 => []) ?_ ?_
      · have h1 := hy17
        refine J.seq ?_
        refine J.region ?_
        refine J.op rfl rfl rfl (V.mv rfl rfl) ?_
        refine J.op rfl rfl rfl (V.cmp rfl rfl rfl rfl) ?_
        refine J.nil ?_
        refine J.tN ?_
        refine J.cond rfl (fun hB14 => ?_) (fun hB14 => ?_)
        · replace h1 := B.t hB14 h1
          refine J.seq ?_
          refine J.region ?_
          refine J.op rfl rfl rfl (V.mv rfl rfl) ?_
          refine J.op rfl rfl rfl (V.shr rfl rfl rfl rfl) ?_
          refine J.op rfl rfl rfl (V.as rfl rfl) ?_
          obtain ⟨x_15, ex_15, h1⟩ := B.lt h1
          refine J.val (congrArg (Value.int .u64) ex_15) ?_
          refine J.nil ?_
          refine J.tN ?_
          refine J.region ?_
          refine J.op rfl rfl rfl (V.mv rfl rfl) ?_
          refine J.op rfl rfl rfl (V.ar rfl rfl rfl rfl) ?_
          refine J.op rfl rfl rfl (V.as rfl rfl) ?_
          obtain ⟨n_16, en_16, h1⟩ := B.lt h1
          refine J.val (congrArg (Value.int .i64) en_16) ?_
          refine J.nil ?_
          obtain rfl := B.e h1
          refine J.tN (J.to () trivial ?_)
          exact J.keep _ rfl (J.pickE [] rfl rfl J.here)
        · replace h1 := B.f hB14 h1
          refine J.skip ?_
          obtain rfl := B.e h1
          refine J.tN (J.to () trivial ?_)
          exact J.keep _ rfl (J.pickE [] rfl rfl J.here)
      · intro gy13 _
        refine J.seq ?_
        refine J.region ?_
        refine J.op rfl rfl rfl (V.mv rfl rfl) ?_
        refine J.op rfl rfl rfl (V.mv rfl rfl) ?_
        refine J.op rfl rfl rfl (V.conv rfl rfl Try.underlying90 Try.underlying5) ?_
        obtain ⟨hC18, h0⟩ := B.chk h0
        refine J.op rfl rfl rfl (V.ixT rfl rfl rfl Try.underlying9 hC18) ?_
        refine J.op rfl rfl rfl (V.conv rfl rfl Try.underlying5 Try.underlying3) ?_
        refine J.op rfl rfl rfl (V.ar rfl rfl rfl rfl) ?_
        refine J.op rfl rfl rfl (V.as rfl rfl) ?_
        obtain ⟨n_19, en_19, h0⟩ := B.lt h0
        refine J.val (congrArg (Value.int .i64) en_19) ?_
        refine J.nil ?_
        refine J.tN ?_
        refine J.ret ?_
        obtain rfl := B.e h0
        exact J.ret1 rfl rfl fun w H => ⟨(), rfl, H.pick [] (by decide)⟩

/-! ### math/bits.Len: function 59 -/
noncomputable def math_bits_Len.f (p0_x : Int) : Option (Int) := (math_bits_Len64.f p0_x).bind fun r1 => some r1
set_option maxRecDepth 100000 in
theorem math_bits_Len.calls (p0_x : Int) (r : Int) (w : World) (H0 : Own [] w w []) (h0 : math_bits_Len.f p0_x = some r) :
    Calls Try.prog 59 #[.int .u64 p0_x] w (fun e w' => ∃ _ : Unit, e = .returned (.int .i64 r) ∧ Own [] w w' []) := by
  unfold math_bits_Len.f at h0
  replace h0 := B.top h0
  refine calls_of_J (args := [.int .u64 p0_x]) Try.func59 rfl Try.ntmps59 rfl [(0, .int .u64 p0_x)] rfl H0 ?_
  refine J.seq ?_
  refine J.region ?_
  refine J.op rfl rfl rfl (V.as rfl rfl) ?_
  refine J.nil ?_
  refine J.tN ?_
  refine J.seq ?_
  refine J.condF rfl ?_
  refine J.skip ?_
  refine J.tN ?_
  refine J.seq ?_
  refine J.region ?_
  refine J.op rfl rfl rfl (V.mv rfl rfl) ?_
  obtain ⟨r1, hr2, h0⟩ := B.bind h0
  refine J.cl (l := [.tmp 6]) [] [] cf75 (wN rfl) rfl rfl rfl rfl rfl rfl (by simp) (fun w H => math_bits_Len64.calls p0_x r1 w (Own.refl w)  hr2) fun g3 => ?_
  refine J.op rfl rfl rfl (V.as rfl rfl) ?_
  refine J.nil ?_
  refine J.tN ?_
  refine J.ret ?_
  obtain rfl := B.e h0
  exact J.ret1 rfl rfl fun w H => ⟨(), rfl, H.pick [] (by decide)⟩

/-! ### slices.nextPowerOfTwo: function 77 -/
noncomputable def slices_nextPowerOfTwo.f (p0_length : Int) : Option (Int) := (math_bits_Len.f (IntKind.wrap .u64 p0_length)).bind fun r1 => bif (decide (0 ≤ r1)) then ((some (shL .u64 1 r1)).bind fun t5 => some t5) else none
set_option maxRecDepth 100000 in
theorem slices_nextPowerOfTwo.calls (p0_length : Int) (r : Int) (w : World) (H0 : Own [] w w []) (h0 : slices_nextPowerOfTwo.f p0_length = some r) :
    Calls Try.prog 77 #[.int .i64 p0_length] w (fun e w' => ∃ _ : Unit, e = .returned (.int .u64 r) ∧ Own [] w w' []) := by
  unfold slices_nextPowerOfTwo.f at h0
  replace h0 := B.top h0
  refine calls_of_J (args := [.int .i64 p0_length]) Try.func77 rfl Try.ntmps77 rfl [(0, .int .i64 p0_length)] rfl H0 ?_
  refine J.seq ?_
  refine J.region ?_
  refine J.op rfl rfl rfl (V.as rfl rfl) ?_
  refine J.nil ?_
  refine J.tN ?_
  refine J.seq ?_
  refine J.region ?_
  refine J.op rfl rfl rfl (V.mv rfl rfl) ?_
  refine J.op rfl rfl rfl (V.conv rfl rfl Try.underlying3 Try.underlying48) ?_
  obtain ⟨r1, hr2, h0⟩ := B.bind h0
  refine J.cl (l := [.tmp 4]) [] [] cf59 (wN rfl) rfl rfl rfl rfl rfl rfl (by simp) (fun w H => math_bits_Len.calls (IntKind.wrap .u64 p0_length) r1 w (Own.refl w)  hr2) fun g3 => ?_
  obtain ⟨hC4, h0⟩ := B.chk h0
  refine J.op rfl rfl rfl (V.shl rfl rfl rfl hC4) ?_
  refine J.op rfl rfl rfl (V.as rfl rfl) ?_
  obtain ⟨t5, et5, h0⟩ := B.lt h0
  refine J.val (congrArg (Value.int .u64) et5) ?_
  refine J.nil ?_
  refine J.tN ?_
  refine J.ret ?_
  obtain rfl := B.e h0
  exact J.ret1 rfl rfl fun w H => ⟨(), rfl, H.pick [] (by decide)⟩

/-! ### (*slices.xorshift).Next: function 78 -/
noncomputable def slices_xorshift_Next.f (p0_r : Int) : Option (Int × Int) := (some (Go.bits .xor .u64 p0_r (shL .u64 p0_r 13))).bind fun m1 => (some (Go.bits .xor .u64 m1 (shR .u64 m1 7))).bind fun m2 => (some (Go.bits .xor .u64 m2 (shL .u64 m2 17))).bind fun m3 => some (m3, m3)
set_option maxRecDepth 100000 in
theorem slices_xorshift_Next.calls (b0_ : Nat) (p0_r : Int) (r : Int × Int) (w : World) (H0 : Own [b0_] w w [.blk b0_ [.int .u64 p0_r] 106]) (h0 : slices_xorshift_Next.f p0_r = some r) :
    Calls Try.prog 78 #[bp b0_ 0] w (fun e w' => ∃ _ : Unit, e = .returned (.int .u64 r.1) ∧ Own [b0_] w w' [.blk b0_ [.int .u64 r.2] 106]) := by
  unfold slices_xorshift_Next.f at h0
  replace h0 := B.top h0
  refine calls_of_J (args := [bp b0_ 0]) Try.func78 rfl Try.ntmps78 rfl [(0, bp b0_ 0)] rfl H0 ?_
  refine J.seq ?_
  refine J.region ?_
  refine J.op rfl rfl rfl (V.as rfl rfl) ?_
  refine J.nil ?_
  refine J.tN ?_
  refine J.seq ?_
  refine J.quietTail 9 mixed (by kernel_rfl) ?_
  refine JQ.op rfl rfl rfl (V.mv rfl rfl) ?_
  refine JQ.op rfl rfl rfl (V.nc rfl rfl) ?_
  refine JQ.op rfl rfl rfl (V.ldB 0 rfl rfl rfl Try.underlying106 ta106 rfl) ?_
  refine JQ.op rfl rfl rfl (V.mv rfl rfl) ?_
  refine JQ.op rfl rfl rfl (V.nc rfl rfl) ?_
  refine JQ.op rfl rfl rfl (V.ldB 0 rfl rfl rfl Try.underlying106 ta106 rfl) ?_
  refine JQ.op rfl rfl rfl (V.shl rfl rfl rfl rfl) ?_
  refine JQ.op rfl rfl rfl (V.ar rfl rfl rfl rfl) ?_
  refine JQ.op rfl rfl rfl (V.nc rfl rfl) ?_
  refine JQ.tail ?_
  refine J.stB 0 rfl rfl rfl rfl rfl rfl ts106 (fun _ _ => rfl) rfl ?_
  obtain ⟨m1, em1, h0⟩ := B.lt h0
  refine J.setEnt 0 rfl (congrArg (fun q => Ent.blk _ ([Value.int .u64 q]) _) em1) ?_
  refine J.nil ?_
  refine J.tN ?_
  refine J.seq ?_
  refine J.quietTail 9 mixed (by kernel_rfl) ?_
  refine JQ.op rfl rfl rfl (V.mv rfl rfl) ?_
  refine JQ.op rfl rfl rfl (V.nc rfl rfl) ?_
  refine JQ.op rfl rfl rfl (V.ldB 0 rfl rfl rfl Try.underlying106 ta106 rfl) ?_
  refine JQ.op rfl rfl rfl (V.mv rfl rfl) ?_
  refine JQ.op rfl rfl rfl (V.nc rfl rfl) ?_
  refine JQ.op rfl rfl rfl (V.ldB 0 rfl rfl rfl Try.underlying106 ta106 rfl) ?_
  refine JQ.op rfl rfl rfl (V.shr rfl rfl rfl rfl) ?_
  refine JQ.op rfl rfl rfl (V.ar rfl rfl rfl rfl) ?_
  refine JQ.op rfl rfl rfl (V.nc rfl rfl) ?_
  refine JQ.tail ?_
  refine J.stB 0 rfl rfl rfl rfl rfl rfl ts106 (fun _ _ => rfl) rfl ?_
  obtain ⟨m2, em2, h0⟩ := B.lt h0
  refine J.setEnt 0 rfl (congrArg (fun q => Ent.blk _ ([Value.int .u64 q]) _) em2) ?_
  refine J.nil ?_
  refine J.tN ?_
  refine J.seq ?_
  refine J.quietTail 9 mixed (by kernel_rfl) ?_
  refine JQ.op rfl rfl rfl (V.mv rfl rfl) ?_
  refine JQ.op rfl rfl rfl (V.nc rfl rfl) ?_
  refine JQ.op rfl rfl rfl (V.ldB 0 rfl rfl rfl Try.underlying106 ta106 rfl) ?_
  refine JQ.op rfl rfl rfl (V.mv rfl rfl) ?_
  refine JQ.op rfl rfl rfl (V.nc rfl rfl) ?_
  refine JQ.op rfl rfl rfl (V.ldB 0 rfl rfl rfl Try.underlying106 ta106 rfl) ?_
  refine JQ.op rfl rfl rfl (V.shl rfl rfl rfl rfl) ?_
  refine JQ.op rfl rfl rfl (V.ar rfl rfl rfl rfl) ?_
  refine JQ.op rfl rfl rfl (V.nc rfl rfl) ?_
  refine JQ.tail ?_
  refine J.stB 0 rfl rfl rfl rfl rfl rfl ts106 (fun _ _ => rfl) rfl ?_
  obtain ⟨m3, em3, h0⟩ := B.lt h0
  refine J.setEnt 0 rfl (congrArg (fun q => Ent.blk _ ([Value.int .u64 q]) _) em3) ?_
  refine J.nil ?_
  refine J.tN ?_
  refine J.seq ?_
  refine J.region ?_
  refine J.op rfl rfl rfl (V.mv rfl rfl) ?_
  refine J.op rfl rfl rfl (V.nc rfl rfl) ?_
  refine J.op rfl rfl rfl (V.ldB 0 rfl rfl rfl Try.underlying106 ta106 rfl) ?_
  refine J.op rfl rfl rfl (V.as rfl rfl) ?_
  refine J.nil ?_
  refine J.tN ?_
  refine J.ret ?_
  obtain rfl := B.e h0
  exact J.ret1 rfl rfl fun w H => ⟨(), rfl, H.pick [0] (by decide)⟩

/-! ### slices.breakPatternsOrdered[int8]: function 67 -/
noncomputable def slices_breakPatternsOrdered_int8.b1 (n0_ : Nat) (p1_a : Int) (length_1 : Int) (r6 : Int) : (Int × Int × (Vector Int n0_)) → Option (Step (Int × Int × (Vector Int n0_)) (Int × (Vector Int n0_))) := fun s10 => bif (decide (s10.1 ≤ (IntKind.wrap .i64 ((IntKind.wrap .i64 (p1_a + (IntKind.wrap .i64 ((IntKind.wrap .i64 (Int.tdiv length_1 4)) * 2)))) + 1)))) then ((slices_xorshift_Next.f s10.2.1).bind fun r14 => (some (IntKind.wrap .i64 (Go.bits .and .u64 r14.1 (IntKind.wrap .u64 (r6 - 1))))).bind fun other_17 => (bif (decide (length_1 ≤ other_17)) then ((some (IntKind.wrap .i64 (other_17 - length_1))).bind fun other_21 => some other_21) else (some other_17) : Option (Int)).bind fun y18 => bif (inB (IntKind.wrap .i64 (p1_a + y18)) n0_) then (bif (inB s10.1 n0_) then (bif (inB s10.1 n0_) then ((some (wrA s10.2.2 s10.1 (rdA s10.2.2 (IntKind.wrap .i64 (p1_a + y18))))).bind fun m26 => bif (inB (IntKind.wrap .i64 (p1_a + y18)) n0_) then ((some (wrA m26 (IntKind.wrap .i64 (p1_a + y18)) (rdA s10.2.2 s10.1))).bind fun m28 => (some (IntKind.wrap .i64 (s10.1 + 1))).bind fun idx_29 => some (.next (idx_29, r14.2, m28))) else none) else none) else none) else none) else (some (.done (s10.2.1, s10.2.2)))
noncomputable def slices_breakPatternsOrdered_int8.f (n0_ : Nat) (p0_data : Vector Int n0_) (p1_a : Int) (p2_b : Int) : Option ((Vector Int n0_)) := (some (IntKind.wrap .i64 (p2_b - p1_a))).bind fun length_1 => bif (decide (8 ≤ length_1)) then ((some (IntKind.wrap .u64 length_1)).bind fun m5 => (slices_nextPowerOfTwo.f length_1).bind fun r6 => (some (IntKind.wrap .i64 ((IntKind.wrap .i64 (p1_a + (IntKind.wrap .i64 ((IntKind.wrap .i64 (Int.tdiv length_1 4)) * 2)))) - 1))).bind fun idx_9 => (loopW (slices_breakPatternsOrdered_int8.b1 n0_ p1_a length_1 r6) (idx_9, m5, p0_data)).bind fun y30 => some y30.2) else (some p0_data)
set_option maxRecDepth 100000 in
theorem slices_breakPatternsOrdered_int8.calls (b0_ n0_ T0_ : Nat) (p0_data : Vector Int n0_) (p1_a : Int) (p2_b : Int) (r : (Vector Int n0_)) (w : World) (H0 : Own [b0_] w w [.blk b0_ (encA .i8 p0_data) T0_]) (h0 : slices_breakPatternsOrdered_int8.f n0_ p0_data p1_a p2_b = some r) :
    Calls Try.prog 67 #[.slice (some ⟨b0_, 0, none⟩) n0_ n0_, .int .i64 p1_a, .int .i64 p2_b] w (fun e w' => ∃ _ : Unit, e = .returned (.tuple #[]) ∧ Own [b0_] w w' [.blk b0_ (encA .i8 r) T0_]) := by
  unfold slices_breakPatternsOrdered_int8.f at h0
  replace h0 := B.top h0
  refine calls_of_J (args := [.slice (some ⟨b0_, 0, none⟩) n0_ n0_, .int .i64 p1_a, .int .i64 p2_b]) Try.func67 rfl Try.ntmps67 rfl [(0, .slice (some ⟨b0_, 0, none⟩) n0_ n0_), (1, .int .i64 p1_a), (2, .int .i64 p2_b)] rfl H0 ?_
  refine J.seq ?_
  refine J.region ?_
  refine J.op rfl rfl rfl (V.mv rfl rfl) ?_
  refine J.op rfl rfl rfl (V.mv rfl rfl) ?_
  refine J.op rfl rfl rfl (V.ar rfl rfl rfl rfl) ?_
  refine J.op rfl rfl rfl (V.as rfl rfl) ?_
  obtain ⟨length_1, elength_1, h0⟩ := B.lt h0
  refine J.val (congrArg (Value.int .i64) elength_1) ?_
  refine J.nil ?_
  refine J.tN ?_
  refine J.seq ?_
  refine J.region ?_
  refine J.op rfl rfl rfl (V.mv rfl rfl) ?_
  refine J.op rfl rfl rfl (V.cmp rfl rfl rfl rfl) ?_
  refine J.nil ?_
  refine J.tN ?_
  refine J.cond rfl (fun hB2 => ?_) (fun hB2 => ?_)
  · replace h0 := B.t hB2 h0
    refine J.seq ?_
    refine J.region ?_
    refine J.op rfl rfl rfl (V.mv rfl rfl) ?_
    refine J.op rfl rfl rfl (V.conv rfl rfl Try.underlying3 Try.underlying106) ?_
    refine J.alloc rfl rfl rfl rfl tz106 rfl fun b3 => ?_
    refine J.stB 0 rfl rfl rfl rfl rfl rfl ts106 (fun _ _ => rfl) rfl ?_
    obtain ⟨m5, em5, h0⟩ := B.lt h0
    refine J.setEnt 0 rfl (congrArg (fun q => Ent.blk _ ([Value.int .u64 q]) _) em5) ?_
    refine J.nil ?_
    refine J.tN ?_
    refine J.seq ?_
    refine J.region ?_
    refine J.op rfl rfl rfl (V.mv rfl rfl) ?_
    obtain ⟨r6, hr7, h0⟩ := B.bind h0
    refine J.cl (l := [.tmp 18]) [] [.blk b3 [.int .u64 m5] 106, .blk b0_ (encA .i8 p0_data) T0_] cf77 (wN rfl) rfl rfl rfl rfl rfl rfl (by simp) (fun w H => slices_nextPowerOfTwo.calls length_1 r6 w (Own.refl w)  hr7) fun g8 => ?_
    refine J.op rfl rfl rfl (V.as rfl rfl) ?_
    refine J.nil ?_
    refine J.tN ?_
    refine J.seq ?_
    refine J.region ?_
    refine J.op rfl rfl rfl (V.mv rfl rfl) ?_
    refine J.op rfl rfl rfl (V.mv rfl rfl) ?_
    refine J.op rfl rfl rfl (V.quo rfl rfl rfl rfl) ?_
    refine J.op rfl rfl rfl (V.ar rfl rfl rfl rfl) ?_
    refine J.op rfl rfl rfl (V.ar rfl rfl rfl rfl) ?_
    refine J.op rfl rfl rfl (V.ar rfl rfl rfl rfl) ?_
    refine J.op rfl rfl rfl (V.as rfl rfl) ?_
    obtain ⟨idx_9, eidx_9, h0⟩ := B.lt h0
    refine J.val (congrArg (Value.int .i64) eidx_9) ?_
    refine J.nil ?_
    refine J.tN ?_
    obtain ⟨y30, hy32, h0⟩ := B.bind h0
    refine J.cutQ (γ := Unit) (fun _ => True) (fun gy31 => []) (fun gy31 => [.blk b3 [.int .u64 y30.1] 106, .blk b0_ (encA .i8 y30.2) T0_]) ?_ ?_
    · refine J.block ?_
      refine J.loop (γ := Unit) hy32 (fun s10 g11 => [(0, .slice (some ⟨b0_, 0, none⟩) n0_ n0_), (1, .int .i64 p1_a), (6, .int .i64 length_1), (7, bp b3 0), (8, .int .u64 r6), (9, .int .i64 s10.1)]) (fun s10 g11 => [.blk b3 [.int .u64 s10.2.1] 106, .blk b0_ (encA .i8 s10.2.2) T0_]) () ?_ ?_
      · exact J.keep _ rfl (J.pickE [0, 1] rfl rfl J.here)
      · intro rec12 s10 g11 h1
        unfold slices_breakPatternsOrdered_int8.b1 at h1
        refine J.seq ?_
        refine J.seq ?_
        refine J.region ?_
        refine J.op rfl rfl rfl (V.mv rfl rfl) ?_
        refine J.op rfl rfl rfl (V.mv rfl rfl) ?_
        refine J.op rfl rfl rfl (V.mv rfl rfl) ?_
        refine J.op rfl rfl rfl (V.quo rfl rfl rfl rfl) ?_
        refine J.op rfl rfl rfl (V.ar rfl rfl rfl rfl) ?_
        refine J.op rfl rfl rfl (V.ar rfl rfl rfl rfl) ?_
        refine J.op rfl rfl rfl (V.ar rfl rfl rfl rfl) ?_
        refine J.op rfl rfl rfl (V.cmp rfl rfl rfl rfl) ?_
        refine J.nil ?_
        refine J.tN ?_
        refine J.cond rfl (fun hB13 => ?_) (fun hB13 => ?_)
        · replace h1 := B.t hB13 h1
          refine J.skip ?_
          refine J.tN ?_
          refine J.seq ?_
          refine J.block ?_
          refine J.seq ?_
          refine J.region ?_
          obtain ⟨r14, hr15, h1⟩ := B.bind h1
          refine J.cl (l := [.tmp 7]) [.blk b3 [.int .u64 s10.2.1] 106] [.blk b0_ (encA .i8 s10.2.2) T0_] cf78 (wN rfl) rfl rfl rfl rfl rfl rfl hM1 (fun w H => slices_xorshift_Next.calls b3 s10.2.1 r14 w H.enter1  hr15) fun g16 => ?_
          refine J.op rfl rfl rfl (V.mv rfl rfl) ?_
          refine J.op rfl rfl rfl (V.ar rfl rfl rfl rfl) ?_
          refine J.op rfl rfl rfl (V.ar rfl rfl rfl rfl) ?_
          refine J.op rfl rfl rfl (V.conv rfl rfl Try.underlying48 Try.underlying3) ?_
          refine J.op rfl rfl rfl (V.as rfl rfl) ?_
          obtain ⟨other_17, eother_17, h1⟩ := B.lt h1
          refine J.val (congrArg (Value.int .i64) eother_17) ?_
          refine J.nil ?_
          refine J.tN ?_
          refine J.seq ?_
          obtain ⟨y18, hy22, h1⟩ := B.bind h1
          replace hy22 := B.top hy22
          refine J.cut (γ := Unit) (fun _ => True) (fun gy19 => [(0, .slice (some ⟨b0_, 0, none⟩) n0_ n0_), (1, .int .i64 p1_a), (6, .int .i64 length_1), (7, bp b3 0), (8, .int .u64 r6), (9, .int .i64 s10.1), (10, .int .i64 y18)]) (fun gy19 => [.blk b3 [.int .u64 r14.2] 106, .blk b0_ (encA .i8 s10.2.2) T0_]) ?_ ?_
          · have h2 := hy22
            refine J.seq ?_
            refine J.region ?_
            refine J.op rfl rfl rfl (V.mv rfl rfl) ?_
            refine J.op rfl rfl rfl (V.mv rfl rfl) ?_
            refine J.op rfl rfl rfl (V.cmp rfl rfl rfl rfl) ?_
            refine J.nil ?_
            refine J.tN ?_
            refine J.cond rfl (fun hB20 => ?_) (fun hB20 => ?_)
            · replace h2 := B.t hB20 h2
              refine J.region ?_
              refine J.op rfl rfl rfl (V.mv rfl rfl) ?_
              refine J.op rfl rfl rfl (V.mv rfl rfl) ?_
              refine J.op rfl rfl rfl (V.ar rfl rfl rfl rfl) ?_
              refine J.op rfl rfl rfl (V.as rfl rfl) ?_
              obtain ⟨other_21, eother_21, h2⟩ := B.lt h2
              refine J.val (congrArg (Value.int .i64) eother_21) ?_
              refine J.nil ?_
              obtain rfl := B.e h2
              refine J.tN (J.to () trivial ?_)
              exact J.keep _ rfl (J.pickE [0, 1] rfl rfl J.here)
            · replace h2 := B.f hB20 h2
              refine J.skip ?_
              obtain rfl := B.e h2
              refine J.tN (J.to () trivial ?_)
              exact J.keep _ rfl (J.pickE [0, 1] rfl rfl J.here)
          · intro gy19 _
            refine J.lateW 17 [2, 3, 4, 5, 12, 13, 14] mixed (by kernel_rfl) ?_
            refine JL.op rfl rfl rfl rfl (V.mv rfl rfl) ?_
            refine JL.op rfl rfl rfl rfl (V.mv rfl rfl) ?_
            refine JL.pure rfl rfl rfl (fun w1 => V.mv rfl rfl) ?_
            refine JL.pure rfl rfl rfl (fun w1 => V.mv rfl rfl) ?_
            refine JL.pure rfl rfl rfl (fun w1 => V.mv rfl rfl) ?_
            refine JL.pure rfl rfl rfl (fun w1 => V.ar rfl rfl rfl rfl) ?_
            refine JL.op rfl rfl rfl rfl (V.mv rfl rfl) ?_
            refine JL.op rfl rfl rfl rfl (V.mv rfl rfl) ?_
            refine JL.op rfl rfl rfl rfl (V.mv rfl rfl) ?_
            refine JL.op rfl rfl rfl rfl (V.ar rfl rfl rfl rfl) ?_
            obtain ⟨hC23, h1⟩ := B.chk h1
            refine JL.op rfl rfl rfl rfl (V.ixM rfl rfl rfl tl66 ts22 hC23) ?_
            refine JL.op rfl rfl rfl rfl (V.ldB 1 rfl rfl rfl Try.underlying22 ta22 (encA_get0 .i8 _ hC23)) ?_
            refine JL.pure rfl rfl rfl (fun w1 => V.mv rfl rfl) ?_
            refine JL.pure rfl rfl rfl (fun w1 => V.mv rfl rfl) ?_
            obtain ⟨hC24, h1⟩ := B.chk h1
            refine JL.pure rfl rfl rfl (fun w1 => V.ixM rfl rfl rfl tl66 ts22 hC24) ?_
            refine JL.op rfl rfl rfl rfl (V.ldB 1 rfl rfl rfl Try.underlying22 ta22 (encA_get0 .i8 _ hC24)) ?_
            obtain ⟨hC25, h1⟩ := B.chk h1
            refine JL.op rfl rfl rfl rfl (V.ixM rfl rfl rfl tl66 ts22 hC25) ?_
            refine JL.tail ?_
            refine J.stB 1 rfl rfl rfl rfl rfl rfl ts22 (fun _ _ => rfl) (encA_lt .i8 _ hC25) ?_
            refine J.setEnt 1 rfl (congrArg (fun q => Ent.blk _ q _) (encA_set .i8 _ _ _)) ?_
            obtain ⟨m26, em26, h1⟩ := B.lt h1
            refine J.setEnt 1 rfl (congrArg (fun q => Ent.blk _ (encA .i8 q) _) em26) ?_
            obtain ⟨hC27, h1⟩ := B.chk h1
            refine J.op rfl rfl rfl (V.ixM rfl rfl rfl tl66 ts22 hC27) ?_
            refine J.stB 1 rfl rfl rfl rfl rfl rfl ts22 (fun _ _ => rfl) (encA_lt .i8 _ hC27) ?_
            refine J.setEnt 1 rfl (congrArg (fun q => Ent.blk _ q _) (encA_set .i8 _ _ _)) ?_
            obtain ⟨m28, em28, h1⟩ := B.lt h1
            refine J.setEnt 1 rfl (congrArg (fun q => Ent.blk _ (encA .i8 q) _) em28) ?_
            refine J.nil ?_
            refine J.calm ?_
            refine J.bN ?_
            refine J.tN ?_
            refine J.region ?_
            refine J.op rfl rfl rfl (V.mv rfl rfl) ?_
            refine J.op rfl rfl rfl (V.ar rfl rfl rfl rfl) ?_
            refine J.op rfl rfl rfl (V.as rfl rfl) ?_
            obtain ⟨idx_29, eidx_29, h1⟩ := B.lt h1
            refine J.val (congrArg (Value.int .i64) eidx_29) ?_
            refine J.nil ?_
            refine J.tN (J.next (idx_29, r14.2, m28) () (B.n h1) ?_)
            exact J.keep _ rfl (J.pickE [0, 1] rfl rfl J.here)
        · replace h1 := B.f hB13 h1
          refine J.exit ?_
          refine J.tE ?_
          refine J.tE ?_
          refine J.bE ?_
          obtain rfl := B.d h1
          refine J.tN (J.to () trivial ?_)
          exact J.keep _ rfl (J.pickE [0, 1] rfl rfl J.here)
    · intro gy31 _
      refine J.fin ?_
      obtain rfl := B.e h0
      exact J.ret0 rfl fun w H => ⟨(), rfl, H.pick [1] (by decide)⟩
  · replace h0 := B.f hB2 h0
    refine J.skip ?_
    refine J.fin ?_
    obtain rfl := B.e h0
    exact J.ret0 rfl fun w H => ⟨(), rfl, H.pick [0] (by decide)⟩

/-! ### slices.order2Ordered[int8]: function 82 -/
noncomputable def slices_order2Ordered_int8.f (p0_data : (List Int)) (p1_a : Int) (p2_b : Int) (p3_swaps : Int) : Option (Int × Int × Int) := bif (inB p2_b p0_data.length) then (bif (inB p1_a p0_data.length) then ((cmp_Less_int8.f (rd (eI .i8) p0_data p2_b) (rd (eI .i8) p0_data p1_a)).bind fun r3 => bif r3 then ((some (IntKind.wrap .i64 (p3_swaps + 1))).bind fun m7 => some (p2_b, p1_a, m7)) else (some (p1_a, p2_b, p3_swaps))) else none) else none
set_option maxRecDepth 100000 in
theorem slices_order2Ordered_int8.calls (v0 : Value) (p0_data : (List Int)) (p1_a : Int) (p2_b : Int) (b3_ : Nat) (p3_swaps : Int) (r : Int × Int × Int) (w : World) (H0 : Own [b3_] w w [.blk b3_ [.int .i64 p3_swaps] 3]) (hS0 : SlE [b3_] w v0 22 (eI .i8) p0_data) (h0 : slices_order2Ordered_int8.f p0_data p1_a p2_b p3_swaps = some r) :
    Calls Try.prog 82 #[v0, .int .i64 p1_a, .int .i64 p2_b, bp b3_ 0] w (fun e w' => ∃ _ : Unit, e = .returned (.tuple #[.int .i64 r.1, .int .i64 r.2.1]) ∧ Own [b3_] w w' [.blk b3_ [.int .i64 r.2.2] 3]) := by
  unfold slices_order2Ordered_int8.f at h0
  replace h0 := B.top h0
  refine calls_of_J (args := [v0, .int .i64 p1_a, .int .i64 p2_b, bp b3_ 0]) Try.func82 rfl Try.ntmps82 rfl [(0, v0), (1, .int .i64 p1_a), (2, .int .i64 p2_b), (3, bp b3_ 0)] rfl H0 ?_
  refine J.seq ?_
  refine J.region ?_
  refine J.op rfl rfl rfl (V.as rfl rfl) ?_
  refine J.op rfl rfl rfl (V.as rfl rfl) ?_
  refine J.nil ?_
  refine J.tN ?_
  refine J.seq ?_
  refine J.seq ?_
  refine J.quiet mixed (by kernel_rfl) ?_
  refine JQ.op rfl rfl rfl (V.mv rfl rfl) ?_
  refine JQ.op rfl rfl rfl (V.mv rfl rfl) ?_
  obtain ⟨hC1, h0⟩ := B.chk h0
  refine JQ.op rfl rfl rfl (V.ixS hS0 rfl rfl rfl tl66 ts22 hC1) ?_
  refine JQ.op rfl rfl rfl (V.elS0 hS0 hC1 rfl rfl Try.underlying22 ta22 rfl) ?_
  refine JQ.op rfl rfl rfl (V.mv rfl rfl) ?_
  refine JQ.op rfl rfl rfl (V.mv rfl rfl) ?_
  obtain ⟨hC2, h0⟩ := B.chk h0
  refine JQ.op rfl rfl rfl (V.ixS hS0 rfl rfl rfl tl66 ts22 hC2) ?_
  refine JQ.op rfl rfl rfl (V.elS0 hS0 hC2 rfl rfl Try.underlying22 ta22 rfl) ?_
  obtain ⟨r3, hr4, h0⟩ := B.bind h0
  obtain ⟨_, cf1, cf2, cf3⟩ := cf71
  refine JQ.cl (l := [.tmp 13, .tmp 17]) cf1 cf2 cf3 (wN rfl) rfl rfl rfl rfl rfl (fun w H => cmp_Less_int8.calls (rd (eI .i8) p0_data p2_b) (rd (eI .i8) p0_data p1_a) r3 w (Own.refl w)  hr4) ?_
  refine JQ.nil ?_
  refine J.tN ?_
  refine J.cond rfl (fun hB6 => ?_) (fun hB6 => ?_)
  · replace h0 := B.t hB6 h0
    refine J.seq ?_
    refine J.region ?_
    refine J.op rfl rfl rfl (V.mv rfl rfl) ?_
    refine J.op rfl rfl rfl (V.nc rfl rfl) ?_
    refine J.op rfl rfl rfl (V.ldB 0 rfl rfl rfl Try.underlying3 ta3 rfl) ?_
    refine J.op rfl rfl rfl (V.ar rfl rfl rfl rfl) ?_
    refine J.op rfl rfl rfl (V.nc rfl rfl) ?_
    refine J.stB 0 rfl rfl rfl rfl rfl rfl ts3 (fun _ _ => rfl) rfl ?_
    obtain ⟨m7, em7, h0⟩ := B.lt h0
    refine J.setEnt 0 rfl (congrArg (fun q => Ent.blk _ ([Value.int .i64 q]) _) em7) ?_
    refine J.nil ?_
    refine J.tN ?_
    refine J.seq ?_
    refine J.region ?_
    refine J.op rfl rfl rfl (V.mv rfl rfl) ?_
    refine J.op rfl rfl rfl (V.mv rfl rfl) ?_
    refine J.op rfl rfl rfl (V.as rfl rfl) ?_
    refine J.op rfl rfl rfl (V.as rfl rfl) ?_
    refine J.nil ?_
    refine J.tN ?_
    refine J.ret ?_
    refine J.tR ?_
    obtain rfl := B.e h0
    exact J.ret2 rfl rfl rfl fun w H => ⟨(), rfl, H.pick [0] (by decide)⟩
  · replace h0 := B.f hB6 h0
    refine J.skip ?_
    refine J.tN ?_
    refine J.seq ?_
    refine J.region ?_
    refine J.op rfl rfl rfl (V.mv rfl rfl) ?_
    refine J.op rfl rfl rfl (V.mv rfl rfl) ?_
    refine J.op rfl rfl rfl (V.as rfl rfl) ?_
    refine J.op rfl rfl rfl (V.as rfl rfl) ?_
    refine J.nil ?_
    refine J.tN ?_
    refine J.ret ?_
    obtain rfl := B.e h0
    exact J.ret2 rfl rfl rfl fun w H => ⟨(), rfl, H.pick [0] (by decide)⟩

/-! ### slices.medianOrdered[int8]: function 80 -/
noncomputable def slices_medianOrdered_int8.f (p0_data : (List Int)) (p1_a : Int) (p2_b : Int) (p3_c : Int) (p4_swaps : Int) : Option (Int × Int) := (slices_order2Ordered_int8.f p0_data p1_a p2_b p4_swaps).bind fun r1 => (slices_order2Ordered_int8.f p0_data r1.2.1 p3_c r1.2.2).bind fun r4 => (slices_order2Ordered_int8.f p0_data r1.1 r4.1 r4.2.2).bind fun r7 => some (r7.2.1, r7.2.2)
set_option maxRecDepth 100000 in
theorem slices_medianOrdered_int8.calls (v0 : Value) (p0_data : (List Int)) (p1_a : Int) (p2_b : Int) (p3_c : Int) (b4_ : Nat) (p4_swaps : Int) (r : Int × Int) (w : World) (H0 : Own [b4_] w w [.blk b4_ [.int .i64 p4_swaps] 3]) (hS0 : SlE [b4_] w v0 22 (eI .i8) p0_data) (h0 : slices_medianOrdered_int8.f p0_data p1_a p2_b p3_c p4_swaps = some r) :
    Calls Try.prog 80 #[v0, .int .i64 p1_a, .int .i64 p2_b, .int .i64 p3_c, bp b4_ 0] w (fun e w' => ∃ _ : Unit, e = .returned (.int .i64 r.1) ∧ Own [b4_] w w' [.blk b4_ [.int .i64 r.2] 3]) := by
  unfold slices_medianOrdered_int8.f at h0
  replace h0 := B.top h0
  refine calls_of_J (args := [v0, .int .i64 p1_a, .int .i64 p2_b, .int .i64 p3_c, bp b4_ 0]) Try.func80 rfl Try.ntmps80 rfl [(0, v0), (1, .int .i64 p1_a), (2, .int .i64 p2_b), (3, .int .i64 p3_c), (4, bp b4_ 0)] rfl H0 ?_
  refine J.seq ?_
  refine J.region ?_
  refine J.op rfl rfl rfl (V.as rfl rfl) ?_
  refine J.nil ?_
  refine J.tN ?_
  refine J.seq ?_
  refine J.region ?_
  refine J.op rfl rfl rfl (V.mv rfl rfl) ?_
  refine J.op rfl rfl rfl (V.mv rfl rfl) ?_
  refine J.op rfl rfl rfl (V.mv rfl rfl) ?_
  refine J.op rfl rfl rfl (V.mv rfl rfl) ?_
  obtain ⟨r1, hr2, h0⟩ := B.bind h0
  refine J.cl (l := [.tmp 12, .tmp 13, .tmp 14, .tmp 15]) [.blk b4_ [.int .i64 p4_swaps] 3] [] cf82 (wN rfl) rfl rfl rfl rfl rfl rfl hM1 (fun w H => slices_order2Ordered_int8.calls v0 p0_data p1_a p2_b b4_ p4_swaps r1 w H.enter1 (Sl.later1 hS0 H) hr2) fun g3 => ?_
  refine J.op rfl rfl rfl (V.mv rfl rfl) ?_
  refine J.op rfl rfl rfl (V.ex rfl rfl rfl) ?_
  refine J.op rfl rfl rfl (V.ex rfl rfl rfl) ?_
  refine J.op rfl rfl rfl (V.as rfl rfl) ?_
  refine J.op rfl rfl rfl (V.as rfl rfl) ?_
  refine J.nil ?_
  refine J.tN ?_
  refine J.seq ?_
  refine J.region ?_
  refine J.op rfl rfl rfl (V.mv rfl rfl) ?_
  refine J.op rfl rfl rfl (V.mv rfl rfl) ?_
  refine J.op rfl rfl rfl (V.mv rfl rfl) ?_
  refine J.op rfl rfl rfl (V.mv rfl rfl) ?_
  obtain ⟨r4, hr5, h0⟩ := B.bind h0
  refine J.cl (l := [.tmp 20, .tmp 21, .tmp 22, .tmp 23]) [.blk b4_ [.int .i64 r1.2.2] 3] [] cf82 (wN rfl) rfl rfl rfl rfl rfl rfl hM1 (fun w H => slices_order2Ordered_int8.calls v0 p0_data r1.2.1 p3_c b4_ r1.2.2 r4 w H.enter1 (Sl.later1 hS0 H) hr5) fun g6 => ?_
  refine J.op rfl rfl rfl (V.mv rfl rfl) ?_
  refine J.op rfl rfl rfl (V.ex rfl rfl rfl) ?_
  refine J.op rfl rfl rfl (V.ex rfl rfl rfl) ?_
  refine J.op rfl rfl rfl (V.as rfl rfl) ?_
  refine J.op rfl rfl rfl (V.as rfl rfl) ?_
  refine J.nil ?_
  refine J.tN ?_
  refine J.seq ?_
  refine J.region ?_
  refine J.op rfl rfl rfl (V.mv rfl rfl) ?_
  refine J.op rfl rfl rfl (V.mv rfl rfl) ?_
  refine J.op rfl rfl rfl (V.mv rfl rfl) ?_
  refine J.op rfl rfl rfl (V.mv rfl rfl) ?_
  obtain ⟨r7, hr8, h0⟩ := B.bind h0
  refine J.cl (l := [.tmp 28, .tmp 29, .tmp 30, .tmp 31]) [.blk b4_ [.int .i64 r4.2.2] 3] [] cf82 (wN rfl) rfl rfl rfl rfl rfl rfl hM1 (fun w H => slices_order2Ordered_int8.calls v0 p0_data r1.1 r4.1 b4_ r4.2.2 r7 w H.enter1 (Sl.later1 hS0 H) hr8) fun g9 => ?_
  refine J.op rfl rfl rfl (V.mv rfl rfl) ?_
  refine J.op rfl rfl rfl (V.ex rfl rfl rfl) ?_
  refine J.op rfl rfl rfl (V.ex rfl rfl rfl) ?_
  refine J.op rfl rfl rfl (V.as rfl rfl) ?_
  refine J.op rfl rfl rfl (V.as rfl rfl) ?_
  refine J.nil ?_
  refine J.tN ?_
  refine J.seq ?_
  refine J.region ?_
  refine J.op rfl rfl rfl (V.mv rfl rfl) ?_
  refine J.op rfl rfl rfl (V.as rfl rfl) ?_
  refine J.nil ?_
  refine J.tN ?_
  refine J.ret ?_
  obtain rfl := B.e h0
  exact J.ret1 rfl rfl fun w H => ⟨(), rfl, H.pick [0] (by decide)⟩

/-! ### slices.medianAdjacentOrdered[int8]: function 79 -/
noncomputable def slices_medianAdjacentOrdered_int8.f (p0_data : (List Int)) (p1_a : Int) (p2_swaps : Int) : Option (Int × Int) := (slices_medianOrdered_int8.f p0_data (IntKind.wrap .i64 (p1_a - 1)) p1_a (IntKind.wrap .i64 (p1_a + 1)) p2_swaps).bind fun r1 => some (r1.1, r1.2)
set_option maxRecDepth 100000 in
theorem slices_medianAdjacentOrdered_int8.calls (v0 : Value) (p0_data : (List Int)) (p1_a : Int) (b2_ : Nat) (p2_swaps : Int) (r : Int × Int) (w : World) (H0 : Own [b2_] w w [.blk b2_ [.int .i64 p2_swaps] 3]) (hS0 : SlE [b2_] w v0 22 (eI .i8) p0_data) (h0 : slices_medianAdjacentOrdered_int8.f p0_data p1_a p2_swaps = some r) :
    Calls Try.prog 79 #[v0, .int .i64 p1_a, bp b2_ 0] w (fun e w' => ∃ _ : Unit, e = .returned (.int .i64 r.1) ∧ Own [b2_] w w' [.blk b2_ [.int .i64 r.2] 3]) := by
  unfold slices_medianAdjacentOrdered_int8.f at h0
  replace h0 := B.top h0
  refine calls_of_J (args := [v0, .int .i64 p1_a, bp b2_ 0]) Try.func79 rfl Try.ntmps79 rfl [(0, v0), (1, .int .i64 p1_a), (2, bp b2_ 0)] rfl H0 ?_
  refine J.seq ?_
  refine J.region ?_
  refine J.op rfl rfl rfl (V.as rfl rfl) ?_
  refine J.nil ?_
  refine J.tN ?_
  refine J.seq ?_
  refine J.region ?_
  refine J.op rfl rfl rfl (V.mv rfl rfl) ?_
  refine J.op rfl rfl rfl (V.mv rfl rfl) ?_
  refine J.op rfl rfl rfl (V.ar rfl rfl rfl rfl) ?_
  refine J.op rfl rfl rfl (V.mv rfl rfl) ?_
  refine J.op rfl rfl rfl (V.mv rfl rfl) ?_
  refine J.op rfl rfl rfl (V.ar rfl rfl rfl rfl) ?_
  refine J.op rfl rfl rfl (V.mv rfl rfl) ?_
  obtain ⟨r1, hr2, h0⟩ := B.bind h0
  refine J.cl (l := [.tmp 7, .tmp 9, .tmp 10, .tmp 12, .tmp 13]) [.blk b2_ [.int .i64 p2_swaps] 3] [] cf80 (wN rfl) rfl rfl rfl rfl rfl rfl hM1 (fun w H => slices_medianOrdered_int8.calls v0 p0_data (IntKind.wrap .i64 (p1_a - 1)) p1_a (IntKind.wrap .i64 (p1_a + 1)) b2_ p2_swaps r1 w H.enter1 (Sl.later1 hS0 H) hr2) fun g3 => ?_
  refine J.op rfl rfl rfl (V.as rfl rfl) ?_
  refine J.nil ?_
  refine J.tN ?_
  refine J.ret ?_
  obtain rfl := B.e h0
  exact J.ret1 rfl rfl fun w H => ⟨(), rfl, H.pick [0] (by decide)⟩

/-! ### slices.choosePivotOrdered[int8]: function 68 -/
noncomputable def slices_choosePivotOrdered_int8.f (p0_data : (List Int)) (p1_a : Int) (p2_b : Int) : Option (Int × Int) := (some (IntKind.wrap .i64 (p2_b - p1_a))).bind fun l_1 => (some (IntKind.wrap .i64 (p1_a + (IntKind.wrap .i64 ((IntKind.wrap .i64 (Int.tdiv l_1 4)) * 1))))).bind fun i_4 => (some (IntKind.wrap .i64 (p1_a + (IntKind.wrap .i64 ((IntKind.wrap .i64 (Int.tdiv l_1 4)) * 2))))).bind fun j_5 => (some (IntKind.wrap .i64 (p1_a + (IntKind.wrap .i64 ((IntKind.wrap .i64 (Int.tdiv l_1 4)) * 3))))).bind fun k_6 => (bif (decide (8 ≤ l_1)) then ((bif (decide (50 ≤ l_1)) then ((slices_medianAdjacentOrdered_int8.f p0_data i_4 0).bind fun r13 => (slices_medianAdjacentOrdered_int8.f p0_data j_5 r13.2).bind fun r16 => (slices_medianAdjacentOrdered_int8.f p0_data k_6 r16.2).bind fun r19 => some (r13.1, r16.1, r19.1, r19.2)) else (some (i_4, j_5, k_6, 0)) : Option (Int × Int × Int × Int)).bind fun y10 => (slices_medianOrdered_int8.f p0_data y10.1 y10.2.1 y10.2.2.1 y10.2.2.2).bind fun r23 => some (r23.1, r23.2)) else (some (j_5, 0)) : Option (Int × Int)).bind fun y7 => (some (y7.2 == 0)).bind fun t27 => bif t27 then (some (y7.1, 1)) else ((some (y7.2 == 12)).bind fun t29 => bif t29 then (some (y7.1, 2)) else (some (y7.1, 0)))
set_option maxRecDepth 100000 in
theorem slices_choosePivotOrdered_int8.calls (v0 : Value) (p0_data : (List Int)) (p1_a : Int) (p2_b : Int) (r : Int × Int) (w : World) (H0 : Own [] w w []) (hS0 : SlE [] w v0 22 (eI .i8) p0_data) (h0 : slices_choosePivotOrdered_int8.f p0_data p1_a p2_b = some r) :
    Calls Try.prog 68 #[v0, .int .i64 p1_a, .int .i64 p2_b] w (fun e w' => ∃ _ : Unit, e = .returned (.tuple #[.int .i64 r.1, .int .i64 r.2]) ∧ Own [] w w' []) := by
  unfold slices_choosePivotOrdered_int8.f at h0
  replace h0 := B.top h0
  refine calls_of_J (args := [v0, .int .i64 p1_a, .int .i64 p2_b]) Try.func68 rfl Try.ntmps68 rfl [(0, v0), (1, .int .i64 p1_a), (2, .int .i64 p2_b)] rfl H0 ?_
  refine J.seq ?_
  refine J.region ?_
  refine J.op rfl rfl rfl (V.as rfl rfl) ?_
  refine J.op rfl rfl rfl (V.as rfl rfl) ?_
  refine J.nil ?_
  refine J.tN ?_
  refine J.seq ?_
  refine J.region ?_
  refine J.op rfl rfl rfl (V.mv rfl rfl) ?_
  refine J.op rfl rfl rfl (V.mv rfl rfl) ?_
  refine J.op rfl rfl rfl (V.ar rfl rfl rfl rfl) ?_
  refine J.op rfl rfl rfl (V.as rfl rfl) ?_
  obtain ⟨l_1, el_1, h0⟩ := B.lt h0
  refine J.val (congrArg (Value.int .i64) el_1) ?_
  refine J.nil ?_
  refine J.tN ?_
  refine J.seq ?_
  refine J.region ?_
  refine J.alloc rfl rfl rfl rfl tz3 rfl fun b2 => ?_
  refine J.nil ?_
  refine J.tN ?_
  refine J.seq ?_
  refine J.region ?_
  refine J.op rfl rfl rfl (V.mv rfl rfl) ?_
  refine J.op rfl rfl rfl (V.mv rfl rfl) ?_
  refine J.op rfl rfl rfl (V.quo rfl rfl rfl rfl) ?_
  refine J.op rfl rfl rfl (V.ar rfl rfl rfl rfl) ?_
  refine J.op rfl rfl rfl (V.ar rfl rfl rfl rfl) ?_
  refine J.op rfl rfl rfl (V.as rfl rfl) ?_
  obtain ⟨i_4, ei_4, h0⟩ := B.lt h0
  refine J.val (congrArg (Value.int .i64) ei_4) ?_
  refine J.nil ?_
  refine J.tN ?_
  refine J.seq ?_
  refine J.region ?_
  refine J.op rfl rfl rfl (V.mv rfl rfl) ?_
  refine J.op rfl rfl rfl (V.mv rfl rfl) ?_
  refine J.op rfl rfl rfl (V.quo rfl rfl rfl rfl) ?_
  refine J.op rfl rfl rfl (V.ar rfl rfl rfl rfl) ?_
  refine J.op rfl rfl rfl (V.ar rfl rfl rfl rfl) ?_
  refine J.op rfl rfl rfl (V.as rfl rfl) ?_
  obtain ⟨j_5, ej_5, h0⟩ := B.lt h0
  refine J.val (congrArg (Value.int .i64) ej_5) ?_
  refine J.nil ?_
  refine J.tN ?_
  refine J.seq ?_
  refine J.region ?_
  refine J.op rfl rfl rfl (V.mv rfl rfl) ?_
  refine J.op rfl rfl rfl (V.mv rfl rfl) ?_
  refine J.op rfl rfl rfl (V.quo rfl rfl rfl rfl) ?_
  refine J.op rfl rfl rfl (V.ar rfl rfl rfl rfl) ?_
  refine J.op rfl rfl rfl (V.ar rfl rfl rfl rfl) ?_
  refine J.op rfl rfl rfl (V.as rfl rfl) ?_
  obtain ⟨k_6, ek_6, h0⟩ := B.lt h0
  refine J.val (congrArg (Value.int .i64) ek_6) ?_
  refine J.nil ?_
  refine J.tN ?_
  refine J.seq ?_
  obtain ⟨y7, hy26, h0⟩ := B.bind h0
  replace hy26 := B.top hy26
  refine J.cut (γ := Unit) (fun _ => True) (fun gy8 => [(9, bp b2 0), (11, .int .i64 y7.1)]) (fun gy8 => [.blk b2 [.int .i64 y7.2] 3]) ?_ ?_
  · have h1 := hy26
    refine J.seq ?_
    refine J.region ?_
    refine J.op rfl rfl rfl (V.mv rfl rfl) ?_
    refine J.op rfl rfl rfl (V.cmp rfl rfl rfl rfl) ?_
    refine J.nil ?_
    refine J.tN ?_
    refine J.cond rfl (fun hB9 => ?_) (fun hB9 => ?_)
    · replace h1 := B.t hB9 h1
      refine J.seq ?_
      obtain ⟨y10, hy22, h1⟩ := B.bind h1
      replace hy22 := B.top hy22
      refine J.cut (γ := Unit) (fun _ => True) (fun gy11 => [(0, v0), (9, bp b2 0), (10, .int .i64 y10.1), (11, .int .i64 y10.2.1), (12, .int .i64 y10.2.2.1)]) (fun gy11 => [.blk b2 [.int .i64 y10.2.2.2] 3]) ?_ ?_
      · have h2 := hy22
        refine J.seq ?_
        refine J.region ?_
        refine J.op rfl rfl rfl (V.mv rfl rfl) ?_
        refine J.op rfl rfl rfl (V.cmp rfl rfl rfl rfl) ?_
        refine J.nil ?_
        refine J.tN ?_
        refine J.cond rfl (fun hB12 => ?_) (fun hB12 => ?_)
        · replace h2 := B.t hB12 h2
          refine J.seq ?_
          refine J.region ?_
          refine J.op rfl rfl rfl (V.mv rfl rfl) ?_
          refine J.op rfl rfl rfl (V.mv rfl rfl) ?_
          obtain ⟨r13, hr14, h2⟩ := B.bind h2
          refine J.cl (l := [.tmp 35, .tmp 36, .tmp 9]) [.blk b2 [.int .i64 0] 3] [] cf79 (wN rfl) rfl rfl rfl rfl rfl rfl hM1 (fun w H => slices_medianAdjacentOrdered_int8.calls v0 p0_data i_4 b2 0 r13 w H.enter1 (Sl.later1 hS0 H) hr14) fun g15 => ?_
          refine J.op rfl rfl rfl (V.as rfl rfl) ?_
          refine J.nil ?_
          refine J.tN ?_
          refine J.seq ?_
          refine J.region ?_
          refine J.op rfl rfl rfl (V.mv rfl rfl) ?_
          refine J.op rfl rfl rfl (V.mv rfl rfl) ?_
          obtain ⟨r16, hr17, h2⟩ := B.bind h2
          refine J.cl (l := [.tmp 38, .tmp 39, .tmp 9]) [.blk b2 [.int .i64 r13.2] 3] [] cf79 (wN rfl) rfl rfl rfl rfl rfl rfl hM1 (fun w H => slices_medianAdjacentOrdered_int8.calls v0 p0_data j_5 b2 r13.2 r16 w H.enter1 (Sl.later1 hS0 H) hr17) fun g18 => ?_
          refine J.op rfl rfl rfl (V.as rfl rfl) ?_
          refine J.nil ?_
          refine J.tN ?_
          refine J.region ?_
          refine J.op rfl rfl rfl (V.mv rfl rfl) ?_
          refine J.op rfl rfl rfl (V.mv rfl rfl) ?_
          obtain ⟨r19, hr20, h2⟩ := B.bind h2
          refine J.cl (l := [.tmp 41, .tmp 42, .tmp 9]) [.blk b2 [.int .i64 r16.2] 3] [] cf79 (wN rfl) rfl rfl rfl rfl rfl rfl hM1 (fun w H => slices_medianAdjacentOrdered_int8.calls v0 p0_data k_6 b2 r16.2 r19 w H.enter1 (Sl.later1 hS0 H) hr20) fun g21 => ?_
          refine J.op rfl rfl rfl (V.as rfl rfl) ?_
          refine J.nil ?_
          obtain rfl := B.e h2
          refine J.tN (J.to () trivial ?_)
          exact J.keep _ rfl (J.pickE [0] rfl rfl J.here)
        · replace h2 := B.f hB12 h2
          refine J.skip ?_
          obtain rfl := B.e h2
          refine J.tN (J.to () trivial ?_)
          exact J.keep _ rfl (J.pickE [0] rfl rfl J.here)
      · intro gy11 _
        refine J.region ?_
        refine J.op rfl rfl rfl (V.mv rfl rfl) ?_
        refine J.op rfl rfl rfl (V.mv rfl rfl) ?_
        refine J.op rfl rfl rfl (V.mv rfl rfl) ?_
        refine J.op rfl rfl rfl (V.mv rfl rfl) ?_
        obtain ⟨r23, hr24, h1⟩ := B.bind h1
        refine J.cl (l := [.tmp 44, .tmp 45, .tmp 46, .tmp 47, .tmp 9]) [.blk b2 [.int .i64 y10.2.2.2] 3] [] cf80 (wN rfl) rfl rfl rfl rfl rfl rfl hM1 (fun w H => slices_medianOrdered_int8.calls v0 p0_data y10.1 y10.2.1 y10.2.2.1 b2 y10.2.2.2 r23 w H.enter1 (Sl.later1 hS0 H) hr24) fun g25 => ?_
        refine J.op rfl rfl rfl (V.as rfl rfl) ?_
        refine J.nil ?_
        obtain rfl := B.e h1
        refine J.tN (J.to () trivial ?_)
        exact J.keep _ rfl (J.pickE [0] rfl rfl J.here)
    · replace h1 := B.f hB9 h1
      refine J.skip ?_
      obtain rfl := B.e h1
      refine J.tN (J.to () trivial ?_)
      exact J.keep _ rfl (J.pickE [0] rfl rfl J.here)
  · intro gy8 _
    refine J.seq ?_
    refine J.region ?_
    refine J.op rfl rfl rfl (V.ldB 0 rfl rfl rfl Try.underlying3 ta3 rfl) ?_
    refine J.nil ?_
    refine J.tN ?_
    refine J.block ?_
    refine J.seq ?_
    refine J.region ?_
    refine J.op rfl rfl rfl (V.cmp rfl rfl rfl rfl) ?_
    refine J.op rfl rfl rfl (V.as rfl rfl) ?_
    obtain ⟨t27, et27, h0⟩ := B.lt h0
    refine J.val (congrArg (Value.bool) et27) ?_
    refine J.nil ?_
    refine J.tN ?_
    refine J.cond rfl (fun hB28 => ?_) (fun hB28 => ?_)
    · replace h0 := B.t hB28 h0
      refine J.seq ?_
      refine J.region ?_
      refine J.op rfl rfl rfl (V.mv rfl rfl) ?_
      refine J.op rfl rfl rfl (V.as rfl rfl) ?_
      refine J.op rfl rfl rfl (V.as rfl rfl) ?_
      refine J.nil ?_
      refine J.tN ?_
      refine J.ret ?_
      refine J.bR ?_
      obtain rfl := B.e h0
      exact J.ret2 rfl rfl rfl fun w H => ⟨(), rfl, H.pick [] (by decide)⟩
    · replace h0 := B.f hB28 h0
      refine J.seq ?_
      refine J.region ?_
      refine J.op rfl rfl rfl (V.cmp rfl rfl rfl rfl) ?_
      refine J.op rfl rfl rfl (V.as rfl rfl) ?_
      obtain ⟨t29, et29, h0⟩ := B.lt h0
      refine J.val (congrArg (Value.bool) et29) ?_
      refine J.nil ?_
      refine J.tN ?_
      refine J.cond rfl (fun hB30 => ?_) (fun hB30 => ?_)
      · replace h0 := B.t hB30 h0
        refine J.seq ?_
        refine J.region ?_
        refine J.op rfl rfl rfl (V.mv rfl rfl) ?_
        refine J.op rfl rfl rfl (V.as rfl rfl) ?_
        refine J.op rfl rfl rfl (V.as rfl rfl) ?_
        refine J.nil ?_
        refine J.tN ?_
        refine J.ret ?_
        refine J.bR ?_
        obtain rfl := B.e h0
        exact J.ret2 rfl rfl rfl fun w H => ⟨(), rfl, H.pick [] (by decide)⟩
      · replace h0 := B.f hB30 h0
        refine J.seq ?_
        refine J.region ?_
        refine J.op rfl rfl rfl (V.mv rfl rfl) ?_
        refine J.op rfl rfl rfl (V.as rfl rfl) ?_
        refine J.op rfl rfl rfl (V.as rfl rfl) ?_
        refine J.nil ?_
        refine J.tN ?_
        refine J.ret ?_
        refine J.bR ?_
        obtain rfl := B.e h0
        exact J.ret2 rfl rfl rfl fun w H => ⟨(), rfl, H.pick [] (by decide)⟩

end Go.Proofs.Ytopmellnegcfpaa
