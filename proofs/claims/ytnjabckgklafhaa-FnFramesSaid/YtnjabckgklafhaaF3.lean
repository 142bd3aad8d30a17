/- Go functions as Lean functions, and that each call of theirs comes to just that: by a program written for this work (walk.py). No condition. -/
import Derived.Test.YtnjabckgklafhaaF2
namespace Go.Proofs.Ytnjabckgklafhaa
open Go Go.RowKit G
set_option linter.unusedVariables false

/-! ### spec.l03Cells: function 50 -/
noncomputable def spec_l03Cells.b1 (p0_s : spec_l00Src) : (Int × (Vector Int 4) × Int × Int) → Option (Step (Int × (Vector Int 4) × Int × Int) ((Vector Int 4) × Int × Int)) := fun s9 => bif (decide (s9.1 < 4)) then ((spec_l00Src_pick.f (⟨p0_s.code, s9.2.2.1, s9.2.2.2⟩ : spec_l00Src) 256).bind fun r13 => bif (inB s9.1 4) then ((some (wrA s9.2.1 s9.1 (IntKind.wrap .i16 r13.1))).bind fun m17 => (some (IntKind.wrap .i64 (s9.1 + 1))).bind fun i_18 => some (.next (i_18, m17, r13.2.at_, r13.2.seed))) else none) else (some (.done (s9.2.1, s9.2.2.1, s9.2.2.2)))
noncomputable def spec_l03Cells.b2 (y19 : (Vector Int 4) × Int × Int) : (Int × (Vector Int 64)) → Option (Step (Int × (Vector Int 64)) ((Vector Int 64))) := fun s22 => bif (decide (s22.1 < 64)) then (bif (inB (IntKind.wrap .i64 ((IntKind.wrap .i64 (Int.tdiv (Int.tmod s22.1 8) 4)) + (IntKind.wrap .i64 ((IntKind.wrap .i64 (Int.tdiv s22.1 32)) * 2)))) 4) then (bif (inB s22.1 64) then ((some (wrA s22.2 s22.1 (rdA y19.1 (IntKind.wrap .i64 ((IntKind.wrap .i64 (Int.tdiv (Int.tmod s22.1 8) 4)) + (IntKind.wrap .i64 ((IntKind.wrap .i64 (Int.tdiv s22.1 32)) * 2))))))).bind fun m28 => (some (IntKind.wrap .i64 (s22.1 + 1))).bind fun k_29 => some (.next (k_29, m28))) else none) else none) else (some (.done s22.2))
noncomputable def spec_l03Cells.b3 (p0_s : spec_l00Src) : (Int × Int × Int × (Vector Int 64)) → Option (Step (Int × Int × Int × (Vector Int 64)) (Int × Int × (Vector Int 64))) := fun s36 => bif (decide (0 < s36.1)) then ((spec_l00Src_pick.f (⟨p0_s.code, s36.2.1, s36.2.2.1⟩ : spec_l00Src) 64).bind fun r40 => (spec_l00Src_pick.f (⟨p0_s.code, r40.2.at_, r40.2.seed⟩ : spec_l00Src) 401).bind fun r43 => bif (inB r40.1 64) then ((some (wrA s36.2.2.2 r40.1 (IntKind.wrap .i16 r43.1))).bind fun m47 => (some (IntKind.wrap .i64 (s36.1 - 1))).bind fun k_48 => some (.next (k_48, r43.2.at_, r43.2.seed, m47))) else none) else (some (.done (s36.2.1, s36.2.2.1, s36.2.2.2)))
noncomputable def spec_l03Cells.f (p0_s : spec_l00Src) : Option ((Vector Int 64) × spec_l00Src) := (some (zA 64)).bind fun m5 => (some (zA 4)).bind fun m8 => (loopW (spec_l03Cells.b1 p0_s) (0, m8, p0_s.at_, p0_s.seed)).bind fun y19 => (loopW (spec_l03Cells.b2 y19) (0, m5)).bind fun y30 => (spec_l00Src_pick.f (⟨p0_s.code, y19.2.1, y19.2.2⟩ : spec_l00Src) 4).bind fun r33 => (loopW (spec_l03Cells.b3 p0_s) (r33.1, r33.2.at_, r33.2.seed, y30)).bind fun y49 => some (y49.2.2, (⟨p0_s.code, y49.1, y49.2.1⟩ : spec_l00Src))
set_option maxRecDepth 100000 in
theorem spec_l03Cells.calls (b0_ : Nat) (p0_s : spec_l00Src) (v0_code : Value) (r : (Vector Int 64) × spec_l00Src) (w : World) (H0 : Own (Mof [.blk b0_ [v0_code, .int .i64 p0_s.at_, .int .u64 p0_s.seed] 79]) w w [.blk b0_ [v0_code, .int .i64 p0_s.at_, .int .u64 p0_s.seed] 79]) (hS0_code : SlE (Mof [.blk b0_ [v0_code, .int .i64 p0_s.at_, .int .u64 p0_s.seed] 79]) w v0_code 5 (eI .u8) p0_s.code) (h0 : spec_l03Cells.f p0_s = some r) :
    Calls Try.prog 50 #[bp b0_ 0] w (fun e w' => ∃ _ : Unit, e = .returned (.agg (encA .i16 r.1).toArray) ∧ Own (Mof [.blk b0_ [v0_code, .int .i64 p0_s.at_, .int .u64 p0_s.seed] 79]) w w' [.blk b0_ [v0_code, .int .i64 r.2.at_, .int .u64 r.2.seed] 79]) := by
  unfold spec_l03Cells.f at h0
  replace h0 := B.top h0
  refine calls_of_J (args := [bp b0_ 0]) Try.func50 rfl Try.ntmps50 rfl [(0, bp b0_ 0)] rfl H0 ?_
  refine J.seq ?_
  refine J.region ?_
  refine J.alloc rfl rfl rfl rfl tz59 rfl fun b1 => ?_
  refine J.nil ?_
  refine J.tN ?_
  refine J.seq ?_
  refine J.region ?_
  refine J.op rfl rfl rfl (V.bd (l := []) (v := .agg (encA .i16 (zA 64)).toArray) rfl rfl (fun w H => by kernel_rfl)) ?_
  refine J.alloc rfl rfl rfl rfl tz59 rfl fun b3 => ?_
  refine J.stW (cs' := encA .i16 (zA 64)) 0 rfl rfl rfl rfl rfl rfl ts59 rfl (fun _ _ => encA_one .i16 _) (encA_len _ _) (encA_len _ _) ?_
  obtain ⟨m5, em5, h0⟩ := B.lt h0
  refine J.setEnt 0 rfl (congrArg (fun q => Ent.blk _ (encA .i16 q) _) em5) ?_
  refine J.nil ?_
  refine J.tN ?_
  refine J.seq ?_
  refine J.region ?_
  refine J.op rfl rfl rfl (V.bd (l := []) (v := .agg (encA .i16 (zA 4)).toArray) rfl rfl (fun w H => by kernel_rfl)) ?_
  refine J.alloc rfl rfl rfl rfl tz86 rfl fun b6 => ?_
  refine J.stW (cs' := encA .i16 (zA 4)) 0 rfl rfl rfl rfl rfl rfl ts86 rfl (fun _ _ => encA_one .i16 _) (encA_len _ _) (encA_len _ _) ?_
  obtain ⟨m8, em8, h0⟩ := B.lt h0
  refine J.setEnt 0 rfl (congrArg (fun q => Ent.blk _ (encA .i16 q) _) em8) ?_
  refine J.nil ?_
  refine J.tN ?_
  refine J.seq ?_
  refine J.seq ?_
  refine J.region ?_
  refine J.op rfl rfl rfl (V.as rfl rfl) ?_
  refine J.nil ?_
  refine J.tN ?_
  obtain ⟨y19, hy21, h0⟩ := B.bind h0
  refine J.cutQ (γ := Unit) (fun _ => True) (fun gy20 => [(0, bp b0_ 0), (2, bp b1 0), (3, bp b3 0), (4, bp b6 0)]) (fun gy20 => [.blk b6 (encA .i16 y19.1) 86, .blk b3 (encA .i16 m5) 59, .blk b1 (encA .i16 (zA 64)) 59, .blk b0_ [v0_code, .int .i64 y19.2.1, .int .u64 y19.2.2] 79]) ?_ ?_
  · refine J.block ?_
    refine J.loop (γ := Unit) hy21 (fun s9 g10 => [(0, bp b0_ 0), (2, bp b1 0), (3, bp b3 0), (4, bp b6 0), (5, .int .i64 s9.1)]) (fun s9 g10 => [.blk b6 (encA .i16 s9.2.1) 86, .blk b3 (encA .i16 m5) 59, .blk b1 (encA .i16 (zA 64)) 59, .blk b0_ [v0_code, .int .i64 s9.2.2.1, .int .u64 s9.2.2.2] 79]) () ?_ ?_
    · exact J.keep _ rfl (J.pickE [0, 1, 2, 3] rfl rfl J.here)
    · intro rec11 s9 g10 h1
      unfold spec_l03Cells.b1 at h1
      refine J.seq ?_
      refine J.seq ?_
      refine J.region ?_
      refine J.op rfl rfl rfl (V.mv rfl rfl) ?_
      refine J.op rfl rfl rfl (V.cmp rfl rfl rfl rfl) ?_
      refine J.nil ?_
      refine J.tN ?_
      refine J.cond rfl (fun hB12 => ?_) (fun hB12 => ?_)
      · replace h1 := B.t hB12 h1
        refine J.skip ?_
        refine J.tN ?_
        refine J.seq ?_
        refine J.block ?_
        refine J.region ?_
        refine J.op rfl rfl rfl (V.mv rfl rfl) ?_
        refine J.op rfl rfl rfl (V.mv rfl rfl) ?_
        refine J.pickE [3, 0, 1, 2] (es' := [.blk b0_ [v0_code, .int .i64 s9.2.2.1, .int .u64 s9.2.2.2] 79, .blk b6 (encA .i16 s9.2.1) 86, .blk b3 (encA .i16 m5) 59, .blk b1 (encA .i16 (zA 64)) 59]) rfl rfl ?_
        obtain ⟨r13, hr14, h1⟩ := B.bind h1
        refine J.clA (l := [.tmp 16, .const (.int .i64 256)]) [.blk b0_ [v0_code, .int .i64 s9.2.2.1, .int .u64 s9.2.2.2] 79] [.blk b6 (encA .i16 s9.2.1) 86, .blk b3 (encA .i16 m5) 59, .blk b1 (encA .i16 (zA 64)) 59] cf43 (wN rfl) rfl rfl rfl rfl rfl rfl (fun w H => spec_l00Src_pick.calls b0_ (⟨p0_s.code, s9.2.2.1, s9.2.2.2⟩ : spec_l00Src) v0_code 256 r13 w H.enterA (Sl.laterA hS0_code H) hr14) fun g15 => ?_
        refine J.op rfl rfl rfl (V.conv rfl rfl Try.underlying2 Try.underlying58) ?_
        obtain ⟨hC16, h1⟩ := B.chk h1
        refine J.op rfl rfl rfl (V.ixB rfl rfl rfl tr86 ts58 hC16) ?_
        refine J.stB 1 rfl rfl rfl rfl rfl rfl ts58 (fun _ _ => rfl) (encA_lt .i16 _ hC16) ?_
        refine J.setEnt 1 rfl (congrArg (fun q => Ent.blk _ q _) (encA_set .i16 _ _ _)) ?_
        obtain ⟨m17, em17, h1⟩ := B.lt h1
        refine J.setEnt 1 rfl (congrArg (fun q => Ent.blk _ (encA .i16 q) _) em17) ?_
        refine J.nil ?_
        refine J.bN ?_
        refine J.tN ?_
        refine J.region ?_
        refine J.op rfl rfl rfl (V.mv rfl rfl) ?_
        refine J.op rfl rfl rfl (V.ar rfl rfl rfl rfl) ?_
        refine J.op rfl rfl rfl (V.as rfl rfl) ?_
        obtain ⟨i_18, ei_18, h1⟩ := B.lt h1
        refine J.val (congrArg (Value.int .i64) ei_18) ?_
        refine J.nil ?_
        refine J.tN (J.next (i_18, m17, r13.2.at_, r13.2.seed) () (B.n h1) ?_)
        exact J.keep _ rfl (J.pickE [1, 2, 3, 0] rfl rfl J.here)
      · replace h1 := B.f hB12 h1
        refine J.exit ?_
        refine J.tE ?_
        refine J.tE ?_
        refine J.bE ?_
        obtain rfl := B.d h1
        refine J.tN (J.to () trivial ?_)
        exact J.keep _ rfl (J.pickE [0, 1, 2, 3] rfl rfl J.here)
  · intro gy20 _
    refine J.tN ?_
    refine J.seq ?_
    refine J.seq ?_
    refine J.region ?_
    refine J.op rfl rfl rfl (V.as rfl rfl) ?_
    refine J.nil ?_
    refine J.tN ?_
    obtain ⟨y30, hy32, h0⟩ := B.bind h0
    refine J.cutQ (γ := Unit) (fun _ => True) (fun gy31 => [(0, bp b0_ 0), (2, bp b1 0), (3, bp b3 0)]) (fun gy31 => [.blk b6 (encA .i16 y19.1) 86, .blk b3 (encA .i16 y30) 59, .blk b1 (encA .i16 (zA 64)) 59, .blk b0_ [v0_code, .int .i64 y19.2.1, .int .u64 y19.2.2] 79]) ?_ ?_
    · refine J.block ?_
      refine J.loop (γ := Unit) hy32 (fun s22 g23 => [(0, bp b0_ 0), (2, bp b1 0), (3, bp b3 0), (4, bp b6 0), (6, .int .i64 s22.1)]) (fun s22 g23 => [.blk b6 (encA .i16 y19.1) 86, .blk b3 (encA .i16 s22.2) 59, .blk b1 (encA .i16 (zA 64)) 59, .blk b0_ [v0_code, .int .i64 y19.2.1, .int .u64 y19.2.2] 79]) () ?_ ?_
      · exact J.keep _ rfl (J.pickE [0, 1, 2, 3] rfl rfl J.here)
      · intro rec24 s22 g23 h1
        unfold spec_l03Cells.b2 at h1
        refine J.seq ?_
        refine J.seq ?_
        refine J.region ?_
        refine J.op rfl rfl rfl (V.mv rfl rfl) ?_
        refine J.op rfl rfl rfl (V.cmp rfl rfl rfl rfl) ?_
        refine J.nil ?_
        refine J.tN ?_
        refine J.cond rfl (fun hB25 => ?_) (fun hB25 => ?_)
        · replace h1 := B.t hB25 h1
          refine J.skip ?_
          refine J.tN ?_
          refine J.seq ?_
          refine J.block ?_
          refine J.region ?_
          refine J.op rfl rfl rfl (V.mv rfl rfl) ?_
          refine J.op rfl rfl rfl (V.mv rfl rfl) ?_
          refine J.op rfl rfl rfl (V.rem rfl rfl rfl rfl) ?_
          refine J.op rfl rfl rfl (V.quo rfl rfl rfl rfl) ?_
          refine J.op rfl rfl rfl (V.mv rfl rfl) ?_
          refine J.op rfl rfl rfl (V.quo rfl rfl rfl rfl) ?_
          refine J.op rfl rfl rfl (V.ar rfl rfl rfl rfl) ?_
          refine J.op rfl rfl rfl (V.ar rfl rfl rfl rfl) ?_
          obtain ⟨hC26, h1⟩ := B.chk h1
          refine J.op rfl rfl rfl (V.ixB rfl rfl rfl tr86 ts58 hC26) ?_
          refine J.op rfl rfl rfl (V.ldB 0 rfl rfl rfl Try.underlying58 ta58 (encA_get0 .i16 _ hC26)) ?_
          obtain ⟨hC27, h1⟩ := B.chk h1
          refine J.op rfl rfl rfl (V.ixB rfl rfl rfl tr59 ts58 hC27) ?_
          refine J.stB 1 rfl rfl rfl rfl rfl rfl ts58 (fun _ _ => rfl) (encA_lt .i16 _ hC27) ?_
          refine J.setEnt 1 rfl (congrArg (fun q => Ent.blk _ q _) (encA_set .i16 _ _ _)) ?_
          obtain ⟨m28, em28, h1⟩ := B.lt h1
          refine J.setEnt 1 rfl (congrArg (fun q => Ent.blk _ (encA .i16 q) _) em28) ?_
          refine J.nil ?_
          refine J.bN ?_
          refine J.tN ?_
          refine J.region ?_
          refine J.op rfl rfl rfl (V.mv rfl rfl) ?_
          refine J.op rfl rfl rfl (V.ar rfl rfl rfl rfl) ?_
          refine J.op rfl rfl rfl (V.as rfl rfl) ?_
          obtain ⟨k_29, ek_29, h1⟩ := B.lt h1
          refine J.val (congrArg (Value.int .i64) ek_29) ?_
          refine J.nil ?_
          refine J.tN (J.next (k_29, m28) () (B.n h1) ?_)
          exact J.keep _ rfl (J.pickE [0, 1, 2, 3] rfl rfl J.here)
        · replace h1 := B.f hB25 h1
          refine J.exit ?_
          refine J.tE ?_
          refine J.tE ?_
          refine J.bE ?_
          obtain rfl := B.d h1
          refine J.tN (J.to () trivial ?_)
          exact J.keep _ rfl (J.pickE [0, 1, 2, 3] rfl rfl J.here)
    · intro gy31 _
      refine J.tN ?_
      refine J.seq ?_
      refine J.seq ?_
      refine J.region ?_
      refine J.op rfl rfl rfl (V.mv rfl rfl) ?_
      refine J.pickE [3, 0, 1, 2] (es' := [.blk b0_ [v0_code, .int .i64 y19.2.1, .int .u64 y19.2.2] 79, .blk b6 (encA .i16 y19.1) 86, .blk b3 (encA .i16 y30) 59, .blk b1 (encA .i16 (zA 64)) 59]) rfl rfl ?_
      obtain ⟨r33, hr34, h0⟩ := B.bind h0
      refine J.clA (l := [.tmp 35, .const (.int .i64 4)]) [.blk b0_ [v0_code, .int .i64 y19.2.1, .int .u64 y19.2.2] 79] [.blk b6 (encA .i16 y19.1) 86, .blk b3 (encA .i16 y30) 59, .blk b1 (encA .i16 (zA 64)) 59] cf43 (wN rfl) rfl rfl rfl rfl rfl rfl (fun w H => spec_l00Src_pick.calls b0_ (⟨p0_s.code, y19.2.1, y19.2.2⟩ : spec_l00Src) v0_code 4 r33 w H.enterA (Sl.laterA hS0_code H) hr34) fun g35 => ?_
      refine J.op rfl rfl rfl (V.as rfl rfl) ?_
      refine J.nil ?_
      refine J.tN ?_
      obtain ⟨y49, hy51, h0⟩ := B.bind h0
      refine J.cutQ (γ := Unit) (fun _ => True) (fun gy50 => [(2, bp b1 0), (3, bp b3 0)]) (fun gy50 => [.blk b0_ [v0_code, .int .i64 y49.1, .int .u64 y49.2.1] 79, .blk b6 (encA .i16 y19.1) 86, .blk b3 (encA .i16 y49.2.2) 59, .blk b1 (encA .i16 (zA 64)) 59]) ?_ ?_
      · refine J.block ?_
        refine J.loop (γ := Unit) hy51 (fun s36 g37 => [(0, bp b0_ 0), (2, bp b1 0), (3, bp b3 0), (7, .int .i64 s36.1)]) (fun s36 g37 => [.blk b0_ [v0_code, .int .i64 s36.2.1, .int .u64 s36.2.2.1] 79, .blk b6 (encA .i16 y19.1) 86, .blk b3 (encA .i16 s36.2.2.2) 59, .blk b1 (encA .i16 (zA 64)) 59]) () ?_ ?_
        · exact J.keep _ rfl (J.pickE [0, 1, 2, 3] rfl rfl J.here)
        · intro rec38 s36 g37 h1
          unfold spec_l03Cells.b3 at h1
          refine J.seq ?_
          refine J.seq ?_
          refine J.region ?_
          refine J.op rfl rfl rfl (V.mv rfl rfl) ?_
          refine J.op rfl rfl rfl (V.cmp rfl rfl rfl rfl) ?_
          refine J.nil ?_
          refine J.tN ?_
          refine J.cond rfl (fun hB39 => ?_) (fun hB39 => ?_)
          · replace h1 := B.t hB39 h1
            refine J.skip ?_
            refine J.tN ?_
            refine J.seq ?_
            refine J.block ?_
            refine J.seq ?_
            refine J.region ?_
            refine J.op rfl rfl rfl (V.mv rfl rfl) ?_
            obtain ⟨r40, hr41, h1⟩ := B.bind h1
            refine J.clA (l := [.tmp 41, .const (.int .i64 64)]) [.blk b0_ [v0_code, .int .i64 s36.2.1, .int .u64 s36.2.2.1] 79] [.blk b6 (encA .i16 y19.1) 86, .blk b3 (encA .i16 s36.2.2.2) 59, .blk b1 (encA .i16 (zA 64)) 59] cf43 (wN rfl) rfl rfl rfl rfl rfl rfl (fun w H => spec_l00Src_pick.calls b0_ (⟨p0_s.code, s36.2.1, s36.2.2.1⟩ : spec_l00Src) v0_code 64 r40 w H.enterA (Sl.laterA hS0_code H) hr41) fun g42 => ?_
            refine J.op rfl rfl rfl (V.as rfl rfl) ?_
            refine J.nil ?_
            refine J.tN ?_
            refine J.region ?_
            refine J.op rfl rfl rfl (V.mv rfl rfl) ?_
            refine J.op rfl rfl rfl (V.mv rfl rfl) ?_
            obtain ⟨r43, hr44, h1⟩ := B.bind h1
            refine J.clA (l := [.tmp 44, .const (.int .i64 401)]) [.blk b0_ [v0_code, .int .i64 r40.2.at_, .int .u64 r40.2.seed] 79] [.blk b6 (encA .i16 y19.1) 86, .blk b3 (encA .i16 s36.2.2.2) 59, .blk b1 (encA .i16 (zA 64)) 59] cf43 (wN rfl) rfl rfl rfl rfl rfl rfl (fun w H => spec_l00Src_pick.calls b0_ (⟨p0_s.code, r40.2.at_, r40.2.seed⟩ : spec_l00Src) v0_code 401 r43 w H.enterA (Sl.laterA hS0_code H) hr44) fun g45 => ?_
            refine J.op rfl rfl rfl (V.conv rfl rfl Try.underlying2 Try.underlying58) ?_
            obtain ⟨hC46, h1⟩ := B.chk h1
            refine J.op rfl rfl rfl (V.ixB rfl rfl rfl tr59 ts58 hC46) ?_
            refine J.stB 2 rfl rfl rfl rfl rfl rfl ts58 (fun _ _ => rfl) (encA_lt .i16 _ hC46) ?_
            refine J.setEnt 2 rfl (congrArg (fun q => Ent.blk _ q _) (encA_set .i16 _ _ _)) ?_
            obtain ⟨m47, em47, h1⟩ := B.lt h1
            refine J.setEnt 2 rfl (congrArg (fun q => Ent.blk _ (encA .i16 q) _) em47) ?_
            refine J.nil ?_
            refine J.bN ?_
            refine J.tN ?_
            refine J.region ?_
            refine J.op rfl rfl rfl (V.mv rfl rfl) ?_
            refine J.op rfl rfl rfl (V.ar rfl rfl rfl rfl) ?_
            refine J.op rfl rfl rfl (V.as rfl rfl) ?_
            obtain ⟨k_48, ek_48, h1⟩ := B.lt h1
            refine J.val (congrArg (Value.int .i64) ek_48) ?_
            refine J.nil ?_
            refine J.tN (J.next (k_48, r43.2.at_, r43.2.seed, m47) () (B.n h1) ?_)
            exact J.keep _ rfl (J.pickE [0, 1, 2, 3] rfl rfl J.here)
          · replace h1 := B.f hB39 h1
            refine J.exit ?_
            refine J.tE ?_
            refine J.tE ?_
            refine J.bE ?_
            obtain rfl := B.d h1
            refine J.tN (J.to () trivial ?_)
            exact J.keep _ rfl (J.pickE [0, 1, 2, 3] rfl rfl J.here)
      · intro gy50 _
        refine J.tN ?_
        refine J.seq ?_
        refine J.region ?_
        refine J.op rfl rfl rfl (V.ldW 2 rfl rfl rfl ts59 ta59 (encA_len _ _)) ?_
        refine J.stW (cs' := encA .i16 y49.2.2) 3 rfl rfl rfl rfl rfl rfl ts59 rfl (fun _ _ => encA_one .i16 _) (encA_len _ _) (encA_len _ _) ?_
        refine J.nil ?_
        refine J.tN ?_
        refine J.ret ?_
        obtain rfl := B.e h0
        exact J.retC 3 rfl rfl rfl ts59 ta59 (encA_len _ _) fun w H => ⟨(), rfl, H.pick [0] (by decide)⟩

/-! ### spec.l07Drawn: function 36 -/
noncomputable def spec_l07Drawn.b1 (p0_s : spec_l00Src) : (Int × (List (Vector Int 64)) × Int × Int) → Option (Step (Int × (List (Vector Int 64)) × Int × Int) ((List (Vector Int 64)) × Int × Int)) := fun s13 => bif (decide (0 < s13.1)) then ((spec_l03Cells.f (⟨p0_s.code, s13.2.2.1, s13.2.2.2⟩ : spec_l00Src)).bind fun r17 => bif (roomB s13.2.1.length 1 128) then ((some (IntKind.wrap .i64 (s13.1 - 1))).bind fun k_25 => some (.next (k_25, s13.2.1 ++ [r17.1], r17.2.at_, r17.2.seed))) else none) else (some (.done (s13.2.1, s13.2.2.1, s13.2.2.2)))
noncomputable def spec_l07Drawn.f (p0_s : spec_l00Src) : Option (impl_Sheet × spec_l00Src) := (spec_l00Src_pick.f (⟨p0_s.code, p0_s.at_, p0_s.seed⟩ : spec_l00Src) 5).bind fun r3 => (spec_l00Src_pick.f (⟨p0_s.code, r3.2.at_, r3.2.seed⟩ : spec_l00Src) 6).bind fun r8 => (loopW (spec_l07Drawn.b1 p0_s) (r8.1, ([] : List (Vector Int 64)), r8.2.at_, r8.2.seed)).bind fun y26 => some ((⟨IntKind.wrap .i8 (IntKind.wrap .i64 (1 + r3.1)), y26.1⟩ : impl_Sheet), (⟨p0_s.code, y26.2.1, y26.2.2⟩ : spec_l00Src))
set_option maxRecDepth 100000 in
theorem spec_l07Drawn.calls (b0_ : Nat) (p0_s : spec_l00Src) (v0_code : Value) (r : impl_Sheet × spec_l00Src) (w : World) (H0 : Own (Mof [.blk b0_ [v0_code, .int .i64 p0_s.at_, .int .u64 p0_s.seed] 79]) w w [.blk b0_ [v0_code, .int .i64 p0_s.at_, .int .u64 p0_s.seed] 79]) (hS0_code : SlE (Mof [.blk b0_ [v0_code, .int .i64 p0_s.at_, .int .u64 p0_s.seed] 79]) w v0_code 5 (eI .u8) p0_s.code) (h0 : spec_l07Drawn.f p0_s = some r) :
    Calls Try.prog 36 #[bp b0_ 0] w (fun e w' => ∃ gh : Value, e = .returned (.agg #[.int .i8 r.1.Across, gh]) ∧ Own (Mof [.blk b0_ [v0_code, .int .i64 p0_s.at_, .int .u64 p0_s.seed] 79]) w w' [.blk b0_ [v0_code, .int .i64 r.2.at_, .int .u64 r.2.seed] 79, .rowE gh 60 (eA .i16 64) r.1.Frames]) := by
  unfold spec_l07Drawn.f at h0
  replace h0 := B.top h0
  refine calls_of_J (args := [bp b0_ 0]) Try.func36 rfl Try.ntmps36 rfl [(0, bp b0_ 0)] rfl H0 ?_
  refine J.seq ?_
  refine J.region ?_
  refine J.alloc rfl rfl rfl rfl tz29 rfl fun b1 => ?_
  refine J.nil ?_
  refine J.tN ?_
  refine J.seq ?_
  refine J.region ?_
  refine J.op rfl rfl rfl (V.mv rfl rfl) ?_
  refine J.pickE [1, 0] (es' := [.blk b0_ [v0_code, .int .i64 p0_s.at_, .int .u64 p0_s.seed] 79, .blk b1 [.int .i8 0, .slice none 0 0] 29]) rfl rfl ?_
  obtain ⟨r3, hr4, h0⟩ := B.bind h0
  refine J.clA (l := [.tmp 5, .const (.int .i64 5)]) [.blk b0_ [v0_code, .int .i64 p0_s.at_, .int .u64 p0_s.seed] 79] [.blk b1 [.int .i8 0, .slice none 0 0] 29] cf43 (wN rfl) rfl rfl rfl rfl rfl rfl (fun w H => spec_l00Src_pick.calls b0_ (⟨p0_s.code, p0_s.at_, p0_s.seed⟩ : spec_l00Src) v0_code 5 r3 w H.enterA (Sl.laterA hS0_code H) hr4) fun g5 => ?_
  refine J.op rfl rfl rfl (V.ar rfl rfl rfl rfl) ?_
  refine J.op rfl rfl rfl (V.conv rfl rfl Try.underlying2 Try.underlying22) ?_
  refine J.op rfl rfl rfl (V.bd (l := [(0, .tmp 8)]) (v := .agg #[.int .i8 (IntKind.wrap .i8 (IntKind.wrap .i64 (1 + r3.1))), .slice none 0 0]) rfl rfl (fun w H => by kernel_rfl)) ?_
  refine J.alloc rfl rfl rfl rfl tz29 rfl fun b6 => ?_
  refine J.stW (cs' := [.int .i8 (IntKind.wrap .i8 (IntKind.wrap .i64 (1 + r3.1))), .slice none 0 0]) 0 rfl rfl rfl rfl rfl rfl ts29 rfl (fun _ H => (one_cons rfl (one_cons rfl one_nil))) rfl rfl ?_
  refine J.nil ?_
  refine J.tN ?_
  refine J.seq ?_
  refine J.seq ?_
  refine J.region ?_
  refine J.op rfl rfl rfl (V.mv rfl rfl) ?_
  refine J.pickE [1, 0, 2] (es' := [.blk b0_ [v0_code, .int .i64 r3.2.at_, .int .u64 r3.2.seed] 79, .blk b6 [.int .i8 (IntKind.wrap .i8 (IntKind.wrap .i64 (1 + r3.1))), .slice none 0 0] 29, .blk b1 [.int .i8 0, .slice none 0 0] 29]) rfl rfl ?_
  obtain ⟨r8, hr9, h0⟩ := B.bind h0
  refine J.clA (l := [.tmp 10, .const (.int .i64 6)]) [.blk b0_ [v0_code, .int .i64 r3.2.at_, .int .u64 r3.2.seed] 79] [.blk b6 [.int .i8 (IntKind.wrap .i8 (IntKind.wrap .i64 (1 + r3.1))), .slice none 0 0] 29, .blk b1 [.int .i8 0, .slice none 0 0] 29] cf43 (wN rfl) rfl rfl rfl rfl rfl rfl (fun w H => spec_l00Src_pick.calls b0_ (⟨p0_s.code, r3.2.at_, r3.2.seed⟩ : spec_l00Src) v0_code 6 r8 w H.enterA (Sl.laterA hS0_code H) hr9) fun g10 => ?_
  refine J.op rfl rfl rfl (V.as rfl rfl) ?_
  refine J.nil ?_
  refine J.tN ?_
  refine J.nilRow 60 (eA .i16 64) ?_
  refine J.nilRow 60 (eA .i16 64) ?_
  obtain ⟨y26, hy28, h0⟩ := B.bind h0
  refine J.cutQ (γ := Value) (fun _ => True) (fun gy27 => [(2, bp b1 0), (3, bp b6 0)]) (fun gy27 => [.rowE (.slice none 0 0) 60 (eA .i16 64) ([] : List (Vector Int 64)), .rowE gy27 60 (eA .i16 64) y26.1, .blk b0_ [v0_code, .int .i64 y26.2.1, .int .u64 y26.2.2] 79, .blk b6 [.int .i8 (IntKind.wrap .i8 (IntKind.wrap .i64 (1 + r3.1))), gy27] 29, .blk b1 [.int .i8 0, (.slice none 0 0)] 29]) ?_ ?_
  · refine J.block ?_
    refine J.loop (γ := Value) hy28 (fun s13 g14 => [(0, bp b0_ 0), (2, bp b1 0), (3, bp b6 0), (4, .int .i64 s13.1)]) (fun s13 g14 => [.rowE (.slice none 0 0) 60 (eA .i16 64) ([] : List (Vector Int 64)), .rowE g14 60 (eA .i16 64) s13.2.1, .blk b0_ [v0_code, .int .i64 s13.2.2.1, .int .u64 s13.2.2.2] 79, .blk b6 [.int .i8 (IntKind.wrap .i8 (IntKind.wrap .i64 (1 + r3.1))), g14] 29, .blk b1 [.int .i8 0, (.slice none 0 0)] 29]) (.slice none 0 0) ?_ ?_
    · exact J.keep _ rfl (J.pickE [0, 1, 2, 3, 4] rfl rfl J.here)
    · intro rec15 s13 g14 h1
      unfold spec_l07Drawn.b1 at h1
      refine J.seq ?_
      refine J.seq ?_
      refine J.region ?_
      refine J.op rfl rfl rfl (V.mv rfl rfl) ?_
      refine J.op rfl rfl rfl (V.cmp rfl rfl rfl rfl) ?_
      refine J.nil ?_
      refine J.tN ?_
      refine J.cond rfl (fun hB16 => ?_) (fun hB16 => ?_)
      · replace h1 := B.t hB16 h1
        refine J.skip ?_
        refine J.tN ?_
        refine J.seq ?_
        refine J.block ?_
        obtain ⟨r17, hr18, h1⟩ := B.bind h1
        obtain ⟨hC23, h1⟩ := B.chk h1
        refine J.cutQ (γ := Nat × Value) (fun _ => True) (fun gx24 => [(0, bp b0_ 0), (2, bp b1 0), (3, bp b6 0), (4, .int .i64 s13.1)]) (fun gx24 => [.blk gx24.1 ((eA .i16 64).enc r17.1) 60, .blk b0_ [v0_code, .int .i64 r17.2.at_, .int .u64 r17.2.seed] 79, .rowE (.slice none 0 0) 60 (eA .i16 64) ([] : List (Vector Int 64)), .rowE gx24.2 60 (eA .i16 64) (s13.2.1 ++ [r17.1]), .blk b6 [.int .i8 (IntKind.wrap .i8 (IntKind.wrap .i64 (1 + r3.1))), gx24.2] 29, .blk b1 [.int .i8 0, (.slice none 0 0)] 29]) ?_ ?_
        · refine J.any 8 rfl [.rowE (.slice none 0 0) 60 (eA .i16 64) ([] : List (Vector Int 64)), .blk b1 [.int .i8 0, (.slice none 0 0)] 29] mixed ?_
          refine JH.take (i := 0) [0, 4] rfl (by kernel_rfl) rfl rfl rfl rfl rfl (V.faB rfl rfl tf1_29) ?_
          refine JH.take (i := 2) [0, 4] rfl (by kernel_rfl) rfl rfl rfl rfl rfl (V.mv rfl rfl) ?_
          refine JH.all [1, 3] (by kernel_rfl) rfl (JHall.cons (JH.op rfl ?_) (JHall.cons (JH.op rfl ?_) (JHall.nil)))
          · refine J.op rfl rfl rfl (V.ldB 3 rfl rfl rfl Try.underlying27 ta27 rfl) ?_
            refine J.nil ?_
            refine JH.back [0, 4] rfl rfl ?_
            refine JH.all [3] (by kernel_rfl) rfl (JHall.cons (JH.op rfl ?_) (JHall.nil))
            refine J.pickE [2, 0, 1, 3, 4] (es' := [.blk b0_ [v0_code, .int .i64 s13.2.2.1, .int .u64 s13.2.2.2] 79, .rowE (.slice none 0 0) 60 (eA .i16 64) ([] : List (Vector Int 64)), .rowE g14 60 (eA .i16 64) s13.2.1, .blk b6 [.int .i8 (IntKind.wrap .i8 (IntKind.wrap .i64 (1 + r3.1))), g14] 29, .blk b1 [.int .i8 0, (.slice none 0 0)] 29]) rfl rfl ?_
            refine J.clA (l := [.tmp 18]) [.blk b0_ [v0_code, .int .i64 s13.2.2.1, .int .u64 s13.2.2.2] 79] [.rowE (.slice none 0 0) 60 (eA .i16 64) ([] : List (Vector Int 64)), .rowE g14 60 (eA .i16 64) s13.2.1, .blk b6 [.int .i8 (IntKind.wrap .i8 (IntKind.wrap .i64 (1 + r3.1))), g14] 29, .blk b1 [.int .i8 0, (.slice none 0 0)] 29] cf50 (wN rfl) rfl rfl rfl rfl rfl rfl (fun w H => spec_l03Cells.calls b0_ (⟨p0_s.code, s13.2.2.1, s13.2.2.2⟩ : spec_l00Src) v0_code r17 w H.enterA (Sl.laterA hS0_code H) hr18) fun g19 => ?_
            refine J.nil ?_
            refine JH.back [1, 4] rfl rfl ?_
            refine JH.all [4] (by kernel_rfl) rfl (JHall.cons (JH.op rfl ?_) (JHall.nil))
            obtain ⟨_, ti1, ti2, ti3, ti4⟩ := ti60
            refine J.bs1 (e := (eA .i16 64)) (l := [(0, .tmp 19)]) r17.1 ti1 tl27 ti2 ti3 rfl rfl rfl rfl rfl rfl rfl rfl rfl rfl fun b20 => ?_
            refine J.nil ?_
            refine JH.back [2, 5] rfl rfl ?_
            refine JH.all [5] (by kernel_rfl) rfl (JHall.cons (JH.op rfl ?_) (JHall.nil))
            obtain ⟨_, ti1, ti2, ti3, ti4⟩ := ti60
            refine J.ap1 (e := (eA .i16 64)) (xs := s13.2.1) 3 0 r17.1 hC23 ti1 tl27 ti2 ti3 ti4 rfl rfl rfl rfl rfl rfl rfl rfl rfl rfl fun v22 => ?_
            refine J.nil ?_
            refine JH.back [2, 5] rfl rfl ?_
            refine JH.take (i := 6) [2, 5] rfl (by kernel_rfl) rfl rfl rfl rfl rfl (V.faB rfl rfl tf1_29) ?_
            refine JH.all [7] (by kernel_rfl) rfl (JHall.cons (JH.op rfl ?_) (JHall.nil))
            refine J.stB 4 rfl rfl rfl rfl rfl rfl ts27 (fun _ H => (Own.sl0 3 H rfl).one) rfl ?_
            refine J.nil ?_
            refine JH.back [2, 5] rfl rfl ?_
            refine JH.fin (by kernel_rfl) ?_
            refine J.tN (J.to (b20, v22) trivial ?_)
            exact J.keep _ rfl (J.pickE [0, 1, 2, 3, 4, 5] rfl rfl J.here)
          · refine J.pickE [2, 0, 1, 3, 4] (es' := [.blk b0_ [v0_code, .int .i64 s13.2.2.1, .int .u64 s13.2.2.2] 79, .rowE (.slice none 0 0) 60 (eA .i16 64) ([] : List (Vector Int 64)), .rowE g14 60 (eA .i16 64) s13.2.1, .blk b6 [.int .i8 (IntKind.wrap .i8 (IntKind.wrap .i64 (1 + r3.1))), g14] 29, .blk b1 [.int .i8 0, (.slice none 0 0)] 29]) rfl rfl ?_
            refine J.clA (l := [.tmp 18]) [.blk b0_ [v0_code, .int .i64 s13.2.2.1, .int .u64 s13.2.2.2] 79] [.rowE (.slice none 0 0) 60 (eA .i16 64) ([] : List (Vector Int 64)), .rowE g14 60 (eA .i16 64) s13.2.1, .blk b6 [.int .i8 (IntKind.wrap .i8 (IntKind.wrap .i64 (1 + r3.1))), g14] 29, .blk b1 [.int .i8 0, (.slice none 0 0)] 29] cf50 (wN rfl) rfl rfl rfl rfl rfl rfl (fun w H => spec_l03Cells.calls b0_ (⟨p0_s.code, s13.2.2.1, s13.2.2.2⟩ : spec_l00Src) v0_code r17 w H.enterA (Sl.laterA hS0_code H) hr18) fun g19 => ?_
            refine J.nil ?_
            refine JH.back [1, 4] rfl rfl ?_
            refine JH.all [1, 4] (by kernel_rfl) rfl (JHall.cons (JH.op rfl ?_) (JHall.cons (JH.op rfl ?_) (JHall.nil)))
            · refine J.op rfl rfl rfl (V.ldB 3 rfl rfl rfl Try.underlying27 ta27 rfl) ?_
              refine J.nil ?_
              refine JH.back [1, 4] rfl rfl ?_
              refine JH.all [4] (by kernel_rfl) rfl (JHall.cons (JH.op rfl ?_) (JHall.nil))
              obtain ⟨_, ti1, ti2, ti3, ti4⟩ := ti60
              refine J.bs1 (e := (eA .i16 64)) (l := [(0, .tmp 19)]) r17.1 ti1 tl27 ti2 ti3 rfl rfl rfl rfl rfl rfl rfl rfl rfl rfl fun b20 => ?_
              refine J.nil ?_
              refine JH.back [2, 5] rfl rfl ?_
              refine JH.all [5] (by kernel_rfl) rfl (JHall.cons (JH.op rfl ?_) (JHall.nil))
              obtain ⟨_, ti1, ti2, ti3, ti4⟩ := ti60
              refine J.ap1 (e := (eA .i16 64)) (xs := s13.2.1) 3 0 r17.1 hC23 ti1 tl27 ti2 ti3 ti4 rfl rfl rfl rfl rfl rfl rfl rfl rfl rfl fun v22 => ?_
              refine J.nil ?_
              refine JH.back [2, 5] rfl rfl ?_
              refine JH.take (i := 6) [2, 5] rfl (by kernel_rfl) rfl rfl rfl rfl rfl (V.faB rfl rfl tf1_29) ?_
              refine JH.all [7] (by kernel_rfl) rfl (JHall.cons (JH.op rfl ?_) (JHall.nil))
              refine J.stB 4 rfl rfl rfl rfl rfl rfl ts27 (fun _ H => (Own.sl0 3 H rfl).one) rfl ?_
              refine J.nil ?_
              refine JH.back [2, 5] rfl rfl ?_
              refine JH.fin (by kernel_rfl) ?_
              refine J.tN (J.to (b20, v22) trivial ?_)
              exact J.keep _ rfl (J.pickE [0, 1, 2, 3, 4, 5] rfl rfl J.here)
            · obtain ⟨_, ti1, ti2, ti3, ti4⟩ := ti60
              refine J.bs1 (e := (eA .i16 64)) (l := [(0, .tmp 19)]) r17.1 ti1 tl27 ti2 ti3 rfl rfl rfl rfl rfl rfl rfl rfl rfl rfl fun b20 => ?_
              refine J.nil ?_
              refine JH.back [2, 5] rfl rfl ?_
              refine JH.all [1] (by kernel_rfl) rfl (JHall.cons (JH.op rfl ?_) (JHall.nil))
              refine J.op rfl rfl rfl (V.ldB 4 rfl rfl rfl Try.underlying27 ta27 rfl) ?_
              refine J.nil ?_
              refine JH.back [2, 5] rfl rfl ?_
              refine JH.all [5] (by kernel_rfl) rfl (JHall.cons (JH.op rfl ?_) (JHall.nil))
              obtain ⟨_, ti1, ti2, ti3, ti4⟩ := ti60
              refine J.ap1 (e := (eA .i16 64)) (xs := s13.2.1) 3 0 r17.1 hC23 ti1 tl27 ti2 ti3 ti4 rfl rfl rfl rfl rfl rfl rfl rfl rfl rfl fun v22 => ?_
              refine J.nil ?_
              refine JH.back [2, 5] rfl rfl ?_
              refine JH.take (i := 6) [2, 5] rfl (by kernel_rfl) rfl rfl rfl rfl rfl (V.faB rfl rfl tf1_29) ?_
              refine JH.all [7] (by kernel_rfl) rfl (JHall.cons (JH.op rfl ?_) (JHall.nil))
              refine J.stB 4 rfl rfl rfl rfl rfl rfl ts27 (fun _ H => (Own.sl0 3 H rfl).one) rfl ?_
              refine J.nil ?_
              refine JH.back [2, 5] rfl rfl ?_
              refine JH.fin (by kernel_rfl) ?_
              refine J.tN (J.to (b20, v22) trivial ?_)
              exact J.keep _ rfl (J.pickE [0, 1, 2, 3, 4, 5] rfl rfl J.here)
        · intro gx24 _
          refine J.bN ?_
          refine J.tN ?_
          refine J.region ?_
          refine J.op rfl rfl rfl (V.mv rfl rfl) ?_
          refine J.op rfl rfl rfl (V.ar rfl rfl rfl rfl) ?_
          refine J.op rfl rfl rfl (V.as rfl rfl) ?_
          obtain ⟨k_25, ek_25, h1⟩ := B.lt h1
          refine J.val (congrArg (Value.int .i64) ek_25) ?_
          refine J.nil ?_
          refine J.tN (J.next (k_25, s13.2.1 ++ [r17.1], r17.2.at_, r17.2.seed) gx24.2 (B.n h1) ?_)
          exact J.keep _ rfl (J.pickE [2, 3, 1, 4, 5] rfl rfl J.here)
      · replace h1 := B.f hB16 h1
        refine J.exit ?_
        refine J.tE ?_
        refine J.tE ?_
        refine J.bE ?_
        obtain rfl := B.d h1
        refine J.tN (J.to g14 trivial ?_)
        exact J.keep _ rfl (J.pickE [0, 1, 2, 3, 4] rfl rfl J.here)
  · intro gy27 _
    refine J.tN ?_
    refine J.seq ?_
    refine J.region ?_
    refine J.op rfl rfl rfl (V.ldW 3 rfl rfl rfl ts29 ta29 rfl) ?_
    refine J.stW (cs' := [.int .i8 (IntKind.wrap .i8 (IntKind.wrap .i64 (1 + r3.1))), gy27]) 4 rfl rfl rfl rfl rfl rfl ts29 rfl (fun _ H => (one_cons rfl (one_cons (Own.sl0 1 H rfl).one one_nil))) rfl rfl ?_
    refine J.nil ?_
    refine J.tN ?_
    refine J.ret ?_
    obtain rfl := B.e h0
    exact J.retC 4 rfl rfl rfl ts29 ta29 rfl fun w H => ⟨gy27, rfl, H.pick [2, 1] (by decide)⟩

/-! ### spec.l00From: function 37 -/
noncomputable def spec_l00From.f (p0_code : (List Int)) : Option (Int × Int) := some (0, 0)
set_option maxRecDepth 100000 in
theorem spec_l00From.calls (v0 : Value) (p0_code : (List Int)) (r : Int × Int) (w : World) (H0 : Own [] w w []) (hS0 : SlE [] w v0 5 (eI .u8) p0_code) (h0 : spec_l00From.f p0_code = some r) :
    Calls Try.prog 37 #[v0] w (fun e w' => ∃ gh : Nat, e = .returned (bp gh 0) ∧ Own [] w w' [.blk gh [v0, .int .i64 r.1, .int .u64 r.2] 79]) := by
  unfold spec_l00From.f at h0
  replace h0 := B.top h0
  refine calls_of_J (args := [v0]) Try.func37 rfl Try.ntmps37 rfl [(0, v0)] rfl H0 ?_
  refine J.seq ?_
  refine J.region ?_
  refine J.op rfl rfl rfl (V.as rfl rfl) ?_
  refine J.nil ?_
  refine J.tN ?_
  refine J.seq ?_
  refine J.region ?_
  refine J.op rfl rfl rfl (V.mv rfl rfl) ?_
  refine J.op rfl rfl rfl (V.bd (l := [(0, .tmp 3)]) (v := .agg #[v0, .int .i64 0, .int .u64 0]) rfl rfl (fun w H => by obtain ⟨_, _, e0, _⟩ := hS0.len; rw [e0]; kernel_rfl)) ?_
  refine J.box rfl rfl rfl rfl rfl (fun _ _ => rfl) fun b1 => ?_
  refine J.op rfl rfl rfl (V.as rfl rfl) ?_
  refine J.nil ?_
  refine J.tN ?_
  refine J.ret ?_
  obtain rfl := B.e h0
  exact J.ret1 rfl rfl fun w H => ⟨b1, rfl, H.pick [0] (by decide)⟩

/-! ### spec.P6Sheet: function 13 -/
noncomputable def spec_P6Sheet.f (p0_code : (List Int)) : Option (impl_Sheet) := (spec_l00From.f p0_code).bind fun r3 => (spec_l07Drawn.f (⟨p0_code, r3.1, r3.2⟩ : spec_l00Src)).bind fun r7 => some (⟨r7.1.Across, r7.1.Frames⟩ : impl_Sheet)
set_option maxRecDepth 100000 in
theorem spec_P6Sheet.calls (v0 : Value) (p0_code : (List Int)) (r : impl_Sheet) (w : World) (H0 : Own [] w w []) (hS0 : SlE [] w v0 5 (eI .u8) p0_code) (h0 : spec_P6Sheet.f p0_code = some r) :
    Calls Try.prog 13 #[v0] w (fun e w' => ∃ gh : Value, e = .returned (.agg #[.int .i8 r.Across, gh]) ∧ Own [] w w' [.rowE gh 60 (eA .i16 64) r.Frames]) := by
  unfold spec_P6Sheet.f at h0
  replace h0 := B.top h0
  refine calls_of_J (args := [v0]) Try.func13 rfl Try.ntmps13 rfl [(0, v0)] rfl H0 ?_
  refine J.seq ?_
  refine J.region ?_
  refine J.alloc rfl rfl rfl rfl tz29 rfl fun b1 => ?_
  refine J.nil ?_
  refine J.tN ?_
  refine J.seq ?_
  refine J.region ?_
  refine J.op rfl rfl rfl (V.mv rfl rfl) ?_
  obtain ⟨r3, hr4, h0⟩ := B.bind h0
  refine J.clA (l := [.tmp 3]) [] [.blk b1 [.int .i8 0, .slice none 0 0] 29] cf37 (wN rfl) rfl rfl rfl rfl rfl rfl (fun w H => spec_l00From.calls v0 p0_code r3 w (Own.refl w) (Sl.laterA hS0 H) hr4) fun g5 => ?_
  obtain ⟨r7, hr8, h0⟩ := B.bind h0
  refine J.clA (l := [.tmp 4]) [.blk g5 [v0, .int .i64 r3.1, .int .u64 r3.2] 79] [.blk b1 [.int .i8 0, .slice none 0 0] 29] cf36 (wN rfl) rfl rfl rfl rfl rfl rfl (fun w H => spec_l07Drawn.calls g5 (⟨p0_code, r3.1, r3.2⟩ : spec_l00Src) v0 r7 w H.enterA (Sl.laterA hS0 H) hr8) fun g9 => ?_
  refine J.stW (cs' := [.int .i8 r7.1.Across, g9]) 2 rfl rfl rfl rfl rfl rfl ts29 rfl (fun _ H => (one_cons rfl (one_cons (Own.sl0 1 H rfl).one one_nil))) rfl rfl ?_
  refine J.nil ?_
  refine J.tN ?_
  refine J.ret ?_
  obtain rfl := B.e h0
  exact J.retC 2 rfl rfl rfl ts29 ta29 rfl fun w H => ⟨g9, rfl, H.pick [1] (by decide)⟩

/-! ### impl.RowsOf: function 14 -/
noncomputable def impl_RowsOf.f (p0_s : impl_Sheet) : Option (Int × Int) := (impl_ValidSheet.f (⟨p0_s.Across, p0_s.Frames⟩ : impl_Sheet)).bind fun r3 => bif (!r3) then (some (0, 1)) else ((some (IntKind.wrap .i64 p0_s.Across)).bind fun across_7 => (impl_length_impl_Print.f p0_s.Frames).bind fun r8 => bif (!(across_7 == 0)) then ((some (IntKind.wrap .i64 (Int.tdiv (IntKind.wrap .i64 ((IntKind.wrap .i64 (r8 + across_7)) - 1)) across_7))).bind fun t12 => some (t12, 0)) else none)
set_option maxRecDepth 100000 in
theorem impl_RowsOf.calls (p0_s : impl_Sheet) (v0_Frames : Value) (r : Int × Int) (w : World) (H0 : Own [] w w []) (hS0_Frames : SlE [] w v0_Frames 60 (eA .i16 64) p0_s.Frames) (h0 : impl_RowsOf.f p0_s = some r) :
    Calls Try.prog 14 #[.agg #[.int .i8 p0_s.Across, v0_Frames]] w (fun e w' => ∃ _ : Unit, e = .returned (.tuple #[.int .i64 r.1, .int .i64 r.2]) ∧ Own [] w w' []) := by
  unfold impl_RowsOf.f at h0
  replace h0 := B.top h0
  refine calls_of_J (args := [.agg #[.int .i8 p0_s.Across, v0_Frames]]) Try.func14 rfl Try.ntmps14 rfl [(0, .agg #[.int .i8 p0_s.Across, v0_Frames])] rfl H0 ?_
  refine J.seq ?_
  refine J.region ?_
  refine J.box rfl rfl rfl rfl rfl (fun _ _ => rfl) fun b1 => ?_
  refine J.op rfl rfl rfl (V.as rfl rfl) ?_
  refine J.op rfl rfl rfl (V.as rfl rfl) ?_
  refine J.nil ?_
  refine J.tN ?_
  refine J.seq ?_
  refine J.seq ?_
  refine J.region ?_
  refine J.op rfl rfl rfl (V.ldW 0 rfl rfl rfl ts29 ta29 rfl) ?_
  obtain ⟨r3, hr4, h0⟩ := B.bind h0
  refine J.clA (l := [.tmp 5]) [] [.blk b1 [.int .i8 p0_s.Across, v0_Frames] 29] cf17 (wN rfl) rfl rfl rfl rfl rfl rfl (fun w H => impl_ValidSheet.calls (⟨p0_s.Across, p0_s.Frames⟩ : impl_Sheet) v0_Frames r3 w (Own.refl w) (Sl.laterA hS0_Frames H) hr4) fun g5 => ?_
  refine J.op rfl rfl rfl (V.nt rfl rfl) ?_
  refine J.nil ?_
  refine J.tN ?_
  refine J.cond rfl (fun hB6 => ?_) (fun hB6 => ?_)
  · replace h0 := B.t hB6 h0
    refine J.seq ?_
    refine J.region ?_
    refine J.op rfl rfl rfl (V.as rfl rfl) ?_
    refine J.op rfl rfl rfl (V.as rfl rfl) ?_
    refine J.nil ?_
    refine J.tN ?_
    refine J.ret ?_
    refine J.tR ?_
    obtain rfl := B.e h0
    exact J.ret2 rfl rfl rfl fun w H => ⟨(), rfl, H.pick [] (by decide)⟩
  · replace h0 := B.f hB6 h0
    refine J.skip ?_
    refine J.tN ?_
    refine J.seq ?_
    refine J.region ?_
    refine J.op rfl rfl rfl (V.faB rfl rfl tf0_29) ?_
    refine J.op rfl rfl rfl (V.ldB 0 rfl rfl rfl Try.underlying22 ta22 rfl) ?_
    refine J.op rfl rfl rfl (V.conv rfl rfl Try.underlying22 Try.underlying2) ?_
    refine J.op rfl rfl rfl (V.as rfl rfl) ?_
    obtain ⟨across_7, eacross_7, h0⟩ := B.lt h0
    refine J.val (congrArg (Value.int .i64) eacross_7) ?_
    refine J.nil ?_
    refine J.tN ?_
    refine J.seq ?_
    refine J.region ?_
    refine J.op rfl rfl rfl (V.faB rfl rfl tf1_29) ?_
    refine J.op rfl rfl rfl (V.ldB 0 rfl rfl rfl Try.underlying27 ta27 rfl) ?_
    obtain ⟨r8, hr9, h0⟩ := B.bind h0
    refine J.clA (l := [.tmp 12]) [] [.blk b1 [.int .i8 p0_s.Across, v0_Frames] 29] cf38 (wN rfl) rfl rfl rfl rfl rfl rfl (fun w H => impl_length_impl_Print.calls v0_Frames p0_s.Frames r8 w (Own.refl w) (Sl.laterA hS0_Frames H) hr9) fun g10 => ?_
    refine J.op rfl rfl rfl (V.mv rfl rfl) ?_
    refine J.op rfl rfl rfl (V.ar rfl rfl rfl rfl) ?_
    refine J.op rfl rfl rfl (V.ar rfl rfl rfl rfl) ?_
    refine J.op rfl rfl rfl (V.mv rfl rfl) ?_
    obtain ⟨hC11, h0⟩ := B.chk h0
    refine J.op rfl rfl rfl (V.quo rfl rfl rfl (nz hC11)) ?_
    refine J.op rfl rfl rfl (V.as rfl rfl) ?_
    obtain ⟨t12, et12, h0⟩ := B.lt h0
    refine J.val (congrArg (Value.int .i64) et12) ?_
    refine J.op rfl rfl rfl (V.as rfl rfl) ?_
    refine J.nil ?_
    refine J.tN ?_
    refine J.ret ?_
    obtain rfl := B.e h0
    exact J.ret2 rfl rfl rfl fun w H => ⟨(), rfl, H.pick [] (by decide)⟩

/-! ### impl.DarkestFrame: function 15 -/
noncomputable def impl_DarkestFrame.b2 (m17 : (Vector Int 64)) : (Int × Int) → Option (Step (Int × Int) (Int)) := fun s18 => bif (decide (s18.2 < 64)) then (bif (inB s18.2 64) then ((some (rdA m17 s18.2)).bind fun d_23 => (some (IntKind.wrap .i64 (s18.1 + (IntKind.wrap .i64 d_23)))).bind fun sum_24 => some (.next (sum_24, IntKind.wrap .i64 (s18.2 + 1)))) else none) else (some (.done s18.1))
noncomputable def impl_DarkestFrame.b1 (p0_s : impl_Sheet) : (Int × Int × Int) → Option (Step (Int × Int × Int) (Int × Int)) := fun s10 => bif (decide (s10.2.1 < (p0_s.Frames.length : Int))) then (bif (inB s10.2.1 p0_s.Frames.length) then ((some (rd (eA .i16 64) p0_s.Frames s10.2.1)).bind fun m17 => (loopW (impl_DarkestFrame.b2 m17) (0, 0)).bind fun y25 => bif (decide (s10.1 < y25)) then (some (.next (y25, IntKind.wrap .i64 (s10.2.1 + 1), s10.2.1))) else (some (.next (s10.1, IntKind.wrap .i64 (s10.2.1 + 1), s10.2.2)))) else none) else (some (.done (s10.1, s10.2.2)))
noncomputable def impl_DarkestFrame.f (p0_s : impl_Sheet) : Option (Int × Int × Int) := (impl_ValidSheet.f (⟨p0_s.Across, p0_s.Frames⟩ : impl_Sheet)).bind fun r3 => (some (!r3)).bind fun t6 => bif t6 then (some (0, 0, 1)) else ((some ((p0_s.Frames.length : Int) == 0)).bind fun t8 => bif t8 then (some (0, 0, 6)) else ((loopW (impl_DarkestFrame.b1 p0_s) ((-1), 0, 0)).bind fun y29 => some (y29.2, y29.1, 0)))
set_option maxRecDepth 100000 in
theorem impl_DarkestFrame.calls (p0_s : impl_Sheet) (v0_Frames : Value) (r : Int × Int × Int) (w : World) (H0 : Own [] w w []) (hS0_Frames : SlE [] w v0_Frames 60 (eA .i16 64) p0_s.Frames) (h0 : impl_DarkestFrame.f p0_s = some r) :
    Calls Try.prog 15 #[.agg #[.int .i8 p0_s.Across, v0_Frames]] w (fun e w' => ∃ _ : Unit, e = .returned (.tuple #[.int .i64 r.1, .int .i64 r.2.1, .int .i64 r.2.2]) ∧ Own [] w w' []) := by
  unfold impl_DarkestFrame.f at h0
  replace h0 := B.top h0
  refine calls_of_J (args := [.agg #[.int .i8 p0_s.Across, v0_Frames]]) Try.func15 rfl Try.ntmps15 rfl [(0, .agg #[.int .i8 p0_s.Across, v0_Frames])] rfl H0 ?_
  refine J.seq ?_
  refine J.region ?_
  refine J.box rfl rfl rfl rfl rfl (fun _ _ => rfl) fun b1 => ?_
  refine J.op rfl rfl rfl (V.as rfl rfl) ?_
  refine J.op rfl rfl rfl (V.as rfl rfl) ?_
  refine J.op rfl rfl rfl (V.as rfl rfl) ?_
  refine J.nil ?_
  refine J.tN ?_
  refine J.seq ?_
  refine J.block ?_
  refine J.seq ?_
  refine J.region ?_
  refine J.op rfl rfl rfl (V.ldW 0 rfl rfl rfl ts29 ta29 rfl) ?_
  obtain ⟨r3, hr4, h0⟩ := B.bind h0
  refine J.clA (l := [.tmp 13]) [] [.blk b1 [.int .i8 p0_s.Across, v0_Frames] 29] cf17 (wN rfl) rfl rfl rfl rfl rfl rfl (fun w H => impl_ValidSheet.calls (⟨p0_s.Across, p0_s.Frames⟩ : impl_Sheet) v0_Frames r3 w (Own.refl w) (Sl.laterA hS0_Frames H) hr4) fun g5 => ?_
  refine J.op rfl rfl rfl (V.nt rfl rfl) ?_
  refine J.op rfl rfl rfl (V.as rfl rfl) ?_
  obtain ⟨t6, et6, h0⟩ := B.lt h0
  refine J.val (congrArg (Value.bool) et6) ?_
  refine J.nil ?_
  refine J.tN ?_
  refine J.cond rfl (fun hB7 => ?_) (fun hB7 => ?_)
  · replace h0 := B.t hB7 h0
    refine J.seq ?_
    refine J.region ?_
    refine J.op rfl rfl rfl (V.as rfl rfl) ?_
    refine J.op rfl rfl rfl (V.as rfl rfl) ?_
    refine J.op rfl rfl rfl (V.as rfl rfl) ?_
    refine J.nil ?_
    refine J.tN ?_
    refine J.ret ?_
    refine J.bR ?_
    refine J.tR ?_
    obtain rfl := B.e h0
    exact J.ret3 rfl rfl rfl rfl fun w H => ⟨(), rfl, H.pick [] (by decide)⟩
  · replace h0 := B.f hB7 h0
    refine J.seq ?_
    refine J.region ?_
    refine J.op rfl rfl rfl (V.faB rfl rfl tf1_29) ?_
    refine J.op rfl rfl rfl (V.ldB 0 rfl rfl rfl Try.underlying27 ta27 rfl) ?_
    refine J.op rfl rfl rfl (V.lenS hS0_Frames rfl rfl tl27) ?_
    refine J.op rfl rfl rfl (V.cmp rfl rfl rfl rfl) ?_
    refine J.op rfl rfl rfl (V.as rfl rfl) ?_
    obtain ⟨t8, et8, h0⟩ := B.lt h0
    refine J.val (congrArg (Value.bool) et8) ?_
    refine J.nil ?_
    refine J.tN ?_
    refine J.cond rfl (fun hB9 => ?_) (fun hB9 => ?_)
    · replace h0 := B.t hB9 h0
      refine J.seq ?_
      refine J.region ?_
      refine J.op rfl rfl rfl (V.as rfl rfl) ?_
      refine J.op rfl rfl rfl (V.as rfl rfl) ?_
      refine J.op rfl rfl rfl (V.as rfl rfl) ?_
      refine J.nil ?_
      refine J.tN ?_
      refine J.ret ?_
      refine J.bR ?_
      refine J.tR ?_
      obtain rfl := B.e h0
      exact J.ret3 rfl rfl rfl rfl fun w H => ⟨(), rfl, H.pick [] (by decide)⟩
    · replace h0 := B.f hB9 h0
      refine J.skip ?_
      refine J.bN ?_
      refine J.tN ?_
      refine J.seq ?_
      refine J.region ?_
      refine J.op rfl rfl rfl (V.as rfl rfl) ?_
      refine J.op rfl rfl rfl (V.as rfl rfl) ?_
      refine J.nil ?_
      refine J.tN ?_
      refine J.seq ?_
      refine J.seq ?_
      refine J.region ?_
      refine J.op rfl rfl rfl (V.faB rfl rfl tf1_29) ?_
      refine J.op rfl rfl rfl (V.ldB 0 rfl rfl rfl Try.underlying27 ta27 rfl) ?_
      refine J.op rfl rfl rfl (V.lenS hS0_Frames rfl rfl tl27) ?_
      refine J.op rfl rfl rfl (V.mv rfl rfl) ?_
      refine J.nil ?_
      refine J.tN ?_
      obtain ⟨y29, hy31, h0⟩ := B.bind h0
      refine J.cutQ (γ := Unit) (fun _ => True) (fun gy30 => [(5, .int .i64 y29.2), (6, .int .i64 y29.1)]) (fun gy30 => [.blk b1 [.int .i8 p0_s.Across, v0_Frames] 29]) ?_ ?_
      · refine J.block ?_
        refine J.loop (γ := Unit) hy31 (fun s10 g11 => [(5, .int .i64 s10.2.2), (6, .int .i64 s10.1), (22, v0_Frames), (23, .int .i64 (p0_s.Frames.length : Int)), (24, .int .i64 s10.2.1)]) (fun s10 g11 => [.blk b1 [.int .i8 p0_s.Across, v0_Frames] 29]) () ?_ ?_
        · exact J.keep _ rfl (J.pickE [0] rfl rfl J.here)
        · intro rec12 s10 g11 h1
          unfold impl_DarkestFrame.b1 at h1
          refine J.seq ?_
          refine J.region ?_
          refine J.op rfl rfl rfl (V.cmp rfl rfl rfl rfl) ?_
          refine J.nil ?_
          refine J.tN ?_
          refine J.seq ?_
          refine J.cond rfl (fun hB13 => ?_) (fun hB13 => ?_)
          · replace h1 := B.t hB13 h1
            refine J.skip ?_
            refine J.tN ?_
            refine J.seq ?_
            refine J.block ?_
            refine J.seq ?_
            refine J.region ?_
            refine J.op rfl rfl rfl (V.mv rfl rfl) ?_
            obtain ⟨hC14, h1⟩ := B.chk h1
            refine J.op rfl rfl rfl (V.ixS hS0_Frames rfl rfl rfl tl27 ts60 hC14) ?_
            refine J.op rfl rfl rfl (V.elSA hS0_Frames hC14 rfl rfl ts60 ta60) ?_
            refine J.alloc rfl rfl rfl rfl tz60 rfl fun b15 => ?_
            refine J.op rfl rfl rfl (V.as rfl rfl) ?_
            refine J.stW (cs' := encA .i16 (rd (eA .i16 64) p0_s.Frames s10.2.1)) 0 rfl rfl rfl rfl rfl rfl ts60 rfl (fun _ _ => encA_one .i16 _) (encA_len _ _) (encA_len _ _) ?_
            obtain ⟨m17, em17, h1⟩ := B.lt h1
            refine J.setEnt 0 rfl (congrArg (fun q => Ent.blk _ (encA .i16 q) _) em17) ?_
            refine J.nil ?_
            refine J.tN ?_
            refine J.seq ?_
            refine J.region ?_
            refine J.op rfl rfl rfl (V.as rfl rfl) ?_
            refine J.nil ?_
            refine J.tN ?_
            refine J.seq ?_
            refine J.seq ?_
            refine J.region ?_
            refine J.op rfl rfl rfl (V.ldW 0 rfl rfl rfl ts60 ta60 (encA_len _ _)) ?_
            refine J.op rfl rfl rfl (V.mv rfl rfl) ?_
            refine J.nil ?_
            refine J.tN ?_
            obtain ⟨y25, hy27, h1⟩ := B.bind h1
            refine J.cutQ (γ := Unit) (fun _ => True) (fun gy26 => [(5, .int .i64 s10.2.2), (6, .int .i64 s10.1), (7, .int .i64 s10.2.1), (9, .int .i64 y25), (22, v0_Frames), (23, .int .i64 (p0_s.Frames.length : Int)), (24, .int .i64 s10.2.1)]) (fun gy26 => [.blk b15 (encA .i16 m17) 60, .blk b1 [.int .i8 p0_s.Across, v0_Frames] 29]) ?_ ?_
            · refine J.block ?_
              refine J.loop (γ := Unit) hy27 (fun s18 g19 => [(5, .int .i64 s10.2.2), (6, .int .i64 s10.1), (7, .int .i64 s10.2.1), (9, .int .i64 s18.1), (22, v0_Frames), (23, .int .i64 (p0_s.Frames.length : Int)), (24, .int .i64 s10.2.1), (29, .agg (encA .i16 m17).toArray), (30, .int .i64 s18.2)]) (fun s18 g19 => [.blk b15 (encA .i16 m17) 60, .blk b1 [.int .i8 p0_s.Across, v0_Frames] 29]) () ?_ ?_
              · exact J.keep _ rfl (J.pickE [0, 1] rfl rfl J.here)
              · intro rec20 s18 g19 h2
                unfold impl_DarkestFrame.b2 at h2
                refine J.seq ?_
                refine J.region ?_
                refine J.op rfl rfl rfl (V.cmp rfl rfl rfl rfl) ?_
                refine J.nil ?_
                refine J.tN ?_
                refine J.seq ?_
                refine J.cond rfl (fun hB21 => ?_) (fun hB21 => ?_)
                · replace h2 := B.t hB21 h2
                  refine J.skip ?_
                  refine J.tN ?_
                  refine J.seq ?_
                  refine J.block ?_
                  refine J.seq ?_
                  refine J.region ?_
                  obtain ⟨hC22, h2⟩ := B.chk h2
                  refine J.op rfl rfl rfl (V.ixA rfl rfl rfl tr60 ts58 Try.underlying58 ta58 hC22 (encA_get .i16 _ hC22)) ?_
                  refine J.op rfl rfl rfl (V.as rfl rfl) ?_
                  obtain ⟨d_23, ed_23, h2⟩ := B.lt h2
                  refine J.val (congrArg (Value.int .i16) ed_23) ?_
                  refine J.nil ?_
                  refine J.tN ?_
                  refine J.region ?_
                  refine J.op rfl rfl rfl (V.mv rfl rfl) ?_
                  refine J.op rfl rfl rfl (V.mv rfl rfl) ?_
                  refine J.op rfl rfl rfl (V.conv rfl rfl Try.underlying58 Try.underlying2) ?_
                  refine J.op rfl rfl rfl (V.ar rfl rfl rfl rfl) ?_
                  refine J.op rfl rfl rfl (V.as rfl rfl) ?_
                  obtain ⟨sum_24, esum_24, h2⟩ := B.lt h2
                  refine J.val (congrArg (Value.int .i64) esum_24) ?_
                  refine J.nil ?_
                  refine J.bN ?_
                  refine J.tN ?_
                  refine J.region ?_
                  refine J.op rfl rfl rfl (V.ar rfl rfl rfl rfl) ?_
                  refine J.op rfl rfl rfl (V.mv rfl rfl) ?_
                  refine J.nil ?_
                  refine J.tN (J.next (sum_24, IntKind.wrap .i64 (s18.2 + 1)) () (B.n h2) ?_)
                  exact J.keep _ rfl (J.pickE [0, 1] rfl rfl J.here)
                · replace h2 := B.f hB21 h2
                  refine J.exit ?_
                  refine J.tE ?_
                  refine J.tE ?_
                  refine J.bE ?_
                  obtain rfl := B.d h2
                  refine J.tN (J.to () trivial ?_)
                  exact J.keep _ rfl (J.pickE [0, 1] rfl rfl J.here)
            · intro gy26 _
              refine J.tN ?_
              refine J.seq ?_
              refine J.region ?_
              refine J.op rfl rfl rfl (V.mv rfl rfl) ?_
              refine J.op rfl rfl rfl (V.mv rfl rfl) ?_
              refine J.op rfl rfl rfl (V.cmp rfl rfl rfl rfl) ?_
              refine J.nil ?_
              refine J.tN ?_
              refine J.cond rfl (fun hB28 => ?_) (fun hB28 => ?_)
              · replace h1 := B.t hB28 h1
                refine J.region ?_
                refine J.op rfl rfl rfl (V.mv rfl rfl) ?_
                refine J.op rfl rfl rfl (V.mv rfl rfl) ?_
                refine J.op rfl rfl rfl (V.as rfl rfl) ?_
                refine J.op rfl rfl rfl (V.as rfl rfl) ?_
                refine J.nil ?_
                refine J.bN ?_
                refine J.tN ?_
                refine J.region ?_
                refine J.op rfl rfl rfl (V.ar rfl rfl rfl rfl) ?_
                refine J.op rfl rfl rfl (V.mv rfl rfl) ?_
                refine J.nil ?_
                refine J.tN (J.next (y25, IntKind.wrap .i64 (s10.2.1 + 1), s10.2.1) () (B.n h1) ?_)
                exact J.keep _ rfl (J.pickE [1] rfl rfl J.here)
              · replace h1 := B.f hB28 h1
                refine J.skip ?_
                refine J.bN ?_
                refine J.tN ?_
                refine J.region ?_
                refine J.op rfl rfl rfl (V.ar rfl rfl rfl rfl) ?_
                refine J.op rfl rfl rfl (V.mv rfl rfl) ?_
                refine J.nil ?_
                refine J.tN (J.next (s10.1, IntKind.wrap .i64 (s10.2.1 + 1), s10.2.2) () (B.n h1) ?_)
                exact J.keep _ rfl (J.pickE [1] rfl rfl J.here)
          · replace h1 := B.f hB13 h1
            refine J.exit ?_
            refine J.tE ?_
            refine J.tE ?_
            refine J.bE ?_
            obtain rfl := B.d h1
            refine J.tN (J.to () trivial ?_)
            exact J.keep _ rfl (J.pickE [0] rfl rfl J.here)
      · intro gy30 _
        refine J.tN ?_
        refine J.seq ?_
        refine J.region ?_
        refine J.op rfl rfl rfl (V.mv rfl rfl) ?_
        refine J.op rfl rfl rfl (V.mv rfl rfl) ?_
        refine J.op rfl rfl rfl (V.as rfl rfl) ?_
        refine J.op rfl rfl rfl (V.as rfl rfl) ?_
        refine J.op rfl rfl rfl (V.as rfl rfl) ?_
        refine J.nil ?_
        refine J.tN ?_
        refine J.ret ?_
        obtain rfl := B.e h0
        exact J.ret3 rfl rfl rfl rfl fun w H => ⟨(), rfl, H.pick [] (by decide)⟩

/-! ### spec.DarkestFrame: function 16 -/
noncomputable def spec_DarkestFrame.b2 (p0_s : impl_Sheet) (s7 : Int × Int × Int) : (Int × Int) → Option (Step (Int × Int) (Int)) := fun s11 => bif (decide (s11.2 < 64)) then (bif (inB s7.2.1 p0_s.Frames.length) then (bif (inB s11.2 64) then ((some (IntKind.wrap .i64 (s11.1 + (IntKind.wrap .i64 (rdA (rd (eA .i16 64) p0_s.Frames s7.2.1) s11.2))))).bind fun sum_17 => (some (IntKind.wrap .i64 (s11.2 + 1))).bind fun k_18 => some (.next (sum_17, k_18))) else none) else none) else (some (.done s11.1))
noncomputable def spec_DarkestFrame.b1 (p0_s : impl_Sheet) : (Int × Int × Int) → Option (Step (Int × Int × Int) (Int × Int)) := fun s7 => bif (decide (s7.2.1 < (p0_s.Frames.length : Int))) then ((loopW (spec_DarkestFrame.b2 p0_s s7) (0, 0)).bind fun y19 => bif (decide (s7.1 < y19)) then ((some (IntKind.wrap .i64 (s7.2.1 + 1))).bind fun i_23 => some (.next (y19, i_23, s7.2.1))) else ((some (IntKind.wrap .i64 (s7.2.1 + 1))).bind fun i_24 => some (.next (s7.1, i_24, s7.2.2)))) else (some (.done (s7.1, s7.2.2)))
noncomputable def spec_DarkestFrame.f (p0_s : impl_Sheet) : Option (Int × Int × Int) := (spec_l07Ok.f (⟨p0_s.Across, p0_s.Frames⟩ : impl_Sheet)).bind fun r3 => bif (!r3) then (some (0, 0, 1)) else ((loopW (spec_DarkestFrame.b1 p0_s) ((-1), 0, 0)).bind fun y25 => bif (decide (y25.1 < 0)) then (some (0, 0, 6)) else (some (y25.2, y25.1, 0)))
set_option maxRecDepth 100000 in
theorem spec_DarkestFrame.calls (p0_s : impl_Sheet) (v0_Frames : Value) (r : Int × Int × Int) (w : World) (H0 : Own [] w w []) (hS0_Frames : SlE [] w v0_Frames 60 (eA .i16 64) p0_s.Frames) (h0 : spec_DarkestFrame.f p0_s = some r) :
    Calls Try.prog 16 #[.agg #[.int .i8 p0_s.Across, v0_Frames]] w (fun e w' => ∃ _ : Unit, e = .returned (.tuple #[.int .i64 r.1, .int .i64 r.2.1, .int .i64 r.2.2]) ∧ Own [] w w' []) := by
  unfold spec_DarkestFrame.f at h0
  replace h0 := B.top h0
  refine calls_of_J (args := [.agg #[.int .i8 p0_s.Across, v0_Frames]]) Try.func16 rfl Try.ntmps16 rfl [(0, .agg #[.int .i8 p0_s.Across, v0_Frames])] rfl H0 ?_
  refine J.seq ?_
  refine J.region ?_
  refine J.box rfl rfl rfl rfl rfl (fun _ _ => rfl) fun b1 => ?_
  refine J.op rfl rfl rfl (V.as rfl rfl) ?_
  refine J.op rfl rfl rfl (V.as rfl rfl) ?_
  refine J.op rfl rfl rfl (V.as rfl rfl) ?_
  refine J.nil ?_
  refine J.tN ?_
  refine J.seq ?_
  refine J.seq ?_
  refine J.region ?_
  obtain ⟨r3, hr4, h0⟩ := B.bind h0
  refine J.clA (l := [.tmp 1]) [] [.blk b1 [.int .i8 p0_s.Across, v0_Frames] 29] cf39 (wN rfl) rfl rfl rfl rfl rfl rfl (fun w H => spec_l07Ok.calls (bp b1 0) (⟨p0_s.Across, p0_s.Frames⟩ : impl_Sheet) v0_Frames r3 w (Own.refl w) (Sl.laterA hS0_Frames H) (Own.rpA 0 H rfl) hr4) fun g5 => ?_
  refine J.op rfl rfl rfl (V.nt rfl rfl) ?_
  refine J.nil ?_
  refine J.tN ?_
  refine J.cond rfl (fun hB6 => ?_) (fun hB6 => ?_)
  · replace h0 := B.t hB6 h0
    refine J.seq ?_
    refine J.region ?_
    refine J.op rfl rfl rfl (V.as rfl rfl) ?_
    refine J.op rfl rfl rfl (V.as rfl rfl) ?_
    refine J.op rfl rfl rfl (V.as rfl rfl) ?_
    refine J.nil ?_
    refine J.tN ?_
    refine J.ret ?_
    refine J.tR ?_
    obtain rfl := B.e h0
    exact J.ret3 rfl rfl rfl rfl fun w H => ⟨(), rfl, H.pick [] (by decide)⟩
  · replace h0 := B.f hB6 h0
    refine J.skip ?_
    refine J.tN ?_
    refine J.seq ?_
    refine J.region ?_
    refine J.op rfl rfl rfl (V.as rfl rfl) ?_
    refine J.nil ?_
    refine J.tN ?_
    refine J.seq ?_
    refine J.region ?_
    refine J.op rfl rfl rfl (V.as rfl rfl) ?_
    refine J.nil ?_
    refine J.tN ?_
    refine J.seq ?_
    refine J.seq ?_
    refine J.region ?_
    refine J.op rfl rfl rfl (V.as rfl rfl) ?_
    refine J.nil ?_
    refine J.tN ?_
    obtain ⟨y25, hy27, h0⟩ := B.bind h0
    refine J.cutQ (γ := Unit) (fun _ => True) (fun gy26 => [(5, .int .i64 y25.2), (6, .int .i64 y25.1)]) (fun gy26 => [.blk b1 [.int .i8 p0_s.Across, v0_Frames] 29]) ?_ ?_
    · refine J.block ?_
      refine J.loop (γ := Unit) hy27 (fun s7 g8 => [(1, bp b1 0), (5, .int .i64 s7.2.2), (6, .int .i64 s7.1), (7, .int .i64 s7.2.1)]) (fun s7 g8 => [.blk b1 [.int .i8 p0_s.Across, v0_Frames] 29]) () ?_ ?_
      · exact J.keep _ rfl (J.pickE [0] rfl rfl J.here)
      · intro rec9 s7 g8 h1
        unfold spec_DarkestFrame.b1 at h1
        refine J.seq ?_
        refine J.seq ?_
        refine J.region ?_
        refine J.op rfl rfl rfl (V.mv rfl rfl) ?_
        refine J.op rfl rfl rfl (V.faB rfl rfl tf1_29) ?_
        refine J.op rfl rfl rfl (V.ldB 0 rfl rfl rfl Try.underlying27 ta27 rfl) ?_
        refine J.op rfl rfl rfl (V.lenS hS0_Frames rfl rfl tl27) ?_
        refine J.op rfl rfl rfl (V.cmp rfl rfl rfl rfl) ?_
        refine J.nil ?_
        refine J.tN ?_
        refine J.cond rfl (fun hB10 => ?_) (fun hB10 => ?_)
        · replace h1 := B.t hB10 h1
          refine J.skip ?_
          refine J.tN ?_
          refine J.seq ?_
          refine J.block ?_
          refine J.seq ?_
          refine J.region ?_
          refine J.op rfl rfl rfl (V.as rfl rfl) ?_
          refine J.nil ?_
          refine J.tN ?_
          refine J.seq ?_
          refine J.seq ?_
          refine J.region ?_
          refine J.op rfl rfl rfl (V.as rfl rfl) ?_
          refine J.nil ?_
          refine J.tN ?_
          obtain ⟨y19, hy21, h1⟩ := B.bind h1
          refine J.cutQ (γ := Unit) (fun _ => True) (fun gy20 => [(1, bp b1 0), (5, .int .i64 s7.2.2), (6, .int .i64 s7.1), (7, .int .i64 s7.2.1), (8, .int .i64 y19)]) (fun gy20 => [.blk b1 [.int .i8 p0_s.Across, v0_Frames] 29]) ?_ ?_
          · refine J.block ?_
            refine J.loop (γ := Unit) hy21 (fun s11 g12 => [(1, bp b1 0), (5, .int .i64 s7.2.2), (6, .int .i64 s7.1), (7, .int .i64 s7.2.1), (8, .int .i64 s11.1), (9, .int .i64 s11.2)]) (fun s11 g12 => [.blk b1 [.int .i8 p0_s.Across, v0_Frames] 29]) () ?_ ?_
            · exact J.keep _ rfl (J.pickE [0] rfl rfl J.here)
            · intro rec13 s11 g12 h2
              unfold spec_DarkestFrame.b2 at h2
              refine J.seq ?_
              refine J.seq ?_
              refine J.region ?_
              refine J.op rfl rfl rfl (V.mv rfl rfl) ?_
              refine J.op rfl rfl rfl (V.cmp rfl rfl rfl rfl) ?_
              refine J.nil ?_
              refine J.tN ?_
              refine J.cond rfl (fun hB14 => ?_) (fun hB14 => ?_)
              · replace h2 := B.t hB14 h2
                refine J.skip ?_
                refine J.tN ?_
                refine J.seq ?_
                refine J.block ?_
                refine J.region ?_
                refine J.op rfl rfl rfl (V.mv rfl rfl) ?_
                refine J.op rfl rfl rfl (V.faB rfl rfl tf1_29) ?_
                refine J.op rfl rfl rfl (V.ldB 0 rfl rfl rfl Try.underlying27 ta27 rfl) ?_
                refine J.op rfl rfl rfl (V.mv rfl rfl) ?_
                refine J.op rfl rfl rfl (V.mv rfl rfl) ?_
                obtain ⟨hC15, h2⟩ := B.chk h2
                refine J.op rfl rfl rfl (V.ixS hS0_Frames rfl rfl rfl tl27 ts60 hC15) ?_
                obtain ⟨hC16, h2⟩ := B.chk h2
                refine J.op rfl rfl rfl (V.ixES hS0_Frames hC15 rfl rfl rfl tr60 ts58 hC16) ?_
                refine J.op rfl rfl rfl (V.elS (j := s11.2.toNat * 1) hS0_Frames hC15 rfl rfl Try.underlying58 ta58 (encA_get1 .i16 _ hC16)) ?_
                refine J.op rfl rfl rfl (V.conv rfl rfl Try.underlying58 Try.underlying2) ?_
                refine J.op rfl rfl rfl (V.ar rfl rfl rfl rfl) ?_
                refine J.op rfl rfl rfl (V.as rfl rfl) ?_
                obtain ⟨sum_17, esum_17, h2⟩ := B.lt h2
                refine J.val (congrArg (Value.int .i64) esum_17) ?_
                refine J.nil ?_
                refine J.bN ?_
                refine J.tN ?_
                refine J.region ?_
                refine J.op rfl rfl rfl (V.mv rfl rfl) ?_
                refine J.op rfl rfl rfl (V.ar rfl rfl rfl rfl) ?_
                refine J.op rfl rfl rfl (V.as rfl rfl) ?_
                obtain ⟨k_18, ek_18, h2⟩ := B.lt h2
                refine J.val (congrArg (Value.int .i64) ek_18) ?_
                refine J.nil ?_
                refine J.tN (J.next (sum_17, k_18) () (B.n h2) ?_)
                exact J.keep _ rfl (J.pickE [0] rfl rfl J.here)
              · replace h2 := B.f hB14 h2
                refine J.exit ?_
                refine J.tE ?_
                refine J.tE ?_
                refine J.bE ?_
                obtain rfl := B.d h2
                refine J.tN (J.to () trivial ?_)
                exact J.keep _ rfl (J.pickE [0] rfl rfl J.here)
          · intro gy20 _
            refine J.tN ?_
            refine J.seq ?_
            refine J.region ?_
            refine J.op rfl rfl rfl (V.mv rfl rfl) ?_
            refine J.op rfl rfl rfl (V.mv rfl rfl) ?_
            refine J.op rfl rfl rfl (V.cmp rfl rfl rfl rfl) ?_
            refine J.nil ?_
            refine J.tN ?_
            refine J.cond rfl (fun hB22 => ?_) (fun hB22 => ?_)
            · replace h1 := B.t hB22 h1
              refine J.seq ?_
              refine J.region ?_
              refine J.op rfl rfl rfl (V.mv rfl rfl) ?_
              refine J.op rfl rfl rfl (V.as rfl rfl) ?_
              refine J.nil ?_
              refine J.tN ?_
              refine J.region ?_
              refine J.op rfl rfl rfl (V.mv rfl rfl) ?_
              refine J.op rfl rfl rfl (V.as rfl rfl) ?_
              refine J.nil ?_
              refine J.bN ?_
              refine J.tN ?_
              refine J.region ?_
              refine J.op rfl rfl rfl (V.mv rfl rfl) ?_
              refine J.op rfl rfl rfl (V.ar rfl rfl rfl rfl) ?_
              refine J.op rfl rfl rfl (V.as rfl rfl) ?_
              obtain ⟨i_23, ei_23, h1⟩ := B.lt h1
              refine J.val (congrArg (Value.int .i64) ei_23) ?_
              refine J.nil ?_
              refine J.tN (J.next (y19, i_23, s7.2.1) () (B.n h1) ?_)
              exact J.keep _ rfl (J.pickE [0] rfl rfl J.here)
            · replace h1 := B.f hB22 h1
              refine J.skip ?_
              refine J.bN ?_
              refine J.tN ?_
              refine J.region ?_
              refine J.op rfl rfl rfl (V.mv rfl rfl) ?_
              refine J.op rfl rfl rfl (V.ar rfl rfl rfl rfl) ?_
              refine J.op rfl rfl rfl (V.as rfl rfl) ?_
              obtain ⟨i_24, ei_24, h1⟩ := B.lt h1
              refine J.val (congrArg (Value.int .i64) ei_24) ?_
              refine J.nil ?_
              refine J.tN (J.next (s7.1, i_24, s7.2.2) () (B.n h1) ?_)
              exact J.keep _ rfl (J.pickE [0] rfl rfl J.here)
        · replace h1 := B.f hB10 h1
          refine J.exit ?_
          refine J.tE ?_
          refine J.tE ?_
          refine J.bE ?_
          obtain rfl := B.d h1
          refine J.tN (J.to () trivial ?_)
          exact J.keep _ rfl (J.pickE [0] rfl rfl J.here)
    · intro gy26 _
      refine J.tN ?_
      refine J.seq ?_
      refine J.seq ?_
      refine J.region ?_
      refine J.op rfl rfl rfl (V.mv rfl rfl) ?_
      refine J.op rfl rfl rfl (V.cmp rfl rfl rfl rfl) ?_
      refine J.nil ?_
      refine J.tN ?_
      refine J.cond rfl (fun hB28 => ?_) (fun hB28 => ?_)
      · replace h0 := B.t hB28 h0
        refine J.seq ?_
        refine J.region ?_
        refine J.op rfl rfl rfl (V.as rfl rfl) ?_
        refine J.op rfl rfl rfl (V.as rfl rfl) ?_
        refine J.op rfl rfl rfl (V.as rfl rfl) ?_
        refine J.nil ?_
        refine J.tN ?_
        refine J.ret ?_
        refine J.tR ?_
        obtain rfl := B.e h0
        exact J.ret3 rfl rfl rfl rfl fun w H => ⟨(), rfl, H.pick [] (by decide)⟩
      · replace h0 := B.f hB28 h0
        refine J.skip ?_
        refine J.tN ?_
        refine J.seq ?_
        refine J.region ?_
        refine J.op rfl rfl rfl (V.mv rfl rfl) ?_
        refine J.op rfl rfl rfl (V.mv rfl rfl) ?_
        refine J.op rfl rfl rfl (V.as rfl rfl) ?_
        refine J.op rfl rfl rfl (V.as rfl rfl) ?_
        refine J.op rfl rfl rfl (V.as rfl rfl) ?_
        refine J.nil ?_
        refine J.tN ?_
        refine J.ret ?_
        obtain rfl := B.e h0
        exact J.ret3 rfl rfl rfl rfl fun w H => ⟨(), rfl, H.pick [] (by decide)⟩

end Go.Proofs.Ytnjabckgklafhaa
