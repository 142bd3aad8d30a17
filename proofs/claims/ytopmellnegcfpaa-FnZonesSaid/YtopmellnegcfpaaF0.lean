/- Go functions as Lean functions, and that each call of theirs comes to just that: by a program written for this work (walk.py). No condition. -/
import Derived.Test.YtopmellnegcfpaaT
namespace Go.Proofs.Ytopmellnegcfpaa
open Go Go.RowKit G
set_option linter.unusedVariables false

/-! ### laws.a2Long: function 11 -/
noncomputable def laws_a2Long.f (p0_code : (List Int)) (p1_more : (List Int)) : Option (Bool) := bif (decide (3000 < (p0_code.length : Int))) then (some true) else ((some (decide (3000 < (p1_more.length : Int)))).bind fun t2 => some t2)
set_option maxRecDepth 100000 in
theorem laws_a2Long.calls (v0 : Value) (p0_code : (List Int)) (v1 : Value) (p1_more : (List Int)) (r : Bool) (w : World) (H0 : Own [] w w []) (hS0 : SlE [] w v0 5 (eI .u8) p0_code) (hS1 : SlE [] w v1 5 (eI .u8) p1_more) (h0 : laws_a2Long.f p0_code p1_more = some r) :
    Calls Try.prog 11 #[v0, v1] w (fun e w' => ∃ _ : Unit, e = .returned (.bool r) ∧ Own [] w w' []) := by
  unfold laws_a2Long.f at h0
  replace h0 := B.top h0
  refine calls_of_J (args := [v0, v1]) Try.func11 rfl Try.ntmps11 rfl [(0, v0), (1, v1)] rfl H0 ?_
  refine J.seq ?_
  refine J.region ?_
  refine J.op rfl rfl rfl (V.as rfl rfl) ?_
  refine J.nil ?_
  refine J.tN ?_
  refine J.seq ?_
  refine J.region ?_
  refine J.op rfl rfl rfl (V.mv rfl rfl) ?_
  refine J.op rfl rfl rfl (V.lenS hS0 rfl rfl tl31) ?_
  refine J.op rfl rfl rfl (V.cmp rfl rfl rfl rfl) ?_
  refine J.op rfl rfl rfl (V.mv rfl rfl) ?_
  refine J.split 8 rfl (fun hB1 => ?_) (fun hB1 => ?_)
  · replace h0 := B.t hB1 h0
    refine J.opOff rfl rfl rfl rfl rfl rfl ?_
    refine J.opOff rfl rfl rfl rfl rfl rfl ?_
    refine J.opOff rfl rfl rfl rfl rfl rfl ?_
    refine J.op rfl rfl rfl (V.pkT rfl rfl rfl) ?_
    refine J.op rfl rfl rfl (V.as rfl rfl) ?_
    refine J.nil ?_
    refine J.tN ?_
    refine J.ret ?_
    obtain rfl := B.e h0
    exact J.ret1 rfl rfl fun w H => ⟨(), rfl, H.pick [] (by decide)⟩
  · replace h0 := B.f hB1 h0
    refine J.opOn rfl rfl rfl rfl rfl (V.mv rfl rfl) ?_
    refine J.opOn rfl rfl rfl rfl rfl (V.lenS hS1 rfl rfl tl31) ?_
    refine J.opOn rfl rfl rfl rfl rfl (V.cmp rfl rfl rfl rfl) ?_
    refine J.op rfl rfl rfl (V.pkF rfl rfl rfl) ?_
    refine J.op rfl rfl rfl (V.as rfl rfl) ?_
    obtain ⟨t2, et2, h0⟩ := B.lt h0
    refine J.val (congrArg (Value.bool) et2) ?_
    refine J.nil ?_
    refine J.tN ?_
    refine J.ret ?_
    obtain rfl := B.e h0
    exact J.ret1 rfl rfl fun w H => ⟨(), rfl, H.pick [] (by decide)⟩

/-! ### (*spec.l00Src).next: function 60 -/
noncomputable def spec_l00Src_next.f (p0_s : spec_l00Src) : Option (Int × spec_l00Src) := (bif (decide (p0_s.at_ < (p0_s.code.length : Int))) then (bif (inB p0_s.at_ p0_s.code.length) then ((some (IntKind.wrap .i64 (rd (eI .u8) p0_s.code p0_s.at_))).bind fun b_5 => some b_5) else none) else (some 0) : Option (Int)).bind fun y1 => bif (decide ((IntKind.wrap .i64 (p0_s.at_ + 1)) ≤ (p0_s.code.length : Int))) then (some (y1, (⟨p0_s.code, IntKind.wrap .i64 (p0_s.at_ + 1), IntKind.wrap .u64 ((IntKind.wrap .u64 ((IntKind.wrap .u64 (p0_s.seed * 6364136223846793005)) + (IntKind.wrap .u64 y1))) + 1442695040888963407)⟩ : spec_l00Src))) else ((some (IntKind.wrap .i64 (Go.bits .and .u64 (shR .u64 (IntKind.wrap .u64 ((IntKind.wrap .u64 ((IntKind.wrap .u64 (p0_s.seed * 6364136223846793005)) + (IntKind.wrap .u64 y1))) + 1442695040888963407)) 40) 255))).bind fun t8 => some (t8, (⟨p0_s.code, IntKind.wrap .i64 (p0_s.at_ + 1), IntKind.wrap .u64 ((IntKind.wrap .u64 ((IntKind.wrap .u64 (p0_s.seed * 6364136223846793005)) + (IntKind.wrap .u64 y1))) + 1442695040888963407)⟩ : spec_l00Src)))
set_option maxRecDepth 100000 in
theorem spec_l00Src_next.calls (b0_ : Nat) (p0_s : spec_l00Src) (v0_code : Value) (r : Int × spec_l00Src) (w : World) (H0 : Own [b0_] w w [.blk b0_ [v0_code, .int .i64 p0_s.at_, .int .u64 p0_s.seed] 92]) (hS0_code : SlE [b0_] w v0_code 5 (eI .u8) p0_s.code) (h0 : spec_l00Src_next.f p0_s = some r) :
    Calls Try.prog 60 #[bp b0_ 0] w (fun e w' => ∃ _ : Unit, e = .returned (.int .i64 r.1) ∧ Own [b0_] w w' [.blk b0_ [v0_code, .int .i64 r.2.at_, .int .u64 r.2.seed] 92]) := by
  unfold spec_l00Src_next.f at h0
  replace h0 := B.top h0
  refine calls_of_J (args := [bp b0_ 0]) Try.func60 rfl Try.ntmps60 rfl [(0, bp b0_ 0)] rfl H0 ?_
  refine J.seq ?_
  refine J.region ?_
  refine J.op rfl rfl rfl (V.as rfl rfl) ?_
  refine J.nil ?_
  refine J.tN ?_
  refine J.seq ?_
  refine J.region ?_
  refine J.op rfl rfl rfl (V.as rfl rfl) ?_
  refine J.nil ?_
  refine J.tN ?_
  refine J.seq ?_
  obtain ⟨y1, hy6, h0⟩ := B.bind h0
  replace hy6 := B.top hy6
  refine J.cut (γ := Unit) (fun _ => True) (fun gy2 => [(0, bp b0_ 0), (3, .int .i64 y1)]) (fun gy2 => [.blk b0_ [v0_code, .int .i64 p0_s.at_, .int .u64 p0_s.seed] 92]) ?_ ?_
  · have h1 := hy6
    refine J.seq ?_
    refine J.quiet mixed (by kernel_rfl) ?_
    refine JQ.op rfl rfl rfl (V.mv rfl rfl) ?_
    refine JQ.op rfl rfl rfl (V.nc rfl rfl) ?_
    refine JQ.op rfl rfl rfl (V.faB rfl rfl tf1_92) ?_
    refine JQ.op rfl rfl rfl (V.ldB 0 rfl rfl rfl Try.underlying3 ta3 rfl) ?_
    refine JQ.op rfl rfl rfl (V.mv rfl rfl) ?_
    refine JQ.op rfl rfl rfl (V.nc rfl rfl) ?_
    refine JQ.op rfl rfl rfl (V.faB rfl rfl tf0_92) ?_
    refine JQ.op rfl rfl rfl (V.ldB 0 rfl rfl rfl Try.underlying31 ta31 rfl) ?_
    refine JQ.op rfl rfl rfl (V.lenS hS0_code rfl rfl tl31) ?_
    refine JQ.op rfl rfl rfl (V.cmp rfl rfl rfl rfl) ?_
    refine JQ.nil ?_
    refine J.tN ?_
    refine J.cond rfl (fun hB3 => ?_) (fun hB3 => ?_)
    · replace h1 := B.t hB3 h1
      refine J.quiet mixed (by kernel_rfl) ?_
      refine JQ.op rfl rfl rfl (V.mv rfl rfl) ?_
      refine JQ.op rfl rfl rfl (V.nc rfl rfl) ?_
      refine JQ.op rfl rfl rfl (V.faB rfl rfl tf0_92) ?_
      refine JQ.op rfl rfl rfl (V.ldB 0 rfl rfl rfl Try.underlying31 ta31 rfl) ?_
      refine JQ.op rfl rfl rfl (V.mv rfl rfl) ?_
      refine JQ.op rfl rfl rfl (V.nc rfl rfl) ?_
      refine JQ.op rfl rfl rfl (V.faB rfl rfl tf1_92) ?_
      refine JQ.op rfl rfl rfl (V.ldB 0 rfl rfl rfl Try.underlying3 ta3 rfl) ?_
      obtain ⟨hC4, h1⟩ := B.chk h1
      refine JQ.op rfl rfl rfl (V.ixS hS0_code rfl rfl rfl tl31 ts5 hC4) ?_
      refine JQ.op rfl rfl rfl (V.elS0 hS0_code hC4 rfl rfl Try.underlying5 ta5 rfl) ?_
      refine JQ.op rfl rfl rfl (V.conv rfl rfl Try.underlying5 Try.underlying3) ?_
      refine JQ.op rfl rfl rfl (V.as rfl rfl) ?_
      obtain ⟨b_5, eb_5, h1⟩ := B.lt h1
      refine JQ.val (congrArg (Value.int .i64) eb_5) ?_
      refine JQ.nil ?_
      obtain rfl := B.e h1
      refine J.tN (J.to () trivial ?_)
      exact J.keep _ rfl (J.pickE [0] rfl rfl J.here)
    · replace h1 := B.f hB3 h1
      refine J.skip ?_
      obtain rfl := B.e h1
      refine J.tN (J.to () trivial ?_)
      exact J.keep _ rfl (J.pickE [0] rfl rfl J.here)
  · intro gy2 _
    refine J.seq ?_
    refine J.region ?_
    refine J.op rfl rfl rfl (V.mv rfl rfl) ?_
    refine J.op rfl rfl rfl (V.nc rfl rfl) ?_
    refine J.op rfl rfl rfl (V.faB rfl rfl tf1_92) ?_
    refine J.op rfl rfl rfl (V.ldB 0 rfl rfl rfl Try.underlying3 ta3 rfl) ?_
    refine J.op rfl rfl rfl (V.ar rfl rfl rfl rfl) ?_
    refine J.op rfl rfl rfl (V.nc rfl rfl) ?_
    refine J.op rfl rfl rfl (V.faB rfl rfl tf1_92) ?_
    refine J.stB 0 rfl rfl rfl rfl rfl rfl ts3 (fun _ _ => rfl) rfl ?_
    refine J.nil ?_
    refine J.tN ?_
    refine J.seq ?_
    refine J.region ?_
    refine J.op rfl rfl rfl (V.mv rfl rfl) ?_
    refine J.op rfl rfl rfl (V.mv rfl rfl) ?_
    refine J.op rfl rfl rfl (V.nc rfl rfl) ?_
    refine J.op rfl rfl rfl (V.faB rfl rfl tf2_92) ?_
    refine J.op rfl rfl rfl (V.ldB 0 rfl rfl rfl Try.underlying90 ta90 rfl) ?_
    refine J.op rfl rfl rfl (V.ar rfl rfl rfl rfl) ?_
    refine J.op rfl rfl rfl (V.mv rfl rfl) ?_
    refine J.op rfl rfl rfl (V.conv rfl rfl Try.underlying3 Try.underlying90) ?_
    refine J.op rfl rfl rfl (V.ar rfl rfl rfl rfl) ?_
    refine J.op rfl rfl rfl (V.ar rfl rfl rfl rfl) ?_
    refine J.op rfl rfl rfl (V.nc rfl rfl) ?_
    refine J.op rfl rfl rfl (V.faB rfl rfl tf2_92) ?_
    refine J.stB 0 rfl rfl rfl rfl rfl rfl ts90 (fun _ _ => rfl) rfl ?_
    refine J.nil ?_
    refine J.tN ?_
    refine J.seq ?_
    refine J.seq ?_
    refine J.quiet mixed (by kernel_rfl) ?_
    refine JQ.op rfl rfl rfl (V.mv rfl rfl) ?_
    refine JQ.op rfl rfl rfl (V.nc rfl rfl) ?_
    refine JQ.op rfl rfl rfl (V.faB rfl rfl tf1_92) ?_
    refine JQ.op rfl rfl rfl (V.ldB 0 rfl rfl rfl Try.underlying3 ta3 rfl) ?_
    refine JQ.op rfl rfl rfl (V.mv rfl rfl) ?_
    refine JQ.op rfl rfl rfl (V.nc rfl rfl) ?_
    refine JQ.op rfl rfl rfl (V.faB rfl rfl tf0_92) ?_
    refine JQ.op rfl rfl rfl (V.ldB 0 rfl rfl rfl Try.underlying31 ta31 rfl) ?_
    refine JQ.op rfl rfl rfl (V.lenS hS0_code rfl rfl tl31) ?_
    refine JQ.op rfl rfl rfl (V.cmp rfl rfl rfl rfl) ?_
    refine JQ.nil ?_
    refine J.tN ?_
    refine J.cond rfl (fun hB7 => ?_) (fun hB7 => ?_)
    · replace h0 := B.t hB7 h0
      refine J.seq ?_
      refine J.region ?_
      refine J.op rfl rfl rfl (V.mv rfl rfl) ?_
      refine J.op rfl rfl rfl (V.as rfl rfl) ?_
      refine J.nil ?_
      refine J.tN ?_
      refine J.ret ?_
      refine J.tR ?_
      obtain rfl := B.e h0
      exact J.ret1 rfl rfl fun w H => ⟨(), rfl, H.pick [0] (by decide)⟩
    · replace h0 := B.f hB7 h0
      refine J.skip ?_
      refine J.tN ?_
      refine J.seq ?_
      refine J.region ?_
      refine J.op rfl rfl rfl (V.mv rfl rfl) ?_
      refine J.op rfl rfl rfl (V.nc rfl rfl) ?_
      refine J.op rfl rfl rfl (V.faB rfl rfl tf2_92) ?_
      refine J.op rfl rfl rfl (V.ldB 0 rfl rfl rfl Try.underlying90 ta90 rfl) ?_
      refine J.op rfl rfl rfl (V.shr rfl rfl rfl rfl) ?_
      refine J.op rfl rfl rfl (V.ar rfl rfl rfl rfl) ?_
      refine J.op rfl rfl rfl (V.conv rfl rfl Try.underlying90 Try.underlying2) ?_
      refine J.op rfl rfl rfl (V.as rfl rfl) ?_
      obtain ⟨t8, et8, h0⟩ := B.lt h0
      refine J.val (congrArg (Value.int .i64) et8) ?_
      refine J.nil ?_
      refine J.tN ?_
      refine J.ret ?_
      obtain rfl := B.e h0
      exact J.ret1 rfl rfl fun w H => ⟨(), rfl, H.pick [0] (by decide)⟩

/-! ### (*spec.l00Src).pick: function 37 -/
noncomputable def spec_l00Src_pick.f (p0_s : spec_l00Src) (p1_n : Int) : Option (Int × spec_l00Src) := bif (decide (p1_n ≤ 1)) then (some (0, (⟨p0_s.code, p0_s.at_, p0_s.seed⟩ : spec_l00Src))) else ((spec_l00Src_next.f (⟨p0_s.code, p0_s.at_, p0_s.seed⟩ : spec_l00Src)).bind fun r2 => (bif (decide (200 < p1_n)) then ((spec_l00Src_next.f (⟨p0_s.code, r2.2.at_, r2.2.seed⟩ : spec_l00Src)).bind fun r8 => (some (IntKind.wrap .i64 ((IntKind.wrap .i64 (r2.1 * 256)) + r8.1))).bind fun x_11 => some (x_11, r8.2.at_, r8.2.seed)) else (some (r2.1, r2.2.at_, r2.2.seed)) : Option (Int × Int × Int)).bind fun y5 => bif (!(p1_n == 0)) then ((some (Int.tmod y5.1 p1_n)).bind fun t14 => some (t14, (⟨p0_s.code, y5.2.1, y5.2.2⟩ : spec_l00Src))) else none)
set_option maxRecDepth 100000 in
theorem spec_l00Src_pick.calls (b0_ : Nat) (p0_s : spec_l00Src) (v0_code : Value) (p1_n : Int) (r : Int × spec_l00Src) (w : World) (H0 : Own [b0_] w w [.blk b0_ [v0_code, .int .i64 p0_s.at_, .int .u64 p0_s.seed] 92]) (hS0_code : SlE [b0_] w v0_code 5 (eI .u8) p0_s.code) (h0 : spec_l00Src_pick.f p0_s p1_n = some r) :
    Calls Try.prog 37 #[bp b0_ 0, .int .i64 p1_n] w (fun e w' => ∃ _ : Unit, e = .returned (.int .i64 r.1) ∧ Own [b0_] w w' [.blk b0_ [v0_code, .int .i64 r.2.at_, .int .u64 r.2.seed] 92]) := by
  unfold spec_l00Src_pick.f at h0
  replace h0 := B.top h0
  refine calls_of_J (args := [bp b0_ 0, .int .i64 p1_n]) Try.func37 rfl Try.ntmps37 rfl [(0, bp b0_ 0), (1, .int .i64 p1_n)] rfl H0 ?_
  refine J.seq ?_
  refine J.region ?_
  refine J.op rfl rfl rfl (V.as rfl rfl) ?_
  refine J.nil ?_
  refine J.tN ?_
  refine J.seq ?_
  refine J.seq ?_
  refine J.region ?_
  refine J.op rfl rfl rfl (V.mv rfl rfl) ?_
  refine J.op rfl rfl rfl (V.cmp rfl rfl rfl rfl) ?_
  refine J.nil ?_
  refine J.tN ?_
  refine J.cond rfl (fun hB1 => ?_) (fun hB1 => ?_)
  · replace h0 := B.t hB1 h0
    refine J.seq ?_
    refine J.region ?_
    refine J.op rfl rfl rfl (V.as rfl rfl) ?_
    refine J.nil ?_
    refine J.tN ?_
    refine J.ret ?_
    refine J.tR ?_
    obtain rfl := B.e h0
    exact J.ret1 rfl rfl fun w H => ⟨(), rfl, H.pick [0] (by decide)⟩
  · replace h0 := B.f hB1 h0
    refine J.skip ?_
    refine J.tN ?_
    refine J.seq ?_
    refine J.region ?_
    refine J.op rfl rfl rfl (V.mv rfl rfl) ?_
    obtain ⟨r2, hr3, h0⟩ := B.bind h0
    refine J.cl (l := [.tmp 8]) [.blk b0_ [v0_code, .int .i64 p0_s.at_, .int .u64 p0_s.seed] 92] [] cf60 (wN rfl) rfl rfl rfl rfl rfl rfl hM1 (fun w H => spec_l00Src_next.calls b0_ (⟨p0_s.code, p0_s.at_, p0_s.seed⟩ : spec_l00Src) v0_code r2 w H.enter1 (Sl.later1 hS0_code H) hr3) fun g4 => ?_
    refine J.op rfl rfl rfl (V.as rfl rfl) ?_
    refine J.nil ?_
    refine J.tN ?_
    refine J.seq ?_
    obtain ⟨y5, hy12, h0⟩ := B.bind h0
    replace hy12 := B.top hy12
    refine J.cut (γ := Unit) (fun _ => True) (fun gy6 => [(1, .int .i64 p1_n), (5, .int .i64 y5.1)]) (fun gy6 => [.blk b0_ [v0_code, .int .i64 y5.2.1, .int .u64 y5.2.2] 92]) ?_ ?_
    · have h1 := hy12
      refine J.seq ?_
      refine J.region ?_
      refine J.op rfl rfl rfl (V.mv rfl rfl) ?_
      refine J.op rfl rfl rfl (V.cmp rfl rfl rfl rfl) ?_
      refine J.nil ?_
      refine J.tN ?_
      refine J.cond rfl (fun hB7 => ?_) (fun hB7 => ?_)
      · replace h1 := B.t hB7 h1
        refine J.region ?_
        refine J.op rfl rfl rfl (V.mv rfl rfl) ?_
        refine J.op rfl rfl rfl (V.ar rfl rfl rfl rfl) ?_
        refine J.op rfl rfl rfl (V.mv rfl rfl) ?_
        obtain ⟨r8, hr9, h1⟩ := B.bind h1
        refine J.cl (l := [.tmp 14]) [.blk b0_ [v0_code, .int .i64 r2.2.at_, .int .u64 r2.2.seed] 92] [] cf60 (wN rfl) rfl rfl rfl rfl rfl rfl hM1 (fun w H => spec_l00Src_next.calls b0_ (⟨p0_s.code, r2.2.at_, r2.2.seed⟩ : spec_l00Src) v0_code r8 w H.enter1 (Sl.later1 hS0_code H) hr9) fun g10 => ?_
        refine J.op rfl rfl rfl (V.ar rfl rfl rfl rfl) ?_
        refine J.op rfl rfl rfl (V.as rfl rfl) ?_
        obtain ⟨x_11, ex_11, h1⟩ := B.lt h1
        refine J.val (congrArg (Value.int .i64) ex_11) ?_
        refine J.nil ?_
        obtain rfl := B.e h1
        refine J.tN (J.to () trivial ?_)
        exact J.keep _ rfl (J.pickE [0] rfl rfl J.here)
      · replace h1 := B.f hB7 h1
        refine J.skip ?_
        obtain rfl := B.e h1
        refine J.tN (J.to () trivial ?_)
        exact J.keep _ rfl (J.pickE [0] rfl rfl J.here)
    · intro gy6 _
      refine J.seq ?_
      refine J.region ?_
      refine J.op rfl rfl rfl (V.mv rfl rfl) ?_
      refine J.op rfl rfl rfl (V.mv rfl rfl) ?_
      obtain ⟨hC13, h0⟩ := B.chk h0
      refine J.op rfl rfl rfl (V.rem rfl rfl rfl (nz hC13)) ?_
      refine J.op rfl rfl rfl (V.as rfl rfl) ?_
      obtain ⟨t14, et14, h0⟩ := B.lt h0
      refine J.val (congrArg (Value.int .i64) et14) ?_
      refine J.nil ?_
      refine J.tN ?_
      refine J.ret ?_
      obtain rfl := B.e h0
      exact J.ret1 rfl rfl fun w H => ⟨(), rfl, H.pick [0] (by decide)⟩

/-! ### spec.l06Drawn: function 35 -/
noncomputable def spec_l06Drawn.b1 (p0_s : spec_l00Src) (r6 : Int × spec_l00Src) (wide_12 : Int) : (Int × Int × Int × (Vector Int 24)) → Option (Step (Int × Int × Int × (Vector Int 24)) (Int × Int × (Vector Int 24))) := fun s13 => bif (decide (s13.1 < 24)) then ((spec_l00Src_pick.f (⟨p0_s.code, s13.2.1, s13.2.2.1⟩ : spec_l00Src) wide_12).bind fun r17 => bif (inB s13.1 24) then ((some (wrA s13.2.2.2 s13.1 (IntKind.wrap .i8 (IntKind.wrap .i64 (r6.1 + r17.1))))).bind fun m21 => (some (IntKind.wrap .i64 (s13.1 + 1))).bind fun i_22 => some (.next (i_22, r17.2.at_, r17.2.seed, m21))) else none) else (some (.done (s13.2.1, s13.2.2.1, s13.2.2.2)))
noncomputable def spec_l06Drawn.b2 (p0_s : spec_l00Src) : (Int × Int × Int × (Vector Int 24)) → Option (Step (Int × Int × Int × (Vector Int 24)) (Int × Int × (Vector Int 24))) := fun s29 => bif (decide (0 < s29.1)) then ((spec_l00Src_pick.f (⟨p0_s.code, s29.2.1, s29.2.2.1⟩ : spec_l00Src) 24).bind fun r33 => (spec_l00Src_pick.f (⟨p0_s.code, r33.2.at_, r33.2.seed⟩ : spec_l00Src) 61).bind fun r36 => bif (inB r33.1 24) then ((some (wrA s29.2.2.2 r33.1 (IntKind.wrap .i8 r36.1))).bind fun m40 => (some (IntKind.wrap .i64 (s29.1 - 1))).bind fun k_41 => some (.next (k_41, r36.2.at_, r36.2.seed, m40))) else none) else (some (.done (s29.2.1, s29.2.2.1, s29.2.2.2)))
noncomputable def spec_l06Drawn.f (p0_s : spec_l00Src) : Option ((Vector Int 24) × spec_l00Src) := (some (zA 24)).bind fun m5 => (spec_l00Src_pick.f (⟨p0_s.code, p0_s.at_, p0_s.seed⟩ : spec_l00Src) 40).bind fun r6 => (spec_l00Src_pick.f (⟨p0_s.code, r6.2.at_, r6.2.seed⟩ : spec_l00Src) 21).bind fun r9 => (some (IntKind.wrap .i64 (1 + r9.1))).bind fun wide_12 => (loopW (spec_l06Drawn.b1 p0_s r6 wide_12) (0, r9.2.at_, r9.2.seed, m5)).bind fun y23 => (spec_l00Src_pick.f (⟨p0_s.code, y23.1, y23.2.1⟩ : spec_l00Src) 5).bind fun r26 => (loopW (spec_l06Drawn.b2 p0_s) (r26.1, r26.2.at_, r26.2.seed, y23.2.2)).bind fun y42 => some (y42.2.2, (⟨p0_s.code, y42.1, y42.2.1⟩ : spec_l00Src))
set_option maxRecDepth 100000 in
theorem spec_l06Drawn.calls (b0_ : Nat) (p0_s : spec_l00Src) (v0_code : Value) (r : (Vector Int 24) × spec_l00Src) (w : World) (H0 : Own [b0_] w w [.blk b0_ [v0_code, .int .i64 p0_s.at_, .int .u64 p0_s.seed] 92]) (hS0_code : SlE [b0_] w v0_code 5 (eI .u8) p0_s.code) (h0 : spec_l06Drawn.f p0_s = some r) :
    Calls Try.prog 35 #[bp b0_ 0] w (fun e w' => ∃ _ : Unit, e = .returned (.agg (encA .i8 r.1).toArray) ∧ Own [b0_] w w' [.blk b0_ [v0_code, .int .i64 r.2.at_, .int .u64 r.2.seed] 92]) := by
  unfold spec_l06Drawn.f at h0
  replace h0 := B.top h0
  refine calls_of_J (args := [bp b0_ 0]) Try.func35 rfl Try.ntmps35 rfl [(0, bp b0_ 0)] rfl H0 ?_
  refine J.seq ?_
  refine J.region ?_
  refine J.alloc rfl rfl rfl rfl tz26 rfl fun b1 => ?_
  refine J.nil ?_
  refine J.tN ?_
  refine J.seq ?_
  refine J.region ?_
  refine J.op rfl rfl rfl (V.bd (l := []) (v := .agg (encA .i8 (zA 24)).toArray) rfl rfl (fun w H => by kernel_rfl)) ?_
  refine J.alloc rfl rfl rfl rfl tz26 rfl fun b3 => ?_
  refine J.stW (cs' := encA .i8 (zA 24)) 0 rfl rfl rfl rfl rfl rfl ts26 rfl (encA_one .i8 _) (encA_len _ _) (encA_len _ _) ?_
  obtain ⟨m5, em5, h0⟩ := B.lt h0
  refine J.setEnt 0 rfl (congrArg (fun q => Ent.blk _ (encA .i8 q) _) em5) ?_
  refine J.nil ?_
  refine J.tN ?_
  refine J.seq ?_
  refine J.region ?_
  refine J.op rfl rfl rfl (V.mv rfl rfl) ?_
  refine J.pickE [2, 0, 1] (es' := [.blk b0_ [v0_code, .int .i64 p0_s.at_, .int .u64 p0_s.seed] 92, .blk b3 (encA .i8 m5) 26, .blk b1 (encA .i8 (zA 24)) 26]) rfl rfl ?_
  obtain ⟨r6, hr7, h0⟩ := B.bind h0
  refine J.cl (l := [.tmp 9, .const (.int .i64 40)]) [.blk b0_ [v0_code, .int .i64 p0_s.at_, .int .u64 p0_s.seed] 92] [.blk b3 (encA .i8 m5) 26, .blk b1 (encA .i8 (zA 24)) 26] cf37 (wN rfl) rfl rfl rfl rfl rfl rfl hM1 (fun w H => spec_l00Src_pick.calls b0_ (⟨p0_s.code, p0_s.at_, p0_s.seed⟩ : spec_l00Src) v0_code 40 r6 w H.enter1 (Sl.later1 hS0_code H) hr7) fun g8 => ?_
  refine J.op rfl rfl rfl (V.as rfl rfl) ?_
  refine J.nil ?_
  refine J.tN ?_
  refine J.seq ?_
  refine J.region ?_
  refine J.op rfl rfl rfl (V.mv rfl rfl) ?_
  obtain ⟨r9, hr10, h0⟩ := B.bind h0
  refine J.cl (l := [.tmp 11, .const (.int .i64 21)]) [.blk b0_ [v0_code, .int .i64 r6.2.at_, .int .u64 r6.2.seed] 92] [.blk b3 (encA .i8 m5) 26, .blk b1 (encA .i8 (zA 24)) 26] cf37 (wN rfl) rfl rfl rfl rfl rfl rfl hM1 (fun w H => spec_l00Src_pick.calls b0_ (⟨p0_s.code, r6.2.at_, r6.2.seed⟩ : spec_l00Src) v0_code 21 r9 w H.enter1 (Sl.later1 hS0_code H) hr10) fun g11 => ?_
  refine J.op rfl rfl rfl (V.ar rfl rfl rfl rfl) ?_
  refine J.op rfl rfl rfl (V.as rfl rfl) ?_
  obtain ⟨wide_12, ewide_12, h0⟩ := B.lt h0
  refine J.val (congrArg (Value.int .i64) ewide_12) ?_
  refine J.nil ?_
  refine J.tN ?_
  refine J.seq ?_
  refine J.seq ?_
  refine J.region ?_
  refine J.op rfl rfl rfl (V.as rfl rfl) ?_
  refine J.nil ?_
  refine J.tN ?_
  obtain ⟨y23, hy25, h0⟩ := B.bind h0
  refine J.cutQ (γ := Unit) (fun _ => True) (fun gy24 => [(0, bp b0_ 0), (2, bp b1 0), (3, bp b3 0)]) (fun gy24 => [.blk b0_ [v0_code, .int .i64 y23.1, .int .u64 y23.2.1] 92, .blk b3 (encA .i8 y23.2.2) 26, .blk b1 (encA .i8 (zA 24)) 26]) ?_ ?_
  · refine J.block ?_
    refine J.loop (γ := Unit) hy25 (fun s13 g14 => [(0, bp b0_ 0), (2, bp b1 0), (3, bp b3 0), (4, .int .i64 r6.1), (5, .int .i64 wide_12), (6, .int .i64 s13.1)]) (fun s13 g14 => [.blk b0_ [v0_code, .int .i64 s13.2.1, .int .u64 s13.2.2.1] 92, .blk b3 (encA .i8 s13.2.2.2) 26, .blk b1 (encA .i8 (zA 24)) 26]) () ?_ ?_
    · exact J.keep _ rfl (J.pickE [0, 1, 2] rfl rfl J.here)
    · intro rec15 s13 g14 h1
      unfold spec_l06Drawn.b1 at h1
      refine J.seq ?_
      refine J.seq ?_
      refine J.region ?_
      refine J.op rfl rfl rfl (V.mv rfl rfl) ?_
      refine J.op rfl rfl rfl (V.cmp rfl rfl rfl rfl) ?_
      refine J.nil ?_
      refine J.tN ?_
      refine J.cond rfl (fun hB16 => ?_) (fun hB16 => ?_)
      · replace h1 := B.t hB16 h1
        refine J.skip ?_
        refine J.tN ?_
        refine J.seq ?_
        refine J.block ?_
        refine J.region ?_
        refine J.op rfl rfl rfl (V.mv rfl rfl) ?_
        refine J.op rfl rfl rfl (V.mv rfl rfl) ?_
        refine J.op rfl rfl rfl (V.mv rfl rfl) ?_
        refine J.op rfl rfl rfl (V.mv rfl rfl) ?_
        obtain ⟨r17, hr18, h1⟩ := B.bind h1
        refine J.cl (l := [.tmp 20, .tmp 21]) [.blk b0_ [v0_code, .int .i64 s13.2.1, .int .u64 s13.2.2.1] 92] [.blk b3 (encA .i8 s13.2.2.2) 26, .blk b1 (encA .i8 (zA 24)) 26] cf37 (wN rfl) rfl rfl rfl rfl rfl rfl hM1 (fun w H => spec_l00Src_pick.calls b0_ (⟨p0_s.code, s13.2.1, s13.2.2.1⟩ : spec_l00Src) v0_code wide_12 r17 w H.enter1 (Sl.later1 hS0_code H) hr18) fun g19 => ?_
        refine J.op rfl rfl rfl (V.ar rfl rfl rfl rfl) ?_
        refine J.op rfl rfl rfl (V.conv rfl rfl Try.underlying2 Try.underlying22) ?_
        obtain ⟨hC20, h1⟩ := B.chk h1
        refine J.op rfl rfl rfl (V.ixB rfl rfl rfl tr26 ts22 hC20) ?_
        refine J.stB 1 rfl rfl rfl rfl rfl rfl ts22 (fun _ _ => rfl) (encA_lt .i8 _ hC20) ?_
        refine J.setEnt 1 rfl (congrArg (fun q => Ent.blk _ q _) (encA_set .i8 _ _ _)) ?_
        obtain ⟨m21, em21, h1⟩ := B.lt h1
        refine J.setEnt 1 rfl (congrArg (fun q => Ent.blk _ (encA .i8 q) _) em21) ?_
        refine J.nil ?_
        refine J.bN ?_
        refine J.tN ?_
        refine J.region ?_
        refine J.op rfl rfl rfl (V.mv rfl rfl) ?_
        refine J.op rfl rfl rfl (V.ar rfl rfl rfl rfl) ?_
        refine J.op rfl rfl rfl (V.as rfl rfl) ?_
        obtain ⟨i_22, ei_22, h1⟩ := B.lt h1
        refine J.val (congrArg (Value.int .i64) ei_22) ?_
        refine J.nil ?_
        refine J.tN (J.next (i_22, r17.2.at_, r17.2.seed, m21) () (B.n h1) ?_)
        exact J.keep _ rfl (J.pickE [0, 1, 2] rfl rfl J.here)
      · replace h1 := B.f hB16 h1
        refine J.exit ?_
        refine J.tE ?_
        refine J.tE ?_
        refine J.bE ?_
        obtain rfl := B.d h1
        refine J.tN (J.to () trivial ?_)
        exact J.keep _ rfl (J.pickE [0, 1, 2] rfl rfl J.here)
  · intro gy24 _
    refine J.tN ?_
    refine J.seq ?_
    refine J.seq ?_
    refine J.region ?_
    refine J.op rfl rfl rfl (V.mv rfl rfl) ?_
    obtain ⟨r26, hr27, h0⟩ := B.bind h0
    refine J.cl (l := [.tmp 26, .const (.int .i64 5)]) [.blk b0_ [v0_code, .int .i64 y23.1, .int .u64 y23.2.1] 92] [.blk b3 (encA .i8 y23.2.2) 26, .blk b1 (encA .i8 (zA 24)) 26] cf37 (wN rfl) rfl rfl rfl rfl rfl rfl hM1 (fun w H => spec_l00Src_pick.calls b0_ (⟨p0_s.code, y23.1, y23.2.1⟩ : spec_l00Src) v0_code 5 r26 w H.enter1 (Sl.later1 hS0_code H) hr27) fun g28 => ?_
    refine J.op rfl rfl rfl (V.as rfl rfl) ?_
    refine J.nil ?_
    refine J.tN ?_
    obtain ⟨y42, hy44, h0⟩ := B.bind h0
    refine J.cutQ (γ := Unit) (fun _ => True) (fun gy43 => [(2, bp b1 0), (3, bp b3 0)]) (fun gy43 => [.blk b0_ [v0_code, .int .i64 y42.1, .int .u64 y42.2.1] 92, .blk b3 (encA .i8 y42.2.2) 26, .blk b1 (encA .i8 (zA 24)) 26]) ?_ ?_
    · refine J.block ?_
      refine J.loop (γ := Unit) hy44 (fun s29 g30 => [(0, bp b0_ 0), (2, bp b1 0), (3, bp b3 0), (7, .int .i64 s29.1)]) (fun s29 g30 => [.blk b0_ [v0_code, .int .i64 s29.2.1, .int .u64 s29.2.2.1] 92, .blk b3 (encA .i8 s29.2.2.2) 26, .blk b1 (encA .i8 (zA 24)) 26]) () ?_ ?_
      · exact J.keep _ rfl (J.pickE [0, 1, 2] rfl rfl J.here)
      · intro rec31 s29 g30 h1
        unfold spec_l06Drawn.b2 at h1
        refine J.seq ?_
        refine J.seq ?_
        refine J.region ?_
        refine J.op rfl rfl rfl (V.mv rfl rfl) ?_
        refine J.op rfl rfl rfl (V.cmp rfl rfl rfl rfl) ?_
        refine J.nil ?_
        refine J.tN ?_
        refine J.cond rfl (fun hB32 => ?_) (fun hB32 => ?_)
        · replace h1 := B.t hB32 h1
          refine J.skip ?_
          refine J.tN ?_
          refine J.seq ?_
          refine J.block ?_
          refine J.region ?_
          refine J.op rfl rfl rfl (V.mv rfl rfl) ?_
          obtain ⟨r33, hr34, h1⟩ := B.bind h1
          refine J.cl (l := [.tmp 32, .const (.int .i64 24)]) [.blk b0_ [v0_code, .int .i64 s29.2.1, .int .u64 s29.2.2.1] 92] [.blk b3 (encA .i8 s29.2.2.2) 26, .blk b1 (encA .i8 (zA 24)) 26] cf37 (wN rfl) rfl rfl rfl rfl rfl rfl hM1 (fun w H => spec_l00Src_pick.calls b0_ (⟨p0_s.code, s29.2.1, s29.2.2.1⟩ : spec_l00Src) v0_code 24 r33 w H.enter1 (Sl.later1 hS0_code H) hr34) fun g35 => ?_
          refine J.op rfl rfl rfl (V.mv rfl rfl) ?_
          obtain ⟨r36, hr37, h1⟩ := B.bind h1
          refine J.cl (l := [.tmp 34, .const (.int .i64 61)]) [.blk b0_ [v0_code, .int .i64 r33.2.at_, .int .u64 r33.2.seed] 92] [.blk b3 (encA .i8 s29.2.2.2) 26, .blk b1 (encA .i8 (zA 24)) 26] cf37 (wN rfl) rfl rfl rfl rfl rfl rfl hM1 (fun w H => spec_l00Src_pick.calls b0_ (⟨p0_s.code, r33.2.at_, r33.2.seed⟩ : spec_l00Src) v0_code 61 r36 w H.enter1 (Sl.later1 hS0_code H) hr37) fun g38 => ?_
          refine J.op rfl rfl rfl (V.conv rfl rfl Try.underlying2 Try.underlying22) ?_
          obtain ⟨hC39, h1⟩ := B.chk h1
          refine J.op rfl rfl rfl (V.ixB rfl rfl rfl tr26 ts22 hC39) ?_
          refine J.stB 1 rfl rfl rfl rfl rfl rfl ts22 (fun _ _ => rfl) (encA_lt .i8 _ hC39) ?_
          refine J.setEnt 1 rfl (congrArg (fun q => Ent.blk _ q _) (encA_set .i8 _ _ _)) ?_
          obtain ⟨m40, em40, h1⟩ := B.lt h1
          refine J.setEnt 1 rfl (congrArg (fun q => Ent.blk _ (encA .i8 q) _) em40) ?_
          refine J.nil ?_
          refine J.bN ?_
          refine J.tN ?_
          refine J.region ?_
          refine J.op rfl rfl rfl (V.mv rfl rfl) ?_
          refine J.op rfl rfl rfl (V.ar rfl rfl rfl rfl) ?_
          refine J.op rfl rfl rfl (V.as rfl rfl) ?_
          obtain ⟨k_41, ek_41, h1⟩ := B.lt h1
          refine J.val (congrArg (Value.int .i64) ek_41) ?_
          refine J.nil ?_
          refine J.tN (J.next (k_41, r36.2.at_, r36.2.seed, m40) () (B.n h1) ?_)
          exact J.keep _ rfl (J.pickE [0, 1, 2] rfl rfl J.here)
        · replace h1 := B.f hB32 h1
          refine J.exit ?_
          refine J.tE ?_
          refine J.tE ?_
          refine J.bE ?_
          obtain rfl := B.d h1
          refine J.tN (J.to () trivial ?_)
          exact J.keep _ rfl (J.pickE [0, 1, 2] rfl rfl J.here)
    · intro gy43 _
      refine J.tN ?_
      refine J.seq ?_
      refine J.region ?_
      refine J.op rfl rfl rfl (V.ldW 1 rfl rfl rfl ts26 ta26 (encA_len _ _)) ?_
      refine J.stW (cs' := encA .i8 y42.2.2) 2 rfl rfl rfl rfl rfl rfl ts26 rfl (encA_one .i8 _) (encA_len _ _) (encA_len _ _) ?_
      refine J.nil ?_
      refine J.tN ?_
      refine J.ret ?_
      obtain rfl := B.e h0
      exact J.retC 2 rfl rfl rfl ts26 ta26 (encA_len _ _) fun w H => ⟨(), rfl, H.pick [0] (by decide)⟩

/-! ### spec.l00From: function 36 -/
noncomputable def spec_l00From.f (p0_code : (List Int)) : Option (Int × Int) := some (0, 0)
set_option maxRecDepth 100000 in
theorem spec_l00From.calls (v0 : Value) (p0_code : (List Int)) (r : Int × Int) (w : World) (H0 : Own [] w w []) (hS0 : SlE [] w v0 5 (eI .u8) p0_code) (h0 : spec_l00From.f p0_code = some r) :
    Calls Try.prog 36 #[v0] w (fun e w' => ∃ gh : Nat, e = .returned (bp gh 0) ∧ Own [] w w' [.blk gh [v0, .int .i64 r.1, .int .u64 r.2] 92]) := by
  unfold spec_l00From.f at h0
  replace h0 := B.top h0
  refine calls_of_J (args := [v0]) Try.func36 rfl Try.ntmps36 rfl [(0, v0)] rfl H0 ?_
  refine J.seq ?_
  refine J.region ?_
  refine J.op rfl rfl rfl (V.as rfl rfl) ?_
  refine J.nil ?_
  refine J.tN ?_
  refine J.seq ?_
  refine J.region ?_
  refine J.op rfl rfl rfl (V.mv rfl rfl) ?_
  refine J.op rfl rfl rfl (V.bd (l := [(0, .tmp 3)]) (v := .agg #[v0, .int .i64 0, .int .u64 0]) rfl rfl (fun w H => by obtain ⟨_, _, e0, _⟩ := hS0.len; rw [e0]; kernel_rfl)) ?_
  refine J.box rfl rfl rfl rfl rfl (fun _ _ => rfl) fun b1 => ?_
  refine J.op rfl rfl rfl (V.as rfl rfl) ?_
  refine J.nil ?_
  refine J.tN ?_
  refine J.ret ?_
  obtain rfl := B.e h0
  exact J.ret1 rfl rfl fun w H => ⟨b1, rfl, H.pick [0] (by decide)⟩

/-! ### spec.A2Scene: function 12 -/
noncomputable def spec_A2Scene.f (p0_code : (List Int)) : Option ((Vector Int 24)) := (spec_l00From.f p0_code).bind fun r3 => (spec_l06Drawn.f (⟨p0_code, r3.1, r3.2⟩ : spec_l00Src)).bind fun r7 => some r7.1
set_option maxRecDepth 100000 in
theorem spec_A2Scene.calls (v0 : Value) (p0_code : (List Int)) (r : (Vector Int 24)) (w : World) (H0 : Own [] w w []) (hS0 : SlE [] w v0 5 (eI .u8) p0_code) (h0 : spec_A2Scene.f p0_code = some r) :
    Calls Try.prog 12 #[v0] w (fun e w' => ∃ _ : Unit, e = .returned (.agg (encA .i8 r).toArray) ∧ Own [] w w' []) := by
  unfold spec_A2Scene.f at h0
  replace h0 := B.top h0
  refine calls_of_J (args := [v0]) Try.func12 rfl Try.ntmps12 rfl [(0, v0)] rfl H0 ?_
  refine J.seq ?_
  refine J.region ?_
  refine J.alloc rfl rfl rfl rfl tz26 rfl fun b1 => ?_
  refine J.nil ?_
  refine J.tN ?_
  refine J.seq ?_
  refine J.region ?_
  refine J.op rfl rfl rfl (V.mv rfl rfl) ?_
  obtain ⟨r3, hr4, h0⟩ := B.bind h0
  refine J.cl (l := [.tmp 3]) [] [.blk b1 (encA .i8 (zA 24)) 26] cf36 (wN rfl) rfl rfl rfl rfl rfl rfl (by simp) (fun w H => spec_l00From.calls v0 p0_code r3 w (Own.refl w) (Sl.later0 hS0 H) hr4) fun g5 => ?_
  obtain ⟨r7, hr8, h0⟩ := B.bind h0
  refine J.cl (l := [.tmp 4]) [.blk g5 [v0, .int .i64 r3.1, .int .u64 r3.2] 92] [.blk b1 (encA .i8 (zA 24)) 26] cf35 (wN rfl) rfl rfl rfl rfl rfl rfl hM1 (fun w H => spec_l06Drawn.calls g5 (⟨p0_code, r3.1, r3.2⟩ : spec_l00Src) v0 r7 w H.enter1 (Sl.later1 hS0 H) hr8) fun g9 => ?_
  refine J.stW (cs' := encA .i8 r7.1) 1 rfl rfl rfl rfl rfl rfl ts26 rfl (encA_one .i8 _) (encA_len _ _) (encA_len _ _) ?_
  refine J.nil ?_
  refine J.tN ?_
  refine J.ret ?_
  obtain rfl := B.e h0
  exact J.retC 1 rfl rfl rfl ts26 ta26 (encA_len _ _) fun w H => ⟨(), rfl, H.pick [] (by decide)⟩

/-! ### spec.A2Placement: function 13 -/
noncomputable def spec_A2Placement.f (p0_code : (List Int)) : Option (impl_Placement) := (spec_l00From.f p0_code).bind fun r3 => (spec_l00Src_pick.f (⟨p0_code, r3.1, r3.2⟩ : spec_l00Src) 61).bind fun r7 => (spec_l00Src_pick.f (⟨p0_code, r7.2.at_, r7.2.seed⟩ : spec_l00Src) 11).bind fun r12 => some (⟨IntKind.wrap .i8 r7.1, IntKind.wrap .i8 r12.1⟩ : impl_Placement)
set_option maxRecDepth 100000 in
theorem spec_A2Placement.calls (v0 : Value) (p0_code : (List Int)) (r : impl_Placement) (w : World) (H0 : Own [] w w []) (hS0 : SlE [] w v0 5 (eI .u8) p0_code) (h0 : spec_A2Placement.f p0_code = some r) :
    Calls Try.prog 13 #[v0] w (fun e w' => ∃ _ : Unit, e = .returned (.agg #[.int .i8 r.Reading, .int .i8 r.Zone]) ∧ Own [] w w' []) := by
  unfold spec_A2Placement.f at h0
  replace h0 := B.top h0
  refine calls_of_J (args := [v0]) Try.func13 rfl Try.ntmps13 rfl [(0, v0)] rfl H0 ?_
  refine J.seq ?_
  refine J.region ?_
  refine J.alloc rfl rfl rfl rfl tz35 rfl fun b1 => ?_
  refine J.nil ?_
  refine J.tN ?_
  refine J.seq ?_
  refine J.region ?_
  refine J.op rfl rfl rfl (V.mv rfl rfl) ?_
  obtain ⟨r3, hr4, h0⟩ := B.bind h0
  refine J.cl (l := [.tmp 5]) [] [.blk b1 [.int .i8 0, .int .i8 0] 35] cf36 (wN rfl) rfl rfl rfl rfl rfl rfl (by simp) (fun w H => spec_l00From.calls v0 p0_code r3 w (Own.refl w) (Sl.later0 hS0 H) hr4) fun g5 => ?_
  refine J.op rfl rfl rfl (V.as rfl rfl) ?_
  refine J.nil ?_
  refine J.tN ?_
  refine J.seq ?_
  refine J.region ?_
  refine J.op rfl rfl rfl (V.mv rfl rfl) ?_
  obtain ⟨r7, hr8, h0⟩ := B.bind h0
  refine J.cl (l := [.tmp 7, .const (.int .i64 61)]) [.blk g5 [v0, .int .i64 r3.1, .int .u64 r3.2] 92] [.blk b1 [.int .i8 0, .int .i8 0] 35] cf37 (wN rfl) rfl rfl rfl rfl rfl rfl hM1 (fun w H => spec_l00Src_pick.calls g5 (⟨p0_code, r3.1, r3.2⟩ : spec_l00Src) v0 61 r7 w H.enter1 (Sl.later1 hS0 H) hr8) fun g9 => ?_
  refine J.op rfl rfl rfl (V.conv rfl rfl Try.underlying2 Try.underlying22) ?_
  refine J.op rfl rfl rfl (V.bd (l := [(0, .tmp 9)]) (v := .agg #[.int .i8 (IntKind.wrap .i8 r7.1), .int .i8 0]) rfl rfl (fun w H => by kernel_rfl)) ?_
  refine J.alloc rfl rfl rfl rfl tz35 rfl fun b10 => ?_
  refine J.stW (cs' := [.int .i8 (IntKind.wrap .i8 r7.1), .int .i8 0]) 0 rfl rfl rfl rfl rfl rfl ts35 rfl (fun u hu => by simp at hu; rcases hu with rfl | rfl <;> rfl) rfl rfl ?_
  refine J.nil ?_
  refine J.tN ?_
  refine J.seq ?_
  refine J.region ?_
  refine J.op rfl rfl rfl (V.mv rfl rfl) ?_
  refine J.pickE [1, 0, 2] (es' := [.blk g5 [v0, .int .i64 r7.2.at_, .int .u64 r7.2.seed] 92, .blk b10 [.int .i8 (IntKind.wrap .i8 r7.1), .int .i8 0] 35, .blk b1 [.int .i8 0, .int .i8 0] 35]) rfl rfl ?_
  obtain ⟨r12, hr13, h0⟩ := B.bind h0
  refine J.cl (l := [.tmp 11, .const (.int .i64 11)]) [.blk g5 [v0, .int .i64 r7.2.at_, .int .u64 r7.2.seed] 92] [.blk b10 [.int .i8 (IntKind.wrap .i8 r7.1), .int .i8 0] 35, .blk b1 [.int .i8 0, .int .i8 0] 35] cf37 (wN rfl) rfl rfl rfl rfl rfl rfl hM1 (fun w H => spec_l00Src_pick.calls g5 (⟨p0_code, r7.2.at_, r7.2.seed⟩ : spec_l00Src) v0 11 r12 w H.enter1 (Sl.later1 hS0 H) hr13) fun g14 => ?_
  refine J.op rfl rfl rfl (V.conv rfl rfl Try.underlying2 Try.underlying22) ?_
  refine J.op rfl rfl rfl (V.faB rfl rfl tf1_35) ?_
  refine J.stB 1 rfl rfl rfl rfl rfl rfl ts22 (fun _ _ => rfl) rfl ?_
  refine J.nil ?_
  refine J.tN ?_
  refine J.seq ?_
  refine J.region ?_
  refine J.op rfl rfl rfl (V.ldW 1 rfl rfl rfl ts35 ta35 rfl) ?_
  refine J.stW (cs' := [.int .i8 (IntKind.wrap .i8 r7.1), .int .i8 (IntKind.wrap .i8 r12.1)]) 2 rfl rfl rfl rfl rfl rfl ts35 rfl (fun u hu => by simp at hu; rcases hu with rfl | rfl <;> rfl) rfl rfl ?_
  refine J.nil ?_
  refine J.tN ?_
  refine J.ret ?_
  obtain rfl := B.e h0
  exact J.retC 2 rfl rfl rfl ts35 ta35 rfl fun w H => ⟨(), rfl, H.pick [] (by decide)⟩

/-! ### impl.within: function 34 -/
noncomputable def impl_within.f (p0_n : Int) (p1_low : Int) (p2_high : Int) : Option (Bool) := bif (decide (p1_low ≤ p0_n)) then ((some (decide (p0_n ≤ p2_high))).bind fun t2 => some t2) else (some false)
set_option maxRecDepth 100000 in
theorem impl_within.calls (p0_n : Int) (p1_low : Int) (p2_high : Int) (r : Bool) (w : World) (H0 : Own [] w w []) (h0 : impl_within.f p0_n p1_low p2_high = some r) :
    Calls Try.prog 34 #[.int .i64 p0_n, .int .i64 p1_low, .int .i64 p2_high] w (fun e w' => ∃ _ : Unit, e = .returned (.bool r) ∧ Own [] w w' []) := by
  unfold impl_within.f at h0
  replace h0 := B.top h0
  refine calls_of_J (args := [.int .i64 p0_n, .int .i64 p1_low, .int .i64 p2_high]) Try.func34 rfl Try.ntmps34 rfl [(0, .int .i64 p0_n), (1, .int .i64 p1_low), (2, .int .i64 p2_high)] rfl H0 ?_
  refine J.seq ?_
  refine J.region ?_
  refine J.op rfl rfl rfl (V.as rfl rfl) ?_
  refine J.nil ?_
  refine J.tN ?_
  refine J.seq ?_
  refine J.region ?_
  refine J.op rfl rfl rfl (V.mv rfl rfl) ?_
  refine J.op rfl rfl rfl (V.mv rfl rfl) ?_
  refine J.op rfl rfl rfl (V.cmp rfl rfl rfl rfl) ?_
  refine J.op rfl rfl rfl (V.mv rfl rfl) ?_
  refine J.split 10 rfl (fun hB1 => ?_) (fun hB1 => ?_)
  · replace h0 := B.t hB1 h0
    refine J.opOn rfl rfl rfl rfl rfl (V.mv rfl rfl) ?_
    refine J.opOn rfl rfl rfl rfl rfl (V.mv rfl rfl) ?_
    refine J.opOn rfl rfl rfl rfl rfl (V.cmp rfl rfl rfl rfl) ?_
    refine J.op rfl rfl rfl (V.pkT rfl rfl rfl) ?_
    refine J.op rfl rfl rfl (V.as rfl rfl) ?_
    obtain ⟨t2, et2, h0⟩ := B.lt h0
    refine J.val (congrArg (Value.bool) et2) ?_
    refine J.nil ?_
    refine J.tN ?_
    refine J.ret ?_
    obtain rfl := B.e h0
    exact J.ret1 rfl rfl fun w H => ⟨(), rfl, H.pick [] (by decide)⟩
  · replace h0 := B.f hB1 h0
    refine J.opOff rfl rfl rfl rfl rfl rfl ?_
    refine J.opOff rfl rfl rfl rfl rfl rfl ?_
    refine J.opOff rfl rfl rfl rfl rfl rfl ?_
    refine J.op rfl rfl rfl (V.pkF rfl rfl rfl) ?_
    refine J.op rfl rfl rfl (V.as rfl rfl) ?_
    refine J.nil ?_
    refine J.tN ?_
    refine J.ret ?_
    obtain rfl := B.e h0
    exact J.ret1 rfl rfl fun w H => ⟨(), rfl, H.pick [] (by decide)⟩

/-! ### impl.isReading: function 39 -/
noncomputable def impl_isReading.f (p0_n : Int) : Option (Bool) := (impl_within.f p0_n 0 60).bind fun r1 => some r1
set_option maxRecDepth 100000 in
theorem impl_isReading.calls (p0_n : Int) (r : Bool) (w : World) (H0 : Own [] w w []) (h0 : impl_isReading.f p0_n = some r) :
    Calls Try.prog 39 #[.int .i64 p0_n] w (fun e w' => ∃ _ : Unit, e = .returned (.bool r) ∧ Own [] w w' []) := by
  unfold impl_isReading.f at h0
  replace h0 := B.top h0
  refine calls_of_J (args := [.int .i64 p0_n]) Try.func39 rfl Try.ntmps39 rfl [(0, .int .i64 p0_n)] rfl H0 ?_
  refine J.seq ?_
  refine J.region ?_
  refine J.op rfl rfl rfl (V.as rfl rfl) ?_
  refine J.nil ?_
  refine J.tN ?_
  refine J.seq ?_
  refine J.region ?_
  refine J.op rfl rfl rfl (V.mv rfl rfl) ?_
  obtain ⟨r1, hr2, h0⟩ := B.bind h0
  refine J.cl (l := [.tmp 3, .const (.int .i64 0), .const (.int .i64 60)]) [] [] cf34 (wN rfl) rfl rfl rfl rfl rfl rfl (by simp) (fun w H => impl_within.calls p0_n 0 60 r1 w (Own.refl w)  hr2) fun g3 => ?_
  refine J.op rfl rfl rfl (V.as rfl rfl) ?_
  refine J.nil ?_
  refine J.tN ?_
  refine J.ret ?_
  obtain rfl := B.e h0
  exact J.ret1 rfl rfl fun w H => ⟨(), rfl, H.pick [] (by decide)⟩

/-! ### impl.isZone: function 46 -/
noncomputable def impl_isZone.f (p0_n : Int) : Option (Bool) := (impl_within.f p0_n 0 10).bind fun r1 => some r1
set_option maxRecDepth 100000 in
theorem impl_isZone.calls (p0_n : Int) (r : Bool) (w : World) (H0 : Own [] w w []) (h0 : impl_isZone.f p0_n = some r) :
    Calls Try.prog 46 #[.int .i64 p0_n] w (fun e w' => ∃ _ : Unit, e = .returned (.bool r) ∧ Own [] w w' []) := by
  unfold impl_isZone.f at h0
  replace h0 := B.top h0
  refine calls_of_J (args := [.int .i64 p0_n]) Try.func46 rfl Try.ntmps46 rfl [(0, .int .i64 p0_n)] rfl H0 ?_
  refine J.seq ?_
  refine J.region ?_
  refine J.op rfl rfl rfl (V.as rfl rfl) ?_
  refine J.nil ?_
  refine J.tN ?_
  refine J.seq ?_
  refine J.region ?_
  refine J.op rfl rfl rfl (V.mv rfl rfl) ?_
  obtain ⟨r1, hr2, h0⟩ := B.bind h0
  refine J.cl (l := [.tmp 3, .const (.int .i64 0), .const (.int .i64 10)]) [] [] cf34 (wN rfl) rfl rfl rfl rfl rfl rfl (by simp) (fun w H => impl_within.calls p0_n 0 10 r1 w (Own.refl w)  hr2) fun g3 => ?_
  refine J.op rfl rfl rfl (V.as rfl rfl) ?_
  refine J.nil ?_
  refine J.tN ?_
  refine J.ret ?_
  obtain rfl := B.e h0
  exact J.ret1 rfl rfl fun w H => ⟨(), rfl, H.pick [] (by decide)⟩

/-! ### impl.isPlacement: function 38 -/
noncomputable def impl_isPlacement.f (p0_p : impl_Placement) : Option (Bool) := (impl_isReading.f (IntKind.wrap .i64 p0_p.Reading)).bind fun r3 => bif r3 then ((impl_isZone.f (IntKind.wrap .i64 p0_p.Zone)).bind fun r7 => some r7) else (some false)
set_option maxRecDepth 100000 in
theorem impl_isPlacement.calls (p0_p : impl_Placement) (r : Bool) (w : World) (H0 : Own [] w w []) (h0 : impl_isPlacement.f p0_p = some r) :
    Calls Try.prog 38 #[.agg #[.int .i8 p0_p.Reading, .int .i8 p0_p.Zone]] w (fun e w' => ∃ _ : Unit, e = .returned (.bool r) ∧ Own [] w w' []) := by
  unfold impl_isPlacement.f at h0
  replace h0 := B.top h0
  refine calls_of_J (args := [.agg #[.int .i8 p0_p.Reading, .int .i8 p0_p.Zone]]) Try.func38 rfl Try.ntmps38 rfl [(0, .agg #[.int .i8 p0_p.Reading, .int .i8 p0_p.Zone])] rfl H0 ?_
  refine J.seq ?_
  refine J.region ?_
  refine J.box rfl rfl rfl rfl rfl (fun _ _ => rfl) fun b1 => ?_
  refine J.op rfl rfl rfl (V.as rfl rfl) ?_
  refine J.nil ?_
  refine J.tN ?_
  refine J.seq ?_
  refine J.region ?_
  refine J.op rfl rfl rfl (V.faB rfl rfl tf0_35) ?_
  refine J.op rfl rfl rfl (V.ldB 0 rfl rfl rfl Try.underlying22 ta22 rfl) ?_
  refine J.op rfl rfl rfl (V.conv rfl rfl Try.underlying22 Try.underlying2) ?_
  obtain ⟨r3, hr4, h0⟩ := B.bind h0
  refine J.cl (l := [.tmp 5]) [] [.blk b1 [.int .i8 p0_p.Reading, .int .i8 p0_p.Zone] 35] cf39 (wN rfl) rfl rfl rfl rfl rfl rfl (by simp) (fun w H => impl_isReading.calls (IntKind.wrap .i64 p0_p.Reading) r3 w (Own.refl w)  hr4) fun g5 => ?_
  refine J.op rfl rfl rfl (V.mv rfl rfl) ?_
  refine J.split 7 rfl (fun hB6 => ?_) (fun hB6 => ?_)
  · replace h0 := B.t hB6 h0
    refine J.opOn rfl rfl rfl rfl rfl (V.faB rfl rfl tf1_35) ?_
    refine J.opOn rfl rfl rfl rfl rfl (V.ldB 0 rfl rfl rfl Try.underlying22 ta22 rfl) ?_
    refine J.opOn rfl rfl rfl rfl rfl (V.conv rfl rfl Try.underlying22 Try.underlying2) ?_
    obtain ⟨r7, hr8, h0⟩ := B.bind h0
    refine J.cl (l := [.tmp 10]) [] [.blk b1 [.int .i8 p0_p.Reading, .int .i8 p0_p.Zone] 35] cf46 (wY rfl rfl rfl) rfl rfl rfl rfl rfl rfl (by simp) (fun w H => impl_isZone.calls (IntKind.wrap .i64 p0_p.Zone) r7 w (Own.refl w)  hr8) fun g9 => ?_
    refine J.op rfl rfl rfl (V.pkT rfl rfl rfl) ?_
    refine J.op rfl rfl rfl (V.as rfl rfl) ?_
    refine J.nil ?_
    refine J.tN ?_
    refine J.ret ?_
    obtain rfl := B.e h0
    exact J.ret1 rfl rfl fun w H => ⟨(), rfl, H.pick [] (by decide)⟩
  · replace h0 := B.f hB6 h0
    refine J.opOff rfl rfl rfl rfl rfl rfl ?_
    refine J.opOff rfl rfl rfl rfl rfl rfl ?_
    refine J.opOff rfl rfl rfl rfl rfl rfl ?_
    refine J.opOff rfl rfl rfl rfl rfl rfl ?_
    refine J.op rfl rfl rfl (V.pkF rfl rfl rfl) ?_
    refine J.op rfl rfl rfl (V.as rfl rfl) ?_
    refine J.nil ?_
    refine J.tN ?_
    refine J.ret ?_
    obtain rfl := B.e h0
    exact J.ret1 rfl rfl fun w H => ⟨(), rfl, H.pick [] (by decide)⟩

/-! ### impl.floor: function 61 -/
noncomputable def impl_floor.f (p0_a : Int) (p1_b : Int) : Option (Int) := bif (decide (p0_a < 0)) then (bif (!(p1_b == 0)) then ((some (IntKind.wrap .i64 (0 - (IntKind.wrap .i64 (Int.tdiv (IntKind.wrap .i64 ((IntKind.wrap .i64 ((IntKind.wrap .i64 (0 - p0_a)) + p1_b)) - 1)) p1_b))))).bind fun t3 => some t3) else none) else (bif (!(p1_b == 0)) then ((some (IntKind.wrap .i64 (Int.tdiv p0_a p1_b))).bind fun t5 => some t5) else none)
set_option maxRecDepth 100000 in
theorem impl_floor.calls (p0_a : Int) (p1_b : Int) (r : Int) (w : World) (H0 : Own [] w w []) (h0 : impl_floor.f p0_a p1_b = some r) :
    Calls Try.prog 61 #[.int .i64 p0_a, .int .i64 p1_b] w (fun e w' => ∃ _ : Unit, e = .returned (.int .i64 r) ∧ Own [] w w' []) := by
  unfold impl_floor.f at h0
  replace h0 := B.top h0
  refine calls_of_J (args := [.int .i64 p0_a, .int .i64 p1_b]) Try.func61 rfl Try.ntmps61 rfl [(0, .int .i64 p0_a), (1, .int .i64 p1_b)] rfl H0 ?_
  refine J.seq ?_
  refine J.region ?_
  refine J.op rfl rfl rfl (V.as rfl rfl) ?_
  refine J.nil ?_
  refine J.tN ?_
  refine J.seq ?_
  refine J.seq ?_
  refine J.region ?_
  refine J.op rfl rfl rfl (V.mv rfl rfl) ?_
  refine J.op rfl rfl rfl (V.cmp rfl rfl rfl rfl) ?_
  refine J.nil ?_
  refine J.tN ?_
  refine J.cond rfl (fun hB1 => ?_) (fun hB1 => ?_)
  · replace h0 := B.t hB1 h0
    refine J.seq ?_
    refine J.region ?_
    refine J.op rfl rfl rfl (V.mv rfl rfl) ?_
    refine J.op rfl rfl rfl (V.ng rfl rfl) ?_
    refine J.op rfl rfl rfl (V.mv rfl rfl) ?_
    refine J.op rfl rfl rfl (V.ar rfl rfl rfl rfl) ?_
    refine J.op rfl rfl rfl (V.ar rfl rfl rfl rfl) ?_
    refine J.op rfl rfl rfl (V.mv rfl rfl) ?_
    obtain ⟨hC2, h0⟩ := B.chk h0
    refine J.op rfl rfl rfl (V.quo rfl rfl rfl (nz hC2)) ?_
    refine J.op rfl rfl rfl (V.ng rfl rfl) ?_
    refine J.op rfl rfl rfl (V.as rfl rfl) ?_
    obtain ⟨t3, et3, h0⟩ := B.lt h0
    refine J.val (congrArg (Value.int .i64) et3) ?_
    refine J.nil ?_
    refine J.tN ?_
    refine J.ret ?_
    refine J.tR ?_
    obtain rfl := B.e h0
    exact J.ret1 rfl rfl fun w H => ⟨(), rfl, H.pick [] (by decide)⟩
  · replace h0 := B.f hB1 h0
    refine J.skip ?_
    refine J.tN ?_
    refine J.seq ?_
    refine J.region ?_
    refine J.op rfl rfl rfl (V.mv rfl rfl) ?_
    refine J.op rfl rfl rfl (V.mv rfl rfl) ?_
    obtain ⟨hC4, h0⟩ := B.chk h0
    refine J.op rfl rfl rfl (V.quo rfl rfl rfl (nz hC4)) ?_
    refine J.op rfl rfl rfl (V.as rfl rfl) ?_
    obtain ⟨t5, et5, h0⟩ := B.lt h0
    refine J.val (congrArg (Value.int .i64) et5) ?_
    refine J.nil ?_
    refine J.tN ?_
    refine J.ret ?_
    obtain rfl := B.e h0
    exact J.ret1 rfl rfl fun w H => ⟨(), rfl, H.pick [] (by decide)⟩

/-! ### (impl.Placement).zone: function 40 -/
noncomputable def impl_Placement_zone.f (p0_p : impl_Placement) (p1_reading : Int) : Option (Int) := (impl_floor.f (IntKind.wrap .i64 ((IntKind.wrap .i64 (p1_reading - (IntKind.wrap .i64 p0_p.Reading))) + 1)) 3).bind fun r3 => (some (IntKind.wrap .i64 ((IntKind.wrap .i64 p0_p.Zone) + r3))).bind fun t6 => some t6
set_option maxRecDepth 100000 in
theorem impl_Placement_zone.calls (p0_p : impl_Placement) (p1_reading : Int) (r : Int) (w : World) (H0 : Own [] w w []) (h0 : impl_Placement_zone.f p0_p p1_reading = some r) :
    Calls Try.prog 40 #[.agg #[.int .i8 p0_p.Reading, .int .i8 p0_p.Zone], .int .i64 p1_reading] w (fun e w' => ∃ _ : Unit, e = .returned (.int .i64 r) ∧ Own [] w w' []) := by
  unfold impl_Placement_zone.f at h0
  replace h0 := B.top h0
  refine calls_of_J (args := [.agg #[.int .i8 p0_p.Reading, .int .i8 p0_p.Zone], .int .i64 p1_reading]) Try.func40 rfl Try.ntmps40 rfl [(0, .agg #[.int .i8 p0_p.Reading, .int .i8 p0_p.Zone]), (1, .int .i64 p1_reading)] rfl H0 ?_
  refine J.seq ?_
  refine J.region ?_
  refine J.box rfl rfl rfl rfl rfl (fun _ _ => rfl) fun b1 => ?_
  refine J.op rfl rfl rfl (V.as rfl rfl) ?_
  refine J.nil ?_
  refine J.tN ?_
  refine J.seq ?_
  refine J.quiet mixed (by kernel_rfl) ?_
  refine JQ.op rfl rfl rfl (V.faB rfl rfl tf1_35) ?_
  refine JQ.op rfl rfl rfl (V.ldB 0 rfl rfl rfl Try.underlying22 ta22 rfl) ?_
  refine JQ.op rfl rfl rfl (V.conv rfl rfl Try.underlying22 Try.underlying2) ?_
  refine JQ.op rfl rfl rfl (V.mv rfl rfl) ?_
  refine JQ.op rfl rfl rfl (V.faB rfl rfl tf0_35) ?_
  refine JQ.op rfl rfl rfl (V.ldB 0 rfl rfl rfl Try.underlying22 ta22 rfl) ?_
  refine JQ.op rfl rfl rfl (V.conv rfl rfl Try.underlying22 Try.underlying2) ?_
  refine JQ.op rfl rfl rfl (V.ar rfl rfl rfl rfl) ?_
  refine JQ.op rfl rfl rfl (V.ar rfl rfl rfl rfl) ?_
  obtain ⟨r3, hr4, h0⟩ := B.bind h0
  obtain ⟨_, cf1, cf2, cf3⟩ := cf61
  refine JQ.cl (l := [.tmp 13, .const (.int .i64 3)]) cf1 cf2 cf3 (wN rfl) rfl rfl rfl rfl rfl (fun w H => impl_floor.calls (IntKind.wrap .i64 ((IntKind.wrap .i64 (p1_reading - (IntKind.wrap .i64 p0_p.Reading))) + 1)) 3 r3 w (Own.refl w)  hr4) ?_
  refine JQ.op rfl rfl rfl (V.ar rfl rfl rfl rfl) ?_
  refine JQ.op rfl rfl rfl (V.as rfl rfl) ?_
  obtain ⟨t6, et6, h0⟩ := B.lt h0
  refine JQ.val (congrArg (Value.int .i64) et6) ?_
  refine JQ.nil ?_
  refine J.tN ?_
  refine J.ret ?_
  obtain rfl := B.e h0
  exact J.ret1 rfl rfl fun w H => ⟨(), rfl, H.pick [] (by decide)⟩

/-! ### impl.ZoneOf: function 14 -/
noncomputable def impl_ZoneOf.f (p0_p : impl_Placement) (p1_reading : Int) : Option (Int × Int) := (impl_isPlacement.f (⟨p0_p.Reading, p0_p.Zone⟩ : impl_Placement)).bind fun r3 => (some (!r3)).bind fun t6 => bif t6 then (some (0, 1)) else ((impl_isReading.f p1_reading).bind fun r8 => (some (!r8)).bind fun t11 => bif t11 then (some (0, 2)) else ((impl_Placement_zone.f (⟨p0_p.Reading, p0_p.Zone⟩ : impl_Placement) p1_reading).bind fun r13 => some (r13, 0)))
set_option maxRecDepth 100000 in
theorem impl_ZoneOf.calls (p0_p : impl_Placement) (p1_reading : Int) (r : Int × Int) (w : World) (H0 : Own [] w w []) (h0 : impl_ZoneOf.f p0_p p1_reading = some r) :
    Calls Try.prog 14 #[.agg #[.int .i8 p0_p.Reading, .int .i8 p0_p.Zone], .int .i64 p1_reading] w (fun e w' => ∃ _ : Unit, e = .returned (.tuple #[.int .i64 r.1, .int .i64 r.2]) ∧ Own [] w w' []) := by
  unfold impl_ZoneOf.f at h0
  replace h0 := B.top h0
  refine calls_of_J (args := [.agg #[.int .i8 p0_p.Reading, .int .i8 p0_p.Zone], .int .i64 p1_reading]) Try.func14 rfl Try.ntmps14 rfl [(0, .agg #[.int .i8 p0_p.Reading, .int .i8 p0_p.Zone]), (1, .int .i64 p1_reading)] rfl H0 ?_
  refine J.seq ?_
  refine J.region ?_
  refine J.box rfl rfl rfl rfl rfl (fun _ _ => rfl) fun b1 => ?_
  refine J.op rfl rfl rfl (V.as rfl rfl) ?_
  refine J.op rfl rfl rfl (V.as rfl rfl) ?_
  refine J.nil ?_
  refine J.tN ?_
  refine J.seq ?_
  refine J.block ?_
  refine J.seq ?_
  refine J.region ?_
  refine J.op rfl rfl rfl (V.ldW 0 rfl rfl rfl ts35 ta35 rfl) ?_
  obtain ⟨r3, hr4, h0⟩ := B.bind h0
  refine J.cl (l := [.tmp 7]) [] [.blk b1 [.int .i8 p0_p.Reading, .int .i8 p0_p.Zone] 35] cf38 (wN rfl) rfl rfl rfl rfl rfl rfl (by simp) (fun w H => impl_isPlacement.calls (⟨p0_p.Reading, p0_p.Zone⟩ : impl_Placement) r3 w (Own.refl w)  hr4) fun g5 => ?_
  refine J.op rfl rfl rfl (V.nt rfl rfl) ?_
  refine J.op rfl rfl rfl (V.as rfl rfl) ?_
  obtain ⟨t6, et6, h0⟩ := B.lt h0
  refine J.val (congrArg (Value.bool) et6) ?_
  refine J.nil ?_
  refine J.tN ?_
  refine J.cond rfl (fun hB7 => ?_) (fun hB7 => ?_)
  · replace h0 := B.t hB7 h0
    refine J.seq ?_
    refine J.region ?_
    refine J.op rfl rfl rfl (V.as rfl rfl) ?_
    refine J.op rfl rfl rfl (V.as rfl rfl) ?_
    refine J.nil ?_
    refine J.tN ?_
    refine J.ret ?_
    refine J.bR ?_
    refine J.tR ?_
    obtain rfl := B.e h0
    exact J.ret2 rfl rfl rfl fun w H => ⟨(), rfl, H.pick [] (by decide)⟩
  · replace h0 := B.f hB7 h0
    refine J.seq ?_
    refine J.region ?_
    refine J.op rfl rfl rfl (V.mv rfl rfl) ?_
    obtain ⟨r8, hr9, h0⟩ := B.bind h0
    refine J.cl (l := [.tmp 11]) [] [.blk b1 [.int .i8 p0_p.Reading, .int .i8 p0_p.Zone] 35] cf39 (wN rfl) rfl rfl rfl rfl rfl rfl (by simp) (fun w H => impl_isReading.calls p1_reading r8 w (Own.refl w)  hr9) fun g10 => ?_
    refine J.op rfl rfl rfl (V.nt rfl rfl) ?_
    refine J.op rfl rfl rfl (V.as rfl rfl) ?_
    obtain ⟨t11, et11, h0⟩ := B.lt h0
    refine J.val (congrArg (Value.bool) et11) ?_
    refine J.nil ?_
    refine J.tN ?_
    refine J.cond rfl (fun hB12 => ?_) (fun hB12 => ?_)
    · replace h0 := B.t hB12 h0
      refine J.seq ?_
      refine J.region ?_
      refine J.op rfl rfl rfl (V.as rfl rfl) ?_
      refine J.op rfl rfl rfl (V.as rfl rfl) ?_
      refine J.nil ?_
      refine J.tN ?_
      refine J.ret ?_
      refine J.bR ?_
      refine J.tR ?_
      obtain rfl := B.e h0
      exact J.ret2 rfl rfl rfl fun w H => ⟨(), rfl, H.pick [] (by decide)⟩
    · replace h0 := B.f hB12 h0
      refine J.skip ?_
      refine J.bN ?_
      refine J.tN ?_
      refine J.seq ?_
      refine J.region ?_
      refine J.op rfl rfl rfl (V.ldW 0 rfl rfl rfl ts35 ta35 rfl) ?_
      refine J.op rfl rfl rfl (V.mv rfl rfl) ?_
      obtain ⟨r13, hr14, h0⟩ := B.bind h0
      refine J.cl (l := [.tmp 14, .tmp 15]) [] [.blk b1 [.int .i8 p0_p.Reading, .int .i8 p0_p.Zone] 35] cf40 (wN rfl) rfl rfl rfl rfl rfl rfl (by simp) (fun w H => impl_Placement_zone.calls (⟨p0_p.Reading, p0_p.Zone⟩ : impl_Placement) p1_reading r13 w (Own.refl w)  hr14) fun g15 => ?_
      refine J.op rfl rfl rfl (V.as rfl rfl) ?_
      refine J.op rfl rfl rfl (V.as rfl rfl) ?_
      refine J.nil ?_
      refine J.tN ?_
      refine J.ret ?_
      obtain rfl := B.e h0
      exact J.ret2 rfl rfl rfl fun w H => ⟨(), rfl, H.pick [] (by decide)⟩

/-! ### slices.IndexFunc[[]int8,int8]: function 64 -/
noncomputable def slices_IndexFunc_int8_int8.b1 (p0_s : (List Int)) (p1_f : Int → Option Bool) : Int → Option (Step (Int) (Sum (Unit) (Int))) := fun s1 => bif (decide (s1 < (p0_s.length : Int))) then (bif (inB s1 p0_s.length) then ((p1_f (rd (eI .i8) p0_s s1)).bind fun r6 => bif r6 then (some (.done (.inr s1))) else (some (.next (IntKind.wrap .i64 (s1 + 1))))) else none) else (some (.done (.inl ())))
noncomputable def slices_IndexFunc_int8_int8.f (p0_s : (List Int)) (p1_f : Int → Option Bool) : Option (Int) := (loopW (slices_IndexFunc_int8_int8.b1 p0_s p1_f) 0).bind (Sum.elim (fun y11 => some (-1)) (fun r => some r))
set_option maxRecDepth 100000 in
theorem slices_IndexFunc_int8_int8.calls (v0 : Value) (p0_s : (List Int)) (g1_ : Nat) (c1_ : Array Value) (p1_f : Int → Option Bool) (r : Int) (w : World) (H0 : Own [] w w []) (hS0 : SlE [] w v0 22 (eI .i8) p0_s) (hg1 : CallsFn Try.prog g1_) (hF1 : ∀ w2 x r, Own [] w w2 [] → p1_f x = some r → Calls Try.prog g1_ (#[.int .i8 x] ++ c1_) w2 (fun e w3 => ∃ _ : Unit, e = .returned (.bool r) ∧ Own [] w2 w3 [])) (h0 : slices_IndexFunc_int8_int8.f p0_s p1_f = some r) :
    Calls Try.prog 64 #[v0, .func (.func g1_) #[] c1_] w (fun e w' => ∃ _ : Unit, e = .returned (.int .i64 r) ∧ Own [] w w' []) := by
  unfold slices_IndexFunc_int8_int8.f at h0
  replace h0 := B.top h0
  refine calls_of_J (args := [v0, .func (.func g1_) #[] c1_]) Try.func64 rfl Try.ntmps64 rfl [(0, v0), (1, .func (.func g1_) #[] c1_)] rfl H0 ?_
  refine J.seq ?_
  refine J.region ?_
  refine J.op rfl rfl rfl (V.as rfl rfl) ?_
  refine J.nil ?_
  refine J.tN ?_
  refine J.seq ?_
  refine J.seq ?_
  refine J.region ?_
  refine J.op rfl rfl rfl (V.mv rfl rfl) ?_
  refine J.op rfl rfl rfl (V.lenS hS0 rfl rfl tl66) ?_
  refine J.op rfl rfl rfl (V.mv rfl rfl) ?_
  refine J.nil ?_
  refine J.tN ?_
  obtain ⟨o13, hy12, h0⟩ := B.bind h0
  refine J.cutQ (γ := (Unit) × (Unit)) (fun gy11 => o13 = .inl gy11.1) (fun gy11 => []) (fun gy11 => []) ?_ ?_
  · refine J.block ?_
    refine J.loop (γ := Unit) hy12 (fun s1 g2 => [(0, v0), (1, .func (.func g1_) #[] c1_), (7, .int .i64 (p0_s.length : Int)), (8, .int .i64 s1)]) (fun s1 g2 => []) () ?_ ?_
    · exact J.keep _ rfl (J.pickE [] rfl rfl J.here)
    · intro rec3 s1 g2 h1
      unfold slices_IndexFunc_int8_int8.b1 at h1
      refine J.seq ?_
      refine J.region ?_
      refine J.op rfl rfl rfl (V.cmp rfl rfl rfl rfl) ?_
      refine J.nil ?_
      refine J.tN ?_
      refine J.seq ?_
      refine J.cond rfl (fun hB4 => ?_) (fun hB4 => ?_)
      · replace h1 := B.t hB4 h1
        refine J.skip ?_
        refine J.tN ?_
        refine J.seq ?_
        refine J.block ?_
        refine J.seq ?_
        refine J.region ?_
        refine J.op rfl rfl rfl (V.mv rfl rfl) ?_
        refine J.op rfl rfl rfl (V.as rfl rfl) ?_
        refine J.nil ?_
        refine J.tN ?_
        refine J.seq ?_
        refine J.region ?_
        refine J.op rfl rfl rfl (V.mv rfl rfl) ?_
        refine J.op rfl rfl rfl (V.mv rfl rfl) ?_
        refine J.op rfl rfl rfl (V.mv rfl rfl) ?_
        obtain ⟨hC5, h1⟩ := B.chk h1
        refine J.op rfl rfl rfl (V.ixS hS0 rfl rfl rfl tl66 ts22 hC5) ?_
        refine J.op rfl rfl rfl (V.elS0 hS0 hC5 rfl rfl Try.underlying22 ta22 rfl) ?_
        obtain ⟨r6, hr7, h1⟩ := B.bind h1
        refine J.cl (l := [.tmp 15]) [] [] hg1 (wN rfl) rfl rfl rfl rfl rfl rfl (by simp) (fun w H => hF1 w (rd (eI .i8) p0_s s1) r6 H.none hr7) fun g8 => ?_
        refine J.nil ?_
        refine J.tN ?_
        refine J.cond rfl (fun hB9 => ?_) (fun hB9 => ?_)
        · replace h1 := B.t hB9 h1
          refine J.seq ?_
          refine J.region ?_
          refine J.op rfl rfl rfl (V.mv rfl rfl) ?_
          refine J.op rfl rfl rfl (V.as rfl rfl) ?_
          refine J.nil ?_
          refine J.tN ?_
          refine J.ret ?_
          refine J.bR ?_
          refine J.tR ?_
          refine J.tR ?_
          refine J.bR ?_
          refine J.tR ?_
          refine J.tR ?_
          obtain rfl := B.d h1
          replace h0 := B.inr h0
          obtain rfl := B.e h0
          exact J.ret1 rfl rfl fun w H => ⟨(), rfl, H.pick [] (by decide)⟩
        · replace h1 := B.f hB9 h1
          refine J.skip ?_
          refine J.bN ?_
          refine J.tN ?_
          refine J.region ?_
          refine J.op rfl rfl rfl (V.ar rfl rfl rfl rfl) ?_
          refine J.op rfl rfl rfl (V.mv rfl rfl) ?_
          refine J.nil ?_
          refine J.tN (J.next (IntKind.wrap .i64 (s1 + 1)) () (B.n h1) ?_)
          exact J.keep _ rfl (J.pickE [] rfl rfl J.here)
      · replace h1 := B.f hB4 h1
        refine J.exit ?_
        refine J.tE ?_
        refine J.tE ?_
        refine J.bE ?_
        obtain rfl := B.d h1
        refine J.tN (J.to ((), ()) rfl ?_)
        exact J.keep _ rfl (J.pickE [] rfl rfl J.here)
  · intro gy11 hG
    replace h0 := B.inl hG h0
    refine J.tN ?_
    refine J.seq ?_
    refine J.region ?_
    refine J.op rfl rfl rfl (V.as rfl rfl) ?_
    refine J.nil ?_
    refine J.tN ?_
    refine J.ret ?_
    obtain rfl := B.e h0
    exact J.ret1 rfl rfl fun w H => ⟨(), rfl, H.pick [] (by decide)⟩

/-! ### slices.ContainsFunc[[]int8,int8]: function 56 -/
noncomputable def slices_ContainsFunc_int8_int8.f (p0_s : (List Int)) (p1_f : Int → Option Bool) : Option (Bool) := (slices_IndexFunc_int8_int8.f p0_s p1_f).bind fun r1 => (some (decide (0 ≤ r1))).bind fun t4 => some t4
set_option maxRecDepth 100000 in
theorem slices_ContainsFunc_int8_int8.calls (v0 : Value) (p0_s : (List Int)) (g1_ : Nat) (c1_ : Array Value) (p1_f : Int → Option Bool) (r : Bool) (w : World) (H0 : Own [] w w []) (hS0 : SlE [] w v0 22 (eI .i8) p0_s) (hg1 : CallsFn Try.prog g1_) (hF1 : ∀ w2 x r, Own [] w w2 [] → p1_f x = some r → Calls Try.prog g1_ (#[.int .i8 x] ++ c1_) w2 (fun e w3 => ∃ _ : Unit, e = .returned (.bool r) ∧ Own [] w2 w3 [])) (h0 : slices_ContainsFunc_int8_int8.f p0_s p1_f = some r) :
    Calls Try.prog 56 #[v0, .func (.func g1_) #[] c1_] w (fun e w' => ∃ _ : Unit, e = .returned (.bool r) ∧ Own [] w w' []) := by
  unfold slices_ContainsFunc_int8_int8.f at h0
  replace h0 := B.top h0
  refine calls_of_J (args := [v0, .func (.func g1_) #[] c1_]) Try.func56 rfl Try.ntmps56 rfl [(0, v0), (1, .func (.func g1_) #[] c1_)] rfl H0 ?_
  refine J.seq ?_
  refine J.region ?_
  refine J.op rfl rfl rfl (V.as rfl rfl) ?_
  refine J.nil ?_
  refine J.tN ?_
  refine J.seq ?_
  refine J.region ?_
  refine J.op rfl rfl rfl (V.mv rfl rfl) ?_
  refine J.op rfl rfl rfl (V.mv rfl rfl) ?_
  obtain ⟨r1, hr2, h0⟩ := B.bind h0
  refine J.cl (l := [.tmp 5, .tmp 6]) [] [] cf64 (wN rfl) rfl rfl rfl rfl rfl rfl (by simp) (fun w H => slices_IndexFunc_int8_int8.calls v0 p0_s g1_ c1_ p1_f r1 w (Own.refl w) (Sl.later0 hS0 H) hg1 (fun w2 x r HO hp => hF1 w2 x r (H.none.trans0 HO) hp) hr2) fun g3 => ?_
  refine J.op rfl rfl rfl (V.cmp rfl rfl rfl rfl) ?_
  refine J.op rfl rfl rfl (V.as rfl rfl) ?_
  obtain ⟨t4, et4, h0⟩ := B.lt h0
  refine J.val (congrArg (Value.bool) et4) ?_
  refine J.nil ?_
  refine J.tN ?_
  refine J.ret ?_
  obtain rfl := B.e h0
  exact J.ret1 rfl rfl fun w H => ⟨(), rfl, H.pick [] (by decide)⟩

/-! ### impl.ValidScene$1: function 57 -/
noncomputable def impl_ValidScene_1.f (p0_n : Int) : Option (Bool) := (impl_isReading.f (IntKind.wrap .i64 p0_n)).bind fun r1 => (some (!r1)).bind fun t4 => some t4
set_option maxRecDepth 100000 in
theorem impl_ValidScene_1.calls (p0_n : Int) (r : Bool) (w : World) (H0 : Own [] w w []) (h0 : impl_ValidScene_1.f p0_n = some r) :
    Calls Try.prog 57 #[.int .i8 p0_n] w (fun e w' => ∃ _ : Unit, e = .returned (.bool r) ∧ Own [] w w' []) := by
  unfold impl_ValidScene_1.f at h0
  replace h0 := B.top h0
  refine calls_of_J (args := [.int .i8 p0_n]) Try.func57 rfl Try.ntmps57 rfl [(0, .int .i8 p0_n)] rfl H0 ?_
  refine J.seq ?_
  refine J.region ?_
  refine J.op rfl rfl rfl (V.as rfl rfl) ?_
  refine J.nil ?_
  refine J.tN ?_
  refine J.seq ?_
  refine J.region ?_
  refine J.op rfl rfl rfl (V.mv rfl rfl) ?_
  refine J.op rfl rfl rfl (V.conv rfl rfl Try.underlying22 Try.underlying2) ?_
  obtain ⟨r1, hr2, h0⟩ := B.bind h0
  refine J.cl (l := [.tmp 4]) [] [] cf39 (wN rfl) rfl rfl rfl rfl rfl rfl (by simp) (fun w H => impl_isReading.calls (IntKind.wrap .i64 p0_n) r1 w (Own.refl w)  hr2) fun g3 => ?_
  refine J.op rfl rfl rfl (V.nt rfl rfl) ?_
  refine J.op rfl rfl rfl (V.as rfl rfl) ?_
  obtain ⟨t4, et4, h0⟩ := B.lt h0
  refine J.val (congrArg (Value.bool) et4) ?_
  refine J.nil ?_
  refine J.tN ?_
  refine J.ret ?_
  obtain rfl := B.e h0
  exact J.ret1 rfl rfl fun w H => ⟨(), rfl, H.pick [] (by decide)⟩

end Go.Proofs.Ytopmellnegcfpaa
