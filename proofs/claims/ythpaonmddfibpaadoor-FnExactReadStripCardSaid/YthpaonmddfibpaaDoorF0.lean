/- Go functions as Lean functions, and that each call of theirs comes to just that: by a program written for this work (walk.py). No condition. -/
import Derived.Test.YthpaonmddfibpaaDoorT
namespace Go.Proofs.YthpaonmddfibpaaDoor
open Go Go.RowKit G
set_option linter.unusedVariables false

/-! ### spec.l01Split: function 7 -/
noncomputable def spec_l01Split.b1 (p0_text : ByteArray) (p1_by : Int) : (Int × Int × (List ByteArray)) → Option (Step (Int × Int × (List ByteArray)) (Int × (List ByteArray))) := fun s3 => bif (decide (s3.2.1 < (p0_text.size : Int))) then (bif (inB s3.2.1 p0_text.size) then (bif ((rdT p0_text s3.2.1) == p1_by) then (bif (inS s3.1 s3.2.1 p0_text.size) then (bif (roomB s3.2.2.length 1 16) then ((some (IntKind.wrap .i64 (s3.2.1 + 1))).bind fun begin_14 => (some (IntKind.wrap .i64 (s3.2.1 + 1))).bind fun i_15 => some (.next (begin_14, i_15, s3.2.2 ++ [subT p0_text s3.1 s3.2.1]))) else none) else none) else ((some (IntKind.wrap .i64 (s3.2.1 + 1))).bind fun i_16 => some (.next (s3.1, i_16, s3.2.2)))) else none) else (some (.done (s3.1, s3.2.2)))
noncomputable def spec_l01Split.f (p0_text : ByteArray) (p1_by : Int) : Option ((List ByteArray)) := (loopW (spec_l01Split.b1 p0_text p1_by) (0, 0, ([] : List ByteArray))).bind fun y17 => bif (inS y17.1 (p0_text.size : Int) p0_text.size) then (bif (roomB y17.2.length 1 16) then (some (y17.2 ++ [subT p0_text y17.1 (p0_text.size : Int)])) else none) else none
set_option maxRecDepth 100000 in
theorem spec_l01Split.calls (p0_text : ByteArray) (p1_by : Int) (r : (List ByteArray)) (w : World) (H0 : Own [] w w []) (h0 : spec_l01Split.f p0_text p1_by = some r) :
    Calls Tryd.prog 7 #[.string p0_text, .int .u8 p1_by] w (fun e w' => ∃ gh : Value, e = .returned (gh) ∧ Own [] w w' [.rowE gh 9 eT r]) := by
  unfold spec_l01Split.f at h0
  replace h0 := B.top h0
  refine calls_of_J (args := [.string p0_text, .int .u8 p1_by]) Tryd.func7 rfl Tryd.ntmps7 rfl [(0, .string p0_text), (1, .int .u8 p1_by)] rfl H0 ?_
  refine J.seq ?_
  refine J.region ?_
  refine J.op rfl rfl rfl (V.as rfl rfl) ?_
  refine J.nil ?_
  refine J.tN ?_
  refine J.seq ?_
  refine J.region ?_
  refine J.bs (l := []) (cs := []) (E := 9) rfl rfl rfl rfl rfl (fun w => by kernel_rfl) fun b1 => ?_
  refine J.op rfl rfl rfl (V.as rfl rfl) ?_
  refine J.nil ?_
  refine J.tN ?_
  refine J.seq ?_
  refine J.region ?_
  refine J.op rfl rfl rfl (V.as rfl rfl) ?_
  refine J.nil ?_
  refine J.tN ?_
  refine J.seq ?_
  refine J.seq ?_
  refine J.region ?_
  refine J.op rfl rfl rfl (V.as rfl rfl) ?_
  refine J.nil ?_
  refine J.tN ?_
  refine J.blkRowE eT ([] : List ByteArray) 0 rfl rfl rfl ?_
  obtain ⟨y17, hy19, h0⟩ := B.bind h0
  refine J.cutQ (γ := Value) (fun _ => True) (fun gy18 => [(0, .string p0_text), (5, gy18), (6, .int .i64 y17.1)]) (fun gy18 => [.rowE gy18 9 eT y17.2]) ?_ ?_
  · refine J.block ?_
    refine J.loop (γ := Value) hy19 (fun s3 g4 => [(0, .string p0_text), (1, .int .u8 p1_by), (5, g4), (6, .int .i64 s3.1), (7, .int .i64 s3.2.1)]) (fun s3 g4 => [.rowE g4 9 eT s3.2.2]) (.slice (some ⟨b1, 0, none⟩) 0 0) ?_ ?_
    · exact J.keep _ rfl (J.pickE [0] rfl rfl J.here)
    · intro rec5 s3 g4 h1
      unfold spec_l01Split.b1 at h1
      refine J.seq ?_
      refine J.seq ?_
      refine J.region ?_
      refine J.op rfl rfl rfl (V.mv rfl rfl) ?_
      refine J.op rfl rfl rfl (V.mv rfl rfl) ?_
      refine J.op rfl rfl rfl (V.lenT rfl rfl Tryd.underlying9) ?_
      refine J.op rfl rfl rfl (V.cmp rfl rfl rfl rfl) ?_
      refine J.nil ?_
      refine J.tN ?_
      refine J.cond rfl (fun hB6 => ?_) (fun hB6 => ?_)
      · replace h1 := B.t hB6 h1
        refine J.skip ?_
        refine J.tN ?_
        refine J.seq ?_
        refine J.block ?_
        refine J.seq ?_
        refine J.region ?_
        refine J.op rfl rfl rfl (V.mv rfl rfl) ?_
        refine J.op rfl rfl rfl (V.mv rfl rfl) ?_
        obtain ⟨hC7, h1⟩ := B.chk h1
        refine J.op rfl rfl rfl (V.ixT rfl rfl rfl Tryd.underlying9 hC7) ?_
        refine J.op rfl rfl rfl (V.mv rfl rfl) ?_
        refine J.op rfl rfl rfl (V.cmp rfl rfl rfl rfl) ?_
        refine J.nil ?_
        refine J.tN ?_
        refine J.cond rfl (fun hB8 => ?_) (fun hB8 => ?_)
        · replace h1 := B.t hB8 h1
          refine J.seq ?_
          refine J.region ?_
          refine J.op rfl rfl rfl (V.mv rfl rfl) ?_
          refine J.op rfl rfl rfl (V.mv rfl rfl) ?_
          refine J.op rfl rfl rfl (V.mv rfl rfl) ?_
          refine J.op rfl rfl rfl (V.mv rfl rfl) ?_
          obtain ⟨hC9, h1⟩ := B.chk h1
          refine J.op rfl rfl rfl (V.subT (L := some s3.1) (H := some s3.2.1) rfl rfl rfl rfl rfl rfl Tryd.underlying9 hC9) ?_
          refine J.bs (l := [(0, .tmp 24)]) (cs := [.string (subT p0_text s3.1 s3.2.1)]) (E := 9) rfl rfl rfl rfl rfl (fun w => by kernel_rfl) fun b10 => ?_
          obtain ⟨hC13, h1⟩ := B.chk h1
          obtain ⟨_, qi1, qi2, qi3, qi4⟩ := ti9
          refine J.ap1 (e := eT) (xs := s3.2.2) 1 0 (subT p0_text s3.1 s3.2.1) hC13 qi1 tl29 qi2 qi3 qi4 rfl rfl rfl rfl rfl rfl rfl rfl rfl rfl fun v12 => ?_
          refine J.op rfl rfl rfl (V.as rfl rfl) ?_
          refine J.nil ?_
          refine J.tN ?_
          refine J.region ?_
          refine J.op rfl rfl rfl (V.mv rfl rfl) ?_
          refine J.op rfl rfl rfl (V.ar rfl rfl rfl rfl) ?_
          refine J.op rfl rfl rfl (V.as rfl rfl) ?_
          obtain ⟨begin_14, ebegin_14, h1⟩ := B.lt h1
          refine J.val (congrArg (Value.int .i64) ebegin_14) ?_
          refine J.nil ?_
          refine J.bN ?_
          refine J.tN ?_
          refine J.region ?_
          refine J.op rfl rfl rfl (V.mv rfl rfl) ?_
          refine J.op rfl rfl rfl (V.ar rfl rfl rfl rfl) ?_
          refine J.op rfl rfl rfl (V.as rfl rfl) ?_
          obtain ⟨i_15, ei_15, h1⟩ := B.lt h1
          refine J.val (congrArg (Value.int .i64) ei_15) ?_
          refine J.nil ?_
          refine J.tN (J.next (begin_14, i_15, s3.2.2 ++ [subT p0_text s3.1 s3.2.1]) v12 (B.n h1) ?_)
          exact J.keep _ rfl (J.pickE [1] rfl rfl J.here)
        · replace h1 := B.f hB8 h1
          refine J.skip ?_
          refine J.bN ?_
          refine J.tN ?_
          refine J.region ?_
          refine J.op rfl rfl rfl (V.mv rfl rfl) ?_
          refine J.op rfl rfl rfl (V.ar rfl rfl rfl rfl) ?_
          refine J.op rfl rfl rfl (V.as rfl rfl) ?_
          obtain ⟨i_16, ei_16, h1⟩ := B.lt h1
          refine J.val (congrArg (Value.int .i64) ei_16) ?_
          refine J.nil ?_
          refine J.tN (J.next (s3.1, i_16, s3.2.2) g4 (B.n h1) ?_)
          exact J.keep _ rfl (J.pickE [0] rfl rfl J.here)
      · replace h1 := B.f hB6 h1
        refine J.exit ?_
        refine J.tE ?_
        refine J.tE ?_
        refine J.bE ?_
        obtain rfl := B.d h1
        refine J.tN (J.to g4 trivial ?_)
        exact J.keep _ rfl (J.pickE [0] rfl rfl J.here)
  · intro gy18 _
    refine J.tN ?_
    refine J.seq ?_
    refine J.region ?_
    refine J.op rfl rfl rfl (V.mv rfl rfl) ?_
    refine J.op rfl rfl rfl (V.mv rfl rfl) ?_
    refine J.op rfl rfl rfl (V.mv rfl rfl) ?_
    obtain ⟨hC20, h0⟩ := B.chk h0
    refine J.op rfl rfl rfl (V.subT (L := some y17.1) (H := none) rfl rfl rfl rfl rfl rfl Tryd.underlying9 hC20) ?_
    refine J.bs (l := [(0, .tmp 32)]) (cs := [.string (subT p0_text y17.1 (p0_text.size : Int))]) (E := 9) rfl rfl rfl rfl rfl (fun w => by kernel_rfl) fun b21 => ?_
    obtain ⟨hC24, h0⟩ := B.chk h0
    obtain ⟨_, qi1, qi2, qi3, qi4⟩ := ti9
    refine J.ap1 (e := eT) (xs := y17.2) 1 0 (subT p0_text y17.1 (p0_text.size : Int)) hC24 qi1 tl29 qi2 qi3 qi4 rfl rfl rfl rfl rfl rfl rfl rfl rfl rfl fun v23 => ?_
    refine J.op rfl rfl rfl (V.as rfl rfl) ?_
    refine J.nil ?_
    refine J.tN ?_
    refine J.ret ?_
    obtain rfl := B.e h0
    exact J.ret1 rfl rfl fun w H => ⟨v23, rfl, H.pick [1] (by decide)⟩

/-! ### spec.l01Number: function 8 -/
noncomputable def spec_l01Number.b1 (p0_s : ByteArray) : (Int × Int) → Option (Step (Int × Int) (Sum (Int) (Int × Bool))) := fun s9 => bif (decide (s9.2 < (p0_s.size : Int))) then ((bif (inB s9.2 p0_s.size) then (bif (decide ((rdT p0_s s9.2) < 48)) then (some true) else (bif (inB s9.2 p0_s.size) then (some (decide (57 < (rdT p0_s s9.2)))) else none)) else none : Option (Bool)).bind fun y13 => bif y13 then (some (.done (.inr (0, false)))) else (bif (inB s9.2 p0_s.size) then ((some (IntKind.wrap .i64 ((IntKind.wrap .i64 (10 * s9.1)) + (IntKind.wrap .i64 (IntKind.wrap .u8 ((rdT p0_s s9.2) - 48)))))).bind fun n_21 => (some (IntKind.wrap .i64 (s9.2 + 1))).bind fun i_22 => some (.next (n_21, i_22))) else none)) else (some (.done (.inl s9.1)))
noncomputable def spec_l01Number.f (p0_s : ByteArray) : Option (Int × Bool) := (bif (p0_s.toList == (⟨#[]⟩ : ByteArray).toList) then (some true) else (bif (decide (9 < (p0_s.size : Int))) then (some true) else (bif (inB 0 p0_s.size) then (bif ((rdT p0_s 0) == 48) then (some (decide (1 < (p0_s.size : Int)))) else (some false)) else none)) : Option (Bool)).bind fun y1 => bif y1 then (some (0, false)) else ((loopW (spec_l01Number.b1 p0_s) (0, 0)).bind (Sum.elim (fun y24 => some (y24, true)) (fun r => some r)))
set_option maxRecDepth 100000 in
theorem spec_l01Number.calls (p0_s : ByteArray) (r : Int × Bool) (w : World) (H0 : Own [] w w []) (h0 : spec_l01Number.f p0_s = some r) :
    Calls Tryd.prog 8 #[.string p0_s] w (fun e w' => ∃ _ : Unit, e = .returned (.tuple #[.int .i64 r.1, .bool r.2]) ∧ Own [] w w' []) := by
  unfold spec_l01Number.f at h0
  replace h0 := B.top h0
  refine calls_of_J (args := [.string p0_s]) Tryd.func8 rfl Tryd.ntmps8 rfl [(0, .string p0_s)] rfl H0 ?_
  refine J.seq ?_
  refine J.region ?_
  refine J.op rfl rfl rfl (V.as rfl rfl) ?_
  refine J.op rfl rfl rfl (V.as rfl rfl) ?_
  refine J.nil ?_
  refine J.tN ?_
  refine J.seq ?_
  refine J.seq ?_
  obtain ⟨y1, hy7, h0⟩ := B.bind h0
  replace hy7 := B.top hy7
  refine J.cut (γ := Unit) (fun _ => True) (fun gy2 => [(0, .string p0_s), (22, .bool y1)]) (fun gy2 => []) ?_ ?_
  · have h1 := hy7
    refine J.region ?_
    refine J.op rfl rfl rfl (V.mv rfl rfl) ?_
    refine J.op rfl rfl rfl (V.eqS rfl rfl rfl) ?_
    refine J.op rfl rfl rfl (V.mv rfl rfl) ?_
    refine J.split 8 rfl (fun hB3 => ?_) (fun hB3 => ?_)
    · replace h1 := B.t hB3 h1
      refine J.opOff rfl rfl rfl rfl rfl rfl ?_
      refine J.opOff rfl rfl rfl rfl rfl rfl ?_
      refine J.opOff rfl rfl rfl rfl rfl rfl ?_
      refine J.op rfl rfl rfl (V.pkT rfl rfl rfl) ?_
      refine J.op rfl rfl rfl (V.mv rfl rfl) ?_
      refine J.opOff rfl rfl rfl rfl rfl rfl ?_
      refine J.opOff rfl rfl rfl rfl rfl rfl ?_
      refine J.opOff rfl rfl rfl rfl rfl rfl ?_
      refine J.opOff rfl rfl rfl rfl rfl rfl ?_
      refine J.opOffU rfl rfl rfl rfl rfl ?_
      refine J.opOffU rfl rfl rfl rfl rfl ?_
      refine J.opOffU rfl rfl rfl rfl rfl ?_
      refine J.opOff rfl rfl rfl rfl rfl rfl ?_
      refine J.op rfl rfl rfl (V.pkT rfl rfl rfl) ?_
      refine J.nil ?_
      obtain rfl := B.e h1
      refine J.tN (J.to () trivial ?_)
      exact J.keep _ rfl (J.pickE [] rfl rfl J.here)
    · replace h1 := B.f hB3 h1
      refine J.opOn rfl rfl rfl rfl rfl (V.mv rfl rfl) ?_
      refine J.opOn rfl rfl rfl rfl rfl (V.lenT rfl rfl Tryd.underlying9) ?_
      refine J.opOn rfl rfl rfl rfl rfl (V.cmp rfl rfl rfl rfl) ?_
      refine J.op rfl rfl rfl (V.pkF rfl rfl rfl) ?_
      refine J.op rfl rfl rfl (V.mv rfl rfl) ?_
      refine J.split 13 rfl (fun hB4 => ?_) (fun hB4 => ?_)
      · replace h1 := B.t hB4 h1
        refine J.opOff rfl rfl rfl rfl rfl rfl ?_
        refine J.opOff rfl rfl rfl rfl rfl rfl ?_
        refine J.opOff rfl rfl rfl rfl rfl rfl ?_
        refine J.opOff rfl rfl rfl rfl rfl rfl ?_
        refine J.opOffU rfl rfl rfl rfl rfl ?_
        refine J.opOffU rfl rfl rfl rfl rfl ?_
        refine J.opOffU rfl rfl rfl rfl rfl ?_
        refine J.opOff rfl rfl rfl rfl rfl rfl ?_
        refine J.op rfl rfl rfl (V.pkT rfl rfl rfl) ?_
        refine J.nil ?_
        obtain rfl := B.e h1
        refine J.tN (J.to () trivial ?_)
        exact J.keep _ rfl (J.pickE [] rfl rfl J.here)
      · replace h1 := B.f hB4 h1
        refine J.opOn rfl rfl rfl rfl rfl (V.mv rfl rfl) ?_
        obtain ⟨hC5, h1⟩ := B.chk h1
        refine J.opOn rfl rfl rfl rfl rfl (V.ixT rfl rfl rfl Tryd.underlying9 hC5) ?_
        refine J.opOn rfl rfl rfl rfl rfl (V.cmp rfl rfl rfl rfl) ?_
        refine J.opOn rfl rfl rfl rfl rfl (V.mv rfl rfl) ?_
        refine J.split 17 rfl (fun hB6 => ?_) (fun hB6 => ?_)
        · replace h1 := B.t hB6 h1
          refine J.opOn rfl rfl rfl rfl rfl (V.mv rfl rfl) ?_
          refine J.opOn rfl rfl rfl rfl rfl (V.lenT rfl rfl Tryd.underlying9) ?_
          refine J.opOn rfl rfl rfl rfl rfl (V.cmp rfl rfl rfl rfl) ?_
          refine J.opOn rfl rfl rfl rfl rfl (V.pkT rfl rfl rfl) ?_
          refine J.op rfl rfl rfl (V.pkF rfl rfl rfl) ?_
          refine J.nil ?_
          obtain rfl := B.e h1
          refine J.tN (J.to () trivial ?_)
          exact J.keep _ rfl (J.pickE [] rfl rfl J.here)
        · replace h1 := B.f hB6 h1
          refine J.opOff rfl rfl rfl rfl rfl rfl ?_
          refine J.opOff rfl rfl rfl rfl rfl rfl ?_
          refine J.opOff rfl rfl rfl rfl rfl rfl ?_
          refine J.opOn rfl rfl rfl rfl rfl (V.pkF rfl rfl rfl) ?_
          refine J.op rfl rfl rfl (V.pkF rfl rfl rfl) ?_
          refine J.nil ?_
          obtain rfl := B.e h1
          refine J.tN (J.to () trivial ?_)
          exact J.keep _ rfl (J.pickE [] rfl rfl J.here)
  · intro gy2 _
    refine J.cond rfl (fun hB8 => ?_) (fun hB8 => ?_)
    · replace h0 := B.t hB8 h0
      refine J.seq ?_
      refine J.region ?_
      refine J.op rfl rfl rfl (V.as rfl rfl) ?_
      refine J.op rfl rfl rfl (V.as rfl rfl) ?_
      refine J.nil ?_
      refine J.tN ?_
      refine J.ret ?_
      refine J.tR ?_
      obtain rfl := B.e h0
      exact J.ret2 rfl rfl rfl fun w H => ⟨(), rfl, H.pick [] (by decide)⟩
    · replace h0 := B.f hB8 h0
      refine J.skip ?_
      refine J.tN ?_
      refine J.seq ?_
      refine J.region ?_
      refine J.op rfl rfl rfl (V.as rfl rfl) ?_
      refine J.nil ?_
      refine J.tN ?_
      refine J.seq ?_
      refine J.seq ?_
      refine J.region ?_
      refine J.op rfl rfl rfl (V.as rfl rfl) ?_
      refine J.nil ?_
      refine J.tN ?_
      obtain ⟨o26, hy25, h0⟩ := B.bind h0
      refine J.cutQ (γ := (Int) × (Unit)) (fun gy24 => o26 = .inl gy24.1) (fun gy24 => [(4, .int .i64 gy24.1)]) (fun gy24 => []) ?_ ?_
      · refine J.block ?_
        refine J.loop (γ := Unit) hy25 (fun s9 g10 => [(0, .string p0_s), (4, .int .i64 s9.1), (5, .int .i64 s9.2)]) (fun s9 g10 => []) () ?_ ?_
        · exact J.keep _ rfl (J.pickE [] rfl rfl J.here)
        · intro rec11 s9 g10 h1
          unfold spec_l01Number.b1 at h1
          refine J.seq ?_
          refine J.seq ?_
          refine J.region ?_
          refine J.op rfl rfl rfl (V.mv rfl rfl) ?_
          refine J.op rfl rfl rfl (V.mv rfl rfl) ?_
          refine J.op rfl rfl rfl (V.lenT rfl rfl Tryd.underlying9) ?_
          refine J.op rfl rfl rfl (V.cmp rfl rfl rfl rfl) ?_
          refine J.nil ?_
          refine J.tN ?_
          refine J.cond rfl (fun hB12 => ?_) (fun hB12 => ?_)
          · replace h1 := B.t hB12 h1
            refine J.skip ?_
            refine J.tN ?_
            refine J.seq ?_
            refine J.block ?_
            refine J.seq ?_
            refine J.seq ?_
            obtain ⟨y13, hy18, h1⟩ := B.bind h1
            replace hy18 := B.top hy18
            refine J.cut (γ := Unit) (fun _ => True) (fun gy14 => [(0, .string p0_s), (4, .int .i64 s9.1), (5, .int .i64 s9.2), (38, .bool y13)]) (fun gy14 => []) ?_ ?_
            · have h2 := hy18
              refine J.region ?_
              refine J.op rfl rfl rfl (V.mv rfl rfl) ?_
              refine J.op rfl rfl rfl (V.mv rfl rfl) ?_
              obtain ⟨hC15, h2⟩ := B.chk h2
              refine J.op rfl rfl rfl (V.ixT rfl rfl rfl Tryd.underlying9 hC15) ?_
              refine J.op rfl rfl rfl (V.cmp rfl rfl rfl rfl) ?_
              refine J.op rfl rfl rfl (V.mv rfl rfl) ?_
              refine J.split 33 rfl (fun hB16 => ?_) (fun hB16 => ?_)
              · replace h2 := B.t hB16 h2
                refine J.opOff rfl rfl rfl rfl rfl rfl ?_
                refine J.opOff rfl rfl rfl rfl rfl rfl ?_
                refine J.opOff rfl rfl rfl rfl rfl rfl ?_
                refine J.opOff rfl rfl rfl rfl rfl rfl ?_
                refine J.op rfl rfl rfl (V.pkT rfl rfl rfl) ?_
                refine J.nil ?_
                obtain rfl := B.e h2
                refine J.tN (J.to () trivial ?_)
                exact J.keep _ rfl (J.pickE [] rfl rfl J.here)
              · replace h2 := B.f hB16 h2
                refine J.opOn rfl rfl rfl rfl rfl (V.mv rfl rfl) ?_
                refine J.opOn rfl rfl rfl rfl rfl (V.mv rfl rfl) ?_
                obtain ⟨hC17, h2⟩ := B.chk h2
                refine J.opOn rfl rfl rfl rfl rfl (V.ixT rfl rfl rfl Tryd.underlying9 hC17) ?_
                refine J.opOn rfl rfl rfl rfl rfl (V.cmp rfl rfl rfl rfl) ?_
                refine J.op rfl rfl rfl (V.pkF rfl rfl rfl) ?_
                refine J.nil ?_
                obtain rfl := B.e h2
                refine J.tN (J.to () trivial ?_)
                exact J.keep _ rfl (J.pickE [] rfl rfl J.here)
            · intro gy14 _
              refine J.cond rfl (fun hB19 => ?_) (fun hB19 => ?_)
              · replace h1 := B.t hB19 h1
                refine J.seq ?_
                refine J.region ?_
                refine J.op rfl rfl rfl (V.as rfl rfl) ?_
                refine J.op rfl rfl rfl (V.as rfl rfl) ?_
                refine J.nil ?_
                refine J.tN ?_
                refine J.ret ?_
                refine J.tR ?_
                refine J.bR ?_
                refine J.tR ?_
                refine J.tR ?_
                refine J.bR ?_
                refine J.tR ?_
                refine J.tR ?_
                obtain rfl := B.d h1
                replace h0 := B.inr h0
                obtain rfl := B.e h0
                exact J.ret2 rfl rfl rfl fun w H => ⟨(), rfl, H.pick [] (by decide)⟩
              · replace h1 := B.f hB19 h1
                refine J.skip ?_
                refine J.tN ?_
                refine J.region ?_
                refine J.op rfl rfl rfl (V.mv rfl rfl) ?_
                refine J.op rfl rfl rfl (V.ar rfl rfl rfl rfl) ?_
                refine J.op rfl rfl rfl (V.mv rfl rfl) ?_
                refine J.op rfl rfl rfl (V.mv rfl rfl) ?_
                obtain ⟨hC20, h1⟩ := B.chk h1
                refine J.op rfl rfl rfl (V.ixT rfl rfl rfl Tryd.underlying9 hC20) ?_
                refine J.op rfl rfl rfl (V.ar rfl rfl rfl rfl) ?_
                refine J.op rfl rfl rfl (V.conv rfl rfl Tryd.underlying5 Tryd.underlying2) ?_
                refine J.op rfl rfl rfl (V.ar rfl rfl rfl rfl) ?_
                refine J.op rfl rfl rfl (V.as rfl rfl) ?_
                obtain ⟨n_21, en_21, h1⟩ := B.lt h1
                refine J.val (congrArg (Value.int .i64) en_21) ?_
                refine J.nil ?_
                refine J.bN ?_
                refine J.tN ?_
                refine J.region ?_
                refine J.op rfl rfl rfl (V.mv rfl rfl) ?_
                refine J.op rfl rfl rfl (V.ar rfl rfl rfl rfl) ?_
                refine J.op rfl rfl rfl (V.as rfl rfl) ?_
                obtain ⟨i_22, ei_22, h1⟩ := B.lt h1
                refine J.val (congrArg (Value.int .i64) ei_22) ?_
                refine J.nil ?_
                refine J.tN (J.next (n_21, i_22) () (B.n h1) ?_)
                exact J.keep _ rfl (J.pickE [] rfl rfl J.here)
          · replace h1 := B.f hB12 h1
            refine J.exit ?_
            refine J.tE ?_
            refine J.tE ?_
            refine J.bE ?_
            obtain rfl := B.d h1
            refine J.tN (J.to (s9.1, ()) rfl ?_)
            exact J.keep _ rfl (J.pickE [] rfl rfl J.here)
      · intro gy24 hG
        replace h0 := B.inl hG h0
        refine J.tN ?_
        refine J.seq ?_
        refine J.region ?_
        refine J.op rfl rfl rfl (V.mv rfl rfl) ?_
        refine J.op rfl rfl rfl (V.as rfl rfl) ?_
        refine J.op rfl rfl rfl (V.as rfl rfl) ?_
        refine J.nil ?_
        refine J.tN ?_
        refine J.ret ?_
        obtain rfl := B.e h0
        exact J.ret2 rfl rfl rfl fun w H => ⟨(), rfl, H.pick [] (by decide)⟩

/-! ### spec.l00In: function 15 -/
noncomputable def spec_l00In.f (p0_n : Int) (p1_low : Int) (p2_high : Int) : Option (Bool) := bif (decide (p1_low ≤ p0_n)) then ((some (decide (p0_n ≤ p2_high))).bind fun t2 => some t2) else (some false)
set_option maxRecDepth 100000 in
theorem spec_l00In.calls (p0_n : Int) (p1_low : Int) (p2_high : Int) (r : Bool) (w : World) (H0 : Own [] w w []) (h0 : spec_l00In.f p0_n p1_low p2_high = some r) :
    Calls Tryd.prog 15 #[.int .i64 p0_n, .int .i64 p1_low, .int .i64 p2_high] w (fun e w' => ∃ _ : Unit, e = .returned (.bool r) ∧ Own [] w w' []) := by
  unfold spec_l00In.f at h0
  replace h0 := B.top h0
  refine calls_of_J (args := [.int .i64 p0_n, .int .i64 p1_low, .int .i64 p2_high]) Tryd.func15 rfl Tryd.ntmps15 rfl [(0, .int .i64 p0_n), (1, .int .i64 p1_low), (2, .int .i64 p2_high)] rfl H0 ?_
  refine J.seq ?_
  refine J.region ?_
  refine J.op rfl rfl rfl (V.as rfl rfl) ?_
  refine J.nil ?_
  refine J.tN ?_
  refine J.seq ?_
  refine J.region ?_
  refine J.op rfl rfl rfl (V.mv rfl rfl) ?_
  refine J.op rfl rfl rfl (V.mv rfl rfl) ?_
  refine J.op rfl rfl rfl (V.cmp rfl rfl rfl rfl) ?_
  refine J.op rfl rfl rfl (V.mv rfl rfl) ?_
  refine J.split 10 rfl (fun hB1 => ?_) (fun hB1 => ?_)
  · replace h0 := B.t hB1 h0
    refine J.opOn rfl rfl rfl rfl rfl (V.mv rfl rfl) ?_
    refine J.opOn rfl rfl rfl rfl rfl (V.mv rfl rfl) ?_
    refine J.opOn rfl rfl rfl rfl rfl (V.cmp rfl rfl rfl rfl) ?_
    refine J.op rfl rfl rfl (V.pkT rfl rfl rfl) ?_
    refine J.op rfl rfl rfl (V.as rfl rfl) ?_
    obtain ⟨t2, et2, h0⟩ := B.lt h0
    refine J.val (congrArg (Value.bool) et2) ?_
    refine J.nil ?_
    refine J.tN ?_
    refine J.ret ?_
    obtain rfl := B.e h0
    exact J.ret1 rfl rfl fun w H => ⟨(), rfl, H.pick [] (by decide)⟩
  · replace h0 := B.f hB1 h0
    refine J.opOff rfl rfl rfl rfl rfl rfl ?_
    refine J.opOff rfl rfl rfl rfl rfl rfl ?_
    refine J.opOff rfl rfl rfl rfl rfl rfl ?_
    refine J.op rfl rfl rfl (V.pkF rfl rfl rfl) ?_
    refine J.op rfl rfl rfl (V.as rfl rfl) ?_
    refine J.nil ?_
    refine J.tN ?_
    refine J.ret ?_
    obtain rfl := B.e h0
    exact J.ret1 rfl rfl fun w H => ⟨(), rfl, H.pick [] (by decide)⟩

/-! ### spec.l03Thirds: function 14 -/
noncomputable def spec_l03Thirds.f (p0_n : Int) : Option (Bool) := (spec_l00In.f p0_n 0 36).bind fun r1 => some r1
set_option maxRecDepth 100000 in
theorem spec_l03Thirds.calls (p0_n : Int) (r : Bool) (w : World) (H0 : Own [] w w []) (h0 : spec_l03Thirds.f p0_n = some r) :
    Calls Tryd.prog 14 #[.int .i64 p0_n] w (fun e w' => ∃ _ : Unit, e = .returned (.bool r) ∧ Own [] w w' []) := by
  unfold spec_l03Thirds.f at h0
  replace h0 := B.top h0
  refine calls_of_J (args := [.int .i64 p0_n]) Tryd.func14 rfl Tryd.ntmps14 rfl [(0, .int .i64 p0_n)] rfl H0 ?_
  refine J.seq ?_
  refine J.region ?_
  refine J.op rfl rfl rfl (V.as rfl rfl) ?_
  refine J.nil ?_
  refine J.tN ?_
  refine J.seq ?_
  refine J.region ?_
  refine J.op rfl rfl rfl (V.mv rfl rfl) ?_
  obtain ⟨r1, hr2, h0⟩ := B.bind h0
  refine J.clA (l := [.tmp 3, .const (.int .i64 0), .const (.int .i64 36)]) [] [] cf15 (wN rfl) rfl rfl rfl rfl rfl rfl (fun w H => spec_l00In.calls p0_n 0 36 r1 w (Own.refl w)  hr2) fun g3 => ?_
  refine J.op rfl rfl rfl (V.as rfl rfl) ?_
  refine J.nil ?_
  refine J.tN ?_
  refine J.ret ?_
  obtain rfl := B.e h0
  exact J.ret1 rfl rfl fun w H => ⟨(), rfl, H.pick [] (by decide)⟩

/-! ### spec.l05Ok: function 9 -/
noncomputable def spec_l05Ok.f (p0_s : impl_Strip) : Option (Bool) := (some (IntKind.wrap .i64 ((IntKind.wrap .i64 p0_s.First) + (IntKind.wrap .i64 ((IntKind.wrap .i64 p0_s.Each) * (IntKind.wrap .i64 ((IntKind.wrap .i64 p0_s.Bands) - 1))))))).bind fun last_3 => (spec_l03Thirds.f (IntKind.wrap .i64 p0_s.First)).bind fun r4 => bif r4 then ((spec_l00In.f (IntKind.wrap .i64 p0_s.Each) 1 9).bind fun r8 => bif r8 then ((spec_l00In.f (IntKind.wrap .i64 p0_s.Bands) 1 20).bind fun r12 => bif r12 then ((spec_l03Thirds.f last_3).bind fun r16 => some r16) else (some false)) else (some false)) else (some false)
set_option maxRecDepth 100000 in
theorem spec_l05Ok.calls (p0_s : impl_Strip) (r : Bool) (w : World) (H0 : Own [] w w []) (h0 : spec_l05Ok.f p0_s = some r) :
    Calls Tryd.prog 9 #[.agg #[.int .i8 p0_s.First, .int .i8 p0_s.Each, .int .i8 p0_s.Bands]] w (fun e w' => ∃ _ : Unit, e = .returned (.bool r) ∧ Own [] w w' []) := by
  unfold spec_l05Ok.f at h0
  replace h0 := B.top h0
  refine calls_of_J (args := [.agg #[.int .i8 p0_s.First, .int .i8 p0_s.Each, .int .i8 p0_s.Bands]]) Tryd.func9 rfl Tryd.ntmps9 rfl [(0, .agg #[.int .i8 p0_s.First, .int .i8 p0_s.Each, .int .i8 p0_s.Bands])] rfl H0 ?_
  refine J.seq ?_
  refine J.region ?_
  refine J.box rfl rfl rfl rfl rfl (fun _ _ => rfl) fun b1 => ?_
  refine J.op rfl rfl rfl (V.as rfl rfl) ?_
  refine J.nil ?_
  refine J.tN ?_
  refine J.seq ?_
  refine J.region ?_
  refine J.op rfl rfl rfl (V.faB rfl rfl tf0_24) ?_
  refine J.op rfl rfl rfl (V.ldB 0 rfl rfl rfl Tryd.underlying22 ta22 rfl) ?_
  refine J.op rfl rfl rfl (V.conv rfl rfl Tryd.underlying22 Tryd.underlying2) ?_
  refine J.op rfl rfl rfl (V.faB rfl rfl tf1_24) ?_
  refine J.op rfl rfl rfl (V.ldB 0 rfl rfl rfl Tryd.underlying22 ta22 rfl) ?_
  refine J.op rfl rfl rfl (V.conv rfl rfl Tryd.underlying22 Tryd.underlying2) ?_
  refine J.op rfl rfl rfl (V.faB rfl rfl tf2_24) ?_
  refine J.op rfl rfl rfl (V.ldB 0 rfl rfl rfl Tryd.underlying22 ta22 rfl) ?_
  refine J.op rfl rfl rfl (V.conv rfl rfl Tryd.underlying22 Tryd.underlying2) ?_
  refine J.op rfl rfl rfl (V.ar rfl rfl rfl rfl) ?_
  refine J.op rfl rfl rfl (V.ar rfl rfl rfl rfl) ?_
  refine J.op rfl rfl rfl (V.ar rfl rfl rfl rfl) ?_
  refine J.op rfl rfl rfl (V.as rfl rfl) ?_
  obtain ⟨last_3, elast_3, h0⟩ := B.lt h0
  refine J.val (congrArg (Value.int .i64) elast_3) ?_
  refine J.nil ?_
  refine J.tN ?_
  refine J.seq ?_
  refine J.region ?_
  refine J.op rfl rfl rfl (V.faB rfl rfl tf0_24) ?_
  refine J.op rfl rfl rfl (V.ldB 0 rfl rfl rfl Tryd.underlying22 ta22 rfl) ?_
  refine J.op rfl rfl rfl (V.conv rfl rfl Tryd.underlying22 Tryd.underlying2) ?_
  obtain ⟨r4, hr5, h0⟩ := B.bind h0
  refine J.clA (l := [.tmp 18]) [] [.blk b1 [.int .i8 p0_s.First, .int .i8 p0_s.Each, .int .i8 p0_s.Bands] 24] cf14 (wN rfl) rfl rfl rfl rfl rfl rfl (fun w H => spec_l03Thirds.calls (IntKind.wrap .i64 p0_s.First) r4 w (Own.refl w)  hr5) fun g6 => ?_
  refine J.op rfl rfl rfl (V.mv rfl rfl) ?_
  refine J.split 20 rfl (fun hB7 => ?_) (fun hB7 => ?_)
  · replace h0 := B.t hB7 h0
    refine J.opOn rfl rfl rfl rfl rfl (V.faB rfl rfl tf1_24) ?_
    refine J.opOn rfl rfl rfl rfl rfl (V.ldB 0 rfl rfl rfl Tryd.underlying22 ta22 rfl) ?_
    refine J.opOn rfl rfl rfl rfl rfl (V.conv rfl rfl Tryd.underlying22 Tryd.underlying2) ?_
    obtain ⟨r8, hr9, h0⟩ := B.bind h0
    refine J.clA (l := [.tmp 23, .const (.int .i64 1), .const (.int .i64 9)]) [] [.blk b1 [.int .i8 p0_s.First, .int .i8 p0_s.Each, .int .i8 p0_s.Bands] 24] cf15 (wY rfl rfl rfl) rfl rfl rfl rfl rfl rfl (fun w H => spec_l00In.calls (IntKind.wrap .i64 p0_s.Each) 1 9 r8 w (Own.refl w)  hr9) fun g10 => ?_
    refine J.op rfl rfl rfl (V.pkT rfl rfl rfl) ?_
    refine J.op rfl rfl rfl (V.mv rfl rfl) ?_
    refine J.split 26 rfl (fun hB11 => ?_) (fun hB11 => ?_)
    · replace h0 := B.t hB11 h0
      refine J.opOn rfl rfl rfl rfl rfl (V.faB rfl rfl tf2_24) ?_
      refine J.opOn rfl rfl rfl rfl rfl (V.ldB 0 rfl rfl rfl Tryd.underlying22 ta22 rfl) ?_
      refine J.opOn rfl rfl rfl rfl rfl (V.conv rfl rfl Tryd.underlying22 Tryd.underlying2) ?_
      obtain ⟨r12, hr13, h0⟩ := B.bind h0
      refine J.clA (l := [.tmp 29, .const (.int .i64 1), .const (.int .i64 20)]) [] [.blk b1 [.int .i8 p0_s.First, .int .i8 p0_s.Each, .int .i8 p0_s.Bands] 24] cf15 (wY rfl rfl rfl) rfl rfl rfl rfl rfl rfl (fun w H => spec_l00In.calls (IntKind.wrap .i64 p0_s.Bands) 1 20 r12 w (Own.refl w)  hr13) fun g14 => ?_
      refine J.op rfl rfl rfl (V.pkT rfl rfl rfl) ?_
      refine J.op rfl rfl rfl (V.mv rfl rfl) ?_
      refine J.split 32 rfl (fun hB15 => ?_) (fun hB15 => ?_)
      · replace h0 := B.t hB15 h0
        refine J.opOn rfl rfl rfl rfl rfl (V.mv rfl rfl) ?_
        obtain ⟨r16, hr17, h0⟩ := B.bind h0
        refine J.clA (l := [.tmp 33]) [] [.blk b1 [.int .i8 p0_s.First, .int .i8 p0_s.Each, .int .i8 p0_s.Bands] 24] cf14 (wY rfl rfl rfl) rfl rfl rfl rfl rfl rfl (fun w H => spec_l03Thirds.calls last_3 r16 w (Own.refl w)  hr17) fun g18 => ?_
        refine J.op rfl rfl rfl (V.pkT rfl rfl rfl) ?_
        refine J.op rfl rfl rfl (V.as rfl rfl) ?_
        refine J.nil ?_
        refine J.tN ?_
        refine J.ret ?_
        obtain rfl := B.e h0
        exact J.ret1 rfl rfl fun w H => ⟨(), rfl, H.pick [] (by decide)⟩
      · replace h0 := B.f hB15 h0
        refine J.opOff rfl rfl rfl rfl rfl rfl ?_
        refine J.opOff rfl rfl rfl rfl rfl rfl ?_
        refine J.op rfl rfl rfl (V.pkF rfl rfl rfl) ?_
        refine J.op rfl rfl rfl (V.as rfl rfl) ?_
        refine J.nil ?_
        refine J.tN ?_
        refine J.ret ?_
        obtain rfl := B.e h0
        exact J.ret1 rfl rfl fun w H => ⟨(), rfl, H.pick [] (by decide)⟩
    · replace h0 := B.f hB11 h0
      refine J.opOff rfl rfl rfl rfl rfl rfl ?_
      refine J.opOff rfl rfl rfl rfl rfl rfl ?_
      refine J.opOff rfl rfl rfl rfl rfl rfl ?_
      refine J.opOff rfl rfl rfl rfl rfl rfl ?_
      refine J.op rfl rfl rfl (V.pkF rfl rfl rfl) ?_
      refine J.op rfl rfl rfl (V.mv rfl rfl) ?_
      refine J.opOff rfl rfl rfl rfl rfl rfl ?_
      refine J.opOff rfl rfl rfl rfl rfl rfl ?_
      refine J.op rfl rfl rfl (V.pkF rfl rfl rfl) ?_
      refine J.op rfl rfl rfl (V.as rfl rfl) ?_
      refine J.nil ?_
      refine J.tN ?_
      refine J.ret ?_
      obtain rfl := B.e h0
      exact J.ret1 rfl rfl fun w H => ⟨(), rfl, H.pick [] (by decide)⟩
  · replace h0 := B.f hB7 h0
    refine J.opOff rfl rfl rfl rfl rfl rfl ?_
    refine J.opOff rfl rfl rfl rfl rfl rfl ?_
    refine J.opOff rfl rfl rfl rfl rfl rfl ?_
    refine J.opOff rfl rfl rfl rfl rfl rfl ?_
    refine J.op rfl rfl rfl (V.pkF rfl rfl rfl) ?_
    refine J.op rfl rfl rfl (V.mv rfl rfl) ?_
    refine J.opOff rfl rfl rfl rfl rfl rfl ?_
    refine J.opOff rfl rfl rfl rfl rfl rfl ?_
    refine J.opOff rfl rfl rfl rfl rfl rfl ?_
    refine J.opOff rfl rfl rfl rfl rfl rfl ?_
    refine J.op rfl rfl rfl (V.pkF rfl rfl rfl) ?_
    refine J.op rfl rfl rfl (V.mv rfl rfl) ?_
    refine J.opOff rfl rfl rfl rfl rfl rfl ?_
    refine J.opOff rfl rfl rfl rfl rfl rfl ?_
    refine J.op rfl rfl rfl (V.pkF rfl rfl rfl) ?_
    refine J.op rfl rfl rfl (V.as rfl rfl) ?_
    refine J.nil ?_
    refine J.tN ?_
    refine J.ret ?_
    obtain rfl := B.e h0
    exact J.ret1 rfl rfl fun w H => ⟨(), rfl, H.pick [] (by decide)⟩

/-! ### spec.ReadStrip: function 4 -/
noncomputable def spec_ReadStrip.f (p0_text : ByteArray) : Option (impl_Strip × Int) := (spec_l01Split.f p0_text 32).bind fun r3 => bif ((r3.length : Int) != 3) then (some ((⟨0, 0, 0⟩ : impl_Strip), 5)) else (bif (inB 0 r3.length) then ((spec_l01Number.f (rd eT r3 0)).bind fun r9 => bif (inB 1 r3.length) then ((spec_l01Number.f (rd eT r3 1)).bind fun r13 => bif (inB 2 r3.length) then ((spec_l01Number.f (rd eT r3 2)).bind fun r17 => (bif (!r9.2) then (some true) else (bif (!r13.2) then (some true) else (bif (!r17.2) then (some true) else (bif (decide (100 < r9.1)) then (some true) else (bif (decide (100 < r13.1)) then (some true) else (some (decide (100 < r17.1))))))) : Option (Bool)).bind fun y20 => bif y20 then (some ((⟨0, 0, 0⟩ : impl_Strip), 5)) else ((spec_l05Ok.f (⟨IntKind.wrap .i8 r9.1, IntKind.wrap .i8 r13.1, IntKind.wrap .i8 r17.1⟩ : impl_Strip)).bind fun r31 => bif (!r31) then (some ((⟨0, 0, 0⟩ : impl_Strip), 5)) else (some ((⟨IntKind.wrap .i8 r9.1, IntKind.wrap .i8 r13.1, IntKind.wrap .i8 r17.1⟩ : impl_Strip), 0)))) else none) else none) else none)
set_option maxRecDepth 100000 in
theorem spec_ReadStrip.calls (p0_text : ByteArray) (r : impl_Strip × Int) (w : World) (H0 : Own [] w w []) (h0 : spec_ReadStrip.f p0_text = some r) :
    Calls Tryd.prog 4 #[.string p0_text] w (fun e w' => ∃ _ : Unit, e = .returned (.tuple #[.agg #[.int .i8 r.1.First, .int .i8 r.1.Each, .int .i8 r.1.Bands], .int .i64 r.2]) ∧ Own [] w w' []) := by
  unfold spec_ReadStrip.f at h0
  replace h0 := B.top h0
  refine calls_of_J (args := [.string p0_text]) Tryd.func4 rfl Tryd.ntmps4 rfl [(0, .string p0_text)] rfl H0 ?_
  refine J.seq ?_
  refine J.region ?_
  refine J.alloc rfl rfl rfl rfl tz24 rfl fun b1 => ?_
  refine J.op rfl rfl rfl (V.as rfl rfl) ?_
  refine J.nil ?_
  refine J.tN ?_
  refine J.seq ?_
  refine J.region ?_
  refine J.op rfl rfl rfl (V.mv rfl rfl) ?_
  obtain ⟨r3, hr4, h0⟩ := B.bind h0
  refine J.clA (l := [.tmp 12, .const (.int .u8 32)]) [] [.blk b1 [.int .i8 0, .int .i8 0, .int .i8 0] 24] cf7 (wN rfl) rfl rfl rfl rfl rfl rfl (fun w H => spec_l01Split.calls p0_text 32 r3 w (Own.refl w)  hr4) fun g5 => ?_
  refine J.op rfl rfl rfl (V.as rfl rfl) ?_
  refine J.nil ?_
  refine J.tN ?_
  refine J.seq ?_
  refine J.seq ?_
  refine J.region ?_
  refine J.op rfl rfl rfl (V.mv rfl rfl) ?_
  refine J.op rfl rfl rfl (V.lenR 0 rfl rfl rfl tl29) ?_
  refine J.op rfl rfl rfl (V.cmp rfl rfl rfl rfl) ?_
  refine J.nil ?_
  refine J.tN ?_
  refine J.cond rfl (fun hB7 => ?_) (fun hB7 => ?_)
  · replace h0 := B.t hB7 h0
    refine J.seq ?_
    refine J.region ?_
    refine J.op rfl rfl rfl (V.bd (l := []) (v := .agg #[.int .i8 0, .int .i8 0, .int .i8 0]) rfl rfl (fun w H => by kernel_rfl)) ?_
    refine J.stW (cs' := [.int .i8 0, .int .i8 0, .int .i8 0]) 1 rfl rfl rfl rfl rfl rfl ts24 rfl (fun _ H => (one_cons rfl (one_cons rfl (one_cons rfl one_nil)))) rfl rfl ?_
    refine J.op rfl rfl rfl (V.as rfl rfl) ?_
    refine J.nil ?_
    refine J.tN ?_
    refine J.ret ?_
    refine J.tR ?_
    obtain rfl := B.e h0
    exact J.retC_1 1 rfl rfl rfl ts24 ta24 rfl rfl fun w H => ⟨(), rfl, H.pick [] (by decide)⟩
  · replace h0 := B.f hB7 h0
    refine J.skip ?_
    refine J.tN ?_
    refine J.seq ?_
    refine J.region ?_
    refine J.op rfl rfl rfl (V.mv rfl rfl) ?_
    obtain ⟨hC8, h0⟩ := B.chk h0
    refine J.op rfl rfl rfl (V.ixR 0 rfl rfl rfl rfl tl29 ts9 hC8) ?_
    refine J.op rfl rfl rfl (V.elR0 0 rfl hC8 rfl rfl Tryd.underlying9 ta9 rfl) ?_
    obtain ⟨r9, hr10, h0⟩ := B.bind h0
    refine J.clA (l := [.tmp 21]) [] [.rowE g5 9 eT r3, .blk b1 [.int .i8 0, .int .i8 0, .int .i8 0] 24] cf8 (wN rfl) rfl rfl rfl rfl rfl rfl (fun w H => spec_l01Number.calls (rd eT r3 0) r9 w (Own.refl w)  hr10) fun g11 => ?_
    refine J.op rfl rfl rfl (V.mv rfl rfl) ?_
    refine J.op rfl rfl rfl (V.ex rfl rfl rfl) ?_
    refine J.op rfl rfl rfl (V.ex rfl rfl rfl) ?_
    refine J.op rfl rfl rfl (V.as rfl rfl) ?_
    refine J.op rfl rfl rfl (V.as rfl rfl) ?_
    refine J.nil ?_
    refine J.tN ?_
    refine J.seq ?_
    refine J.region ?_
    refine J.op rfl rfl rfl (V.mv rfl rfl) ?_
    obtain ⟨hC12, h0⟩ := B.chk h0
    refine J.op rfl rfl rfl (V.ixR 0 rfl rfl rfl rfl tl29 ts9 hC12) ?_
    refine J.op rfl rfl rfl (V.elR0 0 rfl hC12 rfl rfl Tryd.underlying9 ta9 rfl) ?_
    obtain ⟨r13, hr14, h0⟩ := B.bind h0
    refine J.clA (l := [.tmp 28]) [] [.rowE g5 9 eT r3, .blk b1 [.int .i8 0, .int .i8 0, .int .i8 0] 24] cf8 (wN rfl) rfl rfl rfl rfl rfl rfl (fun w H => spec_l01Number.calls (rd eT r3 1) r13 w (Own.refl w)  hr14) fun g15 => ?_
    refine J.op rfl rfl rfl (V.mv rfl rfl) ?_
    refine J.op rfl rfl rfl (V.ex rfl rfl rfl) ?_
    refine J.op rfl rfl rfl (V.ex rfl rfl rfl) ?_
    refine J.op rfl rfl rfl (V.as rfl rfl) ?_
    refine J.op rfl rfl rfl (V.as rfl rfl) ?_
    refine J.nil ?_
    refine J.tN ?_
    refine J.seq ?_
    refine J.region ?_
    refine J.op rfl rfl rfl (V.mv rfl rfl) ?_
    obtain ⟨hC16, h0⟩ := B.chk h0
    refine J.op rfl rfl rfl (V.ixR 0 rfl rfl rfl rfl tl29 ts9 hC16) ?_
    refine J.op rfl rfl rfl (V.elR0 0 rfl hC16 rfl rfl Tryd.underlying9 ta9 rfl) ?_
    obtain ⟨r17, hr18, h0⟩ := B.bind h0
    refine J.clA (l := [.tmp 35]) [] [.rowE g5 9 eT r3, .blk b1 [.int .i8 0, .int .i8 0, .int .i8 0] 24] cf8 (wN rfl) rfl rfl rfl rfl rfl rfl (fun w H => spec_l01Number.calls (rd eT r3 2) r17 w (Own.refl w)  hr18) fun g19 => ?_
    refine J.op rfl rfl rfl (V.mv rfl rfl) ?_
    refine J.op rfl rfl rfl (V.ex rfl rfl rfl) ?_
    refine J.op rfl rfl rfl (V.ex rfl rfl rfl) ?_
    refine J.op rfl rfl rfl (V.as rfl rfl) ?_
    refine J.op rfl rfl rfl (V.as rfl rfl) ?_
    refine J.nil ?_
    refine J.tN ?_
    refine J.seq ?_
    refine J.seq ?_
    obtain ⟨y20, hy27, h0⟩ := B.bind h0
    replace hy27 := B.top hy27
    refine J.cut (γ := Unit) (fun _ => True) (fun gy21 => [(2, bp b1 0), (5, .int .i64 r9.1), (7, .int .i64 r13.1), (9, .int .i64 r17.1), (60, .bool y20)]) (fun gy21 => [.rowE g5 9 eT r3, .blk b1 [.int .i8 0, .int .i8 0, .int .i8 0] 24]) ?_ ?_
    · have h1 := hy27
      refine J.region ?_
      refine J.op rfl rfl rfl (V.mv rfl rfl) ?_
      refine J.op rfl rfl rfl (V.nt rfl rfl) ?_
      refine J.op rfl rfl rfl (V.mv rfl rfl) ?_
      refine J.split 41 rfl (fun hB22 => ?_) (fun hB22 => ?_)
      · replace h1 := B.t hB22 h1
        refine J.opOff rfl rfl rfl rfl rfl rfl ?_
        refine J.opOff rfl rfl rfl rfl rfl rfl ?_
        refine J.op rfl rfl rfl (V.pkT rfl rfl rfl) ?_
        refine J.op rfl rfl rfl (V.mv rfl rfl) ?_
        refine J.opOff rfl rfl rfl rfl rfl rfl ?_
        refine J.opOff rfl rfl rfl rfl rfl rfl ?_
        refine J.op rfl rfl rfl (V.pkT rfl rfl rfl) ?_
        refine J.op rfl rfl rfl (V.mv rfl rfl) ?_
        refine J.opOff rfl rfl rfl rfl rfl rfl ?_
        refine J.opOff rfl rfl rfl rfl rfl rfl ?_
        refine J.op rfl rfl rfl (V.pkT rfl rfl rfl) ?_
        refine J.op rfl rfl rfl (V.mv rfl rfl) ?_
        refine J.opOff rfl rfl rfl rfl rfl rfl ?_
        refine J.opOff rfl rfl rfl rfl rfl rfl ?_
        refine J.op rfl rfl rfl (V.pkT rfl rfl rfl) ?_
        refine J.op rfl rfl rfl (V.mv rfl rfl) ?_
        refine J.opOff rfl rfl rfl rfl rfl rfl ?_
        refine J.opOff rfl rfl rfl rfl rfl rfl ?_
        refine J.op rfl rfl rfl (V.pkT rfl rfl rfl) ?_
        refine J.nil ?_
        obtain rfl := B.e h1
        refine J.tN (J.to () trivial ?_)
        exact J.keep _ rfl (J.pickE [0, 1] rfl rfl J.here)
      · replace h1 := B.f hB22 h1
        refine J.opOn rfl rfl rfl rfl rfl (V.mv rfl rfl) ?_
        refine J.opOn rfl rfl rfl rfl rfl (V.nt rfl rfl) ?_
        refine J.op rfl rfl rfl (V.pkF rfl rfl rfl) ?_
        refine J.op rfl rfl rfl (V.mv rfl rfl) ?_
        refine J.split 45 rfl (fun hB23 => ?_) (fun hB23 => ?_)
        · replace h1 := B.t hB23 h1
          refine J.opOff rfl rfl rfl rfl rfl rfl ?_
          refine J.opOff rfl rfl rfl rfl rfl rfl ?_
          refine J.op rfl rfl rfl (V.pkT rfl rfl rfl) ?_
          refine J.op rfl rfl rfl (V.mv rfl rfl) ?_
          refine J.opOff rfl rfl rfl rfl rfl rfl ?_
          refine J.opOff rfl rfl rfl rfl rfl rfl ?_
          refine J.op rfl rfl rfl (V.pkT rfl rfl rfl) ?_
          refine J.op rfl rfl rfl (V.mv rfl rfl) ?_
          refine J.opOff rfl rfl rfl rfl rfl rfl ?_
          refine J.opOff rfl rfl rfl rfl rfl rfl ?_
          refine J.op rfl rfl rfl (V.pkT rfl rfl rfl) ?_
          refine J.op rfl rfl rfl (V.mv rfl rfl) ?_
          refine J.opOff rfl rfl rfl rfl rfl rfl ?_
          refine J.opOff rfl rfl rfl rfl rfl rfl ?_
          refine J.op rfl rfl rfl (V.pkT rfl rfl rfl) ?_
          refine J.nil ?_
          obtain rfl := B.e h1
          refine J.tN (J.to () trivial ?_)
          exact J.keep _ rfl (J.pickE [0, 1] rfl rfl J.here)
        · replace h1 := B.f hB23 h1
          refine J.opOn rfl rfl rfl rfl rfl (V.mv rfl rfl) ?_
          refine J.opOn rfl rfl rfl rfl rfl (V.nt rfl rfl) ?_
          refine J.op rfl rfl rfl (V.pkF rfl rfl rfl) ?_
          refine J.op rfl rfl rfl (V.mv rfl rfl) ?_
          refine J.split 49 rfl (fun hB24 => ?_) (fun hB24 => ?_)
          · replace h1 := B.t hB24 h1
            refine J.opOff rfl rfl rfl rfl rfl rfl ?_
            refine J.opOff rfl rfl rfl rfl rfl rfl ?_
            refine J.op rfl rfl rfl (V.pkT rfl rfl rfl) ?_
            refine J.op rfl rfl rfl (V.mv rfl rfl) ?_
            refine J.opOff rfl rfl rfl rfl rfl rfl ?_
            refine J.opOff rfl rfl rfl rfl rfl rfl ?_
            refine J.op rfl rfl rfl (V.pkT rfl rfl rfl) ?_
            refine J.op rfl rfl rfl (V.mv rfl rfl) ?_
            refine J.opOff rfl rfl rfl rfl rfl rfl ?_
            refine J.opOff rfl rfl rfl rfl rfl rfl ?_
            refine J.op rfl rfl rfl (V.pkT rfl rfl rfl) ?_
            refine J.nil ?_
            obtain rfl := B.e h1
            refine J.tN (J.to () trivial ?_)
            exact J.keep _ rfl (J.pickE [0, 1] rfl rfl J.here)
          · replace h1 := B.f hB24 h1
            refine J.opOn rfl rfl rfl rfl rfl (V.mv rfl rfl) ?_
            refine J.opOn rfl rfl rfl rfl rfl (V.cmp rfl rfl rfl rfl) ?_
            refine J.op rfl rfl rfl (V.pkF rfl rfl rfl) ?_
            refine J.op rfl rfl rfl (V.mv rfl rfl) ?_
            refine J.split 53 rfl (fun hB25 => ?_) (fun hB25 => ?_)
            · replace h1 := B.t hB25 h1
              refine J.opOff rfl rfl rfl rfl rfl rfl ?_
              refine J.opOff rfl rfl rfl rfl rfl rfl ?_
              refine J.op rfl rfl rfl (V.pkT rfl rfl rfl) ?_
              refine J.op rfl rfl rfl (V.mv rfl rfl) ?_
              refine J.opOff rfl rfl rfl rfl rfl rfl ?_
              refine J.opOff rfl rfl rfl rfl rfl rfl ?_
              refine J.op rfl rfl rfl (V.pkT rfl rfl rfl) ?_
              refine J.nil ?_
              obtain rfl := B.e h1
              refine J.tN (J.to () trivial ?_)
              exact J.keep _ rfl (J.pickE [0, 1] rfl rfl J.here)
            · replace h1 := B.f hB25 h1
              refine J.opOn rfl rfl rfl rfl rfl (V.mv rfl rfl) ?_
              refine J.opOn rfl rfl rfl rfl rfl (V.cmp rfl rfl rfl rfl) ?_
              refine J.op rfl rfl rfl (V.pkF rfl rfl rfl) ?_
              refine J.op rfl rfl rfl (V.mv rfl rfl) ?_
              refine J.split 57 rfl (fun hB26 => ?_) (fun hB26 => ?_)
              · replace h1 := B.t hB26 h1
                refine J.opOff rfl rfl rfl rfl rfl rfl ?_
                refine J.opOff rfl rfl rfl rfl rfl rfl ?_
                refine J.op rfl rfl rfl (V.pkT rfl rfl rfl) ?_
                refine J.nil ?_
                obtain rfl := B.e h1
                refine J.tN (J.to () trivial ?_)
                exact J.keep _ rfl (J.pickE [0, 1] rfl rfl J.here)
              · replace h1 := B.f hB26 h1
                refine J.opOn rfl rfl rfl rfl rfl (V.mv rfl rfl) ?_
                refine J.opOn rfl rfl rfl rfl rfl (V.cmp rfl rfl rfl rfl) ?_
                refine J.op rfl rfl rfl (V.pkF rfl rfl rfl) ?_
                refine J.nil ?_
                obtain rfl := B.e h1
                refine J.tN (J.to () trivial ?_)
                exact J.keep _ rfl (J.pickE [0, 1] rfl rfl J.here)
    · intro gy21 _
      refine J.cond rfl (fun hB28 => ?_) (fun hB28 => ?_)
      · replace h0 := B.t hB28 h0
        refine J.seq ?_
        refine J.region ?_
        refine J.op rfl rfl rfl (V.bd (l := []) (v := .agg #[.int .i8 0, .int .i8 0, .int .i8 0]) rfl rfl (fun w H => by kernel_rfl)) ?_
        refine J.stW (cs' := [.int .i8 0, .int .i8 0, .int .i8 0]) 1 rfl rfl rfl rfl rfl rfl ts24 rfl (fun _ H => (one_cons rfl (one_cons rfl (one_cons rfl one_nil)))) rfl rfl ?_
        refine J.op rfl rfl rfl (V.as rfl rfl) ?_
        refine J.nil ?_
        refine J.tN ?_
        refine J.ret ?_
        refine J.tR ?_
        obtain rfl := B.e h0
        exact J.retC_1 1 rfl rfl rfl ts24 ta24 rfl rfl fun w H => ⟨(), rfl, H.pick [] (by decide)⟩
      · replace h0 := B.f hB28 h0
        refine J.skip ?_
        refine J.tN ?_
        refine J.seq ?_
        refine J.region ?_
        refine J.op rfl rfl rfl (V.mv rfl rfl) ?_
        refine J.op rfl rfl rfl (V.conv rfl rfl Tryd.underlying2 Tryd.underlying22) ?_
        refine J.op rfl rfl rfl (V.mv rfl rfl) ?_
        refine J.op rfl rfl rfl (V.conv rfl rfl Tryd.underlying2 Tryd.underlying22) ?_
        refine J.op rfl rfl rfl (V.mv rfl rfl) ?_
        refine J.op rfl rfl rfl (V.conv rfl rfl Tryd.underlying2 Tryd.underlying22) ?_
        refine J.op rfl rfl rfl (V.bd (l := [(0, .tmp 63), (1, .tmp 65), (2, .tmp 67)]) (v := .agg #[.int .i8 (IntKind.wrap .i8 r9.1), .int .i8 (IntKind.wrap .i8 r13.1), .int .i8 (IntKind.wrap .i8 r17.1)]) rfl rfl (fun w H => by kernel_rfl)) ?_
        refine J.alloc rfl rfl rfl rfl tz24 rfl fun b29 => ?_
        refine J.stW (cs' := [.int .i8 (IntKind.wrap .i8 r9.1), .int .i8 (IntKind.wrap .i8 r13.1), .int .i8 (IntKind.wrap .i8 r17.1)]) 0 rfl rfl rfl rfl rfl rfl ts24 rfl (fun _ H => (one_cons rfl (one_cons rfl (one_cons rfl one_nil)))) rfl rfl ?_
        refine J.nil ?_
        refine J.tN ?_
        refine J.seq ?_
        refine J.seq ?_
        refine J.region ?_
        refine J.op rfl rfl rfl (V.ldW 0 rfl rfl rfl ts24 ta24 rfl) ?_
        obtain ⟨r31, hr32, h0⟩ := B.bind h0
        refine J.clA (l := [.tmp 69]) [] [.blk b29 [.int .i8 (IntKind.wrap .i8 r9.1), .int .i8 (IntKind.wrap .i8 r13.1), .int .i8 (IntKind.wrap .i8 r17.1)] 24, .rowE g5 9 eT r3, .blk b1 [.int .i8 0, .int .i8 0, .int .i8 0] 24] cf9 (wN rfl) rfl rfl rfl rfl rfl rfl (fun w H => spec_l05Ok.calls (⟨IntKind.wrap .i8 r9.1, IntKind.wrap .i8 r13.1, IntKind.wrap .i8 r17.1⟩ : impl_Strip) r31 w (Own.refl w)  hr32) fun g33 => ?_
        refine J.op rfl rfl rfl (V.nt rfl rfl) ?_
        refine J.nil ?_
        refine J.tN ?_
        refine J.cond rfl (fun hB34 => ?_) (fun hB34 => ?_)
        · replace h0 := B.t hB34 h0
          refine J.seq ?_
          refine J.region ?_
          refine J.op rfl rfl rfl (V.bd (l := []) (v := .agg #[.int .i8 0, .int .i8 0, .int .i8 0]) rfl rfl (fun w H => by kernel_rfl)) ?_
          refine J.stW (cs' := [.int .i8 0, .int .i8 0, .int .i8 0]) 2 rfl rfl rfl rfl rfl rfl ts24 rfl (fun _ H => (one_cons rfl (one_cons rfl (one_cons rfl one_nil)))) rfl rfl ?_
          refine J.op rfl rfl rfl (V.as rfl rfl) ?_
          refine J.nil ?_
          refine J.tN ?_
          refine J.ret ?_
          refine J.tR ?_
          obtain rfl := B.e h0
          exact J.retC_1 2 rfl rfl rfl ts24 ta24 rfl rfl fun w H => ⟨(), rfl, H.pick [] (by decide)⟩
        · replace h0 := B.f hB34 h0
          refine J.skip ?_
          refine J.tN ?_
          refine J.seq ?_
          refine J.region ?_
          refine J.op rfl rfl rfl (V.ldW 0 rfl rfl rfl ts24 ta24 rfl) ?_
          refine J.stW (cs' := [.int .i8 (IntKind.wrap .i8 r9.1), .int .i8 (IntKind.wrap .i8 r13.1), .int .i8 (IntKind.wrap .i8 r17.1)]) 2 rfl rfl rfl rfl rfl rfl ts24 rfl (fun _ H => (one_cons rfl (one_cons rfl (one_cons rfl one_nil)))) rfl rfl ?_
          refine J.op rfl rfl rfl (V.as rfl rfl) ?_
          refine J.nil ?_
          refine J.tN ?_
          refine J.ret ?_
          obtain rfl := B.e h0
          exact J.retC_1 2 rfl rfl rfl ts24 ta24 rfl rfl fun w H => ⟨(), rfl, H.pick [] (by decide)⟩

/-! ### impl.within: function 20 -/
noncomputable def impl_within.f (p0_n : Int) (p1_low : Int) (p2_high : Int) : Option (Bool) := bif (decide (p1_low ≤ p0_n)) then ((some (decide (p0_n ≤ p2_high))).bind fun t2 => some t2) else (some false)
set_option maxRecDepth 100000 in
theorem impl_within.calls (p0_n : Int) (p1_low : Int) (p2_high : Int) (r : Bool) (w : World) (H0 : Own [] w w []) (h0 : impl_within.f p0_n p1_low p2_high = some r) :
    Calls Tryd.prog 20 #[.int .i64 p0_n, .int .i64 p1_low, .int .i64 p2_high] w (fun e w' => ∃ _ : Unit, e = .returned (.bool r) ∧ Own [] w w' []) := by
  unfold impl_within.f at h0
  replace h0 := B.top h0
  refine calls_of_J (args := [.int .i64 p0_n, .int .i64 p1_low, .int .i64 p2_high]) Tryd.func20 rfl Tryd.ntmps20 rfl [(0, .int .i64 p0_n), (1, .int .i64 p1_low), (2, .int .i64 p2_high)] rfl H0 ?_
  refine J.seq ?_
  refine J.region ?_
  refine J.op rfl rfl rfl (V.as rfl rfl) ?_
  refine J.nil ?_
  refine J.tN ?_
  refine J.seq ?_
  refine J.region ?_
  refine J.op rfl rfl rfl (V.mv rfl rfl) ?_
  refine J.op rfl rfl rfl (V.mv rfl rfl) ?_
  refine J.op rfl rfl rfl (V.cmp rfl rfl rfl rfl) ?_
  refine J.op rfl rfl rfl (V.mv rfl rfl) ?_
  refine J.split 10 rfl (fun hB1 => ?_) (fun hB1 => ?_)
  · replace h0 := B.t hB1 h0
    refine J.opOn rfl rfl rfl rfl rfl (V.mv rfl rfl) ?_
    refine J.opOn rfl rfl rfl rfl rfl (V.mv rfl rfl) ?_
    refine J.opOn rfl rfl rfl rfl rfl (V.cmp rfl rfl rfl rfl) ?_
    refine J.op rfl rfl rfl (V.pkT rfl rfl rfl) ?_
    refine J.op rfl rfl rfl (V.as rfl rfl) ?_
    obtain ⟨t2, et2, h0⟩ := B.lt h0
    refine J.val (congrArg (Value.bool) et2) ?_
    refine J.nil ?_
    refine J.tN ?_
    refine J.ret ?_
    obtain rfl := B.e h0
    exact J.ret1 rfl rfl fun w H => ⟨(), rfl, H.pick [] (by decide)⟩
  · replace h0 := B.f hB1 h0
    refine J.opOff rfl rfl rfl rfl rfl rfl ?_
    refine J.opOff rfl rfl rfl rfl rfl rfl ?_
    refine J.opOff rfl rfl rfl rfl rfl rfl ?_
    refine J.op rfl rfl rfl (V.pkF rfl rfl rfl) ?_
    refine J.op rfl rfl rfl (V.as rfl rfl) ?_
    refine J.nil ?_
    refine J.tN ?_
    refine J.ret ?_
    obtain rfl := B.e h0
    exact J.ret1 rfl rfl fun w H => ⟨(), rfl, H.pick [] (by decide)⟩

/-! ### impl.areThirds: function 19 -/
noncomputable def impl_areThirds.f (p0_n : Int) : Option (Bool) := (impl_within.f p0_n 0 36).bind fun r1 => some r1
set_option maxRecDepth 100000 in
theorem impl_areThirds.calls (p0_n : Int) (r : Bool) (w : World) (H0 : Own [] w w []) (h0 : impl_areThirds.f p0_n = some r) :
    Calls Tryd.prog 19 #[.int .i64 p0_n] w (fun e w' => ∃ _ : Unit, e = .returned (.bool r) ∧ Own [] w w' []) := by
  unfold impl_areThirds.f at h0
  replace h0 := B.top h0
  refine calls_of_J (args := [.int .i64 p0_n]) Tryd.func19 rfl Tryd.ntmps19 rfl [(0, .int .i64 p0_n)] rfl H0 ?_
  refine J.seq ?_
  refine J.region ?_
  refine J.op rfl rfl rfl (V.as rfl rfl) ?_
  refine J.nil ?_
  refine J.tN ?_
  refine J.seq ?_
  refine J.region ?_
  refine J.op rfl rfl rfl (V.mv rfl rfl) ?_
  obtain ⟨r1, hr2, h0⟩ := B.bind h0
  refine J.clA (l := [.tmp 3, .const (.int .i64 0), .const (.int .i64 36)]) [] [] cf20 (wN rfl) rfl rfl rfl rfl rfl rfl (fun w H => impl_within.calls p0_n 0 36 r1 w (Own.refl w)  hr2) fun g3 => ?_
  refine J.op rfl rfl rfl (V.as rfl rfl) ?_
  refine J.nil ?_
  refine J.tN ?_
  refine J.ret ?_
  obtain rfl := B.e h0
  exact J.ret1 rfl rfl fun w H => ⟨(), rfl, H.pick [] (by decide)⟩

/-! ### (impl.Strip).light: function 21 -/
noncomputable def impl_Strip_light.f (p0_s : impl_Strip) (p1_band : Int) : Option (Int) := (some (IntKind.wrap .i64 ((IntKind.wrap .i64 p0_s.First) + (IntKind.wrap .i64 ((IntKind.wrap .i64 p0_s.Each) * p1_band))))).bind fun t3 => some t3
set_option maxRecDepth 100000 in
theorem impl_Strip_light.calls (p0_s : impl_Strip) (p1_band : Int) (r : Int) (w : World) (H0 : Own [] w w []) (h0 : impl_Strip_light.f p0_s p1_band = some r) :
    Calls Tryd.prog 21 #[.agg #[.int .i8 p0_s.First, .int .i8 p0_s.Each, .int .i8 p0_s.Bands], .int .i64 p1_band] w (fun e w' => ∃ _ : Unit, e = .returned (.int .i64 r) ∧ Own [] w w' []) := by
  unfold impl_Strip_light.f at h0
  replace h0 := B.top h0
  refine calls_of_J (args := [.agg #[.int .i8 p0_s.First, .int .i8 p0_s.Each, .int .i8 p0_s.Bands], .int .i64 p1_band]) Tryd.func21 rfl Tryd.ntmps21 rfl [(0, .agg #[.int .i8 p0_s.First, .int .i8 p0_s.Each, .int .i8 p0_s.Bands]), (1, .int .i64 p1_band)] rfl H0 ?_
  refine J.seq ?_
  refine J.region ?_
  refine J.box rfl rfl rfl rfl rfl (fun _ _ => rfl) fun b1 => ?_
  refine J.op rfl rfl rfl (V.as rfl rfl) ?_
  refine J.nil ?_
  refine J.tN ?_
  refine J.seq ?_
  refine J.region ?_
  refine J.op rfl rfl rfl (V.faB rfl rfl tf0_24) ?_
  refine J.op rfl rfl rfl (V.ldB 0 rfl rfl rfl Tryd.underlying22 ta22 rfl) ?_
  refine J.op rfl rfl rfl (V.conv rfl rfl Tryd.underlying22 Tryd.underlying2) ?_
  refine J.op rfl rfl rfl (V.faB rfl rfl tf1_24) ?_
  refine J.op rfl rfl rfl (V.ldB 0 rfl rfl rfl Tryd.underlying22 ta22 rfl) ?_
  refine J.op rfl rfl rfl (V.conv rfl rfl Tryd.underlying22 Tryd.underlying2) ?_
  refine J.op rfl rfl rfl (V.mv rfl rfl) ?_
  refine J.op rfl rfl rfl (V.ar rfl rfl rfl rfl) ?_
  refine J.op rfl rfl rfl (V.ar rfl rfl rfl rfl) ?_
  refine J.op rfl rfl rfl (V.as rfl rfl) ?_
  obtain ⟨t3, et3, h0⟩ := B.lt h0
  refine J.val (congrArg (Value.int .i64) et3) ?_
  refine J.nil ?_
  refine J.tN ?_
  refine J.ret ?_
  obtain rfl := B.e h0
  exact J.ret1 rfl rfl fun w H => ⟨(), rfl, H.pick [] (by decide)⟩

/-! ### impl.ValidStrip: function 12 -/
noncomputable def impl_ValidStrip.f (p0_s : impl_Strip) : Option (Bool) := (impl_areThirds.f (IntKind.wrap .i64 p0_s.First)).bind fun r3 => bif r3 then ((impl_within.f (IntKind.wrap .i64 p0_s.Each) 1 9).bind fun r7 => bif r7 then ((impl_within.f (IntKind.wrap .i64 p0_s.Bands) 1 20).bind fun r11 => bif r11 then ((impl_Strip_light.f (⟨p0_s.First, p0_s.Each, p0_s.Bands⟩ : impl_Strip) (IntKind.wrap .i64 ((IntKind.wrap .i64 p0_s.Bands) - 1))).bind fun r15 => (some (decide (r15 ≤ 36))).bind fun t18 => some t18) else (some false)) else (some false)) else (some false)
set_option maxRecDepth 100000 in
theorem impl_ValidStrip.calls (p0_s : impl_Strip) (r : Bool) (w : World) (H0 : Own [] w w []) (h0 : impl_ValidStrip.f p0_s = some r) :
    Calls Tryd.prog 12 #[.agg #[.int .i8 p0_s.First, .int .i8 p0_s.Each, .int .i8 p0_s.Bands]] w (fun e w' => ∃ _ : Unit, e = .returned (.bool r) ∧ Own [] w w' []) := by
  unfold impl_ValidStrip.f at h0
  replace h0 := B.top h0
  refine calls_of_J (args := [.agg #[.int .i8 p0_s.First, .int .i8 p0_s.Each, .int .i8 p0_s.Bands]]) Tryd.func12 rfl Tryd.ntmps12 rfl [(0, .agg #[.int .i8 p0_s.First, .int .i8 p0_s.Each, .int .i8 p0_s.Bands])] rfl H0 ?_
  refine J.seq ?_
  refine J.region ?_
  refine J.box rfl rfl rfl rfl rfl (fun _ _ => rfl) fun b1 => ?_
  refine J.op rfl rfl rfl (V.as rfl rfl) ?_
  refine J.nil ?_
  refine J.tN ?_
  refine J.seq ?_
  refine J.region ?_
  refine J.op rfl rfl rfl (V.faB rfl rfl tf0_24) ?_
  refine J.op rfl rfl rfl (V.ldB 0 rfl rfl rfl Tryd.underlying22 ta22 rfl) ?_
  refine J.op rfl rfl rfl (V.conv rfl rfl Tryd.underlying22 Tryd.underlying2) ?_
  obtain ⟨r3, hr4, h0⟩ := B.bind h0
  refine J.clA (l := [.tmp 5]) [] [.blk b1 [.int .i8 p0_s.First, .int .i8 p0_s.Each, .int .i8 p0_s.Bands] 24] cf19 (wN rfl) rfl rfl rfl rfl rfl rfl (fun w H => impl_areThirds.calls (IntKind.wrap .i64 p0_s.First) r3 w (Own.refl w)  hr4) fun g5 => ?_
  refine J.op rfl rfl rfl (V.mv rfl rfl) ?_
  refine J.split 7 rfl (fun hB6 => ?_) (fun hB6 => ?_)
  · replace h0 := B.t hB6 h0
    refine J.opOn rfl rfl rfl rfl rfl (V.faB rfl rfl tf1_24) ?_
    refine J.opOn rfl rfl rfl rfl rfl (V.ldB 0 rfl rfl rfl Tryd.underlying22 ta22 rfl) ?_
    refine J.opOn rfl rfl rfl rfl rfl (V.conv rfl rfl Tryd.underlying22 Tryd.underlying2) ?_
    obtain ⟨r7, hr8, h0⟩ := B.bind h0
    refine J.clA (l := [.tmp 10, .const (.int .i64 1), .const (.int .i64 9)]) [] [.blk b1 [.int .i8 p0_s.First, .int .i8 p0_s.Each, .int .i8 p0_s.Bands] 24] cf20 (wY rfl rfl rfl) rfl rfl rfl rfl rfl rfl (fun w H => impl_within.calls (IntKind.wrap .i64 p0_s.Each) 1 9 r7 w (Own.refl w)  hr8) fun g9 => ?_
    refine J.op rfl rfl rfl (V.pkT rfl rfl rfl) ?_
    refine J.op rfl rfl rfl (V.mv rfl rfl) ?_
    refine J.split 13 rfl (fun hB10 => ?_) (fun hB10 => ?_)
    · replace h0 := B.t hB10 h0
      refine J.opOn rfl rfl rfl rfl rfl (V.faB rfl rfl tf2_24) ?_
      refine J.opOn rfl rfl rfl rfl rfl (V.ldB 0 rfl rfl rfl Tryd.underlying22 ta22 rfl) ?_
      refine J.opOn rfl rfl rfl rfl rfl (V.conv rfl rfl Tryd.underlying22 Tryd.underlying2) ?_
      obtain ⟨r11, hr12, h0⟩ := B.bind h0
      refine J.clA (l := [.tmp 16, .const (.int .i64 1), .const (.int .i64 20)]) [] [.blk b1 [.int .i8 p0_s.First, .int .i8 p0_s.Each, .int .i8 p0_s.Bands] 24] cf20 (wY rfl rfl rfl) rfl rfl rfl rfl rfl rfl (fun w H => impl_within.calls (IntKind.wrap .i64 p0_s.Bands) 1 20 r11 w (Own.refl w)  hr12) fun g13 => ?_
      refine J.op rfl rfl rfl (V.pkT rfl rfl rfl) ?_
      refine J.op rfl rfl rfl (V.mv rfl rfl) ?_
      refine J.split 19 rfl (fun hB14 => ?_) (fun hB14 => ?_)
      · replace h0 := B.t hB14 h0
        refine J.opOn rfl rfl rfl rfl rfl (V.ldW 0 rfl rfl rfl ts24 ta24 rfl) ?_
        refine J.opOn rfl rfl rfl rfl rfl (V.faB rfl rfl tf2_24) ?_
        refine J.opOn rfl rfl rfl rfl rfl (V.ldB 0 rfl rfl rfl Tryd.underlying22 ta22 rfl) ?_
        refine J.opOn rfl rfl rfl rfl rfl (V.conv rfl rfl Tryd.underlying22 Tryd.underlying2) ?_
        refine J.opOn rfl rfl rfl rfl rfl (V.ar rfl rfl rfl rfl) ?_
        obtain ⟨r15, hr16, h0⟩ := B.bind h0
        refine J.clA (l := [.tmp 20, .tmp 24]) [] [.blk b1 [.int .i8 p0_s.First, .int .i8 p0_s.Each, .int .i8 p0_s.Bands] 24] cf21 (wY rfl rfl rfl) rfl rfl rfl rfl rfl rfl (fun w H => impl_Strip_light.calls (⟨p0_s.First, p0_s.Each, p0_s.Bands⟩ : impl_Strip) (IntKind.wrap .i64 ((IntKind.wrap .i64 p0_s.Bands) - 1)) r15 w (Own.refl w)  hr16) fun g17 => ?_
        refine J.opOn rfl rfl rfl rfl rfl (V.cmp rfl rfl rfl rfl) ?_
        refine J.op rfl rfl rfl (V.pkT rfl rfl rfl) ?_
        refine J.op rfl rfl rfl (V.as rfl rfl) ?_
        obtain ⟨t18, et18, h0⟩ := B.lt h0
        refine J.val (congrArg (Value.bool) et18) ?_
        refine J.nil ?_
        refine J.tN ?_
        refine J.ret ?_
        obtain rfl := B.e h0
        exact J.ret1 rfl rfl fun w H => ⟨(), rfl, H.pick [] (by decide)⟩
      · replace h0 := B.f hB14 h0
        refine J.opOff rfl rfl rfl rfl rfl rfl ?_
        refine J.opOff rfl rfl rfl rfl rfl rfl ?_
        refine J.opOff rfl rfl rfl rfl rfl rfl ?_
        refine J.opOff rfl rfl rfl rfl rfl rfl ?_
        refine J.opOff rfl rfl rfl rfl rfl rfl ?_
        refine J.opOff rfl rfl rfl rfl rfl rfl ?_
        refine J.opOff rfl rfl rfl rfl rfl rfl ?_
        refine J.op rfl rfl rfl (V.pkF rfl rfl rfl) ?_
        refine J.op rfl rfl rfl (V.as rfl rfl) ?_
        refine J.nil ?_
        refine J.tN ?_
        refine J.ret ?_
        obtain rfl := B.e h0
        exact J.ret1 rfl rfl fun w H => ⟨(), rfl, H.pick [] (by decide)⟩
    · replace h0 := B.f hB10 h0
      refine J.opOff rfl rfl rfl rfl rfl rfl ?_
      refine J.opOff rfl rfl rfl rfl rfl rfl ?_
      refine J.opOff rfl rfl rfl rfl rfl rfl ?_
      refine J.opOff rfl rfl rfl rfl rfl rfl ?_
      refine J.op rfl rfl rfl (V.pkF rfl rfl rfl) ?_
      refine J.op rfl rfl rfl (V.mv rfl rfl) ?_
      refine J.opOff rfl rfl rfl rfl rfl rfl ?_
      refine J.opOff rfl rfl rfl rfl rfl rfl ?_
      refine J.opOff rfl rfl rfl rfl rfl rfl ?_
      refine J.opOff rfl rfl rfl rfl rfl rfl ?_
      refine J.opOff rfl rfl rfl rfl rfl rfl ?_
      refine J.opOff rfl rfl rfl rfl rfl rfl ?_
      refine J.opOff rfl rfl rfl rfl rfl rfl ?_
      refine J.op rfl rfl rfl (V.pkF rfl rfl rfl) ?_
      refine J.op rfl rfl rfl (V.as rfl rfl) ?_
      refine J.nil ?_
      refine J.tN ?_
      refine J.ret ?_
      obtain rfl := B.e h0
      exact J.ret1 rfl rfl fun w H => ⟨(), rfl, H.pick [] (by decide)⟩
  · replace h0 := B.f hB6 h0
    refine J.opOff rfl rfl rfl rfl rfl rfl ?_
    refine J.opOff rfl rfl rfl rfl rfl rfl ?_
    refine J.opOff rfl rfl rfl rfl rfl rfl ?_
    refine J.opOff rfl rfl rfl rfl rfl rfl ?_
    refine J.op rfl rfl rfl (V.pkF rfl rfl rfl) ?_
    refine J.op rfl rfl rfl (V.mv rfl rfl) ?_
    refine J.opOff rfl rfl rfl rfl rfl rfl ?_
    refine J.opOff rfl rfl rfl rfl rfl rfl ?_
    refine J.opOff rfl rfl rfl rfl rfl rfl ?_
    refine J.opOff rfl rfl rfl rfl rfl rfl ?_
    refine J.op rfl rfl rfl (V.pkF rfl rfl rfl) ?_
    refine J.op rfl rfl rfl (V.mv rfl rfl) ?_
    refine J.opOff rfl rfl rfl rfl rfl rfl ?_
    refine J.opOff rfl rfl rfl rfl rfl rfl ?_
    refine J.opOff rfl rfl rfl rfl rfl rfl ?_
    refine J.opOff rfl rfl rfl rfl rfl rfl ?_
    refine J.opOff rfl rfl rfl rfl rfl rfl ?_
    refine J.opOff rfl rfl rfl rfl rfl rfl ?_
    refine J.opOff rfl rfl rfl rfl rfl rfl ?_
    refine J.op rfl rfl rfl (V.pkF rfl rfl rfl) ?_
    refine J.op rfl rfl rfl (V.as rfl rfl) ?_
    refine J.nil ?_
    refine J.tN ?_
    refine J.ret ?_
    obtain rfl := B.e h0
    exact J.ret1 rfl rfl fun w H => ⟨(), rfl, H.pick [] (by decide)⟩

end Go.Proofs.YthpaonmddfibpaaDoor
