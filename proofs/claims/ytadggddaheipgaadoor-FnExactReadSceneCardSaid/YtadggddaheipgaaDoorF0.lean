/- Go functions as Lean functions, and that each call of theirs comes to just that: by a program written for this work (walk.py). No condition. -/
import Derived.Test.YtadggddaheipgaaDoorT
namespace Go.Proofs.YtadggddaheipgaaDoor
open Go Go.RowKit G
set_option linter.unusedVariables false

/-! ### spec.l01Split: function 15 -/
noncomputable def spec_l01Split.b1 (p0_text : ByteArray) (p1_by : Int) : (Int × Int × (List ByteArray)) → Option (Step (Int × Int × (List ByteArray)) (Int × (List ByteArray))) := fun s3 => bif (decide (s3.2.1 < (p0_text.size : Int))) then (bif (inB s3.2.1 p0_text.size) then (bif ((rdT p0_text s3.2.1) == p1_by) then (bif (inS s3.1 s3.2.1 p0_text.size) then (bif (roomB s3.2.2.length 1 16) then ((some (IntKind.wrap .i64 (s3.2.1 + 1))).bind fun begin_14 => (some (IntKind.wrap .i64 (s3.2.1 + 1))).bind fun i_15 => some (.next (begin_14, i_15, s3.2.2 ++ [subT p0_text s3.1 s3.2.1]))) else none) else none) else ((some (IntKind.wrap .i64 (s3.2.1 + 1))).bind fun i_16 => some (.next (s3.1, i_16, s3.2.2)))) else none) else (some (.done (s3.1, s3.2.2)))
noncomputable def spec_l01Split.f (p0_text : ByteArray) (p1_by : Int) : Option ((List ByteArray)) := (loopW (spec_l01Split.b1 p0_text p1_by) (0, 0, ([] : List ByteArray))).bind fun y17 => bif (inS y17.1 (p0_text.size : Int) p0_text.size) then (bif (roomB y17.2.length 1 16) then (some (y17.2 ++ [subT p0_text y17.1 (p0_text.size : Int)])) else none) else none
set_option maxRecDepth 100000 in
theorem spec_l01Split.calls (p0_text : ByteArray) (p1_by : Int) (r : (List ByteArray)) (w : World) (H0 : Own [] w w []) (h0 : spec_l01Split.f p0_text p1_by = some r) :
    Calls Tryd.prog 15 #[.string p0_text, .int .u8 p1_by] w (fun e w' => ∃ gh : Value, e = .returned (gh) ∧ Own [] w w' [.rowE gh 9 eT r]) := by
  unfold spec_l01Split.f at h0
  replace h0 := B.top h0
  refine calls_of_J (args := [.string p0_text, .int .u8 p1_by]) Tryd.func15 rfl Tryd.ntmps15 rfl [(0, .string p0_text), (1, .int .u8 p1_by)] rfl H0 ?_
  refine J.seq ?_
  refine J.region ?_
  refine J.op rfl rfl rfl (V.as rfl rfl) ?_
  refine J.nil ?_
  refine J.tN ?_
  refine J.seq ?_
  refine J.region ?_
  refine J.bs (l := []) (cs := []) (E := 9) rfl rfl rfl rfl rfl (fun w => by kernel_rfl) fun b1 => ?_
  refine J.op rfl rfl rfl (V.as rfl rfl) ?_
  refine J.nil ?_
  refine J.tN ?_
  refine J.seq ?_
  refine J.region ?_
  refine J.op rfl rfl rfl (V.as rfl rfl) ?_
  refine J.nil ?_
  refine J.tN ?_
  refine J.seq ?_
  refine J.seq ?_
  refine J.region ?_
  refine J.op rfl rfl rfl (V.as rfl rfl) ?_
  refine J.nil ?_
  refine J.tN ?_
  refine J.blkRowE eT ([] : List ByteArray) 0 rfl rfl rfl ?_
  obtain ⟨y17, hy19, h0⟩ := B.bind h0
  refine J.cutQ (γ := Value) (fun _ => True) (fun gy18 => [(0, .string p0_text), (5, gy18), (6, .int .i64 y17.1)]) (fun gy18 => [.rowE gy18 9 eT y17.2]) ?_ ?_
  · refine J.block ?_
    refine J.loop (γ := Value) hy19 (fun s3 g4 => [(0, .string p0_text), (1, .int .u8 p1_by), (5, g4), (6, .int .i64 s3.1), (7, .int .i64 s3.2.1)]) (fun s3 g4 => [.rowE g4 9 eT s3.2.2]) (.slice (some ⟨b1, 0, none⟩) 0 0) ?_ ?_
    · exact J.keep _ rfl (J.pickE [0] rfl rfl J.here)
    · intro rec5 s3 g4 h1
      unfold spec_l01Split.b1 at h1
      refine J.seq ?_
      refine J.seq ?_
      refine J.region ?_
      refine J.op rfl rfl rfl (V.mv rfl rfl) ?_
      refine J.op rfl rfl rfl (V.mv rfl rfl) ?_
      refine J.op rfl rfl rfl (V.lenT rfl rfl Tryd.underlying9) ?_
      refine J.op rfl rfl rfl (V.cmp rfl rfl rfl rfl) ?_
      refine J.nil ?_
      refine J.tN ?_
      refine J.cond rfl (fun hB6 => ?_) (fun hB6 => ?_)
      · replace h1 := B.t hB6 h1
        refine J.skip ?_
        refine J.tN ?_
        refine J.seq ?_
        refine J.block ?_
        refine J.seq ?_
        refine J.region ?_
        refine J.op rfl rfl rfl (V.mv rfl rfl) ?_
        refine J.op rfl rfl rfl (V.mv rfl rfl) ?_
        obtain ⟨hC7, h1⟩ := B.chk h1
        refine J.op rfl rfl rfl (V.ixT rfl rfl rfl Tryd.underlying9 hC7) ?_
        refine J.op rfl rfl rfl (V.mv rfl rfl) ?_
        refine J.op rfl rfl rfl (V.cmp rfl rfl rfl rfl) ?_
        refine J.nil ?_
        refine J.tN ?_
        refine J.cond rfl (fun hB8 => ?_) (fun hB8 => ?_)
        · replace h1 := B.t hB8 h1
          refine J.seq ?_
          refine J.region ?_
          refine J.op rfl rfl rfl (V.mv rfl rfl) ?_
          refine J.op rfl rfl rfl (V.mv rfl rfl) ?_
          refine J.op rfl rfl rfl (V.mv rfl rfl) ?_
          refine J.op rfl rfl rfl (V.mv rfl rfl) ?_
          obtain ⟨hC9, h1⟩ := B.chk h1
          refine J.op rfl rfl rfl (V.subT (L := some s3.1) (H := some s3.2.1) rfl rfl rfl rfl rfl rfl Tryd.underlying9 hC9) ?_
          refine J.bs (l := [(0, .tmp 24)]) (cs := [.string (subT p0_text s3.1 s3.2.1)]) (E := 9) rfl rfl rfl rfl rfl (fun w => by kernel_rfl) fun b10 => ?_
          obtain ⟨hC13, h1⟩ := B.chk h1
          obtain ⟨_, qi1, qi2, qi3, qi4⟩ := ti9
          refine J.ap1 (e := eT) (xs := s3.2.2) 1 0 (subT p0_text s3.1 s3.2.1) hC13 qi1 tl36 qi2 qi3 qi4 rfl rfl rfl rfl rfl rfl rfl rfl rfl rfl fun v12 => ?_
          refine J.op rfl rfl rfl (V.as rfl rfl) ?_
          refine J.nil ?_
          refine J.tN ?_
          refine J.region ?_
          refine J.op rfl rfl rfl (V.mv rfl rfl) ?_
          refine J.op rfl rfl rfl (V.ar rfl rfl rfl rfl) ?_
          refine J.op rfl rfl rfl (V.as rfl rfl) ?_
          obtain ⟨begin_14, ebegin_14, h1⟩ := B.lt h1
          refine J.val (congrArg (Value.int .i64) ebegin_14) ?_
          refine J.nil ?_
          refine J.bN ?_
          refine J.tN ?_
          refine J.region ?_
          refine J.op rfl rfl rfl (V.mv rfl rfl) ?_
          refine J.op rfl rfl rfl (V.ar rfl rfl rfl rfl) ?_
          refine J.op rfl rfl rfl (V.as rfl rfl) ?_
          obtain ⟨i_15, ei_15, h1⟩ := B.lt h1
          refine J.val (congrArg (Value.int .i64) ei_15) ?_
          refine J.nil ?_
          refine J.tN (J.next (begin_14, i_15, s3.2.2 ++ [subT p0_text s3.1 s3.2.1]) v12 (B.n h1) ?_)
          exact J.keep _ rfl (J.pickE [1] rfl rfl J.here)
        · replace h1 := B.f hB8 h1
          refine J.skip ?_
          refine J.bN ?_
          refine J.tN ?_
          refine J.region ?_
          refine J.op rfl rfl rfl (V.mv rfl rfl) ?_
          refine J.op rfl rfl rfl (V.ar rfl rfl rfl rfl) ?_
          refine J.op rfl rfl rfl (V.as rfl rfl) ?_
          obtain ⟨i_16, ei_16, h1⟩ := B.lt h1
          refine J.val (congrArg (Value.int .i64) ei_16) ?_
          refine J.nil ?_
          refine J.tN (J.next (s3.1, i_16, s3.2.2) g4 (B.n h1) ?_)
          exact J.keep _ rfl (J.pickE [0] rfl rfl J.here)
      · replace h1 := B.f hB6 h1
        refine J.exit ?_
        refine J.tE ?_
        refine J.tE ?_
        refine J.bE ?_
        obtain rfl := B.d h1
        refine J.tN (J.to g4 trivial ?_)
        exact J.keep _ rfl (J.pickE [0] rfl rfl J.here)
  · intro gy18 _
    refine J.tN ?_
    refine J.seq ?_
    refine J.region ?_
    refine J.op rfl rfl rfl (V.mv rfl rfl) ?_
    refine J.op rfl rfl rfl (V.mv rfl rfl) ?_
    refine J.op rfl rfl rfl (V.mv rfl rfl) ?_
    obtain ⟨hC20, h0⟩ := B.chk h0
    refine J.op rfl rfl rfl (V.subT (L := some y17.1) (H := none) rfl rfl rfl rfl rfl rfl Tryd.underlying9 hC20) ?_
    refine J.bs (l := [(0, .tmp 32)]) (cs := [.string (subT p0_text y17.1 (p0_text.size : Int))]) (E := 9) rfl rfl rfl rfl rfl (fun w => by kernel_rfl) fun b21 => ?_
    obtain ⟨hC24, h0⟩ := B.chk h0
    obtain ⟨_, qi1, qi2, qi3, qi4⟩ := ti9
    refine J.ap1 (e := eT) (xs := y17.2) 1 0 (subT p0_text y17.1 (p0_text.size : Int)) hC24 qi1 tl36 qi2 qi3 qi4 rfl rfl rfl rfl rfl rfl rfl rfl rfl rfl fun v23 => ?_
    refine J.op rfl rfl rfl (V.as rfl rfl) ?_
    refine J.nil ?_
    refine J.tN ?_
    refine J.ret ?_
    obtain rfl := B.e h0
    exact J.ret1 rfl rfl fun w H => ⟨v23, rfl, H.pick [1] (by decide)⟩

/-! ### spec.l01Number: function 16 -/
noncomputable def spec_l01Number.b1 (p0_s : ByteArray) : (Int × Int) → Option (Step (Int × Int) (Sum (Int) (Int × Bool))) := fun s9 => bif (decide (s9.2 < (p0_s.size : Int))) then ((bif (inB s9.2 p0_s.size) then (bif (decide ((rdT p0_s s9.2) < 48)) then (some true) else (bif (inB s9.2 p0_s.size) then (some (decide (57 < (rdT p0_s s9.2)))) else none)) else none : Option (Bool)).bind fun y13 => bif y13 then (some (.done (.inr (0, false)))) else (bif (inB s9.2 p0_s.size) then ((some (IntKind.wrap .i64 ((IntKind.wrap .i64 (10 * s9.1)) + (IntKind.wrap .i64 (IntKind.wrap .u8 ((rdT p0_s s9.2) - 48)))))).bind fun n_21 => (some (IntKind.wrap .i64 (s9.2 + 1))).bind fun i_22 => some (.next (n_21, i_22))) else none)) else (some (.done (.inl s9.1)))
noncomputable def spec_l01Number.f (p0_s : ByteArray) : Option (Int × Bool) := (bif (p0_s.toList == (⟨#[]⟩ : ByteArray).toList) then (some true) else (bif (decide (9 < (p0_s.size : Int))) then (some true) else (bif (inB 0 p0_s.size) then (bif ((rdT p0_s 0) == 48) then (some (decide (1 < (p0_s.size : Int)))) else (some false)) else none)) : Option (Bool)).bind fun y1 => bif y1 then (some (0, false)) else ((loopW (spec_l01Number.b1 p0_s) (0, 0)).bind (Sum.elim (fun y24 => some (y24, true)) (fun r => some r)))
set_option maxRecDepth 100000 in
theorem spec_l01Number.calls (p0_s : ByteArray) (r : Int × Bool) (w : World) (H0 : Own [] w w []) (h0 : spec_l01Number.f p0_s = some r) :
    Calls Tryd.prog 16 #[.string p0_s] w (fun e w' => ∃ _ : Unit, e = .returned (.tuple #[.int .i64 r.1, .bool r.2]) ∧ Own [] w w' []) := by
  unfold spec_l01Number.f at h0
  replace h0 := B.top h0
  refine calls_of_J (args := [.string p0_s]) Tryd.func16 rfl Tryd.ntmps16 rfl [(0, .string p0_s)] rfl H0 ?_
  refine J.seq ?_
  refine J.region ?_
  refine J.op rfl rfl rfl (V.as rfl rfl) ?_
  refine J.op rfl rfl rfl (V.as rfl rfl) ?_
  refine J.nil ?_
  refine J.tN ?_
  refine J.seq ?_
  refine J.seq ?_
  obtain ⟨y1, hy7, h0⟩ := B.bind h0
  replace hy7 := B.top hy7
  refine J.cut (γ := Unit) (fun _ => True) (fun gy2 => [(0, .string p0_s), (22, .bool y1)]) (fun gy2 => []) ?_ ?_
  · have h1 := hy7
    refine J.region ?_
    refine J.op rfl rfl rfl (V.mv rfl rfl) ?_
    refine J.op rfl rfl rfl (V.eqS rfl rfl rfl) ?_
    refine J.op rfl rfl rfl (V.mv rfl rfl) ?_
    refine J.split 8 rfl (fun hB3 => ?_) (fun hB3 => ?_)
    · replace h1 := B.t hB3 h1
      refine J.opOff rfl rfl rfl rfl rfl rfl ?_
      refine J.opOff rfl rfl rfl rfl rfl rfl ?_
      refine J.opOff rfl rfl rfl rfl rfl rfl ?_
      refine J.op rfl rfl rfl (V.pkT rfl rfl rfl) ?_
      refine J.op rfl rfl rfl (V.mv rfl rfl) ?_
      refine J.opOff rfl rfl rfl rfl rfl rfl ?_
      refine J.opOff rfl rfl rfl rfl rfl rfl ?_
      refine J.opOff rfl rfl rfl rfl rfl rfl ?_
      refine J.opOff rfl rfl rfl rfl rfl rfl ?_
      refine J.opOffU rfl rfl rfl rfl rfl ?_
      refine J.opOffU rfl rfl rfl rfl rfl ?_
      refine J.opOffU rfl rfl rfl rfl rfl ?_
      refine J.opOff rfl rfl rfl rfl rfl rfl ?_
      refine J.op rfl rfl rfl (V.pkT rfl rfl rfl) ?_
      refine J.nil ?_
      obtain rfl := B.e h1
      refine J.tN (J.to () trivial ?_)
      exact J.keep _ rfl (J.pickE [] rfl rfl J.here)
    · replace h1 := B.f hB3 h1
      refine J.opOn rfl rfl rfl rfl rfl (V.mv rfl rfl) ?_
      refine J.opOn rfl rfl rfl rfl rfl (V.lenT rfl rfl Tryd.underlying9) ?_
      refine J.opOn rfl rfl rfl rfl rfl (V.cmp rfl rfl rfl rfl) ?_
      refine J.op rfl rfl rfl (V.pkF rfl rfl rfl) ?_
      refine J.op rfl rfl rfl (V.mv rfl rfl) ?_
      refine J.split 13 rfl (fun hB4 => ?_) (fun hB4 => ?_)
      · replace h1 := B.t hB4 h1
        refine J.opOff rfl rfl rfl rfl rfl rfl ?_
        refine J.opOff rfl rfl rfl rfl rfl rfl ?_
        refine J.opOff rfl rfl rfl rfl rfl rfl ?_
        refine J.opOff rfl rfl rfl rfl rfl rfl ?_
        refine J.opOffU rfl rfl rfl rfl rfl ?_
        refine J.opOffU rfl rfl rfl rfl rfl ?_
        refine J.opOffU rfl rfl rfl rfl rfl ?_
        refine J.opOff rfl rfl rfl rfl rfl rfl ?_
        refine J.op rfl rfl rfl (V.pkT rfl rfl rfl) ?_
        refine J.nil ?_
        obtain rfl := B.e h1
        refine J.tN (J.to () trivial ?_)
        exact J.keep _ rfl (J.pickE [] rfl rfl J.here)
      · replace h1 := B.f hB4 h1
        refine J.opOn rfl rfl rfl rfl rfl (V.mv rfl rfl) ?_
        obtain ⟨hC5, h1⟩ := B.chk h1
        refine J.opOn rfl rfl rfl rfl rfl (V.ixT rfl rfl rfl Tryd.underlying9 hC5) ?_
        refine J.opOn rfl rfl rfl rfl rfl (V.cmp rfl rfl rfl rfl) ?_
        refine J.opOn rfl rfl rfl rfl rfl (V.mv rfl rfl) ?_
        refine J.split 17 rfl (fun hB6 => ?_) (fun hB6 => ?_)
        · replace h1 := B.t hB6 h1
          refine J.opOn rfl rfl rfl rfl rfl (V.mv rfl rfl) ?_
          refine J.opOn rfl rfl rfl rfl rfl (V.lenT rfl rfl Tryd.underlying9) ?_
          refine J.opOn rfl rfl rfl rfl rfl (V.cmp rfl rfl rfl rfl) ?_
          refine J.opOn rfl rfl rfl rfl rfl (V.pkT rfl rfl rfl) ?_
          refine J.op rfl rfl rfl (V.pkF rfl rfl rfl) ?_
          refine J.nil ?_
          obtain rfl := B.e h1
          refine J.tN (J.to () trivial ?_)
          exact J.keep _ rfl (J.pickE [] rfl rfl J.here)
        · replace h1 := B.f hB6 h1
          refine J.opOff rfl rfl rfl rfl rfl rfl ?_
          refine J.opOff rfl rfl rfl rfl rfl rfl ?_
          refine J.opOff rfl rfl rfl rfl rfl rfl ?_
          refine J.opOn rfl rfl rfl rfl rfl (V.pkF rfl rfl rfl) ?_
          refine J.op rfl rfl rfl (V.pkF rfl rfl rfl) ?_
          refine J.nil ?_
          obtain rfl := B.e h1
          refine J.tN (J.to () trivial ?_)
          exact J.keep _ rfl (J.pickE [] rfl rfl J.here)
  · intro gy2 _
    refine J.cond rfl (fun hB8 => ?_) (fun hB8 => ?_)
    · replace h0 := B.t hB8 h0
      refine J.seq ?_
      refine J.region ?_
      refine J.op rfl rfl rfl (V.as rfl rfl) ?_
      refine J.op rfl rfl rfl (V.as rfl rfl) ?_
      refine J.nil ?_
      refine J.tN ?_
      refine J.ret ?_
      refine J.tR ?_
      obtain rfl := B.e h0
      exact J.ret2 rfl rfl rfl fun w H => ⟨(), rfl, H.pick [] (by decide)⟩
    · replace h0 := B.f hB8 h0
      refine J.skip ?_
      refine J.tN ?_
      refine J.seq ?_
      refine J.region ?_
      refine J.op rfl rfl rfl (V.as rfl rfl) ?_
      refine J.nil ?_
      refine J.tN ?_
      refine J.seq ?_
      refine J.seq ?_
      refine J.region ?_
      refine J.op rfl rfl rfl (V.as rfl rfl) ?_
      refine J.nil ?_
      refine J.tN ?_
      obtain ⟨o26, hy25, h0⟩ := B.bind h0
      refine J.cutQ (γ := (Int) × (Unit)) (fun gy24 => o26 = .inl gy24.1) (fun gy24 => [(4, .int .i64 gy24.1)]) (fun gy24 => []) ?_ ?_
      · refine J.block ?_
        refine J.loop (γ := Unit) hy25 (fun s9 g10 => [(0, .string p0_s), (4, .int .i64 s9.1), (5, .int .i64 s9.2)]) (fun s9 g10 => []) () ?_ ?_
        · exact J.keep _ rfl (J.pickE [] rfl rfl J.here)
        · intro rec11 s9 g10 h1
          unfold spec_l01Number.b1 at h1
          refine J.seq ?_
          refine J.seq ?_
          refine J.region ?_
          refine J.op rfl rfl rfl (V.mv rfl rfl) ?_
          refine J.op rfl rfl rfl (V.mv rfl rfl) ?_
          refine J.op rfl rfl rfl (V.lenT rfl rfl Tryd.underlying9) ?_
          refine J.op rfl rfl rfl (V.cmp rfl rfl rfl rfl) ?_
          refine J.nil ?_
          refine J.tN ?_
          refine J.cond rfl (fun hB12 => ?_) (fun hB12 => ?_)
          · replace h1 := B.t hB12 h1
            refine J.skip ?_
            refine J.tN ?_
            refine J.seq ?_
            refine J.block ?_
            refine J.seq ?_
            refine J.seq ?_
            obtain ⟨y13, hy18, h1⟩ := B.bind h1
            replace hy18 := B.top hy18
            refine J.cut (γ := Unit) (fun _ => True) (fun gy14 => [(0, .string p0_s), (4, .int .i64 s9.1), (5, .int .i64 s9.2), (38, .bool y13)]) (fun gy14 => []) ?_ ?_
            · have h2 := hy18
              refine J.region ?_
              refine J.op rfl rfl rfl (V.mv rfl rfl) ?_
              refine J.op rfl rfl rfl (V.mv rfl rfl) ?_
              obtain ⟨hC15, h2⟩ := B.chk h2
              refine J.op rfl rfl rfl (V.ixT rfl rfl rfl Tryd.underlying9 hC15) ?_
              refine J.op rfl rfl rfl (V.cmp rfl rfl rfl rfl) ?_
              refine J.op rfl rfl rfl (V.mv rfl rfl) ?_
              refine J.split 33 rfl (fun hB16 => ?_) (fun hB16 => ?_)
              · replace h2 := B.t hB16 h2
                refine J.opOff rfl rfl rfl rfl rfl rfl ?_
                refine J.opOff rfl rfl rfl rfl rfl rfl ?_
                refine J.opOff rfl rfl rfl rfl rfl rfl ?_
                refine J.opOff rfl rfl rfl rfl rfl rfl ?_
                refine J.op rfl rfl rfl (V.pkT rfl rfl rfl) ?_
                refine J.nil ?_
                obtain rfl := B.e h2
                refine J.tN (J.to () trivial ?_)
                exact J.keep _ rfl (J.pickE [] rfl rfl J.here)
              · replace h2 := B.f hB16 h2
                refine J.opOn rfl rfl rfl rfl rfl (V.mv rfl rfl) ?_
                refine J.opOn rfl rfl rfl rfl rfl (V.mv rfl rfl) ?_
                obtain ⟨hC17, h2⟩ := B.chk h2
                refine J.opOn rfl rfl rfl rfl rfl (V.ixT rfl rfl rfl Tryd.underlying9 hC17) ?_
                refine J.opOn rfl rfl rfl rfl rfl (V.cmp rfl rfl rfl rfl) ?_
                refine J.op rfl rfl rfl (V.pkF rfl rfl rfl) ?_
                refine J.nil ?_
                obtain rfl := B.e h2
                refine J.tN (J.to () trivial ?_)
                exact J.keep _ rfl (J.pickE [] rfl rfl J.here)
            · intro gy14 _
              refine J.cond rfl (fun hB19 => ?_) (fun hB19 => ?_)
              · replace h1 := B.t hB19 h1
                refine J.seq ?_
                refine J.region ?_
                refine J.op rfl rfl rfl (V.as rfl rfl) ?_
                refine J.op rfl rfl rfl (V.as rfl rfl) ?_
                refine J.nil ?_
                refine J.tN ?_
                refine J.ret ?_
                refine J.tR ?_
                refine J.bR ?_
                refine J.tR ?_
                refine J.tR ?_
                refine J.bR ?_
                refine J.tR ?_
                refine J.tR ?_
                obtain rfl := B.d h1
                replace h0 := B.inr h0
                obtain rfl := B.e h0
                exact J.ret2 rfl rfl rfl fun w H => ⟨(), rfl, H.pick [] (by decide)⟩
              · replace h1 := B.f hB19 h1
                refine J.skip ?_
                refine J.tN ?_
                refine J.region ?_
                refine J.op rfl rfl rfl (V.mv rfl rfl) ?_
                refine J.op rfl rfl rfl (V.ar rfl rfl rfl rfl) ?_
                refine J.op rfl rfl rfl (V.mv rfl rfl) ?_
                refine J.op rfl rfl rfl (V.mv rfl rfl) ?_
                obtain ⟨hC20, h1⟩ := B.chk h1
                refine J.op rfl rfl rfl (V.ixT rfl rfl rfl Tryd.underlying9 hC20) ?_
                refine J.op rfl rfl rfl (V.ar rfl rfl rfl rfl) ?_
                refine J.op rfl rfl rfl (V.conv rfl rfl Tryd.underlying5 Tryd.underlying2) ?_
                refine J.op rfl rfl rfl (V.ar rfl rfl rfl rfl) ?_
                refine J.op rfl rfl rfl (V.as rfl rfl) ?_
                obtain ⟨n_21, en_21, h1⟩ := B.lt h1
                refine J.val (congrArg (Value.int .i64) en_21) ?_
                refine J.nil ?_
                refine J.bN ?_
                refine J.tN ?_
                refine J.region ?_
                refine J.op rfl rfl rfl (V.mv rfl rfl) ?_
                refine J.op rfl rfl rfl (V.ar rfl rfl rfl rfl) ?_
                refine J.op rfl rfl rfl (V.as rfl rfl) ?_
                obtain ⟨i_22, ei_22, h1⟩ := B.lt h1
                refine J.val (congrArg (Value.int .i64) ei_22) ?_
                refine J.nil ?_
                refine J.tN (J.next (n_21, i_22) () (B.n h1) ?_)
                exact J.keep _ rfl (J.pickE [] rfl rfl J.here)
          · replace h1 := B.f hB12 h1
            refine J.exit ?_
            refine J.tE ?_
            refine J.tE ?_
            refine J.bE ?_
            obtain rfl := B.d h1
            refine J.tN (J.to (s9.1, ()) rfl ?_)
            exact J.keep _ rfl (J.pickE [] rfl rfl J.here)
      · intro gy24 hG
        replace h0 := B.inl hG h0
        refine J.tN ?_
        refine J.seq ?_
        refine J.region ?_
        refine J.op rfl rfl rfl (V.mv rfl rfl) ?_
        refine J.op rfl rfl rfl (V.as rfl rfl) ?_
        refine J.op rfl rfl rfl (V.as rfl rfl) ?_
        refine J.nil ?_
        refine J.tN ?_
        refine J.ret ?_
        obtain rfl := B.e h0
        exact J.ret2 rfl rfl rfl fun w H => ⟨(), rfl, H.pick [] (by decide)⟩

/-! ### spec.l00In: function 27 -/
noncomputable def spec_l00In.f (p0_n : Int) (p1_low : Int) (p2_high : Int) : Option (Bool) := bif (decide (p1_low ≤ p0_n)) then ((some (decide (p0_n ≤ p2_high))).bind fun t2 => some t2) else (some false)
set_option maxRecDepth 100000 in
theorem spec_l00In.calls (p0_n : Int) (p1_low : Int) (p2_high : Int) (r : Bool) (w : World) (H0 : Own [] w w []) (h0 : spec_l00In.f p0_n p1_low p2_high = some r) :
    Calls Tryd.prog 27 #[.int .i64 p0_n, .int .i64 p1_low, .int .i64 p2_high] w (fun e w' => ∃ _ : Unit, e = .returned (.bool r) ∧ Own [] w w' []) := by
  unfold spec_l00In.f at h0
  replace h0 := B.top h0
  refine calls_of_J (args := [.int .i64 p0_n, .int .i64 p1_low, .int .i64 p2_high]) Tryd.func27 rfl Tryd.ntmps27 rfl [(0, .int .i64 p0_n), (1, .int .i64 p1_low), (2, .int .i64 p2_high)] rfl H0 ?_
  refine J.seq ?_
  refine J.region ?_
  refine J.op rfl rfl rfl (V.as rfl rfl) ?_
  refine J.nil ?_
  refine J.tN ?_
  refine J.seq ?_
  refine J.region ?_
  refine J.op rfl rfl rfl (V.mv rfl rfl) ?_
  refine J.op rfl rfl rfl (V.mv rfl rfl) ?_
  refine J.op rfl rfl rfl (V.cmp rfl rfl rfl rfl) ?_
  refine J.op rfl rfl rfl (V.mv rfl rfl) ?_
  refine J.split 10 rfl (fun hB1 => ?_) (fun hB1 => ?_)
  · replace h0 := B.t hB1 h0
    refine J.opOn rfl rfl rfl rfl rfl (V.mv rfl rfl) ?_
    refine J.opOn rfl rfl rfl rfl rfl (V.mv rfl rfl) ?_
    refine J.opOn rfl rfl rfl rfl rfl (V.cmp rfl rfl rfl rfl) ?_
    refine J.op rfl rfl rfl (V.pkT rfl rfl rfl) ?_
    refine J.op rfl rfl rfl (V.as rfl rfl) ?_
    obtain ⟨t2, et2, h0⟩ := B.lt h0
    refine J.val (congrArg (Value.bool) et2) ?_
    refine J.nil ?_
    refine J.tN ?_
    refine J.ret ?_
    obtain rfl := B.e h0
    exact J.ret1 rfl rfl fun w H => ⟨(), rfl, H.pick [] (by decide)⟩
  · replace h0 := B.f hB1 h0
    refine J.opOff rfl rfl rfl rfl rfl rfl ?_
    refine J.opOff rfl rfl rfl rfl rfl rfl ?_
    refine J.opOff rfl rfl rfl rfl rfl rfl ?_
    refine J.op rfl rfl rfl (V.pkF rfl rfl rfl) ?_
    refine J.op rfl rfl rfl (V.as rfl rfl) ?_
    refine J.nil ?_
    refine J.tN ?_
    refine J.ret ?_
    obtain rfl := B.e h0
    exact J.ret1 rfl rfl fun w H => ⟨(), rfl, H.pick [] (by decide)⟩

/-! ### spec.l06Reading: function 17 -/
noncomputable def spec_l06Reading.f (p0_n : Int) : Option (Bool) := (spec_l00In.f p0_n 0 60).bind fun r1 => some r1
set_option maxRecDepth 100000 in
theorem spec_l06Reading.calls (p0_n : Int) (r : Bool) (w : World) (H0 : Own [] w w []) (h0 : spec_l06Reading.f p0_n = some r) :
    Calls Tryd.prog 17 #[.int .i64 p0_n] w (fun e w' => ∃ _ : Unit, e = .returned (.bool r) ∧ Own [] w w' []) := by
  unfold spec_l06Reading.f at h0
  replace h0 := B.top h0
  refine calls_of_J (args := [.int .i64 p0_n]) Tryd.func17 rfl Tryd.ntmps17 rfl [(0, .int .i64 p0_n)] rfl H0 ?_
  refine J.seq ?_
  refine J.region ?_
  refine J.op rfl rfl rfl (V.as rfl rfl) ?_
  refine J.nil ?_
  refine J.tN ?_
  refine J.seq ?_
  refine J.region ?_
  refine J.op rfl rfl rfl (V.mv rfl rfl) ?_
  obtain ⟨r1, hr2, h0⟩ := B.bind h0
  refine J.clA (l := [.tmp 3, .const (.int .i64 0), .const (.int .i64 60)]) [] [] cf27 (wN rfl) rfl rfl rfl rfl rfl rfl (fun w H => spec_l00In.calls p0_n 0 60 r1 w (Own.refl w)  hr2) fun g3 => ?_
  refine J.op rfl rfl rfl (V.as rfl rfl) ?_
  refine J.nil ?_
  refine J.tN ?_
  refine J.ret ?_
  obtain rfl := B.e h0
  exact J.ret1 rfl rfl fun w H => ⟨(), rfl, H.pick [] (by decide)⟩

/-! ### spec.ReadScene: function 8 -/
noncomputable def spec_ReadScene.b2 (s11 : Int × (Vector Int 24)) (r16 : (List ByteArray)) : (Int × (Vector Int 24)) → Option (Step (Int × (Vector Int 24)) (Sum ((Vector Int 24)) ((Vector Int 24) × Int))) := fun s22 => bif (decide (s22.1 < (r16.length : Int))) then (bif (inB s22.1 r16.length) then ((spec_l01Number.f (rd eT r16 s22.1)).bind fun r27 => (bif (!r27.2) then (some true) else ((spec_l06Reading.f r27.1).bind fun r33 => some (!r33)) : Option (Bool)).bind fun y30 => bif y30 then ((some (zA 24)).bind fun m38 => some (.done (.inr (m38, 5)))) else (bif (inB (IntKind.wrap .i64 (s22.1 + (IntKind.wrap .i64 (6 * s11.1)))) 24) then ((some (wrA s22.2 (IntKind.wrap .i64 (s22.1 + (IntKind.wrap .i64 (6 * s11.1)))) (IntKind.wrap .i8 r27.1))).bind fun m40 => (some (IntKind.wrap .i64 (s22.1 + 1))).bind fun x_41 => some (.next (x_41, m40))) else none)) else none) else (some (.done (.inl s22.2)))
noncomputable def spec_ReadScene.b1 (r3 : (List ByteArray)) : (Int × (Vector Int 24)) → Option (Step (Int × (Vector Int 24)) (Sum ((Vector Int 24)) ((Vector Int 24) × Int))) := fun s11 => bif (decide (s11.1 < (r3.length : Int))) then (bif (inB s11.1 r3.length) then ((spec_l01Split.f (rd eT r3 s11.1) 32).bind fun r16 => bif ((r16.length : Int) != 6) then ((some (zA 24)).bind fun m21 => some (.done (.inr (m21, 5)))) else ((loopW (spec_ReadScene.b2 s11 r16) (0, s11.2)).bind (Sum.elim (fun y43 => (some (IntKind.wrap .i64 (s11.1 + 1))).bind fun y_46 => some (.next (y_46, y43))) (fun r => some (.done (.inr r)))))) else none) else (some (.done (.inl s11.2)))
noncomputable def spec_ReadScene.f (p0_text : ByteArray) : Option ((Vector Int 24) × Int) := (spec_l01Split.f p0_text 47).bind fun r3 => (some (zA 24)).bind fun m9 => bif ((r3.length : Int) != 4) then (some (m9, 5)) else ((loopW (spec_ReadScene.b1 r3) (0, m9)).bind (Sum.elim (fun y48 => some (y48, 0)) (fun r => some r)))
set_option maxRecDepth 100000 in
theorem spec_ReadScene.calls (p0_text : ByteArray) (r : (Vector Int 24) × Int) (w : World) (H0 : Own [] w w []) (h0 : spec_ReadScene.f p0_text = some r) :
    Calls Tryd.prog 8 #[.string p0_text] w (fun e w' => ∃ _ : Unit, e = .returned (.tuple #[.agg (encA .i8 r.1).toArray, .int .i64 r.2]) ∧ Own [] w w' []) := by
  unfold spec_ReadScene.f at h0
  replace h0 := B.top h0
  refine calls_of_J (args := [.string p0_text]) Tryd.func8 rfl Tryd.ntmps8 rfl [(0, .string p0_text)] rfl H0 ?_
  refine J.seq ?_
  refine J.region ?_
  refine J.alloc rfl rfl rfl rfl tz25 rfl fun b1 => ?_
  refine J.op rfl rfl rfl (V.as rfl rfl) ?_
  refine J.nil ?_
  refine J.tN ?_
  refine J.seq ?_
  refine J.region ?_
  refine J.op rfl rfl rfl (V.mv rfl rfl) ?_
  obtain ⟨r3, hr4, h0⟩ := B.bind h0
  refine J.clA (l := [.tmp 11, .const (.int .u8 47)]) [] [.blk b1 (encA .i8 (zA 24)) 25] cf15 (wN rfl) rfl rfl rfl rfl rfl rfl (fun w H => spec_l01Split.calls p0_text 47 r3 w (Own.refl w)  hr4) fun g5 => ?_
  refine J.op rfl rfl rfl (V.as rfl rfl) ?_
  refine J.nil ?_
  refine J.tN ?_
  refine J.seq ?_
  refine J.region ?_
  refine J.op rfl rfl rfl (V.bd (l := []) (v := .agg (encA .i8 (zA 24)).toArray) rfl rfl (fun w H => by kernel_rfl)) ?_
  refine J.alloc rfl rfl rfl rfl tz25 rfl fun b7 => ?_
  refine J.stW (cs' := encA .i8 (zA 24)) 0 rfl rfl rfl rfl rfl rfl ts25 rfl (fun _ _ => encA_one .i8 _) (encA_len _ _) (encA_len _ _) ?_
  obtain ⟨m9, em9, h0⟩ := B.lt h0
  refine J.setEnt 0 rfl (congrArg (fun q => Ent.blk _ (encA .i8 q) _) em9) ?_
  refine J.nil ?_
  refine J.tN ?_
  refine J.seq ?_
  refine J.seq ?_
  refine J.region ?_
  refine J.op rfl rfl rfl (V.mv rfl rfl) ?_
  refine J.op rfl rfl rfl (V.lenR 1 rfl rfl rfl tl36) ?_
  refine J.op rfl rfl rfl (V.cmp rfl rfl rfl rfl) ?_
  refine J.nil ?_
  refine J.tN ?_
  refine J.cond rfl (fun hB10 => ?_) (fun hB10 => ?_)
  · replace h0 := B.t hB10 h0
    refine J.seq ?_
    refine J.region ?_
    refine J.op rfl rfl rfl (V.ldW 0 rfl rfl rfl ts25 ta25 (encA_len _ _)) ?_
    refine J.stW (cs' := encA .i8 m9) 2 rfl rfl rfl rfl rfl rfl ts25 rfl (fun _ _ => encA_one .i8 _) (encA_len _ _) (encA_len _ _) ?_
    refine J.op rfl rfl rfl (V.as rfl rfl) ?_
    refine J.nil ?_
    refine J.tN ?_
    refine J.ret ?_
    refine J.tR ?_
    obtain rfl := B.e h0
    exact J.retC_1 2 rfl rfl rfl ts25 ta25 (encA_len _ _) rfl fun w H => ⟨(), rfl, H.pick [] (by decide)⟩
  · replace h0 := B.f hB10 h0
    refine J.skip ?_
    refine J.tN ?_
    refine J.seq ?_
    refine J.seq ?_
    refine J.region ?_
    refine J.op rfl rfl rfl (V.as rfl rfl) ?_
    refine J.nil ?_
    refine J.tN ?_
    obtain ⟨o50, hy49, h0⟩ := B.bind h0
    refine J.cutQ (γ := ((Vector Int 24)) × (Unit)) (fun gy48 => o50 = .inl gy48.1) (fun gy48 => [(2, bp b1 0), (5, bp b7 0)]) (fun gy48 => [.blk b7 (encA .i8 gy48.1) 25, .rowE g5 9 eT r3, .blk b1 (encA .i8 (zA 24)) 25]) ?_ ?_
    · refine J.block ?_
      refine J.loop (γ := Unit) hy49 (fun s11 g12 => [(2, bp b1 0), (4, g5), (5, bp b7 0), (6, .int .i64 s11.1)]) (fun s11 g12 => [.blk b7 (encA .i8 s11.2) 25, .rowE g5 9 eT r3, .blk b1 (encA .i8 (zA 24)) 25]) () ?_ ?_
      · exact J.keep _ rfl (J.pickE [0, 1, 2] rfl rfl J.here)
      · intro rec13 s11 g12 h1
        unfold spec_ReadScene.b1 at h1
        refine J.seq ?_
        refine J.seq ?_
        refine J.region ?_
        refine J.op rfl rfl rfl (V.mv rfl rfl) ?_
        refine J.op rfl rfl rfl (V.mv rfl rfl) ?_
        refine J.op rfl rfl rfl (V.lenR 1 rfl rfl rfl tl36) ?_
        refine J.op rfl rfl rfl (V.cmp rfl rfl rfl rfl) ?_
        refine J.nil ?_
        refine J.tN ?_
        refine J.cond rfl (fun hB14 => ?_) (fun hB14 => ?_)
        · replace h1 := B.t hB14 h1
          refine J.skip ?_
          refine J.tN ?_
          refine J.seq ?_
          refine J.block ?_
          refine J.seq ?_
          refine J.region ?_
          refine J.op rfl rfl rfl (V.mv rfl rfl) ?_
          refine J.op rfl rfl rfl (V.mv rfl rfl) ?_
          obtain ⟨hC15, h1⟩ := B.chk h1
          refine J.op rfl rfl rfl (V.ixR 1 rfl rfl rfl rfl tl36 ts9 hC15) ?_
          refine J.op rfl rfl rfl (V.elR0 1 rfl hC15 rfl rfl Tryd.underlying9 ta9 rfl) ?_
          obtain ⟨r16, hr17, h1⟩ := B.bind h1
          refine J.clA (l := [.tmp 27, .const (.int .u8 32)]) [] [.blk b7 (encA .i8 s11.2) 25, .rowE g5 9 eT r3, .blk b1 (encA .i8 (zA 24)) 25] cf15 (wN rfl) rfl rfl rfl rfl rfl rfl (fun w H => spec_l01Split.calls (rd eT r3 s11.1) 32 r16 w (Own.refl w)  hr17) fun g18 => ?_
          refine J.op rfl rfl rfl (V.as rfl rfl) ?_
          refine J.nil ?_
          refine J.tN ?_
          refine J.seq ?_
          refine J.seq ?_
          refine J.region ?_
          refine J.op rfl rfl rfl (V.mv rfl rfl) ?_
          refine J.op rfl rfl rfl (V.lenR 0 rfl rfl rfl tl36) ?_
          refine J.op rfl rfl rfl (V.cmp rfl rfl rfl rfl) ?_
          refine J.nil ?_
          refine J.tN ?_
          refine J.cond rfl (fun hB20 => ?_) (fun hB20 => ?_)
          · replace h1 := B.t hB20 h1
            refine J.seq ?_
            refine J.region ?_
            refine J.op rfl rfl rfl (V.bd (l := []) (v := .agg (encA .i8 (zA 24)).toArray) rfl rfl (fun w H => by kernel_rfl)) ?_
            refine J.stW (cs' := encA .i8 (zA 24)) 3 rfl rfl rfl rfl rfl rfl ts25 rfl (fun _ _ => encA_one .i8 _) (encA_len _ _) (encA_len _ _) ?_
            obtain ⟨m21, em21, h1⟩ := B.lt h1
            refine J.setEnt 3 rfl (congrArg (fun q => Ent.blk _ (encA .i8 q) _) em21) ?_
            refine J.op rfl rfl rfl (V.as rfl rfl) ?_
            refine J.nil ?_
            refine J.tN ?_
            refine J.ret ?_
            refine J.tR ?_
            refine J.bR ?_
            refine J.tR ?_
            refine J.tR ?_
            refine J.bR ?_
            refine J.tR ?_
            refine J.tR ?_
            obtain rfl := B.d h1
            replace h0 := B.inr h0
            obtain rfl := B.e h0
            exact J.retC_1 3 rfl rfl rfl ts25 ta25 (encA_len _ _) rfl fun w H => ⟨(), rfl, H.pick [] (by decide)⟩
          · replace h1 := B.f hB20 h1
            refine J.skip ?_
            refine J.tN ?_
            refine J.seq ?_
            refine J.region ?_
            refine J.op rfl rfl rfl (V.as rfl rfl) ?_
            refine J.nil ?_
            refine J.tN ?_
            obtain ⟨o45, hy44, h1⟩ := B.bind h1
            refine J.cutQ (γ := ((Vector Int 24)) × (Unit)) (fun gy43 => o45 = .inl gy43.1) (fun gy43 => [(2, bp b1 0), (4, g5), (5, bp b7 0), (6, .int .i64 s11.1)]) (fun gy43 => [.rowE g18 9 eT r16, .blk b7 (encA .i8 gy43.1) 25, .rowE g5 9 eT r3, .blk b1 (encA .i8 (zA 24)) 25]) ?_ ?_
            · refine J.block ?_
              refine J.loop (γ := Unit) hy44 (fun s22 g23 => [(2, bp b1 0), (4, g5), (5, bp b7 0), (6, .int .i64 s11.1), (7, g18), (8, .int .i64 s22.1)]) (fun s22 g23 => [.rowE g18 9 eT r16, .blk b7 (encA .i8 s22.2) 25, .rowE g5 9 eT r3, .blk b1 (encA .i8 (zA 24)) 25]) () ?_ ?_
              · exact J.keep _ rfl (J.pickE [0, 1, 2, 3] rfl rfl J.here)
              · intro rec24 s22 g23 h2
                unfold spec_ReadScene.b2 at h2
                refine J.seq ?_
                refine J.seq ?_
                refine J.region ?_
                refine J.op rfl rfl rfl (V.mv rfl rfl) ?_
                refine J.op rfl rfl rfl (V.mv rfl rfl) ?_
                refine J.op rfl rfl rfl (V.lenR 0 rfl rfl rfl tl36) ?_
                refine J.op rfl rfl rfl (V.cmp rfl rfl rfl rfl) ?_
                refine J.nil ?_
                refine J.tN ?_
                refine J.cond rfl (fun hB25 => ?_) (fun hB25 => ?_)
                · replace h2 := B.t hB25 h2
                  refine J.skip ?_
                  refine J.tN ?_
                  refine J.seq ?_
                  refine J.block ?_
                  refine J.seq ?_
                  refine J.region ?_
                  refine J.op rfl rfl rfl (V.mv rfl rfl) ?_
                  refine J.op rfl rfl rfl (V.mv rfl rfl) ?_
                  obtain ⟨hC26, h2⟩ := B.chk h2
                  refine J.op rfl rfl rfl (V.ixR 0 rfl rfl rfl rfl tl36 ts9 hC26) ?_
                  refine J.op rfl rfl rfl (V.elR0 0 rfl hC26 rfl rfl Tryd.underlying9 ta9 rfl) ?_
                  obtain ⟨r27, hr28, h2⟩ := B.bind h2
                  refine J.clA (l := [.tmp 43]) [] [.rowE g18 9 eT r16, .blk b7 (encA .i8 s22.2) 25, .rowE g5 9 eT r3, .blk b1 (encA .i8 (zA 24)) 25] cf16 (wN rfl) rfl rfl rfl rfl rfl rfl (fun w H => spec_l01Number.calls (rd eT r16 s22.1) r27 w (Own.refl w)  hr28) fun g29 => ?_
                  refine J.op rfl rfl rfl (V.mv rfl rfl) ?_
                  refine J.op rfl rfl rfl (V.ex rfl rfl rfl) ?_
                  refine J.op rfl rfl rfl (V.ex rfl rfl rfl) ?_
                  refine J.op rfl rfl rfl (V.as rfl rfl) ?_
                  refine J.op rfl rfl rfl (V.as rfl rfl) ?_
                  refine J.nil ?_
                  refine J.tN ?_
                  refine J.seq ?_
                  refine J.seq ?_
                  obtain ⟨y30, hy36, h2⟩ := B.bind h2
                  replace hy36 := B.top hy36
                  refine J.cut (γ := Unit) (fun _ => True) (fun gy31 => [(2, bp b1 0), (4, g5), (5, bp b7 0), (6, .int .i64 s11.1), (7, g18), (8, .int .i64 s22.1), (9, .int .i64 r27.1), (53, .bool y30)]) (fun gy31 => [.rowE g18 9 eT r16, .blk b7 (encA .i8 s22.2) 25, .rowE g5 9 eT r3, .blk b1 (encA .i8 (zA 24)) 25]) ?_ ?_
                  · have h3 := hy36
                    refine J.region ?_
                    refine J.op rfl rfl rfl (V.mv rfl rfl) ?_
                    refine J.op rfl rfl rfl (V.nt rfl rfl) ?_
                    refine J.op rfl rfl rfl (V.mv rfl rfl) ?_
                    refine J.split 49 rfl (fun hB32 => ?_) (fun hB32 => ?_)
                    · replace h3 := B.t hB32 h3
                      refine J.opOff rfl rfl rfl rfl rfl rfl ?_
                      refine J.opOff rfl rfl rfl rfl rfl rfl ?_
                      refine J.opOff rfl rfl rfl rfl rfl rfl ?_
                      refine J.op rfl rfl rfl (V.pkT rfl rfl rfl) ?_
                      refine J.nil ?_
                      obtain rfl := B.e h3
                      refine J.tN (J.to () trivial ?_)
                      exact J.keep _ rfl (J.pickE [0, 1, 2, 3] rfl rfl J.here)
                    · replace h3 := B.f hB32 h3
                      refine J.opOn rfl rfl rfl rfl rfl (V.mv rfl rfl) ?_
                      obtain ⟨r33, hr34, h3⟩ := B.bind h3
                      refine J.clA (l := [.tmp 50]) [] [.rowE g18 9 eT r16, .blk b7 (encA .i8 s22.2) 25, .rowE g5 9 eT r3, .blk b1 (encA .i8 (zA 24)) 25] cf17 (wY rfl rfl rfl) rfl rfl rfl rfl rfl rfl (fun w H => spec_l06Reading.calls r27.1 r33 w (Own.refl w)  hr34) fun g35 => ?_
                      refine J.opOn rfl rfl rfl rfl rfl (V.nt rfl rfl) ?_
                      refine J.op rfl rfl rfl (V.pkF rfl rfl rfl) ?_
                      refine J.nil ?_
                      obtain rfl := B.e h3
                      refine J.tN (J.to () trivial ?_)
                      exact J.keep _ rfl (J.pickE [0, 1, 2, 3] rfl rfl J.here)
                  · intro gy31 _
                    refine J.cond rfl (fun hB37 => ?_) (fun hB37 => ?_)
                    · replace h2 := B.t hB37 h2
                      refine J.seq ?_
                      refine J.region ?_
                      refine J.op rfl rfl rfl (V.bd (l := []) (v := .agg (encA .i8 (zA 24)).toArray) rfl rfl (fun w H => by kernel_rfl)) ?_
                      refine J.stW (cs' := encA .i8 (zA 24)) 3 rfl rfl rfl rfl rfl rfl ts25 rfl (fun _ _ => encA_one .i8 _) (encA_len _ _) (encA_len _ _) ?_
                      obtain ⟨m38, em38, h2⟩ := B.lt h2
                      refine J.setEnt 3 rfl (congrArg (fun q => Ent.blk _ (encA .i8 q) _) em38) ?_
                      refine J.op rfl rfl rfl (V.as rfl rfl) ?_
                      refine J.nil ?_
                      refine J.tN ?_
                      refine J.ret ?_
                      refine J.tR ?_
                      refine J.bR ?_
                      refine J.tR ?_
                      refine J.tR ?_
                      refine J.bR ?_
                      refine J.tR ?_
                      refine J.bR ?_
                      refine J.tR ?_
                      refine J.tR ?_
                      refine J.bR ?_
                      refine J.tR ?_
                      refine J.tR ?_
                      obtain rfl := B.d h2
                      replace h1 := B.inr h1
                      obtain rfl := B.d h1
                      replace h0 := B.inr h0
                      obtain rfl := B.e h0
                      exact J.retC_1 3 rfl rfl rfl ts25 ta25 (encA_len _ _) rfl fun w H => ⟨(), rfl, H.pick [] (by decide)⟩
                    · replace h2 := B.f hB37 h2
                      refine J.skip ?_
                      refine J.tN ?_
                      refine J.region ?_
                      refine J.op rfl rfl rfl (V.mv rfl rfl) ?_
                      refine J.op rfl rfl rfl (V.mv rfl rfl) ?_
                      refine J.op rfl rfl rfl (V.ar rfl rfl rfl rfl) ?_
                      refine J.op rfl rfl rfl (V.ar rfl rfl rfl rfl) ?_
                      refine J.op rfl rfl rfl (V.mv rfl rfl) ?_
                      refine J.op rfl rfl rfl (V.conv rfl rfl Tryd.underlying2 Tryd.underlying22) ?_
                      obtain ⟨hC39, h2⟩ := B.chk h2
                      refine J.op rfl rfl rfl (V.ixB rfl rfl rfl tr25 ts22 hC39) ?_
                      refine J.stB 1 rfl rfl rfl rfl rfl rfl ts22 (fun _ _ => rfl) (encA_lt .i8 _ hC39) ?_
                      refine J.setEnt 1 rfl (congrArg (fun q => Ent.blk _ q _) (encA_set .i8 _ _ _)) ?_
                      obtain ⟨m40, em40, h2⟩ := B.lt h2
                      refine J.setEnt 1 rfl (congrArg (fun q => Ent.blk _ (encA .i8 q) _) em40) ?_
                      refine J.nil ?_
                      refine J.bN ?_
                      refine J.tN ?_
                      refine J.region ?_
                      refine J.op rfl rfl rfl (V.mv rfl rfl) ?_
                      refine J.op rfl rfl rfl (V.ar rfl rfl rfl rfl) ?_
                      refine J.op rfl rfl rfl (V.as rfl rfl) ?_
                      obtain ⟨x_41, ex_41, h2⟩ := B.lt h2
                      refine J.val (congrArg (Value.int .i64) ex_41) ?_
                      refine J.nil ?_
                      refine J.tN (J.next (x_41, m40) () (B.n h2) ?_)
                      exact J.keep _ rfl (J.pickE [0, 1, 2, 3] rfl rfl J.here)
                · replace h2 := B.f hB25 h2
                  refine J.exit ?_
                  refine J.tE ?_
                  refine J.tE ?_
                  refine J.bE ?_
                  obtain rfl := B.d h2
                  refine J.tN (J.to (s22.2, ()) rfl ?_)
                  exact J.keep _ rfl (J.pickE [0, 1, 2, 3] rfl rfl J.here)
            · intro gy43 hG
              replace h1 := B.inl hG h1
              refine J.bN ?_
              refine J.tN ?_
              refine J.region ?_
              refine J.op rfl rfl rfl (V.mv rfl rfl) ?_
              refine J.op rfl rfl rfl (V.ar rfl rfl rfl rfl) ?_
              refine J.op rfl rfl rfl (V.as rfl rfl) ?_
              obtain ⟨y_46, ey_46, h1⟩ := B.lt h1
              refine J.val (congrArg (Value.int .i64) ey_46) ?_
              refine J.nil ?_
              refine J.tN (J.next (y_46, gy43.1) () (B.n h1) ?_)
              exact J.keep _ rfl (J.pickE [1, 2, 3] rfl rfl J.here)
        · replace h1 := B.f hB14 h1
          refine J.exit ?_
          refine J.tE ?_
          refine J.tE ?_
          refine J.bE ?_
          obtain rfl := B.d h1
          refine J.tN (J.to (s11.2, ()) rfl ?_)
          exact J.keep _ rfl (J.pickE [0, 1, 2] rfl rfl J.here)
    · intro gy48 hG
      replace h0 := B.inl hG h0
      refine J.tN ?_
      refine J.seq ?_
      refine J.region ?_
      refine J.op rfl rfl rfl (V.ldW 0 rfl rfl rfl ts25 ta25 (encA_len _ _)) ?_
      refine J.stW (cs' := encA .i8 gy48.1) 2 rfl rfl rfl rfl rfl rfl ts25 rfl (fun _ _ => encA_one .i8 _) (encA_len _ _) (encA_len _ _) ?_
      refine J.op rfl rfl rfl (V.as rfl rfl) ?_
      refine J.nil ?_
      refine J.tN ?_
      refine J.ret ?_
      obtain rfl := B.e h0
      exact J.retC_1 2 rfl rfl rfl ts25 ta25 (encA_len _ _) rfl fun w H => ⟨(), rfl, H.pick [] (by decide)⟩

/-! ### slices.IndexFunc[[]int8,int8]: function 32 -/
noncomputable def slices_IndexFunc_int8_int8.b1 (p0_s : (List Int)) (p1_f : Int → Option Bool) : Int → Option (Step (Int) (Sum (Unit) (Int))) := fun s1 => bif (decide (s1 < (p0_s.length : Int))) then (bif (inB s1 p0_s.length) then ((p1_f (rd (eI .i8) p0_s s1)).bind fun r6 => bif r6 then (some (.done (.inr s1))) else (some (.next (IntKind.wrap .i64 (s1 + 1))))) else none) else (some (.done (.inl ())))
noncomputable def slices_IndexFunc_int8_int8.f (p0_s : (List Int)) (p1_f : Int → Option Bool) : Option (Int) := (loopW (slices_IndexFunc_int8_int8.b1 p0_s p1_f) 0).bind (Sum.elim (fun y11 => some (-1)) (fun r => some r))
set_option maxRecDepth 100000 in
theorem slices_IndexFunc_int8_int8.calls (v0 : Value) (p0_s : (List Int)) (g1_ : Nat) (c1_ : Array Value) (p1_f : Int → Option Bool) (r : Int) (w : World) (H0 : Own [] w w []) (hS0 : SlE [] w v0 22 (eI .i8) p0_s) (hg1 : CallsFn Tryd.prog g1_) (hF1 : ∀ w2 (x : Int) r, Own [] w w2 [] → p1_f x = some r → Calls Tryd.prog g1_ (#[.int .i8 x] ++ c1_) w2 (fun e w3 => ∃ _ : Unit, e = .returned (.bool r) ∧ Own [] w2 w3 [])) (h0 : slices_IndexFunc_int8_int8.f p0_s p1_f = some r) :
    Calls Tryd.prog 32 #[v0, .func (.func g1_) #[] c1_] w (fun e w' => ∃ _ : Unit, e = .returned (.int .i64 r) ∧ Own [] w w' []) := by
  unfold slices_IndexFunc_int8_int8.f at h0
  replace h0 := B.top h0
  refine calls_of_J (args := [v0, .func (.func g1_) #[] c1_]) Tryd.func32 rfl Tryd.ntmps32 rfl [(0, v0), (1, .func (.func g1_) #[] c1_)] rfl H0 ?_
  refine J.seq ?_
  refine J.region ?_
  refine J.op rfl rfl rfl (V.as rfl rfl) ?_
  refine J.nil ?_
  refine J.tN ?_
  refine J.seq ?_
  refine J.seq ?_
  refine J.region ?_
  refine J.op rfl rfl rfl (V.mv rfl rfl) ?_
  refine J.op rfl rfl rfl (V.lenS hS0 rfl rfl tl49) ?_
  refine J.op rfl rfl rfl (V.mv rfl rfl) ?_
  refine J.nil ?_
  refine J.tN ?_
  obtain ⟨o13, hy12, h0⟩ := B.bind h0
  refine J.cutQ (γ := (Unit) × (Unit)) (fun gy11 => o13 = .inl gy11.1) (fun gy11 => []) (fun gy11 => []) ?_ ?_
  · refine J.block ?_
    refine J.loop (γ := Unit) hy12 (fun s1 g2 => [(0, v0), (1, .func (.func g1_) #[] c1_), (7, .int .i64 (p0_s.length : Int)), (8, .int .i64 s1)]) (fun s1 g2 => []) () ?_ ?_
    · exact J.keep _ rfl (J.pickE [] rfl rfl J.here)
    · intro rec3 s1 g2 h1
      unfold slices_IndexFunc_int8_int8.b1 at h1
      refine J.seq ?_
      refine J.region ?_
      refine J.op rfl rfl rfl (V.cmp rfl rfl rfl rfl) ?_
      refine J.nil ?_
      refine J.tN ?_
      refine J.seq ?_
      refine J.cond rfl (fun hB4 => ?_) (fun hB4 => ?_)
      · replace h1 := B.t hB4 h1
        refine J.skip ?_
        refine J.tN ?_
        refine J.seq ?_
        refine J.block ?_
        refine J.seq ?_
        refine J.region ?_
        refine J.op rfl rfl rfl (V.mv rfl rfl) ?_
        refine J.op rfl rfl rfl (V.as rfl rfl) ?_
        refine J.nil ?_
        refine J.tN ?_
        refine J.seq ?_
        refine J.region ?_
        refine J.op rfl rfl rfl (V.mv rfl rfl) ?_
        refine J.op rfl rfl rfl (V.mv rfl rfl) ?_
        refine J.op rfl rfl rfl (V.mv rfl rfl) ?_
        obtain ⟨hC5, h1⟩ := B.chk h1
        refine J.op rfl rfl rfl (V.ixS hS0 rfl rfl rfl tl49 ts22 hC5) ?_
        refine J.op rfl rfl rfl (V.elS0 hS0 hC5 rfl rfl Tryd.underlying22 ta22 rfl) ?_
        obtain ⟨r6, hr7, h1⟩ := B.bind h1
        refine J.clA (l := [.tmp 15]) [] [] hg1 (wN rfl) rfl rfl rfl rfl rfl rfl (fun w H => hF1 w (rd (eI .i8) p0_s s1) r6 (Own.bare H)  hr7) fun g8 => ?_
        refine J.nil ?_
        refine J.tN ?_
        refine J.cond rfl (fun hB9 => ?_) (fun hB9 => ?_)
        · replace h1 := B.t hB9 h1
          refine J.seq ?_
          refine J.region ?_
          refine J.op rfl rfl rfl (V.mv rfl rfl) ?_
          refine J.op rfl rfl rfl (V.as rfl rfl) ?_
          refine J.nil ?_
          refine J.tN ?_
          refine J.ret ?_
          refine J.bR ?_
          refine J.tR ?_
          refine J.tR ?_
          refine J.bR ?_
          refine J.tR ?_
          refine J.tR ?_
          obtain rfl := B.d h1
          replace h0 := B.inr h0
          obtain rfl := B.e h0
          exact J.ret1 rfl rfl fun w H => ⟨(), rfl, H.pick [] (by decide)⟩
        · replace h1 := B.f hB9 h1
          refine J.skip ?_
          refine J.bN ?_
          refine J.tN ?_
          refine J.region ?_
          refine J.op rfl rfl rfl (V.ar rfl rfl rfl rfl) ?_
          refine J.op rfl rfl rfl (V.mv rfl rfl) ?_
          refine J.nil ?_
          refine J.tN (J.next (IntKind.wrap .i64 (s1 + 1)) () (B.n h1) ?_)
          exact J.keep _ rfl (J.pickE [] rfl rfl J.here)
      · replace h1 := B.f hB4 h1
        refine J.exit ?_
        refine J.tE ?_
        refine J.tE ?_
        refine J.bE ?_
        obtain rfl := B.d h1
        refine J.tN (J.to ((), ()) rfl ?_)
        exact J.keep _ rfl (J.pickE [] rfl rfl J.here)
  · intro gy11 hG
    replace h0 := B.inl hG h0
    refine J.tN ?_
    refine J.seq ?_
    refine J.region ?_
    refine J.op rfl rfl rfl (V.as rfl rfl) ?_
    refine J.nil ?_
    refine J.tN ?_
    refine J.ret ?_
    obtain rfl := B.e h0
    exact J.ret1 rfl rfl fun w H => ⟨(), rfl, H.pick [] (by decide)⟩

/-! ### slices.ContainsFunc[[]int8,int8]: function 22 -/
noncomputable def slices_ContainsFunc_int8_int8.f (p0_s : (List Int)) (p1_f : Int → Option Bool) : Option (Bool) := (slices_IndexFunc_int8_int8.f p0_s p1_f).bind fun r1 => (some (decide (0 ≤ r1))).bind fun t4 => some t4
set_option maxRecDepth 100000 in
theorem slices_ContainsFunc_int8_int8.calls (v0 : Value) (p0_s : (List Int)) (g1_ : Nat) (c1_ : Array Value) (p1_f : Int → Option Bool) (r : Bool) (w : World) (H0 : Own [] w w []) (hS0 : SlE [] w v0 22 (eI .i8) p0_s) (hg1 : CallsFn Tryd.prog g1_) (hF1 : ∀ w2 (x : Int) r, Own [] w w2 [] → p1_f x = some r → Calls Tryd.prog g1_ (#[.int .i8 x] ++ c1_) w2 (fun e w3 => ∃ _ : Unit, e = .returned (.bool r) ∧ Own [] w2 w3 [])) (h0 : slices_ContainsFunc_int8_int8.f p0_s p1_f = some r) :
    Calls Tryd.prog 22 #[v0, .func (.func g1_) #[] c1_] w (fun e w' => ∃ _ : Unit, e = .returned (.bool r) ∧ Own [] w w' []) := by
  unfold slices_ContainsFunc_int8_int8.f at h0
  replace h0 := B.top h0
  refine calls_of_J (args := [v0, .func (.func g1_) #[] c1_]) Tryd.func22 rfl Tryd.ntmps22 rfl [(0, v0), (1, .func (.func g1_) #[] c1_)] rfl H0 ?_
  refine J.seq ?_
  refine J.region ?_
  refine J.op rfl rfl rfl (V.as rfl rfl) ?_
  refine J.nil ?_
  refine J.tN ?_
  refine J.seq ?_
  refine J.region ?_
  refine J.op rfl rfl rfl (V.mv rfl rfl) ?_
  refine J.op rfl rfl rfl (V.mv rfl rfl) ?_
  obtain ⟨r1, hr2, h0⟩ := B.bind h0
  refine J.clA (l := [.tmp 5, .tmp 6]) [] [] cf32 (wN rfl) rfl rfl rfl rfl rfl rfl (fun w H => slices_IndexFunc_int8_int8.calls v0 p0_s g1_ c1_ p1_f r1 w (Own.refl w) (Sl.laterA hS0 H) hg1 (fun w2 x0 r HO  hp => hF1 w2 x0 r (Own.through H HO)  hp) hr2) fun g3 => ?_
  refine J.op rfl rfl rfl (V.cmp rfl rfl rfl rfl) ?_
  refine J.op rfl rfl rfl (V.as rfl rfl) ?_
  obtain ⟨t4, et4, h0⟩ := B.lt h0
  refine J.val (congrArg (Value.bool) et4) ?_
  refine J.nil ?_
  refine J.tN ?_
  refine J.ret ?_
  obtain rfl := B.e h0
  exact J.ret1 rfl rfl fun w H => ⟨(), rfl, H.pick [] (by decide)⟩

/-! ### impl.within: function 33 -/
noncomputable def impl_within.f (p0_n : Int) (p1_low : Int) (p2_high : Int) : Option (Bool) := bif (decide (p1_low ≤ p0_n)) then ((some (decide (p0_n ≤ p2_high))).bind fun t2 => some t2) else (some false)
set_option maxRecDepth 100000 in
theorem impl_within.calls (p0_n : Int) (p1_low : Int) (p2_high : Int) (r : Bool) (w : World) (H0 : Own [] w w []) (h0 : impl_within.f p0_n p1_low p2_high = some r) :
    Calls Tryd.prog 33 #[.int .i64 p0_n, .int .i64 p1_low, .int .i64 p2_high] w (fun e w' => ∃ _ : Unit, e = .returned (.bool r) ∧ Own [] w w' []) := by
  unfold impl_within.f at h0
  replace h0 := B.top h0
  refine calls_of_J (args := [.int .i64 p0_n, .int .i64 p1_low, .int .i64 p2_high]) Tryd.func33 rfl Tryd.ntmps33 rfl [(0, .int .i64 p0_n), (1, .int .i64 p1_low), (2, .int .i64 p2_high)] rfl H0 ?_
  refine J.seq ?_
  refine J.region ?_
  refine J.op rfl rfl rfl (V.as rfl rfl) ?_
  refine J.nil ?_
  refine J.tN ?_
  refine J.seq ?_
  refine J.region ?_
  refine J.op rfl rfl rfl (V.mv rfl rfl) ?_
  refine J.op rfl rfl rfl (V.mv rfl rfl) ?_
  refine J.op rfl rfl rfl (V.cmp rfl rfl rfl rfl) ?_
  refine J.op rfl rfl rfl (V.mv rfl rfl) ?_
  refine J.split 10 rfl (fun hB1 => ?_) (fun hB1 => ?_)
  · replace h0 := B.t hB1 h0
    refine J.opOn rfl rfl rfl rfl rfl (V.mv rfl rfl) ?_
    refine J.opOn rfl rfl rfl rfl rfl (V.mv rfl rfl) ?_
    refine J.opOn rfl rfl rfl rfl rfl (V.cmp rfl rfl rfl rfl) ?_
    refine J.op rfl rfl rfl (V.pkT rfl rfl rfl) ?_
    refine J.op rfl rfl rfl (V.as rfl rfl) ?_
    obtain ⟨t2, et2, h0⟩ := B.lt h0
    refine J.val (congrArg (Value.bool) et2) ?_
    refine J.nil ?_
    refine J.tN ?_
    refine J.ret ?_
    obtain rfl := B.e h0
    exact J.ret1 rfl rfl fun w H => ⟨(), rfl, H.pick [] (by decide)⟩
  · replace h0 := B.f hB1 h0
    refine J.opOff rfl rfl rfl rfl rfl rfl ?_
    refine J.opOff rfl rfl rfl rfl rfl rfl ?_
    refine J.opOff rfl rfl rfl rfl rfl rfl ?_
    refine J.op rfl rfl rfl (V.pkF rfl rfl rfl) ?_
    refine J.op rfl rfl rfl (V.as rfl rfl) ?_
    refine J.nil ?_
    refine J.tN ?_
    refine J.ret ?_
    obtain rfl := B.e h0
    exact J.ret1 rfl rfl fun w H => ⟨(), rfl, H.pick [] (by decide)⟩

/-! ### impl.isReading: function 24 -/
noncomputable def impl_isReading.f (p0_n : Int) : Option (Bool) := (impl_within.f p0_n 0 60).bind fun r1 => some r1
set_option maxRecDepth 100000 in
theorem impl_isReading.calls (p0_n : Int) (r : Bool) (w : World) (H0 : Own [] w w []) (h0 : impl_isReading.f p0_n = some r) :
    Calls Tryd.prog 24 #[.int .i64 p0_n] w (fun e w' => ∃ _ : Unit, e = .returned (.bool r) ∧ Own [] w w' []) := by
  unfold impl_isReading.f at h0
  replace h0 := B.top h0
  refine calls_of_J (args := [.int .i64 p0_n]) Tryd.func24 rfl Tryd.ntmps24 rfl [(0, .int .i64 p0_n)] rfl H0 ?_
  refine J.seq ?_
  refine J.region ?_
  refine J.op rfl rfl rfl (V.as rfl rfl) ?_
  refine J.nil ?_
  refine J.tN ?_
  refine J.seq ?_
  refine J.region ?_
  refine J.op rfl rfl rfl (V.mv rfl rfl) ?_
  obtain ⟨r1, hr2, h0⟩ := B.bind h0
  refine J.clA (l := [.tmp 3, .const (.int .i64 0), .const (.int .i64 60)]) [] [] cf33 (wN rfl) rfl rfl rfl rfl rfl rfl (fun w H => impl_within.calls p0_n 0 60 r1 w (Own.refl w)  hr2) fun g3 => ?_
  refine J.op rfl rfl rfl (V.as rfl rfl) ?_
  refine J.nil ?_
  refine J.tN ?_
  refine J.ret ?_
  obtain rfl := B.e h0
  exact J.ret1 rfl rfl fun w H => ⟨(), rfl, H.pick [] (by decide)⟩

/-! ### impl.ValidScene$1: function 23 -/
noncomputable def impl_ValidScene_1.f (p0_n : Int) : Option (Bool) := (impl_isReading.f (IntKind.wrap .i64 p0_n)).bind fun r1 => (some (!r1)).bind fun t4 => some t4
set_option maxRecDepth 100000 in
theorem impl_ValidScene_1.calls (p0_n : Int) (r : Bool) (w : World) (H0 : Own [] w w []) (h0 : impl_ValidScene_1.f p0_n = some r) :
    Calls Tryd.prog 23 #[.int .i8 p0_n] w (fun e w' => ∃ _ : Unit, e = .returned (.bool r) ∧ Own [] w w' []) := by
  unfold impl_ValidScene_1.f at h0
  replace h0 := B.top h0
  refine calls_of_J (args := [.int .i8 p0_n]) Tryd.func23 rfl Tryd.ntmps23 rfl [(0, .int .i8 p0_n)] rfl H0 ?_
  refine J.seq ?_
  refine J.region ?_
  refine J.op rfl rfl rfl (V.as rfl rfl) ?_
  refine J.nil ?_
  refine J.tN ?_
  refine J.seq ?_
  refine J.region ?_
  refine J.op rfl rfl rfl (V.mv rfl rfl) ?_
  refine J.op rfl rfl rfl (V.conv rfl rfl Tryd.underlying22 Tryd.underlying2) ?_
  obtain ⟨r1, hr2, h0⟩ := B.bind h0
  refine J.clA (l := [.tmp 4]) [] [] cf24 (wN rfl) rfl rfl rfl rfl rfl rfl (fun w H => impl_isReading.calls (IntKind.wrap .i64 p0_n) r1 w (Own.refl w)  hr2) fun g3 => ?_
  refine J.op rfl rfl rfl (V.nt rfl rfl) ?_
  refine J.op rfl rfl rfl (V.as rfl rfl) ?_
  obtain ⟨t4, et4, h0⟩ := B.lt h0
  refine J.val (congrArg (Value.bool) et4) ?_
  refine J.nil ?_
  refine J.tN ?_
  refine J.ret ?_
  obtain rfl := B.e h0
  exact J.ret1 rfl rfl fun w H => ⟨(), rfl, H.pick [] (by decide)⟩

/-! ### impl.ValidScene: function 13 -/
noncomputable def impl_ValidScene.f (p0_s : (Vector Int 24)) : Option (Bool) := (slices_ContainsFunc_int8_int8.f (p0_s.toList) (fun z3 => impl_ValidScene_1.f z3 )).bind fun r4 => (some (!r4)).bind fun t7 => some t7
set_option maxRecDepth 100000 in
theorem impl_ValidScene.calls (p0_s : (Vector Int 24)) (r : Bool) (w : World) (H0 : Own [] w w []) (h0 : impl_ValidScene.f p0_s = some r) :
    Calls Tryd.prog 13 #[.agg (encA .i8 p0_s).toArray] w (fun e w' => ∃ _ : Unit, e = .returned (.bool r) ∧ Own [] w w' []) := by
  unfold impl_ValidScene.f at h0
  replace h0 := B.top h0
  refine calls_of_J (args := [.agg (encA .i8 p0_s).toArray]) Tryd.func13 rfl Tryd.ntmps13 rfl [(0, .agg (encA .i8 p0_s).toArray)] rfl H0 ?_
  refine J.seq ?_
  refine J.region ?_
  refine J.box rfl rfl rfl rfl rfl (fun _ _ => rfl) fun b1 => ?_
  refine J.op rfl rfl rfl (V.as rfl rfl) ?_
  refine J.nil ?_
  refine J.tN ?_
  refine J.seq ?_
  refine J.region ?_
  refine J.op rfl rfl rfl (V.arr rfl rfl tr25 ts22) ?_
  obtain ⟨r4, hr5, h0⟩ := B.bind h0
  refine J.clA (l := [.tmp 3, .func 23]) [] [.blk b1 (encA .i8 p0_s) 25] cf22 (wN rfl) rfl rfl rfl rfl rfl rfl (fun w H => slices_ContainsFunc_int8_int8.calls (.slice (some ⟨b1, 0, none⟩) 24 24) (p0_s.toList) 23 (#[]) (fun z3 => impl_ValidScene_1.f z3 ) r4 w (Own.refl w) (Own.arrA (E := 22) 0 H rfl) (cf23 : CallsFn _ 23) (fun w2 z3 r HO  hp => impl_ValidScene_1.calls z3  r w2 (Own.refl w2)  hp) hr5) fun g6 => ?_
  refine J.op rfl rfl rfl (V.nt rfl rfl) ?_
  refine J.op rfl rfl rfl (V.as rfl rfl) ?_
  obtain ⟨t7, et7, h0⟩ := B.lt h0
  refine J.val (congrArg (Value.bool) et7) ?_
  refine J.nil ?_
  refine J.tN ?_
  refine J.ret ?_
  obtain rfl := B.e h0
  exact J.ret1 rfl rfl fun w H => ⟨(), rfl, H.pick [] (by decide)⟩

/-! ### impl.decimal: function 25 -/
noncomputable def impl_decimal.f (p0_n : Int) : Option (ByteArray) := (some (⟨#[]⟩ : ByteArray)).bind fun t1 => (strconv_FormatInt.f p0_n 10).bind fun r2 => some r2
set_option maxRecDepth 100000 in
theorem impl_decimal.calls (p0_n : Int) (r : ByteArray) (w : World) (H0 : Own [] w w []) (h0 : impl_decimal.f p0_n = some r) :
    Calls Tryd.prog 25 #[.int .i64 p0_n] w (fun e w' => ∃ _ : Unit, e = .returned (.string r) ∧ Own [] w w' []) := by
  unfold impl_decimal.f at h0
  replace h0 := B.top h0
  refine calls_of_J (args := [.int .i64 p0_n]) Tryd.func25 rfl Tryd.ntmps25 rfl [(0, .int .i64 p0_n)] rfl H0 ?_
  refine J.seq ?_
  refine J.region ?_
  refine J.op rfl rfl rfl (V.as rfl rfl) ?_
  obtain ⟨t1, et1, h0⟩ := B.lt h0
  refine J.val (congrArg (Value.string) et1) ?_
  refine J.nil ?_
  refine J.tN ?_
  refine J.seq ?_
  refine J.region ?_
  refine J.op rfl rfl rfl (V.mv rfl rfl) ?_
  obtain ⟨r2, hr3, h0⟩ := B.bind h0
  refine J.clA (l := [.tmp 3, .const (.int .i64 10)]) [] [] cf34 (wN rfl) rfl rfl rfl rfl rfl rfl (fun w H => strconv_FormatInt.calls p0_n 10 r2 w (Own.refl w)  hr3) fun g4 => ?_
  refine J.op rfl rfl rfl (V.as rfl rfl) ?_
  refine J.nil ?_
  refine J.tN ?_
  refine J.ret ?_
  obtain rfl := B.e h0
  exact J.ret1 rfl rfl fun w H => ⟨(), rfl, H.pick [] (by decide)⟩

/-! ### impl.sceneText: function 14 -/
noncomputable def impl_sceneText.b2 (p0_s : (Vector Int 24)) (s6 : Int × (List ByteArray)) : (Int × (List ByteArray)) → Option (Step (Int × (List ByteArray)) ((List ByteArray))) := fun s13 => bif (decide (s13.1 < ((IntKind.wrap .i64 (6 * (IntKind.wrap .i64 (s6.1 + 1)))) - (IntKind.wrap .i64 (6 * s6.1))))) then (bif (inB s13.1 ((IntKind.wrap .i64 (6 * (IntKind.wrap .i64 (s6.1 + 1)))) - (IntKind.wrap .i64 (6 * s6.1))).toNat) then ((some (rdA p0_s ((IntKind.wrap .i64 (6 * s6.1)) + s13.1))).bind fun n_18 => (impl_decimal.f (IntKind.wrap .i64 n_18)).bind fun r19 => bif (roomB s13.2.length 1 16) then (some (.next (IntKind.wrap .i64 (s13.1 + 1), s13.2 ++ [r19]))) else none) else none) else (some (.done s13.2))
noncomputable def impl_sceneText.b1 (p0_s : (Vector Int 24)) : (Int × (List ByteArray)) → Option (Step (Int × (List ByteArray)) ((List ByteArray))) := fun s6 => bif (decide (s6.1 < 4)) then (bif (inS (IntKind.wrap .i64 (6 * s6.1)) (IntKind.wrap .i64 (6 * (IntKind.wrap .i64 (s6.1 + 1)))) 24) then ((loopW (impl_sceneText.b2 p0_s s6) (0, ([] : List ByteArray))).bind fun y26 => (strings_Join.f y26 (⟨#[32]⟩ : ByteArray)).bind fun r29 => bif (roomB s6.2.length 1 16) then (some (.next (IntKind.wrap .i64 (s6.1 + 1), s6.2 ++ [r29]))) else none) else none) else (some (.done s6.2))
noncomputable def impl_sceneText.f (p0_s : (Vector Int 24)) : Option (ByteArray) := (some (⟨#[]⟩ : ByteArray)).bind fun t3 => (loopW (impl_sceneText.b1 p0_s) (0, ([] : List ByteArray))).bind fun y36 => (strings_Join.f y36 (⟨#[47]⟩ : ByteArray)).bind fun r39 => some r39
set_option maxRecDepth 100000 in
theorem impl_sceneText.calls (p0_s : (Vector Int 24)) (r : ByteArray) (w : World) (H0 : Own [] w w []) (h0 : impl_sceneText.f p0_s = some r) :
    Calls Tryd.prog 14 #[.agg (encA .i8 p0_s).toArray] w (fun e w' => ∃ _ : Unit, e = .returned (.string r) ∧ Own [] w w' []) := by
  unfold impl_sceneText.f at h0
  replace h0 := B.top h0
  refine calls_of_J (args := [.agg (encA .i8 p0_s).toArray]) Tryd.func14 rfl Tryd.ntmps14 rfl [(0, .agg (encA .i8 p0_s).toArray)] rfl H0 ?_
  refine J.seq ?_
  refine J.region ?_
  refine J.box rfl rfl rfl rfl rfl (fun _ _ => rfl) fun b1 => ?_
  refine J.op rfl rfl rfl (V.as rfl rfl) ?_
  obtain ⟨t3, et3, h0⟩ := B.lt h0
  refine J.val (congrArg (Value.string) et3) ?_
  refine J.nil ?_
  refine J.tN ?_
  refine J.seq ?_
  refine J.region ?_
  refine J.bs (l := []) (cs := []) (E := 9) rfl rfl rfl rfl rfl (fun w => by kernel_rfl) fun b4 => ?_
  refine J.op rfl rfl rfl (V.as rfl rfl) ?_
  refine J.nil ?_
  refine J.tN ?_
  refine J.seq ?_
  refine J.seq ?_
  refine J.region ?_
  refine J.op rfl rfl rfl (V.mv rfl rfl) ?_
  refine J.nil ?_
  refine J.tN ?_
  refine J.blkRowE eT ([] : List ByteArray) 0 rfl rfl rfl ?_
  obtain ⟨y36, hy38, h0⟩ := B.bind h0
  refine J.cutQ (γ := Value) (fun _ => True) (fun gy37 => [(3, gy37)]) (fun gy37 => [.rowE gy37 9 eT y36, .blk b1 (encA .i8 p0_s) 25]) ?_ ?_
  · refine J.block ?_
    refine J.loop (γ := Value) hy38 (fun s6 g7 => [(1, bp b1 0), (3, g7), (9, .int .i64 s6.1)]) (fun s6 g7 => [.rowE g7 9 eT s6.2, .blk b1 (encA .i8 p0_s) 25]) (.slice (some ⟨b4, 0, none⟩) 0 0) ?_ ?_
    · exact J.keep _ rfl (J.pickE [0, 1] rfl rfl J.here)
    · intro rec8 s6 g7 h1
      unfold impl_sceneText.b1 at h1
      refine J.seq ?_
      refine J.region ?_
      refine J.op rfl rfl rfl (V.cmp rfl rfl rfl rfl) ?_
      refine J.nil ?_
      refine J.tN ?_
      refine J.seq ?_
      refine J.cond rfl (fun hB9 => ?_) (fun hB9 => ?_)
      · replace h1 := B.t hB9 h1
        refine J.skip ?_
        refine J.tN ?_
        refine J.seq ?_
        refine J.block ?_
        refine J.seq ?_
        refine J.region ?_
        refine J.op rfl rfl rfl (V.mv rfl rfl) ?_
        refine J.op rfl rfl rfl (V.as rfl rfl) ?_
        refine J.nil ?_
        refine J.tN ?_
        refine J.seq ?_
        refine J.region ?_
        refine J.bs (l := []) (cs := []) (E := 9) rfl rfl rfl rfl rfl (fun w => by kernel_rfl) fun b10 => ?_
        refine J.op rfl rfl rfl (V.as rfl rfl) ?_
        refine J.nil ?_
        refine J.tN ?_
        refine J.seq ?_
        refine J.seq ?_
        refine J.region ?_
        refine J.op rfl rfl rfl (V.mv rfl rfl) ?_
        refine J.op rfl rfl rfl (V.ar rfl rfl rfl rfl) ?_
        refine J.op rfl rfl rfl (V.mv rfl rfl) ?_
        refine J.op rfl rfl rfl (V.ar rfl rfl rfl rfl) ?_
        refine J.op rfl rfl rfl (V.ar rfl rfl rfl rfl) ?_
        obtain ⟨hC12, h1⟩ := B.chk h1
        refine J.op rfl rfl rfl (V.arrSub (L := some (IntKind.wrap .i64 (6 * s6.1))) (H := some (IntKind.wrap .i64 (6 * (IntKind.wrap .i64 (s6.1 + 1))))) rfl rfl rfl rfl rfl rfl tr25 ts22 hC12) ?_
        refine J.op rfl rfl rfl (V.lenSub rfl rfl tl49 hC12) ?_
        refine J.op rfl rfl rfl (V.mv rfl rfl) ?_
        refine J.nil ?_
        refine J.tN ?_
        refine J.blkRowE eT ([] : List ByteArray) 0 rfl rfl rfl ?_
        obtain ⟨y26, hy28, h1⟩ := B.bind h1
        refine J.cutQ (γ := Value) (fun _ => True) (fun gy27 => [(1, bp b1 0), (3, g7), (5, gy27), (9, .int .i64 s6.1)]) (fun gy27 => [.rowE gy27 9 eT y26, .rowE g7 9 eT s6.2, .blk b1 (encA .i8 p0_s) 25]) ?_ ?_
        · refine J.block ?_
          refine J.loop (γ := Value) hy28 (fun s13 g14 => [(1, bp b1 0), (3, g7), (5, g14), (9, .int .i64 s6.1), (18, subV 1 (.slice (some ⟨b1, 0, none⟩) 24 24) (IntKind.wrap .i64 (6 * s6.1)) (IntKind.wrap .i64 (6 * (IntKind.wrap .i64 (s6.1 + 1))))), (19, .int .i64 ((IntKind.wrap .i64 (6 * (IntKind.wrap .i64 (s6.1 + 1)))) - (IntKind.wrap .i64 (6 * s6.1)))), (20, .int .i64 s13.1)]) (fun s13 g14 => [.rowE g14 9 eT s13.2, .rowE g7 9 eT s6.2, .blk b1 (encA .i8 p0_s) 25]) (.slice (some ⟨b10, 0, none⟩) 0 0) ?_ ?_
          · exact J.keep _ rfl (J.pickE [0, 1, 2] rfl rfl J.here)
          · intro rec15 s13 g14 h2
            unfold impl_sceneText.b2 at h2
            refine J.seq ?_
            refine J.region ?_
            refine J.op rfl rfl rfl (V.cmp rfl rfl rfl rfl) ?_
            refine J.nil ?_
            refine J.tN ?_
            refine J.seq ?_
            refine J.cond rfl (fun hB16 => ?_) (fun hB16 => ?_)
            · replace h2 := B.t hB16 h2
              refine J.skip ?_
              refine J.tN ?_
              refine J.seq ?_
              refine J.block ?_
              refine J.seq ?_
              refine J.region ?_
              obtain ⟨hC17, h2⟩ := B.chk h2
              refine J.op rfl rfl rfl (V.ixSub rfl rfl rfl tl49 ts22 hC12 hC17) ?_
              refine J.op rfl rfl rfl (V.ldB 2 rfl rfl rfl Tryd.underlying22 ta22 (encA_get0 .i8 _ (inB_sub hC12 hC17))) ?_
              refine J.op rfl rfl rfl (V.as rfl rfl) ?_
              obtain ⟨n_18, en_18, h2⟩ := B.lt h2
              refine J.val (congrArg (Value.int .i8) en_18) ?_
              refine J.nil ?_
              refine J.tN ?_
              refine J.region ?_
              refine J.op rfl rfl rfl (V.mv rfl rfl) ?_
              refine J.op rfl rfl rfl (V.mv rfl rfl) ?_
              refine J.op rfl rfl rfl (V.conv rfl rfl Tryd.underlying22 Tryd.underlying2) ?_
              obtain ⟨r19, hr20, h2⟩ := B.bind h2
              refine J.clA (l := [.tmp 26]) [] [.rowE g14 9 eT s13.2, .rowE g7 9 eT s6.2, .blk b1 (encA .i8 p0_s) 25] cf25 (wN rfl) rfl rfl rfl rfl rfl rfl (fun w H => impl_decimal.calls (IntKind.wrap .i64 n_18) r19 w (Own.refl w)  hr20) fun g21 => ?_
              refine J.bs (l := [(0, .tmp 27)]) (cs := [.string r19]) (E := 9) rfl rfl rfl rfl rfl (fun w => by kernel_rfl) fun b22 => ?_
              obtain ⟨hC25, h2⟩ := B.chk h2
              obtain ⟨_, qi1, qi2, qi3, qi4⟩ := ti9
              refine J.ap1 (e := eT) (xs := s13.2) 1 0 r19 hC25 qi1 tl36 qi2 qi3 qi4 rfl rfl rfl rfl rfl rfl rfl rfl rfl rfl fun v24 => ?_
              refine J.op rfl rfl rfl (V.as rfl rfl) ?_
              refine J.nil ?_
              refine J.bN ?_
              refine J.tN ?_
              refine J.region ?_
              refine J.op rfl rfl rfl (V.ar rfl rfl rfl rfl) ?_
              refine J.op rfl rfl rfl (V.mv rfl rfl) ?_
              refine J.nil ?_
              refine J.tN (J.next (IntKind.wrap .i64 (s13.1 + 1), s13.2 ++ [r19]) v24 (B.n h2) ?_)
              exact J.keep _ rfl (J.pickE [1, 2, 3] rfl rfl J.here)
            · replace h2 := B.f hB16 h2
              refine J.exit ?_
              refine J.tE ?_
              refine J.tE ?_
              refine J.bE ?_
              obtain rfl := B.d h2
              refine J.tN (J.to g14 trivial ?_)
              exact J.keep _ rfl (J.pickE [0, 1, 2] rfl rfl J.here)
        · intro gy27 _
          refine J.tN ?_
          refine J.region ?_
          refine J.op rfl rfl rfl (V.mv rfl rfl) ?_
          refine J.op rfl rfl rfl (V.mv rfl rfl) ?_
          obtain ⟨r29, hr30, h1⟩ := B.bind h1
          refine J.clA (l := [.tmp 32, .const (.string ⟨#[32]⟩)]) [] [.rowE gy27 9 eT y26, .rowE g7 9 eT s6.2, .blk b1 (encA .i8 p0_s) 25] cf26 (wN rfl) rfl rfl rfl rfl rfl rfl (fun w H => strings_Join.calls gy27 y26 (⟨#[32]⟩ : ByteArray) r29 w (Own.refl w) (Own.slA 0 H rfl) hr30) fun g31 => ?_
          refine J.bs (l := [(0, .tmp 33)]) (cs := [.string r29]) (E := 9) rfl rfl rfl rfl rfl (fun w => by kernel_rfl) fun b32 => ?_
          obtain ⟨hC35, h1⟩ := B.chk h1
          obtain ⟨_, qi1, qi2, qi3, qi4⟩ := ti9
          refine J.ap1 (e := eT) (xs := s6.2) 2 0 r29 hC35 qi1 tl36 qi2 qi3 qi4 rfl rfl rfl rfl rfl rfl rfl rfl rfl rfl fun v34 => ?_
          refine J.op rfl rfl rfl (V.as rfl rfl) ?_
          refine J.nil ?_
          refine J.bN ?_
          refine J.tN ?_
          refine J.region ?_
          refine J.op rfl rfl rfl (V.ar rfl rfl rfl rfl) ?_
          refine J.op rfl rfl rfl (V.mv rfl rfl) ?_
          refine J.nil ?_
          refine J.tN (J.next (IntKind.wrap .i64 (s6.1 + 1), s6.2 ++ [r29]) v34 (B.n h1) ?_)
          exact J.keep _ rfl (J.pickE [2, 3] rfl rfl J.here)
      · replace h1 := B.f hB9 h1
        refine J.exit ?_
        refine J.tE ?_
        refine J.tE ?_
        refine J.bE ?_
        obtain rfl := B.d h1
        refine J.tN (J.to g7 trivial ?_)
        exact J.keep _ rfl (J.pickE [0, 1] rfl rfl J.here)
  · intro gy37 _
    refine J.tN ?_
    refine J.seq ?_
    refine J.region ?_
    refine J.op rfl rfl rfl (V.mv rfl rfl) ?_
    obtain ⟨r39, hr40, h0⟩ := B.bind h0
    refine J.clA (l := [.tmp 37, .const (.string ⟨#[47]⟩)]) [] [.rowE gy37 9 eT y36, .blk b1 (encA .i8 p0_s) 25] cf26 (wN rfl) rfl rfl rfl rfl rfl rfl (fun w H => strings_Join.calls gy37 y36 (⟨#[47]⟩ : ByteArray) r39 w (Own.refl w) (Own.slA 0 H rfl) hr40) fun g41 => ?_
    refine J.op rfl rfl rfl (V.as rfl rfl) ?_
    refine J.nil ?_
    refine J.tN ?_
    refine J.ret ?_
    obtain rfl := B.e h0
    exact J.ret1 rfl rfl fun w H => ⟨(), rfl, H.pick [] (by decide)⟩

end Go.Proofs.YtadggddaheipgaaDoor
