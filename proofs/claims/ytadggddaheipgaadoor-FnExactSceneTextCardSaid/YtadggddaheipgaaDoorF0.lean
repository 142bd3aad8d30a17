/- Go functions as Lean functions, and that each call of theirs comes to just that: by a program written for this work (walk.py). No condition. -/
import Derived.Test.YtadggddaheipgaaDoorT
namespace Go.Proofs.YtadggddaheipgaaDoor
open Go Go.RowKit G
set_option linter.unusedVariables false

/-! ### spec.l00In: function 27 -/
noncomputable def spec_l00In.f (p0_n : Int) (p1_low : Int) (p2_high : Int) : Option (Bool) := bif (decide (p1_low ≤ p0_n)) then ((some (decide (p0_n ≤ p2_high))).bind fun t2 => some t2) else (some false)
set_option maxRecDepth 100000 in
theorem spec_l00In.calls (p0_n : Int) (p1_low : Int) (p2_high : Int) (r : Bool) (w : World) (H0 : Own [] w w []) (h0 : spec_l00In.f p0_n p1_low p2_high = some r) :
    Calls Tryd.prog 27 #[.int .i64 p0_n, .int .i64 p1_low, .int .i64 p2_high] w (fun e w' => ∃ _ : Unit, e = .returned (.bool r) ∧ Own [] w w' []) := by
  unfold spec_l00In.f at h0
  replace h0 := B.top h0
  refine calls_of_J (args := [.int .i64 p0_n, .int .i64 p1_low, .int .i64 p2_high]) Tryd.func27 rfl Tryd.ntmps27 rfl [(0, .int .i64 p0_n), (1, .int .i64 p1_low), (2, .int .i64 p2_high)] rfl H0 ?_
  refine J.seq ?_
  refine J.region ?_
  refine J.op rfl rfl rfl (V.as rfl rfl) ?_
  refine J.nil ?_
  refine J.tN ?_
  refine J.seq ?_
  refine J.region ?_
  refine J.op rfl rfl rfl (V.mv rfl rfl) ?_
  refine J.op rfl rfl rfl (V.mv rfl rfl) ?_
  refine J.op rfl rfl rfl (V.cmp rfl rfl rfl rfl) ?_
  refine J.op rfl rfl rfl (V.mv rfl rfl) ?_
  refine J.split 10 rfl (fun hB1 => ?_) (fun hB1 => ?_)
  · replace h0 := B.t hB1 h0
    refine J.opOn rfl rfl rfl rfl rfl (V.mv rfl rfl) ?_
    refine J.opOn rfl rfl rfl rfl rfl (V.mv rfl rfl) ?_
    refine J.opOn rfl rfl rfl rfl rfl (V.cmp rfl rfl rfl rfl) ?_
    refine J.op rfl rfl rfl (V.pkT rfl rfl rfl) ?_
    refine J.op rfl rfl rfl (V.as rfl rfl) ?_
    obtain ⟨t2, et2, h0⟩ := B.lt h0
    refine J.val (congrArg (Value.bool) et2) ?_
    refine J.nil ?_
    refine J.tN ?_
    refine J.ret ?_
    obtain rfl := B.e h0
    exact J.ret1 rfl rfl fun w H => ⟨(), rfl, H.pick [] (by decide)⟩
  · replace h0 := B.f hB1 h0
    refine J.opOff rfl rfl rfl rfl rfl rfl ?_
    refine J.opOff rfl rfl rfl rfl rfl rfl ?_
    refine J.opOff rfl rfl rfl rfl rfl rfl ?_
    refine J.op rfl rfl rfl (V.pkF rfl rfl rfl) ?_
    refine J.op rfl rfl rfl (V.as rfl rfl) ?_
    refine J.nil ?_
    refine J.tN ?_
    refine J.ret ?_
    obtain rfl := B.e h0
    exact J.ret1 rfl rfl fun w H => ⟨(), rfl, H.pick [] (by decide)⟩

/-! ### spec.l06Reading: function 17 -/
noncomputable def spec_l06Reading.f (p0_n : Int) : Option (Bool) := (spec_l00In.f p0_n 0 60).bind fun r1 => some r1
set_option maxRecDepth 100000 in
theorem spec_l06Reading.calls (p0_n : Int) (r : Bool) (w : World) (H0 : Own [] w w []) (h0 : spec_l06Reading.f p0_n = some r) :
    Calls Tryd.prog 17 #[.int .i64 p0_n] w (fun e w' => ∃ _ : Unit, e = .returned (.bool r) ∧ Own [] w w' []) := by
  unfold spec_l06Reading.f at h0
  replace h0 := B.top h0
  refine calls_of_J (args := [.int .i64 p0_n]) Tryd.func17 rfl Tryd.ntmps17 rfl [(0, .int .i64 p0_n)] rfl H0 ?_
  refine J.seq ?_
  refine J.region ?_
  refine J.op rfl rfl rfl (V.as rfl rfl) ?_
  refine J.nil ?_
  refine J.tN ?_
  refine J.seq ?_
  refine J.region ?_
  refine J.op rfl rfl rfl (V.mv rfl rfl) ?_
  obtain ⟨r1, hr2, h0⟩ := B.bind h0
  refine J.clA (l := [.tmp 3, .const (.int .i64 0), .const (.int .i64 60)]) [] [] cf27 (wN rfl) rfl rfl rfl rfl rfl rfl (fun w H => spec_l00In.calls p0_n 0 60 r1 w (Own.refl w)  hr2) fun g3 => ?_
  refine J.op rfl rfl rfl (V.as rfl rfl) ?_
  refine J.nil ?_
  refine J.tN ?_
  refine J.ret ?_
  obtain rfl := B.e h0
  exact J.ret1 rfl rfl fun w H => ⟨(), rfl, H.pick [] (by decide)⟩

/-! ### spec.l06Ok: function 11 -/
noncomputable def spec_l06Ok.b1 (p0_s : (Vector Int 24)) : Int → Option (Step (Int) (Sum (Unit) (Bool))) := fun s1 => bif (decide (s1 < 24)) then (bif (inB s1 24) then ((spec_l06Reading.f (IntKind.wrap .i64 (rdA p0_s s1))).bind fun r6 => bif (!r6) then (some (.done (.inr false))) else ((some (IntKind.wrap .i64 (s1 + 1))).bind fun i_10 => some (.next i_10))) else none) else (some (.done (.inl ())))
noncomputable def spec_l06Ok.f (p0_s : (Vector Int 24)) : Option (Bool) := (loopW (spec_l06Ok.b1 p0_s) 0).bind (Sum.elim (fun y12 => some true) (fun r => some r))
set_option maxRecDepth 100000 in
theorem spec_l06Ok.calls (v0 : Value) (p0_s : (Vector Int 24)) (r : Bool) (w : World) (H0 : Own [] w w []) (hP0 : Rp [] w v0 (encA .i8 p0_s)) (h0 : spec_l06Ok.f p0_s = some r) :
    Calls Tryd.prog 11 #[v0] w (fun e w' => ∃ _ : Unit, e = .returned (.bool r) ∧ Own [] w w' []) := by
  unfold spec_l06Ok.f at h0
  replace h0 := B.top h0
  refine calls_of_J (args := [v0]) Tryd.func11 rfl Tryd.ntmps11 rfl [(0, v0)] rfl H0 ?_
  refine J.seq ?_
  refine J.region ?_
  refine J.op rfl rfl rfl (V.as rfl rfl) ?_
  refine J.nil ?_
  refine J.tN ?_
  refine J.seq ?_
  refine J.seq ?_
  refine J.region ?_
  refine J.op rfl rfl rfl (V.as rfl rfl) ?_
  refine J.nil ?_
  refine J.tN ?_
  obtain ⟨o14, hy13, h0⟩ := B.bind h0
  refine J.cutQ (γ := (Unit) × (Unit)) (fun gy12 => o14 = .inl gy12.1) (fun gy12 => []) (fun gy12 => []) ?_ ?_
  · refine J.block ?_
    refine J.loop (γ := Unit) hy13 (fun s1 g2 => [(0, v0), (3, .int .i64 s1)]) (fun s1 g2 => []) () ?_ ?_
    · exact J.keep _ rfl (J.pickE [] rfl rfl J.here)
    · intro rec3 s1 g2 h1
      unfold spec_l06Ok.b1 at h1
      refine J.seq ?_
      refine J.seq ?_
      refine J.region ?_
      refine J.op rfl rfl rfl (V.mv rfl rfl) ?_
      refine J.op rfl rfl rfl (V.cmp rfl rfl rfl rfl) ?_
      refine J.nil ?_
      refine J.tN ?_
      refine J.cond rfl (fun hB4 => ?_) (fun hB4 => ?_)
      · replace h1 := B.t hB4 h1
        refine J.skip ?_
        refine J.tN ?_
        refine J.seq ?_
        refine J.block ?_
        refine J.seq ?_
        refine J.region ?_
        refine J.op rfl rfl rfl (V.mv rfl rfl) ?_
        refine J.op rfl rfl rfl (V.mv rfl rfl) ?_
        refine J.op rfl rfl rfl (V.ncP hP0 rfl rfl) ?_
        obtain ⟨hC5, h1⟩ := B.chk h1
        refine J.op rfl rfl rfl (V.ixP0 hP0 rfl rfl rfl tr25 ts22 hC5) ?_
        refine J.op rfl rfl rfl (V.ldPk hP0 rfl rfl Tryd.underlying22 ta22 (encA_get1 .i8 _ hC5)) ?_
        refine J.op rfl rfl rfl (V.conv rfl rfl Tryd.underlying22 Tryd.underlying2) ?_
        obtain ⟨r6, hr7, h1⟩ := B.bind h1
        refine J.clA (l := [.tmp 13]) [] [] cf17 (wN rfl) rfl rfl rfl rfl rfl rfl (fun w H => spec_l06Reading.calls (IntKind.wrap .i64 (rdA p0_s s1)) r6 w (Own.refl w)  hr7) fun g8 => ?_
        refine J.op rfl rfl rfl (V.nt rfl rfl) ?_
        refine J.nil ?_
        refine J.tN ?_
        refine J.cond rfl (fun hB9 => ?_) (fun hB9 => ?_)
        · replace h1 := B.t hB9 h1
          refine J.seq ?_
          refine J.region ?_
          refine J.op rfl rfl rfl (V.as rfl rfl) ?_
          refine J.nil ?_
          refine J.tN ?_
          refine J.ret ?_
          refine J.bR ?_
          refine J.tR ?_
          refine J.tR ?_
          refine J.bR ?_
          refine J.tR ?_
          refine J.tR ?_
          obtain rfl := B.d h1
          replace h0 := B.inr h0
          obtain rfl := B.e h0
          exact J.ret1 rfl rfl fun w H => ⟨(), rfl, H.pick [] (by decide)⟩
        · replace h1 := B.f hB9 h1
          refine J.skip ?_
          refine J.bN ?_
          refine J.tN ?_
          refine J.region ?_
          refine J.op rfl rfl rfl (V.mv rfl rfl) ?_
          refine J.op rfl rfl rfl (V.ar rfl rfl rfl rfl) ?_
          refine J.op rfl rfl rfl (V.as rfl rfl) ?_
          obtain ⟨i_10, ei_10, h1⟩ := B.lt h1
          refine J.val (congrArg (Value.int .i64) ei_10) ?_
          refine J.nil ?_
          refine J.tN (J.next i_10 () (B.n h1) ?_)
          exact J.keep _ rfl (J.pickE [] rfl rfl J.here)
      · replace h1 := B.f hB4 h1
        refine J.exit ?_
        refine J.tE ?_
        refine J.tE ?_
        refine J.bE ?_
        obtain rfl := B.d h1
        refine J.tN (J.to ((), ()) rfl ?_)
        exact J.keep _ rfl (J.pickE [] rfl rfl J.here)
  · intro gy12 hG
    replace h0 := B.inl hG h0
    refine J.tN ?_
    refine J.seq ?_
    refine J.region ?_
    refine J.op rfl rfl rfl (V.as rfl rfl) ?_
    refine J.nil ?_
    refine J.tN ?_
    refine J.ret ?_
    obtain rfl := B.e h0
    exact J.ret1 rfl rfl fun w H => ⟨(), rfl, H.pick [] (by decide)⟩

/-! ### spec.Decimal: function 21 -/
noncomputable def spec_Decimal.step (rc : Int → Option (ByteArray)) (p0_n : Int) : Option (ByteArray) := (some (⟨#[]⟩ : ByteArray)).bind fun t1 => bif (decide (p0_n < 10)) then ((some (strB [IntKind.wrap .u8 (IntKind.wrap .i64 (48 + (Int.tmod p0_n 10)))])).bind fun t5 => some t5) else ((rc (IntKind.wrap .i64 (Int.tdiv p0_n 10))).bind fun r6 => bif (catB r6 (strB [IntKind.wrap .u8 (IntKind.wrap .i64 (48 + (Int.tmod p0_n 10)))])) then ((some (r6 ++ (strB [IntKind.wrap .u8 (IntKind.wrap .i64 (48 + (Int.tmod p0_n 10)))]))).bind fun t12 => some t12) else none)
/-- with so many calls of its own on one another -/
noncomputable def spec_Decimal.fuel : Nat → Int → Option (ByteArray)
  | 0, _ => none
  | k + 1, p0_n => spec_Decimal.step (spec_Decimal.fuel k) p0_n
noncomputable def spec_Decimal.f (p0_n : Int) : Option (ByteArray) := spec_Decimal.fuel 64 p0_n
set_option maxRecDepth 100000 in
theorem spec_Decimal.once (rc : Int → Option (ByteArray)) (hrc : ∀ (p0_n : Int) (r : ByteArray) (w : World) (H0 : Own [] w w []) (h0 : rc p0_n = some r), Calls Tryd.prog 21 #[.int .i64 p0_n] w (fun e w' => ∃ _ : Unit, e = .returned (.string r) ∧ Own [] w w' [])) : ∀ (p0_n : Int) (r : ByteArray) (w : World) (H0 : Own [] w w []) (h0 : spec_Decimal.step rc p0_n = some r), Calls Tryd.prog 21 #[.int .i64 p0_n] w (fun e w' => ∃ _ : Unit, e = .returned (.string r) ∧ Own [] w w' []) := by
  intro p0_n r w H0  h0
  unfold spec_Decimal.step at h0
  replace h0 := B.top h0
  refine calls_of_J (args := [.int .i64 p0_n]) Tryd.func21 rfl Tryd.ntmps21 rfl [(0, .int .i64 p0_n)] rfl H0 ?_
  refine J.seq ?_
  refine J.region ?_
  refine J.op rfl rfl rfl (V.as rfl rfl) ?_
  obtain ⟨t1, et1, h0⟩ := B.lt h0
  refine J.val (congrArg (Value.string) et1) ?_
  refine J.nil ?_
  refine J.tN ?_
  refine J.seq ?_
  refine J.seq ?_
  refine J.region ?_
  refine J.op rfl rfl rfl (V.mv rfl rfl) ?_
  refine J.op rfl rfl rfl (V.cmp rfl rfl rfl rfl) ?_
  refine J.nil ?_
  refine J.tN ?_
  refine J.cond rfl (fun hB2 => ?_) (fun hB2 => ?_)
  · replace h0 := B.t hB2 h0
    refine J.seq ?_
    refine J.region ?_
    refine J.op rfl rfl rfl (V.mv rfl rfl) ?_
    refine J.op rfl rfl rfl (V.rem rfl rfl rfl rfl) ?_
    refine J.op rfl rfl rfl (V.ar rfl rfl rfl rfl) ?_
    refine J.op rfl rfl rfl (V.conv rfl rfl Tryd.underlying2 Tryd.underlying5) ?_
    refine J.bs (l := [(0, .tmp 8)]) (cs := [.int .u8 (IntKind.wrap .u8 (IntKind.wrap .i64 (48 + (Int.tmod p0_n 10))))]) (E := 5) rfl rfl rfl rfl rfl (fun w => by kernel_rfl) fun b3 => ?_
    refine J.blkRowE (eI .u8) [IntKind.wrap .u8 (IntKind.wrap .i64 (48 + (Int.tmod p0_n 10)))] 1 rfl rfl rfl ?_
    refine J.op rfl rfl rfl (V.b2s (fun _ H => Own.sl0 0 H rfl) rfl rfl tl56 Tryd.underlying5 Tryd.underlying9) ?_
    refine J.op rfl rfl rfl (V.as rfl rfl) ?_
    obtain ⟨t5, et5, h0⟩ := B.lt h0
    refine J.val (congrArg (Value.string) et5) ?_
    refine J.nil ?_
    refine J.tN ?_
    refine J.ret ?_
    refine J.tR ?_
    obtain rfl := B.e h0
    exact J.ret1 rfl rfl fun w H => ⟨(), rfl, H.pick [] (by decide)⟩
  · replace h0 := B.f hB2 h0
    refine J.skip ?_
    refine J.tN ?_
    refine J.seq ?_
    obtain ⟨r6, hr7, h0⟩ := B.bind h0
    obtain ⟨hC11, h0⟩ := B.chk h0
    obtain ⟨t12, et12, h0⟩ := B.lt h0
    refine J.cutQ (γ := Value) (fun _ => True) (fun gx13 => [(2, .string t12)]) (fun gx13 => [.rowE gx13 5 (eI .u8) [IntKind.wrap .u8 (IntKind.wrap .i64 (48 + (Int.tmod p0_n 10)))]]) ?_ ?_
    · refine J.any 11 rfl [] mixed ?_
      refine JH.take (i := 0) [] rfl (by kernel_rfl) rfl rfl rfl rfl rfl (V.mv rfl rfl) ?_
      refine JH.take (i := 1) [] rfl (by kernel_rfl) rfl rfl rfl rfl rfl (V.quo rfl rfl rfl rfl) ?_
      refine JH.take (i := 3) [] rfl (by kernel_rfl) rfl rfl rfl rfl rfl (V.mv rfl rfl) ?_
      refine JH.take (i := 4) [] rfl (by kernel_rfl) rfl rfl rfl rfl rfl (V.rem rfl rfl rfl rfl) ?_
      refine JH.take (i := 5) [] rfl (by kernel_rfl) rfl rfl rfl rfl rfl (V.ar rfl rfl rfl rfl) ?_
      refine JH.take (i := 6) [] rfl (by kernel_rfl) rfl rfl rfl rfl rfl (V.conv rfl rfl Tryd.underlying2 Tryd.underlying5) ?_
      refine JH.all [2, 7] (by kernel_rfl) rfl (JHall.cons (JH.op rfl ?_) (JHall.cons (JH.op rfl ?_) (JHall.nil)))
      · refine J.clA (l := [.tmp 12]) [] [] cf21 (wN rfl) rfl rfl rfl rfl rfl rfl (fun w H => hrc (IntKind.wrap .i64 (Int.tdiv p0_n 10)) r6 w (Own.refl w)  hr7) fun g8 => ?_
        refine J.nil ?_
        refine JH.back [] rfl rfl ?_
        refine JH.all [7] (by kernel_rfl) rfl (JHall.cons (JH.op rfl ?_) (JHall.nil))
        refine J.bs (l := [(0, .tmp 17)]) (cs := [.int .u8 (IntKind.wrap .u8 (IntKind.wrap .i64 (48 + (Int.tmod p0_n 10))))]) (E := 5) rfl rfl rfl rfl rfl (fun w => by kernel_rfl) fun b9 => ?_
        refine J.nil ?_
        refine JH.back [] rfl rfl ?_
        refine JH.all [8] (by kernel_rfl) rfl (JHall.cons (JH.op rfl ?_) (JHall.nil))
        refine J.blkRowE (eI .u8) [IntKind.wrap .u8 (IntKind.wrap .i64 (48 + (Int.tmod p0_n 10)))] 1 rfl rfl rfl ?_
        refine J.op rfl rfl rfl (V.b2s (fun _ H => Own.sl0 0 H rfl) rfl rfl tl56 Tryd.underlying5 Tryd.underlying9) ?_
        refine J.nil ?_
        refine JH.back [] rfl rfl ?_
        refine JH.take (i := 9) [] rfl (by kernel_rfl) rfl rfl rfl rfl rfl (V.cat rfl rfl rfl hC11) ?_
        refine JH.take (i := 10) [] rfl (by kernel_rfl) rfl rfl rfl rfl rfl (V.as rfl rfl) ?_
        refine JH.val (congrArg (Value.string) et12) ?_
        refine JH.fin (by kernel_rfl) ?_
        refine J.tN (J.to (.slice (some ⟨b9, 0, none⟩) 1 1) trivial ?_)
        exact J.keep _ rfl (J.pickE [0] rfl rfl J.here)
      · refine J.bs (l := [(0, .tmp 17)]) (cs := [.int .u8 (IntKind.wrap .u8 (IntKind.wrap .i64 (48 + (Int.tmod p0_n 10))))]) (E := 5) rfl rfl rfl rfl rfl (fun w => by kernel_rfl) fun b9 => ?_
        refine J.nil ?_
        refine JH.back [] rfl rfl ?_
        refine JH.all [2, 8] (by kernel_rfl) rfl (JHall.cons (JH.op rfl ?_) (JHall.cons (JH.op rfl ?_) (JHall.nil)))
        · refine J.clA (l := [.tmp 12]) [] [.blk b9 [.int .u8 (IntKind.wrap .u8 (IntKind.wrap .i64 (48 + (Int.tmod p0_n 10))))] 5] cf21 (wN rfl) rfl rfl rfl rfl rfl rfl (fun w H => hrc (IntKind.wrap .i64 (Int.tdiv p0_n 10)) r6 w (Own.refl w)  hr7) fun g8 => ?_
          refine J.nil ?_
          refine JH.back [] rfl rfl ?_
          refine JH.all [8] (by kernel_rfl) rfl (JHall.cons (JH.op rfl ?_) (JHall.nil))
          refine J.blkRowE (eI .u8) [IntKind.wrap .u8 (IntKind.wrap .i64 (48 + (Int.tmod p0_n 10)))] 1 rfl rfl rfl ?_
          refine J.op rfl rfl rfl (V.b2s (fun _ H => Own.sl0 0 H rfl) rfl rfl tl56 Tryd.underlying5 Tryd.underlying9) ?_
          refine J.nil ?_
          refine JH.back [] rfl rfl ?_
          refine JH.take (i := 9) [] rfl (by kernel_rfl) rfl rfl rfl rfl rfl (V.cat rfl rfl rfl hC11) ?_
          refine JH.take (i := 10) [] rfl (by kernel_rfl) rfl rfl rfl rfl rfl (V.as rfl rfl) ?_
          refine JH.val (congrArg (Value.string) et12) ?_
          refine JH.fin (by kernel_rfl) ?_
          refine J.tN (J.to (.slice (some ⟨b9, 0, none⟩) 1 1) trivial ?_)
          exact J.keep _ rfl (J.pickE [0] rfl rfl J.here)
        · refine J.blkRowE (eI .u8) [IntKind.wrap .u8 (IntKind.wrap .i64 (48 + (Int.tmod p0_n 10)))] 1 rfl rfl rfl ?_
          refine J.op rfl rfl rfl (V.b2s (fun _ H => Own.sl0 0 H rfl) rfl rfl tl56 Tryd.underlying5 Tryd.underlying9) ?_
          refine J.nil ?_
          refine JH.back [] rfl rfl ?_
          refine JH.all [2] (by kernel_rfl) rfl (JHall.cons (JH.op rfl ?_) (JHall.nil))
          refine J.clA (l := [.tmp 12]) [] [.rowE (.slice (some ⟨b9, 0, none⟩) 1 1) 5 (eI .u8) [IntKind.wrap .u8 (IntKind.wrap .i64 (48 + (Int.tmod p0_n 10)))]] cf21 (wN rfl) rfl rfl rfl rfl rfl rfl (fun w H => hrc (IntKind.wrap .i64 (Int.tdiv p0_n 10)) r6 w (Own.refl w)  hr7) fun g8 => ?_
          refine J.nil ?_
          refine JH.back [] rfl rfl ?_
          refine JH.take (i := 9) [] rfl (by kernel_rfl) rfl rfl rfl rfl rfl (V.cat rfl rfl rfl hC11) ?_
          refine JH.take (i := 10) [] rfl (by kernel_rfl) rfl rfl rfl rfl rfl (V.as rfl rfl) ?_
          refine JH.val (congrArg (Value.string) et12) ?_
          refine JH.fin (by kernel_rfl) ?_
          refine J.tN (J.to (.slice (some ⟨b9, 0, none⟩) 1 1) trivial ?_)
          exact J.keep _ rfl (J.pickE [0] rfl rfl J.here)
    · intro gx13 _
      refine J.tN ?_
      refine J.ret ?_
      obtain rfl := B.e h0
      exact J.ret1 rfl rfl fun w H => ⟨(), rfl, H.pick [] (by decide)⟩
theorem spec_Decimal.fuel_calls : ∀ k, ∀ (p0_n : Int) (r : ByteArray) (w : World) (H0 : Own [] w w []) (h0 : spec_Decimal.fuel k p0_n = some r), Calls Tryd.prog 21 #[.int .i64 p0_n] w (fun e w' => ∃ _ : Unit, e = .returned (.string r) ∧ Own [] w w' [])
  | 0 => fun _ => by intros; exact absurd ‹_› (by simp [spec_Decimal.fuel])
  | k + 1 => spec_Decimal.once (spec_Decimal.fuel k) (spec_Decimal.fuel_calls k)
theorem spec_Decimal.calls (p0_n : Int) (r : ByteArray) (w : World) (H0 : Own [] w w []) (h0 : spec_Decimal.f p0_n = some r) :
    Calls Tryd.prog 21 #[.int .i64 p0_n] w (fun e w' => ∃ _ : Unit, e = .returned (.string r) ∧ Own [] w w' []) := spec_Decimal.fuel_calls 64 p0_n r w H0  h0

/-! ### spec.l06Text: function 12 -/
noncomputable def spec_l06Text.b1 (p0_s : (Vector Int 24)) : (ByteArray × Int) → Option (Step (ByteArray × Int) (ByteArray)) := fun s3 => bif (decide (s3.2 < 24)) then (((some (s3.2 == 0)).bind fun t9 => bif t9 then (some s3.1) else ((some ((Int.tmod s3.2 6) == 0)).bind fun t11 => bif t11 then (bif (catB s3.1 (⟨#[47]⟩ : ByteArray)) then ((some (s3.1 ++ (⟨#[47]⟩ : ByteArray))).bind fun out_14 => some out_14) else none) else (bif (catB s3.1 (⟨#[32]⟩ : ByteArray)) then ((some (s3.1 ++ (⟨#[32]⟩ : ByteArray))).bind fun out_16 => some out_16) else none)) : Option (ByteArray)).bind fun y7 => bif (inB s3.2 24) then ((spec_Decimal.f (IntKind.wrap .i64 (rdA p0_s s3.2))).bind fun r19 => bif (catB y7 r19) then ((some (y7 ++ r19)).bind fun out_23 => (some (IntKind.wrap .i64 (s3.2 + 1))).bind fun i_24 => some (.next (out_23, i_24))) else none) else none) else (some (.done s3.1))
noncomputable def spec_l06Text.f (p0_s : (Vector Int 24)) : Option (ByteArray) := (some (⟨#[]⟩ : ByteArray)).bind fun t1 => (some (⟨#[]⟩ : ByteArray)).bind fun out_2 => (loopW (spec_l06Text.b1 p0_s) (out_2, 0)).bind fun y25 => some y25
set_option maxRecDepth 100000 in
theorem spec_l06Text.calls (v0 : Value) (p0_s : (Vector Int 24)) (r : ByteArray) (w : World) (H0 : Own [] w w []) (hP0 : Rp [] w v0 (encA .i8 p0_s)) (h0 : spec_l06Text.f p0_s = some r) :
    Calls Tryd.prog 12 #[v0] w (fun e w' => ∃ _ : Unit, e = .returned (.string r) ∧ Own [] w w' []) := by
  unfold spec_l06Text.f at h0
  replace h0 := B.top h0
  refine calls_of_J (args := [v0]) Tryd.func12 rfl Tryd.ntmps12 rfl [(0, v0)] rfl H0 ?_
  refine J.seq ?_
  refine J.region ?_
  refine J.op rfl rfl rfl (V.as rfl rfl) ?_
  obtain ⟨t1, et1, h0⟩ := B.lt h0
  refine J.val (congrArg (Value.string) et1) ?_
  refine J.nil ?_
  refine J.tN ?_
  refine J.seq ?_
  refine J.region ?_
  refine J.op rfl rfl rfl (V.as rfl rfl) ?_
  obtain ⟨out_2, eout_2, h0⟩ := B.lt h0
  refine J.val (congrArg (Value.string) eout_2) ?_
  refine J.nil ?_
  refine J.tN ?_
  refine J.seq ?_
  refine J.seq ?_
  refine J.region ?_
  refine J.op rfl rfl rfl (V.as rfl rfl) ?_
  refine J.nil ?_
  refine J.tN ?_
  obtain ⟨y25, hy27, h0⟩ := B.bind h0
  refine J.cutQ (γ := Unit) (fun _ => True) (fun gy26 => [(3, .string y25)]) (fun gy26 => []) ?_ ?_
  · refine J.block ?_
    refine J.loop (γ := Unit) hy27 (fun s3 g4 => [(0, v0), (3, .string s3.1), (4, .int .i64 s3.2)]) (fun s3 g4 => []) () ?_ ?_
    · exact J.keep _ rfl (J.pickE [] rfl rfl J.here)
    · intro rec5 s3 g4 h1
      unfold spec_l06Text.b1 at h1
      refine J.seq ?_
      refine J.seq ?_
      refine J.region ?_
      refine J.op rfl rfl rfl (V.mv rfl rfl) ?_
      refine J.op rfl rfl rfl (V.cmp rfl rfl rfl rfl) ?_
      refine J.nil ?_
      refine J.tN ?_
      refine J.cond rfl (fun hB6 => ?_) (fun hB6 => ?_)
      · replace h1 := B.t hB6 h1
        refine J.skip ?_
        refine J.tN ?_
        refine J.seq ?_
        refine J.block ?_
        refine J.seq ?_
        obtain ⟨y7, hy17, h1⟩ := B.bind h1
        replace hy17 := B.top hy17
        refine J.cut (γ := Unit) (fun _ => True) (fun gy8 => [(0, v0), (3, .string y7), (4, .int .i64 s3.2)]) (fun gy8 => []) ?_ ?_
        · have h2 := hy17
          refine J.block ?_
          refine J.seq ?_
          refine J.region ?_
          refine J.op rfl rfl rfl (V.mv rfl rfl) ?_
          refine J.op rfl rfl rfl (V.cmp rfl rfl rfl rfl) ?_
          refine J.op rfl rfl rfl (V.as rfl rfl) ?_
          obtain ⟨t9, et9, h2⟩ := B.lt h2
          refine J.val (congrArg (Value.bool) et9) ?_
          refine J.nil ?_
          refine J.tN ?_
          refine J.cond rfl (fun hB10 => ?_) (fun hB10 => ?_)
          · replace h2 := B.t hB10 h2
            refine J.skip ?_
            refine J.bN ?_
            obtain rfl := B.e h2
            refine J.tN (J.to () trivial ?_)
            exact J.keep _ rfl (J.pickE [] rfl rfl J.here)
          · replace h2 := B.f hB10 h2
            refine J.seq ?_
            refine J.region ?_
            refine J.op rfl rfl rfl (V.mv rfl rfl) ?_
            refine J.op rfl rfl rfl (V.rem rfl rfl rfl rfl) ?_
            refine J.op rfl rfl rfl (V.cmp rfl rfl rfl rfl) ?_
            refine J.op rfl rfl rfl (V.as rfl rfl) ?_
            obtain ⟨t11, et11, h2⟩ := B.lt h2
            refine J.val (congrArg (Value.bool) et11) ?_
            refine J.nil ?_
            refine J.tN ?_
            refine J.cond rfl (fun hB12 => ?_) (fun hB12 => ?_)
            · replace h2 := B.t hB12 h2
              refine J.region ?_
              refine J.op rfl rfl rfl (V.mv rfl rfl) ?_
              obtain ⟨hC13, h2⟩ := B.chk h2
              refine J.op rfl rfl rfl (V.cat rfl rfl rfl hC13) ?_
              refine J.op rfl rfl rfl (V.as rfl rfl) ?_
              obtain ⟨out_14, eout_14, h2⟩ := B.lt h2
              refine J.val (congrArg (Value.string) eout_14) ?_
              refine J.nil ?_
              refine J.bN ?_
              obtain rfl := B.e h2
              refine J.tN (J.to () trivial ?_)
              exact J.keep _ rfl (J.pickE [] rfl rfl J.here)
            · replace h2 := B.f hB12 h2
              refine J.region ?_
              refine J.op rfl rfl rfl (V.mv rfl rfl) ?_
              obtain ⟨hC15, h2⟩ := B.chk h2
              refine J.op rfl rfl rfl (V.cat rfl rfl rfl hC15) ?_
              refine J.op rfl rfl rfl (V.as rfl rfl) ?_
              obtain ⟨out_16, eout_16, h2⟩ := B.lt h2
              refine J.val (congrArg (Value.string) eout_16) ?_
              refine J.nil ?_
              refine J.bN ?_
              obtain rfl := B.e h2
              refine J.tN (J.to () trivial ?_)
              exact J.keep _ rfl (J.pickE [] rfl rfl J.here)
        · intro gy8 _
          refine J.region ?_
          refine J.op rfl rfl rfl (V.mv rfl rfl) ?_
          refine J.op rfl rfl rfl (V.mv rfl rfl) ?_
          refine J.op rfl rfl rfl (V.mv rfl rfl) ?_
          refine J.op rfl rfl rfl (V.ncP hP0 rfl rfl) ?_
          obtain ⟨hC18, h1⟩ := B.chk h1
          refine J.op rfl rfl rfl (V.ixP0 hP0 rfl rfl rfl tr25 ts22 hC18) ?_
          refine J.op rfl rfl rfl (V.ldPk hP0 rfl rfl Tryd.underlying22 ta22 (encA_get1 .i8 _ hC18)) ?_
          refine J.op rfl rfl rfl (V.conv rfl rfl Tryd.underlying22 Tryd.underlying2) ?_
          obtain ⟨r19, hr20, h1⟩ := B.bind h1
          refine J.clA (l := [.tmp 26]) [] [] cf21 (wN rfl) rfl rfl rfl rfl rfl rfl (fun w H => spec_Decimal.calls (IntKind.wrap .i64 (rdA p0_s s3.2)) r19 w (Own.refl w)  hr20) fun g21 => ?_
          obtain ⟨hC22, h1⟩ := B.chk h1
          refine J.op rfl rfl rfl (V.cat rfl rfl rfl hC22) ?_
          refine J.op rfl rfl rfl (V.as rfl rfl) ?_
          obtain ⟨out_23, eout_23, h1⟩ := B.lt h1
          refine J.val (congrArg (Value.string) eout_23) ?_
          refine J.nil ?_
          refine J.bN ?_
          refine J.tN ?_
          refine J.region ?_
          refine J.op rfl rfl rfl (V.mv rfl rfl) ?_
          refine J.op rfl rfl rfl (V.ar rfl rfl rfl rfl) ?_
          refine J.op rfl rfl rfl (V.as rfl rfl) ?_
          obtain ⟨i_24, ei_24, h1⟩ := B.lt h1
          refine J.val (congrArg (Value.int .i64) ei_24) ?_
          refine J.nil ?_
          refine J.tN (J.next (out_23, i_24) () (B.n h1) ?_)
          exact J.keep _ rfl (J.pickE [] rfl rfl J.here)
      · replace h1 := B.f hB6 h1
        refine J.exit ?_
        refine J.tE ?_
        refine J.tE ?_
        refine J.bE ?_
        obtain rfl := B.d h1
        refine J.tN (J.to () trivial ?_)
        exact J.keep _ rfl (J.pickE [] rfl rfl J.here)
  · intro gy26 _
    refine J.tN ?_
    refine J.seq ?_
    refine J.region ?_
    refine J.op rfl rfl rfl (V.mv rfl rfl) ?_
    refine J.op rfl rfl rfl (V.as rfl rfl) ?_
    refine J.nil ?_
    refine J.tN ?_
    refine J.ret ?_
    obtain rfl := B.e h0
    exact J.ret1 rfl rfl fun w H => ⟨(), rfl, H.pick [] (by decide)⟩

/-! ### spec.SceneText: function 5 -/
noncomputable def spec_SceneText.f (p0_s : (Vector Int 24)) : Option (ByteArray) := (some (⟨#[]⟩ : ByteArray)).bind fun t3 => (spec_l06Ok.f p0_s).bind fun r4 => bif (!r4) then ((some (⟨#[]⟩ : ByteArray)).bind fun t8 => some t8) else ((spec_l06Text.f p0_s).bind fun r9 => some r9)
set_option maxRecDepth 100000 in
theorem spec_SceneText.calls (p0_s : (Vector Int 24)) (r : ByteArray) (w : World) (H0 : Own [] w w []) (h0 : spec_SceneText.f p0_s = some r) :
    Calls Tryd.prog 5 #[.agg (encA .i8 p0_s).toArray] w (fun e w' => ∃ _ : Unit, e = .returned (.string r) ∧ Own [] w w' []) := by
  unfold spec_SceneText.f at h0
  replace h0 := B.top h0
  refine calls_of_J (args := [.agg (encA .i8 p0_s).toArray]) Tryd.func5 rfl Tryd.ntmps5 rfl [(0, .agg (encA .i8 p0_s).toArray)] rfl H0 ?_
  refine J.seq ?_
  refine J.region ?_
  refine J.box rfl rfl rfl rfl rfl (fun _ _ => rfl) fun b1 => ?_
  refine J.op rfl rfl rfl (V.as rfl rfl) ?_
  obtain ⟨t3, et3, h0⟩ := B.lt h0
  refine J.val (congrArg (Value.string) et3) ?_
  refine J.nil ?_
  refine J.tN ?_
  refine J.seq ?_
  refine J.seq ?_
  refine J.region ?_
  obtain ⟨r4, hr5, h0⟩ := B.bind h0
  refine J.clA (l := [.tmp 1]) [] [.blk b1 (encA .i8 p0_s) 25] cf11 (wN rfl) rfl rfl rfl rfl rfl rfl (fun w H => spec_l06Ok.calls (bp b1 0) p0_s r4 w (Own.refl w) (Own.rpA 0 H rfl) hr5) fun g6 => ?_
  refine J.op rfl rfl rfl (V.nt rfl rfl) ?_
  refine J.nil ?_
  refine J.tN ?_
  refine J.cond rfl (fun hB7 => ?_) (fun hB7 => ?_)
  · replace h0 := B.t hB7 h0
    refine J.seq ?_
    refine J.region ?_
    refine J.op rfl rfl rfl (V.as rfl rfl) ?_
    obtain ⟨t8, et8, h0⟩ := B.lt h0
    refine J.val (congrArg (Value.string) et8) ?_
    refine J.nil ?_
    refine J.tN ?_
    refine J.ret ?_
    refine J.tR ?_
    obtain rfl := B.e h0
    exact J.ret1 rfl rfl fun w H => ⟨(), rfl, H.pick [] (by decide)⟩
  · replace h0 := B.f hB7 h0
    refine J.skip ?_
    refine J.tN ?_
    refine J.seq ?_
    refine J.region ?_
    obtain ⟨r9, hr10, h0⟩ := B.bind h0
    refine J.clA (l := [.tmp 1]) [] [.blk b1 (encA .i8 p0_s) 25] cf12 (wN rfl) rfl rfl rfl rfl rfl rfl (fun w H => spec_l06Text.calls (bp b1 0) p0_s r9 w (Own.refl w) (Own.rpA 0 H rfl) hr10) fun g11 => ?_
    refine J.op rfl rfl rfl (V.as rfl rfl) ?_
    refine J.nil ?_
    refine J.tN ?_
    refine J.ret ?_
    obtain rfl := B.e h0
    exact J.ret1 rfl rfl fun w H => ⟨(), rfl, H.pick [] (by decide)⟩

/-! ### laws.toScene: function 6 -/
noncomputable def laws_toScene.b1 (p0_a : (Vector Int 24)) : (Int × (Vector Int 24)) → Option (Step (Int × (Vector Int 24)) ((Vector Int 24))) := fun s7 => bif (decide (s7.1 < 24)) then (bif (inB s7.1 24) then (bif (inB s7.1 24) then ((some (wrA s7.2 s7.1 (rdA p0_a s7.1))).bind fun m13 => (some (IntKind.wrap .i64 (s7.1 + 1))).bind fun i_14 => some (.next (i_14, m13))) else none) else none) else (some (.done s7.2))
noncomputable def laws_toScene.f (p0_a : (Vector Int 24)) : Option ((Vector Int 24)) := (loopW (laws_toScene.b1 p0_a) (0, (zA 24))).bind fun y15 => some y15
set_option maxRecDepth 100000 in
theorem laws_toScene.calls (p0_a : (Vector Int 24)) (r : (Vector Int 24)) (w : World) (H0 : Own [] w w []) (h0 : laws_toScene.f p0_a = some r) :
    Calls Tryd.prog 6 #[.agg (encA .i8 p0_a).toArray] w (fun e w' => ∃ _ : Unit, e = .returned (.agg (encA .i8 r).toArray) ∧ Own [] w w' []) := by
  unfold laws_toScene.f at h0
  replace h0 := B.top h0
  refine calls_of_J (args := [.agg (encA .i8 p0_a).toArray]) Tryd.func6 rfl Tryd.ntmps6 rfl [(0, .agg (encA .i8 p0_a).toArray)] rfl H0 ?_
  refine J.seq ?_
  refine J.region ?_
  refine J.box rfl rfl rfl rfl rfl (fun _ _ => rfl) fun b1 => ?_
  refine J.alloc rfl rfl rfl rfl tz25 rfl fun b3 => ?_
  refine J.nil ?_
  refine J.tN ?_
  refine J.seq ?_
  refine J.region ?_
  refine J.alloc rfl rfl rfl rfl tz25 rfl fun b5 => ?_
  refine J.nil ?_
  refine J.tN ?_
  refine J.seq ?_
  refine J.seq ?_
  refine J.region ?_
  refine J.op rfl rfl rfl (V.as rfl rfl) ?_
  refine J.nil ?_
  refine J.tN ?_
  obtain ⟨y15, hy17, h0⟩ := B.bind h0
  refine J.cutQ (γ := Unit) (fun _ => True) (fun gy16 => [(2, bp b3 0), (3, bp b5 0)]) (fun gy16 => [.blk b5 (encA .i8 y15) 25, .blk b3 (encA .i8 (zA 24)) 25, .blk b1 (encA .i8 p0_a) 23]) ?_ ?_
  · refine J.block ?_
    refine J.loop (γ := Unit) hy17 (fun s7 g8 => [(1, bp b1 0), (2, bp b3 0), (3, bp b5 0), (4, .int .i64 s7.1)]) (fun s7 g8 => [.blk b5 (encA .i8 s7.2) 25, .blk b3 (encA .i8 (zA 24)) 25, .blk b1 (encA .i8 p0_a) 23]) () ?_ ?_
    · exact J.keep _ rfl (J.pickE [0, 1, 2] rfl rfl J.here)
    · intro rec9 s7 g8 h1
      unfold laws_toScene.b1 at h1
      refine J.seq ?_
      refine J.seq ?_
      refine J.region ?_
      refine J.op rfl rfl rfl (V.mv rfl rfl) ?_
      refine J.op rfl rfl rfl (V.cmp rfl rfl rfl rfl) ?_
      refine J.nil ?_
      refine J.tN ?_
      refine J.cond rfl (fun hB10 => ?_) (fun hB10 => ?_)
      · replace h1 := B.t hB10 h1
        refine J.skip ?_
        refine J.tN ?_
        refine J.seq ?_
        refine J.block ?_
        refine J.region ?_
        refine J.op rfl rfl rfl (V.mv rfl rfl) ?_
        refine J.op rfl rfl rfl (V.mv rfl rfl) ?_
        obtain ⟨hC11, h1⟩ := B.chk h1
        refine J.op rfl rfl rfl (V.ixB rfl rfl rfl tr23 ts22 hC11) ?_
        refine J.op rfl rfl rfl (V.ldB 2 rfl rfl rfl Tryd.underlying22 ta22 (encA_get0 .i8 _ hC11)) ?_
        obtain ⟨hC12, h1⟩ := B.chk h1
        refine J.op rfl rfl rfl (V.ixB rfl rfl rfl tr25 ts22 hC12) ?_
        refine J.stB 0 rfl rfl rfl rfl rfl rfl ts22 (fun _ _ => rfl) (encA_lt .i8 _ hC12) ?_
        refine J.setEnt 0 rfl (congrArg (fun q => Ent.blk _ q _) (encA_set .i8 _ _ _)) ?_
        obtain ⟨m13, em13, h1⟩ := B.lt h1
        refine J.setEnt 0 rfl (congrArg (fun q => Ent.blk _ (encA .i8 q) _) em13) ?_
        refine J.nil ?_
        refine J.bN ?_
        refine J.tN ?_
        refine J.region ?_
        refine J.op rfl rfl rfl (V.mv rfl rfl) ?_
        refine J.op rfl rfl rfl (V.ar rfl rfl rfl rfl) ?_
        refine J.op rfl rfl rfl (V.as rfl rfl) ?_
        obtain ⟨i_14, ei_14, h1⟩ := B.lt h1
        refine J.val (congrArg (Value.int .i64) ei_14) ?_
        refine J.nil ?_
        refine J.tN (J.next (i_14, m13) () (B.n h1) ?_)
        exact J.keep _ rfl (J.pickE [0, 1, 2] rfl rfl J.here)
      · replace h1 := B.f hB10 h1
        refine J.exit ?_
        refine J.tE ?_
        refine J.tE ?_
        refine J.bE ?_
        obtain rfl := B.d h1
        refine J.tN (J.to () trivial ?_)
        exact J.keep _ rfl (J.pickE [0, 1, 2] rfl rfl J.here)
  · intro gy16 _
    refine J.tN ?_
    refine J.seq ?_
    refine J.region ?_
    refine J.op rfl rfl rfl (V.ldW 0 rfl rfl rfl ts25 ta25 (encA_len _ _)) ?_
    refine J.stW (cs' := encA .i8 y15) 1 rfl rfl rfl rfl rfl rfl ts25 rfl (fun _ _ => encA_one .i8 _) (encA_len _ _) (encA_len _ _) ?_
    refine J.nil ?_
    refine J.tN ?_
    refine J.ret ?_
    obtain rfl := B.e h0
    exact J.retC 1 rfl rfl rfl ts25 ta25 (encA_len _ _) fun w H => ⟨(), rfl, H.pick [] (by decide)⟩

/-! ### slices.IndexFunc[[]int8,int8]: function 32 -/
noncomputable def slices_IndexFunc_int8_int8.b1 (p0_s : (List Int)) (p1_f : Int → Option Bool) : Int → Option (Step (Int) (Sum (Unit) (Int))) := fun s1 => bif (decide (s1 < (p0_s.length : Int))) then (bif (inB s1 p0_s.length) then ((p1_f (rd (eI .i8) p0_s s1)).bind fun r6 => bif r6 then (some (.done (.inr s1))) else (some (.next (IntKind.wrap .i64 (s1 + 1))))) else none) else (some (.done (.inl ())))
noncomputable def slices_IndexFunc_int8_int8.f (p0_s : (List Int)) (p1_f : Int → Option Bool) : Option (Int) := (loopW (slices_IndexFunc_int8_int8.b1 p0_s p1_f) 0).bind (Sum.elim (fun y11 => some (-1)) (fun r => some r))
set_option maxRecDepth 100000 in
theorem slices_IndexFunc_int8_int8.calls (v0 : Value) (p0_s : (List Int)) (g1_ : Nat) (c1_ : Array Value) (p1_f : Int → Option Bool) (r : Int) (w : World) (H0 : Own [] w w []) (hS0 : SlE [] w v0 22 (eI .i8) p0_s) (hg1 : CallsFn Tryd.prog g1_) (hF1 : ∀ w2 (x : Int) r, Own [] w w2 [] → p1_f x = some r → Calls Tryd.prog g1_ (#[.int .i8 x] ++ c1_) w2 (fun e w3 => ∃ _ : Unit, e = .returned (.bool r) ∧ Own [] w2 w3 [])) (h0 : slices_IndexFunc_int8_int8.f p0_s p1_f = some r) :
    Calls Tryd.prog 32 #[v0, .func (.func g1_) #[] c1_] w (fun e w' => ∃ _ : Unit, e = .returned (.int .i64 r) ∧ Own [] w w' []) := by
  unfold slices_IndexFunc_int8_int8.f at h0
  replace h0 := B.top h0
  refine calls_of_J (args := [v0, .func (.func g1_) #[] c1_]) Tryd.func32 rfl Tryd.ntmps32 rfl [(0, v0), (1, .func (.func g1_) #[] c1_)] rfl H0 ?_
  refine J.seq ?_
  refine J.region ?_
  refine J.op rfl rfl rfl (V.as rfl rfl) ?_
  refine J.nil ?_
  refine J.tN ?_
  refine J.seq ?_
  refine J.seq ?_
  refine J.region ?_
  refine J.op rfl rfl rfl (V.mv rfl rfl) ?_
  refine J.op rfl rfl rfl (V.lenS hS0 rfl rfl tl49) ?_
  refine J.op rfl rfl rfl (V.mv rfl rfl) ?_
  refine J.nil ?_
  refine J.tN ?_
  obtain ⟨o13, hy12, h0⟩ := B.bind h0
  refine J.cutQ (γ := (Unit) × (Unit)) (fun gy11 => o13 = .inl gy11.1) (fun gy11 => []) (fun gy11 => []) ?_ ?_
  · refine J.block ?_
    refine J.loop (γ := Unit) hy12 (fun s1 g2 => [(0, v0), (1, .func (.func g1_) #[] c1_), (7, .int .i64 (p0_s.length : Int)), (8, .int .i64 s1)]) (fun s1 g2 => []) () ?_ ?_
    · exact J.keep _ rfl (J.pickE [] rfl rfl J.here)
    · intro rec3 s1 g2 h1
      unfold slices_IndexFunc_int8_int8.b1 at h1
      refine J.seq ?_
      refine J.region ?_
      refine J.op rfl rfl rfl (V.cmp rfl rfl rfl rfl) ?_
      refine J.nil ?_
      refine J.tN ?_
      refine J.seq ?_
      refine J.cond rfl (fun hB4 => ?_) (fun hB4 => ?_)
      · replace h1 := B.t hB4 h1
        refine J.skip ?_
        refine J.tN ?_
        refine J.seq ?_
        refine J.block ?_
        refine J.seq ?_
        refine J.region ?_
        refine J.op rfl rfl rfl (V.mv rfl rfl) ?_
        refine J.op rfl rfl rfl (V.as rfl rfl) ?_
        refine J.nil ?_
        refine J.tN ?_
        refine J.seq ?_
        refine J.region ?_
        refine J.op rfl rfl rfl (V.mv rfl rfl) ?_
        refine J.op rfl rfl rfl (V.mv rfl rfl) ?_
        refine J.op rfl rfl rfl (V.mv rfl rfl) ?_
        obtain ⟨hC5, h1⟩ := B.chk h1
        refine J.op rfl rfl rfl (V.ixS hS0 rfl rfl rfl tl49 ts22 hC5) ?_
        refine J.op rfl rfl rfl (V.elS0 hS0 hC5 rfl rfl Tryd.underlying22 ta22 rfl) ?_
        obtain ⟨r6, hr7, h1⟩ := B.bind h1
        refine J.clA (l := [.tmp 15]) [] [] hg1 (wN rfl) rfl rfl rfl rfl rfl rfl (fun w H => hF1 w (rd (eI .i8) p0_s s1) r6 (Own.bare H)  hr7) fun g8 => ?_
        refine J.nil ?_
        refine J.tN ?_
        refine J.cond rfl (fun hB9 => ?_) (fun hB9 => ?_)
        · replace h1 := B.t hB9 h1
          refine J.seq ?_
          refine J.region ?_
          refine J.op rfl rfl rfl (V.mv rfl rfl) ?_
          refine J.op rfl rfl rfl (V.as rfl rfl) ?_
          refine J.nil ?_
          refine J.tN ?_
          refine J.ret ?_
          refine J.bR ?_
          refine J.tR ?_
          refine J.tR ?_
          refine J.bR ?_
          refine J.tR ?_
          refine J.tR ?_
          obtain rfl := B.d h1
          replace h0 := B.inr h0
          obtain rfl := B.e h0
          exact J.ret1 rfl rfl fun w H => ⟨(), rfl, H.pick [] (by decide)⟩
        · replace h1 := B.f hB9 h1
          refine J.skip ?_
          refine J.bN ?_
          refine J.tN ?_
          refine J.region ?_
          refine J.op rfl rfl rfl (V.ar rfl rfl rfl rfl) ?_
          refine J.op rfl rfl rfl (V.mv rfl rfl) ?_
          refine J.nil ?_
          refine J.tN (J.next (IntKind.wrap .i64 (s1 + 1)) () (B.n h1) ?_)
          exact J.keep _ rfl (J.pickE [] rfl rfl J.here)
      · replace h1 := B.f hB4 h1
        refine J.exit ?_
        refine J.tE ?_
        refine J.tE ?_
        refine J.bE ?_
        obtain rfl := B.d h1
        refine J.tN (J.to ((), ()) rfl ?_)
        exact J.keep _ rfl (J.pickE [] rfl rfl J.here)
  · intro gy11 hG
    replace h0 := B.inl hG h0
    refine J.tN ?_
    refine J.seq ?_
    refine J.region ?_
    refine J.op rfl rfl rfl (V.as rfl rfl) ?_
    refine J.nil ?_
    refine J.tN ?_
    refine J.ret ?_
    obtain rfl := B.e h0
    exact J.ret1 rfl rfl fun w H => ⟨(), rfl, H.pick [] (by decide)⟩

/-! ### slices.ContainsFunc[[]int8,int8]: function 22 -/
noncomputable def slices_ContainsFunc_int8_int8.f (p0_s : (List Int)) (p1_f : Int → Option Bool) : Option (Bool) := (slices_IndexFunc_int8_int8.f p0_s p1_f).bind fun r1 => (some (decide (0 ≤ r1))).bind fun t4 => some t4
set_option maxRecDepth 100000 in
theorem slices_ContainsFunc_int8_int8.calls (v0 : Value) (p0_s : (List Int)) (g1_ : Nat) (c1_ : Array Value) (p1_f : Int → Option Bool) (r : Bool) (w : World) (H0 : Own [] w w []) (hS0 : SlE [] w v0 22 (eI .i8) p0_s) (hg1 : CallsFn Tryd.prog g1_) (hF1 : ∀ w2 (x : Int) r, Own [] w w2 [] → p1_f x = some r → Calls Tryd.prog g1_ (#[.int .i8 x] ++ c1_) w2 (fun e w3 => ∃ _ : Unit, e = .returned (.bool r) ∧ Own [] w2 w3 [])) (h0 : slices_ContainsFunc_int8_int8.f p0_s p1_f = some r) :
    Calls Tryd.prog 22 #[v0, .func (.func g1_) #[] c1_] w (fun e w' => ∃ _ : Unit, e = .returned (.bool r) ∧ Own [] w w' []) := by
  unfold slices_ContainsFunc_int8_int8.f at h0
  replace h0 := B.top h0
  refine calls_of_J (args := [v0, .func (.func g1_) #[] c1_]) Tryd.func22 rfl Tryd.ntmps22 rfl [(0, v0), (1, .func (.func g1_) #[] c1_)] rfl H0 ?_
  refine J.seq ?_
  refine J.region ?_
  refine J.op rfl rfl rfl (V.as rfl rfl) ?_
  refine J.nil ?_
  refine J.tN ?_
  refine J.seq ?_
  refine J.region ?_
  refine J.op rfl rfl rfl (V.mv rfl rfl) ?_
  refine J.op rfl rfl rfl (V.mv rfl rfl) ?_
  obtain ⟨r1, hr2, h0⟩ := B.bind h0
  refine J.clA (l := [.tmp 5, .tmp 6]) [] [] cf32 (wN rfl) rfl rfl rfl rfl rfl rfl (fun w H => slices_IndexFunc_int8_int8.calls v0 p0_s g1_ c1_ p1_f r1 w (Own.refl w) (Sl.laterA hS0 H) hg1 (fun w2 x0 r HO  hp => hF1 w2 x0 r (Own.through H HO)  hp) hr2) fun g3 => ?_
  refine J.op rfl rfl rfl (V.cmp rfl rfl rfl rfl) ?_
  refine J.op rfl rfl rfl (V.as rfl rfl) ?_
  obtain ⟨t4, et4, h0⟩ := B.lt h0
  refine J.val (congrArg (Value.bool) et4) ?_
  refine J.nil ?_
  refine J.tN ?_
  refine J.ret ?_
  obtain rfl := B.e h0
  exact J.ret1 rfl rfl fun w H => ⟨(), rfl, H.pick [] (by decide)⟩

/-! ### impl.within: function 33 -/
noncomputable def impl_within.f (p0_n : Int) (p1_low : Int) (p2_high : Int) : Option (Bool) := bif (decide (p1_low ≤ p0_n)) then ((some (decide (p0_n ≤ p2_high))).bind fun t2 => some t2) else (some false)
set_option maxRecDepth 100000 in
theorem impl_within.calls (p0_n : Int) (p1_low : Int) (p2_high : Int) (r : Bool) (w : World) (H0 : Own [] w w []) (h0 : impl_within.f p0_n p1_low p2_high = some r) :
    Calls Tryd.prog 33 #[.int .i64 p0_n, .int .i64 p1_low, .int .i64 p2_high] w (fun e w' => ∃ _ : Unit, e = .returned (.bool r) ∧ Own [] w w' []) := by
  unfold impl_within.f at h0
  replace h0 := B.top h0
  refine calls_of_J (args := [.int .i64 p0_n, .int .i64 p1_low, .int .i64 p2_high]) Tryd.func33 rfl Tryd.ntmps33 rfl [(0, .int .i64 p0_n), (1, .int .i64 p1_low), (2, .int .i64 p2_high)] rfl H0 ?_
  refine J.seq ?_
  refine J.region ?_
  refine J.op rfl rfl rfl (V.as rfl rfl) ?_
  refine J.nil ?_
  refine J.tN ?_
  refine J.seq ?_
  refine J.region ?_
  refine J.op rfl rfl rfl (V.mv rfl rfl) ?_
  refine J.op rfl rfl rfl (V.mv rfl rfl) ?_
  refine J.op rfl rfl rfl (V.cmp rfl rfl rfl rfl) ?_
  refine J.op rfl rfl rfl (V.mv rfl rfl) ?_
  refine J.split 10 rfl (fun hB1 => ?_) (fun hB1 => ?_)
  · replace h0 := B.t hB1 h0
    refine J.opOn rfl rfl rfl rfl rfl (V.mv rfl rfl) ?_
    refine J.opOn rfl rfl rfl rfl rfl (V.mv rfl rfl) ?_
    refine J.opOn rfl rfl rfl rfl rfl (V.cmp rfl rfl rfl rfl) ?_
    refine J.op rfl rfl rfl (V.pkT rfl rfl rfl) ?_
    refine J.op rfl rfl rfl (V.as rfl rfl) ?_
    obtain ⟨t2, et2, h0⟩ := B.lt h0
    refine J.val (congrArg (Value.bool) et2) ?_
    refine J.nil ?_
    refine J.tN ?_
    refine J.ret ?_
    obtain rfl := B.e h0
    exact J.ret1 rfl rfl fun w H => ⟨(), rfl, H.pick [] (by decide)⟩
  · replace h0 := B.f hB1 h0
    refine J.opOff rfl rfl rfl rfl rfl rfl ?_
    refine J.opOff rfl rfl rfl rfl rfl rfl ?_
    refine J.opOff rfl rfl rfl rfl rfl rfl ?_
    refine J.op rfl rfl rfl (V.pkF rfl rfl rfl) ?_
    refine J.op rfl rfl rfl (V.as rfl rfl) ?_
    refine J.nil ?_
    refine J.tN ?_
    refine J.ret ?_
    obtain rfl := B.e h0
    exact J.ret1 rfl rfl fun w H => ⟨(), rfl, H.pick [] (by decide)⟩

/-! ### impl.isReading: function 24 -/
noncomputable def impl_isReading.f (p0_n : Int) : Option (Bool) := (impl_within.f p0_n 0 60).bind fun r1 => some r1
set_option maxRecDepth 100000 in
theorem impl_isReading.calls (p0_n : Int) (r : Bool) (w : World) (H0 : Own [] w w []) (h0 : impl_isReading.f p0_n = some r) :
    Calls Tryd.prog 24 #[.int .i64 p0_n] w (fun e w' => ∃ _ : Unit, e = .returned (.bool r) ∧ Own [] w w' []) := by
  unfold impl_isReading.f at h0
  replace h0 := B.top h0
  refine calls_of_J (args := [.int .i64 p0_n]) Tryd.func24 rfl Tryd.ntmps24 rfl [(0, .int .i64 p0_n)] rfl H0 ?_
  refine J.seq ?_
  refine J.region ?_
  refine J.op rfl rfl rfl (V.as rfl rfl) ?_
  refine J.nil ?_
  refine J.tN ?_
  refine J.seq ?_
  refine J.region ?_
  refine J.op rfl rfl rfl (V.mv rfl rfl) ?_
  obtain ⟨r1, hr2, h0⟩ := B.bind h0
  refine J.clA (l := [.tmp 3, .const (.int .i64 0), .const (.int .i64 60)]) [] [] cf33 (wN rfl) rfl rfl rfl rfl rfl rfl (fun w H => impl_within.calls p0_n 0 60 r1 w (Own.refl w)  hr2) fun g3 => ?_
  refine J.op rfl rfl rfl (V.as rfl rfl) ?_
  refine J.nil ?_
  refine J.tN ?_
  refine J.ret ?_
  obtain rfl := B.e h0
  exact J.ret1 rfl rfl fun w H => ⟨(), rfl, H.pick [] (by decide)⟩

/-! ### impl.ValidScene$1: function 23 -/
noncomputable def impl_ValidScene_1.f (p0_n : Int) : Option (Bool) := (impl_isReading.f (IntKind.wrap .i64 p0_n)).bind fun r1 => (some (!r1)).bind fun t4 => some t4
set_option maxRecDepth 100000 in
theorem impl_ValidScene_1.calls (p0_n : Int) (r : Bool) (w : World) (H0 : Own [] w w []) (h0 : impl_ValidScene_1.f p0_n = some r) :
    Calls Tryd.prog 23 #[.int .i8 p0_n] w (fun e w' => ∃ _ : Unit, e = .returned (.bool r) ∧ Own [] w w' []) := by
  unfold impl_ValidScene_1.f at h0
  replace h0 := B.top h0
  refine calls_of_J (args := [.int .i8 p0_n]) Tryd.func23 rfl Tryd.ntmps23 rfl [(0, .int .i8 p0_n)] rfl H0 ?_
  refine J.seq ?_
  refine J.region ?_
  refine J.op rfl rfl rfl (V.as rfl rfl) ?_
  refine J.nil ?_
  refine J.tN ?_
  refine J.seq ?_
  refine J.region ?_
  refine J.op rfl rfl rfl (V.mv rfl rfl) ?_
  refine J.op rfl rfl rfl (V.conv rfl rfl Tryd.underlying22 Tryd.underlying2) ?_
  obtain ⟨r1, hr2, h0⟩ := B.bind h0
  refine J.clA (l := [.tmp 4]) [] [] cf24 (wN rfl) rfl rfl rfl rfl rfl rfl (fun w H => impl_isReading.calls (IntKind.wrap .i64 p0_n) r1 w (Own.refl w)  hr2) fun g3 => ?_
  refine J.op rfl rfl rfl (V.nt rfl rfl) ?_
  refine J.op rfl rfl rfl (V.as rfl rfl) ?_
  obtain ⟨t4, et4, h0⟩ := B.lt h0
  refine J.val (congrArg (Value.bool) et4) ?_
  refine J.nil ?_
  refine J.tN ?_
  refine J.ret ?_
  obtain rfl := B.e h0
  exact J.ret1 rfl rfl fun w H => ⟨(), rfl, H.pick [] (by decide)⟩

/-! ### impl.ValidScene: function 13 -/
noncomputable def impl_ValidScene.f (p0_s : (Vector Int 24)) : Option (Bool) := (slices_ContainsFunc_int8_int8.f (p0_s.toList) (fun z3 => impl_ValidScene_1.f z3 )).bind fun r4 => (some (!r4)).bind fun t7 => some t7
set_option maxRecDepth 100000 in
theorem impl_ValidScene.calls (p0_s : (Vector Int 24)) (r : Bool) (w : World) (H0 : Own [] w w []) (h0 : impl_ValidScene.f p0_s = some r) :
    Calls Tryd.prog 13 #[.agg (encA .i8 p0_s).toArray] w (fun e w' => ∃ _ : Unit, e = .returned (.bool r) ∧ Own [] w w' []) := by
  unfold impl_ValidScene.f at h0
  replace h0 := B.top h0
  refine calls_of_J (args := [.agg (encA .i8 p0_s).toArray]) Tryd.func13 rfl Tryd.ntmps13 rfl [(0, .agg (encA .i8 p0_s).toArray)] rfl H0 ?_
  refine J.seq ?_
  refine J.region ?_
  refine J.box rfl rfl rfl rfl rfl (fun _ _ => rfl) fun b1 => ?_
  refine J.op rfl rfl rfl (V.as rfl rfl) ?_
  refine J.nil ?_
  refine J.tN ?_
  refine J.seq ?_
  refine J.region ?_
  refine J.op rfl rfl rfl (V.arr rfl rfl tr25 ts22) ?_
  obtain ⟨r4, hr5, h0⟩ := B.bind h0
  refine J.clA (l := [.tmp 3, .func 23]) [] [.blk b1 (encA .i8 p0_s) 25] cf22 (wN rfl) rfl rfl rfl rfl rfl rfl (fun w H => slices_ContainsFunc_int8_int8.calls (.slice (some ⟨b1, 0, none⟩) 24 24) (p0_s.toList) 23 (#[]) (fun z3 => impl_ValidScene_1.f z3 ) r4 w (Own.refl w) (Own.arrA (E := 22) 0 H rfl) (cf23 : CallsFn _ 23) (fun w2 z3 r HO  hp => impl_ValidScene_1.calls z3  r w2 (Own.refl w2)  hp) hr5) fun g6 => ?_
  refine J.op rfl rfl rfl (V.nt rfl rfl) ?_
  refine J.op rfl rfl rfl (V.as rfl rfl) ?_
  obtain ⟨t7, et7, h0⟩ := B.lt h0
  refine J.val (congrArg (Value.bool) et7) ?_
  refine J.nil ?_
  refine J.tN ?_
  refine J.ret ?_
  obtain rfl := B.e h0
  exact J.ret1 rfl rfl fun w H => ⟨(), rfl, H.pick [] (by decide)⟩

/-! ### impl.decimal: function 25 -/
noncomputable def impl_decimal.f (p0_n : Int) : Option (ByteArray) := (some (⟨#[]⟩ : ByteArray)).bind fun t1 => (strconv_FormatInt.f p0_n 10).bind fun r2 => some r2
set_option maxRecDepth 100000 in
theorem impl_decimal.calls (p0_n : Int) (r : ByteArray) (w : World) (H0 : Own [] w w []) (h0 : impl_decimal.f p0_n = some r) :
    Calls Tryd.prog 25 #[.int .i64 p0_n] w (fun e w' => ∃ _ : Unit, e = .returned (.string r) ∧ Own [] w w' []) := by
  unfold impl_decimal.f at h0
  replace h0 := B.top h0
  refine calls_of_J (args := [.int .i64 p0_n]) Tryd.func25 rfl Tryd.ntmps25 rfl [(0, .int .i64 p0_n)] rfl H0 ?_
  refine J.seq ?_
  refine J.region ?_
  refine J.op rfl rfl rfl (V.as rfl rfl) ?_
  obtain ⟨t1, et1, h0⟩ := B.lt h0
  refine J.val (congrArg (Value.string) et1) ?_
  refine J.nil ?_
  refine J.tN ?_
  refine J.seq ?_
  refine J.region ?_
  refine J.op rfl rfl rfl (V.mv rfl rfl) ?_
  obtain ⟨r2, hr3, h0⟩ := B.bind h0
  refine J.clA (l := [.tmp 3, .const (.int .i64 10)]) [] [] cf34 (wN rfl) rfl rfl rfl rfl rfl rfl (fun w H => strconv_FormatInt.calls p0_n 10 r2 w (Own.refl w)  hr3) fun g4 => ?_
  refine J.op rfl rfl rfl (V.as rfl rfl) ?_
  refine J.nil ?_
  refine J.tN ?_
  refine J.ret ?_
  obtain rfl := B.e h0
  exact J.ret1 rfl rfl fun w H => ⟨(), rfl, H.pick [] (by decide)⟩

/-! ### impl.sceneText: function 14 -/
noncomputable def impl_sceneText.b2 (p0_s : (Vector Int 24)) (s6 : Int × (List ByteArray)) : (Int × (List ByteArray)) → Option (Step (Int × (List ByteArray)) ((List ByteArray))) := fun s13 => bif (decide (s13.1 < ((IntKind.wrap .i64 (6 * (IntKind.wrap .i64 (s6.1 + 1)))) - (IntKind.wrap .i64 (6 * s6.1))))) then (bif (inB s13.1 ((IntKind.wrap .i64 (6 * (IntKind.wrap .i64 (s6.1 + 1)))) - (IntKind.wrap .i64 (6 * s6.1))).toNat) then ((some (rdA p0_s ((IntKind.wrap .i64 (6 * s6.1)) + s13.1))).bind fun n_18 => (impl_decimal.f (IntKind.wrap .i64 n_18)).bind fun r19 => bif (roomB s13.2.length 1 16) then (some (.next (IntKind.wrap .i64 (s13.1 + 1), s13.2 ++ [r19]))) else none) else none) else (some (.done s13.2))
noncomputable def impl_sceneText.b1 (p0_s : (Vector Int 24)) : (Int × (List ByteArray)) → Option (Step (Int × (List ByteArray)) ((List ByteArray))) := fun s6 => bif (decide (s6.1 < 4)) then (bif (inS (IntKind.wrap .i64 (6 * s6.1)) (IntKind.wrap .i64 (6 * (IntKind.wrap .i64 (s6.1 + 1)))) 24) then ((loopW (impl_sceneText.b2 p0_s s6) (0, ([] : List ByteArray))).bind fun y26 => (strings_Join.f y26 (⟨#[32]⟩ : ByteArray)).bind fun r29 => bif (roomB s6.2.length 1 16) then (some (.next (IntKind.wrap .i64 (s6.1 + 1), s6.2 ++ [r29]))) else none) else none) else (some (.done s6.2))
noncomputable def impl_sceneText.f (p0_s : (Vector Int 24)) : Option (ByteArray) := (some (⟨#[]⟩ : ByteArray)).bind fun t3 => (loopW (impl_sceneText.b1 p0_s) (0, ([] : List ByteArray))).bind fun y36 => (strings_Join.f y36 (⟨#[47]⟩ : ByteArray)).bind fun r39 => some r39
set_option maxRecDepth 100000 in
theorem impl_sceneText.calls (p0_s : (Vector Int 24)) (r : ByteArray) (w : World) (H0 : Own [] w w []) (h0 : impl_sceneText.f p0_s = some r) :
    Calls Tryd.prog 14 #[.agg (encA .i8 p0_s).toArray] w (fun e w' => ∃ _ : Unit, e = .returned (.string r) ∧ Own [] w w' []) := by
  unfold impl_sceneText.f at h0
  replace h0 := B.top h0
  refine calls_of_J (args := [.agg (encA .i8 p0_s).toArray]) Tryd.func14 rfl Tryd.ntmps14 rfl [(0, .agg (encA .i8 p0_s).toArray)] rfl H0 ?_
  refine J.seq ?_
  refine J.region ?_
  refine J.box rfl rfl rfl rfl rfl (fun _ _ => rfl) fun b1 => ?_
  refine J.op rfl rfl rfl (V.as rfl rfl) ?_
  obtain ⟨t3, et3, h0⟩ := B.lt h0
  refine J.val (congrArg (Value.string) et3) ?_
  refine J.nil ?_
  refine J.tN ?_
  refine J.seq ?_
  refine J.region ?_
  refine J.bs (l := []) (cs := []) (E := 9) rfl rfl rfl rfl rfl (fun w => by kernel_rfl) fun b4 => ?_
  refine J.op rfl rfl rfl (V.as rfl rfl) ?_
  refine J.nil ?_
  refine J.tN ?_
  refine J.seq ?_
  refine J.seq ?_
  refine J.region ?_
  refine J.op rfl rfl rfl (V.mv rfl rfl) ?_
  refine J.nil ?_
  refine J.tN ?_
  refine J.blkRowE eT ([] : List ByteArray) 0 rfl rfl rfl ?_
  obtain ⟨y36, hy38, h0⟩ := B.bind h0
  refine J.cutQ (γ := Value) (fun _ => True) (fun gy37 => [(3, gy37)]) (fun gy37 => [.rowE gy37 9 eT y36, .blk b1 (encA .i8 p0_s) 25]) ?_ ?_
  · refine J.block ?_
    refine J.loop (γ := Value) hy38 (fun s6 g7 => [(1, bp b1 0), (3, g7), (9, .int .i64 s6.1)]) (fun s6 g7 => [.rowE g7 9 eT s6.2, .blk b1 (encA .i8 p0_s) 25]) (.slice (some ⟨b4, 0, none⟩) 0 0) ?_ ?_
    · exact J.keep _ rfl (J.pickE [0, 1] rfl rfl J.here)
    · intro rec8 s6 g7 h1
      unfold impl_sceneText.b1 at h1
      refine J.seq ?_
      refine J.region ?_
      refine J.op rfl rfl rfl (V.cmp rfl rfl rfl rfl) ?_
      refine J.nil ?_
      refine J.tN ?_
      refine J.seq ?_
      refine J.cond rfl (fun hB9 => ?_) (fun hB9 => ?_)
      · replace h1 := B.t hB9 h1
        refine J.skip ?_
        refine J.tN ?_
        refine J.seq ?_
        refine J.block ?_
        refine J.seq ?_
        refine J.region ?_
        refine J.op rfl rfl rfl (V.mv rfl rfl) ?_
        refine J.op rfl rfl rfl (V.as rfl rfl) ?_
        refine J.nil ?_
        refine J.tN ?_
        refine J.seq ?_
        refine J.region ?_
        refine J.bs (l := []) (cs := []) (E := 9) rfl rfl rfl rfl rfl (fun w => by kernel_rfl) fun b10 => ?_
        refine J.op rfl rfl rfl (V.as rfl rfl) ?_
        refine J.nil ?_
        refine J.tN ?_
        refine J.seq ?_
        refine J.seq ?_
        refine J.region ?_
        refine J.op rfl rfl rfl (V.mv rfl rfl) ?_
        refine J.op rfl rfl rfl (V.ar rfl rfl rfl rfl) ?_
        refine J.op rfl rfl rfl (V.mv rfl rfl) ?_
        refine J.op rfl rfl rfl (V.ar rfl rfl rfl rfl) ?_
        refine J.op rfl rfl rfl (V.ar rfl rfl rfl rfl) ?_
        obtain ⟨hC12, h1⟩ := B.chk h1
        refine J.op rfl rfl rfl (V.arrSub (L := some (IntKind.wrap .i64 (6 * s6.1))) (H := some (IntKind.wrap .i64 (6 * (IntKind.wrap .i64 (s6.1 + 1))))) rfl rfl rfl rfl rfl rfl tr25 ts22 hC12) ?_
        refine J.op rfl rfl rfl (V.lenSub rfl rfl tl49 hC12) ?_
        refine J.op rfl rfl rfl (V.mv rfl rfl) ?_
        refine J.nil ?_
        refine J.tN ?_
        refine J.blkRowE eT ([] : List ByteArray) 0 rfl rfl rfl ?_
        obtain ⟨y26, hy28, h1⟩ := B.bind h1
        refine J.cutQ (γ := Value) (fun _ => True) (fun gy27 => [(1, bp b1 0), (3, g7), (5, gy27), (9, .int .i64 s6.1)]) (fun gy27 => [.rowE gy27 9 eT y26, .rowE g7 9 eT s6.2, .blk b1 (encA .i8 p0_s) 25]) ?_ ?_
        · refine J.block ?_
          refine J.loop (γ := Value) hy28 (fun s13 g14 => [(1, bp b1 0), (3, g7), (5, g14), (9, .int .i64 s6.1), (18, subV 1 (.slice (some ⟨b1, 0, none⟩) 24 24) (IntKind.wrap .i64 (6 * s6.1)) (IntKind.wrap .i64 (6 * (IntKind.wrap .i64 (s6.1 + 1))))), (19, .int .i64 ((IntKind.wrap .i64 (6 * (IntKind.wrap .i64 (s6.1 + 1)))) - (IntKind.wrap .i64 (6 * s6.1)))), (20, .int .i64 s13.1)]) (fun s13 g14 => [.rowE g14 9 eT s13.2, .rowE g7 9 eT s6.2, .blk b1 (encA .i8 p0_s) 25]) (.slice (some ⟨b10, 0, none⟩) 0 0) ?_ ?_
          · exact J.keep _ rfl (J.pickE [0, 1, 2] rfl rfl J.here)
          · intro rec15 s13 g14 h2
            unfold impl_sceneText.b2 at h2
            refine J.seq ?_
            refine J.region ?_
            refine J.op rfl rfl rfl (V.cmp rfl rfl rfl rfl) ?_
            refine J.nil ?_
            refine J.tN ?_
            refine J.seq ?_
            refine J.cond rfl (fun hB16 => ?_) (fun hB16 => ?_)
            · replace h2 := B.t hB16 h2
              refine J.skip ?_
              refine J.tN ?_
              refine J.seq ?_
              refine J.block ?_
              refine J.seq ?_
              refine J.region ?_
              obtain ⟨hC17, h2⟩ := B.chk h2
              refine J.op rfl rfl rfl (V.ixSub rfl rfl rfl tl49 ts22 hC12 hC17) ?_
              refine J.op rfl rfl rfl (V.ldB 2 rfl rfl rfl Tryd.underlying22 ta22 (encA_get0 .i8 _ (inB_sub hC12 hC17))) ?_
              refine J.op rfl rfl rfl (V.as rfl rfl) ?_
              obtain ⟨n_18, en_18, h2⟩ := B.lt h2
              refine J.val (congrArg (Value.int .i8) en_18) ?_
              refine J.nil ?_
              refine J.tN ?_
              refine J.region ?_
              refine J.op rfl rfl rfl (V.mv rfl rfl) ?_
              refine J.op rfl rfl rfl (V.mv rfl rfl) ?_
              refine J.op rfl rfl rfl (V.conv rfl rfl Tryd.underlying22 Tryd.underlying2) ?_
              obtain ⟨r19, hr20, h2⟩ := B.bind h2
              refine J.clA (l := [.tmp 26]) [] [.rowE g14 9 eT s13.2, .rowE g7 9 eT s6.2, .blk b1 (encA .i8 p0_s) 25] cf25 (wN rfl) rfl rfl rfl rfl rfl rfl (fun w H => impl_decimal.calls (IntKind.wrap .i64 n_18) r19 w (Own.refl w)  hr20) fun g21 => ?_
              refine J.bs (l := [(0, .tmp 27)]) (cs := [.string r19]) (E := 9) rfl rfl rfl rfl rfl (fun w => by kernel_rfl) fun b22 => ?_
              obtain ⟨hC25, h2⟩ := B.chk h2
              obtain ⟨_, qi1, qi2, qi3, qi4⟩ := ti9
              refine J.ap1 (e := eT) (xs := s13.2) 1 0 r19 hC25 qi1 tl36 qi2 qi3 qi4 rfl rfl rfl rfl rfl rfl rfl rfl rfl rfl fun v24 => ?_
              refine J.op rfl rfl rfl (V.as rfl rfl) ?_
              refine J.nil ?_
              refine J.bN ?_
              refine J.tN ?_
              refine J.region ?_
              refine J.op rfl rfl rfl (V.ar rfl rfl rfl rfl) ?_
              refine J.op rfl rfl rfl (V.mv rfl rfl) ?_
              refine J.nil ?_
              refine J.tN (J.next (IntKind.wrap .i64 (s13.1 + 1), s13.2 ++ [r19]) v24 (B.n h2) ?_)
              exact J.keep _ rfl (J.pickE [1, 2, 3] rfl rfl J.here)
            · replace h2 := B.f hB16 h2
              refine J.exit ?_
              refine J.tE ?_
              refine J.tE ?_
              refine J.bE ?_
              obtain rfl := B.d h2
              refine J.tN (J.to g14 trivial ?_)
              exact J.keep _ rfl (J.pickE [0, 1, 2] rfl rfl J.here)
        · intro gy27 _
          refine J.tN ?_
          refine J.region ?_
          refine J.op rfl rfl rfl (V.mv rfl rfl) ?_
          refine J.op rfl rfl rfl (V.mv rfl rfl) ?_
          obtain ⟨r29, hr30, h1⟩ := B.bind h1
          refine J.clA (l := [.tmp 32, .const (.string ⟨#[32]⟩)]) [] [.rowE gy27 9 eT y26, .rowE g7 9 eT s6.2, .blk b1 (encA .i8 p0_s) 25] cf26 (wN rfl) rfl rfl rfl rfl rfl rfl (fun w H => strings_Join.calls gy27 y26 (⟨#[32]⟩ : ByteArray) r29 w (Own.refl w) (Own.slA 0 H rfl) hr30) fun g31 => ?_
          refine J.bs (l := [(0, .tmp 33)]) (cs := [.string r29]) (E := 9) rfl rfl rfl rfl rfl (fun w => by kernel_rfl) fun b32 => ?_
          obtain ⟨hC35, h1⟩ := B.chk h1
          obtain ⟨_, qi1, qi2, qi3, qi4⟩ := ti9
          refine J.ap1 (e := eT) (xs := s6.2) 2 0 r29 hC35 qi1 tl36 qi2 qi3 qi4 rfl rfl rfl rfl rfl rfl rfl rfl rfl rfl fun v34 => ?_
          refine J.op rfl rfl rfl (V.as rfl rfl) ?_
          refine J.nil ?_
          refine J.bN ?_
          refine J.tN ?_
          refine J.region ?_
          refine J.op rfl rfl rfl (V.ar rfl rfl rfl rfl) ?_
          refine J.op rfl rfl rfl (V.mv rfl rfl) ?_
          refine J.nil ?_
          refine J.tN (J.next (IntKind.wrap .i64 (s6.1 + 1), s6.2 ++ [r29]) v34 (B.n h1) ?_)
          exact J.keep _ rfl (J.pickE [2, 3] rfl rfl J.here)
      · replace h1 := B.f hB9 h1
        refine J.exit ?_
        refine J.tE ?_
        refine J.tE ?_
        refine J.bE ?_
        obtain rfl := B.d h1
        refine J.tN (J.to g7 trivial ?_)
        exact J.keep _ rfl (J.pickE [0, 1] rfl rfl J.here)
  · intro gy37 _
    refine J.tN ?_
    refine J.seq ?_
    refine J.region ?_
    refine J.op rfl rfl rfl (V.mv rfl rfl) ?_
    obtain ⟨r39, hr40, h0⟩ := B.bind h0
    refine J.clA (l := [.tmp 37, .const (.string ⟨#[47]⟩)]) [] [.rowE gy37 9 eT y36, .blk b1 (encA .i8 p0_s) 25] cf26 (wN rfl) rfl rfl rfl rfl rfl rfl (fun w H => strings_Join.calls gy37 y36 (⟨#[47]⟩ : ByteArray) r39 w (Own.refl w) (Own.slA 0 H rfl) hr40) fun g41 => ?_
    refine J.op rfl rfl rfl (V.as rfl rfl) ?_
    refine J.nil ?_
    refine J.tN ?_
    refine J.ret ?_
    obtain rfl := B.e h0
    exact J.ret1 rfl rfl fun w H => ⟨(), rfl, H.pick [] (by decide)⟩

/-! ### impl.SceneText: function 7 -/
noncomputable def impl_SceneText.f (p0_s : (Vector Int 24)) : Option (ByteArray) := (some (⟨#[]⟩ : ByteArray)).bind fun t3 => (impl_ValidScene.f p0_s).bind fun r4 => bif (!r4) then ((some (⟨#[]⟩ : ByteArray)).bind fun t8 => some t8) else ((impl_sceneText.f p0_s).bind fun r9 => some r9)
set_option maxRecDepth 100000 in
theorem impl_SceneText.calls (p0_s : (Vector Int 24)) (r : ByteArray) (w : World) (H0 : Own [] w w []) (h0 : impl_SceneText.f p0_s = some r) :
    Calls Tryd.prog 7 #[.agg (encA .i8 p0_s).toArray] w (fun e w' => ∃ _ : Unit, e = .returned (.string r) ∧ Own [] w w' []) := by
  unfold impl_SceneText.f at h0
  replace h0 := B.top h0
  refine calls_of_J (args := [.agg (encA .i8 p0_s).toArray]) Tryd.func7 rfl Tryd.ntmps7 rfl [(0, .agg (encA .i8 p0_s).toArray)] rfl H0 ?_
  refine J.seq ?_
  refine J.region ?_
  refine J.box rfl rfl rfl rfl rfl (fun _ _ => rfl) fun b1 => ?_
  refine J.op rfl rfl rfl (V.as rfl rfl) ?_
  obtain ⟨t3, et3, h0⟩ := B.lt h0
  refine J.val (congrArg (Value.string) et3) ?_
  refine J.nil ?_
  refine J.tN ?_
  refine J.seq ?_
  refine J.seq ?_
  refine J.region ?_
  refine J.op rfl rfl rfl (V.ldW 0 rfl rfl rfl ts25 ta25 (encA_len _ _)) ?_
  obtain ⟨r4, hr5, h0⟩ := B.bind h0
  refine J.clA (l := [.tmp 3]) [] [.blk b1 (encA .i8 p0_s) 25] cf13 (wN rfl) rfl rfl rfl rfl rfl rfl (fun w H => impl_ValidScene.calls p0_s r4 w (Own.refl w)  hr5) fun g6 => ?_
  refine J.op rfl rfl rfl (V.nt rfl rfl) ?_
  refine J.nil ?_
  refine J.tN ?_
  refine J.cond rfl (fun hB7 => ?_) (fun hB7 => ?_)
  · replace h0 := B.t hB7 h0
    refine J.seq ?_
    refine J.region ?_
    refine J.op rfl rfl rfl (V.as rfl rfl) ?_
    obtain ⟨t8, et8, h0⟩ := B.lt h0
    refine J.val (congrArg (Value.string) et8) ?_
    refine J.nil ?_
    refine J.tN ?_
    refine J.ret ?_
    refine J.tR ?_
    obtain rfl := B.e h0
    exact J.ret1 rfl rfl fun w H => ⟨(), rfl, H.pick [] (by decide)⟩
  · replace h0 := B.f hB7 h0
    refine J.skip ?_
    refine J.tN ?_
    refine J.seq ?_
    refine J.region ?_
    refine J.op rfl rfl rfl (V.ldW 0 rfl rfl rfl ts25 ta25 (encA_len _ _)) ?_
    obtain ⟨r9, hr10, h0⟩ := B.bind h0
    refine J.clA (l := [.tmp 6]) [] [.blk b1 (encA .i8 p0_s) 25] cf14 (wN rfl) rfl rfl rfl rfl rfl rfl (fun w H => impl_sceneText.calls p0_s r9 w (Own.refl w)  hr10) fun g11 => ?_
    refine J.op rfl rfl rfl (V.as rfl rfl) ?_
    refine J.nil ?_
    refine J.tN ?_
    refine J.ret ?_
    obtain rfl := B.e h0
    exact J.ret1 rfl rfl fun w H => ⟨(), rfl, H.pick [] (by decide)⟩

end Go.Proofs.YtadggddaheipgaaDoor
