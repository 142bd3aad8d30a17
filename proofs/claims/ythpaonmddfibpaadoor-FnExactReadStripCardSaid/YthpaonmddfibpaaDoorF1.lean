/- Go functions as Lean functions, and that each call of theirs comes to just that: by a program written for this work (walk.py). No condition. -/
import Derived.Test.YthpaonmddfibpaaDoorF0
namespace Go.Proofs.YthpaonmddfibpaaDoor
open Go Go.RowKit G
set_option linter.unusedVariables false

/-! ### impl.decimal: function 22 -/
noncomputable def impl_decimal.f (p0_n : Int) : Option (ByteArray) := (some (⟨#[]⟩ : ByteArray)).bind fun t1 => (strconv_FormatInt.f p0_n 10).bind fun r2 => some r2
set_option maxRecDepth 100000 in
theorem impl_decimal.calls (p0_n : Int) (r : ByteArray) (w : World) (H0 : Own [] w w []) (h0 : impl_decimal.f p0_n = some r) :
    Calls Tryd.prog 22 #[.int .i64 p0_n] w (fun e w' => ∃ _ : Unit, e = .returned (.string r) ∧ Own [] w w' []) := by
  unfold impl_decimal.f at h0
  replace h0 := B.top h0
  refine calls_of_J (args := [.int .i64 p0_n]) Tryd.func22 rfl Tryd.ntmps22 rfl [(0, .int .i64 p0_n)] rfl H0 ?_
  refine J.seq ?_
  refine J.region ?_
  refine J.op rfl rfl rfl (V.as rfl rfl) ?_
  obtain ⟨t1, et1, h0⟩ := B.lt h0
  refine J.val (congrArg (Value.string) et1) ?_
  refine J.nil ?_
  refine J.tN ?_
  refine J.seq ?_
  refine J.region ?_
  refine J.op rfl rfl rfl (V.mv rfl rfl) ?_
  obtain ⟨r2, hr3, h0⟩ := B.bind h0
  refine J.clA (l := [.tmp 3, .const (.int .i64 10)]) [] [] cf31 (wN rfl) rfl rfl rfl rfl rfl rfl (fun w H => strconv_FormatInt.calls p0_n 10 r2 w (Own.refl w)  hr3) fun g4 => ?_
  refine J.op rfl rfl rfl (V.as rfl rfl) ?_
  refine J.nil ?_
  refine J.tN ?_
  refine J.ret ?_
  obtain rfl := B.e h0
  exact J.ret1 rfl rfl fun w H => ⟨(), rfl, H.pick [] (by decide)⟩

/-! ### impl.stripText: function 13 -/
noncomputable def impl_stripText.f (p0_s : impl_Strip) : Option (ByteArray) := (some (⟨#[]⟩ : ByteArray)).bind fun t3 => (impl_decimal.f (IntKind.wrap .i64 p0_s.First)).bind fun r4 => bif (catB r4 (⟨#[32]⟩ : ByteArray)) then ((impl_decimal.f (IntKind.wrap .i64 p0_s.Each)).bind fun r8 => bif (catB (r4 ++ (⟨#[32]⟩ : ByteArray)) r8) then (bif (catB ((r4 ++ (⟨#[32]⟩ : ByteArray)) ++ r8) (⟨#[32]⟩ : ByteArray)) then ((impl_decimal.f (IntKind.wrap .i64 p0_s.Bands)).bind fun r13 => bif (catB (((r4 ++ (⟨#[32]⟩ : ByteArray)) ++ r8) ++ (⟨#[32]⟩ : ByteArray)) r13) then ((some ((((r4 ++ (⟨#[32]⟩ : ByteArray)) ++ r8) ++ (⟨#[32]⟩ : ByteArray)) ++ r13)).bind fun t17 => some t17) else none) else none) else none) else none
set_option maxRecDepth 100000 in
theorem impl_stripText.calls (p0_s : impl_Strip) (r : ByteArray) (w : World) (H0 : Own [] w w []) (h0 : impl_stripText.f p0_s = some r) :
    Calls Tryd.prog 13 #[.agg #[.int .i8 p0_s.First, .int .i8 p0_s.Each, .int .i8 p0_s.Bands]] w (fun e w' => ∃ _ : Unit, e = .returned (.string r) ∧ Own [] w w' []) := by
  unfold impl_stripText.f at h0
  replace h0 := B.top h0
  refine calls_of_J (args := [.agg #[.int .i8 p0_s.First, .int .i8 p0_s.Each, .int .i8 p0_s.Bands]]) Tryd.func13 rfl Tryd.ntmps13 rfl [(0, .agg #[.int .i8 p0_s.First, .int .i8 p0_s.Each, .int .i8 p0_s.Bands])] rfl H0 ?_
  refine J.seq ?_
  refine J.region ?_
  refine J.box rfl rfl rfl rfl rfl (fun _ _ => rfl) fun b1 => ?_
  refine J.op rfl rfl rfl (V.as rfl rfl) ?_
  obtain ⟨t3, et3, h0⟩ := B.lt h0
  refine J.val (congrArg (Value.string) et3) ?_
  refine J.nil ?_
  refine J.tN ?_
  refine J.seq ?_
  refine J.quiet mixed (by kernel_rfl) ?_
  refine JQ.op rfl rfl rfl (V.faB rfl rfl tf0_24) ?_
  refine JQ.op rfl rfl rfl (V.ldB 0 rfl rfl rfl Tryd.underlying22 ta22 rfl) ?_
  refine JQ.op rfl rfl rfl (V.conv rfl rfl Tryd.underlying22 Tryd.underlying2) ?_
  obtain ⟨r4, hr5, h0⟩ := B.bind h0
  refine JQ.clA (l := [.tmp 5]) cf22 (wN rfl) rfl rfl rfl rfl rfl (fun w H => impl_decimal.calls (IntKind.wrap .i64 p0_s.First) r4 w (Own.refl w)  hr5) ?_
  obtain ⟨hC7, h0⟩ := B.chk h0
  refine JQ.op rfl rfl rfl (V.cat rfl rfl rfl hC7) ?_
  refine JQ.op rfl rfl rfl (V.faB rfl rfl tf1_24) ?_
  refine JQ.op rfl rfl rfl (V.ldB 0 rfl rfl rfl Tryd.underlying22 ta22 rfl) ?_
  refine JQ.op rfl rfl rfl (V.conv rfl rfl Tryd.underlying22 Tryd.underlying2) ?_
  obtain ⟨r8, hr9, h0⟩ := B.bind h0
  refine JQ.clA (l := [.tmp 10]) cf22 (wN rfl) rfl rfl rfl rfl rfl (fun w H => impl_decimal.calls (IntKind.wrap .i64 p0_s.Each) r8 w (Own.refl w)  hr9) ?_
  obtain ⟨hC11, h0⟩ := B.chk h0
  refine JQ.op rfl rfl rfl (V.cat rfl rfl rfl hC11) ?_
  obtain ⟨hC12, h0⟩ := B.chk h0
  refine JQ.op rfl rfl rfl (V.cat rfl rfl rfl hC12) ?_
  refine JQ.op rfl rfl rfl (V.faB rfl rfl tf2_24) ?_
  refine JQ.op rfl rfl rfl (V.ldB 0 rfl rfl rfl Tryd.underlying22 ta22 rfl) ?_
  refine JQ.op rfl rfl rfl (V.conv rfl rfl Tryd.underlying22 Tryd.underlying2) ?_
  obtain ⟨r13, hr14, h0⟩ := B.bind h0
  refine JQ.clA (l := [.tmp 16]) cf22 (wN rfl) rfl rfl rfl rfl rfl (fun w H => impl_decimal.calls (IntKind.wrap .i64 p0_s.Bands) r13 w (Own.refl w)  hr14) ?_
  obtain ⟨hC16, h0⟩ := B.chk h0
  refine JQ.op rfl rfl rfl (V.cat rfl rfl rfl hC16) ?_
  refine JQ.op rfl rfl rfl (V.as rfl rfl) ?_
  obtain ⟨t17, et17, h0⟩ := B.lt h0
  refine JQ.val (congrArg (Value.string) et17) ?_
  refine JQ.nil ?_
  refine J.tN ?_
  refine J.ret ?_
  obtain rfl := B.e h0
  exact J.ret1 rfl rfl fun w H => ⟨(), rfl, H.pick [] (by decide)⟩

/-! ### impl.ReadStrip: function 5 -/
noncomputable def impl_ReadStrip.b1 (r3 : (List ByteArray)) : (Int × (Vector Int 3)) → Option (Step (Int × (Vector Int 3)) (Sum ((Vector Int 3)) (impl_Strip × Int))) := fun s10 => bif (decide (s10.1 < (r3.length : Int))) then (bif (inB s10.1 r3.length) then ((some (rd eT r3 s10.1)).bind fun word_15 => (strconv_ParseInt.f word_15 10 8).bind fun r16 => (bif r16.2 then (some true) else (some (s10.1 == 3)) : Option (Bool)).bind fun y19 => bif y19 then (some (.done (.inr ((⟨0, 0, 0⟩ : impl_Strip), 5)))) else (bif (inB s10.1 3) then ((some (wrA s10.2 s10.1 (IntKind.wrap .i8 r16.1))).bind fun m25 => some (.next (IntKind.wrap .i64 (s10.1 + 1), m25))) else none)) else none) else (some (.done (.inl s10.2)))
noncomputable def impl_ReadStrip.f (p0_text : ByteArray) : Option (impl_Strip × Int) := (strings_SplitN.f p0_text (⟨#[32]⟩ : ByteArray) 4).bind fun r3 => (some (zA 3)).bind fun m9 => (loopW (impl_ReadStrip.b1 r3) (0, m9)).bind (Sum.elim (fun y27 => ((impl_ValidStrip.f (⟨rdA y27 0, rdA y27 1, rdA y27 2⟩ : impl_Strip)).bind fun r34 => bif (!r34) then (some true) else ((impl_stripText.f (⟨rdA y27 0, rdA y27 1, rdA y27 2⟩ : impl_Strip)).bind fun r38 => some (!(r38.toList == p0_text.toList))) : Option (Bool)).bind fun y32 => bif y32 then (some ((⟨0, 0, 0⟩ : impl_Strip), 5)) else (some ((⟨rdA y27 0, rdA y27 1, rdA y27 2⟩ : impl_Strip), 0))) (fun r => some r))
set_option maxRecDepth 100000 in
theorem impl_ReadStrip.calls (wG : World) (p0_text : ByteArray) (r : impl_Strip × Int) (w : World) (H0 : Own [] w w []) (hF : Facts wG) (hG : Glob wG [] w) (h0 : impl_ReadStrip.f p0_text = some r) :
    Calls Tryd.prog 5 #[.string p0_text] w (fun e w' => ∃ _ : Unit, e = .returned (.tuple #[.agg #[.int .i8 r.1.First, .int .i8 r.1.Each, .int .i8 r.1.Bands], .int .i64 r.2]) ∧ Own [] w w' []) := by
  unfold impl_ReadStrip.f at h0
  replace h0 := B.top h0
  refine calls_of_J (args := [.string p0_text]) Tryd.func5 rfl Tryd.ntmps5 rfl [(0, .string p0_text)] rfl H0 ?_
  refine J.seq ?_
  refine J.region ?_
  refine J.alloc rfl rfl rfl rfl tz24 rfl fun b1 => ?_
  refine J.op rfl rfl rfl (V.as rfl rfl) ?_
  refine J.nil ?_
  refine J.tN ?_
  refine J.seq ?_
  refine J.region ?_
  refine J.op rfl rfl rfl (V.mv rfl rfl) ?_
  obtain ⟨r3, hr4, h0⟩ := B.bind h0
  refine J.clA (l := [.tmp 11, .const (.string ⟨#[32]⟩), .const (.int .i64 4)]) [] [.blk b1 [.int .i8 0, .int .i8 0, .int .i8 0] 24] cf10 (wN rfl) rfl rfl rfl rfl rfl rfl (fun w H => strings_SplitN.calls wG p0_text (⟨#[32]⟩ : ByteArray) 4 r3 w (Own.refl w) hF (Glob.laterA hG H) hr4) fun g5 => ?_
  refine J.op rfl rfl rfl (V.bd (l := []) (v := .agg (encA .i8 (zA 3)).toArray) rfl rfl (fun w H => by kernel_rfl)) ?_
  refine J.alloc rfl rfl rfl rfl tz35 rfl fun b7 => ?_
  refine J.op rfl rfl rfl (V.as rfl rfl) ?_
  refine J.stW (cs' := encA .i8 (zA 3)) 0 rfl rfl rfl rfl rfl rfl ts35 rfl (fun _ _ => encA_one .i8 _) (encA_len _ _) (encA_len _ _) ?_
  obtain ⟨m9, em9, h0⟩ := B.lt h0
  refine J.setEnt 0 rfl (congrArg (fun q => Ent.blk _ (encA .i8 q) _) em9) ?_
  refine J.nil ?_
  refine J.tN ?_
  refine J.seq ?_
  refine J.seq ?_
  refine J.region ?_
  refine J.op rfl rfl rfl (V.mv rfl rfl) ?_
  refine J.op rfl rfl rfl (V.lenR 1 rfl rfl rfl tl29) ?_
  refine J.op rfl rfl rfl (V.mv rfl rfl) ?_
  refine J.nil ?_
  refine J.tN ?_
  obtain ⟨o29, hy28, h0⟩ := B.bind h0
  refine J.cutQ (γ := ((Vector Int 3)) × (Unit)) (fun gy27 => o29 = .inl gy27.1) (fun gy27 => [(0, .string p0_text), (2, bp b1 0), (5, bp b7 0)]) (fun gy27 => [.blk b7 (encA .i8 gy27.1) 35, .rowE g5 9 eT r3, .blk b1 [.int .i8 0, .int .i8 0, .int .i8 0] 24]) ?_ ?_
  · refine J.block ?_
    refine J.loop (γ := Unit) hy28 (fun s10 g11 => [(0, .string p0_text), (2, bp b1 0), (5, bp b7 0), (14, g5), (15, .int .i64 (r3.length : Int)), (16, .int .i64 s10.1)]) (fun s10 g11 => [.blk b7 (encA .i8 s10.2) 35, .rowE g5 9 eT r3, .blk b1 [.int .i8 0, .int .i8 0, .int .i8 0] 24]) () ?_ ?_
    · exact J.keep _ rfl (J.pickE [0, 1, 2] rfl rfl J.here)
    · intro rec12 s10 g11 h1
      unfold impl_ReadStrip.b1 at h1
      refine J.seq ?_
      refine J.region ?_
      refine J.op rfl rfl rfl (V.cmp rfl rfl rfl rfl) ?_
      refine J.nil ?_
      refine J.tN ?_
      refine J.seq ?_
      refine J.cond rfl (fun hB13 => ?_) (fun hB13 => ?_)
      · replace h1 := B.t hB13 h1
        refine J.skip ?_
        refine J.tN ?_
        refine J.seq ?_
        refine J.block ?_
        refine J.seq ?_
        refine J.region ?_
        refine J.op rfl rfl rfl (V.mv rfl rfl) ?_
        obtain ⟨hC14, h1⟩ := B.chk h1
        refine J.op rfl rfl rfl (V.ixR 1 rfl rfl rfl rfl tl29 ts9 hC14) ?_
        refine J.op rfl rfl rfl (V.elR0 1 rfl hC14 rfl rfl Tryd.underlying9 ta9 rfl) ?_
        refine J.op rfl rfl rfl (V.as rfl rfl) ?_
        refine J.op rfl rfl rfl (V.as rfl rfl) ?_
        obtain ⟨word_15, eword_15, h1⟩ := B.lt h1
        refine J.val (congrArg (Value.string) eword_15) ?_
        refine J.nil ?_
        refine J.tN ?_
        refine J.seq ?_
        refine J.region ?_
        refine J.op rfl rfl rfl (V.mv rfl rfl) ?_
        obtain ⟨r16, hr17, h1⟩ := B.bind h1
        refine J.clA (l := [.tmp 22, .const (.int .i64 10), .const (.int .i64 8)]) [] [.blk b7 (encA .i8 s10.2) 35, .rowE g5 9 eT r3, .blk b1 [.int .i8 0, .int .i8 0, .int .i8 0] 24] cf11 (wN rfl) rfl rfl rfl rfl rfl rfl (fun w H => strconv_ParseInt.calls wG word_15 10 8 r16 w (Own.refl w) hF (Glob.laterA hG H) hr17) fun g18 => ?_
        refine J.op rfl rfl rfl (V.mv rfl rfl) ?_
        refine J.op rfl rfl rfl (V.ex rfl rfl rfl) ?_
        refine J.op rfl rfl rfl (V.ex rfl rfl rfl) ?_
        refine J.op rfl rfl rfl (V.as rfl rfl) ?_
        refine J.op rfl rfl rfl (V.as rfl rfl) ?_
        refine J.nil ?_
        refine J.tN ?_
        refine J.seq ?_
        refine J.seq ?_
        obtain ⟨y19, hy22, h1⟩ := B.bind h1
        replace hy22 := B.top hy22
        refine J.cut (γ := Unit) (fun _ => True) (fun gy20 => [(0, .string p0_text), (2, bp b1 0), (5, bp b7 0), (6, .int .i64 s10.1), (8, .int .i64 r16.1), (14, g5), (15, .int .i64 (r3.length : Int)), (16, .int .i64 s10.1), (31, .bool y19)]) (fun gy20 => [.blk b7 (encA .i8 s10.2) 35, .rowE g5 9 eT r3, .blk b1 [.int .i8 0, .int .i8 0, .int .i8 0] 24]) ?_ ?_
        · have h2 := hy22
          refine J.region ?_
          refine J.op rfl rfl rfl (V.mv rfl rfl) ?_
          refine J.op rfl rfl rfl (V.neErr rfl rfl if37) ?_
          refine J.op rfl rfl rfl (V.mv rfl rfl) ?_
          refine J.split 28 rfl (fun hB21 => ?_) (fun hB21 => ?_)
          · replace h2 := B.t hB21 h2
            refine J.opOff rfl rfl rfl rfl rfl rfl ?_
            refine J.opOff rfl rfl rfl rfl rfl rfl ?_
            refine J.op rfl rfl rfl (V.pkT rfl rfl rfl) ?_
            refine J.nil ?_
            obtain rfl := B.e h2
            refine J.tN (J.to () trivial ?_)
            exact J.keep _ rfl (J.pickE [0, 1, 2] rfl rfl J.here)
          · replace h2 := B.f hB21 h2
            refine J.opOn rfl rfl rfl rfl rfl (V.mv rfl rfl) ?_
            refine J.opOn rfl rfl rfl rfl rfl (V.cmp rfl rfl rfl rfl) ?_
            refine J.op rfl rfl rfl (V.pkF rfl rfl rfl) ?_
            refine J.nil ?_
            obtain rfl := B.e h2
            refine J.tN (J.to () trivial ?_)
            exact J.keep _ rfl (J.pickE [0, 1, 2] rfl rfl J.here)
        · intro gy20 _
          refine J.cond rfl (fun hB23 => ?_) (fun hB23 => ?_)
          · replace h1 := B.t hB23 h1
            refine J.seq ?_
            refine J.region ?_
            refine J.op rfl rfl rfl (V.bd (l := []) (v := .agg #[.int .i8 0, .int .i8 0, .int .i8 0]) rfl rfl (fun w H => by kernel_rfl)) ?_
            refine J.stW (cs' := [.int .i8 0, .int .i8 0, .int .i8 0]) 2 rfl rfl rfl rfl rfl rfl ts24 rfl (fun _ H => (one_cons rfl (one_cons rfl (one_cons rfl one_nil)))) rfl rfl ?_
            refine J.op rfl rfl rfl (V.as rfl rfl) ?_
            refine J.nil ?_
            refine J.tN ?_
            refine J.ret ?_
            refine J.tR ?_
            refine J.bR ?_
            refine J.tR ?_
            refine J.tR ?_
            refine J.bR ?_
            refine J.tR ?_
            refine J.tR ?_
            obtain rfl := B.d h1
            replace h0 := B.inr h0
            obtain rfl := B.e h0
            exact J.retC_1 2 rfl rfl rfl ts24 ta24 rfl rfl fun w H => ⟨(), rfl, H.pick [] (by decide)⟩
          · replace h1 := B.f hB23 h1
            refine J.skip ?_
            refine J.tN ?_
            refine J.region ?_
            refine J.op rfl rfl rfl (V.mv rfl rfl) ?_
            refine J.op rfl rfl rfl (V.mv rfl rfl) ?_
            refine J.op rfl rfl rfl (V.conv rfl rfl Tryd.underlying2 Tryd.underlying22) ?_
            obtain ⟨hC24, h1⟩ := B.chk h1
            refine J.op rfl rfl rfl (V.ixB rfl rfl rfl tr35 ts22 hC24) ?_
            refine J.stB 0 rfl rfl rfl rfl rfl rfl ts22 (fun _ _ => rfl) (encA_lt .i8 _ hC24) ?_
            refine J.setEnt 0 rfl (congrArg (fun q => Ent.blk _ q _) (encA_set .i8 _ _ _)) ?_
            obtain ⟨m25, em25, h1⟩ := B.lt h1
            refine J.setEnt 0 rfl (congrArg (fun q => Ent.blk _ (encA .i8 q) _) em25) ?_
            refine J.nil ?_
            refine J.bN ?_
            refine J.tN ?_
            refine J.region ?_
            refine J.op rfl rfl rfl (V.ar rfl rfl rfl rfl) ?_
            refine J.op rfl rfl rfl (V.mv rfl rfl) ?_
            refine J.nil ?_
            refine J.tN (J.next (IntKind.wrap .i64 (s10.1 + 1), m25) () (B.n h1) ?_)
            exact J.keep _ rfl (J.pickE [0, 1, 2] rfl rfl J.here)
      · replace h1 := B.f hB13 h1
        refine J.exit ?_
        refine J.tE ?_
        refine J.tE ?_
        refine J.bE ?_
        obtain rfl := B.d h1
        refine J.tN (J.to (s10.2, ()) rfl ?_)
        exact J.keep _ rfl (J.pickE [0, 1, 2] rfl rfl J.here)
  · intro gy27 hG
    replace h0 := B.inl hG h0
    refine J.tN ?_
    refine J.seq ?_
    refine J.region ?_
    refine J.op rfl rfl rfl (V.ixB rfl rfl rfl tr35 ts22 rfl) ?_
    refine J.op rfl rfl rfl (V.ldB 0 rfl rfl rfl Tryd.underlying22 ta22 (encA_get0 .i8 _ rfl)) ?_
    refine J.op rfl rfl rfl (V.ixB rfl rfl rfl tr35 ts22 rfl) ?_
    refine J.op rfl rfl rfl (V.ldB 0 rfl rfl rfl Tryd.underlying22 ta22 (encA_get0 .i8 _ rfl)) ?_
    refine J.op rfl rfl rfl (V.ixB rfl rfl rfl tr35 ts22 rfl) ?_
    refine J.op rfl rfl rfl (V.ldB 0 rfl rfl rfl Tryd.underlying22 ta22 (encA_get0 .i8 _ rfl)) ?_
    refine J.op rfl rfl rfl (V.bd (l := [(0, .tmp 39), (1, .tmp 41), (2, .tmp 43)]) (v := .agg #[.int .i8 (rdA gy27.1 0), .int .i8 (rdA gy27.1 1), .int .i8 (rdA gy27.1 2)]) rfl rfl (fun w H => by kernel_rfl)) ?_
    refine J.alloc rfl rfl rfl rfl tz24 rfl fun b30 => ?_
    refine J.stW (cs' := [.int .i8 (rdA gy27.1 0), .int .i8 (rdA gy27.1 1), .int .i8 (rdA gy27.1 2)]) 0 rfl rfl rfl rfl rfl rfl ts24 rfl (fun _ H => (one_cons rfl (one_cons rfl (one_cons rfl one_nil)))) rfl rfl ?_
    refine J.nil ?_
    refine J.tN ?_
    refine J.seq ?_
    refine J.seq ?_
    obtain ⟨y32, hy41, h0⟩ := B.bind h0
    replace hy41 := B.top hy41
    refine J.cut (γ := Unit) (fun _ => True) (fun gy33 => [(2, bp b1 0), (10, bp b30 0), (53, .bool y32)]) (fun gy33 => [.blk b30 [.int .i8 (rdA gy27.1 0), .int .i8 (rdA gy27.1 1), .int .i8 (rdA gy27.1 2)] 24, .blk b7 (encA .i8 gy27.1) 35, .rowE g5 9 eT r3, .blk b1 [.int .i8 0, .int .i8 0, .int .i8 0] 24]) ?_ ?_
    · have h1 := hy41
      refine J.region ?_
      refine J.op rfl rfl rfl (V.ldW 0 rfl rfl rfl ts24 ta24 rfl) ?_
      obtain ⟨r34, hr35, h1⟩ := B.bind h1
      refine J.clA (l := [.tmp 45]) [] [.blk b30 [.int .i8 (rdA gy27.1 0), .int .i8 (rdA gy27.1 1), .int .i8 (rdA gy27.1 2)] 24, .blk b7 (encA .i8 gy27.1) 35, .rowE g5 9 eT r3, .blk b1 [.int .i8 0, .int .i8 0, .int .i8 0] 24] cf12 (wN rfl) rfl rfl rfl rfl rfl rfl (fun w H => impl_ValidStrip.calls (⟨rdA gy27.1 0, rdA gy27.1 1, rdA gy27.1 2⟩ : impl_Strip) r34 w (Own.refl w)  hr35) fun g36 => ?_
      refine J.op rfl rfl rfl (V.nt rfl rfl) ?_
      refine J.op rfl rfl rfl (V.mv rfl rfl) ?_
      refine J.split 48 rfl (fun hB37 => ?_) (fun hB37 => ?_)
      · replace h1 := B.t hB37 h1
        refine J.opOff rfl rfl rfl rfl rfl rfl ?_
        refine J.opOff rfl rfl rfl rfl rfl rfl ?_
        refine J.opOff rfl rfl rfl rfl rfl rfl ?_
        refine J.opOff rfl rfl rfl rfl rfl rfl ?_
        refine J.op rfl rfl rfl (V.pkT rfl rfl rfl) ?_
        refine J.nil ?_
        obtain rfl := B.e h1
        refine J.tN (J.to () trivial ?_)
        exact J.keep _ rfl (J.pickE [0, 1, 2, 3] rfl rfl J.here)
      · replace h1 := B.f hB37 h1
        refine J.opOn rfl rfl rfl rfl rfl (V.ldW 0 rfl rfl rfl ts24 ta24 rfl) ?_
        obtain ⟨r38, hr39, h1⟩ := B.bind h1
        refine J.clA (l := [.tmp 49]) [] [.blk b30 [.int .i8 (rdA gy27.1 0), .int .i8 (rdA gy27.1 1), .int .i8 (rdA gy27.1 2)] 24, .blk b7 (encA .i8 gy27.1) 35, .rowE g5 9 eT r3, .blk b1 [.int .i8 0, .int .i8 0, .int .i8 0] 24] cf13 (wY rfl rfl rfl) rfl rfl rfl rfl rfl rfl (fun w H => impl_stripText.calls (⟨rdA gy27.1 0, rdA gy27.1 1, rdA gy27.1 2⟩ : impl_Strip) r38 w (Own.refl w)  hr39) fun g40 => ?_
        refine J.opOn rfl rfl rfl rfl rfl (V.mv rfl rfl) ?_
        refine J.opOn rfl rfl rfl rfl rfl (V.neS rfl rfl rfl) ?_
        refine J.op rfl rfl rfl (V.pkF rfl rfl rfl) ?_
        refine J.nil ?_
        obtain rfl := B.e h1
        refine J.tN (J.to () trivial ?_)
        exact J.keep _ rfl (J.pickE [0, 1, 2, 3] rfl rfl J.here)
    · intro gy33 _
      refine J.cond rfl (fun hB42 => ?_) (fun hB42 => ?_)
      · replace h0 := B.t hB42 h0
        refine J.seq ?_
        refine J.region ?_
        refine J.op rfl rfl rfl (V.bd (l := []) (v := .agg #[.int .i8 0, .int .i8 0, .int .i8 0]) rfl rfl (fun w H => by kernel_rfl)) ?_
        refine J.stW (cs' := [.int .i8 0, .int .i8 0, .int .i8 0]) 3 rfl rfl rfl rfl rfl rfl ts24 rfl (fun _ H => (one_cons rfl (one_cons rfl (one_cons rfl one_nil)))) rfl rfl ?_
        refine J.op rfl rfl rfl (V.as rfl rfl) ?_
        refine J.nil ?_
        refine J.tN ?_
        refine J.ret ?_
        refine J.tR ?_
        obtain rfl := B.e h0
        exact J.retC_1 3 rfl rfl rfl ts24 ta24 rfl rfl fun w H => ⟨(), rfl, H.pick [] (by decide)⟩
      · replace h0 := B.f hB42 h0
        refine J.skip ?_
        refine J.tN ?_
        refine J.seq ?_
        refine J.region ?_
        refine J.op rfl rfl rfl (V.ldW 0 rfl rfl rfl ts24 ta24 rfl) ?_
        refine J.stW (cs' := [.int .i8 (rdA gy27.1 0), .int .i8 (rdA gy27.1 1), .int .i8 (rdA gy27.1 2)]) 3 rfl rfl rfl rfl rfl rfl ts24 rfl (fun _ H => (one_cons rfl (one_cons rfl (one_cons rfl one_nil)))) rfl rfl ?_
        refine J.op rfl rfl rfl (V.as rfl rfl) ?_
        refine J.nil ?_
        refine J.tN ?_
        refine J.ret ?_
        obtain rfl := B.e h0
        exact J.retC_1 3 rfl rfl rfl ts24 ta24 rfl rfl fun w H => ⟨(), rfl, H.pick [] (by decide)⟩

/-! ### laws.eqStrip: function 6 -/
noncomputable def laws_eqStrip.f (p0_a : impl_Strip) (p1_b : impl_Strip) : Option (Bool) := bif (p0_a.First != p1_b.First) then (some false) else (bif (p0_a.Each != p1_b.Each) then (some false) else (bif (p0_a.Bands != p1_b.Bands) then (some false) else (some true)))
set_option maxRecDepth 100000 in
theorem laws_eqStrip.calls (p0_a : impl_Strip) (p1_b : impl_Strip) (r : Bool) (w : World) (H0 : Own [] w w []) (h0 : laws_eqStrip.f p0_a p1_b = some r) :
    Calls Tryd.prog 6 #[.agg #[.int .i8 p0_a.First, .int .i8 p0_a.Each, .int .i8 p0_a.Bands], .agg #[.int .i8 p1_b.First, .int .i8 p1_b.Each, .int .i8 p1_b.Bands]] w (fun e w' => ∃ _ : Unit, e = .returned (.bool r) ∧ Own [] w w' []) := by
  unfold laws_eqStrip.f at h0
  replace h0 := B.top h0
  refine calls_of_J (args := [.agg #[.int .i8 p0_a.First, .int .i8 p0_a.Each, .int .i8 p0_a.Bands], .agg #[.int .i8 p1_b.First, .int .i8 p1_b.Each, .int .i8 p1_b.Bands]]) Tryd.func6 rfl Tryd.ntmps6 rfl [(0, .agg #[.int .i8 p0_a.First, .int .i8 p0_a.Each, .int .i8 p0_a.Bands]), (1, .agg #[.int .i8 p1_b.First, .int .i8 p1_b.Each, .int .i8 p1_b.Bands])] rfl H0 ?_
  refine J.seq ?_
  refine J.region ?_
  refine J.box rfl rfl rfl rfl rfl (fun _ _ => rfl) fun b1 => ?_
  refine J.box rfl rfl rfl rfl rfl (fun _ _ => rfl) fun b3 => ?_
  refine J.op rfl rfl rfl (V.as rfl rfl) ?_
  refine J.nil ?_
  refine J.tN ?_
  refine J.seq ?_
  refine J.seq ?_
  refine J.region ?_
  refine J.op rfl rfl rfl (V.faB rfl rfl tf0_24) ?_
  refine J.op rfl rfl rfl (V.ldB 1 rfl rfl rfl Tryd.underlying22 ta22 rfl) ?_
  refine J.op rfl rfl rfl (V.faB rfl rfl tf0_24) ?_
  refine J.op rfl rfl rfl (V.ldB 0 rfl rfl rfl Tryd.underlying22 ta22 rfl) ?_
  refine J.op rfl rfl rfl (V.cmp rfl rfl rfl rfl) ?_
  refine J.nil ?_
  refine J.tN ?_
  refine J.cond rfl (fun hB5 => ?_) (fun hB5 => ?_)
  · replace h0 := B.t hB5 h0
    refine J.seq ?_
    refine J.region ?_
    refine J.op rfl rfl rfl (V.as rfl rfl) ?_
    refine J.nil ?_
    refine J.tN ?_
    refine J.ret ?_
    refine J.tR ?_
    obtain rfl := B.e h0
    exact J.ret1 rfl rfl fun w H => ⟨(), rfl, H.pick [] (by decide)⟩
  · replace h0 := B.f hB5 h0
    refine J.skip ?_
    refine J.tN ?_
    refine J.seq ?_
    refine J.seq ?_
    refine J.region ?_
    refine J.op rfl rfl rfl (V.faB rfl rfl tf1_24) ?_
    refine J.op rfl rfl rfl (V.ldB 1 rfl rfl rfl Tryd.underlying22 ta22 rfl) ?_
    refine J.op rfl rfl rfl (V.faB rfl rfl tf1_24) ?_
    refine J.op rfl rfl rfl (V.ldB 0 rfl rfl rfl Tryd.underlying22 ta22 rfl) ?_
    refine J.op rfl rfl rfl (V.cmp rfl rfl rfl rfl) ?_
    refine J.nil ?_
    refine J.tN ?_
    refine J.cond rfl (fun hB6 => ?_) (fun hB6 => ?_)
    · replace h0 := B.t hB6 h0
      refine J.seq ?_
      refine J.region ?_
      refine J.op rfl rfl rfl (V.as rfl rfl) ?_
      refine J.nil ?_
      refine J.tN ?_
      refine J.ret ?_
      refine J.tR ?_
      obtain rfl := B.e h0
      exact J.ret1 rfl rfl fun w H => ⟨(), rfl, H.pick [] (by decide)⟩
    · replace h0 := B.f hB6 h0
      refine J.skip ?_
      refine J.tN ?_
      refine J.seq ?_
      refine J.seq ?_
      refine J.region ?_
      refine J.op rfl rfl rfl (V.faB rfl rfl tf2_24) ?_
      refine J.op rfl rfl rfl (V.ldB 1 rfl rfl rfl Tryd.underlying22 ta22 rfl) ?_
      refine J.op rfl rfl rfl (V.faB rfl rfl tf2_24) ?_
      refine J.op rfl rfl rfl (V.ldB 0 rfl rfl rfl Tryd.underlying22 ta22 rfl) ?_
      refine J.op rfl rfl rfl (V.cmp rfl rfl rfl rfl) ?_
      refine J.nil ?_
      refine J.tN ?_
      refine J.cond rfl (fun hB7 => ?_) (fun hB7 => ?_)
      · replace h0 := B.t hB7 h0
        refine J.seq ?_
        refine J.region ?_
        refine J.op rfl rfl rfl (V.as rfl rfl) ?_
        refine J.nil ?_
        refine J.tN ?_
        refine J.ret ?_
        refine J.tR ?_
        obtain rfl := B.e h0
        exact J.ret1 rfl rfl fun w H => ⟨(), rfl, H.pick [] (by decide)⟩
      · replace h0 := B.f hB7 h0
        refine J.skip ?_
        refine J.tN ?_
        refine J.seq ?_
        refine J.region ?_
        refine J.op rfl rfl rfl (V.as rfl rfl) ?_
        refine J.nil ?_
        refine J.tN ?_
        refine J.ret ?_
        obtain rfl := B.e h0
        exact J.ret1 rfl rfl fun w H => ⟨(), rfl, H.pick [] (by decide)⟩

/-! ### laws.FnExactReadStrip: function 3 -/
noncomputable def laws_FnExactReadStrip.f (p0_aText : ByteArray) : Option (Bool) := bif (decide (1048576 < (p0_aText.size : Int))) then (some true) else ((spec_ReadStrip.f p0_aText).bind fun r2 => (impl_ReadStrip.f p0_aText).bind fun r7 => ((laws_eqStrip.f (⟨r7.1.First, r7.1.Each, r7.1.Bands⟩ : impl_Strip) (⟨r2.1.First, r2.1.Each, r2.1.Bands⟩ : impl_Strip)).bind fun r14 => bif (!r14) then (some true) else (some (r7.2 != r2.2)) : Option (Bool)).bind fun y12 => bif y12 then (some false) else (some true))
set_option maxRecDepth 100000 in
theorem laws_FnExactReadStrip.calls (wG : World) (p0_aText : ByteArray) (r : Bool) (w : World) (H0 : Own [] w w []) (hF : Facts wG) (hG : Glob wG [] w) (h0 : laws_FnExactReadStrip.f p0_aText = some r) :
    Calls Tryd.prog 3 #[.string p0_aText] w (fun e w' => ∃ _ : Unit, e = .returned (.bool r) ∧ Own [] w w' []) := by
  unfold laws_FnExactReadStrip.f at h0
  replace h0 := B.top h0
  refine calls_of_J (args := [.string p0_aText]) Tryd.func3 rfl Tryd.ntmps3 rfl [(0, .string p0_aText)] rfl H0 ?_
  refine J.seq ?_
  refine J.region ?_
  refine J.op rfl rfl rfl (V.as rfl rfl) ?_
  refine J.nil ?_
  refine J.tN ?_
  refine J.seq ?_
  refine J.seq ?_
  refine J.region ?_
  refine J.op rfl rfl rfl (V.mv rfl rfl) ?_
  refine J.op rfl rfl rfl (V.lenT rfl rfl Tryd.underlying9) ?_
  refine J.op rfl rfl rfl (V.cmp rfl rfl rfl rfl) ?_
  refine J.nil ?_
  refine J.tN ?_
  refine J.cond rfl (fun hB1 => ?_) (fun hB1 => ?_)
  · replace h0 := B.t hB1 h0
    refine J.seq ?_
    refine J.region ?_
    refine J.op rfl rfl rfl (V.as rfl rfl) ?_
    refine J.nil ?_
    refine J.tN ?_
    refine J.ret ?_
    refine J.tR ?_
    obtain rfl := B.e h0
    exact J.ret1 rfl rfl fun w H => ⟨(), rfl, H.pick [] (by decide)⟩
  · replace h0 := B.f hB1 h0
    refine J.skip ?_
    refine J.tN ?_
    refine J.seq ?_
    refine J.region ?_
    refine J.op rfl rfl rfl (V.mv rfl rfl) ?_
    obtain ⟨r2, hr3, h0⟩ := B.bind h0
    refine J.clA (l := [.tmp 11]) [] [] cf4 (wN rfl) rfl rfl rfl rfl rfl rfl (fun w H => spec_ReadStrip.calls p0_aText r2 w (Own.refl w)  hr3) fun g4 => ?_
    refine J.op rfl rfl rfl (V.mv rfl rfl) ?_
    refine J.op rfl rfl rfl (V.ex rfl rfl rfl) ?_
    refine J.op rfl rfl rfl (V.ex rfl rfl rfl) ?_
    refine J.alloc rfl rfl rfl rfl tz24 rfl fun b5 => ?_
    refine J.stW (cs' := [.int .i8 r2.1.First, .int .i8 r2.1.Each, .int .i8 r2.1.Bands]) 0 rfl rfl rfl rfl rfl rfl ts24 rfl (fun _ H => (one_cons rfl (one_cons rfl (one_cons rfl one_nil)))) rfl rfl ?_
    refine J.op rfl rfl rfl (V.as rfl rfl) ?_
    refine J.nil ?_
    refine J.tN ?_
    refine J.seq ?_
    refine J.region ?_
    refine J.op rfl rfl rfl (V.mv rfl rfl) ?_
    obtain ⟨r7, hr8, h0⟩ := B.bind h0
    refine J.clA (l := [.tmp 16]) [] [.blk b5 [.int .i8 r2.1.First, .int .i8 r2.1.Each, .int .i8 r2.1.Bands] 24] cf5 (wN rfl) rfl rfl rfl rfl rfl rfl (fun w H => impl_ReadStrip.calls wG p0_aText r7 w (Own.refl w) hF (Glob.laterA hG H) hr8) fun g9 => ?_
    refine J.op rfl rfl rfl (V.mv rfl rfl) ?_
    refine J.op rfl rfl rfl (V.ex rfl rfl rfl) ?_
    refine J.op rfl rfl rfl (V.ex rfl rfl rfl) ?_
    refine J.alloc rfl rfl rfl rfl tz24 rfl fun b10 => ?_
    refine J.stW (cs' := [.int .i8 r7.1.First, .int .i8 r7.1.Each, .int .i8 r7.1.Bands]) 0 rfl rfl rfl rfl rfl rfl ts24 rfl (fun _ H => (one_cons rfl (one_cons rfl (one_cons rfl one_nil)))) rfl rfl ?_
    refine J.op rfl rfl rfl (V.as rfl rfl) ?_
    refine J.nil ?_
    refine J.tN ?_
    refine J.seq ?_
    refine J.seq ?_
    obtain ⟨y12, hy18, h0⟩ := B.bind h0
    replace hy18 := B.top hy18
    refine J.cut (γ := Unit) (fun _ => True) (fun gy13 => [(28, .bool y12)]) (fun gy13 => [.blk b10 [.int .i8 r7.1.First, .int .i8 r7.1.Each, .int .i8 r7.1.Bands] 24, .blk b5 [.int .i8 r2.1.First, .int .i8 r2.1.Each, .int .i8 r2.1.Bands] 24]) ?_ ?_
    · have h1 := hy18
      refine J.region ?_
      refine J.op rfl rfl rfl (V.ldW 0 rfl rfl rfl ts24 ta24 rfl) ?_
      refine J.op rfl rfl rfl (V.ldW 1 rfl rfl rfl ts24 ta24 rfl) ?_
      obtain ⟨r14, hr15, h1⟩ := B.bind h1
      refine J.clA (l := [.tmp 20, .tmp 21]) [] [.blk b10 [.int .i8 r7.1.First, .int .i8 r7.1.Each, .int .i8 r7.1.Bands] 24, .blk b5 [.int .i8 r2.1.First, .int .i8 r2.1.Each, .int .i8 r2.1.Bands] 24] cf6 (wN rfl) rfl rfl rfl rfl rfl rfl (fun w H => laws_eqStrip.calls (⟨r7.1.First, r7.1.Each, r7.1.Bands⟩ : impl_Strip) (⟨r2.1.First, r2.1.Each, r2.1.Bands⟩ : impl_Strip) r14 w (Own.refl w)  hr15) fun g16 => ?_
      refine J.op rfl rfl rfl (V.nt rfl rfl) ?_
      refine J.op rfl rfl rfl (V.mv rfl rfl) ?_
      refine J.split 24 rfl (fun hB17 => ?_) (fun hB17 => ?_)
      · replace h1 := B.t hB17 h1
        refine J.opOff rfl rfl rfl rfl rfl rfl ?_
        refine J.opOff rfl rfl rfl rfl rfl rfl ?_
        refine J.opOff rfl rfl rfl rfl rfl rfl ?_
        refine J.op rfl rfl rfl (V.pkT rfl rfl rfl) ?_
        refine J.nil ?_
        obtain rfl := B.e h1
        refine J.tN (J.to () trivial ?_)
        exact J.keep _ rfl (J.pickE [0, 1] rfl rfl J.here)
      · replace h1 := B.f hB17 h1
        refine J.opOn rfl rfl rfl rfl rfl (V.mv rfl rfl) ?_
        refine J.opOn rfl rfl rfl rfl rfl (V.mv rfl rfl) ?_
        refine J.opOn rfl rfl rfl rfl rfl (V.cmp rfl rfl rfl rfl) ?_
        refine J.op rfl rfl rfl (V.pkF rfl rfl rfl) ?_
        refine J.nil ?_
        obtain rfl := B.e h1
        refine J.tN (J.to () trivial ?_)
        exact J.keep _ rfl (J.pickE [0, 1] rfl rfl J.here)
    · intro gy13 _
      refine J.cond rfl (fun hB19 => ?_) (fun hB19 => ?_)
      · replace h0 := B.t hB19 h0
        refine J.seq ?_
        refine J.region ?_
        refine J.op rfl rfl rfl (V.as rfl rfl) ?_
        refine J.nil ?_
        refine J.tN ?_
        refine J.ret ?_
        refine J.tR ?_
        obtain rfl := B.e h0
        exact J.ret1 rfl rfl fun w H => ⟨(), rfl, H.pick [] (by decide)⟩
      · replace h0 := B.f hB19 h0
        refine J.skip ?_
        refine J.tN ?_
        refine J.seq ?_
        refine J.region ?_
        refine J.op rfl rfl rfl (V.as rfl rfl) ?_
        refine J.nil ?_
        refine J.tN ?_
        refine J.ret ?_
        obtain rfl := B.e h0
        exact J.ret1 rfl rfl fun w H => ⟨(), rfl, H.pick [] (by decide)⟩

end Go.Proofs.YthpaonmddfibpaaDoor
