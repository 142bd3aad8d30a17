/- Go functions as Lean functions, and that each call of theirs comes to just that: by a program written for this work (walk.py). No condition. -/
import Derived.Test.YtadggddaheipgaaDoorF0
namespace Go.Proofs.YtadggddaheipgaaDoor
open Go Go.RowKit G
set_option linter.unusedVariables false

/-! ### impl.ReadScene: function 9 -/
noncomputable def impl_ReadScene.b1 (r9 : (List ByteArray)) : (Int × (Vector Int 24)) → Option (Step (Int × (Vector Int 24)) (Sum ((Vector Int 24)) ((Vector Int 24) × Int))) := fun s13 => bif (decide (s13.1 < (r9.length : Int))) then (bif (inB s13.1 r9.length) then ((some (rd eT r9 s13.1)).bind fun word_18 => (strconv_ParseInt.f word_18 10 8).bind fun r19 => (bif r19.2 then (some true) else (some (s13.1 == 24)) : Option (Bool)).bind fun y22 => bif y22 then ((some (zA 24)).bind fun m27 => some (.done (.inr (m27, 5)))) else (bif (inB s13.1 24) then ((some (wrA s13.2 s13.1 (IntKind.wrap .i8 r19.1))).bind fun m29 => some (.next (IntKind.wrap .i64 (s13.1 + 1), m29))) else none)) else none) else (some (.done (.inl s13.2)))
noncomputable def impl_ReadScene.f (p0_text : ByteArray) : Option ((Vector Int 24) × Int) := (some (zA 24)).bind fun m5 => (strings_ReplaceAll.f p0_text (⟨#[47]⟩ : ByteArray) (⟨#[32]⟩ : ByteArray)).bind fun r6 => (strings_SplitN.f r6 (⟨#[32]⟩ : ByteArray) 25).bind fun r9 => (loopW (impl_ReadScene.b1 r9) (0, m5)).bind (Sum.elim (fun y31 => ((impl_ValidScene.f y31).bind fun r36 => bif (!r36) then (some true) else ((impl_sceneText.f y31).bind fun r40 => some (!(r40.toList == p0_text.toList))) : Option (Bool)).bind fun y34 => bif y34 then ((some (zA 24)).bind fun m45 => some (m45, 5)) else (some (y31, 0))) (fun r => some r))
set_option maxRecDepth 100000 in
theorem impl_ReadScene.calls (wG : World) (p0_text : ByteArray) (r : (Vector Int 24) × Int) (w : World) (H0 : Own [] w w []) (hF : Facts wG) (hG : Glob wG [] w) (h0 : impl_ReadScene.f p0_text = some r) :
    Calls Tryd.prog 9 #[.string p0_text] w (fun e w' => ∃ _ : Unit, e = .returned (.tuple #[.agg (encA .i8 r.1).toArray, .int .i64 r.2]) ∧ Own [] w w' []) := by
  unfold impl_ReadScene.f at h0
  replace h0 := B.top h0
  refine calls_of_J (args := [.string p0_text]) Tryd.func9 rfl Tryd.ntmps9 rfl [(0, .string p0_text)] rfl H0 ?_
  refine J.seq ?_
  refine J.region ?_
  refine J.alloc rfl rfl rfl rfl tz25 rfl fun b1 => ?_
  refine J.op rfl rfl rfl (V.as rfl rfl) ?_
  refine J.nil ?_
  refine J.tN ?_
  refine J.seq ?_
  refine J.region ?_
  refine J.op rfl rfl rfl (V.bd (l := []) (v := .agg (encA .i8 (zA 24)).toArray) rfl rfl (fun w H => by kernel_rfl)) ?_
  refine J.alloc rfl rfl rfl rfl tz25 rfl fun b3 => ?_
  refine J.stW (cs' := encA .i8 (zA 24)) 0 rfl rfl rfl rfl rfl rfl ts25 rfl (fun _ _ => encA_one .i8 _) (encA_len _ _) (encA_len _ _) ?_
  obtain ⟨m5, em5, h0⟩ := B.lt h0
  refine J.setEnt 0 rfl (congrArg (fun q => Ent.blk _ (encA .i8 q) _) em5) ?_
  refine J.nil ?_
  refine J.tN ?_
  refine J.seq ?_
  refine J.seq ?_
  refine J.region ?_
  refine J.op rfl rfl rfl (V.mv rfl rfl) ?_
  obtain ⟨r6, hr7, h0⟩ := B.bind h0
  refine J.clA (l := [.tmp 10, .const (.string ⟨#[47]⟩), .const (.string ⟨#[32]⟩)]) [] [.blk b3 (encA .i8 m5) 25, .blk b1 (encA .i8 (zA 24)) 25] cf19 (wN rfl) rfl rfl rfl rfl rfl rfl (fun w H => strings_ReplaceAll.calls wG p0_text (⟨#[47]⟩ : ByteArray) (⟨#[32]⟩ : ByteArray) r6 w (Own.refl w) hF (Glob.laterA hG H) hr7) fun g8 => ?_
  obtain ⟨r9, hr10, h0⟩ := B.bind h0
  refine J.clA (l := [.tmp 11, .const (.string ⟨#[32]⟩), .const (.int .i64 25)]) [] [.blk b3 (encA .i8 m5) 25, .blk b1 (encA .i8 (zA 24)) 25] cf18 (wN rfl) rfl rfl rfl rfl rfl rfl (fun w H => strings_SplitN.calls wG r6 (⟨#[32]⟩ : ByteArray) 25 r9 w (Own.refl w) hF (Glob.laterA hG H) hr10) fun g11 => ?_
  refine J.op rfl rfl rfl (V.lenR 0 rfl rfl rfl tl36) ?_
  refine J.op rfl rfl rfl (V.mv rfl rfl) ?_
  refine J.nil ?_
  refine J.tN ?_
  obtain ⟨o33, hy32, h0⟩ := B.bind h0
  refine J.cutQ (γ := ((Vector Int 24)) × (Unit)) (fun gy31 => o33 = .inl gy31.1) (fun gy31 => [(0, .string p0_text), (2, bp b1 0), (4, bp b3 0)]) (fun gy31 => [.rowE g11 9 eT r9, .blk b3 (encA .i8 gy31.1) 25, .blk b1 (encA .i8 (zA 24)) 25]) ?_ ?_
  · refine J.block ?_
    refine J.loop (γ := Unit) hy32 (fun s13 g14 => [(0, .string p0_text), (2, bp b1 0), (4, bp b3 0), (12, g11), (13, .int .i64 (r9.length : Int)), (14, .int .i64 s13.1)]) (fun s13 g14 => [.rowE g11 9 eT r9, .blk b3 (encA .i8 s13.2) 25, .blk b1 (encA .i8 (zA 24)) 25]) () ?_ ?_
    · exact J.keep _ rfl (J.pickE [0, 1, 2] rfl rfl J.here)
    · intro rec15 s13 g14 h1
      unfold impl_ReadScene.b1 at h1
      refine J.seq ?_
      refine J.region ?_
      refine J.op rfl rfl rfl (V.cmp rfl rfl rfl rfl) ?_
      refine J.nil ?_
      refine J.tN ?_
      refine J.seq ?_
      refine J.cond rfl (fun hB16 => ?_) (fun hB16 => ?_)
      · replace h1 := B.t hB16 h1
        refine J.skip ?_
        refine J.tN ?_
        refine J.seq ?_
        refine J.block ?_
        refine J.seq ?_
        refine J.region ?_
        refine J.op rfl rfl rfl (V.mv rfl rfl) ?_
        obtain ⟨hC17, h1⟩ := B.chk h1
        refine J.op rfl rfl rfl (V.ixR 0 rfl rfl rfl rfl tl36 ts9 hC17) ?_
        refine J.op rfl rfl rfl (V.elR0 0 rfl hC17 rfl rfl Tryd.underlying9 ta9 rfl) ?_
        refine J.op rfl rfl rfl (V.as rfl rfl) ?_
        refine J.op rfl rfl rfl (V.as rfl rfl) ?_
        obtain ⟨word_18, eword_18, h1⟩ := B.lt h1
        refine J.val (congrArg (Value.string) eword_18) ?_
        refine J.nil ?_
        refine J.tN ?_
        refine J.seq ?_
        refine J.region ?_
        refine J.op rfl rfl rfl (V.mv rfl rfl) ?_
        obtain ⟨r19, hr20, h1⟩ := B.bind h1
        refine J.clA (l := [.tmp 20, .const (.int .i64 10), .const (.int .i64 8)]) [] [.rowE g11 9 eT r9, .blk b3 (encA .i8 s13.2) 25, .blk b1 (encA .i8 (zA 24)) 25] cf20 (wN rfl) rfl rfl rfl rfl rfl rfl (fun w H => strconv_ParseInt.calls wG word_18 10 8 r19 w (Own.refl w) hF (Glob.laterA hG H) hr20) fun g21 => ?_
        refine J.op rfl rfl rfl (V.mv rfl rfl) ?_
        refine J.op rfl rfl rfl (V.ex rfl rfl rfl) ?_
        refine J.op rfl rfl rfl (V.ex rfl rfl rfl) ?_
        refine J.op rfl rfl rfl (V.as rfl rfl) ?_
        refine J.op rfl rfl rfl (V.as rfl rfl) ?_
        refine J.nil ?_
        refine J.tN ?_
        refine J.seq ?_
        refine J.seq ?_
        obtain ⟨y22, hy25, h1⟩ := B.bind h1
        replace hy25 := B.top hy25
        refine J.cut (γ := Unit) (fun _ => True) (fun gy23 => [(0, .string p0_text), (2, bp b1 0), (4, bp b3 0), (5, .int .i64 s13.1), (7, .int .i64 r19.1), (12, g11), (13, .int .i64 (r9.length : Int)), (14, .int .i64 s13.1), (29, .bool y22)]) (fun gy23 => [.rowE g11 9 eT r9, .blk b3 (encA .i8 s13.2) 25, .blk b1 (encA .i8 (zA 24)) 25]) ?_ ?_
        · have h2 := hy25
          refine J.region ?_
          refine J.op rfl rfl rfl (V.mv rfl rfl) ?_
          refine J.op rfl rfl rfl (V.neErr rfl rfl if44) ?_
          refine J.op rfl rfl rfl (V.mv rfl rfl) ?_
          refine J.split 26 rfl (fun hB24 => ?_) (fun hB24 => ?_)
          · replace h2 := B.t hB24 h2
            refine J.opOff rfl rfl rfl rfl rfl rfl ?_
            refine J.opOff rfl rfl rfl rfl rfl rfl ?_
            refine J.op rfl rfl rfl (V.pkT rfl rfl rfl) ?_
            refine J.nil ?_
            obtain rfl := B.e h2
            refine J.tN (J.to () trivial ?_)
            exact J.keep _ rfl (J.pickE [0, 1, 2] rfl rfl J.here)
          · replace h2 := B.f hB24 h2
            refine J.opOn rfl rfl rfl rfl rfl (V.mv rfl rfl) ?_
            refine J.opOn rfl rfl rfl rfl rfl (V.cmp rfl rfl rfl rfl) ?_
            refine J.op rfl rfl rfl (V.pkF rfl rfl rfl) ?_
            refine J.nil ?_
            obtain rfl := B.e h2
            refine J.tN (J.to () trivial ?_)
            exact J.keep _ rfl (J.pickE [0, 1, 2] rfl rfl J.here)
        · intro gy23 _
          refine J.cond rfl (fun hB26 => ?_) (fun hB26 => ?_)
          · replace h1 := B.t hB26 h1
            refine J.seq ?_
            refine J.region ?_
            refine J.op rfl rfl rfl (V.bd (l := []) (v := .agg (encA .i8 (zA 24)).toArray) rfl rfl (fun w H => by kernel_rfl)) ?_
            refine J.stW (cs' := encA .i8 (zA 24)) 2 rfl rfl rfl rfl rfl rfl ts25 rfl (fun _ _ => encA_one .i8 _) (encA_len _ _) (encA_len _ _) ?_
            obtain ⟨m27, em27, h1⟩ := B.lt h1
            refine J.setEnt 2 rfl (congrArg (fun q => Ent.blk _ (encA .i8 q) _) em27) ?_
            refine J.op rfl rfl rfl (V.as rfl rfl) ?_
            refine J.nil ?_
            refine J.tN ?_
            refine J.ret ?_
            refine J.tR ?_
            refine J.bR ?_
            refine J.tR ?_
            refine J.tR ?_
            refine J.bR ?_
            refine J.tR ?_
            refine J.tR ?_
            obtain rfl := B.d h1
            replace h0 := B.inr h0
            obtain rfl := B.e h0
            exact J.retC_1 2 rfl rfl rfl ts25 ta25 (encA_len _ _) rfl fun w H => ⟨(), rfl, H.pick [] (by decide)⟩
          · replace h1 := B.f hB26 h1
            refine J.skip ?_
            refine J.tN ?_
            refine J.region ?_
            refine J.op rfl rfl rfl (V.mv rfl rfl) ?_
            refine J.op rfl rfl rfl (V.mv rfl rfl) ?_
            refine J.op rfl rfl rfl (V.conv rfl rfl Tryd.underlying2 Tryd.underlying22) ?_
            obtain ⟨hC28, h1⟩ := B.chk h1
            refine J.op rfl rfl rfl (V.ixB rfl rfl rfl tr25 ts22 hC28) ?_
            refine J.stB 1 rfl rfl rfl rfl rfl rfl ts22 (fun _ _ => rfl) (encA_lt .i8 _ hC28) ?_
            refine J.setEnt 1 rfl (congrArg (fun q => Ent.blk _ q _) (encA_set .i8 _ _ _)) ?_
            obtain ⟨m29, em29, h1⟩ := B.lt h1
            refine J.setEnt 1 rfl (congrArg (fun q => Ent.blk _ (encA .i8 q) _) em29) ?_
            refine J.nil ?_
            refine J.bN ?_
            refine J.tN ?_
            refine J.region ?_
            refine J.op rfl rfl rfl (V.ar rfl rfl rfl rfl) ?_
            refine J.op rfl rfl rfl (V.mv rfl rfl) ?_
            refine J.nil ?_
            refine J.tN (J.next (IntKind.wrap .i64 (s13.1 + 1), m29) () (B.n h1) ?_)
            exact J.keep _ rfl (J.pickE [0, 1, 2] rfl rfl J.here)
      · replace h1 := B.f hB16 h1
        refine J.exit ?_
        refine J.tE ?_
        refine J.tE ?_
        refine J.bE ?_
        obtain rfl := B.d h1
        refine J.tN (J.to (s13.2, ()) rfl ?_)
        exact J.keep _ rfl (J.pickE [0, 1, 2] rfl rfl J.here)
  · intro gy31 hG
    replace h0 := B.inl hG h0
    refine J.tN ?_
    refine J.seq ?_
    refine J.seq ?_
    obtain ⟨y34, hy43, h0⟩ := B.bind h0
    replace hy43 := B.top hy43
    refine J.cut (γ := Unit) (fun _ => True) (fun gy35 => [(2, bp b1 0), (4, bp b3 0), (44, .bool y34)]) (fun gy35 => [.rowE g11 9 eT r9, .blk b3 (encA .i8 gy31.1) 25, .blk b1 (encA .i8 (zA 24)) 25]) ?_ ?_
    · have h1 := hy43
      refine J.region ?_
      refine J.op rfl rfl rfl (V.ldW 1 rfl rfl rfl ts25 ta25 (encA_len _ _)) ?_
      obtain ⟨r36, hr37, h1⟩ := B.bind h1
      refine J.clA (l := [.tmp 36]) [] [.rowE g11 9 eT r9, .blk b3 (encA .i8 gy31.1) 25, .blk b1 (encA .i8 (zA 24)) 25] cf13 (wN rfl) rfl rfl rfl rfl rfl rfl (fun w H => impl_ValidScene.calls gy31.1 r36 w (Own.refl w)  hr37) fun g38 => ?_
      refine J.op rfl rfl rfl (V.nt rfl rfl) ?_
      refine J.op rfl rfl rfl (V.mv rfl rfl) ?_
      refine J.split 39 rfl (fun hB39 => ?_) (fun hB39 => ?_)
      · replace h1 := B.t hB39 h1
        refine J.opOff rfl rfl rfl rfl rfl rfl ?_
        refine J.opOff rfl rfl rfl rfl rfl rfl ?_
        refine J.opOff rfl rfl rfl rfl rfl rfl ?_
        refine J.opOff rfl rfl rfl rfl rfl rfl ?_
        refine J.op rfl rfl rfl (V.pkT rfl rfl rfl) ?_
        refine J.nil ?_
        obtain rfl := B.e h1
        refine J.tN (J.to () trivial ?_)
        exact J.keep _ rfl (J.pickE [0, 1, 2] rfl rfl J.here)
      · replace h1 := B.f hB39 h1
        refine J.opOn rfl rfl rfl rfl rfl (V.ldW 1 rfl rfl rfl ts25 ta25 (encA_len _ _)) ?_
        obtain ⟨r40, hr41, h1⟩ := B.bind h1
        refine J.clA (l := [.tmp 40]) [] [.rowE g11 9 eT r9, .blk b3 (encA .i8 gy31.1) 25, .blk b1 (encA .i8 (zA 24)) 25] cf14 (wY rfl rfl rfl) rfl rfl rfl rfl rfl rfl (fun w H => impl_sceneText.calls gy31.1 r40 w (Own.refl w)  hr41) fun g42 => ?_
        refine J.opOn rfl rfl rfl rfl rfl (V.mv rfl rfl) ?_
        refine J.opOn rfl rfl rfl rfl rfl (V.neS rfl rfl rfl) ?_
        refine J.op rfl rfl rfl (V.pkF rfl rfl rfl) ?_
        refine J.nil ?_
        obtain rfl := B.e h1
        refine J.tN (J.to () trivial ?_)
        exact J.keep _ rfl (J.pickE [0, 1, 2] rfl rfl J.here)
    · intro gy35 _
      refine J.cond rfl (fun hB44 => ?_) (fun hB44 => ?_)
      · replace h0 := B.t hB44 h0
        refine J.seq ?_
        refine J.region ?_
        refine J.op rfl rfl rfl (V.bd (l := []) (v := .agg (encA .i8 (zA 24)).toArray) rfl rfl (fun w H => by kernel_rfl)) ?_
        refine J.stW (cs' := encA .i8 (zA 24)) 2 rfl rfl rfl rfl rfl rfl ts25 rfl (fun _ _ => encA_one .i8 _) (encA_len _ _) (encA_len _ _) ?_
        obtain ⟨m45, em45, h0⟩ := B.lt h0
        refine J.setEnt 2 rfl (congrArg (fun q => Ent.blk _ (encA .i8 q) _) em45) ?_
        refine J.op rfl rfl rfl (V.as rfl rfl) ?_
        refine J.nil ?_
        refine J.tN ?_
        refine J.ret ?_
        refine J.tR ?_
        obtain rfl := B.e h0
        exact J.retC_1 2 rfl rfl rfl ts25 ta25 (encA_len _ _) rfl fun w H => ⟨(), rfl, H.pick [] (by decide)⟩
      · replace h0 := B.f hB44 h0
        refine J.skip ?_
        refine J.tN ?_
        refine J.seq ?_
        refine J.region ?_
        refine J.op rfl rfl rfl (V.ldW 1 rfl rfl rfl ts25 ta25 (encA_len _ _)) ?_
        refine J.stW (cs' := encA .i8 gy31.1) 2 rfl rfl rfl rfl rfl rfl ts25 rfl (fun _ _ => encA_one .i8 _) (encA_len _ _) (encA_len _ _) ?_
        refine J.op rfl rfl rfl (V.as rfl rfl) ?_
        refine J.nil ?_
        refine J.tN ?_
        refine J.ret ?_
        obtain rfl := B.e h0
        exact J.retC_1 2 rfl rfl rfl ts25 ta25 (encA_len _ _) rfl fun w H => ⟨(), rfl, H.pick [] (by decide)⟩

/-! ### laws.eqScene: function 10 -/
noncomputable def laws_eqScene.b1 (p0_a : (Vector Int 24)) (p1_b : (Vector Int 24)) : Int → Option (Step (Int) (Sum (Unit) (Bool))) := fun s5 => bif (decide (s5 < 24)) then (bif (inB s5 24) then (bif (inB s5 24) then (bif ((rdA p0_a s5) != (rdA p1_b s5)) then (some (.done (.inr false))) else ((some (IntKind.wrap .i64 (s5 + 1))).bind fun i_12 => some (.next i_12))) else none) else none) else (some (.done (.inl ())))
noncomputable def laws_eqScene.f (p0_a : (Vector Int 24)) (p1_b : (Vector Int 24)) : Option (Bool) := (loopW (laws_eqScene.b1 p0_a p1_b) 0).bind (Sum.elim (fun y14 => some true) (fun r => some r))
set_option maxRecDepth 100000 in
theorem laws_eqScene.calls (p0_a : (Vector Int 24)) (p1_b : (Vector Int 24)) (r : Bool) (w : World) (H0 : Own [] w w []) (h0 : laws_eqScene.f p0_a p1_b = some r) :
    Calls Tryd.prog 10 #[.agg (encA .i8 p0_a).toArray, .agg (encA .i8 p1_b).toArray] w (fun e w' => ∃ _ : Unit, e = .returned (.bool r) ∧ Own [] w w' []) := by
  unfold laws_eqScene.f at h0
  replace h0 := B.top h0
  refine calls_of_J (args := [.agg (encA .i8 p0_a).toArray, .agg (encA .i8 p1_b).toArray]) Tryd.func10 rfl Tryd.ntmps10 rfl [(0, .agg (encA .i8 p0_a).toArray), (1, .agg (encA .i8 p1_b).toArray)] rfl H0 ?_
  refine J.seq ?_
  refine J.region ?_
  refine J.box rfl rfl rfl rfl rfl (fun _ _ => rfl) fun b1 => ?_
  refine J.box rfl rfl rfl rfl rfl (fun _ _ => rfl) fun b3 => ?_
  refine J.op rfl rfl rfl (V.as rfl rfl) ?_
  refine J.nil ?_
  refine J.tN ?_
  refine J.seq ?_
  refine J.seq ?_
  refine J.region ?_
  refine J.op rfl rfl rfl (V.as rfl rfl) ?_
  refine J.nil ?_
  refine J.tN ?_
  obtain ⟨o16, hy15, h0⟩ := B.bind h0
  refine J.cutQ (γ := (Unit) × (Unit)) (fun gy14 => o16 = .inl gy14.1) (fun gy14 => []) (fun gy14 => [.blk b3 (encA .i8 p1_b) 25, .blk b1 (encA .i8 p0_a) 25]) ?_ ?_
  · refine J.block ?_
    refine J.loop (γ := Unit) hy15 (fun s5 g6 => [(2, bp b1 0), (3, bp b3 0), (5, .int .i64 s5)]) (fun s5 g6 => [.blk b3 (encA .i8 p1_b) 25, .blk b1 (encA .i8 p0_a) 25]) () ?_ ?_
    · exact J.keep _ rfl (J.pickE [0, 1] rfl rfl J.here)
    · intro rec7 s5 g6 h1
      unfold laws_eqScene.b1 at h1
      refine J.seq ?_
      refine J.seq ?_
      refine J.region ?_
      refine J.op rfl rfl rfl (V.mv rfl rfl) ?_
      refine J.op rfl rfl rfl (V.cmp rfl rfl rfl rfl) ?_
      refine J.nil ?_
      refine J.tN ?_
      refine J.cond rfl (fun hB8 => ?_) (fun hB8 => ?_)
      · replace h1 := B.t hB8 h1
        refine J.skip ?_
        refine J.tN ?_
        refine J.seq ?_
        refine J.block ?_
        refine J.seq ?_
        refine J.quiet mixed (by kernel_rfl) ?_
        refine JQ.op rfl rfl rfl (V.mv rfl rfl) ?_
        obtain ⟨hC9, h1⟩ := B.chk h1
        refine JQ.op rfl rfl rfl (V.ixB rfl rfl rfl tr25 ts22 hC9) ?_
        refine JQ.op rfl rfl rfl (V.ldB 1 rfl rfl rfl Tryd.underlying22 ta22 (encA_get0 .i8 _ hC9)) ?_
        refine JQ.op rfl rfl rfl (V.mv rfl rfl) ?_
        obtain ⟨hC10, h1⟩ := B.chk h1
        refine JQ.op rfl rfl rfl (V.ixB rfl rfl rfl tr25 ts22 hC10) ?_
        refine JQ.op rfl rfl rfl (V.ldB 0 rfl rfl rfl Tryd.underlying22 ta22 (encA_get0 .i8 _ hC10)) ?_
        refine JQ.op rfl rfl rfl (V.cmp rfl rfl rfl rfl) ?_
        refine JQ.nil ?_
        refine J.tN ?_
        refine J.cond rfl (fun hB11 => ?_) (fun hB11 => ?_)
        · replace h1 := B.t hB11 h1
          refine J.seq ?_
          refine J.region ?_
          refine J.op rfl rfl rfl (V.as rfl rfl) ?_
          refine J.nil ?_
          refine J.tN ?_
          refine J.ret ?_
          refine J.bR ?_
          refine J.tR ?_
          refine J.tR ?_
          refine J.bR ?_
          refine J.tR ?_
          refine J.tR ?_
          obtain rfl := B.d h1
          replace h0 := B.inr h0
          obtain rfl := B.e h0
          exact J.ret1 rfl rfl fun w H => ⟨(), rfl, H.pick [] (by decide)⟩
        · replace h1 := B.f hB11 h1
          refine J.skip ?_
          refine J.bN ?_
          refine J.tN ?_
          refine J.region ?_
          refine J.op rfl rfl rfl (V.mv rfl rfl) ?_
          refine J.op rfl rfl rfl (V.ar rfl rfl rfl rfl) ?_
          refine J.op rfl rfl rfl (V.as rfl rfl) ?_
          obtain ⟨i_12, ei_12, h1⟩ := B.lt h1
          refine J.val (congrArg (Value.int .i64) ei_12) ?_
          refine J.nil ?_
          refine J.tN (J.next i_12 () (B.n h1) ?_)
          exact J.keep _ rfl (J.pickE [0, 1] rfl rfl J.here)
      · replace h1 := B.f hB8 h1
        refine J.exit ?_
        refine J.tE ?_
        refine J.tE ?_
        refine J.bE ?_
        obtain rfl := B.d h1
        refine J.tN (J.to ((), ()) rfl ?_)
        exact J.keep _ rfl (J.pickE [0, 1] rfl rfl J.here)
  · intro gy14 hG
    replace h0 := B.inl hG h0
    refine J.tN ?_
    refine J.seq ?_
    refine J.region ?_
    refine J.op rfl rfl rfl (V.as rfl rfl) ?_
    refine J.nil ?_
    refine J.tN ?_
    refine J.ret ?_
    obtain rfl := B.e h0
    exact J.ret1 rfl rfl fun w H => ⟨(), rfl, H.pick [] (by decide)⟩

/-! ### laws.FnExactReadScene: function 4 -/
noncomputable def laws_FnExactReadScene.f (p0_aText : ByteArray) : Option (Bool) := bif (decide (1048576 < (p0_aText.size : Int))) then (some true) else ((spec_ReadScene.f p0_aText).bind fun r2 => (impl_ReadScene.f p0_aText).bind fun r7 => ((laws_eqScene.f r7.1 r2.1).bind fun r14 => bif (!r14) then (some true) else (some (r7.2 != r2.2)) : Option (Bool)).bind fun y12 => bif y12 then (some false) else (some true))
set_option maxRecDepth 100000 in
theorem laws_FnExactReadScene.calls (wG : World) (p0_aText : ByteArray) (r : Bool) (w : World) (H0 : Own [] w w []) (hF : Facts wG) (hG : Glob wG [] w) (h0 : laws_FnExactReadScene.f p0_aText = some r) :
    Calls Tryd.prog 4 #[.string p0_aText] w (fun e w' => ∃ _ : Unit, e = .returned (.bool r) ∧ Own [] w w' []) := by
  unfold laws_FnExactReadScene.f at h0
  replace h0 := B.top h0
  refine calls_of_J (args := [.string p0_aText]) Tryd.func4 rfl Tryd.ntmps4 rfl [(0, .string p0_aText)] rfl H0 ?_
  refine J.seq ?_
  refine J.region ?_
  refine J.op rfl rfl rfl (V.as rfl rfl) ?_
  refine J.nil ?_
  refine J.tN ?_
  refine J.seq ?_
  refine J.seq ?_
  refine J.region ?_
  refine J.op rfl rfl rfl (V.mv rfl rfl) ?_
  refine J.op rfl rfl rfl (V.lenT rfl rfl Tryd.underlying9) ?_
  refine J.op rfl rfl rfl (V.cmp rfl rfl rfl rfl) ?_
  refine J.nil ?_
  refine J.tN ?_
  refine J.cond rfl (fun hB1 => ?_) (fun hB1 => ?_)
  · replace h0 := B.t hB1 h0
    refine J.seq ?_
    refine J.region ?_
    refine J.op rfl rfl rfl (V.as rfl rfl) ?_
    refine J.nil ?_
    refine J.tN ?_
    refine J.ret ?_
    refine J.tR ?_
    obtain rfl := B.e h0
    exact J.ret1 rfl rfl fun w H => ⟨(), rfl, H.pick [] (by decide)⟩
  · replace h0 := B.f hB1 h0
    refine J.skip ?_
    refine J.tN ?_
    refine J.seq ?_
    refine J.region ?_
    refine J.op rfl rfl rfl (V.mv rfl rfl) ?_
    obtain ⟨r2, hr3, h0⟩ := B.bind h0
    refine J.clA (l := [.tmp 11]) [] [] cf8 (wN rfl) rfl rfl rfl rfl rfl rfl (fun w H => spec_ReadScene.calls p0_aText r2 w (Own.refl w)  hr3) fun g4 => ?_
    refine J.op rfl rfl rfl (V.mv rfl rfl) ?_
    refine J.op rfl rfl rfl (V.ex rfl rfl rfl) ?_
    refine J.op rfl rfl rfl (V.ex rfl rfl rfl) ?_
    refine J.alloc rfl rfl rfl rfl tz25 rfl fun b5 => ?_
    refine J.stW (cs' := encA .i8 r2.1) 0 rfl rfl rfl rfl rfl rfl ts25 rfl (fun _ _ => encA_one .i8 _) (encA_len _ _) (encA_len _ _) ?_
    refine J.op rfl rfl rfl (V.as rfl rfl) ?_
    refine J.nil ?_
    refine J.tN ?_
    refine J.seq ?_
    refine J.region ?_
    refine J.op rfl rfl rfl (V.mv rfl rfl) ?_
    obtain ⟨r7, hr8, h0⟩ := B.bind h0
    refine J.clA (l := [.tmp 16]) [] [.blk b5 (encA .i8 r2.1) 25] cf9 (wN rfl) rfl rfl rfl rfl rfl rfl (fun w H => impl_ReadScene.calls wG p0_aText r7 w (Own.refl w) hF (Glob.laterA hG H) hr8) fun g9 => ?_
    refine J.op rfl rfl rfl (V.mv rfl rfl) ?_
    refine J.op rfl rfl rfl (V.ex rfl rfl rfl) ?_
    refine J.op rfl rfl rfl (V.ex rfl rfl rfl) ?_
    refine J.alloc rfl rfl rfl rfl tz25 rfl fun b10 => ?_
    refine J.stW (cs' := encA .i8 r7.1) 0 rfl rfl rfl rfl rfl rfl ts25 rfl (fun _ _ => encA_one .i8 _) (encA_len _ _) (encA_len _ _) ?_
    refine J.op rfl rfl rfl (V.as rfl rfl) ?_
    refine J.nil ?_
    refine J.tN ?_
    refine J.seq ?_
    refine J.seq ?_
    obtain ⟨y12, hy18, h0⟩ := B.bind h0
    replace hy18 := B.top hy18
    refine J.cut (γ := Unit) (fun _ => True) (fun gy13 => [(28, .bool y12)]) (fun gy13 => [.blk b10 (encA .i8 r7.1) 25, .blk b5 (encA .i8 r2.1) 25]) ?_ ?_
    · have h1 := hy18
      refine J.region ?_
      refine J.op rfl rfl rfl (V.ldW 0 rfl rfl rfl ts25 ta25 (encA_len _ _)) ?_
      refine J.op rfl rfl rfl (V.ldW 1 rfl rfl rfl ts25 ta25 (encA_len _ _)) ?_
      obtain ⟨r14, hr15, h1⟩ := B.bind h1
      refine J.clA (l := [.tmp 20, .tmp 21]) [] [.blk b10 (encA .i8 r7.1) 25, .blk b5 (encA .i8 r2.1) 25] cf10 (wN rfl) rfl rfl rfl rfl rfl rfl (fun w H => laws_eqScene.calls r7.1 r2.1 r14 w (Own.refl w)  hr15) fun g16 => ?_
      refine J.op rfl rfl rfl (V.nt rfl rfl) ?_
      refine J.op rfl rfl rfl (V.mv rfl rfl) ?_
      refine J.split 24 rfl (fun hB17 => ?_) (fun hB17 => ?_)
      · replace h1 := B.t hB17 h1
        refine J.opOff rfl rfl rfl rfl rfl rfl ?_
        refine J.opOff rfl rfl rfl rfl rfl rfl ?_
        refine J.opOff rfl rfl rfl rfl rfl rfl ?_
        refine J.op rfl rfl rfl (V.pkT rfl rfl rfl) ?_
        refine J.nil ?_
        obtain rfl := B.e h1
        refine J.tN (J.to () trivial ?_)
        exact J.keep _ rfl (J.pickE [0, 1] rfl rfl J.here)
      · replace h1 := B.f hB17 h1
        refine J.opOn rfl rfl rfl rfl rfl (V.mv rfl rfl) ?_
        refine J.opOn rfl rfl rfl rfl rfl (V.mv rfl rfl) ?_
        refine J.opOn rfl rfl rfl rfl rfl (V.cmp rfl rfl rfl rfl) ?_
        refine J.op rfl rfl rfl (V.pkF rfl rfl rfl) ?_
        refine J.nil ?_
        obtain rfl := B.e h1
        refine J.tN (J.to () trivial ?_)
        exact J.keep _ rfl (J.pickE [0, 1] rfl rfl J.here)
    · intro gy13 _
      refine J.cond rfl (fun hB19 => ?_) (fun hB19 => ?_)
      · replace h0 := B.t hB19 h0
        refine J.seq ?_
        refine J.region ?_
        refine J.op rfl rfl rfl (V.as rfl rfl) ?_
        refine J.nil ?_
        refine J.tN ?_
        refine J.ret ?_
        refine J.tR ?_
        obtain rfl := B.e h0
        exact J.ret1 rfl rfl fun w H => ⟨(), rfl, H.pick [] (by decide)⟩
      · replace h0 := B.f hB19 h0
        refine J.skip ?_
        refine J.tN ?_
        refine J.seq ?_
        refine J.region ?_
        refine J.op rfl rfl rfl (V.as rfl rfl) ?_
        refine J.nil ?_
        refine J.tN ?_
        refine J.ret ?_
        obtain rfl := B.e h0
        exact J.ret1 rfl rfl fun w H => ⟨(), rfl, H.pick [] (by decide)⟩

end Go.Proofs.YtadggddaheipgaaDoor
