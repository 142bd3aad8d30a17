/- Go functions as Lean functions, and that each call of theirs comes to just that: by a program written for this work (walk.py). No condition. -/
import Derived.Test.YtofhnioboihbgaaF6
namespace Go.Proofs.Ytofhnioboihbgaa
open Go Go.RowKit G
set_option linter.unusedVariables false

/-! ### laws.markCurveS: function 14 -/
noncomputable def laws_markCurveS.b1  : (Int × Int × (List (List impl_Point))) → Option (Step (Int × Int × (List (List impl_Point))) (Int × (List (List impl_Point)))) := fun s1 => bif (decide (s1.2.1 < (s1.2.2.length : Int))) then (bif (inB s1.2.1 s1.2.2.length) then ((laws_markCurve.f (rdN s1.2.2 s1.2.1) s1.1).bind fun r7 => (some (IntKind.wrap .i64 (s1.2.1 + 1))).bind fun i_10 => some (.next (r7.1, i_10, s1.2.2.set s1.2.1.toNat r7.2))) else none) else (some (.done (s1.1, s1.2.2)))
noncomputable def laws_markCurveS.f (p0_a : (List (List impl_Point))) (p1_k : Int) : Option (Int × (List (List impl_Point))) := (loopW laws_markCurveS.b1 (p1_k, 0, p0_a)).bind fun y11 => some (y11.1, y11.2)
set_option maxRecDepth 100000 in
theorem laws_markCurveS.calls (v0 : Value) (us0 : List Value) (p0_a : (List (List impl_Point))) (p1_k : Int) (r : Int × (List (List impl_Point))) (w : World) (H0 : Own (Mof [.nestE v0 40 78 enc_impl_Point us0 p0_a]) w w [.nestE v0 40 78 enc_impl_Point us0 p0_a]) (h0 : laws_markCurveS.f p0_a p1_k = some r) :
    Calls Try.prog 14 #[v0, .int .i64 p1_k] w (fun e w' => ∃ _ : Unit, e = .returned (.int .i64 r.1) ∧ Own (Mof [.nestE v0 40 78 enc_impl_Point us0 p0_a]) w w' [.nestE v0 40 78 enc_impl_Point us0 r.2]) := by
  unfold laws_markCurveS.f at h0
  replace h0 := B.top h0
  refine calls_of_J (args := [v0, .int .i64 p1_k]) Try.func14 rfl Try.ntmps14 rfl [(0, v0), (1, .int .i64 p1_k)] rfl H0 ?_
  refine J.seq ?_
  refine J.region ?_
  refine J.op rfl rfl rfl (V.as rfl rfl) ?_
  refine J.nil ?_
  refine J.tN ?_
  refine J.seq ?_
  refine J.seq ?_
  refine J.region ?_
  refine J.op rfl rfl rfl (V.as rfl rfl) ?_
  refine J.nil ?_
  refine J.tN ?_
  obtain ⟨y11, hy13, h0⟩ := B.bind h0
  refine J.cutQ (γ := Unit) (fun _ => True) (fun gy12 => [(1, .int .i64 y11.1)]) (fun gy12 => [.nestE v0 40 78 enc_impl_Point us0 y11.2]) ?_ ?_
  · refine J.block ?_
    refine J.loop (γ := Unit) hy13 (fun s1 g2 => [(0, v0), (1, .int .i64 s1.1), (5, .int .i64 s1.2.1)]) (fun s1 g2 => [.nestE v0 40 78 enc_impl_Point us0 s1.2.2]) () ?_ ?_
    · exact J.keep _ rfl (J.pickE [0] rfl rfl J.here)
    · intro rec3 s1 g2 h1
      unfold laws_markCurveS.b1 at h1
      refine J.seq ?_
      refine J.seq ?_
      refine J.region ?_
      refine J.op rfl rfl rfl (V.mv rfl rfl) ?_
      refine J.op rfl rfl rfl (V.mv rfl rfl) ?_
      refine J.op rfl rfl rfl (V.lenN 0 rfl rfl rfl tl26) ?_
      refine J.op rfl rfl rfl (V.cmp rfl rfl rfl rfl) ?_
      refine J.nil ?_
      refine J.tN ?_
      refine J.cond rfl (fun hB4 => ?_) (fun hB4 => ?_)
      · replace h1 := B.t hB4 h1
        refine J.skip ?_
        refine J.tN ?_
        refine J.seq ?_
        refine J.block ?_
        refine J.region ?_
        refine J.op rfl rfl rfl (V.mv rfl rfl) ?_
        refine J.op rfl rfl rfl (V.mv rfl rfl) ?_
        obtain ⟨hC5, h1⟩ := B.chk h1
        refine J.op rfl rfl rfl (V.ixNst 0 rfl rfl rfl rfl tl26 ts40 hC5) ?_
        refine J.op rfl rfl rfl (V.ldN 0 rfl hC5 rfl rfl Try.underlying40 ta40) ?_
        refine J.op rfl rfl rfl (V.mv rfl rfl) ?_
        refine J.lend hC5 ?_
        refine J.pickE [1, 0] (es' := [.rowE (nth us0 s1.2.1) 78 enc_impl_Point (rdN s1.2.2 s1.2.1), .nest v0 40 78 enc_impl_Point.sz us0 ((nestC enc_impl_Point s1.2.2).set s1.2.1.toNat none)]) rfl rfl ?_
        obtain ⟨r7, hr8, h1⟩ := B.bind h1
        refine J.clA (l := [.tmp 15, .tmp 16]) [.rowE (nth us0 s1.2.1) 78 enc_impl_Point (rdN s1.2.2 s1.2.1)] [.nest v0 40 78 enc_impl_Point.sz us0 ((nestC enc_impl_Point s1.2.2).set s1.2.1.toNat none)] cf47 (wN rfl) rfl rfl rfl rfl rfl rfl (fun w H => laws_markCurve.calls (nth us0 s1.2.1) (rdN s1.2.2 s1.2.1) s1.1 r7 w H.enterA  hr8) fun g9 => ?_
        refine J.pickE [1, 0] (es' := [.nest v0 40 78 enc_impl_Point.sz us0 ((nestC enc_impl_Point s1.2.2).set s1.2.1.toNat none), .rowE (nth us0 s1.2.1) 78 enc_impl_Point r7.2]) rfl rfl ?_
        refine J.takeBack hC5 ?_
        refine J.op rfl rfl rfl (V.as rfl rfl) ?_
        refine J.nil ?_
        refine J.bN ?_
        refine J.tN ?_
        refine J.region ?_
        refine J.op rfl rfl rfl (V.mv rfl rfl) ?_
        refine J.op rfl rfl rfl (V.ar rfl rfl rfl rfl) ?_
        refine J.op rfl rfl rfl (V.as rfl rfl) ?_
        obtain ⟨i_10, ei_10, h1⟩ := B.lt h1
        refine J.val (congrArg (Value.int .i64) ei_10) ?_
        refine J.nil ?_
        refine J.tN (J.next (r7.1, i_10, s1.2.2.set s1.2.1.toNat r7.2) () (B.n h1) ?_)
        exact J.keep _ rfl (J.pickE [0] rfl rfl J.here)
      · replace h1 := B.f hB4 h1
        refine J.exit ?_
        refine J.tE ?_
        refine J.tE ?_
        refine J.bE ?_
        obtain rfl := B.d h1
        refine J.tN (J.to () trivial ?_)
        exact J.keep _ rfl (J.pickE [0] rfl rfl J.here)
  · intro gy12 _
    refine J.tN ?_
    refine J.seq ?_
    refine J.region ?_
    refine J.op rfl rfl rfl (V.mv rfl rfl) ?_
    refine J.op rfl rfl rfl (V.as rfl rfl) ?_
    refine J.nil ?_
    refine J.tN ?_
    refine J.ret ?_
    obtain rfl := B.e h0
    exact J.ret1 rfl rfl fun w H => ⟨(), rfl, H.pick [0] (by decide)⟩

/-! ### laws.markInt64S: function 15 -/
noncomputable def laws_markInt64S.b1 (n0_ : Nat) : (Int × Int × (Vector Int n0_)) → Option (Step (Int × Int × (Vector Int n0_)) (Int × (Vector Int n0_))) := fun s1 => bif (decide (s1.2.1 < (n0_ : Int))) then (bif (inB s1.2.1 n0_) then ((some (wrA s1.2.2 s1.2.1 s1.1)).bind fun m6 => (some (IntKind.wrap .i64 (s1.1 + 1))).bind fun k_7 => (some (IntKind.wrap .i64 (s1.2.1 + 1))).bind fun i_8 => some (.next (k_7, i_8, m6))) else none) else (some (.done (s1.1, s1.2.2)))
noncomputable def laws_markInt64S.f (n0_ : Nat) (p0_a : Vector Int n0_) (p1_k : Int) : Option (Int × (Vector Int n0_)) := (loopW (laws_markInt64S.b1 n0_) (p1_k, 0, p0_a)).bind fun y9 => some (y9.1, y9.2)
set_option maxRecDepth 100000 in
theorem laws_markInt64S.calls (v0 : Value) (n0_ T0_ : Nat) (p0_a : Vector Int n0_) (p1_k : Int) (r : Int × (Vector Int n0_)) (w : World) (H0 : Own (Mof [.row v0 T0_ 1 n0_ (encA .i64 p0_a)]) w w [.row v0 T0_ 1 n0_ (encA .i64 p0_a)]) (h0 : laws_markInt64S.f n0_ p0_a p1_k = some r) :
    Calls Try.prog 15 #[v0, .int .i64 p1_k] w (fun e w' => ∃ _ : Unit, e = .returned (.int .i64 r.1) ∧ Own (Mof [.row v0 T0_ 1 n0_ (encA .i64 p0_a)]) w w' [.row v0 T0_ 1 n0_ (encA .i64 r.2)]) := by
  unfold laws_markInt64S.f at h0
  replace h0 := B.top h0
  refine calls_of_J (args := [v0, .int .i64 p1_k]) Try.func15 rfl Try.ntmps15 rfl [(0, v0), (1, .int .i64 p1_k)] rfl H0 ?_
  refine J.seq ?_
  refine J.region ?_
  refine J.op rfl rfl rfl (V.as rfl rfl) ?_
  refine J.nil ?_
  refine J.tN ?_
  refine J.seq ?_
  refine J.seq ?_
  refine J.region ?_
  refine J.op rfl rfl rfl (V.as rfl rfl) ?_
  refine J.nil ?_
  refine J.tN ?_
  obtain ⟨y9, hy11, h0⟩ := B.bind h0
  refine J.cutQ (γ := Unit) (fun _ => True) (fun gy10 => [(1, .int .i64 y9.1)]) (fun gy10 => [.row v0 T0_ 1 n0_ (encA .i64 y9.2)]) ?_ ?_
  · refine J.block ?_
    refine J.loop (γ := Unit) hy11 (fun s1 g2 => [(0, v0), (1, .int .i64 s1.1), (5, .int .i64 s1.2.1)]) (fun s1 g2 => [.row v0 T0_ 1 n0_ (encA .i64 s1.2.2)]) () ?_ ?_
    · exact J.keep _ rfl (J.pickE [0] rfl rfl J.here)
    · intro rec3 s1 g2 h1
      unfold laws_markInt64S.b1 at h1
      refine J.seq ?_
      refine J.seq ?_
      refine J.region ?_
      refine J.op rfl rfl rfl (V.mv rfl rfl) ?_
      refine J.op rfl rfl rfl (V.mv rfl rfl) ?_
      refine J.op rfl rfl rfl (V.lenR 0 rfl rfl rfl tl30) ?_
      refine J.op rfl rfl rfl (V.cmp rfl rfl rfl rfl) ?_
      refine J.nil ?_
      refine J.tN ?_
      refine J.cond rfl (fun hB4 => ?_) (fun hB4 => ?_)
      · replace h1 := B.t hB4 h1
        refine J.skip ?_
        refine J.tN ?_
        refine J.seq ?_
        refine J.block ?_
        refine J.seq ?_
        refine J.region ?_
        refine J.op rfl rfl rfl (V.mv rfl rfl) ?_
        refine J.op rfl rfl rfl (V.mv rfl rfl) ?_
        refine J.op rfl rfl rfl (V.mv rfl rfl) ?_
        obtain ⟨hC5, h1⟩ := B.chk h1
        refine J.op rfl rfl rfl (V.ixR 0 rfl rfl rfl rfl tl30 ts2 hC5) ?_
        refine J.stR 0 rfl rfl rfl rfl rfl rfl ts2 (fun _ _ => rfl) (encA_lt1 .i64 _ hC5) ?_
        refine J.setEnt 0 rfl (congrArg (fun q => Ent.row _ _ 1 _ q) (encA_set1 .i64 _ _ _)) ?_
        obtain ⟨m6, em6, h1⟩ := B.lt h1
        refine J.setEnt 0 rfl (congrArg (fun q => Ent.row _ _ 1 _ (encA .i64 q)) em6) ?_
        refine J.nil ?_
        refine J.tN ?_
        refine J.region ?_
        refine J.op rfl rfl rfl (V.mv rfl rfl) ?_
        refine J.op rfl rfl rfl (V.ar rfl rfl rfl rfl) ?_
        refine J.op rfl rfl rfl (V.as rfl rfl) ?_
        obtain ⟨k_7, ek_7, h1⟩ := B.lt h1
        refine J.val (congrArg (Value.int .i64) ek_7) ?_
        refine J.nil ?_
        refine J.bN ?_
        refine J.tN ?_
        refine J.region ?_
        refine J.op rfl rfl rfl (V.mv rfl rfl) ?_
        refine J.op rfl rfl rfl (V.ar rfl rfl rfl rfl) ?_
        refine J.op rfl rfl rfl (V.as rfl rfl) ?_
        obtain ⟨i_8, ei_8, h1⟩ := B.lt h1
        refine J.val (congrArg (Value.int .i64) ei_8) ?_
        refine J.nil ?_
        refine J.tN (J.next (k_7, i_8, m6) () (B.n h1) ?_)
        exact J.keep _ rfl (J.pickE [0] rfl rfl J.here)
      · replace h1 := B.f hB4 h1
        refine J.exit ?_
        refine J.tE ?_
        refine J.tE ?_
        refine J.bE ?_
        obtain rfl := B.d h1
        refine J.tN (J.to () trivial ?_)
        exact J.keep _ rfl (J.pickE [0] rfl rfl J.here)
  · intro gy10 _
    refine J.tN ?_
    refine J.seq ?_
    refine J.region ?_
    refine J.op rfl rfl rfl (V.mv rfl rfl) ?_
    refine J.op rfl rfl rfl (V.as rfl rfl) ?_
    refine J.nil ?_
    refine J.tN ?_
    refine J.ret ?_
    obtain rfl := B.e h0
    exact J.ret1 rfl rfl fun w H => ⟨(), rfl, H.pick [0] (by decide)⟩

/-! ### laws.heldInt64S: function 16 -/
noncomputable def laws_heldInt64S.b1 (p0_a : (List Int)) : (Int × Int) → Option (Step (Int × Int) (Sum (Int) (Int))) := fun s1 => bif (decide (s1.2 < (p0_a.length : Int))) then (bif (inB s1.2 p0_a.length) then (bif ((rd (eI .i64) p0_a s1.2) != s1.1) then (some (.done (.inr (-1)))) else ((some (IntKind.wrap .i64 (s1.1 + 1))).bind fun k_7 => (some (IntKind.wrap .i64 (s1.2 + 1))).bind fun i_8 => some (.next (k_7, i_8)))) else none) else (some (.done (.inl s1.1)))
noncomputable def laws_heldInt64S.f (p0_a : (List Int)) (p1_k : Int) : Option (Int) := (loopW (laws_heldInt64S.b1 p0_a) (p1_k, 0)).bind (Sum.elim (fun y10 => some y10) (fun r => some r))
set_option maxRecDepth 100000 in
theorem laws_heldInt64S.calls (v0 : Value) (p0_a : (List Int)) (p1_k : Int) (r : Int) (w : World) (H0 : Own [] w w []) (hS0 : SlE [] w v0 2 (eI .i64) p0_a) (h0 : laws_heldInt64S.f p0_a p1_k = some r) :
    Calls Try.prog 16 #[v0, .int .i64 p1_k] w (fun e w' => ∃ _ : Unit, e = .returned (.int .i64 r) ∧ Own [] w w' []) := by
  unfold laws_heldInt64S.f at h0
  replace h0 := B.top h0
  refine calls_of_J (args := [v0, .int .i64 p1_k]) Try.func16 rfl Try.ntmps16 rfl [(0, v0), (1, .int .i64 p1_k)] rfl H0 ?_
  refine J.seq ?_
  refine J.region ?_
  refine J.op rfl rfl rfl (V.as rfl rfl) ?_
  refine J.nil ?_
  refine J.tN ?_
  refine J.seq ?_
  refine J.seq ?_
  refine J.region ?_
  refine J.op rfl rfl rfl (V.as rfl rfl) ?_
  refine J.nil ?_
  refine J.tN ?_
  obtain ⟨o12, hy11, h0⟩ := B.bind h0
  refine J.cutQ (γ := (Int) × (Unit)) (fun gy10 => o12 = .inl gy10.1) (fun gy10 => [(1, .int .i64 gy10.1)]) (fun gy10 => []) ?_ ?_
  · refine J.block ?_
    refine J.loop (γ := Unit) hy11 (fun s1 g2 => [(0, v0), (1, .int .i64 s1.1), (5, .int .i64 s1.2)]) (fun s1 g2 => []) () ?_ ?_
    · exact J.keep _ rfl (J.pickE [] rfl rfl J.here)
    · intro rec3 s1 g2 h1
      unfold laws_heldInt64S.b1 at h1
      refine J.seq ?_
      refine J.seq ?_
      refine J.region ?_
      refine J.op rfl rfl rfl (V.mv rfl rfl) ?_
      refine J.op rfl rfl rfl (V.mv rfl rfl) ?_
      refine J.op rfl rfl rfl (V.lenS hS0 rfl rfl tl30) ?_
      refine J.op rfl rfl rfl (V.cmp rfl rfl rfl rfl) ?_
      refine J.nil ?_
      refine J.tN ?_
      refine J.cond rfl (fun hB4 => ?_) (fun hB4 => ?_)
      · replace h1 := B.t hB4 h1
        refine J.skip ?_
        refine J.tN ?_
        refine J.seq ?_
        refine J.block ?_
        refine J.seq ?_
        refine J.seq ?_
        refine J.region ?_
        refine J.op rfl rfl rfl (V.mv rfl rfl) ?_
        refine J.op rfl rfl rfl (V.mv rfl rfl) ?_
        obtain ⟨hC5, h1⟩ := B.chk h1
        refine J.op rfl rfl rfl (V.ixS hS0 rfl rfl rfl tl30 ts2 hC5) ?_
        refine J.op rfl rfl rfl (V.elS0 hS0 hC5 rfl rfl Try.underlying2 ta2 rfl) ?_
        refine J.op rfl rfl rfl (V.mv rfl rfl) ?_
        refine J.op rfl rfl rfl (V.cmp rfl rfl rfl rfl) ?_
        refine J.nil ?_
        refine J.tN ?_
        refine J.cond rfl (fun hB6 => ?_) (fun hB6 => ?_)
        · replace h1 := B.t hB6 h1
          refine J.seq ?_
          refine J.region ?_
          refine J.op rfl rfl rfl (V.as rfl rfl) ?_
          refine J.nil ?_
          refine J.tN ?_
          refine J.ret ?_
          refine J.tR ?_
          refine J.bR ?_
          refine J.tR ?_
          refine J.tR ?_
          refine J.bR ?_
          refine J.tR ?_
          refine J.tR ?_
          obtain rfl := B.d h1
          replace h0 := B.inr h0
          obtain rfl := B.e h0
          exact J.ret1 rfl rfl fun w H => ⟨(), rfl, H.pick [] (by decide)⟩
        · replace h1 := B.f hB6 h1
          refine J.skip ?_
          refine J.tN ?_
          refine J.region ?_
          refine J.op rfl rfl rfl (V.mv rfl rfl) ?_
          refine J.op rfl rfl rfl (V.ar rfl rfl rfl rfl) ?_
          refine J.op rfl rfl rfl (V.as rfl rfl) ?_
          obtain ⟨k_7, ek_7, h1⟩ := B.lt h1
          refine J.val (congrArg (Value.int .i64) ek_7) ?_
          refine J.nil ?_
          refine J.bN ?_
          refine J.tN ?_
          refine J.region ?_
          refine J.op rfl rfl rfl (V.mv rfl rfl) ?_
          refine J.op rfl rfl rfl (V.ar rfl rfl rfl rfl) ?_
          refine J.op rfl rfl rfl (V.as rfl rfl) ?_
          obtain ⟨i_8, ei_8, h1⟩ := B.lt h1
          refine J.val (congrArg (Value.int .i64) ei_8) ?_
          refine J.nil ?_
          refine J.tN (J.next (k_7, i_8) () (B.n h1) ?_)
          exact J.keep _ rfl (J.pickE [] rfl rfl J.here)
      · replace h1 := B.f hB4 h1
        refine J.exit ?_
        refine J.tE ?_
        refine J.tE ?_
        refine J.bE ?_
        obtain rfl := B.d h1
        refine J.tN (J.to (s1.1, ()) rfl ?_)
        exact J.keep _ rfl (J.pickE [] rfl rfl J.here)
  · intro gy10 hG
    replace h0 := B.inl hG h0
    refine J.tN ?_
    refine J.seq ?_
    refine J.region ?_
    refine J.op rfl rfl rfl (V.mv rfl rfl) ?_
    refine J.op rfl rfl rfl (V.as rfl rfl) ?_
    refine J.nil ?_
    refine J.tN ?_
    refine J.ret ?_
    obtain rfl := B.e h0
    exact J.ret1 rfl rfl fun w H => ⟨(), rfl, H.pick [] (by decide)⟩

/-! ### laws.FnExactOrderGrades: function 4 -/
noncomputable def laws_FnExactOrderGrades.f (p0_aGrades : (List (List laws_Point))) (p1_aLight : Int) (p2_aDark : Int) : Option (Bool) := (laws_szCurveS.f p0_aGrades 1048576).bind fun r1 => bif (decide (r1 < 0)) then (some true) else ((laws_toCurveS.f p0_aGrades).bind fun r5 => (spec_OrderGrades.f r5 p1_aLight p2_aDark).bind fun r9 => (laws_toCurveS.f p0_aGrades).bind fun r13 => (impl_OrderGrades.f r13 p1_aLight p2_aDark).bind fun r17 => ((laws_eqInt64S.f r17.1 r9.1).bind fun r23 => bif (!r23) then (some true) else (some (r17.2 != r9.2)) : Option (Bool)).bind fun y21 => bif y21 then (some false) else ((laws_toCurveS.f p0_aGrades).bind fun r29 => (laws_eqCurveS.f r13 r29).bind fun r33 => bif (!r33) then (some false) else ((laws_markCurveS.f r13 1).bind fun r37 => (bif (decide (r37.1 < 0)) then (some true) else ((laws_eqInt64S.f r17.1 r9.1).bind fun r43 => bif (!r43) then (some true) else (some (r17.2 != r9.2))) : Option (Bool)).bind fun y40 => bif y40 then (some false) else ((laws_markInt64S.f r17.1.length (vecOf r17.1) 1).bind fun r49 => (laws_heldInt64S.f r49.2.toList 1).bind fun r52 => bif (decide (r52 < 0)) then (some false) else (bif (r52 != r49.1) then (some false) else ((laws_toCurveS.f p0_aGrades).bind fun r57 => (impl_OrderGrades.f r57 p1_aLight p2_aDark).bind fun r61 => ((laws_eqInt64S.f r61.1 r9.1).bind fun r67 => bif (!r67) then (some true) else (some (r61.2 != r9.2)) : Option (Bool)).bind fun y65 => bif y65 then (some false) else ((laws_heldInt64S.f r49.2.toList 1).bind fun r73 => bif (decide (r73 < 0)) then (some false) else (bif (r73 != r49.1) then (some false) else (some true)))))))))
set_option maxRecDepth 100000 in
theorem laws_FnExactOrderGrades.calls (v0 : Value) (p0_aGrades : (List (List laws_Point))) (p1_aLight : Int) (p2_aDark : Int) (r : Bool) (w : World) (H0 : Own [] w w []) (hS0 : SlN [] w v0 52 80 enc_laws_Point p0_aGrades) (h0 : laws_FnExactOrderGrades.f p0_aGrades p1_aLight p2_aDark = some r) :
    Calls Try.prog 4 #[v0, .int .i64 p1_aLight, .int .i64 p2_aDark] w (fun e w' => ∃ _ : Unit, e = .returned (.bool r) ∧ Own [] w w' []) := by
  unfold laws_FnExactOrderGrades.f at h0
  replace h0 := B.top h0
  refine calls_of_J (args := [v0, .int .i64 p1_aLight, .int .i64 p2_aDark]) Try.func4 rfl Try.ntmps4 rfl [(0, v0), (1, .int .i64 p1_aLight), (2, .int .i64 p2_aDark)] rfl H0 ?_
  obtain ⟨us0_, hN0, hE0⟩ := id hS0
  refine J.seq ?_
  refine J.region ?_
  refine J.op rfl rfl rfl (V.as rfl rfl) ?_
  refine J.nil ?_
  refine J.tN ?_
  refine J.seq ?_
  refine J.region ?_
  refine J.op rfl rfl rfl (V.as rfl rfl) ?_
  refine J.nil ?_
  refine J.tN ?_
  refine J.seq ?_
  refine J.region ?_
  refine J.op rfl rfl rfl (V.mv rfl rfl) ?_
  refine J.op rfl rfl rfl (V.mv rfl rfl) ?_
  obtain ⟨r1, hr2, h0⟩ := B.bind h0
  refine J.clA (l := [.tmp 18, .tmp 19]) [] [] cf6 (wN rfl) rfl rfl rfl rfl rfl rfl (fun w H => laws_szCurveS.calls v0 p0_aGrades 1048576 r1 w (Own.refl w) (SlN.laterA hS0 H) hr2) fun g3 => ?_
  refine J.op rfl rfl rfl (V.as rfl rfl) ?_
  refine J.nil ?_
  refine J.tN ?_
  refine J.seq ?_
  refine J.seq ?_
  refine J.region ?_
  refine J.op rfl rfl rfl (V.mv rfl rfl) ?_
  refine J.op rfl rfl rfl (V.cmp rfl rfl rfl rfl) ?_
  refine J.nil ?_
  refine J.tN ?_
  refine J.cond rfl (fun hB4 => ?_) (fun hB4 => ?_)
  · replace h0 := B.t hB4 h0
    refine J.seq ?_
    refine J.region ?_
    refine J.op rfl rfl rfl (V.as rfl rfl) ?_
    refine J.nil ?_
    refine J.tN ?_
    refine J.ret ?_
    refine J.tR ?_
    obtain rfl := B.e h0
    exact J.ret1 rfl rfl fun w H => ⟨(), rfl, H.pick [] (by decide)⟩
  · replace h0 := B.f hB4 h0
    refine J.skip ?_
    refine J.tN ?_
    refine J.seq ?_
    refine J.region ?_
    refine J.op rfl rfl rfl (V.mv rfl rfl) ?_
    obtain ⟨r5, hr6, h0⟩ := B.bind h0
    refine J.clA (l := [.tmp 24]) [] [] cf8 (wN rfl) rfl rfl rfl rfl rfl rfl (fun w H => laws_toCurveS.calls v0 p0_aGrades r5 w (Own.refl w) (SlN.laterA hS0 H) hr6) fun g7 => ?_
    refine J.op rfl rfl rfl (V.mv rfl rfl) ?_
    refine J.op rfl rfl rfl (V.mv rfl rfl) ?_
    obtain ⟨r9, hr10, h0⟩ := B.bind h0
    refine J.clA (l := [.tmp 25, .tmp 26, .tmp 27]) [] [.nestE g7.1 40 78 enc_impl_Point g7.2 r5] cf11 (wN rfl) rfl rfl rfl rfl rfl rfl (fun w H => spec_OrderGrades.calls g7.1 r5 p1_aLight p2_aDark r9 w (Own.refl w) (Own.nA 0 H rfl) hr10) fun g11 => ?_
    refine J.op rfl rfl rfl (V.mv rfl rfl) ?_
    refine J.op rfl rfl rfl (V.ex rfl rfl rfl) ?_
    refine J.op rfl rfl rfl (V.ex rfl rfl rfl) ?_
    refine J.op rfl rfl rfl (V.as rfl rfl) ?_
    refine J.op rfl rfl rfl (V.as rfl rfl) ?_
    refine J.nil ?_
    refine J.tN ?_
    refine J.seq ?_
    refine J.region ?_
    refine J.op rfl rfl rfl (V.mv rfl rfl) ?_
    obtain ⟨r13, hr14, h0⟩ := B.bind h0
    refine J.clA (l := [.tmp 31]) [] [.rowE g11 2 (eI .i64) r9.1, .nestE g7.1 40 78 enc_impl_Point g7.2 r5] cf8 (wN rfl) rfl rfl rfl rfl rfl rfl (fun w H => laws_toCurveS.calls v0 p0_aGrades r13 w (Own.refl w) (SlN.laterA hS0 H) hr14) fun g15 => ?_
    refine J.op rfl rfl rfl (V.as rfl rfl) ?_
    refine J.nil ?_
    refine J.tN ?_
    refine J.seq ?_
    refine J.region ?_
    refine J.op rfl rfl rfl (V.mv rfl rfl) ?_
    refine J.op rfl rfl rfl (V.mv rfl rfl) ?_
    refine J.op rfl rfl rfl (V.mv rfl rfl) ?_
    obtain ⟨r17, hr18, h0⟩ := B.bind h0
    refine J.clA (l := [.tmp 34, .tmp 35, .tmp 36]) [] [.nestE g15.1 40 78 enc_impl_Point g15.2 r13, .rowE g11 2 (eI .i64) r9.1, .nestE g7.1 40 78 enc_impl_Point g7.2 r5] cf12 (wN rfl) rfl rfl rfl rfl rfl rfl (fun w H => impl_OrderGrades.calls g15.1 r13 p1_aLight p2_aDark r17 w (Own.refl w) (Own.nA 0 H rfl) hr18) fun g19 => ?_
    refine J.op rfl rfl rfl (V.mv rfl rfl) ?_
    refine J.op rfl rfl rfl (V.ex rfl rfl rfl) ?_
    refine J.op rfl rfl rfl (V.ex rfl rfl rfl) ?_
    refine J.op rfl rfl rfl (V.as rfl rfl) ?_
    refine J.op rfl rfl rfl (V.as rfl rfl) ?_
    refine J.nil ?_
    refine J.tN ?_
    refine J.seq ?_
    refine J.seq ?_
    obtain ⟨y21, hy27, h0⟩ := B.bind h0
    replace hy27 := B.top hy27
    refine J.cut (γ := Unit) (fun _ => True) (fun gy22 => [(0, v0), (1, .int .i64 p1_aLight), (2, .int .i64 p2_aDark), (8, g11), (9, .int .i64 r9.2), (10, g15.1), (11, g19), (12, .int .i64 r17.2), (48, .bool y21)]) (fun gy22 => [.rowE g19 2 (eI .i64) r17.1, .nestE g15.1 40 78 enc_impl_Point g15.2 r13, .rowE g11 2 (eI .i64) r9.1, .nestE g7.1 40 78 enc_impl_Point g7.2 r5]) ?_ ?_
    · have h1 := hy27
      refine J.region ?_
      refine J.op rfl rfl rfl (V.mv rfl rfl) ?_
      refine J.op rfl rfl rfl (V.mv rfl rfl) ?_
      obtain ⟨r23, hr24, h1⟩ := B.bind h1
      refine J.clA (l := [.tmp 40, .tmp 41]) [] [.rowE g19 2 (eI .i64) r17.1, .nestE g15.1 40 78 enc_impl_Point g15.2 r13, .rowE g11 2 (eI .i64) r9.1, .nestE g7.1 40 78 enc_impl_Point g7.2 r5] cf13 (wN rfl) rfl rfl rfl rfl rfl rfl (fun w H => laws_eqInt64S.calls g19 r17.1 g11 r9.1 r23 w (Own.refl w) (Own.slA 0 H rfl) (Own.slA 2 H rfl) hr24) fun g25 => ?_
      refine J.op rfl rfl rfl (V.nt rfl rfl) ?_
      refine J.op rfl rfl rfl (V.mv rfl rfl) ?_
      refine J.split 44 rfl (fun hB26 => ?_) (fun hB26 => ?_)
      · replace h1 := B.t hB26 h1
        refine J.opOff rfl rfl rfl rfl rfl rfl ?_
        refine J.opOff rfl rfl rfl rfl rfl rfl ?_
        refine J.opOff rfl rfl rfl rfl rfl rfl ?_
        refine J.op rfl rfl rfl (V.pkT rfl rfl rfl) ?_
        refine J.nil ?_
        obtain rfl := B.e h1
        refine J.tN (J.to () trivial ?_)
        exact J.keep _ rfl (J.pickE [0, 1, 2, 3] rfl rfl J.here)
      · replace h1 := B.f hB26 h1
        refine J.opOn rfl rfl rfl rfl rfl (V.mv rfl rfl) ?_
        refine J.opOn rfl rfl rfl rfl rfl (V.mv rfl rfl) ?_
        refine J.opOn rfl rfl rfl rfl rfl (V.cmp rfl rfl rfl rfl) ?_
        refine J.op rfl rfl rfl (V.pkF rfl rfl rfl) ?_
        refine J.nil ?_
        obtain rfl := B.e h1
        refine J.tN (J.to () trivial ?_)
        exact J.keep _ rfl (J.pickE [0, 1, 2, 3] rfl rfl J.here)
    · intro gy22 _
      refine J.cond rfl (fun hB28 => ?_) (fun hB28 => ?_)
      · replace h0 := B.t hB28 h0
        refine J.seq ?_
        refine J.region ?_
        refine J.op rfl rfl rfl (V.as rfl rfl) ?_
        refine J.nil ?_
        refine J.tN ?_
        refine J.ret ?_
        refine J.tR ?_
        obtain rfl := B.e h0
        exact J.ret1 rfl rfl fun w H => ⟨(), rfl, H.pick [] (by decide)⟩
      · replace h0 := B.f hB28 h0
        refine J.skip ?_
        refine J.tN ?_
        refine J.seq ?_
        refine J.seq ?_
        refine J.region ?_
        refine J.op rfl rfl rfl (V.mv rfl rfl) ?_
        refine J.op rfl rfl rfl (V.mv rfl rfl) ?_
        obtain ⟨r29, hr30, h0⟩ := B.bind h0
        refine J.clA (l := [.tmp 50]) [] [.rowE g19 2 (eI .i64) r17.1, .nestE g15.1 40 78 enc_impl_Point g15.2 r13, .rowE g11 2 (eI .i64) r9.1, .nestE g7.1 40 78 enc_impl_Point g7.2 r5] cf8 (wN rfl) rfl rfl rfl rfl rfl rfl (fun w H => laws_toCurveS.calls v0 p0_aGrades r29 w (Own.refl w) (SlN.laterA hS0 H) hr30) fun g31 => ?_
        obtain ⟨r33, hr34, h0⟩ := B.bind h0
        refine J.clA (l := [.tmp 49, .tmp 51]) [] [.nestE g31.1 40 78 enc_impl_Point g31.2 r29, .rowE g19 2 (eI .i64) r17.1, .nestE g15.1 40 78 enc_impl_Point g15.2 r13, .rowE g11 2 (eI .i64) r9.1, .nestE g7.1 40 78 enc_impl_Point g7.2 r5] cf10 (wN rfl) rfl rfl rfl rfl rfl rfl (fun w H => laws_eqCurveS.calls g15.1 r13 g31.1 r29 r33 w (Own.refl w) (Own.nA 2 H rfl) (Own.nA 0 H rfl) hr34) fun g35 => ?_
        refine J.op rfl rfl rfl (V.nt rfl rfl) ?_
        refine J.nil ?_
        refine J.tN ?_
        refine J.cond rfl (fun hB36 => ?_) (fun hB36 => ?_)
        · replace h0 := B.t hB36 h0
          refine J.seq ?_
          refine J.region ?_
          refine J.op rfl rfl rfl (V.as rfl rfl) ?_
          refine J.nil ?_
          refine J.tN ?_
          refine J.ret ?_
          refine J.tR ?_
          obtain rfl := B.e h0
          exact J.ret1 rfl rfl fun w H => ⟨(), rfl, H.pick [] (by decide)⟩
        · replace h0 := B.f hB36 h0
          refine J.skip ?_
          refine J.tN ?_
          refine J.seq ?_
          refine J.region ?_
          refine J.op rfl rfl rfl (V.as rfl rfl) ?_
          refine J.nil ?_
          refine J.tN ?_
          refine J.seq ?_
          refine J.region ?_
          refine J.op rfl rfl rfl (V.mv rfl rfl) ?_
          refine J.op rfl rfl rfl (V.mv rfl rfl) ?_
          refine J.pickE [2, 0, 1, 3, 4] (es' := [.nestE g15.1 40 78 enc_impl_Point g15.2 r13, .nestE g31.1 40 78 enc_impl_Point g31.2 r29, .rowE g19 2 (eI .i64) r17.1, .rowE g11 2 (eI .i64) r9.1, .nestE g7.1 40 78 enc_impl_Point g7.2 r5]) rfl rfl ?_
          obtain ⟨r37, hr38, h0⟩ := B.bind h0
          refine J.clA (l := [.tmp 54, .tmp 55]) [.nestE g15.1 40 78 enc_impl_Point g15.2 r13] [.nestE g31.1 40 78 enc_impl_Point g31.2 r29, .rowE g19 2 (eI .i64) r17.1, .rowE g11 2 (eI .i64) r9.1, .nestE g7.1 40 78 enc_impl_Point g7.2 r5] cf14 (wN rfl) rfl rfl rfl rfl rfl rfl (fun w H => laws_markCurveS.calls g15.1 g15.2 r13 1 r37 w H.enterA  hr38) fun g39 => ?_
          refine J.op rfl rfl rfl (V.as rfl rfl) ?_
          refine J.nil ?_
          refine J.tN ?_
          refine J.seq ?_
          refine J.seq ?_
          obtain ⟨y40, hy47, h0⟩ := B.bind h0
          replace hy47 := B.top hy47
          refine J.cut (γ := Unit) (fun _ => True) (fun gy41 => [(0, v0), (1, .int .i64 p1_aLight), (2, .int .i64 p2_aDark), (8, g11), (9, .int .i64 r9.2), (11, g19), (69, .bool y40)]) (fun gy41 => [.nestE g15.1 40 78 enc_impl_Point g15.2 r37.2, .nestE g31.1 40 78 enc_impl_Point g31.2 r29, .rowE g19 2 (eI .i64) r17.1, .rowE g11 2 (eI .i64) r9.1, .nestE g7.1 40 78 enc_impl_Point g7.2 r5]) ?_ ?_
          · have h1 := hy47
            refine J.region ?_
            refine J.op rfl rfl rfl (V.mv rfl rfl) ?_
            refine J.op rfl rfl rfl (V.cmp rfl rfl rfl rfl) ?_
            refine J.op rfl rfl rfl (V.mv rfl rfl) ?_
            refine J.split 59 rfl (fun hB42 => ?_) (fun hB42 => ?_)
            · replace h1 := B.t hB42 h1
              refine J.opOff rfl rfl rfl rfl rfl rfl ?_
              refine J.opOff rfl rfl rfl rfl rfl rfl ?_
              refine J.opOff rfl rfl rfl rfl rfl rfl ?_
              refine J.opOff rfl rfl rfl rfl rfl rfl ?_
              refine J.op rfl rfl rfl (V.pkT rfl rfl rfl) ?_
              refine J.op rfl rfl rfl (V.mv rfl rfl) ?_
              refine J.opOff rfl rfl rfl rfl rfl rfl ?_
              refine J.opOff rfl rfl rfl rfl rfl rfl ?_
              refine J.opOff rfl rfl rfl rfl rfl rfl ?_
              refine J.op rfl rfl rfl (V.pkT rfl rfl rfl) ?_
              refine J.nil ?_
              obtain rfl := B.e h1
              refine J.tN (J.to () trivial ?_)
              exact J.keep _ rfl (J.pickE [0, 1, 2, 3, 4] rfl rfl J.here)
            · replace h1 := B.f hB42 h1
              refine J.opOn rfl rfl rfl rfl rfl (V.mv rfl rfl) ?_
              refine J.opOn rfl rfl rfl rfl rfl (V.mv rfl rfl) ?_
              obtain ⟨r43, hr44, h1⟩ := B.bind h1
              refine J.clA (l := [.tmp 60, .tmp 61]) [] [.nestE g15.1 40 78 enc_impl_Point g15.2 r37.2, .nestE g31.1 40 78 enc_impl_Point g31.2 r29, .rowE g19 2 (eI .i64) r17.1, .rowE g11 2 (eI .i64) r9.1, .nestE g7.1 40 78 enc_impl_Point g7.2 r5] cf13 (wY rfl rfl rfl) rfl rfl rfl rfl rfl rfl (fun w H => laws_eqInt64S.calls g19 r17.1 g11 r9.1 r43 w (Own.refl w) (Own.slA 2 H rfl) (Own.slA 3 H rfl) hr44) fun g45 => ?_
              refine J.opOn rfl rfl rfl rfl rfl (V.nt rfl rfl) ?_
              refine J.op rfl rfl rfl (V.pkF rfl rfl rfl) ?_
              refine J.op rfl rfl rfl (V.mv rfl rfl) ?_
              refine J.split 65 rfl (fun hB46 => ?_) (fun hB46 => ?_)
              · replace h1 := B.t hB46 h1
                refine J.opOff rfl rfl rfl rfl rfl rfl ?_
                refine J.opOff rfl rfl rfl rfl rfl rfl ?_
                refine J.opOff rfl rfl rfl rfl rfl rfl ?_
                refine J.op rfl rfl rfl (V.pkT rfl rfl rfl) ?_
                refine J.nil ?_
                obtain rfl := B.e h1
                refine J.tN (J.to () trivial ?_)
                exact J.keep _ rfl (J.pickE [0, 1, 2, 3, 4] rfl rfl J.here)
              · replace h1 := B.f hB46 h1
                refine J.opOn rfl rfl rfl rfl rfl (V.mv rfl rfl) ?_
                refine J.opOn rfl rfl rfl rfl rfl (V.mv rfl rfl) ?_
                refine J.opOn rfl rfl rfl rfl rfl (V.cmp rfl rfl rfl rfl) ?_
                refine J.op rfl rfl rfl (V.pkF rfl rfl rfl) ?_
                refine J.nil ?_
                obtain rfl := B.e h1
                refine J.tN (J.to () trivial ?_)
                exact J.keep _ rfl (J.pickE [0, 1, 2, 3, 4] rfl rfl J.here)
          · intro gy41 _
            refine J.cond rfl (fun hB48 => ?_) (fun hB48 => ?_)
            · replace h0 := B.t hB48 h0
              refine J.seq ?_
              refine J.region ?_
              refine J.op rfl rfl rfl (V.as rfl rfl) ?_
              refine J.nil ?_
              refine J.tN ?_
              refine J.ret ?_
              refine J.tR ?_
              obtain rfl := B.e h0
              exact J.ret1 rfl rfl fun w H => ⟨(), rfl, H.pick [] (by decide)⟩
            · replace h0 := B.f hB48 h0
              refine J.skip ?_
              refine J.tN ?_
              refine J.seq ?_
              refine J.region ?_
              refine J.op rfl rfl rfl (V.as rfl rfl) ?_
              refine J.nil ?_
              refine J.tN ?_
              refine J.seq ?_
              refine J.region ?_
              refine J.op rfl rfl rfl (V.mv rfl rfl) ?_
              refine J.op rfl rfl rfl (V.mv rfl rfl) ?_
              refine J.pickE [2, 0, 1, 3, 4] (es' := [.rowE g19 2 (eI .i64) r17.1, .nestE g15.1 40 78 enc_impl_Point g15.2 r37.2, .nestE g31.1 40 78 enc_impl_Point g31.2 r29, .rowE g11 2 (eI .i64) r9.1, .nestE g7.1 40 78 enc_impl_Point g7.2 r5]) rfl rfl ?_
              refine J.rowV ?_
              obtain ⟨r49, hr50, h0⟩ := B.bind h0
              refine J.clA (l := [.tmp 70, .tmp 71]) [.row g19 2 1 r17.1.length (encA .i64 (vecOf r17.1))] [.nestE g15.1 40 78 enc_impl_Point g15.2 r37.2, .nestE g31.1 40 78 enc_impl_Point g31.2 r29, .rowE g11 2 (eI .i64) r9.1, .nestE g7.1 40 78 enc_impl_Point g7.2 r5] cf15 (wN rfl) rfl rfl rfl rfl rfl rfl (fun w H => laws_markInt64S.calls g19 r17.1.length 2 (vecOf r17.1) 1 r49 w H.enterA  hr50) fun g51 => ?_
              refine J.vRow ?_
              refine J.op rfl rfl rfl (V.as rfl rfl) ?_
              refine J.nil ?_
              refine J.tN ?_
              refine J.seq ?_
              refine J.region ?_
              refine J.op rfl rfl rfl (V.as rfl rfl) ?_
              refine J.nil ?_
              refine J.tN ?_
              refine J.seq ?_
              refine J.region ?_
              refine J.op rfl rfl rfl (V.mv rfl rfl) ?_
              refine J.op rfl rfl rfl (V.mv rfl rfl) ?_
              obtain ⟨r52, hr53, h0⟩ := B.bind h0
              refine J.clA (l := [.tmp 73, .tmp 74]) [] [.rowE g19 2 (eI .i64) r49.2.toList, .nestE g15.1 40 78 enc_impl_Point g15.2 r37.2, .nestE g31.1 40 78 enc_impl_Point g31.2 r29, .rowE g11 2 (eI .i64) r9.1, .nestE g7.1 40 78 enc_impl_Point g7.2 r5] cf16 (wN rfl) rfl rfl rfl rfl rfl rfl (fun w H => laws_heldInt64S.calls g19 r49.2.toList 1 r52 w (Own.refl w) (Own.slA 0 H rfl) hr53) fun g54 => ?_
              refine J.op rfl rfl rfl (V.as rfl rfl) ?_
              refine J.nil ?_
              refine J.tN ?_
              refine J.seq ?_
              refine J.seq ?_
              refine J.region ?_
              refine J.op rfl rfl rfl (V.mv rfl rfl) ?_
              refine J.op rfl rfl rfl (V.cmp rfl rfl rfl rfl) ?_
              refine J.nil ?_
              refine J.tN ?_
              refine J.cond rfl (fun hB55 => ?_) (fun hB55 => ?_)
              · replace h0 := B.t hB55 h0
                refine J.seq ?_
                refine J.region ?_
                refine J.op rfl rfl rfl (V.as rfl rfl) ?_
                refine J.nil ?_
                refine J.tN ?_
                refine J.ret ?_
                refine J.tR ?_
                obtain rfl := B.e h0
                exact J.ret1 rfl rfl fun w H => ⟨(), rfl, H.pick [] (by decide)⟩
              · replace h0 := B.f hB55 h0
                refine J.skip ?_
                refine J.tN ?_
                refine J.seq ?_
                refine J.seq ?_
                refine J.region ?_
                refine J.op rfl rfl rfl (V.mv rfl rfl) ?_
                refine J.op rfl rfl rfl (V.mv rfl rfl) ?_
                refine J.op rfl rfl rfl (V.cmp rfl rfl rfl rfl) ?_
                refine J.nil ?_
                refine J.tN ?_
                refine J.cond rfl (fun hB56 => ?_) (fun hB56 => ?_)
                · replace h0 := B.t hB56 h0
                  refine J.seq ?_
                  refine J.region ?_
                  refine J.op rfl rfl rfl (V.as rfl rfl) ?_
                  refine J.nil ?_
                  refine J.tN ?_
                  refine J.ret ?_
                  refine J.tR ?_
                  obtain rfl := B.e h0
                  exact J.ret1 rfl rfl fun w H => ⟨(), rfl, H.pick [] (by decide)⟩
                · replace h0 := B.f hB56 h0
                  refine J.skip ?_
                  refine J.tN ?_
                  refine J.seq ?_
                  refine J.region ?_
                  refine J.op rfl rfl rfl (V.mv rfl rfl) ?_
                  obtain ⟨r57, hr58, h0⟩ := B.bind h0
                  refine J.clA (l := [.tmp 82]) [] [.rowE g19 2 (eI .i64) r49.2.toList, .nestE g15.1 40 78 enc_impl_Point g15.2 r37.2, .nestE g31.1 40 78 enc_impl_Point g31.2 r29, .rowE g11 2 (eI .i64) r9.1, .nestE g7.1 40 78 enc_impl_Point g7.2 r5] cf8 (wN rfl) rfl rfl rfl rfl rfl rfl (fun w H => laws_toCurveS.calls v0 p0_aGrades r57 w (Own.refl w) (SlN.laterA hS0 H) hr58) fun g59 => ?_
                  refine J.op rfl rfl rfl (V.mv rfl rfl) ?_
                  refine J.op rfl rfl rfl (V.mv rfl rfl) ?_
                  obtain ⟨r61, hr62, h0⟩ := B.bind h0
                  refine J.clA (l := [.tmp 83, .tmp 84, .tmp 85]) [] [.nestE g59.1 40 78 enc_impl_Point g59.2 r57, .rowE g19 2 (eI .i64) r49.2.toList, .nestE g15.1 40 78 enc_impl_Point g15.2 r37.2, .nestE g31.1 40 78 enc_impl_Point g31.2 r29, .rowE g11 2 (eI .i64) r9.1, .nestE g7.1 40 78 enc_impl_Point g7.2 r5] cf12 (wN rfl) rfl rfl rfl rfl rfl rfl (fun w H => impl_OrderGrades.calls g59.1 r57 p1_aLight p2_aDark r61 w (Own.refl w) (Own.nA 0 H rfl) hr62) fun g63 => ?_
                  refine J.op rfl rfl rfl (V.mv rfl rfl) ?_
                  refine J.op rfl rfl rfl (V.ex rfl rfl rfl) ?_
                  refine J.op rfl rfl rfl (V.ex rfl rfl rfl) ?_
                  refine J.op rfl rfl rfl (V.as rfl rfl) ?_
                  refine J.op rfl rfl rfl (V.as rfl rfl) ?_
                  refine J.nil ?_
                  refine J.tN ?_
                  refine J.seq ?_
                  refine J.seq ?_
                  obtain ⟨y65, hy71, h0⟩ := B.bind h0
                  replace hy71 := B.top hy71
                  refine J.cut (γ := Unit) (fun _ => True) (fun gy66 => [(11, g19), (14, .int .i64 r49.1), (97, .bool y65)]) (fun gy66 => [.rowE g63 2 (eI .i64) r61.1, .nestE g59.1 40 78 enc_impl_Point g59.2 r57, .rowE g19 2 (eI .i64) r49.2.toList, .nestE g15.1 40 78 enc_impl_Point g15.2 r37.2, .nestE g31.1 40 78 enc_impl_Point g31.2 r29, .rowE g11 2 (eI .i64) r9.1, .nestE g7.1 40 78 enc_impl_Point g7.2 r5]) ?_ ?_
                  · have h1 := hy71
                    refine J.region ?_
                    refine J.op rfl rfl rfl (V.mv rfl rfl) ?_
                    refine J.op rfl rfl rfl (V.mv rfl rfl) ?_
                    obtain ⟨r67, hr68, h1⟩ := B.bind h1
                    refine J.clA (l := [.tmp 89, .tmp 90]) [] [.rowE g63 2 (eI .i64) r61.1, .nestE g59.1 40 78 enc_impl_Point g59.2 r57, .rowE g19 2 (eI .i64) r49.2.toList, .nestE g15.1 40 78 enc_impl_Point g15.2 r37.2, .nestE g31.1 40 78 enc_impl_Point g31.2 r29, .rowE g11 2 (eI .i64) r9.1, .nestE g7.1 40 78 enc_impl_Point g7.2 r5] cf13 (wN rfl) rfl rfl rfl rfl rfl rfl (fun w H => laws_eqInt64S.calls g63 r61.1 g11 r9.1 r67 w (Own.refl w) (Own.slA 0 H rfl) (Own.slA 5 H rfl) hr68) fun g69 => ?_
                    refine J.op rfl rfl rfl (V.nt rfl rfl) ?_
                    refine J.op rfl rfl rfl (V.mv rfl rfl) ?_
                    refine J.split 93 rfl (fun hB70 => ?_) (fun hB70 => ?_)
                    · replace h1 := B.t hB70 h1
                      refine J.opOff rfl rfl rfl rfl rfl rfl ?_
                      refine J.opOff rfl rfl rfl rfl rfl rfl ?_
                      refine J.opOff rfl rfl rfl rfl rfl rfl ?_
                      refine J.op rfl rfl rfl (V.pkT rfl rfl rfl) ?_
                      refine J.nil ?_
                      obtain rfl := B.e h1
                      refine J.tN (J.to () trivial ?_)
                      exact J.keep _ rfl (J.pickE [0, 1, 2, 3, 4, 5, 6] rfl rfl J.here)
                    · replace h1 := B.f hB70 h1
                      refine J.opOn rfl rfl rfl rfl rfl (V.mv rfl rfl) ?_
                      refine J.opOn rfl rfl rfl rfl rfl (V.mv rfl rfl) ?_
                      refine J.opOn rfl rfl rfl rfl rfl (V.cmp rfl rfl rfl rfl) ?_
                      refine J.op rfl rfl rfl (V.pkF rfl rfl rfl) ?_
                      refine J.nil ?_
                      obtain rfl := B.e h1
                      refine J.tN (J.to () trivial ?_)
                      exact J.keep _ rfl (J.pickE [0, 1, 2, 3, 4, 5, 6] rfl rfl J.here)
                  · intro gy66 _
                    refine J.cond rfl (fun hB72 => ?_) (fun hB72 => ?_)
                    · replace h0 := B.t hB72 h0
                      refine J.seq ?_
                      refine J.region ?_
                      refine J.op rfl rfl rfl (V.as rfl rfl) ?_
                      refine J.nil ?_
                      refine J.tN ?_
                      refine J.ret ?_
                      refine J.tR ?_
                      obtain rfl := B.e h0
                      exact J.ret1 rfl rfl fun w H => ⟨(), rfl, H.pick [] (by decide)⟩
                    · replace h0 := B.f hB72 h0
                      refine J.skip ?_
                      refine J.tN ?_
                      refine J.seq ?_
                      refine J.region ?_
                      refine J.op rfl rfl rfl (V.as rfl rfl) ?_
                      refine J.nil ?_
                      refine J.tN ?_
                      refine J.seq ?_
                      refine J.region ?_
                      refine J.op rfl rfl rfl (V.mv rfl rfl) ?_
                      refine J.op rfl rfl rfl (V.mv rfl rfl) ?_
                      obtain ⟨r73, hr74, h0⟩ := B.bind h0
                      refine J.clA (l := [.tmp 98, .tmp 99]) [] [.rowE g63 2 (eI .i64) r61.1, .nestE g59.1 40 78 enc_impl_Point g59.2 r57, .rowE g19 2 (eI .i64) r49.2.toList, .nestE g15.1 40 78 enc_impl_Point g15.2 r37.2, .nestE g31.1 40 78 enc_impl_Point g31.2 r29, .rowE g11 2 (eI .i64) r9.1, .nestE g7.1 40 78 enc_impl_Point g7.2 r5] cf16 (wN rfl) rfl rfl rfl rfl rfl rfl (fun w H => laws_heldInt64S.calls g19 r49.2.toList 1 r73 w (Own.refl w) (Own.slA 2 H rfl) hr74) fun g75 => ?_
                      refine J.op rfl rfl rfl (V.as rfl rfl) ?_
                      refine J.nil ?_
                      refine J.tN ?_
                      refine J.seq ?_
                      refine J.seq ?_
                      refine J.region ?_
                      refine J.op rfl rfl rfl (V.mv rfl rfl) ?_
                      refine J.op rfl rfl rfl (V.cmp rfl rfl rfl rfl) ?_
                      refine J.nil ?_
                      refine J.tN ?_
                      refine J.cond rfl (fun hB76 => ?_) (fun hB76 => ?_)
                      · replace h0 := B.t hB76 h0
                        refine J.seq ?_
                        refine J.region ?_
                        refine J.op rfl rfl rfl (V.as rfl rfl) ?_
                        refine J.nil ?_
                        refine J.tN ?_
                        refine J.ret ?_
                        refine J.tR ?_
                        obtain rfl := B.e h0
                        exact J.ret1 rfl rfl fun w H => ⟨(), rfl, H.pick [] (by decide)⟩
                      · replace h0 := B.f hB76 h0
                        refine J.skip ?_
                        refine J.tN ?_
                        refine J.seq ?_
                        refine J.seq ?_
                        refine J.region ?_
                        refine J.op rfl rfl rfl (V.mv rfl rfl) ?_
                        refine J.op rfl rfl rfl (V.mv rfl rfl) ?_
                        refine J.op rfl rfl rfl (V.cmp rfl rfl rfl rfl) ?_
                        refine J.nil ?_
                        refine J.tN ?_
                        refine J.cond rfl (fun hB77 => ?_) (fun hB77 => ?_)
                        · replace h0 := B.t hB77 h0
                          refine J.seq ?_
                          refine J.region ?_
                          refine J.op rfl rfl rfl (V.as rfl rfl) ?_
                          refine J.nil ?_
                          refine J.tN ?_
                          refine J.ret ?_
                          refine J.tR ?_
                          obtain rfl := B.e h0
                          exact J.ret1 rfl rfl fun w H => ⟨(), rfl, H.pick [] (by decide)⟩
                        · replace h0 := B.f hB77 h0
                          refine J.skip ?_
                          refine J.tN ?_
                          refine J.seq ?_
                          refine J.region ?_
                          refine J.op rfl rfl rfl (V.as rfl rfl) ?_
                          refine J.nil ?_
                          refine J.tN ?_
                          refine J.ret ?_
                          obtain rfl := B.e h0
                          exact J.ret1 rfl rfl fun w H => ⟨(), rfl, H.pick [] (by decide)⟩

/-! ### laws.f6big: function 17 -/
noncomputable def laws_f6big.f (p0_code : (List Int)) : Option (Bool) := (some (decide (4096 < (p0_code.length : Int)))).bind fun t1 => some t1
set_option maxRecDepth 100000 in
theorem laws_f6big.calls (v0 : Value) (p0_code : (List Int)) (r : Bool) (w : World) (H0 : Own [] w w []) (hS0 : SlE [] w v0 5 (eI .u8) p0_code) (h0 : laws_f6big.f p0_code = some r) :
    Calls Try.prog 17 #[v0] w (fun e w' => ∃ _ : Unit, e = .returned (.bool r) ∧ Own [] w w' []) := by
  unfold laws_f6big.f at h0
  replace h0 := B.top h0
  refine calls_of_J (args := [v0]) Try.func17 rfl Try.ntmps17 rfl [(0, v0)] rfl H0 ?_
  refine J.seq ?_
  refine J.region ?_
  refine J.op rfl rfl rfl (V.as rfl rfl) ?_
  refine J.nil ?_
  refine J.tN ?_
  refine J.seq ?_
  refine J.region ?_
  refine J.op rfl rfl rfl (V.mv rfl rfl) ?_
  refine J.op rfl rfl rfl (V.lenS hS0 rfl rfl tl37) ?_
  refine J.op rfl rfl rfl (V.cmp rfl rfl rfl rfl) ?_
  refine J.op rfl rfl rfl (V.as rfl rfl) ?_
  obtain ⟨t1, et1, h0⟩ := B.lt h0
  refine J.val (congrArg (Value.bool) et1) ?_
  refine J.nil ?_
  refine J.tN ?_
  refine J.ret ?_
  obtain rfl := B.e h0
  exact J.ret1 rfl rfl fun w H => ⟨(), rfl, H.pick [] (by decide)⟩

/-! ### (*spec.l00Src).next: function 77 -/
noncomputable def spec_l00Src_next.f (p0_s : spec_l00Src) : Option (Int × spec_l00Src) := (bif (decide (p0_s.at_ < (p0_s.code.length : Int))) then (bif (inB p0_s.at_ p0_s.code.length) then ((some (IntKind.wrap .i64 (rd (eI .u8) p0_s.code p0_s.at_))).bind fun b_5 => some b_5) else none) else (some 0) : Option (Int)).bind fun y1 => bif (decide ((IntKind.wrap .i64 (p0_s.at_ + 1)) ≤ (p0_s.code.length : Int))) then (some (y1, (⟨p0_s.code, IntKind.wrap .i64 (p0_s.at_ + 1), IntKind.wrap .u64 ((IntKind.wrap .u64 ((IntKind.wrap .u64 (p0_s.seed * 6364136223846793005)) + (IntKind.wrap .u64 y1))) + 1442695040888963407)⟩ : spec_l00Src))) else ((some (IntKind.wrap .i64 (Go.bits .and .u64 (shR .u64 (IntKind.wrap .u64 ((IntKind.wrap .u64 ((IntKind.wrap .u64 (p0_s.seed * 6364136223846793005)) + (IntKind.wrap .u64 y1))) + 1442695040888963407)) 40) 255))).bind fun t8 => some (t8, (⟨p0_s.code, IntKind.wrap .i64 (p0_s.at_ + 1), IntKind.wrap .u64 ((IntKind.wrap .u64 ((IntKind.wrap .u64 (p0_s.seed * 6364136223846793005)) + (IntKind.wrap .u64 y1))) + 1442695040888963407)⟩ : spec_l00Src)))
set_option maxRecDepth 100000 in
theorem spec_l00Src_next.calls (b0_ : Nat) (p0_s : spec_l00Src) (v0_code : Value) (r : Int × spec_l00Src) (w : World) (H0 : Own (Mof [.blk b0_ [v0_code, .int .i64 p0_s.at_, .int .u64 p0_s.seed] 87]) w w [.blk b0_ [v0_code, .int .i64 p0_s.at_, .int .u64 p0_s.seed] 87]) (hS0_code : SlE (Mof [.blk b0_ [v0_code, .int .i64 p0_s.at_, .int .u64 p0_s.seed] 87]) w v0_code 5 (eI .u8) p0_s.code) (h0 : spec_l00Src_next.f p0_s = some r) :
    Calls Try.prog 77 #[bp b0_ 0] w (fun e w' => ∃ _ : Unit, e = .returned (.int .i64 r.1) ∧ Own (Mof [.blk b0_ [v0_code, .int .i64 p0_s.at_, .int .u64 p0_s.seed] 87]) w w' [.blk b0_ [v0_code, .int .i64 r.2.at_, .int .u64 r.2.seed] 87]) := by
  unfold spec_l00Src_next.f at h0
  replace h0 := B.top h0
  refine calls_of_J (args := [bp b0_ 0]) Try.func77 rfl Try.ntmps77 rfl [(0, bp b0_ 0)] rfl H0 ?_
  refine J.seq ?_
  refine J.region ?_
  refine J.op rfl rfl rfl (V.as rfl rfl) ?_
  refine J.nil ?_
  refine J.tN ?_
  refine J.seq ?_
  refine J.region ?_
  refine J.op rfl rfl rfl (V.as rfl rfl) ?_
  refine J.nil ?_
  refine J.tN ?_
  refine J.seq ?_
  obtain ⟨y1, hy6, h0⟩ := B.bind h0
  replace hy6 := B.top hy6
  refine J.cut (γ := Unit) (fun _ => True) (fun gy2 => [(0, bp b0_ 0), (3, .int .i64 y1)]) (fun gy2 => [.blk b0_ [v0_code, .int .i64 p0_s.at_, .int .u64 p0_s.seed] 87]) ?_ ?_
  · have h1 := hy6
    refine J.seq ?_
    refine J.quiet mixed (by kernel_rfl) ?_
    refine JQ.op rfl rfl rfl (V.mv rfl rfl) ?_
    refine JQ.op rfl rfl rfl (V.nc rfl rfl) ?_
    refine JQ.op rfl rfl rfl (V.faB rfl rfl tf1_87) ?_
    refine JQ.op rfl rfl rfl (V.ldB 0 rfl rfl rfl Try.underlying3 ta3 rfl) ?_
    refine JQ.op rfl rfl rfl (V.mv rfl rfl) ?_
    refine JQ.op rfl rfl rfl (V.nc rfl rfl) ?_
    refine JQ.op rfl rfl rfl (V.faB rfl rfl tf0_87) ?_
    refine JQ.op rfl rfl rfl (V.ldB 0 rfl rfl rfl Try.underlying37 ta37 rfl) ?_
    refine JQ.op rfl rfl rfl (V.lenS hS0_code rfl rfl tl37) ?_
    refine JQ.op rfl rfl rfl (V.cmp rfl rfl rfl rfl) ?_
    refine JQ.nil ?_
    refine J.tN ?_
    refine J.cond rfl (fun hB3 => ?_) (fun hB3 => ?_)
    · replace h1 := B.t hB3 h1
      refine J.quiet mixed (by kernel_rfl) ?_
      refine JQ.op rfl rfl rfl (V.mv rfl rfl) ?_
      refine JQ.op rfl rfl rfl (V.nc rfl rfl) ?_
      refine JQ.op rfl rfl rfl (V.faB rfl rfl tf0_87) ?_
      refine JQ.op rfl rfl rfl (V.ldB 0 rfl rfl rfl Try.underlying37 ta37 rfl) ?_
      refine JQ.op rfl rfl rfl (V.mv rfl rfl) ?_
      refine JQ.op rfl rfl rfl (V.nc rfl rfl) ?_
      refine JQ.op rfl rfl rfl (V.faB rfl rfl tf1_87) ?_
      refine JQ.op rfl rfl rfl (V.ldB 0 rfl rfl rfl Try.underlying3 ta3 rfl) ?_
      obtain ⟨hC4, h1⟩ := B.chk h1
      refine JQ.op rfl rfl rfl (V.ixS hS0_code rfl rfl rfl tl37 ts5 hC4) ?_
      refine JQ.op rfl rfl rfl (V.elS0 hS0_code hC4 rfl rfl Try.underlying5 ta5 rfl) ?_
      refine JQ.op rfl rfl rfl (V.conv rfl rfl Try.underlying5 Try.underlying3) ?_
      refine JQ.op rfl rfl rfl (V.as rfl rfl) ?_
      obtain ⟨b_5, eb_5, h1⟩ := B.lt h1
      refine JQ.val (congrArg (Value.int .i64) eb_5) ?_
      refine JQ.nil ?_
      obtain rfl := B.e h1
      refine J.tN (J.to () trivial ?_)
      exact J.keep _ rfl (J.pickE [0] rfl rfl J.here)
    · replace h1 := B.f hB3 h1
      refine J.skip ?_
      obtain rfl := B.e h1
      refine J.tN (J.to () trivial ?_)
      exact J.keep _ rfl (J.pickE [0] rfl rfl J.here)
  · intro gy2 _
    refine J.seq ?_
    refine J.region ?_
    refine J.op rfl rfl rfl (V.mv rfl rfl) ?_
    refine J.op rfl rfl rfl (V.nc rfl rfl) ?_
    refine J.op rfl rfl rfl (V.faB rfl rfl tf1_87) ?_
    refine J.op rfl rfl rfl (V.ldB 0 rfl rfl rfl Try.underlying3 ta3 rfl) ?_
    refine J.op rfl rfl rfl (V.ar rfl rfl rfl rfl) ?_
    refine J.op rfl rfl rfl (V.nc rfl rfl) ?_
    refine J.op rfl rfl rfl (V.faB rfl rfl tf1_87) ?_
    refine J.stB 0 rfl rfl rfl rfl rfl rfl ts3 (fun _ _ => rfl) rfl ?_
    refine J.nil ?_
    refine J.tN ?_
    refine J.seq ?_
    refine J.region ?_
    refine J.op rfl rfl rfl (V.mv rfl rfl) ?_
    refine J.op rfl rfl rfl (V.mv rfl rfl) ?_
    refine J.op rfl rfl rfl (V.nc rfl rfl) ?_
    refine J.op rfl rfl rfl (V.faB rfl rfl tf2_87) ?_
    refine J.op rfl rfl rfl (V.ldB 0 rfl rfl rfl Try.underlying85 ta85 rfl) ?_
    refine J.op rfl rfl rfl (V.ar rfl rfl rfl rfl) ?_
    refine J.op rfl rfl rfl (V.mv rfl rfl) ?_
    refine J.op rfl rfl rfl (V.conv rfl rfl Try.underlying3 Try.underlying85) ?_
    refine J.op rfl rfl rfl (V.ar rfl rfl rfl rfl) ?_
    refine J.op rfl rfl rfl (V.ar rfl rfl rfl rfl) ?_
    refine J.op rfl rfl rfl (V.nc rfl rfl) ?_
    refine J.op rfl rfl rfl (V.faB rfl rfl tf2_87) ?_
    refine J.stB 0 rfl rfl rfl rfl rfl rfl ts85 (fun _ _ => rfl) rfl ?_
    refine J.nil ?_
    refine J.tN ?_
    refine J.seq ?_
    refine J.seq ?_
    refine J.quiet mixed (by kernel_rfl) ?_
    refine JQ.op rfl rfl rfl (V.mv rfl rfl) ?_
    refine JQ.op rfl rfl rfl (V.nc rfl rfl) ?_
    refine JQ.op rfl rfl rfl (V.faB rfl rfl tf1_87) ?_
    refine JQ.op rfl rfl rfl (V.ldB 0 rfl rfl rfl Try.underlying3 ta3 rfl) ?_
    refine JQ.op rfl rfl rfl (V.mv rfl rfl) ?_
    refine JQ.op rfl rfl rfl (V.nc rfl rfl) ?_
    refine JQ.op rfl rfl rfl (V.faB rfl rfl tf0_87) ?_
    refine JQ.op rfl rfl rfl (V.ldB 0 rfl rfl rfl Try.underlying37 ta37 rfl) ?_
    refine JQ.op rfl rfl rfl (V.lenS hS0_code rfl rfl tl37) ?_
    refine JQ.op rfl rfl rfl (V.cmp rfl rfl rfl rfl) ?_
    refine JQ.nil ?_
    refine J.tN ?_
    refine J.cond rfl (fun hB7 => ?_) (fun hB7 => ?_)
    · replace h0 := B.t hB7 h0
      refine J.seq ?_
      refine J.region ?_
      refine J.op rfl rfl rfl (V.mv rfl rfl) ?_
      refine J.op rfl rfl rfl (V.as rfl rfl) ?_
      refine J.nil ?_
      refine J.tN ?_
      refine J.ret ?_
      refine J.tR ?_
      obtain rfl := B.e h0
      exact J.ret1 rfl rfl fun w H => ⟨(), rfl, H.pick [0] (by decide)⟩
    · replace h0 := B.f hB7 h0
      refine J.skip ?_
      refine J.tN ?_
      refine J.seq ?_
      refine J.region ?_
      refine J.op rfl rfl rfl (V.mv rfl rfl) ?_
      refine J.op rfl rfl rfl (V.nc rfl rfl) ?_
      refine J.op rfl rfl rfl (V.faB rfl rfl tf2_87) ?_
      refine J.op rfl rfl rfl (V.ldB 0 rfl rfl rfl Try.underlying85 ta85 rfl) ?_
      refine J.op rfl rfl rfl (V.shr rfl rfl rfl rfl) ?_
      refine J.op rfl rfl rfl (V.ar rfl rfl rfl rfl) ?_
      refine J.op rfl rfl rfl (V.conv rfl rfl Try.underlying85 Try.underlying2) ?_
      refine J.op rfl rfl rfl (V.as rfl rfl) ?_
      obtain ⟨t8, et8, h0⟩ := B.lt h0
      refine J.val (congrArg (Value.int .i64) et8) ?_
      refine J.nil ?_
      refine J.tN ?_
      refine J.ret ?_
      obtain rfl := B.e h0
      exact J.ret1 rfl rfl fun w H => ⟨(), rfl, H.pick [0] (by decide)⟩

/-! ### (*spec.l00Src).pick: function 50 -/
noncomputable def spec_l00Src_pick.f (p0_s : spec_l00Src) (p1_n : Int) : Option (Int × spec_l00Src) := bif (decide (p1_n ≤ 1)) then (some (0, (⟨p0_s.code, p0_s.at_, p0_s.seed⟩ : spec_l00Src))) else ((spec_l00Src_next.f (⟨p0_s.code, p0_s.at_, p0_s.seed⟩ : spec_l00Src)).bind fun r2 => (bif (decide (200 < p1_n)) then ((spec_l00Src_next.f (⟨p0_s.code, r2.2.at_, r2.2.seed⟩ : spec_l00Src)).bind fun r8 => (some (IntKind.wrap .i64 ((IntKind.wrap .i64 (r2.1 * 256)) + r8.1))).bind fun x_11 => some (x_11, r8.2.at_, r8.2.seed)) else (some (r2.1, r2.2.at_, r2.2.seed)) : Option (Int × Int × Int)).bind fun y5 => bif (!(p1_n == 0)) then ((some (Int.tmod y5.1 p1_n)).bind fun t14 => some (t14, (⟨p0_s.code, y5.2.1, y5.2.2⟩ : spec_l00Src))) else none)
set_option maxRecDepth 100000 in
theorem spec_l00Src_pick.calls (b0_ : Nat) (p0_s : spec_l00Src) (v0_code : Value) (p1_n : Int) (r : Int × spec_l00Src) (w : World) (H0 : Own (Mof [.blk b0_ [v0_code, .int .i64 p0_s.at_, .int .u64 p0_s.seed] 87]) w w [.blk b0_ [v0_code, .int .i64 p0_s.at_, .int .u64 p0_s.seed] 87]) (hS0_code : SlE (Mof [.blk b0_ [v0_code, .int .i64 p0_s.at_, .int .u64 p0_s.seed] 87]) w v0_code 5 (eI .u8) p0_s.code) (h0 : spec_l00Src_pick.f p0_s p1_n = some r) :
    Calls Try.prog 50 #[bp b0_ 0, .int .i64 p1_n] w (fun e w' => ∃ _ : Unit, e = .returned (.int .i64 r.1) ∧ Own (Mof [.blk b0_ [v0_code, .int .i64 p0_s.at_, .int .u64 p0_s.seed] 87]) w w' [.blk b0_ [v0_code, .int .i64 r.2.at_, .int .u64 r.2.seed] 87]) := by
  unfold spec_l00Src_pick.f at h0
  replace h0 := B.top h0
  refine calls_of_J (args := [bp b0_ 0, .int .i64 p1_n]) Try.func50 rfl Try.ntmps50 rfl [(0, bp b0_ 0), (1, .int .i64 p1_n)] rfl H0 ?_
  refine J.seq ?_
  refine J.region ?_
  refine J.op rfl rfl rfl (V.as rfl rfl) ?_
  refine J.nil ?_
  refine J.tN ?_
  refine J.seq ?_
  refine J.seq ?_
  refine J.region ?_
  refine J.op rfl rfl rfl (V.mv rfl rfl) ?_
  refine J.op rfl rfl rfl (V.cmp rfl rfl rfl rfl) ?_
  refine J.nil ?_
  refine J.tN ?_
  refine J.cond rfl (fun hB1 => ?_) (fun hB1 => ?_)
  · replace h0 := B.t hB1 h0
    refine J.seq ?_
    refine J.region ?_
    refine J.op rfl rfl rfl (V.as rfl rfl) ?_
    refine J.nil ?_
    refine J.tN ?_
    refine J.ret ?_
    refine J.tR ?_
    obtain rfl := B.e h0
    exact J.ret1 rfl rfl fun w H => ⟨(), rfl, H.pick [0] (by decide)⟩
  · replace h0 := B.f hB1 h0
    refine J.skip ?_
    refine J.tN ?_
    refine J.seq ?_
    refine J.region ?_
    refine J.op rfl rfl rfl (V.mv rfl rfl) ?_
    obtain ⟨r2, hr3, h0⟩ := B.bind h0
    refine J.clA (l := [.tmp 8]) [.blk b0_ [v0_code, .int .i64 p0_s.at_, .int .u64 p0_s.seed] 87] [] cf77 (wN rfl) rfl rfl rfl rfl rfl rfl (fun w H => spec_l00Src_next.calls b0_ (⟨p0_s.code, p0_s.at_, p0_s.seed⟩ : spec_l00Src) v0_code r2 w H.enterA (Sl.laterA hS0_code H) hr3) fun g4 => ?_
    refine J.op rfl rfl rfl (V.as rfl rfl) ?_
    refine J.nil ?_
    refine J.tN ?_
    refine J.seq ?_
    obtain ⟨y5, hy12, h0⟩ := B.bind h0
    replace hy12 := B.top hy12
    refine J.cut (γ := Unit) (fun _ => True) (fun gy6 => [(1, .int .i64 p1_n), (5, .int .i64 y5.1)]) (fun gy6 => [.blk b0_ [v0_code, .int .i64 y5.2.1, .int .u64 y5.2.2] 87]) ?_ ?_
    · have h1 := hy12
      refine J.seq ?_
      refine J.region ?_
      refine J.op rfl rfl rfl (V.mv rfl rfl) ?_
      refine J.op rfl rfl rfl (V.cmp rfl rfl rfl rfl) ?_
      refine J.nil ?_
      refine J.tN ?_
      refine J.cond rfl (fun hB7 => ?_) (fun hB7 => ?_)
      · replace h1 := B.t hB7 h1
        refine J.region ?_
        refine J.op rfl rfl rfl (V.mv rfl rfl) ?_
        refine J.op rfl rfl rfl (V.ar rfl rfl rfl rfl) ?_
        refine J.op rfl rfl rfl (V.mv rfl rfl) ?_
        obtain ⟨r8, hr9, h1⟩ := B.bind h1
        refine J.clA (l := [.tmp 14]) [.blk b0_ [v0_code, .int .i64 r2.2.at_, .int .u64 r2.2.seed] 87] [] cf77 (wN rfl) rfl rfl rfl rfl rfl rfl (fun w H => spec_l00Src_next.calls b0_ (⟨p0_s.code, r2.2.at_, r2.2.seed⟩ : spec_l00Src) v0_code r8 w H.enterA (Sl.laterA hS0_code H) hr9) fun g10 => ?_
        refine J.op rfl rfl rfl (V.ar rfl rfl rfl rfl) ?_
        refine J.op rfl rfl rfl (V.as rfl rfl) ?_
        obtain ⟨x_11, ex_11, h1⟩ := B.lt h1
        refine J.val (congrArg (Value.int .i64) ex_11) ?_
        refine J.nil ?_
        obtain rfl := B.e h1
        refine J.tN (J.to () trivial ?_)
        exact J.keep _ rfl (J.pickE [0] rfl rfl J.here)
      · replace h1 := B.f hB7 h1
        refine J.skip ?_
        obtain rfl := B.e h1
        refine J.tN (J.to () trivial ?_)
        exact J.keep _ rfl (J.pickE [0] rfl rfl J.here)
    · intro gy6 _
      refine J.seq ?_
      refine J.region ?_
      refine J.op rfl rfl rfl (V.mv rfl rfl) ?_
      refine J.op rfl rfl rfl (V.mv rfl rfl) ?_
      obtain ⟨hC13, h0⟩ := B.chk h0
      refine J.op rfl rfl rfl (V.rem rfl rfl rfl (nz hC13)) ?_
      refine J.op rfl rfl rfl (V.as rfl rfl) ?_
      obtain ⟨t14, et14, h0⟩ := B.lt h0
      refine J.val (congrArg (Value.int .i64) et14) ?_
      refine J.nil ?_
      refine J.tN ?_
      refine J.ret ?_
      obtain rfl := B.e h0
      exact J.ret1 rfl rfl fun w H => ⟨(), rfl, H.pick [0] (by decide)⟩

/-! ### spec.l02Drawn: function 48 -/
noncomputable def spec_l02Drawn.b1 (p0_s : spec_l00Src) : (Int × Int × Int × (List impl_Point) × Int × Int) → Option (Step (Int × Int × Int × (List impl_Point) × Int × Int) ((List impl_Point) × Int × Int)) := fun s14 => bif (decide (0 < s14.2.2.1)) then (bif (roomB s14.2.2.2.1.length 1 4) then ((spec_l00Src_pick.f (⟨p0_s.code, s14.2.2.2.2.1, s14.2.2.2.2.2⟩ : spec_l00Src) 9).bind fun r22 => (some (IntKind.wrap .i64 (s14.1 + (IntKind.wrap .i64 (1 + r22.1))))).bind fun x_25 => (spec_l00Src_pick.f (⟨p0_s.code, r22.2.at_, r22.2.seed⟩ : spec_l00Src) 50).bind fun r26 => (some (IntKind.wrap .i64 (s14.2.1 + r26.1))).bind fun y_29 => (some (IntKind.wrap .i64 (s14.2.2.1 - 1))).bind fun k_30 => some (.next (x_25, y_29, k_30, s14.2.2.2.1 ++ [(⟨IntKind.wrap .i16 s14.1, IntKind.wrap .i16 s14.2.1⟩ : impl_Point)], r26.2.at_, r26.2.seed))) else none) else (some (.done (s14.2.2.2.1, s14.2.2.2.2.1, s14.2.2.2.2.2)))
noncomputable def spec_l02Drawn.f (p0_s : spec_l00Src) : Option ((List impl_Point) × spec_l00Src) := (spec_l00Src_pick.f (⟨p0_s.code, p0_s.at_, p0_s.seed⟩ : spec_l00Src) 30).bind fun r3 => (some (IntKind.wrap .i64 (r3.1 - 20))).bind fun x_6 => (spec_l00Src_pick.f (⟨p0_s.code, r3.2.at_, r3.2.seed⟩ : spec_l00Src) 20).bind fun r7 => (spec_l00Src_pick.f (⟨p0_s.code, r7.2.at_, r7.2.seed⟩ : spec_l00Src) 6).bind fun r10 => (some (IntKind.wrap .i64 (1 + r10.1))).bind fun k_13 => (loopW (spec_l02Drawn.b1 p0_s) (x_6, r7.1, k_13, ([] : List impl_Point), r10.2.at_, r10.2.seed)).bind fun y31 => some (y31.1, (⟨p0_s.code, y31.2.1, y31.2.2⟩ : spec_l00Src))
set_option maxRecDepth 100000 in
theorem spec_l02Drawn.calls (b0_ : Nat) (p0_s : spec_l00Src) (v0_code : Value) (r : (List impl_Point) × spec_l00Src) (w : World) (H0 : Own (Mof [.blk b0_ [v0_code, .int .i64 p0_s.at_, .int .u64 p0_s.seed] 87]) w w [.blk b0_ [v0_code, .int .i64 p0_s.at_, .int .u64 p0_s.seed] 87]) (hS0_code : SlE (Mof [.blk b0_ [v0_code, .int .i64 p0_s.at_, .int .u64 p0_s.seed] 87]) w v0_code 5 (eI .u8) p0_s.code) (h0 : spec_l02Drawn.f p0_s = some r) :
    Calls Try.prog 48 #[bp b0_ 0] w (fun e w' => ∃ gh : Value, e = .returned (gh) ∧ Own (Mof [.blk b0_ [v0_code, .int .i64 p0_s.at_, .int .u64 p0_s.seed] 87]) w w' [.blk b0_ [v0_code, .int .i64 r.2.at_, .int .u64 r.2.seed] 87, .rowE gh 78 enc_impl_Point r.1]) := by
  unfold spec_l02Drawn.f at h0
  replace h0 := B.top h0
  refine calls_of_J (args := [bp b0_ 0]) Try.func48 rfl Try.ntmps48 rfl [(0, bp b0_ 0)] rfl H0 ?_
  refine J.seq ?_
  refine J.region ?_
  refine J.op rfl rfl rfl (V.as rfl rfl) ?_
  refine J.nil ?_
  refine J.tN ?_
  refine J.seq ?_
  refine J.region ?_
  refine J.bs (l := []) (cs := []) (E := 78) rfl rfl rfl rfl rfl (fun w => by kernel_rfl) fun b1 => ?_
  refine J.op rfl rfl rfl (V.as rfl rfl) ?_
  refine J.nil ?_
  refine J.tN ?_
  refine J.seq ?_
  refine J.region ?_
  refine J.op rfl rfl rfl (V.mv rfl rfl) ?_
  refine J.pickE [1, 0] (es' := [.blk b0_ [v0_code, .int .i64 p0_s.at_, .int .u64 p0_s.seed] 87, .blk b1 [] 78]) rfl rfl ?_
  obtain ⟨r3, hr4, h0⟩ := B.bind h0
  refine J.clA (l := [.tmp 8, .const (.int .i64 30)]) [.blk b0_ [v0_code, .int .i64 p0_s.at_, .int .u64 p0_s.seed] 87] [.blk b1 [] 78] cf50 (wN rfl) rfl rfl rfl rfl rfl rfl (fun w H => spec_l00Src_pick.calls b0_ (⟨p0_s.code, p0_s.at_, p0_s.seed⟩ : spec_l00Src) v0_code 30 r3 w H.enterA (Sl.laterA hS0_code H) hr4) fun g5 => ?_
  refine J.op rfl rfl rfl (V.ar rfl rfl rfl rfl) ?_
  refine J.op rfl rfl rfl (V.as rfl rfl) ?_
  obtain ⟨x_6, ex_6, h0⟩ := B.lt h0
  refine J.val (congrArg (Value.int .i64) ex_6) ?_
  refine J.nil ?_
  refine J.tN ?_
  refine J.seq ?_
  refine J.region ?_
  refine J.op rfl rfl rfl (V.mv rfl rfl) ?_
  obtain ⟨r7, hr8, h0⟩ := B.bind h0
  refine J.clA (l := [.tmp 11, .const (.int .i64 20)]) [.blk b0_ [v0_code, .int .i64 r3.2.at_, .int .u64 r3.2.seed] 87] [.blk b1 [] 78] cf50 (wN rfl) rfl rfl rfl rfl rfl rfl (fun w H => spec_l00Src_pick.calls b0_ (⟨p0_s.code, r3.2.at_, r3.2.seed⟩ : spec_l00Src) v0_code 20 r7 w H.enterA (Sl.laterA hS0_code H) hr8) fun g9 => ?_
  refine J.op rfl rfl rfl (V.as rfl rfl) ?_
  refine J.nil ?_
  refine J.tN ?_
  refine J.seq ?_
  refine J.seq ?_
  refine J.region ?_
  refine J.op rfl rfl rfl (V.mv rfl rfl) ?_
  obtain ⟨r10, hr11, h0⟩ := B.bind h0
  refine J.clA (l := [.tmp 13, .const (.int .i64 6)]) [.blk b0_ [v0_code, .int .i64 r7.2.at_, .int .u64 r7.2.seed] 87] [.blk b1 [] 78] cf50 (wN rfl) rfl rfl rfl rfl rfl rfl (fun w H => spec_l00Src_pick.calls b0_ (⟨p0_s.code, r7.2.at_, r7.2.seed⟩ : spec_l00Src) v0_code 6 r10 w H.enterA (Sl.laterA hS0_code H) hr11) fun g12 => ?_
  refine J.op rfl rfl rfl (V.ar rfl rfl rfl rfl) ?_
  refine J.op rfl rfl rfl (V.as rfl rfl) ?_
  obtain ⟨k_13, ek_13, h0⟩ := B.lt h0
  refine J.val (congrArg (Value.int .i64) ek_13) ?_
  refine J.nil ?_
  refine J.tN ?_
  refine J.pickE [1, 0] (es' := [.blk b1 [] 78, .blk b0_ [v0_code, .int .i64 r10.2.at_, .int .u64 r10.2.seed] 87]) rfl rfl ?_
  refine J.blkRowE enc_impl_Point ([] : List impl_Point) 0 rfl rfl rfl ?_
  obtain ⟨y31, hy33, h0⟩ := B.bind h0
  refine J.cutQ (γ := Value) (fun _ => True) (fun gy32 => [(3, gy32)]) (fun gy32 => [.rowE gy32 78 enc_impl_Point y31.1, .blk b0_ [v0_code, .int .i64 y31.2.1, .int .u64 y31.2.2] 87]) ?_ ?_
  · refine J.block ?_
    refine J.loop (γ := Value) hy33 (fun s14 g15 => [(0, bp b0_ 0), (3, g15), (4, .int .i64 s14.1), (5, .int .i64 s14.2.1), (6, .int .i64 s14.2.2.1)]) (fun s14 g15 => [.rowE g15 78 enc_impl_Point s14.2.2.2.1, .blk b0_ [v0_code, .int .i64 s14.2.2.2.2.1, .int .u64 s14.2.2.2.2.2] 87]) (.slice (some ⟨b1, 0, none⟩) 0 0) ?_ ?_
    · exact J.keep _ rfl (J.pickE [0, 1] rfl rfl J.here)
    · intro rec16 s14 g15 h1
      unfold spec_l02Drawn.b1 at h1
      refine J.seq ?_
      refine J.seq ?_
      refine J.region ?_
      refine J.op rfl rfl rfl (V.mv rfl rfl) ?_
      refine J.op rfl rfl rfl (V.cmp rfl rfl rfl rfl) ?_
      refine J.nil ?_
      refine J.tN ?_
      refine J.cond rfl (fun hB17 => ?_) (fun hB17 => ?_)
      · replace h1 := B.t hB17 h1
        refine J.skip ?_
        refine J.tN ?_
        refine J.seq ?_
        refine J.block ?_
        refine J.seq ?_
        refine J.region ?_
        refine J.op rfl rfl rfl (V.mv rfl rfl) ?_
        refine J.op rfl rfl rfl (V.mv rfl rfl) ?_
        refine J.op rfl rfl rfl (V.conv rfl rfl Try.underlying2 Try.underlying76) ?_
        refine J.op rfl rfl rfl (V.mv rfl rfl) ?_
        refine J.op rfl rfl rfl (V.conv rfl rfl Try.underlying2 Try.underlying76) ?_
        refine J.op rfl rfl rfl (V.bd (l := [(0, .tmp 22), (1, .tmp 24)]) (v := .agg #[.int .i16 (IntKind.wrap .i16 s14.1), .int .i16 (IntKind.wrap .i16 s14.2.1)]) rfl rfl (fun w H => by kernel_rfl)) ?_
        refine J.bs (l := [(0, .tmp 25)]) (cs := [.int .i16 (IntKind.wrap .i16 s14.1), .int .i16 (IntKind.wrap .i16 s14.2.1)]) (E := 78) rfl rfl rfl rfl rfl (fun w => by kernel_rfl) fun b18 => ?_
        obtain ⟨hC21, h1⟩ := B.chk h1
        obtain ⟨_, qi1, qi2, qi3, qi4⟩ := ti78
        refine J.ap1 (e := enc_impl_Point) (xs := s14.2.2.2.1) 1 0 (⟨IntKind.wrap .i16 s14.1, IntKind.wrap .i16 s14.2.1⟩ : impl_Point) hC21 qi1 tl40 qi2 qi3 qi4 rfl rfl rfl rfl rfl rfl rfl rfl rfl rfl fun v20 => ?_
        refine J.op rfl rfl rfl (V.as rfl rfl) ?_
        refine J.nil ?_
        refine J.tN ?_
        refine J.seq ?_
        refine J.region ?_
        refine J.op rfl rfl rfl (V.mv rfl rfl) ?_
        refine J.op rfl rfl rfl (V.mv rfl rfl) ?_
        refine J.pickE [2, 0, 1] (es' := [.blk b0_ [v0_code, .int .i64 s14.2.2.2.2.1, .int .u64 s14.2.2.2.2.2] 87, .blk b18 [.int .i16 (IntKind.wrap .i16 s14.1), .int .i16 (IntKind.wrap .i16 s14.2.1)] 78, .rowE v20 78 enc_impl_Point (s14.2.2.2.1 ++ [(⟨IntKind.wrap .i16 s14.1, IntKind.wrap .i16 s14.2.1⟩ : impl_Point)])]) rfl rfl ?_
        obtain ⟨r22, hr23, h1⟩ := B.bind h1
        refine J.clA (l := [.tmp 29, .const (.int .i64 9)]) [.blk b0_ [v0_code, .int .i64 s14.2.2.2.2.1, .int .u64 s14.2.2.2.2.2] 87] [.blk b18 [.int .i16 (IntKind.wrap .i16 s14.1), .int .i16 (IntKind.wrap .i16 s14.2.1)] 78, .rowE v20 78 enc_impl_Point (s14.2.2.2.1 ++ [(⟨IntKind.wrap .i16 s14.1, IntKind.wrap .i16 s14.2.1⟩ : impl_Point)])] cf50 (wN rfl) rfl rfl rfl rfl rfl rfl (fun w H => spec_l00Src_pick.calls b0_ (⟨p0_s.code, s14.2.2.2.2.1, s14.2.2.2.2.2⟩ : spec_l00Src) v0_code 9 r22 w H.enterA (Sl.laterA hS0_code H) hr23) fun g24 => ?_
        refine J.op rfl rfl rfl (V.ar rfl rfl rfl rfl) ?_
        refine J.op rfl rfl rfl (V.ar rfl rfl rfl rfl) ?_
        refine J.op rfl rfl rfl (V.as rfl rfl) ?_
        obtain ⟨x_25, ex_25, h1⟩ := B.lt h1
        refine J.val (congrArg (Value.int .i64) ex_25) ?_
        refine J.nil ?_
        refine J.tN ?_
        refine J.region ?_
        refine J.op rfl rfl rfl (V.mv rfl rfl) ?_
        refine J.op rfl rfl rfl (V.mv rfl rfl) ?_
        obtain ⟨r26, hr27, h1⟩ := B.bind h1
        refine J.clA (l := [.tmp 34, .const (.int .i64 50)]) [.blk b0_ [v0_code, .int .i64 r22.2.at_, .int .u64 r22.2.seed] 87] [.blk b18 [.int .i16 (IntKind.wrap .i16 s14.1), .int .i16 (IntKind.wrap .i16 s14.2.1)] 78, .rowE v20 78 enc_impl_Point (s14.2.2.2.1 ++ [(⟨IntKind.wrap .i16 s14.1, IntKind.wrap .i16 s14.2.1⟩ : impl_Point)])] cf50 (wN rfl) rfl rfl rfl rfl rfl rfl (fun w H => spec_l00Src_pick.calls b0_ (⟨p0_s.code, r22.2.at_, r22.2.seed⟩ : spec_l00Src) v0_code 50 r26 w H.enterA (Sl.laterA hS0_code H) hr27) fun g28 => ?_
        refine J.op rfl rfl rfl (V.ar rfl rfl rfl rfl) ?_
        refine J.op rfl rfl rfl (V.as rfl rfl) ?_
        obtain ⟨y_29, ey_29, h1⟩ := B.lt h1
        refine J.val (congrArg (Value.int .i64) ey_29) ?_
        refine J.nil ?_
        refine J.bN ?_
        refine J.tN ?_
        refine J.region ?_
        refine J.op rfl rfl rfl (V.mv rfl rfl) ?_
        refine J.op rfl rfl rfl (V.ar rfl rfl rfl rfl) ?_
        refine J.op rfl rfl rfl (V.as rfl rfl) ?_
        obtain ⟨k_30, ek_30, h1⟩ := B.lt h1
        refine J.val (congrArg (Value.int .i64) ek_30) ?_
        refine J.nil ?_
        refine J.tN (J.next (x_25, y_29, k_30, s14.2.2.2.1 ++ [(⟨IntKind.wrap .i16 s14.1, IntKind.wrap .i16 s14.2.1⟩ : impl_Point)], r26.2.at_, r26.2.seed) v20 (B.n h1) ?_)
        exact J.keep _ rfl (J.pickE [2, 0] rfl rfl J.here)
      · replace h1 := B.f hB17 h1
        refine J.exit ?_
        refine J.tE ?_
        refine J.tE ?_
        refine J.bE ?_
        obtain rfl := B.d h1
        refine J.tN (J.to g15 trivial ?_)
        exact J.keep _ rfl (J.pickE [0, 1] rfl rfl J.here)
  · intro gy32 _
    refine J.tN ?_
    refine J.seq ?_
    refine J.region ?_
    refine J.op rfl rfl rfl (V.mv rfl rfl) ?_
    refine J.op rfl rfl rfl (V.as rfl rfl) ?_
    refine J.nil ?_
    refine J.tN ?_
    refine J.ret ?_
    obtain rfl := B.e h0
    exact J.ret1 rfl rfl fun w H => ⟨gy32, rfl, H.pick [1, 0] (by decide)⟩

end Go.Proofs.Ytofhnioboihbgaa
