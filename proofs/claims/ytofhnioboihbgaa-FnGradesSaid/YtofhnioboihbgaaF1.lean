/- Go functions as Lean functions, and that each call of theirs comes to just that: by a program written for this work (walk.py). No condition. -/
import Derived.Test.YtofhnioboihbgaaF0
namespace Go.Proofs.Ytofhnioboihbgaa
open Go Go.RowKit G
set_option linter.unusedVariables false

/-! ### spec.l05Grades: function 33 -/
noncomputable def spec_l05Grades.b1 (p0_grades : (List (List impl_Point))) : Int → Option (Step (Int) (Sum (Unit) (Int))) := fun s1 => bif (decide (s1 < (p0_grades.length : Int))) then (bif (inB s1 p0_grades.length) then ((spec_l02Ok.f (rdN p0_grades s1)).bind fun r9 => bif (!r9) then (some (.done (.inr 1))) else ((some (IntKind.wrap .i64 (s1 + 1))).bind fun i_13 => some (.next i_13))) else none) else (some (.done (.inl ())))
noncomputable def spec_l05Grades.f (p0_grades : (List (List impl_Point))) (p1_fine : Bool) : Option (Int) := (loopW (spec_l05Grades.b1 p0_grades) 0).bind (Sum.elim (fun y15 => ((spec_l00In.f (p0_grades.length : Int) 1 6).bind fun r20 => bif (!r20) then (some true) else (some (!p1_fine)) : Option (Bool)).bind fun y18 => bif y18 then (some 2) else (some 0)) (fun r => some r))
set_option maxRecDepth 100000 in
theorem spec_l05Grades.calls (v0 : Value) (p0_grades : (List (List impl_Point))) (p1_fine : Bool) (r : Int) (w : World) (H0 : Own [] w w []) (hS0 : SlN [] w v0 40 78 enc_impl_Point p0_grades) (h0 : spec_l05Grades.f p0_grades p1_fine = some r) :
    Calls Try.prog 33 #[v0, .bool p1_fine] w (fun e w' => ∃ _ : Unit, e = .returned (.int .i64 r) ∧ Own [] w w' []) := by
  unfold spec_l05Grades.f at h0
  replace h0 := B.top h0
  refine calls_of_J (args := [v0, .bool p1_fine]) Try.func33 rfl Try.ntmps33 rfl [(0, v0), (1, .bool p1_fine)] rfl H0 ?_
  obtain ⟨us0_, hN0, hE0⟩ := id hS0
  refine J.seq ?_
  refine J.region ?_
  refine J.op rfl rfl rfl (V.as rfl rfl) ?_
  refine J.nil ?_
  refine J.tN ?_
  refine J.seq ?_
  refine J.seq ?_
  refine J.region ?_
  refine J.op rfl rfl rfl (V.as rfl rfl) ?_
  refine J.nil ?_
  refine J.tN ?_
  obtain ⟨o17, hy16, h0⟩ := B.bind h0
  refine J.cutQ (γ := (Unit) × (Unit)) (fun gy15 => o17 = .inl gy15.1) (fun gy15 => [(0, v0), (1, .bool p1_fine)]) (fun gy15 => []) ?_ ?_
  · refine J.block ?_
    refine J.loop (γ := Unit) hy16 (fun s1 g2 => [(0, v0), (1, .bool p1_fine), (5, .int .i64 s1)]) (fun s1 g2 => []) () ?_ ?_
    · exact J.keep _ rfl (J.pickE [] rfl rfl J.here)
    · intro rec3 s1 g2 h1
      unfold spec_l05Grades.b1 at h1
      refine J.seq ?_
      refine J.seq ?_
      refine J.region ?_
      refine J.op rfl rfl rfl (V.mv rfl rfl) ?_
      refine J.op rfl rfl rfl (V.mv rfl rfl) ?_
      refine J.op rfl rfl rfl (V.lenS hN0 rfl rfl tl26) ?_
      refine J.op rfl rfl rfl (V.cmp rfl rfl rfl rfl) ?_
      refine J.nil ?_
      refine J.tN ?_
      refine J.cond rfl (fun hB4 => ?_) (fun hB4 => ?_)
      · replace h1 := B.t hB4 h1
        refine J.skip ?_
        refine J.tN ?_
        refine J.seq ?_
        refine J.block ?_
        refine J.seq ?_
        refine J.region ?_
        refine J.op rfl rfl rfl (V.mv rfl rfl) ?_
        refine J.op rfl rfl rfl (V.mv rfl rfl) ?_
        obtain ⟨hC5, h1⟩ := B.chk h1
        refine J.op rfl rfl rfl (V.ixS hN0 rfl rfl rfl tl26 ts40 hC5) ?_
        obtain ⟨u6, hu7, hS8⟩ := hE0 _ hC5
        refine J.op rfl rfl rfl (V.nld hN0 hC5 hu7 rfl rfl Try.underlying40 ta40) ?_
        obtain ⟨r9, hr10, h1⟩ := B.bind h1
        refine J.clA (l := [.tmp 15]) [] [] cf55 (wN rfl) rfl rfl rfl rfl rfl rfl (fun w H => spec_l02Ok.calls u6 (rdN p0_grades s1) r9 w (Own.refl w) (Sl.laterA hS8 H) hr10) fun g11 => ?_
        refine J.op rfl rfl rfl (V.nt rfl rfl) ?_
        refine J.nil ?_
        refine J.tN ?_
        refine J.cond rfl (fun hB12 => ?_) (fun hB12 => ?_)
        · replace h1 := B.t hB12 h1
          refine J.seq ?_
          refine J.region ?_
          refine J.op rfl rfl rfl (V.as rfl rfl) ?_
          refine J.nil ?_
          refine J.tN ?_
          refine J.ret ?_
          refine J.bR ?_
          refine J.tR ?_
          refine J.tR ?_
          refine J.bR ?_
          refine J.tR ?_
          refine J.tR ?_
          obtain rfl := B.d h1
          replace h0 := B.inr h0
          obtain rfl := B.e h0
          exact J.ret1 rfl rfl fun w H => ⟨(), rfl, H.pick [] (by decide)⟩
        · replace h1 := B.f hB12 h1
          refine J.skip ?_
          refine J.bN ?_
          refine J.tN ?_
          refine J.region ?_
          refine J.op rfl rfl rfl (V.mv rfl rfl) ?_
          refine J.op rfl rfl rfl (V.ar rfl rfl rfl rfl) ?_
          refine J.op rfl rfl rfl (V.as rfl rfl) ?_
          obtain ⟨i_13, ei_13, h1⟩ := B.lt h1
          refine J.val (congrArg (Value.int .i64) ei_13) ?_
          refine J.nil ?_
          refine J.tN (J.next i_13 () (B.n h1) ?_)
          exact J.keep _ rfl (J.pickE [] rfl rfl J.here)
      · replace h1 := B.f hB4 h1
        refine J.exit ?_
        refine J.tE ?_
        refine J.tE ?_
        refine J.bE ?_
        obtain rfl := B.d h1
        refine J.tN (J.to ((), ()) rfl ?_)
        exact J.keep _ rfl (J.pickE [] rfl rfl J.here)
  · intro gy15 hG
    replace h0 := B.inl hG h0
    refine J.tN ?_
    refine J.seq ?_
    refine J.seq ?_
    obtain ⟨y18, hy24, h0⟩ := B.bind h0
    replace hy24 := B.top hy24
    refine J.cut (γ := Unit) (fun _ => True) (fun gy19 => [(25, .bool y18)]) (fun gy19 => []) ?_ ?_
    · have h1 := hy24
      refine J.region ?_
      refine J.op rfl rfl rfl (V.mv rfl rfl) ?_
      refine J.op rfl rfl rfl (V.lenS hN0 rfl rfl tl26) ?_
      obtain ⟨r20, hr21, h1⟩ := B.bind h1
      refine J.clA (l := [.tmp 19, .const (.int .i64 1), .const (.int .i64 6)]) [] [] cf66 (wN rfl) rfl rfl rfl rfl rfl rfl (fun w H => spec_l00In.calls (p0_grades.length : Int) 1 6 r20 w (Own.refl w)  hr21) fun g22 => ?_
      refine J.op rfl rfl rfl (V.nt rfl rfl) ?_
      refine J.op rfl rfl rfl (V.mv rfl rfl) ?_
      refine J.split 22 rfl (fun hB23 => ?_) (fun hB23 => ?_)
      · replace h1 := B.t hB23 h1
        refine J.opOff rfl rfl rfl rfl rfl rfl ?_
        refine J.opOff rfl rfl rfl rfl rfl rfl ?_
        refine J.op rfl rfl rfl (V.pkT rfl rfl rfl) ?_
        refine J.nil ?_
        obtain rfl := B.e h1
        refine J.tN (J.to () trivial ?_)
        exact J.keep _ rfl (J.pickE [] rfl rfl J.here)
      · replace h1 := B.f hB23 h1
        refine J.opOn rfl rfl rfl rfl rfl (V.mv rfl rfl) ?_
        refine J.opOn rfl rfl rfl rfl rfl (V.nt rfl rfl) ?_
        refine J.op rfl rfl rfl (V.pkF rfl rfl rfl) ?_
        refine J.nil ?_
        obtain rfl := B.e h1
        refine J.tN (J.to () trivial ?_)
        exact J.keep _ rfl (J.pickE [] rfl rfl J.here)
    · intro gy19 _
      refine J.cond rfl (fun hB25 => ?_) (fun hB25 => ?_)
      · replace h0 := B.t hB25 h0
        refine J.seq ?_
        refine J.region ?_
        refine J.op rfl rfl rfl (V.as rfl rfl) ?_
        refine J.nil ?_
        refine J.tN ?_
        refine J.ret ?_
        refine J.tR ?_
        obtain rfl := B.e h0
        exact J.ret1 rfl rfl fun w H => ⟨(), rfl, H.pick [] (by decide)⟩
      · replace h0 := B.f hB25 h0
        refine J.skip ?_
        refine J.tN ?_
        refine J.seq ?_
        refine J.region ?_
        refine J.op rfl rfl rfl (V.as rfl rfl) ?_
        refine J.nil ?_
        refine J.tN ?_
        refine J.ret ?_
        obtain rfl := B.e h0
        exact J.ret1 rfl rfl fun w H => ⟨(), rfl, H.pick [] (by decide)⟩

/-! ### spec.l01Size: function 35 -/
noncomputable def spec_l01Size.f (p0_n : Int) : Option (Int) := bif (decide (p0_n < 0)) then ((some (IntKind.wrap .i64 (0 - p0_n))).bind fun t2 => some t2) else (some p0_n)
set_option maxRecDepth 100000 in
theorem spec_l01Size.calls (p0_n : Int) (r : Int) (w : World) (H0 : Own [] w w []) (h0 : spec_l01Size.f p0_n = some r) :
    Calls Try.prog 35 #[.int .i64 p0_n] w (fun e w' => ∃ _ : Unit, e = .returned (.int .i64 r) ∧ Own [] w w' []) := by
  unfold spec_l01Size.f at h0
  replace h0 := B.top h0
  refine calls_of_J (args := [.int .i64 p0_n]) Try.func35 rfl Try.ntmps35 rfl [(0, .int .i64 p0_n)] rfl H0 ?_
  refine J.seq ?_
  refine J.region ?_
  refine J.op rfl rfl rfl (V.as rfl rfl) ?_
  refine J.nil ?_
  refine J.tN ?_
  refine J.seq ?_
  refine J.seq ?_
  refine J.region ?_
  refine J.op rfl rfl rfl (V.mv rfl rfl) ?_
  refine J.op rfl rfl rfl (V.cmp rfl rfl rfl rfl) ?_
  refine J.nil ?_
  refine J.tN ?_
  refine J.cond rfl (fun hB1 => ?_) (fun hB1 => ?_)
  · replace h0 := B.t hB1 h0
    refine J.seq ?_
    refine J.region ?_
    refine J.op rfl rfl rfl (V.mv rfl rfl) ?_
    refine J.op rfl rfl rfl (V.ng rfl rfl) ?_
    refine J.op rfl rfl rfl (V.as rfl rfl) ?_
    obtain ⟨t2, et2, h0⟩ := B.lt h0
    refine J.val (congrArg (Value.int .i64) et2) ?_
    refine J.nil ?_
    refine J.tN ?_
    refine J.ret ?_
    refine J.tR ?_
    obtain rfl := B.e h0
    exact J.ret1 rfl rfl fun w H => ⟨(), rfl, H.pick [] (by decide)⟩
  · replace h0 := B.f hB1 h0
    refine J.skip ?_
    refine J.tN ?_
    refine J.seq ?_
    refine J.region ?_
    refine J.op rfl rfl rfl (V.mv rfl rfl) ?_
    refine J.op rfl rfl rfl (V.as rfl rfl) ?_
    refine J.nil ?_
    refine J.tN ?_
    refine J.ret ?_
    obtain rfl := B.e h0
    exact J.ret1 rfl rfl fun w H => ⟨(), rfl, H.pick [] (by decide)⟩

/-! ### spec.BestGrade: function 7 -/
noncomputable def spec_BestGrade.b1 (p0_grades : (List (List impl_Point))) (p1_thin : Int) (p2_thick : Int) (p3_dark : Int) (p4_light : Int) : (Int × Int × Int × Int) → Option (Step (Int × Int × Int × Int) (Int × Int × Int)) := fun s8 => bif (decide (s8.2.2.2 < (p0_grades.length : Int))) then (bif (inB s8.2.2.2 p0_grades.length) then ((spec_MisfitOf.f (rdN p0_grades s8.2.2.2) p1_thin p2_thick p3_dark p4_light).bind fun r16 => bif (r16.2.2 != 0) then ((some (IntKind.wrap .i64 (s8.2.2.2 + 1))).bind fun i_20 => some (.next (s8.1, s8.2.1, s8.2.2.1, i_20))) else ((bif (decide (s8.1 < 0)) then (some true) else ((spec_l01Size.f r16.2.1).bind fun r24 => (spec_l01Size.f s8.2.2.1).bind fun r27 => some (decide (r24 < r27))) : Option (Bool)).bind fun y21 => bif y21 then ((some (IntKind.wrap .i64 (s8.2.2.2 + 1))).bind fun i_32 => some (.next (s8.2.2.2, r16.1, r16.2.1, i_32))) else ((some (IntKind.wrap .i64 (s8.2.2.2 + 1))).bind fun i_33 => some (.next (s8.1, s8.2.1, s8.2.2.1, i_33))))) else none) else (some (.done (s8.1, s8.2.1, s8.2.2.1)))
noncomputable def spec_BestGrade.f (p0_grades : (List (List impl_Point))) (p1_thin : Int) (p2_thick : Int) (p3_dark : Int) (p4_light : Int) : Option (Int × Int × Int × Int) := (spec_l05Four.f p1_thin p2_thick p3_dark p4_light).bind fun r1 => (spec_l05Grades.f p0_grades r1).bind fun r4 => bif (r4 != 0) then (some (0, 0, 0, r4)) else ((loopW (spec_BestGrade.b1 p0_grades p1_thin p2_thick p3_dark p4_light) ((-1), 0, 0, 0)).bind fun y34 => bif (decide (y34.1 < 0)) then (some (0, 0, 0, 6)) else (some (y34.1, y34.2.1, y34.2.2, 0)))
set_option maxRecDepth 100000 in
theorem spec_BestGrade.calls (v0 : Value) (p0_grades : (List (List impl_Point))) (p1_thin : Int) (p2_thick : Int) (p3_dark : Int) (p4_light : Int) (r : Int × Int × Int × Int) (w : World) (H0 : Own [] w w []) (hS0 : SlN [] w v0 40 78 enc_impl_Point p0_grades) (h0 : spec_BestGrade.f p0_grades p1_thin p2_thick p3_dark p4_light = some r) :
    Calls Try.prog 7 #[v0, .int .i64 p1_thin, .int .i64 p2_thick, .int .i64 p3_dark, .int .i64 p4_light] w (fun e w' => ∃ _ : Unit, e = .returned (.tuple #[.int .i64 r.1, .int .i64 r.2.1, .int .i64 r.2.2.1, .int .i64 r.2.2.2]) ∧ Own [] w w' []) := by
  unfold spec_BestGrade.f at h0
  replace h0 := B.top h0
  refine calls_of_J (args := [v0, .int .i64 p1_thin, .int .i64 p2_thick, .int .i64 p3_dark, .int .i64 p4_light]) Try.func7 rfl Try.ntmps7 rfl [(0, v0), (1, .int .i64 p1_thin), (2, .int .i64 p2_thick), (3, .int .i64 p3_dark), (4, .int .i64 p4_light)] rfl H0 ?_
  obtain ⟨us0_, hN0, hE0⟩ := id hS0
  refine J.seq ?_
  refine J.region ?_
  refine J.op rfl rfl rfl (V.as rfl rfl) ?_
  refine J.op rfl rfl rfl (V.as rfl rfl) ?_
  refine J.op rfl rfl rfl (V.as rfl rfl) ?_
  refine J.op rfl rfl rfl (V.as rfl rfl) ?_
  refine J.nil ?_
  refine J.tN ?_
  refine J.seq ?_
  refine J.seq ?_
  refine J.region ?_
  refine J.op rfl rfl rfl (V.mv rfl rfl) ?_
  refine J.op rfl rfl rfl (V.mv rfl rfl) ?_
  refine J.op rfl rfl rfl (V.mv rfl rfl) ?_
  refine J.op rfl rfl rfl (V.mv rfl rfl) ?_
  refine J.op rfl rfl rfl (V.mv rfl rfl) ?_
  obtain ⟨r1, hr2, h0⟩ := B.bind h0
  refine J.clA (l := [.tmp 23, .tmp 24, .tmp 25, .tmp 26]) [] [] cf34 (wN rfl) rfl rfl rfl rfl rfl rfl (fun w H => spec_l05Four.calls p1_thin p2_thick p3_dark p4_light r1 w (Own.refl w)  hr2) fun g3 => ?_
  obtain ⟨r4, hr5, h0⟩ := B.bind h0
  refine J.clA (l := [.tmp 22, .tmp 27]) [] [] cf33 (wN rfl) rfl rfl rfl rfl rfl rfl (fun w H => spec_l05Grades.calls v0 p0_grades r1 r4 w (Own.refl w) (SlN.laterA hS0 H) hr5) fun g6 => ?_
  refine J.op rfl rfl rfl (V.as rfl rfl) ?_
  refine J.nil ?_
  refine J.tN ?_
  refine J.seq ?_
  refine J.region ?_
  refine J.op rfl rfl rfl (V.mv rfl rfl) ?_
  refine J.op rfl rfl rfl (V.cmp rfl rfl rfl rfl) ?_
  refine J.nil ?_
  refine J.tN ?_
  refine J.cond rfl (fun hB7 => ?_) (fun hB7 => ?_)
  · replace h0 := B.t hB7 h0
    refine J.seq ?_
    refine J.region ?_
    refine J.op rfl rfl rfl (V.mv rfl rfl) ?_
    refine J.op rfl rfl rfl (V.as rfl rfl) ?_
    refine J.op rfl rfl rfl (V.as rfl rfl) ?_
    refine J.op rfl rfl rfl (V.as rfl rfl) ?_
    refine J.op rfl rfl rfl (V.as rfl rfl) ?_
    refine J.nil ?_
    refine J.tN ?_
    refine J.ret ?_
    refine J.tR ?_
    obtain rfl := B.e h0
    exact J.ret4 rfl rfl rfl rfl rfl fun w H => ⟨(), rfl, H.pick [] (by decide)⟩
  · replace h0 := B.f hB7 h0
    refine J.skip ?_
    refine J.tN ?_
    refine J.seq ?_
    refine J.region ?_
    refine J.op rfl rfl rfl (V.as rfl rfl) ?_
    refine J.nil ?_
    refine J.tN ?_
    refine J.seq ?_
    refine J.region ?_
    refine J.op rfl rfl rfl (V.as rfl rfl) ?_
    refine J.nil ?_
    refine J.tN ?_
    refine J.seq ?_
    refine J.region ?_
    refine J.op rfl rfl rfl (V.as rfl rfl) ?_
    refine J.nil ?_
    refine J.tN ?_
    refine J.seq ?_
    refine J.seq ?_
    refine J.region ?_
    refine J.op rfl rfl rfl (V.as rfl rfl) ?_
    refine J.nil ?_
    refine J.tN ?_
    obtain ⟨y34, hy36, h0⟩ := B.bind h0
    refine J.cutQ (γ := Unit) (fun _ => True) (fun gy35 => [(15, .int .i64 y34.1), (16, .int .i64 y34.2.1), (17, .int .i64 y34.2.2)]) (fun gy35 => []) ?_ ?_
    · refine J.block ?_
      refine J.loop (γ := Unit) hy36 (fun s8 g9 => [(0, v0), (1, .int .i64 p1_thin), (2, .int .i64 p2_thick), (3, .int .i64 p3_dark), (4, .int .i64 p4_light), (15, .int .i64 s8.1), (16, .int .i64 s8.2.1), (17, .int .i64 s8.2.2.1), (18, .int .i64 s8.2.2.2)]) (fun s8 g9 => []) () ?_ ?_
      · exact J.keep _ rfl (J.pickE [] rfl rfl J.here)
      · intro rec10 s8 g9 h1
        unfold spec_BestGrade.b1 at h1
        refine J.seq ?_
        refine J.seq ?_
        refine J.region ?_
        refine J.op rfl rfl rfl (V.mv rfl rfl) ?_
        refine J.op rfl rfl rfl (V.mv rfl rfl) ?_
        refine J.op rfl rfl rfl (V.lenS hN0 rfl rfl tl26) ?_
        refine J.op rfl rfl rfl (V.cmp rfl rfl rfl rfl) ?_
        refine J.nil ?_
        refine J.tN ?_
        refine J.cond rfl (fun hB11 => ?_) (fun hB11 => ?_)
        · replace h1 := B.t hB11 h1
          refine J.skip ?_
          refine J.tN ?_
          refine J.seq ?_
          refine J.block ?_
          refine J.seq ?_
          refine J.region ?_
          refine J.op rfl rfl rfl (V.mv rfl rfl) ?_
          refine J.op rfl rfl rfl (V.mv rfl rfl) ?_
          obtain ⟨hC12, h1⟩ := B.chk h1
          refine J.op rfl rfl rfl (V.ixS hN0 rfl rfl rfl tl26 ts40 hC12) ?_
          obtain ⟨u13, hu14, hS15⟩ := hE0 _ hC12
          refine J.op rfl rfl rfl (V.nld hN0 hC12 hu14 rfl rfl Try.underlying40 ta40) ?_
          refine J.op rfl rfl rfl (V.mv rfl rfl) ?_
          refine J.op rfl rfl rfl (V.mv rfl rfl) ?_
          refine J.op rfl rfl rfl (V.mv rfl rfl) ?_
          refine J.op rfl rfl rfl (V.mv rfl rfl) ?_
          obtain ⟨r16, hr17, h1⟩ := B.bind h1
          refine J.clA (l := [.tmp 42, .tmp 43, .tmp 44, .tmp 45, .tmp 46]) [] [] cf21 (wN rfl) rfl rfl rfl rfl rfl rfl (fun w H => spec_MisfitOf.calls u13 (rdN p0_grades s8.2.2.2) p1_thin p2_thick p3_dark p4_light r16 w (Own.refl w) (Sl.laterA hS15 H) hr17) fun g18 => ?_
          refine J.op rfl rfl rfl (V.mv rfl rfl) ?_
          refine J.op rfl rfl rfl (V.ex rfl rfl rfl) ?_
          refine J.op rfl rfl rfl (V.ex rfl rfl rfl) ?_
          refine J.op rfl rfl rfl (V.ex rfl rfl rfl) ?_
          refine J.op rfl rfl rfl (V.as rfl rfl) ?_
          refine J.op rfl rfl rfl (V.as rfl rfl) ?_
          refine J.op rfl rfl rfl (V.as rfl rfl) ?_
          refine J.nil ?_
          refine J.tN ?_
          refine J.seq ?_
          refine J.seq ?_
          refine J.region ?_
          refine J.op rfl rfl rfl (V.mv rfl rfl) ?_
          refine J.op rfl rfl rfl (V.cmp rfl rfl rfl rfl) ?_
          refine J.nil ?_
          refine J.tN ?_
          refine J.cond rfl (fun hB19 => ?_) (fun hB19 => ?_)
          · replace h1 := B.t hB19 h1
            refine J.exit ?_
            refine J.tE ?_
            refine J.bE ?_
            refine J.tN ?_
            refine J.region ?_
            refine J.op rfl rfl rfl (V.mv rfl rfl) ?_
            refine J.op rfl rfl rfl (V.ar rfl rfl rfl rfl) ?_
            refine J.op rfl rfl rfl (V.as rfl rfl) ?_
            obtain ⟨i_20, ei_20, h1⟩ := B.lt h1
            refine J.val (congrArg (Value.int .i64) ei_20) ?_
            refine J.nil ?_
            refine J.tN (J.next (s8.1, s8.2.1, s8.2.2.1, i_20) () (B.n h1) ?_)
            exact J.keep _ rfl (J.pickE [] rfl rfl J.here)
          · replace h1 := B.f hB19 h1
            refine J.skip ?_
            refine J.tN ?_
            refine J.seq ?_
            obtain ⟨y21, hy30, h1⟩ := B.bind h1
            replace hy30 := B.top hy30
            refine J.cut (γ := Unit) (fun _ => True) (fun gy22 => [(0, v0), (1, .int .i64 p1_thin), (2, .int .i64 p2_thick), (3, .int .i64 p3_dark), (4, .int .i64 p4_light), (15, .int .i64 s8.1), (16, .int .i64 s8.2.1), (17, .int .i64 s8.2.2.1), (18, .int .i64 s8.2.2.2), (19, .int .i64 r16.1), (20, .int .i64 r16.2.1), (61, .bool y21)]) (fun gy22 => []) ?_ ?_
            · have h2 := hy30
              refine J.region ?_
              refine J.op rfl rfl rfl (V.mv rfl rfl) ?_
              refine J.op rfl rfl rfl (V.cmp rfl rfl rfl rfl) ?_
              refine J.op rfl rfl rfl (V.mv rfl rfl) ?_
              refine J.split 55 rfl (fun hB23 => ?_) (fun hB23 => ?_)
              · replace h2 := B.t hB23 h2
                refine J.opOff rfl rfl rfl rfl rfl rfl ?_
                refine J.opOff rfl rfl rfl rfl rfl rfl ?_
                refine J.opOff rfl rfl rfl rfl rfl rfl ?_
                refine J.opOff rfl rfl rfl rfl rfl rfl ?_
                refine J.opOff rfl rfl rfl rfl rfl rfl ?_
                refine J.op rfl rfl rfl (V.pkT rfl rfl rfl) ?_
                refine J.nil ?_
                obtain rfl := B.e h2
                refine J.tN (J.to () trivial ?_)
                exact J.keep _ rfl (J.pickE [] rfl rfl J.here)
              · replace h2 := B.f hB23 h2
                refine J.opOn rfl rfl rfl rfl rfl (V.mv rfl rfl) ?_
                obtain ⟨r24, hr25, h2⟩ := B.bind h2
                refine J.clA (l := [.tmp 56]) [] [] cf35 (wY rfl rfl rfl) rfl rfl rfl rfl rfl rfl (fun w H => spec_l01Size.calls r16.2.1 r24 w (Own.refl w)  hr25) fun g26 => ?_
                refine J.opOn rfl rfl rfl rfl rfl (V.mv rfl rfl) ?_
                obtain ⟨r27, hr28, h2⟩ := B.bind h2
                refine J.clA (l := [.tmp 58]) [] [] cf35 (wY rfl rfl rfl) rfl rfl rfl rfl rfl rfl (fun w H => spec_l01Size.calls s8.2.2.1 r27 w (Own.refl w)  hr28) fun g29 => ?_
                refine J.opOn rfl rfl rfl rfl rfl (V.cmp rfl rfl rfl rfl) ?_
                refine J.op rfl rfl rfl (V.pkF rfl rfl rfl) ?_
                refine J.nil ?_
                obtain rfl := B.e h2
                refine J.tN (J.to () trivial ?_)
                exact J.keep _ rfl (J.pickE [] rfl rfl J.here)
            · intro gy22 _
              refine J.cond rfl (fun hB31 => ?_) (fun hB31 => ?_)
              · replace h1 := B.t hB31 h1
                refine J.seq ?_
                refine J.region ?_
                refine J.op rfl rfl rfl (V.mv rfl rfl) ?_
                refine J.op rfl rfl rfl (V.as rfl rfl) ?_
                refine J.nil ?_
                refine J.tN ?_
                refine J.seq ?_
                refine J.region ?_
                refine J.op rfl rfl rfl (V.mv rfl rfl) ?_
                refine J.op rfl rfl rfl (V.as rfl rfl) ?_
                refine J.nil ?_
                refine J.tN ?_
                refine J.region ?_
                refine J.op rfl rfl rfl (V.mv rfl rfl) ?_
                refine J.op rfl rfl rfl (V.as rfl rfl) ?_
                refine J.nil ?_
                refine J.bN ?_
                refine J.tN ?_
                refine J.region ?_
                refine J.op rfl rfl rfl (V.mv rfl rfl) ?_
                refine J.op rfl rfl rfl (V.ar rfl rfl rfl rfl) ?_
                refine J.op rfl rfl rfl (V.as rfl rfl) ?_
                obtain ⟨i_32, ei_32, h1⟩ := B.lt h1
                refine J.val (congrArg (Value.int .i64) ei_32) ?_
                refine J.nil ?_
                refine J.tN (J.next (s8.2.2.2, r16.1, r16.2.1, i_32) () (B.n h1) ?_)
                exact J.keep _ rfl (J.pickE [] rfl rfl J.here)
              · replace h1 := B.f hB31 h1
                refine J.skip ?_
                refine J.bN ?_
                refine J.tN ?_
                refine J.region ?_
                refine J.op rfl rfl rfl (V.mv rfl rfl) ?_
                refine J.op rfl rfl rfl (V.ar rfl rfl rfl rfl) ?_
                refine J.op rfl rfl rfl (V.as rfl rfl) ?_
                obtain ⟨i_33, ei_33, h1⟩ := B.lt h1
                refine J.val (congrArg (Value.int .i64) ei_33) ?_
                refine J.nil ?_
                refine J.tN (J.next (s8.1, s8.2.1, s8.2.2.1, i_33) () (B.n h1) ?_)
                exact J.keep _ rfl (J.pickE [] rfl rfl J.here)
        · replace h1 := B.f hB11 h1
          refine J.exit ?_
          refine J.tE ?_
          refine J.tE ?_
          refine J.bE ?_
          obtain rfl := B.d h1
          refine J.tN (J.to () trivial ?_)
          exact J.keep _ rfl (J.pickE [] rfl rfl J.here)
    · intro gy35 _
      refine J.tN ?_
      refine J.seq ?_
      refine J.seq ?_
      refine J.region ?_
      refine J.op rfl rfl rfl (V.mv rfl rfl) ?_
      refine J.op rfl rfl rfl (V.cmp rfl rfl rfl rfl) ?_
      refine J.nil ?_
      refine J.tN ?_
      refine J.cond rfl (fun hB37 => ?_) (fun hB37 => ?_)
      · replace h0 := B.t hB37 h0
        refine J.seq ?_
        refine J.region ?_
        refine J.op rfl rfl rfl (V.as rfl rfl) ?_
        refine J.op rfl rfl rfl (V.as rfl rfl) ?_
        refine J.op rfl rfl rfl (V.as rfl rfl) ?_
        refine J.op rfl rfl rfl (V.as rfl rfl) ?_
        refine J.nil ?_
        refine J.tN ?_
        refine J.ret ?_
        refine J.tR ?_
        obtain rfl := B.e h0
        exact J.ret4 rfl rfl rfl rfl rfl fun w H => ⟨(), rfl, H.pick [] (by decide)⟩
      · replace h0 := B.f hB37 h0
        refine J.skip ?_
        refine J.tN ?_
        refine J.seq ?_
        refine J.region ?_
        refine J.op rfl rfl rfl (V.mv rfl rfl) ?_
        refine J.op rfl rfl rfl (V.mv rfl rfl) ?_
        refine J.op rfl rfl rfl (V.mv rfl rfl) ?_
        refine J.op rfl rfl rfl (V.as rfl rfl) ?_
        refine J.op rfl rfl rfl (V.as rfl rfl) ?_
        refine J.op rfl rfl rfl (V.as rfl rfl) ?_
        refine J.op rfl rfl rfl (V.as rfl rfl) ?_
        refine J.nil ?_
        refine J.tN ?_
        refine J.ret ?_
        obtain rfl := B.e h0
        exact J.ret4 rfl rfl rfl rfl rfl fun w H => ⟨(), rfl, H.pick [] (by decide)⟩

/-! ### laws.toPoint: function 67 -/
noncomputable def laws_toPoint.f (p0_a : laws_Point) : Option (impl_Point) := some (⟨p0_a.X, p0_a.Y⟩ : impl_Point)
set_option maxRecDepth 100000 in
theorem laws_toPoint.calls (p0_a : laws_Point) (r : impl_Point) (w : World) (H0 : Own [] w w []) (h0 : laws_toPoint.f p0_a = some r) :
    Calls Try.prog 67 #[.agg #[.int .i16 p0_a.X, .int .i16 p0_a.Y]] w (fun e w' => ∃ _ : Unit, e = .returned (.agg #[.int .i16 r.X, .int .i16 r.Y]) ∧ Own [] w w' []) := by
  unfold laws_toPoint.f at h0
  replace h0 := B.top h0
  refine calls_of_J (args := [.agg #[.int .i16 p0_a.X, .int .i16 p0_a.Y]]) Try.func67 rfl Try.ntmps67 rfl [(0, .agg #[.int .i16 p0_a.X, .int .i16 p0_a.Y])] rfl H0 ?_
  refine J.seq ?_
  refine J.region ?_
  refine J.box rfl rfl rfl rfl rfl (fun _ _ => rfl) fun b1 => ?_
  refine J.alloc rfl rfl rfl rfl tz78 rfl fun b3 => ?_
  refine J.nil ?_
  refine J.tN ?_
  refine J.seq ?_
  refine J.region ?_
  refine J.alloc rfl rfl rfl rfl tz78 rfl fun b5 => ?_
  refine J.nil ?_
  refine J.tN ?_
  refine J.seq ?_
  refine J.region ?_
  refine J.op rfl rfl rfl (V.faB rfl rfl tf0_80) ?_
  refine J.op rfl rfl rfl (V.ldB 2 rfl rfl rfl Try.underlying76 ta76 rfl) ?_
  refine J.op rfl rfl rfl (V.faB rfl rfl tf0_78) ?_
  refine J.stB 0 rfl rfl rfl rfl rfl rfl ts76 (fun _ _ => rfl) rfl ?_
  refine J.nil ?_
  refine J.tN ?_
  refine J.seq ?_
  refine J.region ?_
  refine J.op rfl rfl rfl (V.faB rfl rfl tf1_80) ?_
  refine J.op rfl rfl rfl (V.ldB 2 rfl rfl rfl Try.underlying76 ta76 rfl) ?_
  refine J.op rfl rfl rfl (V.faB rfl rfl tf1_78) ?_
  refine J.stB 0 rfl rfl rfl rfl rfl rfl ts76 (fun _ _ => rfl) rfl ?_
  refine J.nil ?_
  refine J.tN ?_
  refine J.seq ?_
  refine J.region ?_
  refine J.op rfl rfl rfl (V.ldW 0 rfl rfl rfl ts78 ta78 rfl) ?_
  refine J.stW (cs' := [.int .i16 p0_a.X, .int .i16 p0_a.Y]) 1 rfl rfl rfl rfl rfl rfl ts78 rfl (fun _ H => (one_cons rfl (one_cons rfl one_nil))) rfl rfl ?_
  refine J.nil ?_
  refine J.tN ?_
  refine J.ret ?_
  obtain rfl := B.e h0
  exact J.retC 1 rfl rfl rfl ts78 ta78 rfl fun w H => ⟨(), rfl, H.pick [] (by decide)⟩

/-! ### laws.toCurve: function 36 -/
noncomputable def laws_toCurve.b1 (p0_a : (List laws_Point)) : (Int × (List impl_Point)) → Option (Step (Int × (List impl_Point)) ((List impl_Point))) := fun s4 => bif (decide (s4.1 < (p0_a.length : Int))) then (bif (inB s4.1 p0_a.length) then ((laws_toPoint.f (⟨(rd enc_laws_Point p0_a s4.1).X, (rd enc_laws_Point p0_a s4.1).Y⟩ : laws_Point)).bind fun r9 => bif (inB s4.1 s4.2.length) then ((some (s4.2.set s4.1.toNat (⟨r9.X, r9.Y⟩ : impl_Point))).bind fun w13 => (some (IntKind.wrap .i64 (s4.1 + 1))).bind fun i_14 => some (.next (i_14, w13))) else none) else none) else (some (.done s4.2))
noncomputable def laws_toCurve.f (p0_a : (List laws_Point)) : Option ((List impl_Point)) := bif (mkB (p0_a.length : Int) 4) then ((loopW (laws_toCurve.b1 p0_a) (0, List.replicate (p0_a.length : Int).toNat enc_impl_Point.dflt)).bind fun y15 => some y15) else none
set_option maxRecDepth 100000 in
theorem laws_toCurve.calls (v0 : Value) (p0_a : (List laws_Point)) (r : (List impl_Point)) (w : World) (H0 : Own [] w w []) (hS0 : SlE [] w v0 80 enc_laws_Point p0_a) (h0 : laws_toCurve.f p0_a = some r) :
    Calls Try.prog 36 #[v0] w (fun e w' => ∃ gh : Value, e = .returned (gh) ∧ Own [] w w' [.rowE gh 78 enc_impl_Point r]) := by
  unfold laws_toCurve.f at h0
  replace h0 := B.top h0
  refine calls_of_J (args := [v0]) Try.func36 rfl Try.ntmps36 rfl [(0, v0)] rfl H0 ?_
  refine J.seq ?_
  refine J.region ?_
  refine J.op rfl rfl rfl (V.as rfl rfl) ?_
  refine J.nil ?_
  refine J.tN ?_
  refine J.seq ?_
  refine J.region ?_
  refine J.op rfl rfl rfl (V.mv rfl rfl) ?_
  refine J.op rfl rfl rfl (V.lenS hS0 rfl rfl tl52) ?_
  obtain ⟨hC2, h0⟩ := B.chk h0
  obtain ⟨_, qi1, qi2, qi3, qi4⟩ := ti78
  refine J.mk (e := enc_impl_Point) hC2 qi1 tl40 qi2 qi3 qi4 rfl rfl rfl rfl rfl rfl rfl rfl fun v1 => ?_
  refine J.op rfl rfl rfl (V.as rfl rfl) ?_
  refine J.nil ?_
  refine J.tN ?_
  refine J.seq ?_
  refine J.seq ?_
  refine J.region ?_
  refine J.op rfl rfl rfl (V.as rfl rfl) ?_
  refine J.nil ?_
  refine J.tN ?_
  obtain ⟨y15, hy17, h0⟩ := B.bind h0
  refine J.cutQ (γ := Unit) (fun _ => True) (fun gy16 => [(3, v1)]) (fun gy16 => [.rowE v1 78 enc_impl_Point y15]) ?_ ?_
  · refine J.block ?_
    refine J.loop (γ := Unit) hy17 (fun s4 g5 => [(0, v0), (3, v1), (4, .int .i64 s4.1)]) (fun s4 g5 => [.rowE v1 78 enc_impl_Point s4.2]) () ?_ ?_
    · exact J.keep _ rfl (J.pickE [0] rfl rfl J.here)
    · intro rec6 s4 g5 h1
      unfold laws_toCurve.b1 at h1
      refine J.seq ?_
      refine J.seq ?_
      refine J.region ?_
      refine J.op rfl rfl rfl (V.mv rfl rfl) ?_
      refine J.op rfl rfl rfl (V.mv rfl rfl) ?_
      refine J.op rfl rfl rfl (V.lenS hS0 rfl rfl tl52) ?_
      refine J.op rfl rfl rfl (V.cmp rfl rfl rfl rfl) ?_
      refine J.nil ?_
      refine J.tN ?_
      refine J.cond rfl (fun hB7 => ?_) (fun hB7 => ?_)
      · replace h1 := B.t hB7 h1
        refine J.skip ?_
        refine J.tN ?_
        refine J.seq ?_
        refine J.block ?_
        refine J.region ?_
        refine J.op rfl rfl rfl (V.mv rfl rfl) ?_
        refine J.op rfl rfl rfl (V.mv rfl rfl) ?_
        refine J.op rfl rfl rfl (V.mv rfl rfl) ?_
        refine J.op rfl rfl rfl (V.mv rfl rfl) ?_
        obtain ⟨hC8, h1⟩ := B.chk h1
        refine J.op rfl rfl rfl (V.ixS hS0 rfl rfl rfl tl52 ts80 hC8) ?_
        refine J.op rfl rfl rfl (V.elSA hS0 hC8 rfl rfl ts80 ta80) ?_
        obtain ⟨r9, hr10, h1⟩ := B.bind h1
        refine J.clA (l := [.tmp 19]) [] [.rowE v1 78 enc_impl_Point s4.2] cf67 (wN rfl) rfl rfl rfl rfl rfl rfl (fun w H => laws_toPoint.calls (⟨(rd enc_laws_Point p0_a s4.1).X, (rd enc_laws_Point p0_a s4.1).Y⟩ : laws_Point) r9 w (Own.refl w)  hr10) fun g11 => ?_
        obtain ⟨hC12, h1⟩ := B.chk h1
        refine J.op rfl rfl rfl (V.ixR 0 rfl rfl rfl rfl tl40 ts78 hC12) ?_
        refine J.stEA (e := enc_impl_Point) (xs := s4.2) 0 (⟨r9.X, r9.Y⟩ : impl_Point) hC12 rfl rfl rfl rfl rfl rfl ts78 ?_
        obtain ⟨w13, ew13, h1⟩ := B.lt h1
        refine J.setEnt 0 rfl (congrArg (fun q => Ent.rowE _ _ enc_impl_Point q) ew13) ?_
        refine J.nil ?_
        refine J.bN ?_
        refine J.tN ?_
        refine J.region ?_
        refine J.op rfl rfl rfl (V.mv rfl rfl) ?_
        refine J.op rfl rfl rfl (V.ar rfl rfl rfl rfl) ?_
        refine J.op rfl rfl rfl (V.as rfl rfl) ?_
        obtain ⟨i_14, ei_14, h1⟩ := B.lt h1
        refine J.val (congrArg (Value.int .i64) ei_14) ?_
        refine J.nil ?_
        refine J.tN (J.next (i_14, w13) () (B.n h1) ?_)
        exact J.keep _ rfl (J.pickE [0] rfl rfl J.here)
      · replace h1 := B.f hB7 h1
        refine J.exit ?_
        refine J.tE ?_
        refine J.tE ?_
        refine J.bE ?_
        obtain rfl := B.d h1
        refine J.tN (J.to () trivial ?_)
        exact J.keep _ rfl (J.pickE [0] rfl rfl J.here)
  · intro gy16 _
    refine J.tN ?_
    refine J.seq ?_
    refine J.region ?_
    refine J.op rfl rfl rfl (V.mv rfl rfl) ?_
    refine J.op rfl rfl rfl (V.as rfl rfl) ?_
    refine J.nil ?_
    refine J.tN ?_
    refine J.ret ?_
    obtain rfl := B.e h0
    exact J.ret1 rfl rfl fun w H => ⟨v1, rfl, H.pick [0] (by decide)⟩

/-! ### laws.toCurveS: function 8 -/
noncomputable def laws_toCurveS.b1 (p0_a : (List (List laws_Point))) : (Int × (List (List impl_Point))) → Option (Step (Int × (List (List impl_Point))) ((List (List impl_Point)))) := fun s4 => bif (decide (s4.1 < (p0_a.length : Int))) then (bif (inB s4.1 p0_a.length) then ((laws_toCurve.f (rdN p0_a s4.1)).bind fun r12 => bif (inB s4.1 s4.2.length) then ((some (IntKind.wrap .i64 (s4.1 + 1))).bind fun i_17 => some (.next (i_17, s4.2.set s4.1.toNat r12))) else none) else none) else (some (.done s4.2))
noncomputable def laws_toCurveS.f (p0_a : (List (List laws_Point))) : Option ((List (List impl_Point))) := bif (mkB (p0_a.length : Int) 24) then ((loopW (laws_toCurveS.b1 p0_a) (0, List.replicate (p0_a.length : Int).toNat ([] : List impl_Point))).bind fun y18 => some y18) else none
set_option maxRecDepth 100000 in
theorem laws_toCurveS.calls (v0 : Value) (p0_a : (List (List laws_Point))) (r : (List (List impl_Point))) (w : World) (H0 : Own [] w w []) (hS0 : SlN [] w v0 52 80 enc_laws_Point p0_a) (h0 : laws_toCurveS.f p0_a = some r) :
    Calls Try.prog 8 #[v0] w (fun e w' => ∃ gh : Value × List Value, e = .returned (gh.1) ∧ Own [] w w' [.nestE gh.1 40 78 enc_impl_Point gh.2 r]) := by
  unfold laws_toCurveS.f at h0
  replace h0 := B.top h0
  refine calls_of_J (args := [v0]) Try.func8 rfl Try.ntmps8 rfl [(0, v0)] rfl H0 ?_
  obtain ⟨us0_, hN0, hE0⟩ := id hS0
  refine J.seq ?_
  refine J.region ?_
  refine J.op rfl rfl rfl (V.as rfl rfl) ?_
  refine J.nil ?_
  refine J.tN ?_
  refine J.seq ?_
  refine J.region ?_
  refine J.op rfl rfl rfl (V.mv rfl rfl) ?_
  refine J.op rfl rfl rfl (V.lenS hN0 rfl rfl tl22) ?_
  obtain ⟨hC2, h0⟩ := B.chk h0
  obtain ⟨_, qi1, qi2, qi3, qi4⟩ := ti40
  refine J.mkN (E2 := 78) enc_impl_Point hC2 qi1 tl26 qi2 qi3 qi4 rfl rfl rfl rfl rfl rfl rfl fun v1 => ?_
  refine J.op rfl rfl rfl (V.as rfl rfl) ?_
  refine J.nil ?_
  refine J.tN ?_
  refine J.seq ?_
  refine J.seq ?_
  refine J.region ?_
  refine J.op rfl rfl rfl (V.as rfl rfl) ?_
  refine J.nil ?_
  refine J.tN ?_
  obtain ⟨y18, hy20, h0⟩ := B.bind h0
  refine J.cutQ (γ := List Value) (fun _ => True) (fun gy19 => [(3, v1)]) (fun gy19 => [.nestE v1 40 78 enc_impl_Point gy19 y18]) ?_ ?_
  · refine J.block ?_
    refine J.loop (γ := List Value) hy20 (fun s4 g5 => [(0, v0), (3, v1), (4, .int .i64 s4.1)]) (fun s4 g5 => [.nestE v1 40 78 enc_impl_Point g5 s4.2]) (List.replicate (p0_a.length : Int).toNat (.slice none 0 0)) ?_ ?_
    · exact J.keep _ rfl (J.pickE [0] rfl rfl J.here)
    · intro rec6 s4 g5 h1
      unfold laws_toCurveS.b1 at h1
      refine J.seq ?_
      refine J.seq ?_
      refine J.region ?_
      refine J.op rfl rfl rfl (V.mv rfl rfl) ?_
      refine J.op rfl rfl rfl (V.mv rfl rfl) ?_
      refine J.op rfl rfl rfl (V.lenS hN0 rfl rfl tl22) ?_
      refine J.op rfl rfl rfl (V.cmp rfl rfl rfl rfl) ?_
      refine J.nil ?_
      refine J.tN ?_
      refine J.cond rfl (fun hB7 => ?_) (fun hB7 => ?_)
      · replace h1 := B.t hB7 h1
        refine J.skip ?_
        refine J.tN ?_
        refine J.seq ?_
        refine J.block ?_
        refine J.region ?_
        refine J.op rfl rfl rfl (V.mv rfl rfl) ?_
        refine J.op rfl rfl rfl (V.mv rfl rfl) ?_
        refine J.op rfl rfl rfl (V.mv rfl rfl) ?_
        refine J.op rfl rfl rfl (V.mv rfl rfl) ?_
        obtain ⟨hC8, h1⟩ := B.chk h1
        refine J.op rfl rfl rfl (V.ixS hN0 rfl rfl rfl tl22 ts52 hC8) ?_
        obtain ⟨u9, hu10, hS11⟩ := hE0 _ hC8
        refine J.op rfl rfl rfl (V.nld hN0 hC8 hu10 rfl rfl Try.underlying52 ta52) ?_
        obtain ⟨r12, hr13, h1⟩ := B.bind h1
        refine J.clA (l := [.tmp 19]) [] [.nestE v1 40 78 enc_impl_Point g5 s4.2] cf36 (wN rfl) rfl rfl rfl rfl rfl rfl (fun w H => laws_toCurve.calls u9 (rdN p0_a s4.1) r12 w (Own.refl w) (Sl.laterA hS11 H) hr13) fun g14 => ?_
        obtain ⟨hC16, h1⟩ := B.chk h1
        refine J.op rfl rfl rfl (V.ixNst 1 rfl rfl rfl rfl tl26 ts40 hC16) ?_
        refine J.pickE [1, 0] (es' := [.nestE v1 40 78 enc_impl_Point g5 s4.2, .rowE g14 78 enc_impl_Point r12]) rfl rfl ?_
        refine J.stN hC16 rfl rfl rfl rfl rfl ts40 ?_
        refine J.nil ?_
        refine J.bN ?_
        refine J.tN ?_
        refine J.region ?_
        refine J.op rfl rfl rfl (V.mv rfl rfl) ?_
        refine J.op rfl rfl rfl (V.ar rfl rfl rfl rfl) ?_
        refine J.op rfl rfl rfl (V.as rfl rfl) ?_
        obtain ⟨i_17, ei_17, h1⟩ := B.lt h1
        refine J.val (congrArg (Value.int .i64) ei_17) ?_
        refine J.nil ?_
        refine J.tN (J.next (i_17, s4.2.set s4.1.toNat r12) (g5.set s4.1.toNat g14) (B.n h1) ?_)
        exact J.keep _ rfl (J.pickE [0] rfl rfl J.here)
      · replace h1 := B.f hB7 h1
        refine J.exit ?_
        refine J.tE ?_
        refine J.tE ?_
        refine J.bE ?_
        obtain rfl := B.d h1
        refine J.tN (J.to g5 trivial ?_)
        exact J.keep _ rfl (J.pickE [0] rfl rfl J.here)
  · intro gy19 _
    refine J.tN ?_
    refine J.seq ?_
    refine J.region ?_
    refine J.op rfl rfl rfl (V.mv rfl rfl) ?_
    refine J.op rfl rfl rfl (V.as rfl rfl) ?_
    refine J.nil ?_
    refine J.tN ?_
    refine J.ret ?_
    obtain rfl := B.e h0
    exact J.ret1 rfl rfl fun w H => ⟨(v1, gy19), rfl, H.pick [0] (by decide)⟩

/-! ### impl.within: function 71 -/
noncomputable def impl_within.f (p0_n : Int) (p1_low : Int) (p2_high : Int) : Option (Bool) := bif (decide (p1_low ≤ p0_n)) then ((some (decide (p0_n ≤ p2_high))).bind fun t2 => some t2) else (some false)
set_option maxRecDepth 100000 in
theorem impl_within.calls (p0_n : Int) (p1_low : Int) (p2_high : Int) (r : Bool) (w : World) (H0 : Own [] w w []) (h0 : impl_within.f p0_n p1_low p2_high = some r) :
    Calls Try.prog 71 #[.int .i64 p0_n, .int .i64 p1_low, .int .i64 p2_high] w (fun e w' => ∃ _ : Unit, e = .returned (.bool r) ∧ Own [] w w' []) := by
  unfold impl_within.f at h0
  replace h0 := B.top h0
  refine calls_of_J (args := [.int .i64 p0_n, .int .i64 p1_low, .int .i64 p2_high]) Try.func71 rfl Try.ntmps71 rfl [(0, .int .i64 p0_n), (1, .int .i64 p1_low), (2, .int .i64 p2_high)] rfl H0 ?_
  refine J.seq ?_
  refine J.region ?_
  refine J.op rfl rfl rfl (V.as rfl rfl) ?_
  refine J.nil ?_
  refine J.tN ?_
  refine J.seq ?_
  refine J.region ?_
  refine J.op rfl rfl rfl (V.mv rfl rfl) ?_
  refine J.op rfl rfl rfl (V.mv rfl rfl) ?_
  refine J.op rfl rfl rfl (V.cmp rfl rfl rfl rfl) ?_
  refine J.op rfl rfl rfl (V.mv rfl rfl) ?_
  refine J.split 10 rfl (fun hB1 => ?_) (fun hB1 => ?_)
  · replace h0 := B.t hB1 h0
    refine J.opOn rfl rfl rfl rfl rfl (V.mv rfl rfl) ?_
    refine J.opOn rfl rfl rfl rfl rfl (V.mv rfl rfl) ?_
    refine J.opOn rfl rfl rfl rfl rfl (V.cmp rfl rfl rfl rfl) ?_
    refine J.op rfl rfl rfl (V.pkT rfl rfl rfl) ?_
    refine J.op rfl rfl rfl (V.as rfl rfl) ?_
    obtain ⟨t2, et2, h0⟩ := B.lt h0
    refine J.val (congrArg (Value.bool) et2) ?_
    refine J.nil ?_
    refine J.tN ?_
    refine J.ret ?_
    obtain rfl := B.e h0
    exact J.ret1 rfl rfl fun w H => ⟨(), rfl, H.pick [] (by decide)⟩
  · replace h0 := B.f hB1 h0
    refine J.opOff rfl rfl rfl rfl rfl rfl ?_
    refine J.opOff rfl rfl rfl rfl rfl rfl ?_
    refine J.opOff rfl rfl rfl rfl rfl rfl ?_
    refine J.op rfl rfl rfl (V.pkF rfl rfl rfl) ?_
    refine J.op rfl rfl rfl (V.as rfl rfl) ?_
    refine J.nil ?_
    refine J.tN ?_
    refine J.ret ?_
    obtain rfl := B.e h0
    exact J.ret1 rfl rfl fun w H => ⟨(), rfl, H.pick [] (by decide)⟩

/-! ### impl.isDensity: function 64 -/
noncomputable def impl_isDensity.f (p0_y : Int) : Option (Bool) := (impl_within.f p0_y 0 400).bind fun r1 => some r1
set_option maxRecDepth 100000 in
theorem impl_isDensity.calls (p0_y : Int) (r : Bool) (w : World) (H0 : Own [] w w []) (h0 : impl_isDensity.f p0_y = some r) :
    Calls Try.prog 64 #[.int .i64 p0_y] w (fun e w' => ∃ _ : Unit, e = .returned (.bool r) ∧ Own [] w w' []) := by
  unfold impl_isDensity.f at h0
  replace h0 := B.top h0
  refine calls_of_J (args := [.int .i64 p0_y]) Try.func64 rfl Try.ntmps64 rfl [(0, .int .i64 p0_y)] rfl H0 ?_
  refine J.seq ?_
  refine J.region ?_
  refine J.op rfl rfl rfl (V.as rfl rfl) ?_
  refine J.nil ?_
  refine J.tN ?_
  refine J.seq ?_
  refine J.region ?_
  refine J.op rfl rfl rfl (V.mv rfl rfl) ?_
  obtain ⟨r1, hr2, h0⟩ := B.bind h0
  refine J.clA (l := [.tmp 3, .const (.int .i64 0), .const (.int .i64 400)]) [] [] cf71 (wN rfl) rfl rfl rfl rfl rfl rfl (fun w H => impl_within.calls p0_y 0 400 r1 w (Own.refl w)  hr2) fun g3 => ?_
  refine J.op rfl rfl rfl (V.as rfl rfl) ?_
  refine J.nil ?_
  refine J.tN ?_
  refine J.ret ?_
  obtain rfl := B.e h0
  exact J.ret1 rfl rfl fun w H => ⟨(), rfl, H.pick [] (by decide)⟩

/-! ### impl.areFour: function 38 -/
noncomputable def impl_areFour.f (p0_thin : Int) (p1_thick : Int) (p2_dark : Int) (p3_light : Int) : Option (Bool) := (impl_isDensity.f p0_thin).bind fun r1 => bif r1 then ((impl_isDensity.f p1_thick).bind fun r5 => bif r5 then ((impl_isDensity.f p2_dark).bind fun r9 => bif r9 then ((impl_isDensity.f p3_light).bind fun r13 => bif r13 then ((some (decide (p0_thin ≤ p1_thick))).bind fun t17 => some t17) else (some false)) else (some false)) else (some false)) else (some false)
set_option maxRecDepth 100000 in
theorem impl_areFour.calls (p0_thin : Int) (p1_thick : Int) (p2_dark : Int) (p3_light : Int) (r : Bool) (w : World) (H0 : Own [] w w []) (h0 : impl_areFour.f p0_thin p1_thick p2_dark p3_light = some r) :
    Calls Try.prog 38 #[.int .i64 p0_thin, .int .i64 p1_thick, .int .i64 p2_dark, .int .i64 p3_light] w (fun e w' => ∃ _ : Unit, e = .returned (.bool r) ∧ Own [] w w' []) := by
  unfold impl_areFour.f at h0
  replace h0 := B.top h0
  refine calls_of_J (args := [.int .i64 p0_thin, .int .i64 p1_thick, .int .i64 p2_dark, .int .i64 p3_light]) Try.func38 rfl Try.ntmps38 rfl [(0, .int .i64 p0_thin), (1, .int .i64 p1_thick), (2, .int .i64 p2_dark), (3, .int .i64 p3_light)] rfl H0 ?_
  refine J.seq ?_
  refine J.region ?_
  refine J.op rfl rfl rfl (V.as rfl rfl) ?_
  refine J.nil ?_
  refine J.tN ?_
  refine J.seq ?_
  refine J.region ?_
  refine J.op rfl rfl rfl (V.mv rfl rfl) ?_
  obtain ⟨r1, hr2, h0⟩ := B.bind h0
  refine J.clA (l := [.tmp 9]) [] [] cf64 (wN rfl) rfl rfl rfl rfl rfl rfl (fun w H => impl_isDensity.calls p0_thin r1 w (Own.refl w)  hr2) fun g3 => ?_
  refine J.op rfl rfl rfl (V.mv rfl rfl) ?_
  refine J.split 11 rfl (fun hB4 => ?_) (fun hB4 => ?_)
  · replace h0 := B.t hB4 h0
    refine J.opOn rfl rfl rfl rfl rfl (V.mv rfl rfl) ?_
    obtain ⟨r5, hr6, h0⟩ := B.bind h0
    refine J.clA (l := [.tmp 12]) [] [] cf64 (wY rfl rfl rfl) rfl rfl rfl rfl rfl rfl (fun w H => impl_isDensity.calls p1_thick r5 w (Own.refl w)  hr6) fun g7 => ?_
    refine J.op rfl rfl rfl (V.pkT rfl rfl rfl) ?_
    refine J.op rfl rfl rfl (V.mv rfl rfl) ?_
    refine J.split 15 rfl (fun hB8 => ?_) (fun hB8 => ?_)
    · replace h0 := B.t hB8 h0
      refine J.opOn rfl rfl rfl rfl rfl (V.mv rfl rfl) ?_
      obtain ⟨r9, hr10, h0⟩ := B.bind h0
      refine J.clA (l := [.tmp 16]) [] [] cf64 (wY rfl rfl rfl) rfl rfl rfl rfl rfl rfl (fun w H => impl_isDensity.calls p2_dark r9 w (Own.refl w)  hr10) fun g11 => ?_
      refine J.op rfl rfl rfl (V.pkT rfl rfl rfl) ?_
      refine J.op rfl rfl rfl (V.mv rfl rfl) ?_
      refine J.split 19 rfl (fun hB12 => ?_) (fun hB12 => ?_)
      · replace h0 := B.t hB12 h0
        refine J.opOn rfl rfl rfl rfl rfl (V.mv rfl rfl) ?_
        obtain ⟨r13, hr14, h0⟩ := B.bind h0
        refine J.clA (l := [.tmp 20]) [] [] cf64 (wY rfl rfl rfl) rfl rfl rfl rfl rfl rfl (fun w H => impl_isDensity.calls p3_light r13 w (Own.refl w)  hr14) fun g15 => ?_
        refine J.op rfl rfl rfl (V.pkT rfl rfl rfl) ?_
        refine J.op rfl rfl rfl (V.mv rfl rfl) ?_
        refine J.split 23 rfl (fun hB16 => ?_) (fun hB16 => ?_)
        · replace h0 := B.t hB16 h0
          refine J.opOn rfl rfl rfl rfl rfl (V.mv rfl rfl) ?_
          refine J.opOn rfl rfl rfl rfl rfl (V.mv rfl rfl) ?_
          refine J.opOn rfl rfl rfl rfl rfl (V.cmp rfl rfl rfl rfl) ?_
          refine J.op rfl rfl rfl (V.pkT rfl rfl rfl) ?_
          refine J.op rfl rfl rfl (V.as rfl rfl) ?_
          obtain ⟨t17, et17, h0⟩ := B.lt h0
          refine J.val (congrArg (Value.bool) et17) ?_
          refine J.nil ?_
          refine J.tN ?_
          refine J.ret ?_
          obtain rfl := B.e h0
          exact J.ret1 rfl rfl fun w H => ⟨(), rfl, H.pick [] (by decide)⟩
        · replace h0 := B.f hB16 h0
          refine J.opOff rfl rfl rfl rfl rfl rfl ?_
          refine J.opOff rfl rfl rfl rfl rfl rfl ?_
          refine J.opOff rfl rfl rfl rfl rfl rfl ?_
          refine J.op rfl rfl rfl (V.pkF rfl rfl rfl) ?_
          refine J.op rfl rfl rfl (V.as rfl rfl) ?_
          refine J.nil ?_
          refine J.tN ?_
          refine J.ret ?_
          obtain rfl := B.e h0
          exact J.ret1 rfl rfl fun w H => ⟨(), rfl, H.pick [] (by decide)⟩
      · replace h0 := B.f hB12 h0
        refine J.opOff rfl rfl rfl rfl rfl rfl ?_
        refine J.opOff rfl rfl rfl rfl rfl rfl ?_
        refine J.op rfl rfl rfl (V.pkF rfl rfl rfl) ?_
        refine J.op rfl rfl rfl (V.mv rfl rfl) ?_
        refine J.opOff rfl rfl rfl rfl rfl rfl ?_
        refine J.opOff rfl rfl rfl rfl rfl rfl ?_
        refine J.opOff rfl rfl rfl rfl rfl rfl ?_
        refine J.op rfl rfl rfl (V.pkF rfl rfl rfl) ?_
        refine J.op rfl rfl rfl (V.as rfl rfl) ?_
        refine J.nil ?_
        refine J.tN ?_
        refine J.ret ?_
        obtain rfl := B.e h0
        exact J.ret1 rfl rfl fun w H => ⟨(), rfl, H.pick [] (by decide)⟩
    · replace h0 := B.f hB8 h0
      refine J.opOff rfl rfl rfl rfl rfl rfl ?_
      refine J.opOff rfl rfl rfl rfl rfl rfl ?_
      refine J.op rfl rfl rfl (V.pkF rfl rfl rfl) ?_
      refine J.op rfl rfl rfl (V.mv rfl rfl) ?_
      refine J.opOff rfl rfl rfl rfl rfl rfl ?_
      refine J.opOff rfl rfl rfl rfl rfl rfl ?_
      refine J.op rfl rfl rfl (V.pkF rfl rfl rfl) ?_
      refine J.op rfl rfl rfl (V.mv rfl rfl) ?_
      refine J.opOff rfl rfl rfl rfl rfl rfl ?_
      refine J.opOff rfl rfl rfl rfl rfl rfl ?_
      refine J.opOff rfl rfl rfl rfl rfl rfl ?_
      refine J.op rfl rfl rfl (V.pkF rfl rfl rfl) ?_
      refine J.op rfl rfl rfl (V.as rfl rfl) ?_
      refine J.nil ?_
      refine J.tN ?_
      refine J.ret ?_
      obtain rfl := B.e h0
      exact J.ret1 rfl rfl fun w H => ⟨(), rfl, H.pick [] (by decide)⟩
  · replace h0 := B.f hB4 h0
    refine J.opOff rfl rfl rfl rfl rfl rfl ?_
    refine J.opOff rfl rfl rfl rfl rfl rfl ?_
    refine J.op rfl rfl rfl (V.pkF rfl rfl rfl) ?_
    refine J.op rfl rfl rfl (V.mv rfl rfl) ?_
    refine J.opOff rfl rfl rfl rfl rfl rfl ?_
    refine J.opOff rfl rfl rfl rfl rfl rfl ?_
    refine J.op rfl rfl rfl (V.pkF rfl rfl rfl) ?_
    refine J.op rfl rfl rfl (V.mv rfl rfl) ?_
    refine J.opOff rfl rfl rfl rfl rfl rfl ?_
    refine J.opOff rfl rfl rfl rfl rfl rfl ?_
    refine J.op rfl rfl rfl (V.pkF rfl rfl rfl) ?_
    refine J.op rfl rfl rfl (V.mv rfl rfl) ?_
    refine J.opOff rfl rfl rfl rfl rfl rfl ?_
    refine J.opOff rfl rfl rfl rfl rfl rfl ?_
    refine J.opOff rfl rfl rfl rfl rfl rfl ?_
    refine J.op rfl rfl rfl (V.pkF rfl rfl rfl) ?_
    refine J.op rfl rfl rfl (V.as rfl rfl) ?_
    refine J.nil ?_
    refine J.tN ?_
    refine J.ret ?_
    obtain rfl := B.e h0
    exact J.ret1 rfl rfl fun w H => ⟨(), rfl, H.pick [] (by decide)⟩

/-! ### impl.isPlace: function 63 -/
noncomputable def impl_isPlace.f (p0_x : Int) : Option (Bool) := (impl_within.f p0_x (-200) 200).bind fun r1 => some r1
set_option maxRecDepth 100000 in
theorem impl_isPlace.calls (p0_x : Int) (r : Bool) (w : World) (H0 : Own [] w w []) (h0 : impl_isPlace.f p0_x = some r) :
    Calls Try.prog 63 #[.int .i64 p0_x] w (fun e w' => ∃ _ : Unit, e = .returned (.bool r) ∧ Own [] w w' []) := by
  unfold impl_isPlace.f at h0
  replace h0 := B.top h0
  refine calls_of_J (args := [.int .i64 p0_x]) Try.func63 rfl Try.ntmps63 rfl [(0, .int .i64 p0_x)] rfl H0 ?_
  refine J.seq ?_
  refine J.region ?_
  refine J.op rfl rfl rfl (V.as rfl rfl) ?_
  refine J.nil ?_
  refine J.tN ?_
  refine J.seq ?_
  refine J.region ?_
  refine J.op rfl rfl rfl (V.mv rfl rfl) ?_
  obtain ⟨r1, hr2, h0⟩ := B.bind h0
  refine J.clA (l := [.tmp 3, .const (.int .i64 (-200)), .const (.int .i64 200)]) [] [] cf71 (wN rfl) rfl rfl rfl rfl rfl rfl (fun w H => impl_within.calls p0_x (-200) 200 r1 w (Own.refl w)  hr2) fun g3 => ?_
  refine J.op rfl rfl rfl (V.as rfl rfl) ?_
  refine J.nil ?_
  refine J.tN ?_
  refine J.ret ?_
  obtain rfl := B.e h0
  exact J.ret1 rfl rfl fun w H => ⟨(), rfl, H.pick [] (by decide)⟩

/-! ### impl.isPoint: function 87 -/
noncomputable def impl_isPoint.f (p0_p : impl_Point) : Option (Bool) := (impl_isPlace.f (IntKind.wrap .i64 p0_p.X)).bind fun r3 => bif r3 then ((impl_isDensity.f (IntKind.wrap .i64 p0_p.Y)).bind fun r7 => some r7) else (some false)
set_option maxRecDepth 100000 in
theorem impl_isPoint.calls (p0_p : impl_Point) (r : Bool) (w : World) (H0 : Own [] w w []) (h0 : impl_isPoint.f p0_p = some r) :
    Calls Try.prog 87 #[.agg #[.int .i16 p0_p.X, .int .i16 p0_p.Y]] w (fun e w' => ∃ _ : Unit, e = .returned (.bool r) ∧ Own [] w w' []) := by
  unfold impl_isPoint.f at h0
  replace h0 := B.top h0
  refine calls_of_J (args := [.agg #[.int .i16 p0_p.X, .int .i16 p0_p.Y]]) Try.func87 rfl Try.ntmps87 rfl [(0, .agg #[.int .i16 p0_p.X, .int .i16 p0_p.Y])] rfl H0 ?_
  refine J.seq ?_
  refine J.region ?_
  refine J.box rfl rfl rfl rfl rfl (fun _ _ => rfl) fun b1 => ?_
  refine J.op rfl rfl rfl (V.as rfl rfl) ?_
  refine J.nil ?_
  refine J.tN ?_
  refine J.seq ?_
  refine J.region ?_
  refine J.op rfl rfl rfl (V.faB rfl rfl tf0_78) ?_
  refine J.op rfl rfl rfl (V.ldB 0 rfl rfl rfl Try.underlying76 ta76 rfl) ?_
  refine J.op rfl rfl rfl (V.conv rfl rfl Try.underlying76 Try.underlying2) ?_
  obtain ⟨r3, hr4, h0⟩ := B.bind h0
  refine J.clA (l := [.tmp 5]) [] [.blk b1 [.int .i16 p0_p.X, .int .i16 p0_p.Y] 78] cf63 (wN rfl) rfl rfl rfl rfl rfl rfl (fun w H => impl_isPlace.calls (IntKind.wrap .i64 p0_p.X) r3 w (Own.refl w)  hr4) fun g5 => ?_
  refine J.op rfl rfl rfl (V.mv rfl rfl) ?_
  refine J.split 7 rfl (fun hB6 => ?_) (fun hB6 => ?_)
  · replace h0 := B.t hB6 h0
    refine J.opOn rfl rfl rfl rfl rfl (V.faB rfl rfl tf1_78) ?_
    refine J.opOn rfl rfl rfl rfl rfl (V.ldB 0 rfl rfl rfl Try.underlying76 ta76 rfl) ?_
    refine J.opOn rfl rfl rfl rfl rfl (V.conv rfl rfl Try.underlying76 Try.underlying2) ?_
    obtain ⟨r7, hr8, h0⟩ := B.bind h0
    refine J.clA (l := [.tmp 10]) [] [.blk b1 [.int .i16 p0_p.X, .int .i16 p0_p.Y] 78] cf64 (wY rfl rfl rfl) rfl rfl rfl rfl rfl rfl (fun w H => impl_isDensity.calls (IntKind.wrap .i64 p0_p.Y) r7 w (Own.refl w)  hr8) fun g9 => ?_
    refine J.op rfl rfl rfl (V.pkT rfl rfl rfl) ?_
    refine J.op rfl rfl rfl (V.as rfl rfl) ?_
    refine J.nil ?_
    refine J.tN ?_
    refine J.ret ?_
    obtain rfl := B.e h0
    exact J.ret1 rfl rfl fun w H => ⟨(), rfl, H.pick [] (by decide)⟩
  · replace h0 := B.f hB6 h0
    refine J.opOff rfl rfl rfl rfl rfl rfl ?_
    refine J.opOff rfl rfl rfl rfl rfl rfl ?_
    refine J.opOff rfl rfl rfl rfl rfl rfl ?_
    refine J.opOff rfl rfl rfl rfl rfl rfl ?_
    refine J.op rfl rfl rfl (V.pkF rfl rfl rfl) ?_
    refine J.op rfl rfl rfl (V.as rfl rfl) ?_
    refine J.nil ?_
    refine J.tN ?_
    refine J.ret ?_
    obtain rfl := B.e h0
    exact J.ret1 rfl rfl fun w H => ⟨(), rfl, H.pick [] (by decide)⟩

/-! ### impl.isCurve: function 81 -/
noncomputable def impl_isCurve.b1 (p0_c : (List impl_Point)) : Int → Option (Step (Int) (Sum (Unit) (Bool))) := fun s1 => bif (decide (s1 < (p0_c.length : Int))) then (bif (inB s1 p0_c.length) then (((impl_isPoint.f (⟨(rd enc_impl_Point p0_c s1).X, (rd enc_impl_Point p0_c s1).Y⟩ : impl_Point)).bind fun r10 => bif (!r10) then (some true) else (bif (decide (0 < s1)) then (bif (inB (IntKind.wrap .i64 (s1 - 1)) p0_c.length) then (bif (decide (((rd enc_impl_Point p0_c s1).X) ≤ ((rd enc_impl_Point p0_c (IntKind.wrap .i64 (s1 - 1))).X))) then (some true) else (bif (inB (IntKind.wrap .i64 (s1 - 1)) p0_c.length) then (some (decide (((rd enc_impl_Point p0_c s1).Y) < ((rd enc_impl_Point p0_c (IntKind.wrap .i64 (s1 - 1))).Y)))) else none)) else none) else (some false)) : Option (Bool)).bind fun y8 => bif y8 then (some (.done (.inr false))) else (some (.next (IntKind.wrap .i64 (s1 + 1))))) else none) else (some (.done (.inl ())))
noncomputable def impl_isCurve.f (p0_c : (List impl_Point)) : Option (Bool) := (loopW (impl_isCurve.b1 p0_c) 0).bind (Sum.elim (fun y21 => (some (decide (0 < (p0_c.length : Int)))).bind fun t24 => some t24) (fun r => some r))
set_option maxRecDepth 100000 in
theorem impl_isCurve.calls (v0 : Value) (p0_c : (List impl_Point)) (r : Bool) (w : World) (H0 : Own [] w w []) (hS0 : SlE [] w v0 78 enc_impl_Point p0_c) (h0 : impl_isCurve.f p0_c = some r) :
    Calls Try.prog 81 #[v0] w (fun e w' => ∃ _ : Unit, e = .returned (.bool r) ∧ Own [] w w' []) := by
  unfold impl_isCurve.f at h0
  replace h0 := B.top h0
  refine calls_of_J (args := [v0]) Try.func81 rfl Try.ntmps81 rfl [(0, v0)] rfl H0 ?_
  refine J.seq ?_
  refine J.region ?_
  refine J.op rfl rfl rfl (V.as rfl rfl) ?_
  refine J.nil ?_
  refine J.tN ?_
  refine J.seq ?_
  refine J.seq ?_
  refine J.region ?_
  refine J.op rfl rfl rfl (V.mv rfl rfl) ?_
  refine J.op rfl rfl rfl (V.lenS hS0 rfl rfl tl40) ?_
  refine J.op rfl rfl rfl (V.mv rfl rfl) ?_
  refine J.nil ?_
  refine J.tN ?_
  obtain ⟨o23, hy22, h0⟩ := B.bind h0
  refine J.cutQ (γ := (Unit) × (Unit)) (fun gy21 => o23 = .inl gy21.1) (fun gy21 => [(0, v0)]) (fun gy21 => []) ?_ ?_
  · refine J.block ?_
    refine J.loop (γ := Unit) hy22 (fun s1 g2 => [(0, v0), (5, v0), (6, .int .i64 (p0_c.length : Int)), (7, .int .i64 s1)]) (fun s1 g2 => []) () ?_ ?_
    · exact J.keep _ rfl (J.pickE [] rfl rfl J.here)
    · intro rec3 s1 g2 h1
      unfold impl_isCurve.b1 at h1
      refine J.seq ?_
      refine J.region ?_
      refine J.op rfl rfl rfl (V.cmp rfl rfl rfl rfl) ?_
      refine J.nil ?_
      refine J.tN ?_
      refine J.seq ?_
      refine J.cond rfl (fun hB4 => ?_) (fun hB4 => ?_)
      · replace h1 := B.t hB4 h1
        refine J.skip ?_
        refine J.tN ?_
        refine J.seq ?_
        refine J.block ?_
        refine J.seq ?_
        refine J.region ?_
        refine J.op rfl rfl rfl (V.mv rfl rfl) ?_
        obtain ⟨hC5, h1⟩ := B.chk h1
        refine J.op rfl rfl rfl (V.ixS hS0 rfl rfl rfl tl40 ts78 hC5) ?_
        refine J.op rfl rfl rfl (V.elSA hS0 hC5 rfl rfl ts78 ta78) ?_
        refine J.alloc rfl rfl rfl rfl tz78 rfl fun b6 => ?_
        refine J.op rfl rfl rfl (V.as rfl rfl) ?_
        refine J.stW (cs' := [.int .i16 ((rd enc_impl_Point p0_c s1).X), .int .i16 ((rd enc_impl_Point p0_c s1).Y)]) 0 rfl rfl rfl rfl rfl rfl ts78 rfl (fun _ H => (one_cons rfl (one_cons rfl one_nil))) rfl rfl ?_
        refine J.nil ?_
        refine J.tN ?_
        refine J.seq ?_
        obtain ⟨y8, hy18, h1⟩ := B.bind h1
        replace hy18 := B.top hy18
        refine J.cut (γ := Unit) (fun _ => True) (fun gy9 => [(0, v0), (5, v0), (6, .int .i64 (p0_c.length : Int)), (7, .int .i64 s1), (40, .bool y8)]) (fun gy9 => [.blk b6 [.int .i16 ((rd enc_impl_Point p0_c s1).X), .int .i16 ((rd enc_impl_Point p0_c s1).Y)] 78]) ?_ ?_
        · have h2 := hy18
          refine J.quiet mixed (by kernel_rfl) ?_
          refine JQ.op rfl rfl rfl (V.ldW 0 rfl rfl rfl ts78 ta78 rfl) ?_
          obtain ⟨r10, hr11, h2⟩ := B.bind h2
          refine JQ.clA (l := [.tmp 12]) cf87 (wN rfl) rfl rfl rfl rfl rfl (fun w H => impl_isPoint.calls (⟨(rd enc_impl_Point p0_c s1).X, (rd enc_impl_Point p0_c s1).Y⟩ : impl_Point) r10 w (Own.refl w)  hr11) ?_
          refine JQ.op rfl rfl rfl (V.nt rfl rfl) ?_
          refine JQ.op rfl rfl rfl (V.mv rfl rfl) ?_
          refine JQ.split 15 rfl (fun hB13 => ?_) (fun hB13 => ?_)
          · replace h2 := B.t hB13 h2
            refine JQ.opOff rfl rfl rfl rfl rfl rfl ?_
            refine JQ.opOff rfl rfl rfl rfl rfl rfl ?_
            refine JQ.opOff rfl rfl rfl rfl rfl rfl ?_
            refine JQ.opOffU rfl rfl rfl rfl rfl ?_
            refine JQ.opOffU rfl rfl rfl rfl rfl ?_
            refine JQ.opOffU rfl rfl rfl rfl rfl ?_
            refine JQ.opOffU rfl rfl rfl rfl rfl ?_
            refine JQ.opOffU rfl rfl rfl rfl rfl ?_
            refine JQ.opOffU rfl rfl rfl rfl rfl ?_
            refine JQ.opOffU rfl rfl rfl rfl rfl ?_
            refine JQ.opOffU rfl rfl rfl rfl rfl ?_
            refine JQ.opOffU rfl rfl rfl rfl rfl ?_
            refine JQ.opOffU rfl rfl rfl rfl rfl ?_
            refine JQ.opOffU rfl rfl rfl rfl rfl ?_
            refine JQ.opOffU rfl rfl rfl rfl rfl ?_
            refine JQ.opOffU rfl rfl rfl rfl rfl ?_
            refine JQ.opOffU rfl rfl rfl rfl rfl ?_
            refine JQ.opOffU rfl rfl rfl rfl rfl ?_
            refine JQ.opOffU rfl rfl rfl rfl rfl ?_
            refine JQ.opOffU rfl rfl rfl rfl rfl ?_
            refine JQ.opOffU rfl rfl rfl rfl rfl ?_
            refine JQ.opOffU rfl rfl rfl rfl rfl ?_
            refine JQ.opOffU rfl rfl rfl rfl rfl ?_
            refine JQ.opOff rfl rfl rfl rfl rfl rfl ?_
            refine JQ.op rfl rfl rfl (V.pkT rfl rfl rfl) ?_
            refine JQ.nil ?_
            obtain rfl := B.e h2
            refine J.tN (J.to () trivial ?_)
            exact J.keep _ rfl (J.pickE [0] rfl rfl J.here)
          · replace h2 := B.f hB13 h2
            refine JQ.opOn rfl rfl rfl rfl rfl (V.mv rfl rfl) ?_
            refine JQ.opOn rfl rfl rfl rfl rfl (V.cmp rfl rfl rfl rfl) ?_
            refine JQ.opOn rfl rfl rfl rfl rfl (V.mv rfl rfl) ?_
            refine JQ.split 18 rfl (fun hB14 => ?_) (fun hB14 => ?_)
            · replace h2 := B.t hB14 h2
              refine JQ.opOn rfl rfl rfl rfl rfl (V.mv rfl rfl) ?_
              refine JQ.opOn rfl rfl rfl rfl rfl (V.mv rfl rfl) ?_
              refine JQ.opOn rfl rfl rfl rfl rfl (V.ar rfl rfl rfl rfl) ?_
              obtain ⟨hC15, h2⟩ := B.chk h2
              refine JQ.opOn rfl rfl rfl rfl rfl (V.ixS hS0 rfl rfl rfl tl40 ts78 hC15) ?_
              refine JQ.opOn rfl rfl rfl rfl rfl (V.faS hS0 (lt_of_in hC15) rfl rfl tf0_78) ?_
              refine JQ.opOn rfl rfl rfl rfl rfl (V.elS hS0 hC15 rfl rfl Try.underlying76 ta76 rfl) ?_
              refine JQ.opOn rfl rfl rfl rfl rfl (V.faB rfl rfl tf0_78) ?_
              refine JQ.opOn rfl rfl rfl rfl rfl (V.ldB 0 rfl rfl rfl Try.underlying76 ta76 rfl) ?_
              refine JQ.opOn rfl rfl rfl rfl rfl (V.cmp rfl rfl rfl rfl) ?_
              refine JQ.opOn rfl rfl rfl rfl rfl (V.mv rfl rfl) ?_
              refine JQ.split 28 rfl (fun hB16 => ?_) (fun hB16 => ?_)
              · replace h2 := B.t hB16 h2
                refine JQ.opOff rfl rfl rfl rfl rfl rfl ?_
                refine JQ.opOff rfl rfl rfl rfl rfl rfl ?_
                refine JQ.opOff rfl rfl rfl rfl rfl rfl ?_
                refine JQ.opOff rfl rfl rfl rfl rfl rfl ?_
                refine JQ.opOff rfl rfl rfl rfl rfl rfl ?_
                refine JQ.opOff rfl rfl rfl rfl rfl rfl ?_
                refine JQ.opOff rfl rfl rfl rfl rfl rfl ?_
                refine JQ.opOff rfl rfl rfl rfl rfl rfl ?_
                refine JQ.opOff rfl rfl rfl rfl rfl rfl ?_
                refine JQ.opOn rfl rfl rfl rfl rfl (V.pkT rfl rfl rfl) ?_
                refine JQ.opOn rfl rfl rfl rfl rfl (V.pkT rfl rfl rfl) ?_
                refine JQ.op rfl rfl rfl (V.pkF rfl rfl rfl) ?_
                refine JQ.nil ?_
                obtain rfl := B.e h2
                refine J.tN (J.to () trivial ?_)
                exact J.keep _ rfl (J.pickE [0] rfl rfl J.here)
              · replace h2 := B.f hB16 h2
                refine JQ.opOn rfl rfl rfl rfl rfl (V.mv rfl rfl) ?_
                refine JQ.opOn rfl rfl rfl rfl rfl (V.mv rfl rfl) ?_
                refine JQ.opOn rfl rfl rfl rfl rfl (V.ar rfl rfl rfl rfl) ?_
                obtain ⟨hC17, h2⟩ := B.chk h2
                refine JQ.opOn rfl rfl rfl rfl rfl (V.ixS hS0 rfl rfl rfl tl40 ts78 hC17) ?_
                refine JQ.opOn rfl rfl rfl rfl rfl (V.faS hS0 (lt_of_in hC17) rfl rfl tf1_78) ?_
                refine JQ.opOn rfl rfl rfl rfl rfl (V.elS hS0 hC17 rfl rfl Try.underlying76 ta76 rfl) ?_
                refine JQ.opOn rfl rfl rfl rfl rfl (V.faB rfl rfl tf1_78) ?_
                refine JQ.opOn rfl rfl rfl rfl rfl (V.ldB 0 rfl rfl rfl Try.underlying76 ta76 rfl) ?_
                refine JQ.opOn rfl rfl rfl rfl rfl (V.cmp rfl rfl rfl rfl) ?_
                refine JQ.opOn rfl rfl rfl rfl rfl (V.pkF rfl rfl rfl) ?_
                refine JQ.opOn rfl rfl rfl rfl rfl (V.pkT rfl rfl rfl) ?_
                refine JQ.op rfl rfl rfl (V.pkF rfl rfl rfl) ?_
                refine JQ.nil ?_
                obtain rfl := B.e h2
                refine J.tN (J.to () trivial ?_)
                exact J.keep _ rfl (J.pickE [0] rfl rfl J.here)
            · replace h2 := B.f hB14 h2
              refine JQ.opOff rfl rfl rfl rfl rfl rfl ?_
              refine JQ.opOff rfl rfl rfl rfl rfl rfl ?_
              refine JQ.opOff rfl rfl rfl rfl rfl rfl ?_
              refine JQ.opOff rfl rfl rfl rfl rfl rfl ?_
              refine JQ.opOff rfl rfl rfl rfl rfl rfl ?_
              refine JQ.opOff rfl rfl rfl rfl rfl rfl ?_
              refine JQ.opOff rfl rfl rfl rfl rfl rfl ?_
              refine JQ.opOff rfl rfl rfl rfl rfl rfl ?_
              refine JQ.opOff rfl rfl rfl rfl rfl rfl ?_
              refine JQ.opOff rfl rfl rfl rfl rfl rfl ?_
              refine JQ.opOffU rfl rfl rfl rfl rfl ?_
              refine JQ.opOffU rfl rfl rfl rfl rfl ?_
              refine JQ.opOffU rfl rfl rfl rfl rfl ?_
              refine JQ.opOffU rfl rfl rfl rfl rfl ?_
              refine JQ.opOffU rfl rfl rfl rfl rfl ?_
              refine JQ.opOffU rfl rfl rfl rfl rfl ?_
              refine JQ.opOffU rfl rfl rfl rfl rfl ?_
              refine JQ.opOffU rfl rfl rfl rfl rfl ?_
              refine JQ.opOffU rfl rfl rfl rfl rfl ?_
              refine JQ.opOff rfl rfl rfl rfl rfl rfl ?_
              refine JQ.opOn rfl rfl rfl rfl rfl (V.pkF rfl rfl rfl) ?_
              refine JQ.op rfl rfl rfl (V.pkF rfl rfl rfl) ?_
              refine JQ.nil ?_
              obtain rfl := B.e h2
              refine J.tN (J.to () trivial ?_)
              exact J.keep _ rfl (J.pickE [0] rfl rfl J.here)
        · intro gy9 _
          refine J.cond rfl (fun hB19 => ?_) (fun hB19 => ?_)
          · replace h1 := B.t hB19 h1
            refine J.seq ?_
            refine J.region ?_
            refine J.op rfl rfl rfl (V.as rfl rfl) ?_
            refine J.nil ?_
            refine J.tN ?_
            refine J.ret ?_
            refine J.bR ?_
            refine J.tR ?_
            refine J.tR ?_
            refine J.bR ?_
            refine J.tR ?_
            refine J.tR ?_
            obtain rfl := B.d h1
            replace h0 := B.inr h0
            obtain rfl := B.e h0
            exact J.ret1 rfl rfl fun w H => ⟨(), rfl, H.pick [] (by decide)⟩
          · replace h1 := B.f hB19 h1
            refine J.skip ?_
            refine J.bN ?_
            refine J.tN ?_
            refine J.region ?_
            refine J.op rfl rfl rfl (V.ar rfl rfl rfl rfl) ?_
            refine J.op rfl rfl rfl (V.mv rfl rfl) ?_
            refine J.nil ?_
            refine J.tN (J.next (IntKind.wrap .i64 (s1 + 1)) () (B.n h1) ?_)
            exact J.keep _ rfl (J.pickE [] rfl rfl J.here)
      · replace h1 := B.f hB4 h1
        refine J.exit ?_
        refine J.tE ?_
        refine J.tE ?_
        refine J.bE ?_
        obtain rfl := B.d h1
        refine J.tN (J.to ((), ()) rfl ?_)
        exact J.keep _ rfl (J.pickE [] rfl rfl J.here)
  · intro gy21 hG
    replace h0 := B.inl hG h0
    refine J.tN ?_
    refine J.seq ?_
    refine J.region ?_
    refine J.op rfl rfl rfl (V.mv rfl rfl) ?_
    refine J.op rfl rfl rfl (V.lenS hS0 rfl rfl tl40) ?_
    refine J.op rfl rfl rfl (V.cmp rfl rfl rfl rfl) ?_
    refine J.op rfl rfl rfl (V.as rfl rfl) ?_
    obtain ⟨t24, et24, h0⟩ := B.lt h0
    refine J.val (congrArg (Value.bool) et24) ?_
    refine J.nil ?_
    refine J.tN ?_
    refine J.ret ?_
    obtain rfl := B.e h0
    exact J.ret1 rfl rfl fun w H => ⟨(), rfl, H.pick [] (by decide)⟩

end Go.Proofs.Ytofhnioboihbgaa
