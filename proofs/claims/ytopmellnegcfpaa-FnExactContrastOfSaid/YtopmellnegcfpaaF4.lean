/- Go functions as Lean functions, and that each call of theirs comes to just that: by a program written for this work (walk.py). No condition. -/
import Derived.Test.YtopmellnegcfpaaF3
namespace Go.Proofs.Ytopmellnegcfpaa
open Go Go.RowKit G
set_option linter.unusedVariables false

/-! ### slices.Sort[[]int8,int8]: function 32 -/
noncomputable def slices_Sort_int8_int8.f (n0_ : Nat) (p0_x : Vector Int n0_) : Option ((Vector Int n0_)) := (some (n0_ : Int)).bind fun n_1 => (math_bits_Len.f (IntKind.wrap .u64 n_1)).bind fun r2 => (slices_pdqsortOrdered_int8.f n0_ p0_x 0 n_1 r2).bind fun r5 => some r5
set_option maxRecDepth 100000 in
theorem slices_Sort_int8_int8.calls (b0_ n0_ T0_ : Nat) (p0_x : Vector Int n0_) (r : (Vector Int n0_)) (w : World) (H0 : Own [b0_] w w [.blk b0_ (encA .i8 p0_x) T0_]) (h0 : slices_Sort_int8_int8.f n0_ p0_x = some r) :
    Calls Try.prog 32 #[.slice (some ⟨b0_, 0, none⟩) n0_ n0_] w (fun e w' => ∃ _ : Unit, e = .returned (.tuple #[]) ∧ Own [b0_] w w' [.blk b0_ (encA .i8 r) T0_]) := by
  unfold slices_Sort_int8_int8.f at h0
  replace h0 := B.top h0
  refine calls_of_J (args := [.slice (some ⟨b0_, 0, none⟩) n0_ n0_]) Try.func32 rfl Try.ntmps32 rfl [(0, .slice (some ⟨b0_, 0, none⟩) n0_ n0_)] rfl H0 ?_
  refine J.seq ?_
  refine J.region ?_
  refine J.op rfl rfl rfl (V.mv rfl rfl) ?_
  refine J.op rfl rfl rfl (V.lenM rfl rfl tl66) ?_
  refine J.op rfl rfl rfl (V.as rfl rfl) ?_
  obtain ⟨n_1, en_1, h0⟩ := B.lt h0
  refine J.val (congrArg (Value.int .i64) en_1) ?_
  refine J.nil ?_
  refine J.tN ?_
  refine J.region ?_
  refine J.op rfl rfl rfl (V.mv rfl rfl) ?_
  refine J.op rfl rfl rfl (V.mv rfl rfl) ?_
  refine J.op rfl rfl rfl (V.mv rfl rfl) ?_
  refine J.op rfl rfl rfl (V.conv rfl rfl Try.underlying3 Try.underlying48) ?_
  obtain ⟨r2, hr3, h0⟩ := B.bind h0
  refine J.cl (l := [.tmp 8]) [] [.blk b0_ (encA .i8 p0_x) T0_] cf59 (wN rfl) rfl rfl rfl rfl rfl rfl (by simp) (fun w H => math_bits_Len.calls (IntKind.wrap .u64 n_1) r2 w (Own.refl w)  hr3) fun g4 => ?_
  obtain ⟨r5, hr6, h0⟩ := B.bind h0
  refine J.cl (l := [.tmp 5, .const (.int .i64 0), .tmp 6, .tmp 9]) [.blk b0_ (encA .i8 p0_x) T0_] [] cf58 (wN rfl) rfl rfl rfl rfl rfl rfl hM1 (fun w H => slices_pdqsortOrdered_int8.calls b0_ n0_ T0_ p0_x 0 n_1 r2 r5 w H.enter1  hr6) fun g7 => ?_
  refine J.nil ?_
  refine J.fin ?_
  obtain rfl := B.e h0
  exact J.ret0 rfl fun w H => ⟨(), rfl, H.pick [0] (by decide)⟩

/-! ### impl.MedianReading: function 8 -/
noncomputable def impl_MedianReading.f (p0_s : (Vector Int 24)) : Option (Int × Int) := (impl_ValidScene.f p0_s).bind fun r3 => bif (!r3) then (some (0, 1)) else ((slices_Sort_int8_int8.f 24 p0_s).bind fun r7 => (some (IntKind.wrap .i64 (rdA r7 11))).bind fun t10 => some (t10, 0))
set_option maxRecDepth 100000 in
theorem impl_MedianReading.calls (p0_s : (Vector Int 24)) (r : Int × Int) (w : World) (H0 : Own [] w w []) (h0 : impl_MedianReading.f p0_s = some r) :
    Calls Try.prog 8 #[.agg (encA .i8 p0_s).toArray] w (fun e w' => ∃ _ : Unit, e = .returned (.tuple #[.int .i64 r.1, .int .i64 r.2]) ∧ Own [] w w' []) := by
  unfold impl_MedianReading.f at h0
  replace h0 := B.top h0
  refine calls_of_J (args := [.agg (encA .i8 p0_s).toArray]) Try.func8 rfl Try.ntmps8 rfl [(0, .agg (encA .i8 p0_s).toArray)] rfl H0 ?_
  refine J.seq ?_
  refine J.region ?_
  refine J.box rfl rfl rfl rfl rfl (fun _ _ => rfl) fun b1 => ?_
  refine J.op rfl rfl rfl (V.as rfl rfl) ?_
  refine J.op rfl rfl rfl (V.as rfl rfl) ?_
  refine J.nil ?_
  refine J.tN ?_
  refine J.seq ?_
  refine J.seq ?_
  refine J.region ?_
  refine J.op rfl rfl rfl (V.ldW 0 rfl rfl rfl ts26 ta26 (encA_len _ _)) ?_
  obtain ⟨r3, hr4, h0⟩ := B.bind h0
  refine J.cl (l := [.tmp 4]) [] [.blk b1 (encA .i8 p0_s) 26] cf31 (wN rfl) rfl rfl rfl rfl rfl rfl (by simp) (fun w H => impl_ValidScene.calls p0_s r3 w (Own.refl w)  hr4) fun g5 => ?_
  refine J.op rfl rfl rfl (V.nt rfl rfl) ?_
  refine J.nil ?_
  refine J.tN ?_
  refine J.cond rfl (fun hB6 => ?_) (fun hB6 => ?_)
  · replace h0 := B.t hB6 h0
    refine J.seq ?_
    refine J.region ?_
    refine J.op rfl rfl rfl (V.as rfl rfl) ?_
    refine J.op rfl rfl rfl (V.as rfl rfl) ?_
    refine J.nil ?_
    refine J.tN ?_
    refine J.ret ?_
    refine J.tR ?_
    obtain rfl := B.e h0
    exact J.ret2 rfl rfl rfl fun w H => ⟨(), rfl, H.pick [] (by decide)⟩
  · replace h0 := B.f hB6 h0
    refine J.skip ?_
    refine J.tN ?_
    refine J.seq ?_
    refine J.region ?_
    refine J.op rfl rfl rfl (V.arr rfl rfl tr26 ts22) ?_
    obtain ⟨r7, hr8, h0⟩ := B.bind h0
    refine J.cl (l := [.tmp 7]) [.blk b1 (encA .i8 p0_s) 26] [] cf32 (wN rfl) rfl rfl rfl rfl rfl rfl hM1 (fun w H => slices_Sort_int8_int8.calls b1 24 26 p0_s r7 w H.enter1  hr8) fun g9 => ?_
    refine J.nil ?_
    refine J.tN ?_
    refine J.seq ?_
    refine J.region ?_
    refine J.op rfl rfl rfl (V.ixB rfl rfl rfl tr26 ts22 rfl) ?_
    refine J.op rfl rfl rfl (V.ldB 0 rfl rfl rfl Try.underlying22 ta22 (encA_get0 .i8 _ rfl)) ?_
    refine J.op rfl rfl rfl (V.conv rfl rfl Try.underlying22 Try.underlying2) ?_
    refine J.op rfl rfl rfl (V.as rfl rfl) ?_
    obtain ⟨t10, et10, h0⟩ := B.lt h0
    refine J.val (congrArg (Value.int .i64) et10) ?_
    refine J.op rfl rfl rfl (V.as rfl rfl) ?_
    refine J.nil ?_
    refine J.tN ?_
    refine J.ret ?_
    obtain rfl := B.e h0
    exact J.ret2 rfl rfl rfl fun w H => ⟨(), rfl, H.pick [] (by decide)⟩

/-! ### laws.FnExactMedianReading: function 3 -/
noncomputable def laws_FnExactMedianReading.f (p0_aS : (Vector Int 24)) : Option (Bool) := (laws_toScene.f p0_aS).bind fun r3 => (spec_MedianReading.f r3).bind fun r6 => (laws_toScene.f p0_aS).bind fun r9 => (impl_MedianReading.f r9).bind fun r12 => (bif (r12.1 != r6.1) then (some true) else (some (r12.2 != r6.2)) : Option (Bool)).bind fun y15 => bif y15 then (some false) else (some true)
set_option maxRecDepth 100000 in
theorem laws_FnExactMedianReading.calls (p0_aS : (Vector Int 24)) (r : Bool) (w : World) (H0 : Own [] w w []) (h0 : laws_FnExactMedianReading.f p0_aS = some r) :
    Calls Try.prog 3 #[.agg (encA .i8 p0_aS).toArray] w (fun e w' => ∃ _ : Unit, e = .returned (.bool r) ∧ Own [] w w' []) := by
  unfold laws_FnExactMedianReading.f at h0
  replace h0 := B.top h0
  refine calls_of_J (args := [.agg (encA .i8 p0_aS).toArray]) Try.func3 rfl Try.ntmps3 rfl [(0, .agg (encA .i8 p0_aS).toArray)] rfl H0 ?_
  refine J.seq ?_
  refine J.region ?_
  refine J.box rfl rfl rfl rfl rfl (fun _ _ => rfl) fun b1 => ?_
  refine J.op rfl rfl rfl (V.as rfl rfl) ?_
  refine J.nil ?_
  refine J.tN ?_
  refine J.seq ?_
  refine J.region ?_
  refine J.op rfl rfl rfl (V.ldW 0 rfl rfl rfl ts23 ta23 (encA_len _ _)) ?_
  obtain ⟨r3, hr4, h0⟩ := B.bind h0
  refine J.cl (l := [.tmp 8]) [] [.blk b1 (encA .i8 p0_aS) 23] cf7 (wN rfl) rfl rfl rfl rfl rfl rfl (by simp) (fun w H => laws_toScene.calls p0_aS r3 w (Own.refl w)  hr4) fun g5 => ?_
  obtain ⟨r6, hr7, h0⟩ := B.bind h0
  refine J.cl (l := [.tmp 9]) [] [.blk b1 (encA .i8 p0_aS) 23] cf6 (wN rfl) rfl rfl rfl rfl rfl rfl (by simp) (fun w H => spec_MedianReading.calls r3 r6 w (Own.refl w)  hr7) fun g8 => ?_
  refine J.op rfl rfl rfl (V.mv rfl rfl) ?_
  refine J.op rfl rfl rfl (V.ex rfl rfl rfl) ?_
  refine J.op rfl rfl rfl (V.ex rfl rfl rfl) ?_
  refine J.op rfl rfl rfl (V.as rfl rfl) ?_
  refine J.op rfl rfl rfl (V.as rfl rfl) ?_
  refine J.nil ?_
  refine J.tN ?_
  refine J.seq ?_
  refine J.region ?_
  refine J.op rfl rfl rfl (V.ldW 0 rfl rfl rfl ts23 ta23 (encA_len _ _)) ?_
  obtain ⟨r9, hr10, h0⟩ := B.bind h0
  refine J.cl (l := [.tmp 14]) [] [.blk b1 (encA .i8 p0_aS) 23] cf7 (wN rfl) rfl rfl rfl rfl rfl rfl (by simp) (fun w H => laws_toScene.calls p0_aS r9 w (Own.refl w)  hr10) fun g11 => ?_
  obtain ⟨r12, hr13, h0⟩ := B.bind h0
  refine J.cl (l := [.tmp 15]) [] [.blk b1 (encA .i8 p0_aS) 23] cf8 (wN rfl) rfl rfl rfl rfl rfl rfl (by simp) (fun w H => impl_MedianReading.calls r9 r12 w (Own.refl w)  hr13) fun g14 => ?_
  refine J.op rfl rfl rfl (V.mv rfl rfl) ?_
  refine J.op rfl rfl rfl (V.ex rfl rfl rfl) ?_
  refine J.op rfl rfl rfl (V.ex rfl rfl rfl) ?_
  refine J.op rfl rfl rfl (V.as rfl rfl) ?_
  refine J.op rfl rfl rfl (V.as rfl rfl) ?_
  refine J.nil ?_
  refine J.tN ?_
  refine J.seq ?_
  refine J.seq ?_
  obtain ⟨y15, hy18, h0⟩ := B.bind h0
  replace hy18 := B.top hy18
  refine J.cut (γ := Unit) (fun _ => True) (fun gy16 => [(26, .bool y15)]) (fun gy16 => [.blk b1 (encA .i8 p0_aS) 23]) ?_ ?_
  · have h1 := hy18
    refine J.region ?_
    refine J.op rfl rfl rfl (V.mv rfl rfl) ?_
    refine J.op rfl rfl rfl (V.mv rfl rfl) ?_
    refine J.op rfl rfl rfl (V.cmp rfl rfl rfl rfl) ?_
    refine J.op rfl rfl rfl (V.mv rfl rfl) ?_
    refine J.split 22 rfl (fun hB17 => ?_) (fun hB17 => ?_)
    · replace h1 := B.t hB17 h1
      refine J.opOff rfl rfl rfl rfl rfl rfl ?_
      refine J.opOff rfl rfl rfl rfl rfl rfl ?_
      refine J.opOff rfl rfl rfl rfl rfl rfl ?_
      refine J.op rfl rfl rfl (V.pkT rfl rfl rfl) ?_
      refine J.nil ?_
      obtain rfl := B.e h1
      refine J.tN (J.to () trivial ?_)
      exact J.keep _ rfl (J.pickE [0] rfl rfl J.here)
    · replace h1 := B.f hB17 h1
      refine J.opOn rfl rfl rfl rfl rfl (V.mv rfl rfl) ?_
      refine J.opOn rfl rfl rfl rfl rfl (V.mv rfl rfl) ?_
      refine J.opOn rfl rfl rfl rfl rfl (V.cmp rfl rfl rfl rfl) ?_
      refine J.op rfl rfl rfl (V.pkF rfl rfl rfl) ?_
      refine J.nil ?_
      obtain rfl := B.e h1
      refine J.tN (J.to () trivial ?_)
      exact J.keep _ rfl (J.pickE [0] rfl rfl J.here)
  · intro gy16 _
    refine J.cond rfl (fun hB19 => ?_) (fun hB19 => ?_)
    · replace h0 := B.t hB19 h0
      refine J.seq ?_
      refine J.region ?_
      refine J.op rfl rfl rfl (V.as rfl rfl) ?_
      refine J.nil ?_
      refine J.tN ?_
      refine J.ret ?_
      refine J.tR ?_
      obtain rfl := B.e h0
      exact J.ret1 rfl rfl fun w H => ⟨(), rfl, H.pick [] (by decide)⟩
    · replace h0 := B.f hB19 h0
      refine J.skip ?_
      refine J.tN ?_
      refine J.seq ?_
      refine J.region ?_
      refine J.op rfl rfl rfl (V.as rfl rfl) ?_
      refine J.nil ?_
      refine J.tN ?_
      refine J.ret ?_
      obtain rfl := B.e h0
      exact J.ret1 rfl rfl fun w H => ⟨(), rfl, H.pick [] (by decide)⟩

/-! ### spec.ContrastOf: function 9 -/
noncomputable def spec_ContrastOf.f (p0_s : (Vector Int 24)) (p1_low : Int) (p2_high : Int) : Option (Int × Int) := (spec_l06Ok.f p0_s).bind fun r3 => bif (!r3) then (some (0, 1)) else (((spec_l00In.f p1_low 0 23).bind fun r9 => bif (!r9) then (some true) else ((spec_l00In.f p2_high 0 (IntKind.wrap .i64 (23 - p1_low))).bind fun r13 => some (!r13)) : Option (Bool)).bind fun y7 => bif y7 then (some (0, 2)) else ((spec_l06Sorted.f p0_s).bind fun r18 => bif (inB (IntKind.wrap .i64 (23 - p2_high)) r18.length) then (bif (inB p1_low r18.length) then ((some (IntKind.wrap .i64 ((rd (eI .i64) r18 (IntKind.wrap .i64 (23 - p2_high))) - (rd (eI .i64) r18 p1_low)))).bind fun t24 => some (t24, 0)) else none) else none))
set_option maxRecDepth 100000 in
theorem spec_ContrastOf.calls (p0_s : (Vector Int 24)) (p1_low : Int) (p2_high : Int) (r : Int × Int) (w : World) (H0 : Own [] w w []) (h0 : spec_ContrastOf.f p0_s p1_low p2_high = some r) :
    Calls Try.prog 9 #[.agg (encA .i8 p0_s).toArray, .int .i64 p1_low, .int .i64 p2_high] w (fun e w' => ∃ _ : Unit, e = .returned (.tuple #[.int .i64 r.1, .int .i64 r.2]) ∧ Own [] w w' []) := by
  unfold spec_ContrastOf.f at h0
  replace h0 := B.top h0
  refine calls_of_J (args := [.agg (encA .i8 p0_s).toArray, .int .i64 p1_low, .int .i64 p2_high]) Try.func9 rfl Try.ntmps9 rfl [(0, .agg (encA .i8 p0_s).toArray), (1, .int .i64 p1_low), (2, .int .i64 p2_high)] rfl H0 ?_
  refine J.seq ?_
  refine J.region ?_
  refine J.box rfl rfl rfl rfl rfl (fun _ _ => rfl) fun b1 => ?_
  refine J.op rfl rfl rfl (V.as rfl rfl) ?_
  refine J.op rfl rfl rfl (V.as rfl rfl) ?_
  refine J.nil ?_
  refine J.tN ?_
  refine J.seq ?_
  refine J.seq ?_
  refine J.region ?_
  obtain ⟨r3, hr4, h0⟩ := B.bind h0
  refine J.cl (l := [.tmp 3]) [.blk b1 (encA .i8 p0_s) 26] [] cf29 (wN rfl) rfl rfl rfl rfl rfl rfl hM1 (fun w H => spec_l06Ok.calls b1 p0_s r3 w H.enter1  hr4) fun g5 => ?_
  refine J.op rfl rfl rfl (V.nt rfl rfl) ?_
  refine J.nil ?_
  refine J.tN ?_
  refine J.cond rfl (fun hB6 => ?_) (fun hB6 => ?_)
  · replace h0 := B.t hB6 h0
    refine J.seq ?_
    refine J.region ?_
    refine J.op rfl rfl rfl (V.as rfl rfl) ?_
    refine J.op rfl rfl rfl (V.as rfl rfl) ?_
    refine J.nil ?_
    refine J.tN ?_
    refine J.ret ?_
    refine J.tR ?_
    obtain rfl := B.e h0
    exact J.ret2 rfl rfl rfl fun w H => ⟨(), rfl, H.pick [] (by decide)⟩
  · replace h0 := B.f hB6 h0
    refine J.skip ?_
    refine J.tN ?_
    refine J.seq ?_
    refine J.seq ?_
    obtain ⟨y7, hy16, h0⟩ := B.bind h0
    replace hy16 := B.top hy16
    refine J.cut (γ := Unit) (fun _ => True) (fun gy8 => [(1, .int .i64 p1_low), (2, .int .i64 p2_high), (3, bp b1 0), (20, .bool y7)]) (fun gy8 => [.blk b1 (encA .i8 p0_s) 26]) ?_ ?_
    · have h1 := hy16
      refine J.region ?_
      refine J.op rfl rfl rfl (V.mv rfl rfl) ?_
      obtain ⟨r9, hr10, h1⟩ := B.bind h1
      refine J.cl (l := [.tmp 11, .const (.int .i64 0), .const (.int .i64 23)]) [] [.blk b1 (encA .i8 p0_s) 26] cf33 (wN rfl) rfl rfl rfl rfl rfl rfl (by simp) (fun w H => spec_l00In.calls p1_low 0 23 r9 w (Own.refl w)  hr10) fun g11 => ?_
      refine J.op rfl rfl rfl (V.nt rfl rfl) ?_
      refine J.op rfl rfl rfl (V.mv rfl rfl) ?_
      refine J.split 14 rfl (fun hB12 => ?_) (fun hB12 => ?_)
      · replace h1 := B.t hB12 h1
        refine J.opOff rfl rfl rfl rfl rfl rfl ?_
        refine J.opOff rfl rfl rfl rfl rfl rfl ?_
        refine J.opOff rfl rfl rfl rfl rfl rfl ?_
        refine J.opOff rfl rfl rfl rfl rfl rfl ?_
        refine J.opOff rfl rfl rfl rfl rfl rfl ?_
        refine J.op rfl rfl rfl (V.pkT rfl rfl rfl) ?_
        refine J.nil ?_
        obtain rfl := B.e h1
        refine J.tN (J.to () trivial ?_)
        exact J.keep _ rfl (J.pickE [0] rfl rfl J.here)
      · replace h1 := B.f hB12 h1
        refine J.opOn rfl rfl rfl rfl rfl (V.mv rfl rfl) ?_
        refine J.opOn rfl rfl rfl rfl rfl (V.mv rfl rfl) ?_
        refine J.opOn rfl rfl rfl rfl rfl (V.ar rfl rfl rfl rfl) ?_
        obtain ⟨r13, hr14, h1⟩ := B.bind h1
        refine J.cl (l := [.tmp 15, .const (.int .i64 0), .tmp 17]) [] [.blk b1 (encA .i8 p0_s) 26] cf33 (wY rfl rfl rfl) rfl rfl rfl rfl rfl rfl (by simp) (fun w H => spec_l00In.calls p2_high 0 (IntKind.wrap .i64 (23 - p1_low)) r13 w (Own.refl w)  hr14) fun g15 => ?_
        refine J.opOn rfl rfl rfl rfl rfl (V.nt rfl rfl) ?_
        refine J.op rfl rfl rfl (V.pkF rfl rfl rfl) ?_
        refine J.nil ?_
        obtain rfl := B.e h1
        refine J.tN (J.to () trivial ?_)
        exact J.keep _ rfl (J.pickE [0] rfl rfl J.here)
    · intro gy8 _
      refine J.cond rfl (fun hB17 => ?_) (fun hB17 => ?_)
      · replace h0 := B.t hB17 h0
        refine J.seq ?_
        refine J.region ?_
        refine J.op rfl rfl rfl (V.as rfl rfl) ?_
        refine J.op rfl rfl rfl (V.as rfl rfl) ?_
        refine J.nil ?_
        refine J.tN ?_
        refine J.ret ?_
        refine J.tR ?_
        obtain rfl := B.e h0
        exact J.ret2 rfl rfl rfl fun w H => ⟨(), rfl, H.pick [] (by decide)⟩
      · replace h0 := B.f hB17 h0
        refine J.skip ?_
        refine J.tN ?_
        refine J.seq ?_
        refine J.region ?_
        obtain ⟨r18, hr19, h0⟩ := B.bind h0
        refine J.cl (l := [.tmp 3]) [.blk b1 (encA .i8 p0_s) 26] [] cf30 (wN rfl) rfl rfl rfl rfl rfl rfl hM1 (fun w H => spec_l06Sorted.calls b1 p0_s r18 w H.enter1  hr19) fun g20 => ?_
        refine J.op rfl rfl rfl (V.as rfl rfl) ?_
        refine J.nil ?_
        refine J.tN ?_
        refine J.seq ?_
        refine J.quiet mixed (by kernel_rfl) ?_
        refine JQ.op rfl rfl rfl (V.mv rfl rfl) ?_
        refine JQ.op rfl rfl rfl (V.mv rfl rfl) ?_
        refine JQ.op rfl rfl rfl (V.ar rfl rfl rfl rfl) ?_
        obtain ⟨hC22, h0⟩ := B.chk h0
        refine JQ.op rfl rfl rfl (V.ixR 1 rfl rfl rfl rfl tl62 ts2 hC22) ?_
        refine JQ.op rfl rfl rfl (V.elR0 1 rfl hC22 rfl rfl Try.underlying2 ta2 rfl) ?_
        refine JQ.op rfl rfl rfl (V.mv rfl rfl) ?_
        refine JQ.op rfl rfl rfl (V.mv rfl rfl) ?_
        obtain ⟨hC23, h0⟩ := B.chk h0
        refine JQ.op rfl rfl rfl (V.ixR 1 rfl rfl rfl rfl tl62 ts2 hC23) ?_
        refine JQ.op rfl rfl rfl (V.elR0 1 rfl hC23 rfl rfl Try.underlying2 ta2 rfl) ?_
        refine JQ.op rfl rfl rfl (V.ar rfl rfl rfl rfl) ?_
        refine JQ.op rfl rfl rfl (V.as rfl rfl) ?_
        obtain ⟨t24, et24, h0⟩ := B.lt h0
        refine JQ.val (congrArg (Value.int .i64) et24) ?_
        refine JQ.op rfl rfl rfl (V.as rfl rfl) ?_
        refine JQ.nil ?_
        refine J.tN ?_
        refine J.ret ?_
        obtain rfl := B.e h0
        exact J.ret2 rfl rfl rfl fun w H => ⟨(), rfl, H.pick [] (by decide)⟩

/-! ### impl.ContrastOf: function 10 -/
noncomputable def impl_ContrastOf.f (p0_s : (Vector Int 24)) (p1_low : Int) (p2_high : Int) : Option (Int × Int) := (impl_ValidScene.f p0_s).bind fun r3 => (some (!r3)).bind fun t6 => bif t6 then (some (0, 1)) else (((impl_within.f p1_low 0 23).bind fun r10 => bif (!r10) then (some true) else ((impl_within.f p2_high 0 (IntKind.wrap .i64 (23 - p1_low))).bind fun r14 => (some (!r14)).bind fun t17 => some t17) : Option (Bool)).bind fun y8 => bif y8 then (some (0, 2)) else ((slices_Sort_int8_int8.f 24 p0_s).bind fun r20 => bif (inB (IntKind.wrap .i64 (23 - p2_high)) 24) then (bif (inB p1_low 24) then ((some (IntKind.wrap .i64 ((IntKind.wrap .i64 (rdA r20 (IntKind.wrap .i64 (23 - p2_high)))) - (IntKind.wrap .i64 (rdA r20 p1_low))))).bind fun t25 => some (t25, 0)) else none) else none))
set_option maxRecDepth 100000 in
theorem impl_ContrastOf.calls (p0_s : (Vector Int 24)) (p1_low : Int) (p2_high : Int) (r : Int × Int) (w : World) (H0 : Own [] w w []) (h0 : impl_ContrastOf.f p0_s p1_low p2_high = some r) :
    Calls Try.prog 10 #[.agg (encA .i8 p0_s).toArray, .int .i64 p1_low, .int .i64 p2_high] w (fun e w' => ∃ _ : Unit, e = .returned (.tuple #[.int .i64 r.1, .int .i64 r.2]) ∧ Own [] w w' []) := by
  unfold impl_ContrastOf.f at h0
  replace h0 := B.top h0
  refine calls_of_J (args := [.agg (encA .i8 p0_s).toArray, .int .i64 p1_low, .int .i64 p2_high]) Try.func10 rfl Try.ntmps10 rfl [(0, .agg (encA .i8 p0_s).toArray), (1, .int .i64 p1_low), (2, .int .i64 p2_high)] rfl H0 ?_
  refine J.seq ?_
  refine J.region ?_
  refine J.box rfl rfl rfl rfl rfl (fun _ _ => rfl) fun b1 => ?_
  refine J.op rfl rfl rfl (V.as rfl rfl) ?_
  refine J.op rfl rfl rfl (V.as rfl rfl) ?_
  refine J.nil ?_
  refine J.tN ?_
  refine J.seq ?_
  refine J.block ?_
  refine J.seq ?_
  refine J.region ?_
  refine J.op rfl rfl rfl (V.ldW 0 rfl rfl rfl ts26 ta26 (encA_len _ _)) ?_
  obtain ⟨r3, hr4, h0⟩ := B.bind h0
  refine J.cl (l := [.tmp 9]) [] [.blk b1 (encA .i8 p0_s) 26] cf31 (wN rfl) rfl rfl rfl rfl rfl rfl (by simp) (fun w H => impl_ValidScene.calls p0_s r3 w (Own.refl w)  hr4) fun g5 => ?_
  refine J.op rfl rfl rfl (V.nt rfl rfl) ?_
  refine J.op rfl rfl rfl (V.as rfl rfl) ?_
  obtain ⟨t6, et6, h0⟩ := B.lt h0
  refine J.val (congrArg (Value.bool) et6) ?_
  refine J.nil ?_
  refine J.tN ?_
  refine J.cond rfl (fun hB7 => ?_) (fun hB7 => ?_)
  · replace h0 := B.t hB7 h0
    refine J.seq ?_
    refine J.region ?_
    refine J.op rfl rfl rfl (V.as rfl rfl) ?_
    refine J.op rfl rfl rfl (V.as rfl rfl) ?_
    refine J.nil ?_
    refine J.tN ?_
    refine J.ret ?_
    refine J.bR ?_
    refine J.tR ?_
    obtain rfl := B.e h0
    exact J.ret2 rfl rfl rfl fun w H => ⟨(), rfl, H.pick [] (by decide)⟩
  · replace h0 := B.f hB7 h0
    refine J.seq ?_
    obtain ⟨y8, hy18, h0⟩ := B.bind h0
    replace hy18 := B.top hy18
    refine J.cut (γ := Unit) (fun _ => True) (fun gy9 => [(1, .int .i64 p1_low), (2, .int .i64 p2_high), (3, bp b1 0), (12, .bool y8)]) (fun gy9 => [.blk b1 (encA .i8 p0_s) 26]) ?_ ?_
    · have h1 := hy18
      refine J.region ?_
      refine J.op rfl rfl rfl (V.mv rfl rfl) ?_
      obtain ⟨r10, hr11, h1⟩ := B.bind h1
      refine J.cl (l := [.tmp 13, .const (.int .i64 0), .const (.int .i64 23)]) [] [.blk b1 (encA .i8 p0_s) 26] cf34 (wN rfl) rfl rfl rfl rfl rfl rfl (by simp) (fun w H => impl_within.calls p1_low 0 23 r10 w (Own.refl w)  hr11) fun g12 => ?_
      refine J.op rfl rfl rfl (V.nt rfl rfl) ?_
      refine J.op rfl rfl rfl (V.mv rfl rfl) ?_
      refine J.split 16 rfl (fun hB13 => ?_) (fun hB13 => ?_)
      · replace h1 := B.t hB13 h1
        refine J.opOff rfl rfl rfl rfl rfl rfl ?_
        refine J.opOff rfl rfl rfl rfl rfl rfl ?_
        refine J.opOff rfl rfl rfl rfl rfl rfl ?_
        refine J.opOff rfl rfl rfl rfl rfl rfl ?_
        refine J.opOff rfl rfl rfl rfl rfl rfl ?_
        refine J.op rfl rfl rfl (V.pkT rfl rfl rfl) ?_
        refine J.op rfl rfl rfl (V.as rfl rfl) ?_
        refine J.nil ?_
        obtain rfl := B.e h1
        refine J.tN (J.to () trivial ?_)
        exact J.keep _ rfl (J.pickE [0] rfl rfl J.here)
      · replace h1 := B.f hB13 h1
        refine J.opOn rfl rfl rfl rfl rfl (V.mv rfl rfl) ?_
        refine J.opOn rfl rfl rfl rfl rfl (V.mv rfl rfl) ?_
        refine J.opOn rfl rfl rfl rfl rfl (V.ar rfl rfl rfl rfl) ?_
        obtain ⟨r14, hr15, h1⟩ := B.bind h1
        refine J.cl (l := [.tmp 17, .const (.int .i64 0), .tmp 19]) [] [.blk b1 (encA .i8 p0_s) 26] cf34 (wY rfl rfl rfl) rfl rfl rfl rfl rfl rfl (by simp) (fun w H => impl_within.calls p2_high 0 (IntKind.wrap .i64 (23 - p1_low)) r14 w (Own.refl w)  hr15) fun g16 => ?_
        refine J.opOn rfl rfl rfl rfl rfl (V.nt rfl rfl) ?_
        refine J.op rfl rfl rfl (V.pkF rfl rfl rfl) ?_
        refine J.op rfl rfl rfl (V.as rfl rfl) ?_
        obtain ⟨t17, et17, h1⟩ := B.lt h1
        refine J.val (congrArg (Value.bool) et17) ?_
        refine J.nil ?_
        obtain rfl := B.e h1
        refine J.tN (J.to () trivial ?_)
        exact J.keep _ rfl (J.pickE [0] rfl rfl J.here)
    · intro gy9 _
      refine J.cond rfl (fun hB19 => ?_) (fun hB19 => ?_)
      · replace h0 := B.t hB19 h0
        refine J.seq ?_
        refine J.region ?_
        refine J.op rfl rfl rfl (V.as rfl rfl) ?_
        refine J.op rfl rfl rfl (V.as rfl rfl) ?_
        refine J.nil ?_
        refine J.tN ?_
        refine J.ret ?_
        refine J.bR ?_
        refine J.tR ?_
        obtain rfl := B.e h0
        exact J.ret2 rfl rfl rfl fun w H => ⟨(), rfl, H.pick [] (by decide)⟩
      · replace h0 := B.f hB19 h0
        refine J.skip ?_
        refine J.bN ?_
        refine J.tN ?_
        refine J.seq ?_
        refine J.region ?_
        refine J.op rfl rfl rfl (V.arr rfl rfl tr26 ts22) ?_
        obtain ⟨r20, hr21, h0⟩ := B.bind h0
        refine J.cl (l := [.tmp 23]) [.blk b1 (encA .i8 p0_s) 26] [] cf32 (wN rfl) rfl rfl rfl rfl rfl rfl hM1 (fun w H => slices_Sort_int8_int8.calls b1 24 26 p0_s r20 w H.enter1  hr21) fun g22 => ?_
        refine J.nil ?_
        refine J.tN ?_
        refine J.seq ?_
        refine J.quiet mixed (by kernel_rfl) ?_
        refine JQ.op rfl rfl rfl (V.mv rfl rfl) ?_
        refine JQ.op rfl rfl rfl (V.ar rfl rfl rfl rfl) ?_
        obtain ⟨hC23, h0⟩ := B.chk h0
        refine JQ.op rfl rfl rfl (V.ixB rfl rfl rfl tr26 ts22 hC23) ?_
        refine JQ.op rfl rfl rfl (V.ldB 0 rfl rfl rfl Try.underlying22 ta22 (encA_get0 .i8 _ hC23)) ?_
        refine JQ.op rfl rfl rfl (V.conv rfl rfl Try.underlying22 Try.underlying2) ?_
        refine JQ.op rfl rfl rfl (V.mv rfl rfl) ?_
        obtain ⟨hC24, h0⟩ := B.chk h0
        refine JQ.op rfl rfl rfl (V.ixB rfl rfl rfl tr26 ts22 hC24) ?_
        refine JQ.op rfl rfl rfl (V.ldB 0 rfl rfl rfl Try.underlying22 ta22 (encA_get0 .i8 _ hC24)) ?_
        refine JQ.op rfl rfl rfl (V.conv rfl rfl Try.underlying22 Try.underlying2) ?_
        refine JQ.op rfl rfl rfl (V.ar rfl rfl rfl rfl) ?_
        refine JQ.op rfl rfl rfl (V.as rfl rfl) ?_
        obtain ⟨t25, et25, h0⟩ := B.lt h0
        refine JQ.val (congrArg (Value.int .i64) et25) ?_
        refine JQ.op rfl rfl rfl (V.as rfl rfl) ?_
        refine JQ.nil ?_
        refine J.tN ?_
        refine J.ret ?_
        obtain rfl := B.e h0
        exact J.ret2 rfl rfl rfl fun w H => ⟨(), rfl, H.pick [] (by decide)⟩

/-! ### laws.FnExactContrastOf: function 4 -/
noncomputable def laws_FnExactContrastOf.f (p0_aS : (Vector Int 24)) (p1_aLow : Int) (p2_aHigh : Int) : Option (Bool) := (laws_toScene.f p0_aS).bind fun r3 => (spec_ContrastOf.f r3 p1_aLow p2_aHigh).bind fun r6 => (laws_toScene.f p0_aS).bind fun r9 => (impl_ContrastOf.f r9 p1_aLow p2_aHigh).bind fun r12 => (bif (r12.1 != r6.1) then (some true) else (some (r12.2 != r6.2)) : Option (Bool)).bind fun y15 => bif y15 then (some false) else (some true)
set_option maxRecDepth 100000 in
theorem laws_FnExactContrastOf.calls (p0_aS : (Vector Int 24)) (p1_aLow : Int) (p2_aHigh : Int) (r : Bool) (w : World) (H0 : Own [] w w []) (h0 : laws_FnExactContrastOf.f p0_aS p1_aLow p2_aHigh = some r) :
    Calls Try.prog 4 #[.agg (encA .i8 p0_aS).toArray, .int .i64 p1_aLow, .int .i64 p2_aHigh] w (fun e w' => ∃ _ : Unit, e = .returned (.bool r) ∧ Own [] w w' []) := by
  unfold laws_FnExactContrastOf.f at h0
  replace h0 := B.top h0
  refine calls_of_J (args := [.agg (encA .i8 p0_aS).toArray, .int .i64 p1_aLow, .int .i64 p2_aHigh]) Try.func4 rfl Try.ntmps4 rfl [(0, .agg (encA .i8 p0_aS).toArray), (1, .int .i64 p1_aLow), (2, .int .i64 p2_aHigh)] rfl H0 ?_
  refine J.seq ?_
  refine J.region ?_
  refine J.box rfl rfl rfl rfl rfl (fun _ _ => rfl) fun b1 => ?_
  refine J.op rfl rfl rfl (V.as rfl rfl) ?_
  refine J.nil ?_
  refine J.tN ?_
  refine J.seq ?_
  refine J.region ?_
  refine J.op rfl rfl rfl (V.ldW 0 rfl rfl rfl ts23 ta23 (encA_len _ _)) ?_
  obtain ⟨r3, hr4, h0⟩ := B.bind h0
  refine J.cl (l := [.tmp 12]) [] [.blk b1 (encA .i8 p0_aS) 23] cf7 (wN rfl) rfl rfl rfl rfl rfl rfl (by simp) (fun w H => laws_toScene.calls p0_aS r3 w (Own.refl w)  hr4) fun g5 => ?_
  refine J.op rfl rfl rfl (V.mv rfl rfl) ?_
  refine J.op rfl rfl rfl (V.mv rfl rfl) ?_
  obtain ⟨r6, hr7, h0⟩ := B.bind h0
  refine J.cl (l := [.tmp 13, .tmp 14, .tmp 15]) [] [.blk b1 (encA .i8 p0_aS) 23] cf9 (wN rfl) rfl rfl rfl rfl rfl rfl (by simp) (fun w H => spec_ContrastOf.calls r3 p1_aLow p2_aHigh r6 w (Own.refl w)  hr7) fun g8 => ?_
  refine J.op rfl rfl rfl (V.mv rfl rfl) ?_
  refine J.op rfl rfl rfl (V.ex rfl rfl rfl) ?_
  refine J.op rfl rfl rfl (V.ex rfl rfl rfl) ?_
  refine J.op rfl rfl rfl (V.as rfl rfl) ?_
  refine J.op rfl rfl rfl (V.as rfl rfl) ?_
  refine J.nil ?_
  refine J.tN ?_
  refine J.seq ?_
  refine J.region ?_
  refine J.op rfl rfl rfl (V.ldW 0 rfl rfl rfl ts23 ta23 (encA_len _ _)) ?_
  obtain ⟨r9, hr10, h0⟩ := B.bind h0
  refine J.cl (l := [.tmp 20]) [] [.blk b1 (encA .i8 p0_aS) 23] cf7 (wN rfl) rfl rfl rfl rfl rfl rfl (by simp) (fun w H => laws_toScene.calls p0_aS r9 w (Own.refl w)  hr10) fun g11 => ?_
  refine J.op rfl rfl rfl (V.mv rfl rfl) ?_
  refine J.op rfl rfl rfl (V.mv rfl rfl) ?_
  obtain ⟨r12, hr13, h0⟩ := B.bind h0
  refine J.cl (l := [.tmp 21, .tmp 22, .tmp 23]) [] [.blk b1 (encA .i8 p0_aS) 23] cf10 (wN rfl) rfl rfl rfl rfl rfl rfl (by simp) (fun w H => impl_ContrastOf.calls r9 p1_aLow p2_aHigh r12 w (Own.refl w)  hr13) fun g14 => ?_
  refine J.op rfl rfl rfl (V.mv rfl rfl) ?_
  refine J.op rfl rfl rfl (V.ex rfl rfl rfl) ?_
  refine J.op rfl rfl rfl (V.ex rfl rfl rfl) ?_
  refine J.op rfl rfl rfl (V.as rfl rfl) ?_
  refine J.op rfl rfl rfl (V.as rfl rfl) ?_
  refine J.nil ?_
  refine J.tN ?_
  refine J.seq ?_
  refine J.seq ?_
  obtain ⟨y15, hy18, h0⟩ := B.bind h0
  replace hy18 := B.top hy18
  refine J.cut (γ := Unit) (fun _ => True) (fun gy16 => [(34, .bool y15)]) (fun gy16 => [.blk b1 (encA .i8 p0_aS) 23]) ?_ ?_
  · have h1 := hy18
    refine J.region ?_
    refine J.op rfl rfl rfl (V.mv rfl rfl) ?_
    refine J.op rfl rfl rfl (V.mv rfl rfl) ?_
    refine J.op rfl rfl rfl (V.cmp rfl rfl rfl rfl) ?_
    refine J.op rfl rfl rfl (V.mv rfl rfl) ?_
    refine J.split 30 rfl (fun hB17 => ?_) (fun hB17 => ?_)
    · replace h1 := B.t hB17 h1
      refine J.opOff rfl rfl rfl rfl rfl rfl ?_
      refine J.opOff rfl rfl rfl rfl rfl rfl ?_
      refine J.opOff rfl rfl rfl rfl rfl rfl ?_
      refine J.op rfl rfl rfl (V.pkT rfl rfl rfl) ?_
      refine J.nil ?_
      obtain rfl := B.e h1
      refine J.tN (J.to () trivial ?_)
      exact J.keep _ rfl (J.pickE [0] rfl rfl J.here)
    · replace h1 := B.f hB17 h1
      refine J.opOn rfl rfl rfl rfl rfl (V.mv rfl rfl) ?_
      refine J.opOn rfl rfl rfl rfl rfl (V.mv rfl rfl) ?_
      refine J.opOn rfl rfl rfl rfl rfl (V.cmp rfl rfl rfl rfl) ?_
      refine J.op rfl rfl rfl (V.pkF rfl rfl rfl) ?_
      refine J.nil ?_
      obtain rfl := B.e h1
      refine J.tN (J.to () trivial ?_)
      exact J.keep _ rfl (J.pickE [0] rfl rfl J.here)
  · intro gy16 _
    refine J.cond rfl (fun hB19 => ?_) (fun hB19 => ?_)
    · replace h0 := B.t hB19 h0
      refine J.seq ?_
      refine J.region ?_
      refine J.op rfl rfl rfl (V.as rfl rfl) ?_
      refine J.nil ?_
      refine J.tN ?_
      refine J.ret ?_
      refine J.tR ?_
      obtain rfl := B.e h0
      exact J.ret1 rfl rfl fun w H => ⟨(), rfl, H.pick [] (by decide)⟩
    · replace h0 := B.f hB19 h0
      refine J.skip ?_
      refine J.tN ?_
      refine J.seq ?_
      refine J.region ?_
      refine J.op rfl rfl rfl (V.as rfl rfl) ?_
      refine J.nil ?_
      refine J.tN ?_
      refine J.ret ?_
      obtain rfl := B.e h0
      exact J.ret1 rfl rfl fun w H => ⟨(), rfl, H.pick [] (by decide)⟩

end Go.Proofs.Ytopmellnegcfpaa
