/- Go functions as Lean functions, and that each call of theirs comes to just that: by a program written for this work (walk.py). No condition. -/
import Derived.Test.YtofhnioboihbgaaF5
namespace Go.Proofs.Ytofhnioboihbgaa
open Go Go.RowKit G
set_option linter.unusedVariables false

/-! ### slices.stableCmpFunc[int64]: function 76 -/
noncomputable def slices_stableCmpFunc_int64.b1 (n0_ : Nat) (p1_n : Int) (p2_cmp : Int → Int → Option Int) : (Int × Int × (Vector Int n0_)) → Option (Step (Int × Int × (Vector Int n0_)) (Int × (Vector Int n0_))) := fun s1 => bif (decide (s1.2.1 ≤ p1_n)) then ((slices_insertionSortCmpFunc_int64.f n0_ s1.2.2 s1.1 s1.2.1 p2_cmp).bind fun r5 => (some (IntKind.wrap .i64 (s1.2.1 + 20))).bind fun b_8 => some (.next (s1.2.1, b_8, r5))) else (some (.done (s1.1, s1.2.2)))
noncomputable def slices_stableCmpFunc_int64.b3 (n0_ : Nat) (p1_n : Int) (p2_cmp : Int → Int → Option Int) (s15 : Int × (Vector Int n0_)) : (Int × Int × (Vector Int n0_)) → Option (Step (Int × Int × (Vector Int n0_)) (Int × (Vector Int n0_))) := fun s20 => bif (decide (s20.2.1 ≤ p1_n)) then ((slices_symMergeCmpFunc_int64.f n0_ s20.2.2 s20.1 (IntKind.wrap .i64 (s20.1 + s15.1)) s20.2.1 p2_cmp).bind fun r24 => (some (IntKind.wrap .i64 (s20.2.1 + (IntKind.wrap .i64 (2 * s15.1))))).bind fun b_27 => some (.next (s20.2.1, b_27, r24))) else (some (.done (s20.1, s20.2.2)))
noncomputable def slices_stableCmpFunc_int64.b2 (n0_ : Nat) (p1_n : Int) (p2_cmp : Int → Int → Option Int) : (Int × (Vector Int n0_)) → Option (Step (Int × (Vector Int n0_)) ((Vector Int n0_))) := fun s15 => bif (decide (s15.1 < p1_n)) then ((some (IntKind.wrap .i64 (2 * s15.1))).bind fun b_19 => (loopW (slices_stableCmpFunc_int64.b3 n0_ p1_n p2_cmp s15) (0, b_19, s15.2)).bind fun y28 => (some (IntKind.wrap .i64 (y28.1 + s15.1))).bind fun m_31 => bif (decide (m_31 < p1_n)) then ((slices_symMergeCmpFunc_int64.f n0_ y28.2 y28.1 m_31 p1_n p2_cmp).bind fun r33 => (some (IntKind.wrap .i64 (s15.1 * 2))).bind fun blockSize_36 => some (.next (blockSize_36, r33))) else ((some (IntKind.wrap .i64 (s15.1 * 2))).bind fun blockSize_37 => some (.next (blockSize_37, y28.2)))) else (some (.done s15.2))
noncomputable def slices_stableCmpFunc_int64.f (n0_ : Nat) (p0_data : Vector Int n0_) (p1_n : Int) (p2_cmp : Int → Int → Option Int) : Option ((Vector Int n0_)) := (loopW (slices_stableCmpFunc_int64.b1 n0_ p1_n p2_cmp) (0, 20, p0_data)).bind fun y9 => (slices_insertionSortCmpFunc_int64.f n0_ y9.2 y9.1 p1_n p2_cmp).bind fun r12 => (loopW (slices_stableCmpFunc_int64.b2 n0_ p1_n p2_cmp) (20, r12)).bind fun y38 => some y38
set_option maxRecDepth 100000 in
theorem slices_stableCmpFunc_int64.calls (v0 : Value) (n0_ T0_ : Nat) (p0_data : Vector Int n0_) (p1_n : Int) (g2_ : Nat) (c2_ : Array Value) (p2_cmp : Int → Int → Option Int) (r : (Vector Int n0_)) (w : World) (H0 : Own (Mof [.row v0 T0_ 1 n0_ (encA .i64 p0_data)]) w w [.row v0 T0_ 1 n0_ (encA .i64 p0_data)]) (hg2 : CallsFn Try.prog g2_) (hF2 : ∀ w2 (x0 : Int) (x1 : Int) r, Own (Mof [.row v0 T0_ 1 n0_ (encA .i64 p0_data)]) w w2 [] → p2_cmp x0 x1 = some r → Calls Try.prog g2_ (#[.int .i64 x0, .int .i64 x1] ++ c2_) w2 (fun e w3 => ∃ _ : Unit, e = .returned (.int .i64 r) ∧ Own [] w2 w3 [])) (h0 : slices_stableCmpFunc_int64.f n0_ p0_data p1_n p2_cmp = some r) :
    Calls Try.prog 76 #[v0, .int .i64 p1_n, .func (.func g2_) #[] c2_] w (fun e w' => ∃ _ : Unit, e = .returned (.tuple #[]) ∧ Own (Mof [.row v0 T0_ 1 n0_ (encA .i64 p0_data)]) w w' [.row v0 T0_ 1 n0_ (encA .i64 r)]) := by
  unfold slices_stableCmpFunc_int64.f at h0
  replace h0 := B.top h0
  refine calls_of_J (args := [v0, .int .i64 p1_n, .func (.func g2_) #[] c2_]) Try.func76 rfl Try.ntmps76 rfl [(0, v0), (1, .int .i64 p1_n), (2, .func (.func g2_) #[] c2_)] rfl H0 ?_
  refine J.seq ?_
  refine J.region ?_
  refine J.op rfl rfl rfl (V.as rfl rfl) ?_
  refine J.nil ?_
  refine J.tN ?_
  refine J.seq ?_
  refine J.region ?_
  refine J.op rfl rfl rfl (V.mv rfl rfl) ?_
  refine J.op rfl rfl rfl (V.as rfl rfl) ?_
  refine J.op rfl rfl rfl (V.as rfl rfl) ?_
  refine J.nil ?_
  refine J.tN ?_
  refine J.seq ?_
  obtain ⟨y9, hy11, h0⟩ := B.bind h0
  refine J.cut (γ := Unit) (fun _ => True) (fun gy10 => [(0, v0), (1, .int .i64 p1_n), (2, .func (.func g2_) #[] c2_), (6, .int .i64 20), (7, .int .i64 y9.1)]) (fun gy10 => [.row v0 T0_ 1 n0_ (encA .i64 y9.2)]) ?_ ?_
  · refine J.block ?_
    refine J.loop (γ := Unit) hy11 (fun s1 g2 => [(0, v0), (1, .int .i64 p1_n), (2, .func (.func g2_) #[] c2_), (6, .int .i64 20), (7, .int .i64 s1.1), (8, .int .i64 s1.2.1)]) (fun s1 g2 => [.row v0 T0_ 1 n0_ (encA .i64 s1.2.2)]) () ?_ ?_
    · exact J.keep _ rfl (J.pickE [0] rfl rfl J.here)
    · intro rec3 s1 g2 h1
      unfold slices_stableCmpFunc_int64.b1 at h1
      refine J.seq ?_
      refine J.seq ?_
      refine J.region ?_
      refine J.op rfl rfl rfl (V.mv rfl rfl) ?_
      refine J.op rfl rfl rfl (V.mv rfl rfl) ?_
      refine J.op rfl rfl rfl (V.cmp rfl rfl rfl rfl) ?_
      refine J.nil ?_
      refine J.tN ?_
      refine J.cond rfl (fun hB4 => ?_) (fun hB4 => ?_)
      · replace h1 := B.t hB4 h1
        refine J.skip ?_
        refine J.tN ?_
        refine J.block ?_
        refine J.seq ?_
        refine J.region ?_
        refine J.op rfl rfl rfl (V.mv rfl rfl) ?_
        refine J.op rfl rfl rfl (V.mv rfl rfl) ?_
        refine J.op rfl rfl rfl (V.mv rfl rfl) ?_
        refine J.op rfl rfl rfl (V.mv rfl rfl) ?_
        obtain ⟨r5, hr6, h1⟩ := B.bind h1
        refine J.clA (l := [.tmp 14, .tmp 15, .tmp 16, .tmp 17]) [.row v0 T0_ 1 n0_ (encA .i64 s1.2.2)] [] cf84 (wN rfl) rfl rfl rfl rfl rfl rfl (fun w H => slices_insertionSortCmpFunc_int64.calls v0 n0_ T0_ s1.2.2 s1.1 s1.2.1 g2_ c2_ p2_cmp r5 w H.enterA hg2 (fun w2 x0 x1 r HO  hp => hF2 w2 x0 x1 r (Own.through H HO)  hp) hr6) fun g7 => ?_
        refine J.nil ?_
        refine J.tN ?_
        refine J.seq ?_
        refine J.region ?_
        refine J.op rfl rfl rfl (V.mv rfl rfl) ?_
        refine J.op rfl rfl rfl (V.as rfl rfl) ?_
        refine J.nil ?_
        refine J.tN ?_
        refine J.region ?_
        refine J.op rfl rfl rfl (V.mv rfl rfl) ?_
        refine J.op rfl rfl rfl (V.mv rfl rfl) ?_
        refine J.op rfl rfl rfl (V.ar rfl rfl rfl rfl) ?_
        refine J.op rfl rfl rfl (V.as rfl rfl) ?_
        obtain ⟨b_8, eb_8, h1⟩ := B.lt h1
        refine J.val (congrArg (Value.int .i64) eb_8) ?_
        refine J.nil ?_
        refine J.bN ?_
        refine J.tN (J.next (s1.2.1, b_8, r5) () (B.n h1) ?_)
        exact J.keep _ rfl (J.pickE [0] rfl rfl J.here)
      · replace h1 := B.f hB4 h1
        refine J.exit ?_
        refine J.tE ?_
        refine J.tE ?_
        refine J.bE ?_
        obtain rfl := B.d h1
        refine J.tN (J.to () trivial ?_)
        exact J.keep _ rfl (J.pickE [0] rfl rfl J.here)
  · intro gy10 _
    refine J.seq ?_
    refine J.region ?_
    refine J.op rfl rfl rfl (V.mv rfl rfl) ?_
    refine J.op rfl rfl rfl (V.mv rfl rfl) ?_
    refine J.op rfl rfl rfl (V.mv rfl rfl) ?_
    refine J.op rfl rfl rfl (V.mv rfl rfl) ?_
    obtain ⟨r12, hr13, h0⟩ := B.bind h0
    refine J.clA (l := [.tmp 23, .tmp 24, .tmp 25, .tmp 26]) [.row v0 T0_ 1 n0_ (encA .i64 y9.2)] [] cf84 (wN rfl) rfl rfl rfl rfl rfl rfl (fun w H => slices_insertionSortCmpFunc_int64.calls v0 n0_ T0_ y9.2 y9.1 p1_n g2_ c2_ p2_cmp r12 w H.enterA hg2 (fun w2 x0 x1 r HO  hp => hF2 w2 x0 x1 r (Own.through H HO)  hp) hr13) fun g14 => ?_
    refine J.nil ?_
    refine J.tN ?_
    obtain ⟨y38, hy40, h0⟩ := B.bind h0
    refine J.cutQ (γ := Unit) (fun _ => True) (fun gy39 => []) (fun gy39 => [.row v0 T0_ 1 n0_ (encA .i64 y38)]) ?_ ?_
    · refine J.block ?_
      refine J.loop (γ := Unit) hy40 (fun s15 g16 => [(0, v0), (1, .int .i64 p1_n), (2, .func (.func g2_) #[] c2_), (6, .int .i64 s15.1)]) (fun s15 g16 => [.row v0 T0_ 1 n0_ (encA .i64 s15.2)]) () ?_ ?_
      · exact J.keep _ rfl (J.pickE [0] rfl rfl J.here)
      · intro rec17 s15 g16 h1
        unfold slices_stableCmpFunc_int64.b2 at h1
        refine J.seq ?_
        refine J.seq ?_
        refine J.region ?_
        refine J.op rfl rfl rfl (V.mv rfl rfl) ?_
        refine J.op rfl rfl rfl (V.mv rfl rfl) ?_
        refine J.op rfl rfl rfl (V.cmp rfl rfl rfl rfl) ?_
        refine J.nil ?_
        refine J.tN ?_
        refine J.cond rfl (fun hB18 => ?_) (fun hB18 => ?_)
        · replace h1 := B.t hB18 h1
          refine J.skip ?_
          refine J.tN ?_
          refine J.block ?_
          refine J.seq ?_
          refine J.region ?_
          refine J.op rfl rfl rfl (V.mv rfl rfl) ?_
          refine J.op rfl rfl rfl (V.ar rfl rfl rfl rfl) ?_
          refine J.op rfl rfl rfl (V.as rfl rfl) ?_
          refine J.op rfl rfl rfl (V.as rfl rfl) ?_
          obtain ⟨b_19, eb_19, h1⟩ := B.lt h1
          refine J.val (congrArg (Value.int .i64) eb_19) ?_
          refine J.nil ?_
          refine J.tN ?_
          refine J.seq ?_
          obtain ⟨y28, hy30, h1⟩ := B.bind h1
          refine J.cut (γ := Unit) (fun _ => True) (fun gy29 => [(0, v0), (1, .int .i64 p1_n), (2, .func (.func g2_) #[] c2_), (6, .int .i64 s15.1), (7, .int .i64 y28.1)]) (fun gy29 => [.row v0 T0_ 1 n0_ (encA .i64 y28.2)]) ?_ ?_
          · refine J.block ?_
            refine J.loop (γ := Unit) hy30 (fun s20 g21 => [(0, v0), (1, .int .i64 p1_n), (2, .func (.func g2_) #[] c2_), (6, .int .i64 s15.1), (7, .int .i64 s20.1), (8, .int .i64 s20.2.1)]) (fun s20 g21 => [.row v0 T0_ 1 n0_ (encA .i64 s20.2.2)]) () ?_ ?_
            · exact J.keep _ rfl (J.pickE [0] rfl rfl J.here)
            · intro rec22 s20 g21 h2
              unfold slices_stableCmpFunc_int64.b3 at h2
              refine J.seq ?_
              refine J.seq ?_
              refine J.region ?_
              refine J.op rfl rfl rfl (V.mv rfl rfl) ?_
              refine J.op rfl rfl rfl (V.mv rfl rfl) ?_
              refine J.op rfl rfl rfl (V.cmp rfl rfl rfl rfl) ?_
              refine J.nil ?_
              refine J.tN ?_
              refine J.cond rfl (fun hB23 => ?_) (fun hB23 => ?_)
              · replace h2 := B.t hB23 h2
                refine J.skip ?_
                refine J.tN ?_
                refine J.block ?_
                refine J.seq ?_
                refine J.region ?_
                refine J.op rfl rfl rfl (V.mv rfl rfl) ?_
                refine J.op rfl rfl rfl (V.mv rfl rfl) ?_
                refine J.op rfl rfl rfl (V.mv rfl rfl) ?_
                refine J.op rfl rfl rfl (V.mv rfl rfl) ?_
                refine J.op rfl rfl rfl (V.ar rfl rfl rfl rfl) ?_
                refine J.op rfl rfl rfl (V.mv rfl rfl) ?_
                refine J.op rfl rfl rfl (V.mv rfl rfl) ?_
                obtain ⟨r24, hr25, h2⟩ := B.bind h2
                refine J.clA (l := [.tmp 36, .tmp 37, .tmp 40, .tmp 41, .tmp 42]) [.row v0 T0_ 1 n0_ (encA .i64 s20.2.2)] [] cf85 (wN rfl) rfl rfl rfl rfl rfl rfl (fun w H => slices_symMergeCmpFunc_int64.calls v0 n0_ T0_ s20.2.2 s20.1 (IntKind.wrap .i64 (s20.1 + s15.1)) s20.2.1 g2_ c2_ p2_cmp r24 w H.enterA hg2 (fun w2 x0 x1 r HO  hp => hF2 w2 x0 x1 r (Own.through H HO)  hp) hr25) fun g26 => ?_
                refine J.nil ?_
                refine J.tN ?_
                refine J.seq ?_
                refine J.region ?_
                refine J.op rfl rfl rfl (V.mv rfl rfl) ?_
                refine J.op rfl rfl rfl (V.as rfl rfl) ?_
                refine J.nil ?_
                refine J.tN ?_
                refine J.region ?_
                refine J.op rfl rfl rfl (V.mv rfl rfl) ?_
                refine J.op rfl rfl rfl (V.mv rfl rfl) ?_
                refine J.op rfl rfl rfl (V.ar rfl rfl rfl rfl) ?_
                refine J.op rfl rfl rfl (V.ar rfl rfl rfl rfl) ?_
                refine J.op rfl rfl rfl (V.as rfl rfl) ?_
                obtain ⟨b_27, eb_27, h2⟩ := B.lt h2
                refine J.val (congrArg (Value.int .i64) eb_27) ?_
                refine J.nil ?_
                refine J.bN ?_
                refine J.tN (J.next (s20.2.1, b_27, r24) () (B.n h2) ?_)
                exact J.keep _ rfl (J.pickE [0] rfl rfl J.here)
              · replace h2 := B.f hB23 h2
                refine J.exit ?_
                refine J.tE ?_
                refine J.tE ?_
                refine J.bE ?_
                obtain rfl := B.d h2
                refine J.tN (J.to () trivial ?_)
                exact J.keep _ rfl (J.pickE [0] rfl rfl J.here)
          · intro gy29 _
            refine J.seq ?_
            refine J.seq ?_
            refine J.region ?_
            refine J.op rfl rfl rfl (V.mv rfl rfl) ?_
            refine J.op rfl rfl rfl (V.mv rfl rfl) ?_
            refine J.op rfl rfl rfl (V.ar rfl rfl rfl rfl) ?_
            refine J.op rfl rfl rfl (V.as rfl rfl) ?_
            obtain ⟨m_31, em_31, h1⟩ := B.lt h1
            refine J.val (congrArg (Value.int .i64) em_31) ?_
            refine J.nil ?_
            refine J.tN ?_
            refine J.seq ?_
            refine J.region ?_
            refine J.op rfl rfl rfl (V.mv rfl rfl) ?_
            refine J.op rfl rfl rfl (V.mv rfl rfl) ?_
            refine J.op rfl rfl rfl (V.cmp rfl rfl rfl rfl) ?_
            refine J.nil ?_
            refine J.tN ?_
            refine J.cond rfl (fun hB32 => ?_) (fun hB32 => ?_)
            · replace h1 := B.t hB32 h1
              refine J.region ?_
              refine J.op rfl rfl rfl (V.mv rfl rfl) ?_
              refine J.op rfl rfl rfl (V.mv rfl rfl) ?_
              refine J.op rfl rfl rfl (V.mv rfl rfl) ?_
              refine J.op rfl rfl rfl (V.mv rfl rfl) ?_
              refine J.op rfl rfl rfl (V.mv rfl rfl) ?_
              obtain ⟨r33, hr34, h1⟩ := B.bind h1
              refine J.clA (l := [.tmp 55, .tmp 56, .tmp 57, .tmp 58, .tmp 59]) [.row v0 T0_ 1 n0_ (encA .i64 y28.2)] [] cf85 (wN rfl) rfl rfl rfl rfl rfl rfl (fun w H => slices_symMergeCmpFunc_int64.calls v0 n0_ T0_ y28.2 y28.1 m_31 p1_n g2_ c2_ p2_cmp r33 w H.enterA hg2 (fun w2 x0 x1 r HO  hp => hF2 w2 x0 x1 r (Own.through H HO)  hp) hr34) fun g35 => ?_
              refine J.nil ?_
              refine J.tN ?_
              refine J.region ?_
              refine J.op rfl rfl rfl (V.mv rfl rfl) ?_
              refine J.op rfl rfl rfl (V.ar rfl rfl rfl rfl) ?_
              refine J.op rfl rfl rfl (V.as rfl rfl) ?_
              obtain ⟨blockSize_36, eblockSize_36, h1⟩ := B.lt h1
              refine J.val (congrArg (Value.int .i64) eblockSize_36) ?_
              refine J.nil ?_
              refine J.bN ?_
              refine J.tN (J.next (blockSize_36, r33) () (B.n h1) ?_)
              exact J.keep _ rfl (J.pickE [0] rfl rfl J.here)
            · replace h1 := B.f hB32 h1
              refine J.skip ?_
              refine J.tN ?_
              refine J.region ?_
              refine J.op rfl rfl rfl (V.mv rfl rfl) ?_
              refine J.op rfl rfl rfl (V.ar rfl rfl rfl rfl) ?_
              refine J.op rfl rfl rfl (V.as rfl rfl) ?_
              obtain ⟨blockSize_37, eblockSize_37, h1⟩ := B.lt h1
              refine J.val (congrArg (Value.int .i64) eblockSize_37) ?_
              refine J.nil ?_
              refine J.bN ?_
              refine J.tN (J.next (blockSize_37, y28.2) () (B.n h1) ?_)
              exact J.keep _ rfl (J.pickE [0] rfl rfl J.here)
        · replace h1 := B.f hB18 h1
          refine J.exit ?_
          refine J.tE ?_
          refine J.tE ?_
          refine J.bE ?_
          obtain rfl := B.d h1
          refine J.tN (J.to () trivial ?_)
          exact J.keep _ rfl (J.pickE [0] rfl rfl J.here)
    · intro gy39 _
      refine J.fin ?_
      obtain rfl := B.e h0
      exact J.ret0 rfl fun w H => ⟨(), rfl, H.pick [0] (by decide)⟩

/-! ### slices.SortStableFunc[[]int64,int64]: function 45 -/
noncomputable def slices_SortStableFunc_int64_int64.f (n0_ : Nat) (p0_x : Vector Int n0_) (p1_cmp : Int → Int → Option Int) : Option ((Vector Int n0_)) := (slices_stableCmpFunc_int64.f n0_ p0_x (n0_ : Int) p1_cmp).bind fun r1 => some r1
set_option maxRecDepth 100000 in
theorem slices_SortStableFunc_int64_int64.calls (v0 : Value) (n0_ T0_ : Nat) (p0_x : Vector Int n0_) (g1_ : Nat) (c1_ : Array Value) (p1_cmp : Int → Int → Option Int) (r : (Vector Int n0_)) (w : World) (H0 : Own (Mof [.row v0 T0_ 1 n0_ (encA .i64 p0_x)]) w w [.row v0 T0_ 1 n0_ (encA .i64 p0_x)]) (hg1 : CallsFn Try.prog g1_) (hF1 : ∀ w2 (x0 : Int) (x1 : Int) r, Own (Mof [.row v0 T0_ 1 n0_ (encA .i64 p0_x)]) w w2 [] → p1_cmp x0 x1 = some r → Calls Try.prog g1_ (#[.int .i64 x0, .int .i64 x1] ++ c1_) w2 (fun e w3 => ∃ _ : Unit, e = .returned (.int .i64 r) ∧ Own [] w2 w3 [])) (h0 : slices_SortStableFunc_int64_int64.f n0_ p0_x p1_cmp = some r) :
    Calls Try.prog 45 #[v0, .func (.func g1_) #[] c1_] w (fun e w' => ∃ _ : Unit, e = .returned (.tuple #[]) ∧ Own (Mof [.row v0 T0_ 1 n0_ (encA .i64 p0_x)]) w w' [.row v0 T0_ 1 n0_ (encA .i64 r)]) := by
  unfold slices_SortStableFunc_int64_int64.f at h0
  replace h0 := B.top h0
  refine calls_of_J (args := [v0, .func (.func g1_) #[] c1_]) Try.func45 rfl Try.ntmps45 rfl [(0, v0), (1, .func (.func g1_) #[] c1_)] rfl H0 ?_
  refine J.region ?_
  refine J.op rfl rfl rfl (V.mv rfl rfl) ?_
  refine J.op rfl rfl rfl (V.mv rfl rfl) ?_
  refine J.op rfl rfl rfl (V.lenR 0 rfl rfl rfl tl30) ?_
  refine J.op rfl rfl rfl (V.mv rfl rfl) ?_
  obtain ⟨r1, hr2, h0⟩ := B.bind h0
  refine J.clA (l := [.tmp 4, .tmp 6, .tmp 7]) [.row v0 T0_ 1 n0_ (encA .i64 p0_x)] [] cf76 (wN rfl) rfl rfl rfl rfl rfl rfl (fun w H => slices_stableCmpFunc_int64.calls v0 n0_ T0_ p0_x (n0_ : Int) g1_ c1_ p1_cmp r1 w H.enterA hg1 (fun w2 x0 x1 r HO  hp => hF1 w2 x0 x1 r (Own.through H HO)  hp) hr2) fun g3 => ?_
  refine J.nil ?_
  refine J.fin ?_
  obtain rfl := B.e h0
  exact J.ret0 rfl fun w H => ⟨(), rfl, H.pick [0] (by decide)⟩

/-! ### impl.OrderGrades$1: function 46 -/
noncomputable def impl_OrderGrades_1.f (p0_i : Int) (p1_j : Int) (p2_a : (List Int)) : Option (Int) := bif (inB p1_j p2_a.length) then (bif (inB p0_i p2_a.length) then ((some (IntKind.wrap .i64 ((rd (eI .i64) p2_a p1_j) - (rd (eI .i64) p2_a p0_i)))).bind fun t3 => some t3) else none) else none
set_option maxRecDepth 100000 in
theorem impl_OrderGrades_1.calls (p0_i : Int) (p1_j : Int) (v2 : Value) (p2_a : (List Int)) (v2_s : Value) (r : Int) (w : World) (H0 : Own [] w w []) (hS2_s : SlE [] w v2_s 2 (eI .i64) p2_a) (hP2 : Rp [] w v2 [v2_s]) (h0 : impl_OrderGrades_1.f p0_i p1_j p2_a = some r) :
    Calls Try.prog 46 #[.int .i64 p0_i, .int .i64 p1_j, v2] w (fun e w' => ∃ _ : Unit, e = .returned (.int .i64 r) ∧ Own [] w w' []) := by
  unfold impl_OrderGrades_1.f at h0
  replace h0 := B.top h0
  refine calls_of_J (args := [.int .i64 p0_i, .int .i64 p1_j, v2]) Try.func46 rfl Try.ntmps46 rfl [(0, .int .i64 p0_i), (1, .int .i64 p1_j), (2, v2)] rfl H0 ?_
  refine J.seq ?_
  refine J.region ?_
  refine J.op rfl rfl rfl (V.as rfl rfl) ?_
  refine J.nil ?_
  refine J.tN ?_
  refine J.seq ?_
  refine J.quiet mixed (by kernel_rfl) ?_
  refine JQ.op rfl rfl rfl (V.ldP0 hP2 rfl rfl Try.underlying30 ta30 rfl) ?_
  refine JQ.op rfl rfl rfl (V.mv rfl rfl) ?_
  obtain ⟨hC1, h0⟩ := B.chk h0
  refine JQ.op rfl rfl rfl (V.ixS hS2_s rfl rfl rfl tl30 ts2 hC1) ?_
  refine JQ.op rfl rfl rfl (V.elS0 hS2_s hC1 rfl rfl Try.underlying2 ta2 rfl) ?_
  refine JQ.op rfl rfl rfl (V.ldP0 hP2 rfl rfl Try.underlying30 ta30 rfl) ?_
  refine JQ.op rfl rfl rfl (V.mv rfl rfl) ?_
  obtain ⟨hC2, h0⟩ := B.chk h0
  refine JQ.op rfl rfl rfl (V.ixS hS2_s rfl rfl rfl tl30 ts2 hC2) ?_
  refine JQ.op rfl rfl rfl (V.elS0 hS2_s hC2 rfl rfl Try.underlying2 ta2 rfl) ?_
  refine JQ.op rfl rfl rfl (V.ar rfl rfl rfl rfl) ?_
  refine JQ.op rfl rfl rfl (V.as rfl rfl) ?_
  obtain ⟨t3, et3, h0⟩ := B.lt h0
  refine JQ.val (congrArg (Value.int .i64) et3) ?_
  refine JQ.nil ?_
  refine J.tN ?_
  refine J.ret ?_
  obtain rfl := B.e h0
  exact J.ret1 rfl rfl fun w H => ⟨(), rfl, H.pick [] (by decide)⟩

/-! ### impl.OrderGrades: function 12 -/
noncomputable def impl_OrderGrades.b1 (p0_grades : (List (List impl_Point))) (p1_light : Int) (p2_dark : Int) : (Int × (List Int) × (List Int)) → Option (Step (Int × (List Int) × (List Int)) (Sum ((List Int) × (List Int)) ((List Int) × Int))) := fun s15 => bif (decide (s15.1 < (p0_grades.length : Int))) then (bif (inB s15.1 p0_grades.length) then ((impl_Curve_scale.f (rdN p0_grades s15.1) p1_light p2_dark).bind fun r23 => bif (r23.2 != 0) then (some (.done (.inr (([] : List Int), r23.2)))) else (bif (roomB s15.2.1.length 1 8) then (bif (roomB s15.2.2.length 1 8) then (some (.next (IntKind.wrap .i64 (s15.1 + 1), s15.2.1 ++ [s15.1], s15.2.2 ++ [r23.1]))) else none) else none)) else none) else (some (.done (.inl (s15.2.1, s15.2.2))))
noncomputable def impl_OrderGrades.f (p0_grades : (List (List impl_Point))) (p1_light : Int) (p2_dark : Int) : Option ((List Int) × Int) := (impl_areScaled.f p1_light p2_dark).bind fun r1 => (impl_gradesCode.f p0_grades r1).bind fun r4 => bif (r4 != 0) then (some (([] : List Int), r4)) else ((loopW (impl_OrderGrades.b1 p0_grades p1_light p2_dark) (0, ([] : List Int), ([] : List Int))).bind (Sum.elim (fun y38 => (slices_SortStableFunc_int64_int64.f y38.1.length (vecOf y38.1) (fun z41 z42 => impl_OrderGrades_1.f z41 z42 y38.2)).bind fun r43 => some (r43.toList, 0)) (fun r => some r)))
set_option maxRecDepth 100000 in
theorem impl_OrderGrades.calls (v0 : Value) (p0_grades : (List (List impl_Point))) (p1_light : Int) (p2_dark : Int) (r : (List Int) × Int) (w : World) (H0 : Own [] w w []) (hS0 : SlN [] w v0 40 78 enc_impl_Point p0_grades) (h0 : impl_OrderGrades.f p0_grades p1_light p2_dark = some r) :
    Calls Try.prog 12 #[v0, .int .i64 p1_light, .int .i64 p2_dark] w (fun e w' => ∃ gh : Value, e = .returned (.tuple #[gh, .int .i64 r.2]) ∧ Own [] w w' [.rowE gh 2 (eI .i64) r.1]) := by
  unfold impl_OrderGrades.f at h0
  replace h0 := B.top h0
  refine calls_of_J (args := [v0, .int .i64 p1_light, .int .i64 p2_dark]) Try.func12 rfl Try.ntmps12 rfl [(0, v0), (1, .int .i64 p1_light), (2, .int .i64 p2_dark)] rfl H0 ?_
  obtain ⟨us0_, hN0, hE0⟩ := id hS0
  refine J.seq ?_
  refine J.region ?_
  refine J.op rfl rfl rfl (V.as rfl rfl) ?_
  refine J.op rfl rfl rfl (V.as rfl rfl) ?_
  refine J.nil ?_
  refine J.tN ?_
  refine J.seq ?_
  refine J.seq ?_
  refine J.region ?_
  refine J.op rfl rfl rfl (V.mv rfl rfl) ?_
  refine J.op rfl rfl rfl (V.mv rfl rfl) ?_
  refine J.op rfl rfl rfl (V.mv rfl rfl) ?_
  obtain ⟨r1, hr2, h0⟩ := B.bind h0
  refine J.clA (l := [.tmp 16, .tmp 17]) [] [] cf43 (wN rfl) rfl rfl rfl rfl rfl rfl (fun w H => impl_areScaled.calls p1_light p2_dark r1 w (Own.refl w)  hr2) fun g3 => ?_
  obtain ⟨r4, hr5, h0⟩ := B.bind h0
  refine J.clA (l := [.tmp 15, .tmp 18]) [] [] cf37 (wN rfl) rfl rfl rfl rfl rfl rfl (fun w H => impl_gradesCode.calls v0 p0_grades r1 r4 w (Own.refl w) (SlN.laterA hS0 H) hr5) fun g6 => ?_
  refine J.op rfl rfl rfl (V.as rfl rfl) ?_
  refine J.nil ?_
  refine J.tN ?_
  refine J.seq ?_
  refine J.region ?_
  refine J.op rfl rfl rfl (V.mv rfl rfl) ?_
  refine J.op rfl rfl rfl (V.cmp rfl rfl rfl rfl) ?_
  refine J.nil ?_
  refine J.tN ?_
  refine J.cond rfl (fun hB7 => ?_) (fun hB7 => ?_)
  · replace h0 := B.t hB7 h0
    refine J.seq ?_
    refine J.region ?_
    refine J.op rfl rfl rfl (V.mv rfl rfl) ?_
    refine J.op rfl rfl rfl (V.as rfl rfl) ?_
    refine J.op rfl rfl rfl (V.as rfl rfl) ?_
    refine J.nil ?_
    refine J.tN ?_
    refine J.ret ?_
    refine J.tR ?_
    refine J.nilRow 2 (eI .i64) ?_
    obtain rfl := B.e h0
    exact J.ret2 rfl rfl rfl fun w H => ⟨(.slice none 0 0), rfl, H.pick [0] (by decide)⟩
  · replace h0 := B.f hB7 h0
    refine J.skip ?_
    refine J.tN ?_
    refine J.seq ?_
    refine J.region ?_
    refine J.bs (l := []) (cs := []) (E := 2) rfl rfl rfl rfl rfl (fun w => by kernel_rfl) fun b9 => ?_
    refine J.bs (l := []) (cs := []) (E := 2) rfl rfl rfl rfl rfl (fun w => by kernel_rfl) fun b11 => ?_
    refine J.alloc rfl rfl rfl rfl tz30 rfl fun b13 => ?_
    refine J.op rfl rfl rfl (V.as rfl rfl) ?_
    refine J.pickE [1, 0, 2] (es' := [.blk b11 [] 2, .blk b13 [.slice none 0 0] 30, .blk b9 [] 2]) rfl rfl ?_
    refine J.blkRowE (eI .i64) ([] : List Int) 0 rfl rfl rfl ?_
    refine J.stB 1 rfl rfl rfl rfl rfl rfl ts30 (fun _ _ => rfl) rfl ?_
    refine J.nil ?_
    refine J.tN ?_
    refine J.seq ?_
    refine J.seq ?_
    refine J.region ?_
    refine J.op rfl rfl rfl (V.mv rfl rfl) ?_
    refine J.op rfl rfl rfl (V.lenS hN0 rfl rfl tl26) ?_
    refine J.op rfl rfl rfl (V.mv rfl rfl) ?_
    refine J.nil ?_
    refine J.tN ?_
    refine J.pickE [2, 0, 1] (es' := [.blk b9 [] 2, .rowE (.slice (some ⟨b11, 0, none⟩) 0 0) 2 (eI .i64) ([] : List Int), .blk b13 [(.slice (some ⟨b11, 0, none⟩) 0 0)] 30]) rfl rfl ?_
    refine J.blkRowE (eI .i64) ([] : List Int) 0 rfl rfl rfl ?_
    obtain ⟨o40, hy39, h0⟩ := B.bind h0
    refine J.cutQ (γ := ((List Int) × (List Int)) × (Value × Value)) (fun gy38 => o40 = .inl gy38.1) (fun gy38 => [(9, gy38.2.1), (10, bp b13 0)]) (fun gy38 => [.rowE gy38.2.1 2 (eI .i64) gy38.1.1, .rowE gy38.2.2 2 (eI .i64) gy38.1.2, .blk b13 [gy38.2.2] 30]) ?_ ?_
    · refine J.block ?_
      refine J.loop (γ := Value × Value) hy39 (fun s15 g16 => [(1, .int .i64 p1_light), (2, .int .i64 p2_dark), (9, g16.1), (10, bp b13 0), (25, v0), (26, .int .i64 (p0_grades.length : Int)), (27, .int .i64 s15.1)]) (fun s15 g16 => [.rowE g16.1 2 (eI .i64) s15.2.1, .rowE g16.2 2 (eI .i64) s15.2.2, .blk b13 [g16.2] 30]) ((.slice (some ⟨b9, 0, none⟩) 0 0), (.slice (some ⟨b11, 0, none⟩) 0 0)) ?_ ?_
      · exact J.keep _ rfl (J.pickE [0, 1, 2] rfl rfl J.here)
      · intro rec17 s15 g16 h1
        unfold impl_OrderGrades.b1 at h1
        refine J.seq ?_
        refine J.region ?_
        refine J.op rfl rfl rfl (V.cmp rfl rfl rfl rfl) ?_
        refine J.nil ?_
        refine J.tN ?_
        refine J.seq ?_
        refine J.cond rfl (fun hB18 => ?_) (fun hB18 => ?_)
        · replace h1 := B.t hB18 h1
          refine J.skip ?_
          refine J.tN ?_
          refine J.seq ?_
          refine J.block ?_
          refine J.seq ?_
          refine J.region ?_
          refine J.op rfl rfl rfl (V.mv rfl rfl) ?_
          obtain ⟨hC19, h1⟩ := B.chk h1
          refine J.op rfl rfl rfl (V.ixS hN0 rfl rfl rfl tl26 ts40 hC19) ?_
          obtain ⟨u20, hu21, hS22⟩ := hE0 _ hC19
          refine J.op rfl rfl rfl (V.nld hN0 hC19 hu21 rfl rfl Try.underlying40 ta40) ?_
          refine J.op rfl rfl rfl (V.as rfl rfl) ?_
          refine J.op rfl rfl rfl (V.as rfl rfl) ?_
          refine J.nil ?_
          refine J.tN ?_
          refine J.seq ?_
          refine J.region ?_
          refine J.op rfl rfl rfl (V.mv rfl rfl) ?_
          refine J.op rfl rfl rfl (V.mv rfl rfl) ?_
          refine J.op rfl rfl rfl (V.mv rfl rfl) ?_
          obtain ⟨r23, hr24, h1⟩ := B.bind h1
          refine J.clA (l := [.tmp 33, .tmp 34, .tmp 35]) [] [.rowE g16.1 2 (eI .i64) s15.2.1, .rowE g16.2 2 (eI .i64) s15.2.2, .blk b13 [g16.2] 30] cf44 (wN rfl) rfl rfl rfl rfl rfl rfl (fun w H => impl_Curve_scale.calls u20 (rdN p0_grades s15.1) p1_light p2_dark r23 w (Own.refl w) (Sl.laterA hS22 H) hr24) fun g25 => ?_
          refine J.op rfl rfl rfl (V.mv rfl rfl) ?_
          refine J.op rfl rfl rfl (V.ex rfl rfl rfl) ?_
          refine J.op rfl rfl rfl (V.ex rfl rfl rfl) ?_
          refine J.op rfl rfl rfl (V.as rfl rfl) ?_
          refine J.op rfl rfl rfl (V.as rfl rfl) ?_
          refine J.nil ?_
          refine J.tN ?_
          refine J.seq ?_
          refine J.seq ?_
          refine J.region ?_
          refine J.op rfl rfl rfl (V.mv rfl rfl) ?_
          refine J.op rfl rfl rfl (V.cmp rfl rfl rfl rfl) ?_
          refine J.nil ?_
          refine J.tN ?_
          refine J.cond rfl (fun hB26 => ?_) (fun hB26 => ?_)
          · replace h1 := B.t hB26 h1
            refine J.seq ?_
            refine J.region ?_
            refine J.op rfl rfl rfl (V.mv rfl rfl) ?_
            refine J.op rfl rfl rfl (V.as rfl rfl) ?_
            refine J.op rfl rfl rfl (V.as rfl rfl) ?_
            refine J.nil ?_
            refine J.tN ?_
            refine J.ret ?_
            refine J.tR ?_
            refine J.bR ?_
            refine J.tR ?_
            refine J.tR ?_
            refine J.bR ?_
            refine J.tR ?_
            refine J.tR ?_
            refine J.nilRow 2 (eI .i64) ?_
            obtain rfl := B.d h1
            replace h0 := B.inr h0
            obtain rfl := B.e h0
            exact J.ret2 rfl rfl rfl fun w H => ⟨(.slice none 0 0), rfl, H.pick [0] (by decide)⟩
          · replace h1 := B.f hB26 h1
            refine J.skip ?_
            refine J.tN ?_
            obtain ⟨hC31, h1⟩ := B.chk h1
            obtain ⟨hC35, h1⟩ := B.chk h1
            refine J.cutQ (γ := Nat × Nat × Value × Value) (fun _ => True) (fun gx36 => [(1, .int .i64 p1_light), (2, .int .i64 p2_dark), (9, gx36.2.2.1), (10, bp b13 0), (25, v0), (26, .int .i64 (p0_grades.length : Int)), (27, .int .i64 s15.1)]) (fun gx36 => [.blk gx36.1 [.int .i64 r23.1] 2, .blk gx36.2.1 [.int .i64 s15.1] 2, .rowE gx36.2.2.1 2 (eI .i64) (s15.2.1 ++ [s15.1]), .rowE gx36.2.2.2 2 (eI .i64) (s15.2.2 ++ [r23.1]), .blk b13 [gx36.2.2.2] 30]) ?_ ?_
            · refine J.any 10 rfl [] mixed ?_
              refine JH.take (i := 0) [] rfl (by kernel_rfl) rfl rfl rfl rfl rfl (V.mv rfl rfl) ?_
              refine JH.take (i := 1) [] rfl (by kernel_rfl) rfl rfl rfl rfl rfl (V.mv rfl rfl) ?_
              refine JH.take (i := 5) [] rfl (by kernel_rfl) rfl rfl rfl rfl rfl (V.mv rfl rfl) ?_
              refine JH.all [2, 4, 6] (by kernel_rfl) rfl (JHall.cons (JH.op rfl ?_) (JHall.cons (JH.op rfl ?_) (JHall.cons (JH.op rfl ?_) (JHall.nil))))
              · refine J.bs (l := [(0, .tmp 43)]) (cs := [.int .i64 s15.1]) (E := 2) rfl rfl rfl rfl rfl (fun w => by kernel_rfl) fun b28 => ?_
                refine J.nil ?_
                refine JH.back [] rfl rfl ?_
                refine JH.all [3, 4, 6] (by kernel_rfl) rfl (JHall.cons (JH.op rfl ?_) (JHall.cons (JH.op rfl ?_) (JHall.cons (JH.op rfl ?_) (JHall.nil))))
                · obtain ⟨_, qi1, qi2, qi3, qi4⟩ := ti2
                  refine J.ap1 (e := (eI .i64)) (xs := s15.2.1) 1 0 s15.1 hC31 qi1 tl30 qi2 qi3 qi4 rfl rfl rfl rfl rfl rfl rfl rfl rfl rfl fun v30 => ?_
                  refine J.nil ?_
                  refine JH.back [] rfl rfl ?_
                  refine JH.all [4, 6] (by kernel_rfl) rfl (JHall.cons (JH.op rfl ?_) (JHall.cons (JH.op rfl ?_) (JHall.nil)))
                  · refine J.op rfl rfl rfl (V.ldB 3 rfl rfl rfl Try.underlying30 ta30 rfl) ?_
                    refine J.nil ?_
                    refine JH.back [] rfl rfl ?_
                    refine JH.all [6] (by kernel_rfl) rfl (JHall.cons (JH.op rfl ?_) (JHall.nil))
                    refine J.bs (l := [(0, .tmp 47)]) (cs := [.int .i64 r23.1]) (E := 2) rfl rfl rfl rfl rfl (fun w => by kernel_rfl) fun b32 => ?_
                    refine J.nil ?_
                    refine JH.back [] rfl rfl ?_
                    refine JH.all [7] (by kernel_rfl) rfl (JHall.cons (JH.op rfl ?_) (JHall.nil))
                    obtain ⟨_, qi1, qi2, qi3, qi4⟩ := ti2
                    refine J.ap1 (e := (eI .i64)) (xs := s15.2.2) 3 0 r23.1 hC35 qi1 tl30 qi2 qi3 qi4 rfl rfl rfl rfl rfl rfl rfl rfl rfl rfl fun v34 => ?_
                    refine J.nil ?_
                    refine JH.back [] rfl rfl ?_
                    refine JH.take (i := 8) [] rfl (by kernel_rfl) rfl rfl rfl rfl rfl (V.as rfl rfl) ?_
                    refine JH.all [9] (by kernel_rfl) rfl (JHall.cons (JH.op rfl ?_) (JHall.nil))
                    refine J.stB 4 rfl rfl rfl rfl rfl rfl ts30 (fun _ H => (Own.sl0 3 H rfl).one) rfl ?_
                    refine J.nil ?_
                    refine JH.back [] rfl rfl ?_
                    refine JH.fin (by kernel_rfl) ?_
                    refine J.tN (J.to (b32, b28, v30, v34) trivial ?_)
                    exact J.keep _ rfl (J.pickE [0, 1, 2, 3, 4] rfl rfl J.here)
                  · refine J.bs (l := [(0, .tmp 47)]) (cs := [.int .i64 r23.1]) (E := 2) rfl rfl rfl rfl rfl (fun w => by kernel_rfl) fun b32 => ?_
                    refine J.nil ?_
                    refine JH.back [] rfl rfl ?_
                    refine JH.all [4] (by kernel_rfl) rfl (JHall.cons (JH.op rfl ?_) (JHall.nil))
                    refine J.op rfl rfl rfl (V.ldB 4 rfl rfl rfl Try.underlying30 ta30 rfl) ?_
                    refine J.nil ?_
                    refine JH.back [] rfl rfl ?_
                    refine JH.all [7] (by kernel_rfl) rfl (JHall.cons (JH.op rfl ?_) (JHall.nil))
                    obtain ⟨_, qi1, qi2, qi3, qi4⟩ := ti2
                    refine J.ap1 (e := (eI .i64)) (xs := s15.2.2) 3 0 r23.1 hC35 qi1 tl30 qi2 qi3 qi4 rfl rfl rfl rfl rfl rfl rfl rfl rfl rfl fun v34 => ?_
                    refine J.nil ?_
                    refine JH.back [] rfl rfl ?_
                    refine JH.take (i := 8) [] rfl (by kernel_rfl) rfl rfl rfl rfl rfl (V.as rfl rfl) ?_
                    refine JH.all [9] (by kernel_rfl) rfl (JHall.cons (JH.op rfl ?_) (JHall.nil))
                    refine J.stB 4 rfl rfl rfl rfl rfl rfl ts30 (fun _ H => (Own.sl0 3 H rfl).one) rfl ?_
                    refine J.nil ?_
                    refine JH.back [] rfl rfl ?_
                    refine JH.fin (by kernel_rfl) ?_
                    refine J.tN (J.to (b32, b28, v30, v34) trivial ?_)
                    exact J.keep _ rfl (J.pickE [0, 1, 2, 3, 4] rfl rfl J.here)
                · refine J.op rfl rfl rfl (V.ldB 3 rfl rfl rfl Try.underlying30 ta30 rfl) ?_
                  refine J.nil ?_
                  refine JH.back [] rfl rfl ?_
                  refine JH.all [3, 6] (by kernel_rfl) rfl (JHall.cons (JH.op rfl ?_) (JHall.cons (JH.op rfl ?_) (JHall.nil)))
                  · obtain ⟨_, qi1, qi2, qi3, qi4⟩ := ti2
                    refine J.ap1 (e := (eI .i64)) (xs := s15.2.1) 1 0 s15.1 hC31 qi1 tl30 qi2 qi3 qi4 rfl rfl rfl rfl rfl rfl rfl rfl rfl rfl fun v30 => ?_
                    refine J.nil ?_
                    refine JH.back [] rfl rfl ?_
                    refine JH.all [6] (by kernel_rfl) rfl (JHall.cons (JH.op rfl ?_) (JHall.nil))
                    refine J.bs (l := [(0, .tmp 47)]) (cs := [.int .i64 r23.1]) (E := 2) rfl rfl rfl rfl rfl (fun w => by kernel_rfl) fun b32 => ?_
                    refine J.nil ?_
                    refine JH.back [] rfl rfl ?_
                    refine JH.all [7] (by kernel_rfl) rfl (JHall.cons (JH.op rfl ?_) (JHall.nil))
                    obtain ⟨_, qi1, qi2, qi3, qi4⟩ := ti2
                    refine J.ap1 (e := (eI .i64)) (xs := s15.2.2) 3 0 r23.1 hC35 qi1 tl30 qi2 qi3 qi4 rfl rfl rfl rfl rfl rfl rfl rfl rfl rfl fun v34 => ?_
                    refine J.nil ?_
                    refine JH.back [] rfl rfl ?_
                    refine JH.take (i := 8) [] rfl (by kernel_rfl) rfl rfl rfl rfl rfl (V.as rfl rfl) ?_
                    refine JH.all [9] (by kernel_rfl) rfl (JHall.cons (JH.op rfl ?_) (JHall.nil))
                    refine J.stB 4 rfl rfl rfl rfl rfl rfl ts30 (fun _ H => (Own.sl0 3 H rfl).one) rfl ?_
                    refine J.nil ?_
                    refine JH.back [] rfl rfl ?_
                    refine JH.fin (by kernel_rfl) ?_
                    refine J.tN (J.to (b32, b28, v30, v34) trivial ?_)
                    exact J.keep _ rfl (J.pickE [0, 1, 2, 3, 4] rfl rfl J.here)
                  · refine J.bs (l := [(0, .tmp 47)]) (cs := [.int .i64 r23.1]) (E := 2) rfl rfl rfl rfl rfl (fun w => by kernel_rfl) fun b32 => ?_
                    refine J.nil ?_
                    refine JH.back [] rfl rfl ?_
                    refine JH.all [3] (by kernel_rfl) rfl (JHall.cons (JH.op rfl ?_) (JHall.nil))
                    obtain ⟨_, qi1, qi2, qi3, qi4⟩ := ti2
                    refine J.ap1 (e := (eI .i64)) (xs := s15.2.1) 2 1 s15.1 hC31 qi1 tl30 qi2 qi3 qi4 rfl rfl rfl rfl rfl rfl rfl rfl rfl rfl fun v30 => ?_
                    refine J.nil ?_
                    refine JH.back [] rfl rfl ?_
                    refine JH.all [7] (by kernel_rfl) rfl (JHall.cons (JH.op rfl ?_) (JHall.nil))
                    obtain ⟨_, qi1, qi2, qi3, qi4⟩ := ti2
                    refine J.ap1 (e := (eI .i64)) (xs := s15.2.2) 3 0 r23.1 hC35 qi1 tl30 qi2 qi3 qi4 rfl rfl rfl rfl rfl rfl rfl rfl rfl rfl fun v34 => ?_
                    refine J.nil ?_
                    refine JH.back [] rfl rfl ?_
                    refine JH.take (i := 8) [] rfl (by kernel_rfl) rfl rfl rfl rfl rfl (V.as rfl rfl) ?_
                    refine JH.all [9] (by kernel_rfl) rfl (JHall.cons (JH.op rfl ?_) (JHall.nil))
                    refine J.stB 4 rfl rfl rfl rfl rfl rfl ts30 (fun _ H => (Own.sl0 3 H rfl).one) rfl ?_
                    refine J.nil ?_
                    refine JH.back [] rfl rfl ?_
                    refine JH.fin (by kernel_rfl) ?_
                    refine J.tN (J.to (b32, b28, v30, v34) trivial ?_)
                    exact J.keep _ rfl (J.pickE [0, 1, 2, 3, 4] rfl rfl J.here)
                · refine J.bs (l := [(0, .tmp 47)]) (cs := [.int .i64 r23.1]) (E := 2) rfl rfl rfl rfl rfl (fun w => by kernel_rfl) fun b32 => ?_
                  refine J.nil ?_
                  refine JH.back [] rfl rfl ?_
                  refine JH.all [3, 4] (by kernel_rfl) rfl (JHall.cons (JH.op rfl ?_) (JHall.cons (JH.op rfl ?_) (JHall.nil)))
                  · obtain ⟨_, qi1, qi2, qi3, qi4⟩ := ti2
                    refine J.ap1 (e := (eI .i64)) (xs := s15.2.1) 2 1 s15.1 hC31 qi1 tl30 qi2 qi3 qi4 rfl rfl rfl rfl rfl rfl rfl rfl rfl rfl fun v30 => ?_
                    refine J.nil ?_
                    refine JH.back [] rfl rfl ?_
                    refine JH.all [4] (by kernel_rfl) rfl (JHall.cons (JH.op rfl ?_) (JHall.nil))
                    refine J.op rfl rfl rfl (V.ldB 4 rfl rfl rfl Try.underlying30 ta30 rfl) ?_
                    refine J.nil ?_
                    refine JH.back [] rfl rfl ?_
                    refine JH.all [7] (by kernel_rfl) rfl (JHall.cons (JH.op rfl ?_) (JHall.nil))
                    obtain ⟨_, qi1, qi2, qi3, qi4⟩ := ti2
                    refine J.ap1 (e := (eI .i64)) (xs := s15.2.2) 3 0 r23.1 hC35 qi1 tl30 qi2 qi3 qi4 rfl rfl rfl rfl rfl rfl rfl rfl rfl rfl fun v34 => ?_
                    refine J.nil ?_
                    refine JH.back [] rfl rfl ?_
                    refine JH.take (i := 8) [] rfl (by kernel_rfl) rfl rfl rfl rfl rfl (V.as rfl rfl) ?_
                    refine JH.all [9] (by kernel_rfl) rfl (JHall.cons (JH.op rfl ?_) (JHall.nil))
                    refine J.stB 4 rfl rfl rfl rfl rfl rfl ts30 (fun _ H => (Own.sl0 3 H rfl).one) rfl ?_
                    refine J.nil ?_
                    refine JH.back [] rfl rfl ?_
                    refine JH.fin (by kernel_rfl) ?_
                    refine J.tN (J.to (b32, b28, v30, v34) trivial ?_)
                    exact J.keep _ rfl (J.pickE [0, 1, 2, 3, 4] rfl rfl J.here)
                  · refine J.op rfl rfl rfl (V.ldB 4 rfl rfl rfl Try.underlying30 ta30 rfl) ?_
                    refine J.nil ?_
                    refine JH.back [] rfl rfl ?_
                    refine JH.all [3] (by kernel_rfl) rfl (JHall.cons (JH.op rfl ?_) (JHall.nil))
                    obtain ⟨_, qi1, qi2, qi3, qi4⟩ := ti2
                    refine J.ap1 (e := (eI .i64)) (xs := s15.2.1) 2 1 s15.1 hC31 qi1 tl30 qi2 qi3 qi4 rfl rfl rfl rfl rfl rfl rfl rfl rfl rfl fun v30 => ?_
                    refine J.nil ?_
                    refine JH.back [] rfl rfl ?_
                    refine JH.all [7] (by kernel_rfl) rfl (JHall.cons (JH.op rfl ?_) (JHall.nil))
                    obtain ⟨_, qi1, qi2, qi3, qi4⟩ := ti2
                    refine J.ap1 (e := (eI .i64)) (xs := s15.2.2) 3 0 r23.1 hC35 qi1 tl30 qi2 qi3 qi4 rfl rfl rfl rfl rfl rfl rfl rfl rfl rfl fun v34 => ?_
                    refine J.nil ?_
                    refine JH.back [] rfl rfl ?_
                    refine JH.take (i := 8) [] rfl (by kernel_rfl) rfl rfl rfl rfl rfl (V.as rfl rfl) ?_
                    refine JH.all [9] (by kernel_rfl) rfl (JHall.cons (JH.op rfl ?_) (JHall.nil))
                    refine J.stB 4 rfl rfl rfl rfl rfl rfl ts30 (fun _ H => (Own.sl0 3 H rfl).one) rfl ?_
                    refine J.nil ?_
                    refine JH.back [] rfl rfl ?_
                    refine JH.fin (by kernel_rfl) ?_
                    refine J.tN (J.to (b32, b28, v30, v34) trivial ?_)
                    exact J.keep _ rfl (J.pickE [0, 1, 2, 3, 4] rfl rfl J.here)
              · refine J.op rfl rfl rfl (V.ldB 2 rfl rfl rfl Try.underlying30 ta30 rfl) ?_
                refine J.nil ?_
                refine JH.back [] rfl rfl ?_
                refine JH.all [2, 6] (by kernel_rfl) rfl (JHall.cons (JH.op rfl ?_) (JHall.cons (JH.op rfl ?_) (JHall.nil)))
                · refine J.bs (l := [(0, .tmp 43)]) (cs := [.int .i64 s15.1]) (E := 2) rfl rfl rfl rfl rfl (fun w => by kernel_rfl) fun b28 => ?_
                  refine J.nil ?_
                  refine JH.back [] rfl rfl ?_
                  refine JH.all [3, 6] (by kernel_rfl) rfl (JHall.cons (JH.op rfl ?_) (JHall.cons (JH.op rfl ?_) (JHall.nil)))
                  · obtain ⟨_, qi1, qi2, qi3, qi4⟩ := ti2
                    refine J.ap1 (e := (eI .i64)) (xs := s15.2.1) 1 0 s15.1 hC31 qi1 tl30 qi2 qi3 qi4 rfl rfl rfl rfl rfl rfl rfl rfl rfl rfl fun v30 => ?_
                    refine J.nil ?_
                    refine JH.back [] rfl rfl ?_
                    refine JH.all [6] (by kernel_rfl) rfl (JHall.cons (JH.op rfl ?_) (JHall.nil))
                    refine J.bs (l := [(0, .tmp 47)]) (cs := [.int .i64 r23.1]) (E := 2) rfl rfl rfl rfl rfl (fun w => by kernel_rfl) fun b32 => ?_
                    refine J.nil ?_
                    refine JH.back [] rfl rfl ?_
                    refine JH.all [7] (by kernel_rfl) rfl (JHall.cons (JH.op rfl ?_) (JHall.nil))
                    obtain ⟨_, qi1, qi2, qi3, qi4⟩ := ti2
                    refine J.ap1 (e := (eI .i64)) (xs := s15.2.2) 3 0 r23.1 hC35 qi1 tl30 qi2 qi3 qi4 rfl rfl rfl rfl rfl rfl rfl rfl rfl rfl fun v34 => ?_
                    refine J.nil ?_
                    refine JH.back [] rfl rfl ?_
                    refine JH.take (i := 8) [] rfl (by kernel_rfl) rfl rfl rfl rfl rfl (V.as rfl rfl) ?_
                    refine JH.all [9] (by kernel_rfl) rfl (JHall.cons (JH.op rfl ?_) (JHall.nil))
                    refine J.stB 4 rfl rfl rfl rfl rfl rfl ts30 (fun _ H => (Own.sl0 3 H rfl).one) rfl ?_
                    refine J.nil ?_
                    refine JH.back [] rfl rfl ?_
                    refine JH.fin (by kernel_rfl) ?_
                    refine J.tN (J.to (b32, b28, v30, v34) trivial ?_)
                    exact J.keep _ rfl (J.pickE [0, 1, 2, 3, 4] rfl rfl J.here)
                  · refine J.bs (l := [(0, .tmp 47)]) (cs := [.int .i64 r23.1]) (E := 2) rfl rfl rfl rfl rfl (fun w => by kernel_rfl) fun b32 => ?_
                    refine J.nil ?_
                    refine JH.back [] rfl rfl ?_
                    refine JH.all [3] (by kernel_rfl) rfl (JHall.cons (JH.op rfl ?_) (JHall.nil))
                    obtain ⟨_, qi1, qi2, qi3, qi4⟩ := ti2
                    refine J.ap1 (e := (eI .i64)) (xs := s15.2.1) 2 1 s15.1 hC31 qi1 tl30 qi2 qi3 qi4 rfl rfl rfl rfl rfl rfl rfl rfl rfl rfl fun v30 => ?_
                    refine J.nil ?_
                    refine JH.back [] rfl rfl ?_
                    refine JH.all [7] (by kernel_rfl) rfl (JHall.cons (JH.op rfl ?_) (JHall.nil))
                    obtain ⟨_, qi1, qi2, qi3, qi4⟩ := ti2
                    refine J.ap1 (e := (eI .i64)) (xs := s15.2.2) 3 0 r23.1 hC35 qi1 tl30 qi2 qi3 qi4 rfl rfl rfl rfl rfl rfl rfl rfl rfl rfl fun v34 => ?_
                    refine J.nil ?_
                    refine JH.back [] rfl rfl ?_
                    refine JH.take (i := 8) [] rfl (by kernel_rfl) rfl rfl rfl rfl rfl (V.as rfl rfl) ?_
                    refine JH.all [9] (by kernel_rfl) rfl (JHall.cons (JH.op rfl ?_) (JHall.nil))
                    refine J.stB 4 rfl rfl rfl rfl rfl rfl ts30 (fun _ H => (Own.sl0 3 H rfl).one) rfl ?_
                    refine J.nil ?_
                    refine JH.back [] rfl rfl ?_
                    refine JH.fin (by kernel_rfl) ?_
                    refine J.tN (J.to (b32, b28, v30, v34) trivial ?_)
                    exact J.keep _ rfl (J.pickE [0, 1, 2, 3, 4] rfl rfl J.here)
                · refine J.bs (l := [(0, .tmp 47)]) (cs := [.int .i64 r23.1]) (E := 2) rfl rfl rfl rfl rfl (fun w => by kernel_rfl) fun b32 => ?_
                  refine J.nil ?_
                  refine JH.back [] rfl rfl ?_
                  refine JH.all [2] (by kernel_rfl) rfl (JHall.cons (JH.op rfl ?_) (JHall.nil))
                  refine J.bs (l := [(0, .tmp 43)]) (cs := [.int .i64 s15.1]) (E := 2) rfl rfl rfl rfl rfl (fun w => by kernel_rfl) fun b28 => ?_
                  refine J.nil ?_
                  refine JH.back [] rfl rfl ?_
                  refine JH.all [3] (by kernel_rfl) rfl (JHall.cons (JH.op rfl ?_) (JHall.nil))
                  obtain ⟨_, qi1, qi2, qi3, qi4⟩ := ti2
                  refine J.ap1 (e := (eI .i64)) (xs := s15.2.1) 2 0 s15.1 hC31 qi1 tl30 qi2 qi3 qi4 rfl rfl rfl rfl rfl rfl rfl rfl rfl rfl fun v30 => ?_
                  refine J.nil ?_
                  refine JH.back [] rfl rfl ?_
                  refine JH.all [7] (by kernel_rfl) rfl (JHall.cons (JH.op rfl ?_) (JHall.nil))
                  obtain ⟨_, qi1, qi2, qi3, qi4⟩ := ti2
                  refine J.ap1 (e := (eI .i64)) (xs := s15.2.2) 3 1 r23.1 hC35 qi1 tl30 qi2 qi3 qi4 rfl rfl rfl rfl rfl rfl rfl rfl rfl rfl fun v34 => ?_
                  refine J.nil ?_
                  refine JH.back [] rfl rfl ?_
                  refine JH.take (i := 8) [] rfl (by kernel_rfl) rfl rfl rfl rfl rfl (V.as rfl rfl) ?_
                  refine JH.all [9] (by kernel_rfl) rfl (JHall.cons (JH.op rfl ?_) (JHall.nil))
                  refine J.stB 4 rfl rfl rfl rfl rfl rfl ts30 (fun _ H => (Own.sl0 3 H rfl).one) rfl ?_
                  refine J.nil ?_
                  refine JH.back [] rfl rfl ?_
                  refine JH.fin (by kernel_rfl) ?_
                  refine J.tN (J.to (b32, b28, v30, v34) trivial ?_)
                  exact J.keep _ rfl (J.pickE [1, 0, 2, 3, 4] rfl rfl J.here)
              · refine J.bs (l := [(0, .tmp 47)]) (cs := [.int .i64 r23.1]) (E := 2) rfl rfl rfl rfl rfl (fun w => by kernel_rfl) fun b32 => ?_
                refine J.nil ?_
                refine JH.back [] rfl rfl ?_
                refine JH.all [2, 4] (by kernel_rfl) rfl (JHall.cons (JH.op rfl ?_) (JHall.cons (JH.op rfl ?_) (JHall.nil)))
                · refine J.bs (l := [(0, .tmp 43)]) (cs := [.int .i64 s15.1]) (E := 2) rfl rfl rfl rfl rfl (fun w => by kernel_rfl) fun b28 => ?_
                  refine J.nil ?_
                  refine JH.back [] rfl rfl ?_
                  refine JH.all [3, 4] (by kernel_rfl) rfl (JHall.cons (JH.op rfl ?_) (JHall.cons (JH.op rfl ?_) (JHall.nil)))
                  · obtain ⟨_, qi1, qi2, qi3, qi4⟩ := ti2
                    refine J.ap1 (e := (eI .i64)) (xs := s15.2.1) 2 0 s15.1 hC31 qi1 tl30 qi2 qi3 qi4 rfl rfl rfl rfl rfl rfl rfl rfl rfl rfl fun v30 => ?_
                    refine J.nil ?_
                    refine JH.back [] rfl rfl ?_
                    refine JH.all [4] (by kernel_rfl) rfl (JHall.cons (JH.op rfl ?_) (JHall.nil))
                    refine J.op rfl rfl rfl (V.ldB 4 rfl rfl rfl Try.underlying30 ta30 rfl) ?_
                    refine J.nil ?_
                    refine JH.back [] rfl rfl ?_
                    refine JH.all [7] (by kernel_rfl) rfl (JHall.cons (JH.op rfl ?_) (JHall.nil))
                    obtain ⟨_, qi1, qi2, qi3, qi4⟩ := ti2
                    refine J.ap1 (e := (eI .i64)) (xs := s15.2.2) 3 1 r23.1 hC35 qi1 tl30 qi2 qi3 qi4 rfl rfl rfl rfl rfl rfl rfl rfl rfl rfl fun v34 => ?_
                    refine J.nil ?_
                    refine JH.back [] rfl rfl ?_
                    refine JH.take (i := 8) [] rfl (by kernel_rfl) rfl rfl rfl rfl rfl (V.as rfl rfl) ?_
                    refine JH.all [9] (by kernel_rfl) rfl (JHall.cons (JH.op rfl ?_) (JHall.nil))
                    refine J.stB 4 rfl rfl rfl rfl rfl rfl ts30 (fun _ H => (Own.sl0 3 H rfl).one) rfl ?_
                    refine J.nil ?_
                    refine JH.back [] rfl rfl ?_
                    refine JH.fin (by kernel_rfl) ?_
                    refine J.tN (J.to (b32, b28, v30, v34) trivial ?_)
                    exact J.keep _ rfl (J.pickE [1, 0, 2, 3, 4] rfl rfl J.here)
                  · refine J.op rfl rfl rfl (V.ldB 4 rfl rfl rfl Try.underlying30 ta30 rfl) ?_
                    refine J.nil ?_
                    refine JH.back [] rfl rfl ?_
                    refine JH.all [3] (by kernel_rfl) rfl (JHall.cons (JH.op rfl ?_) (JHall.nil))
                    obtain ⟨_, qi1, qi2, qi3, qi4⟩ := ti2
                    refine J.ap1 (e := (eI .i64)) (xs := s15.2.1) 2 0 s15.1 hC31 qi1 tl30 qi2 qi3 qi4 rfl rfl rfl rfl rfl rfl rfl rfl rfl rfl fun v30 => ?_
                    refine J.nil ?_
                    refine JH.back [] rfl rfl ?_
                    refine JH.all [7] (by kernel_rfl) rfl (JHall.cons (JH.op rfl ?_) (JHall.nil))
                    obtain ⟨_, qi1, qi2, qi3, qi4⟩ := ti2
                    refine J.ap1 (e := (eI .i64)) (xs := s15.2.2) 3 1 r23.1 hC35 qi1 tl30 qi2 qi3 qi4 rfl rfl rfl rfl rfl rfl rfl rfl rfl rfl fun v34 => ?_
                    refine J.nil ?_
                    refine JH.back [] rfl rfl ?_
                    refine JH.take (i := 8) [] rfl (by kernel_rfl) rfl rfl rfl rfl rfl (V.as rfl rfl) ?_
                    refine JH.all [9] (by kernel_rfl) rfl (JHall.cons (JH.op rfl ?_) (JHall.nil))
                    refine J.stB 4 rfl rfl rfl rfl rfl rfl ts30 (fun _ H => (Own.sl0 3 H rfl).one) rfl ?_
                    refine J.nil ?_
                    refine JH.back [] rfl rfl ?_
                    refine JH.fin (by kernel_rfl) ?_
                    refine J.tN (J.to (b32, b28, v30, v34) trivial ?_)
                    exact J.keep _ rfl (J.pickE [1, 0, 2, 3, 4] rfl rfl J.here)
                · refine J.op rfl rfl rfl (V.ldB 3 rfl rfl rfl Try.underlying30 ta30 rfl) ?_
                  refine J.nil ?_
                  refine JH.back [] rfl rfl ?_
                  refine JH.all [2] (by kernel_rfl) rfl (JHall.cons (JH.op rfl ?_) (JHall.nil))
                  refine J.bs (l := [(0, .tmp 43)]) (cs := [.int .i64 s15.1]) (E := 2) rfl rfl rfl rfl rfl (fun w => by kernel_rfl) fun b28 => ?_
                  refine J.nil ?_
                  refine JH.back [] rfl rfl ?_
                  refine JH.all [3] (by kernel_rfl) rfl (JHall.cons (JH.op rfl ?_) (JHall.nil))
                  obtain ⟨_, qi1, qi2, qi3, qi4⟩ := ti2
                  refine J.ap1 (e := (eI .i64)) (xs := s15.2.1) 2 0 s15.1 hC31 qi1 tl30 qi2 qi3 qi4 rfl rfl rfl rfl rfl rfl rfl rfl rfl rfl fun v30 => ?_
                  refine J.nil ?_
                  refine JH.back [] rfl rfl ?_
                  refine JH.all [7] (by kernel_rfl) rfl (JHall.cons (JH.op rfl ?_) (JHall.nil))
                  obtain ⟨_, qi1, qi2, qi3, qi4⟩ := ti2
                  refine J.ap1 (e := (eI .i64)) (xs := s15.2.2) 3 1 r23.1 hC35 qi1 tl30 qi2 qi3 qi4 rfl rfl rfl rfl rfl rfl rfl rfl rfl rfl fun v34 => ?_
                  refine J.nil ?_
                  refine JH.back [] rfl rfl ?_
                  refine JH.take (i := 8) [] rfl (by kernel_rfl) rfl rfl rfl rfl rfl (V.as rfl rfl) ?_
                  refine JH.all [9] (by kernel_rfl) rfl (JHall.cons (JH.op rfl ?_) (JHall.nil))
                  refine J.stB 4 rfl rfl rfl rfl rfl rfl ts30 (fun _ H => (Own.sl0 3 H rfl).one) rfl ?_
                  refine J.nil ?_
                  refine JH.back [] rfl rfl ?_
                  refine JH.fin (by kernel_rfl) ?_
                  refine J.tN (J.to (b32, b28, v30, v34) trivial ?_)
                  exact J.keep _ rfl (J.pickE [1, 0, 2, 3, 4] rfl rfl J.here)
            · intro gx36 _
              refine J.bN ?_
              refine J.tN ?_
              refine J.region ?_
              refine J.op rfl rfl rfl (V.ar rfl rfl rfl rfl) ?_
              refine J.op rfl rfl rfl (V.mv rfl rfl) ?_
              refine J.nil ?_
              refine J.tN (J.next (IntKind.wrap .i64 (s15.1 + 1), s15.2.1 ++ [s15.1], s15.2.2 ++ [r23.1]) (gx36.2.2.1, gx36.2.2.2) (B.n h1) ?_)
              exact J.keep _ rfl (J.pickE [2, 3, 4] rfl rfl J.here)
        · replace h1 := B.f hB18 h1
          refine J.exit ?_
          refine J.tE ?_
          refine J.tE ?_
          refine J.bE ?_
          obtain rfl := B.d h1
          refine J.tN (J.to ((s15.2.1, s15.2.2), (g16.1, g16.2)) rfl ?_)
          exact J.keep _ rfl (J.pickE [0, 1, 2] rfl rfl J.here)
    · intro gy38 hG
      replace h0 := B.inl hG h0
      refine J.tN ?_
      refine J.seq ?_
      refine J.region ?_
      refine J.op rfl rfl rfl (V.mv rfl rfl) ?_
      refine J.op rfl rfl rfl (V.fn (l := [.tmp 10]) rfl rfl) ?_
      refine J.rowV ?_
      obtain ⟨r43, hr44, h0⟩ := B.bind h0
      refine J.clA (l := [.tmp 51, .tmp 52]) [.row gy38.2.1 2 1 gy38.1.1.length (encA .i64 (vecOf gy38.1.1))] [.rowE gy38.2.2 2 (eI .i64) gy38.1.2, .blk b13 [gy38.2.2] 30] cf45 (wN rfl) rfl rfl rfl rfl rfl rfl (fun w H => slices_SortStableFunc_int64_int64.calls gy38.2.1 gy38.1.1.length 2 (vecOf gy38.1.1) 46 (#[bp b13 0]) (fun z41 z42 => impl_OrderGrades_1.f z41 z42 gy38.1.2) r43 w H.enterA (cf46 : CallsFn _ 46) (fun w2 z41 z42 r HO  hp => impl_OrderGrades_1.calls z41 z42 (bp b13 0) gy38.1.2 gy38.2.2 r w2 (Own.refl w2) (Sl.kept (Own.slA 0 H rfl) HO) (Rp.kept (Own.rpA 1 H rfl) HO) hp) hr44) fun g45 => ?_
      refine J.vRow ?_
      refine J.nil ?_
      refine J.tN ?_
      refine J.seq ?_
      refine J.region ?_
      refine J.op rfl rfl rfl (V.mv rfl rfl) ?_
      refine J.op rfl rfl rfl (V.as rfl rfl) ?_
      refine J.op rfl rfl rfl (V.as rfl rfl) ?_
      refine J.nil ?_
      refine J.tN ?_
      refine J.ret ?_
      obtain rfl := B.e h0
      exact J.ret2 rfl rfl rfl fun w H => ⟨gy38.2.1, rfl, H.pick [0] (by decide)⟩

/-! ### laws.eqInt64S: function 13 -/
noncomputable def laws_eqInt64S.b1 (p0_a : (List Int)) (p1_b : (List Int)) : Int → Option (Step (Int) (Sum (Unit) (Bool))) := fun s2 => bif (decide (s2 < (p0_a.length : Int))) then (bif (inB s2 p0_a.length) then (bif (inB s2 p1_b.length) then (bif ((rd (eI .i64) p0_a s2) != (rd (eI .i64) p1_b s2)) then (some (.done (.inr false))) else ((some (IntKind.wrap .i64 (s2 + 1))).bind fun i_9 => some (.next i_9))) else none) else none) else (some (.done (.inl ())))
noncomputable def laws_eqInt64S.f (p0_a : (List Int)) (p1_b : (List Int)) : Option (Bool) := bif ((p0_a.length : Int) != (p1_b.length : Int)) then (some false) else ((loopW (laws_eqInt64S.b1 p0_a p1_b) 0).bind (Sum.elim (fun y11 => some true) (fun r => some r)))
set_option maxRecDepth 100000 in
theorem laws_eqInt64S.calls (v0 : Value) (p0_a : (List Int)) (v1 : Value) (p1_b : (List Int)) (r : Bool) (w : World) (H0 : Own [] w w []) (hS0 : SlE [] w v0 2 (eI .i64) p0_a) (hS1 : SlE [] w v1 2 (eI .i64) p1_b) (h0 : laws_eqInt64S.f p0_a p1_b = some r) :
    Calls Try.prog 13 #[v0, v1] w (fun e w' => ∃ _ : Unit, e = .returned (.bool r) ∧ Own [] w w' []) := by
  unfold laws_eqInt64S.f at h0
  replace h0 := B.top h0
  refine calls_of_J (args := [v0, v1]) Try.func13 rfl Try.ntmps13 rfl [(0, v0), (1, v1)] rfl H0 ?_
  refine J.seq ?_
  refine J.region ?_
  refine J.op rfl rfl rfl (V.as rfl rfl) ?_
  refine J.nil ?_
  refine J.tN ?_
  refine J.seq ?_
  refine J.seq ?_
  refine J.region ?_
  refine J.op rfl rfl rfl (V.mv rfl rfl) ?_
  refine J.op rfl rfl rfl (V.lenS hS0 rfl rfl tl30) ?_
  refine J.op rfl rfl rfl (V.mv rfl rfl) ?_
  refine J.op rfl rfl rfl (V.lenS hS1 rfl rfl tl30) ?_
  refine J.op rfl rfl rfl (V.cmp rfl rfl rfl rfl) ?_
  refine J.nil ?_
  refine J.tN ?_
  refine J.cond rfl (fun hB1 => ?_) (fun hB1 => ?_)
  · replace h0 := B.t hB1 h0
    refine J.seq ?_
    refine J.region ?_
    refine J.op rfl rfl rfl (V.as rfl rfl) ?_
    refine J.nil ?_
    refine J.tN ?_
    refine J.ret ?_
    refine J.tR ?_
    obtain rfl := B.e h0
    exact J.ret1 rfl rfl fun w H => ⟨(), rfl, H.pick [] (by decide)⟩
  · replace h0 := B.f hB1 h0
    refine J.skip ?_
    refine J.tN ?_
    refine J.seq ?_
    refine J.seq ?_
    refine J.region ?_
    refine J.op rfl rfl rfl (V.as rfl rfl) ?_
    refine J.nil ?_
    refine J.tN ?_
    obtain ⟨o13, hy12, h0⟩ := B.bind h0
    refine J.cutQ (γ := (Unit) × (Unit)) (fun gy11 => o13 = .inl gy11.1) (fun gy11 => []) (fun gy11 => []) ?_ ?_
    · refine J.block ?_
      refine J.loop (γ := Unit) hy12 (fun s2 g3 => [(0, v0), (1, v1), (5, .int .i64 s2)]) (fun s2 g3 => []) () ?_ ?_
      · exact J.keep _ rfl (J.pickE [] rfl rfl J.here)
      · intro rec4 s2 g3 h1
        unfold laws_eqInt64S.b1 at h1
        refine J.seq ?_
        refine J.seq ?_
        refine J.region ?_
        refine J.op rfl rfl rfl (V.mv rfl rfl) ?_
        refine J.op rfl rfl rfl (V.mv rfl rfl) ?_
        refine J.op rfl rfl rfl (V.lenS hS0 rfl rfl tl30) ?_
        refine J.op rfl rfl rfl (V.cmp rfl rfl rfl rfl) ?_
        refine J.nil ?_
        refine J.tN ?_
        refine J.cond rfl (fun hB5 => ?_) (fun hB5 => ?_)
        · replace h1 := B.t hB5 h1
          refine J.skip ?_
          refine J.tN ?_
          refine J.seq ?_
          refine J.block ?_
          refine J.seq ?_
          refine J.quiet mixed (by kernel_rfl) ?_
          refine JQ.op rfl rfl rfl (V.mv rfl rfl) ?_
          refine JQ.op rfl rfl rfl (V.mv rfl rfl) ?_
          obtain ⟨hC6, h1⟩ := B.chk h1
          refine JQ.op rfl rfl rfl (V.ixS hS0 rfl rfl rfl tl30 ts2 hC6) ?_
          refine JQ.op rfl rfl rfl (V.elS0 hS0 hC6 rfl rfl Try.underlying2 ta2 rfl) ?_
          refine JQ.op rfl rfl rfl (V.mv rfl rfl) ?_
          refine JQ.op rfl rfl rfl (V.mv rfl rfl) ?_
          obtain ⟨hC7, h1⟩ := B.chk h1
          refine JQ.op rfl rfl rfl (V.ixS hS1 rfl rfl rfl tl30 ts2 hC7) ?_
          refine JQ.op rfl rfl rfl (V.elS0 hS1 hC7 rfl rfl Try.underlying2 ta2 rfl) ?_
          refine JQ.op rfl rfl rfl (V.cmp rfl rfl rfl rfl) ?_
          refine JQ.nil ?_
          refine J.tN ?_
          refine J.cond rfl (fun hB8 => ?_) (fun hB8 => ?_)
          · replace h1 := B.t hB8 h1
            refine J.seq ?_
            refine J.region ?_
            refine J.op rfl rfl rfl (V.as rfl rfl) ?_
            refine J.nil ?_
            refine J.tN ?_
            refine J.ret ?_
            refine J.bR ?_
            refine J.tR ?_
            refine J.tR ?_
            refine J.bR ?_
            refine J.tR ?_
            refine J.tR ?_
            obtain rfl := B.d h1
            replace h0 := B.inr h0
            obtain rfl := B.e h0
            exact J.ret1 rfl rfl fun w H => ⟨(), rfl, H.pick [] (by decide)⟩
          · replace h1 := B.f hB8 h1
            refine J.skip ?_
            refine J.bN ?_
            refine J.tN ?_
            refine J.region ?_
            refine J.op rfl rfl rfl (V.mv rfl rfl) ?_
            refine J.op rfl rfl rfl (V.ar rfl rfl rfl rfl) ?_
            refine J.op rfl rfl rfl (V.as rfl rfl) ?_
            obtain ⟨i_9, ei_9, h1⟩ := B.lt h1
            refine J.val (congrArg (Value.int .i64) ei_9) ?_
            refine J.nil ?_
            refine J.tN (J.next i_9 () (B.n h1) ?_)
            exact J.keep _ rfl (J.pickE [] rfl rfl J.here)
        · replace h1 := B.f hB5 h1
          refine J.exit ?_
          refine J.tE ?_
          refine J.tE ?_
          refine J.bE ?_
          obtain rfl := B.d h1
          refine J.tN (J.to ((), ()) rfl ?_)
          exact J.keep _ rfl (J.pickE [] rfl rfl J.here)
    · intro gy11 hG
      replace h0 := B.inl hG h0
      refine J.tN ?_
      refine J.seq ?_
      refine J.region ?_
      refine J.op rfl rfl rfl (V.as rfl rfl) ?_
      refine J.nil ?_
      refine J.tN ?_
      refine J.ret ?_
      obtain rfl := B.e h0
      exact J.ret1 rfl rfl fun w H => ⟨(), rfl, H.pick [] (by decide)⟩

/-! ### laws.markCurve: function 47 -/
noncomputable def laws_markCurve.b1  : (Int × Int × (List impl_Point)) → Option (Step (Int × Int × (List impl_Point)) (Int × (List impl_Point))) := fun s1 => bif (decide (s1.2.1 < (s1.2.2.length : Int))) then (bif (inB s1.2.1 s1.2.2.length) then ((some (s1.2.2.set s1.2.1.toNat { rd enc_impl_Point s1.2.2 s1.2.1 with X := IntKind.wrap .i16 s1.1 })).bind fun w6 => (some (IntKind.wrap .i64 (s1.1 + 1))).bind fun k_7 => bif (inB s1.2.1 w6.length) then ((some (w6.set s1.2.1.toNat { rd enc_impl_Point w6 s1.2.1 with Y := IntKind.wrap .i16 k_7 })).bind fun w9 => (some (IntKind.wrap .i64 (k_7 + 1))).bind fun k_10 => (some (IntKind.wrap .i64 (s1.2.1 + 1))).bind fun i_11 => some (.next (k_10, i_11, w9))) else none) else none) else (some (.done (s1.1, s1.2.2)))
noncomputable def laws_markCurve.f (p0_a : (List impl_Point)) (p1_k : Int) : Option (Int × (List impl_Point)) := (loopW laws_markCurve.b1 (p1_k, 0, p0_a)).bind fun y12 => some (y12.1, y12.2)
set_option maxRecDepth 100000 in
theorem laws_markCurve.calls (v0 : Value) (p0_a : (List impl_Point)) (p1_k : Int) (r : Int × (List impl_Point)) (w : World) (H0 : Own (Mof [.rowE v0 78 enc_impl_Point p0_a]) w w [.rowE v0 78 enc_impl_Point p0_a]) (h0 : laws_markCurve.f p0_a p1_k = some r) :
    Calls Try.prog 47 #[v0, .int .i64 p1_k] w (fun e w' => ∃ _ : Unit, e = .returned (.int .i64 r.1) ∧ Own (Mof [.rowE v0 78 enc_impl_Point p0_a]) w w' [.rowE v0 78 enc_impl_Point r.2]) := by
  unfold laws_markCurve.f at h0
  replace h0 := B.top h0
  refine calls_of_J (args := [v0, .int .i64 p1_k]) Try.func47 rfl Try.ntmps47 rfl [(0, v0), (1, .int .i64 p1_k)] rfl H0 ?_
  refine J.seq ?_
  refine J.region ?_
  refine J.op rfl rfl rfl (V.as rfl rfl) ?_
  refine J.nil ?_
  refine J.tN ?_
  refine J.seq ?_
  refine J.seq ?_
  refine J.region ?_
  refine J.op rfl rfl rfl (V.as rfl rfl) ?_
  refine J.nil ?_
  refine J.tN ?_
  obtain ⟨y12, hy14, h0⟩ := B.bind h0
  refine J.cutQ (γ := Unit) (fun _ => True) (fun gy13 => [(1, .int .i64 y12.1)]) (fun gy13 => [.rowE v0 78 enc_impl_Point y12.2]) ?_ ?_
  · refine J.block ?_
    refine J.loop (γ := Unit) hy14 (fun s1 g2 => [(0, v0), (1, .int .i64 s1.1), (5, .int .i64 s1.2.1)]) (fun s1 g2 => [.rowE v0 78 enc_impl_Point s1.2.2]) () ?_ ?_
    · exact J.keep _ rfl (J.pickE [0] rfl rfl J.here)
    · intro rec3 s1 g2 h1
      unfold laws_markCurve.b1 at h1
      refine J.seq ?_
      refine J.seq ?_
      refine J.region ?_
      refine J.op rfl rfl rfl (V.mv rfl rfl) ?_
      refine J.op rfl rfl rfl (V.mv rfl rfl) ?_
      refine J.op rfl rfl rfl (V.lenR 0 rfl rfl rfl tl40) ?_
      refine J.op rfl rfl rfl (V.cmp rfl rfl rfl rfl) ?_
      refine J.nil ?_
      refine J.tN ?_
      refine J.cond rfl (fun hB4 => ?_) (fun hB4 => ?_)
      · replace h1 := B.t hB4 h1
        refine J.skip ?_
        refine J.tN ?_
        refine J.seq ?_
        refine J.block ?_
        refine J.seq ?_
        refine J.region ?_
        refine J.op rfl rfl rfl (V.mv rfl rfl) ?_
        refine J.op rfl rfl rfl (V.mv rfl rfl) ?_
        refine J.op rfl rfl rfl (V.mv rfl rfl) ?_
        refine J.op rfl rfl rfl (V.conv rfl rfl Try.underlying3 Try.underlying76) ?_
        obtain ⟨hC5, h1⟩ := B.chk h1
        refine J.op rfl rfl rfl (V.ixR 0 rfl rfl rfl rfl tl40 ts78 hC5) ?_
        refine J.op rfl rfl rfl (V.faR 0 rfl (lt_of_in hC5) rfl rfl tf0_78) ?_
        refine J.stEj (j := 0) (e := enc_impl_Point) (xs := s1.2.2) 0 ({ rd enc_impl_Point s1.2.2 s1.2.1 with X := IntKind.wrap .i16 s1.1 }) hC5 rfl rfl rfl rfl rfl rfl rfl rfl ts76 (fun _ _ => rfl) ?_
        obtain ⟨w6, ew6, h1⟩ := B.lt h1
        refine J.setEnt 0 rfl (congrArg (fun q => Ent.rowE _ _ enc_impl_Point q) ew6) ?_
        refine J.nil ?_
        refine J.tN ?_
        refine J.seq ?_
        refine J.region ?_
        refine J.op rfl rfl rfl (V.mv rfl rfl) ?_
        refine J.op rfl rfl rfl (V.ar rfl rfl rfl rfl) ?_
        refine J.op rfl rfl rfl (V.as rfl rfl) ?_
        obtain ⟨k_7, ek_7, h1⟩ := B.lt h1
        refine J.val (congrArg (Value.int .i64) ek_7) ?_
        refine J.nil ?_
        refine J.tN ?_
        refine J.seq ?_
        refine J.region ?_
        refine J.op rfl rfl rfl (V.mv rfl rfl) ?_
        refine J.op rfl rfl rfl (V.mv rfl rfl) ?_
        refine J.op rfl rfl rfl (V.mv rfl rfl) ?_
        refine J.op rfl rfl rfl (V.conv rfl rfl Try.underlying3 Try.underlying76) ?_
        obtain ⟨hC8, h1⟩ := B.chk h1
        refine J.op rfl rfl rfl (V.ixR 0 rfl rfl rfl rfl tl40 ts78 hC8) ?_
        refine J.op rfl rfl rfl (V.faR 0 rfl (lt_of_in hC8) rfl rfl tf1_78) ?_
        refine J.stEj (j := 1) (e := enc_impl_Point) (xs := w6) 0 ({ rd enc_impl_Point w6 s1.2.1 with Y := IntKind.wrap .i16 k_7 }) hC8 rfl rfl rfl rfl rfl rfl rfl rfl ts76 (fun _ _ => rfl) ?_
        obtain ⟨w9, ew9, h1⟩ := B.lt h1
        refine J.setEnt 0 rfl (congrArg (fun q => Ent.rowE _ _ enc_impl_Point q) ew9) ?_
        refine J.nil ?_
        refine J.tN ?_
        refine J.region ?_
        refine J.op rfl rfl rfl (V.mv rfl rfl) ?_
        refine J.op rfl rfl rfl (V.ar rfl rfl rfl rfl) ?_
        refine J.op rfl rfl rfl (V.as rfl rfl) ?_
        obtain ⟨k_10, ek_10, h1⟩ := B.lt h1
        refine J.val (congrArg (Value.int .i64) ek_10) ?_
        refine J.nil ?_
        refine J.bN ?_
        refine J.tN ?_
        refine J.region ?_
        refine J.op rfl rfl rfl (V.mv rfl rfl) ?_
        refine J.op rfl rfl rfl (V.ar rfl rfl rfl rfl) ?_
        refine J.op rfl rfl rfl (V.as rfl rfl) ?_
        obtain ⟨i_11, ei_11, h1⟩ := B.lt h1
        refine J.val (congrArg (Value.int .i64) ei_11) ?_
        refine J.nil ?_
        refine J.tN (J.next (k_10, i_11, w9) () (B.n h1) ?_)
        exact J.keep _ rfl (J.pickE [0] rfl rfl J.here)
      · replace h1 := B.f hB4 h1
        refine J.exit ?_
        refine J.tE ?_
        refine J.tE ?_
        refine J.bE ?_
        obtain rfl := B.d h1
        refine J.tN (J.to () trivial ?_)
        exact J.keep _ rfl (J.pickE [0] rfl rfl J.here)
  · intro gy13 _
    refine J.tN ?_
    refine J.seq ?_
    refine J.region ?_
    refine J.op rfl rfl rfl (V.mv rfl rfl) ?_
    refine J.op rfl rfl rfl (V.as rfl rfl) ?_
    refine J.nil ?_
    refine J.tN ?_
    refine J.ret ?_
    obtain rfl := B.e h0
    exact J.ret1 rfl rfl fun w H => ⟨(), rfl, H.pick [0] (by decide)⟩

end Go.Proofs.Ytofhnioboihbgaa
