/- A region that draws its order and makes a variable in it, where one part of a tuple need not be taken out ahead of the store. No condition. -/
import Derived.Test.YtadggddaheipgaaDoorGi
import Derived.Deep.RegionHeld3
set_option linter.unusedVariables false
namespace Go.Proofs.YtadggddaheipgaaDoor
open Go Go.RowKit
namespace G

/-- 'o', waiting for number 'x' too -/
def waits (x : Nat) (o : Oper) : Oper := { o with after := o.after.push ⟨x, .data⟩ }
def waitsAt (x y : Nat) (l : List Oper) : List Oper := l.mapIdx fun j o => if j = y then waits x o else o

section
variable {P : Program} {ops ops' : Array Oper} {md : Region.Mode} {Q : Exit → Act → World → Prop}

structure Like (ops ops' : Array Oper) (x y : Nat) : Prop where
  at_ : ∀ j : Nat, ops'[j]? = (ops[j]?).map fun o => if j = y then waits x o else o

theorem Like.yielded {x y : Nat} (h : Like ops ops' x y) (t : Array Value) : yielded ops' t = yielded ops t := by
  funext j
  unfold Go.yielded
  rw [h.at_ j]
  cases ops[j]? with
  | none => rfl
  | some o => by_cases hj : j = y <;> simp [hj, waits]

theorem Like.op {x y : Nat} (h : Like ops ops' x y) {j : Nat} {K : Act → World → Prop} {a : Act} {w : World} (hw : wpOp P ops' Q j K a w) : wpOp P ops Q j K a w := by
  unfold wpOp at *
  rw [h.at_ j] at hw
  cases ho : ops[j]? with
  | none => rw [ho] at hw; exact hw
  | some o =>
    rw [ho] at hw
    simp only [Option.map_some, h.yielded] at hw ⊢
    by_cases hj : j = y
    · rw [if_pos hj] at hw; exact hw
    · rw [if_neg hj] at hw; exact hw

theorem Like.ready {x y : Nat} (h : Like ops ops' x y) {done : Array Bool} (j : Nat) : j ∈ Region.ready md ops' done ↔ j ∈ Region.ready md ops done ∧ (j = y → Region.binds md ⟨x, .data⟩ = true → done.getD x false = true) := by
  rw [mem_ready, mem_ready, h.at_ j]
  cases ho : ops[j]? with
  | none => simp
  | some o =>
    simp only [Option.map_some, Option.some.injEq, exists_eq_left']
    by_cases hj : j = y
    · simp only [if_pos hj, hj, true_implies]
      constructor
      · rintro ⟨h1, h2⟩
        exact ⟨⟨h1, fun e he => h2 e (by unfold waits; simp [he])⟩, h2 ⟨x, .data⟩ (by unfold waits; simp)⟩
      · rintro ⟨⟨h1, h2⟩, h3⟩
        refine ⟨h1, fun e he hb => ?_⟩
        have he' : e ∈ o.after.push ⟨x, .data⟩ := he
        rw [Array.mem_push] at he'
        rcases he' with he | rfl
        · exact h2 e he hb
        · exact h3 hb
    · simp [if_neg hj, hj]

/-- without panics, and without a stack that has no room -/
def Calm (Q : Exit → Act → World → Prop) : Exit → Act → World → Prop
  | .panic _, _, _ => False
  | .outgrown, _, _ => False
  | e, a, w => Q e a w

theorem Calm.imp : ∀ (e : Exit) (a : Act) (w : World), Calm Q e a w → Q e a w := fun e a w h => by
  cases e <;> first | exact h | exact (h : False).elim

theorem extract_yields {o : Oper} {t : Operand} {ix : Nat} {K : Act → World → Prop} {a : Act} {w : World} (ho : o.op = .extract t ix) (hw : o.wp P a w K (Calm Q) ∨ (o.asks P a w ∧ LetsOut (Calm Q))) :
    ∃ v, (∀ w', (execOp a.eval o).run P w' = .ok (.value v) w') ∧ K (a.put o.dst v) w := by
  have key : (∃ v, (∀ w', (execOp a.eval o).run P w' = .ok (.value v) w')) ∨ (∃ s, ∀ w', (execOp a.eval o).run P w' = .halt (.stuck s) w') := by
    cases hv : a.eval t with
    | tuple vs =>
      cases hx : vs[ix]? with
      | some v => exact .inl ⟨v, fun w' => by simp [execOp, ho, Instr.extract, hv, hx]⟩
      | none => exact .inr ⟨_, fun w' => by simp [execOp, ho, Instr.extract, hv, hx, stuck]; rfl⟩
    | _ => exact .inr ⟨_, fun w' => by simp [execOp, ho, Instr.extract, hv, stuck]; rfl⟩
  rcases hw with hw | ⟨_, a', w', hl⟩
  · unfold Oper.wp at hw
    rcases key with ⟨v, hv⟩ | ⟨s, hs⟩
    · rw [hv w, Oper.upon_value] at hw
      exact ⟨v, hv, hw⟩
    · rw [hs w] at hw
      exact (hw : False).elim
  · exact (hl : False).elim

theorem Like.any {x y : Nat} {ox : Oper} {t : Operand} {ix : Nat} (h : Like ops ops' x y) (hxy : x ≠ y) (hbx : Region.binds md ⟨x, .data⟩ = true) (hox : ops[x]? = some ox) (hxo : ox.op = .extract t ix) (hxg : ox.guard = none)
    (hsel : Region.noSelect ops = true) (hfree : ∀ done, done.size = ops.size → x ∈ Region.ready md ops done → Region.free md ops done x = true)
    (hdeps : ∀ oy, ops[y]? = some oy → ∀ e ∈ ox.after, Region.binds md e = true → ∃ e' ∈ oy.after, Region.binds md e' = true ∧ e'.on = e.on) (f : Nat) :
    ∀ (done : Array Bool) (a : Act) (w : World), done.size = ops.size → wpAny P md ops' (Calm Q) f done a w → wpAny P md ops (Calm Q) f done a w := by
  have hx' : ops'[x]? = some ox := by rw [h.at_ x, hox]; simp [hxy]
  -- who waits for x alone has x ready beside it
  have hyr : ∀ done, done.size = ops.size → y ∈ Region.ready md ops done → done.getD x false = true ∨ x ∈ Region.ready md ops done := by
    intro done hsz hy
    obtain ⟨hy1, oy, hoy, hall⟩ := mem_ready.1 hy
    cases hd : done.getD x false with
    | true => exact .inl rfl
    | false =>
      refine .inr (mem_ready.2 ⟨getD_in (by rw [hsz]; exact (Array.getElem?_eq_some_iff.1 hox).1) hd, ox, hox, fun e he hb => ?_⟩)
      obtain ⟨e', he', hb', hon⟩ := hdeps oy hoy e he hb
      rw [← hon]; exact hall e' he' hb'
  induction f with
  | zero =>
    intro done a w hsz hw
    refine ⟨List.eq_nil_iff_forall_not_mem.2 fun j hj => ?_, hw.2⟩
    have none' := List.eq_nil_iff_forall_not_mem.1 hw.1
    by_cases hjy : j = y
    · subst hjy
      rcases hyr done hsz hj with h1 | h1
      · exact none' j ((h.ready j).2 ⟨hj, fun _ _ => h1⟩)
      · exact none' x ((h.ready x).2 ⟨h1, fun e _ => absurd e hxy⟩)
    · exact none' j ((h.ready j).2 ⟨hj, fun e => absurd e hjy⟩)
  | succ f ih =>
    intro done a w hsz hw
    by_cases hxr : x ∈ Region.ready md ops done
    · have h1 := hw.2 x ((h.ready x).2 ⟨hxr, fun e _ => absurd e hxy⟩)
      have h2 := h.op h1
      unfold wpOp at h2
      simp only [hox] at h2
      rw [if_pos (by simp [Region.wanted, hxg])] at h2
      obtain ⟨v, hv, hK⟩ := extract_yields hxo h2
      exact wpAny_first hox (Region.noSelect_spec hsel) (fun c a w hf => (hf : False).elim) f done a w (Region.free_spec hox (hfree done hsz hxr)) hxr (.inl ⟨by simp [Region.wanted, hxg], hv⟩)
        (ih _ _ _ (by simpa using hsz) hK)
    · have same : ∀ j, j ∈ Region.ready md ops' done ↔ j ∈ Region.ready md ops done := by
        intro j
        rw [h.ready j]
        refine ⟨fun h => h.1, fun hj => ⟨hj, fun e _ => ?_⟩⟩
        subst e
        rcases hyr done hsz hj with h1 | h1
        · exact h1
        · exact absurd h1 hxr
      refine ⟨fun h0 => hw.1 (List.eq_nil_iff_forall_not_mem.2 fun j hj => by have := (same j).1 hj; rw [h0] at this; cases this), fun i hi => ?_⟩
      exact wpOp_mono (fun a' w' h' => ih _ _ _ (by simpa using hsz) h') (h.op (hw.2 i ((same i).2 hi)))

/-- what has come up where 'o' may: at least what it waits for -/
def ahead (md : Region.Mode) (n : Nat) (o : Oper) : Array Bool := (Array.range n).map fun j => o.after.any fun e => Region.binds md e && e.on == j

theorem free_any {x : Nat} {ox : Oper} (hox : ops[x]? = some ox) (h : Region.free md ops (ahead md ops.size ox) x = true) (done : Array Bool) (hsz : done.size = ops.size) (hr : x ∈ Region.ready md ops done) : Region.free md ops done x = true := by
  obtain ⟨_, o, ho, hall⟩ := mem_ready.1 hr
  have : o = ox := Option.some.inj (ho.symm.trans hox)
  subst this
  unfold Region.free at *
  rw [hox] at h ⊢
  simp only [List.all_eq_true, List.mem_range] at h ⊢
  intro j hj
  have h1 := h j hj
  have e : (ahead md ops.size o).getD j true = o.after.any fun e => Region.binds md e && e.on == j := by simp [ahead, hj]
  rw [e] at h1
  cases h2 : (o.after.any fun e => Region.binds md e && e.on == j) with
  | false => rw [h2] at h1; simp only [Bool.or_false] at h1; revert h1; cases (j == x) <;> simp +contextual
  | true =>
    obtain ⟨e', he', hb'⟩ := Array.any_eq_true'.1 h2
    simp only [Bool.and_eq_true, beq_iff_eq] at hb'
    have h3 := hall e' he' hb'.1
    rw [hb'.2] at h3
    have h4 : done.getD j true = true := by
      have hj' : j < done.size := by omega
      simp [hj'] at h3 ⊢; exact h3
    rw [h4]; simp

theorem Like.of (x y : Nat) (l : List Oper) : Like l.toArray (waitsAt x y l).toArray x y := ⟨fun j => by simp [waitsAt, List.getElem?_mapIdx]⟩

/-- what is asked of the two operations, as a Bool -/
def lateB (x y : Nat) (l : List Oper) : Bool :=
  Region.noSelect l.toArray && decide (x ≠ y) &&
  (match l[x]?, l[y]? with
    | some ox, some oy => Region.free .any l.toArray (ahead .any l.toArray.size ox) x && ox.guard.isNone && (match ox.op with | .extract _ _ => true | _ => false) && ox.after.all fun e => !Region.binds .any e || oy.after.any fun e' => Region.binds .any e' && e'.on == e.on
    | _, _ => false)

theorem late_any {x y : Nat} {l : List Oper} (hb : lateB x y l = true) {f : Nat} {a : Act} {w : World} (hw : wpAny P .any (waitsAt x y l).toArray (Calm Q) f (Array.replicate l.toArray.size false) a w) : wpAny P .any l.toArray (Calm Q) f (Array.replicate l.toArray.size false) a w := by
  unfold lateB at hb
  simp only [Bool.and_eq_true, decide_eq_true_eq] at hb
  obtain ⟨⟨h1, h3⟩, h4⟩ := hb
  split at h4
  · rename_i ox oy hx hy
    simp only [Bool.and_eq_true, Option.isNone_iff_eq_none] at h4
    obtain ⟨⟨⟨h2, h5⟩, h6⟩, h7⟩ := h4
    split at h6
    · rename_i t ix hop
      refine (Like.of x y l).any (ox := ox) h3 rfl (by simpa using hx) hop h5 h1 (free_any (by simpa using hx) h2) (fun oy' hoy e he hbe => ?_) f _ a w (by simp) hw
      have : oy' = oy := by
        have := hoy
        simp only [List.getElem?_toArray] at this
        rw [hy] at this
        exact (Option.some.inj this).symm
      subst this
      rw [Array.all_eq_true'] at h7
      have := h7 e he
      rw [hbe, Bool.not_true, Bool.false_or] at this
      obtain ⟨e', he', hb'⟩ := Array.any_eq_true'.1 this
      simp only [Bool.and_eq_true, beq_iff_eq] at hb'
      exact ⟨e', he', hb'.1, hb'.2⟩
    · cases h6
  · cases h4
end

section
variable {P : Program} {N : Nat} {M : List Nat} {w0 : World} {ps : List (Nat × Value)} {es : List Ent} {Q : Exit → Act → World → Prop}

theorem J.quietAllocX {id d : Nat} {l : List Oper} {T : TypeId} {z : Value} {zs : List Value} {om : Oper} (x y m : Nat) (hm : P.follows .mixedOrders = true) (hX : lateB x y l = true) (hB : Region.lexTailB .any (waitsAt x y l).toArray (m + 1) = true)
    (hom : (waitsAt x y l)[m]? = some om) (hg : om.guard = none) (hd : om.dst = some d) (hN : Nat.blt d N = true) (ho : om.op = .alloc T) (hz : zeroP P T = some z) (hc : z.cells = zs.toArray)
    (h : JQ N ps (wpQF P (waitsAt x y l).toArray (fam M w0 es) (fun a' => ∀ b w', Own M w0 w' (.blk b zs T :: es) → wpList P (waitsAt x y l).toArray (Calm Q) ((waitsAt x y l).drop (m + 1)) (a'.put (some d) (bp b 0)) w') ((waitsAt x y l).take m))) :
    J N M w0 ps es ((Code.region id l.toArray true).wp P Q) := fun a w hs how => by
  have h1 := J.anyAlloc (Q := Calm Q) m hB hom hg hd hN ho hz hc h a w hs how
  have e : (waitsAt x y l).toArray.size = l.toArray.size := by simp [waitsAt]
  rw [e] at h1
  exact Code.wp_mono Calm.imp (wp_region_any hm (late_any hX h1))

theorem J.calm {K : Exit → Act → World → Prop} (h : J N M w0 ps es (K .normal)) : J N M w0 ps es (Calm K .normal) := h
end
end G
end Go.Proofs.YtadggddaheipgaaDoor
