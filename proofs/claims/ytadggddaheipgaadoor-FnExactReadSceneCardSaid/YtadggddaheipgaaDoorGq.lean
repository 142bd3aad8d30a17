/- Slices of slices: read, made, filled, lent out. No condition. -/
import Derived.Test.YtadggddaheipgaaDoorGo
set_option linter.unusedVariables false
namespace Go.Proofs.YtadggddaheipgaaDoor
open Go Go.RowKit
namespace G
section
variable {P : Program} {N : Nat} {M : List Nat} {w0 : World} {ps : List (Nat × Value)} {es esA esB : List Ent} {K : Act → World → Prop} {Q : Exit → Act → World → Prop}
  {ops : Array Oper} {o : Oper} {rest : List Oper} {α : Type}

def rdN (xss : List (List α)) (i : Int) : List α := xss.getD i.toNat []
def nth (us : List Value) (i : Int) : Value := us.getD i.toNat undef
def nestC (e : Enc α) (xss : List (List α)) : List (Option (Nat × List Value)) := xss.map fun xs => some (xs.length, cells e xs)
abbrev Ent.nestE (v : Value) (E E2 : Nat) (e : Enc α) (us : List Value) (xss : List (List α)) : Ent := .nest v E E2 e.sz us (nestC e xss)
/-- a slice of slices that is read -/
def SlN (M : List Nat) (w : World) (v : Value) (E E2 : Nat) (e : Enc α) (xss : List (List α)) : Prop :=
  ∃ us, Sl M w v E 1 xss.length us ∧ ∀ i : Int, inB i xss.length = true → ∃ u, us[i.toNat]? = some u ∧ SlE M w u E2 e (rdN xss i)

theorem SlN.later {M' : List Nat} {w : World} {v : Value} {E E2 : Nat} {e : Enc α} {xss : List (List α)} (h : SlN M w0 v E E2 e xss) (ho : Own M w0 w es) (hM : ∀ k ∈ M', k ∈ M ∨ w0.heap.size ≤ k) : SlN M' w v E E2 e xss := by
  obtain ⟨us, h1, h2⟩ := h
  refine ⟨us, h1.later ho hM, fun i hi => ?_⟩
  obtain ⟨u, hu, hs⟩ := h2 i hi
  exact ⟨u, hu, hs.later ho hM⟩
theorem SlN.laterA {w : World} {v : Value} {E E2 : Nat} {e : Enc α} {xss : List (List α)} (h : SlN M w0 v E E2 e xss) (H : Own M w0 w (esA ++ esB)) : SlN (Mof esA) w v E E2 e xss := h.later H (mineA H)
theorem V.nld {T : TypeId} {d : TypeDesc} {x : Operand} {v u : Value} {E n : Nat} {us : List Value} {i : Int} (hN : Sl M w0 v E 1 n us) (hi : inB i n = true) (hu : us[i.toNat]? = some u) (ho : o.op = .load T x) (hx : ev ps x = some (sp v (i.toNat * 1))) (hT : P.underlying T = some d) (ha : aggB P T = false) : OpV P N M w0 ps es o u :=
  V.ldS hN ho hx hT ha (lt_of_in hi) (by rw [Nat.mul_one]; exact hu)

theorem nestC_len (e : Enc α) (xss : List (List α)) : (nestC e xss).length = xss.length := by simp [nestC]
theorem nestC_get (e : Enc α) {xss : List (List α)} {i : Int} (hi : inB i xss.length = true) : (nestC e xss)[i.toNat]? = some (some ((rdN xss i).length, cells e (rdN xss i))) := by
  have := inB_nat hi
  simp [nestC, rdN, this, List.getD_eq_getElem?_getD]
theorem nth_get {us : List Value} {i : Int} {n : Nat} (hl : us.length = n) (hi : inB i n = true) : us[i.toNat]? = some (nth us i) := by
  have := inB_nat hi
  have h2 : i.toNat < us.length := by omega
  simp [nth, List.getD_eq_getElem?_getD, h2]

theorem nest_len {w : World} {v : Value} {E E2 : Nat} {e : Enc α} {us : List Value} {xss : List (List α)} (h : Ent.holds w (.nestE v E E2 e us xss)) : us.length = xss.length := by
  have := h.2.1; rwa [nestC_len] at this
theorem SlN.ofNest {w : World} {v : Value} {E E2 : Nat} {e : Enc α} {us : List Value} {xss : List (List α)} (h : Ent.holds w (.nestE v E E2 e us xss)) (hM : ∀ k ∈ M, k ∉ (Ent.nestE v E E2 e us xss).foot) : SlN M w v E E2 e xss := by
  have hl := nest_len h
  refine ⟨us, ?_, fun i hi => ⟨nth us i, nth_get hl hi, ?_⟩⟩
  · have := Sl.ofRow (M' := M) (E := E) (sz := 1) (n := us.length) (cs := us) h.1 fun k hk hv => hM k hk (by simp [Ent.foot, hv])
    rw [hl] at this
    exact this
  · exact Sl.ofRow (h.2.2.1 i.toNat _ _ (nth_get hl hi) (nestC_get e hi)) fun k hk hv => hM k hk (by simp [Ent.foot, footN_mem (nth_get hl hi) (nestC_get e hi) hv])
theorem Own.nA {w : World} {v : Value} {E E2 : Nat} {e : Enc α} {us : List Value} {xss : List (List α)} (i : Nat) (H : Own M w0 w (esA ++ esB)) (hi : esB[i]? = some (.nestE v E E2 e us xss)) : SlN (Mof esA) w v E E2 e xss :=
  SlN.ofNest (atB H hi) fun k hk => apartA H hi k hk
theorem Own.nelA {w : World} {v : Value} {E E2 : Nat} {e : Enc α} {us : List Value} {xss : List (List α)} {ix : Int} (i : Nat) (H : Own M w0 w (esA ++ esB)) (hi : esB[i]? = some (.nestE v E E2 e us xss)) (hb : inB ix xss.length = true) : SlE (Mof esA) w (nth us ix) E2 e (rdN xss ix) := by
  have h := atB H hi
  have hl := nest_len h
  exact Sl.ofRow (h.2.2.1 ix.toNat _ _ (nth_get hl hb) (nestC_get e hb)) fun k hk hv => apartA H hi k hk (by simp [Ent.foot, footN_mem (nth_get hl hb) (nestC_get e hb) hv])
theorem V.lenN {T : TypeId} {x : Operand} {v : Value} {E E2 : Nat} {e : Enc α} {us : List Value} {xss : List (List α)} {q : TypeId} (i : Nat) (hi : es[i]? = some (.nestE v E E2 e us xss)) (ho : o.op = .call { callee := .builtin .len, args := #[x], argTypes := #[T] }) (hx : ev ps x = some v) (hT : slE P T = some q) :
    OpV P N M w0 ps es o (.int .i64 xss.length) := fun a w hs how => by
  have h := how.at hi
  have hl := nest_len h
  obtain ⟨A, c, rfl, _⟩ := (Sl.ofRow (M' := []) (E := E) (sz := 1) (n := us.length) (cs := us) h.1 (by simp)).len
  simp [execOp, ho, resolve, invoke, builtin, hs.eval hx, Builtin.len_, run_underlying (slE_und hT), goInt, hl]
theorem V.ixNst {T E' : TypeId} {x y : Operand} {v : Value} {E E2 m : Nat} {e : Enc α} {us : List Value} {xss : List (List α)} {kk : IntKind} {ix : Int} (i : Nat) (hi : es[i]? = some (.nestE v E E2 e us xss)) (ho : o.op = .indexAddr T x y) (hx : ev ps x = some v) (hy : ev ps y = some (.int kk ix)) (hT : slE P T = some E') (hE : sizeP P E' = some m)
    (hb : inB ix xss.length = true) : OpV P N M w0 ps es o (sp v (ix.toNat * m)) := fun a w hs how => by
  have h := how.at hi
  have hl := nest_len h
  have hb' : inB ix us.length = true := by rw [hl]; exact hb
  exact V.ixV (n := us.length) ho hx hy hT hE hb' (fun w' how' => sl_shape (Sl.ofRow (M' := []) (E := E) (sz := 1) (n := us.length) (cs := us) (how'.at hi).1 (by simp)) (by have := inB_iff.1 hb'; omega)) a w hs how
theorem V.ldN {T : TypeId} {d : TypeDesc} {x : Operand} {v : Value} {E E2 : Nat} {e : Enc α} {us : List Value} {xss : List (List α)} {ix : Int} (i : Nat) (hi : es[i]? = some (.nestE v E E2 e us xss)) (hb : inB ix xss.length = true) (ho : o.op = .load T x) (hx : ev ps x = some (sp v (ix.toNat * 1))) (hT : P.underlying T = some d) (ha : aggB P T = false) : OpV P N M w0 ps es o (nth us ix) := fun a w hs how => by
  have h := how.at hi
  have hl := nest_len h
  have hb' : inB ix us.length = true := by rw [hl]; exact hb
  exact V.ld (cs := us.drop (ix.toNat * 1)) ho hx hT ha (by rw [Nat.mul_one, List.getElem?_drop]; simpa using nth_get rfl hb') (fun w' how' => Pt.row (E := E) (sz := 1) (n := us.length) (cs := us) (how'.at hi).1 (lt_of_in hb')) a w hs how

/-! ### Footprints of nests -/

theorem footN_sub : ∀ {us : List Value} {css : List (Option (Nat × List Value))} {i : Nat} {u : Value} {c : Nat × List Value} {k : Nat}, k ∈ footN (us.set i u) (css.set i (some c)) → k ∈ footN us css ∨ u.ownBlock = some k
  | [], _, i, u, c, k, h => by simp [footN] at h
  | _ :: _, [], i, u, c, k, h => by cases i <;> simp [footN] at h
  | u0 :: us, d :: css, 0, u, c, k, h => by
    simp only [List.set_cons_zero, footN, List.mem_append, Option.mem_toList] at h
    rcases h with h | h
    · exact .inr h
    · cases d <;> simp [footN, h]
  | u0 :: us, d :: css, i + 1, u, c, k, h => by
    simp only [List.set_cons_succ] at h
    cases d with
    | none =>
      simp only [footN] at h ⊢
      exact footN_sub h
    | some d =>
      simp only [footN, List.mem_append, Option.mem_toList] at h ⊢
      rcases h with h | h
      · exact .inl (.inl h)
      · rcases footN_sub h with h | h
        · exact .inl (.inr h)
        · exact .inr h
theorem footN_nodup : ∀ {us : List Value} {css : List (Option (Nat × List Value))} {i : Nat} {u : Value} {c : Nat × List Value}, (footN us css).Nodup → (∀ k, u.ownBlock = some k → k ∉ footN us css) → (footN (us.set i u) (css.set i (some c))).Nodup
  | [], _, i, u, c, h, hu => by simp [footN]
  | _ :: _, [], i, u, c, h, hu => by cases i <;> simp [footN]
  | u0 :: us, d :: css, 0, u, c, h, hu => by
    have hn : (footN us css).Nodup := by cases d with
      | none => exact h
      | some d => exact (List.nodup_append.1 h).2.1
    have hs : ∀ k, k ∈ footN us css → k ∈ footN (u0 :: us) (d :: css) := fun k hk => by cases d <;> simp [footN, hk]
    simp only [List.set_cons_zero, footN]
    refine List.nodup_append.2 ⟨by cases u.ownBlock <;> simp, hn, fun a ha b hb e => ?_⟩
    subst e
    exact hu a (by simpa using ha) (hs a hb)
  | u0 :: us, d :: css, i + 1, u, c, h, hu => by
    simp only [List.set_cons_succ]
    cases d with
    | none =>
      simp only [footN] at h hu ⊢
      exact footN_nodup h hu
    | some d =>
      simp only [footN] at h hu ⊢
      obtain ⟨h1, h2, h3⟩ := List.nodup_append.1 h
      refine List.nodup_append.2 ⟨h1, footN_nodup h2 fun k hk hm => hu k hk (by simp [hm]), fun a ha b hb e => ?_⟩
      subst e
      rcases footN_sub hb with hb | hb
      · exact h3 a ha a hb rfl
      · exact hu a hb (by simp at ha; simp [ha])
theorem footN_none : ∀ {us : List Value} {css : List (Option (Nat × List Value))} {i k : Nat}, k ∈ footN us (css.set i none) → k ∈ footN us css
  | [], css, i, k, h => by cases css <;> simp [footN] at h
  | _ :: _, [], i, k, h => by simp [footN] at h
  | u :: us, d :: css, 0, k, h => by
    simp only [List.set_cons_zero, footN] at h
    cases d <;> simp [footN, h]
  | u :: us, d :: css, i + 1, k, h => by
    simp only [List.set_cons_succ] at h
    cases d with
    | none => simp only [footN] at h ⊢; exact footN_none h
    | some d =>
      simp only [footN, List.mem_append] at h ⊢
      rcases h with h | h
      · exact .inl h
      · exact .inr (footN_none h)
theorem footN_none_nodup : ∀ {us : List Value} {css : List (Option (Nat × List Value))} {i : Nat}, (footN us css).Nodup → (footN us (css.set i none)).Nodup
  | [], css, i, h => by cases css <;> cases i <;> simp [footN]
  | _ :: _, [], i, h => by simp [footN]
  | u :: us, d :: css, 0, h => by
    simp only [List.set_cons_zero, footN]
    cases d with
    | none => exact h
    | some d => exact (List.nodup_append.1 h).2.1
  | u :: us, d :: css, i + 1, h => by
    simp only [List.set_cons_succ]
    cases d with
    | none => simp only [footN] at h ⊢; exact footN_none_nodup h
    | some d =>
      simp only [footN] at h ⊢
      obtain ⟨h1, h2, h3⟩ := List.nodup_append.1 h
      exact List.nodup_append.2 ⟨h1, footN_none_nodup h2, fun a ha b hb e => h3 a ha b (footN_none hb) e⟩
theorem footN_lent : ∀ {us : List Value} {css : List (Option (Nat × List Value))} {i k : Nat} {u : Value} {c : Nat × List Value}, (footN us css).Nodup → us[i]? = some u → css[i]? = some (some c) → u.ownBlock = some k → k ∉ footN us (css.set i none)
  | [], _, _, _, _, _, _, h, _, _ => by simp at h
  | _ :: _, [], _, _, _, _, _, _, h, _ => by simp at h
  | u0 :: us, d :: css, 0, k, u, c, hn, h1, h2, h3 => by
    simp at h1 h2
    subst h1 h2
    simp only [List.set_cons_zero, footN] at hn ⊢
    intro hk
    exact (List.nodup_append.1 hn).2.2 k (by simp [h3]) k hk rfl
  | u0 :: us, d :: css, i + 1, k, u, c, hn, h1, h2, h3 => by
    simp only [List.set_cons_succ]
    have h1' : us[i]? = some u := by simpa using h1
    have h2' : css[i]? = some (some c) := by simpa using h2
    cases d with
    | none => simp only [footN] at hn ⊢; exact footN_lent hn h1' h2' h3
    | some d =>
      simp only [footN] at hn ⊢
      obtain ⟨g1, g2, g3⟩ := List.nodup_append.1 hn
      intro hk
      rcases List.mem_append.1 hk with hk | hk
      · exact g3 k hk k (footN_mem h1' h2' h3) rfl
      · exact footN_lent g2 h1' h2' h3 hk

/-! ### Two entries become one, and one two -/

theorem Own.merge2 {w w' : World} {e1 e2 e' : Ent} (h : Own M w0 w (e1 :: e2 :: es)) (hos : w'.os = w.os) (ht : w'.tape = w.tape) (ho : w'.output = w.output) (hsz : w.heap.size ≤ w'.heap.size)
    (hfr : ∀ k, k < w.heap.size → k ∉ e1.foot → w'.heap[k]? = w.heap[k]?) (hh : e'.holds w') (hf : ∀ k, k ∈ e'.foot → k ∈ e1.foot ∨ k ∈ e2.foot) : Own M w0 w' (e' :: es) := by
  have hap := List.pairwise_cons.1 h.apart
  have hap2 := List.pairwise_cons.1 hap.2
  have h1 : Own M w0 w (e1 :: es) := h.drop (by simp)
  have key := h1.turn (e' := .row (.slice Option.none 0 0) 0 1 0 []) hos ht ho hsz hfr ⟨rfl, .inl ⟨rfl, rfl⟩⟩ (fun k hk => by simp [Ent.foot, Value.ownBlock] at hk)
  refine ⟨key.os, key.tape, key.output, key.size, key.frame, ?_, ?_, ?_⟩
  · intro x hx
    rcases List.mem_cons.1 hx with rfl | hx
    · exact hh
    · exact key.holds x (List.mem_cons_of_mem _ hx)
  · intro x hx k hk
    rcases List.mem_cons.1 hx with rfl | hx
    · rcases hf k hk with h2 | h2
      · exact h.mine e1 (by simp) k h2
      · exact h.mine e2 (by simp) k h2
    · exact key.mine x (List.mem_cons_of_mem _ hx) k hk
  · refine List.Pairwise.cons (fun x hx k hk hk' => ?_) hap2.2
    rcases hf k hk with h2 | h2
    · exact hap.1 x (List.mem_cons_of_mem _ hx) k h2 hk'
    · exact hap2.1 x hx k h2 hk'
theorem Own.split2 {w : World} {e e1 e2 : Ent} (h : Own M w0 w (e :: es)) (h1 : e1.holds w) (h2 : e2.holds w) (f1 : ∀ k, k ∈ e1.foot → k ∈ e.foot) (f2 : ∀ k, k ∈ e2.foot → k ∈ e.foot) (ha : Ent.apart e1 e2) : Own M w0 w (e1 :: e2 :: es) := by
  have hap := List.pairwise_cons.1 h.apart
  refine ⟨h.os, h.tape, h.output, h.size, h.frame, ?_, ?_, ?_⟩
  · intro x hx
    rcases List.mem_cons.1 hx with rfl | hx
    · exact h1
    · rcases List.mem_cons.1 hx with rfl | hx
      · exact h2
      · exact h.holds x (List.mem_cons_of_mem _ hx)
  · intro x hx k hk
    rcases List.mem_cons.1 hx with rfl | hx
    · exact h.mine e (by simp) k (f1 k hk)
    · rcases List.mem_cons.1 hx with rfl | hx
      · exact h.mine e (by simp) k (f2 k hk)
      · exact h.mine x (List.mem_cons_of_mem _ hx) k hk
  · refine List.Pairwise.cons (fun x hx k hk hk' => ?_) (List.Pairwise.cons (fun x hx k hk hk' => hap.1 x hx k (f2 k hk) hk') hap.2)
    rcases List.mem_cons.1 hx with rfl | hx
    · exact ha k hk hk'
    · exact hap.1 x hx k (f1 k hk) hk'

/-! ### Lent out, taken back -/

theorem J.lend {v : Value} {E E2 : Nat} {e : Enc α} {us : List Value} {xss : List (List α)} {ix : Int} (hb : inB ix xss.length = true) (h : J N M w0 ps (.nest v E E2 e.sz us ((nestC e xss).set ix.toNat none) :: .rowE (nth us ix) E2 e (rdN xss ix) :: es) K) : J N M w0 ps (.nestE v E E2 e us xss :: es) K := fun a w hs how => by
  have hh : Ent.holds w (.nestE v E E2 e us xss) := how.holds _ (List.mem_cons_self ..)
  have hl := nest_len hh
  have g1 := nth_get hl hb
  have g2 := nestC_get e hb
  obtain ⟨h1, h2, h3, h4⟩ := hh
  have hn := List.nodup_append.1 h4
  refine h a w hs (how.split2 ⟨h1, by simpa using h2, fun i u c e1 e2 => ?_, ?_⟩ (h3 _ _ _ g1 g2) (fun k hk => ?_) (fun k hk => ?_) fun k hk hk' => ?_)
  · rw [List.getElem?_set] at e2
    split at e2
    · split at e2 <;> simp at e2
    · exact h3 i u c e1 e2
  · exact List.nodup_append.2 ⟨hn.1, footN_none_nodup hn.2.1, fun a ha b hb e => hn.2.2 a ha b (footN_none hb) e⟩
  · simp only [Ent.foot, List.mem_append] at hk ⊢
    exact hk.imp_right footN_none
  · simp only [Ent.foot, List.mem_append]
    exact .inr (footN_mem g1 g2 (mem_foot_row.1 hk))
  · have hk2 := mem_foot_row.1 hk'
    simp only [Ent.foot, List.mem_append] at hk
    rcases hk with hk | hk
    · exact hn.2.2 k hk k (footN_mem g1 g2 hk2) rfl
    · exact footN_lent hn.2.1 g1 g2 hk2 hk

theorem nestC_set (e : Enc α) (xss : List (List α)) (i : Nat) (ys : List α) : (nestC e xss).set i (some (ys.length, cells e ys)) = nestC e (xss.set i ys) := by
  simp [nestC, List.map_set]
theorem J.takeBack {v : Value} {E E2 : Nat} {e : Enc α} {us : List Value} {xss : List (List α)} {ys : List α} {ix : Int} (hb : inB ix xss.length = true) (h : J N M w0 ps (.nestE v E E2 e us (xss.set ix.toNat ys) :: es) K) :
    J N M w0 ps (.nest v E E2 e.sz us ((nestC e xss).set ix.toNat none) :: .rowE (nth us ix) E2 e ys :: es) K := fun a w hs how => by
  have hh : Ent.holds w (.nest v E E2 e.sz us ((nestC e xss).set ix.toNat none)) := how.holds _ (by simp)
  have hr : Ent.holds w (.rowE (nth us ix) E2 e ys) := how.holds _ (by simp)
  obtain ⟨h1, h2, h3, h4⟩ := hh
  have hl : us.length = xss.length := by simpa [nestC_len] using h2
  have g1 := nth_get hl hb
  have hap := (List.pairwise_cons.1 how.apart).1 _ (List.mem_cons_self ..)
  have hn := List.nodup_append.1 h4
  have hset : us.set ix.toNat (nth us ix) = us := by
    apply List.ext_getElem?
    intro j
    rw [List.getElem?_set]
    split
    · rename_i ej; subst ej
      rw [g1]; simp [(List.getElem?_eq_some_iff.1 g1).1]
    · rfl
  have hcss : ((nestC e xss).set ix.toNat none).set ix.toNat (some (ys.length, cells e ys)) = nestC e (xss.set ix.toNat ys) := by rw [List.set_set, nestC_set]
  have hfoot : ∀ k, k ∈ footN us (nestC e (xss.set ix.toNat ys)) → k ∈ footN us ((nestC e xss).set ix.toNat none) ∨ (nth us ix).ownBlock = some k := fun k hk => by
    rw [← hcss, ← hset] at hk
    exact footN_sub hk
  refine h a w hs (Own.merge2 how rfl rfl rfl (Nat.le_refl _) (fun _ _ _ => rfl) ⟨h1, by simp [nestC_len, hl], fun i u c e1 e2 => ?_, ?_⟩ fun k hk => ?_)
  · rw [← hcss, List.getElem?_set] at e2
    split at e2
    · rename_i ei; subst ei
      rw [g1] at e1
      split at e2
      · simp only [Option.some.injEq] at e1 e2
        subst e1 e2
        exact hr
      · cases e2
    · exact h3 i u c e1 e2
  · refine List.nodup_append.2 ⟨hn.1, ?_, fun a ha b hb' e' => ?_⟩
    · rw [← hcss]
      have := footN_nodup (us := us) (i := ix.toNat) (u := nth us ix) (c := (ys.length, cells e ys)) hn.2.1 (fun k hk hm => hap k (by simp only [Ent.foot, List.mem_append]; exact .inr hm) (mem_foot_row.2 hk))
      rwa [hset] at this
    · subst e'
      rcases hfoot a hb' with h9 | h9
      · exact hn.2.2 a ha a h9 rfl
      · exact hap a (by simp only [Ent.foot, List.mem_append]; exact .inl ha) (mem_foot_row.2 h9)
  · simp only [Ent.foot, List.mem_append] at hk ⊢
    rcases hk with hk | hk
    · exact .inl (.inl hk)
    · rcases hfoot k hk with h9 | h9
      · exact .inl (.inr h9)
      · exact .inr (by simpa using h9)

/-! ### Made, filled -/

theorem J.mkN {T E E2 bytes d : Nat} {x y : Operand} {kx ky : IntKind} {n : Int} (e : Enc α) {inf : TypeInfo} {z : Value} (hn : mkB n bytes = true) (hinf : P.info? E = some inf) (hT : slE P T = some E) (hz : inf.zero = some z) (hsz : inf.size = 1) (hby : inf.bytes = bytes) (hzc : z = .slice none 0 0)
    (hg : o.guard = none) (hd : o.dst = some d) (hN : Nat.blt d N = true) (ho : o.op = .makeSlice T x y) (hx : ev ps x = some (.int kx n)) (hy : ev ps y = some (.int ky n))
    (h : ∀ v', J N M w0 ((d, v') :: ps) (.nestE v' E E2 e (List.replicate n.toNat (.slice none 0 0)) (List.replicate n.toNat []) :: es) (wpList P ops Q rest)) : J N M w0 ps es (wpList P ops Q (o :: rest)) := fun a w hs how =>
  wpList_plain hg fun K hK => by
    subst hzc
    simp only [mkB, Bool.and_eq_true, decide_eq_true_eq] at hn
    obtain ⟨⟨h1, h2⟩, h3⟩ := hn
    obtain ⟨m, rfl⟩ : ∃ m : Nat, n = m := ⟨n.toNat, by omega⟩
    subst hby
    have h3' : inf.bytes * m ≤ 281474976710656 := by
      have : ((inf.bytes * m : Nat) : Int) ≤ 281474976710656 := by rw [Int.natCast_mul]; exact h3
      omega
    obtain ⟨w', hr, r1, r2⟩ := run_make_full (P := P) w 0 T E inf (.slice none 0 0) 1 (slE_und hT) hinf hz hsz kx ky m h3' (by unfold maxLen; omega) (Nat.zero_le _)
    have hop : (execOp a.eval o).run P w = .ok (.value (.slice (some ⟨w.heap.size, 0, none⟩) m m)) w' := by
      rw [show execOp a.eval o = (do pure (.value (← Instr.makeSlice T (a.eval x) (a.eval y)))) by simp [execOp, ho]]
      simp [hs.eval hx, hs.eval hy, hr]
    unfold Oper.wp
    rw [hop, Oper.upon_value, hd]
    refine hK _ _ (h _ _ _ (hs.put _ (blt_lt hN)) ?_)
    have hc : (madeCells (Value.slice none 0 0).cells (m * 1)).toList = List.replicate m (.slice none 0 0) := by
      rw [Nat.mul_one]; exact toList_madeCells_one _ _
    rw [hc] at r1
    have hrow := Own.grown how r2 r1 (fun k hk => by simp [Value.ownBlock] at hk; omega)
    have hfn : ∀ k : Nat, footN (List.replicate k (.slice none 0 0)) (nestC e (List.replicate k [])) = [] := by
      intro k
      induction k with
      | zero => rfl
      | succ k ih => simpa [List.replicate_succ, nestC, footN, Value.ownBlock] using ih
    simp only [Int.toNat_natCast]
    refine hrow.turn rfl rfl rfl (Nat.le_refl _) (fun _ _ _ => rfl) ⟨by simpa using r1, by simp [nestC], fun i u c e1 e2 => ?_, by rw [hfn]; simp [Value.ownBlock]⟩ fun k hk => .inl ?_
    · have hi : i < m := by have := (List.getElem?_eq_some_iff.1 e1).1; simpa using this
      simp [hi] at e1
      simp [nestC, hi] at e2
      subst e1 e2
      exact ⟨by simp [cells], .inl ⟨rfl, rfl⟩⟩
    · simp only [Ent.foot, hfn, List.append_nil] at hk
      exact hk

theorem J.stN {T E E2 : Nat} {x y : Operand} {v u : Value} {e : Enc α} {us : List Value} {xss : List (List α)} {ys : List α} {ix : Int} (hb : inB ix xss.length = true) (hg : o.guard = none) (hd : o.dst = none) (ho : o.op = .store T x y) (hx : ev ps x = some (sp v (ix.toNat * 1))) (hy : ev ps y = some u) (hT : sizeP P T = some 1)
    (h : J N M w0 ps (.nestE v E E2 e (us.set ix.toNat u) (xss.set ix.toNat ys) :: es) (wpList P ops Q rest)) : J N M w0 ps (.nestE v E E2 e us xss :: .rowE u E2 e ys :: es) (wpList P ops Q (o :: rest)) := fun a w hs how =>
  wpList_plain hg fun K hK => by
    have hh : Ent.holds w (.nestE v E E2 e us xss) := how.holds _ (by simp)
    have hr : Ent.holds w (.rowE u E2 e ys) := how.holds _ (by simp)
    have hl := nest_len hh
    have hlt := inB_nat hb
    obtain ⟨h1, h2, h3, h4⟩ := hh
    have hn := List.nodup_append.1 h4
    have hap := (List.pairwise_cons.1 how.apart).1 _ (List.mem_cons_self ..)
    obtain ⟨A, cu, hu, _⟩ := (Sl.ofRow (M' := []) hr (by simp)).len
    have hone : u.oneCell' = true := by rw [hu]; rfl
    rcases h1.2 with ⟨rfl, hz⟩ | ⟨g, cap, cur, hv, h0, hgb, hnc, hcm, hsz, htake⟩
    · omega
    have hle : us.length ≤ cur.size := by rw [hsz, Nat.mul_one]; exact hnc
    have hkc : ix.toNat < cur.size := by omega
    have hc : w.cell? ⟨g, ix.toNat, none⟩ = some cur[ix.toNat] := by rw [cell_of_row w g _ _ E (0, 0) hgb]; simp [hkc]
    have hf := frozen_of_row w g ix.toNat cur E hgb
    have hrun : (execOp a.eval o).run P w = .ok .skip (w.setCell ⟨g, ix.toNat, none⟩ u) := by
      subst hv
      rw [Nat.mul_one] at hx
      simp [execOp, ho, hs.eval hx, hs.eval hy, Instr.storeAt, Instr.sureAddr, sp, add_none, run_store1 hT hone hc hf]
    unfold Oper.wp
    rw [hrun, Oper.upon_skip, hd]
    have hvb : v.ownBlock = some g := by rw [hv]; rfl
    have hgn : ∀ k, k ∈ footN us (nestC e xss) → k ≠ g := fun k hk e' => hn.2.2 g (by simp [hvb]) k hk e'.symm
    have hgu : ∀ k, u.ownBlock = some k → k ≠ g := fun k hk e' => hap g (by simp [Ent.foot, hvb]) (mem_foot_row.2 (by rw [hk, e']))
    have hun : ∀ k, u.ownBlock = some k → k ∉ footN us (nestC e xss) := fun k hk hm => hap k (by simp [Ent.foot, hm]) (mem_foot_row.2 hk)
    have hcss : nestC e (xss.set ix.toNat ys) = (nestC e xss).set ix.toNat (some (ys.length, cells e ys)) := (nestC_set e xss _ ys).symm
    refine hK _ _ (h _ _ (hs.put_none _) (Own.merge2 how rfl rfl rfl (by simp) ?_ ⟨?_, by simp [nestC_len, hl], ?_, ?_⟩ ?_))
    · intro k' _ hne
      exact heap_setCell_other w _ k' u (fun e' => hne (by simp [Ent.foot, hvb, e']))
    · refine ⟨by simp, .inr ⟨g, cap, cur.setIfInBounds ix.toNat u, by simpa using hv, h0, heap_setCell_same w g _ cur E u hgb, by simpa using hnc, hcm, by simp [hsz], ?_⟩⟩
      rw [Nat.mul_one] at htake
      rw [Array.toList_setIfInBounds, Nat.mul_one, List.length_set, List.take_set, htake]
    · intro i q c e1 e2
      rw [hcss, List.getElem?_set] at e2
      rw [List.getElem?_set] at e1
      have other : ∀ k, k ≠ g → (w.setCell ⟨g, ix.toNat, none⟩ u).heap[k]? = w.heap[k]? := fun k hk => heap_setCell_other w _ k u (fun e' => hk (by simpa using e'))
      by_cases ei : ix.toNat = i
      · subst ei
        rw [if_pos rfl] at e1 e2
        split at e1 <;> try (cases e1; done)
        split at e2 <;> try (cases e2; done)
        simp only [Option.some.injEq] at e1 e2
        subst e1 e2
        exact ownsRow_kept hr fun k hk => other k (hgu k hk)
      · rw [if_neg ei] at e1 e2
        exact ownsRow_kept (h3 i q c e1 e2) fun k hk => other k (hgn k (footN_mem e1 e2 hk))
    · rw [hcss]
      refine List.nodup_append.2 ⟨hn.1, footN_nodup hn.2.1 hun, fun p hp b hb' e' => ?_⟩
      subst e'
      rcases footN_sub hb' with h9 | h9
      · exact hn.2.2 p hp p h9 rfl
      · have : p = g := by simpa [hvb] using hp
        exact hgu p h9 this
    · intro k hk
      simp only [Ent.foot, List.mem_append] at hk ⊢
      rcases hk with hk | hk
      · exact .inl (.inl hk)
      · rw [hcss] at hk
        rcases footN_sub hk with h9 | h9
        · exact .inl (.inr h9)
        · exact .inr (by simpa using h9)

/-! ### A literal of slices -/

theorem J.blkN {b E n : Nat} (E2 sz : Nat) {us : List Value} (hl : us.length = n) (hm : Nat.ble n 9223372036854775807 = true) (h : J N M w0 ps (.nest (.slice (some ⟨b, 0, none⟩) n n) E E2 sz us (List.replicate n none) :: es) K) : J N M w0 ps (.blk b us E :: es) K := fun a w hs how => by
  subst hl
  have hrow := how.blkRow (sz := 1) (n := us.length) (by simp) (by have := Nat.le_of_ble_eq_true hm; unfold maxLen; omega)
  have hfn : ∀ (us : List Value) (k : Nat), footN us (List.replicate k none) = [] := by
    intro us
    induction us with
    | nil => intro k; cases k <;> rfl
    | cons u us ih => intro k; cases k with
      | zero => rfl
      | succ k => simpa [List.replicate_succ, footN] using ih k
  refine h a w hs (hrow.turn rfl rfl rfl (Nat.le_refl _) (fun _ _ _ => rfl) ⟨(hrow.holds (.row (.slice (some ⟨b, 0, none⟩) us.length us.length) E 1 us.length us) (by simp) : _), by simp, fun i u c e1 e2 => ?_, by rw [hfn]; simp [Value.ownBlock]⟩ fun k hk => .inl ?_)
  · rw [List.getElem?_replicate] at e2
    split at e2 <;> simp at e2
  · simp only [Ent.foot, hfn, List.append_nil] at hk
    exact hk
theorem J.absorb {v u : Value} {E E2 sz n : Nat} {us : List Value} {css : List (Option (Nat × List Value))} {cs : List Value} (i : Nat) (hu : us[i]? = some u) (hc : css[i]? = some none) (h : J N M w0 ps (.nest v E E2 sz us (css.set i (some (n, cs))) :: es) K) :
    J N M w0 ps (.nest v E E2 sz us css :: .row u E2 sz n cs :: es) K := fun a w hs how => by
  have hh : Ent.holds w (.nest v E E2 sz us css) := how.holds _ (by simp)
  have hr : Ent.holds w (.row u E2 sz n cs) := how.holds _ (by simp)
  obtain ⟨h1, h2, h3, h4⟩ := hh
  have hn := List.nodup_append.1 h4
  have hap := (List.pairwise_cons.1 how.apart).1 _ (List.mem_cons_self ..)
  have hset : us.set i u = us := by
    apply List.ext_getElem?
    intro j
    rw [List.getElem?_set]
    split
    · rename_i ej; subst ej
      rw [hu]; simp [(List.getElem?_eq_some_iff.1 hu).1]
    · rfl
  have hfoot : ∀ k, k ∈ footN us (css.set i (some (n, cs))) → k ∈ footN us css ∨ u.ownBlock = some k := fun k hk => by
    rw [← hset] at hk
    exact footN_sub hk
  refine h a w hs (Own.merge2 how rfl rfl rfl (Nat.le_refl _) (fun _ _ _ => rfl) ⟨h1, by simpa using h2, fun j q c e1 e2 => ?_, ?_⟩ fun k hk => ?_)
  · rw [List.getElem?_set] at e2
    split at e2
    · rename_i ej; subst ej
      rw [hu] at e1
      split at e2
      · simp only [Option.some.injEq] at e1 e2
        subst e1 e2
        exact hr
      · cases e2
    · exact h3 j q c e1 e2
  · refine List.nodup_append.2 ⟨hn.1, ?_, fun p hp b hb' e' => ?_⟩
    · have := footN_nodup (us := us) (i := i) (u := u) (c := (n, cs)) hn.2.1 (fun k hk hm => hap k (by simp [Ent.foot, hm]) (mem_foot_row.2 hk))
      rwa [hset] at this
    · subst e'
      rcases hfoot p hb' with h9 | h9
      · exact hn.2.2 p hp p h9 rfl
      · exact hap p (by simp only [Ent.foot, List.mem_append]; exact .inl hp) (mem_foot_row.2 h9)
  · simp only [Ent.foot, List.mem_append] at hk ⊢
    rcases hk with hk | hk
    · exact .inl (.inl hk)
    · rcases hfoot k hk with h9 | h9
      · exact .inl (.inr h9)
      · exact .inr (by simpa using h9)

/-! ### A literal of whatever has one cell -/

def eV : Enc {u : Value // u.oneCell' = true} := ⟨fun u => [u.1], 1, ⟨.slice none 0 0, rfl⟩, fun _ => rfl, fun x u hu => by simp at hu; subst hu; exact x.2⟩
theorem cells_eV (vs : List Value) (h : ∀ u ∈ vs, u.oneCell' = true) : cells eV (vs.pmap Subtype.mk h) = vs := by
  induction vs with
  | nil => rfl
  | cons u vs ih =>
    rw [List.pmap_cons, cells_cons, ih]
    rfl
theorem J.bsV {d : Nat} {T E : TypeId} {n : Nat} {l : List (Nat × Operand)} {vs : List Value} {inf : TypeInfo} (hinf : P.info? E = some inf) (hT : slE P T = some E) (hz : inf.zero = some (.slice none 0 0)) (hsz : inf.size = 1) (hn : Nat.ble vs.length 16777216 = true) (hn0 : Nat.blt 0 vs.length = true)
    (h1 : ∀ w, Own M w0 w es → ∀ u ∈ vs, u.oneCell' = true) (hg : o.guard = none) (hd : o.dst = some d) (hN : Nat.blt d N = true) (ho : o.op = .buildSlice T n l.toArray) (hln : n = vs.length) (hl : evs ps (l.map (·.2)) = some vs) (hi : l.map (·.1) = List.range' 0 vs.length)
    (h : ∀ b, J N M w0 ((d, .slice (some ⟨b, 0, none⟩) n n) :: ps) (.blk b vs E :: es) (wpList P ops Q rest)) : J N M w0 ps es (wpList P ops Q (o :: rest)) := fun a w hs how => by
  have hv := h1 w how
  have hlen : (vs.pmap Subtype.mk hv).length = vs.length := by simp
  refine J.bsN (e := eV) (vs.pmap Subtype.mk hv) hinf hT hz hsz rfl rfl (by rw [hlen]; simpa [eV] using hn) (by rw [hlen]; exact hn0) hg hd hN ho (by rw [hlen]; exact hln) hl (by rw [hlen]; exact hi) ?_ (fun b => by rw [cells_eV vs hv]; exact h b) a w hs how
  clear h hi hl hlen hln hn hn0 h1
  induction vs with
  | nil => rfl
  | cons u vs ih =>
    simp only [List.map_cons, List.pmap_cons, List.cons.injEq]
    exact ⟨oneCell_cells (hv u (by simp)), ih fun u hu => hv u (List.mem_cons_of_mem _ hu)⟩

/-! ### Function values beside memory of one's own -/

theorem Own.bare {w : World} (H : Own M w0 w es) : Own M w0 w [] := H.drop (List.nil_sublist _)
theorem Own.through {w w2 : World} (H : Own M w0 w (esA ++ esB)) (HO : Own (Mof esA) w w2 []) : Own M w0 w2 [] := (H.frameCall HO fun _ hk => mem_Mof.1 hk).bare
theorem Rp.kept {w w' : World} {v : Value} {cs : List Value} (h : Rp M w v cs) (H : Own M w w' []) : Rp [] w' v cs := by
  obtain ⟨ad, cur, T, fr, hv, hs, hm, hb, hc⟩ := h
  have hlt : ad.block < w.heap.size := (Array.getElem?_eq_some_iff.1 hb).1
  exact ⟨ad, cur, T, fr, hv, hs, by simp, by rw [H.frame _ hlt hm]; exact hb, hc⟩
theorem Sl.kept {w w' : World} {v : Value} {E sz n : Nat} {cs : List Value} (h : Sl M w v E sz n cs) (H : Own M w w' []) : Sl [] w' v E sz n cs := (h.later H fun k hk => .inl hk).drop
end
end G
end Go.Proofs.YtadggddaheipgaaDoor
