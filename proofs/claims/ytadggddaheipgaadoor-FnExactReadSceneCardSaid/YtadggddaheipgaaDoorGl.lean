/- A region that draws its order, reads, and then writes in a fixed order, where some readings of slots alone need not be done before the first writing. No condition. -/
import Derived.Test.YtadggddaheipgaaDoorGk
set_option linter.unusedVariables false
namespace Go.Proofs.YtadggddaheipgaaDoor
open Go Go.RowKit
namespace G
section
variable {P : Program} {ops : Array Oper} {md : Region.Mode} {C : World → Prop} {Q : Exit → Act → World → Prop}

/-- The operations under 'n' are quiet; number 'n' writes, and what comes behind it is told of all worlds. -/
def lHead (P : Program) (md : Region.Mode) (ops : Array Oper) (C : World → Prop) (Q : Exit → Act → World → Prop) (n : Nat) : Nat → Array Bool → Act → Prop
  | 0, _, _ => False
  | f + 1, done, a => Region.ready md ops done ≠ [] ∧ ∀ i ∈ Region.ready md ops done,
      (i = n ∧ ∀ w, C w → wpOp P ops Q n (wpAny P md ops Q f (done.setIfInBounds n true)) a w) ∨ (i < n ∧ qOp P ops C i (lHead P md ops C Q n f (done.setIfInBounds i true)) a)

theorem any_of_lHead {n : Nat} (f : Nat) : ∀ (done : Array Bool) (a : Act) (w : World), C w → lHead P md ops C Q n f done a → wpAny P md ops Q f done a w := by
  induction f with
  | zero => intro done a w _ h; exact h.elim
  | succ f ih =>
    intro done a w hw h
    refine ⟨fun h0 => absurd h0 h.1, fun i hi => ?_⟩
    rcases h.2 i hi with ⟨rfl, h1⟩ | ⟨_, h1⟩
    · exact h1 w hw
    · exact wpOp_of_qOp hw (fun a' w' hw' h' => ih _ a' w' hw' h') h1

/-- nothing behind 'n' may come up while 'n' has not -/
theorem le_of_ready {n j : Nat} {done : Array Bool} (hc : Region.chainB md ops n = true) (inv : HeadInv md ops n done) (hj : j ∈ Region.ready md ops done) : j ≤ n := by
  obtain ⟨_, oj, hoj, hall⟩ := mem_ready.1 hj
  have hjlt : j < ops.size := (Array.getElem?_eq_some_iff.1 hoj).1
  have h1 := List.all_eq_true.1 hc j (List.mem_range.2 hjlt)
  simp only [Bool.or_eq_true, decide_eq_true_eq] at h1
  rcases h1 with h1 | h1
  · exact h1
  · by_cases hle : j ≤ n
    · exact hle
    · exfalso
      obtain ⟨o', ho', e, he, hb, hon⟩ := Region.waitsFor_spec h1
      have : o' = oj := Option.some.inj (ho'.symm.trans hoj)
      subst this
      have h2 := hall e he hb
      rw [hon, getD_both (inv.tail (j - 1) (by omega) (by omega))] at h2
      cases h2

theorem lHead_first {n i : Nat} {oi : Oper} {v : Value} (hQ : ∀ c a w, ¬ Q (.panic c) a w) (hi : ops[i]? = some oi) (hsel : ∀ (j : Nat) (o : Oper) cs b, ops[j]? = some o → o.op ≠ .select cs b)
    (hc : Region.chainB md ops n = true) (hin : i < n) (f : Nat) :
    ∀ (done : Array Bool) (a : Act), HeadInv md ops n done →
      (∀ j oj, ops[j]? = some oj → j ≠ i → done.getD j true = false → (∀ e ∈ oj.after, Region.binds md e = true → e.on ≠ i) → oi.apart ops oj = true) →
      i ∈ Region.ready md ops done → YieldsIn P ops C oi v a → (Region.waitsFor md ops n i = true ∨ Yields P ops oi v a) → lHead P md ops C Q n f (done.setIfInBounds i true) (a.put oi.dst v) → lHead P md ops C Q n (f + 1) done a := by
  induction f with
  | zero => intro done a _ _ _ _ _ H; exact H.elim
  | succ f ih =>
    intro done a inv hfree hr hy hp H
    refine ⟨List.ne_nil_of_mem hr, fun j hj => ?_⟩
    have hjn := le_of_ready hc inv hj
    by_cases hji : j = i
    · exact .inr ⟨by omega, by rw [hji]; exact hy.qOp hi H⟩
    obtain ⟨hjun, oj, hoj, hall⟩ := mem_ready.1 hj
    have hne : ∀ e ∈ oj.after, Region.binds md e = true → e.on ≠ i := by
      intro e he hb heq
      have := hall e he hb
      rw [heq, getD_both (mem_ready.1 hr).1] at this
      cases this
    have hrest : ∀ k ok, ops[k]? = some ok → k ≠ i → (done.setIfInBounds j true).getD k true = false → (∀ e ∈ ok.after, Region.binds md e = true → e.on ≠ i) → oi.apart ops ok = true := by
      intro k ok hk hki hun hno
      refine hfree k ok hk hki ?_ hno
      by_cases hjk : j = k
      · rw [← hjk]; exact hjun
      · rwa [getD_set_ne true hjk] at hun
    have hap := hfree j oj hoj hji hjun hne
    obtain ⟨p1, p2, p3⟩ := Oper.apart_spec hap
    rcases H.2 j (ready_mono hj hji) with ⟨hjm, h1⟩ | ⟨hlt, h1⟩
    · -- the writing comes up first
      subst hjm
      have hpure : Yields P ops oi v a := by
        rcases hp with hp | hp
        · obtain ⟨o', ho', e, he, hb, hon⟩ := Region.waitsFor_spec hp
          have : o' = oj := Option.some.inj (ho'.symm.trans hoj)
          subst this
          exact absurd hon (hne e he hb)
        · exact hp
      refine .inl ⟨rfl, fun w hw => ?_⟩
      have h2 := wpOp_put hoj hap (fun cs b => hsel i oi cs b hi) (fun cs b => hsel j oj cs b hoj) (fun c a w h => absurd h (hQ c _ w)) hpure (h1 w hw)
      refine wpOp_mono (fun a' w' h3 => ?_) h2
      refine wpAny_first hi hsel (fun c a w h => absurd h (hQ c _ w)) f _ a' w' hrest (ready_mono hr (Ne.symm hji)) h3.1 ?_
      have h4 := h3.2
      rwa [Array.setIfInBounds_comm _ _ (Ne.symm hji)] at h4
    · refine .inr ⟨hlt, ?_⟩
      have hput := qOp_put hoj hap (fun cs b => hsel i oi cs b hi) (fun cs b => hsel j oj cs b hoj) hy h1
      have hput2 : qOp P ops C j (fun a' => (Region.waitsFor md ops n i = true ∨ Yields P ops oi v a') ∧ YieldsIn P ops C oi v a' ∧ lHead P md ops C Q n f ((done.setIfInBounds i true).setIfInBounds j true) (a'.put oi.dst v)) a := by
        have keep : ∀ u, Region.waitsFor md ops n i = true ∨ Yields P ops oi v (a.put oj.dst u) := fun u => hp.imp id fun h =>
          h.of_same (execOp_put oi (fun cs b => hsel i oi cs b hi) a oj.dst u p3) (wanted_put oi a oj.dst u p3)
        unfold qOp at hput ⊢
        simp only [hoj] at hput ⊢
        split
        · rename_i hw
          rw [if_pos hw] at hput
          obtain ⟨u, hu, hn⟩ := hput
          exact ⟨u, hu, keep u, hn⟩
        · rename_i hw
          rw [if_neg hw] at hput
          exact ⟨keep _, hput⟩
      refine qOp_mono (fun a' h3 => ih (done.setIfInBounds j true) a' (inv.set hj hlt) hrest (ready_mono hr (Ne.symm hji)) h3.2.1 h3.1 ?_) hput2
      have h4 := h3.2.2
      rwa [Array.setIfInBounds_comm _ _ (Ne.symm hji)] at h4

/-- one operation after the other, quiet each; those of 'late' in whatever world -/
def wpQL (P : Program) (C : World → Prop) (late : List Nat) (Q : Act → Prop) : Nat → List Oper → Act → Prop
  | _, [], a => Q a
  | k, o :: rest, a => ∃ v, o.guard = none ∧ (∀ w, C w → o.quietAt P a C w v) ∧ (late.contains k = true → ∀ w, (execOp a.eval o).run P w = .ok (.value v) w) ∧ wpQL P C late Q (k + 1) rest (a.put o.dst v)

def lateTailB (ops : Array Oper) (n : Nat) (late : List Nat) : Bool :=
  Region.noSelect ops && decide (n < ops.size) && Region.chainB .any ops n && Region.lexHead .any ops (ops.size - n) n 0 (Array.replicate ops.size false) &&
  (List.range n).all fun i => Region.waitsFor .any ops n i || late.contains i

theorem lHead_lex {n g : Nat} {late : List Nat} {Lq : Act → Prop} (hQ : ∀ c a w, ¬ Q (.panic c) a w) (hsel : Region.noSelect ops = true) (hc : Region.chainB md ops n = true) (hn : n < ops.size)
    (hl8 : ∀ i, i < n → Region.waitsFor md ops n i = true ∨ late.contains i = true)
    (hend : ∀ (done : Array Bool) a, Region.seqB md ops (g + 1) n done = true → Lq a → lHead P md ops C Q n (g + 1) done a) (l : List Oper) :
    ∀ (k : Nat) (done : Array Bool) (a : Act), (∀ j, j < l.length → l[j]? = ops[k + j]?) → k + l.length = n → HeadInv md ops n done →
    Region.lexHead md ops (g + 1) l.length k done = true → wpQL P C late Lq k l a → lHead P md ops C Q n (l.length + (g + 1)) done a := by
  induction l with
  | nil =>
    intro k done a _ hk inv hB h
    have e : k = n := by simpa using hk
    subst e
    have := hend done a (by simpa [Region.lexHead] using hB) h
    simpa using this
  | cons o l ih =>
    intro k done a hl hk inv hB h
    have h0 : ops[k]? = some o := by simpa using (hl 0 (by simp)).symm
    rw [List.length_cons, Region.lexHead] at hB
    simp only [Bool.and_eq_true] at hB
    have hk' : k + (l.length + 1) = n := by simpa using hk
    have hr : k ∈ Region.ready md ops done := by simpa using hB.1.1
    obtain ⟨v, hg, hq, hlate, hK⟩ := h
    have hw : Region.wanted o (yielded ops a.tmps) = true := by simp [Region.wanted, hg]
    have hp : Region.waitsFor md ops n k = true ∨ Yields P ops o v a := (hl8 k (by omega)).imp id fun h => .inl ⟨hw, hlate h⟩
    have e : (o :: l).length + (g + 1) = (l.length + (g + 1)) + 1 := by simp; omega
    rw [e]
    refine lHead_first hQ h0 (Region.noSelect_spec hsel) hc (by omega) _ done a inv (Region.free_spec h0 hB.1.2) hr (.inl ⟨hw, hq⟩) hp ?_
    refine ih (k + 1) _ _ (fun j hj => ?_) (by omega) (inv.set hr (by omega)) hB.2 hK
    have h5 := hl (j + 1) (by simp; omega)
    rw [show k + 1 + j = k + (j + 1) by omega, ← h5]; rfl

theorem region_late {id : Nat} {a : Act} {w : World} {l : List Oper} (n : Nat) (late : List Nat) (hm : P.follows .mixedOrders = true) (hB : lateTailB l.toArray n late = true) (hC : C { w with drawn := w.drawn + 1 })
    (h : wpQL P C late (fun a' => ∀ w', C w' → wpList P l.toArray (Calm Q) (l.drop n) a' w') 0 (l.take n) a) : (Code.region id l.toArray true).wp P Q a w := by
  simp only [lateTailB, Bool.and_eq_true, decide_eq_true_eq] at hB
  obtain ⟨⟨⟨⟨hsel, hn⟩, hch⟩, hlex⟩, hl8⟩ := hB
  have hn' : n < l.length := by simpa using hn
  have len1 : (l.take n).length = n := by simp; omega
  have none_yet : ∀ j, (Array.replicate l.toArray.size false).getD j false = false := fun j => getD_replicate_false _ j
  have inv : HeadInv .any l.toArray n (Array.replicate l.toArray.size false) :=
    ⟨by simp, (fun j oj _ hl => by rw [none_yet] at hl; cases hl), fun t _ ht => getD_in (by simpa using ht) (none_yet t)⟩
  obtain ⟨g, hg⟩ : ∃ g, l.toArray.size - n = g + 1 := ⟨l.toArray.size - n - 1, by omega⟩
  rw [hg] at hlex
  have len2 : (l.drop n).length = g + 1 := by rw [List.length_drop, ← hg]; simp
  have hl8' : ∀ i, i < n → Region.waitsFor .any l.toArray n i = true ∨ late.contains i = true := fun i hi => by
    have := List.all_eq_true.1 hl8 i (List.mem_range.2 hi)
    simpa [Bool.or_eq_true] using this
  have H := lHead_lex (md := .any) (g := g) (Q := Calm Q) (fun c a w h => h) hsel hch hn hl8' (fun done a' hq hL => by
    have hready : Region.ready .any l.toArray done = [n] := by
      simp only [Region.seqB, Bool.and_eq_true, decide_eq_true_eq] at hq; exact hq.1
    refine ⟨by rw [hready]; simp, fun i hi => ?_⟩
    rw [hready] at hi
    refine .inl ⟨by simpa using hi, fun w' hw' => ?_⟩
    have h6 := wpAny_of_seq (md := .any) (Q' := Calm Q) (l.drop n) n done a' w' (fun j => by simp [List.getElem?_drop]) (by rw [len2]; exact hq) (hL w' hw')
    rw [len2] at h6
    exact h6.2 n (by rw [hready]; simp)) (l.take n) 0 _ a (fun j hj => by rw [len1] at hj; simp [hj]) (by simpa using len1) inv (by rw [len1]; exact hlex) h
  have H2 := any_of_lHead _ _ _ _ hC H
  rw [len1, show n + (g + 1) = l.toArray.size by omega] at H2
  exact Code.wp_mono Calm.imp (wp_region_any hm H2)
end

section
variable {P : Program} {N : Nat} {M : List Nat} {w0 : World} {ps : List (Nat × Value)} {es : List Ent} {Q : Exit → Act → World → Prop} {KQ : Act → Prop} {o : Oper} {rest : List Oper} {lt : List Nat}

theorem J.lateW {id : Nat} {l : List Oper} (n : Nat) (late : List Nat) (hm : P.follows .mixedOrders = true) (hB : lateTailB l.toArray n late = true)
    (h : JQ N ps (wpQL P (fun w' => Own M w0 w' es) late (fun a' => ∀ w', Own M w0 w' es → wpList P l.toArray (Calm Q) (l.drop n) a' w') 0 (l.take n))) :
    J N M w0 ps es ((Code.region id l.toArray true).wp P Q) := fun a w hs how =>
  region_late (C := fun w' => Own M w0 w' es) n late hm hB how.drew (h a hs)

theorem JL.op {k d : Nat} {v : Value} (hl : lt.contains k = false) (hg : o.guard = none) (hd : o.dst = some d) (hN : Nat.blt d N = true) (hv : OpV P N M w0 ps es o v) (h : JQ N ((d, v) :: ps) (wpQL P (fun w' => Own M w0 w' es) lt KQ (k + 1) rest)) :
    JQ N ps (wpQL P (fun w' => Own M w0 w' es) lt KQ k (o :: rest)) := fun a hs =>
  ⟨v, hg, fun w' hw' => by unfold Oper.quietAt; rw [hv a w' hs hw']; exact ⟨rfl, rfl⟩, (fun h => by rw [hl] at h; cases h), by rw [hd]; exact h _ (hs.put _ (blt_lt hN))⟩

theorem JL.pure {k d : Nat} {v : Value} (hg : o.guard = none) (hd : o.dst = some d) (hN : Nat.blt d N = true) (hv : ∀ w1, OpV P N [] w1 ps [] o v) (h : JQ N ((d, v) :: ps) (wpQL P (fun w' => Own M w0 w' es) lt KQ (k + 1) rest)) :
    JQ N ps (wpQL P (fun w' => Own M w0 w' es) lt KQ k (o :: rest)) := fun a hs =>
  ⟨v, hg, fun w' hw' => by unfold Oper.quietAt; rw [hv w' a w' hs (Own.refl w')]; exact ⟨rfl, rfl⟩, fun _ w' => hv w' a w' hs (Own.refl w'), by rw [hd]; exact h _ (hs.put _ (blt_lt hN))⟩

theorem JL.tail {ops : Array Oper} {l : List Oper} {k : Nat} (h : J N M w0 ps es (wpList P ops (Calm Q) l)) : JQ N ps (wpQL P (fun w' => Own M w0 w' es) lt (fun a' => ∀ w', Own M w0 w' es → wpList P ops (Calm Q) l a' w') k []) := fun a hs =>
  (fun w' hw' => h a w' hs hw')
end
end G
end Go.Proofs.YtadggddaheipgaaDoor
