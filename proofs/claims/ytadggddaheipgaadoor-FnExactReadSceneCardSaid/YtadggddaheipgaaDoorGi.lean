/- A region that draws its order, reads first and writes last: the readings in any order, the writings in theirs. No condition. -/
import Derived.Test.YtadggddaheipgaaDoorGh
import Derived.StillTail
set_option linter.unusedVariables false
namespace Go.Proofs.YtadggddaheipgaaDoor
open Go Go.RowKit
namespace G
section
variable {P : Program} {ops : Array Oper} {md : Region.Mode} {C : World → Prop}

/-- The first 'n' operations come up in some order, quiet each; then 'L'. -/
def qHead (P : Program) (md : Region.Mode) (ops : Array Oper) (C : World → Prop) (n : Nat) (L : Array Bool → Act → Prop) : Nat → Array Bool → Act → Prop
  | 0, done, a => L done a
  | f + 1, done, a => Region.ready md ops done ≠ [] ∧ ∀ i ∈ Region.ready md ops done, i < n ∧ qOp P ops C i (qHead P md ops C n L f (done.setIfInBounds i true)) a

theorem any_of_qHead {n g : Nat} {L : Array Bool → Act → Prop} {Q' : Exit → Act → World → Prop} (hL : ∀ done a w, C w → L done a → wpAny P md ops Q' g done a w) (f : Nat) :
    ∀ (done : Array Bool) (a : Act) (w : World), C w → qHead P md ops C n L f done a → wpAny P md ops Q' (f + g) done a w := by
  induction f with
  | zero => intro done a w hw h; rw [Nat.zero_add]; exact hL _ _ _ hw h
  | succ f ih =>
    intro done a w hw h
    have e : f + 1 + g = (f + g) + 1 := by omega
    rw [e]
    exact ⟨fun h0 => absurd h0 h.1, fun i hi => wpOp_of_qOp hw (fun a' w' hw' h' => ih _ a' w' hw' h') (h.2 i hi).2⟩

theorem qHead_first {n i : Nat} {oi : Oper} {v : Value} {L : Array Bool → Act → Prop} (hi : ops[i]? = some oi) (hsel : ∀ (j : Nat) (o : Oper) cs b, ops[j]? = some o → o.op ≠ .select cs b)
    (hs : Region.sinkB md ops n = true) (hc : Region.chainB md ops n = true) (hn : n < ops.size) (hin : i < n) (hdone : ∀ done a, L done a → ∀ j ∈ Region.ready md ops done, n ≤ j) (f : Nat) :
    ∀ (done : Array Bool) (a : Act), HeadInv md ops n done →
      (∀ j oj, ops[j]? = some oj → j ≠ i → done.getD j true = false → (∀ e ∈ oj.after, Region.binds md e = true → e.on ≠ i) → oi.apart ops oj = true) →
      i ∈ Region.ready md ops done → YieldsIn P ops C oi v a → qHead P md ops C n L f (done.setIfInBounds i true) (a.put oi.dst v) → qHead P md ops C n L (f + 1) done a := by
  induction f with
  | zero =>
    intro done a inv _ hr hy H
    refine ⟨List.ne_nil_of_mem hr, fun j hj => ?_⟩
    have hjn : j < n := Nat.lt_of_not_le fun h => tail_waits hs hc hn inv _ i rfl hin (mem_ready.1 hr).1 j h hj
    by_cases hji : j = i
    · exact ⟨hjn, by rw [hji]; exact hy.qOp hi H⟩
    · have h2 := hdone _ _ H j (ready_mono hj hji)
      omega
  | succ f ih =>
    intro done a inv hfree hr hy H
    refine ⟨List.ne_nil_of_mem hr, fun j hj => ?_⟩
    have hjn : j < n := Nat.lt_of_not_le fun h => tail_waits hs hc hn inv _ i rfl hin (mem_ready.1 hr).1 j h hj
    refine ⟨hjn, ?_⟩
    by_cases hji : j = i
    · rw [hji]; exact hy.qOp hi H
    obtain ⟨hjun, oj, hoj, hall⟩ := mem_ready.1 hj
    have hne : ∀ e ∈ oj.after, Region.binds md e = true → e.on ≠ i := by
      intro e he hb heq
      have := hall e he hb
      rw [heq, getD_both (mem_ready.1 hr).1] at this
      cases this
    have hrest : ∀ k ok, ops[k]? = some ok → k ≠ i → (done.setIfInBounds j true).getD k true = false → (∀ e ∈ ok.after, Region.binds md e = true → e.on ≠ i) → oi.apart ops ok = true := by
      intro k ok hk hki hun hno
      refine hfree k ok hk hki ?_ hno
      by_cases hjk : j = k
      · rw [← hjk]; exact hjun
      · rwa [getD_set_ne true hjk] at hun
    have hput := qOp_put hoj (hfree j oj hoj hji hjun hne) (fun cs b => hsel i oi cs b hi) (fun cs b => hsel j oj cs b hoj) hy (H.2 j (ready_mono hj hji)).2
    refine qOp_mono (fun a' h3 => ih (done.setIfInBounds j true) a' (inv.set hj hjn) hrest (ready_mono hr (Ne.symm hji)) h3.1 ?_) hput
    have h4 := h3.2
    rwa [Array.setIfInBounds_comm _ _ (Ne.symm hji)] at h4

theorem qHead_lex {n g : Nat} {Lq : Act → Prop} (hsel : Region.noSelect ops = true) (hs : Region.sinkB md ops n = true) (hc : Region.chainB md ops n = true) (hn : n < ops.size) (l : List Oper) :
    ∀ (k : Nat) (done : Array Bool) (a : Act), (∀ j, j < l.length → l[j]? = ops[k + j]?) → k + l.length = n → HeadInv md ops n done →
    Region.lexHead md ops g l.length k done = true → wpQuiet P ops C Lq l a → qHead P md ops C n (fun done' a' => Region.seqB md ops g n done' = true ∧ Lq a') l.length done a := by
  induction l with
  | nil =>
    intro k done a _ hk _ hB h
    have e : k = n := by simpa using hk
    rw [← e]
    exact ⟨by simpa [Region.lexHead] using hB, h⟩
  | cons o l ih =>
    intro k done a hl hk inv hB h
    have h0 : ops[k]? = some o := by simpa using (hl 0 (by simp)).symm
    simp only [List.length_cons, Region.lexHead, Bool.and_eq_true] at hB
    have hk' : k + (l.length + 1) = n := by simpa using hk
    have hr : k ∈ Region.ready md ops done := by simpa using hB.1.1
    have hq : qOp P ops C k (wpQuiet P ops C Lq l) a := by unfold qOp; simp only [h0]; exact h
    obtain ⟨v, hy, hK⟩ := yieldsIn_of_qOp h0 hq
    refine qHead_first h0 (Region.noSelect_spec hsel) hs hc hn (by omega) (fun done' a' hL => seqB_ready hL.1) l.length done a inv (Region.free_spec h0 hB.1.2) hr hy ?_
    refine ih (k + 1) _ _ (fun j hj => ?_) (by omega) (inv.set hr (by omega)) hB.2 hK
    have h5 := hl (j + 1) (by simp; omega)
    rw [show k + 1 + j = k + (j + 1) by omega, ← h5]; rfl

theorem region_tail {id : Nat} {Q : Exit → Act → World → Prop} {a : Act} {w : World} {l : List Oper} (n : Nat) (hm : P.follows .mixedOrders = true) (hB : Region.lexTailB .any l.toArray n = true) (hC : C { w with drawn := w.drawn + 1 })
    (h : wpQuiet P l.toArray C (fun a' => ∀ w', C w' → wpList P l.toArray Q (l.drop n) a' w') (l.take n) a) : (Code.region id l.toArray true).wp P Q a w := by
  simp only [Region.lexTailB, Bool.and_eq_true, decide_eq_true_eq] at hB
  obtain ⟨⟨⟨⟨hsel, hn⟩, hs⟩, hc⟩, hlex⟩ := hB
  have hn' : n < l.length := by simpa using hn
  have len1 : (l.take n).length = n := by simp; omega
  have len2 : (l.drop n).length = l.toArray.size - n := by simp
  have none_yet : ∀ j, (Array.replicate l.toArray.size false).getD j false = false := fun j => getD_replicate_false _ j
  have inv : HeadInv .any l.toArray n (Array.replicate l.toArray.size false) :=
    ⟨by simp, (fun j oj _ hl => by rw [none_yet] at hl; cases hl), fun t _ ht => getD_in (by simpa using ht) (none_yet t)⟩
  have H := qHead_lex (md := .any) (g := l.toArray.size - n) hsel hs hc hn (l.take n) 0 _ a (fun j hj => by rw [len1] at hj; simp [hj]) (by simpa using len1) inv (by rw [len1]; exact hlex) h
  have H2 := any_of_qHead (Q' := Q) (g := l.toArray.size - n) (fun done a' w' hw' hL => by
    have h6 := wpAny_of_seq (md := .any) (Q' := Q) (l.drop n) n done a' w' (fun j => by simp [List.getElem?_drop]) (by rw [len2]; exact hL.1) (hL.2 w' hw')
    rwa [len2] at h6) _ _ _ _ hC H
  rw [len1, show n + (l.toArray.size - n) = l.toArray.size by omega] at H2
  exact wp_region_any hm H2
end

/-! ### One variable is made in between, at whatever place -/

section
variable {P : Program} {ops : Array Oper} {md : Region.Mode} {ι : Type} {C : World → Prop} {C2 : ι → World → Prop}

/-- Operation 'm' makes the variable (what it hands back: 'V b'); the other ones of the first 'n' are quiet, before it and behind it. -/
def aHead (P : Program) (md : Region.Mode) (ops : Array Oper) (C : World → Prop) (C2 : ι → World → Prop) (n m : Nat) (d : Option Nat) (V : ι → Value) (L : ι → Array Bool → Act → Prop) : Nat → Array Bool → Act → Prop
  | 0, _, _ => False
  | f + 1, done, a => Region.ready md ops done ≠ [] ∧ ∀ i ∈ Region.ready md ops done,
      (i = m ∧ ∀ b, qHead P md ops (C2 b) n (L b) f (done.setIfInBounds m true) (a.put d (V b))) ∨ (i ≠ m ∧ i < n ∧ qOp P ops C i (aHead P md ops C C2 n m d V L f (done.setIfInBounds i true)) a)

theorem any_of_aHead {n m g : Nat} {d : Option Nat} {V : ι → Value} {L : ι → Array Bool → Act → Prop} {Q' : Exit → Act → World → Prop} (hL : ∀ b done a w, C2 b w → L b done a → wpAny P md ops Q' g done a w)
    (hm : ∀ (K : Act → World → Prop) a w, C w → (∀ b w', C2 b w' → K (a.put d (V b)) w') → wpOp P ops Q' m K a w) (f : Nat) :
    ∀ (done : Array Bool) (a : Act) (w : World), C w → aHead P md ops C C2 n m d V L f done a → wpAny P md ops Q' (f + g) done a w := by
  induction f with
  | zero => intro done a w _ h; exact h.elim
  | succ f ih =>
    intro done a w hw h
    have e : f + 1 + g = (f + g) + 1 := by omega
    rw [e]
    refine ⟨fun h0 => absurd h0 h.1, fun i hi => ?_⟩
    rcases h.2 i hi with ⟨rfl, h1⟩ | ⟨_, _, h1⟩
    · exact hm _ a w hw fun b w' hw' => any_of_qHead (hL b) f _ _ w' hw' (h1 b)
    · exact wpOp_of_qOp hw (fun a' w' hw' h' => ih _ a' w' hw' h') h1

theorem aHead_first {n m i : Nat} {d : Option Nat} {V : ι → Value} {oi om : Oper} {v : Value} {L : ι → Array Bool → Act → Prop} (hi : ops[i]? = some oi) (hom : ops[m]? = some om) (hd : om.dst = d) (hsel : ∀ (j : Nat) (o : Oper) cs b, ops[j]? = some o → o.op ≠ .select cs b)
    (hs : Region.sinkB md ops n = true) (hc : Region.chainB md ops n = true) (hn : n < ops.size) (hin : i < n) (him : i ≠ m) (hmn : m < n) (hdone : ∀ b done a, L b done a → ∀ j ∈ Region.ready md ops done, n ≤ j) (f : Nat) :
    ∀ (done : Array Bool) (a : Act), HeadInv md ops n done →
      (∀ j oj, ops[j]? = some oj → j ≠ i → done.getD j true = false → (∀ e ∈ oj.after, Region.binds md e = true → e.on ≠ i) → oi.apart ops oj = true) →
      i ∈ Region.ready md ops done → YieldsIn P ops C oi v a → (∀ b, YieldsIn P ops (C2 b) oi v a) → aHead P md ops C C2 n m d V L f (done.setIfInBounds i true) (a.put oi.dst v) → aHead P md ops C C2 n m d V L (f + 1) done a := by
  induction f with
  | zero => intro done a _ _ _ _ _ H; exact H.elim
  | succ f ih =>
    intro done a inv hfree hr hy hy2 H
    refine ⟨List.ne_nil_of_mem hr, fun j hj => ?_⟩
    have hjn : j < n := Nat.lt_of_not_le fun h => tail_waits hs hc hn inv _ i rfl hin (mem_ready.1 hr).1 j h hj
    by_cases hji : j = i
    · exact .inr ⟨by rw [hji]; exact him, hjn, by rw [hji]; exact hy.qOp hi H⟩
    obtain ⟨hjun, oj, hoj, hall⟩ := mem_ready.1 hj
    have hne : ∀ e ∈ oj.after, Region.binds md e = true → e.on ≠ i := by
      intro e he hb heq
      have := hall e he hb
      rw [heq, getD_both (mem_ready.1 hr).1] at this
      cases this
    have hrest : ∀ k ok, ops[k]? = some ok → k ≠ i → (done.setIfInBounds j true).getD k true = false → (∀ e ∈ ok.after, Region.binds md e = true → e.on ≠ i) → oi.apart ops ok = true := by
      intro k ok hk hki hun hno
      refine hfree k ok hk hki ?_ hno
      by_cases hjk : j = k
      · rw [← hjk]; exact hjun
      · rwa [getD_set_ne true hjk] at hun
    have hap := hfree j oj hoj hji hjun hne
    rcases H.2 j (ready_mono hj hji) with ⟨hjm, h1⟩ | ⟨hjm, _, h1⟩
    · refine .inl ⟨hjm, fun b => ?_⟩
      subst hjm
      have : om = oj := Option.some.inj (hom.symm.trans hoj)
      subst this
      obtain ⟨p1, p2, p3⟩ := Oper.apart_spec hap
      have hyb : YieldsIn P ops (C2 b) oi v (a.put d (V b)) := by
        rw [← hd]
        exact (hy2 b).of_same (execOp_put oi (fun cs b => hsel i oi cs b hi) a om.dst (V b) p3) (wanted_put oi a om.dst (V b) p3)
      have h2 := h1 b
      rw [Array.setIfInBounds_comm _ _ (Ne.symm hji), ← hd, Act.put_comm a v (V b) p2] at h2
      rw [← hd]
      rw [← hd] at hyb
      exact qHead_first hi hsel hs hc hn hin (hdone b) f _ _ (inv.set hj hjn) hrest (ready_mono hr (Ne.symm hji)) hyb h2
    · refine .inr ⟨hjm, hjn, ?_⟩
      have hyy : YieldsIn P ops C oi v a ∧ ∀ b, YieldsIn P ops (C2 b) oi v a := ⟨hy, hy2⟩
      have hput := qOp_put hoj hap (fun cs b => hsel i oi cs b hi) (fun cs b => hsel j oj cs b hoj) hy h1
      obtain ⟨p1, p2, p3⟩ := Oper.apart_spec hap
      -- the value in every class stays too
      have hput2 : qOp P ops C j (fun a' => (∀ b, YieldsIn P ops (C2 b) oi v a') ∧ YieldsIn P ops C oi v a' ∧ aHead P md ops C C2 n m d V L f ((done.setIfInBounds i true).setIfInBounds j true) (a'.put oi.dst v)) a := by
        have keep : ∀ u b, YieldsIn P ops (C2 b) oi v (a.put oj.dst u) := fun u b => (hy2 b).of_same (execOp_put oi (fun cs b => hsel i oi cs b hi) a oj.dst u p3) (wanted_put oi a oj.dst u p3)
        unfold qOp at hput ⊢
        simp only [hoj] at hput ⊢
        split
        · rename_i hw
          rw [if_pos hw] at hput
          obtain ⟨u, hu, hn⟩ := hput
          exact ⟨u, hu, keep u, hn⟩
        · rename_i hw
          rw [if_neg hw] at hput
          exact ⟨keep _, hput⟩
      refine qOp_mono (fun a' h3 => ih (done.setIfInBounds j true) a' (inv.set hj hjn) hrest (ready_mono hr (Ne.symm hji)) h3.2.1 h3.1 ?_) hput2
      have h4 := h3.2.2
      rwa [Array.setIfInBounds_comm _ _ (Ne.symm hji)] at h4
end

section
variable {P : Program} {N : Nat} {M : List Nat} {w0 : World} {ps : List (Nat × Value)} {es : List Ent} {Q : Exit → Act → World → Prop} {ops : Array Oper} {md : Region.Mode}

theorem aHead_lex {n m g d : Nat} {T : TypeId} {zs : List Value} {om : Oper} {Lq : Act → Prop} (hom : ops[m]? = some om) (hd : om.dst = some d) (hsel : Region.noSelect ops = true) (hs : Region.sinkB md ops n = true) (hc : Region.chainB md ops n = true) (hn : n < ops.size) (hmn : m + 1 = n) (l : List Oper) :
    ∀ (k : Nat) (done : Array Bool) (a : Act), (∀ j, j < l.length → l[j]? = ops[k + j]?) → k + l.length = m → HeadInv md ops n done →
    Region.lexHead md ops g (l.length + 1) k done = true → (∀ j, j < k → done.getD j true = true) → wpQF P ops (fam M w0 es) Lq l a →
    aHead P md ops (fam M w0 es []) (fun b : Nat => fam M w0 es [.blk b zs T]) n m (some d) (fun b => bp b 0) (fun b done' a' => Region.seqB md ops g n done' = true ∧ ∃ a0, a' = a0.put (some d) (bp b 0) ∧ Lq a0) (l.length + 1) done a := by
  induction l with
  | nil =>
    intro k done a _ hk inv hB hbelow h
    have e : k = m := by simpa using hk
    subst e
    simp only [List.length_nil, Region.lexHead, Bool.and_eq_true] at hB
    have hr : k ∈ Region.ready md ops done := by simpa using hB.1.1
    refine ⟨List.ne_nil_of_mem hr, fun i hi => ?_⟩
    have hin : i < n := Nat.lt_of_not_le fun h => tail_waits hs hc hn inv _ k rfl (by omega) (mem_ready.1 hr).1 i h hi
    have him : i = k := by
      rcases Nat.lt_or_ge i k with h1 | h1
      · have h2 := hbelow i h1
        rw [(mem_ready.1 hi).1] at h2
        cases h2
      · omega
    exact .inl ⟨him, fun b => ⟨by rw [← hmn]; exact hB.2, a, rfl, h⟩⟩
  | cons o l ih =>
    intro k done a hl hk inv hB hbelow h
    have h0 : ops[k]? = some o := by simpa using (hl 0 (by simp)).symm
    rw [List.length_cons, Region.lexHead] at hB
    simp only [Bool.and_eq_true] at hB
    have hk' : k + (l.length + 1) = m := by simpa using hk
    have hr : k ∈ Region.ready md ops done := by simpa using hB.1.1
    obtain ⟨v, hy, hK⟩ : ∃ v, (∀ xs, YieldsIn P ops (fam M w0 es xs) o v a) ∧ wpQF P ops (fam M w0 es) Lq l (a.put o.dst v) := by
      unfold wpQF at h
      by_cases hw : Region.wanted o (yielded ops a.tmps) = true
      · rw [if_pos hw] at h
        obtain ⟨v, h1, h2⟩ := h
        exact ⟨v, fun xs => .inl ⟨hw, h1 xs⟩, h2⟩
      · rw [if_neg hw] at h
        exact ⟨undef, fun xs => .inr ⟨by simpa using hw, rfl⟩, h⟩
    refine aHead_first h0 hom hd (Region.noSelect_spec hsel) hs hc hn (by omega) (by omega) (by omega) (fun b done' a' hL => seqB_ready hL.1) _ done a inv (Region.free_spec h0 hB.1.2) hr (hy []) (fun b => hy _) ?_
    refine ih (k + 1) _ _ (fun j hj => ?_) (by omega) (inv.set hr (by omega)) hB.2 (fun j hj => ?_) hK
    · have h5 := hl (j + 1) (by simp; omega)
      rw [show k + 1 + j = k + (j + 1) by omega, ← h5]; rfl
    · have hsz : k < done.size := by rw [inv.size]; omega
      by_cases e : k = j
      · subst e; simp [hsz]
      · rw [getD_set_ne true e]; exact hbelow j (by omega)

theorem J.anyAlloc {d : Nat} {l : List Oper} {T : TypeId} {z : Value} {zs : List Value} {om : Oper} (m : Nat) (hB : Region.lexTailB .any l.toArray (m + 1) = true)
    (hom : l[m]? = some om) (hg : om.guard = none) (hd : om.dst = some d) (hN : Nat.blt d N = true) (ho : om.op = .alloc T) (hz : zeroP P T = some z) (hc : z.cells = zs.toArray)
    (h : JQ N ps (wpQF P l.toArray (fam M w0 es) (fun a' => ∀ b w', Own M w0 w' (.blk b zs T :: es) → wpList P l.toArray Q (l.drop (m + 1)) (a'.put (some d) (bp b 0)) w') (l.take m))) :
    J N M w0 ps es (fun a w => wpAny P .any l.toArray Q l.toArray.size (Array.replicate l.toArray.size false) a { w with drawn := w.drawn + 1 }) := fun a w hs how => by
  simp only [Region.lexTailB, Bool.and_eq_true, decide_eq_true_eq] at hB
  obtain ⟨⟨⟨⟨hsel, hn⟩, hsk⟩, hch⟩, hlex⟩ := hB
  have hn' : m + 1 < l.length := by simpa using hn
  have len1 : (l.take m).length = m := by simp; omega
  have len2 : (l.drop (m + 1)).length = l.toArray.size - (m + 1) := by simp
  have none_yet : ∀ j, (Array.replicate l.toArray.size false).getD j false = false := fun j => getD_replicate_false _ j
  have inv : HeadInv .any l.toArray (m + 1) (Array.replicate l.toArray.size false) :=
    ⟨by simp, (fun j oj _ hl => by rw [none_yet] at hl; cases hl), fun t _ ht => getD_in (by simpa using ht) (none_yet t)⟩
  have H := aHead_lex (md := .any) (g := l.toArray.size - (m + 1)) (T := T) (zs := zs) (by simpa using hom) hd hsel hsk hch hn rfl (l.take m) 0 _ a (fun j hj => by rw [len1] at hj; simp [hj]) (by simpa using len1) inv (by rw [len1]; exact hlex) (fun j hj => by omega) (h a hs)
  have H2 := any_of_aHead (Q' := Q) (g := l.toArray.size - (m + 1)) (fun b done a' w' hw' hL => by
    obtain ⟨hq, a0, rfl, hl⟩ := hL
    have h6 := wpAny_of_seq (md := .any) (Q' := Q) (l.drop (m + 1)) (m + 1) done _ w' (fun j => by simp [List.getElem?_drop]) (by rw [len2]; exact hq) (hl b w' hw')
    rwa [len2] at h6) (fun K a w hw hK => by
      have hr : (execOp a.eval om).run P w = .ok (.value (bp w.heap.size 0)) (w.alloc (.cells zs.toArray T)) := by
        simp [execOp, ho, Instr.alloc, run_zero hz, newVar, newRow, newObj, hc, bp, Sem.run]
      have hom' : l.toArray[m]? = some om := by simpa using hom
      unfold wpOp
      simp only [hom']
      rw [if_pos (by simp [Region.wanted, hg])]
      refine .inl ?_
      unfold Oper.wp
      rw [hr, Oper.upon_value, hd]
      exact hK _ _ (Own.alloc (fam.base hw) zs T)) _ _ _ _ how.drew H
  rw [len1, show m + 1 + (l.toArray.size - (m + 1)) = l.toArray.size by omega] at H2
  exact H2

theorem J.quietAlloc {id d : Nat} {l : List Oper} {T : TypeId} {z : Value} {zs : List Value} {om : Oper} (m : Nat) (hm : P.follows .mixedOrders = true) (hB : Region.lexTailB .any l.toArray (m + 1) = true)
    (hom : l[m]? = some om) (hg : om.guard = none) (hd : om.dst = some d) (hN : Nat.blt d N = true) (ho : om.op = .alloc T) (hz : zeroP P T = some z) (hc : z.cells = zs.toArray)
    (h : JQ N ps (wpQF P l.toArray (fam M w0 es) (fun a' => ∀ b w', Own M w0 w' (.blk b zs T :: es) → wpList P l.toArray Q (l.drop (m + 1)) (a'.put (some d) (bp b 0)) w') (l.take m))) :
    J N M w0 ps es ((Code.region id l.toArray true).wp P Q) := fun a w hs how => wp_region_any hm (J.anyAlloc m hB hom hg hd hN ho hz hc h a w hs how)

theorem JQ.make {ops : Array Oper} {l : List Oper} {d : Nat} {T : TypeId} {zs : List Value} (hN : Nat.blt d N = true) (h : ∀ b, J N M w0 ((d, bp b 0) :: ps) (.blk b zs T :: es) (wpList P ops Q l)) :
    JQ N ps (wpQF P ops (fam M w0 es) (fun a' => ∀ b w', Own M w0 w' (.blk b zs T :: es) → wpList P ops Q l (a'.put (some d) (bp b 0)) w') []) := fun a hs =>
  (fun b w' hw' => h b _ w' (hs.put _ (blt_lt hN)) hw')
end

section
variable {P : Program} {N : Nat} {M : List Nat} {w0 : World} {ps : List (Nat × Value)} {es : List Ent} {Q : Exit → Act → World → Prop}

theorem J.quietTail {id : Nat} {l : List Oper} (n : Nat) (hm : P.follows .mixedOrders = true) (hB : Region.lexTailB .any l.toArray n = true)
    (h : JQ N ps (wpQF P l.toArray (fam M w0 es) (fun a' => ∀ w', Own M w0 w' es → wpList P l.toArray Q (l.drop n) a' w') (l.take n))) :
    J N M w0 ps es ((Code.region id l.toArray true).wp P Q) := fun a w hs how =>
  region_tail (C := fun w' => Own M w0 w' es) n hm hB how.drew (wpQF.one (Cs := fam M w0 es) [] (h a hs))

theorem JQ.tail {ops : Array Oper} {l : List Oper} (h : J N M w0 ps es (wpList P ops Q l)) : JQ N ps (wpQF P ops (fam M w0 es) (fun a' => ∀ w', Own M w0 w' es → wpList P ops Q l a' w') []) := fun a hs =>
  (fun w' hw' => h a w' hs hw')
end
end G
end Go.Proofs.YtadggddaheipgaaDoor
