/- A small calculus of walks: what is known of a frame is a list of slots with their values, what is known of memory a list of entries with footprints that lie apart. No condition. -/
import Derived.WalkKit
import Derived.Deep.Draws
import Derived.KernelRfl
namespace Go.Proofs.YtadggddaheipgaaDoor
open Go Go.RowKit
namespace G

/-! ### What is known of a frame -/

def lk : List (Nat × Value) → Nat → Option Value
  | [], _ => none
  | (s, v) :: r, t => bif Nat.beq s t then some v else lk r t

structure Sees (N : Nat) (a : Act) (ps : List (Nat × Value)) : Prop where
  size : a.tmps.size = N
  defs : a.defers = []
  has : ∀ t v, lk ps t = some v → a.tmps[t]? = some v

def ev (ps : List (Nat × Value)) : Operand → Option Value
  | .tmp t => lk ps t
  | .const v => some v
  | .global g => some (.pointer (some ⟨g, 0, none⟩))
  | .func f => some (.func (.func f) #[] #[])

theorem Sees.eval {N : Nat} {a : Act} {ps : List (Nat × Value)} (h : Sees N a ps) {x : Operand} {v : Value} (hx : ev ps x = some v) : a.eval x = v := by
  cases x with
  | tmp t =>
    have := h.has t v hx
    simp only [Act.eval, Array.getD_eq_getD_getElem?, this, Option.getD_some]
  | const u => simpa [ev, Act.eval] using hx
  | global g => simpa [ev, Act.eval] using hx
  | func f => simpa [ev, Act.eval] using hx

theorem lk_cons (s : Nat) (v : Value) (r : List (Nat × Value)) (t : Nat) : lk ((s, v) :: r) t = if s = t then some v else lk r t := by
  by_cases h : s = t
  · subst h; simp [lk]
  · have : Nat.beq s t = false := Bool.eq_false_iff.2 (fun hb => h (Nat.eq_of_beq_eq_true hb))
    simp [lk, this, h]

theorem Sees.put {N : Nat} {a : Act} {ps : List (Nat × Value)} (h : Sees N a ps) {d : Nat} (v : Value) (hd : d < N) : Sees N (a.put (some d) v) ((d, v) :: ps) := by
  refine ⟨?_, ?_, ?_⟩
  · simp [Act.put, h.size]
  · simpa [Act.put] using h.defs
  · intro t u hu
    rw [lk_cons] at hu
    simp only [Act.put, Array.getElem?_setIfInBounds]
    by_cases e : d = t
    · subst e
      simp only [if_pos] at hu
      have : d < a.tmps.size := by rw [h.size]; exact hd
      simp [this, Option.some.inj hu]
    · rw [if_neg e] at hu
      simp only [e, if_false]
      exact h.has t u hu

theorem Sees.put_none {N : Nat} {a : Act} {ps : List (Nat × Value)} (h : Sees N a ps) (v : Value) : Sees N (a.put none v) ps := h

def keeps : List (Nat × Value) → List (Nat × Value) → Prop
  | [], _ => True
  | (t, v) :: r, ps => lk ps t = some v ∧ keeps r ps

theorem lk_of_keeps {ps : List (Nat × Value)} : ∀ {qs : List (Nat × Value)}, keeps qs ps → ∀ t v, lk qs t = some v → lk ps t = some v
  | [], _, t, v, h => by simp [lk] at h
  | (s, u) :: r, hk, t, v, h => by
    rw [lk_cons] at h
    by_cases e : s = t
    · rw [if_pos e] at h; rw [← e, ← Option.some.inj h]; exact hk.1
    · rw [if_neg e] at h; exact lk_of_keeps hk.2 t v h

theorem Sees.keep {N : Nat} {a : Act} {ps qs : List (Nat × Value)} (h : Sees N a ps) (hk : keeps qs ps) : Sees N a qs :=
  ⟨h.size, h.defs, fun t v hv => h.has t v (lk_of_keeps hk t v hv)⟩

/-! ### What is known of memory -/

inductive Ent where
  | blk (b : Nat) (cs : List Value) (T : Nat)
  | row (v : Value) (E sz n : Nat) (cs : List Value)
  /-- a slice of slices: its elements, and what those hold that are its own -/
  | nest (v : Value) (E E2 sz : Nat) (us : List Value) (css : List (Option (Nat × List Value)))

def footN : List Value → List (Option (Nat × List Value)) → List Nat
  | u :: us, some _ :: css => u.ownBlock.toList ++ footN us css
  | _ :: us, none :: css => footN us css
  | _, _ => []

def Ent.foot : Ent → List Nat
  | .blk b _ _ => [b]
  | .row v _ _ _ _ => v.ownBlock.toList
  | .nest v _ _ _ us css => v.ownBlock.toList ++ footN us css

def Ent.holds (w : World) : Ent → Prop
  | .blk b cs T => w.heap[b]? = some (.cells cs.toArray T (0, 0))
  | .row v E sz n cs => w.ownsRow 0 E sz v n cs
  | .nest v E E2 sz us css => w.ownsRow 0 E 1 v us.length us ∧ us.length = css.length ∧ (∀ (i : Nat) u c, us[i]? = some u → css[i]? = some (some c) → w.ownsRow 0 E2 sz u c.1 c.2) ∧ (v.ownBlock.toList ++ footN us css).Nodup

theorem mem_footN : ∀ {us : List Value} {css : List (Option (Nat × List Value))} {k : Nat}, k ∈ footN us css → ∃ (i : Nat) (u : Value) (c : Nat × List Value), us[i]? = some u ∧ css[i]? = some (some c) ∧ u.ownBlock = some k
  | [], css, k, h => by cases css <;> simp [footN] at h
  | _ :: _, [], k, h => by simp [footN] at h
  | u :: us, some c :: css, k, h => by
    simp only [footN, List.mem_append, Option.mem_toList] at h
    rcases h with h | h
    · exact ⟨0, u, c, rfl, rfl, h⟩
    · obtain ⟨i, u', c', h1, h2, h3⟩ := mem_footN h
      exact ⟨i + 1, u', c', by simpa using h1, by simpa using h2, h3⟩
  | u :: us, none :: css, k, h => by
    simp only [footN] at h
    obtain ⟨i, u', c', h1, h2, h3⟩ := mem_footN h
    exact ⟨i + 1, u', c', by simpa using h1, by simpa using h2, h3⟩
theorem footN_mem : ∀ {us : List Value} {css : List (Option (Nat × List Value))} {k i : Nat} {u : Value} {c : Nat × List Value}, us[i]? = some u → css[i]? = some (some c) → u.ownBlock = some k → k ∈ footN us css
  | [], _, _, _, _, _, h, _, _ => by simp at h
  | _ :: _, [], _, _, _, _, _, h, _ => by simp at h
  | u :: us, d :: css, k, 0, u', c, h1, h2, h3 => by
    simp at h1 h2
    subst h1 h2
    simp [footN, h3]
  | u :: us, d :: css, k, i + 1, u', c, h1, h2, h3 => by
    have := footN_mem (us := us) (css := css) (k := k) (i := i) (by simpa using h1) (by simpa using h2) h3
    cases d <;> simp [footN, this]

theorem Ent.lt {w : World} {e : Ent} (h : e.holds w) {k : Nat} (hk : k ∈ e.foot) : k < w.heap.size := by
  cases e with
  | blk b cs T =>
    simp only [Ent.foot, List.mem_singleton] at hk
    subst hk
    exact (Array.getElem?_eq_some_iff.1 h).1
  | row v E sz n cs => exact (World.ownsRow.lt h k (by simpa [Ent.foot] using hk)).2
  | nest v E E2 sz us css =>
    obtain ⟨h1, h2, h3, _⟩ := h
    simp only [Ent.foot, List.mem_append, Option.mem_toList] at hk
    rcases hk with hk | hk
    · exact (World.ownsRow.lt h1 k hk).2
    · obtain ⟨i, u, c, e1, e2, e3⟩ := mem_footN hk
      exact (World.ownsRow.lt (h3 i u c e1 e2) k e3).2

theorem ownsRow_kept {w w' : World} {E sz n : Nat} {v : Value} {cs : List Value} (h : w.ownsRow 0 E sz v n cs) (hs : ∀ k, v.ownBlock = some k → w'.heap[k]? = w.heap[k]?) : w'.ownsRow 0 E sz v n cs := by
  refine ⟨h.1, ?_⟩
  rcases h.2 with hn | ⟨g, cap, cur, rfl, hb, hgg, rest⟩
  · exact .inl hn
  · refine .inr ⟨g, cap, cur, rfl, hb, ?_, rest⟩
    rw [hs g rfl]; exact hgg

theorem Ent.kept {w w' : World} {e : Ent} (h : e.holds w) (hs : ∀ k, k ∈ e.foot → w'.heap[k]? = w.heap[k]?) : e.holds w' := by
  cases e with
  | blk b cs T =>
    have := hs b (by simp [Ent.foot])
    simp only [Ent.holds] at *
    rw [this]; exact h
  | row v E sz n cs => exact ownsRow_kept h fun k hk => hs k (by simp [Ent.foot, hk])
  | nest v E E2 sz us css =>
    obtain ⟨h1, h2, h3, h4⟩ := h
    exact ⟨ownsRow_kept h1 fun k hk => hs k (by simp [Ent.foot, hk]), h2, fun i u c e1 e2 => ownsRow_kept (h3 i u c e1 e2) fun k hk => hs k (by simp [Ent.foot, footN_mem e1 e2 hk]), h4⟩

theorem mem_foot_row {v : Value} {E sz n k : Nat} {cs : List Value} : k ∈ (Ent.row v E sz n cs).foot ↔ v.ownBlock = some k := by simp [Ent.foot]

/-- Two entries lie apart. -/
def Ent.apart (e e' : Ent) : Prop := ∀ k, k ∈ e.foot → k ∉ e'.foot

structure Own (M : List Nat) (w0 w : World) (es : List Ent) : Prop where
  os : w.os = w0.os
  tape : w.tape = w0.tape
  output : w.output = w0.output
  size : w0.heap.size ≤ w.heap.size
  frame : ∀ k, k < w0.heap.size → k ∉ M → w.heap[k]? = w0.heap[k]?
  holds : ∀ e ∈ es, e.holds w
  mine : ∀ e ∈ es, ∀ k, k ∈ e.foot → k ∈ M ∨ w0.heap.size ≤ k
  apart : es.Pairwise Ent.apart

theorem Own.refl (w : World) : Own [] w w [] :=
  ⟨rfl, rfl, rfl, Nat.le_refl _, fun _ _ _ => rfl, fun _ h => by simp at h, fun _ h => by simp at h, .nil⟩

theorem Own.trans0 {w0 w w' : World} {es : List Ent} (h : Own [] w0 w es) (h' : Own [] w w' []) : Own [] w0 w' [] :=
  ⟨h'.os.trans h.os, h'.tape.trans h.tape, h'.output.trans h.output, Nat.le_trans h.size h'.size, fun k hk hm => (h'.frame k (Nat.lt_of_lt_of_le hk h.size) hm).trans (h.frame k hk hm), by simp, by simp, .nil⟩

theorem Own.below {w0 w : World} {es : List Ent} (h : Own [] w0 w es) : Below w0.heap.size w0 w :=
  ⟨h.os, h.tape, h.output, h.size, fun k hk => h.frame k hk (by simp)⟩

theorem Own.drop {M : List Nat} {w0 w : World} {es es' : List Ent} (h : Own M w0 w es) (hs : es'.Sublist es) : Own M w0 w es' :=
  ⟨h.os, h.tape, h.output, h.size, h.frame, fun e he => h.holds e (hs.subset he), fun e he => h.mine e (hs.subset he), h.apart.sublist hs⟩

theorem apart_symm {e e' : Ent} (h : Ent.apart e e') : Ent.apart e' e := fun k h1 h2 => h k h2 h1

theorem Own.perm {M : List Nat} {w0 w : World} {es es' : List Ent} (h : Own M w0 w es) (hp : es.Perm es') : Own M w0 w es' :=
  ⟨h.os, h.tape, h.output, h.size, h.frame, fun e he => h.holds e (hp.symm.subset he), fun e he => h.mine e (hp.symm.subset he),
    (hp.pairwise_iff (fun h => apart_symm h)).1 h.apart⟩

theorem perm_front : ∀ (i : Nat) {es : List Ent} {e : Ent}, es[i]? = some e → es.Perm (e :: es.eraseIdx i)
  | _, [], _, h => by simp at h
  | 0, x :: r, e, h => by simp at h; subst h; simp
  | i + 1, x :: r, e, h => by
    simp at h
    simp only [List.eraseIdx_cons_succ]
    exact ((perm_front i h).cons x).trans (List.Perm.swap e x _)

theorem Own.front {M : List Nat} {w0 w : World} {es : List Ent} (i : Nat) {e : Ent} (hi : es[i]? = some e) (h : Own M w0 w es) : Own M w0 w (e :: es.eraseIdx i) :=
  h.perm (perm_front i hi)

/-- A new block. -/
theorem Own.alloc {M : List Nat} {w0 w : World} {es : List Ent} (h : Own M w0 w es) (cs : List Value) (T : Nat) :
    Own M w0 (w.alloc (.cells cs.toArray T)) (.blk w.heap.size cs T :: es) := by
  have old : ∀ k, k < w.heap.size → (w.alloc (.cells cs.toArray T)).heap[k]? = w.heap[k]? := fun k hk => Go.heap_alloc_old w _ hk
  refine ⟨h.os, h.tape, h.output, by have := h.size; simp; omega, ?_, ?_, ?_, ?_⟩
  · intro k hk hm
    rw [old k (Nat.lt_of_lt_of_le hk h.size)]
    exact h.frame k hk hm
  · intro e he
    rcases List.mem_cons.1 he with rfl | he
    · exact heap_alloc_new w _
    · exact Ent.kept (h.holds e he) fun k hk => old k (Ent.lt (h.holds e he) hk)
  · intro e he k hk
    rcases List.mem_cons.1 he with rfl | he
    · simp only [Ent.foot, List.mem_singleton] at hk
      subst hk
      exact .inr h.size
    · exact h.mine e he k hk
  · refine List.Pairwise.cons (fun e he k hk hk' => ?_) h.apart
    simp only [Ent.foot, List.mem_singleton] at hk
    subst hk
    exact absurd (Ent.lt (h.holds e he) hk') (Nat.lt_irrefl _)

/-- A draw. -/
theorem Own.drewN {M : List Nat} {w0 w : World} {es : List Ent} (h : Own M w0 w es) (n : Nat) : Own M w0 (w.drewN n) es :=
  ⟨h.os, h.tape, h.output, h.size, h.frame, fun e he => Ent.kept (h.holds e he) fun _ _ => rfl, h.mine, h.apart⟩

theorem Own.drew {M : List Nat} {w0 w : World} {es : List Ent} (h : Own M w0 w es) : Own M w0 w.drew es :=
  ⟨h.os, h.tape, h.output, h.size, h.frame, fun e he => Ent.kept (h.holds e he) fun _ _ => rfl, h.mine, h.apart⟩

/-- Whatever turns one entry's block alone, and says what it now is. -/
theorem Own.turn {M : List Nat} {w0 w w' : World} {es : List Ent} {e e' : Ent} (h : Own M w0 w (e :: es)) (hos : w'.os = w.os) (ht : w'.tape = w.tape) (ho : w'.output = w.output)
    (hsz : w.heap.size ≤ w'.heap.size) (hfr : ∀ k, k < w.heap.size → k ∉ e.foot → w'.heap[k]? = w.heap[k]?) (hh : e'.holds w')
    (hf : ∀ k, k ∈ e'.foot → k ∈ e.foot ∨ w.heap.size ≤ k) : Own M w0 w' (e' :: es) := by
  have hap := List.pairwise_cons.1 h.apart
  have keep : ∀ x ∈ es, ∀ k, k ∈ x.foot → k < w.heap.size ∧ k ∉ e.foot := fun x hx k hk =>
    ⟨Ent.lt (h.holds x (List.mem_cons_of_mem _ hx)) hk, fun he => hap.1 x hx k he hk⟩
  refine ⟨hos.trans h.os, ht.trans h.tape, ho.trans h.output, Nat.le_trans h.size hsz, ?_, ?_, ?_, ?_⟩
  · intro k hk hm
    rw [hfr k (Nat.lt_of_lt_of_le hk h.size) (fun he => by rcases h.mine e (by simp) k he with h1 | h1 <;> first | exact hm h1 | omega)]
    exact h.frame k hk hm
  · intro x hx
    rcases List.mem_cons.1 hx with rfl | hx
    · exact hh
    · exact Ent.kept (h.holds x (List.mem_cons_of_mem _ hx)) fun k hk => hfr k (keep x hx k hk).1 (keep x hx k hk).2
  · intro x hx k hk
    rcases List.mem_cons.1 hx with rfl | hx
    · rcases hf k hk with h1 | h1
      · exact h.mine e (by simp) k h1
      · exact .inr (Nat.le_trans h.size h1)
    · exact h.mine x (List.mem_cons_of_mem _ hx) k hk
  · refine List.Pairwise.cons (fun x hx k hk hk' => ?_) hap.2
    rcases hf k hk with h1 | h1
    · exact hap.1 x hx k h1 hk'
    · exact absurd ((keep x hx k hk').1) (by omega)

/-- A store of one cell into a block that is known whole. -/
theorem Own.setCell {M : List Nat} {w0 w : World} {es : List Ent} {b : Nat} {cs : List Value} {T : Nat} (h : Own M w0 w (.blk b cs T :: es)) (i : Nat) (v : Value) :
    Own M w0 (w.setCell ⟨b, i, none⟩ v) (.blk b (cs.set i v) T :: es) := by
  have hb : w.heap[b]? = some (.cells cs.toArray T (0, 0)) := h.holds (.blk b cs T) (by simp)
  refine h.turn rfl rfl rfl (by simp) ?_ ?_ ?_
  · intro k _ hne
    exact heap_setCell_other w _ k v (fun e => hne (by simp [Ent.foot, e]))
  · have := heap_setCell_same w b i cs.toArray T v hb
    simpa [Ent.holds] using this
  · intro k hk; exact .inl hk

/-- What a call leaves: 'esA' is what it was given, 'esR' what it hands back. -/
theorem Own.frameCall {M M' : List Nat} {w0 w w' : World} {esA esB esR : List Ent} (h : Own M w0 w (esA ++ esB)) (hc : Own M' w w' esR)
    (hM : ∀ k ∈ M', ∃ e ∈ esA, k ∈ e.foot) : Own M w0 w' (esR ++ esB) := by
  have hap := List.pairwise_append.1 h.apart
  have hmine : ∀ k ∈ M', k ∈ M ∨ w0.heap.size ≤ k := fun k hk => by
    obtain ⟨e, he, hf⟩ := hM k hk
    exact h.mine e (List.mem_append_left _ he) k hf
  have keepB : ∀ x ∈ esB, ∀ k, k ∈ x.foot → k < w.heap.size ∧ k ∉ M' := fun x hx k hk =>
    ⟨Ent.lt (h.holds x (List.mem_append_right _ hx)) hk, fun hm => by
      obtain ⟨e, he, hf⟩ := hM k hm
      exact hap.2.2 e he x hx k hf hk⟩
  refine ⟨hc.os.trans h.os, hc.tape.trans h.tape, hc.output.trans h.output, Nat.le_trans h.size hc.size, ?_, ?_, ?_, ?_⟩
  · intro k hk hm
    rw [hc.frame k (Nat.lt_of_lt_of_le hk h.size) (fun hm' => by rcases hmine k hm' with h1 | h1 <;> first | exact hm h1 | omega)]
    exact h.frame k hk hm
  · intro x hx
    rcases List.mem_append.1 hx with hx | hx
    · exact hc.holds x hx
    · exact Ent.kept (h.holds x (List.mem_append_right _ hx)) fun k hk => hc.frame k (keepB x hx k hk).1 (keepB x hx k hk).2
  · intro x hx k hk
    rcases List.mem_append.1 hx with hx | hx
    · rcases hc.mine x hx k hk with h1 | h1
      · exact hmine k h1
      · exact .inr (Nat.le_trans h.size h1)
    · exact h.mine x (List.mem_append_right _ hx) k hk
  · refine List.pairwise_append.2 ⟨hc.apart, hap.2.1, fun x hx y hy k hk hk' => ?_⟩
    rcases hc.mine x hx k hk with h1 | h1
    · exact (keepB y hy k hk').2 h1
    · exact absurd (keepB y hy k hk').1 (by omega)

/-- What a call is given. -/
theorem Own.enter {M M' : List Nat} {w0 w : World} {es esA : List Ent} (h : Own M w0 w es) (hs : esA.Sublist es) (hM : ∀ e ∈ esA, ∀ k, k ∈ e.foot → k ∈ M') : Own M' w w esA :=
  ⟨rfl, rfl, rfl, Nat.le_refl _, fun _ _ _ => rfl, fun e he => h.holds e (hs.subset he), fun e he k hk => .inl (hM e he k hk), h.apart.sublist hs⟩

/-! ### Slices that are read -/

/-- 'v' is a slice of 'n' elements of 'sz' cells each (of type 'E'); its cells are 'cs'; its block is none of 'M'. -/
def Sl (M : List Nat) (w : World) (v : Value) (_E sz n : Nat) (cs : List Value) : Prop :=
  cs.length = n * sz ∧ ∃ A c, v = .slice A n c ∧ n ≤ c ∧ (A = none → n = 0 ∧ c = 0) ∧ (0 < n → ∃ ad cur T fr, A = some ad ∧ ad.spot = none ∧ ad.block ∉ M ∧ w.heap[ad.block]? = some (.cells cur T fr) ∧
    ∀ j u, cs[j]? = some u → cur[ad.off + j]? = some u)

theorem Sl.len {M : List Nat} {w : World} {v : Value} {E sz n : Nat} {cs : List Value} (h : Sl M w v E sz n cs) : ∃ A c, v = .slice A n c ∧ n ≤ c := by
  obtain ⟨_, A, c, hv, hc, _, _⟩ := h
  exact ⟨A, c, hv, hc⟩

/-- It still reads so later. -/
theorem Sl.later {M M' : List Nat} {w0 w : World} {es : List Ent} {v : Value} {E sz n : Nat} {cs : List Value} (h : Sl M w0 v E sz n cs) (ho : Own M w0 w es)
    (hM : ∀ k ∈ M', k ∈ M ∨ w0.heap.size ≤ k) : Sl M' w v E sz n cs := by
  obtain ⟨hl, A, c, hv, hc, hz, hr⟩ := h
  refine ⟨hl, A, c, hv, hc, hz, fun hn => ?_⟩
  obtain ⟨ad, cur, T, fr, hA, hs, hm, hb, hcell⟩ := hr hn
  have hlt : ad.block < w0.heap.size := (Array.getElem?_eq_some_iff.1 hb).1
  refine ⟨ad, cur, T, fr, hA, hs, fun hmem => ?_, ?_, hcell⟩
  · rcases hM _ hmem with h1 | h1
    · exact hm h1
    · omega
  · rw [ho.frame _ hlt hm]; exact hb

theorem Sl.drop {M : List Nat} {w : World} {v : Value} {E sz n : Nat} {cs : List Value} (h : Sl M w v E sz n cs) : Sl [] w v E sz n cs := by
  obtain ⟨hl, A, c, hv, hc, hz, hr⟩ := h
  refine ⟨hl, A, c, hv, hc, hz, fun hn => ?_⟩
  obtain ⟨ad, cur, T, fr, hA, hs, hm, hb, hcell⟩ := hr hn
  exact ⟨ad, cur, T, fr, hA, hs, by simp, hb, hcell⟩

/-- An owned row reads as a slice. -/
theorem Sl.ofRow {M' : List Nat} {w : World} {v : Value} {E sz n : Nat} {cs : List Value} (h : Ent.holds w (.row v E sz n cs)) (hM : ∀ k ∈ M', v.ownBlock ≠ some k) : Sl M' w v E sz n cs := by
  refine ⟨h.1, ?_⟩
  rcases h.2 with ⟨hv, hn⟩ | ⟨g, cap, cur, hv, _, hg, hn, _, hsz, htake⟩
  · subst hn
    exact ⟨none, 0, hv, Nat.le_refl _, fun _ => ⟨rfl, rfl⟩, fun h => absurd h (Nat.lt_irrefl _)⟩
  · refine ⟨some ⟨g, 0, none⟩, cap, hv, hn, (fun e => by cases e), fun _ => ⟨⟨g, 0, none⟩, cur, E, (0, 0), rfl, rfl, ?_, hg, ?_⟩⟩
    · intro hm
      exact hM g hm (by rw [hv]; rfl)
    · intro j u hu
      rw [← htake, List.getElem?_take] at hu
      split at hu
      · simpa using hu
      · cases hu

/-- A block that is known whole reads as a slice ('arr[:]'). -/
theorem Sl.ofBlk {M' : List Nat} {w : World} {b : Nat} {E T sz n : Nat} {cs : List Value} (h : Ent.holds w (.blk b cs T)) (hl : cs.length = n * sz) (hM : b ∉ M') :
    Sl M' w (.slice (some ⟨b, 0, none⟩) n n) E sz n cs :=
  ⟨hl, _, _, rfl, Nat.le_refl _, (fun e => by cases e), fun _ => ⟨⟨b, 0, none⟩, cs.toArray, T, (0, 0), rfl, rfl, hM, h, fun j u hu => by simpa using hu⟩⟩

end G
end Go.Proofs.YtadggddaheipgaaDoor
