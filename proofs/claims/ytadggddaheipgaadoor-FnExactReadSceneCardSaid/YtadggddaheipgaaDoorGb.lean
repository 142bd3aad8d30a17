/- The calculus' judgement and its rules: code, and operations that leave the world as it was. No condition. -/
import Derived.Test.YtadggddaheipgaaDoorGa
import Derived.Deep.Quiet
namespace Go.Proofs.YtadggddaheipgaaDoor
open Go Go.RowKit
namespace G

/-! ### The judgement -/

def J (N : Nat) (M : List Nat) (w0 : World) (ps : List (Nat × Value)) (es : List Ent) (K : Act → World → Prop) : Prop :=
  ∀ a w, Sees N a ps → Own M w0 w es → K a w

/-- Here so much is known. -/
def At (N : Nat) (M : List Nat) (w0 : World) (ps : List (Nat × Value)) (es : List Ent) (a : Act) (w : World) : Prop := Sees N a ps ∧ Own M w0 w es

/-- the same slots, as 'ps' has them -/
def likes : List (Nat × Value) → List (Nat × Value) → Option (List (Nat × Value))
  | [], _ => some []
  | (t, _) :: r, ps => (lk ps t).bind fun v => (likes r ps).bind fun l => some ((t, v) :: l)

theorem keeps_of_likes {ps : List (Nat × Value)} : ∀ {qs qs' : List (Nat × Value)}, likes qs ps = some qs' → keeps qs' ps
  | [], _, h => by simp only [likes, Option.some.injEq] at h; subst h; trivial
  | (t, u) :: r, _, h => by
    simp only [likes, Option.bind_eq_some_iff] at h
    obtain ⟨v, hv, l, hl, he⟩ := h
    simp only [Option.some.injEq] at he
    subst he
    exact ⟨hv, keeps_of_likes hl⟩

def noDup : List Nat → Bool
  | [] => true
  | x :: r => !(r.any (Nat.beq x)) && noDup r
theorem noDup_spec : ∀ {l : List Nat}, noDup l = true → l.Nodup
  | [], _ => .nil
  | x :: r, h => by
    simp only [noDup, Bool.and_eq_true, Bool.not_eq_true', List.any_eq_false] at h
    refine List.nodup_cons.2 ⟨fun hx => ?_, noDup_spec h.2⟩
    exact absurd (Nat.beq_refl x) (by simpa using h.1 x hx)

def pick (is : List Nat) (es : List Ent) : List Ent := is.filterMap (es[·]?)

theorem Own.pick {M : List Nat} {w0 w : World} {es : List Ent} (h : Own M w0 w es) : ∀ (is : List Nat), is.Nodup → Own M w0 w (G.pick is es)
  | is, hn => by
    have mem : ∀ e ∈ G.pick is es, e ∈ es := fun e he => by
      obtain ⟨i, _, hi⟩ := List.mem_filterMap.1 he
      exact List.mem_of_getElem? hi
    refine ⟨h.os, h.tape, h.output, h.size, h.frame, fun e he => h.holds e (mem e he), fun e he => h.mine e (mem e he), ?_⟩
    refine List.Pairwise.filterMap (R := fun i j => i ≠ j) _ (fun i j hij e he e' he' => ?_) hn
    rcases Nat.lt_or_gt_of_ne hij with hlt | hlt
    · obtain ⟨hi, rfl⟩ := List.getElem?_eq_some_iff.1 he
      obtain ⟨hj, rfl⟩ := List.getElem?_eq_some_iff.1 he'
      exact List.pairwise_iff_getElem.1 h.apart i j hi hj hlt
    · obtain ⟨hi, rfl⟩ := List.getElem?_eq_some_iff.1 he
      obtain ⟨hj, rfl⟩ := List.getElem?_eq_some_iff.1 he'
      exact apart_symm (List.pairwise_iff_getElem.1 h.apart j i hj hi hlt)

section
variable {P : Program} {N : Nat} {M : List Nat} {w0 : World} {ps : List (Nat × Value)} {es : List Ent} {K : Act → World → Prop} {Q : Exit → Act → World → Prop}
  {ops : Array Oper} {o : Oper} {rest : List Oper}

theorem J.here : J N M w0 ps es (At N M w0 ps es) := fun _ _ hs ho => ⟨hs, ho⟩
theorem J.keep (qs : List (Nat × Value)) (hk : likes qs ps = some qs) (h : J N M w0 qs es K) : J N M w0 ps es K := fun a w hs ho => h a w (hs.keep (keeps_of_likes hk)) ho
theorem J.ents (fs : List Ent) (he : es = fs) (h : J N M w0 ps fs K) : J N M w0 ps es K := he ▸ h
theorem J.pickE (is : List Nat) {es' : List Ent} (hn : noDup is = true) (he : G.pick is es = es') (h : J N M w0 ps es' K) : J N M w0 ps es K :=
  fun a w hs ho => h a w hs (he ▸ ho.pick is (noDup_spec hn))
theorem J.imp {K' : Act → World → Prop} (h : J N M w0 ps es K) (hk : ∀ a w, K a w → K' a w) : J N M w0 ps es K' := fun a w hs ho => hk a w (h a w hs ho)
/-- The world, and what is owned, by name. -/
theorem J.world (h : ∀ w, Own M w0 w es → J N M w0 ps es K) : J N M w0 ps es K := fun a w hs ho => h w ho a w hs ho

/-! ### Code -/

theorem J.seq {x y : Code} (h : J N M w0 ps es (x.wp P (Exit.then (y.wp P Q) Q))) : J N M w0 ps es ((Code.seq x y).wp P Q) := fun a w hs ho => wp_seq (h a w hs ho)
theorem J.skip (h : J N M w0 ps es (Q .normal)) : J N M w0 ps es (Code.skip.wp P Q) := fun a w hs ho => wp_skip (h a w hs ho)
theorem J.ret (h : J N M w0 ps es (Q .ret)) : J N M w0 ps es (Code.ret.wp P Q) := fun a w hs ho => wp_ret (h a w hs ho)
theorem J.exit {id : Nat} (h : J N M w0 ps es (Q (.exit id))) : J N M w0 ps es ((Code.exit id).wp P Q) := fun a w hs ho => wp_exit (h a w hs ho)
theorem J.block {id : Nat} {c : Code} (h : J N M w0 ps es (c.wp P (Exit.inBlock id Q))) : J N M w0 ps es ((Code.block id c).wp P Q) := fun a w hs ho => wp_block (h a w hs ho)
theorem J.region {id : Nat} {l : List Oper} (h : J N M w0 ps es (wpList P l.toArray Q l)) : J N M w0 ps es ((Code.region id l.toArray false).wp P Q) := fun a w hs ho => wp_region_lit (h a w hs ho)
theorem J.nil (h : J N M w0 ps es (Q .normal)) : J N M w0 ps es (wpList P ops Q []) := h
theorem J.cond {c : Operand} {x y : Code} {B : Bool} (hc : ev ps c = some (.bool B)) (ht : B = true → J N M w0 ps es (x.wp P Q)) (hf : B = false → J N M w0 ps es (y.wp P Q)) :
    J N M w0 ps es ((Code.cond c x y).wp P Q) := fun a w hs ho => wp_cond_split (hs.eval hc) (fun h => ht h a w hs ho) (fun h => hf h a w hs ho)
theorem J.condT {c : Operand} {x y : Code} (hc : ev ps c = some (.bool true)) (ht : J N M w0 ps es (x.wp P Q)) :
    J N M w0 ps es ((Code.cond c x y).wp P Q) := fun a w hs ho => wp_cond_true (hs.eval hc) (ht a w hs ho)
theorem J.condF {c : Operand} {x y : Code} (hc : ev ps c = some (.bool false)) (hf : J N M w0 ps es (y.wp P Q)) :
    J N M w0 ps es ((Code.cond c x y).wp P Q) := fun a w hs ho => wp_cond_false (hs.eval hc) (hf a w hs ho)

/-! what an exit comes to -/
theorem J.tN (h : J N M w0 ps es K) : J N M w0 ps es (Exit.then K Q .normal) := h
theorem J.tR (h : J N M w0 ps es (Q .ret)) : J N M w0 ps es (Exit.then K Q .ret) := h
theorem J.tE {id : Nat} (h : J N M w0 ps es (Q (.exit id))) : J N M w0 ps es (Exit.then K Q (.exit id)) := h
theorem J.bN {id : Nat} (h : J N M w0 ps es (Q .normal)) : J N M w0 ps es (Exit.inBlock id Q .normal) := h
theorem J.bR {id : Nat} (h : J N M w0 ps es (Q .ret)) : J N M w0 ps es (Exit.inBlock id Q .ret) := h
theorem J.bE {id : Nat} (h : J N M w0 ps es (Q .normal)) : J N M w0 ps es (Exit.inBlock id Q (.exit id)) := fun a w hs ho => by
  show (if id = id then Q .normal a w else Q (.exit id) a w); rw [if_pos rfl]; exact h a w hs ho
theorem J.bF {id id' : Nat} (hne : Nat.beq id' id = false) (h : J N M w0 ps es (Q (.exit id'))) : J N M w0 ps es (Exit.inBlock id Q (.exit id')) := fun a w hs ho => by
  show (if id' = id then Q .normal a w else Q (.exit id') a w)
  rw [if_neg (fun e => by subst e; simp at hne)]; exact h a w hs ho

/-- WHERE WAYS MEET: what is known there, up to names 'g'. -/
theorem J.cut {γ : Type} (G : γ → Prop) (qs : γ → List (Nat × Value)) (fs : γ → List Ent) {c : Code} (h : J N M w0 ps es (c.wp P (Exit.then (fun a w => ∃ g, G g ∧ At N M w0 (qs g) (fs g) a w) Q)))
    (hr : ∀ g, G g → J N M w0 (qs g) (fs g) K) : J N M w0 ps es (c.wp P (Exit.then K Q)) := fun a w hs ho =>
  wp_mono (h a w hs ho) fun e a w q => by cases e <;> first | (obtain ⟨g, h0, h1, h2⟩ := q; exact hr g h0 a w h1 h2) | exact q
theorem J.cutQ {γ : Type} (G : γ → Prop) (qs : γ → List (Nat × Value)) (fs : γ → List Ent) {c : Code} (h : J N M w0 ps es (c.wp P (Exit.then (fun a w => ∃ g, G g ∧ At N M w0 (qs g) (fs g) a w) Q)))
    (hr : ∀ g, G g → J N M w0 (qs g) (fs g) (Q .normal)) : J N M w0 ps es (c.wp P Q) := fun a w hs ho =>
  wp_mono (h a w hs ho) fun e a w q => by cases e <;> first | (obtain ⟨g, h0, h1, h2⟩ := q; exact hr g h0 a w h1 h2) | exact q
theorem J.to {γ : Type} {G : γ → Prop} {qs : γ → List (Nat × Value)} {fs : γ → List Ent} (g : γ) (hG : G g) (h : J N M w0 ps es (At N M w0 (qs g) (fs g))) : J N M w0 ps es (fun a w => ∃ g, G g ∧ At N M w0 (qs g) (fs g) a w) :=
  fun a w hs ho => ⟨g, hG, h a w hs ho⟩

/-! ### Loops -/

end

inductive Step (σ β : Type) where
  | next (s : σ)
  | done (y : β)

def Step.run {σ β : Type} (rec : σ → Option β) : Step σ β → Option β
  | .next s => rec s
  | .done y => some y

def loopN {σ β : Type} (bd : σ → Option (Step σ β)) : Nat → σ → Option β
  | 0, _ => none
  | k + 1, s => (bd s).bind (Step.run (loopN bd k))

theorem loopN_mono {σ β : Type} {bd : σ → Option (Step σ β)} : ∀ {k k' : Nat} {s : σ} {y : β}, loopN bd k s = some y → k ≤ k' → loopN bd k' s = some y
  | 0, _, _, _, h, _ => by simp [loopN] at h
  | k + 1, 0, _, _, _, hk => by omega
  | k + 1, k' + 1, s, y, h, hk => by
    simp only [loopN] at *
    cases hb : bd s with
    | none => rw [hb] at h; simp at h
    | some st =>
      rw [hb] at h
      cases st with
      | next s' => exact loopN_mono (k := k) h (by omega)
      | done y' => exact h

/-- The loop's end, if it has one. -/
noncomputable def loopW {σ β : Type} (bd : σ → Option (Step σ β)) (s : σ) : Option β :=
  open Classical in if h : ∃ y k, loopN bd k s = some y then some h.choose else none

theorem loopW_iff {σ β : Type} {bd : σ → Option (Step σ β)} {s : σ} {y : β} : loopW bd s = some y ↔ ∃ k, loopN bd k s = some y := by
  unfold loopW
  constructor
  · intro h
    split at h
    · rename_i hx
      obtain ⟨k, hk⟩ := hx.choose_spec
      exact ⟨k, by rw [hk]; exact h⟩
    · cases h
  · rintro ⟨k, hk⟩
    have hx : ∃ y k, loopN bd k s = some y := ⟨y, k, hk⟩
    rw [dif_pos hx]
    obtain ⟨k', hk'⟩ := hx.choose_spec
    have h1 := loopN_mono hk (Nat.le_max_left k k')
    have h2 := loopN_mono hk' (Nat.le_max_right k k')
    rw [← h2, h1]

/-- One round more. -/
theorem loopW_eq {σ β : Type} (bd : σ → Option (Step σ β)) (s : σ) : loopW bd s = (bd s).bind (Step.run (loopW bd)) := by
  apply Option.ext
  intro y
  rw [loopW_iff]
  constructor
  · rintro ⟨k, hk⟩
    cases k with
    | zero => simp [loopN] at hk
    | succ k =>
      simp only [loopN] at hk
      cases hb : bd s with
      | none => rw [hb] at hk; simp at hk
      | some st =>
        rw [hb] at hk
        cases st with
        | next s' => exact loopW_iff.2 ⟨k, hk⟩
        | done y' => exact hk
  · intro h
    cases hb : bd s with
    | none => rw [hb] at h; simp at h
    | some st =>
      rw [hb] at h
      cases st with
      | next s' =>
        obtain ⟨k, hk⟩ := loopW_iff.1 (show loopW bd s' = some y from h)
        exact ⟨k + 1, by simp only [loopN, hb]; exact hk⟩
      | done y' => exact ⟨1, by simp only [loopN, hb]; exact h⟩

/-- TOTAL CORRECTNESS OF A LOOP: a relation that each round keeps, and a measure that it lowers. -/
theorem loopW_total {σ β : Type} {bd : σ → Option (Step σ β)} (I : σ → Prop) (μ : σ → Nat) (R : β → Prop)
    (hr : ∀ s, I s → ∃ st, bd s = some st ∧ match st with | .next s' => I s' ∧ μ s' < μ s | .done y => R y) :
    ∀ s, I s → ∃ y, loopW bd s = some y ∧ R y := by
  have key : ∀ n s, μ s = n → I s → ∃ y, loopW bd s = some y ∧ R y := by
    intro n
    induction n using Nat.strongRecOn with
    | _ n ih =>
      intro s hn hI
      obtain ⟨st, hb, hst⟩ := hr s hI
      rw [loopW_eq, hb]
      cases st with
      | next s' => exact ih (μ s') (by rw [← hn]; exact hst.2) s' rfl hst.1
      | done y => exact ⟨y, rfl, hst⟩
  exact fun s hI => key _ s rfl hI

section
variable {P : Program} {N : Nat} {M : List Nat} {w0 : World} {ps : List (Nat × Value)} {es : List Ent} {K : Act → World → Prop} {Q : Exit → Act → World → Prop}
  {ops : Array Oper} {o : Oper} {rest : List Oper}

theorem wp_loop_fuel {c : Code} (I : Nat → Act → World → Prop)
    (round : ∀ k a w, I k a w → c.wp P (Exit.then (fun a' w' => ∃ k', k' < k ∧ I k' a' w') Q) a w) : ∀ k a w, I k a w → (Code.loop c).wp P Q a w := by
  intro k a w hI b kk cs
  have key : ∀ n a w, I n a w → ∃ e a' w', Q e a' w' ∧ Arrives P (lone (b.at a (.code c :: .inLoop c :: kk)) cs w) b kk cs e a' w' := by
    intro n
    induction n using Nat.strongRecOn with
    | _ n ih =>
      intro a w hI
      obtain ⟨e, a₁, w₁, hq, harr⟩ := round n a w hI b (.inLoop c :: kk) cs
      cases e with
      | normal =>
        obtain ⟨n', hlt, hI₁⟩ := hq
        obtain ⟨e₂, a₂, w₂, hq₂, harr₂⟩ := ih n' hlt a₁ w₁ hI₁
        exact ⟨e₂, a₂, w₂, hq₂, .of_steps (Steps.trans harr (.one step_inLoop)) harr₂⟩
      | exit id => exact ⟨_, a₁, w₁, hq, .pass (x := .inLoop c) rfl (fun _ _ => .inl (by simp)) harr⟩
      | goto l => exact ⟨_, a₁, w₁, hq, .pass (x := .inLoop c) rfl (fun _ _ => .inl (by simp)) harr⟩
      | ret => exact ⟨_, a₁, w₁, hq, .pass (x := .inLoop c) rfl (fun _ _ => .inl (by simp)) harr⟩
      | panic ch => exact ⟨_, a₁, w₁, hq, .pass (x := .inLoop c) rfl (fun _ _ => .inl (by simp)) harr⟩
      | outgrown => exact ⟨_, a₁, w₁, hq, .pass (x := .inLoop c) rfl (fun _ _ => .inl (by simp)) harr⟩
  obtain ⟨e, a', w', hq, harr⟩ := key k a w hI
  exact ⟨e, a', w', hq, .of_steps (.one step_loop) harr⟩

/-- A LOOP: the pure loop 'bd' tells its end 'y'; 'qs', 'fs': what is known at each round's head, of the state and up to names 'g'. -/
theorem J.loop {σ β γ : Type} {bd : σ → Option (Step σ β)} {s : σ} {y : β} (h : loopW bd s = some y) (qs : σ → γ → List (Nat × Value)) (fs : σ → γ → List Ent) (g : γ) {c : Code}
    (h0 : J N M w0 ps es (At N M w0 (qs s g) (fs s g)))
    (round : ∀ (rec : σ → Option β) s g, ((bd s).bind (Step.run rec)) = some y →
      J N M w0 (qs s g) (fs s g) (c.wp P (Exit.then (fun a w => ∃ s', rec s' = some y ∧ ∃ g', At N M w0 (qs s' g') (fs s' g') a w) Q))) :
    J N M w0 ps es ((Code.loop c).wp P Q) := by
  obtain ⟨k, hk⟩ := loopW_iff.1 h
  intro a w hs ho
  refine wp_loop_fuel (fun k a w => ∃ s g, loopN bd k s = some y ∧ At N M w0 (qs s g) (fs s g) a w) ?_ k a w ⟨s, g, hk, h0 a w hs ho⟩
  rintro k a w ⟨s, g, hk, h1, h2⟩
  cases k with
  | zero => simp [loopN] at hk
  | succ k =>
    refine wp_mono (round (loopN bd k) s g hk a w h1 h2) fun e a w q => ?_
    cases e with
    | normal =>
      obtain ⟨s', hs', g', hat⟩ := q
      exact ⟨k, Nat.lt_succ_self k, s', g', hs', hat⟩
    | _ => exact q

theorem J.next {σ β γ : Type} {rec : σ → Option β} {y : β} {qs : σ → γ → List (Nat × Value)} {fs : σ → γ → List Ent} (s : σ) (g : γ) (h : rec s = some y)
    (hj : J N M w0 ps es (At N M w0 (qs s g) (fs s g))) : J N M w0 ps es (fun a w => ∃ s', rec s' = some y ∧ ∃ g', At N M w0 (qs s' g') (fs s' g') a w) :=
  fun a w hs ho => ⟨s, h, g, hj a w hs ho⟩

end
end G
end Go.Proofs.YtadggddaheipgaaDoor
