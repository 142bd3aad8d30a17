/- Regions that draw their order, whatever they hold: readings are taken first, all else comes up in whatever order. No condition. -/
import Derived.Test.YtadggddaheipgaaDoorGl
import Derived.OrdersHeld
set_option linter.unusedVariables false
namespace Go.Proofs.YtadggddaheipgaaDoor
open Go Go.RowKit
namespace G
section
variable {P : Program} {N : Nat} {M : List Nat} {w0 : World} {ps : List (Nat × Value)} {es ss : List Ent} {K : Act → World → Prop} {Q : Exit → Act → World → Prop} {ops : Array Oper} {f : Nat} {done : Array Bool}

/-- what follows one operation -/
def QK (K : Act → World → Prop) (Q : Exit → Act → World → Prop) : Exit → Act → World → Prop
  | .normal => K
  | e => Q e

/-- In the midst of a region: 'ss' holds all through it. -/
def JH (P : Program) (ops : Array Oper) (Q : Exit → Act → World → Prop) (N : Nat) (M : List Nat) (w0 : World) (ss : List Ent) (f : Nat) (done : Array Bool) (ps : List (Nat × Value)) (es : List Ent) : Prop :=
  J N M w0 ps es (wpAnyH P .any ops (Calm Q) (fun w => Own M w0 w ss) f done)

theorem J.any {id : Nat} {l : List Oper} (n : Nat) (hn : l.length = n) (ss : List Ent) (hm : P.follows .mixedOrders = true) (h : JH P l.toArray Q N M w0 ss n (Array.replicate n false) ps es) : J N M w0 ps es ((Code.region id l.toArray true).wp P Q) := by
  subst hn
  exact fun a w hs ho => Code.wp_mono Calm.imp (wp_region_held hm (h a _ hs ho.drew))

def takeB (ops : Array Oper) (done : Array Bool) (i : Nat) : Bool := Region.noSelect ops && Region.free .any ops done i && (Region.ready .any ops done).contains i

theorem JH.take0 {i : Nat} {o : Oper} {v : Value} (is : List Nat) (hi : ops[i]? = some o) (hB : takeB ops done i = true) (hn : noDup is = true) (hp : pick is es = ss)
    (hy : ∀ a, Sees N a ps → YieldsIf P ops (fun w => Own M w0 w ss) o v a) (h : ∀ a, Sees N a ps → Own M w0 w0 [] ∨ True → ∀ w, Own M w0 w es → wpAnyH P .any ops (Calm Q) (fun w => Own M w0 w ss) f (done.setIfInBounds i true) (a.put o.dst v) w) :
    JH P ops Q N M w0 ss (f + 1) done ps es := fun a w hs ho => by
  simp only [takeB, Bool.and_eq_true] at hB
  have hS : Own M w0 w ss := hp ▸ ho.pick is (noDup_spec hn)
  exact wpAnyH_take hi hB.1.1 hB.1.2 hB.2 (fun c a w h => h.elim) (hy a hs) hS (h a hs (.inr trivial) w ho)

theorem JH.take {i d : Nat} {o : Oper} {v : Value} (is : List Nat) (hi : ops[i]? = some o) (hB : takeB ops done i = true) (hn : noDup is = true) (hp : pick is es = ss) (hg : o.guard = none) (hd : o.dst = some d) (hN : Nat.blt d N = true)
    (hv : OpV P N M w0 ps ss o v) (h : JH P ops Q N M w0 ss f (done.setIfInBounds i true) ((d, v) :: ps) es) : JH P ops Q N M w0 ss (f + 1) done ps es :=
  JH.take0 is hi hB hn hp (fun a hs => .inl ⟨by simp [Region.wanted, hg], fun w hw => hv a w hs hw⟩) fun a hs _ w ho => by
    rw [hd]; exact h _ _ (hs.put v (blt_lt hN)) ho

theorem JH.takeOn {i d j t : Nat} {b : Bool} {o : Oper} {v : Value} (is : List Nat) (hi : ops[i]? = some o) (hB : takeB ops done i = true) (hn : noDup is = true) (hp : pick is es = ss) (hg : o.guard = some (j, b)) (ht : (ops[j]?).bind (·.dst) = some t) (hc : lk ps t = some (.bool b)) (hd : o.dst = some d) (hN : Nat.blt d N = true)
    (hv : OpV P N M w0 ps ss o v) (h : JH P ops Q N M w0 ss f (done.setIfInBounds i true) ((d, v) :: ps) es) : JH P ops Q N M w0 ss (f + 1) done ps es :=
  JH.take0 is hi hB hn hp (fun a hs => .inl ⟨by rw [wanted_on hs hg ht hc]; simp, fun w hw => hv a w hs hw⟩) fun a hs _ w ho => by
    rw [hd]; exact h _ _ (hs.put v (blt_lt hN)) ho

theorem JH.takeOff {i d j t : Nat} {b c : Bool} {o : Oper} (is : List Nat) (hi : ops[i]? = some o) (hB : takeB ops done i = true) (hn : noDup is = true) (hp : pick is es = ss) (hg : o.guard = some (j, b)) (ht : (ops[j]?).bind (·.dst) = some t) (hc : lk ps t = some (.bool c)) (hne : (c == b) = false) (hd : o.dst = some d) (hN : Nat.blt d N = true)
    (h : JH P ops Q N M w0 ss f (done.setIfInBounds i true) ((d, undef) :: ps) es) : JH P ops Q N M w0 ss (f + 1) done ps es :=
  JH.take0 is hi hB hn hp (fun a hs => .inr ⟨by rw [wanted_on hs hg ht hc, hne], rfl⟩) fun a hs _ w ho => by
    rw [hd]; exact h _ _ (hs.put undef (blt_lt hN)) ho

theorem JH.takeOff0 {i j t : Nat} {b c : Bool} {o : Oper} (is : List Nat) (hi : ops[i]? = some o) (hB : takeB ops done i = true) (hn : noDup is = true) (hp : pick is es = ss) (hg : o.guard = some (j, b)) (ht : (ops[j]?).bind (·.dst) = some t) (hc : lk ps t = some (.bool c)) (hne : (c == b) = false) (hd : o.dst = none)
    (h : JH P ops Q N M w0 ss f (done.setIfInBounds i true) ps es) : JH P ops Q N M w0 ss (f + 1) done ps es :=
  JH.take0 is hi hB hn hp (fun a hs => .inr ⟨by rw [wanted_on hs hg ht hc, hne], rfl⟩) fun a hs _ w ho => by
    rw [hd]; exact h _ _ hs ho

theorem JH.takeOffU {i d j t : Nat} {b : Bool} {o : Oper} (is : List Nat) (hi : ops[i]? = some o) (hB : takeB ops done i = true) (hn : noDup is = true) (hp : pick is es = ss) (hg : o.guard = some (j, b)) (ht : (ops[j]?).bind (·.dst) = some t) (hc : lk ps t = some undef) (hd : o.dst = some d) (hN : Nat.blt d N = true)
    (h : JH P ops Q N M w0 ss f (done.setIfInBounds i true) ((d, undef) :: ps) es) : JH P ops Q N M w0 ss (f + 1) done ps es :=
  JH.take0 is hi hB hn hp (fun a hs => .inr ⟨wanted_u hs hg ht hc, rfl⟩) fun a hs _ w ho => by
    rw [hd]; exact h _ _ (hs.put undef (blt_lt hN)) ho

theorem JH.takeOffU0 {i j t : Nat} {b : Bool} {o : Oper} (is : List Nat) (hi : ops[i]? = some o) (hB : takeB ops done i = true) (hn : noDup is = true) (hp : pick is es = ss) (hg : o.guard = some (j, b)) (ht : (ops[j]?).bind (·.dst) = some t) (hc : lk ps t = some undef) (hd : o.dst = none)
    (h : JH P ops Q N M w0 ss f (done.setIfInBounds i true) ps es) : JH P ops Q N M w0 ss (f + 1) done ps es :=
  JH.take0 is hi hB hn hp (fun a hs => .inr ⟨wanted_u hs hg ht hc, rfl⟩) fun a hs _ w ho => by
    rw [hd]; exact h _ _ hs ho

theorem JH.val {d : Nat} {v v' : Value} (e : v = v') (h : JH P ops Q N M w0 ss f done ((d, v') :: ps) es) : JH P ops Q N M w0 ss f done ((d, v) :: ps) es := e ▸ h

/-! ### Whichever comes up -/

theorem Oper.wp_QK {o : Oper} {a : Act} {w : World} {K : Act → World → Prop} (h : o.wp P a w K (QK K Q)) : o.wp P a w K Q := by
  unfold Oper.wp at *
  generalize (execOp a.eval o).run P w = r at *
  cases r with
  | ok n w' =>
    cases n <;> simp only [Oper.upon] at h ⊢ <;> first | exact h | exact Calls.mono h (fun e w'' he => by cases e <;> exact he) | exact Rows.mono h (fun _ _ he => he)
  | halt x w' => cases x <;> simp only [Oper.upon] at h ⊢ <;> exact h

theorem JH.op {i : Nat} {o : Oper} (hi : ops[i]? = some o) (h : J N M w0 ps es (wpList P ops (QK K Q) [o])) : J N M w0 ps es (wpOp P ops Q i K) := fun a w hs ho => by
  have h1 := h a w hs ho
  unfold wpOp
  unfold wpList at h1
  simp only [hi]
  split
  · rename_i hw
    rw [if_pos hw] at h1
    rcases h1 with h1 | ⟨h1, h2⟩
    · exact .inl (Oper.wp_QK (Oper.wp_mono (fun _ _ h => h) h1))
    · exact .inr ⟨h1, h2⟩
  · rename_i hw
    rw [if_neg hw] at h1
    exact h1

def JHall (P : Program) (ops : Array Oper) (Q : Exit → Act → World → Prop) (N : Nat) (M : List Nat) (w0 : World) (ss : List Ent) (f : Nat) (done : Array Bool) (ps : List (Nat × Value)) (es : List Ent) : List Nat → Prop
  | [] => True
  | i :: r => J N M w0 ps es (wpOp P ops (Calm Q) i (fun a w => Own M w0 w ss ∧ wpAnyH P .any ops (Calm Q) (fun w => Own M w0 w ss) f (done.setIfInBounds i true) a w)) ∧ JHall P ops Q N M w0 ss f done ps es r

theorem JHall.nil : JHall P ops Q N M w0 ss f done ps es [] := trivial
theorem JHall.cons {i : Nat} {r : List Nat} (h : J N M w0 ps es (wpOp P ops (Calm Q) i (fun a w => Own M w0 w ss ∧ wpAnyH P .any ops (Calm Q) (fun w => Own M w0 w ss) f (done.setIfInBounds i true) a w))) (hr : JHall P ops Q N M w0 ss f done ps es r) : JHall P ops Q N M w0 ss f done ps es (i :: r) := ⟨h, hr⟩
theorem JHall.mem : ∀ {rs : List Nat}, JHall P ops Q N M w0 ss f done ps es rs → ∀ i ∈ rs, J N M w0 ps es (wpOp P ops (Calm Q) i (fun a w => Own M w0 w ss ∧ wpAnyH P .any ops (Calm Q) (fun w => Own M w0 w ss) f (done.setIfInBounds i true) a w))
  | [], _, i, hi => by cases hi
  | j :: r, h, i, hi => by
    rcases List.mem_cons.1 hi with rfl | hi
    · exact h.1
    · exact h.2.mem i hi

theorem JH.all (rs : List Nat) (hr : Region.ready .any ops done = rs) (hne : rs.isEmpty = false) (h : JHall P ops Q N M w0 ss f done ps es rs) : JH P ops Q N M w0 ss (f + 1) done ps es := fun a w hs ho =>
  wpAnyH_all hr (by intro e; subst e; simp at hne) fun i hi => h.mem i hi a w hs ho

theorem JH.back (is : List Nat) (hn : noDup is = true) (hp : pick is es = ss) (h : JH P ops Q N M w0 ss f done ps es) : J N M w0 ps es (QK (fun a w => Own M w0 w ss ∧ wpAnyH P .any ops (Calm Q) (fun w => Own M w0 w ss) f done a w) (Calm Q) .normal) := fun a w hs ho =>
  ⟨hp ▸ ho.pick is (noDup_spec hn), h a w hs ho⟩

theorem JH.fin (hr : Region.ready .any ops done = []) (h : J N M w0 ps es (Q .normal)) : JH P ops Q N M w0 ss f done ps es := fun a w hs ho => wpAnyH_done (Q := Calm Q) hr (h a w hs ho) f

/-- by cases -/
theorem J.byB (B : Bool) (ht : B = true → J N M w0 ps es K) (hf : B = false → J N M w0 ps es K) : J N M w0 ps es K := by
  cases B with
  | true => exact ht rfl
  | false => exact hf rfl

end
end G
end Go.Proofs.YtadggddaheipgaaDoor
