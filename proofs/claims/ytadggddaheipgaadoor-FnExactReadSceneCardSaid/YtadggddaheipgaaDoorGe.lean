/- The calculus' rules for stores, append, cuts of slices, and regions that draw their order and only read. No condition. -/
import Derived.Test.YtadggddaheipgaaDoorGd
namespace Go.Proofs.YtadggddaheipgaaDoor
open Go Go.RowKit
namespace G

/-! ### One entry turns, wherever it stands -/

theorem perm_set : ∀ (i : Nat) {es : List Ent} {e : Ent} (e' : Ent), es[i]? = some e → (es.set i e').Perm (e' :: es.eraseIdx i)
  | _, [], _, _, h => by simp at h
  | 0, x :: r, e, e', h => by simp
  | i + 1, x :: r, e, e', h => by
    simp only [List.getElem?_cons_succ] at h
    simp only [List.set_cons_succ, List.eraseIdx_cons_succ]
    exact ((perm_set i e' h).cons x).trans (List.Perm.swap e' x _)

theorem Own.turnAt {M : List Nat} {w0 w w' : World} {es : List Ent} {e e' : Ent} {i : Nat} (hi : es[i]? = some e) (h : Own M w0 w es) (hos : w'.os = w.os) (ht : w'.tape = w.tape) (ho : w'.output = w.output)
    (hsz : w.heap.size ≤ w'.heap.size) (hfr : ∀ k, k < w.heap.size → k ∉ e.foot → w'.heap[k]? = w.heap[k]?) (hh : e'.holds w')
    (hf : ∀ k, k ∈ e'.foot → k ∈ e.foot ∨ w.heap.size ≤ k) : Own M w0 w' (es.set i e') :=
  ((h.front i hi).turn hos ht ho hsz hfr hh hf).perm (perm_set i e' hi).symm

section
variable {P : Program} {N : Nat} {M : List Nat} {w0 : World} {ps : List (Nat × Value)} {es : List Ent} {K : Act → World → Prop} {Q : Exit → Act → World → Prop}
  {ops : Array Oper} {o : Oper} {rest : List Oper}

theorem oneCell_cells {v : Value} (h : v.oneCell' = true) : v.cells = #[v] := by cases v <;> first | rfl | simp [Value.oneCell'] at h

theorem run_store1 {w : World} {T : TypeId} (hT : sizeP P T = some 1) {a : Addr} {u v : Value} (hv : v.oneCell' = true) (hc : w.cell? a = some u) (hf : w.frozen? a = false) : (storeVar T a v).run P w = .ok () (w.setCell a v) := by
  have h0 : a.add 0 = a := rfl
  cases v <;> simp [Value.oneCell'] at hv <;> simp [storeVar, Value.cells, run_sizeOf hT, storeCells, store, Sem.run, h0, hc, hf]

/-- a store of one cell into a block -/
theorem J.stB {T b k T0 : Nat} {x y : Operand} {v : Value} {cs : List Value} (i : Nat) (hg : o.guard = none) (hd : o.dst = none) (ho : o.op = .store T x y) (hx : ev ps x = some (bp b k)) (hy : ev ps y = some v) (hi : es[i]? = some (.blk b cs T0))
    (hT : sizeP P T = some 1) (hv' : ∀ w, Own M w0 w es → v.oneCell' = true) (hk : Nat.blt k cs.length = true) (h : J N M w0 ps (es.set i (.blk b (cs.set k v) T0)) (wpList P ops Q rest)) : J N M w0 ps es (wpList P ops Q (o :: rest)) := fun a w hs how =>
  wpList_plain hg fun K hK => by
    have hv := hv' w how
    have hb : w.heap[b]? = some (.cells cs.toArray T0 (0, 0)) := how.at hi
    have hk' := blt_lt hk
    have hc : w.cell? ⟨b, k, none⟩ = some cs[k] := by rw [cell_of_row w b k _ T0 (0, 0) hb]; simp [hk']
    have hf := frozen_of_row w b k cs.toArray T0 hb
    have hr : (execOp a.eval o).run P w = .ok .skip (w.setCell ⟨b, k, none⟩ v) := by
      simp [execOp, ho, hs.eval hx, hs.eval hy, Instr.storeAt, Instr.sureAddr, bp, run_store1 hT hv hc hf]
    unfold Oper.wp
    rw [hr, Oper.upon_skip, hd]
    refine hK _ _ (h _ _ (hs.put_none _) (Own.turnAt hi how rfl rfl rfl (by simp) ?_ ?_ fun k hk => .inl hk))
    · intro k' _ hne
      exact heap_setCell_other w _ k' v (fun e => hne (by simp [Ent.foot, e]))
    · have := heap_setCell_same w b k cs.toArray T0 v hb
      simpa [Ent.holds] using this

/-- a store of one cell into an owned row -/
theorem J.stR {T E sz n k : Nat} {x y : Operand} {v vr : Value} {cs : List Value} (i : Nat) (hg : o.guard = none) (hd : o.dst = none) (ho : o.op = .store T x y) (hx : ev ps x = some (sp vr k)) (hy : ev ps y = some v) (hi : es[i]? = some (.row vr E sz n cs))
    (hT : sizeP P T = some 1) (hv' : ∀ w, Own M w0 w es → v.oneCell' = true) (hk : Nat.blt k cs.length = true) (h : J N M w0 ps (es.set i (.row vr E sz n (cs.set k v))) (wpList P ops Q rest)) : J N M w0 ps es (wpList P ops Q (o :: rest)) := fun a w hs how =>
  wpList_plain hg fun K hK => by
    have hv := hv' w how
    have hk' := blt_lt hk
    have hrow : w.ownsRow 0 E sz vr n cs := how.at hi
    have hlen := hrow.1
    rcases hrow.2 with ⟨rfl, hn⟩ | ⟨g, cap, cur, rfl, h0, hb, hnc, hcm, hsz, htake⟩
    · subst hn; simp at hlen; subst hlen; simp at hk'
    have hle : cs.length ≤ cur.size := by
      have := congrArg List.length htake
      simp at this; omega
    have hkc : k < cur.size := by omega
    have hc : w.cell? ⟨g, k, none⟩ = some cur[k] := by rw [cell_of_row w g k _ E (0, 0) hb]; simp [hkc]
    have hf := frozen_of_row w g k cur E hb
    have hr : (execOp a.eval o).run P w = .ok .skip (w.setCell ⟨g, k, none⟩ v) := by
      simp [execOp, ho, hs.eval hx, hs.eval hy, Instr.storeAt, Instr.sureAddr, sp, add_none, run_store1 hT hv hc hf]
    unfold Oper.wp
    rw [hr, Oper.upon_skip, hd]
    refine hK _ _ (h _ _ (hs.put_none _) (Own.turnAt hi how rfl rfl rfl (by simp) ?_ ?_ fun k hk => .inl hk))
    · intro k' _ hne
      exact heap_setCell_other w _ k' v (fun e => hne (by simp [Ent.foot, Value.ownBlock, e]))
    · refine ⟨by simp [hlen], .inr ⟨g, cap, cur.setIfInBounds k v, rfl, h0, ?_, hnc, hcm, by simp [hsz], ?_⟩⟩
      · exact heap_setCell_same w g k cur E v hb
      · rw [Array.toList_setIfInBounds, List.take_set, htake]

theorem one_nil : ∀ u ∈ ([] : List Value), u.oneCell' = true := by simp
theorem one_cons {u : Value} {l : List Value} (h : u.oneCell' = true) (hl : ∀ u ∈ l, u.oneCell' = true) : ∀ v ∈ u :: l, v.oneCell' = true := by
  intro v hv
  rcases List.mem_cons.1 hv with rfl | hv
  · exact h
  · exact hl v hv
/-- a store of a whole value into a block -/
theorem J.stW {T b T0 m : Nat} {x y : Operand} {v : Value} {cs cs' : List Value} (i : Nat) (hg : o.guard = none) (hd : o.dst = none) (ho : o.op = .store T x y) (hx : ev ps x = some (bp b 0)) (hy : ev ps y = some v) (hi : es[i]? = some (.blk b cs T0))
    (hT : sizeP P T = some m) (hv : v.cells = cs'.toArray) (h1 : ∀ w, Own M w0 w es → ∀ u ∈ cs', u.oneCell' = true) (hk : cs.length = m) (hk' : cs'.length = m) (h : J N M w0 ps (es.set i (.blk b cs' T0)) (wpList P ops Q rest)) : J N M w0 ps es (wpList P ops Q (o :: rest)) := fun a w hs how =>
  wpList_plain hg fun K hK => by
    have hb : w.heap[b]? = some (.cells cs.toArray T0 (0, 0)) := how.at hi
    have hst := run_storeCells_at P b 0 T0 cs' 0 cs.toArray w hb (by simp [hk, hk']) (h1 w how)
    have hset : (cs.toArray.toList.take (0 + 0) ++ cs' ++ cs.toArray.toList.drop (0 + 0 + cs'.length)).toArray = cs'.toArray := by simp [hk, hk']
    rw [hset] at hst
    have hr : (execOp a.eval o).run P w = .ok .skip (w.setRow b cs'.toArray) := by
      simp [execOp, ho, hs.eval hx, hs.eval hy, Instr.storeAt, Instr.sureAddr, bp, storeVar, run_sizeOf hT, hv, hk', hst]
    unfold Oper.wp
    rw [hr, Oper.upon_skip, hd]
    refine hK _ _ (h _ _ (hs.put_none _) (Own.turnAt hi how rfl rfl rfl (by simp) ?_ ?_ fun k hk => .inl hk))
    · intro k' _ hne
      simp only [World.setRow, Array.getElem?_modify]
      rw [if_neg (fun e => hne (by simp [Ent.foot, e]))]
    · simp [Ent.holds, World.setRow, Array.getElem?_modify, hb]

/-! ### append -/

def roomB (n m bytes : Nat) : Bool := decide (n + m ≤ 9223372036854775807) && decide ((n + m) * bytes ≤ 140737488355328)

/-- what follows behind an append: the row has grown -/
theorem J.apd {T E sz bytes n m d : Nat} {x y : Operand} {v vy : Value} {cs news : List Value} {inf : TypeInfo} {z : Value} (i : Nat) (hg : o.guard = none) (hd : o.dst = some d) (hN : Nat.blt d N = true)
    (ho : o.op = .call { callee := .builtin .append, args := #[x, y], argTypes := #[T, T] }) (hx : ev ps x = some v) (hy : ev ps y = some vy) (hi : es[i]? = some (.row v E sz n cs))
    (hT : slE P T = some E) (hinf : P.info? E = some inf) (hz : inf.zero = some z) (hsz : inf.size = sz) (hby : inf.bytes = bytes) (hzs : z.cells.size = sz) (h0 : Nat.blt 0 sz = true)
    (hsrc : ∀ w, Own M w0 w es → ∃ A c, vy = .slice A m c ∧ (A = none → m = 0 ∧ c = 0) ∧ ∀ ad, A = some ad → ∀ j u, news[j]? = some u → w.cell? (ad.add j) = some u) (hl : news.length = m * sz) (h1 : ∀ u ∈ news, u.oneCell' = true)
    (hroom : roomB n m bytes = true) (h : ∀ v', J N M w0 ((d, v') :: ps) (es.set i (.row v' E sz (n + m) (cs ++ news))) (wpList P ops Q rest)) : J N M w0 ps es (wpList P ops Q (o :: rest)) := fun a w hs how =>
  wpList_plain hg fun K hK => by
    have hrow : w.ownsRow 0 E sz v n cs := how.at hi
    have hr2 : n + m ≤ maxLen ∧ (n + m) * bytes ≤ 140737488355328 := by
      simp only [roomB, Bool.and_eq_true, decide_eq_true_eq] at hroom
      exact ⟨by unfold maxLen; omega, hroom.2⟩
    obtain ⟨A, c, rfl, hnone, hsome⟩ := hsrc w how
    have main : ∃ v' w', (Builtin.append_ #[T, T] o.type #[v, .slice A m c]).run P w = .ok v' w' ∧ w'.ownsRow 0 E sz v' (n + m) (cs ++ news) ∧ w.grownBy w' v.ownBlock ∧ (∀ k, v'.ownBlock = some k → v.ownBlock = some k ∨ w.heap.size ≤ k) := by
      cases A with
      | none =>
        obtain ⟨rfl, rfl⟩ := hnone rfl
        have hnil : news = [] := List.length_eq_zero_iff.1 (by simpa using hl)
        refine ⟨v, w, run_append_owned_none (P := P) (w := w) 0 T o.type E inf sz (slE_und hT) hinf v n cs hrow, ?_, ⟨rfl, rfl, rfl, Nat.le_refl _, fun _ _ _ => rfl⟩, fun k hk => .inl hk⟩
        simpa [hnil] using hrow
      | some ad =>
        obtain ⟨v', w', hr, hown, hgr, hnl⟩ := run_append_own (P := P) w 0 T o.type E inf z sz bytes (slE_und hT) hinf hz hsz hby hzs (blt_lt h0) v n cs hrow ad m c news hl (hsome ad rfl) h1 hr2.1 hr2.2 (Nat.zero_le _)
        refine ⟨v', w', hr, hown, hgr, ?_⟩
        have hi' := hinf
        subst hsz hby
        have hbytes := hr2.2
        have h63 : n + m ≤ 9223372036854775807 := by have := hr2.1; unfold maxLen at this; omega
        rcases hrow.2 with ⟨rfl, rfl⟩ | ⟨g, cap, cur, rfl, _, hg, hnc, hcm, hcs, htake⟩
        · by_cases hm : m = 0
          · have := hnl.2 ⟨rfl, hm⟩
            subst this
            intro k hk; simp [Value.ownBlock] at hk
          · have hr3 := run_append_nil (P := P) w T o.type E inf z (slE_und hT) hinf hz ad m c news hl (hsome ad rfl) (by omega) (by omega) (by have hb := hbytes; simp only [Nat.zero_add] at hb; omega)
            rw [hr] at hr3
            injection hr3 with e1 _
            subst e1
            intro k hk; simp [Value.ownBlock] at hk; exact .inr (by omega)
        · by_cases hroom' : n + m ≤ cap
          · have hfit : n * inf.size + news.length ≤ cur.size := by rw [hl, hcs, ← Nat.add_mul]; exact Nat.mul_le_mul_right _ hroom'
            have hr3 := run_append_room (P := P) w T o.type E inf (slE_und hT) hinf g n cap cur hg ad m c news hl (hsome ad rfl) h1 hroom' hfit
            rw [hr] at hr3
            injection hr3 with e1 _
            subst e1
            intro k hk; exact .inl hk
          · have holds : ∀ j u, cs[j]? = some u → w.cell? ((⟨g, 0, none⟩ : Addr).add j) = some u := hrow.cells (g := g) rfl
            have hr3 := run_append_grow (P := P) w T o.type E inf z (slE_und hT) hinf hz ⟨g, 0, none⟩ n cap cs hrow.1 holds ad m c news hl (hsome ad rfl) (by omega) (by omega) (growslice_fits (by omega) hbytes)
            rw [hr] at hr3
            injection hr3 with e1 _
            subst e1
            intro k hk; simp [Value.ownBlock] at hk; exact .inr (by omega)
    obtain ⟨v', w', hr, hown, hgr, hft⟩ := main
    have hr' : (execOp a.eval o).run P w = .ok (.value v') w' := by
      simp only [execOp, ho, resolve, invoke, builtin, Sem.run_bind, Sem.run_pure, Result.andThen_ok, List.map_toArray, List.map_cons, List.map_nil, hs.eval hx, hs.eval hy, hr]
    unfold Oper.wp
    rw [hr', Oper.upon_value, hd]
    refine hK _ _ (h v' _ _ (hs.put _ (blt_lt hN)) (Own.turnAt hi how hgr.os hgr.tape hgr.output hgr.size ?_ hown fun k hk => (hft k (mem_foot_row.1 hk)).imp_left mem_foot_row.2))
    intro k hk hne
    exact hgr.block k hk (fun e => hne (mem_foot_row.2 e.symm))

/-- the source is a block just laid ('append(xs, x)') -/
theorem J.apB {T E sz bytes n m d b : Nat} {x y : Operand} {v : Value} {cs news : List Value} {inf : TypeInfo} {z : Value} (i j : Nat) (hg : o.guard = none) (hd : o.dst = some d) (hN : Nat.blt d N = true)
    (ho : o.op = .call { callee := .builtin .append, args := #[x, y], argTypes := #[T, T] }) (hx : ev ps x = some v) (hy : ev ps y = some (.slice (some ⟨b, 0, none⟩) m m)) (hi : es[i]? = some (.row v E sz n cs)) (hj : es[j]? = some (.blk b news E))
    (hT : slE P T = some E) (hinf : P.info? E = some inf) (hz : inf.zero = some z) (hsz : inf.size = sz) (hby : inf.bytes = bytes) (hzs : z.cells.size = sz) (h0 : Nat.blt 0 sz = true)
    (hl : news.length = m * sz) (h1 : ∀ u ∈ news, u.oneCell' = true)
    (hroom : roomB n m bytes = true) (h : ∀ v', J N M w0 ((d, v') :: ps) (es.set i (.row v' E sz (n + m) (cs ++ news))) (wpList P ops Q rest)) : J N M w0 ps es (wpList P ops Q (o :: rest)) :=
  J.apd i hg hd hN ho hx hy hi hT hinf hz hsz hby hzs h0 (fun w how => ⟨_, _, rfl, (fun e => by cases e), fun ad e j' u hu => by
    cases e
    rw [add_none, cell_of_row w b (0 + j') news.toArray E (0, 0) (how.at hj)]
    simpa using hu⟩) hl h1 hroom h

/-- the source is a slice that is read ('append(xs, ys...)') -/
theorem J.apS {T E sz bytes n m d : Nat} {x y : Operand} {v vy : Value} {cs news : List Value} {inf : TypeInfo} {z : Value} (i : Nat) (hS : Sl M w0 vy E sz m news) (hg : o.guard = none) (hd : o.dst = some d) (hN : Nat.blt d N = true)
    (ho : o.op = .call { callee := .builtin .append, args := #[x, y], argTypes := #[T, T] }) (hx : ev ps x = some v) (hy : ev ps y = some vy) (hi : es[i]? = some (.row v E sz n cs))
    (hT : slE P T = some E) (hinf : P.info? E = some inf) (hz : inf.zero = some z) (hsz : inf.size = sz) (hby : inf.bytes = bytes) (hzs : z.cells.size = sz) (h0 : Nat.blt 0 sz = true)
    (h1 : ∀ u ∈ news, u.oneCell' = true)
    (hroom : roomB n m bytes = true) (h : ∀ v', J N M w0 ((d, v') :: ps) (es.set i (.row v' E sz (n + m) (cs ++ news))) (wpList P ops Q rest)) : J N M w0 ps es (wpList P ops Q (o :: rest)) :=
  J.apd i hg hd hN ho hx hy hi hT hinf hz hsz hby hzs h0 (fun w how => by
    obtain ⟨hl, A, c, rfl, hc, hz, hr⟩ := hS.later (M' := M) how (fun k hk => .inl hk)
    refine ⟨A, c, rfl, hz, ?_⟩
    rintro ad rfl j u hu
    have hm : 0 < m := Nat.pos_of_ne_zero (fun e => by subst e; simp at hl; subst hl; simp at hu)
    obtain ⟨ad', cur, T', fr, e, hsp, _, hb, hcell⟩ := hr hm
    cases e
    rw [add_of hsp, cell_of_row w ad.block (ad.off + j) cur T' fr hb]
    exact hcell j u hu) hS.1 h1 hroom h

/-- the source is another row of the call's own -/
theorem J.apR {T E sz bytes n m d : Nat} {x y : Operand} {v vy : Value} {cs news : List Value} {inf : TypeInfo} {z : Value} (i j : Nat) (hj : es[j]? = some (.row vy E sz m news)) (hg : o.guard = none) (hd : o.dst = some d) (hN : Nat.blt d N = true)
    (ho : o.op = .call { callee := .builtin .append, args := #[x, y], argTypes := #[T, T] }) (hx : ev ps x = some v) (hy : ev ps y = some vy) (hi : es[i]? = some (.row v E sz n cs))
    (hT : slE P T = some E) (hinf : P.info? E = some inf) (hz : inf.zero = some z) (hsz : inf.size = sz) (hby : inf.bytes = bytes) (hzs : z.cells.size = sz) (h0 : Nat.blt 0 sz = true)
    (hl : news.length = m * sz) (h1 : ∀ u ∈ news, u.oneCell' = true)
    (hroom : roomB n m bytes = true) (h : ∀ v', J N M w0 ((d, v') :: ps) (es.set i (.row v' E sz (n + m) (cs ++ news))) (wpList P ops Q rest)) : J N M w0 ps es (wpList P ops Q (o :: rest)) :=
  J.apd i hg hd hN ho hx hy hi hT hinf hz hsz hby hzs h0 (fun w how => by
    obtain ⟨_, A, c, rfl, hc, hz, hr⟩ := Sl.ofRow (M' := []) (how.at hj) (by simp)
    refine ⟨A, c, rfl, hz, ?_⟩
    rintro ad rfl j u hu
    have hm : 0 < m := Nat.pos_of_ne_zero (fun e => by subst e; simp at hl; subst hl; simp at hu)
    obtain ⟨ad', cur, T', fr, e, hsp, _, hb, hcell⟩ := hr hm
    cases e
    rw [add_of hsp, cell_of_row w ad.block (ad.off + j) cur T' fr hb]
    exact hcell j u hu) hl h1 hroom h

/-! ### A region that draws its order and only reads (or calls what only makes memory) -/

def JQ (N : Nat) (ps : List (Nat × Value)) (K : Act → Prop) : Prop := ∀ a, Sees N a ps → K a

/-- the worlds in which 'es' holds, and 'xs' beside it -/
def fam (M : List Nat) (w0 : World) (es xs : List Ent) (w : World) : Prop := Own M w0 w (xs ++ es)

theorem fam.base {xs : List Ent} {w : World} (h : fam M w0 es xs w) : Own M w0 w es := Own.drop h (List.sublist_append_right xs es)

/-- one operation after the other, each of them quiet in every class of the family, with one value -/
def wpQF {ι : Type} (P : Program) (ops : Array Oper) (Cs : ι → World → Prop) (Q : Act → Prop) : List Oper → Act → Prop
  | [], a => Q a
  | o :: rest, a => if Region.wanted o (yielded ops a.tmps) then (∃ v, (∀ i w, Cs i w → o.quietAt P a (Cs i) w v) ∧ wpQF P ops Cs Q rest (a.put o.dst v)) else wpQF P ops Cs Q rest (a.put o.dst undef)

theorem wpQF.one {ι : Type} {Cs : ι → World → Prop} {Q : Act → Prop} (i : ι) : ∀ {l : List Oper} {a : Act}, wpQF P ops Cs Q l a → wpQuiet P ops (Cs i) Q l a
  | [], _, h => h
  | o :: rest, a, h => by
    unfold wpQF at h
    unfold wpQuiet
    split
    · rename_i hw
      rw [if_pos hw] at h
      obtain ⟨v, h1, h2⟩ := h
      exact ⟨v, h1 i, wpQF.one i h2⟩
    · rename_i hw
      rw [if_neg hw] at h
      exact wpQF.one i h

theorem wpQF_step {ι : Type} {Cs : ι → World → Prop} {Q : Act → Prop} {a : Act} {o : Oper} {rest : List Oper}
    (h : ∀ K : Act → Prop, (∀ a, wpQF P ops Cs Q rest a → K a) → if Region.wanted o (yielded ops a.tmps) then (∃ v, (∀ i w, Cs i w → o.quietAt P a (Cs i) w v) ∧ K (a.put o.dst v)) else K (a.put o.dst undef)) : wpQF P ops Cs Q (o :: rest) a :=
  h _ (fun _ h => h)

theorem J.quiet {id : Nat} {l : List Oper} (hm : P.follows .mixedOrders = true) (hB : Region.lexB .any l.toArray = true)
    (h : JQ N ps (wpQF P l.toArray (fam M w0 es) (fun a' => ∀ w', Own M w0 w' es → Q .normal a' w') l)) :
    J N M w0 ps es ((Code.region id l.toArray true).wp P Q) := fun a w hs how =>
  wp_region_quiet (C := fun w' => Own M w0 w' es) hm hB how.drew (wpQF.one (Cs := fam M w0 es) [] (h a hs))

variable {KQ : Act → Prop}

theorem JQ.op {d : Nat} {v : Value} (hg : o.guard = none) (hd : o.dst = some d) (hN : Nat.blt d N = true) (hv : OpV P N M w0 ps es o v) (h : JQ N ((d, v) :: ps) (wpQF P ops (fam M w0 es) KQ rest)) :
    JQ N ps (wpQF P ops (fam M w0 es) KQ (o :: rest)) := fun a hs =>
  wpQF_step fun K' hK => by
    rw [if_pos (by simp [Region.wanted, hg])]
    refine ⟨v, fun xs w' hw' => ?_, ?_⟩
    · unfold Oper.quietAt
      rw [hv a w' hs hw'.base]
      exact ⟨rfl, rfl⟩
    · rw [hd]; exact hK _ (h _ (hs.put _ (blt_lt hN)))

theorem JQ.opOn {d : Nat} {v : Value} {j t : Nat} {b : Bool} (hg : o.guard = some (j, b)) (ht : (ops[j]?).bind (·.dst) = some t) (hc : lk ps t = some (.bool b)) (hd : o.dst = some d) (hN : Nat.blt d N = true) (hv : OpV P N M w0 ps es o v) (h : JQ N ((d, v) :: ps) (wpQF P ops (fam M w0 es) KQ rest)) :
    JQ N ps (wpQF P ops (fam M w0 es) KQ (o :: rest)) := fun a hs =>
  wpQF_step fun K' hK => by
    rw [if_pos (by rw [wanted_on hs hg ht hc]; simp)]
    refine ⟨v, fun xs w' hw' => ?_, ?_⟩
    · unfold Oper.quietAt
      rw [hv a w' hs hw'.base]
      exact ⟨rfl, rfl⟩
    · rw [hd]; exact hK _ (h _ (hs.put _ (blt_lt hN)))

theorem JQ.opOff {d : Nat} {j t : Nat} {b c : Bool} (hg : o.guard = some (j, b)) (ht : (ops[j]?).bind (·.dst) = some t) (hc : lk ps t = some (.bool c)) (hne : (c == b) = false) (hd : o.dst = some d) (hN : Nat.blt d N = true) (h : JQ N ((d, undef) :: ps) (wpQF P ops (fam M w0 es) KQ rest)) :
    JQ N ps (wpQF P ops (fam M w0 es) KQ (o :: rest)) := fun a hs =>
  wpQF_step fun K' hK => by
    rw [if_neg (by rw [wanted_on hs hg ht hc, hne]; simp), hd]
    exact hK _ (h _ (hs.put undef (blt_lt hN)))

theorem JQ.opOffU {d : Nat} {j t : Nat} {b : Bool} (hg : o.guard = some (j, b)) (ht : (ops[j]?).bind (·.dst) = some t) (hc : lk ps t = some undef) (hd : o.dst = some d) (hN : Nat.blt d N = true) (h : JQ N ((d, undef) :: ps) (wpQF P ops (fam M w0 es) KQ rest)) :
    JQ N ps (wpQF P ops (fam M w0 es) KQ (o :: rest)) := fun a hs =>
  wpQF_step fun K' hK => by
    rw [if_neg (by rw [wanted_u hs hg ht hc]; simp), hd]
    exact hK _ (h _ (hs.put undef (blt_lt hN)))

theorem JQ.cl {d f : Nat} {at_ : Array TypeId} {x : Operand} {l : List Operand} {cap : Array Value} {args : List Value} {V : Unit → Value} {fn : Func} (hfn : P.funcs[f]? = some fn) (hnm : (fn.name == "runtime.NumGoroutine") = false) (hbd : fn.body.isNone = false)
    (hw : ∀ a, Sees N a ps → Region.wanted o (yielded ops a.tmps) = true) (hd : o.dst = some d) (hN : Nat.blt d N = true) (ho : o.op = .call { callee := .value x, args := l.toArray, argTypes := at_ })
    (hx : ev ps x = some (.func (.func f) #[] cap)) (hl : evs ps l = some args)
    (hc : ∀ w, Own M w0 w es → Calls P f (args.toArray ++ cap) w (fun e w' => ∃ g, e = .returned (V g) ∧ Own [] w w' []))
    (h : JQ N ((d, V ()) :: ps) (wpQF P ops (fam M w0 es) KQ rest)) : JQ N ps (wpQF P ops (fam M w0 es) KQ (o :: rest)) := fun a hs =>
  wpQF_step fun K' hK => by
    rw [if_pos (hw a hs)]
    refine ⟨V (), fun xs w' hw' => ?_, ?_⟩
    · have hcf : (callFunc f (args.toArray ++ cap)).run P w' = .ok (.enter f (args.toArray ++ cap)) w' := by
        have h1 : ¬ fn.name = "runtime.NumGoroutine" := by simpa using hnm
        have h2 : ¬ fn.body = none := by intro e; rw [e] at hbd; simp at hbd
        simp [callFunc, program, hfn, Sem.run, h1, h2]
      have hrun : (execOp a.eval o).run P w' = .ok (.enter f (args.toArray ++ cap)) w' := by
        simp [execOp, ho, resolve, Deferred.ofValue, invoke, hs.eval hx, hs.evals hl, hcf]
      unfold Oper.quietAt
      rw [hrun]
      refine ⟨rfl, (hc w' hw'.base).mono ?_⟩
      rintro e w'' ⟨g, rfl, hown⟩
      exact ⟨rfl, (Own.frameCall (esA := []) (esB := xs ++ es) (esR := []) hw' hown (by simp) : Own M w0 w'' (xs ++ es))⟩
    · rw [hd]; exact hK _ (h _ (hs.put _ (blt_lt hN)))

theorem JQ.nil (h : J N M w0 ps es (Q .normal)) : JQ N ps (wpQF P ops (fam M w0 es) (fun a' => ∀ w', Own M w0 w' es → Q .normal a' w') []) := fun a hs =>
  (fun w' hw' => h a w' hs hw')

theorem JQ.val {d : Nat} {v v' : Value} (e : v = v') (h : JQ N ((d, v') :: ps) KQ) : JQ N ((d, v) :: ps) KQ := e ▸ h

/-! ### A guard that is not decided -/

theorem lk_set {t : Nat} {v : Value} (ht : lk ps t = some v) {a : Act} (hs : Sees N a ps) : Sees N a ((t, v) :: ps) :=
  ⟨hs.size, hs.defs, fun s u hu => by
    rw [lk_cons] at hu
    by_cases e : t = s
    · rw [if_pos e] at hu; subst e; exact hs.has t u (by rw [ht]; exact hu)
    · rw [if_neg e] at hu; exact hs.has s u hu⟩
theorem J.split (t : Nat) {B : Bool} (hb : lk ps t = some (.bool B)) (ht : B = true → J N M w0 ((t, .bool true) :: ps) es K) (hf : B = false → J N M w0 ((t, .bool false) :: ps) es K) : J N M w0 ps es K := fun a w hs how => by
  cases B with
  | true => exact ht rfl a w (lk_set hb hs) how
  | false => exact hf rfl a w (lk_set hb hs) how
theorem JQ.split (t : Nat) {B : Bool} (hb : lk ps t = some (.bool B)) (ht : B = true → JQ N ((t, .bool true) :: ps) KQ) (hf : B = false → JQ N ((t, .bool false) :: ps) KQ) : JQ N ps KQ := fun a hs => by
  cases B with
  | true => exact ht rfl a (lk_set hb hs)
  | false => exact hf rfl a (lk_set hb hs)

end
end G
end Go.Proofs.YtadggddaheipgaaDoor
