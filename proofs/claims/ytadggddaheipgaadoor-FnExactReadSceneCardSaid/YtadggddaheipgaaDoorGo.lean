/- Slices against nil; what 'slices.Delete' does to a slice of the call's own. No condition. -/
import Derived.Test.YtadggddaheipgaaDoorGn
import Derived.WalkSpells
set_option linter.unusedVariables false
namespace Go.Proofs.YtadggddaheipgaaDoor
open Go Go.RowKit
namespace G
section
variable {P : Program} {N : Nat} {M : List Nat} {w0 : World} {ps : List (Nat × Value)} {es esA esB : List Ent} {K : Act → World → Prop} {Q : Exit → Act → World → Prop}
  {ops : Array Oper} {o : Oper} {rest : List Oper} {α : Type}

def nilB (v : Value) : Bool := match v with
  | .slice (some _) _ _ => false
  | _ => true
theorem run_sl_nil (w : World) (d : Nat) (T E : TypeId) (A : Option Addr) (n c : Nat) (hu : P.underlying T = some (.slice E)) : (Op.equalIn (d + 1) T (.slice A n c) (.slice none 0 0)).run P w = .ok (nilB (.slice A n c)) w := by
  cases A <;> simp [Op.equalIn, run_underlying hu, nilB]
theorem V.eqNil {T T' E : TypeId} {x : Operand} {v : Value} (hv : ∀ w, Own M w0 w es → ∃ A n c, v = .slice A n c) (hT : slE P T = some E) (ho : o.op = .binOp .eql T x (.const (.slice none 0 0)) T') (hx : ev ps x = some v) : OpV P N M w0 ps es o (.bool (nilB v)) := fun a w hs how => by
  obtain ⟨A, n, c, rfl⟩ := hv w how
  have hu := slE_und hT
  have h1 := run_sl_nil (P := P) w 9999 T E A n c hu
  have h2 : a.eval (.const (.slice none 0 0)) = .slice none 0 0 := rfl
  simp [execOp, ho, hs.eval hx, h2, eqGuard, binOp, Op.equal, Op.maxDepth, h1]
theorem V.neNil {T T' E : TypeId} {x : Operand} {v : Value} (hv : ∀ w, Own M w0 w es → ∃ A n c, v = .slice A n c) (hT : slE P T = some E) (ho : o.op = .binOp .neq T x (.const (.slice none 0 0)) T') (hx : ev ps x = some v) : OpV P N M w0 ps es o (.bool !(nilB v)) := fun a w hs how => by
  obtain ⟨A, n, c, rfl⟩ := hv w how
  have hu := slE_und hT
  have h1 := run_sl_nil (P := P) w 9999 T E A n c hu
  have h2 : a.eval (.const (.slice none 0 0)) = .slice none 0 0 := rfl
  simp [execOp, ho, hs.eval hx, h2, eqGuard, binOp, Op.equal, Op.maxDepth, h1]
theorem Sl.shape {w : World} {v : Value} {E sz n : Nat} {cs : List Value} (h : Sl M w v E sz n cs) : ∃ A m c, v = .slice A m c := by
  obtain ⟨_, A, c, hv, _⟩ := h
  exact ⟨A, n, c, hv⟩
theorem Sl.nilLen {w : World} {v : Value} {E : Nat} {e : Enc α} {xs : List α} (h : SlE M w v E e xs) (hb : nilB v = true) : xs = [] := by
  obtain ⟨_, A, c, rfl, _, hz, _⟩ := h
  cases A with
  | none => exact List.length_eq_zero_iff.1 (hz rfl).1
  | some ad => simp [nilB] at hb

/-! ### 'append(s[:i], s[j:]...)' and 'clear(s[n:m])' on a row -/

theorem inS_le {l h : Int} {n : Nat} (hb : inS l h n = true) : decide (l ≤ h) = true := decide_eq_true (inS_iff.1 hb).2.1
theorem del_len {xs : List α} {l h : Int} (hb : inS l h xs.length = true) : (xs.take l.toNat ++ xs.drop h.toNat).length = l.toNat + (xs.length - h.toNat) := by
  have := inS_iff.1 hb
  simp; omega
theorem del_lenI {xs : List α} {l h : Int} (hb : inS l h xs.length = true) : ((xs.take l.toNat ++ xs.drop h.toNat).length : Int) = ((l.toNat + (xs.length - h.toNat) : Nat) : Int) := by rw [del_len hb]
theorem del_leN {xs : List α} {l h : Int} (hb : inS l h xs.length = true) : ((l.toNat + (xs.length - h.toNat) : Nat) : Int) ≤ (xs.length : Int) := by
  have := inS_iff.1 hb
  omega
theorem del_le {xs : List α} {l h : Int} (hb : inS l h xs.length = true) : ((xs.take l.toNat ++ xs.drop h.toNat).length : Int) ≤ (xs.length : Int) := by
  rw [del_lenI hb]; exact del_leN hb
def capV (v : Value) : Nat := match v with
  | .slice _ _ c => c
  | _ => 0
def lenV (v : Value) (n : Nat) : Value := match v with
  | .slice a _ c => .slice a n c
  | u => u

theorem J.capR {v : Value} {E sz n : Nat} {cs : List Value} (i : Nat) (hi : es[i]? = some (.row v E sz n cs)) (h : n ≤ capV v → J N M w0 ps es K) : J N M w0 ps es K := fun a w hs how => by
  refine h ?_ a w hs how
  have hr : w.ownsRow 0 E sz v n cs := how.at hi
  rcases hr.2 with ⟨rfl, rfl⟩ | ⟨g, cap, cur, rfl, _, _, hn, _⟩
  · exact Nat.zero_le _
  · exact hn

theorem J.shapeR {v : Value} {E sz n : Nat} {cs : List Value} (i : Nat) (hi : es[i]? = some (.row v E sz n cs)) (h : (∃ A c, v = .slice A n c ∧ n ≤ c) → J N M w0 ps es K) : J N M w0 ps es K := fun a w hs how =>
  h (Sl.ofRow (M' := []) (how.at hi) (by simp)).len a w hs how

theorem V.subR {T E : TypeId} {x : Operand} {lo hi : Option Operand} {v : Value} {E' : Nat} {e : Enc α} {xs : List α} {l h : Int} {L H : Option Int} (i : Nat) (hes : es[i]? = some (.rowE v E' e xs)) (hb : inS l h xs.length = true) (ho : o.op = .slice T x lo hi none) (hx : ev ps x = some v) (hlo : bnd ps lo = some L) (hhi : bnd ps hi = some H)
    (hL : L.getD 0 = l) (hH : H.getD xs.length = h) (hT : slE P T = some E) (hE : sizeP P E = some e.sz) : OpV P N M w0 ps es o (subV e.sz v l h) :=
  V.sub (fun w how => (Sl.ofRow (M' := []) (how.at hes) (by simp)).len) ho hx hlo hhi hL hH hT hE hb

/-- the same up to the capacity -/
theorem V.subC {T E : TypeId} {x y z : Operand} {v : Value} {E' m n : Nat} {e : Enc α} {xs : List α} {l h : Int} {k k' : IntKind} (i : Nat) (hes : es[i]? = some (.rowE (lenV v n) E' e xs)) (hcap : h ≤ capV v) (hl : 0 ≤ l) (hlh : l ≤ h) (ho : o.op = .slice T x (some y) (some z) none) (hx : ev ps x = some (lenV v n)) (hy : ev ps y = some (.int k l)) (hz : ev ps z = some (.int k' h))
    (hT : slE P T = some E) (hE : sizeP P E = some m) : OpV P N M w0 ps es o (subV m (lenV v n) l h) := fun a w hs how => by
  obtain ⟨A, c, hv, hc⟩ := (Sl.ofRow (M' := []) (how.at hes) (by simp)).len
  cases v <;> simp only [lenV] at hv <;> try (cases hv; done)
  rename_i A' n' c'
  cases hv
  have h1 := run_bound (P := P) (i := h) (k := k') (n := c) (c := .sliceAcap) (by omega) (by simpa [capV] using hcap) w
  have h2 := run_bound (P := P) (i := l) (k := k) (n := h.toNat) (c := .sliceB) hl (by omega) w
  simp [execOp, ho, hs.eval hx, Instr.slice, Instr.sliceAt, Instr.sliceBounds, run_underlying (slE_und hT), run_sizeOf hE, subV, lenV, hs.eval hy, hs.eval hz, h1, h2]
theorem V.sub3 {T E : TypeId} {x y z u : Operand} {v : Value} {E' m : Nat} {e : Enc α} {xs : List α} {l h q : Int} {k k' k'' : IntKind} (i : Nat) (hes : es[i]? = some (.rowE v E' e xs)) (hl : inS l h xs.length = true) (hq : q = xs.length) (ho : o.op = .slice T x (some y) (some z) (some u)) (hx : ev ps x = some v) (hy : ev ps y = some (.int k l)) (hz : ev ps z = some (.int k' h)) (hu : ev ps u = some (.int k'' q))
    (hT : slE P T = some E) (hE : sizeP P E = some m) : ∃ r, ∀ w, Own M w0 w es → ∀ a, Sees N a ps → (execOp a.eval o).run P w = .ok (.value r) w := by
  subst hq
  have hb := inS_iff.1 hl
  refine ⟨match v with
    | .slice a _ c => .slice (if xs.length = l.toNat then a else a.map (·.add (l.toNat * m))) (h.toNat - l.toNat) (xs.length - l.toNat)
    | _ => undef, fun w how a hs => ?_⟩
  obtain ⟨A, c, rfl, hc⟩ := (Sl.ofRow (M' := []) (how.at hes) (by simp)).len
  have h0 := run_bound (P := P) (i := (xs.length : Int)) (k := k'') (n := c) (c := .slice3Acap) (by omega) (by omega) w
  have h1 := run_bound (P := P) (i := h) (k := k') (n := xs.length) (c := .slice3B) (by omega) (by omega) w
  have h2 := run_bound (P := P) (i := l) (k := k) (n := h.toNat) (c := .slice3C) (by omega) (by omega) w
  simp only [Int.toNat_natCast] at h0
  simp [execOp, ho, hs.eval hx, Instr.slice, Instr.sliceAt, Instr.sliceBounds, run_underlying (slE_und hT), run_sizeOf hE, hs.eval hy, hs.eval hz, hs.eval hu, h0, h1, h2]
theorem J.sub3 {T E : TypeId} {x y z u : Operand} {v : Value} {E' m d : Nat} {e : Enc α} {xs : List α} {l h q : Int} {k k' k'' : IntKind} (i : Nat) (hl : inS l h xs.length = true) (hes : es[i]? = some (.rowE v E' e xs)) (hg : o.guard = none) (hd : o.dst = some d) (hN : Nat.blt d N = true) (hq : q = xs.length) (ho : o.op = .slice T x (some y) (some z) (some u)) (hx : ev ps x = some v) (hy : ev ps y = some (.int k l)) (hz : ev ps z = some (.int k' h)) (hu : ev ps u = some (.int k'' q))
    (hT : slE P T = some E) (hE : sizeP P E = some m) (hK : ∀ r, J N M w0 ((d, r) :: ps) es (wpList P ops Q rest)) : J N M w0 ps es (wpList P ops Q (o :: rest)) := by
  obtain ⟨r, hr⟩ := V.sub3 (N := N) (M := M) (w0 := w0) i hes hl hq ho hx hy hz hu hT hE
  exact J.op hg hd hN (fun a w hs how => hr w how a hs) (hK r)

theorem J.apDel {T E d : Nat} {x y : Operand} {v : Value} {e : Enc α} {xs : List α} {l h : Int} {inf : TypeInfo} (i : Nat) (hcap : xs.length ≤ capV v) (h1 : inS 0 l xs.length = true) (h2 : inS h xs.length xs.length = true) (hlh : decide (l ≤ h) = true) (hinf : P.info? E = some inf) (hT : slE P T = some E) (hsz : inf.size = e.sz)
    (hg : o.guard = none) (hd : o.dst = some d) (hN : Nat.blt d N = true) (ho : o.op = .call { callee := .builtin .append, args := #[x, y], argTypes := #[T, T] }) (hx : ev ps x = some (subV e.sz v 0 l)) (hy : ev ps y = some (subV e.sz v h xs.length)) (hi : es[i]? = some (.rowE v E e xs))
    (hK : J N M w0 ((d, lenV v (l.toNat + (xs.length - h.toNat))) :: ps) (es.set i (.rowE (lenV v (l.toNat + (xs.length - h.toNat))) E e (xs.take l.toNat ++ xs.drop h.toNat))) (wpList P ops Q rest)) : J N M w0 ps es (wpList P ops Q (o :: rest)) := fun a w hs how =>
  wpList_plain hg fun K hKK => by
    have hrow : w.ownsRow 0 E e.sz v xs.length (cells e xs) := how.at hi
    have b1 := inS_iff.1 h1
    have b2 := inS_iff.1 h2
    have b3 := of_decide_eq_true hlh
    have hnew : (xs.take l.toNat ++ xs.drop h.toNat).length = l.toNat + (xs.length - h.toNat) := by simp; omega
    rcases hrow.2 with ⟨rfl, hn⟩ | ⟨g, cap, cur, rfl, h0, hb, hnc, hcm, hsz2, htake⟩
    · -- nil
      have hxs : xs = [] := List.length_eq_zero_iff.1 hn
      subst hxs
      have hr : (execOp a.eval o).run P w = .ok (.value (.slice none 0 0)) w := by
        have e1 : l.toNat = 0 := by simp at b1; omega
        have e2 : h.toNat = 0 := by simp at b2; omega
        simp [execOp, ho, resolve, invoke, builtin, hs.eval hx, hs.eval hy, subV, e1, e2, Builtin.append_, run_underlying (slE_und hT), sizeOf, typeInfo, hinf, Builtin.lenOf, Builtin.firstCells]
      unfold Oper.wp
      rw [hr, Oper.upon_value, hd]
      have e1 : l.toNat = 0 := by simp at b1; omega
      have ev9 : lenV (.slice none 0 0) (l.toNat + (([] : List α).length - h.toNat)) = .slice none 0 0 := by simp [lenV, e1]
      have ex9 : (([] : List α).take l.toNat ++ ([] : List α).drop h.toNat) = [] := by simp
      rw [ev9, ex9] at hK
      refine hKK _ _ (hK _ _ (hs.put _ (blt_lt hN)) ?_)
      have e3 : es.set i (.rowE (.slice none 0 0) E e ([] : List α)) = es := by
        apply List.ext_getElem?
        intro j
        rw [List.getElem?_set]
        split
        · rename_i ej; subst ej
          rw [hi]; simp [List.getElem?_eq_some_iff.1 hi |>.1]
        · rfl
      rw [e3]
      exact how
    · have hb2 : (cells e xs).length = xs.length * e.sz := cells_len _ _
      have hcur : ∀ j u, (cells e xs)[j]? = some u → cur[j]? = some u := fun j u hu => by
        rw [← htake, List.getElem?_take] at hu
        split at hu
        · simpa using hu
        · cases hu
      have hlen9 : (cells e (xs.drop h.toNat)).length = (xs.length - h.toNat) * inf.size := by rw [cells_len, hsz]; simp
      -- the two parts' values
      have vx : subV e.sz (.slice (some ⟨g, 0, none⟩) xs.length cap) 0 l = .slice (some ⟨g, 0, none⟩) l.toNat cap := by
        simp only [subV, Int.toNat_zero, Nat.zero_mul, Nat.sub_zero]
        split <;> rfl
      obtain ⟨ad, had, hnews⟩ : ∃ ad, subV e.sz (.slice (some ⟨g, 0, none⟩) xs.length cap) h xs.length = .slice (some ad) (xs.length - h.toNat) (cap - h.toNat) ∧ ∀ j u, (cells e (xs.drop h.toNat))[j]? = some u → w.cell? (ad.add j) = some u := by
        simp only [subV, Int.toNat_natCast]
        by_cases hc : cap = h.toNat
        · rw [if_pos hc]
          refine ⟨_, rfl, fun j u hu => ?_⟩
          have : xs.drop h.toNat = [] := by apply List.drop_of_length_le; omega
          rw [this] at hu; simp [cells] at hu
        · rw [if_neg hc]
          refine ⟨Addr.add ⟨g, 0, none⟩ (h.toNat * e.sz), rfl, fun j u hu => ?_⟩
          rw [add_none, add_none, cell_of_row w g _ cur E (0, 0) hb]
          refine hcur _ u ?_
          rw [← cells_drop, List.getElem?_drop] at hu
          rw [Nat.zero_add]; exact hu
      have hroom : l.toNat + (xs.length - h.toNat) ≤ cap := by omega
      have hml : l.toNat * e.sz + (xs.length - h.toNat) * e.sz ≤ cap * e.sz := by rw [← Nat.add_mul]; exact Nat.mul_le_mul_right _ hroom
      have hfit : l.toNat * inf.size + (cells e (xs.drop h.toNat)).length ≤ cur.size := by rw [hlen9, hsz, hsz2]; exact hml
      have hap := run_append_room (P := P) w T o.type E inf (slE_und hT) hinf g l.toNat cap cur hb ad (xs.length - h.toNat) (cap - h.toNat) _ hlen9 hnews (cells_one e _) hroom hfit
      have hr : (execOp a.eval o).run P w = .ok (.value (.slice (some ⟨g, 0, none⟩) (l.toNat + (xs.length - h.toNat)) cap)) (w.setRow g (cur.toList.take (l.toNat * inf.size) ++ cells e (xs.drop h.toNat) ++ cur.toList.drop (l.toNat * inf.size + (cells e (xs.drop h.toNat)).length)).toArray) := by
        simp only [execOp, ho, resolve, invoke, builtin, List.map_toArray, List.map_cons, List.map_nil, hs.eval hx, hs.eval hy, vx, had, Sem.run_bind, Sem.run_pure, Result.andThen_ok, hap]
      unfold Oper.wp
      rw [hr, Oper.upon_value, hd]
      refine hKK _ _ (hK _ _ (hs.put _ (blt_lt hN)) (Own.turnAt hi how rfl rfl rfl (by simp [World.setRow]) ?_ ?_ ?_))
      · intro k' _ hne
        simp only [World.setRow, Array.getElem?_modify]
        rw [if_neg (fun e => hne (by simp [Ent.foot, Value.ownBlock, e]))]
      · unfold Ent.rowE
        rw [hnew]
        refine ⟨by rw [cells_len, hnew], .inr ⟨g, cap, (cur.toList.take (l.toNat * inf.size) ++ cells e (xs.drop h.toNat) ++ cur.toList.drop (l.toNat * inf.size + (cells e (xs.drop h.toNat)).length)).toArray, rfl, h0, ?_, hroom, hcm, ?_, ?_⟩⟩
        · simp [World.setRow, Array.getElem?_modify, hb]
        · simp only [List.size_toArray, List.length_append, List.length_take, List.length_drop, Array.length_toList, hlen9, hsz2, hsz]
          omega
        · have e1 : cur.toList.take (l.toNat * inf.size) = cells e (xs.take l.toNat) := by
            rw [← cells_take, ← htake, List.take_take, hsz]
            congr 1
            have : l.toNat * e.sz ≤ xs.length * e.sz := Nat.mul_le_mul_right _ (by omega)
            omega
          simp only
          rw [e1, ← cells_append]
          have e2 : (cells e (xs.take l.toNat ++ xs.drop h.toNat)).length = (l.toNat + (xs.length - h.toNat)) * e.sz := by rw [cells_len, hnew]
          rw [← e2, List.take_left']
          rfl
      · intro k hk; exact .inl hk

theorem J.clr {T E : Nat} {x : Operand} {v z : Value} {e : Enc α} {xs : List α} {n : Nat} {l h : Int} {inf : TypeInfo} (i : Nat) (hl : l = n) (hn : xs.length = n) (hcap : h ≤ capV v) (hlh : (n : Int) ≤ h) (hinf : P.info? E = some inf) (hT : slE P T = some E) (hz : inf.zero = some z) (hzc : z.cells = (e.enc e.dflt).toArray) (h0 : Nat.blt 0 e.sz = true)
    (hg : o.guard = none) (hd : o.dst = none) (ho : o.op = .call { callee := .builtin .clear, args := #[x], argTypes := #[T] }) (hx : ev ps x = some (subV e.sz (lenV v n) l h)) (hi : es[i]? = some (.rowE (lenV v n) E e xs))
    (hK : J N M w0 ps es (wpList P ops Q rest)) : J N M w0 ps es (wpList P ops Q (o :: rest)) := fun a w hs how =>
  wpList_plain hg fun K hKK => by
    subst hl
    have hrow : w.ownsRow 0 E e.sz (lenV v n) xs.length (cells e xs) := how.at hi
    by_cases hnh : (n : Int) = h
    · -- nothing to clear
      subst hnh
      obtain ⟨A, c, hv, hc⟩ := (Sl.ofRow (M' := []) (how.at hi) (by simp)).len
      have hr : (execOp a.eval o).run P w = .ok (.value (.tuple #[])) w := by
        rw [hv] at hx
        have : ∀ B q, (Builtin.clear_ #[T] o.type #[.slice B 0 q]).run P w = .ok (.tuple #[]) w := fun B q => by
          cases B <;> simp [Builtin.clear_, run_underlying (slE_und hT)]
        simp only [subV, Int.toNat_natCast, Nat.sub_self] at hx
        simp [execOp, ho, resolve, invoke, builtin, hs.eval hx, this]
      unfold Oper.wp
      rw [hr, Oper.upon_value, hd]
      exact hKK _ _ (hK _ _ (hs.put_none _) how)
    · have hgt : n < h.toNat := by omega
      rcases hrow.2 with ⟨ev0, hn0⟩ | ⟨g, cap, cur, ev1, _, hb, hnc, hcm, hsz2, htake⟩
      · exfalso
        cases v <;> simp [lenV] at ev0
        obtain ⟨rfl, rfl, rfl⟩ := ev0
        simp [capV] at hcap
        omega
      have hcapv : capV v = cap := by cases v <;> simp [lenV] at ev1; simp [capV, ev1.2.2]
      rw [hcapv] at hcap
      rw [ev1] at hx
      have hne : ¬ cap = n := by omega
      have hsp : (n : Int).toNat = n := by simp
      have hszz : z.cells.size = e.sz := by rw [hzc]; simp [e.len]
      have hm : n * e.sz + (h.toNat - n) * e.sz ≤ cap * e.sz := by rw [← Nat.add_mul]; exact Nat.mul_le_mul_right _ (by omega)
      have hzl : ((Builtin.zeroCells z.cells (h.toNat - n)).toList).length = (h.toNat - n) * e.sz := by simp [Builtin.zeroCells, hszz]
      have hone : ∀ u ∈ (Builtin.zeroCells z.cells (h.toNat - n)).toList, u.oneCell' = true := by
        intro u hu
        have e9 : (Builtin.zeroCells z.cells (h.toNat - n)).toList = cells e (List.replicate (h.toNat - n) e.dflt) := by
          rw [← madeCells_dflt hzc (blt_lt h0)]
          simp [Builtin.zeroCells, madeCells, hszz]
        rw [e9] at hu
        exact cells_one e _ u hu
      have hst := run_storeCells_at P g (n * e.sz) E (Builtin.zeroCells z.cells (h.toNat - n)).toList 0 cur w hb (by rw [hzl, hsz2]; omega) hone
      have hzv : zeroP P E = some z := by simp [zeroP, hinf, hz]
      have hr : (execOp a.eval o).run P w = .ok (.value (.tuple #[])) (w.setRow g (cur.toList.take (n * e.sz + 0) ++ (Builtin.zeroCells z.cells (h.toNat - n)).toList ++ cur.toList.drop (n * e.sz + 0 + ((Builtin.zeroCells z.cells (h.toNat - n)).toList).length)).toArray) := by
        obtain ⟨q, hq⟩ : ∃ q, h.toNat - n = q + 1 := ⟨h.toNat - n - 1, by omega⟩
        have hcl : (Builtin.clear_ #[T] o.type #[.slice (some ⟨g, n * e.sz, none⟩) (h.toNat - n) (cap - n)]).run P w = .ok (.tuple #[]) (w.setRow g (cur.toList.take (n * e.sz + 0) ++ (Builtin.zeroCells z.cells (h.toNat - n)).toList ++ cur.toList.drop (n * e.sz + 0 + ((Builtin.zeroCells z.cells (h.toNat - n)).toList).length)).toArray) := by
          rw [hq] at hst ⊢
          simp only [Builtin.clear_, List.getElem?_toArray, List.getElem?_cons_zero, Sem.run_bind, run_underlying (slE_und hT), Result.andThen_ok, run_zero hzv, hst, Sem.run_pure]
        simp only [subV, hsp, if_neg hne, Option.map_some, add_none, Nat.zero_add] at hx
        simp only [execOp, ho, resolve, invoke, builtin, List.map_toArray, List.map_cons, List.map_nil, hs.eval hx, Sem.run_bind, Sem.run_pure, Result.andThen_ok, hcl]
      unfold Oper.wp
      rw [hr, Oper.upon_value, hd]
      refine hKK _ _ (hK _ _ (hs.put_none _) ?_)
      have hset : es.set i (.rowE (lenV v n) E e xs) = es := by
        apply List.ext_getElem?
        intro j
        rw [List.getElem?_set]
        split
        · rename_i ej; subst ej
          rw [hi]; simp [List.getElem?_eq_some_iff.1 hi |>.1]
        · rfl
      rw [← hset]
      refine Own.turnAt hi how rfl rfl rfl (by simp [World.setRow]) ?_ ?_ (fun k hk => .inl hk)
      · intro k' _ hne'
        simp only [World.setRow, Array.getElem?_modify]
        rw [if_neg (fun e' => hne' (mem_foot_row.2 (by rw [ev1, e']; rfl)))]
      · refine ⟨cells_len _ _, .inr ⟨g, cap, (cur.toList.take (n * e.sz + 0) ++ (Builtin.zeroCells z.cells (h.toNat - n)).toList ++ cur.toList.drop (n * e.sz + 0 + ((Builtin.zeroCells z.cells (h.toNat - n)).toList).length)).toArray, ev1, Nat.zero_le _, ?_, hnc, hcm, ?_, ?_⟩⟩
        · simp [World.setRow, Array.getElem?_modify, hb]
        · simp only [List.size_toArray, List.length_append, List.length_take, List.length_drop, Array.length_toList, hzl, hsz2]
          omega
        · simp only [Nat.add_zero]
          have hle9 : n * e.sz ≤ cur.size := by rw [hsz2]; exact Nat.mul_le_mul_right _ (by omega)
          rw [List.append_assoc, List.take_append_of_le_length (by rw [hn, List.length_take, Array.length_toList]; omega), List.take_of_length_le (by rw [hn, List.length_take]; omega), ← hn]
          exact htake

/-! ### A slice literal whose elements have several cells -/

theorem foldl_sets : ∀ (c : List Value) (off k : Nat) (cs : Array Value), off + k + c.length ≤ cs.size →
    ((c.zipIdx k).foldl (fun (cs : Array Value) p => cs.setIfInBounds (off + p.2) p.1) cs).toList = cs.toList.take (off + k) ++ c ++ cs.toList.drop (off + k + c.length)
  | [], off, k, cs, _ => by simp
  | u :: c, off, k, cs, h => by
    simp only [List.length_cons] at h
    simp only [List.zipIdx_cons, List.foldl_cons]
    rw [foldl_sets c off (k + 1) _ (by simp; omega)]
    have hlt : off + k < cs.toList.length := by simp; omega
    simp only [Array.toList_setIfInBounds, List.length_cons]
    rw [List.take_set, List.drop_set_of_lt (by omega), show off + (k + 1) = off + k + 1 by omega, List.take_add_one]
    rw [List.set_append_right _ _ (by simp only [List.length_take]; exact Nat.min_le_left _ _), List.getElem?_eq_getElem hlt]
    simp only [List.length_take, Option.toList_some, Nat.min_eq_left (Nat.le_of_lt hlt), Nat.sub_self, List.set_cons_zero]
    simp [Nat.add_comm, Nat.add_left_comm]

theorem fill_all (e : Enc α) : ∀ (xs : List α) (vs : List Value) (k : Nat) (cs : Array Value), vs.map Value.cells = xs.map (fun x => (e.enc x).toArray) → k * e.sz + xs.length * e.sz = cs.size →
    Instr.fill (fun i => some (i * e.sz, e.sz)) cs ((List.range' k xs.length).zip vs) = some (cs.toList.take (k * e.sz) ++ cells e xs).toArray
  | [], vs, k, cs, _, h => by
    have : cs.toList.take (k * e.sz) = cs.toList := List.take_of_length_le (by simp at h; simp; omega)
    simp [Instr.fill, cells, this]
  | x :: xs, [], k, cs, hv, _ => by simp at hv
  | x :: xs, v :: vs, k, cs, hv, h => by
    simp only [List.map_cons, List.cons.injEq] at hv
    have hl := e.len x
    simp only [List.length_cons, Nat.add_mul, Nat.one_mul] at h
    simp only [List.length_cons, List.range'_succ, List.zip_cons_cons, Instr.fill, hv.1, List.size_toArray, hl]
    rw [if_neg (by simp; omega)]
    have hz : ((e.enc x).toArray.zipIdx.foldl (fun (cs : Array Value) (p : Value × Nat) => cs.setIfInBounds (k * e.sz + p.2) p.1) cs).toList = cs.toList.take (k * e.sz) ++ e.enc x ++ cs.toList.drop (k * e.sz + e.sz) := by
      have := foldl_sets (e.enc x) (k * e.sz) 0 cs (by omega)
      rw [hl, Nat.add_zero] at this
      rw [← this]
      simp
    have hsz : ((e.enc x).toArray.zipIdx.foldl (fun (cs : Array Value) (p : Value × Nat) => cs.setIfInBounds (k * e.sz + p.2) p.1) cs).size = cs.size := by
      rw [← Array.length_toList, hz]
      simp only [List.length_append, List.length_take, List.length_drop, Array.length_toList, hl]
      omega
    have ih := fill_all e xs vs (k + 1) _ hv.2 (by rw [hsz, Nat.add_mul, Nat.one_mul]; omega)
    refine ih.trans ?_
    rw [hz, cells_cons, Nat.add_mul, Nat.one_mul]
    have e1 : (cs.toList.take (k * e.sz) ++ e.enc x).length = k * e.sz + e.sz := by
      simp only [List.length_append, List.length_take, Array.length_toList, hl]; omega
    rw [← e1, List.take_left', List.append_assoc]
    rfl

theorem cells_single (e : Enc α) (x : α) : e.enc x = cells e [x] := by simp [cells]

theorem J.bsN {d : Nat} {T E : TypeId} {n : Nat} {l : List (Nat × Operand)} {vs : List Value} {e : Enc α} {inf : TypeInfo} {z : Value} (xs : List α) (hinf : P.info? E = some inf) (hT : slE P T = some E) (hz : inf.zero = some z) (hsz : inf.size = e.sz) (hzc : z.cells = (e.enc e.dflt).toArray) (h0 : Nat.blt 0 e.sz = true) (hn : Nat.ble (xs.length * e.sz) 16777216 = true) (hn0 : Nat.blt 0 xs.length = true)
    (hg : o.guard = none) (hd : o.dst = some d) (hN : Nat.blt d N = true) (ho : o.op = .buildSlice T n l.toArray) (hln : n = xs.length) (hl : evs ps (l.map (·.2)) = some vs) (hi : l.map (·.1) = List.range' 0 xs.length) (hc : vs.map Value.cells = xs.map fun x => (e.enc x).toArray)
    (h : ∀ b, J N M w0 ((d, .slice (some ⟨b, 0, none⟩) n n) :: ps) (.blk b (cells e xs) E :: es) (wpList P ops Q rest)) : J N M w0 ps es (wpList P ops Q (o :: rest)) := fun a w hs how =>
  wpList_plain hg fun K hK => by
    subst hln
    have h1 : (l.map fun q => (q.1, a.eval q.2)) = (l.map (·.1)).zip vs := by
      rw [← hs.evals hl, List.map_map]
      clear hl ho hi
      induction l with
      | nil => rfl
      | cons q l ih => simp [ih]
    have h2 : (l.toArray.map fun q => (q.1, a.eval q.2)) = ((l.map (·.1)).zip vs).toArray := by simp [← h1]
    have hsp := blt_lt h0
    have hnp := blt_lt hn0
    have hzs : z.cells.size = e.sz := by rw [hzc]; simp [e.len]
    have hle := Nat.le_of_ble_eq_true hn
    have hne : ¬ xs.length * e.sz = 0 := by have := Nat.mul_pos hnp hsp; omega
    have hfill := fill_all e xs vs 0 ((Array.range (xs.length * e.sz)).map (z.cells[· % z.cells.size]!)) hc (by simp)
    rw [Nat.zero_mul, List.take_zero, List.nil_append] at hfill
    have hb : (Instr.buildSlice T xs.length ((l.map (·.1)).zip vs).toArray).run P w = .ok (.slice (some ⟨w.heap.size, 0, none⟩) xs.length xs.length) (w.alloc (.cells (cells e xs).toArray E)) := by
      rw [hi]
      simp only [Instr.buildSlice, Sem.run_bind, run_underlying (slE_und hT), Result.andThen_ok, sizeOf, typeInfo, hinf, hsz]
      simp [zeroValue, typeInfo, hinf, hz, hne, hfill, newRow, newObj]
      simp [hsz, hne, hfill, Nat.not_lt.2 hle]
      rfl
    have hr' : (execOp a.eval o).run P w = .ok (.value (.slice (some ⟨w.heap.size, 0, none⟩) xs.length xs.length)) (w.alloc (.cells (cells e xs).toArray E)) := by
      simp only [execOp, ho]
      rw [h2]
      simp [hb]
    unfold Oper.wp
    rw [hr', Oper.upon_value, hd]
    exact hK _ _ (h _ _ _ (hs.put _ (blt_lt hN)) (how.alloc _ E))

theorem J.bs1 {d : Nat} {T E : TypeId} {l : List (Nat × Operand)} {vs : List Value} {e : Enc α} {inf : TypeInfo} {z : Value} (x : α) (hinf : P.info? E = some inf) (hT : slE P T = some E) (hz : inf.zero = some z) (hsz : inf.size = e.sz) (hzc : z.cells = (e.enc e.dflt).toArray) (h0 : Nat.blt 0 e.sz = true) (hn : Nat.ble (1 * e.sz) 16777216 = true)
    (hg : o.guard = none) (hd : o.dst = some d) (hN : Nat.blt d N = true) (ho : o.op = .buildSlice T 1 l.toArray) (hl : evs ps (l.map (·.2)) = some vs) (hi : l.map (·.1) = [0]) (hc : vs.map Value.cells = [(e.enc x).toArray])
    (h : ∀ b, J N M w0 ((d, .slice (some ⟨b, 0, none⟩) 1 1) :: ps) (.blk b (e.enc x) E :: es) (wpList P ops Q rest)) : J N M w0 ps es (wpList P ops Q (o :: rest)) :=
  J.bsN (e := e) [x] hinf hT hz hsz hzc h0 hn rfl hg hd hN ho rfl hl hi hc fun b => by rw [← cells_single]; exact h b

end
end G
end Go.Proofs.YtadggddaheipgaaDoor
