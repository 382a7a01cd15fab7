/-
  Sl, sixth part: make, append, slicing. Any program.
-/
import Derived.Test.YteomgcebbjoklaaSlE
namespace Go.Sl
open Go
set_option linter.unusedVariables false
universe u

variable {td td' : TypeDesc} {kk bb : Nat} {zc : List Value}

def rep (m : Nat) (z : List Value) : List Value := (List.range (m * z.length)).map fun i => z[i % z.length]!
theorem rep_one (m : Nat) (x : Value) : rep m [x] = List.replicate m x := by
  refine List.ext_getElem? fun i => ?_
  simp only [rep, List.length_singleton, Nat.mul_one, List.getElem?_map, List.getElem?_replicate]
  by_cases h : i < m
  · simp [h, Nat.mod_one]
  · simp [h]
theorem rep_length (m : Nat) (z : List Value) : (rep m z).length = m * z.length := by simp [rep]

/-- Cells put one behind the other. -/
def putL : List Value → Nat → List Value → List Value
  | xs, _, [] => xs
  | xs, o, u :: us => putL (xs.set o u) (o + 1) us
theorem putL_append : ∀ (us p q : List Value), us.length ≤ q.length → putL (p ++ q) p.length us = p ++ (us ++ q.drop us.length)
  | [], p, q, _ => by simp [putL]
  | u :: us, p, q, h => by
    cases q with
    | nil => simp at h
    | cons q0 q =>
      have ih := putL_append us (p ++ [u]) q (by simpa using h)
      simp only [List.length_append, List.length_cons, List.length_nil, Nat.zero_add, List.append_assoc, List.cons_append, List.nil_append] at ih
      simp only [putL]
      rw [List.set_append_right _ _ (Nat.le_refl _)]
      simp only [Nat.sub_self, List.set_cons_zero, List.length_cons, List.drop_succ_cons, List.cons_append]
      exact ih

/-- A slice's value. -/
structure SV where
  a : Option Addr
  n : Nat
  c : Nat
abbrev SV.v (x : SV) : Value := .slice x.a x.n x.c

section
variable {P : Program} {g : Gh} {w : World} {R : HP}
theorem run_storeCells {b : Nat} : ∀ (us xs : List Value) (o i : Nat) (w : World), (∀ u ∈ us, u.oneCell' = true) → o + i + us.length ≤ xs.length → St g w (cl b xs * R) →
    ∃ w', (storeCells ⟨b, o, none⟩ us i).run P w = .ok () w' ∧ St g w' (cl b (putL xs (o + i) us) * R)
  | [], xs, o, i, w, _, _, hs => ⟨w, rfl, hs⟩
  | u :: us, xs, o, i, w, h1, hl, hs => by
    simp only [List.length_cons] at hl
    obtain ⟨⟨u0, hu0⟩, hf, hs'⟩ := hs.store (wr_cl (b := b) (cs := xs) (o := o + i) (v := u) (by omega))
    have hst := run_store P w ⟨b, o + i, none⟩ u .plain (h1 u (by simp))
    simp only [hu0, hf] at hst
    obtain ⟨w', hr, hs''⟩ := run_storeCells us (xs.set (o + i) u) o (i + 1) _ (fun x hx => h1 x (by simp [hx])) (by simp; omega) hs'
    refine ⟨w', ?_, by simpa [putL, Nat.add_assoc] using hs''⟩
    simp only [storeCells, addr_add, Sem.run_bind, hst]
    simpa using hr
end

section
variable {P : Program} {r : Option Nat} {n : Nat} {Q : PostT} {ρ : Env} {ds : List Deferred} {H R A : HP} {all rest : List Oper} {d : Option Nat} {t t' T e : TypeId} {pos : String} {aft : Array Edge} {v v2 u : Value} {x y z : Operand}
  {k k' : IntKind} {s m cap n2 : Nat} {i : Int} {cs cs2 : List Value} {ts : Array TypeId}

/-- An operation whose value the heap's word tells. -/
theorem Ow.value_ex {op : Op} {α : Type u} {f : α → Value} {H' : α → HP} (hd : dOk n d = true) (hdf : ∀ c, op ≠ .defer c)
    (hrun : ∀ g w a, Rep n ρ a → St g w H → ∃ b w', (execOp a.eval ⟨d, op, t, pos, aft, none⟩).run P w = .ok (.value (f b)) w' ∧ St g w' (H' b))
    (h : ∀ b, Ow P r n all rest Q (putE d (f b) ρ) ds (H' b)) : Ow P r n all (⟨d, op, t, pos, aft, none⟩ :: rest) Q ρ ds H := by
  intro g w a hr hds hs
  obtain ⟨b, w', h1, h2⟩ := hrun g w a hr hs
  simp only [wpListIn, Region.wanted, if_true, Oper.wpIn]
  refine ⟨fun _ _ => trivial, ?_⟩
  rw [semAt_eq (o := ⟨d, op, t, pos, aft, none⟩) hdf, h1]
  exact h b g w' _ (hr.putE hd _) (by cases d <;> exact hds) h2
theorem Ow.builtin_ex {b : Builtin} {xs : List Operand} {vs : List Value} {α : Type u} {f : α → Value} {H' : α → HP} (hd : dOk n d = true) (hxs : Evs ρ xs vs)
    (hrun : ∀ g w, St g w H → ∃ q w', (∀ consts, (Go.builtin b ts t consts vs.toArray).run P w = .ok (.value (f q)) w') ∧ St g w' (H' q))
    (h : ∀ q, Ow P r n all rest Q (putE d (f q) ρ) ds (H' q)) : Ow P r n all (⟨d, .call { callee := .builtin b, args := xs.toArray, argTypes := ts }, t, pos, aft, none⟩ :: rest) Q ρ ds H :=
  Ow.value_ex hd (by simp) (fun g w a hr hs => by
    obtain ⟨q, w', h1, h2⟩ := hrun g w hs
    refine ⟨q, w', ?_, h2⟩
    have hm : Array.map a.eval xs.toArray = vs.toArray := by rw [← Evs.eval hr hxs]; simp
    simp only [execOp, resolve, Sem.run_bind, hm]
    simp only [Sem.run_pure, Result.andThen_ok, invoke]
    exact h1 _) h

theorem madeCells_rep (m : Nat) (z : Value) (hz : z.cells = zc.toArray) (hk : zc.length = kk) : madeCells z.cells (m * kk) = (rep m zc).toArray := by
  rw [← Array.toList_inj]
  simp [madeCells, rep, hz, hk, Array.toList_range]

theorem Ow.makeSlice [TT : TyU P T (.slice e)] [S : TyS P e kk bb zc] {m : Nat} (hd : dOk n d = true) (hx : ev ρ x = some (.int k (m : Int))) (hy : ev ρ y = some (.int k' (m : Int))) (hm : bb * m ≤ 281474976710656 ∧ m ≤ 9223372036854775807) (hz : zc.length = kk)
    (h : ∀ v : SV, Ow P r n all rest Q (putE d v.v ρ) ds (slk kk v.v (rep m zc) * H)) :
    Ow P r n all (⟨d, .makeSlice T x y, t, pos, aft, none⟩ :: rest) Q ρ ds H :=
  Ow.value_ex (α := SV) (f := fun v => v.v) (H' := fun v => slk kk v.v (rep m zc) * H) hd (by simp) (fun g w a hr hs => by
    obtain ⟨i, zv, h1, h2, h3, h4, h5⟩ := S.get
    have h6 : ((bb * m : Nat) : Int) ≤ 281474976710656 := by omega
    rw [Int.natCast_mul] at h6
    have hr' := run_make (P := P) w T e i zv TT.h h1 h4 k k' m m (by omega) (by omega) (by rw [h3]; exact h6) (by omega)
    rw [h2, Int.toNat_natCast, madeCells_rep m zv h5 hz] at hr'
    refine ⟨⟨(Option.some ⟨w.heap.size, 0, none⟩), m, m⟩, _, ?_, (hs.new_cl (rep m zc) e).mono (Ent.left (slk_mk0 (by rw [rep_length, hz])))⟩
    simp only [execOp, ev_eval hr hx, ev_eval hr hy, Sem.run_bind, hr', Result.andThen_ok]
    rfl) h

/-- v2 is a slice of n2 elements whose cells A lets read: cs2. -/
def RdSl (A : HP) (s : Nat) (v2 : Value) (n2 : Nat) (cs2 : List Value) : Prop := cs2.length = n2 * s ∧ ∀ g w R, St g w (A * R) →
  (v2 = .slice none 0 0 ∧ n2 = 0) ∨ ∃ a c, v2 = .slice (some a) n2 c ∧ ∀ j u, cs2[j]? = some u → w.cell? (a.add j) = some u
theorem RdSl.of_pk {A R' : HP} (h : RdSl A s v n2 cs2) (hp : Pk R A R') : RdSl R s v n2 cs2 := ⟨h.1, fun g w X hs => h.2 g w (R' * X) (by unfold Pk at hp; rw [hp, star_assoc] at hs; exact hs)⟩
theorem rdSl_slk (h : cs2.length = n2 * s) (hs0 : 0 < s) : RdSl (slk s v cs2) s v n2 cs2 := ⟨h, fun g w X hs => by
  rcases slk_cases hs with ⟨rfl, rfl, _⟩ | ⟨b, pre, jk, m', c, rfl, h2, _, _, h5⟩
  · left; refine ⟨rfl, ?_⟩
    rcases Nat.eq_zero_or_pos n2 with h0 | h0
    · exact h0
    · have := Nat.mul_pos h0 hs0; simp at h; omega
  · right
    have : m' = n2 := Nat.eq_of_mul_eq_mul_right hs0 (h2.symm.trans h)
    subst this
    refine ⟨_, c, rfl, fun j u hj => ?_⟩
    rw [addr_add]
    have hlt := (List.getElem?_eq_some_iff.1 hj).1
    exact h5.cell pk0 (rd_cl (by rw [List.getElem?_append_right (by omega), List.getElem?_append_left (by omega)]; simpa using hj))⟩
theorem rdSl_cl {b : Nat} (h : cs2.length = n2 * s) : RdSl (cl b cs2) s (.slice (some ⟨b, 0, none⟩) n2 cap) n2 cs2 := ⟨h, fun g w X hs => .inr ⟨_, _, rfl, fun j u hj => by
  rw [addr_add, Nat.zero_add]; exact hs.cell pk0 (rd_cl hj)⟩⟩

theorem Ow.append [TT : TyU P T (.slice e)] [S : TyS P e s bb zc] {m : Nat} (hd : dOk n d = true) (hx : ev ρ x = some v) (hy : ev ρ y = some v2) (hp : Pk H (slk s v cs) R) (hq : RdSl R s v2 n2 cs2)
    (hone : ∀ u ∈ cs2, u.oneCell' = true) (hm : cs.length = m * s) (hs0 : 0 < s) (hz : zc.length = s) (hbytes : (m + n2) * bb ≤ 140737488355328 ∧ m + n2 ≤ 9223372036854775807)
    (h : ∀ v' : SV, Ow P r n all rest Q (putE d v'.v ρ) ds (slk s v'.v (cs ++ cs2) * R)) :
    Ow P r n all (⟨d, .call { callee := .builtin .append, args := #[x, y], argTypes := #[T, T] }, t, pos, aft, none⟩ :: rest) Q ρ ds H :=
  Ow.builtin_ex (xs := [x, y]) (vs := [v, v2]) (α := SV) (f := fun v => v.v) (H' := fun v => slk s v.v (cs ++ cs2) * R) hd ⟨hx, hy, trivial⟩ (fun g w hst => by
    unfold Pk at hp
    subst hp
    obtain ⟨i, zv, h1, h2, h3, h4, h5⟩ := S.get
    have hap : ∀ {q : Value} {w' : World}, (Builtin.append_ #[T, T] t #[v, v2]).run P w = .ok q w' → ∀ consts, (Go.builtin .append #[T, T] t consts [v, v2].toArray).run P w = .ok (.value q) w' := fun hr c => by
      simp [Go.builtin, hr]
    have hzs : zv.cells.size = s := by rw [h5]; simpa using hz
    have grown : ∀ (old : Nat), ∃ jk, (cs.toArray ++ cs2.toArray ++ Builtin.zeroCells zv.cells (grownCap w (m + n2) old e - (m + n2))) = (([] : List Value) ++ ((cs ++ cs2) ++ jk)).toArray ∧ jk.length = (grownCap w (m + n2) old e - (m + n2)) * s := fun old =>
      ⟨(Builtin.zeroCells zv.cells (grownCap w (m + n2) old e - (m + n2))).toList, by apply Array.ext'; simp, by simp [Builtin.zeroCells, hzs]⟩
    have hlen : (cs ++ cs2).length = (m + n2) * s := by rw [List.length_append, hm, hq.1, Nat.add_mul]
    have fin : ∀ (old : Nat) (w1 : World) (jk : List Value), St g w1 (cl w.heap.size (([] : List Value) ++ ((cs ++ cs2) ++ jk)) * R) → jk.length = (grownCap w (m + n2) old e - (m + n2)) * s →
        St g w1 (slk s (.slice (Option.some ⟨w.heap.size, 0, none⟩) (m + n2) (grownCap w (m + n2) old e)) (cs ++ cs2) * R) := fun old w1 jk hs1 hj => by
      have hge := grownCap_ge w (m + n2) old e
      refine hs1.mono (Ent.left ?_)
      refine slk_mk (pre := []) hlen hge ?_
      rw [hlen, hj, ← Nat.add_mul]
      exact Nat.mul_le_mul_right _ (by omega)
    rcases slk_cases hst with ⟨rfl, rfl, hst'⟩ | ⟨b, pre, jk, m', c, rfl, g2, g3, g4, hst'⟩
    · have hm0 : m = 0 := by
        rcases Nat.eq_zero_or_pos m with h0 | h0
        · exact h0
        · have := Nat.mul_pos h0 hs0; simp at hm; omega
      subst hm0
      rcases hq.2 g w emp (by rw [star_emp]; exact hst') with ⟨rfl, rfl⟩ | ⟨a, c2, rfl, hc2⟩
      · have : cs2 = [] := List.eq_nil_of_length_eq_zero (by simpa using hq.1)
        subst this
        refine ⟨⟨none, 0, 0⟩, w, hap ?_, hst⟩
        simp [Builtin.append_, run_under, sizeOf, typeInfo, h1, Builtin.lenOf, Builtin.firstCells]
      · by_cases h0 : n2 = 0
        · subst h0
          have : cs2 = [] := List.eq_nil_of_length_eq_zero (by simpa using hq.1)
          subst this
          refine ⟨⟨none, 0, 0⟩, w, hap ?_, hst⟩
          simp [Builtin.append_, run_under, sizeOf, typeInfo, h1, Builtin.lenOf, Builtin.firstCells, loadCells, loadCellsFrom]
        · have hr := run_append_nil (P := P) w T t e i zv TT.h h1 h4 a n2 c2 cs2 (by rw [h2]; exact hq.1) hc2 (by omega) (by omega) (by rw [h3]; have hb := hbytes.1; simp only [Nat.zero_add] at hb; omega)
          obtain ⟨jk, e1, e2⟩ := grown 0
          simp only [Nat.zero_add, List.nil_append, Array.empty_append] at e1 e2 fin
          rw [e1] at hr
          refine ⟨⟨_, _, _⟩, _, hap hr, ?_⟩
          exact fin 0 _ jk ((St.drew (w := w) (w.drawn + 1) hst').new_cl (cs2 ++ jk) e) e2
    · have hmm : m' = m := Nat.eq_of_mul_eq_mul_right hs0 (g2.symm.trans hm)
      subst hmm
      have holds : ∀ j u, cs[j]? = Option.some u → w.cell? ((⟨b, pre.length, none⟩ : Addr).add j) = Option.some u := fun j u hj => by
        rw [addr_add]
        have hlt := (List.getElem?_eq_some_iff.1 hj).1
        exact hst'.cell pk0 (rd_cl (by rw [List.getElem?_append_right (by omega), List.getElem?_append_left (by omega)]; simpa using hj))
      have hR : St g w (R * cl b (pre ++ (cs ++ jk))) := by rw [star_comm]; exact hst'
      by_cases hroom : m' + n2 ≤ c
      · have hfit : (cs ++ cs2).length ≤ cs.length + jk.length := by rw [hlen]; exact Nat.le_trans (Nat.mul_le_mul_right _ hroom) g4
        have hfit2 : cs2.length ≤ jk.length := by simp at hfit; omega
        have hsc := run_storeCells (P := P) (g := g) (R := R) (b := b) cs2 (pre ++ (cs ++ jk)) (pre.length + cs.length) 0 w hone (by simp; omega) hst'
        obtain ⟨w', hr, hs'⟩ := hsc
        have hput : putL (pre ++ (cs ++ jk)) (pre.length + cs.length + 0) cs2 = pre ++ ((cs ++ cs2) ++ jk.drop cs2.length) := by
          have := putL_append cs2 (pre ++ cs) jk hfit2
          simpa [List.append_assoc] using this
        rw [hput] at hs'
        refine ⟨⟨(Option.some ⟨b, pre.length, none⟩), (m' + n2), c⟩, w', hap ?_, hs'.mono (Ent.left (slk_mk hlen hroom (by simp; omega)))⟩
        have hfirst : (Builtin.firstCells s n2 v2).run P w = .ok cs2.toArray w := by
          rcases hq.2 g w _ hR with ⟨rfl, rfl⟩ | ⟨a, c2, rfl, hc2⟩
          · have : cs2 = [] := List.eq_nil_of_length_eq_zero (by simpa using hq.1)
            subst this
            exact run_firstCells_none w s 0 0 0
          · exact run_firstCells_some (P := P) w s n2 a n2 c2 cs2 hq.1 hc2
        have hlenof : (Builtin.lenOf v2).run P w = .ok n2 w := by
          rcases hq.2 g w _ hR with ⟨rfl, rfl⟩ | ⟨a, c2, rfl, hc2⟩ <;> rfl
        have hadd : (⟨b, pre.length, none⟩ : Addr).add (m' * s) = ⟨b, pre.length + cs.length, none⟩ := by rw [addr_add, g2]
        simp [Builtin.append_, run_under, sizeOf, typeInfo, h1, h2, hlenof, hroom, hfirst, hadd, hr]
      · rcases hq.2 g w _ hR with ⟨rfl, rfl⟩ | ⟨a, c2, rfl, hc2⟩
        · omega
        · have hr := run_append_grow (P := P) w T t e i zv TT.h h1 h4 ⟨b, pre.length, none⟩ m' c cs (by rw [h2]; exact hm) holds a n2 c2 cs2 (by rw [h2]; exact hq.1) hc2 (by omega) (by omega) (growslice_fits (by omega) (by rw [h3]; exact hbytes.1))
          obtain ⟨jk', e1, e2⟩ := grown c
          rw [e1] at hr
          refine ⟨⟨_, _, _⟩, _, hap hr, ?_⟩
          exact fin c _ jk' ((St.drew (w := w) (w.drawn + 1) hR.left).new_cl _ e) e2) h

/-- The front of a slice. -/
theorem Ow.slice_front [TT : TyU P T (.slice e)] [S : TyS P e s bb zc] {m : Nat} {hi : Nat} (hd : dOk n d = true) (hx : ev ρ x = some v) (hy : ev ρ y = some (.int k (hi : Int))) (hp : Pk H (slk s v cs) R) (hm : cs.length = m * s) (hs0 : 0 < s) (hle : hi ≤ m)
    (h : ∀ v' : SV, Ow P r n all rest Q (putE d v'.v ρ) ds (slk s v'.v (cs.take (hi * s)) * R)) :
    Ow P r n all (⟨d, .slice T x none (some y) none, t, pos, aft, none⟩ :: rest) Q ρ ds H :=
  Ow.value_ex (α := SV) (f := fun v => v.v) (H' := fun v => slk s v.v (cs.take (hi * s)) * R) hd (by simp) (fun g w a hr hst => by
    unfold Pk at hp
    subst hp
    rcases slk_cases hst with ⟨rfl, rfl, hst'⟩ | ⟨b, pre, jk, m', c, rfl, g2, g3, g4, hst'⟩
    · have hm0 : m = 0 := by
        rcases Nat.eq_zero_or_pos m with h0 | h0
        · exact h0
        · have := Nat.mul_pos h0 hs0; simp at hm; omega
      have hhi : hi = 0 := by omega
      subst hhi
      refine ⟨⟨none, 0, 0⟩, w, ?_, by simpa using hst⟩
      simp [execOp, ev_eval hr hx, ev_eval hr hy, Instr.sliceAt, Instr.slice, run_under, Instr.sliceBounds, Instr.sliceBound, asIntOf, run_size]
    · have hmm : m' = m := Nat.eq_of_mul_eq_mul_right hs0 (g2.symm.trans hm)
      subst hmm
      have hle' : hi ≤ c := by omega
      refine ⟨⟨(Option.some ⟨b, pre.length, none⟩), hi, c⟩, w, ?_, hst'.mono (Ent.left ?_)⟩
      · simp [execOp, ev_eval hr hx, ev_eval hr hy, Instr.sliceAt, Instr.slice, run_under, Instr.sliceBounds, Instr.sliceBound, asIntOf, run_size, hle', Addr.add]
      · have e1 : cs ++ jk = cs.take (hi * s) ++ (cs.drop (hi * s) ++ jk) := by rw [← List.append_assoc, List.take_append_drop]
        rw [e1]
        have hle2 : hi * s ≤ cs.length := by rw [hm]; exact Nat.mul_le_mul_right _ hle
        refine slk_mk (by simp; omega) hle' ?_
        simp
        omega) h
end
end Go.Sl
