/- Maps with integers as keys. -/
import Derived.Test.YteomgcebbjoklaaSlN
namespace Go.Sl
open Go
set_option linter.unusedVariables false
set_option linter.unusedSimpArgs false
universe u
def lookA : List (Int × Value) → Int → Option Value
  | [], _ => none
  | p :: l, a => if a = p.1 then some p.2 else lookA l a
def setA : List (Int × Value) → Int → Value → List (Int × Value)
  | [], a, v => [(a, v)]
  | p :: l, a, v => if a = p.1 then (a, v) :: l else p :: setA l a v
def delA : List (Int × Value) → Int → List (Int × Value)
  | [], _ => []
  | p :: l, a => if a = p.1 then l else p :: delA l a
/-- The place of a key. -/
def posA : List (Int × Value) → Int → Nat → Option (Nat × Value)
  | [], _, _ => none
  | p :: l, a, i => if a = p.1 then some (i, p.2) else posA l a (i + 1)
theorem posA_val : ∀ (l : List (Int × Value)) (a : Int) (i : Nat), (posA l a i).map (·.2) = lookA l a
  | [], _, _ => rfl
  | p :: l, a, i => by
    unfold posA lookA
    split
    · rfl
    · exact posA_val l a (i + 1)
theorem posA_some : ∀ (l : List (Int × Value)) (a : Int) (i j : Nat) (v : Value), posA l a i = some (j, v) → ∃ l1 l2, l = l1 ++ (a, v) :: l2 ∧ j = i + l1.length ∧ (∀ w, setA l a w = l1 ++ (a, w) :: l2) ∧ delA l a = l1 ++ l2
  | [], _, _, _, _, h => by cases h
  | p :: l, a, i, j, v, h => by
    unfold posA at h
    split at h
    · rename_i e
      cases h
      refine ⟨[], l, by rw [e]; rfl, rfl, fun w => by simp [setA, e], by simp [delA, e]⟩
    · rename_i e
      obtain ⟨l1, l2, h1, h2, h3, h4⟩ := posA_some l a (i + 1) j v h
      exact ⟨p :: l1, l2, by rw [h1]; rfl, by simp; omega, fun w => by simp [setA, e, h3], by simp [delA, e, h4]⟩
theorem posA_none : ∀ (l : List (Int × Value)) (a : Int) (i : Nat), posA l a i = none → (∀ w, setA l a w = l ++ [(a, w)]) ∧ delA l a = l
  | [], _, _, _ => ⟨fun _ => rfl, rfl⟩
  | p :: l, a, i, h => by
    unfold posA at h
    split at h
    · cases h
    · rename_i e
      obtain ⟨h1, h2⟩ := posA_none l a (i + 1) h
      exact ⟨fun w => by simp [setA, e, h1], by simp [delA, e, h2]⟩
theorem map_eraseIdx' {α β : Type} (f : α → β) : ∀ (l : List α) (j : Nat), (l.eraseIdx j).map f = (l.map f).eraseIdx j
  | [], _ => by simp
  | x :: l, 0 => by simp
  | x :: l, j + 1 => by simp [map_eraseIdx' f l j]
/-- Block b is a map of these entries. -/
def mpi (k : IntKind) (b : Nat) (l : List (Int × Value)) (x : Array MapEntry × Nat) : HP := fun h => x.1.toList.map (fun e => (e.key, e.val)) = l.map (fun p => (Value.int k p.1, p.2)) ∧ pt b (.map x.1 x.2) h
def mpo (k : IntKind) (b : Nat) (l : List (Int × Value)) : HP := Sl.ex fun x => mpi k b l x
/-- The zero value of a type. -/
class TyZ (P : Program) (t : TypeId) (z : outParam Value) : Prop where
  h : (P.info? t).map (fun i => i.zero) = some (some z)
theorem run_zeroV {P : Program} {t : TypeId} {z : Value} [T : TyZ P t z] {w : World} : (zeroValue t).run P w = .ok z w := by
  have h := T.h
  cases e : P.info? t with
  | none => rw [e] at h; cases h
  | some i =>
    rw [e] at h
    simp at h
    simp [zeroValue, typeInfo, e, h]
section
variable {P : Program} {r : Option Nat} {n : Nat} {Q : PostT} {ρ : Env} {ds : List Deferred} {H R A : HP} {all rest : List Oper} {d : Option Nat} {t t' T kt et : TypeId} {pos : String} {aft : Array Edge} {v z : Value} {x y u : Operand} {k : IntKind} {b : Nat} {l : List (Int × Value)} {a : Int} {ts : Array TypeId}
theorem mpo_get {g : Gh} {w : World} (s : St g w (mpo k b l * R)) : ∃ es c, es.toList.map (fun e => (e.key, e.val)) = l.map (fun p => (Value.int k p.1, p.2)) ∧ w.heap[b]? = some (.map es c) ∧ St g w (pt b (.map es c) * R) := by
  unfold mpo at s
  rw [ex_star] at s
  obtain ⟨⟨es, c⟩, hx⟩ := St.ex.1 s
  have hfact : es.toList.map (fun e => (e.key, e.val)) = l.map (fun p => (Value.int k p.1, p.2)) := by
    obtain ⟨_, _, y, ⟨p, q, _, _, hp, _⟩, _⟩ := hx
    exact hp.1
  have h2 : St g w (pt b (.map es c) * R) := hx.mono (Ent.left (.of_imp fun h hh => hh.2))
  exact ⟨es, c, hfact, h2.get, h2⟩
theorem mpo_put {g : Gh} {w w' : World} {o : Obj} {es : Array MapEntry} {c : Nat} (s : St g w (pt b o * R)) (h1 : w'.os = w.os) (h2 : w'.output = w.output) (hb : w'.heap[b]? = some (.map es c)) (hr : ∀ i, i ≠ b → w'.heap[i]? = w.heap[i]?)
    (he : es.toList.map (fun e => (e.key, e.val)) = l.map (fun p => (Value.int k p.1, p.2))) : St g w' (mpo k b l * R) :=
  (s.put h1 h2 hb hr).mono (Ent.left (.of_imp fun h hh => ⟨(es, c), he, hh⟩))
theorem find_mpo {es : List MapEntry} (he : es.map (fun e => (e.key, e.val)) = l.map (fun p => (Value.int k p.1, p.2))) (i : Nat) : Instr.findNow (.int k) (.int k a) es i = some (posA l a i) := by
  induction l generalizing es i with
  | nil =>
    cases es with
    | nil => rfl
    | cons e es => simp at he
  | cons p l ih =>
    cases es with
    | nil => simp at he
    | cons e es =>
      simp only [List.map_cons, List.cons.injEq, Prod.mk.injEq] at he
      unfold Instr.findNow posA
      rw [he.1.1, he.1.2]
      simp only [Instr.sameNow, if_true]
      by_cases h : a = p.1
      · simp [h]
      · simp only [h, if_false, beq_eq_false_iff_ne.2 h]
        exact ih he.2 (i + 1)
theorem run_checkKey_int [K : TyU P kt (.int k)] {w : World} (em : Bool) : (Instr.checkKey em 10000 kt (.int k a)).run P w = .ok () w := by
  unfold Instr.checkKey
  simp [run_under (P := P) (t := kt)]
theorem run_findKey_int [K : TyU P kt (.int k)] {w : World} {es : List MapEntry} (he : es.map (fun e => (e.key, e.val)) = l.map (fun p => (Value.int k p.1, p.2))) : (Instr.findKey kt (.int k a) es).run P w = .ok (posA l a 0) w := by
  unfold Instr.findKey
  simp [run_under (P := P) (t := kt), find_mpo he]
theorem Pu.lookup [TT : TyU P T (.map kt et)] [K : TyU P kt (.int k)] [Z : TyZ P et z] (hx : ev ρ x = some (.map (some b))) (hy : ev ρ y = some (.int k a)) (hp : Pk H (mpo k b l) R) {v : Value} (hv : (lookA l a).getD z = v) :
    Pu P n ρ H (.lookup T x y false) t v :=
  Pu.mks (by simp) (fun {d pos aft gd g} w a' hr hs => by
    unfold Pk at hp; subst hp
    obtain ⟨es, c, he, hg, hs'⟩ := mpo_get hs
    have hl : (posA l a 0).map (·.2) = lookA l a := posA_val l a 0
    have hf := run_findKey_int (P := P) (kt := kt) (a := a) (w := w) he
    have hlk : (Instr.lookup T (.map (some b)) (.int k a) false).run P w = .ok v w := by
      subst hv
      cases hpos : posA l a 0 with
      | none => rw [hpos] at hl hf; simp [Instr.lookup, run_under (P := P) (t := T), MapKept.run_getObj_map hg, run_checkKey_int (P := P) (kt := kt), hf, run_zeroV (P := P) (t := et), ← hl]
      | some q => rw [hpos] at hl hf; simp [Instr.lookup, run_under (P := P) (t := T), MapKept.run_getObj_map hg, run_checkKey_int (P := P) (kt := kt), hf, ← hl]
    simp [execOp, ev_eval hr hx, ev_eval hr hy, hlk, Result.andThen])
theorem Pu.lookupOk [TT : TyU P T (.map kt et)] [K : TyU P kt (.int k)] [Z : TyZ P et z] (hx : ev ρ x = some (.map (some b))) (hy : ev ρ y = some (.int k a)) (hp : Pk H (mpo k b l) R) {v : Value} {o : Bool} (hv : (lookA l a).getD z = v) (ho : (lookA l a).isSome = o) :
    Pu P n ρ H (.lookup T x y true) t (.tuple #[v, .bool o]) :=
  Pu.mks (by simp) (fun {d pos aft gd g} w a' hr hs => by
    unfold Pk at hp; subst hp
    obtain ⟨es, c, he, hg, hs'⟩ := mpo_get hs
    have hl : (posA l a 0).map (·.2) = lookA l a := posA_val l a 0
    have hf := run_findKey_int (P := P) (kt := kt) (a := a) (w := w) he
    have hlk : (Instr.lookup T (.map (some b)) (.int k a) true).run P w = .ok (.tuple #[v, .bool o]) w := by
      subst hv; subst ho
      cases hpos : posA l a 0 with
      | none => rw [hpos] at hl hf; simp [Instr.lookup, run_under (P := P) (t := T), MapKept.run_getObj_map hg, run_checkKey_int (P := P) (kt := kt), hf, run_zeroV (P := P) (t := et), ← hl]
      | some q => rw [hpos] at hl hf; simp [Instr.lookup, run_under (P := P) (t := T), MapKept.run_getObj_map hg, run_checkKey_int (P := P) (kt := kt), hf, ← hl]
    simp [execOp, ev_eval hr hx, ev_eval hr hy, hlk, Result.andThen])
theorem Pu.len_map [TT : TyU P T (.map kt et)] (hx : ev ρ x = some (.map (some b))) (hp : Pk H (mpo k b l) R) : Pu P n ρ H (.call { callee := .builtin .len, args := #[x], argTypes := #[T] }) t (.int .i64 l.length) :=
  Pu.builtin (xs := [x]) (vs := [.map (some b)]) ⟨hx, trivial⟩ (fun g w hs c => by
    unfold Pk at hp; subst hp
    obtain ⟨es, cc, he, hg, hs'⟩ := mpo_get hs
    have hsz : es.size = l.length := by have := congrArg List.length he; simpa using this
    simp [Go.builtin, Builtin.len_, run_under (P := P) (t := T), MapKept.run_getObj_map hg, hsz, goInt, Result.andThen])
theorem Ow.makeMap [TT : TyU P T (.map kt et)] [K : TyU P kt (.int k)] (hd : dOk n d = true) (h : ∀ b, Ow P r n all rest Q (putE d (.map (some b)) ρ) ds (mpo k b [] * H)) :
    Ow P r n all (⟨d, .makeMap T none, t, pos, aft, none⟩ :: rest) Q ρ ds H := by
  intro g w a hr hds hs
  simp only [wpListIn, Region.wanted, if_true, Oper.wpIn]
  refine ⟨fun _ _ => trivial, ?_⟩
  have hrun : (execOp a.eval ⟨d, .makeMap T none, t, pos, aft, none⟩).run P w = .ok (.value (.map (some w.heap.size))) { w with heap := w.heap.push (.map #[] 0) } := by
    have h0 : (Instr.makeMap T none).run P w = .ok (.map (some w.heap.size)) { w with heap := w.heap.push (.map #[] 0) } := rfl
    simp [execOp, h0, Result.andThen]
  rw [semAt_eq (o := ⟨d, .makeMap T none, t, pos, aft, none⟩) (by simp), hrun]
  exact h _ g _ _ (hr.putE hd _) (by cases d <;> exact hds) ((hs.alloc (.map #[] 0)).mono (Ent.left (.of_imp fun h hh => ⟨(#[], 0), by simp, hh⟩)))
theorem Ow.mapUpdate [TT : TyU P T (.map kt et)] [K : TyU P kt (.int k)] (hd : dOk n d = true) (hx : ev ρ x = some (.map (some b))) (hy : ev ρ y = some (.int k a)) (hu : ev ρ u = some v) (hp : Pk H (mpo k b l) R)
    (h : Ow P r n all rest Q (putE d undef ρ) ds (mpo k b (setA l a v) * R)) : Ow P r n all (⟨d, .mapUpdate T x y u, t, pos, aft, none⟩ :: rest) Q ρ ds H :=
  Ow.unit hd (by simp) (fun g w a' hr hs => by
    unfold Pk at hp; subst hp
    obtain ⟨es, c, he, hg, hs'⟩ := mpo_get hs
    have hf := run_findKey_int (P := P) (kt := kt) (a := a) (w := w) he
    have hlt : b < w.heap.size := hs'.lt
    cases hpos : posA l a 0 with
    | none =>
      rw [hpos] at hf
      obtain ⟨hset, _⟩ := posA_none l a 0 hpos
      refine ⟨{ w with heap := w.heap.setIfInBounds b (.map (es.push { key := .int k a, val := v, born := c }) (c + 1)) }, ?_, ?_⟩
      · simp [execOp, ev_eval hr hx, ev_eval hr hy, ev_eval hr hu, Instr.mapUpdate, run_under (P := P) (t := T), MapKept.run_getObj_map hg, run_checkKey_int (P := P) (kt := kt), hf, MapKept.run_setObj_map _ hg, Result.andThen]
      · refine mpo_put (es := es.push { key := .int k a, val := v, born := c }) (c := c + 1) hs' rfl rfl (by simp [hlt]) (fun i hi => by simp [Array.getElem?_setIfInBounds_ne (Ne.symm hi)]) ?_
        rw [hset]; simp [he]
    | some q =>
      obtain ⟨j, v0⟩ := q
      rw [hpos] at hf
      obtain ⟨l1, l2, hl, hj, hset, _⟩ := posA_some l a 0 j v0 hpos
      have hlen : es.size = l.length := by have := congrArg List.length he; simpa using this
      have hj' : j = l1.length := by omega
      obtain ⟨e0, he0⟩ : ∃ e0, es[j]? = some e0 := ⟨es[j]'(by rw [hlen, hl, hj']; simp), Array.getElem?_eq_getElem _⟩
      have hk0 : e0.key = .int k a := by
        have h1 : (es.toList.map (fun e => (e.key, e.val)))[j]? = some (e0.key, e0.val) := by rw [List.getElem?_map, Array.getElem?_toList, he0]; rfl
        rw [he, hl, hj', List.map_append, List.getElem?_append_right (by simp)] at h1
        simp at h1; exact h1.1.symm
      have hst : (Instr.keyThatStays (.int k a) (.int k a)).run P w = .ok (.int k a) w := by simp [Instr.keyThatStays, Instr.sameBits]
      refine ⟨{ w with heap := w.heap.setIfInBounds b (.map (es.modify j fun e => { e with key := .int k a, val := v }) c) }, ?_, ?_⟩
      · simp [execOp, ev_eval hr hx, ev_eval hr hy, ev_eval hr hu, Instr.mapUpdate, run_under (P := P) (t := T), MapKept.run_getObj_map hg, run_checkKey_int (P := P) (kt := kt), hf, he0, hk0, hst, MapKept.run_setObj_map _ hg, Result.andThen]
      · refine mpo_put (es := es.modify j fun e => { e with key := .int k a, val := v }) (c := c) hs' rfl rfl (by simp [hlt]) (fun i hi => by simp [Array.getElem?_setIfInBounds_ne (Ne.symm hi)]) ?_
        rw [hset]
        refine List.ext_getElem? fun i => ?_
        have h2 := congrArg (fun q => q[i]?) he
        simp only [List.getElem?_map, Array.getElem?_toList, Array.getElem?_modify, hl] at h2 ⊢
        by_cases e : j = i
        · subst e
          have he0' := he0
          rw [hj'] at he0'
          simp [he0', hj', hk0]
        · simp only [e, if_false, h2]
          by_cases hlt2 : i < l1.length
          · rw [List.getElem?_append_left hlt2, List.getElem?_append_left hlt2]
          · rw [List.getElem?_append_right (by omega), List.getElem?_append_right (by omega)]
            obtain ⟨m, hm⟩ : ∃ m, i - l1.length = m + 1 := ⟨i - l1.length - 1, by omega⟩
            rw [hm, List.getElem?_cons_succ, List.getElem?_cons_succ]) h
theorem Ow.mapDelete [TT : TyU P T (.map kt et)] [K : TyU P kt (.int k)] (hd : dOk n d = true) (hx : ev ρ x = some (.map (some b))) (hy : ev ρ y = some (.int k a)) (hp : Pk H (mpo k b l) R)
    (h : Ow P r n all rest Q (putE d (.tuple #[]) ρ) ds (mpo k b (delA l a) * R)) : Ow P r n all (⟨d, .call { callee := .builtin .delete, args := #[x, y], argTypes := #[T, t'] }, t, pos, aft, none⟩ :: rest) Q ρ ds H :=
  Ow.value hd (by simp) (fun g w a' hr hs => by
    unfold Pk at hp; subst hp
    obtain ⟨es, c, he, hg, hs'⟩ := mpo_get hs
    have hf := run_findKey_int (P := P) (kt := kt) (a := a) (w := w) he
    have hlt : b < w.heap.size := hs'.lt
    cases hpos : posA l a 0 with
    | none =>
      rw [hpos] at hf
      obtain ⟨_, hdel⟩ := posA_none l a 0 hpos
      refine ⟨{ w with heap := w.heap.setIfInBounds b (.map es c) }, ?_, ?_⟩
      · simp [execOp, resolve, ev_eval hr hx, ev_eval hr hy, invoke, Go.builtin, Builtin.delete_, run_under (P := P) (t := T), MapKept.run_getObj_map hg, run_checkKey_int (P := P) (kt := kt), hf, MapKept.run_setObj_map _ hg, Result.andThen]
      · refine mpo_put (es := es) (c := c) hs' rfl rfl (by simp [hlt]) (fun i hi => by simp [Array.getElem?_setIfInBounds_ne (Ne.symm hi)]) ?_
        rw [hdel, he]
    | some q =>
      obtain ⟨j, v0⟩ := q
      rw [hpos] at hf
      obtain ⟨l1, l2, hl, hj, _, hdel⟩ := posA_some l a 0 j v0 hpos
      have hlen : es.size = l.length := by have := congrArg List.length he; simpa using this
      have hj' : j = l1.length := by omega
      have hjl : j < es.size := by rw [hlen, hl, hj']; simp
      refine ⟨{ w with heap := w.heap.setIfInBounds b (.map (es.eraseIdxIfInBounds j) c) }, ?_, ?_⟩
      · simp [execOp, resolve, ev_eval hr hx, ev_eval hr hy, invoke, Go.builtin, Builtin.delete_, run_under (P := P) (t := T), MapKept.run_getObj_map hg, run_checkKey_int (P := P) (kt := kt), hf, MapKept.run_setObj_map _ hg, Result.andThen]
      · refine mpo_put (es := es.eraseIdxIfInBounds j) (c := c) hs' rfl rfl (by simp [hlt]) (fun i hi => by simp [Array.getElem?_setIfInBounds_ne (Ne.symm hi)]) ?_
        rw [hdel, Array.eraseIdxIfInBounds_eq, dif_pos hjl]
        simp only [Array.toList_eraseIdx]
        rw [map_eraseIdx', he, hl, hj', List.map_append, List.eraseIdx_append_of_length_le (by simp)]
        simp) h
theorem Ow.kLookup {o : Bool} (h : Ow P r n all (⟨d, .lookup T x y o, t, pos, aft, none⟩ :: rest) Q ρ ds H) : Ow P r n all (⟨d, .lookup T x y o, t, pos, aft, none⟩ :: rest) Q ρ ds H := h
theorem Pu.kLookup {o : Bool} (h : Pu P n ρ H (.lookup T x y o) t v) : Pu P n ρ H (.lookup T x y o) t v := h
theorem Ow.kMakeMap {q : Option Operand} (h : Ow P r n all (⟨d, .makeMap T q, t, pos, aft, none⟩ :: rest) Q ρ ds H) : Ow P r n all (⟨d, .makeMap T q, t, pos, aft, none⟩ :: rest) Q ρ ds H := h
theorem Ow.kMapUp (h : Ow P r n all (⟨d, .mapUpdate T x y u, t, pos, aft, none⟩ :: rest) Q ρ ds H) : Ow P r n all (⟨d, .mapUpdate T x y u, t, pos, aft, none⟩ :: rest) Q ρ ds H := h
theorem Ow.kDelete {xs : Array Operand} (h : Ow P r n all (⟨d, .call { callee := .builtin .delete, args := xs, argTypes := ts }, t, pos, aft, none⟩ :: rest) Q ρ ds H) : Ow P r n all (⟨d, .call { callee := .builtin .delete, args := xs, argTypes := ts }, t, pos, aft, none⟩ :: rest) Q ρ ds H := h
end
end Go.Sl
