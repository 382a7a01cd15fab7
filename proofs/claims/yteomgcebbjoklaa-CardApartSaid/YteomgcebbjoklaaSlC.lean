/-
  Sl, third part: reading and writing through a heap's word; the rules of the plain operations. Any program.
-/
import Derived.Test.YteomgcebbjoklaaSlB
namespace Go.Sl
open Go
set_option linter.unusedVariables false
universe u

/-! ### What is known of types -/
class TyU (P : Program) (t : TypeId) (d : outParam TypeDesc) : Prop where
  h : P.underlying t = some d
/-- Cells, bytes, and the cells of the zero value. -/
class TyS (P : Program) (t : TypeId) (k b : outParam Nat) (z : outParam (List Value)) : Prop where
  h : (P.info? t).map (fun i => (i.size, i.bytes, i.zero.map (·.cells))) = some (k, b, some z.toArray)
theorem TyS.get {P : Program} {t : TypeId} {k b : Nat} {z : List Value} (T : TyS P t k b z) : ∃ i zv, P.info? t = some i ∧ i.size = k ∧ i.bytes = b ∧ i.zero = some zv ∧ zv.cells = z.toArray := by
  have h := T.h
  cases e : P.info? t with
  | none => rw [e] at h; cases h
  | some i =>
    rw [e] at h
    simp at h
    obtain ⟨h1, h2, zv, h3, h4⟩ := h
    exact ⟨i, zv, rfl, h1, h2, h3, h4⟩
def fldOf (P : Program) (s f : Nat) : Option (Nat × Bool) :=
  match P.underlying s with
  | some (.struct fs) => (fs[f]?).map fun fd => (fd.offset, (P.info? fd.type).any fun i => i.size != 0)
  | _ => none
class Fld (P : Program) (s f : Nat) (off : outParam Nat) : Prop where
  h : fldOf P s f = some (off, true)
theorem Fld.get {P : Program} {s f off : Nat} (T : Fld P s f off) : ∃ fs fd i, P.underlying s = some (.struct fs) ∧ fs[f]? = some fd ∧ fd.offset = off ∧ P.info? fd.type = some i ∧ i.size ≠ 0 := by
  have h := T.h
  unfold fldOf at h
  cases e : P.underlying s with
  | none => rw [e] at h; cases h
  | some d =>
    rw [e] at h
    cases d <;> simp at h
    rename_i fs
    obtain ⟨fd, h1, h2, h3⟩ := h
    cases e2 : P.info? fd.type with
    | none => rw [e2] at h3; simp at h3
    | some i => rw [e2] at h3; simp at h3; exact ⟨fs, fd, i, rfl, h1, h2, e2, h3⟩
def aggB : TypeDesc → Bool
  | .struct _ => true
  | .array _ _ => true
  | _ => false
/-- Is it a struct or an array? -/
class TyA (P : Program) (t : TypeId) (b : outParam Bool) : Prop where
  h : (P.underlying t).map aggB = some b
/-- The cells of a struct or an array that is put together out of the fields ix (the others: zero). -/
class TyB (P : Program) (T : TypeId) (ix : List Nat) (f : outParam (List Value → List Value)) : Prop where
  h : True
/-- .. of a slice's new array. -/
class TyBS (P : Program) (T : TypeId) (m : Nat) (e : outParam TypeId) (ix : List Nat) (f : outParam (List Value → List Value)) : Prop where
  h : True
variable {td : TypeDesc} {kk bb : Nat} {zc : List Value}
section
variable {P : Program} {t : TypeId} {w : World}
theorem run_under [T : TyU P t td] : (underlying t).run P w = .ok td w := by simp [underlying, T.h]
theorem run_size [T : TyS P t kk bb zc] : (sizeOf t).run P w = .ok kk w := by
  obtain ⟨i, zv, h1, h2, h3, h4, h5⟩ := T.get
  simp [sizeOf, typeInfo, h1, h2]
theorem run_bytes [T : TyS P t kk bb zc] : (do pure (← typeInfo t).bytes : Sem Nat).run P w = .ok bb w := by
  obtain ⟨i, zv, h1, h2, h3, h4, h5⟩ := T.get
  simp [typeInfo, h1, h3]
theorem run_zero [T : TyS P t kk bb zc] : ∃ zv, zv.cells = zc.toArray ∧ (zeroValue t).run P w = .ok zv w := by
  obtain ⟨i, zv, h1, h2, h3, h4, h5⟩ := T.get
  exact ⟨zv, h5, by simp [zeroValue, typeInfo, h1, h4]⟩
theorem run_agg {b : Bool} [T : TyA P t b] : (isAgg t).run P w = .ok b w := by
  have h := T.h
  cases e : P.underlying t with
  | none => rw [e] at h; cases h
  | some d =>
    rw [e] at h
    simp at h
    subst h
    simp only [isAgg, underlying, Sem.run_bind, run_program, Result.andThen_ok, e, Sem.run_pure]
    cases d <;> rfl
end

/-! ### Cells of a heap -/
def cellH (h : PH) (a : Addr) : Option Value :=
  match h a.block with
  | some (.cells c _ _) => if a.spot.isSome then none else c[a.off]?
  | _ => none
/-- Whatever satisfies A holds v at a. -/
def RdA (A : HP) (a : Addr) (v : Value) : Prop := ∀ h, A h → cellH h a = some v
/-- A store of v at a may be done in A, and comes to A'. -/
def WrA (A : HP) (a : Addr) (v : Value) (A' : HP) : Prop := ∀ h, A h → a.spot = none ∧ ∃ c t fz, h a.block = some (.cells c t fz) ∧ a.off < c.size ∧ ¬ (fz.1 ≤ a.off ∧ a.off < fz.2) ∧
  A' (fun i => if i = a.block then some (.cells (c.setIfInBounds a.off v) t fz) else h i)
/-- A stands in H, beside R. -/
def Pk (H A R : HP) : Prop := H = A * R
theorem pk0 {A R : HP} : Pk (A * R) A R := rfl
theorem pkn {A B R R' : HP} (h : Pk R A R') : Pk (B * R) A (B * R') := by unfold Pk at *; rw [h, star_left_comm]
theorem pkl {A : HP} : Pk A A emp := (star_emp A).symm

section
variable {g : Gh} {w : World} {A A' R H : HP} {a : Addr} {v : Value}
theorem St.cell (s : St g w H) (hp : Pk H A R) (hr : RdA A a v) : w.cell? a = some v := by
  unfold Pk at hp
  subst hp
  obtain ⟨_, _, x, ⟨p, q, d, rfl, hA, _⟩, h3⟩ := s
  have := hr p hA
  unfold cellH at this
  cases e : p a.block with
  | none => rw [e] at this; cases this
  | some o =>
    rw [e] at this
    have hw := h3 a.block o (by simp [mrg, e])
    unfold World.cell?
    rw [hw]
    cases o <;> first | exact this | cases this
theorem St.store (s : St g w (A * R)) (hw : WrA A a v A') : (∃ u, w.cell? a = some u) ∧ w.frozen? a = false ∧ St g (w.setCell a v) (A' * R) := by
  obtain ⟨e1, e2, x, ⟨p, q, d, rfl, hA, hR⟩, h3⟩ := s
  obtain ⟨hspot, c, t, fz, hb, hlt, hfz, hA'⟩ := hw p hA
  have hwb : w.heap[a.block]? = some (.cells c t fz) := h3 a.block _ (by simp [mrg, hb])
  refine ⟨⟨c[a.off], by simp [World.cell?, hwb, hspot, hlt]⟩, ?_, e1, e2, _, ⟨_, q, fun i => ?_, rfl, hA', hR⟩, fun i o hi => ?_⟩
  · simp only [World.frozen?, hwb]
    obtain ⟨lo, hi⟩ := fz
    have hfz' : ¬ (lo ≤ a.off ∧ a.off < hi) := hfz
    clear hw
    simp only [Bool.and_eq_false_iff, decide_eq_false_iff_not]
    omega
  · by_cases e : i = a.block
    · right
      rcases d i with h | h
      · rw [e, hb] at h; cases h
      · exact h
    · rcases d i with h | h
      · left; simp [e, h]
      · right; exact h
  · have hmod : (w.setCell a v).heap = w.heap.modify a.block fun
      | .cells c elem frozen => .cells (if a.spot.isSome then c else c.setIfInBounds a.off v) elem frozen
      | o => o := rfl
    rw [hmod, Array.getElem?_modify]
    by_cases e : i = a.block
    · subst e
      simp [mrg] at hi
      subst hi
      simp [hwb, hspot]
    · simp [mrg, e] at hi
      rw [if_neg (fun h => e h.symm)]
      exact h3 i o (by simp [mrg, hi])
end

/-- Block b holds just these cells, and they may be written. -/
def cl (b : Nat) (cs : List Value) : HP := ex fun x : TypeId × (Nat × Nat) => fun h => (∀ j, j < cs.length → ¬ (x.2.1 ≤ j ∧ j < x.2.2)) ∧ pt b (.cells cs.toArray x.1 x.2) h
theorem rd_cl {b : Nat} {cs : List Value} {o : Nat} {v : Value} (h : cs[o]? = some v) : RdA (cl b cs) ⟨b, o, none⟩ v := by
  rintro x ⟨⟨t, fz⟩, _, hx⟩
  have hx' : x = _ := hx
  simp [cellH, hx', h]
theorem wr_cl {b : Nat} {cs : List Value} {o : Nat} {v : Value} (h : o < cs.length) : WrA (cl b cs) ⟨b, o, none⟩ v (cl b (cs.set o v)) := by
  rintro x ⟨⟨t, fz⟩, h1, hx⟩
  have hx' : x = _ := hx
  refine ⟨rfl, cs.toArray, t, fz, by simp [hx'], by simpa using h, h1 o h, ⟨t, fz⟩, by simpa using h1, ?_⟩
  show _ = _
  funext i
  simp only [hx']
  by_cases e : i = b <;> simp [e]
theorem St.new_cl {g : Gh} {w : World} {R : HP} (s : St g w R) (cs : List Value) (t : TypeId) : St g { w with heap := w.heap.push (.cells cs.toArray t (0, 0)) } (cl w.heap.size cs * R) :=
  (s.alloc _).mono (Ent.left (.of_imp fun h hh => ⟨⟨t, (0, 0)⟩, fun j _ => by simp, hh⟩))

/-! ### Rules of operations -/
section
variable {P : Program} {r : Option Nat} {n : Nat} {Q : PostT} {ρ : Env} {ds : List Deferred} {H R A : HP} {all rest : List Oper} {d : Option Nat} {t t' : TypeId} {pos : String} {aft : Array Edge} {v : Value} {x y z : Operand}

/-- AN OPERATION THAT TURNS NOTHING: in the environment ρ, where H holds, it yields v. -/
def Pu (P : Program) (n : Nat) (ρ : Env) (H : HP) (op : Op) (t : TypeId) (v : Value) : Prop :=
  (∀ c, op ≠ .defer c) ∧ ∀ d pos aft gd g w a, Rep n ρ a → St g w H → (execOp a.eval ⟨d, op, t, pos, aft, gd⟩).run P w = .ok (.value v) w
theorem Pu.mk {op : Op} (hdf : ∀ c, op ≠ .defer c) (hrun : ∀ {d pos aft gd} a w, Rep n ρ a → (execOp a.eval ⟨d, op, t, pos, aft, gd⟩).run P w = .ok (.value v) w) : Pu P n ρ H op t v :=
  ⟨hdf, fun d pos aft gd g w a hr _ => hrun a w hr⟩
theorem Pu.mks {op : Op} (hdf : ∀ c, op ≠ .defer c) (hrun : ∀ {d pos aft gd g} w a, Rep n ρ a → St g w H → (execOp a.eval ⟨d, op, t, pos, aft, gd⟩).run P w = .ok (.value v) w) : Pu P n ρ H op t v :=
  ⟨hdf, fun d pos aft gd g w a hr hs => hrun w a hr hs⟩
theorem Pu.frame {op : Op} (h : Pu P n ρ A op t v) (hp : Pk H A R) : Pu P n ρ H op t v :=
  ⟨h.1, fun d pos aft gd g w a hr hs => h.2 d pos aft gd g w a hr (by unfold Pk at hp; rw [hp] at hs; exact hs.left)⟩
theorem Ow.pu {op : Op} (hd : dOk n d = true) (hpu : Pu P n ρ H op t v) (h : Ow P r n all rest Q (putE d v ρ) ds H) : Ow P r n all (⟨d, op, t, pos, aft, none⟩ :: rest) Q ρ ds H :=
  Ow.value hd hpu.1 (fun g w a hr hs => ⟨w, hpu.2 _ _ _ _ g w a hr hs, hs⟩) h

theorem Pu.move (hx : ev ρ x = some v) : Pu P n ρ H (.move x) t v :=
  Pu.mk (by simp) (fun a w hr => by simp [execOp, ev_eval hr hx])
theorem Pu.assign (hx : ev ρ x = some v) : Pu P n ρ H (.assign x) t v :=
  Pu.mk (by simp) (fun a w hr => by simp [execOp, ev_eval hr hx])
theorem Pu.pick {b : Bool} {u : Value} (hx : ev ρ x = some (.bool b)) (hy : ev ρ y = some v) (hz : ev ρ z = some u) : Pu P n ρ H (.pick x y z) t (if b then v else u) :=
  Pu.mk (by simp) (fun a w hr => by simp [execOp, ev_eval hr hx, ev_eval hr hy, ev_eval hr hz, asBool])
theorem Pu.pick_t (hx : ev ρ x = some (.bool true)) (hy : ev ρ y = some v) : Pu P n ρ H (.pick x y z) t v :=
  Pu.mk (by simp) (fun a w hr => by simp [execOp, ev_eval hr hx, ev_eval hr hy, asBool])
theorem Pu.pick_f (hx : ev ρ x = some (.bool false)) (hz : ev ρ z = some v) : Pu P n ρ H (.pick x y z) t v :=
  Pu.mk (by simp) (fun a w hr => by simp [execOp, ev_eval hr hx, ev_eval hr hz, asBool])
theorem Pu.nilCheck {a : Addr} (hx : ev ρ x = some (.pointer (some a))) :
    Pu P n ρ H (.nilCheck x) t (.pointer (some a)) :=
  Pu.mk (by simp) (fun a' w hr => by simp [execOp, ev_eval hr hx])
theorem Pu.nilCheckF {f : Fn} {c : Array Value} {fc : Nat} (hx : ev ρ x = some (.func (.func fc) #[] c)) :
    Pu P n ρ H (.nilCheck x) t (.func (.func fc) #[] c) :=
  Pu.mk (by simp) (fun a' w hr => by simp [execOp, ev_eval hr hx])
theorem Pu.fieldAddr {s f off : Nat} [T : Fld P s f off] {a : Addr} (hx : ev ρ x = some (.pointer (some a))) :
    Pu P n ρ H (.fieldAddr s x f) t (.pointer (some (a.add off))) := by
  obtain ⟨fs, fd, i, h1, h2, h3, h4, h5⟩ := T.get
  exact Pu.mk (by simp) (fun a' w hr => by
    simp [execOp, ev_eval hr hx, Instr.fieldAt, underlying, h1, h2, Instr.sureAddr, Go.fieldPlace, sizeOf, typeInfo, h4, h5, h3])
theorem Pu.load [T : TyA P t false] {a : Addr} (hx : ev ρ x = some (.pointer (some a))) (hp : Pk H A R) (hr : RdA A a v) : Pu P n ρ H (.load t x) t' v :=
  Pu.mks (by simp) (fun w a' hrp hs => by
    simp [execOp, ev_eval hrp hx, Instr.loadAt, Instr.sureAddr, loadVar, run_agg, hs.cell hp hr])
theorem run_loadCells {P : Program} {w : World} {a : Addr} {vs : List Value} : ∀ (i : Nat) (acc : Array Value) (h : ∀ j v, vs[j]? = some v → w.cell? (a.add (i + j)) = some v),
    (loadCellsFrom a i vs.length acc).run P w = .ok (acc ++ vs.toArray) w := by
  induction vs with
  | nil => intro i acc _; simp [loadCellsFrom]
  | cons u vs ih =>
    intro i acc h
    have h0 := h 0 u rfl
    have hk := ih (i + 1) (acc.push u) (fun j v hv => by have := h (j + 1) v (by simpa using hv); rwa [show i + (j + 1) = i + 1 + j by omega] at this)
    simp only [List.length_cons, loadCellsFrom, Sem.run_bind, run_load]
    rw [show a.add i = a.add (i + 0) by rfl, h0]
    simp only [Result.andThen_ok, hk]
    simp
def RdN (A : HP) (a : Addr) (vs : List Value) : Prop := ∀ j v, vs[j]? = some v → RdA A (a.add j) v
theorem Pu.loadN [T : TyA P t true] [S : TyS P t kk bb zc] {a : Addr} {vs : List Value} (hx : ev ρ x = some (.pointer (some a))) (hp : Pk H A R) (hr : RdN A a vs) (hk : vs.length = kk) :
    Pu P n ρ H (.load t x) t' (.agg vs.toArray) :=
  Pu.mks (by simp) (fun w a' hrp hs => by
    have hl := run_loadCells (P := P) (w := w) (a := a) (vs := vs) 0 #[] (fun j v hv => by rw [Nat.zero_add]; exact hs.cell hp (hr j v hv))
    rw [hk] at hl
    simp [execOp, ev_eval hrp hx, Instr.loadAt, Instr.sureAddr, loadVar, run_agg, run_size, loadCells, hl])
theorem Ow.store [S : TyS P t 1 bb zc] {a : Addr} {A' : HP} (hd : dOk n d = true) (hx : ev ρ x = some (.pointer (some a))) (hy : ev ρ y = some v) (ho : v.oneCell' = true) (hp : Pk H A R) (hw : WrA A a v A')
    (h : Ow P r n all rest Q (putE d undef ρ) ds (A' * R)) : Ow P r n all (⟨d, .store t x y, t', pos, aft, none⟩ :: rest) Q ρ ds H :=
  Ow.unit hd (by simp) (fun g w a' hrp hs => by
    unfold Pk at hp; subst hp
    obtain ⟨⟨u, hu⟩, hf, hs'⟩ := hs.store hw
    refine ⟨w.setCell a v, ?_, hs'⟩
    have hc : v.cells = #[v] := by cases v <;> first | rfl | cases ho
    have hst := run_store P w a v .plain ho
    simp [execOp, ev_eval hrp hx, ev_eval hrp hy, Instr.storeAt, Instr.sureAddr, storeVar, hc, run_size, storeCells, Addr.add, hst, hu, hf]) h
end
attribute [irreducible] cl
end Go.Sl
