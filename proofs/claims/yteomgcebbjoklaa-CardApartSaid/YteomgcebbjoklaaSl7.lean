/- Deferred calls; functions without a body: sync/atomic, internal/race. -/
import Derived.Test.YteomgcebbjoklaaSlN
import Derived.Laws.LoneSync
namespace Go.Sl
open Go
set_option linter.unusedVariables false
universe u
section
variable {P : Program} {r : Option Nat} {n : Nat} {Q : PostT} {ρ : Env} {ds : List Deferred} {H R A F Pre : HP} {all rest : List Oper} {d : Option Nat} {t : TypeId} {pos : String} {aft : Array Edge} {ts : Array TypeId} {f : FuncId} {v : Value}
/-- WHAT A FUNCTION DOES, called as a deferred one. -/
structure FnD (P : Program) (f : FuncId) (args : List Value) (Pre post : HP) : Prop where
  enters : ∀ (args : Array Value) (w : World), (callFunc f args).run P w = .ok (.enter f args) w
  calls : ∀ g F w u, St g w (Pre * F) → CallsDIn (fen none) (0 - 1) P f args.toArray u w (fun e u' w' => u' = u ∧ ∃ v, e = .returned v ∧ St g w' (post * F))
def retD (P : Program) (fn : Func) (post F : HP) : PostT := fun e ρ ds H => (e = .normal ∨ e = .ret) ∧ ds = [] ∧ (∃ v, Res P fn ρ H v) ∧ Ent H (post * F)
theorem retD_n {fn : Func} {post : HP} (h : fn.results = #[]) (hH : Ent H (post * F)) : retD P fn post F .normal ρ [] H := ⟨.inl rfl, rfl, ⟨_, res0 h⟩, hH⟩
theorem retD_r {fn : Func} {post : HP} (h : fn.results = #[]) (hH : Ent H (post * F)) : retD P fn post F .ret ρ [] H := ⟨.inr rfl, rfl, ⟨_, res0 h⟩, hH⟩
theorem FnD.of {fn : Func} {c : Code} {args : List Value} {post : HP}
    (hf : P.funcs[f]? = some fn) (hb : fn.body = some c) (hname : (fn.name == "runtime.NumGoroutine") = false) (hn : fn.ntmps = n) (hlen : Nat.ble args.length n = true)
    (h : ∀ F, Cw P none n c (retD P fn post F) (argsE 0 args) [] (Pre * F)) : FnD P f args Pre post := by
  have hname' : ¬ fn.name = "runtime.NumGoroutine" := by simpa using hname
  refine ⟨fun args w => by simp [callFunc, hf, hname', hb], fun g F w u hs => ?_⟩
  have hlen' : args.length ≤ n := Nat.le_of_ble_eq_true hlen
  refine callsDIn_of_wp hf hb trivial ?_ rfl
  have hrep : Rep n (argsE 0 args) { tmps := args.toArray ++ Array.replicate (fn.ntmps - args.toArray.size) undef, defers := [] } := by
    refine ⟨by simp [hn]; omega, fun j v hj => ?_⟩
    obtain ⟨_, h2⟩ := argsE_spec args 0 j v hj
    simp at h2
    have hlt : j < args.length := (List.getElem?_eq_some_iff.1 h2).1
    simp only [Array.getElem?_append, List.size_toArray, hlt, if_true, List.getElem?_toArray]
    exact h2
  refine wpIn_mono (h F g w _ hrep rfl hs) ?_
  rintro e a w' ⟨ρ', H', hr, hs', he, hd, ⟨v, hv⟩, hH⟩
  rcases he with rfl | rfl
  · exact ⟨hd, v, hv n g w' a hr hs', v, rfl, hs'.mono hH⟩
  · exact ⟨hd, v, hv n g w' a hr hs', v, rfl, hs'.mono hH⟩
/-- Leaving, deferred calls of functions ahead. -/
def LeaveD (P : Program) (fn : Func) {β : Type u} (val : β → Value) (post : β → HP) (F : HP) (ρ : Env) : List Deferred → HP → Prop
  | [], H => ∃ b, Res P fn ρ H (val b) ∧ Ent H (post b * F)
  | d :: ds, H => ∃ (f : FuncId) (args : List Value) (Pre post' R : HP), d = ⟨.fn (.func f) #[], args.toArray⟩ ∧ FnD P f args Pre post' ∧ Ent H (Pre * R) ∧ LeaveD P fn val post F ρ ds (post' * R)
def retQD (P : Program) (fn : Func) {β : Type u} (val : β → Value) (post : β → HP) (F : HP) : PostT := fun e ρ ds H => (e = .normal ∨ e = .ret) ∧ LeaveD P fn val post F ρ ds H
theorem LeaveD.cons {fn : Func} {β : Type u} {val : β → Value} {post : β → HP} {args : List Value} {post' : HP} (hf : FnD P f args Pre post') (hp : Ent H (Pre * R)) (h : LeaveD P fn val post F ρ ds (post' * R)) : LeaveD P fn val post F ρ (⟨.fn (.func f) #[], args.toArray⟩ :: ds) H :=
  ⟨f, args, Pre, post', R, rfl, hf, hp, h⟩
theorem LeaveD.nil {fn : Func} {β : Type u} {val : β → Value} {post : β → HP} (w : β) (hres : Res P fn ρ H (val w)) (hH : Ent H (post w * F)) : LeaveD P fn val post F ρ [] H := ⟨w, hres, hH⟩
theorem leaveD_steps {fn : Func} {β : Type u} {val : β → Value} {post : β → HP} {F : HP} {g : Gh} {a : Act} (hr : Rep n ρ a) : ∀ (ds : List Deferred) (H : HP) (w : World), St g w H → LeaveD P fn val post F ρ ds H →
    LeavesInM (fen none) 0 P fn a.tmps (fun e w' => ∃ b, e = .returned (val b) ∧ St g w' (post b * F)) ds .returning w
  | [], H, w, hs, ⟨b, h1, h2⟩ => ⟨_, h1 n g w a hr hs, b, rfl, hs.mono h2⟩
  | d :: ds, H, w, hs, ⟨f, args, Pre, post', R, h1, h2, h3, h4⟩ => by
    subst h1
    refine ⟨by simp, .inr ⟨fun h => by simp [fen, Fence.wide] at h, .func f, #[], f, args.toArray, rfl, ?_, fun g' hg' => trivial, ?_⟩⟩
    · simp [invoke, go_sem, h2.enters]
    · refine (h2.calls g R w .returning (hs.mono h3)).mono ?_
      rintro e u' w' ⟨rfl, v, rfl, hs'⟩
      exact leaveD_steps hr ds _ _ hs' h4
theorem Fn.ofD {f : FuncId} {fn : Func} {c : Code} {args : List Value} {β : Type u} {val : β → Value} {post : β → HP}
    (hf : P.funcs[f]? = some fn) (hb : fn.body = some c) (hname : (fn.name == "runtime.NumGoroutine") = false) (hn : fn.ntmps = n) (hlen : Nat.ble args.length n = true)
    (h : ∀ F, Cw P none n c (retQD P fn val post F) (argsE 0 args) [] (Pre * F)) : Fn P f args Pre β val post := by
  have hname' : ¬ fn.name = "runtime.NumGoroutine" := by simpa using hname
  refine ⟨fun args w => by simp [callFunc, hf, hname', hb], fun g F w hs => ?_⟩
  have hlen' : args.length ≤ n := Nat.le_of_ble_eq_true hlen
  refine (callsIn_wide (n := 0)).1 (callsIn_of_wp_marks hf hb trivial ?_ rfl)
  have hrep : Rep n (argsE 0 args) { tmps := args.toArray ++ Array.replicate (fn.ntmps - args.toArray.size) undef, defers := [] } := by
    refine ⟨by simp [hn]; omega, fun j v hj => ?_⟩
    obtain ⟨_, h2⟩ := argsE_spec args 0 j v hj
    simp at h2
    have hlt : j < args.length := (List.getElem?_eq_some_iff.1 h2).1
    simp only [Array.getElem?_append, List.size_toArray, hlt, if_true, List.getElem?_toArray]
    exact h2
  refine wpIn_mono (h F g w _ hrep rfl hs) ?_
  rintro e a w' ⟨ρ', H', hr, hs', he, hl⟩
  rcases he with rfl | rfl
  · exact leaveD_steps hr _ _ _ hs' hl
  · exact leaveD_steps hr _ _ _ hs' hl
/-- A defer statement. -/
theorem Ow.defer {xs : List Operand} {vs : List Value} (hd : dOk n d = true) (hxs : Evs ρ xs vs) (h : Ow P none n all rest Q (putE d undef ρ) (⟨.fn (.func f) #[], vs.toArray⟩ :: ds) H) :
    Ow P none n all (⟨d, .defer { callee := .value (.func f), args := xs.toArray, argTypes := ts }, t, pos, aft, none⟩ :: rest) Q ρ ds H := by
  intro g w a hr hds hs
  simp only [wpListIn, Region.wanted, if_true, Oper.wpIn]
  refine ⟨fun _ _ => trivial, ?_⟩
  have he : ((⟨d, .defer { callee := .value (.func f), args := xs.toArray, argTypes := ts }, t, pos, aft, none⟩ : Oper).semAt (fen none).round a.eval).run P w = .ok (.defer ⟨.fn (.func f) #[], vs.toArray⟩) w := by
    simp [Oper.semAt, fen, Fence.wide, execOp, resolve, Act.eval, Evs.eval hr hxs, Deferred.ofValue]
  rw [he, Oper.uponIn_defer]
  exact h g w _ (by have := hr.putE hd undef; cases d <;> exact this) (by cases d <;> simp [Act.put, hds]) hs
/-- A call of a function that has no body. -/
theorem Ow.ext_ex {xs : List Operand} {vs : List Value} {α : Type u} {val : α → Value} {H' : α → HP} (hd : dOk n d = true) (hxs : Evs ρ xs vs)
    (hrun : ∀ g w, St g w H → ∃ q w', (callFunc f vs.toArray).run P w = .ok (.value (val q)) w' ∧ St g w' (H' q))
    (h : ∀ q, Ow P r n all rest Q (putE d (val q) ρ) ds (H' q)) : Ow P r n all (⟨d, .call { callee := .value (.func f), args := xs.toArray, argTypes := ts }, t, pos, aft, none⟩ :: rest) Q ρ ds H :=
  Ow.value_ex hd (by simp) (fun g w a hr hs => by
    obtain ⟨q, w', h1, h2⟩ := hrun g w hs
    refine ⟨q, w', ?_, h2⟩
    simp [execOp, resolve, Act.eval, Evs.eval hr hxs, Deferred.ofValue, invoke, h1]) h
/-- What is known of a function without a body, by its name. -/
class Ext (P : Program) (f : FuncId) (e : outParam (Array Value → Sem Value)) : Prop where
  h : ∃ fn, P.funcs[f]? = some fn ∧ (fn.name == "runtime.NumGoroutine") = false ∧ fn.body.isNone = true ∧ Extern.findNext fn = none ∧ Extern.find fn = some e
theorem Ow.aload {k : IntKind} {x : Operand} {a : Addr} {z : Int} [E : Ext P f (Extern.Atomic.loadT (.int k))] (hd : dOk n d = true) (hx : ev ρ x = some (.pointer (some a))) (hp : Pk H A R) (hr : RdA A a (.int k z))
    (h : Ow P r n all rest Q (putE d (.int k z) ρ) ds H) : Ow P r n all (⟨d, .call { callee := .value (.func f), args := #[x], argTypes := ts }, t, pos, aft, none⟩ :: rest) Q ρ ds H :=
  Ow.ext_ex (xs := [x]) (vs := [.pointer (some a)]) (α := Unit) (val := fun _ => .int k z) (H' := fun _ => H) hd ⟨hx, trivial⟩ (fun g w hs => by
    obtain ⟨fn, h1, h2, h3, h4, h5⟩ := E.h
    exact ⟨(), w, run_call_load h1 h2 h3 h4 k h5 (hs.cell hp hr), hs⟩) (fun _ => h)
theorem Ow.astore {k : IntKind} {x y : Operand} {a : Addr} {z : Int} {A' : HP} [E : Ext P f Extern.Atomic.storeT] (hd : dOk n d = true) (hx : ev ρ x = some (.pointer (some a))) (hy : ev ρ y = some (.int k z)) (hp : Pk H A R) (hw : WrA A a (.int k z) A')
    (h : Ow P r n all rest Q (putE d (.tuple #[]) ρ) ds (A' * R)) : Ow P r n all (⟨d, .call { callee := .value (.func f), args := #[x, y], argTypes := ts }, t, pos, aft, none⟩ :: rest) Q ρ ds H :=
  Ow.ext_ex (xs := [x, y]) (vs := [.pointer (some a), .int k z]) (α := Unit) (val := fun _ => .tuple #[]) (H' := fun _ => A' * R) hd ⟨hx, hy, trivial⟩ (fun g w hs => by
    obtain ⟨fn, h1, h2, h3, h4, h5⟩ := E.h
    unfold Pk at hp; subst hp
    obtain ⟨⟨u0, hu0⟩, hf, hs'⟩ := hs.store hw
    exact ⟨(), _, run_call_store h1 h2 h3 h4 h5 hu0 hf, hs'⟩) (fun _ => h)
theorem run_call_bits {P : Program} {f : FuncId} {fn : Func} {op : BinOp} (hf : P.funcs[f]? = some fn) (hname : (fn.name == "runtime.NumGoroutine") = false) (hb : fn.body.isNone = true) (hn : Extern.findNext fn = none) (k : IntKind) (nw : Bool) {o : IntKind → Int → Int → Sem Value}
    (he : Extern.find fn = some (Extern.Atomic.update o k nw)) {a : Addr} {x y s : Int} {w : World} (hc : w.cell? a = some (.int k x)) (hz : w.frozen? a = false)
    (hs : (o k x y).run P w = .ok (.int k s) w) :
    (callFunc f #[.pointer (some a), .int k y]).run P w = .ok (.value (.int k (if nw then s else x))) (w.setCell a (.int k s)) := by
  rw [run_callFunc_extern hf hname hb hn he]
  change (Sem.run P (do
    let a' ← asAddr (.pointer (some a))
    let old ← Extern.Atomic.read (.int k) a'
    let new ← o k (← asInt old) (← asInt (.int k y))
    store a' new .atomic
    pure (if nw then new else old)) w).andThen _ = _
  cases nw <;> simp [Extern.Atomic.read, asAddr, asInt, asIntOf, hc, hz, hs, run_store P w a (.int k s) .atomic rfl, Result.andThen]
theorem Ow.aupd {k : IntKind} {x y : Operand} {a : Addr} {z b s : Int} {A' : HP} {o : IntKind → Int → Int → Sem Value} {nw : Bool} [E : Ext P f (Extern.Atomic.update o k nw)] (hd : dOk n d = true) (hx : ev ρ x = some (.pointer (some a))) (hy : ev ρ y = some (.int k b)) (hp : Pk H A R) (hr : RdA A a (.int k z))
    (hs : ∀ w : World, (o k z b).run P w = .ok (.int k s) w) (hw : WrA A a (.int k s) A')
    (h : Ow P r n all rest Q (putE d (.int k (if nw then s else z)) ρ) ds (A' * R)) : Ow P r n all (⟨d, .call { callee := .value (.func f), args := #[x, y], argTypes := ts }, t, pos, aft, none⟩ :: rest) Q ρ ds H :=
  Ow.ext_ex (xs := [x, y]) (vs := [.pointer (some a), .int k b]) (α := Unit) (val := fun _ => .int k (if nw then s else z)) (H' := fun _ => A' * R) hd ⟨hx, hy, trivial⟩ (fun g w hs0 => by
    obtain ⟨fn, h1, h2, h3, h4, h5⟩ := E.h
    unfold Pk at hp; subst hp
    obtain ⟨⟨u0, hu0⟩, hf, hs'⟩ := hs0.store hw
    exact ⟨(), _, run_call_bits (op := .and) h1 h2 h3 h4 k nw h5 (hs0.cell pk0 hr) hf (hs w), hs'⟩) (fun _ => h)
theorem Ow.acas {k : IntKind} {x y y' : Operand} {a : Addr} {z s : Int} {A' : HP} [E : Ext P f (Extern.Atomic.casT (.int k))] (hd : dOk n d = true) (hx : ev ρ x = some (.pointer (some a))) (hy : ev ρ y = some (.int k z)) (hy' : ev ρ y' = some (.int k s)) (hp : Pk H A R) (hr : RdA A a (.int k z)) (hw : WrA A a (.int k s) A')
    (h : Ow P r n all rest Q (putE d (.bool true) ρ) ds (A' * R)) : Ow P r n all (⟨d, .call { callee := .value (.func f), args := #[x, y, y'], argTypes := ts }, t, pos, aft, none⟩ :: rest) Q ρ ds H :=
  Ow.ext_ex (xs := [x, y, y']) (vs := [.pointer (some a), .int k z, .int k s]) (α := Unit) (val := fun _ => .bool true) (H' := fun _ => A' * R) hd ⟨hx, hy, hy', trivial⟩ (fun g w hs0 => by
    obtain ⟨fn, h1, h2, h3, h4, h5⟩ := E.h
    unfold Pk at hp; subst hp
    obtain ⟨⟨u0, hu0⟩, hf, hs'⟩ := hs0.store hw
    exact ⟨(), _, run_call_cas_hit h1 h2 h3 h4 k h5 (hs0.cell pk0 hr) hf, hs'⟩) (fun _ => h)
theorem Ow.mark0 {m : Mark} [E : Ext P f (fun _ => do mark m; pure Extern.Race.none_)] (hd : dOk n d = true)
    (h : Ow P r n all rest Q (putE d (.tuple #[]) ρ) ds H) : Ow P r n all (⟨d, .call { callee := .value (.func f), args := #[], argTypes := ts }, t, pos, aft, none⟩ :: rest) Q ρ ds H :=
  Ow.ext_ex (xs := []) (vs := []) (α := Unit) (val := fun _ => .tuple #[]) (H' := fun _ => H) hd trivial (fun g w hs0 => by
    obtain ⟨fn, h1, h2, h3, h4, h5⟩ := E.h
    exact ⟨(), _, run_call_mark0 h1 h2 h3 h4 m h5 w, hs0⟩) (fun _ => h)
theorem Ow.marked {m : Addr → Mark} {x : Operand} {a : Addr} [E : Ext P f (Extern.Race.marked m)] (hd : dOk n d = true) (hx : ev ρ x = some (.pointer (some a)))
    (h : Ow P r n all rest Q (putE d (.tuple #[]) ρ) ds H) : Ow P r n all (⟨d, .call { callee := .value (.func f), args := #[x], argTypes := ts }, t, pos, aft, none⟩ :: rest) Q ρ ds H :=
  Ow.ext_ex (xs := [x]) (vs := [.pointer (some a)]) (α := Unit) (val := fun _ => .tuple #[]) (H' := fun _ => H) hd ⟨hx, trivial⟩ (fun g w hs0 => by
    obtain ⟨fn, h1, h2, h3, h4, h5⟩ := E.h
    exact ⟨(), _, run_call_marked h1 h2 h3 h4 m h5 a w, hs0⟩) (fun _ => h)
theorem Pu.unsafeP {src dst t' : TypeId} {x : Operand} {a : Addr} {z : Value} {tt : TypeId} [T1 : TyU P src (.pointer t')] [T2 : TyU P dst .unsafePointer] (hsz : (P.info? t').map (fun i => decide (i.size = 0)) = some false)
    (hx : ev ρ x = some (.pointer (some a))) (hp : Pk H A R) (hr : RdA A a z) : Pu P n ρ H (.convert src dst x) tt (.pointer (some a)) :=
  Pu.mks (by simp) (fun w a' hrp hs => by
    have := run_convert_to_unsafe (P := P) T1.h T2.h hsz (hs.cell hp hr)
    simp [execOp, ev_eval hrp hx, this])
theorem Ow.aload_cl {k : IntKind} {x : Operand} {b o : Nat} {cs : List Value} {z : Int} [E : Ext P f (Extern.Atomic.loadT (.int k))] (hd : dOk n d = true) (hx : ev ρ x = some (.pointer (some ⟨b, o, none⟩))) (hp : Pk H (cl b cs) R) (ho : cs[o]? = some (.int k z))
    (h : Ow P r n all rest Q (putE d (.int k z) ρ) ds H) : Ow P r n all (⟨d, .call { callee := .value (.func f), args := #[x], argTypes := ts }, t, pos, aft, none⟩ :: rest) Q ρ ds H := Ow.aload hd hx hp (rd_cl ho) h
theorem Ow.astore_cl {k : IntKind} {x y : Operand} {b o : Nat} {cs : List Value} {z : Int} [E : Ext P f Extern.Atomic.storeT] (hd : dOk n d = true) (hx : ev ρ x = some (.pointer (some ⟨b, o, none⟩))) (hy : ev ρ y = some (.int k z)) (hp : Pk H (cl b cs) R) (hw : Nat.blt o cs.length = true)
    (h : Ow P r n all rest Q (putE d (.tuple #[]) ρ) ds (cl b (cs.set o (.int k z)) * R)) : Ow P r n all (⟨d, .call { callee := .value (.func f), args := #[x, y], argTypes := ts }, t, pos, aft, none⟩ :: rest) Q ρ ds H := Ow.astore hd hx hy hp (wr_cl (Nat.le_of_ble_eq_true hw)) h
theorem Ow.aupd_cl {k : IntKind} {x y : Operand} {b' o : Nat} {cs : List Value} {z b s : Int} {op : IntKind → Int → Int → Sem Value} {nw : Bool} [E : Ext P f (Extern.Atomic.update op k nw)] (hd : dOk n d = true) (hx : ev ρ x = some (.pointer (some ⟨b', o, none⟩))) (hy : ev ρ y = some (.int k b)) (hp : Pk H (cl b' cs) R) (ho : cs[o]? = some (.int k z))
    (hs : ∀ w : World, (op k z b).run P w = .ok (.int k s) w) (hw : Nat.blt o cs.length = true)
    (h : Ow P r n all rest Q (putE d (.int k (if nw then s else z)) ρ) ds (cl b' (cs.set o (.int k s)) * R)) : Ow P r n all (⟨d, .call { callee := .value (.func f), args := #[x, y], argTypes := ts }, t, pos, aft, none⟩ :: rest) Q ρ ds H := Ow.aupd hd hx hy hp (rd_cl ho) hs (wr_cl (Nat.le_of_ble_eq_true hw)) h
theorem Ow.acas_cl {k : IntKind} {x y y' : Operand} {b o : Nat} {cs : List Value} {z s : Int} [E : Ext P f (Extern.Atomic.casT (.int k))] (hd : dOk n d = true) (hx : ev ρ x = some (.pointer (some ⟨b, o, none⟩))) (hy : ev ρ y = some (.int k z)) (hy' : ev ρ y' = some (.int k s)) (hp : Pk H (cl b cs) R) (ho : cs[o]? = some (.int k z)) (hw : Nat.blt o cs.length = true)
    (h : Ow P r n all rest Q (putE d (.bool true) ρ) ds (cl b (cs.set o (.int k s)) * R)) : Ow P r n all (⟨d, .call { callee := .value (.func f), args := #[x, y, y'], argTypes := ts }, t, pos, aft, none⟩ :: rest) Q ρ ds H := Ow.acas hd hx hy hy' hp (rd_cl ho) (wr_cl (Nat.le_of_ble_eq_true hw)) h
theorem Pu.unsafe_cl {src dst t' : TypeId} {x : Operand} {b o : Nat} {cs : List Value} {z : Value} {tt : TypeId} [T1 : TyU P src (.pointer t')] [T2 : TyU P dst .unsafePointer] (hsz : (P.info? t').map (fun i => decide (i.size = 0)) = some false)
    (hx : ev ρ x = some (.pointer (some ⟨b, o, none⟩))) (hp : Pk H (cl b cs) R) (ho : cs[o]? = some z) : Pu P n ρ H (.convert src dst x) tt (.pointer (some ⟨b, o, none⟩)) := Pu.unsafeP hsz hx hp (rd_cl ho)
end
end Go.Sl
