/-
  Sl, fourth part: numbers, calls, functions' contracts. Any program.
-/
import Derived.Test.YteomgcebbjoklaaSlC
namespace Go.Sl
open Go
set_option linter.unusedVariables false
universe u

/-! ### Numbers -/
theorem wrap_i64 {a : Int} (h : -9223372036854775808 ≤ a ∧ a ≤ 9223372036854775807) : IntKind.wrap .i64 a = a := by
  simp [IntKind.wrap, IntKind.signed, IntKind.bits]; omega
theorem wrap_u8 {a : Int} (h : 0 ≤ a ∧ a ≤ 255) : IntKind.wrap .u8 a = a := by
  simp [IntKind.wrap, IntKind.signed, IntKind.bits]; omega
theorem wrap_u64 {a : Int} (h : 0 ≤ a ∧ a ≤ 18446744073709551615) : IntKind.wrap .u64 a = a := by
  simp [IntKind.wrap, IntKind.signed, IntKind.bits]; omega
def andI (k : IntKind) (a b : Int) : Int := k.wrap ((BitVec.ofInt k.bits a &&& BitVec.ofInt k.bits b).toNat : Int)
def orI (k : IntKind) (a b : Int) : Int := k.wrap ((BitVec.ofInt k.bits a ||| BitVec.ofInt k.bits b).toNat : Int)
def xorI (k : IntKind) (a b : Int) : Int := k.wrap ((BitVec.ofInt k.bits a ^^^ BitVec.ofInt k.bits b).toNat : Int)
def clrI (k : IntKind) (a b : Int) : Int := k.wrap ((BitVec.ofInt k.bits a &&& ~~~ BitVec.ofInt k.bits b).toNat : Int)

variable {td td' : TypeDesc} {kk bb : Nat} {zc : List Value}
section
variable {P : Program} {r : Option Nat} {n : Nat} {Q : PostT} {ρ : Env} {ds : List Deferred} {H R A : HP} {all rest : List Oper} {d : Option Nat} {t t' t'' : TypeId} {pos : String} {aft : Array Edge} {v u : Value} {x y z : Operand}
  {k k' : IntKind} {a b c : Int} {p q : Bool}

theorem run_bin_int {op : BinOp} {e : Int → Int → Sem Value} (w : World) : (eqGuard op t x y (.int k a) (.int k' b)).run P w = .ok () w := by
  unfold eqGuard
  cases op <;> simp
theorem Pu.bin {op : BinOp} {x' y' : Value} (hx : ev ρ x = some x') (hy : ev ρ y = some y') (hg : ∀ w, (eqGuard op t x y x' y').run P w = .ok () w) (hv : ∀ w, (binOp op t x' y').run P w = .ok v w) : Pu P n ρ H (.binOp op t x y t') t'' v :=
  Pu.mk (by simp) (fun a w hr => by simp [execOp, ev_eval hr hx, ev_eval hr hy, hg, hv])
theorem Pu.binI {op : BinOp} (hx : ev ρ x = some (.int k a)) (hy : ev ρ y = some (.int k b)) (hv : ∀ w, (binOp op t (.int k a) (.int k b)).run P w = .ok v w) : Pu P n ρ H (.binOp op t x y t') t'' v :=
  Pu.bin hx hy (fun w => run_bin_int (e := fun _ _ => stuck "") w) hv
theorem Pu.eqI (hx : ev ρ x = some (.int k a)) (hy : ev ρ y = some (.int k b)) :
    Pu P n ρ H (.binOp .eql t x y t') t'' (.bool (decide (a = b))) := Pu.binI hx hy (fun w => by simp [Go.binOp, Op.intCmp]; rfl)
theorem Pu.neI (hx : ev ρ x = some (.int k a)) (hy : ev ρ y = some (.int k b)) :
    Pu P n ρ H (.binOp .neq t x y t') t'' (.bool (decide (¬ a = b))) := Pu.binI hx hy (fun w => by simp [Go.binOp, Op.intCmp]; rfl)
theorem Pu.lt (hx : ev ρ x = some (.int k a)) (hy : ev ρ y = some (.int k b)) :
    Pu P n ρ H (.binOp .lss t x y t') t'' (.bool (decide (a < b))) := Pu.binI hx hy (fun w => by simp [Go.binOp, Op.intCmp])
theorem Pu.le (hx : ev ρ x = some (.int k a)) (hy : ev ρ y = some (.int k b)) :
    Pu P n ρ H (.binOp .leq t x y t') t'' (.bool (decide (a ≤ b))) := Pu.binI hx hy (fun w => by simp [Go.binOp, Op.intCmp])
theorem Pu.gt (hx : ev ρ x = some (.int k a)) (hy : ev ρ y = some (.int k b)) :
    Pu P n ρ H (.binOp .gtr t x y t') t'' (.bool (decide (b < a))) := Pu.binI hx hy (fun w => by simp [Go.binOp, Op.intCmp])
theorem Pu.ge (hx : ev ρ x = some (.int k a)) (hy : ev ρ y = some (.int k b)) :
    Pu P n ρ H (.binOp .geq t x y t') t'' (.bool (decide (b ≤ a))) := Pu.binI hx hy (fun w => by simp [Go.binOp, Op.intCmp])
theorem Pu.add (hx : ev ρ x = some (.int k a)) (hy : ev ρ y = some (.int k b)) (hc : k.wrap (a + b) = c) :
    Pu P n ρ H (.binOp .add t x y t') t'' (.int k c) := Pu.binI hx hy (fun w => by simp [Go.binOp, Op.intArith, hc])
theorem Pu.add_i (hx : ev ρ x = some (.int .i64 a)) (hy : ev ρ y = some (.int .i64 b)) (hc : -9223372036854775808 ≤ a + b ∧ a + b ≤ 9223372036854775807) :
    Pu P n ρ H (.binOp .add t x y t') t'' (.int .i64 (a + b)) := Pu.add hx hy (wrap_i64 hc)
theorem Pu.sub (hx : ev ρ x = some (.int k a)) (hy : ev ρ y = some (.int k b)) (hc : k.wrap (a - b) = c) :
    Pu P n ρ H (.binOp .sub t x y t') t'' (.int k c) := Pu.binI hx hy (fun w => by simp [Go.binOp, Op.intArith, hc])
theorem Pu.sub_i (hx : ev ρ x = some (.int .i64 a)) (hy : ev ρ y = some (.int .i64 b)) (hc : -9223372036854775808 ≤ a - b ∧ a - b ≤ 9223372036854775807) :
    Pu P n ρ H (.binOp .sub t x y t') t'' (.int .i64 (a - b)) := Pu.sub hx hy (wrap_i64 hc)
theorem Pu.mul (hx : ev ρ x = some (.int k a)) (hy : ev ρ y = some (.int k b)) (hc : k.wrap (a * b) = c) :
    Pu P n ρ H (.binOp .mul t x y t') t'' (.int k c) := Pu.binI hx hy (fun w => by simp [Go.binOp, Op.intArith, hc])
theorem Pu.mul_i (hx : ev ρ x = some (.int .i64 a)) (hy : ev ρ y = some (.int .i64 b)) (hc : -9223372036854775808 ≤ a * b ∧ a * b ≤ 9223372036854775807) :
    Pu P n ρ H (.binOp .mul t x y t') t'' (.int .i64 (a * b)) := Pu.mul hx hy (wrap_i64 hc)
theorem Pu.quo (hx : ev ρ x = some (.int k a)) (hy : ev ρ y = some (.int k b)) (hb : b ≠ 0) (hc : k.wrap (a.tdiv b) = c) :
    Pu P n ρ H (.binOp .quo t x y t') t'' (.int k c) := Pu.binI hx hy (fun w => by simp [Go.binOp, Op.intDiv, hb, hc])
theorem Pu.quo_i (hx : ev ρ x = some (.int .i64 a)) (hy : ev ρ y = some (.int .i64 b)) (hb : 0 ≤ a ∧ a ≤ 9223372036854775807 ∧ 0 < b) :
    Pu P n ρ H (.binOp .quo t x y t') t'' (.int .i64 (a / b)) :=
  Pu.quo hx hy (by omega) (by
    rw [Int.tdiv_eq_ediv_of_nonneg hb.1]
    have h1 : 0 ≤ a / b := Int.ediv_nonneg hb.1 (by omega)
    have h2 : a / b ≤ a := Int.ediv_le_self _ hb.1
    exact wrap_i64 (by omega))
theorem Pu.rem (hx : ev ρ x = some (.int k a)) (hy : ev ρ y = some (.int k b)) (hb : b ≠ 0) :
    Pu P n ρ H (.binOp .rem t x y t') t'' (.int k (a.tmod b)) := Pu.binI hx hy (fun w => by simp [Go.binOp, Op.intDiv, hb])
theorem Pu.rem_p (hx : ev ρ x = some (.int k a)) (hy : ev ρ y = some (.int k b)) (hb : 0 ≤ a ∧ 0 < b) :
    Pu P n ρ H (.binOp .rem t x y t') t'' (.int k (a % b)) := by have := Pu.rem (P := P) (n := n) (H := H) (t := t) (t' := t') (t'' := t'') hx hy (show b ≠ 0 by omega); rwa [Int.tmod_eq_emod_of_nonneg hb.1] at this
theorem Pu.and (hx : ev ρ x = some (.int k a)) (hy : ev ρ y = some (.int k b)) (hc : andI k a b = c) :
    Pu P n ρ H (.binOp .and t x y t') t'' (.int k c) := Pu.binI hx hy (fun w => by subst hc; simp [Go.binOp, Op.intBits, andI])
theorem Pu.or (hx : ev ρ x = some (.int k a)) (hy : ev ρ y = some (.int k b)) (hc : orI k a b = c) :
    Pu P n ρ H (.binOp .or t x y t') t'' (.int k c) := Pu.binI hx hy (fun w => by subst hc; simp [Go.binOp, Op.intBits, orI])
theorem Pu.xor (hx : ev ρ x = some (.int k a)) (hy : ev ρ y = some (.int k b)) (hc : xorI k a b = c) :
    Pu P n ρ H (.binOp .xor t x y t') t'' (.int k c) := Pu.binI hx hy (fun w => by subst hc; simp [Go.binOp, Op.intBits, xorI])
theorem Pu.clr (hx : ev ρ x = some (.int k a)) (hy : ev ρ y = some (.int k b)) (hc : clrI k a b = c) :
    Pu P n ρ H (.binOp .andNot t x y t') t'' (.int k c) := Pu.binI hx hy (fun w => by subst hc; simp [Go.binOp, Op.intBits, clrI])
theorem Pu.shl (hx : ev ρ x = some (.int k a)) (hy : ev ρ y = some (.int k' b)) (hb : 0 ≤ b) (hc : k.wrap (a * 2 ^ (min b.toNat k.bits)) = c) :
    Pu P n ρ H (.binOp .shl t x y t') t'' (.int k c) :=
  Pu.bin hx hy (fun w => run_bin_int (e := fun _ _ => stuck "") w) (fun w => by simp [Go.binOp, Op.shift, show ¬ b < 0 by omega, hc])
theorem Pu.shr (hx : ev ρ x = some (.int k a)) (hy : ev ρ y = some (.int k' b)) (hb : 0 ≤ b) (hc : a.fdiv (2 ^ (min b.toNat k.bits)) = c) :
    Pu P n ρ H (.binOp .shr t x y t') t'' (.int k c) :=
  Pu.bin hx hy (fun w => run_bin_int (e := fun _ _ => stuck "") w) (fun w => by simp [Go.binOp, Op.shift, show ¬ b < 0 by omega, hc])
theorem run_equalIn_bool [T : TyU P t .bool] (dd : Nat) (w : World) : (Op.equalIn (dd + 1) t (.bool p) (.bool q)).run P w = .ok (p == q) w := by
  simp only [Op.equalIn, Sem.run_bind, run_under, Result.andThen_ok]
  rfl
theorem run_equalIn_nil {e : TypeId} [T : TyU P t (.pointer e)] {l : Option Addr} (dd : Nat) (w : World) : (Op.equalIn (dd + 1) t (.pointer l) (.pointer none)).run P w = .ok l.isNone w := by
  simp only [Op.equalIn, Sem.run_bind, run_under, Result.andThen_ok]
  cases l <;> rfl
theorem run_equal_bool [T : TyU P t .bool] (w : World) : (Op.equal t (.bool p) (.bool q)).run P w = .ok (p == q) w := run_equalIn_bool 9999 w
theorem run_equal_nil {e : TypeId} [T : TyU P t (.pointer e)] {l : Option Addr} (w : World) : (Op.equal t (.pointer l) (.pointer none)).run P w = .ok l.isNone w := run_equalIn_nil 9999 w
theorem run_eql {x' y' : Value} {b : Bool} {w : World} (hb : binOp .eql t x' y' = (Op.equal t x' y' >>= fun z => pure (Value.bool z))) (h : (Op.equal t x' y').run P w = .ok b w) : (binOp .eql t x' y').run P w = .ok (.bool b) w := by
  rw [hb, Sem.run_bind, h]; rfl
theorem run_neq {x' y' : Value} {b : Bool} {w : World} (hb : binOp .neq t x' y' = (Op.equal t x' y' >>= fun z => pure (Value.bool (!z)))) (h : (Op.equal t x' y').run P w = .ok b w) : (binOp .neq t x' y').run P w = .ok (.bool (!b)) w := by
  rw [hb, Sem.run_bind, h]; rfl
theorem Pu.eqB [T : TyU P t .bool] (hx : ev ρ x = some (.bool p)) (hy : ev ρ y = some (.bool q)) :
    Pu P n ρ H (.binOp .eql t x y t') t'' (.bool (p == q)) :=
  Pu.bin hx hy (fun w => by simp [eqGuard]) (fun w => run_eql rfl (run_equal_bool w))
theorem Pu.neB [T : TyU P t .bool] (hx : ev ρ x = some (.bool p)) (hy : ev ρ y = some (.bool q)) :
    Pu P n ρ H (.binOp .neq t x y t') t'' (.bool (!(p == q))) :=
  Pu.bin hx hy (fun w => by simp [eqGuard]) (fun w => run_neq rfl (run_equal_bool w))
theorem Pu.eqNil {e : TypeId} [T : TyU P t (.pointer e)] {l : Option Addr} (hx : ev ρ x = some (.pointer l)) (hy : ev ρ y = some (.pointer none)) :
    Pu P n ρ H (.binOp .eql t x y t') t'' (.bool l.isNone) :=
  Pu.bin hx hy (fun w => by simp [eqGuard]) (fun w => run_eql (by cases l <;> rfl) (run_equal_nil w))
theorem Pu.neNil {e : TypeId} [T : TyU P t (.pointer e)] {l : Option Addr} (hx : ev ρ x = some (.pointer l)) (hy : ev ρ y = some (.pointer none)) :
    Pu P n ρ H (.binOp .neq t x y t') t'' (.bool (!l.isNone)) :=
  Pu.bin hx hy (fun w => by simp [eqGuard]) (fun w => run_neq (by cases l <;> rfl) (run_equal_nil w))
theorem Pu.not (hx : ev ρ x = some (.bool p)) :
    Pu P n ρ H (.unOp .not t x) t'' (.bool (!p)) := Pu.mk (by simp) (fun a w hr => by simp [execOp, ev_eval hr hx, Op.unary])
theorem Pu.neg (hx : ev ρ x = some (.int k a)) (hc : k.wrap (0 - a) = c) :
    Pu P n ρ H (.unOp .neg t x) t'' (.int k c) := Pu.mk (by simp) (fun a w hr => by simp only [execOp, ev_eval hr hx, Op.unary, Op.intArith, hc]; simp)
theorem Pu.conv [T : TyU P t (.int k)] [T' : TyU P t' (.int k')] (hx : ev ρ x = some (.int k a)) (hc : k'.wrap a = c) :
    Pu P n ρ H (.convert t t' x) t'' (.int k' c) :=
  Pu.mk (by simp) (fun a' w hr => by simp [execOp, ev_eval hr hx, Go.convert, run_under, Conv.intToInt, hc])
theorem Pu.extract {vs : Array Value} {i : Nat} (hx : ev ρ x = some (.tuple vs)) (hi : vs[i]? = some v) :
    Pu P n ρ H (.extract x i) t'' v :=
  Pu.mk (by simp) (fun a' w hr => by simp [execOp, ev_eval hr hx, Instr.extract, hi])
/-- An operation that lays one new block. -/
theorem Ow.fresh {op : Op} {f : Nat → Value} {cs : List Value} (hd : dOk n d = true) (hdf : ∀ c, op ≠ .defer c)
    (hrun : ∀ g w a, Rep n ρ a → St g w H → ∃ w', (execOp a.eval ⟨d, op, t, pos, aft, none⟩).run P w = .ok (.value (f w.heap.size)) w' ∧ St g w' (cl w.heap.size cs * H))
    (h : ∀ b, Ow P r n all rest Q (putE d (f b) ρ) ds (cl b cs * H)) : Ow P r n all (⟨d, op, t, pos, aft, none⟩ :: rest) Q ρ ds H := by
  intro g w a hr hds hs
  obtain ⟨w', h1, h2⟩ := hrun g w a hr hs
  simp only [wpListIn, Region.wanted, if_true, Oper.wpIn]
  refine ⟨fun _ _ => trivial, ?_⟩
  rw [semAt_eq (o := ⟨d, op, t, pos, aft, none⟩) hdf, h1]
  exact h _ g w' _ (hr.putE hd _) (by cases d <;> exact hds) h2
theorem Ow.box {cs : List Value} (hd : dOk n d = true) (hx : ev ρ x = some v) (hc : v.cells = cs.toArray) (h : ∀ b, Ow P r n all rest Q (putE d (.pointer (some ⟨b, 0, none⟩)) ρ) ds (cl b cs * H)) :
    Ow P r n all (⟨d, .box t x, t'', pos, aft, none⟩ :: rest) Q ρ ds H :=
  Ow.fresh (f := fun b => .pointer (some ⟨b, 0, none⟩)) hd (by simp) (fun g w a hr hs => ⟨_, by simp [execOp, ev_eval hr hx, Instr.box, newVar, newRow, hc], hs.new_cl cs t⟩) h
theorem Ow.alloc [S : TyS P t kk bb zc] (hd : dOk n d = true) (h : ∀ b, Ow P r n all rest Q (putE d (.pointer (some ⟨b, 0, none⟩)) ρ) ds (cl b zc * H)) :
    Ow P r n all (⟨d, .alloc t, t'', pos, aft, none⟩ :: rest) Q ρ ds H :=
  Ow.fresh (f := fun b => .pointer (some ⟨b, 0, none⟩)) hd (by simp) (fun g w a hr hs => ⟨_, by
    obtain ⟨zv, hz, hrun⟩ := run_zero (P := P) (t := t) (w := w)
    simp [execOp, Instr.alloc, hrun, newVar, newRow, hz], hs.new_cl zc t⟩) h

/-! ### Calls and contracts -/
/-- WHAT A FUNCTION DOES: called with these arguments where Pre holds (and whatever else), it returns val b for some b, and leaves post b (and that else). -/
structure Fn (P : Program) (f : FuncId) (args : List Value) (Pre : HP) (β : Type u) (val : β → Value) (post : β → HP) : Prop where
  enters : ∀ (args : Array Value) (w : World), (callFunc f args).run P w = .ok (.enter f args) w
  calls : ∀ g F w, St g w (Pre * F) → Calls P f args.toArray w (fun e w' => ∃ b, e = .returned (val b) ∧ St g w' (post b * F))

def Evs (ρ : Env) : List Operand → List Value → Prop
  | [], [] => True
  | x :: xs, v :: vs => ev ρ x = some v ∧ Evs ρ xs vs
  | _, _ => False
theorem Evs.eval {a : Act} (hr : Rep n ρ a) : ∀ {xs : List Operand} {vs : List Value}, Evs ρ xs vs → xs.map a.eval = vs
  | [], [], _ => rfl
  | x :: xs, v :: vs, h => by simp [ev_eval hr h.1, Evs.eval hr h.2]
  | [], _ :: _, h => h.elim
  | _ :: _, [], h => h.elim

theorem Ow.callv {β : Type u} {val : β → Value} {post : β → HP} {f : FuncId} {xs : List Operand} {vs caps : List Value} {ts : Array TypeId} {Pre F : HP}
    (hf : Fn P f (vs ++ caps) Pre β val post) (hd : dOk n d = true) (hx : ev ρ x = some (.func (.func f) #[] caps.toArray)) (hxs : Evs ρ xs vs) (hfr : Ent H (Pre * F))
    (h : ∀ b, Ow P r n all rest Q (putE d (val b) ρ) ds (post b * F)) :
    Ow P r n all (⟨d, .call { callee := .value x, args := xs.toArray, argTypes := ts }, t, pos, aft, none⟩ :: rest) Q ρ ds H := by
  intro g w a hr hds hs
  simp only [wpListIn, Region.wanted, if_true, Oper.wpIn]
  refine ⟨fun _ _ => trivial, ?_⟩
  rw [semAt_eq (o := ⟨d, .call { callee := .value x, args := xs.toArray, argTypes := ts }, t, pos, aft, none⟩) (by simp)]
  have he : (execOp a.eval ⟨d, .call { callee := .value x, args := xs.toArray, argTypes := ts }, t, pos, aft, none⟩).run P w = .ok (.enter f (vs ++ caps).toArray) w := by
    simp [execOp, resolve, ev_eval hr hx, Evs.eval hr hxs, Deferred.ofValue, invoke, hf.enters]
  rw [he, Oper.uponIn_enter]
  refine ⟨fun h => by simp [fen, Fence.wide] at h, ?_⟩
  have hc := hf.calls g F w (hs.mono hfr)
  have hc' : CallsIn (fen r) (0 - 1) P f (vs ++ caps).toArray w (fun e w' => ∃ b, e = .returned (val b) ∧ St g w' (post b * F)) := (callsIn_wide (n := 0 - 1)).2 hc
  refine hc'.mono ?_
  rintro e w' ⟨b, rfl, hs'⟩
  exact h b g w' _ (hr.putE hd _) (by cases d <;> exact hds) hs'
theorem Ow.call {β : Type u} {val : β → Value} {post : β → HP} {f : FuncId} {xs : List Operand} {vs : List Value} {ts : Array TypeId} {Pre F : HP}
    (hf : Fn P f vs Pre β val post) (hd : dOk n d = true) (hxs : Evs ρ xs vs) (hfr : Ent H (Pre * F))
    (h : ∀ b, Ow P r n all rest Q (putE d (val b) ρ) ds (post b * F)) :
    Ow P r n all (⟨d, .call { callee := .value (.func f), args := xs.toArray, argTypes := ts }, t, pos, aft, none⟩ :: rest) Q ρ ds H :=
  Ow.callv (caps := []) (by rw [List.append_nil]; exact hf) hd rfl hxs hfr h

/-! ### The way out -/
def Res (P : Program) (fn : Func) (ρ : Env) (H : HP) (v : Value) : Prop := ∀ n g w a, Rep n ρ a → St g w H → (results fn a.tmps).run P w = .ok v w
theorem res0 {fn : Func} (h : fn.results = #[]) : Res P fn ρ H (.tuple #[]) := fun _ _ _ _ _ _ => by simp [results, h]
theorem res1 {fn : Func} {i : Nat} (h : fn.results = #[.tmp i]) (hi : lk ρ i = some v) : Res P fn ρ H v := fun _ _ _ _ hr _ => by
  have := hr.2 _ _ hi
  simp [results, h, this]
theorem res2 {fn : Func} {i j : Nat} (h : fn.results = #[.tmp i, .tmp j]) (hi : lk ρ i = some v) (hj : lk ρ j = some u) : Res P fn ρ H (.tuple #[v, u]) := fun _ _ _ _ hr _ => by
  have h1 := hr.2 _ _ hi
  have h2 := hr.2 _ _ hj
  simp [results, h, h1, h2]
theorem res3 {fn : Func} {i j l : Nat} {u' : Value} (h : fn.results = #[.tmp i, .tmp j, .tmp l]) (hi : lk ρ i = some v) (hj : lk ρ j = some u) (hl : lk ρ l = some u') : Res P fn ρ H (.tuple #[v, u, u']) := fun _ _ _ _ hr _ => by
  have h1 := hr.2 _ _ hi
  have h2 := hr.2 _ _ hj
  have h3 := hr.2 _ _ hl
  simp [results, h, h1, h2, h3]
theorem resc {fn : Func} {i : Nat} [T : TyA P t false] (h : fn.results = #[.cell i t]) {ad : Addr} (hi : lk ρ i = some (.pointer (some ad))) (hp : Pk H A R) (hr : RdA A ad v) : Res P fn ρ H v := fun _ _ _ _ hrp hs => by
  have h1 := hrp.2 _ _ hi
  simp [results, h, h1, asAddr, loadVar, run_agg, hs.cell hp hr]

/-- Leaving, the marks of loops over functions among the deferred calls. -/
def Leave (P : Program) (fn : Func) {β : Type u} (val : β → Value) (post : β → HP) (F : HP) (ρ : Env) : List Deferred → HP → Prop
  | [], H => ∃ b, Res P fn ρ H (val b) ∧ Ent H (post b * F)
  | d :: ds, H => ∃ D H', d.target = .collected D ∧ Ent H (pt D (.deferred (some [])) * H') ∧ Leave P fn val post F ρ ds (pt D (.deferred none) * H')
def retQ (P : Program) (fn : Func) {β : Type u} (val : β → Value) (post : β → HP) (F : HP) : PostT := fun e ρ ds H => (e = .normal ∨ e = .ret) ∧ Leave P fn val post F ρ ds H

def argsE : Nat → List Value → Env
  | _, [] => []
  | i, v :: l => (i, v) :: argsE (i + 1) l
theorem argsE_spec : ∀ (l : List Value) (i j : Nat) (v : Value), lk (argsE i l) j = some v → i ≤ j ∧ l[j - i]? = some v
  | [], _, _, _, h => by cases h
  | u :: l, i, j, v, h => by
    simp only [argsE, lk] at h
    cases e : Nat.beq i j with
    | true =>
      have := Nat.eq_of_beq_eq_true e
      subst this
      rw [e] at h; simp at h; subst h; simp
    | false =>
      have hne : i ≠ j := Nat.ne_of_beq_eq_false e
      rw [e] at h
      obtain ⟨h1, h2⟩ := argsE_spec l (i + 1) j v h
      refine ⟨by omega, ?_⟩
      rw [show j - i = (j - (i + 1)) + 1 by omega]
      simpa using h2

theorem leave_steps {fn : Func} {β : Type u} {val : β → Value} {post : β → HP} {F : HP} {g : Gh} {a : Act} (hr : Rep n ρ a) : ∀ (ds : List Deferred) (H : HP) (w : World), St g w H → Leave P fn val post F ρ ds H →
    LeavesInM (fen none) 0 P fn a.tmps (fun e w' => ∃ b, e = .returned (val b) ∧ St g w' (post b * F)) ds .returning w
  | [], H, w, hs, ⟨b, h1, h2⟩ => ⟨_, h1 n g w a hr hs, b, rfl, hs.mono h2⟩
  | d :: ds, H, w, hs, ⟨D, H', h1, h2, h3⟩ => by
    have hs' := hs.mono h2
    have hk := run_takeDeferred (P := P) hs'.get
    refine ⟨by simp, .inl ⟨D, _, h1, hk, leave_steps hr ds _ _ (hs'.put rfl rfl ?_ ?_) h3⟩⟩
    · simp [World.putObj, hs'.lt]
    · intro i hi; simp [World.putObj, Array.getElem?_setIfInBounds_ne (Ne.symm hi)]

theorem Fn.of {f : FuncId} {fn : Func} {c : Code} {args : List Value} {Pre : HP} {β : Type u} {val : β → Value} {post : β → HP}
    (hf : P.funcs[f]? = some fn) (hb : fn.body = some c) (hname : (fn.name == "runtime.NumGoroutine") = false) (hn : fn.ntmps = n) (hlen : Nat.ble args.length n = true)
    (h : ∀ F, Cw P none n c (retQ P fn val post F) (argsE 0 args) [] (Pre * F)) : Fn P f args Pre β val post := by
  have hname' : ¬ fn.name = "runtime.NumGoroutine" := by simpa using hname
  refine ⟨fun args w => by simp [callFunc, hf, hname', hb], fun g F w hs => ?_⟩
  have hlen' : args.length ≤ n := Nat.le_of_ble_eq_true hlen
  refine (callsIn_wide (n := 0)).1 (callsIn_of_wp_marks hf hb trivial ?_ rfl)
  have hrep : Rep n (argsE 0 args) { tmps := args.toArray ++ Array.replicate (fn.ntmps - args.toArray.size) undef, defers := [] } := by
    refine ⟨by simp [hn]; omega, fun j v hj => ?_⟩
    obtain ⟨_, h2⟩ := argsE_spec args 0 j v hj
    simp at h2
    have hlt : j < args.length := (List.getElem?_eq_some_iff.1 h2).1
    simp only [Array.getElem?_append, List.size_toArray, hlt, if_true, List.getElem?_toArray]
    exact h2
  refine wpIn_mono (h F g w _ hrep rfl hs) ?_
  rintro e a w' ⟨ρ', H', hr, hs', he, hl⟩
  rcases he with rfl | rfl
  · exact leave_steps hr _ _ _ hs' hl
  · exact leave_steps hr _ _ _ hs' hl
end
end Go.Sl
