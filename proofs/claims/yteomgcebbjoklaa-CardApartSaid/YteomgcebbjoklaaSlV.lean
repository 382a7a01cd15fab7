/- Slices of structs that are only read; a place to part the ways at a call; appending one slice to another. -/
import Derived.Test.YteomgcebbjoklaaSlS
namespace Go.Sl
open Go
set_option linter.unusedVariables false
universe u
variable {P : Program} {r : Option Nat} {n : Nat} {Q : PostT} {ρ : Env} {ds : List Deferred} {H A R : HP} {t t' t'' T e : TypeId} {x y : Operand} {all rest : List Oper} {d : Option Nat} {pos : String} {aft : Array Edge} {v v2 : Value} {s bb kk m cap : Nat} {zc : List Value} {k : IntKind} {i : Int} {α : Type} {a : Option Addr} {ts : Array TypeId}
theorem Pu.loadN_rof [Inhabited α] {f : α → List Value} [TA : TyA P t true] [S : TyS P t s bb zc] [F : Fl f s] {L : List α} {j : Nat} {z : α} (hr : Ro A a m s (L.flatMap f)) (hp : Pk H A R) (hx : ev ρ x = some (.pointer (some ((adr a).add (j * s))))) (hj : j < L.length) (hz : L[j]! = z) :
    Pu P n ρ H (.load t x) t' (.agg (f z).toArray) := Pu.load_roN (vs := f z) hr hp hx (hz ▸ flat_at L j hj) (F.h _)
theorem Pu.idx_rof {f : α → List Value} [TT : TyU P T (.slice e)] [S : TyS P e s bb zc] [F : Fl f s] {L : List α} {j : Nat} (hr : Ro A a m s (L.flatMap f)) (hx : ev ρ x = some (.slice a m cap)) (hy : ev ρ y = some (.int k (j : Int))) (hi : j < m) :
    Pu P n ρ H (.indexAddr T x y) t (.pointer (some ((adr a).add (j * s)))) := Pu.idx_ron hr hx hy F.p hi
theorem Ow.callAt (f : FuncId) {xs : Array Operand} (h : Ow P r n all (⟨d, .call { callee := .value (.func f), args := xs, argTypes := ts }, t, pos, aft, none⟩ :: rest) Q ρ ds H) : Ow P r n all (⟨d, .call { callee := .value (.func f), args := xs, argTypes := ts }, t, pos, aft, none⟩ :: rest) Q ρ ds H := h
theorem rdSl_sli {l2 : List Int} : RdSl (slk 1 v (l2.map vi)) 1 v l2.length (l2.map vi) := rdSl_slk (by simp) (by omega)
theorem Ow.append_sls {z0 : Value} [TT : TyU P T (.slice e)] [S : TyS P e 1 8 [z0]] {l : List Int} {l2 : List Int} {R2 : HP} (hd : dOk n d = true) (hx : ev ρ x = some v) (hy : ev ρ y = some v2) (hp : Pk H (slk 1 v (l.map vi)) R) (hq : Pk R (slk 1 v2 (l2.map vi)) R2) (hbytes : l.length + l2.length ≤ 10000000000)
    (h : ∀ v' : SV, Ow P r n all rest Q (putE d v'.v ρ) ds (slk 1 v'.v ((l ++ l2).map vi) * R)) :
    Ow P r n all (⟨d, .call { callee := .builtin .append, args := #[x, y], argTypes := #[T, T] }, t, pos, aft, none⟩ :: rest) Q ρ ds H := Ow.append_sli hd hx hy hp (rdSl_sli.of_pk hq) hbytes h
end Go.Sl
