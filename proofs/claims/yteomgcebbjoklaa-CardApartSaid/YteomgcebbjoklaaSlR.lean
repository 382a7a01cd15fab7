/- Slices whose elements are structs: s cells each, as f says of the element. -/
import Derived.Test.YteomgcebbjoklaaSlQ
namespace Go.Sl
open Go
set_option linter.unusedVariables false
universe u
variable {P : Program} {r : Option Nat} {n : Nat} {Q : PostT} {ρ : Env} {ds : List Deferred} {H A R : HP} {t t' t'' T e : TypeId} {x y : Operand} {all rest : List Oper} {d : Option Nat} {pos : String} {aft : Array Edge} {v v2 : Value} {s bb kk : Nat} {zc : List Value} {k : IntKind} {i : Int} {α : Type}
theorem pkE : Pk H emp H := (emp_star H).symm
/-- Each element has s cells. -/
class Fl (f : α → List Value) (s : outParam Nat) : Prop where
  h : ∀ x, (f x).length = s
  p : 0 < s
  o : ∀ x, (f x).all (fun u => u.oneCell') = true
theorem flat_len {f : α → List Value} [F : Fl f s] (L : List α) : (L.flatMap f).length = L.length * s := by
  induction L with
  | nil => simp
  | cons x L ih => rw [List.flatMap_cons, List.length_append, F.h, ih, List.length_cons, Nat.add_mul]; omega
theorem flat_at [Inhabited α] {f : α → List Value} [F : Fl f s] : ∀ (L : List α) (j : Nat), j < L.length → ((L.flatMap f).drop (j * s)).take s = f L[j]!
  | [], j, h => by simp at h
  | x :: L, 0, h => by
    rw [List.flatMap_cons, Nat.zero_mul, List.drop_zero]
    have := F.h x
    simp [← this]
  | x :: L, j + 1, h => by
    have hx := F.h x
    rw [List.flatMap_cons, List.drop_append, List.drop_of_length_le (by rw [hx, Nat.add_mul]; omega), List.nil_append, hx, show (j + 1) * s - s = j * s by rw [Nat.add_mul]; omega]
    rw [flat_at L j (by simpa using h)]
    simp
theorem Pu.len_st {f : α → List Value} [F : Fl f s] {L : List α} [TT : TyU P T (.slice e)] (hx : ev ρ x = some v) (hp : Pk H (slk s v (L.flatMap f)) R) : Pu P n ρ H (.call { callee := .builtin .len, args := #[x], argTypes := #[T] }) t (.int .i64 L.length) :=
  Pu.len_slk hx hp (flat_len L) F.p
theorem Pu.len_stl {f : α → List Value} [F : Fl f s] {L : List α} (m : Nat) [TT : TyU P T (.slice e)] (hx : ev ρ x = some v) (hp : Pk H (slk s v (L.flatMap f)) R) (hm : L.length = m) : Pu P n ρ H (.call { callee := .builtin .len, args := #[x], argTypes := #[T] }) t (.int .i64 m) := hm ▸ Pu.len_st hx hp
theorem Pu.idx_st {f : α → List Value} [TT : TyU P T (.slice e)] [S : TyS P e s bb zc] [F : Fl f s] {L : List α} (hx : ev ρ x = some v) (hy : ev ρ y = some (.int k i)) (hp : Pk H (slk s v (L.flatMap f)) R) (hi : 0 ≤ i ∧ i < L.length) :
    Pu P n ρ H (.indexAddr T x y) t (.pointer (some ((sbase v).add (i.toNat * s)))) :=
  Pu.idx_slk hx hy hp F.p ⟨hi.1, by rw [flat_len (f := f)]; have := F.p; exact_mod_cast Int.mul_lt_mul_of_pos_right hi.2 (by omega)⟩
theorem Pu.idx_stn {f : α → List Value} [TT : TyU P T (.slice e)] [S : TyS P e s bb zc] [F : Fl f s] {L : List α} {j : Nat} (hx : ev ρ x = some v) (hy : ev ρ y = some (.int k (j : Int))) (hp : Pk H (slk s v (L.flatMap f)) R) (hi : j < L.length) :
    Pu P n ρ H (.indexAddr T x y) t (.pointer (some ((sbase v).add (j * s)))) := by
  have := Pu.idx_st (P := P) (n := n) (t := t) (T := T) (f := f) (k := k) hx hy hp ⟨by omega, by omega⟩
  rwa [Int.toNat_natCast] at this
theorem Pu.loadN_st [Inhabited α] {f : α → List Value} [TA : TyA P t true] [S : TyS P t s bb zc] [F : Fl f s] {L : List α} {j : Nat} (hx : ev ρ x = some (.pointer (some ((sbase v).add (j * s))))) (hp : Pk H (slk s v (L.flatMap f)) R) (hj : j < L.length) :
    Pu P n ρ H (.load t x) t' (.agg (f L[j]!).toArray) :=
  Pu.loadN hx hp (fun i u hu => by
    rw [addr_add2]
    refine rd_slk ?_
    rw [← flat_at (f := f) L j hj, List.getElem?_take] at hu
    split at hu
    · rw [List.getElem?_drop] at hu; exact hu
    · cases hu) (F.h _)
theorem Ow.append_st {f : α → List Value} [TT : TyU P T (.slice e)] [S : TyS P e s bb zc] [F : Fl f s] {L : List α} {b cap : Nat} {cs : List Value} (w : α) (hd : dOk n d = true) (hx : ev ρ x = some v) (hy : ev ρ y = some (.slice (some ⟨b, 0, none⟩) 1 cap)) (hp : Pk H (slk s v (L.flatMap f)) R) {R2 : HP} (hq : Pk R (cl b cs) R2) (hw : cs = f w) (hz : zc.length = s)
    (hbytes : (L.length + 1) * bb ≤ 140737488355328 ∧ L.length + 1 ≤ 9223372036854775807)
    (h : ∀ v' : SV, Ow P r n all rest Q (putE d v'.v ρ) ds (slk s v'.v ((L ++ [w]).flatMap f) * R)) :
    Ow P r n all (⟨d, .call { callee := .builtin .append, args := #[x, y], argTypes := #[T, T] }, t, pos, aft, none⟩ :: rest) Q ρ ds H :=
  Ow.append (m := L.length) (n2 := 1) (cs2 := f w) hd hx hy hp ((rdSl_cl (by rw [F.h, Nat.one_mul])).of_pk (hw ▸ hq)) (fun u hu => List.all_eq_true.1 (F.o w) u hu) (flat_len L) F.p hz hbytes (fun v' => by rw [show L.flatMap f ++ f w = (L ++ [w]).flatMap f by simp]; exact h v')
theorem Cw.addnilS {s : Nat} {c : Code} (f : α → List Value) (h : Cw P r n c Q ρ ds (slk s (.slice none 0 0) (([] : List α).flatMap f) * H)) : Cw P r n c Q ρ ds H := Cw.ent (Ent.addnil s (Ent.refl _)) h
/-- An array that all hold, read as a whole. -/
theorem Pu.index_tb {len : Nat} {cs : List Value} [TT : TyU P T (.array len e)] [S : TyS P e 1 bb zc] [TA : TyA P e false] (hx : ev ρ x = some (.agg cs.toArray)) (hy : ev ρ y = some (.int k i)) (hi : 0 ≤ i ∧ i < len) (hc : cs[i.toNat]? = some v) :
    Pu P n ρ H (.index T x y) t v := Pu.index_arr hx hy hi hc
section
universe v
variable {β : Type v} {val : β → Value} {post : β → HP} {ts : Array TypeId}
/-- A call of a function value whose contract wants nothing. -/
theorem Ow.callvE0 {f : FuncId} {xs : List Operand} {vs caps args : List Value}
    (hx : ev ρ x = some (.func (.func f) #[] caps.toArray)) (hxs : Evs ρ xs vs) (ha : vs ++ caps = args) (hd : dOk n d = true) (hf : Fn P f args emp β val post)
    (h : ∀ b, Ow P r n all rest Q (putE d (val b) ρ) ds (post b * H)) :
    Ow P r n all (⟨d, .call { callee := .value x, args := xs.toArray, argTypes := ts }, t, pos, aft, none⟩ :: rest) Q ρ ds H := Ow.callvE hx hxs ha pkE hd hf h
theorem Ow.callvSp0 {p : Prop} {ip : Decidable p} {f : FuncId} {xs : List Operand} {vs caps args : List Value}
    (hx : ev ρ x = some (.func (.func f) #[] caps.toArray)) (hxs : Evs ρ xs vs) (ha : vs ++ caps = args) (hd : dOk n d = true) (hf : Fn P f args emp Unit (fun _ => .bool (decide p)) (fun _ => emp))
    (ht : p → Ow P r n all rest Q (putE d (.bool true) ρ) ds H) (hn : ¬ p → Ow P r n all rest Q (putE d (.bool false) ρ) ds H) :
    Ow P r n all (⟨d, .call { callee := .value x, args := xs.toArray, argTypes := ts }, t, pos, aft, none⟩ :: rest) Q ρ ds H := Ow.callvE0 hx hxs ha hd hf (fun _ => Ow.unemp (by
      by_cases h : p
      · rw [decide_eq_true h]; exact ht h
      · rw [decide_eq_false h]; exact hn h))
theorem Ow.callIf0 {p : Prop} {ip : Decidable p} {f : FuncId} {xs : List Operand} {vs : List Value} {c1 c2 : Int}
    (hxs : Evs ρ xs vs) (hd : dOk n d = true) (hf : Fn P f vs emp Unit (fun _ => vi (if p then c1 else c2)) (fun _ => emp))
    (ht : p → Ow P r n all rest Q (putE d (vi c1) ρ) ds H) (hn : ¬ p → Ow P r n all rest Q (putE d (vi c2) ρ) ds H) :
    Ow P r n all (⟨d, .call { callee := .value (.func f), args := xs.toArray, argTypes := ts }, t, pos, aft, none⟩ :: rest) Q ρ ds H := Ow.callE0 hxs hd hf (fun _ => Ow.unemp (by
      by_cases h : p
      · rw [if_pos h]; exact ht h
      · rw [if_neg h]; exact hn h))
theorem Pu.add_e {a b c : Int} (hx : ev ρ x = some (.int .i64 a)) (hy : ev ρ y = some (.int .i64 b)) (hb : -9223372036854775808 ≤ a + b ∧ a + b ≤ 9223372036854775807) (hc : a + b = c) : Pu P n ρ H (.binOp .add t x y t') t'' (.int .i64 c) := hc ▸ Pu.add_i hx hy hb
theorem Pu.rem_pe {a b c : Int} (hx : ev ρ x = some (.int k a)) (hy : ev ρ y = some (.int k b)) (hb : 0 ≤ a ∧ 0 < b) (hc : a % b = c) : Pu P n ρ H (.binOp .rem t x y t') t'' (.int k c) := hc ▸ Pu.rem_p hx hy hb
end
end Go.Sl
