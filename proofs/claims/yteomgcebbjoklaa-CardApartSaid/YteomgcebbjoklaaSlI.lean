/-
  Sl, ninth part: more operations. Any program.
-/
import Derived.Test.YteomgcebbjoklaaSlH
namespace Go.Sl
open Go
set_option linter.unusedVariables false
universe u
variable {td td' : TypeDesc} {kk bb : Nat} {zc : List Value}
section
variable {P : Program} {r : Option Nat} {n : Nat} {Q : PostT} {ρ : Env} {ds : List Deferred} {H R A : HP} {all rest : List Oper} {d : Option Nat} {t t' t'' T e : TypeId} {pos : String} {aft : Array Edge} {v v2 u : Value} {x y z : Operand}
  {k k' : IntKind} {s m cap n2 b o : Nat} {i j a c : Int} {cs cs2 : List Value} {ts : Array TypeId}

theorem Pu.max (hx : ev ρ x = some (.int k i)) (hy : ev ρ y = some (.int k' j)) : Pu P n ρ H (.call { callee := .builtin .max, args := #[x, y], argTypes := ts }) t (.int k (Max.max i j)) :=
  Pu.builtin (xs := [x, y]) (vs := [.int k i, .int k' j]) ⟨hx, hy, trivial⟩ (fun g w hs c => by
    have : (if j > i then j else i) = Max.max i j := by rw [Int.max_def]; split <;> split <;> omega
    simp [Go.builtin, Builtin.max_, Builtin.max2, this])
theorem Pu.min (hx : ev ρ x = some (.int k i)) (hy : ev ρ y = some (.int k' j)) : Pu P n ρ H (.call { callee := .builtin .min, args := #[x, y], argTypes := ts }) t (.int k (Min.min i j)) :=
  Pu.builtin (xs := [x, y]) (vs := [.int k i, .int k' j]) ⟨hx, hy, trivial⟩ (fun g w hs c => by
    have : (if j < i then j else i) = Min.min i j := by rw [Int.min_def]; split <;> split <;> omega
    simp [Go.builtin, Builtin.min_, Builtin.min2, this])

/-! comparisons that are decided -/
theorem Pu.lt_t (hx : ev ρ x = some (.int k a)) (hy : ev ρ y = some (.int k c)) (h : a < c) : Pu P n ρ H (.binOp .lss t x y t') t'' (.bool true) := by have := Pu.lt (P := P) (n := n) (H := H) (t := t) (t' := t') (t'' := t'') hx hy; rwa [decide_eq_true h] at this
theorem Pu.lt_f (hx : ev ρ x = some (.int k a)) (hy : ev ρ y = some (.int k c)) (h : ¬ a < c) : Pu P n ρ H (.binOp .lss t x y t') t'' (.bool false) := by have := Pu.lt (P := P) (n := n) (H := H) (t := t) (t' := t') (t'' := t'') hx hy; rwa [decide_eq_false h] at this
theorem Pu.le_t (hx : ev ρ x = some (.int k a)) (hy : ev ρ y = some (.int k c)) (h : a ≤ c) : Pu P n ρ H (.binOp .leq t x y t') t'' (.bool true) := by have := Pu.le (P := P) (n := n) (H := H) (t := t) (t' := t') (t'' := t'') hx hy; rwa [decide_eq_true h] at this
theorem Pu.le_f (hx : ev ρ x = some (.int k a)) (hy : ev ρ y = some (.int k c)) (h : ¬ a ≤ c) : Pu P n ρ H (.binOp .leq t x y t') t'' (.bool false) := by have := Pu.le (P := P) (n := n) (H := H) (t := t) (t' := t') (t'' := t'') hx hy; rwa [decide_eq_false h] at this
theorem Pu.gt_t (hx : ev ρ x = some (.int k a)) (hy : ev ρ y = some (.int k c)) (h : c < a) : Pu P n ρ H (.binOp .gtr t x y t') t'' (.bool true) := by have := Pu.gt (P := P) (n := n) (H := H) (t := t) (t' := t') (t'' := t'') hx hy; rwa [decide_eq_true h] at this
theorem Pu.gt_f (hx : ev ρ x = some (.int k a)) (hy : ev ρ y = some (.int k c)) (h : ¬ c < a) : Pu P n ρ H (.binOp .gtr t x y t') t'' (.bool false) := by have := Pu.gt (P := P) (n := n) (H := H) (t := t) (t' := t') (t'' := t'') hx hy; rwa [decide_eq_false h] at this
theorem Pu.ge_t (hx : ev ρ x = some (.int k a)) (hy : ev ρ y = some (.int k c)) (h : c ≤ a) : Pu P n ρ H (.binOp .geq t x y t') t'' (.bool true) := by have := Pu.ge (P := P) (n := n) (H := H) (t := t) (t' := t') (t'' := t'') hx hy; rwa [decide_eq_true h] at this
theorem Pu.ge_f (hx : ev ρ x = some (.int k a)) (hy : ev ρ y = some (.int k c)) (h : ¬ c ≤ a) : Pu P n ρ H (.binOp .geq t x y t') t'' (.bool false) := by have := Pu.ge (P := P) (n := n) (H := H) (t := t) (t' := t') (t'' := t'') hx hy; rwa [decide_eq_false h] at this
theorem Pu.eq_t (hx : ev ρ x = some (.int k a)) (hy : ev ρ y = some (.int k c)) (h : a = c) : Pu P n ρ H (.binOp .eql t x y t') t'' (.bool true) := by have := Pu.eqI (P := P) (n := n) (H := H) (t := t) (t' := t') (t'' := t'') hx hy; rwa [decide_eq_true h] at this
theorem Pu.eq_f (hx : ev ρ x = some (.int k a)) (hy : ev ρ y = some (.int k c)) (h : ¬ a = c) : Pu P n ρ H (.binOp .eql t x y t') t'' (.bool false) := by have := Pu.eqI (P := P) (n := n) (H := H) (t := t) (t' := t') (t'' := t'') hx hy; rwa [decide_eq_false h] at this
theorem Pu.ne_t (hx : ev ρ x = some (.int k a)) (hy : ev ρ y = some (.int k c)) (h : ¬ a = c) : Pu P n ρ H (.binOp .neq t x y t') t'' (.bool true) := by have := Pu.neI (P := P) (n := n) (H := H) (t := t) (t' := t') (t'' := t'') hx hy; rwa [decide_eq_true h] at this
theorem Pu.ne_f (hx : ev ρ x = some (.int k a)) (hy : ev ρ y = some (.int k c)) (h : a = c) : Pu P n ρ H (.binOp .neq t x y t') t'' (.bool false) := by have := Pu.neI (P := P) (n := n) (H := H) (t := t) (t' := t') (t'' := t'') hx hy; rwa [decide_eq_false (by simpa using h)] at this

/-- A struct or an array, put together. -/
theorem Pu.build {ps : List (Nat × Operand)} {vs : List Value} {cs : List Value} (hxs : Evs ρ (ps.map (·.2)) vs) (hb : ∀ w, (Instr.build T ((ps.map (·.1)).zip vs).toArray).run P w = .ok (.agg cs.toArray) w) :
    Pu P n ρ H (.build T ps.toArray) t (.agg cs.toArray) :=
  Pu.mk (by simp) (fun a w hr => by
    have hm : (ps.toArray.map fun (i, x) => (i, a.eval x)) = ((ps.map (·.1)).zip vs).toArray := by
      rw [← Evs.eval hr hxs]
      simp [List.zip_map', List.map_map]
    simp only [execOp, hm, Sem.run_bind, hb, Result.andThen_ok]
    rfl)
theorem Ow.buildSlice [TT : TyU P T (.slice e)] {ps : List (Nat × Operand)} {vs : List Value} {cs : List Value} (hd : dOk n d = true) (hxs : Evs ρ (ps.map (·.2)) vs)
    (hb : ∀ w, (Instr.buildSlice T m ((ps.map (·.1)).zip vs).toArray).run P w = .ok (.slice (some ⟨w.heap.size, 0, none⟩) m m) { w with heap := w.heap.push (.cells cs.toArray e (0, 0)) })
    (h : ∀ b, Ow P r n all rest Q (putE d (.slice (some ⟨b, 0, none⟩) m m) ρ) ds (cl b cs * H)) :
    Ow P r n all (⟨d, .buildSlice T m ps.toArray, t, pos, aft, none⟩ :: rest) Q ρ ds H :=
  Ow.fresh (f := fun b => .slice (some ⟨b, 0, none⟩) m m) hd (by simp) (fun g w a hr hs => by
    have hm : (ps.toArray.map fun (i, x) => (i, a.eval x)) = ((ps.map (·.1)).zip vs).toArray := by
      rw [← Evs.eval hr hxs]
      simp [List.zip_map', List.map_map]
    refine ⟨_, ?_, hs.new_cl cs e⟩
    simp only [execOp, hm, Sem.run_bind, hb, Result.andThen_ok]
    rfl) h

/-! slices of integers -/
theorem Pu.load_sli [T : TyA P t false] {l : List Int} {j : Nat} (hx : ev ρ x = some (.pointer (some ((sbase v).add j)))) (hp : Pk H (slk 1 v (l.map vi)) R) (hj : j < l.length) : Pu P n ρ H (.load t x) t' (vi l[j]!) :=
  Pu.load_slk hx hp (by simp [hj])
theorem Ow.store_sli [S : TyS P t 1 bb zc] {l : List Int} {j : Nat} {a : Int} (hd : dOk n d = true) (hx : ev ρ x = some (.pointer (some ((sbase v).add j)))) (hy : ev ρ y = some (vi a)) (hp : Pk H (slk 1 v (l.map vi)) R) (hj : j < l.length)
    (h : Ow P r n all rest Q (putE d undef ρ) ds (slk 1 v ((l.set j a).map vi) * R)) : Ow P r n all (⟨d, .store t x y, t', pos, aft, none⟩ :: rest) Q ρ ds H :=
  Ow.store_slk hd hx hy rfl hp (by simpa using hj) (by rw [← List.map_set]; exact h)
theorem Ow.slice_sli [TT : TyU P T (.slice e)] [S : TyS P e 1 bb zc] {l : List Int} (hd : dOk n d = true) (hx : ev ρ x = some v) (hy : ev ρ y = some (.int k i)) (hp : Pk H (slk 1 v (l.map vi)) R) (hi : 0 ≤ i ∧ i ≤ l.length)
    (h : ∀ v' : SV, Ow P r n all rest Q (putE d v'.v ρ) ds (slk 1 v'.v ((l.take i.toNat).map vi) * R)) :
    Ow P r n all (⟨d, .slice T x none (some y) none, t, pos, aft, none⟩ :: rest) Q ρ ds H :=
  Ow.slice_front (hi := i.toNat) (m := l.length) (k := k) hd hx (by rw [hy, Int.toNat_of_nonneg hi.1]) hp (by simp) (by omega) (by omega) (fun v' => by rw [Nat.mul_one, ← List.map_take]; exact h v')
theorem Ow.append_sli {z0 : Value} [TT : TyU P T (.slice e)] [S : TyS P e 1 8 [z0]] {l : List Int} {l2 : List Int} (hd : dOk n d = true) (hx : ev ρ x = some v) (hy : ev ρ y = some v2) (hp : Pk H (slk 1 v (l.map vi)) R) (hq : RdSl R 1 v2 l2.length (l2.map vi)) (hbytes : l.length + l2.length ≤ 10000000000)
    (h : ∀ v' : SV, Ow P r n all rest Q (putE d v'.v ρ) ds (slk 1 v'.v ((l ++ l2).map vi) * R)) :
    Ow P r n all (⟨d, .call { callee := .builtin .append, args := #[x, y], argTypes := #[T, T] }, t, pos, aft, none⟩ :: rest) Q ρ ds H :=
  Ow.append (m := l.length) hd hx hy hp hq (by simp [vi, Value.oneCell']) (by simp) (by omega) rfl (by omega) (fun v' => by rw [← List.map_append]; exact h v')
theorem rdSl_cli {b n2 cap : Nat} {l2 : List Int} (h : l2.length = n2) : RdSl (cl b (l2.map vi)) 1 (.slice (some ⟨b, 0, none⟩) n2 cap) l2.length (l2.map vi) := by subst h; exact rdSl_cl (by simp)
theorem Ent.addnil {K : HP} (s : Nat) (h : Ent (slk s (.slice none 0 0) [] * H) K) : Ent H K := Ent.trans (Ent.trans (Ent.of_eq (emp_star H).symm) (Ent.left (slk_nil s))) h
end
end Go.Sl
