/-
  Sl, fifth part: slices that are owned, and what the builtins do with them. Any program.
-/
import Derived.Test.YteomgcebbjoklaaSlD
namespace Go.Sl
open Go
set_option linter.unusedVariables false
universe u

def sbase : Value → Addr
  | .slice (some a) _ _ => a
  | _ => ⟨0, 0, none⟩
structure SlX where
  b : Nat
  pre : List Value
  jk : List Value
  n : Nat
  c : Nat
/-- v is a slice of elements of s cells each; its elements' cells are cs; they, and the places behind them up to its capacity, are ours. -/
def slk (s : Nat) (v : Value) (cs : List Value) : HP := ex fun x : Option SlX => match x with
  | none => lift (v = .slice none 0 0 ∧ cs = [])
  | some x => lift (v = .slice (some ⟨x.b, x.pre.length, none⟩) x.n x.c ∧ cs.length = x.n * s ∧ x.n ≤ x.c ∧ x.c * s ≤ cs.length + x.jk.length) * cl x.b (x.pre ++ (cs ++ x.jk))
abbrev sl (v : Value) (cs : List Value) : HP := slk 1 v cs

theorem addr_add (b o j : Nat) : Addr.add ⟨b, o, none⟩ j = ⟨b, o + j, none⟩ := by
  unfold Addr.add
  split
  · next h => subst h; rfl
  · rfl

theorem slk_nil (s : Nat) : Ent emp (slk s (.slice none 0 0) []) := .of_imp fun h hh => ⟨none, ⟨rfl, rfl⟩, hh⟩
theorem slk_mk {s b n c : Nat} {pre cs jk : List Value} (h1 : cs.length = n * s) (h2 : n ≤ c) (h3 : c * s ≤ cs.length + jk.length) :
    Ent (cl b (pre ++ (cs ++ jk))) (slk s (.slice (some ⟨b, pre.length, none⟩) n c) cs) := .of_imp fun h hh => ⟨some ⟨b, pre, jk, n, c⟩, (lift_star _ _).2 ⟨⟨rfl, h1, h2, h3⟩, hh⟩⟩
theorem slk_mk0 {s b n : Nat} {cs : List Value} (h1 : cs.length = n * s) : Ent (cl b cs) (slk s (.slice (some ⟨b, 0, none⟩) n n) cs) := by
  have := slk_mk (s := s) (b := b) (pre := []) (jk := []) h1 (Nat.le_refl n) (by simp [h1])
  simpa using this

/-- Take a slice's word apart. -/
theorem slk_cases {s : Nat} {v : Value} {cs : List Value} {g : Gh} {w : World} {R : HP} (h : St g w (slk s v cs * R)) :
    (v = .slice none 0 0 ∧ cs = [] ∧ St g w R) ∨
    ∃ b pre jk n c, v = .slice (some ⟨b, pre.length, none⟩) n c ∧ cs.length = n * s ∧ n ≤ c ∧ c * s ≤ cs.length + jk.length ∧ St g w (cl b (pre ++ (cs ++ jk)) * R) := by
  unfold slk at h
  rw [ex_star] at h
  obtain ⟨x, h⟩ := St.ex.1 h
  cases x with
  | none => obtain ⟨⟨h1, h2⟩, h3⟩ := St.lift.1 h; exact .inl ⟨h1, h2, h3⟩
  | some x =>
    simp only [star_assoc] at h
    obtain ⟨⟨h1, h2, h3, h4⟩, h5⟩ := St.lift.1 h
    exact .inr ⟨x.b, x.pre, x.jk, x.n, x.c, h1, h2, h3, h4, h5⟩

theorem rd_slk {s : Nat} {v u : Value} {cs : List Value} {j : Nat} (h : cs[j]? = some u) : RdA (slk s v cs) ((sbase v).add j) u := by
  rintro x ⟨y, hy⟩
  have hlt : j < cs.length := (List.getElem?_eq_some_iff.1 h).1
  cases y with
  | none => obtain ⟨⟨_, h2⟩, _⟩ := hy; subst h2; cases h
  | some y =>
    obtain ⟨⟨h1, h2, h3, h4⟩, h5⟩ := (lift_star _ _).1 hy
    subst h1
    simp only [sbase, addr_add]
    exact rd_cl (by rw [List.getElem?_append_right (by omega), List.getElem?_append_left (by omega)]; simpa using h) x h5
theorem WrA.imp {A B A' B' : HP} {a : Addr} {v : Value} (h : WrA A a v A') (hB : ∀ x, B x → A x) (hA : ∀ x, A' x → B' x) : WrA B a v B' := fun x hx =>
  let ⟨h1, c, t, fz, h2, h3, h4, h5⟩ := h x (hB x hx); ⟨h1, c, t, fz, h2, h3, h4, hA _ h5⟩
theorem wr_slk {s : Nat} {v u : Value} {cs : List Value} {j : Nat} (h : j < cs.length) : WrA (slk s v cs) ((sbase v).add j) u (slk s v (cs.set j u)) := by
  rintro x ⟨y, hy⟩
  cases y with
  | none => obtain ⟨⟨_, h2⟩, _⟩ := hy; subst h2; simp at h
  | some y =>
    obtain ⟨⟨h1, h2, h3, h4⟩, h5⟩ := (lift_star _ _).1 hy
    subst h1
    rw [show (sbase (.slice (some ⟨y.b, y.pre.length, none⟩) y.n y.c)).add j = ⟨y.b, y.pre.length + j, none⟩ from addr_add _ _ _]
    have hw := wr_cl (b := y.b) (cs := y.pre ++ (cs ++ y.jk)) (o := y.pre.length + j) (v := u) (by simp; omega)
    have e : (y.pre ++ (cs ++ y.jk)).set (y.pre.length + j) u = y.pre ++ (cs.set j u ++ y.jk) := by
      rw [List.set_append_right _ _ (by omega), List.set_append_left _ _ (by omega)]
      congr 3
      omega
    rw [e] at hw
    refine (hw.imp (B := cl y.b (y.pre ++ (cs ++ y.jk))) (B' := slk s (.slice (some ⟨y.b, y.pre.length, none⟩) y.n y.c) (cs.set j u)) (fun _ h => h) (fun z hz => ?_)) x h5
    exact ⟨some y, (lift_star _ _).2 ⟨⟨rfl, by simpa using h2, h3, by simpa using h4⟩, hz⟩⟩

variable {td td' : TypeDesc} {kk bb : Nat} {zc : List Value}
section
variable {P : Program} {r : Option Nat} {n : Nat} {Q : PostT} {ρ : Env} {ds : List Deferred} {H R A : HP} {all rest : List Oper} {d : Option Nat} {t t' T e : TypeId} {pos : String} {aft : Array Edge} {v u : Value} {x y z : Operand}
  {k k' : IntKind} {s m cap : Nat} {i : Int} {cs cs2 : List Value} {ts : Array TypeId}

/-- A builtin that reckons alone. -/
theorem Ow.builtin {b : Builtin} {xs : List Operand} {vs : List Value} (hd : dOk n d = true) (hxs : Evs ρ xs vs) {H' : HP}
    (hrun : ∀ g w, St g w H → ∃ w', (∀ consts, (Go.builtin b ts t consts vs.toArray).run P w = .ok (.value v) w') ∧ St g w' H')
    (h : Ow P r n all rest Q (putE d v ρ) ds H') : Ow P r n all (⟨d, .call { callee := .builtin b, args := xs.toArray, argTypes := ts }, t, pos, aft, none⟩ :: rest) Q ρ ds H :=
  Ow.value hd (by simp) (fun g w a hr hs => by
    obtain ⟨w', h1, h2⟩ := hrun g w hs
    refine ⟨w', ?_, h2⟩
    have hm : Array.map a.eval xs.toArray = vs.toArray := by rw [← Evs.eval hr hxs]; simp
    simp only [execOp, resolve, Sem.run_bind, hm]
    simp only [Sem.run_pure, Result.andThen_ok, invoke]
    exact h1 _) h

theorem Pu.builtin {b : Builtin} {xs : List Operand} {vs : List Value} (hxs : Evs ρ xs vs)
    (hrun : ∀ g w, St g w H → ∀ consts, (Go.builtin b ts t consts vs.toArray).run P w = .ok (.value v) w) : Pu P n ρ H (.call { callee := .builtin b, args := xs.toArray, argTypes := ts }) t v :=
  Pu.mks (by simp) (fun {d pos aft gd g} w a hr hs => by
    have hm : Array.map a.eval xs.toArray = vs.toArray := by rw [← Evs.eval hr hxs]; simp
    simp only [execOp, resolve, Sem.run_bind, hm]
    simp only [Sem.run_pure, Result.andThen_ok, invoke]
    exact hrun g w hs _)
theorem Pu.len [TT : TyU P T (.slice e)] {a : Option Addr} (hx : ev ρ x = some (.slice a m cap)) : Pu P n ρ H (.call { callee := .builtin .len, args := #[x], argTypes := #[T] }) t (.int .i64 m) :=
  Pu.builtin (xs := [x]) (vs := [.slice a m cap]) ⟨hx, trivial⟩ (fun g w hs c => by simp [Go.builtin, Builtin.len_, run_under, goInt])
theorem Pu.len_str [TT : TyU P T .string] {b : ByteArray} (hx : ev ρ x = some (.string b)) : Pu P n ρ H (.call { callee := .builtin .len, args := #[x], argTypes := #[T] }) t (.int .i64 b.size) :=
  Pu.builtin (xs := [x]) (vs := [.string b]) ⟨hx, trivial⟩ (fun g w hs c => by simp [Go.builtin, Builtin.len_, run_under, goInt])
theorem Pu.len_slk [TT : TyU P T (.slice e)] (hx : ev ρ x = some v) (hp : Pk H (slk s v cs) R) (hm : cs.length = m * s) (hs0 : 0 < s) : Pu P n ρ H (.call { callee := .builtin .len, args := #[x], argTypes := #[T] }) t (.int .i64 m) :=
  Pu.builtin (xs := [x]) (vs := [v]) ⟨hx, trivial⟩ (fun g w hs c => by
    unfold Pk at hp
    subst hp
    rcases slk_cases hs with ⟨rfl, rfl, _⟩ | ⟨b, pre, jk, m', c, rfl, h2, _, _, _⟩
    · have : m = 0 := by
        rcases Nat.eq_zero_or_pos m with h | h
        · exact h
        · have := Nat.mul_pos h hs0; simp at hm; omega
      subst this
      simp [Go.builtin, Builtin.len_, run_under, goInt]
    · have : m' = m := Nat.eq_of_mul_eq_mul_right hs0 (h2.symm.trans hm)
      subst this
      simp [Go.builtin, Builtin.len_, run_under, goInt])
theorem Pu.len_sl [TT : TyU P T (.slice e)] (hx : ev ρ x = some v) (hp : Pk H (slk 1 v cs) R) : Pu P n ρ H (.call { callee := .builtin .len, args := #[x], argTypes := #[T] }) t (.int .i64 cs.length) :=
  Pu.len_slk hx hp (by simp) (by omega)

theorem Pu.idx [TT : TyU P T (.slice e)] [S : TyS P e s bb zc] {a : Addr} (hx : ev ρ x = some (.slice (some a) m cap)) (hy : ev ρ y = some (.int k i)) (hi : 0 ≤ i ∧ i < m) :
    Pu P n ρ H (.indexAddr T x y) t (.pointer (some (a.add (i.toNat * s)))) :=
  Pu.mk (by simp) (fun a' w hr => by simp [execOp, ev_eval hr hx, ev_eval hr hy, Instr.indexAt, asIntOf, run_under, run_size, hi.1, hi.2])
theorem Pu.idxA {len : Nat} [TT : TyU P T (.array len e)] [S : TyS P e s bb zc] {a : Addr} (hx : ev ρ x = some (.pointer (some a))) (hy : ev ρ y = some (.int k i)) (hi : 0 ≤ i ∧ i < len) :
    Pu P n ρ H (.indexAddr T x y) t (.pointer (some (a.add (i.toNat * s)))) :=
  Pu.mk (by simp) (fun a' w hr => by simp [execOp, ev_eval hr hx, ev_eval hr hy, Instr.indexAt, Instr.sureAddr, asIntOf, run_under, run_size, hi.1, hi.2])
theorem Pu.idx_slk [TT : TyU P T (.slice e)] [S : TyS P e s bb zc] (hx : ev ρ x = some v) (hy : ev ρ y = some (.int k i)) (hp : Pk H (slk s v cs) R) (hs0 : 0 < s) (hi : 0 ≤ i ∧ i * s < cs.length) :
    Pu P n ρ H (.indexAddr T x y) t (.pointer (some ((sbase v).add (i.toNat * s)))) :=
  Pu.mks (by simp) (fun w a' hr hst => by
    unfold Pk at hp
    subst hp
    rcases slk_cases hst with ⟨rfl, rfl, _⟩ | ⟨b, pre, jk, m', c, rfl, h2, _, _, _⟩
    · have := Int.mul_nonneg hi.1 (Int.natCast_nonneg s); simp at hi; omega
    · have hlt : i < m' := by
        have h3 := hi.2
        rw [h2] at h3
        push_cast at h3
        exact Int.lt_of_mul_lt_mul_right h3 (by omega)
      simp [execOp, ev_eval hr hx, ev_eval hr hy, Instr.indexAt, asIntOf, run_under, run_size, hi.1, hlt, sbase])
theorem Pu.idx_sl [TT : TyU P T (.slice e)] [S : TyS P e 1 bb zc] (hx : ev ρ x = some v) (hy : ev ρ y = some (.int k i)) (hp : Pk H (slk 1 v cs) R) (hi : 0 ≤ i ∧ i < cs.length) :
    Pu P n ρ H (.indexAddr T x y) t (.pointer (some ((sbase v).add i.toNat))) := by
  have := Pu.idx_slk (P := P) (n := n) (t := t) (T := T) hx hy hp (by omega) (by simpa using hi)
  simpa using this
end
attribute [irreducible] slk
end Go.Sl
