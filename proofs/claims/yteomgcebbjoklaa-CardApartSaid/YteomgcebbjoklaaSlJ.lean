/-
  Sl, tenth part: slices that are only read; conversions. Any program.
-/
import Derived.Test.YteomgcebbjoklaaSlI
namespace Go.Sl
open Go
set_option linter.unusedVariables false
universe u
variable {td td' : TypeDesc} {kk bb : Nat} {zc : List Value}
theorem addr_add2 (a : Addr) (m n : Nat) : (a.add m).add n = a.add (m + n) := by
  unfold Addr.add
  by_cases hm : m = 0
  · subst hm; simp
  · by_cases hn : n = 0
    · subst hn; simp
    · simp [hm, hn, Nat.add_assoc]
def adr (a : Option Addr) : Addr := a.getD ⟨0, 0, none⟩
/-- What A holds tells the n elements of the slice (a, n), s cells each. -/
def Ro (A : HP) (a : Option Addr) (n s : Nat) (cs : List Value) : Prop := cs.length = n * s ∧ ∀ j u, cs[j]? = some u → a.isSome = true ∧ RdA A ((adr a).add j) u
section
variable {P : Program} {r : Option Nat} {n : Nat} {Q : PostT} {ρ : Env} {ds : List Deferred} {H R A : HP} {all rest : List Oper} {d : Option Nat} {t t' t'' T e : TypeId} {pos : String} {aft : Array Edge} {v v2 u : Value} {x y z : Operand}
  {k k' : IntKind} {s m cap n2 b o : Nat} {i j c : Int} {cs cs2 : List Value} {ts : Array TypeId} {a : Option Addr}
theorem Ro.get (hr : Ro A a m s cs) {j : Nat} (hj : j < cs.length) : ∃ ad, a = some ad := by
  have := (hr.2 j cs[j] (by simp [hj])).1
  cases a with
  | none => cases this
  | some ad => exact ⟨ad, rfl⟩
theorem Pu.idx_ro [TT : TyU P T (.slice e)] [S : TyS P e s bb zc] (hr : Ro A a m s cs) (hx : ev ρ x = some (.slice a m cap)) (hy : ev ρ y = some (.int k i)) (hs0 : 0 < s) (hi : 0 ≤ i ∧ i < m) :
    Pu P n ρ H (.indexAddr T x y) t (.pointer (some ((adr a).add (i.toNat * s)))) := by
  have hlt : i.toNat * s < cs.length := by rw [hr.1]; exact Nat.mul_lt_mul_of_pos_right (by omega) hs0
  obtain ⟨ad, rfl⟩ := hr.get hlt
  exact Pu.idx hx hy hi
theorem Pu.idx_roi [TT : TyU P T (.slice e)] [S : TyS P e 1 bb zc] (hr : Ro A a m 1 cs) (hx : ev ρ x = some (.slice a m cap)) (hy : ev ρ y = some (.int k i)) (hi : 0 ≤ i ∧ i < m) :
    Pu P n ρ H (.indexAddr T x y) t (.pointer (some ((adr a).add i.toNat))) := by
  have := Pu.idx_ro (P := P) (n := n) (t := t) (T := T) (H := H) hr hx hy (by omega) hi
  simpa using this
theorem Pu.load_roi [TA : TyA P t false] {l : List Int} {j : Nat} (hr : Ro A a m 1 (l.map vi)) (hp : Pk H A R) (hx : ev ρ x = some (.pointer (some ((adr a).add j)))) (hj : j < l.length) :
    Pu P n ρ H (.load t x) t' (vi l[j]!) := Pu.load hx hp (hr.2 j _ (by simp [hj])).2
theorem Pu.load_rob [TA : TyA P t false] {l : List Bool} {j : Nat} (hr : Ro A a m 1 (l.map .bool)) (hp : Pk H A R) (hx : ev ρ x = some (.pointer (some ((adr a).add j)))) (hj : j < l.length) :
    Pu P n ρ H (.load t x) t' (.bool l[j]!) := Pu.load hx hp (hr.2 j _ (by simp [hj])).2
theorem Pu.load_ro1 [TA : TyA P t false] {j : Nat} (hr : Ro A a m s cs) (hp : Pk H A R) (hx : ev ρ x = some (.pointer (some ((adr a).add j)))) (hj : cs[j]? = some u) :
    Pu P n ρ H (.load t x) t' u := Pu.load hx hp (hr.2 j _ hj).2
/-- A whole element. -/
theorem Pu.load_roN [TA : TyA P t true] [S : TyS P t s bb zc] {j : Nat} {vs : List Value} (hr : Ro A a m s cs) (hp : Pk H A R) (hx : ev ρ x = some (.pointer (some ((adr a).add j)))) (hj : (cs.drop j).take s = vs) (hk : vs.length = s) :
    Pu P n ρ H (.load t x) t' (.agg vs.toArray) :=
  Pu.loadN hx hp (fun o u ho => by
    subst hj
    rw [List.getElem?_take] at ho
    split at ho
    · rw [List.getElem?_drop] at ho
      have := (hr.2 (j + o) u ho)
      obtain ⟨ad, rfl⟩ : ∃ ad, a = some ad := by cases a with | none => cases this.1 | some ad => exact ⟨ad, rfl⟩
      have h2 := this.2
      simp only [adr, Option.getD_some] at h2 ⊢
      rw [addr_add2]; exact h2
    · cases ho) hk
theorem Pu.conv_i [T : TyU P t (.int k)] [T' : TyU P t' (.int .i64)] (hx : ev ρ x = some (.int k i)) (hc : -9223372036854775808 ≤ i ∧ i ≤ 9223372036854775807) :
    Pu P n ρ H (.convert t t' x) t'' (.int .i64 i) := Pu.conv hx (wrap_i64 hc)
theorem Pu.conv_u8 [T : TyU P t (.int k)] [T' : TyU P t' (.int .u8)] (hx : ev ρ x = some (.int k i)) :
    Pu P n ρ H (.convert t t' x) t'' (.int .u8 (i % 256)) := Pu.conv hx (by simp [IntKind.wrap, IntKind.signed, IntKind.bits])
theorem Pu.conv_u64 [T : TyU P t (.int k)] [T' : TyU P t' (.int .u64)] (hx : ev ρ x = some (.int k i)) (hc : 0 ≤ i ∧ i ≤ 18446744073709551615) :
    Pu P n ρ H (.convert t t' x) t'' (.int .u64 i) := Pu.conv hx (wrap_u64 hc)
/-- A whole struct is stored. -/
theorem Ow.storeN [S : TyS P t kk bb zc] {vs : List Value} (hd : dOk n d = true) (hx : ev ρ x = some (.pointer (some ⟨b, o, none⟩))) (hy : ev ρ y = some (.agg vs.toArray)) (hone : vs.all (fun u => u.oneCell') = true) (hk : vs.length = kk) (hp : Pk H (cl b cs) R) (hlt : Nat.ble (o + vs.length) cs.length = true)
    (h : Ow P r n all rest Q (putE d undef ρ) ds (cl b (putL cs o vs) * R)) : Ow P r n all (⟨d, .store t x y, t', pos, aft, none⟩ :: rest) Q ρ ds H :=
  Ow.unit hd (by simp) (fun g w a' hrp hs => by
    unfold Pk at hp; subst hp
    obtain ⟨w', hr, hs'⟩ := run_storeCells (P := P) (g := g) (R := R) (b := b) vs cs o 0 w (by simpa using hone) (by have := Nat.le_of_ble_eq_true hlt; omega) hs
    refine ⟨w', ?_, hs'⟩
    simp [execOp, ev_eval hrp hx, ev_eval hrp hy, Instr.storeAt, Instr.sureAddr, storeVar, Value.cells, run_size, hk, hr]) h
theorem Ow.callv0 {β : Type u} {val : β → Value} {post : β → HP} {f : FuncId} {xs : List Operand} {vs : List Value} {Pre F : HP}
    (hf : Fn P f vs Pre β val post) (hd : dOk n d = true) (hx : ev ρ x = some (.func (.func f) #[] #[])) (hxs : Evs ρ xs vs) (hp : Pk H Pre F)
    (h : ∀ b, Ow P r n all rest Q (putE d (val b) ρ) ds (post b * F)) :
    Ow P r n all (⟨d, .call { callee := .value x, args := xs.toArray, argTypes := ts }, t, pos, aft, none⟩ :: rest) Q ρ ds H :=
  Ow.callv (caps := []) (by rw [List.append_nil]; exact hf) hd hx hxs (.of_eq hp) h
/-- A loop with a plain invariant. -/
theorem Cw.loopI {σ : Type u} {c : Code} (I : σ → Prop) (ρI : σ → Env) (HI : σ → HP) (μ : σ → Nat) (s₀ : σ) (hI : I s₀) (h0 : Sub ρ (ρI s₀)) (hH : Ent H (HI s₀))
    (round : ∀ s, I s → Cw P r n c (thenQ (fun ρ' ds' H' => ds' = ds ∧ ∃ s', I s' ∧ μ s' < μ s ∧ Sub ρ' (ρI s') ∧ Ent H' (HI s')) Q) (ρI s) ds (HI s)) :
    Cw P r n (.loop c) Q ρ ds H :=
  Cw.loop (σ := { s : σ // I s }) (fun s => ρI s.1) (fun s => HI s.1) (fun s => μ s.1) ⟨s₀, hI⟩ h0 hH (fun s => (round s.1 s.2).mono fun e ρ' ds' H' h => by
    cases e with
    | normal => obtain ⟨h1, s', h2, h3, h4, h5⟩ := h; exact ⟨h1, ⟨s', h2⟩, h3, h4, h5⟩
    | exit id => exact h
    | goto l => exact h
    | ret => exact h
    | panic c => exact h
    | outgrown => exact h)
end
end Go.Sl
