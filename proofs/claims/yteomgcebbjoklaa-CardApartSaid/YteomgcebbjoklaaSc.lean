/- A part of an owned slice; clear. -/
import Derived.Test.YteomgcebbjoklaaSlX
import Derived.Test.YteomgcebbjoklaaSl1
namespace Go.Sl
open Go
set_option linter.unusedVariables false
set_option linter.unusedSimpArgs false
section
variable {P : Program} {r : Option Nat} {n : Nat} {Q : PostT} {ρ : Env} {ds : List Deferred} {H R A : HP} {all rest : List Oper} {d : Option Nat} {t t' T e : TypeId} {pos : String} {aft : Array Edge} {v v2 u : Value} {x y z : Operand}
  {k k' : IntKind} {s m cap n2 bb : Nat} {i : Int} {cs cs2 zc : List Value} {ts : Array TypeId}
theorem Pu.slice_lh [TT : TyU P T (.slice e)] [S : TyS P e 1 bb zc] {sv : SV} {lo hi : Int} (hx : ev ρ x = some sv.v) (hy : ev ρ y = some (.int k lo)) (hz : ev ρ z = some (.int k' hi)) (hp : Pk H (slk 1 sv.v cs) R) (hb : 0 ≤ lo ∧ lo < hi ∧ hi ≤ cs.length) :
    Pu P n ρ H (.slice T x (some y) (some z) none) t (.slice (some ((sbase sv.v).add lo.toNat)) (hi.toNat - lo.toNat) (sv.c - lo.toNat)) :=
  Pu.mks (by simp) (fun w a hr hs => by
    unfold Pk at hp
    subst hp
    rcases slk_cases hs with ⟨g1, rfl, hst'⟩ | ⟨b, pre, jk, m', c, g1, g2, g3, g4, hst'⟩
    · simp at hb; omega
    · obtain ⟨sa, sn, sc⟩ := sv
      simp only [SV.v, Value.slice.injEq] at g1
      obtain ⟨rfl, rfl, rfl⟩ := g1
      simp only [Nat.mul_one] at g2
      have h1 : lo.toNat ≤ hi.toNat := by omega
      have h2 : hi.toNat ≤ sc := by omega
      have h3 : ¬ (lo.toNat = sc) := by omega
      have h4 : 0 ≤ lo := hb.1
      have h5 : 0 ≤ hi := by omega
      have h6 : hi ≤ sc := by omega
      have h7 : lo ≤ hi := by omega
      have h8 : Max.max hi 0 = hi := by omega
      have h9 : ¬ sc = lo.toNat := fun h => h3 h.symm
      simp [execOp, ev_eval hr hx, ev_eval hr hy, ev_eval hr hz, Instr.sliceAt, Instr.slice, Instr.sliceBounds, Instr.sliceBound, asIntOf, run_under, run_size, sbase, h1, h2, h3, h4, h5, h6, h7, h8, h9])
theorem Pu.slice_lhp [TT : TyU P T (.slice e)] [S : TyS P e 1 bb zc] {sv : SV} {lo hi : Int} (hs : SlP 1 sv cs) (hx : ev ρ x = some sv.v) (hy : ev ρ y = some (.int k lo)) (hz : ev ρ z = some (.int k' hi)) (hb : 0 ≤ lo ∧ lo < hi ∧ hi ≤ sv.n) :
    Pu P n ρ H (.slice T x (some y) (some z) none) t (.slice (some ((sbase sv.v).add lo.toNat)) (hi.toNat - lo.toNat) (sv.c - lo.toNat)) :=
  Pu.mk (by simp) (fun a w hr => by
    obtain ⟨sa, sn, sc⟩ := sv
    obtain ⟨q1, q2, q3⟩ := hs
    simp only at q1 q2 q3 hb
    cases sa with
    | none => have := q3 rfl; omega
    | some ad =>
      have h1 : lo.toNat ≤ hi.toNat := by omega
      have h2 : hi.toNat ≤ sc := by omega
      have h3 : ¬ (lo.toNat = sc) := by omega
      have h4 : 0 ≤ lo := hb.1
      have h5 : 0 ≤ hi := by omega
      have h6 : hi ≤ sc := by omega
      have h7 : lo ≤ hi := by omega
      have h8 : Max.max hi 0 = hi := by omega
      have h9 : ¬ sc = lo.toNat := fun h => h3 h.symm
      simp [execOp, ev_eval hr hx, ev_eval hr hy, ev_eval hr hz, Instr.sliceAt, Instr.slice, Instr.sliceBounds, Instr.sliceBound, asIntOf, run_under, run_size, sbase, h1, h2, h3, h4, h5, h6, h7, h8, h9])
theorem zc_one (u : Value) (m : Nat) : (Builtin.zeroCells #[u] m).toList = List.replicate m u := by
  unfold Builtin.zeroCells
  apply List.ext_getElem
  · simp
  · intro i h1 h2
    simp [Nat.mod_one]
theorem putL_in (us pre cs jk : List Value) (lo m : Nat) (h : us.length = m) (hm : lo + m ≤ cs.length) : putL (pre ++ (cs ++ jk)) (pre.length + lo) us = pre ++ ((cs.take lo ++ (us ++ cs.drop (lo + m))) ++ jk) := by
  have e : pre ++ (cs ++ jk) = (pre ++ cs.take lo) ++ (((cs.drop lo).take m) ++ (cs.drop (lo + m) ++ jk)) := by
    have e1 : cs = cs.take lo ++ ((cs.drop lo).take m ++ cs.drop (lo + m)) := by
      rw [← List.drop_drop, List.take_append_drop, List.take_append_drop]
    conv => lhs; rw [e1]
    simp only [List.append_assoc]
  have e2 : pre.length + lo = (pre ++ cs.take lo).length := by simp; omega
  rw [e, e2, putL_mid us _ _ _ (by simp; omega)]
  simp only [List.append_assoc]
theorem Ow.clear_sl [TT : TyU P T (.slice e)] [S : TyS P e 1 bb [u]] {lo : Nat} (hd : dOk n d = true) (hx : ev ρ x = some (.slice (some ((sbase v).add lo)) m cap)) (hp : Pk H (slk 1 v cs) R) (hm : 0 < m ∧ lo + m ≤ cs.length) (hu : u.oneCell' = true)
    (h : Ow P r n all rest Q (putE d (.tuple #[]) ρ) ds (slk 1 v (cs.take lo ++ (List.replicate m u ++ cs.drop (lo + m))) * R)) :
    Ow P r n all (⟨d, .call { callee := .builtin .clear, args := #[x], argTypes := #[T] }, t, pos, aft, none⟩ :: rest) Q ρ ds H :=
  Ow.builtin (xs := [x]) (vs := [.slice (some ((sbase v).add lo)) m cap]) hd ⟨hx, trivial⟩ (fun g w hs => by
    unfold Pk at hp
    subst hp
    rcases slk_cases hs with ⟨g1, rfl, hst'⟩ | ⟨b, pre, jk, m', c, rfl, g2, g3, g4, hst'⟩
    · simp at hm; omega
    · obtain ⟨zv, hz, hz2⟩ := run_zero (P := P) (w := w) (T := S)
      obtain ⟨w', h1, h2⟩ := run_storeCells (P := P) (b := b) (List.replicate m u) (pre ++ (cs ++ jk)) (pre.length + lo) 0 w (fun x hx => by rw [List.mem_replicate] at hx; rw [hx.2]; exact hu) (by simp; omega) hst'
      refine ⟨w', fun consts => ?_, ?_⟩
      · obtain ⟨m, rfl⟩ : ∃ q, m = q + 1 := ⟨m - 1, by omega⟩
        simp only [Go.builtin, Builtin.clear_, sbase, addr_add]
        simp only [Sem.run_bind, run_under, hz2, hz, Result.andThen_ok, zc_one, h1]
        simp [run_under, hz2, hz, zc_one, h1]
      · refine h2.mono (Ent.left ?_)
        rw [Nat.add_zero, putL_in _ pre cs jk lo m (by simp) hm.2]
        refine slk_mk ?_ g3 ?_
        · simp; omega
        · simp; omega) h
end
end Go.Sl
