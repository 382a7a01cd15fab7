/- Whole structs stored in a slice; a slice's own block; a slice of structs that is made. -/
import Derived.Test.YteomgcebbjoklaaSlX
namespace Go.Sl
open Go
set_option linter.unusedVariables false
set_option linter.unusedSimpArgs false
universe u
variable {P : Program} {r : Option Nat} {n : Nat} {Q : PostT} {ρ : Env} {ds : List Deferred} {H A R : HP} {t t' t'' T e : TypeId} {x y : Operand} {all rest : List Oper} {d : Option Nat} {pos : String} {aft : Array Edge} {v v2 : Value} {s bb kk m cap : Nat} {zc cs : List Value} {k k' : IntKind} {i : Int} {α : Type} {a : Option Addr} {ts : Array TypeId}
theorem putL_mid (us p mm q : List Value) (h : us.length = mm.length) : putL (p ++ (mm ++ q)) p.length us = p ++ (us ++ q) := by
  rw [putL_append us p (mm ++ q) (by simp; omega), List.drop_append, h, List.drop_length, List.nil_append, Nat.sub_self, List.drop_zero]
theorem flat_split {f : α → List Value} (L : List α) (j : Nat) (hj : j < L.length) : L.flatMap f = (L.take j).flatMap f ++ (f L[j] ++ (L.drop (j + 1)).flatMap f) := by
  conv => lhs; rw [← List.take_append_drop j L, List.drop_eq_getElem_cons hj, List.flatMap_append, List.flatMap_cons]
theorem flat_set {f : α → List Value} (L : List α) (j : Nat) (w : α) (hj : j < L.length) : (L.set j w).flatMap f = (L.take j).flatMap f ++ (f w ++ (L.drop (j + 1)).flatMap f) := by
  rw [List.set_eq_take_append_cons_drop, if_pos hj, List.flatMap_append, List.flatMap_cons]
/-- A whole struct is stored in a slice. -/
theorem Ow.storeN_st {f : α → List Value} [S : TyS P t s bb zc] [F : Fl f s] {L : List α} {j : Nat} (w : α) (hd : dOk n d = true) (hx : ev ρ x = some (.pointer (some ((sbase v).add (j * s))))) (hy : ev ρ y = some (.agg (f w).toArray)) (hp : Pk H (slk s v (L.flatMap f)) R) (hj : j < L.length)
    (h : Ow P r n all rest Q (putE d undef ρ) ds (slk s v ((L.set j w).flatMap f) * R)) : Ow P r n all (⟨d, .store t x y, t', pos, aft, none⟩ :: rest) Q ρ ds H :=
  Ow.unit hd (by simp) (fun g w0 a' hrp hs => by
    unfold Pk at hp; subst hp
    have hl := flat_len (f := f) L
    have hp := F.p
    rcases slk_cases hs with ⟨h1, h2, _⟩ | ⟨b, pre, jk, n', c', h1, h2, h3, h4, h5⟩
    · exfalso
      rw [h2] at hl
      have : 0 < L.length * s := Nat.mul_pos (by omega) hp
      simp at hl; omega
    · subst h1
      have e2 : (pre ++ (L.take j).flatMap f).length = pre.length + j * s := by rw [List.length_append, flat_len, List.length_take, Nat.min_eq_left (by omega)]
      have e1 : pre ++ (L.flatMap f ++ jk) = (pre ++ (L.take j).flatMap f) ++ (f L[j] ++ ((L.drop (j + 1)).flatMap f ++ jk)) := by rw [flat_split L j hj]; simp only [List.append_assoc]
      have e3 : pre ++ ((L.set j w).flatMap f ++ jk) = (pre ++ (L.take j).flatMap f) ++ (f w ++ ((L.drop (j + 1)).flatMap f ++ jk)) := by rw [flat_set L j w hj]; simp only [List.append_assoc]
      have hlen : pre.length + j * s + 0 + (f w).length ≤ (pre ++ (L.flatMap f ++ jk)).length := by
        rw [e1]; simp only [List.length_append, F.h] at e2 ⊢; omega
      obtain ⟨w', hr, hs'⟩ := run_storeCells (P := P) (g := g) (R := R) (b := b) (f w) _ (pre.length + j * s) 0 w0 (by simpa using F.o w) (by rw [Nat.add_zero] at hlen ⊢; exact hlen) h5
      rw [Nat.add_zero, ← e2, e1, putL_mid _ _ _ _ (by rw [F.h, F.h]), ← e3] at hs'
      refine ⟨w', ?_, hs'.mono (Ent.left (slk_mk (by rw [flat_len, List.length_set, ← flat_len (f := f) L]; exact h2) h3 (by rw [flat_len, List.length_set, ← flat_len (f := f) L]; exact h4)))⟩
      have hx' : a'.eval x = .pointer (some ⟨b, pre.length + j * s, none⟩) := by rw [ev_eval hrp hx]; simp [sbase, addr_add]
      simp [execOp, hx', ev_eval hrp hy, Instr.storeAt, Instr.sureAddr, storeVar, Value.cells, run_size, F.h, hr]) h
/-- The block of a slice. -/
theorem Ow.slOp {v : SV} {L : List Oper} (hp : Pk H (slk s v.v cs) R) (h0 : 0 < cs.length) (h : ∀ (b : Nat) (pre jk : List Value) (nn c : Nat), v = ⟨some ⟨b, pre.length, none⟩, nn, c⟩ → cs.length = nn * s → nn ≤ c → c * s ≤ cs.length + jk.length → Ow P r n all L Q ρ ds (cl b (pre ++ (cs ++ jk)) * R)) :
    Ow P r n all L Q ρ ds H := fun g w a hr hd hs => by
  unfold Pk at hp; subst hp
  rcases slk_cases hs with ⟨h1, h2, _⟩ | ⟨b, pre, jk, n', c', h1, h2, h3, h4, h5⟩
  · subst h2; simp at h0
  · obtain ⟨va, vn, vc⟩ := v
    simp only [SV.v, Value.slice.injEq] at h1
    obtain ⟨rfl, rfl, rfl⟩ := h1
    exact h b pre jk _ _ rfl h2 h3 h4 g w a hr hd h5
/-- A block in which a slice lies, to read. -/
theorem ro_mid {b nn : Nat} {pre jk : List Value} (h : cs.length = nn * s) : Ro (cl b (pre ++ (cs ++ jk))) (some ⟨b, pre.length, none⟩) nn s cs := ⟨h, fun j u hj => by
  have hlt := (List.getElem?_eq_some_iff.1 hj).1
  refine ⟨rfl, ?_⟩
  rw [show (adr (some (⟨b, pre.length, none⟩ : Addr))).add j = ⟨b, pre.length + j, none⟩ by rw [show adr (some (⟨b, pre.length, none⟩ : Addr)) = ⟨b, pre.length, none⟩ from rfl, addr_add]]
  refine rd_cl ?_
  rw [List.getElem?_append_right (by omega), Nat.add_sub_cancel_left, List.getElem?_append_left hlt]
  exact hj⟩
theorem rep_flat (f : α → List Value) (z : α) (m : Nat) (hz : 0 < (f z).length) : rep m (f z) = (List.replicate m z).flatMap f := by
  induction m with
  | zero => simp [rep]
  | succ m ih =>
    have e : (List.replicate (m + 1) z).flatMap f = f z ++ (List.replicate m z).flatMap f := by rw [List.replicate_succ, List.flatMap_cons]
    rw [e, ← ih]
    refine List.ext_getElem (by simp [rep, Nat.add_mul]; omega) (fun j h1 h2 => ?_)
    simp only [rep, List.getElem_map, List.getElem_range]
    by_cases hj : j < (f z).length
    · rw [List.getElem_append_left hj, Nat.mod_eq_of_lt hj, getElem!_pos (f z) j hj]
    · rw [List.getElem_append_right (by omega)]
      simp only [List.getElem_map, List.getElem_range]
      rw [Nat.mod_eq_sub_mod (by omega)]
end Go.Sl
