/- Part 3. -/
import Derived.WalkKit
import Derived.RangeFuncRecord
import Derived.RangeFuncLeaves
import Derived.OrdersIn
import Derived.TacticsIn
import Derived.KernelRfl
import Derived.Test.YteomgcebbjoklaaDoorChecked
import Derived.ProofKit
import Derived.OpenShut
import Derived.Carry
import Derived.HandedShaped
import Derived.RangeFuncNested
import Derived.LoopNIn
import Derived.Lib.Strings
import Derived.Deep.DeepHandedRow
import Derived.Lib.LaidTab
import Derived.SevenTiedAt
import Derived.Deep.DeepWitnessRowRef
import Derived.Laws.StructEq
import Derived.Laws.BytesString
import Derived.Laws.LoneSync
import Derived.Test.YteomgcebbjoklaaDoorQD2
namespace Go.Sl
open Go Go.Proofs
set_option linter.unusedVariables false
set_option linter.unusedSimpArgs false
instance : Inhabited SV := ⟨⟨none, 0, 0⟩⟩
def obc (o : Obj SV) : List Value := [o.1.v, vi o.2.2]
instance : Fl obc 2 := ⟨fun _ => rfl, by decide, fun _ => rfl⟩
def obs : List (Obj SV) → HP
  | [] => emp
  | o :: L => slk 1 o.1.v (o.2.1.map vi) * obs L
theorem obs_at : ∀ (L : List (Obj SV)) (j : Nat) (hj : j < L.length), obs L = slk 1 (L[j]!).1.v ((L[j]!).2.1.map vi) * obs (L.eraseIdx j)
  | o :: L, 0, _ => rfl
  | o :: L, j + 1, h => by
    have hj : j < L.length := by simpa using h
    have e : (o :: L)[j + 1]! = L[j]! := by rw [getElem!_pos (o :: L) (j + 1) h, getElem!_pos L j hj]; rfl
    rw [e, List.eraseIdx_cons_succ]
    show slk 1 o.1.v _ * obs L = _ * (slk 1 o.1.v _ * obs _)
    rw [obs_at L j hj, star_left_comm]
theorem obs_set (L : List (Obj SV)) (j : Nat) (hj : j < L.length) (o : Obj SV) : obs (L.set j o) = slk 1 o.1.v (o.2.1.map vi) * obs (L.eraseIdx j) := by
  rw [obs_at (L.set j o) j (by simpa using hj)]
  have e : (L.set j o)[j]! = o := by rw [getElem!_pos (L.set j o) j (by simpa using hj)]; simp
  rw [e]
  have e2 : (L.set j o).eraseIdx j = L.eraseIdx j := by
    apply List.ext_getElem
    · simp [List.length_eraseIdx]
    · intro i h1 h2
      rw [List.getElem_eraseIdx, List.getElem_eraseIdx]
      split
      · rw [List.getElem_set_ne (by omega)]
      · rw [List.getElem_set_ne (by omega)]
  rw [e2]
theorem obs_app (L : List (Obj SV)) (o : Obj SV) : obs (L ++ [o]) = obs L * slk 1 o.1.v (o.2.1.map vi) := by
  induction L with
  | nil => show slk 1 o.1.v _ * emp = emp * _; rw [star_emp, emp_star]
  | cons p L ih => show slk 1 p.1.v _ * obs (L ++ [o]) = slk 1 p.1.v _ * obs L * _; rw [ih, star_assoc]
attribute [local irreducible] star Ow Cw Pk Pu Dw thenQ blockQ retQ loudQ Cr tab obs andI
abbrev gcl (g : Nat) (q : Cfg) (tv : SV) (rb : Nat) (WL : List Value) : HP := cl g (q.cs ++ (tv.v :: .pointer (some ⟨rb, 0, none⟩) :: WL))
variable (g : Nat) (q : Cfg) (tv : SV) (rb : Nat) (WL : List Value) (O : List (Obj SV))
abbrev fldH : HP := gcl g q tv rb WL * (slk 2 tv.v (O.flatMap obc) * obs O)
theorem field_0 (i : Int) : Fn Tryd.prog 60 [.pointer (some ⟨g, 0, none⟩), vi 0, vi i] (fldH g q tv rb WL O) Unit (fun _ => .tuple #[.pointer none, vi 8]) (fun _ => fldH g q tv rb WL O) := by
  (refine Fn.of Tryd.func60 rfl (by kernel_rfl) Tryd.ntmps60 rfl (fun F => ?_))
  (repeat' (first | (refine Ow.is ?_; (first | refine Ow.nil ?_ | refine Ow.pu rfl (Pu.move rfl) ?_ | refine Ow.pu rfl (Pu.assign rfl) ?_ | (refine Ow.kBin ?_; (first | (refine Ow.b_eql ?_; (first | refine Ow.pu rfl (Pu.eq_t rfl rfl roA) ?_)))))) | (refine Cw.is ?_; (first | refine Cw.seq ?_ | refine Cw.region ?_ | refine Cw.cond_t rfl rfl ?_ | refine Cw.ret ?_)) | (first | refine thenQ_n ?_ | refine thenQ_r ?_)))
  refine retQ_v2 () Tryd.results60 rfl rfl rfl ?_; ((try simp only [star_assoc]); (repeat (apply Ent.pk; exact pkA)); first | exact Ent.fin pkA | exact Ent.refl _)
theorem field_x (hO : O.length ≤ 1000000) (o i : Int) (ho : 1 ≤ o ∧ o ≤ O.length) (hi : ¬ (0 ≤ i ∧ i < (O[(o - 1).toNat]!).2.1.length)) : Fn Tryd.prog 60 [.pointer (some ⟨g, 0, none⟩), vi o, vi i] (fldH g q tv rb WL O) Unit (fun _ => .tuple #[.pointer none, vi 6]) (fun _ => fldH g q tv rb WL O) := by
  unfold fldH
  have hob' := obs_at O (o - 1).toNat (by omega)
  obtain ⟨ob, hob⟩ : ∃ ob, O[(o - 1).toNat]! = ob := ⟨_, rfl⟩
  rw [hob] at hob' hi
  rw [hob']
  (refine Fn.of Tryd.func60 rfl (by kernel_rfl) Tryd.ntmps60 rfl (fun F => ?_))
  (refine Cw.heq (by simp only [star_assoc, emp_star, star_emp]; exact rfl) ?_)
  (repeat' (first | (refine Ow.is ?_; (first | refine Ow.pu rfl (Pu.fld rfl) ?_ | refine Ow.pu rfl (Pu.fld0 rfl) ?_ | refine Ow.nil ?_ | refine Ow.pu rfl (Pu.move rfl) ?_ | refine Ow.pu rfl (Pu.assign rfl) ?_ | refine Ow.pu rfl (Pu.fld rfl) ?_ | refine Ow.pu rfl (Pu.nilCheck rfl) ?_ | (refine Ow.kGuard ?_; (first | refine Ow.guard_yes rfl rfl rfl ?_ | refine Ow.guard_no rfl rfl rfl rfl ?_)) | (refine Ow.kLoad ?_; (first | refine Ow.pu rfl (Pu.load_stfd (o := 0) (w := ob) rfl pkA (by omega) hob rfl) ?_ | refine Ow.pu rfl (Pu.load_cl rfl pkA rfl) ?_)) | (refine Ow.kBin ?_; (first | (refine Ow.b_lss ?_; first | refine Ow.pu rfl (Pu.lt_t rfl rfl (by omega)) ?_ | refine Ow.pu rfl (Pu.lt_f rfl rfl (by omega)) ?_ | refine Ow.sp rfl (by exact Pu.lt rfl rfl) (fun hc => ?_) (fun hc => ?_)) | (refine Ow.b_geq ?_; first | refine Ow.pu rfl (Pu.ge_t rfl rfl (by omega)) ?_ | refine Ow.pu rfl (Pu.ge_f rfl rfl (by omega)) ?_ | refine Ow.sp rfl (by exact Pu.ge rfl rfl) (fun hc => ?_) (fun hc => ?_)) | (refine Ow.b_eql ?_; (first | refine Ow.pu rfl (Pu.eq_f rfl rfl odA) ?_ | refine Ow.sp rfl (by exact Pu.eqI rfl rfl) (fun hc => ?_) (fun hc => ?_))) | (refine Ow.b_sub ?_; refine Ow.pu rfl (Pu.sub_i rfl rfl (by omega)) ?_))) | (refine Ow.kPick ?_; (first | refine Ow.pu rfl (Pu.pick_t rfl rfl) ?_ | refine Ow.pu rfl (Pu.pick_f rfl rfl) ?_)) | (refine Ow.kIdx ?_; (first | refine Ow.pu rfl (Pu.idx_st rfl rfl pkA (by omega)) ?_)) | (refine Ow.kBuiltin ?_; (first | refine Ow.pu rfl (Pu.len_slm rfl pkA) ?_)))) | (refine Cw.is ?_; (first | refine Cw.seq ?_ | refine Cw.region ?_ | refine Cw.cond_t rfl rfl ?_ | refine Cw.cond_f rfl rfl ?_ | refine Cw.ret ?_ | refine Cw.skip ?_)) | (first | refine thenQ_n ?_ | refine thenQ_r ?_)))
  all_goals (refine retQ_v2 () Tryd.results60 rfl rfl rfl ?_; ((try simp only [star_assoc]); (repeat (apply Ent.pk; exact pkA)); first | exact Ent.fin pkA | exact Ent.refl _))
theorem field_t (hO : O.length ≤ 1000000) (o i : Int) (ho : 1 ≤ o ∧ o ≤ O.length) (hi : 0 ≤ i ∧ i < (O[(o - 1).toNat]!).2.1.length) : Fn Tryd.prog 60 [.pointer (some ⟨g, 0, none⟩), vi o, vi i] (fldH g q tv rb WL O) Unit (fun _ => .tuple #[.pointer (some ((sbase (O[(o - 1).toNat]!).1.v).add i.toNat)), vi 0]) (fun _ => fldH g q tv rb WL O) := by
  unfold fldH
  have hob' := obs_at O (o - 1).toNat (by omega)
  obtain ⟨ob, hob⟩ : ∃ ob, O[(o - 1).toNat]! = ob := ⟨_, rfl⟩
  rw [hob] at hob' hi
  rw [hob', hob]
  (refine Fn.of Tryd.func60 rfl (by kernel_rfl) Tryd.ntmps60 rfl (fun F => ?_))
  (refine Cw.heq (by simp only [star_assoc, emp_star, star_emp]; exact rfl) ?_)
  (repeat' (first | (refine Ow.is ?_; (first | refine Ow.pu rfl (Pu.fld rfl) ?_ | refine Ow.pu rfl (Pu.fld0 rfl) ?_ | refine Ow.nil ?_ | refine Ow.pu rfl (Pu.move rfl) ?_ | refine Ow.pu rfl (Pu.assign rfl) ?_ | refine Ow.pu rfl (Pu.fld rfl) ?_ | refine Ow.pu rfl (Pu.nilCheck rfl) ?_ | (refine Ow.kGuard ?_; (first | refine Ow.guard_yes rfl rfl rfl ?_)) | (refine Ow.kLoad ?_; (first | refine Ow.pu rfl (Pu.load_stfd (o := 0) (w := ob) rfl pkA (by omega) hob rfl) ?_ | refine Ow.pu rfl (Pu.load_cl rfl pkA rfl) ?_)) | (refine Ow.kBin ?_; (first | (refine Ow.b_lss ?_; first | refine Ow.pu rfl (Pu.lt_t rfl rfl (by omega)) ?_ | refine Ow.pu rfl (Pu.lt_f rfl rfl (by omega)) ?_ | refine Ow.sp rfl (by exact Pu.lt rfl rfl) (fun hc => ?_) (fun hc => ?_)) | (refine Ow.b_geq ?_; first | refine Ow.pu rfl (Pu.ge_t rfl rfl (by omega)) ?_ | refine Ow.pu rfl (Pu.ge_f rfl rfl (by omega)) ?_ | refine Ow.sp rfl (by exact Pu.ge rfl rfl) (fun hc => ?_) (fun hc => ?_)) | (refine Ow.b_eql ?_; (first | refine Ow.pu rfl (Pu.eq_f rfl rfl odA) ?_)) | (refine Ow.b_sub ?_; refine Ow.pu rfl (Pu.sub_i rfl rfl (by omega)) ?_))) | (refine Ow.kPick ?_; (first | refine Ow.pu rfl (Pu.pick_f rfl rfl) ?_)) | (refine Ow.kIdx ?_; (first | refine Ow.pu rfl (Pu.idx_st rfl rfl pkA (by omega)) ?_ | refine Ow.pu rfl (Pu.idx_sl rfl rfl pkA (by simp only [List.length_map, List.length_append, List.length_set, List.length_replicate, List.length_cons, List.length_nil]; omega)) ?_)) | (refine Ow.kBuiltin ?_; (first | refine Ow.pu rfl (Pu.len_slm rfl pkA) ?_)))) | (refine Cw.is ?_; (first | refine Cw.seq ?_ | refine Cw.region ?_ | refine Cw.cond_f rfl rfl ?_ | refine Cw.ret ?_ | refine Cw.skip ?_)) | (first | refine thenQ_n ?_)))
  refine retQ_v2 () Tryd.results60 rfl rfl rfl ?_; ((try simp only [star_assoc]); (repeat (apply Ent.pk; exact pkA)); first | exact Ent.fin pkA | exact Ent.refl _)
abbrev ansV (e v : Int) : Value := .agg #[vi e, vi v]
theorem truth_fn (b : Bool) : Fn Tryd.prog 61 [.bool b] emp Unit (fun _ => ansV 0 (if b = true then 1 else 0)) (fun _ => emp) := by
  cases b
  all_goals (refine Fn.of Tryd.func61 rfl (by kernel_rfl) Tryd.ntmps61 rfl (fun F => ?_))
  all_goals refine Cw.heq (emp_star F) ?_
  all_goals (repeat' (first | (refine Ow.is ?_; (first | (refine Ow.kBuild ?_; refine Ow.pu rfl (Pu.build (ps := []) (vs := []) (cs := [vi 0, vi 0]) trivial (fun w => by kernel_rfl)) ?_) | refine Ow.nil ?_ | refine Ow.pu rfl (Pu.move rfl) ?_ | (refine Ow.kStore ?_; (first | refine Ow.storeN rfl rfl rfl rfl rfl pkA rfl ?_)) | (refine Ow.kBuild ?_; (first | refine Ow.pu rfl (Pu.bld1 rfl (fun w => by kernel_rfl)) ?_)) | refine Ow.alloc rfl (fun bx => ?_))) | (refine Cw.is ?_; (first | refine Cw.seq ?_ | refine Cw.region ?_ | refine Cw.cond_t rfl rfl ?_ | refine Cw.cond_f rfl rfl ?_ | refine Cw.ret ?_ | refine Cw.skip ?_)) | (first | refine thenQ_n ?_ | refine thenQ_r ?_)))
  all_goals (refine retQ_cN () Tryd.results61 rfl pkA rfl rfl rfl ?_; refine Ent.trans ?_ (Ent.of_eq (emp_star F).symm); ((try simp only [star_assoc]); (repeat (apply Ent.pk; exact pkA)); first | exact Ent.fin pkA | exact Ent.refl _))
end Go.Sl
namespace Go.Sl
open Go Go.Proofs
set_option linter.unusedVariables false
set_option linter.unusedSimpArgs false
attribute [local irreducible] star Ow Cw Pk Pu Dw thenQ blockQ retQ loudQ Cr thr tab obs andI
section
variable (b : Nat) (th rg st : Int) (G : List Int) (T : List Slt) {j nb : Nat} {r s : List Int} (hj : j < T.length) (hq : T[j]! = some (nb, r, s))
include hj hq
theorem Reg_tab (i : Int) : Fn Tryd.prog 59 [.pointer (some ⟨nb, 0, none⟩), vi i] (tab b th rg st G T) Unit (fun _ => .tuple #[vi (regR r i), vi (if 0 ≤ i ∧ i < r.length then 0 else 4)]) (fun _ => tab b th rg st G T) := by
  by_cases h : 0 ≤ i ∧ i < r.length
  · rw [regR, if_pos h, if_pos h]; exact (Reg_t nb r s st i h).inTab0 (q := (nb, r, s)) hj hq
  · rw [regR, if_neg h, if_neg h]; exact (Reg_f nb r s st i h).inTab0 (q := (nb, r, s)) hj hq
theorem SetReg_tab (i z : Int) (h : 0 ≤ i ∧ i < r.length) : Fn Tryd.prog 46 [.pointer (some ⟨nb, 0, none⟩), vi i, vi z] (tab b th rg st G T) Unit (fun _ => vi 0) (fun _ => tab b th rg st G (T.set j (some (nb, r.set i.toNat z, s)))) :=
  (SetReg_t nb r s st i z h).inTab (q := (nb, r, s)) hj hq (r' := fun _ => r.set i.toNat z) (s' := fun _ => s)
theorem Push_tab (z : Int) (h : s.length < st ∧ s.length < 1000000) : Fn Tryd.prog 62 [.pointer (some ⟨nb, 0, none⟩), vi z] (tab b th rg st G T) Unit (fun _ => vi 0) (fun _ => tab b th rg st G (T.set j (some (nb, r, s ++ [z])))) :=
  (Push_t nb r s st z h.1 h.2).inTab (q := (nb, r, s)) hj hq (r' := fun _ => r) (s' := fun _ => s ++ [z])
theorem Push_tabf (z : Int) (h : st ≤ s.length) : Fn Tryd.prog 62 [.pointer (some ⟨nb, 0, none⟩), vi z] (tab b th rg st G T) Unit (fun _ => vi 9) (fun _ => tab b th rg st G T) :=
  (Push_f nb r s st z h).inTab0 (q := (nb, r, s)) hj hq
theorem Pop_tab (h : 0 < s.length ∧ s.length < 1000000) : Fn Tryd.prog 64 [.pointer (some ⟨nb, 0, none⟩)] (tab b th rg st G T) Unit (fun _ => .tuple #[vi s[s.length - 1]!, vi 0]) (fun _ => tab b th rg st G (T.set j (some (nb, r, s.take (s.length - 1))))) :=
  by
  have h1 := (Pop_t nb r s st h.1 h.2).inTab (b := b) (th := th) (rg := rg) (G := G) (q := (nb, r, s)) hj hq (r' := fun _ => r) (s' := fun _ => s.take ((s.length : Int) - 1).toNat)
  rw [show ((s.length : Int) - 1).toNat = s.length - 1 by omega] at h1
  exact h1
theorem Pop_tabf (h : s.length = 0) : Fn Tryd.prog 64 [.pointer (some ⟨nb, 0, none⟩)] (tab b th rg st G T) Unit (fun _ => .tuple #[vi 0, vi 9]) (fun _ => tab b th rg st G T) :=
  (Pop_f nb r s st h).inTab0 (q := (nb, r, s)) hj hq
omit hj hq in
theorem T_self {T : List Slt} {j : Nat} {q : Nat × List Int × List Int} (hj : j < T.length) (hq : T[j]! = some q) : T.set j (some q) = T := by
  have hg : T[j] = some q := by rw [← hq]; exact (getElem!_pos T j hj).symm
  rw [← hg, List.set_getElem_self]
end
def gpW (g : Nat) (q : Cfg) (rb : Nat) (WL : List Value) (O : List (Obj SV)) (G : List Int) (T : List Slt) : HP := Sl.ex fun tv : SV => gcl g q tv rb WL * (slk 2 tv.v (O.flatMap obc) * (obs O * tab rb q.threads q.regs q.stack G T))
section
variable (g : Nat) (q : Cfg) (rb : Nat) (WL : List Value) (O : List (Obj SV)) (G : List Int) (T : List Slt)
theorem gpW_ex : gpW g q rb WL O G T = Sl.ex fun tv : SV => gcl g q tv rb WL * (slk 2 tv.v (O.flatMap obc) * (obs O * tab rb q.threads q.regs q.stack G T)) := rfl
theorem gpW_mk (tv : SV) : Ent (gcl g q tv rb WL * (slk 2 tv.v (O.flatMap obc) * (obs O * tab rb q.threads q.regs q.stack G T))) (gpW g q rb WL O G T) := Ent.ex (A := fun tv : SV => gcl g q tv rb WL * (slk 2 tv.v (O.flatMap obc) * (obs O * tab rb q.threads q.regs q.stack G T))) tv
theorem regR_ok {n : Nat} {r : List Int} (h : ∀ z ∈ r, okR n z) (i : Int) : okR n (regR r i) := by
  unfold regR
  split
  · rename_i hi
    rw [getElem!_pos r i.toNat (by omega)]
    exact h _ (List.getElem_mem _)
  · exact ⟨by omega, by omega⟩
set_option maxHeartbeats 8000000 in
theorem plain_fn {j nb : Nat} {r s : List Int} (x : It) (hO : O.length ≤ 1000000) (hq8 : QOk q) (hj : j < T.length) (hq : T[j]! = some (nb, r, s)) (hr : ∀ z ∈ r, okR O.length z) (hsl : (s.length : Int) ≤ q.stack) (hxr : 0 ≤ x.x ∧ x.x < r.length) (hG : x.c = 12 → 0 ≤ x.y ∧ x.y < G.length) (hc : (0 ≤ x.c ∧ x.c < 13) ∧ ¬ tellsC x.c) :
    Fn Tryd.prog 44 [.pointer (some ⟨g, 0, none⟩), .pointer (some ⟨nb, 0, none⟩), .agg x.cs.toArray] (gpW g q rb WL O G T) Unit (fun _ => ansV (plainR q O G r s x).e (plainR q O G r s x).v)
      (fun _ => gpW g q rb WL (plainR q O G r s x).O (plainR q O G r s x).G (T.set j (some (nb, (plainR q O G r s x).r, (plainR q O G r s x).s)))) := by
  have hTs := T_self hj hq
  have hst8 := hq8.st
  obtain ⟨a, ha⟩ : ∃ a, regR r x.x = a := ⟨_, rfl⟩
  have hao : okR O.length a := ha ▸ regR_ok hr x.x
  rcases (by unfold tellsC at hc; omega : x.c = 2 ∨ x.c = 3 ∨ x.c = 4 ∨ x.c = 5 ∨ x.c = 6 ∨ x.c = 7 ∨ x.c = 8 ∨ x.c = 9 ∨ x.c = 12) with h | h | h | h | h | h | h | h | h
  · by_cases h0 : a = 0
    · have hef : plainR q O G r s x = ⟨O, G, r, s, 8, 0⟩ := by unfold plainR; simp only [h, ha, if_true]; rw [show fldE O a x.y = 8 by unfold fldE; rw [if_pos h0]]; rfl
      rw [hef]
      dsimp only
      rw [hTs]
      (refine Fn.of Tryd.func44 rfl (by kernel_rfl) Tryd.ntmps44 rfl (fun F => ?_))
      refine Cw.opn (gpW_ex g q rb WL O G T) (fun tv => ?_)
      (refine Cw.heq (by simp only [star_assoc, emp_star, star_emp]; exact rfl) ?_)
      have hfld : Fn Tryd.prog 60 [.pointer (some ⟨g, 0, none⟩), vi a, vi x.y] (fldH g q tv rb WL O) Unit (fun _ => .tuple #[.pointer none, vi 8]) (fun _ => fldH g q tv rb WL O) := by rw [h0]; exact field_0 g q tv rb WL O x.y
      rw [← ha] at hfld
      (repeat' (first | (refine Ow.is ?_; (first | refine Ow.pu rfl (Pu.fld rfl) ?_ | refine Ow.pu rfl (Pu.fldS rfl) ?_ | refine Ow.nil ?_ | refine Ow.pu rfl (Pu.move rfl) ?_ | refine Ow.pu rfl (Pu.assign rfl) ?_ | refine Ow.pu rfl (Pu.fld rfl) ?_ | refine Ow.pu rfl (Pu.nilCheck rfl) ?_ | refine Ow.pu rfl (Pu.extract rfl rfl) ?_ | (refine Ow.kLoad ?_; (first | refine Ow.pu rfl (Pu.load_stfd (o := 1) (w := ob) rfl pkA (by omega) hob rfl) ?_ | refine Ow.pu rfl (Pu.load_cl rfl pkA rfl) ?_)) | (refine Ow.kBin ?_; (first | (refine Ow.b_eql ?_; (first | refine Ow.pu rfl (Pu.eq_t rfl rfl roA) ?_ | refine Ow.pu rfl (Pu.eq_f rfl rfl odA) ?_)) | (refine Ow.b_sub ?_; refine Ow.pu rfl (Pu.sub_i rfl rfl (by omega)) ?_))) | (refine Ow.kStore ?_; (first | refine Ow.store_stf (o := 1) (w := ob2) rfl rfl rfl rfl pkA (by omega) hset ?_ | refine Ow.storeN rfl rfl rfl rfl rfl pkA rfl ?_ | refine Ow.store_sli rfl rfl rfl pkA (by first | omega | (simp only [List.length_set, List.length_append, List.length_replicate, List.length_cons, List.length_nil]; omega)) ?_)) | (refine Ow.kIdx ?_; (first | refine Ow.pu rfl (Pu.idx_st rfl rfl pkA (by omega)) ?_)) | (refine Ow.kCall ?_; (first | refine Ow.callE evA pkA rfl (SetGlobal_t rb q.threads q.regs q.stack G T _ _ hG) (fun _ => ?_) | refine Ow.callE evA (pk3 pkA pkA pkA) rfl hfld (fun _ => Ow.ass3 ?_) | refine Ow.callE0 evA rfl htr (fun _ => Ow.unemp ?_) | refine Ow.callE evA pkA rfl (Push_tabf rb q.threads q.regs q.stack G T hj hq _ hst) (fun _ => ?_) | refine Ow.callE evA pkA rfl (Push_tab rb q.threads q.regs q.stack G T hj hq _ hst) (fun _ => ?_) | refine Ow.callE evA pkA rfl (SetReg_tab rb q.threads q.regs q.stack G T hj hq _ _ hxr) (fun _ => ?_) | refine Ow.callE evA pkA rfl (Reg_tab rb q.threads q.regs q.stack G T hj hq _) (fun _ => ?_) | fail)) | (refine Ow.kBuild ?_; (first | refine Ow.pu rfl (Pu.bld1 rfl (fun w => by kernel_rfl)) ?_)) | refine Ow.alloc rfl (fun bx => ?_) | refine Ow.box rfl rfl rfl (fun bx => ?_))) | (refine Cw.is ?_; (first | refine Cw.seq ?_ | refine Cw.region ?_ | refine Cw.cond_t rfl rfl ?_ | refine Cw.cond_f rfl rfl ?_ | refine Cw.block ?_ | refine Cw.ret ?_ | refine Cw.skip ?_)) | (first | refine thenQ_n ?_ | refine thenQ_r ?_ | refine blockQ_n ?_ | refine blockQ_r ?_)))
      refine retQ_cN () Tryd.results44 rfl pkA rfl rfl rfl ?_
      refine Ent.trans ?_ (Ent.left (gpW_mk g q rb WL _ _ _ tv)); ((try simp only [star_assoc]); (repeat (apply Ent.pk; exact pkA)); first | exact Ent.fin pkA | exact Ent.refl _)
    have ho1 : 1 ≤ a ∧ a ≤ O.length := by omega
    by_cases hi : 0 ≤ x.y ∧ x.y < (O[(a - 1).toNat]!).2.1.length
    · have hef : plainR q O G r s x = ⟨setF O a x.y (regR r x.z), G, r, s, 0, 0⟩ := by unfold plainR; simp only [h, ha, if_true]; rw [show fldE O a x.y = 0 by unfold fldE; rw [if_neg h0, if_pos hi]]; rfl
      rw [hef]
      dsimp only
      rw [hTs]
      (refine Fn.of Tryd.func44 rfl (by kernel_rfl) Tryd.ntmps44 rfl (fun F => ?_))
      refine Cw.opn (gpW_ex g q rb WL O G T) (fun tv => ?_)
      (refine Cw.heq (by simp only [star_assoc, emp_star, star_emp]; exact rfl) ?_)
      have hfld := field_t g q tv rb WL O hO a x.y ho1 hi
      have hjo : (a - 1).toNat < O.length := by omega
      have hob' := obs_at O (a - 1).toNat hjo
      obtain ⟨ob, hob⟩ : ∃ ob, O[(a - 1).toNat]! = ob := ⟨_, rfl⟩
      have hss : setF O a x.y (regR r x.z) = O.set (a - 1).toNat (ob.1, ob.2.1.set x.y.toNat (regR r x.z), ob.2.2) := by unfold setF; rw [hob]
      rw [hob] at hob' hfld hi
      rw [← ha] at hfld
      (repeat' (first | (refine Ow.is ?_; (first | refine Ow.pu rfl (Pu.fld rfl) ?_ | refine Ow.pu rfl (Pu.fldS rfl) ?_ | refine Ow.nil ?_ | refine Ow.pu rfl (Pu.move rfl) ?_ | refine Ow.pu rfl (Pu.assign rfl) ?_ | refine Ow.pu rfl (Pu.fld rfl) ?_ | refine Ow.pu rfl (Pu.extract rfl rfl) ?_ | (refine Ow.kLoad ?_; (first | refine Ow.pu rfl (Pu.load_stfd (o := 1) (w := ob) rfl pkA (by omega) hob rfl) ?_ | refine Ow.pu rfl (Pu.load_cl rfl pkA rfl) ?_)) | (refine Ow.kBin ?_; (first | (refine Ow.b_eql ?_; (first | refine Ow.pu rfl (Pu.eq_t rfl rfl roA) ?_ | refine Ow.pu rfl (Pu.eq_f rfl rfl odA) ?_)))) | (refine Ow.kCall ?_; (first | refine Ow.callE evA (pk3 pkA pkA pkA) rfl hfld (fun _ => Ow.ass3 ?_) | refine Ow.callE evA pkA rfl (Reg_tab rb q.threads q.regs q.stack G T hj hq _) (fun _ => ?_) | fail)) | refine Ow.alloc rfl (fun bx => ?_) | refine Ow.box rfl rfl rfl (fun bx => ?_))) | (refine Cw.is ?_; (first | refine Cw.seq ?_ | refine Cw.region ?_ | refine Cw.cond_t rfl rfl ?_ | refine Cw.cond_f rfl rfl ?_ | refine Cw.block ?_ | refine Cw.ret ?_ | refine Cw.skip ?_)) | (first | refine thenQ_n ?_ | refine thenQ_r ?_ | refine blockQ_n ?_ | refine blockQ_r ?_)))
      rw [hob']
      (refine Ow.heq (by simp only [star_assoc, emp_star, star_emp]; exact rfl) ?_)
      (repeat' (first | (refine Ow.is ?_; (first | refine Ow.pu rfl (Pu.fldS rfl) ?_ | refine Ow.nil ?_ | refine Ow.pu rfl (Pu.move rfl) ?_ | refine Ow.pu rfl (Pu.nilCheck rfl) ?_ | (refine Ow.kStore ?_; (first | refine Ow.store_stf (o := 1) (w := ob2) rfl rfl rfl rfl pkA (by omega) hset ?_ | refine Ow.store_sli rfl rfl rfl pkA (by first | omega | (simp only [List.length_set, List.length_append, List.length_replicate, List.length_cons, List.length_nil]; omega)) ?_)))) | (refine Cw.is ?_; (first | refine Cw.seq ?_ | refine Cw.region ?_ | refine Cw.cond_t rfl rfl ?_ | refine Cw.cond_f rfl rfl ?_ | refine Cw.block ?_ | refine Cw.ret ?_ | refine Cw.skip ?_)) | (first | refine thenQ_n ?_ | refine thenQ_r ?_ | refine blockQ_n ?_ | refine blockQ_r ?_)))
      (repeat' (first | (refine Ow.is ?_; (first | refine Ow.pu rfl (Pu.fldS rfl) ?_ | refine Ow.nil ?_ | refine Ow.pu rfl (Pu.move rfl) ?_ | (refine Ow.kStore ?_; (first | refine Ow.store_stf (o := 1) (w := ob2) rfl rfl rfl rfl pkA (by omega) hset ?_ | refine Ow.storeN rfl rfl rfl rfl rfl pkA rfl ?_)) | (refine Ow.kBuild ?_; (first | refine Ow.pu rfl (Pu.bld1 rfl (fun w => by kernel_rfl)) ?_)))) | (refine Cw.is ?_; (first | refine Cw.seq ?_ | refine Cw.region ?_ | refine Cw.cond_t rfl rfl ?_ | refine Cw.cond_f rfl rfl ?_ | refine Cw.block ?_ | refine Cw.ret ?_ | refine Cw.skip ?_)) | (first | refine thenQ_n ?_ | refine thenQ_r ?_ | refine blockQ_n ?_ | refine blockQ_r ?_)))
      rw [hss]
      refine retQ_cN () Tryd.results44 rfl pkA rfl rfl rfl ?_
      refine Ent.trans ?_ (Ent.left (gpW_mk g q rb WL _ _ _ tv))
      rw [flat_same (f := obc) O _ _ hjo (by rw [hob]; rfl), obs_set O _ hjo]
      ((try simp only [star_assoc]); (repeat (apply Ent.pk; exact pkA)); first | exact Ent.fin pkA | exact Ent.refl _)
    · have hef : plainR q O G r s x = ⟨O, G, r, s, 6, 0⟩ := by unfold plainR; simp only [h, ha, if_true]; rw [show fldE O a x.y = 6 by unfold fldE; rw [if_neg h0, if_neg hi]]; rfl
      rw [hef]
      dsimp only
      rw [hTs]
      (refine Fn.of Tryd.func44 rfl (by kernel_rfl) Tryd.ntmps44 rfl (fun F => ?_))
      refine Cw.opn (gpW_ex g q rb WL O G T) (fun tv => ?_)
      (refine Cw.heq (by simp only [star_assoc, emp_star, star_emp]; exact rfl) ?_)
      have hfld := field_x g q tv rb WL O hO a x.y ho1 hi
      rw [← ha] at hfld
      (repeat' (first | (refine Ow.is ?_; (first | refine Ow.pu rfl (Pu.fld rfl) ?_ | refine Ow.pu rfl (Pu.fldS rfl) ?_ | refine Ow.nil ?_ | refine Ow.pu rfl (Pu.move rfl) ?_ | refine Ow.pu rfl (Pu.assign rfl) ?_ | refine Ow.pu rfl (Pu.fld rfl) ?_ | refine Ow.pu rfl (Pu.nilCheck rfl) ?_ | refine Ow.pu rfl (Pu.extract rfl rfl) ?_ | (refine Ow.kLoad ?_; (first | refine Ow.pu rfl (Pu.load_stfd (o := 1) (w := ob) rfl pkA (by omega) hob rfl) ?_ | refine Ow.pu rfl (Pu.load_cl rfl pkA rfl) ?_)) | (refine Ow.kBin ?_; (first | (refine Ow.b_eql ?_; (first | refine Ow.pu rfl (Pu.eq_t rfl rfl roA) ?_ | refine Ow.pu rfl (Pu.eq_f rfl rfl odA) ?_)) | (refine Ow.b_sub ?_; refine Ow.pu rfl (Pu.sub_i rfl rfl (by omega)) ?_))) | (refine Ow.kStore ?_; (first | refine Ow.store_stf (o := 1) (w := ob2) rfl rfl rfl rfl pkA (by omega) hset ?_ | refine Ow.storeN rfl rfl rfl rfl rfl pkA rfl ?_ | refine Ow.store_sli rfl rfl rfl pkA (by first | omega | (simp only [List.length_set, List.length_append, List.length_replicate, List.length_cons, List.length_nil]; omega)) ?_)) | (refine Ow.kIdx ?_; (first | refine Ow.pu rfl (Pu.idx_st rfl rfl pkA (by omega)) ?_)) | (refine Ow.kCall ?_; (first | refine Ow.callE evA pkA rfl (SetGlobal_t rb q.threads q.regs q.stack G T _ _ hG) (fun _ => ?_) | refine Ow.callE evA (pk3 pkA pkA pkA) rfl hfld (fun _ => Ow.ass3 ?_) | refine Ow.callE0 evA rfl htr (fun _ => Ow.unemp ?_) | refine Ow.callE evA pkA rfl (Push_tabf rb q.threads q.regs q.stack G T hj hq _ hst) (fun _ => ?_) | refine Ow.callE evA pkA rfl (Push_tab rb q.threads q.regs q.stack G T hj hq _ hst) (fun _ => ?_) | refine Ow.callE evA pkA rfl (SetReg_tab rb q.threads q.regs q.stack G T hj hq _ _ hxr) (fun _ => ?_) | refine Ow.callE evA pkA rfl (Reg_tab rb q.threads q.regs q.stack G T hj hq _) (fun _ => ?_) | fail)) | (refine Ow.kBuild ?_; (first | refine Ow.pu rfl (Pu.bld1 rfl (fun w => by kernel_rfl)) ?_)) | refine Ow.alloc rfl (fun bx => ?_) | refine Ow.box rfl rfl rfl (fun bx => ?_))) | (refine Cw.is ?_; (first | refine Cw.seq ?_ | refine Cw.region ?_ | refine Cw.cond_t rfl rfl ?_ | refine Cw.cond_f rfl rfl ?_ | refine Cw.block ?_ | refine Cw.ret ?_ | refine Cw.skip ?_)) | (first | refine thenQ_n ?_ | refine thenQ_r ?_ | refine blockQ_n ?_ | refine blockQ_r ?_)))
      refine retQ_cN () Tryd.results44 rfl pkA rfl rfl rfl ?_
      refine Ent.trans ?_ (Ent.left (gpW_mk g q rb WL _ _ _ tv)); ((try simp only [star_assoc]); (repeat (apply Ent.pk; exact pkA)); first | exact Ent.fin pkA | exact Ent.refl _)
  · by_cases h0 : a = 0
    · have hef : plainR q O G r s x = ⟨O, G, r, s, 8, 0⟩ := by unfold plainR; simp only [h, ha]; rw [if_neg (by decide), if_pos trivial, if_pos h0]
      rw [hef]
      dsimp only
      rw [hTs]
      (refine Fn.of Tryd.func44 rfl (by kernel_rfl) Tryd.ntmps44 rfl (fun F => ?_))
      refine Cw.opn (gpW_ex g q rb WL O G T) (fun tv => ?_)
      (refine Cw.heq (by simp only [star_assoc, emp_star, star_emp]; exact rfl) ?_)
      rw [← ha] at h0
      (repeat' (first | (refine Ow.is ?_; (first | refine Ow.pu rfl (Pu.fld rfl) ?_ | refine Ow.pu rfl (Pu.fldS rfl) ?_ | refine Ow.nil ?_ | refine Ow.pu rfl (Pu.move rfl) ?_ | refine Ow.pu rfl (Pu.assign rfl) ?_ | refine Ow.pu rfl (Pu.fld rfl) ?_ | refine Ow.pu rfl (Pu.nilCheck rfl) ?_ | refine Ow.pu rfl (Pu.extract rfl rfl) ?_ | (refine Ow.kLoad ?_; (first | refine Ow.pu rfl (Pu.load_stfd (o := 1) (w := ob) rfl pkA (by omega) hob rfl) ?_ | refine Ow.pu rfl (Pu.load_cl rfl pkA rfl) ?_)) | (refine Ow.kBin ?_; (first | (refine Ow.b_eql ?_; (first | refine Ow.pu rfl (Pu.eq_t rfl rfl roA) ?_ | refine Ow.pu rfl (Pu.eq_f rfl rfl odA) ?_)) | (refine Ow.b_sub ?_; refine Ow.pu rfl (Pu.sub_i rfl rfl (by omega)) ?_))) | (refine Ow.kStore ?_; (first | refine Ow.store_stf (o := 1) (w := ob2) rfl rfl rfl rfl pkA (by omega) hset ?_ | refine Ow.storeN rfl rfl rfl rfl rfl pkA rfl ?_ | refine Ow.store_sli rfl rfl rfl pkA (by first | omega | (simp only [List.length_set, List.length_append, List.length_replicate, List.length_cons, List.length_nil]; omega)) ?_)) | (refine Ow.kIdx ?_; (first | refine Ow.pu rfl (Pu.idx_st rfl rfl pkA (by omega)) ?_)) | (refine Ow.kCall ?_; (first | refine Ow.callE evA pkA rfl (SetGlobal_t rb q.threads q.regs q.stack G T _ _ hG) (fun _ => ?_) | refine Ow.callE evA (pk3 pkA pkA pkA) rfl hfld (fun _ => Ow.ass3 ?_) | refine Ow.callE0 evA rfl htr (fun _ => Ow.unemp ?_) | refine Ow.callE evA pkA rfl (Push_tabf rb q.threads q.regs q.stack G T hj hq _ hst) (fun _ => ?_) | refine Ow.callE evA pkA rfl (Push_tab rb q.threads q.regs q.stack G T hj hq _ hst) (fun _ => ?_) | refine Ow.callE evA pkA rfl (SetReg_tab rb q.threads q.regs q.stack G T hj hq _ _ hxr) (fun _ => ?_) | refine Ow.callE evA pkA rfl (Reg_tab rb q.threads q.regs q.stack G T hj hq _) (fun _ => ?_) | fail)) | (refine Ow.kBuild ?_; (first | refine Ow.pu rfl (Pu.bld1 rfl (fun w => by kernel_rfl)) ?_)) | refine Ow.alloc rfl (fun bx => ?_) | refine Ow.box rfl rfl rfl (fun bx => ?_))) | (refine Cw.is ?_; (first | refine Cw.seq ?_ | refine Cw.region ?_ | refine Cw.cond_t rfl rfl ?_ | refine Cw.cond_f rfl rfl ?_ | refine Cw.block ?_ | refine Cw.ret ?_ | refine Cw.skip ?_)) | (first | refine thenQ_n ?_ | refine thenQ_r ?_ | refine blockQ_n ?_ | refine blockQ_r ?_)))
      refine retQ_cN () Tryd.results44 rfl pkA rfl rfl rfl ?_
      refine Ent.trans ?_ (Ent.left (gpW_mk g q rb WL _ _ _ tv)); ((try simp only [star_assoc]); (repeat (apply Ent.pk; exact pkA)); first | exact Ent.fin pkA | exact Ent.refl _)
    have ho1 : 1 ≤ a ∧ a ≤ O.length := by omega
    have hef : plainR q O G r s x = ⟨O, G, r, s, 0, (O[(a - 1).toNat]!).2.2⟩ := by unfold plainR; simp only [h, ha]; rw [if_neg (by decide), if_pos trivial, if_neg h0]
    rw [hef]
    dsimp only
    rw [hTs]
    (refine Fn.of Tryd.func44 rfl (by kernel_rfl) Tryd.ntmps44 rfl (fun F => ?_))
    refine Cw.opn (gpW_ex g q rb WL O G T) (fun tv => ?_)
    (refine Cw.heq (by simp only [star_assoc, emp_star, star_emp]; exact rfl) ?_)
    obtain ⟨ob, hob⟩ : ∃ ob, O[(a - 1).toNat]! = ob := ⟨_, rfl⟩
    rw [hob]
    rw [← ha] at h0 ho1 hob
    (repeat' (first | (refine Ow.is ?_; (first | refine Ow.pu rfl (Pu.fld rfl) ?_ | refine Ow.pu rfl (Pu.fldS rfl) ?_ | refine Ow.nil ?_ | refine Ow.pu rfl (Pu.move rfl) ?_ | refine Ow.pu rfl (Pu.assign rfl) ?_ | refine Ow.pu rfl (Pu.fld rfl) ?_ | refine Ow.pu rfl (Pu.nilCheck rfl) ?_ | refine Ow.pu rfl (Pu.extract rfl rfl) ?_ | (refine Ow.kLoad ?_; (first | refine Ow.pu rfl (Pu.load_stfd (o := 1) (w := ob) rfl pkA (by omega) hob rfl) ?_ | refine Ow.pu rfl (Pu.load_cl rfl pkA rfl) ?_)) | (refine Ow.kBin ?_; (first | (refine Ow.b_eql ?_; (first | refine Ow.pu rfl (Pu.eq_t rfl rfl roA) ?_ | refine Ow.pu rfl (Pu.eq_f rfl rfl odA) ?_)) | (refine Ow.b_sub ?_; refine Ow.pu rfl (Pu.sub_i rfl rfl (by omega)) ?_))) | (refine Ow.kStore ?_; (first | refine Ow.store_stf (o := 1) (w := ob2) rfl rfl rfl rfl pkA (by omega) hset ?_ | refine Ow.storeN rfl rfl rfl rfl rfl pkA rfl ?_ | refine Ow.store_sli rfl rfl rfl pkA (by first | omega | (simp only [List.length_set, List.length_append, List.length_replicate, List.length_cons, List.length_nil]; omega)) ?_)) | (refine Ow.kIdx ?_; (first | refine Ow.pu rfl (Pu.idx_st rfl rfl pkA (by omega)) ?_)) | (refine Ow.kCall ?_; (first | refine Ow.callE evA pkA rfl (SetGlobal_t rb q.threads q.regs q.stack G T _ _ hG) (fun _ => ?_) | refine Ow.callE evA (pk3 pkA pkA pkA) rfl hfld (fun _ => Ow.ass3 ?_) | refine Ow.callE0 evA rfl htr (fun _ => Ow.unemp ?_) | refine Ow.callE evA pkA rfl (Push_tabf rb q.threads q.regs q.stack G T hj hq _ hst) (fun _ => ?_) | refine Ow.callE evA pkA rfl (Push_tab rb q.threads q.regs q.stack G T hj hq _ hst) (fun _ => ?_) | refine Ow.callE evA pkA rfl (SetReg_tab rb q.threads q.regs q.stack G T hj hq _ _ hxr) (fun _ => ?_) | refine Ow.callE evA pkA rfl (Reg_tab rb q.threads q.regs q.stack G T hj hq _) (fun _ => ?_) | fail)) | (refine Ow.kBuild ?_; (first | refine Ow.pu rfl (Pu.bld1 rfl (fun w => by kernel_rfl)) ?_)) | refine Ow.alloc rfl (fun bx => ?_) | refine Ow.box rfl rfl rfl (fun bx => ?_))) | (refine Cw.is ?_; (first | refine Cw.seq ?_ | refine Cw.region ?_ | refine Cw.cond_t rfl rfl ?_ | refine Cw.cond_f rfl rfl ?_ | refine Cw.block ?_ | refine Cw.ret ?_ | refine Cw.skip ?_)) | (first | refine thenQ_n ?_ | refine thenQ_r ?_ | refine blockQ_n ?_ | refine blockQ_r ?_)))
    refine retQ_cN () Tryd.results44 rfl pkA rfl rfl rfl ?_
    refine Ent.trans ?_ (Ent.left (gpW_mk g q rb WL _ _ _ tv)); ((try simp only [star_assoc]); (repeat (apply Ent.pk; exact pkA)); first | exact Ent.fin pkA | exact Ent.refl _)
  · by_cases h0 : a = 0
    · have hef : plainR q O G r s x = ⟨O, G, r, s, 8, 0⟩ := by unfold plainR; simp only [h, ha]; rw [if_neg (by decide), if_neg (by decide), if_pos trivial, if_pos h0]
      rw [hef]
      dsimp only
      rw [hTs]
      (refine Fn.of Tryd.func44 rfl (by kernel_rfl) Tryd.ntmps44 rfl (fun F => ?_))
      refine Cw.opn (gpW_ex g q rb WL O G T) (fun tv => ?_)
      (refine Cw.heq (by simp only [star_assoc, emp_star, star_emp]; exact rfl) ?_)
      rw [← ha] at h0
      (repeat' (first | (refine Ow.is ?_; (first | refine Ow.pu rfl (Pu.fld rfl) ?_ | refine Ow.pu rfl (Pu.fldS rfl) ?_ | refine Ow.nil ?_ | refine Ow.pu rfl (Pu.move rfl) ?_ | refine Ow.pu rfl (Pu.assign rfl) ?_ | refine Ow.pu rfl (Pu.fld rfl) ?_ | refine Ow.pu rfl (Pu.nilCheck rfl) ?_ | refine Ow.pu rfl (Pu.extract rfl rfl) ?_ | (refine Ow.kLoad ?_; (first | refine Ow.pu rfl (Pu.load_stfd (o := 1) (w := ob) rfl pkA (by omega) hob rfl) ?_ | refine Ow.pu rfl (Pu.load_cl rfl pkA rfl) ?_)) | (refine Ow.kBin ?_; (first | (refine Ow.b_eql ?_; (first | refine Ow.pu rfl (Pu.eq_t rfl rfl roA) ?_ | refine Ow.pu rfl (Pu.eq_f rfl rfl odA) ?_)) | (refine Ow.b_sub ?_; refine Ow.pu rfl (Pu.sub_i rfl rfl (by omega)) ?_))) | (refine Ow.kStore ?_; (first | refine Ow.store_stf (o := 1) (w := ob2) rfl rfl rfl rfl pkA (by omega) hset ?_ | refine Ow.storeN rfl rfl rfl rfl rfl pkA rfl ?_ | refine Ow.store_sli rfl rfl rfl pkA (by first | omega | (simp only [List.length_set, List.length_append, List.length_replicate, List.length_cons, List.length_nil]; omega)) ?_)) | (refine Ow.kIdx ?_; (first | refine Ow.pu rfl (Pu.idx_st rfl rfl pkA (by omega)) ?_)) | (refine Ow.kCall ?_; (first | refine Ow.callE evA pkA rfl (SetGlobal_t rb q.threads q.regs q.stack G T _ _ hG) (fun _ => ?_) | refine Ow.callE evA (pk3 pkA pkA pkA) rfl hfld (fun _ => Ow.ass3 ?_) | refine Ow.callE0 evA rfl htr (fun _ => Ow.unemp ?_) | refine Ow.callE evA pkA rfl (Push_tabf rb q.threads q.regs q.stack G T hj hq _ hst) (fun _ => ?_) | refine Ow.callE evA pkA rfl (Push_tab rb q.threads q.regs q.stack G T hj hq _ hst) (fun _ => ?_) | refine Ow.callE evA pkA rfl (SetReg_tab rb q.threads q.regs q.stack G T hj hq _ _ hxr) (fun _ => ?_) | refine Ow.callE evA pkA rfl (Reg_tab rb q.threads q.regs q.stack G T hj hq _) (fun _ => ?_) | fail)) | (refine Ow.kBuild ?_; (first | refine Ow.pu rfl (Pu.bld1 rfl (fun w => by kernel_rfl)) ?_)) | refine Ow.alloc rfl (fun bx => ?_) | refine Ow.box rfl rfl rfl (fun bx => ?_))) | (refine Cw.is ?_; (first | refine Cw.seq ?_ | refine Cw.region ?_ | refine Cw.cond_t rfl rfl ?_ | refine Cw.cond_f rfl rfl ?_ | refine Cw.block ?_ | refine Cw.ret ?_ | refine Cw.skip ?_)) | (first | refine thenQ_n ?_ | refine thenQ_r ?_ | refine blockQ_n ?_ | refine blockQ_r ?_)))
      refine retQ_cN () Tryd.results44 rfl pkA rfl rfl rfl ?_
      refine Ent.trans ?_ (Ent.left (gpW_mk g q rb WL _ _ _ tv)); ((try simp only [star_assoc]); (repeat (apply Ent.pk; exact pkA)); first | exact Ent.fin pkA | exact Ent.refl _)
    have ho1 : 1 ≤ a ∧ a ≤ O.length := by omega
    have hef : plainR q O G r s x = ⟨setS O a x.y, G, r, s, 0, 0⟩ := by unfold plainR; simp only [h, ha]; rw [if_neg (by decide), if_neg (by decide), if_pos trivial, if_neg h0]
    rw [hef]
    dsimp only
    rw [hTs]
    (refine Fn.of Tryd.func44 rfl (by kernel_rfl) Tryd.ntmps44 rfl (fun F => ?_))
    refine Cw.opn (gpW_ex g q rb WL O G T) (fun tv => ?_)
    (refine Cw.heq (by simp only [star_assoc, emp_star, star_emp]; exact rfl) ?_)
    have hjo : (a - 1).toNat < O.length := by omega
    have hob' := obs_at O (a - 1).toNat hjo
    obtain ⟨ob, hob⟩ : ∃ ob, O[(a - 1).toNat]! = ob := ⟨_, rfl⟩
    obtain ⟨ob2, hob2⟩ : ∃ ob2 : Obj SV, (ob.1, ob.2.1, x.y) = ob2 := ⟨_, rfl⟩
    have hset : obc ob2 = (obc O[(a - 1).toNat]!).set 1 (vi x.y) ∧ 1 < 2 := ⟨by rw [hob, ← hob2]; rfl, by decide⟩
    have hss : setS O a x.y = O.set (a - 1).toNat ob2 := by unfold setS; rw [hob, hob2]
    rw [hob] at hob'
    rw [hss]
    have hobs : obs (O.set (a - 1).toNat ob2) = obs O := by rw [obs_set O _ hjo, hob', ← hob2]
    rw [← ha] at h0 ho1 hset hjo hobs
    rw [← ha]
    refine Cw.slP (v := tv) (s := 2) pkA (fun hsp => ?_)
    have hsn : tv.n = O.length := by have := hsp.1; rw [flat_len (f := obc)] at this; omega
    (repeat' (first | (refine Ow.is ?_; (first | refine Ow.pu rfl (Pu.fld rfl) ?_ | refine Ow.pu rfl (Pu.fldS rfl) ?_ | refine Ow.nil ?_ | refine Ow.pu rfl (Pu.move rfl) ?_ | refine Ow.pu rfl (Pu.assign rfl) ?_ | refine Ow.pu rfl (Pu.fld rfl) ?_ | refine Ow.pu rfl (Pu.nilCheck rfl) ?_ | refine Ow.pu rfl (Pu.extract rfl rfl) ?_ | (refine Ow.kLoad ?_; (first | refine Ow.pu rfl (Pu.load_stfd (o := 1) (w := ob) rfl pkA (by omega) hob rfl) ?_ | refine Ow.pu rfl (Pu.load_cl rfl pkA rfl) ?_)) | (refine Ow.kBin ?_; (first | (refine Ow.b_eql ?_; (first | refine Ow.pu rfl (Pu.eq_t rfl rfl roA) ?_ | refine Ow.pu rfl (Pu.eq_f rfl rfl odA) ?_)) | (refine Ow.b_sub ?_; refine Ow.pu rfl (Pu.sub_i rfl rfl (by omega)) ?_))) | (refine Ow.kStore ?_; (first | refine Ow.store_stf (o := 1) (w := ob2) rfl rfl rfl rfl pkA (by omega) hset ?_ | refine Ow.storeN rfl rfl rfl rfl rfl pkA rfl ?_ | refine Ow.store_sli rfl rfl rfl pkA (by first | omega | (simp only [List.length_set, List.length_append, List.length_replicate, List.length_cons, List.length_nil]; omega)) ?_)) | (refine Ow.kIdx ?_; (first | refine Ow.pu rfl (Pu.idx_st rfl rfl pkA (by omega)) ?_)) | (refine Ow.kCall ?_; (first | refine Ow.callE evA (pk3 pkA pkA pkA) rfl hfld (fun _ => Ow.ass3 ?_) | refine Ow.callE evA pkA rfl (Reg_tab rb q.threads q.regs q.stack G T hj hq _) (fun _ => ?_) | fail)) | (refine Ow.kBuild ?_; (first | refine Ow.pu rfl (Pu.bld1 rfl (fun w => by kernel_rfl)) ?_)) | refine Ow.alloc rfl (fun bx => ?_) | refine Ow.box rfl rfl rfl (fun bx => ?_))) | (refine Cw.is ?_; (first | refine Cw.seq ?_ | refine Cw.region ?_ | refine Cw.cond_t rfl rfl ?_ | refine Cw.cond_f rfl rfl ?_ | refine Cw.block ?_ | refine Cw.ret ?_ | refine Cw.skip ?_)) | (first | refine thenQ_n ?_ | refine thenQ_r ?_ | refine blockQ_n ?_ | refine blockQ_r ?_)))
    (refine Cw.draw2 (gcl _ _ _ _ _) (cl _ x.cs) false 0 [(0, false), (1, false), (2, false), (3, false), (4, false), (5, false), (6, false), (7, false), (8, false), (9, false), (10, true)] pkA pkA mixed (by kernel_rfl) ?_; (repeat (first | refine Dw.q rfl rfl trivial (by (first | exact Pu.move rfl | exact Pu.assign rfl | exact Pu.fld rfl | exact Pu.nilCheck rfl | exact Pu.extract rfl rfl | exact Pu.idx_sp (sv := tv) hsp rfl rfl (by omega) | exact Pu.fldS rfl | (apply Pu.kLoad; (first | exact Pu.load_stfd (o := 1) (w := ob) rfl pkA (by omega) hob rfl | exact Pu.load_cl rfl pkA rfl)) | (apply Pu.kBin; (first | (apply Pu.b_sub; exact Pu.sub_i rfl rfl (by omega)))))) ?_ | refine Dw.q rfl rfl ⟨_, _, rfl, rfl, rfl⟩ (by (first | exact Pu.move rfl | exact Pu.assign rfl | exact Pu.fld rfl | exact Pu.nilCheck rfl | exact Pu.extract rfl rfl | exact Pu.idx_sp (sv := tv) hsp rfl rfl (by omega) | exact Pu.fldS rfl | (apply Pu.kLoad; (first | exact Pu.load_stfd (o := 1) (w := ob) rfl pkA (by omega) hob rfl | exact Pu.load_cl rfl pkA rfl)) | (apply Pu.kBin; (first | (apply Pu.b_sub; exact Pu.sub_i rfl rfl (by omega)))))) ?_)); refine Dw.l rfl (by first | exact trivial | exact ⟨_, _, rfl, rfl, rfl⟩) ?_; refine Ow.store_stf (o := 1) (w := ob2) rfl rfl rfl rfl pkA (by omega) hset ?_; refine Ow.nil ?_; refine loudQ.go pkA ?_; refine Dw.nil2 ?_ rfl)
    (repeat' (first | (refine Ow.is ?_; (first | refine Ow.pu rfl (Pu.fldS rfl) ?_ | refine Ow.nil ?_ | refine Ow.pu rfl (Pu.move rfl) ?_ | (refine Ow.kStore ?_; (first | refine Ow.store_stf (o := 1) (w := ob2) rfl rfl rfl rfl pkA (by omega) hset ?_ | refine Ow.storeN rfl rfl rfl rfl rfl pkA rfl ?_)) | (refine Ow.kBuild ?_; (first | refine Ow.pu rfl (Pu.bld1 rfl (fun w => by kernel_rfl)) ?_)))) | (refine Cw.is ?_; (first | refine Cw.seq ?_ | refine Cw.region ?_ | refine Cw.cond_t rfl rfl ?_ | refine Cw.cond_f rfl rfl ?_ | refine Cw.block ?_ | refine Cw.ret ?_ | refine Cw.skip ?_)) | (first | refine thenQ_n ?_ | refine thenQ_r ?_ | refine blockQ_n ?_ | refine blockQ_r ?_)))
    refine retQ_cN () Tryd.results44 rfl pkA rfl rfl rfl ?_
    refine Ent.trans ?_ (Ent.left (gpW_mk g q rb WL _ _ _ tv)); rw [hobs]; ((try simp only [star_assoc]); (repeat (apply Ent.pk; exact pkA)); first | exact Ent.fin pkA | exact Ent.refl _)
  · have hef : plainR q O G r s x = ⟨O, G, r.set x.x.toNat (regR r x.y), s, 0, 0⟩ := by unfold plainR; simp only [h]; rfl
    rw [hef]
    dsimp only
    (refine Fn.of Tryd.func44 rfl (by kernel_rfl) Tryd.ntmps44 rfl (fun F => ?_))
    refine Cw.opn (gpW_ex g q rb WL O G T) (fun tv => ?_)
    (refine Cw.heq (by simp only [star_assoc, emp_star, star_emp]; exact rfl) ?_)
    (repeat' (first | (refine Ow.is ?_; (first | refine Ow.pu rfl (Pu.fld rfl) ?_ | refine Ow.pu rfl (Pu.fldS rfl) ?_ | refine Ow.nil ?_ | refine Ow.pu rfl (Pu.move rfl) ?_ | refine Ow.pu rfl (Pu.assign rfl) ?_ | refine Ow.pu rfl (Pu.fld rfl) ?_ | refine Ow.pu rfl (Pu.nilCheck rfl) ?_ | refine Ow.pu rfl (Pu.extract rfl rfl) ?_ | (refine Ow.kLoad ?_; (first | refine Ow.pu rfl (Pu.load_stfd (o := 1) (w := ob) rfl pkA (by omega) hob rfl) ?_ | refine Ow.pu rfl (Pu.load_cl rfl pkA rfl) ?_)) | (refine Ow.kBin ?_; (first | (refine Ow.b_eql ?_; (first | refine Ow.pu rfl (Pu.eq_t rfl rfl roA) ?_ | refine Ow.pu rfl (Pu.eq_f rfl rfl odA) ?_)) | (refine Ow.b_sub ?_; refine Ow.pu rfl (Pu.sub_i rfl rfl (by omega)) ?_))) | (refine Ow.kStore ?_; (first | refine Ow.store_stf (o := 1) (w := ob2) rfl rfl rfl rfl pkA (by omega) hset ?_ | refine Ow.storeN rfl rfl rfl rfl rfl pkA rfl ?_ | refine Ow.store_sli rfl rfl rfl pkA (by first | omega | (simp only [List.length_set, List.length_append, List.length_replicate, List.length_cons, List.length_nil]; omega)) ?_)) | (refine Ow.kIdx ?_; (first | refine Ow.pu rfl (Pu.idx_st rfl rfl pkA (by omega)) ?_)) | (refine Ow.kCall ?_; (first | refine Ow.callE evA pkA rfl (SetGlobal_t rb q.threads q.regs q.stack G T _ _ hG) (fun _ => ?_) | refine Ow.callE evA (pk3 pkA pkA pkA) rfl hfld (fun _ => Ow.ass3 ?_) | refine Ow.callE0 evA rfl htr (fun _ => Ow.unemp ?_) | refine Ow.callE evA pkA rfl (Push_tabf rb q.threads q.regs q.stack G T hj hq _ hst) (fun _ => ?_) | refine Ow.callE evA pkA rfl (Push_tab rb q.threads q.regs q.stack G T hj hq _ hst) (fun _ => ?_) | refine Ow.callE evA pkA rfl (SetReg_tab rb q.threads q.regs q.stack G T hj hq _ _ hxr) (fun _ => ?_) | refine Ow.callE evA pkA rfl (Reg_tab rb q.threads q.regs q.stack G T hj hq _) (fun _ => ?_) | fail)) | (refine Ow.kBuild ?_; (first | refine Ow.pu rfl (Pu.bld1 rfl (fun w => by kernel_rfl)) ?_)) | refine Ow.alloc rfl (fun bx => ?_) | refine Ow.box rfl rfl rfl (fun bx => ?_))) | (refine Cw.is ?_; (first | refine Cw.seq ?_ | refine Cw.region ?_ | refine Cw.cond_t rfl rfl ?_ | refine Cw.cond_f rfl rfl ?_ | refine Cw.block ?_ | refine Cw.ret ?_ | refine Cw.skip ?_)) | (first | refine thenQ_n ?_ | refine thenQ_r ?_ | refine blockQ_n ?_ | refine blockQ_r ?_)))
    refine retQ_cN () Tryd.results44 rfl pkA rfl rfl rfl ?_
    refine Ent.trans ?_ (Ent.left (gpW_mk g q rb WL _ _ _ tv)); ((try simp only [star_assoc]); (repeat (apply Ent.pk; exact pkA)); first | exact Ent.fin pkA | exact Ent.refl _)
  · have hef : plainR q O G r s x = ⟨O, G, r.set x.x.toNat 0, s, 0, 0⟩ := by unfold plainR; simp only [h]; rfl
    rw [hef]
    dsimp only
    (refine Fn.of Tryd.func44 rfl (by kernel_rfl) Tryd.ntmps44 rfl (fun F => ?_))
    refine Cw.opn (gpW_ex g q rb WL O G T) (fun tv => ?_)
    (refine Cw.heq (by simp only [star_assoc, emp_star, star_emp]; exact rfl) ?_)
    (repeat' (first | (refine Ow.is ?_; (first | refine Ow.pu rfl (Pu.fld rfl) ?_ | refine Ow.pu rfl (Pu.fldS rfl) ?_ | refine Ow.nil ?_ | refine Ow.pu rfl (Pu.move rfl) ?_ | refine Ow.pu rfl (Pu.assign rfl) ?_ | refine Ow.pu rfl (Pu.fld rfl) ?_ | refine Ow.pu rfl (Pu.nilCheck rfl) ?_ | refine Ow.pu rfl (Pu.extract rfl rfl) ?_ | (refine Ow.kLoad ?_; (first | refine Ow.pu rfl (Pu.load_stfd (o := 1) (w := ob) rfl pkA (by omega) hob rfl) ?_ | refine Ow.pu rfl (Pu.load_cl rfl pkA rfl) ?_)) | (refine Ow.kBin ?_; (first | (refine Ow.b_eql ?_; (first | refine Ow.pu rfl (Pu.eq_t rfl rfl roA) ?_ | refine Ow.pu rfl (Pu.eq_f rfl rfl odA) ?_)) | (refine Ow.b_sub ?_; refine Ow.pu rfl (Pu.sub_i rfl rfl (by omega)) ?_))) | (refine Ow.kStore ?_; (first | refine Ow.store_stf (o := 1) (w := ob2) rfl rfl rfl rfl pkA (by omega) hset ?_ | refine Ow.storeN rfl rfl rfl rfl rfl pkA rfl ?_ | refine Ow.store_sli rfl rfl rfl pkA (by first | omega | (simp only [List.length_set, List.length_append, List.length_replicate, List.length_cons, List.length_nil]; omega)) ?_)) | (refine Ow.kIdx ?_; (first | refine Ow.pu rfl (Pu.idx_st rfl rfl pkA (by omega)) ?_)) | (refine Ow.kCall ?_; (first | refine Ow.callE evA pkA rfl (SetGlobal_t rb q.threads q.regs q.stack G T _ _ hG) (fun _ => ?_) | refine Ow.callE evA (pk3 pkA pkA pkA) rfl hfld (fun _ => Ow.ass3 ?_) | refine Ow.callE0 evA rfl htr (fun _ => Ow.unemp ?_) | refine Ow.callE evA pkA rfl (Push_tabf rb q.threads q.regs q.stack G T hj hq _ hst) (fun _ => ?_) | refine Ow.callE evA pkA rfl (Push_tab rb q.threads q.regs q.stack G T hj hq _ hst) (fun _ => ?_) | refine Ow.callE evA pkA rfl (SetReg_tab rb q.threads q.regs q.stack G T hj hq _ _ hxr) (fun _ => ?_) | refine Ow.callE evA pkA rfl (Reg_tab rb q.threads q.regs q.stack G T hj hq _) (fun _ => ?_) | fail)) | (refine Ow.kBuild ?_; (first | refine Ow.pu rfl (Pu.bld1 rfl (fun w => by kernel_rfl)) ?_)) | refine Ow.alloc rfl (fun bx => ?_) | refine Ow.box rfl rfl rfl (fun bx => ?_))) | (refine Cw.is ?_; (first | refine Cw.seq ?_ | refine Cw.region ?_ | refine Cw.cond_t rfl rfl ?_ | refine Cw.cond_f rfl rfl ?_ | refine Cw.block ?_ | refine Cw.ret ?_ | refine Cw.skip ?_)) | (first | refine thenQ_n ?_ | refine thenQ_r ?_ | refine blockQ_n ?_ | refine blockQ_r ?_)))
    refine retQ_cN () Tryd.results44 rfl pkA rfl rfl rfl ?_
    refine Ent.trans ?_ (Ent.left (gpW_mk g q rb WL _ _ _ tv)); ((try simp only [star_assoc]); (repeat (apply Ent.pk; exact pkA)); first | exact Ent.fin pkA | exact Ent.refl _)
  · by_cases h0 : a = regR r x.y
    · have hef : plainR q O G r s x = ⟨O, G, r, s, 0, 1⟩ := by unfold plainR; simp only [h, ha, if_pos h0]; rfl
      rw [hef]
      dsimp only
      rw [hTs]
      (refine Fn.of Tryd.func44 rfl (by kernel_rfl) Tryd.ntmps44 rfl (fun F => ?_))
      refine Cw.opn (gpW_ex g q rb WL O G T) (fun tv => ?_)
      (refine Cw.heq (by simp only [star_assoc, emp_star, star_emp]; exact rfl) ?_)
      have htr : Fn Tryd.prog 61 [.bool true] emp Unit (fun _ => ansV 0 1) (fun _ => emp) := truth_fn true
      rw [← ha] at h0
      (repeat' (first | (refine Ow.is ?_; (first | refine Ow.pu rfl (Pu.fld rfl) ?_ | refine Ow.pu rfl (Pu.fldS rfl) ?_ | refine Ow.nil ?_ | refine Ow.pu rfl (Pu.move rfl) ?_ | refine Ow.pu rfl (Pu.assign rfl) ?_ | refine Ow.pu rfl (Pu.fld rfl) ?_ | refine Ow.pu rfl (Pu.nilCheck rfl) ?_ | refine Ow.pu rfl (Pu.extract rfl rfl) ?_ | (refine Ow.kLoad ?_; (first | refine Ow.pu rfl (Pu.load_stfd (o := 1) (w := ob) rfl pkA (by omega) hob rfl) ?_ | refine Ow.pu rfl (Pu.load_cl rfl pkA rfl) ?_)) | (refine Ow.kBin ?_; (first | (refine Ow.b_eql ?_; (first | refine Ow.pu rfl (Pu.eq_t rfl rfl roA) ?_ | refine Ow.pu rfl (Pu.eq_f rfl rfl odA) ?_)) | (refine Ow.b_sub ?_; refine Ow.pu rfl (Pu.sub_i rfl rfl (by omega)) ?_))) | (refine Ow.kStore ?_; (first | refine Ow.store_stf (o := 1) (w := ob2) rfl rfl rfl rfl pkA (by omega) hset ?_ | refine Ow.storeN rfl rfl rfl rfl rfl pkA rfl ?_ | refine Ow.store_sli rfl rfl rfl pkA (by first | omega | (simp only [List.length_set, List.length_append, List.length_replicate, List.length_cons, List.length_nil]; omega)) ?_)) | (refine Ow.kIdx ?_; (first | refine Ow.pu rfl (Pu.idx_st rfl rfl pkA (by omega)) ?_)) | (refine Ow.kCall ?_; (first | refine Ow.callE evA pkA rfl (SetGlobal_t rb q.threads q.regs q.stack G T _ _ hG) (fun _ => ?_) | refine Ow.callE evA (pk3 pkA pkA pkA) rfl hfld (fun _ => Ow.ass3 ?_) | refine Ow.callE0 evA rfl htr (fun _ => Ow.unemp ?_) | refine Ow.callE evA pkA rfl (Push_tabf rb q.threads q.regs q.stack G T hj hq _ hst) (fun _ => ?_) | refine Ow.callE evA pkA rfl (Push_tab rb q.threads q.regs q.stack G T hj hq _ hst) (fun _ => ?_) | refine Ow.callE evA pkA rfl (SetReg_tab rb q.threads q.regs q.stack G T hj hq _ _ hxr) (fun _ => ?_) | refine Ow.callE evA pkA rfl (Reg_tab rb q.threads q.regs q.stack G T hj hq _) (fun _ => ?_) | fail)) | (refine Ow.kBuild ?_; (first | refine Ow.pu rfl (Pu.bld1 rfl (fun w => by kernel_rfl)) ?_)) | refine Ow.alloc rfl (fun bx => ?_) | refine Ow.box rfl rfl rfl (fun bx => ?_))) | (refine Cw.is ?_; (first | refine Cw.seq ?_ | refine Cw.region ?_ | refine Cw.cond_t rfl rfl ?_ | refine Cw.cond_f rfl rfl ?_ | refine Cw.block ?_ | refine Cw.ret ?_ | refine Cw.skip ?_)) | (first | refine thenQ_n ?_ | refine thenQ_r ?_ | refine blockQ_n ?_ | refine blockQ_r ?_)))
      refine retQ_cN () Tryd.results44 rfl pkA rfl rfl rfl ?_
      refine Ent.trans ?_ (Ent.left (gpW_mk g q rb WL _ _ _ tv)); ((try simp only [star_assoc]); (repeat (apply Ent.pk; exact pkA)); first | exact Ent.fin pkA | exact Ent.refl _)
    · have hef : plainR q O G r s x = ⟨O, G, r, s, 0, 0⟩ := by unfold plainR; simp only [h, ha, if_neg h0]; rfl
      rw [hef]
      dsimp only
      rw [hTs]
      (refine Fn.of Tryd.func44 rfl (by kernel_rfl) Tryd.ntmps44 rfl (fun F => ?_))
      refine Cw.opn (gpW_ex g q rb WL O G T) (fun tv => ?_)
      (refine Cw.heq (by simp only [star_assoc, emp_star, star_emp]; exact rfl) ?_)
      have htr : Fn Tryd.prog 61 [.bool false] emp Unit (fun _ => ansV 0 0) (fun _ => emp) := truth_fn false
      rw [← ha] at h0
      (repeat' (first | (refine Ow.is ?_; (first | refine Ow.pu rfl (Pu.fld rfl) ?_ | refine Ow.pu rfl (Pu.fldS rfl) ?_ | refine Ow.nil ?_ | refine Ow.pu rfl (Pu.move rfl) ?_ | refine Ow.pu rfl (Pu.assign rfl) ?_ | refine Ow.pu rfl (Pu.fld rfl) ?_ | refine Ow.pu rfl (Pu.nilCheck rfl) ?_ | refine Ow.pu rfl (Pu.extract rfl rfl) ?_ | (refine Ow.kLoad ?_; (first | refine Ow.pu rfl (Pu.load_stfd (o := 1) (w := ob) rfl pkA (by omega) hob rfl) ?_ | refine Ow.pu rfl (Pu.load_cl rfl pkA rfl) ?_)) | (refine Ow.kBin ?_; (first | (refine Ow.b_eql ?_; (first | refine Ow.pu rfl (Pu.eq_t rfl rfl roA) ?_ | refine Ow.pu rfl (Pu.eq_f rfl rfl odA) ?_)) | (refine Ow.b_sub ?_; refine Ow.pu rfl (Pu.sub_i rfl rfl (by omega)) ?_))) | (refine Ow.kStore ?_; (first | refine Ow.store_stf (o := 1) (w := ob2) rfl rfl rfl rfl pkA (by omega) hset ?_ | refine Ow.storeN rfl rfl rfl rfl rfl pkA rfl ?_ | refine Ow.store_sli rfl rfl rfl pkA (by first | omega | (simp only [List.length_set, List.length_append, List.length_replicate, List.length_cons, List.length_nil]; omega)) ?_)) | (refine Ow.kIdx ?_; (first | refine Ow.pu rfl (Pu.idx_st rfl rfl pkA (by omega)) ?_)) | (refine Ow.kCall ?_; (first | refine Ow.callE evA pkA rfl (SetGlobal_t rb q.threads q.regs q.stack G T _ _ hG) (fun _ => ?_) | refine Ow.callE evA (pk3 pkA pkA pkA) rfl hfld (fun _ => Ow.ass3 ?_) | refine Ow.callE0 evA rfl htr (fun _ => Ow.unemp ?_) | refine Ow.callE evA pkA rfl (Push_tabf rb q.threads q.regs q.stack G T hj hq _ hst) (fun _ => ?_) | refine Ow.callE evA pkA rfl (Push_tab rb q.threads q.regs q.stack G T hj hq _ hst) (fun _ => ?_) | refine Ow.callE evA pkA rfl (SetReg_tab rb q.threads q.regs q.stack G T hj hq _ _ hxr) (fun _ => ?_) | refine Ow.callE evA pkA rfl (Reg_tab rb q.threads q.regs q.stack G T hj hq _) (fun _ => ?_) | fail)) | (refine Ow.kBuild ?_; (first | refine Ow.pu rfl (Pu.bld1 rfl (fun w => by kernel_rfl)) ?_)) | refine Ow.alloc rfl (fun bx => ?_) | refine Ow.box rfl rfl rfl (fun bx => ?_))) | (refine Cw.is ?_; (first | refine Cw.seq ?_ | refine Cw.region ?_ | refine Cw.cond_t rfl rfl ?_ | refine Cw.cond_f rfl rfl ?_ | refine Cw.block ?_ | refine Cw.ret ?_ | refine Cw.skip ?_)) | (first | refine thenQ_n ?_ | refine thenQ_r ?_ | refine blockQ_n ?_ | refine blockQ_r ?_)))
      refine retQ_cN () Tryd.results44 rfl pkA rfl rfl rfl ?_
      refine Ent.trans ?_ (Ent.left (gpW_mk g q rb WL _ _ _ tv)); ((try simp only [star_assoc]); (repeat (apply Ent.pk; exact pkA)); first | exact Ent.fin pkA | exact Ent.refl _)
  · by_cases h0 : a = 0
    · have hef : plainR q O G r s x = ⟨O, G, r, s, 0, 1⟩ := by unfold plainR; simp only [h, ha, if_pos h0]; rfl
      rw [hef]
      dsimp only
      rw [hTs]
      (refine Fn.of Tryd.func44 rfl (by kernel_rfl) Tryd.ntmps44 rfl (fun F => ?_))
      refine Cw.opn (gpW_ex g q rb WL O G T) (fun tv => ?_)
      (refine Cw.heq (by simp only [star_assoc, emp_star, star_emp]; exact rfl) ?_)
      have htr : Fn Tryd.prog 61 [.bool true] emp Unit (fun _ => ansV 0 1) (fun _ => emp) := truth_fn true
      rw [← ha] at h0
      (repeat' (first | (refine Ow.is ?_; (first | refine Ow.pu rfl (Pu.fld rfl) ?_ | refine Ow.pu rfl (Pu.fldS rfl) ?_ | refine Ow.nil ?_ | refine Ow.pu rfl (Pu.move rfl) ?_ | refine Ow.pu rfl (Pu.assign rfl) ?_ | refine Ow.pu rfl (Pu.fld rfl) ?_ | refine Ow.pu rfl (Pu.nilCheck rfl) ?_ | refine Ow.pu rfl (Pu.extract rfl rfl) ?_ | (refine Ow.kLoad ?_; (first | refine Ow.pu rfl (Pu.load_stfd (o := 1) (w := ob) rfl pkA (by omega) hob rfl) ?_ | refine Ow.pu rfl (Pu.load_cl rfl pkA rfl) ?_)) | (refine Ow.kBin ?_; (first | (refine Ow.b_eql ?_; (first | refine Ow.pu rfl (Pu.eq_t rfl rfl roA) ?_ | refine Ow.pu rfl (Pu.eq_f rfl rfl odA) ?_)) | (refine Ow.b_sub ?_; refine Ow.pu rfl (Pu.sub_i rfl rfl (by omega)) ?_))) | (refine Ow.kStore ?_; (first | refine Ow.store_stf (o := 1) (w := ob2) rfl rfl rfl rfl pkA (by omega) hset ?_ | refine Ow.storeN rfl rfl rfl rfl rfl pkA rfl ?_ | refine Ow.store_sli rfl rfl rfl pkA (by first | omega | (simp only [List.length_set, List.length_append, List.length_replicate, List.length_cons, List.length_nil]; omega)) ?_)) | (refine Ow.kIdx ?_; (first | refine Ow.pu rfl (Pu.idx_st rfl rfl pkA (by omega)) ?_)) | (refine Ow.kCall ?_; (first | refine Ow.callE evA pkA rfl (SetGlobal_t rb q.threads q.regs q.stack G T _ _ hG) (fun _ => ?_) | refine Ow.callE evA (pk3 pkA pkA pkA) rfl hfld (fun _ => Ow.ass3 ?_) | refine Ow.callE0 evA rfl htr (fun _ => Ow.unemp ?_) | refine Ow.callE evA pkA rfl (Push_tabf rb q.threads q.regs q.stack G T hj hq _ hst) (fun _ => ?_) | refine Ow.callE evA pkA rfl (Push_tab rb q.threads q.regs q.stack G T hj hq _ hst) (fun _ => ?_) | refine Ow.callE evA pkA rfl (SetReg_tab rb q.threads q.regs q.stack G T hj hq _ _ hxr) (fun _ => ?_) | refine Ow.callE evA pkA rfl (Reg_tab rb q.threads q.regs q.stack G T hj hq _) (fun _ => ?_) | fail)) | (refine Ow.kBuild ?_; (first | refine Ow.pu rfl (Pu.bld1 rfl (fun w => by kernel_rfl)) ?_)) | refine Ow.alloc rfl (fun bx => ?_) | refine Ow.box rfl rfl rfl (fun bx => ?_))) | (refine Cw.is ?_; (first | refine Cw.seq ?_ | refine Cw.region ?_ | refine Cw.cond_t rfl rfl ?_ | refine Cw.cond_f rfl rfl ?_ | refine Cw.block ?_ | refine Cw.ret ?_ | refine Cw.skip ?_)) | (first | refine thenQ_n ?_ | refine thenQ_r ?_ | refine blockQ_n ?_ | refine blockQ_r ?_)))
      refine retQ_cN () Tryd.results44 rfl pkA rfl rfl rfl ?_
      refine Ent.trans ?_ (Ent.left (gpW_mk g q rb WL _ _ _ tv)); ((try simp only [star_assoc]); (repeat (apply Ent.pk; exact pkA)); first | exact Ent.fin pkA | exact Ent.refl _)
    · have hef : plainR q O G r s x = ⟨O, G, r, s, 0, 0⟩ := by unfold plainR; simp only [h, ha, if_neg h0]; rfl
      rw [hef]
      dsimp only
      rw [hTs]
      (refine Fn.of Tryd.func44 rfl (by kernel_rfl) Tryd.ntmps44 rfl (fun F => ?_))
      refine Cw.opn (gpW_ex g q rb WL O G T) (fun tv => ?_)
      (refine Cw.heq (by simp only [star_assoc, emp_star, star_emp]; exact rfl) ?_)
      have htr : Fn Tryd.prog 61 [.bool false] emp Unit (fun _ => ansV 0 0) (fun _ => emp) := truth_fn false
      rw [← ha] at h0
      (repeat' (first | (refine Ow.is ?_; (first | refine Ow.pu rfl (Pu.fld rfl) ?_ | refine Ow.pu rfl (Pu.fldS rfl) ?_ | refine Ow.nil ?_ | refine Ow.pu rfl (Pu.move rfl) ?_ | refine Ow.pu rfl (Pu.assign rfl) ?_ | refine Ow.pu rfl (Pu.fld rfl) ?_ | refine Ow.pu rfl (Pu.nilCheck rfl) ?_ | refine Ow.pu rfl (Pu.extract rfl rfl) ?_ | (refine Ow.kLoad ?_; (first | refine Ow.pu rfl (Pu.load_stfd (o := 1) (w := ob) rfl pkA (by omega) hob rfl) ?_ | refine Ow.pu rfl (Pu.load_cl rfl pkA rfl) ?_)) | (refine Ow.kBin ?_; (first | (refine Ow.b_eql ?_; (first | refine Ow.pu rfl (Pu.eq_t rfl rfl roA) ?_ | refine Ow.pu rfl (Pu.eq_f rfl rfl odA) ?_)) | (refine Ow.b_sub ?_; refine Ow.pu rfl (Pu.sub_i rfl rfl (by omega)) ?_))) | (refine Ow.kStore ?_; (first | refine Ow.store_stf (o := 1) (w := ob2) rfl rfl rfl rfl pkA (by omega) hset ?_ | refine Ow.storeN rfl rfl rfl rfl rfl pkA rfl ?_ | refine Ow.store_sli rfl rfl rfl pkA (by first | omega | (simp only [List.length_set, List.length_append, List.length_replicate, List.length_cons, List.length_nil]; omega)) ?_)) | (refine Ow.kIdx ?_; (first | refine Ow.pu rfl (Pu.idx_st rfl rfl pkA (by omega)) ?_)) | (refine Ow.kCall ?_; (first | refine Ow.callE evA pkA rfl (SetGlobal_t rb q.threads q.regs q.stack G T _ _ hG) (fun _ => ?_) | refine Ow.callE evA (pk3 pkA pkA pkA) rfl hfld (fun _ => Ow.ass3 ?_) | refine Ow.callE0 evA rfl htr (fun _ => Ow.unemp ?_) | refine Ow.callE evA pkA rfl (Push_tabf rb q.threads q.regs q.stack G T hj hq _ hst) (fun _ => ?_) | refine Ow.callE evA pkA rfl (Push_tab rb q.threads q.regs q.stack G T hj hq _ hst) (fun _ => ?_) | refine Ow.callE evA pkA rfl (SetReg_tab rb q.threads q.regs q.stack G T hj hq _ _ hxr) (fun _ => ?_) | refine Ow.callE evA pkA rfl (Reg_tab rb q.threads q.regs q.stack G T hj hq _) (fun _ => ?_) | fail)) | (refine Ow.kBuild ?_; (first | refine Ow.pu rfl (Pu.bld1 rfl (fun w => by kernel_rfl)) ?_)) | refine Ow.alloc rfl (fun bx => ?_) | refine Ow.box rfl rfl rfl (fun bx => ?_))) | (refine Cw.is ?_; (first | refine Cw.seq ?_ | refine Cw.region ?_ | refine Cw.cond_t rfl rfl ?_ | refine Cw.cond_f rfl rfl ?_ | refine Cw.block ?_ | refine Cw.ret ?_ | refine Cw.skip ?_)) | (first | refine thenQ_n ?_ | refine thenQ_r ?_ | refine blockQ_n ?_ | refine blockQ_r ?_)))
      refine retQ_cN () Tryd.results44 rfl pkA rfl rfl rfl ?_
      refine Ent.trans ?_ (Ent.left (gpW_mk g q rb WL _ _ _ tv)); ((try simp only [star_assoc]); (repeat (apply Ent.pk; exact pkA)); first | exact Ent.fin pkA | exact Ent.refl _)
  · by_cases h0 : q.stack ≤ s.length
    · have hef : plainR q O G r s x = ⟨O, G, r, s, 9, 0⟩ := by unfold plainR; simp only [h, if_pos h0]; rfl
      rw [hef]
      dsimp only
      rw [hTs]
      (refine Fn.of Tryd.func44 rfl (by kernel_rfl) Tryd.ntmps44 rfl (fun F => ?_))
      refine Cw.opn (gpW_ex g q rb WL O G T) (fun tv => ?_)
      (refine Cw.heq (by simp only [star_assoc, emp_star, star_emp]; exact rfl) ?_)
      have hst := h0
      (repeat' (first | (refine Ow.is ?_; (first | refine Ow.pu rfl (Pu.fld rfl) ?_ | refine Ow.pu rfl (Pu.fldS rfl) ?_ | refine Ow.nil ?_ | refine Ow.pu rfl (Pu.move rfl) ?_ | refine Ow.pu rfl (Pu.assign rfl) ?_ | refine Ow.pu rfl (Pu.fld rfl) ?_ | refine Ow.pu rfl (Pu.nilCheck rfl) ?_ | refine Ow.pu rfl (Pu.extract rfl rfl) ?_ | (refine Ow.kLoad ?_; (first | refine Ow.pu rfl (Pu.load_stfd (o := 1) (w := ob) rfl pkA (by omega) hob rfl) ?_ | refine Ow.pu rfl (Pu.load_cl rfl pkA rfl) ?_)) | (refine Ow.kBin ?_; (first | (refine Ow.b_eql ?_; (first | refine Ow.pu rfl (Pu.eq_t rfl rfl roA) ?_ | refine Ow.pu rfl (Pu.eq_f rfl rfl odA) ?_)) | (refine Ow.b_sub ?_; refine Ow.pu rfl (Pu.sub_i rfl rfl (by omega)) ?_))) | (refine Ow.kStore ?_; (first | refine Ow.store_stf (o := 1) (w := ob2) rfl rfl rfl rfl pkA (by omega) hset ?_ | refine Ow.storeN rfl rfl rfl rfl rfl pkA rfl ?_ | refine Ow.store_sli rfl rfl rfl pkA (by first | omega | (simp only [List.length_set, List.length_append, List.length_replicate, List.length_cons, List.length_nil]; omega)) ?_)) | (refine Ow.kIdx ?_; (first | refine Ow.pu rfl (Pu.idx_st rfl rfl pkA (by omega)) ?_)) | (refine Ow.kCall ?_; (first | refine Ow.callE evA pkA rfl (SetGlobal_t rb q.threads q.regs q.stack G T _ _ hG) (fun _ => ?_) | refine Ow.callE evA (pk3 pkA pkA pkA) rfl hfld (fun _ => Ow.ass3 ?_) | refine Ow.callE0 evA rfl htr (fun _ => Ow.unemp ?_) | refine Ow.callE evA pkA rfl (Push_tabf rb q.threads q.regs q.stack G T hj hq _ hst) (fun _ => ?_) | refine Ow.callE evA pkA rfl (Push_tab rb q.threads q.regs q.stack G T hj hq _ hst) (fun _ => ?_) | refine Ow.callE evA pkA rfl (SetReg_tab rb q.threads q.regs q.stack G T hj hq _ _ hxr) (fun _ => ?_) | refine Ow.callE evA pkA rfl (Reg_tab rb q.threads q.regs q.stack G T hj hq _) (fun _ => ?_) | fail)) | (refine Ow.kBuild ?_; (first | refine Ow.pu rfl (Pu.bld1 rfl (fun w => by kernel_rfl)) ?_)) | refine Ow.alloc rfl (fun bx => ?_) | refine Ow.box rfl rfl rfl (fun bx => ?_))) | (refine Cw.is ?_; (first | refine Cw.seq ?_ | refine Cw.region ?_ | refine Cw.cond_t rfl rfl ?_ | refine Cw.cond_f rfl rfl ?_ | refine Cw.block ?_ | refine Cw.ret ?_ | refine Cw.skip ?_)) | (first | refine thenQ_n ?_ | refine thenQ_r ?_ | refine blockQ_n ?_ | refine blockQ_r ?_)))
      refine retQ_cN () Tryd.results44 rfl pkA rfl rfl rfl ?_
      refine Ent.trans ?_ (Ent.left (gpW_mk g q rb WL _ _ _ tv)); ((try simp only [star_assoc]); (repeat (apply Ent.pk; exact pkA)); first | exact Ent.fin pkA | exact Ent.refl _)
    · have hef : plainR q O G r s x = ⟨O, G, r, s ++ [regR r x.x], 0, 0⟩ := by unfold plainR; simp only [h, if_neg h0]; rfl
      rw [hef]
      dsimp only
      (refine Fn.of Tryd.func44 rfl (by kernel_rfl) Tryd.ntmps44 rfl (fun F => ?_))
      refine Cw.opn (gpW_ex g q rb WL O G T) (fun tv => ?_)
      (refine Cw.heq (by simp only [star_assoc, emp_star, star_emp]; exact rfl) ?_)
      have hst : (s.length : Int) < q.stack ∧ s.length < 1000000 := by omega
      (repeat' (first | (refine Ow.is ?_; (first | refine Ow.pu rfl (Pu.fld rfl) ?_ | refine Ow.pu rfl (Pu.fldS rfl) ?_ | refine Ow.nil ?_ | refine Ow.pu rfl (Pu.move rfl) ?_ | refine Ow.pu rfl (Pu.assign rfl) ?_ | refine Ow.pu rfl (Pu.fld rfl) ?_ | refine Ow.pu rfl (Pu.nilCheck rfl) ?_ | refine Ow.pu rfl (Pu.extract rfl rfl) ?_ | (refine Ow.kLoad ?_; (first | refine Ow.pu rfl (Pu.load_stfd (o := 1) (w := ob) rfl pkA (by omega) hob rfl) ?_ | refine Ow.pu rfl (Pu.load_cl rfl pkA rfl) ?_)) | (refine Ow.kBin ?_; (first | (refine Ow.b_eql ?_; (first | refine Ow.pu rfl (Pu.eq_t rfl rfl roA) ?_ | refine Ow.pu rfl (Pu.eq_f rfl rfl odA) ?_)) | (refine Ow.b_sub ?_; refine Ow.pu rfl (Pu.sub_i rfl rfl (by omega)) ?_))) | (refine Ow.kStore ?_; (first | refine Ow.store_stf (o := 1) (w := ob2) rfl rfl rfl rfl pkA (by omega) hset ?_ | refine Ow.storeN rfl rfl rfl rfl rfl pkA rfl ?_ | refine Ow.store_sli rfl rfl rfl pkA (by first | omega | (simp only [List.length_set, List.length_append, List.length_replicate, List.length_cons, List.length_nil]; omega)) ?_)) | (refine Ow.kIdx ?_; (first | refine Ow.pu rfl (Pu.idx_st rfl rfl pkA (by omega)) ?_)) | (refine Ow.kCall ?_; (first | refine Ow.callE evA pkA rfl (SetGlobal_t rb q.threads q.regs q.stack G T _ _ hG) (fun _ => ?_) | refine Ow.callE evA (pk3 pkA pkA pkA) rfl hfld (fun _ => Ow.ass3 ?_) | refine Ow.callE0 evA rfl htr (fun _ => Ow.unemp ?_) | refine Ow.callE evA pkA rfl (Push_tabf rb q.threads q.regs q.stack G T hj hq _ hst) (fun _ => ?_) | refine Ow.callE evA pkA rfl (Push_tab rb q.threads q.regs q.stack G T hj hq _ hst) (fun _ => ?_) | refine Ow.callE evA pkA rfl (SetReg_tab rb q.threads q.regs q.stack G T hj hq _ _ hxr) (fun _ => ?_) | refine Ow.callE evA pkA rfl (Reg_tab rb q.threads q.regs q.stack G T hj hq _) (fun _ => ?_) | fail)) | (refine Ow.kBuild ?_; (first | refine Ow.pu rfl (Pu.bld1 rfl (fun w => by kernel_rfl)) ?_)) | refine Ow.alloc rfl (fun bx => ?_) | refine Ow.box rfl rfl rfl (fun bx => ?_))) | (refine Cw.is ?_; (first | refine Cw.seq ?_ | refine Cw.region ?_ | refine Cw.cond_t rfl rfl ?_ | refine Cw.cond_f rfl rfl ?_ | refine Cw.block ?_ | refine Cw.ret ?_ | refine Cw.skip ?_)) | (first | refine thenQ_n ?_ | refine thenQ_r ?_ | refine blockQ_n ?_ | refine blockQ_r ?_)))
      refine retQ_cN () Tryd.results44 rfl pkA rfl rfl rfl ?_
      refine Ent.trans ?_ (Ent.left (gpW_mk g q rb WL _ _ _ tv)); ((try simp only [star_assoc]); (repeat (apply Ent.pk; exact pkA)); first | exact Ent.fin pkA | exact Ent.refl _)
  · have hef : plainR q O G r s x = ⟨O, G.set x.y.toNat (regR r x.x), r, s, 0, 0⟩ := by unfold plainR; simp only [h]; rfl
    rw [hef]
    dsimp only
    rw [hTs]
    (refine Fn.of Tryd.func44 rfl (by kernel_rfl) Tryd.ntmps44 rfl (fun F => ?_))
    refine Cw.opn (gpW_ex g q rb WL O G T) (fun tv => ?_)
    (refine Cw.heq (by simp only [star_assoc, emp_star, star_emp]; exact rfl) ?_)
    have hG := hG h
    (repeat' (first | (refine Ow.is ?_; (first | refine Ow.pu rfl (Pu.fld rfl) ?_ | refine Ow.pu rfl (Pu.fldS rfl) ?_ | refine Ow.nil ?_ | refine Ow.pu rfl (Pu.move rfl) ?_ | refine Ow.pu rfl (Pu.assign rfl) ?_ | refine Ow.pu rfl (Pu.fld rfl) ?_ | refine Ow.pu rfl (Pu.nilCheck rfl) ?_ | refine Ow.pu rfl (Pu.extract rfl rfl) ?_ | (refine Ow.kLoad ?_; (first | refine Ow.pu rfl (Pu.load_stfd (o := 1) (w := ob) rfl pkA (by omega) hob rfl) ?_ | refine Ow.pu rfl (Pu.load_cl rfl pkA rfl) ?_)) | (refine Ow.kBin ?_; (first | (refine Ow.b_eql ?_; (first | refine Ow.pu rfl (Pu.eq_t rfl rfl roA) ?_ | refine Ow.pu rfl (Pu.eq_f rfl rfl odA) ?_)) | (refine Ow.b_sub ?_; refine Ow.pu rfl (Pu.sub_i rfl rfl (by omega)) ?_))) | (refine Ow.kStore ?_; (first | refine Ow.store_stf (o := 1) (w := ob2) rfl rfl rfl rfl pkA (by omega) hset ?_ | refine Ow.storeN rfl rfl rfl rfl rfl pkA rfl ?_ | refine Ow.store_sli rfl rfl rfl pkA (by first | omega | (simp only [List.length_set, List.length_append, List.length_replicate, List.length_cons, List.length_nil]; omega)) ?_)) | (refine Ow.kIdx ?_; (first | refine Ow.pu rfl (Pu.idx_st rfl rfl pkA (by omega)) ?_)) | (refine Ow.kCall ?_; (first | refine Ow.callE evA (pk3 pkA pkA pkA) rfl hfld (fun _ => Ow.ass3 ?_) | refine Ow.callE0 evA rfl htr (fun _ => Ow.unemp ?_) | refine Ow.callE evA pkA rfl (Push_tabf rb q.threads q.regs q.stack G T hj hq _ hst) (fun _ => ?_) | refine Ow.callE evA pkA rfl (Push_tab rb q.threads q.regs q.stack G T hj hq _ hst) (fun _ => ?_) | refine Ow.callE evA pkA rfl (SetReg_tab rb q.threads q.regs q.stack G T hj hq _ _ hxr) (fun _ => ?_) | refine Ow.callE evA pkA rfl (Reg_tab rb q.threads q.regs q.stack G T hj hq _) (fun _ => ?_) | fail)) | (refine Ow.kBuild ?_; (first | refine Ow.pu rfl (Pu.bld1 rfl (fun w => by kernel_rfl)) ?_)) | refine Ow.alloc rfl (fun bx => ?_) | refine Ow.box rfl rfl rfl (fun bx => ?_))) | (refine Cw.is ?_; (first | refine Cw.seq ?_ | refine Cw.region ?_ | refine Cw.cond_t rfl rfl ?_ | refine Cw.cond_f rfl rfl ?_ | refine Cw.block ?_ | refine Cw.ret ?_ | refine Cw.skip ?_)) | (first | refine thenQ_n ?_ | refine thenQ_r ?_ | refine blockQ_n ?_ | refine blockQ_r ?_)))
    (refine Cw.draw2 (gcl _ _ _ _ _) (cl _ x.cs) false 0 [(0, false), (1, false), (2, false), (3, false), (4, false), (5, false), (6, false), (7, true), (8, false)] pkA pkA mixed (by kernel_rfl) ?_; (repeat (first | refine Dw.q rfl rfl trivial (by (first | exact Pu.move rfl | exact Pu.assign rfl | exact Pu.fld rfl | exact Pu.nilCheck rfl | exact Pu.extract rfl rfl | exact Pu.idx_sp (sv := tv) hsp rfl rfl (by omega) | exact Pu.fldS rfl | (apply Pu.kLoad; (first | exact Pu.load_stfd (o := 1) (w := ob) rfl pkA (by omega) hob rfl | exact Pu.load_cl rfl pkA rfl)) | (apply Pu.kBin; (first | (apply Pu.b_sub; exact Pu.sub_i rfl rfl (by omega)))))) ?_ | refine Dw.q rfl rfl ⟨_, _, rfl, rfl, rfl⟩ (by (first | exact Pu.move rfl | exact Pu.assign rfl | exact Pu.fld rfl | exact Pu.nilCheck rfl | exact Pu.extract rfl rfl | exact Pu.idx_sp (sv := tv) hsp rfl rfl (by omega) | exact Pu.fldS rfl | (apply Pu.kLoad; (first | exact Pu.load_stfd (o := 1) (w := ob) rfl pkA (by omega) hob rfl | exact Pu.load_cl rfl pkA rfl)) | (apply Pu.kBin; (first | (apply Pu.b_sub; exact Pu.sub_i rfl rfl (by omega)))))) ?_)); refine Dw.l rfl (by first | exact trivial | exact ⟨_, _, rfl, rfl, rfl⟩) ?_; refine Ow.callE evA pkA rfl (SetGlobal_t rb q.threads q.regs q.stack G T _ _ hG) (fun _ => ?_); refine Ow.nil ?_; refine loudQ.go pkA ?_; (repeat (first | refine Dw.q rfl rfl trivial (by (first | exact Pu.move rfl | exact Pu.assign rfl | exact Pu.fld rfl | exact Pu.nilCheck rfl | exact Pu.extract rfl rfl | exact Pu.idx_sp (sv := tv) hsp rfl rfl (by omega) | exact Pu.fldS rfl | (apply Pu.kLoad; (first | exact Pu.load_stfd (o := 1) (w := ob) rfl pkA (by omega) hob rfl | exact Pu.load_cl rfl pkA rfl)) | (apply Pu.kBin; (first | (apply Pu.b_sub; exact Pu.sub_i rfl rfl (by omega)))))) ?_ | refine Dw.q rfl rfl ⟨_, _, rfl, rfl, rfl⟩ (by (first | exact Pu.move rfl | exact Pu.assign rfl | exact Pu.fld rfl | exact Pu.nilCheck rfl | exact Pu.extract rfl rfl | exact Pu.idx_sp (sv := tv) hsp rfl rfl (by omega) | exact Pu.fldS rfl | (apply Pu.kLoad; (first | exact Pu.load_stfd (o := 1) (w := ob) rfl pkA (by omega) hob rfl | exact Pu.load_cl rfl pkA rfl)) | (apply Pu.kBin; (first | (apply Pu.b_sub; exact Pu.sub_i rfl rfl (by omega)))))) ?_)); refine Dw.nil2 ?_ rfl)
    (repeat' (first | (refine Ow.is ?_; (first | refine Ow.pu rfl (Pu.fldS rfl) ?_ | refine Ow.nil ?_ | refine Ow.pu rfl (Pu.move rfl) ?_ | (refine Ow.kStore ?_; (first | refine Ow.store_stf (o := 1) (w := ob2) rfl rfl rfl rfl pkA (by omega) hset ?_ | refine Ow.storeN rfl rfl rfl rfl rfl pkA rfl ?_)) | (refine Ow.kBuild ?_; (first | refine Ow.pu rfl (Pu.bld1 rfl (fun w => by kernel_rfl)) ?_)))) | (refine Cw.is ?_; (first | refine Cw.seq ?_ | refine Cw.region ?_ | refine Cw.cond_t rfl rfl ?_ | refine Cw.cond_f rfl rfl ?_ | refine Cw.block ?_ | refine Cw.ret ?_ | refine Cw.skip ?_)) | (first | refine thenQ_n ?_ | refine thenQ_r ?_ | refine blockQ_n ?_ | refine blockQ_r ?_)))
    refine retQ_cN () Tryd.results44 rfl pkA rfl rfl rfl ?_
    refine Ent.trans ?_ (Ent.left (gpW_mk g q rb WL _ _ _ tv)); ((try simp only [star_assoc]); (repeat (apply Ent.pk; exact pkA)); first | exact Ent.fin pkA | exact Ent.refl _)
end
end Go.Sl
namespace Go.Sl
open Go
set_option linter.unusedVariables false
universe u
section
variable {P : Program} {r : Option Nat} {n : Nat} {Q : PostT} {ρ : Env} {ds : List Deferred} {H R A B X : HP} {all : List Oper} {d : Option Nat} {t t' : TypeId} {pos : String} {aft : Array Edge} {v : Value} {jt i : Nat} {ord : List (Nat × Bool)} {ph : Bool}
def loudG (P : Program) (r : Option Nat) (n : Nat) (all : List Oper) (B : HP) (jt : Nat) (Q : PostT) (ds : List Deferred) (ord : List (Nat × Bool)) : PostT := fun e ρ ds' H => e = .normal ∧ ds' = ds ∧ ∃ X, H = B * X ∧ DwF P r n all B jt Q ds false ord ρ X
theorem loudG.go (hp : Pk H B X) (h : DwF P r n all B jt Q ds false ord ρ X) : loudG P r n all B jt Q ds ord .normal ρ ds H := ⟨rfl, rfl, X, hp, h⟩
theorem loudG.go2 {B1 B2 R1 : HP} (hp : Pk H B1 R1) (hp2 : Pk R1 B2 X) (h : DwF P r n all (B1 * B2) jt Q ds false ord ρ X) : loudG P r n all (B1 * B2) jt Q ds ord .normal ρ ds H := ⟨rfl, rfl, X, by unfold Pk at *; rw [hp, hp2, star_assoc], h⟩
theorem DwF.c {op : Op} {gd : Option (Nat × Bool)} (hi : all[i]? = some ⟨d, op, t, pos, aft, gd⟩) (hg : Gy all ρ gd) (hij : Nat.beq i jt = false)
    (h : Ow P r n all [⟨d, op, t, pos, aft, none⟩] (loudG P r n all B jt Q ds ord) ρ ds (B * X)) : DwF P r n all B jt Q ds false ((i, true) :: ord) ρ X := by
  intro ht g a listed hok hsh hj hr hds
  simp only [ordOk, Bool.and_eq_true, Bool.or_eq_true] at hok
  obtain ⟨⟨hrd, _⟩, hok'⟩ := hok
  have hrd' : Region.ready .any all.toArray listed = [i] := by simpa using hrd
  have hmem : i ∈ Region.ready .any all.toArray listed := by rw [hrd']; simp
  have hi' : all.toArray[i]? = some ⟨d, op, t, pos, aft, gd⟩ := by simpa using hi
  have hw := wanted_gy (d := d) (op := op) (t := t) (pos := pos) (aft := aft) hg hr
  have hjn : (listed.setIfInBounds i true).getD jt false = false := by
    rw [getD_set_ne false (Nat.ne_of_beq_eq_false hij)]; exact hj
  change hAnyF (fen r) P .any all.toArray g B jt _ (ord.length + 1) listed a (held B false * X)
  refine And.intro (by rw [Bfj_held hj]; exact .drop _ _) (And.intro (fun h0 => by rw [hrd'] at h0; cases h0) (fun k hk => ?_))
  rw [hrd'] at hk
  obtain rfl : k = i := by simpa using hk
  unfold hStep
  simp only [hi', hw, if_true]
  refine .inr fun w hs => ?_
  have h1 := h g w a hr hds hs
  simp only [wpListIn, Region.wanted, if_true] at h1
  have hno : ∀ e a w, e ≠ .normal → ¬ toQ n g (loudG P r n all B jt Q ds ord) e a w := fun e a w hne ⟨_, _, _, _, h5⟩ => hne h5.1
  have h2 : Oper.wpIn (fen r) 0 P ⟨d, op, t, pos, aft, gd⟩ a w (toQ n g (loudG P r n all B jt Q ds ord) .normal) (toQ n g (loudG P r n all B jt Q ds ord)) := h1
  have h3 : Oper.wpIn (fen r) 0 P ⟨d, op, t, pos, aft, gd⟩ a w (toQ n g (loudG P r n all B jt Q ds ord) .normal) noQ := by
    unfold Oper.wpIn at *
    refine ⟨h2.1, ?_⟩
    have h2 := h2.2
    generalize ((⟨d, op, t, pos, aft, gd⟩ : Oper).semAt (fen r).round a.eval).run P w = x at *
    cases x with
    | ok x w' =>
      cases x <;> simp only [Oper.uponIn] at h2 ⊢ <;>
        first
          | exact h2
          | exact ⟨h2.1, CallsIn.mono h2.2 (fun e w'' he => by cases e <;> first | exact he | exact (hno _ _ _ (by simp) he).elim | (obtain ⟨_, _, hf⟩ := he; exact (hno _ _ _ (by simp) hf).elim))⟩
          | exact ⟨h2.1, RoundIn.mono h2.2 (fun e w'' he => by cases e <;> first | exact he | exact (hno _ _ _ (by simp) he).elim | (obtain ⟨_, _, hf⟩ := he; exact (hno _ _ _ (by simp) hf).elim))⟩
    | halt x w' => cases x <;> simp only [Oper.uponIn] at h2 ⊢ <;> first | exact h2 | exact (hno _ _ _ (by simp) h2).elim
  refine Oper.wpIn_mono ?_ h3
  rintro a' w' ⟨ρ', H', h4, h5, _, h6, X', rfl, h7⟩
  exact ⟨B * X', h5, h7 ht g a' _ hok' (hsh.put hmem) hjn h4 h6⟩
theorem loudG.go3 {B1 B2 B3 R1 R2 : HP} (hp : Pk H B1 R1) (hp2 : Pk R1 B2 R2) (hp3 : Pk R2 B3 X) (h : DwF P r n all (B1 * (B2 * B3)) jt Q ds false ord ρ X) : loudG P r n all (B1 * (B2 * B3)) jt Q ds ord .normal ρ ds H := ⟨rfl, rfl, X, by unfold Pk at *; rw [hp, hp2, hp3, star_assoc, star_assoc], h⟩
theorem Cw.drawF3 {id : Nat} {R1 R2 : HP} (B1 B2 B3 : HP) (jt : Nat) (ord : List (Nat × Bool)) (hp : Pk H B1 R1) (hp2 : Pk R1 B2 R2) (hp3 : Pk R2 B3 X) (hm : P.follows .mixedOrders = true) (hok : (tame all.toArray && ordOk all.toArray false 0 ord (Array.replicate all.length false) && Nat.beq ord.length all.length) = true)
    (h : DwF P r n all (B1 * (B2 * B3)) jt Q ds false ord ρ X) : Cw P r n (.region id all.toArray true) Q ρ ds H := Cw.drawF (B1 * (B2 * B3)) jt ord (by unfold Pk at *; rw [hp, hp2, hp3, star_assoc, star_assoc]) hm hok h
theorem Ow.as3 {l : List Oper} {A B C R : HP} (h : Ow P r n all l Q ρ ds (A * (B * (C * R)))) : Ow P r n all l Q ρ ds (A * (B * C) * R) := Ow.heq (by rw [star_assoc, star_assoc]) h
theorem Cw.drawF2 {id : Nat} {R1 : HP} (B1 B2 : HP) (jt : Nat) (ord : List (Nat × Bool)) (hp : Pk H B1 R1) (hp2 : Pk R1 B2 X) (hm : P.follows .mixedOrders = true) (hok : (tame all.toArray && ordOk all.toArray false 0 ord (Array.replicate all.length false) && Nat.beq ord.length all.length) = true)
    (h : DwF P r n all (B1 * B2) jt Q ds false ord ρ X) : Cw P r n (.region id all.toArray true) Q ρ ds H := Cw.drawF (B1 * B2) jt ord (by unfold Pk at *; rw [hp, hp2, star_assoc]) hm hok h
end
end Go.Sl
namespace Go.Sl
open Go Go.Proofs
set_option linter.unusedVariables false
set_option linter.unusedSimpArgs false
attribute [local irreducible] star Ow Cw Pk Pu Dw DwF thenQ blockQ retQ loudQ loudF loudG Cr thr tab obs andI
variable (g : Nat) (q : Cfg) (rb : Nat) (WL : List Value) (O : List (Obj SV)) (G : List Int) (T : List Slt)
set_option maxHeartbeats 8000000 in
theorem get_fn {j nb : Nat} {r s : List Int} (x : It) (full : Bool) (hO : O.length ≤ 1000000) (hq8 : QOk q) (hj : j < T.length) (hq : T[j]! = some (nb, r, s)) (hr : ∀ z ∈ r, okR O.length z) (hsl : (s.length : Int) ≤ q.stack) (hA : x.c = 0 → 0 ≤ x.y ∧ x.y ≤ 6) (hG : x.c = 11 → 0 ≤ x.y ∧ x.y < G.length) (hc : tellsC x.c) :
    Fn Tryd.prog 45 [.pointer (some ⟨g, 0, none⟩), .pointer (some ⟨nb, 0, none⟩), .agg x.cs.toArray, .bool full] (gpW g q rb WL O G T) SV (fun b => .tuple #[vi (getR b q O G r s x full).v, vi (getR b q O G r s x full).e])
      (fun b => gpW g q rb WL (getR b q O G r s x full).O (getR b q O G r s x full).G (T.set j (some (nb, r, (getR b q O G r s x full).s)))) := by
  have hTs := T_self hj hq
  have hst8 := hq8.st
  unfold tellsC at hc
  rcases hc with h | h | h | h
  · have hA := hA h
    cases full with
    | true =>
      have hef : ∀ b : SV, getR b q O G r s x true = ⟨O, G, r.set x.x.toNat 0, s, 10, 0⟩ := fun b => by unfold getR; simp only [h, if_true]
      simp only [hef]
      rw [hTs]
      (refine Fn.of Tryd.func45 rfl (by kernel_rfl) Tryd.ntmps45 rfl (fun F => ?_))
      (repeat' (first | (refine Ow.is ?_; (first | refine Ow.pu rfl (Pu.fld rfl) ?_ | refine Ow.nil ?_ | refine Ow.pu rfl (Pu.move rfl) ?_ | refine Ow.pu rfl (Pu.assign rfl) ?_ | refine Ow.pu rfl (Pu.fld rfl) ?_ | refine Ow.pu rfl (Pu.nilCheck rfl) ?_ | refine Ow.pu rfl (Pu.extract rfl rfl) ?_ | (refine Ow.kLoad ?_; (first | refine Ow.pu rfl (Pu.load_cl rfl pkA rfl) ?_ | refine Ow.pu rfl (Pu.load_sli rfl pkA (by first | omega | (simp only [List.length_set, List.length_append, List.length_replicate, List.length_cons, List.length_nil]; omega))) ?_)) | (refine Ow.kBin ?_; (first | (refine Ow.b_eql ?_; (first | refine Ow.pu rfl (Pu.eq_t rfl rfl roA) ?_ | refine Ow.pu rfl (Pu.eq_f rfl rfl odA) ?_)) | (refine Ow.b_neq ?_; (first | refine Ow.pu rfl (Pu.ne_t rfl rfl odA) ?_ | refine Ow.pu rfl (Pu.ne_f rfl rfl roA) ?_)))) | (refine Ow.kBuiltin ?_; (first | refine Ow.pu rfl (Pu.len_stl (O.length + 1) rfl pkA (by simp)) ?_)) | (refine Ow.kCall ?_; (first | refine Ow.callE evA pkA rfl (Global_t rb q.threads q.regs q.stack G T _ hG) (fun _ => ?_) | refine Ow.callE evA (pk3 pkA pkA pkA) rfl hfld (fun _ => Ow.ass3 ?_) | refine Ow.callE evA pkA rfl (Pop_tabf rb q.threads q.regs q.stack G T hj hq hst) (fun _ => ?_) | refine Ow.callE evA pkA rfl (Pop_tab rb q.threads q.regs q.stack G T hj hq hst) (fun _ => ?_) | refine Ow.callE evA pkA rfl (Reg_tab rb q.threads q.regs q.stack G T hj hq _) (fun _ => ?_) | fail)) | refine Ow.box rfl rfl rfl (fun bx => ?_))) | (refine Cw.is ?_; (first | refine Cw.seq ?_ | refine Cw.region ?_ | refine Cw.cond_t rfl rfl ?_ | refine Cw.cond_f rfl rfl ?_ | refine Cw.block ?_ | refine Cw.ret ?_ | refine Cw.skip ?_ | refine Cw.drawL (n := 75) (id := 15) [(0, false), (1, false), (2, false), (3, false), (4, false), (5, false), (6, true), (7, false), (8, false), (9, false), (10, false)] mixed (by kernel_rfl) ?_)) | (first | refine thenQ_n ?_ | refine thenQ_r ?_ | refine blockQ_n ?_ | refine blockQ_r ?_ | (refine loudQ.is ?_; first | refine loudQ.go pkA ?_ | refine loudQ.goE (by ac_rfl) ?_)) | (refine Dw.is ?_; (first | refine Dw.q rfl rfl trivial (by (first | exact Pu.move rfl | exact Pu.assign rfl | exact Pu.fld rfl | exact Pu.nilCheck rfl | exact Pu.extract rfl rfl | (apply Pu.kLoad; (first | exact Pu.load_cl rfl pkA rfl | exact Pu.load_sli rfl pkA (by first | omega | (simp only [List.length_set, List.length_append, List.length_replicate, List.length_cons, List.length_nil]; omega)))) | (apply Pu.kBuild; (first | exact Pu.bld1 rfl (fun w => by kernel_rfl))))) ?_ | refine Dw.q rfl rfl ⟨_, _, rfl, rfl, rfl⟩ (by (first | exact Pu.move rfl | exact Pu.assign rfl | exact Pu.fld rfl | exact Pu.nilCheck rfl | exact Pu.extract rfl rfl | (apply Pu.kLoad; (first | exact Pu.load_cl rfl pkA rfl | exact Pu.load_sli rfl pkA (by first | omega | (simp only [List.length_set, List.length_append, List.length_replicate, List.length_cons, List.length_nil]; omega)))) | (apply Pu.kBuild; (first | exact Pu.bld1 rfl (fun w => by kernel_rfl))))) ?_ | refine Dw.nilE ?_ rfl | refine Dw.lE rfl trivial ?_ | refine Dw.lE rfl ⟨_, _, rfl, rfl, rfl⟩ ?_))))
      refine retQ_v2 default Tryd.results45 rfl rfl rfl ?_
      ((try simp only [star_assoc]); (repeat (apply Ent.pk; exact pkA)); first | exact Ent.fin pkA | exact Ent.refl _)
    | false =>
      have hef : ∀ b : SV, getR b q O G r s x false = ⟨O ++ [(b, List.replicate x.y.toNat 0, 0)], G, r.set x.x.toNat (O.length + 1 : Nat), s, 0, (O.length + 1 : Nat)⟩ := fun b => by unfold getR; simp only [h, if_true]; rfl
      simp only [hef]
      rw [hTs]
      obtain ⟨m, hm⟩ : ∃ m : Nat, x.y = m := ⟨x.y.toNat, by omega⟩
      have hm2 : x.y.toNat = m := by omega
      rw [hm2]
      (refine Fn.of Tryd.func45 rfl (by kernel_rfl) Tryd.ntmps45 rfl (fun F => ?_))
      refine Cw.opn (gpW_ex g q rb WL O G T) (fun tv => ?_)
      (refine Cw.heq (by simp only [star_assoc, emp_star, star_emp]; exact rfl) ?_)
      (repeat' (first | (refine Ow.is ?_; (first | refine Ow.pu rfl (Pu.fld rfl) ?_ | refine Ow.nil ?_ | refine Ow.pu rfl (Pu.move rfl) ?_ | refine Ow.pu rfl (Pu.assign rfl) ?_ | refine Ow.pu rfl (Pu.fld rfl) ?_ | (refine Ow.kLoad ?_; (first | refine Ow.pu rfl (Pu.load_cl rfl pkA rfl) ?_ | refine Ow.pu rfl (Pu.load_sli rfl pkA (by first | omega | (simp only [List.length_set, List.length_append, List.length_replicate, List.length_cons, List.length_nil]; omega))) ?_)) | (refine Ow.kBin ?_; (first | (refine Ow.b_eql ?_; (first | refine Ow.pu rfl (Pu.eq_t rfl rfl roA) ?_ | refine Ow.pu rfl (Pu.eq_f rfl rfl odA) ?_)))) | refine Ow.box rfl rfl rfl (fun bx => ?_))) | (refine Cw.is ?_; (first | refine Cw.seq ?_ | refine Cw.region ?_ | refine Cw.cond_t rfl rfl ?_ | refine Cw.cond_f rfl rfl ?_ | refine Cw.block ?_ | refine Cw.ret ?_ | refine Cw.skip ?_)) | (first | refine thenQ_n ?_ | refine thenQ_r ?_ | refine blockQ_n ?_ | refine blockQ_r ?_)))
      (refine Cw.drawF2 (gcl _ _ _ _ _) (cl _ x.cs) 13 [(0, false), (1, false), (2, false), (3, false), (4, false), (5, false), (6, false), (7, true), (8, false), (9, true), (10, true), (11, false), (12, false), (13, true)] pkA pkA mixed (by kernel_rfl) ?_; (iterate 7 ((first | refine DwF.q rfl rfl (by kernel_rfl) trivial (by (first | exact Pu.move rfl | exact Pu.assign rfl | exact Pu.fld rfl | exact Pu.nilCheck rfl | exact Pu.extract rfl rfl | (apply Pu.kLoad; (first | exact Pu.load_cl rfl pkA rfl | exact Pu.load_sli rfl pkA (by first | omega | (simp only [List.length_set, List.length_append, List.length_replicate, List.length_cons, List.length_nil]; omega)))) | (apply Pu.kBuild; (first | exact Pu.bld1 rfl (fun w => by kernel_rfl))))) ?_ | refine DwF.q rfl rfl (by kernel_rfl) ⟨_, _, rfl, rfl, rfl⟩ (by (first | exact Pu.move rfl | exact Pu.assign rfl | exact Pu.fld rfl | exact Pu.nilCheck rfl | exact Pu.extract rfl rfl | (apply Pu.kLoad; (first | exact Pu.load_cl rfl pkA rfl | exact Pu.load_sli rfl pkA (by first | omega | (simp only [List.length_set, List.length_append, List.length_replicate, List.length_cons, List.length_nil]; omega)))) | (apply Pu.kBuild; (first | exact Pu.bld1 rfl (fun w => by kernel_rfl))))) ?_))); refine DwF.c rfl (by first | exact trivial | exact ⟨_, _, rfl, rfl, rfl⟩) rfl ?_; refine Ow.heq (star_assoc _ _ _) ?_; refine Ow.makeSlice (m := m) rfl (by rw [← hm]; rfl) (by rw [← hm]; rfl) (by omega) (by rfl) (fun fv => ?_); refine Ow.nil ?_; refine loudG.go2 pkA pkA ?_; ((first | refine DwF.q rfl rfl (by kernel_rfl) trivial (by (first | exact Pu.move rfl | exact Pu.assign rfl | exact Pu.fld rfl | exact Pu.nilCheck rfl | exact Pu.extract rfl rfl | (apply Pu.kLoad; (first | exact Pu.load_cl rfl pkA rfl | exact Pu.load_sli rfl pkA (by first | omega | (simp only [List.length_set, List.length_append, List.length_replicate, List.length_cons, List.length_nil]; omega)))) | (apply Pu.kBuild; (first | exact Pu.bld1 rfl (fun w => by kernel_rfl))))) ?_ | refine DwF.q rfl rfl (by kernel_rfl) ⟨_, _, rfl, rfl, rfl⟩ (by (first | exact Pu.move rfl | exact Pu.assign rfl | exact Pu.fld rfl | exact Pu.nilCheck rfl | exact Pu.extract rfl rfl | (apply Pu.kLoad; (first | exact Pu.load_cl rfl pkA rfl | exact Pu.load_sli rfl pkA (by first | omega | (simp only [List.length_set, List.length_append, List.length_replicate, List.length_cons, List.length_nil]; omega)))) | (apply Pu.kBuild; (first | exact Pu.bld1 rfl (fun w => by kernel_rfl))))) ?_)); refine DwF.c rfl (by first | exact trivial | exact ⟨_, _, rfl, rfl, rfl⟩) rfl ?_; refine Ow.heq (star_assoc _ _ _) ?_; refine Ow.buildSlice (ps := [(0, .tmp 27)]) (vs := [.agg #[fv.v, vi 0]]) (cs := [fv.v, vi 0]) rfl evA (fun w => by kernel_rfl) (fun nb2 => ?_); refine Ow.nil ?_; refine loudG.go2 pkA pkA ?_; refine DwF.c rfl (by first | exact trivial | exact ⟨_, _, rfl, rfl, rfl⟩) rfl ?_; refine Ow.heq (star_assoc _ _ _) ?_; refine Ow.append_st (f := obc) (fv, List.replicate m 0, 0) rfl rfl rfl pkA pkA rfl (by rfl) (by omega) (fun sv => ?_); refine Ow.nil ?_; refine loudG.go2 pkA pkA ?_; (iterate 2 ((first | refine DwF.q rfl rfl (by kernel_rfl) trivial (by (first | exact Pu.move rfl | exact Pu.assign rfl | exact Pu.fld rfl | exact Pu.nilCheck rfl | exact Pu.extract rfl rfl | (apply Pu.kLoad; (first | exact Pu.load_cl rfl pkA rfl | exact Pu.load_sli rfl pkA (by first | omega | (simp only [List.length_set, List.length_append, List.length_replicate, List.length_cons, List.length_nil]; omega)))) | (apply Pu.kBuild; (first | exact Pu.bld1 rfl (fun w => by kernel_rfl))))) ?_ | refine DwF.q rfl rfl (by kernel_rfl) ⟨_, _, rfl, rfl, rfl⟩ (by (first | exact Pu.move rfl | exact Pu.assign rfl | exact Pu.fld rfl | exact Pu.nilCheck rfl | exact Pu.extract rfl rfl | (apply Pu.kLoad; (first | exact Pu.load_cl rfl pkA rfl | exact Pu.load_sli rfl pkA (by first | omega | (simp only [List.length_set, List.length_append, List.length_replicate, List.length_cons, List.length_nil]; omega)))) | (apply Pu.kBuild; (first | exact Pu.bld1 rfl (fun w => by kernel_rfl))))) ?_))); refine DwF.b rfl (by first | exact trivial | exact ⟨_, _, rfl, rfl, rfl⟩) rfl ?_; refine Ow.heq (star_assoc _ _ _) ?_; refine Ow.store_cl rfl rfl rfl (by (first | rfl | assumption | exact Subtype.property _)) pkA rfl ?_; refine Ow.nil ?_; refine loudF.go ?_; refine DwF.nil ?_)
      (repeat' (first | (refine Ow.is ?_; (first | refine Ow.pu rfl (Pu.fld rfl) ?_ | refine Ow.nil ?_ | refine Ow.pu rfl (Pu.move rfl) ?_ | refine Ow.pu rfl (Pu.assign rfl) ?_ | refine Ow.pu rfl (Pu.fld rfl) ?_ | refine Ow.pu rfl (Pu.nilCheck rfl) ?_ | (refine Ow.kLoad ?_; (first | refine Ow.pu rfl (Pu.load_cl rfl pkA rfl) ?_ | refine Ow.pu rfl (Pu.load_sli rfl pkA (by first | omega | (simp only [List.length_set, List.length_append, List.length_replicate, List.length_cons, List.length_nil]; omega))) ?_)) | (refine Ow.kBuiltin ?_; (first | refine Ow.pu rfl (Pu.len_stl (O.length + 1) rfl pkA (by simp)) ?_)))) | (refine Cw.is ?_; (first | refine Cw.seq ?_ | refine Cw.region ?_ | refine Cw.cond_t rfl rfl ?_ | refine Cw.cond_f rfl rfl ?_ | refine Cw.block ?_ | refine Cw.ret ?_ | refine Cw.skip ?_)) | (first | refine thenQ_n ?_ | refine thenQ_r ?_ | refine blockQ_n ?_ | refine blockQ_r ?_)))
      refine retQ_v2 fv Tryd.results45 rfl rfl rfl ?_
      refine Ent.trans ?_ (Ent.left (gpW_mk g q rb WL _ _ _ sv))
      rw [obs_app, rep_one, show List.replicate m (Value.int .i64 0) = (List.replicate m (0 : Int)).map vi by rw [List.map_replicate]]
      ((try simp only [star_assoc]); (repeat (apply Ent.pk; exact pkA)); first | exact Ent.fin pkA | exact Ent.refl _)
  · obtain ⟨a, ha⟩ : ∃ a, regR r x.y = a := ⟨_, rfl⟩
    have hao : okR O.length a := ha ▸ regR_ok hr x.y
    by_cases h0 : a = 0
    · have hef : ∀ b : SV, getR b q O G r s x full = ⟨O, G, r, s, 8, 0⟩ := fun b => by
        unfold getR; simp only [h, ha]; rw [if_neg (by decide), if_pos trivial, show fldE O a x.z = 8 by unfold fldE; rw [if_pos h0]]; rfl
      simp only [hef]
      rw [hTs]
      (refine Fn.of Tryd.func45 rfl (by kernel_rfl) Tryd.ntmps45 rfl (fun F => ?_))
      refine Cw.opn (gpW_ex g q rb WL O G T) (fun tv => ?_)
      (refine Cw.heq (by simp only [star_assoc, emp_star, star_emp]; exact rfl) ?_)
      have hfld : Fn Tryd.prog 60 [.pointer (some ⟨g, 0, none⟩), vi a, vi x.z] (fldH g q tv rb WL O) Unit (fun _ => .tuple #[.pointer none, vi 8]) (fun _ => fldH g q tv rb WL O) := by rw [h0]; exact field_0 g q tv rb WL O x.z
      rw [← ha] at hfld
      (repeat' (first | (refine Ow.is ?_; (first | refine Ow.pu rfl (Pu.fld rfl) ?_ | refine Ow.nil ?_ | refine Ow.pu rfl (Pu.move rfl) ?_ | refine Ow.pu rfl (Pu.assign rfl) ?_ | refine Ow.pu rfl (Pu.fld rfl) ?_ | refine Ow.pu rfl (Pu.nilCheck rfl) ?_ | refine Ow.pu rfl (Pu.extract rfl rfl) ?_ | (refine Ow.kLoad ?_; (first | refine Ow.pu rfl (Pu.load_cl rfl pkA rfl) ?_ | refine Ow.pu rfl (Pu.load_sli rfl pkA (by first | omega | (simp only [List.length_set, List.length_append, List.length_replicate, List.length_cons, List.length_nil]; omega))) ?_)) | (refine Ow.kBin ?_; (first | (refine Ow.b_eql ?_; (first | refine Ow.pu rfl (Pu.eq_t rfl rfl roA) ?_ | refine Ow.pu rfl (Pu.eq_f rfl rfl odA) ?_)) | (refine Ow.b_neq ?_; (first | refine Ow.pu rfl (Pu.ne_t rfl rfl odA) ?_ | refine Ow.pu rfl (Pu.ne_f rfl rfl roA) ?_)))) | (refine Ow.kBuiltin ?_; (first | refine Ow.pu rfl (Pu.len_stl (O.length + 1) rfl pkA (by simp)) ?_)) | (refine Ow.kCall ?_; (first | refine Ow.callE evA pkA rfl (Global_t rb q.threads q.regs q.stack G T _ hG) (fun _ => ?_) | refine Ow.callE evA (pk3 pkA pkA pkA) rfl hfld (fun _ => Ow.ass3 ?_) | refine Ow.callE evA pkA rfl (Pop_tabf rb q.threads q.regs q.stack G T hj hq hst) (fun _ => ?_) | refine Ow.callE evA pkA rfl (Pop_tab rb q.threads q.regs q.stack G T hj hq hst) (fun _ => ?_) | refine Ow.callE evA pkA rfl (Reg_tab rb q.threads q.regs q.stack G T hj hq _) (fun _ => ?_) | fail)) | refine Ow.box rfl rfl rfl (fun bx => ?_))) | (refine Cw.is ?_; (first | refine Cw.seq ?_ | refine Cw.region ?_ | refine Cw.cond_t rfl rfl ?_ | refine Cw.cond_f rfl rfl ?_ | refine Cw.block ?_ | refine Cw.ret ?_ | refine Cw.skip ?_ | refine Cw.drawL (n := 75) (id := 15) [(0, false), (1, false), (2, false), (3, false), (4, false), (5, false), (6, true), (7, false), (8, false), (9, false), (10, false)] mixed (by kernel_rfl) ?_)) | (first | refine thenQ_n ?_ | refine thenQ_r ?_ | refine blockQ_n ?_ | refine blockQ_r ?_ | (refine loudQ.is ?_; first | refine loudQ.go pkA ?_ | refine loudQ.goE (by ac_rfl) ?_)) | (refine Dw.is ?_; (first | refine Dw.q rfl rfl trivial (by (first | exact Pu.move rfl | exact Pu.assign rfl | exact Pu.fld rfl | exact Pu.nilCheck rfl | exact Pu.extract rfl rfl | (apply Pu.kLoad; (first | exact Pu.load_cl rfl pkA rfl | exact Pu.load_sli rfl pkA (by first | omega | (simp only [List.length_set, List.length_append, List.length_replicate, List.length_cons, List.length_nil]; omega)))) | (apply Pu.kBuild; (first | exact Pu.bld1 rfl (fun w => by kernel_rfl))))) ?_ | refine Dw.q rfl rfl ⟨_, _, rfl, rfl, rfl⟩ (by (first | exact Pu.move rfl | exact Pu.assign rfl | exact Pu.fld rfl | exact Pu.nilCheck rfl | exact Pu.extract rfl rfl | (apply Pu.kLoad; (first | exact Pu.load_cl rfl pkA rfl | exact Pu.load_sli rfl pkA (by first | omega | (simp only [List.length_set, List.length_append, List.length_replicate, List.length_cons, List.length_nil]; omega)))) | (apply Pu.kBuild; (first | exact Pu.bld1 rfl (fun w => by kernel_rfl))))) ?_ | refine Dw.nilE ?_ rfl | refine Dw.lE rfl trivial ?_ | refine Dw.lE rfl ⟨_, _, rfl, rfl, rfl⟩ ?_))))
      refine retQ_v2 default Tryd.results45 rfl rfl rfl ?_
      refine Ent.trans ?_ (Ent.left (gpW_mk g q rb WL _ _ _ tv)); ((try simp only [star_assoc]); (repeat (apply Ent.pk; exact pkA)); first | exact Ent.fin pkA | exact Ent.refl _)
    have ho1 : 1 ≤ a ∧ a ≤ O.length := by omega
    by_cases hi : 0 ≤ x.z ∧ x.z < (O[(a - 1).toNat]!).2.1.length
    · have hef : ∀ b : SV, getR b q O G r s x full = ⟨O, G, r.set x.x.toNat (fldV O a x.z), s, 0, fldV O a x.z⟩ := fun b => by
        unfold getR; simp only [h, ha]; rw [if_neg (by decide), if_pos trivial, show fldE O a x.z = 0 by unfold fldE; rw [if_neg h0, if_pos hi]]; rfl
      simp only [hef]
      rw [hTs]
      (refine Fn.of Tryd.func45 rfl (by kernel_rfl) Tryd.ntmps45 rfl (fun F => ?_))
      refine Cw.opn (gpW_ex g q rb WL O G T) (fun tv => ?_)
      (refine Cw.heq (by simp only [star_assoc, emp_star, star_emp]; exact rfl) ?_)
      have hfld := field_t g q tv rb WL O hO a x.z ho1 hi
      have hjo : (a - 1).toNat < O.length := by omega
      have hob' := obs_at O (a - 1).toNat hjo
      obtain ⟨ob, hob⟩ : ∃ ob, O[(a - 1).toNat]! = ob := ⟨_, rfl⟩
      have hfv : fldV O a x.z = ob.2.1[x.z.toNat]! := by unfold fldV; rw [hob]
      rw [hfv]
      rw [hob] at hob' hfld hi
      rw [← ha] at hfld
      (repeat' (first | (refine Ow.is ?_; (first | refine Ow.pu rfl (Pu.fld rfl) ?_ | refine Ow.nil ?_ | refine Ow.pu rfl (Pu.move rfl) ?_ | refine Ow.pu rfl (Pu.assign rfl) ?_ | refine Ow.pu rfl (Pu.fld rfl) ?_ | refine Ow.pu rfl (Pu.nilCheck rfl) ?_ | refine Ow.pu rfl (Pu.extract rfl rfl) ?_ | (refine Ow.kLoad ?_; (first | refine Ow.pu rfl (Pu.load_cl rfl pkA rfl) ?_ | refine Ow.pu rfl (Pu.load_sli rfl pkA (by first | omega | (simp only [List.length_set, List.length_append, List.length_replicate, List.length_cons, List.length_nil]; omega))) ?_)) | (refine Ow.kBin ?_; (first | (refine Ow.b_eql ?_; (first | refine Ow.pu rfl (Pu.eq_t rfl rfl roA) ?_ | refine Ow.pu rfl (Pu.eq_f rfl rfl odA) ?_)) | (refine Ow.b_neq ?_; (first | refine Ow.pu rfl (Pu.ne_t rfl rfl odA) ?_ | refine Ow.pu rfl (Pu.ne_f rfl rfl roA) ?_)))) | (refine Ow.kBuiltin ?_; (first | refine Ow.pu rfl (Pu.len_stl (O.length + 1) rfl pkA (by simp)) ?_)) | (refine Ow.kCall ?_; (first | refine Ow.callE evA (pk3 pkA pkA pkA) rfl hfld (fun _ => Ow.ass3 ?_) | refine Ow.callE evA pkA rfl (Reg_tab rb q.threads q.regs q.stack G T hj hq _) (fun _ => ?_) | fail)) | refine Ow.box rfl rfl rfl (fun bx => ?_))) | (refine Cw.is ?_; (first | refine Cw.seq ?_ | refine Cw.region ?_ | refine Cw.cond_t rfl rfl ?_ | refine Cw.cond_f rfl rfl ?_ | refine Cw.block ?_ | refine Cw.ret ?_ | refine Cw.skip ?_)) | (first | refine thenQ_n ?_ | refine thenQ_r ?_ | refine blockQ_n ?_ | refine blockQ_r ?_ | (refine loudQ.is ?_; first | refine loudQ.go pkA ?_ | refine loudQ.goE (by ac_rfl) ?_)) | (refine Dw.is ?_; (first | refine Dw.q rfl rfl trivial (by (first | exact Pu.move rfl | exact Pu.assign rfl | exact Pu.fld rfl | exact Pu.nilCheck rfl | exact Pu.extract rfl rfl | (apply Pu.kLoad; (first | exact Pu.load_cl rfl pkA rfl | exact Pu.load_sli rfl pkA (by first | omega | (simp only [List.length_set, List.length_append, List.length_replicate, List.length_cons, List.length_nil]; omega)))) | (apply Pu.kBuild; (first | exact Pu.bld1 rfl (fun w => by kernel_rfl))))) ?_ | refine Dw.q rfl rfl ⟨_, _, rfl, rfl, rfl⟩ (by (first | exact Pu.move rfl | exact Pu.assign rfl | exact Pu.fld rfl | exact Pu.nilCheck rfl | exact Pu.extract rfl rfl | (apply Pu.kLoad; (first | exact Pu.load_cl rfl pkA rfl | exact Pu.load_sli rfl pkA (by first | omega | (simp only [List.length_set, List.length_append, List.length_replicate, List.length_cons, List.length_nil]; omega)))) | (apply Pu.kBuild; (first | exact Pu.bld1 rfl (fun w => by kernel_rfl))))) ?_ | refine Dw.nilE ?_ rfl | refine Dw.lE rfl trivial ?_ | refine Dw.lE rfl ⟨_, _, rfl, rfl, rfl⟩ ?_))))
      rw [hob']
      (refine Ow.heq (by simp only [star_assoc, emp_star, star_emp]; exact rfl) ?_)
      (repeat' (first | (refine Ow.is ?_; (first | refine Ow.nil ?_ | refine Ow.pu rfl (Pu.move rfl) ?_ | refine Ow.pu rfl (Pu.assign rfl) ?_ | refine Ow.pu rfl (Pu.nilCheck rfl) ?_ | (refine Ow.kLoad ?_; (first | refine Ow.pu rfl (Pu.load_cl rfl pkA rfl) ?_ | refine Ow.pu rfl (Pu.load_sli rfl pkA (by first | omega | (simp only [List.length_set, List.length_append, List.length_replicate, List.length_cons, List.length_nil]; omega))) ?_)))) | (refine Cw.is ?_; (first | refine Cw.seq ?_ | refine Cw.region ?_ | refine Cw.cond_t rfl rfl ?_ | refine Cw.cond_f rfl rfl ?_ | refine Cw.block ?_ | refine Cw.ret ?_ | refine Cw.skip ?_)) | (first | refine thenQ_n ?_ | refine thenQ_r ?_ | refine blockQ_n ?_ | refine blockQ_r ?_)))
      refine retQ_v2 default Tryd.results45 rfl rfl rfl ?_
      refine Ent.trans ?_ (Ent.left (gpW_mk g q rb WL _ _ _ tv))
      rw [hob']
      ((try simp only [star_assoc]); (repeat (apply Ent.pk; exact pkA)); first | exact Ent.fin pkA | exact Ent.refl _)
    · have hef : ∀ b : SV, getR b q O G r s x full = ⟨O, G, r, s, 6, 0⟩ := fun b => by
        unfold getR; simp only [h, ha]; rw [if_neg (by decide), if_pos trivial, show fldE O a x.z = 6 by unfold fldE; rw [if_neg h0, if_neg hi]]; rfl
      simp only [hef]
      rw [hTs]
      (refine Fn.of Tryd.func45 rfl (by kernel_rfl) Tryd.ntmps45 rfl (fun F => ?_))
      refine Cw.opn (gpW_ex g q rb WL O G T) (fun tv => ?_)
      (refine Cw.heq (by simp only [star_assoc, emp_star, star_emp]; exact rfl) ?_)
      have hfld := field_x g q tv rb WL O hO a x.z ho1 hi
      rw [← ha] at hfld
      (repeat' (first | (refine Ow.is ?_; (first | refine Ow.pu rfl (Pu.fld rfl) ?_ | refine Ow.nil ?_ | refine Ow.pu rfl (Pu.move rfl) ?_ | refine Ow.pu rfl (Pu.assign rfl) ?_ | refine Ow.pu rfl (Pu.fld rfl) ?_ | refine Ow.pu rfl (Pu.nilCheck rfl) ?_ | refine Ow.pu rfl (Pu.extract rfl rfl) ?_ | (refine Ow.kLoad ?_; (first | refine Ow.pu rfl (Pu.load_cl rfl pkA rfl) ?_ | refine Ow.pu rfl (Pu.load_sli rfl pkA (by first | omega | (simp only [List.length_set, List.length_append, List.length_replicate, List.length_cons, List.length_nil]; omega))) ?_)) | (refine Ow.kBin ?_; (first | (refine Ow.b_eql ?_; (first | refine Ow.pu rfl (Pu.eq_t rfl rfl roA) ?_ | refine Ow.pu rfl (Pu.eq_f rfl rfl odA) ?_)) | (refine Ow.b_neq ?_; (first | refine Ow.pu rfl (Pu.ne_t rfl rfl odA) ?_ | refine Ow.pu rfl (Pu.ne_f rfl rfl roA) ?_)))) | (refine Ow.kBuiltin ?_; (first | refine Ow.pu rfl (Pu.len_stl (O.length + 1) rfl pkA (by simp)) ?_)) | (refine Ow.kCall ?_; (first | refine Ow.callE evA pkA rfl (Global_t rb q.threads q.regs q.stack G T _ hG) (fun _ => ?_) | refine Ow.callE evA (pk3 pkA pkA pkA) rfl hfld (fun _ => Ow.ass3 ?_) | refine Ow.callE evA pkA rfl (Pop_tabf rb q.threads q.regs q.stack G T hj hq hst) (fun _ => ?_) | refine Ow.callE evA pkA rfl (Pop_tab rb q.threads q.regs q.stack G T hj hq hst) (fun _ => ?_) | refine Ow.callE evA pkA rfl (Reg_tab rb q.threads q.regs q.stack G T hj hq _) (fun _ => ?_) | fail)) | refine Ow.box rfl rfl rfl (fun bx => ?_))) | (refine Cw.is ?_; (first | refine Cw.seq ?_ | refine Cw.region ?_ | refine Cw.cond_t rfl rfl ?_ | refine Cw.cond_f rfl rfl ?_ | refine Cw.block ?_ | refine Cw.ret ?_ | refine Cw.skip ?_ | refine Cw.drawL (n := 75) (id := 15) [(0, false), (1, false), (2, false), (3, false), (4, false), (5, false), (6, true), (7, false), (8, false), (9, false), (10, false)] mixed (by kernel_rfl) ?_)) | (first | refine thenQ_n ?_ | refine thenQ_r ?_ | refine blockQ_n ?_ | refine blockQ_r ?_ | (refine loudQ.is ?_; first | refine loudQ.go pkA ?_ | refine loudQ.goE (by ac_rfl) ?_)) | (refine Dw.is ?_; (first | refine Dw.q rfl rfl trivial (by (first | exact Pu.move rfl | exact Pu.assign rfl | exact Pu.fld rfl | exact Pu.nilCheck rfl | exact Pu.extract rfl rfl | (apply Pu.kLoad; (first | exact Pu.load_cl rfl pkA rfl | exact Pu.load_sli rfl pkA (by first | omega | (simp only [List.length_set, List.length_append, List.length_replicate, List.length_cons, List.length_nil]; omega)))) | (apply Pu.kBuild; (first | exact Pu.bld1 rfl (fun w => by kernel_rfl))))) ?_ | refine Dw.q rfl rfl ⟨_, _, rfl, rfl, rfl⟩ (by (first | exact Pu.move rfl | exact Pu.assign rfl | exact Pu.fld rfl | exact Pu.nilCheck rfl | exact Pu.extract rfl rfl | (apply Pu.kLoad; (first | exact Pu.load_cl rfl pkA rfl | exact Pu.load_sli rfl pkA (by first | omega | (simp only [List.length_set, List.length_append, List.length_replicate, List.length_cons, List.length_nil]; omega)))) | (apply Pu.kBuild; (first | exact Pu.bld1 rfl (fun w => by kernel_rfl))))) ?_ | refine Dw.nilE ?_ rfl | refine Dw.lE rfl trivial ?_ | refine Dw.lE rfl ⟨_, _, rfl, rfl, rfl⟩ ?_))))
      refine retQ_v2 default Tryd.results45 rfl rfl rfl ?_
      refine Ent.trans ?_ (Ent.left (gpW_mk g q rb WL _ _ _ tv)); ((try simp only [star_assoc]); (repeat (apply Ent.pk; exact pkA)); first | exact Ent.fin pkA | exact Ent.refl _)
  · by_cases h0 : s = []
    · have hef : ∀ b : SV, getR b q O G r s x full = ⟨O, G, r, s, 9, 0⟩ := fun b => by
        unfold getR; simp only [h]; rw [if_neg (by decide), if_neg (by decide), if_pos trivial, if_pos h0]
      simp only [hef]
      rw [hTs]
      have hst : s.length = 0 := by rw [h0]; rfl
      (refine Fn.of Tryd.func45 rfl (by kernel_rfl) Tryd.ntmps45 rfl (fun F => ?_))
      refine Cw.opn (gpW_ex g q rb WL O G T) (fun tv => ?_)
      (refine Cw.heq (by simp only [star_assoc, emp_star, star_emp]; exact rfl) ?_)
      (repeat' (first | (refine Ow.is ?_; (first | refine Ow.pu rfl (Pu.fld rfl) ?_ | refine Ow.nil ?_ | refine Ow.pu rfl (Pu.move rfl) ?_ | refine Ow.pu rfl (Pu.assign rfl) ?_ | refine Ow.pu rfl (Pu.fld rfl) ?_ | refine Ow.pu rfl (Pu.nilCheck rfl) ?_ | refine Ow.pu rfl (Pu.extract rfl rfl) ?_ | (refine Ow.kLoad ?_; (first | refine Ow.pu rfl (Pu.load_cl rfl pkA rfl) ?_ | refine Ow.pu rfl (Pu.load_sli rfl pkA (by first | omega | (simp only [List.length_set, List.length_append, List.length_replicate, List.length_cons, List.length_nil]; omega))) ?_)) | (refine Ow.kBin ?_; (first | (refine Ow.b_eql ?_; (first | refine Ow.pu rfl (Pu.eq_t rfl rfl roA) ?_ | refine Ow.pu rfl (Pu.eq_f rfl rfl odA) ?_)) | (refine Ow.b_neq ?_; (first | refine Ow.pu rfl (Pu.ne_t rfl rfl odA) ?_ | refine Ow.pu rfl (Pu.ne_f rfl rfl roA) ?_)))) | (refine Ow.kBuiltin ?_; (first | refine Ow.pu rfl (Pu.len_stl (O.length + 1) rfl pkA (by simp)) ?_)) | (refine Ow.kCall ?_; (first | refine Ow.callE evA pkA rfl (Global_t rb q.threads q.regs q.stack G T _ hG) (fun _ => ?_) | refine Ow.callE evA (pk3 pkA pkA pkA) rfl hfld (fun _ => Ow.ass3 ?_) | refine Ow.callE evA pkA rfl (Pop_tabf rb q.threads q.regs q.stack G T hj hq hst) (fun _ => ?_) | refine Ow.callE evA pkA rfl (Pop_tab rb q.threads q.regs q.stack G T hj hq hst) (fun _ => ?_) | refine Ow.callE evA pkA rfl (Reg_tab rb q.threads q.regs q.stack G T hj hq _) (fun _ => ?_) | fail)) | refine Ow.box rfl rfl rfl (fun bx => ?_))) | (refine Cw.is ?_; (first | refine Cw.seq ?_ | refine Cw.region ?_ | refine Cw.cond_t rfl rfl ?_ | refine Cw.cond_f rfl rfl ?_ | refine Cw.block ?_ | refine Cw.ret ?_ | refine Cw.skip ?_ | refine Cw.drawL (n := 75) (id := 15) [(0, false), (1, false), (2, false), (3, false), (4, false), (5, false), (6, true), (7, false), (8, false), (9, false), (10, false)] mixed (by kernel_rfl) ?_)) | (first | refine thenQ_n ?_ | refine thenQ_r ?_ | refine blockQ_n ?_ | refine blockQ_r ?_ | (refine loudQ.is ?_; first | refine loudQ.go pkA ?_ | refine loudQ.goE (by ac_rfl) ?_)) | (refine Dw.is ?_; (first | refine Dw.q rfl rfl trivial (by (first | exact Pu.move rfl | exact Pu.assign rfl | exact Pu.fld rfl | exact Pu.nilCheck rfl | exact Pu.extract rfl rfl | (apply Pu.kLoad; (first | exact Pu.load_cl rfl pkA rfl | exact Pu.load_sli rfl pkA (by first | omega | (simp only [List.length_set, List.length_append, List.length_replicate, List.length_cons, List.length_nil]; omega)))) | (apply Pu.kBuild; (first | exact Pu.bld1 rfl (fun w => by kernel_rfl))))) ?_ | refine Dw.q rfl rfl ⟨_, _, rfl, rfl, rfl⟩ (by (first | exact Pu.move rfl | exact Pu.assign rfl | exact Pu.fld rfl | exact Pu.nilCheck rfl | exact Pu.extract rfl rfl | (apply Pu.kLoad; (first | exact Pu.load_cl rfl pkA rfl | exact Pu.load_sli rfl pkA (by first | omega | (simp only [List.length_set, List.length_append, List.length_replicate, List.length_cons, List.length_nil]; omega)))) | (apply Pu.kBuild; (first | exact Pu.bld1 rfl (fun w => by kernel_rfl))))) ?_ | refine Dw.nilE ?_ rfl | refine Dw.lE rfl trivial ?_ | refine Dw.lE rfl ⟨_, _, rfl, rfl, rfl⟩ ?_))))
      refine retQ_v2 default Tryd.results45 rfl rfl rfl ?_
      refine Ent.trans ?_ (Ent.left (gpW_mk g q rb WL _ _ _ tv)); ((try simp only [star_assoc]); (repeat (apply Ent.pk; exact pkA)); first | exact Ent.fin pkA | exact Ent.refl _)
    · have hef : ∀ b : SV, getR b q O G r s x full = ⟨O, G, r.set x.x.toNat s[s.length - 1]!, s.take (s.length - 1), 0, s[s.length - 1]!⟩ := fun b => by
        unfold getR; simp only [h]; rw [if_neg (by decide), if_neg (by decide), if_pos trivial, if_neg h0]
      simp only [hef]
      have hst : 0 < s.length ∧ s.length < 1000000 := ⟨List.length_pos_iff.2 h0, by omega⟩
      (refine Fn.of Tryd.func45 rfl (by kernel_rfl) Tryd.ntmps45 rfl (fun F => ?_))
      refine Cw.opn (gpW_ex g q rb WL O G T) (fun tv => ?_)
      (refine Cw.heq (by simp only [star_assoc, emp_star, star_emp]; exact rfl) ?_)
      (repeat' (first | (refine Ow.is ?_; (first | refine Ow.pu rfl (Pu.fld rfl) ?_ | refine Ow.nil ?_ | refine Ow.pu rfl (Pu.move rfl) ?_ | refine Ow.pu rfl (Pu.assign rfl) ?_ | refine Ow.pu rfl (Pu.fld rfl) ?_ | refine Ow.pu rfl (Pu.nilCheck rfl) ?_ | refine Ow.pu rfl (Pu.extract rfl rfl) ?_ | (refine Ow.kLoad ?_; (first | refine Ow.pu rfl (Pu.load_cl rfl pkA rfl) ?_ | refine Ow.pu rfl (Pu.load_sli rfl pkA (by first | omega | (simp only [List.length_set, List.length_append, List.length_replicate, List.length_cons, List.length_nil]; omega))) ?_)) | (refine Ow.kBin ?_; (first | (refine Ow.b_eql ?_; (first | refine Ow.pu rfl (Pu.eq_t rfl rfl roA) ?_ | refine Ow.pu rfl (Pu.eq_f rfl rfl odA) ?_)) | (refine Ow.b_neq ?_; (first | refine Ow.pu rfl (Pu.ne_t rfl rfl odA) ?_ | refine Ow.pu rfl (Pu.ne_f rfl rfl roA) ?_)))) | (refine Ow.kBuiltin ?_; (first | refine Ow.pu rfl (Pu.len_stl (O.length + 1) rfl pkA (by simp)) ?_)) | (refine Ow.kCall ?_; (first | refine Ow.callE evA pkA rfl (Global_t rb q.threads q.regs q.stack G T _ hG) (fun _ => ?_) | refine Ow.callE evA (pk3 pkA pkA pkA) rfl hfld (fun _ => Ow.ass3 ?_) | refine Ow.callE evA pkA rfl (Pop_tabf rb q.threads q.regs q.stack G T hj hq hst) (fun _ => ?_) | refine Ow.callE evA pkA rfl (Pop_tab rb q.threads q.regs q.stack G T hj hq hst) (fun _ => ?_) | refine Ow.callE evA pkA rfl (Reg_tab rb q.threads q.regs q.stack G T hj hq _) (fun _ => ?_) | fail)) | refine Ow.box rfl rfl rfl (fun bx => ?_))) | (refine Cw.is ?_; (first | refine Cw.seq ?_ | refine Cw.region ?_ | refine Cw.cond_t rfl rfl ?_ | refine Cw.cond_f rfl rfl ?_ | refine Cw.block ?_ | refine Cw.ret ?_ | refine Cw.skip ?_ | refine Cw.drawL (n := 75) (id := 15) [(0, false), (1, false), (2, false), (3, false), (4, false), (5, false), (6, true), (7, false), (8, false), (9, false), (10, false)] mixed (by kernel_rfl) ?_)) | (first | refine thenQ_n ?_ | refine thenQ_r ?_ | refine blockQ_n ?_ | refine blockQ_r ?_ | (refine loudQ.is ?_; first | refine loudQ.go pkA ?_ | refine loudQ.goE (by ac_rfl) ?_)) | (refine Dw.is ?_; (first | refine Dw.q rfl rfl trivial (by (first | exact Pu.move rfl | exact Pu.assign rfl | exact Pu.fld rfl | exact Pu.nilCheck rfl | exact Pu.extract rfl rfl | (apply Pu.kLoad; (first | exact Pu.load_cl rfl pkA rfl | exact Pu.load_sli rfl pkA (by first | omega | (simp only [List.length_set, List.length_append, List.length_replicate, List.length_cons, List.length_nil]; omega)))) | (apply Pu.kBuild; (first | exact Pu.bld1 rfl (fun w => by kernel_rfl))))) ?_ | refine Dw.q rfl rfl ⟨_, _, rfl, rfl, rfl⟩ (by (first | exact Pu.move rfl | exact Pu.assign rfl | exact Pu.fld rfl | exact Pu.nilCheck rfl | exact Pu.extract rfl rfl | (apply Pu.kLoad; (first | exact Pu.load_cl rfl pkA rfl | exact Pu.load_sli rfl pkA (by first | omega | (simp only [List.length_set, List.length_append, List.length_replicate, List.length_cons, List.length_nil]; omega)))) | (apply Pu.kBuild; (first | exact Pu.bld1 rfl (fun w => by kernel_rfl))))) ?_ | refine Dw.nilE ?_ rfl | refine Dw.lE rfl trivial ?_ | refine Dw.lE rfl ⟨_, _, rfl, rfl, rfl⟩ ?_))))
      refine retQ_v2 default Tryd.results45 rfl rfl rfl ?_
      refine Ent.trans ?_ (Ent.left (gpW_mk g q rb WL _ _ _ tv)); ((try simp only [star_assoc]); (repeat (apply Ent.pk; exact pkA)); first | exact Ent.fin pkA | exact Ent.refl _)
  · have hG := hG h
    have hef : ∀ b : SV, getR b q O G r s x full = ⟨O, G, r.set x.x.toNat G[x.y.toNat]!, s, 0, G[x.y.toNat]!⟩ := fun b => by
      unfold getR; simp only [h]; rfl
    simp only [hef]
    rw [hTs]
    (refine Fn.of Tryd.func45 rfl (by kernel_rfl) Tryd.ntmps45 rfl (fun F => ?_))
    refine Cw.opn (gpW_ex g q rb WL O G T) (fun tv => ?_)
    (refine Cw.heq (by simp only [star_assoc, emp_star, star_emp]; exact rfl) ?_)
    (repeat' (first | (refine Ow.is ?_; (first | refine Ow.pu rfl (Pu.fld rfl) ?_ | refine Ow.nil ?_ | refine Ow.pu rfl (Pu.move rfl) ?_ | refine Ow.pu rfl (Pu.assign rfl) ?_ | refine Ow.pu rfl (Pu.fld rfl) ?_ | refine Ow.pu rfl (Pu.nilCheck rfl) ?_ | refine Ow.pu rfl (Pu.extract rfl rfl) ?_ | (refine Ow.kLoad ?_; (first | refine Ow.pu rfl (Pu.load_cl rfl pkA rfl) ?_ | refine Ow.pu rfl (Pu.load_sli rfl pkA (by first | omega | (simp only [List.length_set, List.length_append, List.length_replicate, List.length_cons, List.length_nil]; omega))) ?_)) | (refine Ow.kBin ?_; (first | (refine Ow.b_eql ?_; (first | refine Ow.pu rfl (Pu.eq_t rfl rfl roA) ?_ | refine Ow.pu rfl (Pu.eq_f rfl rfl odA) ?_)) | (refine Ow.b_neq ?_; (first | refine Ow.pu rfl (Pu.ne_t rfl rfl odA) ?_ | refine Ow.pu rfl (Pu.ne_f rfl rfl roA) ?_)))) | (refine Ow.kBuiltin ?_; (first | refine Ow.pu rfl (Pu.len_stl (O.length + 1) rfl pkA (by simp)) ?_)) | (refine Ow.kCall ?_; (first | refine Ow.callE evA pkA rfl (Global_t rb q.threads q.regs q.stack G T _ hG) (fun _ => ?_) | refine Ow.callE evA (pk3 pkA pkA pkA) rfl hfld (fun _ => Ow.ass3 ?_) | refine Ow.callE evA pkA rfl (Pop_tabf rb q.threads q.regs q.stack G T hj hq hst) (fun _ => ?_) | refine Ow.callE evA pkA rfl (Pop_tab rb q.threads q.regs q.stack G T hj hq hst) (fun _ => ?_) | refine Ow.callE evA pkA rfl (Reg_tab rb q.threads q.regs q.stack G T hj hq _) (fun _ => ?_) | fail)) | refine Ow.box rfl rfl rfl (fun bx => ?_))) | (refine Cw.is ?_; (first | refine Cw.seq ?_ | refine Cw.region ?_ | refine Cw.cond_t rfl rfl ?_ | refine Cw.cond_f rfl rfl ?_ | refine Cw.block ?_ | refine Cw.ret ?_ | refine Cw.skip ?_ | refine Cw.drawL (n := 75) (id := 15) [(0, false), (1, false), (2, false), (3, false), (4, false), (5, false), (6, true), (7, false), (8, false), (9, false), (10, false)] mixed (by kernel_rfl) ?_)) | (first | refine thenQ_n ?_ | refine thenQ_r ?_ | refine blockQ_n ?_ | refine blockQ_r ?_ | (refine loudQ.is ?_; first | refine loudQ.go pkA ?_ | refine loudQ.goE (by ac_rfl) ?_)) | (refine Dw.is ?_; (first | refine Dw.q rfl rfl trivial (by (first | exact Pu.move rfl | exact Pu.assign rfl | exact Pu.fld rfl | exact Pu.nilCheck rfl | exact Pu.extract rfl rfl | (apply Pu.kLoad; (first | exact Pu.load_cl rfl pkA rfl | exact Pu.load_sli rfl pkA (by first | omega | (simp only [List.length_set, List.length_append, List.length_replicate, List.length_cons, List.length_nil]; omega)))) | (apply Pu.kBuild; (first | exact Pu.bld1 rfl (fun w => by kernel_rfl))))) ?_ | refine Dw.q rfl rfl ⟨_, _, rfl, rfl, rfl⟩ (by (first | exact Pu.move rfl | exact Pu.assign rfl | exact Pu.fld rfl | exact Pu.nilCheck rfl | exact Pu.extract rfl rfl | (apply Pu.kLoad; (first | exact Pu.load_cl rfl pkA rfl | exact Pu.load_sli rfl pkA (by first | omega | (simp only [List.length_set, List.length_append, List.length_replicate, List.length_cons, List.length_nil]; omega)))) | (apply Pu.kBuild; (first | exact Pu.bld1 rfl (fun w => by kernel_rfl))))) ?_ | refine Dw.nilE ?_ rfl | refine Dw.lE rfl trivial ?_ | refine Dw.lE rfl ⟨_, _, rfl, rfl, rfl⟩ ?_))))
    refine retQ_v2 default Tryd.results45 rfl rfl rfl ?_
    refine Ent.trans ?_ (Ent.left (gpW_mk g q rb WL _ _ _ tv)); ((try simp only [star_assoc]); (repeat (apply Ent.pk; exact pkA)); first | exact Ent.fin pkA | exact Ent.refl _)
end Go.Sl
namespace Go.Sl
open Go Go.Proofs
set_option linter.unusedVariables false
set_option linter.unusedSimpArgs false
attribute [local irreducible] Ow Cw Pk Pu Dw thenQ blockQ retQ loudQ Cr
variable {A : HP} {b o c : Nat}
theorem checkR_eq (q : Cfg) (n x y z : Int) : checkR q n x y z = if ¬ (0 ≤ n ∧ n < 13) then 1 else if (x < 0 ∨ q.regs ≤ x) ∨ ((n = 1 ∨ n = 5 ∨ n = 7) ∧ (y < 0 ∨ q.regs ≤ y)) ∨ (n = 2 ∧ (z < 0 ∨ q.regs ≤ z)) then 4 else if n = 11 ∨ n = 12 then (if y < 0 ∨ q.globals ≤ y then 5 else 0) else if n = 0 then (if y < 0 then 6 else if q.fields < y then 7 else 0) else 0 := by
  unfold checkR
  by_cases hn : 0 ≤ n ∧ n < 13
  · have e0 : (¬ (0 ≤ n ∧ n < 13)) = False := eq_false (fun h => h hn)
    simp only [e0, if_false]
    have : (regsR n x y z).any (bad1 q.regs) = decide ((x < 0 ∨ q.regs ≤ x) ∨ ((n = 1 ∨ n = 5 ∨ n = 7) ∧ (y < 0 ∨ q.regs ≤ y)) ∨ (n = 2 ∧ (z < 0 ∨ q.regs ≤ z))) := by
      unfold regsR
      rw [if_pos hn]
      by_cases h1 : n = 1 ∨ n = 5 ∨ n = 7
      · rw [if_pos h1]; simp only [List.any_cons, List.any_nil, bad1, Bool.or_false]; rw [← Bool.decide_or]; exact decide_eq_decide.2 (by omega)
      · rw [if_neg h1]
        by_cases h2 : n = 2
        · rw [if_pos h2]; simp only [List.any_cons, List.any_nil, bad1, Bool.or_false]; rw [← Bool.decide_or]; exact decide_eq_decide.2 (by omega)
        · rw [if_neg h2]; simp only [List.any_cons, List.any_nil, bad1, Bool.or_false]; exact decide_eq_decide.2 (by omega)
    rw [this]
    simp only [decide_eq_true_eq]
  · rw [if_pos hn, if_pos hn]
def okx (q : Cfg) (n x y z : Int) : Prop := (0 ≤ x ∧ x < q.regs) ∧ ((n = 1 ∨ n = 5 ∨ n = 7) → 0 ≤ y ∧ y < q.regs) ∧ (n = 2 → 0 ≤ z ∧ z < q.regs)
theorem checkR_bad {q : Cfg} {n x y z : Int} (hn : 0 ≤ n ∧ n < 13) (h : ¬ okx q n x y z) : checkR q n x y z = 4 := by
  rw [checkR_eq, if_neg (fun h => h hn), if_pos]
  unfold okx at h
  omega
theorem checkR_ok {q : Cfg} {n x y z : Int} (hn : 0 ≤ n ∧ n < 13) (h : okx q n x y z) : checkR q n x y z = if n = 11 ∨ n = 12 then (if y < 0 ∨ q.globals ≤ y then 5 else 0) else if n = 0 then (if y < 0 then 6 else if q.fields < y then 7 else 0) else 0 := by
  rw [checkR_eq, if_neg (fun h => h hn), if_neg]
  unfold okx at h
  omega
def madeR (l0 l1 l2 l3 l4 l5 : Int) : Cfg := { engine := andI .u8 l0 3, black := decide (0 < andI .u8 l0 4 ∨ andI .u8 l0 3 = 2), pages := 1 + l1 % 12, threads := 1 + andI .u8 l2 3, regs := 2 + andI .u8 (l2 / 4) 3, stack := andI .u8 (l2 / 16) 3, globals := l2 / 64, fields := 2 + andI .u8 l3 3, mark := 1 + andI .u8 (l3 / 4) 15, log := andI .u8 l4 15, budget := 1 + andI .u8 l5 7 }
abbrev l6v (l0 l1 l2 l3 l4 l5 : Int) : Value := .agg #[.int .u8 l0, .int .u8 l1, .int .u8 l2, .int .u8 l3, .int .u8 l4, .int .u8 l5]
set_option maxHeartbeats 8000000 in
theorem Made_fn (l0 l1 l2 l3 l4 l5 : Int) (h0 : 0 ≤ l0 ∧ l0 ≤ 255) (h1 : 0 ≤ l1 ∧ l1 ≤ 255) (h2 : 0 ≤ l2 ∧ l2 ≤ 255) (h3 : 0 ≤ l3 ∧ l3 ≤ 255) (h4 : 0 ≤ l4 ∧ l4 ≤ 255) (h5 : 0 ≤ l5 ∧ l5 ≤ 255) :
    Fn Tryd.prog 8 [l6v l0 l1 l2 l3 l4 l5] emp Unit (fun _ => (madeR l0 l1 l2 l3 l4 l5).v) (fun _ => emp) := by
  have a1 : 0 ≤ andI .u8 l0 3 ∧ andI .u8 l0 3 ≤ 3 := and_u8 l0 3 (by decide)
  have a2 : 0 ≤ andI .u8 l0 4 ∧ andI .u8 l0 4 ≤ 4 := and_u8 l0 4 (by decide)
  have a3 : 0 ≤ andI .u8 l2 3 ∧ andI .u8 l2 3 ≤ 3 := and_u8 l2 3 (by decide)
  have a4 : 0 ≤ andI .u8 (l2 / 4) 3 ∧ andI .u8 (l2 / 4) 3 ≤ 3 := and_u8 _ 3 (by decide)
  have a5 : 0 ≤ andI .u8 (l2 / 16) 3 ∧ andI .u8 (l2 / 16) 3 ≤ 3 := and_u8 _ 3 (by decide)
  have a6 : 0 ≤ andI .u8 l3 3 ∧ andI .u8 l3 3 ≤ 3 := and_u8 _ 3 (by decide)
  have a7 : 0 ≤ andI .u8 (l3 / 4) 15 ∧ andI .u8 (l3 / 4) 15 ≤ 15 := and_u8 _ 15 (by decide)
  have a8 : 0 ≤ andI .u8 l4 15 ∧ andI .u8 l4 15 ≤ 15 := and_u8 _ 15 (by decide)
  have a9 : 0 ≤ andI .u8 l5 7 ∧ andI .u8 l5 7 ≤ 7 := and_u8 _ 7 (by decide)
  (refine Fn.of Tryd.func8 rfl (by kernel_rfl) Tryd.ntmps8 rfl (fun F => ?_))
  refine Cw.heq (emp_star F) ?_
  (repeat' (first | (refine Ow.is ?_; (first | refine Ow.nil ?_ | refine Ow.pu rfl (Pu.move rfl) ?_ | refine Ow.pu rfl (Pu.fld rfl) ?_ | (refine Ow.kGuard ?_; (first | refine Ow.guard_yes rfl rfl rfl ?_ | refine Ow.guard_no rfl rfl rfl rfl ?_)) | (refine Ow.kLoad ?_; (first | refine Ow.pu rfl (Pu.load_cl rfl pkA rfl) ?_ | refine Ow.pu rfl (Pu.loadN_cl rfl pkA rfl rfl) ?_)) | (refine Ow.kBin ?_; (first | refine Ow.pu rfl (Pu.shrN 6 64 rfl rfl rfl (by decide) (by omega)) ?_ | refine Ow.pu rfl (Pu.shrN 4 16 rfl rfl rfl (by decide) (by omega)) ?_ | refine Ow.pu rfl (Pu.shrN 2 4 rfl rfl rfl (by decide) (by omega)) ?_ | (refine Ow.b_gtr ?_; first | refine Ow.pu rfl (Pu.gt_t rfl rfl (by omega)) ?_ | refine Ow.pu rfl (Pu.gt_f rfl rfl (by omega)) ?_ | refine Ow.sp rfl (by exact Pu.gt rfl rfl) (fun hc => ?_) (fun hc => ?_)) | (refine Ow.b_eql ?_; (first | refine Ow.sp rfl (by exact Pu.eqI rfl rfl) (fun hc => ?_) (fun hc => ?_))) | (refine Ow.b_add ?_; refine Ow.pu rfl (Pu.add_i rfl rfl (by omega)) ?_) | (refine Ow.b_rem ?_; refine Ow.pu rfl (Pu.rem_p rfl rfl (by omega)) ?_) | refine Ow.pu rfl (Pu.andV rfl rfl) ?_)) | (refine Ow.kPick ?_; (first | refine Ow.pu rfl (Pu.pick_t rfl rfl) ?_ | refine Ow.pu rfl (Pu.pick_f rfl rfl) ?_)) | (refine Ow.kStore ?_; (first | refine Ow.store_cl rfl rfl rfl (by (first | rfl | assumption | exact Subtype.property _)) pkA rfl ?_ | refine Ow.storeN rfl rfl rfl rfl rfl pkA rfl ?_)) | (refine Ow.kIdx ?_; (first | refine Ow.pu rfl (Pu.idxA_b rfl rfl (by omega)) ?_)) | (refine Ow.kConv ?_; (first | refine Ow.pu rfl (Pu.conv_i rfl (by omega)) ?_)) | (refine Ow.kBuild ?_; (first | refine Ow.pu rfl (Pu.bld11 rfl rfl rfl rfl rfl rfl rfl rfl rfl rfl rfl (fun w => by kernel_rfl)) ?_)) | refine Ow.alloc rfl (fun bx => ?_) | refine Ow.box rfl rfl rfl (fun bx => ?_))) | (refine Cw.is ?_; (first | refine Cw.seq ?_ | refine Cw.region ?_ | refine Cw.ret ?_)) | (first | refine thenQ_n ?_)))
  all_goals refine retQ_cN () Tryd.results8 rfl pkA rfl rfl ?_ ?_
  all_goals first | (refine Ent.is ?_; refine Ent.trans ?_ (Ent.of_eq (emp_star F).symm); ((try simp only [star_assoc]); (repeat (apply Ent.pk; exact pkA)); first | exact Ent.fin pkA | exact Ent.refl _)) | skip
  all_goals (simp only [madeR]; first | rw [show (decide (0 < andI .u8 l0 4 ∨ andI .u8 l0 3 = 2)) = true from decide_eq_true (by omega)] | rw [show (decide (0 < andI .u8 l0 4 ∨ andI .u8 l0 3 = 2)) = false from decide_eq_false (by omega)])
  all_goals rfl
end Go.Sl
namespace Go.Sl
open Go
universe u
variable {A B A' : HP} {a : Addr} {v : Value}
theorem WrA.left (h : WrA A a v A') : WrA (A * B) a v (A' * B) := fun x hx => by
  obtain ⟨p, q, d, rfl, hA, hB⟩ := hx
  obtain ⟨h1, c, t, fz, h2, h3, h4, h5⟩ := h p hA
  refine ⟨h1, c, t, fz, by simp [mrg, h2], h3, h4, _, q, fun i => ?_, ?_, h5, hB⟩
  · by_cases e : i = a.block
    · right
      rcases d i with h | h
      · rw [e, h2] at h; cases h
      · exact h
    · rcases d i with h | h
      · left; simp [e, h]
      · right; exact h
  · funext i
    by_cases e : i = a.block
    · simp [mrg, e]
    · simp [mrg, e]
theorem WrA.ex {α : Sort u} {A A' : α → HP} (h : ∀ x, WrA (A x) a v (A' x)) : WrA (Sl.ex A) a v (Sl.ex A') := fun y ⟨x, hx⟩ =>
  let ⟨h1, c, t, fz, h2, h3, h4, h5⟩ := h x y hx
  ⟨h1, c, t, fz, h2, h3, h4, x, h5⟩
end Go.Sl
namespace Go.Sl
open Go Go.Proofs
set_option linter.unusedVariables false
set_option linter.unusedSimpArgs false
theorem check0 {q : Cfg} {n x y z : Int} (h : checkR q n x y z = 0) : (0 ≤ n ∧ n < 13) ∧ (0 ≤ x ∧ x < q.regs) ∧ ((n = 11 ∨ n = 12) → 0 ≤ y ∧ y < q.globals) ∧ (n = 0 → 0 ≤ y ∧ y ≤ q.fields) ∧ ((n = 1 ∨ n = 5 ∨ n = 7) → 0 ≤ y ∧ y < q.regs) ∧ (n = 2 → 0 ≤ z ∧ z < q.regs) := by
  rw [checkR_eq] at h
  split at h
  · omega
  split at h
  · omega
  split at h
  · split at h
    · omega
    · omega
  split at h
  · split at h
    · omega
    · split at h
      · omega
      · omega
  · omega
theorem Fn.inGp {P : Program} {f : FuncId} {args : List Value} {β : Type} {val : β → Value} {g : Nat} {q : Cfg} {rb : Nat} {WL : List Value} {O : List (Obj SV)} {G : List Int} {T : List Slt} {G' : β → List Int} {T' : β → List Slt}
    (h : Fn P f args (tab rb q.threads q.regs q.stack G T) β val (fun v => tab rb q.threads q.regs q.stack (G' v) (T' v))) : Fn P f args (gpW g q rb WL O G T) β val (fun v => gpW g q rb WL O (G' v) (T' v)) := by
  rw [gpW_ex]
  refine Fn.preX h.enters (fun tv => ?_)
  refine Fn.weak (h.frame (gcl g q tv rb WL * (slk 2 tv.v (O.flatMap obc) * obs O))) (Ent.of_eq (by ac_rfl)) id (fun _ => rfl) (fun v => ?_)
  refine Ent.trans (Ent.of_eq ?_) (gpW_mk g q rb WL O (G' v) (T' v) tv)
  try simp only [id]
  ac_rfl
theorem getR_r {α : Type} [Inhabited α] (b : α) (q : Cfg) (O : List (Obj α)) (G r s : List Int) (x : It) (full : Bool) :
    ((getR b q O G r s x full).e = 0 ∨ (getR b q O G r s x full).e = 10) ∧ (getR b q O G r s x full).r = r.set x.x.toNat (getR b q O G r s x full).v ∨
    (¬ ((getR b q O G r s x full).e = 0 ∨ (getR b q O G r s x full).e = 10)) ∧ (getR b q O G r s x full).r = r := by
  unfold getR
  split
  · split
    · exact .inl ⟨.inr rfl, rfl⟩
    · exact .inl ⟨.inl rfl, rfl⟩
  split
  · split
    · exact .inl ⟨.inl rfl, rfl⟩
    · rename_i h
      refine .inr ⟨?_, rfl⟩
      unfold fldE at h ⊢
      simp only
      split
      · omega
      · split
        · rename_i h1 h2; rw [if_neg h1, if_pos h2] at h; exact (h rfl).elim
        · omega
  split
  · split
    · exact .inr ⟨by simp, rfl⟩
    · exact .inl ⟨.inl rfl, rfl⟩
  · exact .inl ⟨.inl rfl, rfl⟩
theorem Ow.gclose {P : Program} {r : Option Nat} {n : Nat} {Q : PostT} {ρ : Env} {ds : List Deferred} {all l : List Oper} {H R1 R2 R3 R4 : HP} {g : Nat} {q : Cfg} {rb : Nat} {WL : List Value} {O : List (Obj SV)} {G : List Int} {T : List Slt} (tv : SV)
    (hp : Pk H (gcl g q tv rb WL) R1) (hp2 : Pk R1 (slk 2 tv.v (O.flatMap obc)) R2) (hp3 : Pk R2 (obs O) R3) (hp4 : Pk R3 (tab rb q.threads q.regs q.stack G T) R4) (h : Ow P r n all l Q ρ ds (gpW g q rb WL O G T * R4)) : Ow P r n all l Q ρ ds H :=
  Ow.ent (Ent.trans (Ent.of_eq (by unfold Pk at *; rw [hp, hp2, hp3, hp4]; simp only [star_assoc])) (Ent.left (gpW_mk g q rb WL O G T tv))) h
attribute [local irreducible] star Ow Cw Pk Pu Dw DwF thenQ blockQ retQ loudQ loudF loudG Cr thr tab obs andI gpW checkR getR plainR
variable {A : HP} {b o c : Nat} (g : Nat) (q : Cfg) (rb : Nat) (WL : List Value) (O : List (Obj SV)) (G : List Int) (T : List Slt)
set_option maxHeartbeats 8000000 in
theorem act_fn (hK : Kinds A b o c) {nb : Nat} {r s : List Int} (x : It) (full : Bool) (hO : O.length ≤ 1000000) (hq8 : QOk q) (hT : T.length = 4) (hxt : 0 ≤ x.t ∧ x.t < 4) (hq : T[x.t.toNat]! = some (nb, r, s)) (hrl : (r.length : Int) = q.regs) (hGl : (G.length : Int) = q.globals) (hr : ∀ z ∈ r, okR O.length z) (hsl : (s.length : Int) ≤ q.stack) :
    Fn Tryd.prog 27 [.pointer (some ⟨g, 0, none⟩), .agg x.cs.toArray, .bool full] (gpW g q rb WL O G T * A) SV (fun b => ansV (actR b q O G r s x full).e (actR b q O G r s x full).v)
      (fun b => gpW g q rb WL (actR b q O G r s x full).O (actR b q O G r s x full).G (T.set x.t.toNat (some (nb, (actR b q O G r s x full).r, (actR b q O G r s x full).s))) * A) := by
  have hj : x.t.toNat < T.length := by omega
  have hTs := T_self hj hq
  have hof : Fn Tryd.prog 41 [.pointer (some ⟨rb, 0, none⟩), vi x.t] (tab rb q.threads q.regs q.stack G T) Unit (fun _ => .pointer (some ⟨nb, 0, none⟩)) (fun _ => tab rb q.threads q.regs q.stack G T) := by
    have h := Of_t rb q.threads q.regs q.stack G T hT x.t hxt
    rw [hq] at h; exact h
  by_cases hck : checkR q x.c x.x x.y x.z = 0
  · obtain ⟨hn, hxx, hgy, hfy, hry, hrz⟩ := check0 hck
    have hf6 := hq8.fd
    by_cases htc : tellsC x.c
    · have hef : ∀ b : SV, actR b q O G r s x full = getR b q O G r s x full := fun b => by unfold actR; rw [if_neg (fun h => h hck), if_pos htc]
      simp only [hef]
      have htl : Fn Tryd.prog 43 [vi x.c] emp Unit (fun _ => .bool true) (fun _ => emp) := by
        have h := Tells_fn x.c; rwa [decide_eq_true htc] at h
      have hget := get_fn g q rb WL O G T x full hO hq8 hj hq hr hsl (fun h => by have := hfy h; omega) (fun h => by have := hgy (.inl h); omega) htc
      (refine Fn.of Tryd.func27 rfl (by kernel_rfl) Tryd.ntmps27 rfl (fun F => ?_))
      (refine Cw.heq (by simp only [star_assoc, emp_star, star_emp]; exact rfl) ?_)
      refine Cw.opn (gpW_ex g q rb WL O G T) (fun tv => ?_)
      (refine Cw.heq (by simp only [star_assoc, emp_star, star_emp]; exact rfl) ?_)
      (repeat' (first | (refine Ow.is ?_; (first | refine Ow.pu rfl (Pu.fld rfl) ?_ | refine Ow.nil ?_ | refine Ow.pu rfl (Pu.move rfl) ?_ | refine Ow.pu rfl (Pu.assign rfl) ?_ | refine Ow.pu rfl (Pu.fld rfl) ?_ | refine Ow.pu rfl (Pu.nilCheck rfl) ?_ | (refine Ow.kLoad ?_; (first | refine Ow.pu rfl (Pu.loadN_cl rfl pkA rfl rfl) ?_)) | (refine Ow.kCall ?_; (first | refine Ow.callE evA pkA rfl (Check_fn hK q x.k x.t x.c x.x x.y x.z) (fun _ => ?_) | fail)) | refine Ow.alloc rfl (fun bx => ?_) | refine Ow.box rfl rfl rfl (fun bx => ?_))) | (refine Cw.is ?_; (first | refine Cw.seq ?_ | refine Cw.region ?_ | refine Cw.cond_t rfl rfl ?_ | refine Cw.cond_f rfl rfl ?_ | refine Cw.ret ?_ | refine Cw.skip ?_ | refine Cw.drawL (n := 58) (id := 1) [(0, false), (1, false), (2, false), (3, false), (4, false), (5, true), (6, false)] mixed (by kernel_rfl) ?_)) | (first | refine thenQ_n ?_ | refine thenQ_r ?_ | (refine loudQ.is ?_; first | refine loudQ.go pkA ?_ | refine loudQ.goE (by ac_rfl) ?_)) | (refine Dw.is ?_; (first | refine Dw.q rfl rfl trivial (by (first | exact Pu.move rfl | exact Pu.assign rfl | exact Pu.fld rfl | exact Pu.nilCheck rfl | (apply Pu.kLoad; (first | exact Pu.loadN_cl rfl pkA rfl rfl)))) ?_ | refine Dw.q rfl rfl ⟨_, _, rfl, rfl, rfl⟩ (by (first | exact Pu.move rfl | exact Pu.assign rfl | exact Pu.fld rfl | exact Pu.nilCheck rfl | (apply Pu.kLoad; (first | exact Pu.loadN_cl rfl pkA rfl rfl)))) ?_ | refine Dw.nilE ?_ rfl | refine Dw.lE rfl trivial ?_ | refine Dw.lE rfl ⟨_, _, rfl, rfl, rfl⟩ ?_))))
      rw [hck]
      (repeat' (first | (refine Ow.is ?_; (first | refine Ow.pu rfl (Pu.fld rfl) ?_ | refine Ow.nil ?_ | refine Ow.pu rfl (Pu.move rfl) ?_ | refine Ow.pu rfl (Pu.assign rfl) ?_ | refine Ow.pu rfl (Pu.fld rfl) ?_ | refine Ow.pu rfl (Pu.nilCheck rfl) ?_ | (refine Ow.kLoad ?_; (first | refine Ow.pu rfl (Pu.load_cl rfl pkA rfl) ?_ | refine Ow.pu rfl (Pu.loadN_cl rfl pkA rfl rfl) ?_)) | (refine Ow.kBin ?_; (first | (refine Ow.b_neq ?_; (first | refine Ow.pu rfl (Pu.ne_t rfl rfl odA) ?_ | refine Ow.pu rfl (Pu.ne_f rfl rfl roA) ?_)))) | (refine Ow.kUn ?_; (first | refine Ow.pu rfl (Pu.not rfl) ?_)) | (refine Ow.kStore ?_; (first | refine Ow.storeN rfl rfl rfl rfl rfl pkA rfl ?_)) | (refine Ow.kCall ?_; (first | refine Ow.callE evA pkA rfl hof (fun _ => ?_) | refine Ow.callE0 evA rfl htl (fun _ => Ow.unemp ?_) | refine Ow.callE evA pkA rfl (Check_fn hK q x.k x.t x.c x.x x.y x.z) (fun _ => ?_) | fail)) | (refine Ow.kBuild ?_; (first | refine Ow.pu rfl (Pu.bld1 rfl (fun w => by kernel_rfl)) ?_)))) | (refine Cw.is ?_; (first | refine Cw.seq ?_ | refine Cw.region ?_ | refine Cw.cond_t rfl rfl ?_ | refine Cw.cond_f rfl rfl ?_ | refine Cw.ret ?_ | refine Cw.skip ?_ | refine Cw.drawL (n := 58) (id := 1) [(0, false), (1, false), (2, false), (3, false), (4, false), (5, true), (6, false)] mixed (by kernel_rfl) ?_ | refine Cw.drawL (n := 58) (id := 4) [(0, false), (1, false), (2, false), (3, false), (4, false), (5, false), (6, true), (7, false)] mixed (by kernel_rfl) ?_)) | (first | refine thenQ_n ?_ | refine thenQ_r ?_ | (refine loudQ.is ?_; first | refine loudQ.go pkA ?_ | refine loudQ.goE (by ac_rfl) ?_)) | (refine Dw.is ?_; (first | refine Dw.q rfl rfl trivial (by (first | exact Pu.move rfl | exact Pu.assign rfl | exact Pu.fld rfl | exact Pu.nilCheck rfl | (apply Pu.kLoad; (first | exact Pu.load_cl rfl pkA rfl | exact Pu.loadN_cl rfl pkA rfl rfl)))) ?_ | refine Dw.q rfl rfl ⟨_, _, rfl, rfl, rfl⟩ (by (first | exact Pu.move rfl | exact Pu.assign rfl | exact Pu.fld rfl | exact Pu.nilCheck rfl | (apply Pu.kLoad; (first | exact Pu.load_cl rfl pkA rfl | exact Pu.loadN_cl rfl pkA rfl rfl)))) ?_ | refine Dw.nilE ?_ rfl | refine Dw.lE rfl trivial ?_ | refine Dw.lE rfl ⟨_, _, rfl, rfl, rfl⟩ ?_))))
      refine Ow.gclose (g := g) (q := q) (rb := rb) (WL := WL) (O := O) (G := G) (T := T) tv pkA pkA pkA pkA ?_
      (repeat' (first | (refine Ow.is ?_; (first | refine Ow.nil ?_ | refine Ow.pu rfl (Pu.move rfl) ?_ | refine Ow.pu rfl (Pu.assign rfl) ?_ | refine Ow.pu rfl (Pu.extract rfl rfl) ?_ | (refine Ow.kLoad ?_; (first | refine Ow.pu rfl (Pu.loadN_cl rfl pkA rfl rfl) ?_)) | (refine Ow.kCall ?_; (first | fail)))) | (refine Cw.is ?_; (first | refine Cw.seq ?_ | refine Cw.region ?_ | refine Cw.cond_t rfl rfl ?_ | refine Cw.cond_f rfl rfl ?_ | refine Cw.ret ?_ | refine Cw.skip ?_)) | (first | refine thenQ_n ?_ | refine thenQ_r ?_)))
      refine Ow.callE evA pkA rfl hget (fun b => ?_)
      obtain ⟨ef, hf⟩ : ∃ ef, getR b q O G r s x full = ef := ⟨_, rfl⟩
      have hrr := getR_r b q O G r s x full
      rw [hf] at hrr ⊢
      have hj' : x.t.toNat < (T.set x.t.toNat (some (nb, r, ef.s))).length := by rw [List.length_set]; exact hj
      have hq' : (T.set x.t.toNat (some (nb, r, ef.s)))[x.t.toNat]! = some (nb, r, ef.s) := by rw [getElem!_pos (T.set x.t.toNat (some (nb, r, ef.s))) _ hj']; simp
      rcases hrr with ⟨he, hr'⟩ | ⟨he, hr'⟩
      · have hset := (SetReg_tab rb q.threads q.regs q.stack ef.G _ hj' hq' x.x ef.v (by omega)).inGp (g := g) (q := q) (WL := WL) (O := ef.O) (G' := fun _ => ef.G) (T' := fun _ => _)
        rw [List.set_set] at hset
        rcases he with he | he
        all_goals (repeat' (first | (refine Ow.is ?_; (first | refine Ow.pu rfl (Pu.fld rfl) ?_ | refine Ow.nil ?_ | refine Ow.pu rfl (Pu.move rfl) ?_ | refine Ow.pu rfl (Pu.assign rfl) ?_ | refine Ow.pu rfl (Pu.fld rfl) ?_ | refine Ow.pu rfl (Pu.extract rfl rfl) ?_ | (refine Ow.kGuard ?_; (first | refine Ow.guard_yes rfl rfl rfl ?_ | refine Ow.guard_no rfl rfl rfl rfl ?_)) | (refine Ow.kLoad ?_; (first | refine Ow.pu rfl (Pu.load_cl rfl pkA rfl) ?_ | refine Ow.pu rfl (Pu.loadN_cl rfl pkA rfl rfl) ?_)) | (refine Ow.kBin ?_; (first | (refine Ow.b_eql ?_; (first | refine Ow.pu rfl (Pu.eq_t rfl rfl roA) ?_ | refine Ow.pu rfl (Pu.eq_f rfl rfl odA) ?_)))) | (refine Ow.kPick ?_; (first | refine Ow.pu rfl (Pu.pick_t rfl rfl) ?_ | refine Ow.pu rfl (Pu.pick_f rfl rfl) ?_)) | (refine Ow.kStore ?_; (first | refine Ow.storeN rfl rfl rfl rfl rfl pkA rfl ?_)) | (refine Ow.kCall ?_; (first | refine Ow.callE evA pkA rfl hset (fun _ => ?_) | fail)) | (refine Ow.kBuild ?_; (first | refine Ow.pu rfl (Pu.bld2 rfl rfl (fun w => by kernel_rfl)) ?_)))) | (refine Cw.is ?_; (first | refine Cw.seq ?_ | refine Cw.region ?_ | refine Cw.cond_t rfl rfl ?_ | refine Cw.cond_f rfl rfl ?_ | refine Cw.ret ?_ | refine Cw.skip ?_)) | (first | refine thenQ_n ?_ | refine thenQ_r ?_)))
        all_goals (refine retQ_cN b Tryd.results27 rfl pkA rfl rfl (by simp only [hf]; rfl) ?_)
        all_goals (simp only [hf]; rw [hr']; ((try simp only [star_assoc]); (repeat (apply Ent.pk; exact pkA)); first | exact Ent.fin pkA | exact Ent.refl _))
      · (repeat' (first | (refine Ow.is ?_; (first | refine Ow.pu rfl (Pu.fld rfl) ?_ | refine Ow.nil ?_ | refine Ow.pu rfl (Pu.move rfl) ?_ | refine Ow.pu rfl (Pu.assign rfl) ?_ | refine Ow.pu rfl (Pu.fld rfl) ?_ | refine Ow.pu rfl (Pu.extract rfl rfl) ?_ | (refine Ow.kGuard ?_; (first | refine Ow.guard_yes rfl rfl rfl ?_ | refine Ow.guard_no rfl rfl rfl rfl ?_)) | (refine Ow.kLoad ?_; (first | refine Ow.pu rfl (Pu.load_cl rfl pkA rfl) ?_ | refine Ow.pu rfl (Pu.loadN_cl rfl pkA rfl rfl) ?_)) | (refine Ow.kBin ?_; (first | (refine Ow.b_eql ?_; (first | refine Ow.pu rfl (Pu.eq_t rfl rfl roA) ?_ | refine Ow.pu rfl (Pu.eq_f rfl rfl odA) ?_)))) | (refine Ow.kPick ?_; (first | refine Ow.pu rfl (Pu.pick_t rfl rfl) ?_ | refine Ow.pu rfl (Pu.pick_f rfl rfl) ?_)) | (refine Ow.kStore ?_; (first | refine Ow.storeN rfl rfl rfl rfl rfl pkA rfl ?_)) | (refine Ow.kCall ?_; (first | refine Ow.callE evA pkA rfl hset (fun _ => ?_) | fail)) | (refine Ow.kBuild ?_; (first | refine Ow.pu rfl (Pu.bld2 rfl rfl (fun w => by kernel_rfl)) ?_)))) | (refine Cw.is ?_; (first | refine Cw.seq ?_ | refine Cw.region ?_ | refine Cw.cond_t rfl rfl ?_ | refine Cw.cond_f rfl rfl ?_ | refine Cw.ret ?_ | refine Cw.skip ?_)) | (first | refine thenQ_n ?_ | refine thenQ_r ?_)))
        all_goals (refine retQ_cN b Tryd.results27 rfl pkA rfl rfl (by simp only [hf]; rfl) ?_)
        all_goals (simp only [hf]; rw [hr']; ((try simp only [star_assoc]); (repeat (apply Ent.pk; exact pkA)); first | exact Ent.fin pkA | exact Ent.refl _))
    · have hef : ∀ b : SV, actR b q O G r s x full = plainR q O G r s x := fun b => by unfold actR; rw [if_neg (fun h => h hck), if_neg htc]
      simp only [hef]
      have htl : Fn Tryd.prog 43 [vi x.c] emp Unit (fun _ => .bool false) (fun _ => emp) := by
        have h := Tells_fn x.c; rwa [decide_eq_false htc] at h
      have hpl := plain_fn g q rb WL O G T x hO hq8 hj hq hr hsl (by omega) (fun h => by have := hgy (.inr h); omega) ⟨hn, htc⟩
      (refine Fn.of Tryd.func27 rfl (by kernel_rfl) Tryd.ntmps27 rfl (fun F => ?_))
      (refine Cw.heq (by simp only [star_assoc, emp_star, star_emp]; exact rfl) ?_)
      refine Cw.opn (gpW_ex g q rb WL O G T) (fun tv => ?_)
      (refine Cw.heq (by simp only [star_assoc, emp_star, star_emp]; exact rfl) ?_)
      (repeat' (first | (refine Ow.is ?_; (first | refine Ow.pu rfl (Pu.fld rfl) ?_ | refine Ow.nil ?_ | refine Ow.pu rfl (Pu.move rfl) ?_ | refine Ow.pu rfl (Pu.assign rfl) ?_ | refine Ow.pu rfl (Pu.fld rfl) ?_ | refine Ow.pu rfl (Pu.nilCheck rfl) ?_ | (refine Ow.kLoad ?_; (first | refine Ow.pu rfl (Pu.loadN_cl rfl pkA rfl rfl) ?_)) | (refine Ow.kCall ?_; (first | refine Ow.callE evA pkA rfl (Check_fn hK q x.k x.t x.c x.x x.y x.z) (fun _ => ?_) | fail)) | refine Ow.alloc rfl (fun bx => ?_) | refine Ow.box rfl rfl rfl (fun bx => ?_))) | (refine Cw.is ?_; (first | refine Cw.seq ?_ | refine Cw.region ?_ | refine Cw.cond_t rfl rfl ?_ | refine Cw.cond_f rfl rfl ?_ | refine Cw.ret ?_ | refine Cw.skip ?_ | refine Cw.drawL (n := 58) (id := 1) [(0, false), (1, false), (2, false), (3, false), (4, false), (5, true), (6, false)] mixed (by kernel_rfl) ?_)) | (first | refine thenQ_n ?_ | refine thenQ_r ?_ | (refine loudQ.is ?_; first | refine loudQ.go pkA ?_ | refine loudQ.goE (by ac_rfl) ?_)) | (refine Dw.is ?_; (first | refine Dw.q rfl rfl trivial (by (first | exact Pu.move rfl | exact Pu.assign rfl | exact Pu.fld rfl | exact Pu.nilCheck rfl | (apply Pu.kLoad; (first | exact Pu.loadN_cl rfl pkA rfl rfl)))) ?_ | refine Dw.q rfl rfl ⟨_, _, rfl, rfl, rfl⟩ (by (first | exact Pu.move rfl | exact Pu.assign rfl | exact Pu.fld rfl | exact Pu.nilCheck rfl | (apply Pu.kLoad; (first | exact Pu.loadN_cl rfl pkA rfl rfl)))) ?_ | refine Dw.nilE ?_ rfl | refine Dw.lE rfl trivial ?_ | refine Dw.lE rfl ⟨_, _, rfl, rfl, rfl⟩ ?_))))
      rw [hck]
      (repeat' (first | (refine Ow.is ?_; (first | refine Ow.pu rfl (Pu.fld rfl) ?_ | refine Ow.nil ?_ | refine Ow.pu rfl (Pu.move rfl) ?_ | refine Ow.pu rfl (Pu.assign rfl) ?_ | refine Ow.pu rfl (Pu.fld rfl) ?_ | refine Ow.pu rfl (Pu.nilCheck rfl) ?_ | (refine Ow.kLoad ?_; (first | refine Ow.pu rfl (Pu.load_cl rfl pkA rfl) ?_ | refine Ow.pu rfl (Pu.loadN_cl rfl pkA rfl rfl) ?_)) | (refine Ow.kBin ?_; (first | (refine Ow.b_neq ?_; (first | refine Ow.pu rfl (Pu.ne_t rfl rfl odA) ?_ | refine Ow.pu rfl (Pu.ne_f rfl rfl roA) ?_)))) | (refine Ow.kUn ?_; (first | refine Ow.pu rfl (Pu.not rfl) ?_)) | (refine Ow.kStore ?_; (first | refine Ow.storeN rfl rfl rfl rfl rfl pkA rfl ?_)) | (refine Ow.kCall ?_; (first | refine Ow.callE evA pkA rfl hof (fun _ => ?_) | refine Ow.callE0 evA rfl htl (fun _ => Ow.unemp ?_) | refine Ow.callE evA pkA rfl (Check_fn hK q x.k x.t x.c x.x x.y x.z) (fun _ => ?_) | fail)) | (refine Ow.kBuild ?_; (first | refine Ow.pu rfl (Pu.bld1 rfl (fun w => by kernel_rfl)) ?_)))) | (refine Cw.is ?_; (first | refine Cw.seq ?_ | refine Cw.region ?_ | refine Cw.cond_t rfl rfl ?_ | refine Cw.cond_f rfl rfl ?_ | refine Cw.ret ?_ | refine Cw.skip ?_ | refine Cw.drawL (n := 58) (id := 1) [(0, false), (1, false), (2, false), (3, false), (4, false), (5, true), (6, false)] mixed (by kernel_rfl) ?_ | refine Cw.drawL (n := 58) (id := 4) [(0, false), (1, false), (2, false), (3, false), (4, false), (5, false), (6, true), (7, false)] mixed (by kernel_rfl) ?_)) | (first | refine thenQ_n ?_ | refine thenQ_r ?_ | (refine loudQ.is ?_; first | refine loudQ.go pkA ?_ | refine loudQ.goE (by ac_rfl) ?_)) | (refine Dw.is ?_; (first | refine Dw.q rfl rfl trivial (by (first | exact Pu.move rfl | exact Pu.assign rfl | exact Pu.fld rfl | exact Pu.nilCheck rfl | (apply Pu.kLoad; (first | exact Pu.load_cl rfl pkA rfl | exact Pu.loadN_cl rfl pkA rfl rfl)))) ?_ | refine Dw.q rfl rfl ⟨_, _, rfl, rfl, rfl⟩ (by (first | exact Pu.move rfl | exact Pu.assign rfl | exact Pu.fld rfl | exact Pu.nilCheck rfl | (apply Pu.kLoad; (first | exact Pu.load_cl rfl pkA rfl | exact Pu.loadN_cl rfl pkA rfl rfl)))) ?_ | refine Dw.nilE ?_ rfl | refine Dw.lE rfl trivial ?_ | refine Dw.lE rfl ⟨_, _, rfl, rfl, rfl⟩ ?_))))
      refine Ow.gclose (g := g) (q := q) (rb := rb) (WL := WL) (O := O) (G := G) (T := T) tv pkA pkA pkA pkA ?_
      (repeat' (first | (refine Ow.is ?_; (first | refine Ow.nil ?_ | refine Ow.pu rfl (Pu.move rfl) ?_ | (refine Ow.kLoad ?_; (first | refine Ow.pu rfl (Pu.loadN_cl rfl pkA rfl rfl) ?_)) | (refine Ow.kStore ?_; (first | refine Ow.storeN rfl rfl rfl rfl rfl pkA rfl ?_)) | (refine Ow.kCall ?_; (first | fail)))) | (refine Cw.is ?_; (first | refine Cw.seq ?_ | refine Cw.region ?_ | refine Cw.cond_t rfl rfl ?_ | refine Cw.cond_f rfl rfl ?_ | refine Cw.ret ?_ | refine Cw.skip ?_)) | (first | refine thenQ_n ?_ | refine thenQ_r ?_)))
      refine Ow.callE evA pkA rfl hpl (fun _ => ?_)
      (repeat' (first | (refine Ow.is ?_; (first | refine Ow.nil ?_ | refine Ow.pu rfl (Pu.move rfl) ?_ | (refine Ow.kLoad ?_; (first | refine Ow.pu rfl (Pu.loadN_cl rfl pkA rfl rfl) ?_)) | (refine Ow.kStore ?_; (first | refine Ow.storeN rfl rfl rfl rfl rfl pkA rfl ?_)) | (refine Ow.kCall ?_; (first | fail)))) | (refine Cw.is ?_; (first | refine Cw.seq ?_ | refine Cw.region ?_ | refine Cw.cond_t rfl rfl ?_ | refine Cw.cond_f rfl rfl ?_ | refine Cw.ret ?_ | refine Cw.skip ?_)) | (first | refine thenQ_n ?_ | refine thenQ_r ?_)))
      refine retQ_cN default Tryd.results27 rfl pkA rfl rfl rfl ?_
      ((try simp only [star_assoc]); (repeat (apply Ent.pk; exact pkA)); first | exact Ent.fin pkA | exact Ent.refl _)
  · have hef : ∀ b : SV, actR b q O G r s x full = ⟨O, G, r, s, checkR q x.c x.x x.y x.z, 0⟩ := fun b => by unfold actR; rw [if_pos hck]
    simp only [hef]
    rw [hTs]
    obtain ⟨e, he⟩ : ∃ e, checkR q x.c x.x x.y x.z = e := ⟨_, rfl⟩
    rw [he] at hck
    rw [he]
    (refine Fn.of Tryd.func27 rfl (by kernel_rfl) Tryd.ntmps27 rfl (fun F => ?_))
    (refine Cw.heq (by simp only [star_assoc, emp_star, star_emp]; exact rfl) ?_)
    refine Cw.opn (gpW_ex g q rb WL O G T) (fun tv => ?_)
    (refine Cw.heq (by simp only [star_assoc, emp_star, star_emp]; exact rfl) ?_)
    (repeat' (first | (refine Ow.is ?_; (first | refine Ow.pu rfl (Pu.fld rfl) ?_ | refine Ow.nil ?_ | refine Ow.pu rfl (Pu.move rfl) ?_ | refine Ow.pu rfl (Pu.assign rfl) ?_ | refine Ow.pu rfl (Pu.fld rfl) ?_ | refine Ow.pu rfl (Pu.nilCheck rfl) ?_ | (refine Ow.kLoad ?_; (first | refine Ow.pu rfl (Pu.loadN_cl rfl pkA rfl rfl) ?_)) | (refine Ow.kCall ?_; (first | refine Ow.callE evA pkA rfl (Check_fn hK q x.k x.t x.c x.x x.y x.z) (fun _ => ?_) | fail)) | refine Ow.alloc rfl (fun bx => ?_) | refine Ow.box rfl rfl rfl (fun bx => ?_))) | (refine Cw.is ?_; (first | refine Cw.seq ?_ | refine Cw.region ?_ | refine Cw.cond_t rfl rfl ?_ | refine Cw.cond_f rfl rfl ?_ | refine Cw.ret ?_ | refine Cw.skip ?_ | refine Cw.drawL (n := 58) (id := 1) [(0, false), (1, false), (2, false), (3, false), (4, false), (5, true), (6, false)] mixed (by kernel_rfl) ?_)) | (first | refine thenQ_n ?_ | refine thenQ_r ?_ | (refine loudQ.is ?_; first | refine loudQ.go pkA ?_ | refine loudQ.goE (by ac_rfl) ?_)) | (refine Dw.is ?_; (first | refine Dw.q rfl rfl trivial (by (first | exact Pu.move rfl | exact Pu.assign rfl | exact Pu.fld rfl | exact Pu.nilCheck rfl | (apply Pu.kLoad; (first | exact Pu.loadN_cl rfl pkA rfl rfl)))) ?_ | refine Dw.q rfl rfl ⟨_, _, rfl, rfl, rfl⟩ (by (first | exact Pu.move rfl | exact Pu.assign rfl | exact Pu.fld rfl | exact Pu.nilCheck rfl | (apply Pu.kLoad; (first | exact Pu.loadN_cl rfl pkA rfl rfl)))) ?_ | refine Dw.nilE ?_ rfl | refine Dw.lE rfl trivial ?_ | refine Dw.lE rfl ⟨_, _, rfl, rfl, rfl⟩ ?_))))
    rw [he]
    (repeat' (first | (refine Ow.is ?_; (first | refine Ow.pu rfl (Pu.fld rfl) ?_ | refine Ow.nil ?_ | refine Ow.pu rfl (Pu.move rfl) ?_ | refine Ow.pu rfl (Pu.assign rfl) ?_ | refine Ow.pu rfl (Pu.fld rfl) ?_ | refine Ow.pu rfl (Pu.nilCheck rfl) ?_ | (refine Ow.kLoad ?_; (first | refine Ow.pu rfl (Pu.loadN_cl rfl pkA rfl rfl) ?_)) | (refine Ow.kBin ?_; (first | (refine Ow.b_neq ?_; (first | refine Ow.pu rfl (Pu.ne_t rfl rfl odA) ?_ | refine Ow.pu rfl (Pu.ne_f rfl rfl roA) ?_)))) | (refine Ow.kStore ?_; (first | refine Ow.storeN rfl rfl rfl rfl rfl pkA rfl ?_)) | (refine Ow.kCall ?_; (first | refine Ow.callE evA pkA rfl (Check_fn hK q x.k x.t x.c x.x x.y x.z) (fun _ => ?_) | fail)) | (refine Ow.kBuild ?_; (first | refine Ow.pu rfl (Pu.bld1 rfl (fun w => by kernel_rfl)) ?_)))) | (refine Cw.is ?_; (first | refine Cw.seq ?_ | refine Cw.region ?_ | refine Cw.cond_t rfl rfl ?_ | refine Cw.cond_f rfl rfl ?_ | refine Cw.ret ?_ | refine Cw.skip ?_ | refine Cw.drawL (n := 58) (id := 1) [(0, false), (1, false), (2, false), (3, false), (4, false), (5, true), (6, false)] mixed (by kernel_rfl) ?_)) | (first | refine thenQ_n ?_ | refine thenQ_r ?_ | (refine loudQ.is ?_; first | refine loudQ.go pkA ?_ | refine loudQ.goE (by ac_rfl) ?_)) | (refine Dw.is ?_; (first | refine Dw.q rfl rfl trivial (by (first | exact Pu.move rfl | exact Pu.assign rfl | exact Pu.fld rfl | exact Pu.nilCheck rfl | (apply Pu.kLoad; (first | exact Pu.loadN_cl rfl pkA rfl rfl)))) ?_ | refine Dw.q rfl rfl ⟨_, _, rfl, rfl, rfl⟩ (by (first | exact Pu.move rfl | exact Pu.assign rfl | exact Pu.fld rfl | exact Pu.nilCheck rfl | (apply Pu.kLoad; (first | exact Pu.loadN_cl rfl pkA rfl rfl)))) ?_ | refine Dw.nilE ?_ rfl | refine Dw.lE rfl trivial ?_ | refine Dw.lE rfl ⟨_, _, rfl, rfl, rfl⟩ ?_))))
    refine retQ_cN default Tryd.results27 rfl pkA rfl rfl rfl ?_
    refine Ent.trans ?_ (Ent.left (Ent.left (gpW_mk g q rb WL _ _ _ tv)))
    ((try simp only [star_assoc]); (repeat (apply Ent.pk; exact pkA)); first | exact Ent.fin pkA | exact Ent.refl _)
end Go.Sl
namespace Go.Sl
open Go Go.Proofs
set_option linter.unusedVariables false
set_option linter.unusedSimpArgs false
attribute [local irreducible] star Ow Cw Pk Pu Dw DwF thenQ blockQ retQ loudQ loudF loudG Cr thr tab obs andI
def wkc (w : Wk) : List Value := [vi w.it.k, vi w.it.t, vi w.it.c, vi w.it.x, vi w.it.y, vi w.it.z, vi w.ph]
instance : Fl wkc 7 := ⟨fun _ => rfl, by decide, fun _ => rfl⟩
instance : Inhabited Wk := ⟨wk0⟩
def sltO : Option (Nat × ThS) → Slt
  | none => none
  | some p => some (p.1, p.2.r, p.2.s)
theorem sltO_at {T : List (Option (Nat × ThS))} {j : Nat} (hj : j < T.length) : (T.map sltO)[j]! = sltO T[j]! := by
  rw [getElem!_pos (T.map sltO) j (by simpa using hj), getElem!_pos T j hj, List.getElem_map]
section
variable (g : Nat) (q : Cfg) (rb : Nat) (WL : List Value) (O : List (Obj SV)) (G : List Int) (T : List Slt)
theorem gpW_rb : RdA (gpW g q rb WL O G T) ⟨g, 0 + 12, none⟩ (.pointer (some ⟨rb, 0, none⟩)) := by
  rw [gpW_ex]; exact RdA.ex fun tv => RdA.left (rd_cl rfl)
theorem gcl_get (tv : SV) (i : Nat) : (q.cs ++ (tv.v :: .pointer (some ⟨rb, 0, none⟩) :: WL))[0 + 13 + i]? = WL[i]? := by
  rw [show 0 + 13 + i = i + 13 by omega]; rfl
theorem gcl_set (tv : SV) (i : Nat) (u : Value) : (q.cs ++ (tv.v :: .pointer (some ⟨rb, 0, none⟩) :: WL)).set (0 + 13 + i) u = q.cs ++ (tv.v :: .pointer (some ⟨rb, 0, none⟩) :: WL.set i u) := by
  rw [show 0 + 13 + i = i + 13 by omega]; rfl
theorem gpW_w {i : Nat} {v : Value} (h : WL[i]? = some v) : RdA (gpW g q rb WL O G T) ⟨g, 0 + 13 + i, none⟩ v := by
  rw [gpW_ex]; exact RdA.ex fun tv => RdA.left (rd_cl (by rw [gcl_get]; exact h))
theorem gpW_wr {i : Nat} {u : Value} (h : i < WL.length) : WrA (gpW g q rb WL O G T) ⟨g, 0 + 13 + i, none⟩ u (gpW g q rb (WL.set i u) O G T) := by
  rw [gpW_ex, gpW_ex]
  refine WrA.ex fun tv => WrA.left ?_
  have hw := wr_cl (b := g) (cs := q.cs ++ (tv.v :: .pointer (some ⟨rb, 0, none⟩) :: WL)) (o := 0 + 13 + i) (v := u) (by simp; omega)
  rw [gcl_set] at hw
  exact hw
variable {W : List Wk} {j : Nat} {w : Wk}
theorem gpW_ph (hj : j < W.length) (hw : W[j]! = w) : RdA (gpW g q rb (W.flatMap wkc) O G T) ⟨g, 0 + 13 + j * 7 + 6, none⟩ (vi w.ph) := by
  rw [Nat.add_assoc]
  exact gpW_w g q rb _ O G T (by rw [flat_get (f := wkc) W j 6 hj (by decide), hw]; rfl)
theorem gpW_it (hj : j < W.length) (hw : W[j]! = w) : RdN (gpW g q rb (W.flatMap wkc) O G T) ⟨g, 0 + 13 + j * 7 + 0, none⟩ w.it.cs := fun i u hi => by
  have hi6 : i < 6 := (List.getElem?_eq_some_iff.1 hi).1
  rw [addr_add, show 0 + 13 + j * 7 + 0 + i = 0 + 13 + (j * 7 + i) by omega]
  refine gpW_w g q rb _ O G T ?_
  rw [flat_get (f := wkc) W j i hj (by omega), hw]
  rcases (by omega : i = 0 ∨ i = 1 ∨ i = 2 ∨ i = 3 ∨ i = 4 ∨ i = 5) with rfl | rfl | rfl | rfl | rfl | rfl <;> exact hi
theorem gpW_wph (hj : j < W.length) (hw : W[j]! = w) (z : Int) : WrA (gpW g q rb (W.flatMap wkc) O G T) ⟨g, 0 + 13 + j * 7 + 6, none⟩ (vi z) (gpW g q rb ((W.set j ⟨w.it, z⟩).flatMap wkc) O G T) := by
  rw [Nat.add_assoc, ← flat_setf (f := wkc) W j 6 ⟨w.it, z⟩ hj (by rw [hw]; rfl) (by decide)]
  refine gpW_wr g q rb _ O G T ?_
  rw [flat_len (f := wkc)]; omega
theorem Ow.store_w {P : Program} {r : Option Nat} {n : Nat} {Q : PostT} {ρ : Env} {ds : List Deferred} {all rest : List Oper} {d : Option Nat} {t t' : TypeId} {x y : Operand} {pos : String} {aft : Array Edge} {H R : HP} {bb : Nat} {zc : List Value} [S : TyS P t 7 bb zc] (w' : Wk) (hj : j < W.length) (hd : dOk n d = true) (hx : ev ρ x = some (.pointer (some ⟨g, 0 + 13 + j * 7, none⟩))) (hy : ev ρ y = some (.agg (wkc w').toArray)) (hp : Pk H (gpW g q rb (W.flatMap wkc) O G T) R)
    (h : Ow P r n all rest Q (putE d undef ρ) ds (gpW g q rb ((W.set j w').flatMap wkc) O G T * R)) : Ow P r n all (⟨d, .store t x y, t', pos, aft, none⟩ :: rest) Q ρ ds H := by
  unfold Pk at hp
  subst hp
  refine Ow.opn (gpW_ex g q rb _ O G T) (fun tv => ?_)
  refine Ow.heq (star_assoc _ _ _) ?_
  have hl : (0 + 13 + j * 7) + (wkc w').length ≤ (q.cs ++ (tv.v :: .pointer (some ⟨rb, 0, none⟩) :: W.flatMap wkc)).length := by
    have : (W.flatMap wkc).length = W.length * 7 := flat_len (f := wkc) W
    simp only [List.length_append, List.length_cons, List.length_nil, this]
    show 0 + 13 + j * 7 + 7 ≤ _
    omega
  refine Ow.storeN (vs := wkc w') hd hx hy rfl rfl pk0 (Nat.ble_eq_true_of_le hl) ?_
  have e : putL (q.cs ++ (tv.v :: .pointer (some ⟨rb, 0, none⟩) :: W.flatMap wkc)) (0 + 13 + j * 7) (wkc w') = q.cs ++ (tv.v :: .pointer (some ⟨rb, 0, none⟩) :: (W.set j w').flatMap wkc) := by
    have e1 : q.cs ++ (tv.v :: .pointer (some ⟨rb, 0, none⟩) :: W.flatMap wkc) = (q.cs ++ (tv.v :: .pointer (some ⟨rb, 0, none⟩) :: (W.take j).flatMap wkc)) ++ (wkc W[j] ++ (W.drop (j + 1)).flatMap wkc) := by
      rw [flat_split (f := wkc) W j hj]; simp only [List.append_assoc, List.cons_append]
    have e2 : 0 + 13 + j * 7 = (q.cs ++ (tv.v :: .pointer (some ⟨rb, 0, none⟩) :: (W.take j).flatMap wkc)).length := by
      have : ((W.take j).flatMap wkc).length = j * 7 := by rw [flat_len (f := wkc), List.length_take, Nat.min_eq_left (by omega)]
      simp only [List.length_append, List.length_cons, List.length_nil, this]
      omega
    rw [e1, e2, putL_mid (wkc w') _ (wkc W[j]) _ rfl, flat_set (f := wkc) W j w' hj]
    simp only [List.append_assoc, List.cons_append]
  rw [e]
  exact Ow.ent (Ent.trans (Ent.of_eq (by unfold gcl; ac_rfl)) (Ent.left (gpW_mk g q rb ((W.set j w').flatMap wkc) O G T tv))) h
end
def gph (g : Nat) (q : Cfg) (s : GS SV Nat) : HP := Sl.ex fun y : Nat × List Wk => Sl.lift (y.2.length = 4 ∧ ∀ j p, j < 4 → s.T[j]! = some p → y.2[j]! = p.2.w) * gpW g q y.1 (y.2.flatMap wkc) s.O s.G (s.T.map sltO)
theorem gph_ex (g : Nat) (q : Cfg) (s : GS SV Nat) : gph g q s = Sl.ex fun y : Nat × List Wk => Sl.lift (y.2.length = 4 ∧ ∀ j p, j < 4 → s.T[j]! = some p → y.2[j]! = p.2.w) * gpW g q y.1 (y.2.flatMap wkc) s.O s.G (s.T.map sltO) := rfl
theorem gph_mk (g : Nat) (q : Cfg) (s : GS SV Nat) {rb : Nat} {W : List Wk} {O : List (Obj SV)} {G : List Int} {T : List Slt} (hO : s.O = O) (hG : s.G = G) (hT : s.T.map sltO = T) (hl : W.length = 4) (hW : ∀ j p, j < 4 → s.T[j]! = some p → W[j]! = p.2.w) : Ent (gpW g q rb (W.flatMap wkc) O G T) (gph g q s) := by
  subst hO hG hT
  exact Ent.trans (Ent.lift (p := W.length = 4 ∧ ∀ j p, j < 4 → s.T[j]! = some p → W[j]! = p.2.w) ⟨hl, hW⟩) (Ent.ex (A := fun y : Nat × List Wk => Sl.lift (y.2.length = 4 ∧ ∀ j p, j < 4 → s.T[j]! = some p → y.2[j]! = p.2.w) * gpW g q y.1 (y.2.flatMap wkc) s.O s.G (s.T.map sltO)) (rb, W))
section
variable {A : HP} {kb ko kc : Nat} (hK : Kinds A kb ko kc) (g : Nat) (q : Cfg) (s : GS SV Nat) (x : It) (full : Bool)
theorem set_get {γ : Type} [Inhabited γ] (l : List γ) (i j : Nat) (a : γ) (hj : j < l.length) : (l.set i a)[j]! = if i = j then a else l[j]! := by
  rw [getElem!_pos (l.set i a) j (by simpa using hj), List.getElem_set, getElem!_pos l j hj]
theorem hW_set {T : List (Option (Nat × ThS))} {W : List Wk} (hT : T.length = 4) (hWl : W.length = 4) (hW : ∀ j p, j < 4 → T[j]! = some p → W[j]! = p.2.w) (i : Nat) (p0 : Nat × ThS) : ∀ j p, j < 4 → (T.set i (some p0))[j]! = some p → (W.set i p0.2.w)[j]! = p.2.w := fun j p hj h => by
  rw [set_get _ _ _ _ (by omega)] at h
  rw [set_get _ _ _ _ (by omega)]
  by_cases e : i = j
  · rw [if_pos e] at h ⊢; cases h; rfl
  · rw [if_neg e] at h ⊢; exact hW j p hj h
theorem hW_none {T : List (Option (Nat × ThS))} {W : List Wk} (hT : T.length = 4) (hW : ∀ j p, j < 4 → T[j]! = some p → W[j]! = p.2.w) (i : Nat) : ∀ j p, j < 4 → (T.set i none)[j]! = some p → W[j]! = p.2.w := fun j p hj h => by
  rw [set_get _ _ _ _ (by omega)] at h
  by_cases e : i = j
  · rw [if_pos e] at h; cases h
  · rw [if_neg e] at h; exact hW j p hj h
theorem thOf_none {s : GS SV Nat} {t : Int} (h : thOf s t = none) : ¬ (0 ≤ t ∧ t < 4) ∨ (0 ≤ t ∧ t < 4) ∧ s.T[t.toNat]! = none := by
  unfold thOf at h
  split at h
  · rename_i h1; exact .inr ⟨h1, h⟩
  · rename_i h1; exact .inl h1
theorem thOf_some {s : GS SV Nat} {t : Int} {p : Nat × ThS} (h : thOf s t = some p) : (0 ≤ t ∧ t < 4) ∧ s.T[t.toNat]! = some p := by
  unfold thOf at h
  split at h
  · rename_i h1; exact ⟨h1, h⟩
  · cases h
theorem hlv_n {rb : Nat} {W : List Value} (hT : s.T.length = 4) (h : thOf s x.t = none) : Fn Tryd.prog 24 [.pointer (some ⟨rb, 0, none⟩), vi x.t] (gpW g q rb W s.O s.G (s.T.map sltO)) Unit (fun _ => .bool false) (fun _ => gpW g q rb W s.O s.G (s.T.map sltO)) := by
  rcases thOf_none h with h | ⟨h, hn⟩
  · exact (Live_f rb q.threads q.regs q.stack s.G (s.T.map sltO) x.t h).inGp (G' := fun _ => s.G) (T' := fun _ => s.T.map sltO)
  · exact (Live_n rb q.threads q.regs q.stack s.G (s.T.map sltO) (by simpa using hT) x.t h (by rw [sltO_at (by omega), hn]; rfl)).inGp (G' := fun _ => s.G) (T' := fun _ => s.T.map sltO)
theorem hlv_t {rb : Nat} {W : List Value} (hT : s.T.length = 4) {p : Nat × ThS} (h : thOf s x.t = some p) : Fn Tryd.prog 24 [.pointer (some ⟨rb, 0, none⟩), vi x.t] (gpW g q rb W s.O s.G (s.T.map sltO)) Unit (fun _ => .bool true) (fun _ => gpW g q rb W s.O s.G (s.T.map sltO)) := by
  obtain ⟨h, hn⟩ := thOf_some h
  exact (Live_t rb q.threads q.regs q.stack s.G (s.T.map sltO) (by simpa using hT) x.t h (by rw [sltO_at (by omega), hn]; rfl)).inGp (G' := fun _ => s.G) (T' := fun _ => s.T.map sltO)
include hK in
set_option maxHeartbeats 16000000 in
theorem Do_fn (hok : GsOk q s) (hO : s.O.length ≤ 900000) (hq8 : QOk q) :
    Fn Tryd.prog 10 [.pointer (some ⟨g, 0, none⟩), .agg x.cs.toArray, .bool full] (gph g q s * A) (SV × Nat) (fun p => ansV (doG p.1 p.2 q s x full).2.1 (doG p.1 p.2 q s x full).2.2) (fun p => gph g q (doG p.1 p.2 q s x full).1 * A) := by
  have hT := hok.tl
  have hq1 := hq8.th
  have hq2 := hq8.rg
  have hq3 := hq8.st
  by_cases hk2 : x.k = 2
  · by_cases hc : (0 ≤ x.t ∧ x.t < q.threads) ∧ (thOf s x.t).isNone
    · have hdo : ∀ p : SV × Nat, doG p.1 p.2 q s x full = ({ s with T := s.T.set x.t.toNat (some (p.2, ⟨List.replicate q.regs.toNat 0, [], wk0⟩)) }, 0, 0) := fun p => by unfold doG; rw [if_pos hk2, if_pos hc]
      simp only [hdo]
      have hn : s.T[x.t.toNat]! = none := by
        rcases thOf_none (Option.isNone_iff_eq_none.1 hc.2) with h | h
        · omega
        · exact h.2
      have hsp : ∀ rb W, Fn Tryd.prog 23 [.pointer (some ⟨rb, 0, none⟩), vi x.t] (gpW g q rb W s.O s.G (s.T.map sltO)) Nat (fun _ => vi 0) (fun nb => gpW g q rb W s.O s.G ((s.T.map sltO).set x.t.toNat (some (nb, List.replicate q.regs.toNat 0, [])))) := fun rb W =>
        (Spawn_t rb q.threads q.regs q.stack s.G (s.T.map sltO) (by simpa using hT) (by omega) (by omega) (by omega) x.t hc.1 (by rw [sltO_at (by omega), hn]; rfl)).inGp (G' := fun _ => s.G) (T' := fun nb => (s.T.map sltO).set x.t.toNat (some (nb, List.replicate q.regs.toNat 0, [])))
      (refine Fn.of Tryd.func10 rfl (by kernel_rfl) Tryd.ntmps10 rfl (fun F => ?_))
      ((refine Cw.heq (by simp only [star_assoc, emp_star, star_emp]; exact rfl) ?_); refine Cw.opn (gph_ex g q s) (fun y => ?_); refine Cw.heq (star_assoc _ _ _) ?_; refine Cw.lift (fun hy => ?_); obtain ⟨rb, W⟩ := y; obtain ⟨hWl, hW⟩ := hy; dsimp only at hWl hW ⊢)
      have hsp := hsp rb (W.flatMap wkc)
      (repeat' (first | (refine Ow.is ?_; (first | refine Ow.pu rfl (Pu.build (ps := [(0, .tmp 106), (1, .const (vi 1))]) (vs := [.agg x.cs.toArray, vi 1]) (cs := wkc ⟨x, 1⟩) evA (fun w => by kernel_rfl)) ?_ | refine Ow.pu rfl (Pu.fld rfl) ?_ | refine Ow.nil ?_ | refine Ow.pu rfl (Pu.assign rfl) ?_ | refine Ow.pu rfl (Pu.fld rfl) ?_ | (refine Ow.kLoad ?_; (first | refine Ow.pu rfl (Pu.loadN (a := ⟨g, 0 + 13 + x.t.toNat * 7 + 0, none⟩) (vs := w.it.cs) rfl pkA hit rfl) ?_ | refine Ow.pu rfl (Pu.load (a := ⟨g, 0 + 13 + x.t.toNat * 7 + 6, none⟩) rfl pkA hph) ?_ | refine Ow.pu rfl (Pu.load (a := ⟨g, 0 + 12, none⟩) rfl pkA (gpW_rb g q rb _ _ _ _)) ?_ | refine Ow.pu rfl (Pu.load_cl rfl pkA rfl) ?_ | refine Ow.pu rfl (Pu.loadN_cl rfl pkA rfl rfl) ?_)) | (refine Ow.kBin ?_; (first | (refine Ow.b_eql ?_; (first | refine Ow.pu rfl (Pu.eq_t rfl rfl roA) ?_ | refine Ow.pu rfl (Pu.eq_f rfl rfl odA) ?_)))) | (refine Ow.kStore ?_; (first | refine Ow.store_w (g := g) (q := q) (rb := rb) (O := _) (G := _) (T := _) (W := W) (j := x.t.toNat) ⟨x, 1⟩ (by omega) rfl rfl rfl pkA ?_ | refine Ow.store (a := ⟨g, 0 + 13 + x.t.toNat * 7 + 6, none⟩) rfl rfl rfl rfl pkA hw2 ?_ | refine Ow.storeN rfl rfl rfl rfl rfl pkA rfl ?_)) | refine Ow.alloc rfl (fun bx => ?_) | refine Ow.box rfl rfl rfl (fun bx => ?_))) | (refine Cw.is ?_; (first | refine Cw.seq ?_ | refine Cw.region ?_ | refine Cw.cond_t rfl rfl ?_ | refine Cw.cond_f rfl rfl ?_ | refine Cw.block ?_ | refine Cw.ret ?_ | refine Cw.skip ?_)) | (first | refine thenQ_n ?_ | refine thenQ_r ?_ | refine blockQ_n ?_ | refine blockQ_r ?_)))
      (refine Cw.drawF2 (gpW _ _ _ _ _ _ _) (cl _ x.cs) 6 [(0, false), (1, false), (2, false), (3, false), (4, false), (5, false), (6, true), (7, false), (8, true)] pkA pkA mixed (by kernel_rfl) ?_; (iterate 6 ((first | refine DwF.q rfl rfl (by kernel_rfl) trivial (by (first | exact Pu.move rfl | exact Pu.assign rfl | exact Pu.fld rfl | exact Pu.nilCheck rfl | exact Pu.build (ps := []) (vs := []) (cs := [vi 0, vi 0, vi 0, vi 0, vi 0, vi 0, vi 0]) trivial (fun w => by kernel_rfl) | (apply Pu.kLoad; (first | exact Pu.loadN (a := ⟨g, 0 + 13 + x.t.toNat * 7 + 0, none⟩) (vs := w.it.cs) rfl pkA hit rfl | exact Pu.load (a := ⟨g, 0 + 13 + x.t.toNat * 7 + 6, none⟩) rfl pkA hph | exact Pu.load (a := ⟨g, 0 + 12, none⟩) rfl pkA (gpW_rb g q rb _ _ _ _) | exact Pu.load_cl rfl pkA rfl | exact Pu.loadN_cl rfl pkA rfl rfl)) | (apply Pu.kIdx; (first | exact Pu.idxA_b rfl rfl (by omega) | exact Pu.idxA_b rfl rfl (by omega))) | (apply Pu.kUn; (first | exact Pu.not rfl)))) ?_ | refine DwF.q rfl rfl (by kernel_rfl) ⟨_, _, rfl, rfl, rfl⟩ (by (first | exact Pu.move rfl | exact Pu.assign rfl | exact Pu.fld rfl | exact Pu.nilCheck rfl | exact Pu.build (ps := []) (vs := []) (cs := [vi 0, vi 0, vi 0, vi 0, vi 0, vi 0, vi 0]) trivial (fun w => by kernel_rfl) | (apply Pu.kLoad; (first | exact Pu.loadN (a := ⟨g, 0 + 13 + x.t.toNat * 7 + 0, none⟩) (vs := w.it.cs) rfl pkA hit rfl | exact Pu.load (a := ⟨g, 0 + 13 + x.t.toNat * 7 + 6, none⟩) rfl pkA hph | exact Pu.load (a := ⟨g, 0 + 12, none⟩) rfl pkA (gpW_rb g q rb _ _ _ _) | exact Pu.load_cl rfl pkA rfl | exact Pu.loadN_cl rfl pkA rfl rfl)) | (apply Pu.kIdx; (first | exact Pu.idxA_b rfl rfl (by omega) | exact Pu.idxA_b rfl rfl (by omega))) | (apply Pu.kUn; (first | exact Pu.not rfl)))) ?_))); refine DwF.b rfl (by first | exact trivial | exact ⟨_, _, rfl, rfl, rfl⟩) rfl ?_; refine Ow.heq (star_assoc _ _ _) ?_; refine Ow.callE evA pkA rfl hsp (fun nb => ?_); refine Ow.nil ?_; refine loudF.go ?_; ((first | refine DwF.f rfl rfl rfl trivial (by (first | exact Pu.move rfl | exact Pu.assign rfl | exact Pu.fld rfl | exact Pu.nilCheck rfl | exact Pu.build (ps := []) (vs := []) (cs := [vi 0, vi 0, vi 0, vi 0, vi 0, vi 0, vi 0]) trivial (fun w => by kernel_rfl) | (apply Pu.kLoad; (first | exact Pu.loadN (a := ⟨g, 0 + 13 + x.t.toNat * 7 + 0, none⟩) (vs := w.it.cs) rfl pkA hit rfl | exact Pu.load (a := ⟨g, 0 + 13 + x.t.toNat * 7 + 6, none⟩) rfl pkA hph | exact Pu.load (a := ⟨g, 0 + 12, none⟩) rfl pkA (gpW_rb g q rb _ _ _ _) | exact Pu.load_cl rfl pkA rfl | exact Pu.loadN_cl rfl pkA rfl rfl)) | (apply Pu.kIdx; (first | exact Pu.idxA_b rfl rfl (by omega) | exact Pu.idxA_b rfl rfl (by omega))) | (apply Pu.kUn; (first | exact Pu.not rfl)))) ?_ | refine DwF.f rfl rfl rfl ⟨_, _, rfl, rfl, rfl⟩ (by (first | exact Pu.move rfl | exact Pu.assign rfl | exact Pu.fld rfl | exact Pu.nilCheck rfl | exact Pu.build (ps := []) (vs := []) (cs := [vi 0, vi 0, vi 0, vi 0, vi 0, vi 0, vi 0]) trivial (fun w => by kernel_rfl) | (apply Pu.kLoad; (first | exact Pu.loadN (a := ⟨g, 0 + 13 + x.t.toNat * 7 + 0, none⟩) (vs := w.it.cs) rfl pkA hit rfl | exact Pu.load (a := ⟨g, 0 + 13 + x.t.toNat * 7 + 6, none⟩) rfl pkA hph | exact Pu.load (a := ⟨g, 0 + 12, none⟩) rfl pkA (gpW_rb g q rb _ _ _ _) | exact Pu.load_cl rfl pkA rfl | exact Pu.loadN_cl rfl pkA rfl rfl)) | (apply Pu.kIdx; (first | exact Pu.idxA_b rfl rfl (by omega) | exact Pu.idxA_b rfl rfl (by omega))) | (apply Pu.kUn; (first | exact Pu.not rfl)))) ?_)); refine DwF.a rfl (by first | exact trivial | exact ⟨_, _, rfl, rfl, rfl⟩) ?_; refine Ow.store_cl rfl rfl rfl (by (first | rfl | assumption | exact Subtype.property _)) pkA rfl ?_; refine Ow.nil ?_; refine loudF.go ?_; refine DwF.nil ?_)
      (repeat' (first | (refine Ow.is ?_; (first | refine Ow.pu rfl (Pu.build (ps := [(0, .tmp 106), (1, .const (vi 1))]) (vs := [.agg x.cs.toArray, vi 1]) (cs := wkc ⟨x, 1⟩) evA (fun w => by kernel_rfl)) ?_ | refine Ow.pu rfl (Pu.fld rfl) ?_ | refine Ow.nil ?_ | refine Ow.pu rfl (Pu.fld rfl) ?_ | (refine Ow.kLoad ?_; (first | refine Ow.pu rfl (Pu.loadN (a := ⟨g, 0 + 13 + x.t.toNat * 7 + 0, none⟩) (vs := w.it.cs) rfl pkA hit rfl) ?_ | refine Ow.pu rfl (Pu.load (a := ⟨g, 0 + 13 + x.t.toNat * 7 + 6, none⟩) rfl pkA hph) ?_ | refine Ow.pu rfl (Pu.load (a := ⟨g, 0 + 12, none⟩) rfl pkA (gpW_rb g q rb _ _ _ _)) ?_ | refine Ow.pu rfl (Pu.load_cl rfl pkA rfl) ?_)) | (refine Ow.kBin ?_; (first | (refine Ow.b_eql ?_; (first | refine Ow.pu rfl (Pu.eq_t rfl rfl roA) ?_ | refine Ow.pu rfl (Pu.eq_f rfl rfl odA) ?_)))))) | (refine Cw.is ?_; (first | refine Cw.seq ?_ | refine Cw.region ?_ | refine Cw.cond_t rfl rfl ?_ | refine Cw.cond_f rfl rfl ?_ | refine Cw.block ?_ | refine Cw.ret ?_ | refine Cw.skip ?_)) | (first | refine thenQ_n ?_ | refine thenQ_r ?_ | refine blockQ_n ?_ | refine blockQ_r ?_)))
      (refine Cw.draw1 (cl _ x.cs) false 0 [(0, false), (1, false), (2, false), (3, false), (4, false), (5, false), (6, false), (7, true)] pkA mixed (by kernel_rfl) ?_; (repeat (first | refine Dw.q rfl rfl trivial (by (first | exact Pu.move rfl | exact Pu.assign rfl | exact Pu.fld rfl | exact Pu.nilCheck rfl | exact Pu.build (ps := []) (vs := []) (cs := [vi 0, vi 0, vi 0, vi 0, vi 0, vi 0, vi 0]) trivial (fun w => by kernel_rfl) | (apply Pu.kLoad; (first | exact Pu.loadN (a := ⟨g, 0 + 13 + x.t.toNat * 7 + 0, none⟩) (vs := w.it.cs) rfl pkA hit rfl | exact Pu.load (a := ⟨g, 0 + 13 + x.t.toNat * 7 + 6, none⟩) rfl pkA hph | exact Pu.load (a := ⟨g, 0 + 12, none⟩) rfl pkA (gpW_rb g q rb _ _ _ _) | exact Pu.load_cl rfl pkA rfl | exact Pu.loadN_cl rfl pkA rfl rfl)) | (apply Pu.kIdx; (first | exact Pu.idxA_b rfl rfl (by omega) | exact Pu.idxA_b rfl rfl (by omega))) | (apply Pu.kUn; (first | exact Pu.not rfl)))) ?_ | refine Dw.q rfl rfl ⟨_, _, rfl, rfl, rfl⟩ (by (first | exact Pu.move rfl | exact Pu.assign rfl | exact Pu.fld rfl | exact Pu.nilCheck rfl | exact Pu.build (ps := []) (vs := []) (cs := [vi 0, vi 0, vi 0, vi 0, vi 0, vi 0, vi 0]) trivial (fun w => by kernel_rfl) | (apply Pu.kLoad; (first | exact Pu.loadN (a := ⟨g, 0 + 13 + x.t.toNat * 7 + 0, none⟩) (vs := w.it.cs) rfl pkA hit rfl | exact Pu.load (a := ⟨g, 0 + 13 + x.t.toNat * 7 + 6, none⟩) rfl pkA hph | exact Pu.load (a := ⟨g, 0 + 12, none⟩) rfl pkA (gpW_rb g q rb _ _ _ _) | exact Pu.load_cl rfl pkA rfl | exact Pu.loadN_cl rfl pkA rfl rfl)) | (apply Pu.kIdx; (first | exact Pu.idxA_b rfl rfl (by omega) | exact Pu.idxA_b rfl rfl (by omega))) | (apply Pu.kUn; (first | exact Pu.not rfl)))) ?_)); refine Dw.l rfl (by first | exact trivial | exact ⟨_, _, rfl, rfl, rfl⟩) ?_; refine Ow.store_w (g := g) (q := q) (rb := rb) (O := _) (G := _) (T := _) (W := W) (j := x.t.toNat) wk0 (by omega) rfl rfl rfl pkA ?_; refine Ow.nil ?_; refine loudQ.go pkA ?_; refine Dw.nil ?_ rfl)
      (repeat' (first | (refine Ow.is ?_; (first | refine Ow.pu rfl (Pu.build (ps := [(0, .tmp 106), (1, .const (vi 1))]) (vs := [.agg x.cs.toArray, vi 1]) (cs := wkc ⟨x, 1⟩) evA (fun w => by kernel_rfl)) ?_ | refine Ow.nil ?_ | (refine Ow.kLoad ?_; (first | refine Ow.pu rfl (Pu.loadN (a := ⟨g, 0 + 13 + x.t.toNat * 7 + 0, none⟩) (vs := w.it.cs) rfl pkA hit rfl) ?_ | refine Ow.pu rfl (Pu.load (a := ⟨g, 0 + 13 + x.t.toNat * 7 + 6, none⟩) rfl pkA hph) ?_ | refine Ow.pu rfl (Pu.load (a := ⟨g, 0 + 12, none⟩) rfl pkA (gpW_rb g q rb _ _ _ _)) ?_ | refine Ow.pu rfl (Pu.loadN_cl rfl pkA rfl rfl) ?_)) | (refine Ow.kStore ?_; (first | refine Ow.store_w (g := g) (q := q) (rb := rb) (O := _) (G := _) (T := _) (W := W) (j := x.t.toNat) ⟨x, 1⟩ (by omega) rfl rfl rfl pkA ?_ | refine Ow.store (a := ⟨g, 0 + 13 + x.t.toNat * 7 + 6, none⟩) rfl rfl rfl rfl pkA hw2 ?_ | refine Ow.storeN rfl rfl rfl rfl rfl pkA rfl ?_)))) | (refine Cw.is ?_; (first | refine Cw.seq ?_ | refine Cw.region ?_ | refine Cw.cond_t rfl rfl ?_ | refine Cw.cond_f rfl rfl ?_ | refine Cw.block ?_ | refine Cw.ret ?_ | refine Cw.skip ?_)) | (first | refine thenQ_n ?_ | refine thenQ_r ?_ | refine blockQ_n ?_ | refine blockQ_r ?_)))
      refine retQ_cN (default, nb) Tryd.results10 rfl pkA rfl rfl rfl ?_
      refine Ent.trans ?_ (Ent.left (Ent.left (gph_mk g q { s with T := s.T.set x.t.toNat (some (nb, ⟨List.replicate q.regs.toNat 0, [], wk0⟩)) } (rb := rb) (W := W.set x.t.toNat wk0) (O := s.O) (G := s.G) (T := (s.T.map sltO).set x.t.toNat (some (nb, List.replicate q.regs.toNat 0, []))) rfl rfl (by rw [List.map_set]; rfl) (by simpa using hWl) (hW_set hT hWl hW x.t.toNat (nb, ⟨List.replicate q.regs.toNat 0, [], wk0⟩)))))
      ((try simp only [star_assoc]); (repeat (apply Ent.pk; exact pkA)); first | exact Ent.fin pkA | exact Ent.refl _)
    · have hdo : ∀ p : SV × Nat, doG p.1 p.2 q s x full = (s, 2, 0) := fun p => by unfold doG; rw [if_pos hk2, if_neg hc]
      simp only [hdo]
      have hsp : ∀ rb W, Fn Tryd.prog 23 [.pointer (some ⟨rb, 0, none⟩), vi x.t] (gpW g q rb W s.O s.G (s.T.map sltO)) Unit (fun _ => vi 2) (fun nb => gpW g q rb W s.O s.G (s.T.map sltO)) := fun rb W => by
        by_cases h1 : 0 ≤ x.t ∧ x.t < q.threads
        · cases hth : thOf s x.t with
          | none => exact (hc ⟨h1, by rw [hth]; rfl⟩).elim
          | some p =>
            obtain ⟨h, hn⟩ := thOf_some hth
            exact (Spawn_n rb q.threads q.regs q.stack s.G (s.T.map sltO) (by simpa using hT) x.t h (by rw [sltO_at (by omega), hn]; rfl)).inGp (G' := fun _ => s.G) (T' := fun _ => s.T.map sltO)
        · exact (Spawn_f rb q.threads q.regs q.stack s.G (s.T.map sltO) x.t h1).inGp (G' := fun _ => s.G) (T' := fun _ => s.T.map sltO)
      (refine Fn.of Tryd.func10 rfl (by kernel_rfl) Tryd.ntmps10 rfl (fun F => ?_))
      ((refine Cw.heq (by simp only [star_assoc, emp_star, star_emp]; exact rfl) ?_); refine Cw.opn (gph_ex g q s) (fun y => ?_); refine Cw.heq (star_assoc _ _ _) ?_; refine Cw.lift (fun hy => ?_); obtain ⟨rb, W⟩ := y; obtain ⟨hWl, hW⟩ := hy; dsimp only at hWl hW ⊢)
      have hsp := hsp rb (W.flatMap wkc)
      (repeat' (first | (refine Ow.is ?_; (first | refine Ow.pu rfl (Pu.build (ps := [(0, .tmp 106), (1, .const (vi 1))]) (vs := [.agg x.cs.toArray, vi 1]) (cs := wkc ⟨x, 1⟩) evA (fun w => by kernel_rfl)) ?_ | refine Ow.pu rfl (Pu.fld rfl) ?_ | refine Ow.nil ?_ | refine Ow.pu rfl (Pu.assign rfl) ?_ | refine Ow.pu rfl (Pu.fld rfl) ?_ | (refine Ow.kLoad ?_; (first | refine Ow.pu rfl (Pu.loadN (a := ⟨g, 0 + 13 + x.t.toNat * 7 + 0, none⟩) (vs := w.it.cs) rfl pkA hit rfl) ?_ | refine Ow.pu rfl (Pu.load (a := ⟨g, 0 + 13 + x.t.toNat * 7 + 6, none⟩) rfl pkA hph) ?_ | refine Ow.pu rfl (Pu.load (a := ⟨g, 0 + 12, none⟩) rfl pkA (gpW_rb g q rb _ _ _ _)) ?_ | refine Ow.pu rfl (Pu.load_cl rfl pkA rfl) ?_ | refine Ow.pu rfl (Pu.loadN_cl rfl pkA rfl rfl) ?_)) | (refine Ow.kBin ?_; (first | (refine Ow.b_eql ?_; (first | refine Ow.pu rfl (Pu.eq_t rfl rfl roA) ?_ | refine Ow.pu rfl (Pu.eq_f rfl rfl odA) ?_)))) | (refine Ow.kStore ?_; (first | refine Ow.store_w (g := g) (q := q) (rb := rb) (O := _) (G := _) (T := _) (W := W) (j := x.t.toNat) ⟨x, 1⟩ (by omega) rfl rfl rfl pkA ?_ | refine Ow.store (a := ⟨g, 0 + 13 + x.t.toNat * 7 + 6, none⟩) rfl rfl rfl rfl pkA hw2 ?_ | refine Ow.storeN rfl rfl rfl rfl rfl pkA rfl ?_)) | refine Ow.alloc rfl (fun bx => ?_) | refine Ow.box rfl rfl rfl (fun bx => ?_))) | (refine Cw.is ?_; (first | refine Cw.seq ?_ | refine Cw.region ?_ | refine Cw.cond_t rfl rfl ?_ | refine Cw.cond_f rfl rfl ?_ | refine Cw.block ?_ | refine Cw.ret ?_ | refine Cw.skip ?_)) | (first | refine thenQ_n ?_ | refine thenQ_r ?_ | refine blockQ_n ?_ | refine blockQ_r ?_)))
      (refine Cw.drawF2 (gpW _ _ _ _ _ _ _) (cl _ x.cs) 6 [(0, false), (1, false), (2, false), (3, false), (4, false), (5, false), (6, true), (7, false), (8, true)] pkA pkA mixed (by kernel_rfl) ?_; (iterate 6 ((first | refine DwF.q rfl rfl (by kernel_rfl) trivial (by (first | exact Pu.move rfl | exact Pu.assign rfl | exact Pu.fld rfl | exact Pu.nilCheck rfl | exact Pu.build (ps := []) (vs := []) (cs := [vi 0, vi 0, vi 0, vi 0, vi 0, vi 0, vi 0]) trivial (fun w => by kernel_rfl) | (apply Pu.kLoad; (first | exact Pu.loadN (a := ⟨g, 0 + 13 + x.t.toNat * 7 + 0, none⟩) (vs := w.it.cs) rfl pkA hit rfl | exact Pu.load (a := ⟨g, 0 + 13 + x.t.toNat * 7 + 6, none⟩) rfl pkA hph | exact Pu.load (a := ⟨g, 0 + 12, none⟩) rfl pkA (gpW_rb g q rb _ _ _ _) | exact Pu.load_cl rfl pkA rfl | exact Pu.loadN_cl rfl pkA rfl rfl)) | (apply Pu.kIdx; (first | exact Pu.idxA_b rfl rfl (by omega) | exact Pu.idxA_b rfl rfl (by omega))) | (apply Pu.kUn; (first | exact Pu.not rfl)))) ?_ | refine DwF.q rfl rfl (by kernel_rfl) ⟨_, _, rfl, rfl, rfl⟩ (by (first | exact Pu.move rfl | exact Pu.assign rfl | exact Pu.fld rfl | exact Pu.nilCheck rfl | exact Pu.build (ps := []) (vs := []) (cs := [vi 0, vi 0, vi 0, vi 0, vi 0, vi 0, vi 0]) trivial (fun w => by kernel_rfl) | (apply Pu.kLoad; (first | exact Pu.loadN (a := ⟨g, 0 + 13 + x.t.toNat * 7 + 0, none⟩) (vs := w.it.cs) rfl pkA hit rfl | exact Pu.load (a := ⟨g, 0 + 13 + x.t.toNat * 7 + 6, none⟩) rfl pkA hph | exact Pu.load (a := ⟨g, 0 + 12, none⟩) rfl pkA (gpW_rb g q rb _ _ _ _) | exact Pu.load_cl rfl pkA rfl | exact Pu.loadN_cl rfl pkA rfl rfl)) | (apply Pu.kIdx; (first | exact Pu.idxA_b rfl rfl (by omega) | exact Pu.idxA_b rfl rfl (by omega))) | (apply Pu.kUn; (first | exact Pu.not rfl)))) ?_))); refine DwF.b rfl (by first | exact trivial | exact ⟨_, _, rfl, rfl, rfl⟩) rfl ?_; refine Ow.heq (star_assoc _ _ _) ?_; refine Ow.callE evA pkA rfl hsp (fun nb => ?_); refine Ow.nil ?_; refine loudF.go ?_; ((first | refine DwF.f rfl rfl rfl trivial (by (first | exact Pu.move rfl | exact Pu.assign rfl | exact Pu.fld rfl | exact Pu.nilCheck rfl | exact Pu.build (ps := []) (vs := []) (cs := [vi 0, vi 0, vi 0, vi 0, vi 0, vi 0, vi 0]) trivial (fun w => by kernel_rfl) | (apply Pu.kLoad; (first | exact Pu.loadN (a := ⟨g, 0 + 13 + x.t.toNat * 7 + 0, none⟩) (vs := w.it.cs) rfl pkA hit rfl | exact Pu.load (a := ⟨g, 0 + 13 + x.t.toNat * 7 + 6, none⟩) rfl pkA hph | exact Pu.load (a := ⟨g, 0 + 12, none⟩) rfl pkA (gpW_rb g q rb _ _ _ _) | exact Pu.load_cl rfl pkA rfl | exact Pu.loadN_cl rfl pkA rfl rfl)) | (apply Pu.kIdx; (first | exact Pu.idxA_b rfl rfl (by omega) | exact Pu.idxA_b rfl rfl (by omega))) | (apply Pu.kUn; (first | exact Pu.not rfl)))) ?_ | refine DwF.f rfl rfl rfl ⟨_, _, rfl, rfl, rfl⟩ (by (first | exact Pu.move rfl | exact Pu.assign rfl | exact Pu.fld rfl | exact Pu.nilCheck rfl | exact Pu.build (ps := []) (vs := []) (cs := [vi 0, vi 0, vi 0, vi 0, vi 0, vi 0, vi 0]) trivial (fun w => by kernel_rfl) | (apply Pu.kLoad; (first | exact Pu.loadN (a := ⟨g, 0 + 13 + x.t.toNat * 7 + 0, none⟩) (vs := w.it.cs) rfl pkA hit rfl | exact Pu.load (a := ⟨g, 0 + 13 + x.t.toNat * 7 + 6, none⟩) rfl pkA hph | exact Pu.load (a := ⟨g, 0 + 12, none⟩) rfl pkA (gpW_rb g q rb _ _ _ _) | exact Pu.load_cl rfl pkA rfl | exact Pu.loadN_cl rfl pkA rfl rfl)) | (apply Pu.kIdx; (first | exact Pu.idxA_b rfl rfl (by omega) | exact Pu.idxA_b rfl rfl (by omega))) | (apply Pu.kUn; (first | exact Pu.not rfl)))) ?_)); refine DwF.a rfl (by first | exact trivial | exact ⟨_, _, rfl, rfl, rfl⟩) ?_; refine Ow.store_cl rfl rfl rfl (by (first | rfl | assumption | exact Subtype.property _)) pkA rfl ?_; refine Ow.nil ?_; refine loudF.go ?_; refine DwF.nil ?_)
      (repeat' (first | (refine Ow.is ?_; (first | refine Ow.pu rfl (Pu.build (ps := [(0, .tmp 106), (1, .const (vi 1))]) (vs := [.agg x.cs.toArray, vi 1]) (cs := wkc ⟨x, 1⟩) evA (fun w => by kernel_rfl)) ?_ | refine Ow.pu rfl (Pu.fld rfl) ?_ | refine Ow.nil ?_ | refine Ow.pu rfl (Pu.move rfl) ?_ | refine Ow.pu rfl (Pu.fld rfl) ?_ | refine Ow.pu rfl (Pu.nilCheck rfl) ?_ | (refine Ow.kLoad ?_; (first | refine Ow.pu rfl (Pu.loadN (a := ⟨g, 0 + 13 + x.t.toNat * 7 + 0, none⟩) (vs := w.it.cs) rfl pkA hit rfl) ?_ | refine Ow.pu rfl (Pu.load (a := ⟨g, 0 + 13 + x.t.toNat * 7 + 6, none⟩) rfl pkA hph) ?_ | refine Ow.pu rfl (Pu.load (a := ⟨g, 0 + 12, none⟩) rfl pkA (gpW_rb g q rb _ _ _ _)) ?_ | refine Ow.pu rfl (Pu.load_cl rfl pkA rfl) ?_ | refine Ow.pu rfl (Pu.loadN_cl rfl pkA rfl rfl) ?_)) | (refine Ow.kBin ?_; (first | (refine Ow.b_eql ?_; (first | refine Ow.pu rfl (Pu.eq_t rfl rfl roA) ?_ | refine Ow.pu rfl (Pu.eq_f rfl rfl odA) ?_)))) | (refine Ow.kStore ?_; (first | refine Ow.store_w (g := g) (q := q) (rb := rb) (O := _) (G := _) (T := _) (W := W) (j := x.t.toNat) ⟨x, 1⟩ (by omega) rfl rfl rfl pkA ?_ | refine Ow.store (a := ⟨g, 0 + 13 + x.t.toNat * 7 + 6, none⟩) rfl rfl rfl rfl pkA hw2 ?_ | refine Ow.storeN rfl rfl rfl rfl rfl pkA rfl ?_)))) | (refine Cw.is ?_; (first | refine Cw.seq ?_ | refine Cw.region ?_ | refine Cw.cond_t rfl rfl ?_ | refine Cw.cond_f rfl rfl ?_ | refine Cw.block ?_ | refine Cw.ret ?_ | refine Cw.skip ?_)) | (first | refine thenQ_n ?_ | refine thenQ_r ?_ | refine blockQ_n ?_ | refine blockQ_r ?_ | (refine loudQ.is ?_; first | refine loudQ.go pkA ?_ | refine loudQ.goE (by ac_rfl) ?_)) | (refine Dw.is ?_; (first | refine Dw.q rfl rfl trivial (by (first | exact Pu.move rfl | exact Pu.fld rfl | exact Pu.nilCheck rfl | exact Pu.build (ps := []) (vs := []) (cs := [vi 0, vi 0, vi 0, vi 0, vi 0, vi 0, vi 0]) trivial (fun w => by kernel_rfl) | (apply Pu.kLoad; (first | exact Pu.loadN (a := ⟨g, 0 + 13 + x.t.toNat * 7 + 0, none⟩) (vs := w.it.cs) rfl pkA hit rfl | exact Pu.load (a := ⟨g, 0 + 13 + x.t.toNat * 7 + 6, none⟩) rfl pkA hph | exact Pu.load (a := ⟨g, 0 + 12, none⟩) rfl pkA (gpW_rb g q rb _ _ _ _) | exact Pu.load_cl rfl pkA rfl | exact Pu.loadN_cl rfl pkA rfl rfl)) | (apply Pu.kIdx; (first | exact Pu.idxA_b rfl rfl (by omega) | exact Pu.idxA_b rfl rfl (by omega))))) ?_ | refine Dw.q rfl rfl ⟨_, _, rfl, rfl, rfl⟩ (by (first | exact Pu.move rfl | exact Pu.fld rfl | exact Pu.nilCheck rfl | exact Pu.build (ps := []) (vs := []) (cs := [vi 0, vi 0, vi 0, vi 0, vi 0, vi 0, vi 0]) trivial (fun w => by kernel_rfl) | (apply Pu.kLoad; (first | exact Pu.loadN (a := ⟨g, 0 + 13 + x.t.toNat * 7 + 0, none⟩) (vs := w.it.cs) rfl pkA hit rfl | exact Pu.load (a := ⟨g, 0 + 13 + x.t.toNat * 7 + 6, none⟩) rfl pkA hph | exact Pu.load (a := ⟨g, 0 + 12, none⟩) rfl pkA (gpW_rb g q rb _ _ _ _) | exact Pu.load_cl rfl pkA rfl | exact Pu.loadN_cl rfl pkA rfl rfl)) | (apply Pu.kIdx; (first | exact Pu.idxA_b rfl rfl (by omega) | exact Pu.idxA_b rfl rfl (by omega))))) ?_ | refine Dw.nilE ?_ rfl | refine Dw.lE rfl trivial ?_ | refine Dw.lE rfl ⟨_, _, rfl, rfl, rfl⟩ ?_))))
      refine retQ_cN default Tryd.results10 rfl pkA rfl rfl rfl ?_
      refine Ent.trans ?_ (Ent.left (Ent.left (gph_mk g q s (rb := rb) rfl rfl rfl hWl hW)))
      ((try simp only [star_assoc]); (repeat (apply Ent.pk; exact pkA)); first | exact Ent.fin pkA | exact Ent.refl _)
  by_cases hk : x.k = 0 ∨ x.k = 1 ∨ x.k = 3
  · cases hth : thOf s x.t with
    | none =>
      have hdo : ∀ p : SV × Nat, doG p.1 p.2 q s x full = (s, 2, 0) := fun p => by unfold doG; rw [if_neg hk2, if_pos hk, hth]
      simp only [hdo]
      have hlv := fun rb W => hlv_n g q s x (rb := rb) (W := W) hT hth
      rcases hk with hk | hk | hk
      all_goals (refine Fn.of Tryd.func10 rfl (by kernel_rfl) Tryd.ntmps10 rfl (fun F => ?_))
      all_goals ((refine Cw.heq (by simp only [star_assoc, emp_star, star_emp]; exact rfl) ?_); refine Cw.opn (gph_ex g q s) (fun y => ?_); refine Cw.heq (star_assoc _ _ _) ?_; refine Cw.lift (fun hy => ?_); obtain ⟨rb, W⟩ := y; obtain ⟨hWl, hW⟩ := hy; dsimp only at hWl hW ⊢)
      all_goals have hlv := hlv rb (W.flatMap wkc)
      all_goals (repeat' (first | (refine Ow.is ?_; (first | refine Ow.pu rfl (Pu.build (ps := [(0, .tmp 106), (1, .const (vi 1))]) (vs := [.agg x.cs.toArray, vi 1]) (cs := wkc ⟨x, 1⟩) evA (fun w => by kernel_rfl)) ?_ | refine Ow.pu rfl (Pu.fld rfl) ?_ | refine Ow.nil ?_ | refine Ow.pu rfl (Pu.move rfl) ?_ | refine Ow.pu rfl (Pu.assign rfl) ?_ | refine Ow.pu rfl (Pu.fld rfl) ?_ | refine Ow.pu rfl (Pu.nilCheck rfl) ?_ | (refine Ow.kLoad ?_; (first | refine Ow.pu rfl (Pu.loadN (a := ⟨g, 0 + 13 + x.t.toNat * 7 + 0, none⟩) (vs := w.it.cs) rfl pkA hit rfl) ?_ | refine Ow.pu rfl (Pu.load (a := ⟨g, 0 + 13 + x.t.toNat * 7 + 6, none⟩) rfl pkA hph) ?_ | refine Ow.pu rfl (Pu.load (a := ⟨g, 0 + 12, none⟩) rfl pkA (gpW_rb g q rb _ _ _ _)) ?_ | refine Ow.pu rfl (Pu.load_cl rfl pkA rfl) ?_ | refine Ow.pu rfl (Pu.loadN_cl rfl pkA rfl rfl) ?_)) | (refine Ow.kBin ?_; (first | (refine Ow.b_eql ?_; (first | refine Ow.pu rfl (Pu.eq_t rfl rfl roA) ?_ | refine Ow.pu rfl (Pu.eq_f rfl rfl odA) ?_)))) | (refine Ow.kUn ?_; (first | refine Ow.pu rfl (Pu.not rfl) ?_)) | (refine Ow.kStore ?_; (first | refine Ow.store_w (g := g) (q := q) (rb := rb) (O := _) (G := _) (T := _) (W := W) (j := x.t.toNat) ⟨x, 1⟩ (by omega) rfl rfl rfl pkA ?_ | refine Ow.store (a := ⟨g, 0 + 13 + x.t.toNat * 7 + 6, none⟩) rfl rfl rfl rfl pkA hw2 ?_ | refine Ow.store_cl rfl rfl rfl (by (first | rfl | assumption | exact Subtype.property _)) pkA rfl ?_ | refine Ow.storeN rfl rfl rfl rfl rfl pkA rfl ?_)) | (refine Ow.kCall ?_; (first | refine Ow.callE evA pkA rfl hsp (fun _ => ?_) | refine Ow.callE evA pkA rfl hlv (fun _ => ?_) | fail)) | refine Ow.alloc rfl (fun bx => ?_) | refine Ow.box rfl rfl rfl (fun bx => ?_))) | (refine Cw.is ?_; (first | refine Cw.seq ?_ | refine Cw.region ?_ | refine Cw.cond_t rfl rfl ?_ | refine Cw.cond_f rfl rfl ?_ | refine Cw.block ?_ | refine Cw.ret ?_ | refine Cw.skip ?_ | refine Cw.drawL (n := 126) (id := 12) [(0, false), (1, false), (2, false), (3, false), (4, false), (5, false), (6, true), (7, false)] mixed (by kernel_rfl) ?_)) | (first | refine thenQ_n ?_ | refine thenQ_r ?_ | refine blockQ_n ?_ | refine blockQ_r ?_ | (refine loudQ.is ?_; first | refine loudQ.go pkA ?_ | refine loudQ.goE (by ac_rfl) ?_)) | (refine Dw.is ?_; (first | refine Dw.q rfl rfl trivial (by (first | exact Pu.move rfl | exact Pu.assign rfl | exact Pu.fld rfl | exact Pu.nilCheck rfl | exact Pu.build (ps := []) (vs := []) (cs := [vi 0, vi 0, vi 0, vi 0, vi 0, vi 0, vi 0]) trivial (fun w => by kernel_rfl) | (apply Pu.kLoad; (first | exact Pu.loadN (a := ⟨g, 0 + 13 + x.t.toNat * 7 + 0, none⟩) (vs := w.it.cs) rfl pkA hit rfl | exact Pu.load (a := ⟨g, 0 + 13 + x.t.toNat * 7 + 6, none⟩) rfl pkA hph | exact Pu.load (a := ⟨g, 0 + 12, none⟩) rfl pkA (gpW_rb g q rb _ _ _ _) | exact Pu.load_cl rfl pkA rfl | exact Pu.loadN_cl rfl pkA rfl rfl)) | (apply Pu.kIdx; (first | exact Pu.idxA_b rfl rfl (by omega) | exact Pu.idxA_b rfl rfl (by omega))) | (apply Pu.kUn; (first | exact Pu.not rfl)))) ?_ | refine Dw.q rfl rfl ⟨_, _, rfl, rfl, rfl⟩ (by (first | exact Pu.move rfl | exact Pu.assign rfl | exact Pu.fld rfl | exact Pu.nilCheck rfl | exact Pu.build (ps := []) (vs := []) (cs := [vi 0, vi 0, vi 0, vi 0, vi 0, vi 0, vi 0]) trivial (fun w => by kernel_rfl) | (apply Pu.kLoad; (first | exact Pu.loadN (a := ⟨g, 0 + 13 + x.t.toNat * 7 + 0, none⟩) (vs := w.it.cs) rfl pkA hit rfl | exact Pu.load (a := ⟨g, 0 + 13 + x.t.toNat * 7 + 6, none⟩) rfl pkA hph | exact Pu.load (a := ⟨g, 0 + 12, none⟩) rfl pkA (gpW_rb g q rb _ _ _ _) | exact Pu.load_cl rfl pkA rfl | exact Pu.loadN_cl rfl pkA rfl rfl)) | (apply Pu.kIdx; (first | exact Pu.idxA_b rfl rfl (by omega) | exact Pu.idxA_b rfl rfl (by omega))) | (apply Pu.kUn; (first | exact Pu.not rfl)))) ?_ | refine Dw.nilE ?_ rfl | refine Dw.lE rfl trivial ?_ | refine Dw.lE rfl ⟨_, _, rfl, rfl, rfl⟩ ?_))))
      all_goals (refine retQ_cN default Tryd.results10 rfl pkA rfl rfl rfl ?_; refine Ent.trans ?_ (Ent.left (Ent.left (gph_mk g q s (rb := rb) rfl rfl rfl hWl hW))); ((try simp only [star_assoc]); (repeat (apply Ent.pk; exact pkA)); first | exact Ent.fin pkA | exact Ent.refl _))
    | some pt =>
      obtain ⟨c, th⟩ := pt
      obtain ⟨hx4, hst⟩ := thOf_some hth
      have hj4 : x.t.toNat < 4 := by omega
      obtain ⟨htk, htt, htx⟩ := hok.t x.t.toNat c th hj4 hst
      obtain ⟨w, hw⟩ : ∃ w, th.w = w := ⟨_, rfl⟩
      have hph3 := htk.ph
      rw [hw] at hph3 htx
      have hlv := fun rb W => hlv_t g q s x (rb := rb) (W := W) hT hth
      have hTm : ∀ w' : Wk, (s.T.set x.t.toNat (some (c, ⟨th.r, th.s, w'⟩))).map sltO = s.T.map sltO := fun w' => by
        rw [List.map_set]
        have h1 : x.t.toNat < (s.T.map sltO).length := by rw [List.length_map]; omega
        exact T_self (q := (c, th.r, th.s)) h1 (by rw [sltO_at (by omega), hst]; rfl)
      have hdo0 : ∀ p : SV × Nat, doG p.1 p.2 q s x full = if (x.k = 1 ∧ w.ph = 0) ∨ (x.k ≠ 1 ∧ w.ph ≠ 0) then (s, 3, 0)
          else if x.k = 3 then ({ s with T := s.T.set x.t.toNat none }, 0, 0)
          else if x.k = 0 then (if 0 ≤ x.c ∧ x.c < 13 then ({ s with T := s.T.set x.t.toNat (some (c, ⟨th.r, th.s, ⟨x, 1⟩⟩)) }, 0, 0) else (s, 1, 0))
          else if w.ph = 1 then
            (⟨(actR p.1 q s.O s.G th.r th.s w.it full).O, (actR p.1 q s.O s.G th.r th.s w.it full).G, s.T.set x.t.toNat (some (c, ⟨(actR p.1 q s.O s.G th.r th.s w.it full).r, (actR p.1 q s.O s.G th.r th.s w.it full).s, ⟨w.it, 2⟩⟩))⟩, (actR p.1 q s.O s.G th.r th.s w.it full).e, (actR p.1 q s.O s.G th.r th.s w.it full).v)
          else ({ s with T := s.T.set x.t.toNat (some (c, ⟨th.r, th.s, ⟨w.it, 0⟩⟩)) }, 0, 0) := fun p => by
        unfold doG; rw [if_neg hk2, if_pos hk, hth]; simp only [hw]
      by_cases hb : (x.k = 1 ∧ w.ph = 0) ∨ (x.k ≠ 1 ∧ w.ph ≠ 0)
      · have hdo : ∀ p : SV × Nat, doG p.1 p.2 q s x full = (s, 3, 0) := fun p => by rw [hdo0, if_pos hb]
        simp only [hdo]
        clear hdo0
        rcases (by omega : (x.k = 1 ∧ w.ph = 0) ∨ (x.k = 0 ∧ w.ph = 1) ∨ (x.k = 0 ∧ w.ph = 2) ∨ (x.k = 3 ∧ w.ph = 1) ∨ (x.k = 3 ∧ w.ph = 2)) with ⟨h1, h2⟩ | ⟨h1, h2⟩ | ⟨h1, h2⟩ | ⟨h1, h2⟩ | ⟨h1, h2⟩
        all_goals (refine Fn.of Tryd.func10 rfl (by kernel_rfl) Tryd.ntmps10 rfl (fun F => ?_))
        all_goals ((refine Cw.heq (by simp only [star_assoc, emp_star, star_emp]; exact rfl) ?_); refine Cw.opn (gph_ex g q s) (fun y => ?_); refine Cw.heq (star_assoc _ _ _) ?_; refine Cw.lift (fun hy => ?_); obtain ⟨rb, W⟩ := y; obtain ⟨hWl, hW⟩ := hy; dsimp only at hWl hW ⊢)
        all_goals have hlv := hlv rb (W.flatMap wkc)
        all_goals have hwW : W[x.t.toNat]! = w := by rw [hW x.t.toNat (c, th) hj4 hst]; exact hw
        all_goals have hph := gpW_ph g q rb s.O s.G (s.T.map sltO) (W := W) (j := x.t.toNat) (by omega) hwW
        all_goals (repeat' (first | (refine Ow.is ?_; (first | refine Ow.pu rfl (Pu.build (ps := [(0, .tmp 106), (1, .const (vi 1))]) (vs := [.agg x.cs.toArray, vi 1]) (cs := wkc ⟨x, 1⟩) evA (fun w => by kernel_rfl)) ?_ | refine Ow.pu rfl (Pu.fld rfl) ?_ | refine Ow.nil ?_ | refine Ow.pu rfl (Pu.move rfl) ?_ | refine Ow.pu rfl (Pu.assign rfl) ?_ | refine Ow.pu rfl (Pu.fld rfl) ?_ | refine Ow.pu rfl (Pu.nilCheck rfl) ?_ | (refine Ow.kGuard ?_; (first | refine Ow.guard_yes rfl rfl rfl ?_ | refine Ow.guard_no rfl rfl rfl rfl ?_)) | (refine Ow.kLoad ?_; (first | refine Ow.pu rfl (Pu.loadN (a := ⟨g, 0 + 13 + x.t.toNat * 7 + 0, none⟩) (vs := w.it.cs) rfl pkA hit rfl) ?_ | refine Ow.pu rfl (Pu.load (a := ⟨g, 0 + 13 + x.t.toNat * 7 + 6, none⟩) rfl pkA hph) ?_ | refine Ow.pu rfl (Pu.load (a := ⟨g, 0 + 12, none⟩) rfl pkA (gpW_rb g q rb _ _ _ _)) ?_ | refine Ow.pu rfl (Pu.load_cl rfl pkA rfl) ?_ | refine Ow.pu rfl (Pu.loadN_cl rfl pkA rfl rfl) ?_)) | (refine Ow.kBin ?_; (first | (refine Ow.b_eql ?_; (first | refine Ow.pu rfl (Pu.eq_t rfl rfl roA) ?_ | refine Ow.pu rfl (Pu.eq_f rfl rfl odA) ?_)) | (refine Ow.b_neq ?_; (first | refine Ow.pu rfl (Pu.ne_t rfl rfl odA) ?_ | refine Ow.pu rfl (Pu.ne_f rfl rfl roA) ?_)))) | (refine Ow.kPick ?_; (first | refine Ow.pu rfl (Pu.pick_t rfl rfl) ?_ | refine Ow.pu rfl (Pu.pick_f rfl rfl) ?_)) | (refine Ow.kUn ?_; (first | refine Ow.pu rfl (Pu.not rfl) ?_)) | (refine Ow.kStore ?_; (first | refine Ow.store_w (g := g) (q := q) (rb := rb) (O := _) (G := _) (T := _) (W := W) (j := x.t.toNat) ⟨x, 1⟩ (by omega) rfl rfl rfl pkA ?_ | refine Ow.store (a := ⟨g, 0 + 13 + x.t.toNat * 7 + 6, none⟩) rfl rfl rfl rfl pkA hw2 ?_ | refine Ow.store_cl rfl rfl rfl (by (first | rfl | assumption | exact Subtype.property _)) pkA rfl ?_ | refine Ow.storeN rfl rfl rfl rfl rfl pkA rfl ?_)) | (refine Ow.kCall ?_; (first | refine Ow.callE evA pkA rfl hsp (fun _ => ?_) | refine Ow.callE evA pkA rfl hlv (fun _ => ?_) | fail)) | refine Ow.alloc rfl (fun bx => ?_) | refine Ow.box rfl rfl rfl (fun bx => ?_))) | (refine Cw.is ?_; (first | refine Cw.seq ?_ | refine Cw.region ?_ | refine Cw.cond_t rfl rfl ?_ | refine Cw.cond_f rfl rfl ?_ | refine Cw.block ?_ | refine Cw.ret ?_ | refine Cw.skip ?_ | refine Cw.drawL (n := 126) (id := 12) [(0, false), (1, false), (2, false), (3, false), (4, false), (5, false), (6, true), (7, false)] mixed (by kernel_rfl) ?_ | refine Cw.drawL (n := 126) (id := 15) [(0, false), (1, false), (2, false), (3, false), (4, false), (5, false), (6, false)] mixed (by kernel_rfl) ?_)) | (first | refine thenQ_n ?_ | refine thenQ_r ?_ | refine blockQ_n ?_ | refine blockQ_r ?_ | (refine loudQ.is ?_; first | refine loudQ.go pkA ?_ | refine loudQ.goE (by ac_rfl) ?_)) | (refine Dw.is ?_; (first | refine Dw.q rfl rfl trivial (by (first | exact Pu.move rfl | exact Pu.assign rfl | exact Pu.fld rfl | exact Pu.nilCheck rfl | exact Pu.build (ps := []) (vs := []) (cs := [vi 0, vi 0, vi 0, vi 0, vi 0, vi 0, vi 0]) trivial (fun w => by kernel_rfl) | (apply Pu.kLoad; (first | exact Pu.loadN (a := ⟨g, 0 + 13 + x.t.toNat * 7 + 0, none⟩) (vs := w.it.cs) rfl pkA hit rfl | exact Pu.load (a := ⟨g, 0 + 13 + x.t.toNat * 7 + 6, none⟩) rfl pkA hph | exact Pu.load (a := ⟨g, 0 + 12, none⟩) rfl pkA (gpW_rb g q rb _ _ _ _) | exact Pu.load_cl rfl pkA rfl | exact Pu.loadN_cl rfl pkA rfl rfl)) | (apply Pu.kIdx; (first | exact Pu.idxA_b rfl rfl (by omega) | exact Pu.idxA_b rfl rfl (by omega))) | (apply Pu.kUn; (first | exact Pu.not rfl)))) ?_ | refine Dw.q rfl rfl ⟨_, _, rfl, rfl, rfl⟩ (by (first | exact Pu.move rfl | exact Pu.assign rfl | exact Pu.fld rfl | exact Pu.nilCheck rfl | exact Pu.build (ps := []) (vs := []) (cs := [vi 0, vi 0, vi 0, vi 0, vi 0, vi 0, vi 0]) trivial (fun w => by kernel_rfl) | (apply Pu.kLoad; (first | exact Pu.loadN (a := ⟨g, 0 + 13 + x.t.toNat * 7 + 0, none⟩) (vs := w.it.cs) rfl pkA hit rfl | exact Pu.load (a := ⟨g, 0 + 13 + x.t.toNat * 7 + 6, none⟩) rfl pkA hph | exact Pu.load (a := ⟨g, 0 + 12, none⟩) rfl pkA (gpW_rb g q rb _ _ _ _) | exact Pu.load_cl rfl pkA rfl | exact Pu.loadN_cl rfl pkA rfl rfl)) | (apply Pu.kIdx; (first | exact Pu.idxA_b rfl rfl (by omega) | exact Pu.idxA_b rfl rfl (by omega))) | (apply Pu.kUn; (first | exact Pu.not rfl)))) ?_ | refine Dw.nilE ?_ rfl | refine Dw.lE rfl trivial ?_ | refine Dw.lE rfl ⟨_, _, rfl, rfl, rfl⟩ ?_))))
        all_goals (repeat' (first | (refine Ow.is ?_; (first | refine Ow.pu rfl (Pu.build (ps := [(0, .tmp 106), (1, .const (vi 1))]) (vs := [.agg x.cs.toArray, vi 1]) (cs := wkc ⟨x, 1⟩) evA (fun w => by kernel_rfl)) ?_ | refine Ow.nil ?_ | (refine Ow.kLoad ?_; (first | refine Ow.pu rfl (Pu.loadN (a := ⟨g, 0 + 13 + x.t.toNat * 7 + 0, none⟩) (vs := w.it.cs) rfl pkA hit rfl) ?_ | refine Ow.pu rfl (Pu.load (a := ⟨g, 0 + 13 + x.t.toNat * 7 + 6, none⟩) rfl pkA hph) ?_ | refine Ow.pu rfl (Pu.load (a := ⟨g, 0 + 12, none⟩) rfl pkA (gpW_rb g q rb _ _ _ _)) ?_ | refine Ow.pu rfl (Pu.loadN_cl rfl pkA rfl rfl) ?_)) | (refine Ow.kStore ?_; (first | refine Ow.store_w (g := g) (q := q) (rb := rb) (O := _) (G := _) (T := _) (W := W) (j := x.t.toNat) ⟨x, 1⟩ (by omega) rfl rfl rfl pkA ?_ | refine Ow.store (a := ⟨g, 0 + 13 + x.t.toNat * 7 + 6, none⟩) rfl rfl rfl rfl pkA hw2 ?_ | refine Ow.storeN rfl rfl rfl rfl rfl pkA rfl ?_)))) | (refine Cw.is ?_; (first | refine Cw.seq ?_ | refine Cw.region ?_ | refine Cw.cond_t rfl rfl ?_ | refine Cw.cond_f rfl rfl ?_ | refine Cw.block ?_ | refine Cw.ret ?_ | refine Cw.skip ?_)) | (first | refine thenQ_n ?_ | refine thenQ_r ?_ | refine blockQ_n ?_ | refine blockQ_r ?_)))
        all_goals (refine retQ_cN default Tryd.results10 rfl pkA rfl rfl rfl ?_; refine Ent.trans ?_ (Ent.left (Ent.left (gph_mk g q s (rb := rb) rfl rfl rfl hWl hW))); ((try simp only [star_assoc]); (repeat (apply Ent.pk; exact pkA)); first | exact Ent.fin pkA | exact Ent.refl _))
      by_cases hk3 : x.k = 3
      · have hdo : ∀ p : SV × Nat, doG p.1 p.2 q s x full = ({ s with T := s.T.set x.t.toNat none }, 0, 0) := fun p => by rw [hdo0, if_neg hb, if_pos hk3]
        simp only [hdo]
        clear hdo0
        have h0 : w.ph = 0 := by omega
        have hex : ∀ rb W, Fn Tryd.prog 25 [.pointer (some ⟨rb, 0, none⟩), vi x.t] (gpW g q rb W s.O s.G (s.T.map sltO)) Unit (fun _ => vi 0) (fun _ => gpW g q rb W s.O s.G ((s.T.map sltO).set x.t.toNat none)) := fun rb W =>
          (Exit_t rb q.threads q.regs q.stack s.G (s.T.map sltO) (by simpa using hT) x.t hx4 (by rw [sltO_at (by omega), hst]; rfl)).inGp (G' := fun _ => s.G) (T' := fun _ => (s.T.map sltO).set x.t.toNat none)
        (refine Fn.of Tryd.func10 rfl (by kernel_rfl) Tryd.ntmps10 rfl (fun F => ?_))
        ((refine Cw.heq (by simp only [star_assoc, emp_star, star_emp]; exact rfl) ?_); refine Cw.opn (gph_ex g q s) (fun y => ?_); refine Cw.heq (star_assoc _ _ _) ?_; refine Cw.lift (fun hy => ?_); obtain ⟨rb, W⟩ := y; obtain ⟨hWl, hW⟩ := hy; dsimp only at hWl hW ⊢)
        have hlv := hlv rb (W.flatMap wkc)
        have hwW : W[x.t.toNat]! = w := by rw [hW x.t.toNat (c, th) hj4 hst]; exact hw
        have hph := gpW_ph g q rb s.O s.G (s.T.map sltO) (W := W) (j := x.t.toNat) (by omega) hwW
        have hex := hex rb (W.flatMap wkc)
        (repeat' (first | (refine Ow.is ?_; (first | refine Ow.pu rfl (Pu.build (ps := [(0, .tmp 106), (1, .const (vi 1))]) (vs := [.agg x.cs.toArray, vi 1]) (cs := wkc ⟨x, 1⟩) evA (fun w => by kernel_rfl)) ?_ | refine Ow.pu rfl (Pu.fld rfl) ?_ | refine Ow.nil ?_ | refine Ow.pu rfl (Pu.move rfl) ?_ | refine Ow.pu rfl (Pu.assign rfl) ?_ | refine Ow.pu rfl (Pu.fld rfl) ?_ | refine Ow.pu rfl (Pu.nilCheck rfl) ?_ | (refine Ow.kGuard ?_; (first | refine Ow.guard_yes rfl rfl rfl ?_ | refine Ow.guard_no rfl rfl rfl rfl ?_)) | (refine Ow.kLoad ?_; (first | refine Ow.pu rfl (Pu.loadN (a := ⟨g, 0 + 13 + x.t.toNat * 7 + 0, none⟩) (vs := w.it.cs) rfl pkA hit rfl) ?_ | refine Ow.pu rfl (Pu.load (a := ⟨g, 0 + 13 + x.t.toNat * 7 + 6, none⟩) rfl pkA hph) ?_ | refine Ow.pu rfl (Pu.load (a := ⟨g, 0 + 12, none⟩) rfl pkA (gpW_rb g q rb _ _ _ _)) ?_ | refine Ow.pu rfl (Pu.load_cl rfl pkA rfl) ?_ | refine Ow.pu rfl (Pu.loadN_cl rfl pkA rfl rfl) ?_)) | (refine Ow.kBin ?_; (first | (refine Ow.b_eql ?_; (first | refine Ow.pu rfl (Pu.eq_t rfl rfl roA) ?_ | refine Ow.pu rfl (Pu.eq_f rfl rfl odA) ?_)) | (refine Ow.b_neq ?_; (first | refine Ow.pu rfl (Pu.ne_t rfl rfl odA) ?_ | refine Ow.pu rfl (Pu.ne_f rfl rfl roA) ?_)))) | (refine Ow.kPick ?_; (first | refine Ow.pu rfl (Pu.pick_t rfl rfl) ?_ | refine Ow.pu rfl (Pu.pick_f rfl rfl) ?_)) | (refine Ow.kUn ?_; (first | refine Ow.pu rfl (Pu.not rfl) ?_)) | (refine Ow.kStore ?_; (first | refine Ow.store_w (g := g) (q := q) (rb := rb) (O := _) (G := _) (T := _) (W := W) (j := x.t.toNat) ⟨x, 1⟩ (by omega) rfl rfl rfl pkA ?_ | refine Ow.store (a := ⟨g, 0 + 13 + x.t.toNat * 7 + 6, none⟩) rfl rfl rfl rfl pkA hw2 ?_ | refine Ow.store_cl rfl rfl rfl (by (first | rfl | assumption | exact Subtype.property _)) pkA rfl ?_ | refine Ow.storeN rfl rfl rfl rfl rfl pkA rfl ?_)) | (refine Ow.kCall ?_; (first | refine Ow.callE evA pkA rfl hsp (fun _ => ?_) | refine Ow.callE evA pkA rfl hlv (fun _ => ?_) | fail)) | refine Ow.alloc rfl (fun bx => ?_) | refine Ow.box rfl rfl rfl (fun bx => ?_))) | (refine Cw.is ?_; (first | refine Cw.seq ?_ | refine Cw.region ?_ | refine Cw.cond_t rfl rfl ?_ | refine Cw.cond_f rfl rfl ?_ | refine Cw.block ?_ | refine Cw.ret ?_ | refine Cw.skip ?_ | refine Cw.drawL (n := 126) (id := 12) [(0, false), (1, false), (2, false), (3, false), (4, false), (5, false), (6, true), (7, false)] mixed (by kernel_rfl) ?_ | refine Cw.drawL (n := 126) (id := 15) [(0, false), (1, false), (2, false), (3, false), (4, false), (5, false), (6, false)] mixed (by kernel_rfl) ?_)) | (first | refine thenQ_n ?_ | refine thenQ_r ?_ | refine blockQ_n ?_ | refine blockQ_r ?_ | (refine loudQ.is ?_; first | refine loudQ.go pkA ?_ | refine loudQ.goE (by ac_rfl) ?_)) | (refine Dw.is ?_; (first | refine Dw.q rfl rfl trivial (by (first | exact Pu.move rfl | exact Pu.assign rfl | exact Pu.fld rfl | exact Pu.nilCheck rfl | exact Pu.build (ps := []) (vs := []) (cs := [vi 0, vi 0, vi 0, vi 0, vi 0, vi 0, vi 0]) trivial (fun w => by kernel_rfl) | (apply Pu.kLoad; (first | exact Pu.loadN (a := ⟨g, 0 + 13 + x.t.toNat * 7 + 0, none⟩) (vs := w.it.cs) rfl pkA hit rfl | exact Pu.load (a := ⟨g, 0 + 13 + x.t.toNat * 7 + 6, none⟩) rfl pkA hph | exact Pu.load (a := ⟨g, 0 + 12, none⟩) rfl pkA (gpW_rb g q rb _ _ _ _) | exact Pu.load_cl rfl pkA rfl | exact Pu.loadN_cl rfl pkA rfl rfl)) | (apply Pu.kIdx; (first | exact Pu.idxA_b rfl rfl (by omega) | exact Pu.idxA_b rfl rfl (by omega))) | (apply Pu.kUn; (first | exact Pu.not rfl)))) ?_ | refine Dw.q rfl rfl ⟨_, _, rfl, rfl, rfl⟩ (by (first | exact Pu.move rfl | exact Pu.assign rfl | exact Pu.fld rfl | exact Pu.nilCheck rfl | exact Pu.build (ps := []) (vs := []) (cs := [vi 0, vi 0, vi 0, vi 0, vi 0, vi 0, vi 0]) trivial (fun w => by kernel_rfl) | (apply Pu.kLoad; (first | exact Pu.loadN (a := ⟨g, 0 + 13 + x.t.toNat * 7 + 0, none⟩) (vs := w.it.cs) rfl pkA hit rfl | exact Pu.load (a := ⟨g, 0 + 13 + x.t.toNat * 7 + 6, none⟩) rfl pkA hph | exact Pu.load (a := ⟨g, 0 + 12, none⟩) rfl pkA (gpW_rb g q rb _ _ _ _) | exact Pu.load_cl rfl pkA rfl | exact Pu.loadN_cl rfl pkA rfl rfl)) | (apply Pu.kIdx; (first | exact Pu.idxA_b rfl rfl (by omega) | exact Pu.idxA_b rfl rfl (by omega))) | (apply Pu.kUn; (first | exact Pu.not rfl)))) ?_ | refine Dw.nilE ?_ rfl | refine Dw.lE rfl trivial ?_ | refine Dw.lE rfl ⟨_, _, rfl, rfl, rfl⟩ ?_))))
        (refine Cw.drawF2 (gpW _ _ _ _ _ _ _) (cl _ x.cs) 6 [(0, false), (1, false), (2, false), (3, false), (4, false), (5, false), (6, true), (7, false), (8, true)] pkA pkA mixed (by kernel_rfl) ?_; (iterate 6 ((first | refine DwF.q rfl rfl (by kernel_rfl) trivial (by (first | exact Pu.move rfl | exact Pu.assign rfl | exact Pu.fld rfl | exact Pu.nilCheck rfl | exact Pu.build (ps := []) (vs := []) (cs := [vi 0, vi 0, vi 0, vi 0, vi 0, vi 0, vi 0]) trivial (fun w => by kernel_rfl) | (apply Pu.kLoad; (first | exact Pu.loadN (a := ⟨g, 0 + 13 + x.t.toNat * 7 + 0, none⟩) (vs := w.it.cs) rfl pkA hit rfl | exact Pu.load (a := ⟨g, 0 + 13 + x.t.toNat * 7 + 6, none⟩) rfl pkA hph | exact Pu.load (a := ⟨g, 0 + 12, none⟩) rfl pkA (gpW_rb g q rb _ _ _ _) | exact Pu.load_cl rfl pkA rfl | exact Pu.loadN_cl rfl pkA rfl rfl)) | (apply Pu.kIdx; (first | exact Pu.idxA_b rfl rfl (by omega) | exact Pu.idxA_b rfl rfl (by omega))) | (apply Pu.kUn; (first | exact Pu.not rfl)))) ?_ | refine DwF.q rfl rfl (by kernel_rfl) ⟨_, _, rfl, rfl, rfl⟩ (by (first | exact Pu.move rfl | exact Pu.assign rfl | exact Pu.fld rfl | exact Pu.nilCheck rfl | exact Pu.build (ps := []) (vs := []) (cs := [vi 0, vi 0, vi 0, vi 0, vi 0, vi 0, vi 0]) trivial (fun w => by kernel_rfl) | (apply Pu.kLoad; (first | exact Pu.loadN (a := ⟨g, 0 + 13 + x.t.toNat * 7 + 0, none⟩) (vs := w.it.cs) rfl pkA hit rfl | exact Pu.load (a := ⟨g, 0 + 13 + x.t.toNat * 7 + 6, none⟩) rfl pkA hph | exact Pu.load (a := ⟨g, 0 + 12, none⟩) rfl pkA (gpW_rb g q rb _ _ _ _) | exact Pu.load_cl rfl pkA rfl | exact Pu.loadN_cl rfl pkA rfl rfl)) | (apply Pu.kIdx; (first | exact Pu.idxA_b rfl rfl (by omega) | exact Pu.idxA_b rfl rfl (by omega))) | (apply Pu.kUn; (first | exact Pu.not rfl)))) ?_))); refine DwF.b rfl (by first | exact trivial | exact ⟨_, _, rfl, rfl, rfl⟩) rfl ?_; refine Ow.heq (star_assoc _ _ _) ?_; refine Ow.callE evA pkA rfl hex (fun nb => ?_); refine Ow.nil ?_; refine loudF.go ?_; ((first | refine DwF.f rfl rfl rfl trivial (by (first | exact Pu.move rfl | exact Pu.assign rfl | exact Pu.fld rfl | exact Pu.nilCheck rfl | exact Pu.build (ps := []) (vs := []) (cs := [vi 0, vi 0, vi 0, vi 0, vi 0, vi 0, vi 0]) trivial (fun w => by kernel_rfl) | (apply Pu.kLoad; (first | exact Pu.loadN (a := ⟨g, 0 + 13 + x.t.toNat * 7 + 0, none⟩) (vs := w.it.cs) rfl pkA hit rfl | exact Pu.load (a := ⟨g, 0 + 13 + x.t.toNat * 7 + 6, none⟩) rfl pkA hph | exact Pu.load (a := ⟨g, 0 + 12, none⟩) rfl pkA (gpW_rb g q rb _ _ _ _) | exact Pu.load_cl rfl pkA rfl | exact Pu.loadN_cl rfl pkA rfl rfl)) | (apply Pu.kIdx; (first | exact Pu.idxA_b rfl rfl (by omega) | exact Pu.idxA_b rfl rfl (by omega))) | (apply Pu.kUn; (first | exact Pu.not rfl)))) ?_ | refine DwF.f rfl rfl rfl ⟨_, _, rfl, rfl, rfl⟩ (by (first | exact Pu.move rfl | exact Pu.assign rfl | exact Pu.fld rfl | exact Pu.nilCheck rfl | exact Pu.build (ps := []) (vs := []) (cs := [vi 0, vi 0, vi 0, vi 0, vi 0, vi 0, vi 0]) trivial (fun w => by kernel_rfl) | (apply Pu.kLoad; (first | exact Pu.loadN (a := ⟨g, 0 + 13 + x.t.toNat * 7 + 0, none⟩) (vs := w.it.cs) rfl pkA hit rfl | exact Pu.load (a := ⟨g, 0 + 13 + x.t.toNat * 7 + 6, none⟩) rfl pkA hph | exact Pu.load (a := ⟨g, 0 + 12, none⟩) rfl pkA (gpW_rb g q rb _ _ _ _) | exact Pu.load_cl rfl pkA rfl | exact Pu.loadN_cl rfl pkA rfl rfl)) | (apply Pu.kIdx; (first | exact Pu.idxA_b rfl rfl (by omega) | exact Pu.idxA_b rfl rfl (by omega))) | (apply Pu.kUn; (first | exact Pu.not rfl)))) ?_)); refine DwF.a rfl (by first | exact trivial | exact ⟨_, _, rfl, rfl, rfl⟩) ?_; refine Ow.store_cl rfl rfl rfl (by (first | rfl | assumption | exact Subtype.property _)) pkA rfl ?_; refine Ow.nil ?_; refine loudF.go ?_; refine DwF.nil ?_)
        (repeat' (first | (refine Ow.is ?_; (first | refine Ow.pu rfl (Pu.build (ps := [(0, .tmp 106), (1, .const (vi 1))]) (vs := [.agg x.cs.toArray, vi 1]) (cs := wkc ⟨x, 1⟩) evA (fun w => by kernel_rfl)) ?_ | refine Ow.nil ?_ | (refine Ow.kLoad ?_; (first | refine Ow.pu rfl (Pu.loadN (a := ⟨g, 0 + 13 + x.t.toNat * 7 + 0, none⟩) (vs := w.it.cs) rfl pkA hit rfl) ?_ | refine Ow.pu rfl (Pu.load (a := ⟨g, 0 + 13 + x.t.toNat * 7 + 6, none⟩) rfl pkA hph) ?_ | refine Ow.pu rfl (Pu.load (a := ⟨g, 0 + 12, none⟩) rfl pkA (gpW_rb g q rb _ _ _ _)) ?_ | refine Ow.pu rfl (Pu.loadN_cl rfl pkA rfl rfl) ?_)) | (refine Ow.kStore ?_; (first | refine Ow.store_w (g := g) (q := q) (rb := rb) (O := _) (G := _) (T := _) (W := W) (j := x.t.toNat) ⟨x, 1⟩ (by omega) rfl rfl rfl pkA ?_ | refine Ow.store (a := ⟨g, 0 + 13 + x.t.toNat * 7 + 6, none⟩) rfl rfl rfl rfl pkA hw2 ?_ | refine Ow.storeN rfl rfl rfl rfl rfl pkA rfl ?_)))) | (refine Cw.is ?_; (first | refine Cw.seq ?_ | refine Cw.region ?_ | refine Cw.cond_t rfl rfl ?_ | refine Cw.cond_f rfl rfl ?_ | refine Cw.block ?_ | refine Cw.ret ?_ | refine Cw.skip ?_)) | (first | refine thenQ_n ?_ | refine thenQ_r ?_ | refine blockQ_n ?_ | refine blockQ_r ?_)))
        refine retQ_cN default Tryd.results10 rfl pkA rfl rfl rfl ?_
        refine Ent.trans ?_ (Ent.left (Ent.left (gph_mk g q { s with T := s.T.set x.t.toNat none } (rb := rb) (W := W) (O := s.O) (G := s.G) (T := (s.T.map sltO).set x.t.toNat none) rfl rfl (by rw [List.map_set]; rfl) hWl (hW_none hT hW x.t.toNat))))
        ((try simp only [star_assoc]); (repeat (apply Ent.pk; exact pkA)); first | exact Ent.fin pkA | exact Ent.refl _)
      by_cases hk0 : x.k = 0
      · have h0 : w.ph = 0 := by omega
        by_cases hkc : 0 ≤ x.c ∧ x.c < 13
        · have hdo : ∀ p : SV × Nat, doG p.1 p.2 q s x full = ({ s with T := s.T.set x.t.toNat (some (c, ⟨th.r, th.s, ⟨x, 1⟩⟩)) }, 0, 0) := fun p => by rw [hdo0, if_neg hb, if_neg hk3, if_pos hk0, if_pos hkc]
          simp only [hdo]
          clear hdo0
          have hkn := Known_t hK x.c hkc
          (refine Fn.of Tryd.func10 rfl (by kernel_rfl) Tryd.ntmps10 rfl (fun F => ?_))
          ((refine Cw.heq (by simp only [star_assoc, emp_star, star_emp]; exact rfl) ?_); refine Cw.opn (gph_ex g q s) (fun y => ?_); refine Cw.heq (star_assoc _ _ _) ?_; refine Cw.lift (fun hy => ?_); obtain ⟨rb, W⟩ := y; obtain ⟨hWl, hW⟩ := hy; dsimp only at hWl hW ⊢)
          have hlv := hlv rb (W.flatMap wkc)
          have hwW : W[x.t.toNat]! = w := by rw [hW x.t.toNat (c, th) hj4 hst]; exact hw
          have hph := gpW_ph g q rb s.O s.G (s.T.map sltO) (W := W) (j := x.t.toNat) (by omega) hwW
          (repeat' (first | (refine Ow.is ?_; (first | refine Ow.pu rfl (Pu.build (ps := [(0, .tmp 106), (1, .const (vi 1))]) (vs := [.agg x.cs.toArray, vi 1]) (cs := wkc ⟨x, 1⟩) evA (fun w => by kernel_rfl)) ?_ | refine Ow.pu rfl (Pu.fld rfl) ?_ | refine Ow.nil ?_ | refine Ow.pu rfl (Pu.move rfl) ?_ | refine Ow.pu rfl (Pu.assign rfl) ?_ | refine Ow.pu rfl (Pu.fld rfl) ?_ | refine Ow.pu rfl (Pu.nilCheck rfl) ?_ | (refine Ow.kGuard ?_; (first | refine Ow.guard_yes rfl rfl rfl ?_ | refine Ow.guard_no rfl rfl rfl rfl ?_)) | (refine Ow.kLoad ?_; (first | refine Ow.pu rfl (Pu.loadN (a := ⟨g, 0 + 13 + x.t.toNat * 7 + 0, none⟩) (vs := w.it.cs) rfl pkA hit rfl) ?_ | refine Ow.pu rfl (Pu.load (a := ⟨g, 0 + 13 + x.t.toNat * 7 + 6, none⟩) rfl pkA hph) ?_ | refine Ow.pu rfl (Pu.load (a := ⟨g, 0 + 12, none⟩) rfl pkA (gpW_rb g q rb _ _ _ _)) ?_ | refine Ow.pu rfl (Pu.load_cl rfl pkA rfl) ?_ | refine Ow.pu rfl (Pu.loadN_cl rfl pkA rfl rfl) ?_)) | (refine Ow.kBin ?_; (first | (refine Ow.b_eql ?_; (first | refine Ow.pu rfl (Pu.eq_t rfl rfl roA) ?_ | refine Ow.pu rfl (Pu.eq_f rfl rfl odA) ?_)) | (refine Ow.b_neq ?_; (first | refine Ow.pu rfl (Pu.ne_t rfl rfl odA) ?_ | refine Ow.pu rfl (Pu.ne_f rfl rfl roA) ?_)))) | (refine Ow.kPick ?_; (first | refine Ow.pu rfl (Pu.pick_t rfl rfl) ?_ | refine Ow.pu rfl (Pu.pick_f rfl rfl) ?_)) | (refine Ow.kUn ?_; (first | refine Ow.pu rfl (Pu.not rfl) ?_)) | (refine Ow.kStore ?_; (first | refine Ow.store_w (g := g) (q := q) (rb := rb) (O := _) (G := _) (T := _) (W := W) (j := x.t.toNat) ⟨x, 1⟩ (by omega) rfl rfl rfl pkA ?_ | refine Ow.store (a := ⟨g, 0 + 13 + x.t.toNat * 7 + 6, none⟩) rfl rfl rfl rfl pkA hw2 ?_ | refine Ow.store_cl rfl rfl rfl (by (first | rfl | assumption | exact Subtype.property _)) pkA rfl ?_ | refine Ow.storeN rfl rfl rfl rfl rfl pkA rfl ?_)) | (refine Ow.kCall ?_; (first | refine Ow.callE evA pkA rfl hkn (fun _ => ?_) | refine Ow.callE evA pkA rfl hex (fun _ => ?_) | refine Ow.callE evA pkA rfl hsp (fun _ => ?_) | refine Ow.callE evA pkA rfl hlv (fun _ => ?_) | fail)) | refine Ow.alloc rfl (fun bx => ?_) | refine Ow.box rfl rfl rfl (fun bx => ?_))) | (refine Cw.is ?_; (first | refine Cw.seq ?_ | refine Cw.region ?_ | refine Cw.cond_t rfl rfl ?_ | refine Cw.cond_f rfl rfl ?_ | refine Cw.block ?_ | refine Cw.ret ?_ | refine Cw.skip ?_ | refine Cw.drawL (n := 126) (id := 12) [(0, false), (1, false), (2, false), (3, false), (4, false), (5, false), (6, true), (7, false)] mixed (by kernel_rfl) ?_ | refine Cw.drawL (n := 126) (id := 15) [(0, false), (1, false), (2, false), (3, false), (4, false), (5, false), (6, false)] mixed (by kernel_rfl) ?_)) | (first | refine thenQ_n ?_ | refine thenQ_r ?_ | refine blockQ_n ?_ | refine blockQ_r ?_ | (refine loudQ.is ?_; first | refine loudQ.go pkA ?_ | refine loudQ.goE (by ac_rfl) ?_)) | (refine Dw.is ?_; (first | refine Dw.q rfl rfl trivial (by (first | exact Pu.move rfl | exact Pu.assign rfl | exact Pu.fld rfl | exact Pu.nilCheck rfl | exact Pu.build (ps := []) (vs := []) (cs := [vi 0, vi 0, vi 0, vi 0, vi 0, vi 0, vi 0]) trivial (fun w => by kernel_rfl) | (apply Pu.kLoad; (first | exact Pu.loadN (a := ⟨g, 0 + 13 + x.t.toNat * 7 + 0, none⟩) (vs := w.it.cs) rfl pkA hit rfl | exact Pu.load (a := ⟨g, 0 + 13 + x.t.toNat * 7 + 6, none⟩) rfl pkA hph | exact Pu.load (a := ⟨g, 0 + 12, none⟩) rfl pkA (gpW_rb g q rb _ _ _ _) | exact Pu.load_cl rfl pkA rfl | exact Pu.loadN_cl rfl pkA rfl rfl)) | (apply Pu.kIdx; (first | exact Pu.idxA_b rfl rfl (by omega) | exact Pu.idxA_b rfl rfl (by omega))) | (apply Pu.kUn; (first | exact Pu.not rfl)))) ?_ | refine Dw.q rfl rfl ⟨_, _, rfl, rfl, rfl⟩ (by (first | exact Pu.move rfl | exact Pu.assign rfl | exact Pu.fld rfl | exact Pu.nilCheck rfl | exact Pu.build (ps := []) (vs := []) (cs := [vi 0, vi 0, vi 0, vi 0, vi 0, vi 0, vi 0]) trivial (fun w => by kernel_rfl) | (apply Pu.kLoad; (first | exact Pu.loadN (a := ⟨g, 0 + 13 + x.t.toNat * 7 + 0, none⟩) (vs := w.it.cs) rfl pkA hit rfl | exact Pu.load (a := ⟨g, 0 + 13 + x.t.toNat * 7 + 6, none⟩) rfl pkA hph | exact Pu.load (a := ⟨g, 0 + 12, none⟩) rfl pkA (gpW_rb g q rb _ _ _ _) | exact Pu.load_cl rfl pkA rfl | exact Pu.loadN_cl rfl pkA rfl rfl)) | (apply Pu.kIdx; (first | exact Pu.idxA_b rfl rfl (by omega) | exact Pu.idxA_b rfl rfl (by omega))) | (apply Pu.kUn; (first | exact Pu.not rfl)))) ?_ | refine Dw.nilE ?_ rfl | refine Dw.lE rfl trivial ?_ | refine Dw.lE rfl ⟨_, _, rfl, rfl, rfl⟩ ?_))))
          (repeat' (first | (refine Ow.is ?_; (first | refine Ow.pu rfl (Pu.build (ps := [(0, .tmp 106), (1, .const (vi 1))]) (vs := [.agg x.cs.toArray, vi 1]) (cs := wkc ⟨x, 1⟩) evA (fun w => by kernel_rfl)) ?_ | refine Ow.nil ?_ | (refine Ow.kLoad ?_; (first | refine Ow.pu rfl (Pu.loadN (a := ⟨g, 0 + 13 + x.t.toNat * 7 + 0, none⟩) (vs := w.it.cs) rfl pkA hit rfl) ?_ | refine Ow.pu rfl (Pu.load (a := ⟨g, 0 + 13 + x.t.toNat * 7 + 6, none⟩) rfl pkA hph) ?_ | refine Ow.pu rfl (Pu.load (a := ⟨g, 0 + 12, none⟩) rfl pkA (gpW_rb g q rb _ _ _ _)) ?_ | refine Ow.pu rfl (Pu.loadN_cl rfl pkA rfl rfl) ?_)) | (refine Ow.kStore ?_; (first | refine Ow.store_w (g := g) (q := q) (rb := rb) (O := _) (G := _) (T := _) (W := W) (j := x.t.toNat) ⟨x, 1⟩ (by omega) rfl rfl rfl pkA ?_ | refine Ow.store (a := ⟨g, 0 + 13 + x.t.toNat * 7 + 6, none⟩) rfl rfl rfl rfl pkA hw2 ?_ | refine Ow.storeN rfl rfl rfl rfl rfl pkA rfl ?_)))) | (refine Cw.is ?_; (first | refine Cw.seq ?_ | refine Cw.region ?_ | refine Cw.cond_t rfl rfl ?_ | refine Cw.cond_f rfl rfl ?_ | refine Cw.block ?_ | refine Cw.ret ?_ | refine Cw.skip ?_)) | (first | refine thenQ_n ?_ | refine thenQ_r ?_ | refine blockQ_n ?_ | refine blockQ_r ?_)))
          refine retQ_cN default Tryd.results10 rfl pkA rfl rfl rfl ?_
          refine Ent.trans ?_ (Ent.left (Ent.left (gph_mk g q { s with T := s.T.set x.t.toNat (some (c, ⟨th.r, th.s, ⟨x, 1⟩⟩)) } (rb := rb) (W := W.set x.t.toNat ⟨x, 1⟩) (O := s.O) (G := s.G) (T := s.T.map sltO) rfl rfl (hTm ⟨x, 1⟩) (by simpa using hWl) (hW_set hT hWl hW x.t.toNat (c, ⟨th.r, th.s, ⟨x, 1⟩⟩)))))
          ((try simp only [star_assoc]); (repeat (apply Ent.pk; exact pkA)); first | exact Ent.fin pkA | exact Ent.refl _)
        · have hdo : ∀ p : SV × Nat, doG p.1 p.2 q s x full = (s, 1, 0) := fun p => by rw [hdo0, if_neg hb, if_neg hk3, if_pos hk0, if_neg hkc]
          simp only [hdo]
          clear hdo0
          have hkn := Known_f hK x.c hkc
          (refine Fn.of Tryd.func10 rfl (by kernel_rfl) Tryd.ntmps10 rfl (fun F => ?_))
          ((refine Cw.heq (by simp only [star_assoc, emp_star, star_emp]; exact rfl) ?_); refine Cw.opn (gph_ex g q s) (fun y => ?_); refine Cw.heq (star_assoc _ _ _) ?_; refine Cw.lift (fun hy => ?_); obtain ⟨rb, W⟩ := y; obtain ⟨hWl, hW⟩ := hy; dsimp only at hWl hW ⊢)
          have hlv := hlv rb (W.flatMap wkc)
          have hwW : W[x.t.toNat]! = w := by rw [hW x.t.toNat (c, th) hj4 hst]; exact hw
          have hph := gpW_ph g q rb s.O s.G (s.T.map sltO) (W := W) (j := x.t.toNat) (by omega) hwW
          (repeat' (first | (refine Ow.is ?_; (first | refine Ow.pu rfl (Pu.build (ps := [(0, .tmp 106), (1, .const (vi 1))]) (vs := [.agg x.cs.toArray, vi 1]) (cs := wkc ⟨x, 1⟩) evA (fun w => by kernel_rfl)) ?_ | refine Ow.pu rfl (Pu.fld rfl) ?_ | refine Ow.nil ?_ | refine Ow.pu rfl (Pu.move rfl) ?_ | refine Ow.pu rfl (Pu.assign rfl) ?_ | refine Ow.pu rfl (Pu.fld rfl) ?_ | refine Ow.pu rfl (Pu.nilCheck rfl) ?_ | (refine Ow.kGuard ?_; (first | refine Ow.guard_yes rfl rfl rfl ?_ | refine Ow.guard_no rfl rfl rfl rfl ?_)) | (refine Ow.kLoad ?_; (first | refine Ow.pu rfl (Pu.loadN (a := ⟨g, 0 + 13 + x.t.toNat * 7 + 0, none⟩) (vs := w.it.cs) rfl pkA hit rfl) ?_ | refine Ow.pu rfl (Pu.load (a := ⟨g, 0 + 13 + x.t.toNat * 7 + 6, none⟩) rfl pkA hph) ?_ | refine Ow.pu rfl (Pu.load (a := ⟨g, 0 + 12, none⟩) rfl pkA (gpW_rb g q rb _ _ _ _)) ?_ | refine Ow.pu rfl (Pu.load_cl rfl pkA rfl) ?_ | refine Ow.pu rfl (Pu.loadN_cl rfl pkA rfl rfl) ?_)) | (refine Ow.kBin ?_; (first | (refine Ow.b_eql ?_; (first | refine Ow.pu rfl (Pu.eq_t rfl rfl roA) ?_ | refine Ow.pu rfl (Pu.eq_f rfl rfl odA) ?_)) | (refine Ow.b_neq ?_; (first | refine Ow.pu rfl (Pu.ne_t rfl rfl odA) ?_ | refine Ow.pu rfl (Pu.ne_f rfl rfl roA) ?_)))) | (refine Ow.kPick ?_; (first | refine Ow.pu rfl (Pu.pick_t rfl rfl) ?_ | refine Ow.pu rfl (Pu.pick_f rfl rfl) ?_)) | (refine Ow.kUn ?_; (first | refine Ow.pu rfl (Pu.not rfl) ?_)) | (refine Ow.kStore ?_; (first | refine Ow.store_w (g := g) (q := q) (rb := rb) (O := _) (G := _) (T := _) (W := W) (j := x.t.toNat) ⟨x, 1⟩ (by omega) rfl rfl rfl pkA ?_ | refine Ow.store (a := ⟨g, 0 + 13 + x.t.toNat * 7 + 6, none⟩) rfl rfl rfl rfl pkA hw2 ?_ | refine Ow.store_cl rfl rfl rfl (by (first | rfl | assumption | exact Subtype.property _)) pkA rfl ?_ | refine Ow.storeN rfl rfl rfl rfl rfl pkA rfl ?_)) | (refine Ow.kCall ?_; (first | refine Ow.callE evA pkA rfl hkn (fun _ => ?_) | refine Ow.callE evA pkA rfl hex (fun _ => ?_) | refine Ow.callE evA pkA rfl hsp (fun _ => ?_) | refine Ow.callE evA pkA rfl hlv (fun _ => ?_) | fail)) | refine Ow.alloc rfl (fun bx => ?_) | refine Ow.box rfl rfl rfl (fun bx => ?_))) | (refine Cw.is ?_; (first | refine Cw.seq ?_ | refine Cw.region ?_ | refine Cw.cond_t rfl rfl ?_ | refine Cw.cond_f rfl rfl ?_ | refine Cw.block ?_ | refine Cw.ret ?_ | refine Cw.skip ?_ | refine Cw.drawL (n := 126) (id := 12) [(0, false), (1, false), (2, false), (3, false), (4, false), (5, false), (6, true), (7, false)] mixed (by kernel_rfl) ?_ | refine Cw.drawL (n := 126) (id := 15) [(0, false), (1, false), (2, false), (3, false), (4, false), (5, false), (6, false)] mixed (by kernel_rfl) ?_)) | (first | refine thenQ_n ?_ | refine thenQ_r ?_ | refine blockQ_n ?_ | refine blockQ_r ?_ | (refine loudQ.is ?_; first | refine loudQ.go pkA ?_ | refine loudQ.goE (by ac_rfl) ?_)) | (refine Dw.is ?_; (first | refine Dw.q rfl rfl trivial (by (first | exact Pu.move rfl | exact Pu.assign rfl | exact Pu.fld rfl | exact Pu.nilCheck rfl | exact Pu.build (ps := []) (vs := []) (cs := [vi 0, vi 0, vi 0, vi 0, vi 0, vi 0, vi 0]) trivial (fun w => by kernel_rfl) | (apply Pu.kLoad; (first | exact Pu.loadN (a := ⟨g, 0 + 13 + x.t.toNat * 7 + 0, none⟩) (vs := w.it.cs) rfl pkA hit rfl | exact Pu.load (a := ⟨g, 0 + 13 + x.t.toNat * 7 + 6, none⟩) rfl pkA hph | exact Pu.load (a := ⟨g, 0 + 12, none⟩) rfl pkA (gpW_rb g q rb _ _ _ _) | exact Pu.load_cl rfl pkA rfl | exact Pu.loadN_cl rfl pkA rfl rfl)) | (apply Pu.kIdx; (first | exact Pu.idxA_b rfl rfl (by omega) | exact Pu.idxA_b rfl rfl (by omega))) | (apply Pu.kUn; (first | exact Pu.not rfl)))) ?_ | refine Dw.q rfl rfl ⟨_, _, rfl, rfl, rfl⟩ (by (first | exact Pu.move rfl | exact Pu.assign rfl | exact Pu.fld rfl | exact Pu.nilCheck rfl | exact Pu.build (ps := []) (vs := []) (cs := [vi 0, vi 0, vi 0, vi 0, vi 0, vi 0, vi 0]) trivial (fun w => by kernel_rfl) | (apply Pu.kLoad; (first | exact Pu.loadN (a := ⟨g, 0 + 13 + x.t.toNat * 7 + 0, none⟩) (vs := w.it.cs) rfl pkA hit rfl | exact Pu.load (a := ⟨g, 0 + 13 + x.t.toNat * 7 + 6, none⟩) rfl pkA hph | exact Pu.load (a := ⟨g, 0 + 12, none⟩) rfl pkA (gpW_rb g q rb _ _ _ _) | exact Pu.load_cl rfl pkA rfl | exact Pu.loadN_cl rfl pkA rfl rfl)) | (apply Pu.kIdx; (first | exact Pu.idxA_b rfl rfl (by omega) | exact Pu.idxA_b rfl rfl (by omega))) | (apply Pu.kUn; (first | exact Pu.not rfl)))) ?_ | refine Dw.nilE ?_ rfl | refine Dw.lE rfl trivial ?_ | refine Dw.lE rfl ⟨_, _, rfl, rfl, rfl⟩ ?_))))
          (repeat' (first | (refine Ow.is ?_; (first | refine Ow.pu rfl (Pu.build (ps := [(0, .tmp 106), (1, .const (vi 1))]) (vs := [.agg x.cs.toArray, vi 1]) (cs := wkc ⟨x, 1⟩) evA (fun w => by kernel_rfl)) ?_ | refine Ow.nil ?_ | (refine Ow.kLoad ?_; (first | refine Ow.pu rfl (Pu.loadN (a := ⟨g, 0 + 13 + x.t.toNat * 7 + 0, none⟩) (vs := w.it.cs) rfl pkA hit rfl) ?_ | refine Ow.pu rfl (Pu.load (a := ⟨g, 0 + 13 + x.t.toNat * 7 + 6, none⟩) rfl pkA hph) ?_ | refine Ow.pu rfl (Pu.load (a := ⟨g, 0 + 12, none⟩) rfl pkA (gpW_rb g q rb _ _ _ _)) ?_ | refine Ow.pu rfl (Pu.loadN_cl rfl pkA rfl rfl) ?_)) | (refine Ow.kStore ?_; (first | refine Ow.store_w (g := g) (q := q) (rb := rb) (O := _) (G := _) (T := _) (W := W) (j := x.t.toNat) ⟨x, 1⟩ (by omega) rfl rfl rfl pkA ?_ | refine Ow.store (a := ⟨g, 0 + 13 + x.t.toNat * 7 + 6, none⟩) rfl rfl rfl rfl pkA hw2 ?_ | refine Ow.storeN rfl rfl rfl rfl rfl pkA rfl ?_)))) | (refine Cw.is ?_; (first | refine Cw.seq ?_ | refine Cw.region ?_ | refine Cw.cond_t rfl rfl ?_ | refine Cw.cond_f rfl rfl ?_ | refine Cw.block ?_ | refine Cw.ret ?_ | refine Cw.skip ?_)) | (first | refine thenQ_n ?_ | refine thenQ_r ?_ | refine blockQ_n ?_ | refine blockQ_r ?_)))
          refine retQ_cN default Tryd.results10 rfl pkA rfl rfl rfl ?_
          refine Ent.trans ?_ (Ent.left (Ent.left (gph_mk g q s (rb := rb) rfl rfl rfl hWl hW)))
          ((try simp only [star_assoc]); (repeat (apply Ent.pk; exact pkA)); first | exact Ent.fin pkA | exact Ent.refl _)
      have hk1 : x.k = 1 := by omega
      by_cases hp1 : w.ph = 1
      · have hdo : ∀ p : SV × Nat, doG p.1 p.2 q s x full = (⟨(actR p.1 q s.O s.G th.r th.s w.it full).O, (actR p.1 q s.O s.G th.r th.s w.it full).G, s.T.set x.t.toNat (some (c, ⟨(actR p.1 q s.O s.G th.r th.s w.it full).r, (actR p.1 q s.O s.G th.r th.s w.it full).s, ⟨w.it, 2⟩⟩))⟩, (actR p.1 q s.O s.G th.r th.s w.it full).e, (actR p.1 q s.O s.G th.r th.s w.it full).v) := fun p => by rw [hdo0, if_neg hb, if_neg hk3, if_neg hk0, if_pos hp1]
        simp only [hdo]
        clear hdo0
        have htx1 := htx (by omega)
        have hact := fun rb W => act_fn g q rb W s.O s.G (s.T.map sltO) hK (nb := c) (r := th.r) (s := th.s) w.it full (by omega) hq8 (by simpa using hT) (by omega) (by rw [show w.it.t.toNat = x.t.toNat by omega, sltO_at (by omega), hst]; rfl) htk.rl hok.gl htk.r htk.sl
        rw [show w.it.t.toNat = x.t.toNat by omega] at hact
        (refine Fn.of Tryd.func10 rfl (by kernel_rfl) Tryd.ntmps10 rfl (fun F => ?_))
        ((refine Cw.heq (by simp only [star_assoc, emp_star, star_emp]; exact rfl) ?_); refine Cw.opn (gph_ex g q s) (fun y => ?_); refine Cw.heq (star_assoc _ _ _) ?_; refine Cw.lift (fun hy => ?_); obtain ⟨rb, W⟩ := y; obtain ⟨hWl, hW⟩ := hy; dsimp only at hWl hW ⊢)
        have hlv := hlv rb (W.flatMap wkc)
        have hwW : W[x.t.toNat]! = w := by rw [hW x.t.toNat (c, th) hj4 hst]; exact hw
        have hph := gpW_ph g q rb s.O s.G (s.T.map sltO) (W := W) (j := x.t.toNat) (by omega) hwW
        have hw2 := gpW_wph g q rb s.O s.G (s.T.map sltO) (W := W) (j := x.t.toNat) (by omega) hwW 2
        have hit := gpW_it g q rb s.O s.G (s.T.map sltO) (W := W.set x.t.toNat ⟨w.it, 2⟩) (j := x.t.toNat) (w := ⟨w.it, 2⟩) (by simp; omega) (by rw [set_get _ _ _ _ (by omega), if_pos rfl])
        have hact := hact rb ((W.set x.t.toNat ⟨w.it, 2⟩).flatMap wkc)
        (repeat' (first | (refine Ow.is ?_; (first | refine Ow.pu rfl (Pu.build (ps := [(0, .tmp 106), (1, .const (vi 1))]) (vs := [.agg x.cs.toArray, vi 1]) (cs := wkc ⟨x, 1⟩) evA (fun w => by kernel_rfl)) ?_ | refine Ow.pu rfl (Pu.fld rfl) ?_ | refine Ow.nil ?_ | refine Ow.pu rfl (Pu.move rfl) ?_ | refine Ow.pu rfl (Pu.assign rfl) ?_ | refine Ow.pu rfl (Pu.fld rfl) ?_ | refine Ow.pu rfl (Pu.nilCheck rfl) ?_ | (refine Ow.kGuard ?_; (first | refine Ow.guard_yes rfl rfl rfl ?_ | refine Ow.guard_no rfl rfl rfl rfl ?_)) | (refine Ow.kLoad ?_; (first | refine Ow.pu rfl (Pu.loadN (a := ⟨g, 0 + 13 + x.t.toNat * 7 + 0, none⟩) (vs := w.it.cs) rfl pkA hit rfl) ?_ | refine Ow.pu rfl (Pu.load (a := ⟨g, 0 + 13 + x.t.toNat * 7 + 6, none⟩) rfl pkA hph) ?_ | refine Ow.pu rfl (Pu.load (a := ⟨g, 0 + 12, none⟩) rfl pkA (gpW_rb g q rb _ _ _ _)) ?_ | refine Ow.pu rfl (Pu.load_cl rfl pkA rfl) ?_ | refine Ow.pu rfl (Pu.loadN_cl rfl pkA rfl rfl) ?_)) | (refine Ow.kBin ?_; (first | (refine Ow.b_eql ?_; (first | refine Ow.pu rfl (Pu.eq_t rfl rfl roA) ?_ | refine Ow.pu rfl (Pu.eq_f rfl rfl odA) ?_)) | (refine Ow.b_neq ?_; (first | refine Ow.pu rfl (Pu.ne_t rfl rfl odA) ?_ | refine Ow.pu rfl (Pu.ne_f rfl rfl roA) ?_)))) | (refine Ow.kPick ?_; (first | refine Ow.pu rfl (Pu.pick_t rfl rfl) ?_ | refine Ow.pu rfl (Pu.pick_f rfl rfl) ?_)) | (refine Ow.kUn ?_; (first | refine Ow.pu rfl (Pu.not rfl) ?_)) | (refine Ow.kStore ?_; (first | refine Ow.store_w (g := g) (q := q) (rb := rb) (O := _) (G := _) (T := _) (W := W) (j := x.t.toNat) ⟨x, 1⟩ (by omega) rfl rfl rfl pkA ?_ | refine Ow.store (a := ⟨g, 0 + 13 + x.t.toNat * 7 + 6, none⟩) rfl rfl rfl rfl pkA hw2 ?_ | refine Ow.store_cl rfl rfl rfl (by (first | rfl | assumption | exact Subtype.property _)) pkA rfl ?_ | refine Ow.storeN rfl rfl rfl rfl rfl pkA rfl ?_)) | (refine Ow.kCall ?_; (first | refine Ow.callE evA (pk2' pkA pkA) rfl hact (fun b => Ow.assoc ?_) | refine Ow.callE evA pkA rfl hkn (fun _ => ?_) | refine Ow.callE evA pkA rfl hex (fun _ => ?_) | refine Ow.callE evA pkA rfl hsp (fun _ => ?_) | refine Ow.callE evA pkA rfl hlv (fun _ => ?_) | fail)) | refine Ow.alloc rfl (fun bx => ?_) | refine Ow.box rfl rfl rfl (fun bx => ?_))) | (refine Cw.is ?_; (first | refine Cw.seq ?_ | refine Cw.region ?_ | refine Cw.cond_t rfl rfl ?_ | refine Cw.cond_f rfl rfl ?_ | refine Cw.block ?_ | refine Cw.ret ?_ | refine Cw.skip ?_ | refine Cw.drawL (n := 126) (id := 12) [(0, false), (1, false), (2, false), (3, false), (4, false), (5, false), (6, true), (7, false)] mixed (by kernel_rfl) ?_ | refine Cw.drawL (n := 126) (id := 15) [(0, false), (1, false), (2, false), (3, false), (4, false), (5, false), (6, false)] mixed (by kernel_rfl) ?_)) | (first | refine thenQ_n ?_ | refine thenQ_r ?_ | refine blockQ_n ?_ | refine blockQ_r ?_ | (refine loudQ.is ?_; first | refine loudQ.go pkA ?_ | refine loudQ.goE (by ac_rfl) ?_)) | (refine Dw.is ?_; (first | refine Dw.q rfl rfl trivial (by (first | exact Pu.move rfl | exact Pu.assign rfl | exact Pu.fld rfl | exact Pu.nilCheck rfl | exact Pu.build (ps := []) (vs := []) (cs := [vi 0, vi 0, vi 0, vi 0, vi 0, vi 0, vi 0]) trivial (fun w => by kernel_rfl) | (apply Pu.kLoad; (first | exact Pu.loadN (a := ⟨g, 0 + 13 + x.t.toNat * 7 + 0, none⟩) (vs := w.it.cs) rfl pkA hit rfl | exact Pu.load (a := ⟨g, 0 + 13 + x.t.toNat * 7 + 6, none⟩) rfl pkA hph | exact Pu.load (a := ⟨g, 0 + 12, none⟩) rfl pkA (gpW_rb g q rb _ _ _ _) | exact Pu.load_cl rfl pkA rfl | exact Pu.loadN_cl rfl pkA rfl rfl)) | (apply Pu.kIdx; (first | exact Pu.idxA_b rfl rfl (by omega) | exact Pu.idxA_b rfl rfl (by omega))) | (apply Pu.kUn; (first | exact Pu.not rfl)))) ?_ | refine Dw.q rfl rfl ⟨_, _, rfl, rfl, rfl⟩ (by (first | exact Pu.move rfl | exact Pu.assign rfl | exact Pu.fld rfl | exact Pu.nilCheck rfl | exact Pu.build (ps := []) (vs := []) (cs := [vi 0, vi 0, vi 0, vi 0, vi 0, vi 0, vi 0]) trivial (fun w => by kernel_rfl) | (apply Pu.kLoad; (first | exact Pu.loadN (a := ⟨g, 0 + 13 + x.t.toNat * 7 + 0, none⟩) (vs := w.it.cs) rfl pkA hit rfl | exact Pu.load (a := ⟨g, 0 + 13 + x.t.toNat * 7 + 6, none⟩) rfl pkA hph | exact Pu.load (a := ⟨g, 0 + 12, none⟩) rfl pkA (gpW_rb g q rb _ _ _ _) | exact Pu.load_cl rfl pkA rfl | exact Pu.loadN_cl rfl pkA rfl rfl)) | (apply Pu.kIdx; (first | exact Pu.idxA_b rfl rfl (by omega) | exact Pu.idxA_b rfl rfl (by omega))) | (apply Pu.kUn; (first | exact Pu.not rfl)))) ?_ | refine Dw.nilE ?_ rfl | refine Dw.lE rfl trivial ?_ | refine Dw.lE rfl ⟨_, _, rfl, rfl, rfl⟩ ?_))))
        refine retQ_cN (b, 0) Tryd.results10 rfl pkA rfl rfl rfl ?_
        refine Ent.trans ?_ (Ent.left (Ent.left (gph_mk g q ⟨(actR b q s.O s.G th.r th.s w.it full).O, (actR b q s.O s.G th.r th.s w.it full).G, s.T.set x.t.toNat (some (c, ⟨(actR b q s.O s.G th.r th.s w.it full).r, (actR b q s.O s.G th.r th.s w.it full).s, ⟨w.it, 2⟩⟩))⟩ (rb := rb) (W := W.set x.t.toNat ⟨w.it, 2⟩) (O := (actR b q s.O s.G th.r th.s w.it full).O) (G := (actR b q s.O s.G th.r th.s w.it full).G) (T := (s.T.map sltO).set x.t.toNat (some (c, (actR b q s.O s.G th.r th.s w.it full).r, (actR b q s.O s.G th.r th.s w.it full).s))) rfl rfl (by rw [List.map_set]; rfl) (by simpa using hWl) (hW_set hT hWl hW x.t.toNat (c, ⟨(actR b q s.O s.G th.r th.s w.it full).r, (actR b q s.O s.G th.r th.s w.it full).s, ⟨w.it, 2⟩⟩)))))
        ((try simp only [star_assoc]); (repeat (apply Ent.pk; exact pkA)); first | exact Ent.fin pkA | exact Ent.refl _)
      · have hdo : ∀ p : SV × Nat, doG p.1 p.2 q s x full = ({ s with T := s.T.set x.t.toNat (some (c, ⟨th.r, th.s, ⟨w.it, 0⟩⟩)) }, 0, 0) := fun p => by rw [hdo0, if_neg hb, if_neg hk3, if_neg hk0, if_neg hp1]
        simp only [hdo]
        clear hdo0
        have hp2 : w.ph = 2 := by omega
        (refine Fn.of Tryd.func10 rfl (by kernel_rfl) Tryd.ntmps10 rfl (fun F => ?_))
        ((refine Cw.heq (by simp only [star_assoc, emp_star, star_emp]; exact rfl) ?_); refine Cw.opn (gph_ex g q s) (fun y => ?_); refine Cw.heq (star_assoc _ _ _) ?_; refine Cw.lift (fun hy => ?_); obtain ⟨rb, W⟩ := y; obtain ⟨hWl, hW⟩ := hy; dsimp only at hWl hW ⊢)
        have hlv := hlv rb (W.flatMap wkc)
        have hwW : W[x.t.toNat]! = w := by rw [hW x.t.toNat (c, th) hj4 hst]; exact hw
        have hph := gpW_ph g q rb s.O s.G (s.T.map sltO) (W := W) (j := x.t.toNat) (by omega) hwW
        have hw2 := gpW_wph g q rb s.O s.G (s.T.map sltO) (W := W) (j := x.t.toNat) (by omega) hwW 0
        (repeat' (first | (refine Ow.is ?_; (first | refine Ow.pu rfl (Pu.build (ps := [(0, .tmp 106), (1, .const (vi 1))]) (vs := [.agg x.cs.toArray, vi 1]) (cs := wkc ⟨x, 1⟩) evA (fun w => by kernel_rfl)) ?_ | refine Ow.pu rfl (Pu.fld rfl) ?_ | refine Ow.nil ?_ | refine Ow.pu rfl (Pu.move rfl) ?_ | refine Ow.pu rfl (Pu.assign rfl) ?_ | refine Ow.pu rfl (Pu.fld rfl) ?_ | refine Ow.pu rfl (Pu.nilCheck rfl) ?_ | (refine Ow.kGuard ?_; (first | refine Ow.guard_yes rfl rfl rfl ?_ | refine Ow.guard_no rfl rfl rfl rfl ?_)) | (refine Ow.kLoad ?_; (first | refine Ow.pu rfl (Pu.loadN (a := ⟨g, 0 + 13 + x.t.toNat * 7 + 0, none⟩) (vs := w.it.cs) rfl pkA hit rfl) ?_ | refine Ow.pu rfl (Pu.load (a := ⟨g, 0 + 13 + x.t.toNat * 7 + 6, none⟩) rfl pkA hph) ?_ | refine Ow.pu rfl (Pu.load (a := ⟨g, 0 + 12, none⟩) rfl pkA (gpW_rb g q rb _ _ _ _)) ?_ | refine Ow.pu rfl (Pu.load_cl rfl pkA rfl) ?_ | refine Ow.pu rfl (Pu.loadN_cl rfl pkA rfl rfl) ?_)) | (refine Ow.kBin ?_; (first | (refine Ow.b_eql ?_; (first | refine Ow.pu rfl (Pu.eq_t rfl rfl roA) ?_ | refine Ow.pu rfl (Pu.eq_f rfl rfl odA) ?_)) | (refine Ow.b_neq ?_; (first | refine Ow.pu rfl (Pu.ne_t rfl rfl odA) ?_ | refine Ow.pu rfl (Pu.ne_f rfl rfl roA) ?_)))) | (refine Ow.kPick ?_; (first | refine Ow.pu rfl (Pu.pick_t rfl rfl) ?_ | refine Ow.pu rfl (Pu.pick_f rfl rfl) ?_)) | (refine Ow.kUn ?_; (first | refine Ow.pu rfl (Pu.not rfl) ?_)) | (refine Ow.kStore ?_; (first | refine Ow.store_w (g := g) (q := q) (rb := rb) (O := _) (G := _) (T := _) (W := W) (j := x.t.toNat) ⟨x, 1⟩ (by omega) rfl rfl rfl pkA ?_ | refine Ow.store (a := ⟨g, 0 + 13 + x.t.toNat * 7 + 6, none⟩) rfl rfl rfl rfl pkA hw2 ?_ | refine Ow.store_cl rfl rfl rfl (by (first | rfl | assumption | exact Subtype.property _)) pkA rfl ?_ | refine Ow.storeN rfl rfl rfl rfl rfl pkA rfl ?_)) | (refine Ow.kCall ?_; (first | refine Ow.callE evA (pk2' pkA pkA) rfl hact (fun b => Ow.assoc ?_) | refine Ow.callE evA pkA rfl hkn (fun _ => ?_) | refine Ow.callE evA pkA rfl hex (fun _ => ?_) | refine Ow.callE evA pkA rfl hsp (fun _ => ?_) | refine Ow.callE evA pkA rfl hlv (fun _ => ?_) | fail)) | refine Ow.alloc rfl (fun bx => ?_) | refine Ow.box rfl rfl rfl (fun bx => ?_))) | (refine Cw.is ?_; (first | refine Cw.seq ?_ | refine Cw.region ?_ | refine Cw.cond_t rfl rfl ?_ | refine Cw.cond_f rfl rfl ?_ | refine Cw.block ?_ | refine Cw.ret ?_ | refine Cw.skip ?_ | refine Cw.drawL (n := 126) (id := 12) [(0, false), (1, false), (2, false), (3, false), (4, false), (5, false), (6, true), (7, false)] mixed (by kernel_rfl) ?_ | refine Cw.drawL (n := 126) (id := 15) [(0, false), (1, false), (2, false), (3, false), (4, false), (5, false), (6, false)] mixed (by kernel_rfl) ?_)) | (first | refine thenQ_n ?_ | refine thenQ_r ?_ | refine blockQ_n ?_ | refine blockQ_r ?_ | (refine loudQ.is ?_; first | refine loudQ.go pkA ?_ | refine loudQ.goE (by ac_rfl) ?_)) | (refine Dw.is ?_; (first | refine Dw.q rfl rfl trivial (by (first | exact Pu.move rfl | exact Pu.assign rfl | exact Pu.fld rfl | exact Pu.nilCheck rfl | exact Pu.build (ps := []) (vs := []) (cs := [vi 0, vi 0, vi 0, vi 0, vi 0, vi 0, vi 0]) trivial (fun w => by kernel_rfl) | (apply Pu.kLoad; (first | exact Pu.loadN (a := ⟨g, 0 + 13 + x.t.toNat * 7 + 0, none⟩) (vs := w.it.cs) rfl pkA hit rfl | exact Pu.load (a := ⟨g, 0 + 13 + x.t.toNat * 7 + 6, none⟩) rfl pkA hph | exact Pu.load (a := ⟨g, 0 + 12, none⟩) rfl pkA (gpW_rb g q rb _ _ _ _) | exact Pu.load_cl rfl pkA rfl | exact Pu.loadN_cl rfl pkA rfl rfl)) | (apply Pu.kIdx; (first | exact Pu.idxA_b rfl rfl (by omega) | exact Pu.idxA_b rfl rfl (by omega))) | (apply Pu.kUn; (first | exact Pu.not rfl)))) ?_ | refine Dw.q rfl rfl ⟨_, _, rfl, rfl, rfl⟩ (by (first | exact Pu.move rfl | exact Pu.assign rfl | exact Pu.fld rfl | exact Pu.nilCheck rfl | exact Pu.build (ps := []) (vs := []) (cs := [vi 0, vi 0, vi 0, vi 0, vi 0, vi 0, vi 0]) trivial (fun w => by kernel_rfl) | (apply Pu.kLoad; (first | exact Pu.loadN (a := ⟨g, 0 + 13 + x.t.toNat * 7 + 0, none⟩) (vs := w.it.cs) rfl pkA hit rfl | exact Pu.load (a := ⟨g, 0 + 13 + x.t.toNat * 7 + 6, none⟩) rfl pkA hph | exact Pu.load (a := ⟨g, 0 + 12, none⟩) rfl pkA (gpW_rb g q rb _ _ _ _) | exact Pu.load_cl rfl pkA rfl | exact Pu.loadN_cl rfl pkA rfl rfl)) | (apply Pu.kIdx; (first | exact Pu.idxA_b rfl rfl (by omega) | exact Pu.idxA_b rfl rfl (by omega))) | (apply Pu.kUn; (first | exact Pu.not rfl)))) ?_ | refine Dw.nilE ?_ rfl | refine Dw.lE rfl trivial ?_ | refine Dw.lE rfl ⟨_, _, rfl, rfl, rfl⟩ ?_))))
        refine retQ_cN default Tryd.results10 rfl pkA rfl rfl rfl ?_
        refine Ent.trans ?_ (Ent.left (Ent.left (gph_mk g q { s with T := s.T.set x.t.toNat (some (c, ⟨th.r, th.s, ⟨w.it, 0⟩⟩)) } (rb := rb) (W := W.set x.t.toNat ⟨w.it, 0⟩) (O := s.O) (G := s.G) (T := s.T.map sltO) rfl rfl (hTm ⟨w.it, 0⟩) (by simpa using hWl) (hW_set hT hWl hW x.t.toNat (c, ⟨th.r, th.s, ⟨w.it, 0⟩⟩)))))
        ((try simp only [star_assoc]); (repeat (apply Ent.pk; exact pkA)); first | exact Ent.fin pkA | exact Ent.refl _)
  · have hdo : ∀ p : SV × Nat, doG p.1 p.2 q s x full = (s, 0, 0) := fun p => by unfold doG; rw [if_neg hk2, if_neg hk]
    simp only [hdo]
    (refine Fn.of Tryd.func10 rfl (by kernel_rfl) Tryd.ntmps10 rfl (fun F => ?_))
    ((refine Cw.heq (by simp only [star_assoc, emp_star, star_emp]; exact rfl) ?_); refine Cw.opn (gph_ex g q s) (fun y => ?_); refine Cw.heq (star_assoc _ _ _) ?_; refine Cw.lift (fun hy => ?_); obtain ⟨rb, W⟩ := y; obtain ⟨hWl, hW⟩ := hy; dsimp only at hWl hW ⊢)
    (repeat' (first | (refine Ow.is ?_; (first | refine Ow.pu rfl (Pu.build (ps := [(0, .tmp 106), (1, .const (vi 1))]) (vs := [.agg x.cs.toArray, vi 1]) (cs := wkc ⟨x, 1⟩) evA (fun w => by kernel_rfl)) ?_ | refine Ow.pu rfl (Pu.fld rfl) ?_ | refine Ow.nil ?_ | refine Ow.pu rfl (Pu.move rfl) ?_ | refine Ow.pu rfl (Pu.assign rfl) ?_ | refine Ow.pu rfl (Pu.fld rfl) ?_ | refine Ow.pu rfl (Pu.nilCheck rfl) ?_ | (refine Ow.kLoad ?_; (first | refine Ow.pu rfl (Pu.loadN (a := ⟨g, 0 + 13 + x.t.toNat * 7 + 0, none⟩) (vs := w.it.cs) rfl pkA hit rfl) ?_ | refine Ow.pu rfl (Pu.load (a := ⟨g, 0 + 13 + x.t.toNat * 7 + 6, none⟩) rfl pkA hph) ?_ | refine Ow.pu rfl (Pu.load (a := ⟨g, 0 + 12, none⟩) rfl pkA (gpW_rb g q rb _ _ _ _)) ?_ | refine Ow.pu rfl (Pu.load_cl rfl pkA rfl) ?_ | refine Ow.pu rfl (Pu.loadN_cl rfl pkA rfl rfl) ?_)) | (refine Ow.kBin ?_; (first | (refine Ow.b_eql ?_; (first | refine Ow.pu rfl (Pu.eq_t rfl rfl roA) ?_ | refine Ow.pu rfl (Pu.eq_f rfl rfl odA) ?_)))) | (refine Ow.kStore ?_; (first | refine Ow.store_w (g := g) (q := q) (rb := rb) (O := _) (G := _) (T := _) (W := W) (j := x.t.toNat) ⟨x, 1⟩ (by omega) rfl rfl rfl pkA ?_ | refine Ow.store (a := ⟨g, 0 + 13 + x.t.toNat * 7 + 6, none⟩) rfl rfl rfl rfl pkA hw2 ?_ | refine Ow.store_cl rfl rfl rfl (by (first | rfl | assumption | exact Subtype.property _)) pkA rfl ?_ | refine Ow.storeN rfl rfl rfl rfl rfl pkA rfl ?_)) | (refine Ow.kCall ?_; (first | refine Ow.callE evA pkA rfl hsp (fun _ => ?_) | fail)) | refine Ow.alloc rfl (fun bx => ?_) | refine Ow.box rfl rfl rfl (fun bx => ?_))) | (refine Cw.is ?_; (first | refine Cw.seq ?_ | refine Cw.region ?_ | refine Cw.cond_t rfl rfl ?_ | refine Cw.cond_f rfl rfl ?_ | refine Cw.block ?_ | refine Cw.ret ?_ | refine Cw.skip ?_)) | (first | refine thenQ_n ?_ | refine thenQ_r ?_ | refine blockQ_n ?_ | refine blockQ_r ?_ | (refine loudQ.is ?_; first | refine loudQ.go pkA ?_ | refine loudQ.goE (by ac_rfl) ?_)) | (refine Dw.is ?_; (first | refine Dw.q rfl rfl trivial (by (first | exact Pu.move rfl | exact Pu.assign rfl | exact Pu.fld rfl | exact Pu.nilCheck rfl | exact Pu.build (ps := []) (vs := []) (cs := [vi 0, vi 0, vi 0, vi 0, vi 0, vi 0, vi 0]) trivial (fun w => by kernel_rfl) | (apply Pu.kLoad; (first | exact Pu.loadN (a := ⟨g, 0 + 13 + x.t.toNat * 7 + 0, none⟩) (vs := w.it.cs) rfl pkA hit rfl | exact Pu.load (a := ⟨g, 0 + 13 + x.t.toNat * 7 + 6, none⟩) rfl pkA hph | exact Pu.load (a := ⟨g, 0 + 12, none⟩) rfl pkA (gpW_rb g q rb _ _ _ _) | exact Pu.load_cl rfl pkA rfl | exact Pu.loadN_cl rfl pkA rfl rfl)) | (apply Pu.kIdx; (first | exact Pu.idxA_b rfl rfl (by omega) | exact Pu.idxA_b rfl rfl (by omega))))) ?_ | refine Dw.q rfl rfl ⟨_, _, rfl, rfl, rfl⟩ (by (first | exact Pu.move rfl | exact Pu.assign rfl | exact Pu.fld rfl | exact Pu.nilCheck rfl | exact Pu.build (ps := []) (vs := []) (cs := [vi 0, vi 0, vi 0, vi 0, vi 0, vi 0, vi 0]) trivial (fun w => by kernel_rfl) | (apply Pu.kLoad; (first | exact Pu.loadN (a := ⟨g, 0 + 13 + x.t.toNat * 7 + 0, none⟩) (vs := w.it.cs) rfl pkA hit rfl | exact Pu.load (a := ⟨g, 0 + 13 + x.t.toNat * 7 + 6, none⟩) rfl pkA hph | exact Pu.load (a := ⟨g, 0 + 12, none⟩) rfl pkA (gpW_rb g q rb _ _ _ _) | exact Pu.load_cl rfl pkA rfl | exact Pu.loadN_cl rfl pkA rfl rfl)) | (apply Pu.kIdx; (first | exact Pu.idxA_b rfl rfl (by omega) | exact Pu.idxA_b rfl rfl (by omega))))) ?_ | refine Dw.nilE ?_ rfl | refine Dw.lE rfl trivial ?_ | refine Dw.lE rfl ⟨_, _, rfl, rfl, rfl⟩ ?_))))
    refine retQ_cN default Tryd.results10 rfl pkA rfl rfl rfl ?_
    refine Ent.trans ?_ (Ent.left (Ent.left (gph_mk g q s (rb := rb) rfl rfl rfl hWl hW)))
    ((try simp only [star_assoc]); (repeat (apply Ent.pk; exact pkA)); first | exact Ent.fin pkA | exact Ent.refl _)
end
end Go.Sl
namespace Go.Sl
open Go Go.Proofs
set_option linter.unusedVariables false
set_option linter.unusedSimpArgs false
theorem pow_lt64 (i : Nat) : 2 ^ (i % 64) < M64 := by rw [m64]; exact Nat.pow_lt_pow_right (by decide) (Nat.mod_lt _ (by decide))
theorem pow_pos' (i : Nat) : 0 < 2 ^ (i % 64) := Nat.pow_pos (by decide)
theorem ws_rd (S : Nat → Bool) {m k : Nat} (h : k < m) (a : Addr) (x y : Nat) : RdA (slk 1 (.slice (some a) x y) ((ws S m).map vw)) (a.add k) (vw (wd S k)) :=
  rd_slk (v := .slice (some a) x y) (by rw [List.getElem?_map, ws_at S h]; rfl)
theorem ws_wr (S : Nat → Bool) {m i : Nat} (h : i / 64 < m) (v : Bool) {w : Nat} (hw : wd (upd S i v) (i / 64) = w) (a : Addr) (x y : Nat) : WrA (slk 1 (.slice (some a) x y) ((ws S m).map vw)) (a.add (i / 64)) (vw w) (slk 1 (.slice (some a) x y) ((ws (upd S i v) m).map vw)) := by
  have h1 : (ws (upd S i v) m).map vw = ((ws S m).map vw).set (i / 64) (vw w) := by rw [← ws_upd S m i v w hw, List.map_set]
  rw [h1]
  exact wr_slk (v := .slice (some a) x y) (by rw [List.length_map, ws_len]; exact h)
attribute [local irreducible] star Ow Cw Pk Pu Dw thenQ blockQ retQ loudQ Cr andI orI xorI IntKind.wrap wd ws bset
variable (b n : Nat) (S : Nat → Bool)
theorem Put_i (hn : n ≤ 1000000) (i : Nat) (h : i < n) : Fn Tryd.prog 34 [.pointer (some ⟨b, 0, none⟩), vi i] (bset b n S) Unit (fun _ => .bool (!S i)) (fun _ => bset b n (upd S i true)) := by
  have hk : i / 64 < (n + 63) / 64 := by omega
  have hm := pow_lt64 i
  have hz := wd_lt S (i / 64)
  have hr := ws_rd S hk
  have hw := ws_wr S hk true (wd_or S i)
  have hand := and_nat hz hm
  rw [wd_test] at hand
  have hpp := pow_pos' i
  cases hS : S i
  all_goals rw [hS] at hand
  · rw [if_neg (by decide)] at hand
    (refine Fn.of Tryd.func34 rfl (by kernel_rfl) Tryd.ntmps34 rfl (fun F => ?_))
    (repeat' (first | (refine Ow.is ?_; (first | refine Ow.nil ?_ | refine Ow.pu rfl (Pu.move rfl) ?_ | refine Ow.pu rfl (Pu.assign rfl) ?_ | refine Ow.pu rfl (Pu.extract rfl rfl) ?_ | (refine Ow.kGuard ?_; (first | refine Ow.guard_yes rfl rfl rfl ?_)) | (refine Ow.kBin ?_; (first | (refine Ow.b_and ?_; refine Ow.pu rfl (Pu.and rfl rfl hand) ?_) | (refine Ow.b_eql ?_; (first | refine Ow.pu rfl (Pu.eq_t rfl rfl roA) ?_ | refine Ow.pu rfl (Pu.eq_f rfl rfl odA) ?_)))) | (refine Ow.kPick ?_; (first | refine Ow.pu rfl (Pu.pick_t rfl rfl) ?_)) | (refine Ow.kCall ?_; (first | refine Ow.callE evA pkA rfl (AOr_fn (hr _ _ _) hz hm (hw _ _ _)) (fun _ => ?_) | refine Ow.callE evA pkA rfl (place_t b n S hn i h) (fun p => Ow.assoc ?_) | fail)))) | (refine Cw.is ?_; (first | refine Cw.seq ?_ | refine Cw.region ?_ | refine Cw.ret ?_)) | (first | refine thenQ_n ?_)))
    refine retQ_v () Tryd.results34 rfl rfl ?_
    refine Ent.trans ?_ (Ent.left (bset_l b n (upd S i true) ⟨some p.1.1, p.1.2.1, p.1.2.2⟩)); ((try simp only [star_assoc]); (repeat (apply Ent.pk; exact pkA)); first | exact Ent.fin pkA | exact Ent.refl _)
  · rw [if_pos rfl] at hand
    (refine Fn.of Tryd.func34 rfl (by kernel_rfl) Tryd.ntmps34 rfl (fun F => ?_))
    (repeat' (first | (refine Ow.is ?_; (first | refine Ow.nil ?_ | refine Ow.pu rfl (Pu.move rfl) ?_ | refine Ow.pu rfl (Pu.assign rfl) ?_ | refine Ow.pu rfl (Pu.extract rfl rfl) ?_ | (refine Ow.kGuard ?_; (first | refine Ow.guard_yes rfl rfl rfl ?_)) | (refine Ow.kBin ?_; (first | (refine Ow.b_and ?_; refine Ow.pu rfl (Pu.and rfl rfl hand) ?_) | (refine Ow.b_eql ?_; (first | refine Ow.pu rfl (Pu.eq_t rfl rfl roA) ?_ | refine Ow.pu rfl (Pu.eq_f rfl rfl odA) ?_)))) | (refine Ow.kPick ?_; (first | refine Ow.pu rfl (Pu.pick_t rfl rfl) ?_)) | (refine Ow.kCall ?_; (first | refine Ow.callE evA pkA rfl (AOr_fn (hr _ _ _) hz hm (hw _ _ _)) (fun _ => ?_) | refine Ow.callE evA pkA rfl (place_t b n S hn i h) (fun p => Ow.assoc ?_) | fail)))) | (refine Cw.is ?_; (first | refine Cw.seq ?_ | refine Cw.region ?_ | refine Cw.ret ?_)) | (first | refine thenQ_n ?_)))
    refine retQ_v () Tryd.results34 rfl rfl ?_
    refine Ent.trans ?_ (Ent.left (bset_l b n (upd S i true) ⟨some p.1.1, p.1.2.1, p.1.2.2⟩)); ((try simp only [star_assoc]); (repeat (apply Ent.pk; exact pkA)); first | exact Ent.fin pkA | exact Ent.refl _)
theorem Has_i (hn : n ≤ 1000000) (i : Nat) (h : i < n) : Fn Tryd.prog 19 [.pointer (some ⟨b, 0, none⟩), vi i] (bset b n S) Unit (fun _ => .bool (S i)) (fun _ => bset b n S) := by
  have hk : i / 64 < (n + 63) / 64 := by omega
  have hm := pow_lt64 i
  have hz := wd_lt S (i / 64)
  have hr := ws_rd S hk
  have hand := and_nat hz hm
  rw [wd_test] at hand
  have hpp := pow_pos' i
  cases hS : S i
  all_goals rw [hS] at hand
  · rw [if_neg (by decide)] at hand
    (refine Fn.of Tryd.func19 rfl (by kernel_rfl) Tryd.ntmps19 rfl (fun F => ?_))
    (repeat' (first | (refine Ow.is ?_; (first | refine Ow.nil ?_ | refine Ow.pu rfl (Pu.move rfl) ?_ | refine Ow.pu rfl (Pu.assign rfl) ?_ | refine Ow.pu rfl (Pu.extract rfl rfl) ?_ | (refine Ow.kGuard ?_; (first | refine Ow.guard_yes rfl rfl rfl ?_)) | (refine Ow.kBin ?_; (first | (refine Ow.b_and ?_; refine Ow.pu rfl (Pu.and rfl rfl hand) ?_) | (refine Ow.b_neq ?_; (first | refine Ow.pu rfl (Pu.ne_t rfl rfl odA) ?_ | refine Ow.pu rfl (Pu.ne_f rfl rfl roA) ?_)))) | (refine Ow.kPick ?_; (first | refine Ow.pu rfl (Pu.pick_t rfl rfl) ?_)) | (refine Ow.kCall ?_; (first | refine Ow.callE evA pkA rfl (ALoad_fn (hr _ _ _)) (fun _ => ?_) | refine Ow.callE evA pkA rfl (place_t b n S hn i h) (fun p => Ow.assoc ?_) | fail)))) | (refine Cw.is ?_; (first | refine Cw.seq ?_ | refine Cw.region ?_ | refine Cw.ret ?_)) | (first | refine thenQ_n ?_)))
    refine retQ_v () Tryd.results19 rfl rfl ?_
    refine Ent.trans ?_ (Ent.left (bset_l b n S ⟨some p.1.1, p.1.2.1, p.1.2.2⟩)); ((try simp only [star_assoc]); (repeat (apply Ent.pk; exact pkA)); first | exact Ent.fin pkA | exact Ent.refl _)
  · rw [if_pos rfl] at hand
    (refine Fn.of Tryd.func19 rfl (by kernel_rfl) Tryd.ntmps19 rfl (fun F => ?_))
    (repeat' (first | (refine Ow.is ?_; (first | refine Ow.nil ?_ | refine Ow.pu rfl (Pu.move rfl) ?_ | refine Ow.pu rfl (Pu.assign rfl) ?_ | refine Ow.pu rfl (Pu.extract rfl rfl) ?_ | (refine Ow.kGuard ?_; (first | refine Ow.guard_yes rfl rfl rfl ?_)) | (refine Ow.kBin ?_; (first | (refine Ow.b_and ?_; refine Ow.pu rfl (Pu.and rfl rfl hand) ?_) | (refine Ow.b_neq ?_; (first | refine Ow.pu rfl (Pu.ne_t rfl rfl odA) ?_ | refine Ow.pu rfl (Pu.ne_f rfl rfl roA) ?_)))) | (refine Ow.kPick ?_; (first | refine Ow.pu rfl (Pu.pick_t rfl rfl) ?_)) | (refine Ow.kCall ?_; (first | refine Ow.callE evA pkA rfl (ALoad_fn (hr _ _ _)) (fun _ => ?_) | refine Ow.callE evA pkA rfl (place_t b n S hn i h) (fun p => Ow.assoc ?_) | fail)))) | (refine Cw.is ?_; (first | refine Cw.seq ?_ | refine Cw.region ?_ | refine Cw.ret ?_)) | (first | refine thenQ_n ?_)))
    refine retQ_v () Tryd.results19 rfl rfl ?_
    refine Ent.trans ?_ (Ent.left (bset_l b n S ⟨some p.1.1, p.1.2.1, p.1.2.2⟩)); ((try simp only [star_assoc]); (repeat (apply Ent.pk; exact pkA)); first | exact Ent.fin pkA | exact Ent.refl _)
theorem Has_v (hn : n ≤ 1000000) (i : Nat) (h : i < n) {v : Bool} (hS : S i = v) : Fn Tryd.prog 19 [.pointer (some ⟨b, 0, none⟩), vi i] (bset b n S) Unit (fun _ => .bool v) (fun _ => bset b n S) := hS ▸ Has_i b n S hn i h
theorem Put_t (hn : n ≤ 1000000) (i : Nat) (h : i < n) (hS : S i = false) : Fn Tryd.prog 34 [.pointer (some ⟨b, 0, none⟩), vi i] (bset b n S) Unit (fun _ => .bool true) (fun _ => bset b n (upd S i true)) := by
  have h1 := Put_i b n S hn i h
  rw [hS] at h1; exact h1
theorem Put_f (hn : n ≤ 1000000) (i : Nat) (h : i < n) (hS : S i = true) : Fn Tryd.prog 34 [.pointer (some ⟨b, 0, none⟩), vi i] (bset b n S) Unit (fun _ => .bool false) (fun _ => bset b n (upd S i true)) := by
  have h1 := Put_i b n S hn i h
  rw [hS] at h1; exact h1
end Go.Sl
namespace Go.Sl
open Go
set_option linter.unusedVariables false
def pcN (x : Nat) : Nat → Nat
  | 0 => 0
  | j + 1 => pcN x j + (x.testBit j).toNat
def bval : List Nat → Nat
  | [] => 0
  | a :: l => a + 256 * bval l
def mk8 (c : Nat) : Nat → Nat
  | 0 => 0
  | k + 1 => c + 256 * mk8 c k
theorem and_cons {a c : Nat} (ha : a < 256) (hc : c < 256) (y d : Nat) : (a + 256 * y) &&& (c + 256 * d) = (a &&& c) + 256 * (y &&& d) := by
  refine Nat.eq_of_testBit_eq fun j => ?_
  have h : (a &&& c) < 2 ^ 8 := Nat.and_lt_two_pow a (by simpa using hc)
  rw [show a + 256 * y = 2 ^ 8 * y + a by omega, show c + 256 * d = 2 ^ 8 * d + c by omega, show (a &&& c) + 256 * (y &&& d) = 2 ^ 8 * (y &&& d) + (a &&& c) by omega]
  rw [Nat.testBit_and, Nat.testBit_two_pow_mul_add _ (by simpa using ha), Nat.testBit_two_pow_mul_add _ (by simpa using hc), Nat.testBit_two_pow_mul_add _ h]
  split
  · rw [Nat.testBit_and]
  · rw [Nat.testBit_and]
def h1 (a : Nat) : Nat := (a / 2 &&& 85) + (a &&& 85)
def h2 (a : Nat) : Nat := (a / 4 &&& 51) + (a &&& 51)
def h3 (a : Nat) : Nat := (a / 16 + a) &&& 15
theorem k1 : ∀ a, a < 256 → ∀ t, t < 2 → (a / 2 + 128 * t) &&& 85 = a / 2 &&& 85 := by decide +kernel
theorem k2 : ∀ a, a < 256 → ∀ t, t < 4 → (a / 4 + 64 * t) &&& 51 = a / 4 &&& 51 := by decide +kernel
theorem k3 : ∀ a, a < 69 → ∀ t, t < 5 → (a / 16 + a + 16 * t) &&& 15 = (a / 16 + a) &&& 15 := by decide +kernel
theorem h1_lt : ∀ a, a < 256 → h1 a < 256 := by decide +kernel
theorem h2_ok : ∀ a, a < 256 → h2 (h1 a) < 69 ∧ h2 (h1 a) % 16 < 5 := by decide +kernel
theorem h_pc : ∀ a, a < 256 → h3 (h2 (h1 a)) = pcN a 8 := by decide +kernel
theorem pc8_le : ∀ a, a < 256 → pcN a 8 ≤ 8 := by decide +kernel
theorem s1 : ∀ l : List Nat, (∀ a ∈ l, a < 256) → (bval l / 2 &&& mk8 85 l.length) + (bval l &&& mk8 85 l.length) = bval (l.map h1)
  | [], _ => by simp [bval, mk8]
  | a :: l, h => by
    have ha := h a (List.mem_cons_self ..)
    have ih := s1 l (fun b hb => h b (List.mem_cons_of_mem _ hb))
    have e : (a + 256 * bval l) / 2 = (a / 2 + 128 * (bval l % 2)) + 256 * (bval l / 2) := by omega
    simp only [bval, List.length_cons, mk8, List.map_cons]
    rw [e, and_cons (by omega) (by decide), and_cons ha (by decide), k1 a ha _ (by omega), ← ih, h1]
    omega
theorem s2 : ∀ l : List Nat, (∀ a ∈ l, a < 256) → (bval l / 4 &&& mk8 51 l.length) + (bval l &&& mk8 51 l.length) = bval (l.map h2)
  | [], _ => by simp [bval, mk8]
  | a :: l, h => by
    have ha := h a (List.mem_cons_self ..)
    have ih := s2 l (fun b hb => h b (List.mem_cons_of_mem _ hb))
    have e : (a + 256 * bval l) / 4 = (a / 4 + 64 * (bval l % 4)) + 256 * (bval l / 4) := by omega
    simp only [bval, List.length_cons, mk8, List.map_cons]
    rw [e, and_cons (by omega) (by decide), and_cons ha (by decide), k2 a ha _ (by omega), ← ih, h2]
    omega
theorem s3 : ∀ l : List Nat, (∀ a ∈ l, a < 69 ∧ a % 16 < 5) → (bval l / 16 + bval l) &&& mk8 15 l.length = bval (l.map h3)
  | [], _ => by simp [bval, mk8]
  | a :: l, h => by
    have ha := h a (List.mem_cons_self ..)
    have ih := s3 l (fun b hb => h b (List.mem_cons_of_mem _ hb))
    have ht : bval l % 16 < 5 := by
      cases l with
      | nil => simp [bval]
      | cons b l =>
        have hb := (h b (List.mem_cons_of_mem _ (List.mem_cons_self ..))).2
        simp only [bval]; omega
    have e : (a + 256 * bval l) / 16 + (a + 256 * bval l) = (a / 16 + a + 16 * (bval l % 16)) + 256 * (bval l / 16 + bval l) := by omega
    simp only [bval, List.length_cons, mk8, List.map_cons]
    rw [e, and_cons (by omega) (by decide), k3 a ha.1 _ ht, ih, h3]
theorem pcN_cons {a : Nat} (ha : a < 256) (y : Nat) : ∀ j, pcN (a + 256 * y) (8 + j) = pcN a 8 + pcN y j := by
  have hb : ∀ t, (a + 256 * y).testBit t = if t < 8 then a.testBit t else y.testBit (t - 8) := fun t => by
    rw [show a + 256 * y = 2 ^ 8 * y + a by omega, Nat.testBit_two_pow_mul_add _ (by simpa using ha)]
  intro j
  induction j with
  | zero => simp [pcN, hb]
  | succ j ih =>
    have e1 : pcN (a + 256 * y) (8 + (j + 1)) = pcN (a + 256 * y) (8 + j) + ((a + 256 * y).testBit (8 + j)).toNat := rfl
    have e2 : pcN y (j + 1) = pcN y j + (y.testBit j).toNat := rfl
    rw [e1, e2, ih, hb, if_neg (by omega), show 8 + j - 8 = j by omega, Nat.add_assoc]
theorem pcN_bval : ∀ l : List Nat, (∀ a ∈ l, a < 256) → pcN (bval l) (8 * l.length) = (l.map fun a => pcN a 8).sum
  | [], _ => by simp [bval, pcN]
  | a :: l, h => by
    have ha := h a (List.mem_cons_self ..)
    have ih := pcN_bval l (fun b hb => h b (List.mem_cons_of_mem _ hb))
    rw [List.length_cons, show 8 * (l.length + 1) = 8 + 8 * l.length by omega, bval, pcN_cons ha, ih]
    simp
def bytsN : Nat → Nat → List Nat
  | 0, _ => []
  | k + 1, x => x % 256 :: bytsN k (x / 256)
theorem bytsN_val : ∀ (k x : Nat), x < 256 ^ k → bval (bytsN k x) = x
  | 0, x, h => by simp at h; simp [bytsN, bval, h]
  | k + 1, x, h => by
    have := bytsN_val k (x / 256) (Nat.div_lt_of_lt_mul (by rw [Nat.pow_succ, Nat.mul_comm] at h; exact h))
    rw [bytsN, bval, this]; omega
theorem bytsN_lt : ∀ (k x : Nat), ∀ a ∈ bytsN k x, a < 256
  | 0, x, a, h => by simp [bytsN] at h
  | k + 1, x, a, h => by
    rw [bytsN] at h
    rcases List.mem_cons.1 h with rfl | h
    · omega
    · exact bytsN_lt k _ a h
theorem bytsN_len : ∀ (k x : Nat), (bytsN k x).length = k
  | 0, x => rfl
  | k + 1, x => by rw [bytsN, List.length_cons, bytsN_len k]
def byts (x : Nat) : List Nat := bytsN 8 x
theorem byts_val {x : Nat} (h : x < 18446744073709551616) : bval (byts x) = x := bytsN_val 8 x (by rw [show (256 : Nat) ^ 8 = 18446744073709551616 from by decide]; exact h)
theorem byts_lt (x : Nat) : ∀ a ∈ byts x, a < 256 := bytsN_lt 8 x
theorem byts_len (x : Nat) : (byts x).length = 8 := bytsN_len 8 x
theorem fold8 (p0 p1 p2 p3 p4 p5 p6 p7 t1 t2 t3 t4 t5 t6 t7 : Nat) (h : p0 ≤ 8 ∧ p1 ≤ 8 ∧ p2 ≤ 8 ∧ p3 ≤ 8 ∧ p4 ≤ 8 ∧ p5 ≤ 8 ∧ p6 ≤ 8 ∧ p7 ≤ 8) (x3 x4 x5 x6 : Nat) (e0 : x3 = p0 + 256 * t1) (e1 : t1 = p1 + 256 * t2) (e2 : t2 = p2 + 256 * t3) (e3 : t3 = p3 + 256 * t4) (e4 : t4 = p4 + 256 * t5) (e5 : t5 = p5 + 256 * t6) (e6 : t6 = p6 + 256 * t7) (e7 : t7 = p7)
    (h4 : x4 = x3 + x3 / 256) (h5 : x5 = x4 + x4 / 65536) (h6 : x6 = x5 + x5 / 4294967296) :
    x6 % 128 = p0 + p1 + p2 + p3 + p4 + p5 + p6 + p7 ∧ x6 < 9223372036854775808 := by
  have d1 : x3 / 256 = t1 := by clear h4 h5 h6 e1 e2 e3 e4 e5 e6 e7; omega
  rw [d1] at h4
  have d2 : x4 / 65536 = t2 + t3 := by
    have q : x4 = (p0 + p1 + 256 * (p1 + p2)) + 65536 * (t2 + t3) := by clear h5 h6 e3 e4 e5 e6 e7 d1; omega
    clear h4 h5 h6 e0 e1 e2 e3 e4 e5 e6 e7 d1; omega
  rw [d2] at h5
  have d3 : x5 / 4294967296 = t4 + t5 + (t6 + t7) := by
    have q0 : x3 = p0 + 256 * p1 + 65536 * p2 + 16777216 * p3 + 4294967296 * t4 := by clear h4 h5 h6 e4 e5 e6 e7 d1 d2; omega
    have q1 : t1 = p1 + 256 * p2 + 65536 * p3 + 16777216 * p4 + 4294967296 * t5 := by clear h4 h5 h6 e0 e5 e6 e7 d1 d2 q0; omega
    have q2 : t2 = p2 + 256 * p3 + 65536 * p4 + 16777216 * p5 + 4294967296 * t6 := by clear h4 h5 h6 e0 e1 e6 e7 d1 d2 q0 q1; omega
    have q3 : t3 = p3 + 256 * p4 + 65536 * p5 + 16777216 * p6 + 4294967296 * t7 := by clear h4 h5 h6 e0 e1 e2 e7 d1 d2 q0 q1 q2; omega
    clear h6 e0 e1 e2 e3 e4 e5 e6 e7 d1 d2
    subst h4
    omega
  rw [d3] at h6
  clear d1 d2 d3
  subst h4 h5
  constructor
  · have m : ∀ p t : Nat, (p + 256 * t) % 128 = p % 128 := fun p t => by omega
    have s : x6 = x3 + t1 + (t2 + t3) + (t4 + t5 + (t6 + t7)) := h6
    clear h6
    omega
  · omega
theorem ones_math {x x1 x2 x3 x4 x5 x6 : Nat} (hx : x < 18446744073709551616) (g1 : (x / 2 &&& 6148914691236517205) + (x &&& 6148914691236517205) = x1) (g2 : (x1 / 4 &&& 3689348814741910323) + (x1 &&& 3689348814741910323) = x2)
    (g3 : (x2 / 16 + x2) &&& 1085102592571150095 = x3) (g4 : x3 + x3 / 256 = x4) (g5 : x4 + x4 / 65536 = x5) (g6 : x5 + x5 / 4294967296 = x6) : x6 % 128 = pcN x 64 ∧ x6 < 9223372036854775808 ∧ x5 ≤ x6 ∧ x4 ≤ x5 ∧ x3 ≤ x4 := by
  have hl := byts_lt x
  have hv := byts_val hx
  have q1 := s1 (byts x) hl
  rw [hv, show mk8 85 (byts x).length = 6148914691236517205 from by rw [byts_len]; decide, g1] at q1
  have q2 := s2 ((byts x).map h1) (fun a ha => by obtain ⟨c, hc, rfl⟩ := List.mem_map.1 ha; exact h1_lt c (hl c hc))
  rw [← q1, show mk8 51 ((byts x).map h1).length = 3689348814741910323 from by rw [List.length_map, byts_len]; decide, g2] at q2
  have q3 := s3 (((byts x).map h1).map h2) (fun a ha => by
    obtain ⟨c, hc, rfl⟩ := List.mem_map.1 ha
    obtain ⟨d, hd, rfl⟩ := List.mem_map.1 hc
    exact h2_ok d (hl d hd))
  rw [← q2, show mk8 15 (((byts x).map h1).map h2).length = 1085102592571150095 from by rw [List.length_map, List.length_map, byts_len]; decide, g3] at q3
  have q4 : x3 = bval ((byts x).map fun a => pcN a 8) := by
    rw [q3, List.map_map, List.map_map]
    congr 1
    refine List.map_congr_left fun a ha => ?_
    exact h_pc a (hl a ha)
  have q5 := pcN_bval (byts x) hl
  rw [hv, byts_len] at q5
  have hp : ∀ a ∈ byts x, pcN a 8 ≤ 8 := fun a ha => pc8_le a (hl a ha)
  have hlen := byts_len x
  generalize byts x = B at q4 q5 hp hlen
  match B, hlen with
  | [a0, a1, a2, a3, a4, a5, a6, a7], _ =>
    simp only [List.map_cons, List.map_nil, bval] at q4
    simp only [List.map_cons, List.map_nil, List.sum_cons, List.sum_nil] at q5
    simp only [List.mem_cons, List.not_mem_nil, or_false, forall_eq_or_imp, forall_eq] at hp
    obtain ⟨r1, r2⟩ := fold8 _ _ _ _ _ _ _ _ _ _ _ _ _ _ _ hp x3 x4 x5 x6 q4 rfl rfl rfl rfl rfl rfl (by rw [Nat.mul_zero, Nat.add_zero]) g4.symm g5.symm g6.symm
    refine ⟨?_, r2, by rw [← g6]; exact Nat.le_add_right _ _, by rw [← g5]; exact Nat.le_add_right _ _, by rw [← g4]; exact Nat.le_add_right _ _⟩
    rw [r1, q5]
    simp only [Nat.add_zero, Nat.add_assoc]
theorem and_i127 {x : Nat} (h : x < 9223372036854775808) : andI .i64 (x : Int) 127 = ((x % 128 : Nat) : Int) := by
  unfold andI
  rw [show IntKind.i64.bits = 64 from rfl, BitVec.toNat_and, ofInt_nat (by have hm : M64 = 18446744073709551616 := rfl; omega), show (BitVec.ofInt 64 127).toNat = 2 ^ 7 - 1 from by decide, Nat.and_two_pow_sub_one_eq_mod]
  have : x % 2 ^ 7 < 128 := Nat.mod_lt _ (by decide)
  rw [wrap_i64 (by omega)]
end Go.Sl
namespace Go.Sl
open Go Go.Proofs
set_option linter.unusedVariables false
set_option linter.unusedSimpArgs false
abbrev m5 : Nat := 6148914691236517205
abbrev m3 : Nat := 3689348814741910323
abbrev mf : Nat := 1085102592571150095
section
variable {P : Program} {n : Nat} {ρ : Env} {H : HP} {t t' t'' : TypeId} {x y : Operand} {a b c : Nat}
theorem Pu.shrE (s q : Nat) (hx : ev ρ x = some (.int .u64 (a : Int))) (hy : ev ρ y = some (.int .u64 (s : Int))) (hq : 2 ^ s = q) (hs : s ≤ 64) (hc : a / q = c) : Pu P n ρ H (.binOp .shr t x y t') t'' (.int .u64 (c : Int)) := by
  have := Pu.shrN (P := P) (n := n) (H := H) (t := t) (t' := t') (t'' := t'') s ((q : Nat) : Int) hx hy (by rw [← hq, Int.natCast_pow]; rfl) hs (by omega)
  rw [← hc, Int.natCast_ediv]; exact this
theorem Pu.andE (m : Nat) (hx : ev ρ x = some (.int .u64 (a : Int))) (hy : ev ρ y = some (.int .u64 (m : Int))) (ha : a < 18446744073709551616) (hm : m < 18446744073709551616) (hc : (a &&& m) = c) : Pu P n ρ H (.binOp .and t x y t') t'' (.int .u64 (c : Int)) :=
  Pu.and hx hy (by rw [and_nat ha hm, hc])
theorem Pu.addE (hx : ev ρ x = some (.int .u64 (a : Int))) (hy : ev ρ y = some (.int .u64 (b : Int))) (hc : a + b = c) (hl : c < 18446744073709551616) : Pu P n ρ H (.binOp .add t x y t') t'' (.int .u64 (c : Int)) :=
  Pu.add hx hy (by rw [wrap_u64 (by omega)]; omega)
end
attribute [local irreducible] star Ow Cw Pk Pu Dw thenQ blockQ retQ loudQ Cr andI orI xorI IntKind.wrap wd ws bset pcN
theorem ones_fn (x : Nat) (hx : x < 18446744073709551616) : Fn Tryd.prog 38 [vw x] emp Unit (fun _ => vi (pcN x 64)) (fun _ => emp) := by
  obtain ⟨y1, e1⟩ : ∃ y, x / 2 = y := ⟨_, rfl⟩
  obtain ⟨z1, f1⟩ : ∃ y, y1 &&& m5 = y := ⟨_, rfl⟩
  obtain ⟨w1, f1'⟩ : ∃ y, x &&& m5 = y := ⟨_, rfl⟩
  obtain ⟨x1, g1⟩ : ∃ y, z1 + w1 = y := ⟨_, rfl⟩
  obtain ⟨y2, e2⟩ : ∃ y, x1 / 4 = y := ⟨_, rfl⟩
  obtain ⟨z2, f2⟩ : ∃ y, y2 &&& m3 = y := ⟨_, rfl⟩
  obtain ⟨w2, f2'⟩ : ∃ y, x1 &&& m3 = y := ⟨_, rfl⟩
  obtain ⟨x2, g2⟩ : ∃ y, z2 + w2 = y := ⟨_, rfl⟩
  obtain ⟨y3, e3⟩ : ∃ y, x2 / 16 = y := ⟨_, rfl⟩
  obtain ⟨w3, f3⟩ : ∃ y, y3 + x2 = y := ⟨_, rfl⟩
  obtain ⟨x3, g3⟩ : ∃ y, w3 &&& mf = y := ⟨_, rfl⟩
  obtain ⟨y4, e4⟩ : ∃ y, x3 / 256 = y := ⟨_, rfl⟩
  obtain ⟨x4, g4⟩ : ∃ y, x3 + y4 = y := ⟨_, rfl⟩
  obtain ⟨y5, e5⟩ : ∃ y, x4 / 65536 = y := ⟨_, rfl⟩
  obtain ⟨x5, g5⟩ : ∃ y, x4 + y5 = y := ⟨_, rfl⟩
  obtain ⟨y6, e6⟩ : ∃ y, x5 / 4294967296 = y := ⟨_, rfl⟩
  obtain ⟨x6, g6⟩ : ∃ y, x5 + y6 = y := ⟨_, rfl⟩
  have l1 : z1 ≤ 6148914691236517205 := by rw [← f1]; exact Nat.and_le_right
  have l2 : w1 ≤ 6148914691236517205 := by rw [← f1']; exact Nat.and_le_right
  have l3 : z2 ≤ 3689348814741910323 := by rw [← f2]; exact Nat.and_le_right
  have l4 : w2 ≤ 3689348814741910323 := by rw [← f2']; exact Nat.and_le_right
  obtain ⟨r1, r2, r3, r4, r5⟩ := ones_math (x1 := x1) (x2 := x2) (x3 := x3) (x4 := x4) (x5 := x5) (x6 := x6) hx (by rw [e1, f1, f1', g1]) (by rw [e2, f2, f2', g2]) (by rw [e3, f3, g3]) (by rw [e4, g4]) (by rw [e5, g5]) (by rw [e6, g6])
  have h127 := and_i127 r2
  have lx1 : x1 < 18446744073709551616 := by omega
  have ly1 : y1 < 18446744073709551616 := by omega
  have ly2 : y2 < 18446744073709551616 := by omega
  have lx2 : x2 < 18446744073709551616 := by omega
  have lw3 : w3 < 18446744073709551616 := by omega
  have lx3 : x3 < 18446744073709551616 := by omega
  have lx4 : x4 < 18446744073709551616 := by omega
  have lx5 : x5 < 18446744073709551616 := by omega
  have lx6 : x6 < 18446744073709551616 := by omega
  rw [r1] at h127
  have hcv : -9223372036854775808 ≤ (x6 : Int) ∧ (x6 : Int) ≤ 9223372036854775807 := (by have q := r2; exact ⟨Int.le_trans (by decide) (Int.natCast_nonneg x6), by omega⟩)
  clear r1 r3 r4 r5 l1 l2 l3 l4
  (refine Fn.of Tryd.func38 rfl (by kernel_rfl) Tryd.ntmps38 rfl (fun F => ?_))
  refine Cw.heq (emp_star F) ?_
  (repeat' (first | (refine Ow.is ?_; (first | refine Ow.nil ?_ | refine Ow.pu rfl (Pu.move rfl) ?_ | refine Ow.pu rfl (Pu.assign rfl) ?_ | (refine Ow.kBin ?_; (first | (refine Ow.b_add ?_; refine Ow.pu rfl (Pu.addE rfl rfl (by assumption) (by assumption)) ?_) | (refine Ow.b_and ?_; refine Ow.pu rfl (Pu.and rfl rfl h127) ?_) | (refine Ow.b_and ?_; refine Ow.pu rfl (Pu.andE mf rfl rfl (by assumption) (by decide) (by assumption)) ?_) | (refine Ow.b_and ?_; refine Ow.pu rfl (Pu.andE m3 rfl rfl (by assumption) (by decide) (by assumption)) ?_) | (refine Ow.b_and ?_; refine Ow.pu rfl (Pu.andE m5 rfl rfl (by assumption) (by decide) (by assumption)) ?_) | (refine Ow.b_shr ?_; refine Ow.pu rfl (Pu.shrE 32 4294967296 rfl rfl (by decide) (by decide) (by assumption)) ?_) | (refine Ow.b_shr ?_; refine Ow.pu rfl (Pu.shrE 16 65536 rfl rfl (by decide) (by decide) (by assumption)) ?_) | (refine Ow.b_shr ?_; refine Ow.pu rfl (Pu.shrE 8 256 rfl rfl (by decide) (by decide) (by assumption)) ?_) | (refine Ow.b_shr ?_; refine Ow.pu rfl (Pu.shrE 4 16 rfl rfl (by decide) (by decide) (by assumption)) ?_) | (refine Ow.b_shr ?_; refine Ow.pu rfl (Pu.shrE 2 4 rfl rfl (by decide) (by decide) (by assumption)) ?_) | (refine Ow.b_shr ?_; refine Ow.pu rfl (Pu.shrE 1 2 rfl rfl (by decide) (by decide) (by assumption)) ?_))) | (refine Ow.kConv ?_; (first | refine Ow.pu rfl (Pu.conv_i rfl hcv) ?_ | refine Ow.pu rfl (Pu.conv_i rfl (by omega)) ?_)))) | (refine Cw.is ?_; (first | refine Cw.seq ?_ | refine Cw.region ?_ | refine Cw.ret ?_)) | (first | refine thenQ_n ?_)))
  refine retQ_v () Tryd.results38 rfl rfl ?_
  refine Ent.trans ?_ (Ent.of_eq (emp_star F).symm); ((try simp only [star_assoc]); (repeat (apply Ent.pk; exact pkA)); first | exact Ent.fin pkA | exact Ent.refl _)
def cn (S : Nat → Bool) : Nat → Nat
  | 0 => 0
  | j + 1 => cn S j + (S j).toNat
theorem cn_wd (S : Nat → Bool) (k : Nat) : ∀ j, j ≤ 64 → cn S (64 * k + j) = cn S (64 * k) + pcN (wd S k) j
  | 0, _ => by unfold pcN; simp
  | j + 1, h => by
    have ih := cn_wd S k j (by omega)
    have e1 : cn S (64 * k + (j + 1)) = cn S (64 * k + j) + (S (64 * k + j)).toNat := rfl
    have e2 : pcN (wd S k) (j + 1) = pcN (wd S k) j + ((wd S k).testBit j).toNat := by rw [pcN]
    rw [e1, e2, ih, wd_bit, decide_eq_true (by omega : j < 64), Bool.true_and, Nat.add_assoc]
theorem cn_step (S : Nat → Bool) (k : Nat) : cn S (64 * (k + 1)) = cn S (64 * k) + pcN (wd S k) 64 := by rw [← cn_wd S k 64 (by omega)]; rfl
theorem cn_sup (S : Nat → Bool) {n : Nat} (h : ∀ i, n ≤ i → S i = false) : ∀ t, cn S (n + t) = cn S n
  | 0 => rfl
  | t + 1 => by
    have e1 : cn S (n + (t + 1)) = cn S (n + t) + (S (n + t)).toNat := rfl
    rw [e1, cn_sup S h t, h _ (by omega)]; rfl
theorem cn_le (S : Nat → Bool) : ∀ j, cn S j ≤ j
  | 0 => Nat.le_refl _
  | j + 1 => by
    have := cn_le S j
    have e1 : cn S (j + 1) = cn S j + (S j).toNat := rfl
    have e2 : (S j).toNat ≤ 1 := by cases S j <;> simp
    omega
def Sup (n : Nat) (S : Nat → Bool) : Prop := ∀ i, n ≤ i → S i = false
theorem Pu.len_ws {P : Program} {n : Nat} {ρ : Env} {H R : HP} {t T e : TypeId} {x : Operand} {v : Value} {S : Nat → Bool} {m : Nat} [TT : TyU P T (.slice e)] (hx : ev ρ x = some v) (hp : Pk H (slk 1 v ((ws S m).map vw)) R) : Pu P n ρ H (.call { callee := .builtin .len, args := #[x], argTypes := #[T] }) t (.int .i64 m) := by
  have := Pu.len_slm (P := P) (n := n) (t := t) (T := T) (e := e) (TT := TT) hx hp
  rwa [ws_len] at this
variable (b n : Nat) (S : Nat → Bool)
theorem BCount_fn (hn : n ≤ 1000000) (hS : Sup n S) : Fn Tryd.prog 20 [.pointer (some ⟨b, 0, none⟩)] (bset b n S) Unit (fun _ => vi (cn S n)) (fun _ => bset b n S) := by
  have hend : cn S (64 * ((n + 63) / 64)) = cn S n := by
    have := cn_sup S hS (64 * ((n + 63) / 64) - n)
    rwa [show n + (64 * ((n + 63) / 64) - n) = 64 * ((n + 63) / 64) by omega] at this
  (refine Fn.of Tryd.func20 rfl (by kernel_rfl) Tryd.ntmps20 rfl (fun F => ?_))
  (repeat' (first | (refine Ow.is ?_; (first | refine Ow.nil ?_ | refine Ow.pu rfl (Pu.move rfl) ?_ | refine Ow.pu rfl (Pu.assign rfl) ?_ | (refine Ow.kBin ?_; (first | (refine Ow.b_lss ?_; first | refine Ow.pu rfl (Pu.lt_t rfl rfl (by omega)) ?_ | refine Ow.pu rfl (Pu.lt_f rfl rfl (by omega)) ?_ | refine Ow.sp rfl (by exact Pu.lt rfl rfl) (fun hc => ?_) (fun hc => ?_)) | (refine Ow.b_add ?_; refine Ow.pu rfl (Pu.add_i rfl rfl (by omega)) ?_))) | (refine Ow.kIdx ?_; (first | refine Ow.pu rfl (Pu.idx_sln rfl rfl pkA (by rw [List.length_map, ws_len]; omega)) ?_ | refine Ow.pu rfl (Pu.idx_sln rfl rfl pkA (by simp only [List.length_map, List.length_append, List.length_set, List.length_replicate, List.length_cons, List.length_nil]; omega)) ?_)) | (refine Ow.kBuiltin ?_; (first | refine Ow.pu rfl (Pu.len_ws rfl pkA) ?_)) | (refine Ow.kCall ?_; (first | refine Ow.callE evA pkA rfl (ALoad_fn hr) (fun _ => ?_) | refine Ow.callE evA pkA rfl (words_fn b n S hn) (fun v => Ow.assoc ?_) | refine Ow.callE0 evA rfl (ones_fn _ hz) (fun _ => Ow.unemp ?_) | fail)))) | (refine Cw.is ?_; (first | refine Cw.seq ?_ | refine Cw.region ?_ | refine Cw.cond_t rfl rfl ?_ | refine Cw.cond_f rfl rfl ?_ | refine Cw.block ?_ | refine Cw.ret ?_ | refine Cw.exit ?_ | refine Cw.skip ?_)) | (first | refine thenQ_n ?_ | refine thenQ_e ?_ | refine blockQ_n ?_ | refine blockQ_e ?_)))
  have hbl := bset_l b n S v
  unfold lset at hbl
  have hm : (n + 63) / 64 ≤ 20000 := by omega
  generalize (n + 63) / 64 = m at hend hm hbl ⊢
  refine Cw.loopS [3, 5, 10, 11, 12, 13, 14, 15, 16, 17, 18, 19, 20] (by (repeat first | exact er_nil | apply er_drop rfl | apply er_keep rfl)) (fun k : Nat => k ≤ m) (fun k => [(3, vi (cn S (64 * k))), (10, vi k)]) (fun k => m - k) 0 (by omega) (by (repeat first | exact trivial | refine ⟨rfl, ?_⟩)) (fun k hk => ?_)
  by_cases hlt : k < m
  · have hz := wd_lt S k
    have hr : RdA (slk 1 v.v ((ws S m).map vw)) ((sbase v.v).add k) (vw (wd S k)) := rd_slk (by rw [List.getElem?_map, ws_at S hlt]; rfl)
    have hc := cn_step S k
    have hc1 := cn_le S (64 * k)
    have hc2 := cn_le S (64 * (k + 1))
    (repeat' (first | (refine Ow.is ?_; (first | refine Ow.nil ?_ | refine Ow.pu rfl (Pu.move rfl) ?_ | refine Ow.pu rfl (Pu.assign rfl) ?_ | (refine Ow.kBin ?_; (first | (refine Ow.b_lss ?_; first | refine Ow.pu rfl (Pu.lt_t rfl rfl (by omega)) ?_ | refine Ow.pu rfl (Pu.lt_f rfl rfl (by omega)) ?_ | refine Ow.sp rfl (by exact Pu.lt rfl rfl) (fun hc => ?_) (fun hc => ?_)) | (refine Ow.b_add ?_; refine Ow.pu rfl (Pu.add_i rfl rfl (by omega)) ?_))) | (refine Ow.kIdx ?_; (first | refine Ow.pu rfl (Pu.idx_sln rfl rfl pkA (by rw [List.length_map, ws_len]; omega)) ?_ | refine Ow.pu rfl (Pu.idx_sln rfl rfl pkA (by simp only [List.length_map, List.length_append, List.length_set, List.length_replicate, List.length_cons, List.length_nil]; omega)) ?_)) | (refine Ow.kBuiltin ?_; (first | refine Ow.pu rfl (Pu.len_ws rfl pkA) ?_)) | (refine Ow.kCall ?_; (first | refine Ow.callE evA pkA rfl (ALoad_fn hr) (fun _ => ?_) | refine Ow.callE evA pkA rfl (words_fn b n S hn) (fun v => Ow.assoc ?_) | refine Ow.callE0 evA rfl (ones_fn _ hz) (fun _ => Ow.unemp ?_) | fail)))) | (refine Cw.is ?_; (first | refine Cw.seq ?_ | refine Cw.region ?_ | refine Cw.cond_t rfl rfl ?_ | refine Cw.cond_f rfl rfl ?_ | refine Cw.block ?_ | refine Cw.ret ?_ | refine Cw.exit ?_ | refine Cw.skip ?_)) | (first | refine thenQ_n ?_ | refine thenQ_e ?_ | refine blockQ_n ?_ | refine blockQ_e ?_)))
    exact ⟨rfl, k + 1, by omega, by omega, by rw [hc]; (repeat first | exact trivial | refine ⟨rfl, ?_⟩), by ((try simp only [star_assoc]); (repeat (apply Ent.pk; exact pkA)); first | exact Ent.fin pkA | exact Ent.refl _)⟩
  · obtain rfl : k = m := by omega
    rw [hend]
    (repeat' (first | (refine Ow.is ?_; (first | refine Ow.nil ?_ | refine Ow.pu rfl (Pu.move rfl) ?_ | refine Ow.pu rfl (Pu.assign rfl) ?_ | (refine Ow.kBin ?_; (first | (refine Ow.b_lss ?_; first | refine Ow.pu rfl (Pu.lt_t rfl rfl (by omega)) ?_ | refine Ow.pu rfl (Pu.lt_f rfl rfl (by omega)) ?_ | refine Ow.sp rfl (by exact Pu.lt rfl rfl) (fun hc => ?_) (fun hc => ?_)) | (refine Ow.b_add ?_; refine Ow.pu rfl (Pu.add_i rfl rfl (by omega)) ?_))) | (refine Ow.kIdx ?_; (first | refine Ow.pu rfl (Pu.idx_sln rfl rfl pkA (by rw [List.length_map, ws_len]; omega)) ?_ | refine Ow.pu rfl (Pu.idx_sln rfl rfl pkA (by simp only [List.length_map, List.length_append, List.length_set, List.length_replicate, List.length_cons, List.length_nil]; omega)) ?_)) | (refine Ow.kBuiltin ?_; (first | refine Ow.pu rfl (Pu.len_ws rfl pkA) ?_)) | (refine Ow.kCall ?_; (first | refine Ow.callE evA pkA rfl (ALoad_fn hr) (fun _ => ?_) | refine Ow.callE evA pkA rfl (words_fn b n S hn) (fun v => Ow.assoc ?_) | refine Ow.callE0 evA rfl (ones_fn _ hz) (fun _ => Ow.unemp ?_) | fail)))) | (refine Cw.is ?_; (first | refine Cw.seq ?_ | refine Cw.region ?_ | refine Cw.cond_t rfl rfl ?_ | refine Cw.cond_f rfl rfl ?_ | refine Cw.block ?_ | refine Cw.ret ?_ | refine Cw.exit ?_ | refine Cw.skip ?_)) | (first | refine thenQ_n ?_ | refine thenQ_e ?_ | refine blockQ_n ?_ | refine blockQ_e ?_)))
    refine retQ_v () Tryd.results20 rfl rfl ?_
    refine Ent.trans ?_ (Ent.left hbl); ((try simp only [star_assoc]); (repeat (apply Ent.pk; exact pkA)); first | exact Ent.fin pkA | exact Ent.refl _)
def clr (S : Nat → Bool) (k : Nat) : Nat → Bool := fun i => if i < 64 * k then false else S i
def stAt {σ : Type} (b n : Nat) (S : σ → Nat → Bool) (J : Nat → σ → HP) (i : Nat) : HP := Sl.ex fun s => bset b n (S s) * J i s
attribute [local irreducible] stAt
end Go.Sl
namespace Go.Sl
open Go Go.Proofs
set_option linter.unusedVariables false
set_option linter.unusedSimpArgs false
abbrev S0 : Nat → Bool := fun _ => false
theorem cn_zero : ∀ j, cn S0 j = 0
  | 0 => rfl
  | j + 1 => by rw [cn, cn_zero j]; rfl
theorem cn_upd (S : Nat → Bool) (i : Nat) (v : Bool) : ∀ j, (j ≤ i → cn (upd S i v) j = cn S j) ∧ (i < j → cn (upd S i v) j + (S i).toNat = cn S j + v.toNat)
  | 0 => ⟨fun _ => rfl, fun h => by omega⟩
  | j + 1 => by
    obtain ⟨h1, h2⟩ := cn_upd S i v j
    have e1 : cn (upd S i v) (j + 1) = cn (upd S i v) j + (upd S i v j).toNat := rfl
    have e2 : cn S (j + 1) = cn S j + (S j).toNat := rfl
    constructor
    · intro h
      rw [e1, e2, h1 (by omega), upd_ne S v (by omega)]
    · intro h
      by_cases hj : i = j
      · subst hj
        rw [e1, e2, h1 (by omega), upd_same]; omega
      · rw [e1, e2, upd_ne S v (by omega)]
        have := h2 (by omega); omega
theorem cn_put {S : Nat → Bool} {i n : Nat} (hi : i < n) (h : S i = false) : cn (upd S i true) n = cn S n + 1 := by
  have := (cn_upd S i true n).2 hi
  rw [h] at this; simpa using this
theorem cn_drop {S : Nat → Bool} {i n : Nat} (hi : i < n) (h : S i = true) : cn (upd S i false) n + 1 = cn S n := by
  have := (cn_upd S i false n).2 hi
  rw [h] at this; simpa using this
attribute [local irreducible] star Ow Cw Pk Pu Dw thenQ blockQ retQ loudQ Cr andI orI xorI IntKind.wrap bset stAt
end Go.Sl
namespace Go.Sl
open Go Go.Proofs
set_option linter.unusedVariables false
set_option linter.unusedSectionVars false
section
variable {α : Type} [Inhabited α] {O : List (Obj α)} {R : List Int}
def flds (O : List (Obj α)) (z : Int) : List Int := (O[(z - 1).toNat]!).2.1
inductive Rch (O : List (Obj α)) (R : List Int) : Int → Prop
  | root {z : Int} : z ∈ R → z ≠ 0 → Rch O R z
  | step {z y : Int} : Rch O R z → y ∈ flds O z → y ≠ 0 → Rch O R y
structure OkO (O : List (Obj α)) (R : List Int) : Prop where
  r : ∀ z ∈ R, okR O.length z
  o : ∀ x ∈ O, x.2.1.length ≤ 6 ∧ ∀ z ∈ x.2.1, okR O.length z
theorem OkO.f (h : OkO O R) {z : Int} (hz : 1 ≤ z ∧ z ≤ O.length) : (flds O z).length ≤ 6 ∧ ∀ y ∈ flds O z, okR O.length y := by
  unfold flds
  rw [getElem!_pos O (z - 1).toNat (by omega)]
  exact h.o _ (List.getElem_mem _)
theorem Rch.ok (h : OkO O R) {z : Int} (hz : Rch O R z) : 1 ≤ z ∧ z ≤ O.length := by
  induction hz with
  | root h1 h2 => have := h.r _ h1; unfold okR at this; omega
  | step _ h1 h2 ih => have := (h.f ih).2 _ h1; unfold okR at this; omega
open Classical in
noncomputable def rchB (O : List (Obj α)) (R : List Int) : Nat → Bool := fun z => decide (Rch O R z)
theorem rchB_t {z : Nat} : rchB O R z = true ↔ Rch O R z := by unfold rchB; simp
theorem rchB_sup (h : OkO O R) : Sup (O.length + 1) (rchB O R) := fun i hi => by
  cases e : rchB O R i with
  | false => rfl
  | true => have := (rchB_t.1 e).ok h; omega
structure Wl (O : List (Obj α)) (R : List Int) (V : Nat → Bool) (l : List Int) : Prop where
  hv : ∀ z : Nat, V z = true → Rch O R z ∧ 1 ≤ z ∧ z ≤ O.length
  hl : ∀ z ∈ l, okR O.length z ∧ (z ≠ 0 → Rch O R z)
  hr : ∀ z ∈ R, z ≠ 0 → V z.toNat = true ∨ z ∈ l
  hc : ∀ z : Nat, V z = true → ∀ y ∈ flds O z, y ≠ 0 → V y.toNat = true ∨ y ∈ l
theorem Wl.start (h : OkO O R) {l : List Int} (hll : ∀ z, z ≠ 0 → (z ∈ l ↔ z ∈ R)) (hl2 : ∀ z ∈ l, okR O.length z) : Wl O R S0 l where
  hv z hz := by cases hz
  hl z hz := ⟨hl2 z hz, fun h0 => .root ((hll z h0).1 hz) h0⟩
  hr z hz h0 := .inr ((hll z h0).2 hz)
  hc z hz := by cases hz
theorem Wl.skip {V : Nat → Bool} {l : List Int} {z : Int} (h : Wl O R V (l ++ [z])) (hz : z = 0 ∨ V z.toNat = true) : Wl O R V l where
  hv := h.hv
  hl y hy := h.hl y (List.mem_append_left _ hy)
  hr y hy h0 := by
    rcases h.hr y hy h0 with h1 | h1
    · exact .inl h1
    · rcases List.mem_append.1 h1 with h1 | h1
      · exact .inr h1
      · have : y = z := by simpa using h1
        subst this
        rcases hz with hz | hz
        · exact (h0 hz).elim
        · exact .inl hz
  hc x hx y hy h0 := by
    rcases h.hc x hx y hy h0 with h1 | h1
    · exact .inl h1
    · rcases List.mem_append.1 h1 with h1 | h1
      · exact .inr h1
      · have : y = z := by simpa using h1
        subst this
        rcases hz with hz | hz
        · exact (h0 hz).elim
        · exact .inl hz
theorem Wl.put {V : Nat → Bool} {l : List Int} {z : Int} (h : Wl O R V (l ++ [z])) (ho : OkO O R) (hz : z ≠ 0) : Wl O R (upd V z.toNat true) (l ++ flds O z) := by
  obtain ⟨hz1, hz2⟩ := h.hl z (by simp)
  have hzr := hz2 hz
  have hz3 : 1 ≤ z ∧ z ≤ O.length := hzr.ok ho
  have hup : ∀ y : Nat, V y = true → upd V z.toNat true y = true := fun y hy => by
    by_cases e : z.toNat = y
    · rw [← e, upd_same]
    · rw [upd_ne _ _ (by omega)]; exact hy
  have hin : ∀ y : Int, y ∈ l ++ [z] → upd V z.toNat true y.toNat = true ∨ y ∈ l ++ flds O z := fun y hy => by
    rcases List.mem_append.1 hy with h1 | h1
    · exact .inr (List.mem_append_left _ h1)
    · have : y = z := by simpa using h1
      subst this
      exact .inl (upd_same _ _ _)
  refine ⟨fun y hy => ?_, fun y hy => ?_, fun y hy h0 => ?_, fun x hx y hy h0 => ?_⟩
  · by_cases e : z.toNat = y
    · have : z = (y : Int) := by omega
      rw [← this]; exact ⟨hzr, by omega, by omega⟩
    · rw [upd_ne _ _ (by omega)] at hy; exact h.hv y hy
  · rcases List.mem_append.1 hy with h1 | h1
    · exact h.hl y (List.mem_append_left _ h1)
    · exact ⟨(ho.f hz3).2 y h1, fun h0 => .step hzr h1 h0⟩
  · rcases h.hr y hy h0 with h1 | h1
    · exact .inl (hup _ h1)
    · exact hin y h1
  · by_cases e : z.toNat = x
    · have e2 : z = (x : Int) := by omega
      rw [← e2] at hy
      exact .inr (List.mem_append_right _ hy)
    · rw [upd_ne _ _ (by omega)] at hx
      rcases h.hc x hx y hy h0 with h1 | h1
      · exact .inl (hup _ h1)
      · exact hin y h1
theorem Wl.done {V : Nat → Bool} (h : Wl O R V []) (ho : OkO O R) : V = rchB O R := by
  have key : ∀ z : Int, Rch O R z → V z.toNat = true := fun z hz => by
    induction hz with
    | root h1 h2 => exact (h.hr _ h1 h2).resolve_right (by simp)
    | step h0 h1 h2 ih =>
      rename_i z y
      have hz := h0.ok ho
      have e : z = (z.toNat : Int) := by omega
      rw [e] at h1
      exact (h.hc _ ih _ h1 h2).resolve_right (by simp)
  funext z
  cases e : V z with
  | true => exact (rchB_t.2 (h.hv z e).1).symm
  | false =>
    cases e2 : rchB O R z with
    | false => rfl
    | true => have := key z (rchB_t.1 e2); rw [Int.toNat_natCast, e] at this; cases this
def wlM (n : Nat) (V : Nat → Bool) (l : List Int) : Nat := 7 * (n + 1 - cn V (n + 1)) + l.length
theorem wlM_put {V : Nat → Bool} {l : List Int} {z : Int} (h : Wl O R V (l ++ [z])) (ho : OkO O R) (hz : z ≠ 0) (hV : V z.toNat = false) : wlM O.length (upd V z.toNat true) (l ++ flds O z) < wlM O.length V (l ++ [z]) := by
  have hz3 : 1 ≤ z ∧ z ≤ O.length := ((h.hl z (by simp)).2 hz).ok ho
  have h1 := cn_put (n := O.length + 1) (by omega) hV
  have h2 := cn_le (upd V z.toNat true) (O.length + 1)
  have h3 := (ho.f hz3).1
  unfold wlM
  simp only [List.length_append, List.length_cons, List.length_nil]
  omega
theorem wlM_skip {n : Nat} {V : Nat → Bool} {l : List Int} {z : Int} : wlM n V l < wlM n V (l ++ [z]) := by
  unfold wlM; simp
theorem wlM_len {n : Nat} {V : Nat → Bool} {l : List Int} : l.length ≤ wlM n V l := by unfold wlM; omega
theorem wlM_0 (n : Nat) (l : List Int) : wlM n S0 l = 7 * (n + 1) + l.length := by unfold wlM; rw [cn_zero]; rfl
variable {β : Type} [Inhabited β]
def rtsG : Option (β × ThS) → List Int
  | none => []
  | some p => p.2.r ++ p.2.s
def rootsG (s : GS α β) : List Int := s.G ++ s.T.flatMap rtsG
theorem GsOk.oko {q : Cfg} {s : GS α β} (h : GsOk q s) : OkO s.O (rootsG s) where
  r z hz := by
    rcases List.mem_append.1 hz with h1 | h1
    · exact h.g z h1
    · obtain ⟨o, ho, hzo⟩ := List.mem_flatMap.1 h1
      obtain ⟨j, hj, rfl⟩ := List.mem_iff_getElem.1 ho
      have hj4 : j < 4 := by rw [h.tl] at hj; exact hj
      cases e : s.T[j] with
      | none => rw [e] at hzo; cases hzo
      | some p =>
        rw [e] at hzo
        have ht := (h.t j p.1 p.2 hj4 (by rw [getElem!_pos s.T j hj, e])).1
        rcases List.mem_append.1 hzo with h2 | h2
        · exact ht.r z h2
        · exact ht.s z h2
  o := h.o
theorem rootsG_len {q : Cfg} {s : GS α β} (h : GsOk q s) (hq : QOk q) : (rootsG s).length ≤ 68 := by
  have h4 := h.tl
  have key : ∀ j, j < 4 → (rtsG s.T[j]!).length ≤ 16 := fun j hj => by
    cases e : s.T[j]! with
    | none => simp [rtsG]
    | some p =>
      have ht := (h.t j p.1 p.2 hj e).1
      have h1 := ht.rl
      have h2 := ht.sl
      have := hq.rg
      have := hq.st
      simp only [rtsG, List.length_append]
      omega
  have h0 := key 0 (by omega)
  have h1 := key 1 (by omega)
  have h2 := key 2 (by omega)
  have h3 := key 3 (by omega)
  have hg := h.gl
  have := hq.gl
  obtain ⟨O, G, T⟩ := s
  simp only at h4
  match T, h4 with
  | [t0, t1, t2, t3], _ =>
    simp only [rootsG, List.flatMap_cons, List.flatMap_nil, List.length_append, List.length_nil]
    have e0 : ([t0, t1, t2, t3] : List (Option (β × ThS)))[0]! = t0 := rfl
    have e1 : ([t0, t1, t2, t3] : List (Option (β × ThS)))[1]! = t1 := rfl
    have e2 : ([t0, t1, t2, t3] : List (Option (β × ThS)))[2]! = t2 := rfl
    have e3 : ([t0, t1, t2, t3] : List (Option (β × ThS)))[3]! = t3 := rfl
    rw [e0] at h0; rw [e1] at h1; rw [e2] at h2; rw [e3] at h3
    simp only at hg
    omega
end
def wlN (T : List Slt) : Nat → List Int
  | 0 => []
  | j + 1 => wlN T j ++ rts T[j]!
theorem wl_nz (T : List Slt) : ∀ j, (lvN T j).flatMap (fun j => nz (rts T[j]!)) = nz (wlN T j)
  | 0 => rfl
  | j + 1 => by
    rw [lvN, wlN, List.flatMap_append, wl_nz T j, nz_append]
    cases h : T[j]! with
    | none => simp [rts, nz]
    | some q => rw [show (if (some q : Slt).isSome = true then [j] else []) = [j] from rfl]; simp only [List.flatMap_cons, List.flatMap_nil, List.append_nil, h]
theorem all_wl (G : List Int) (T : List Slt) : allR G T = nz (G ++ wlN T 4) := by
  rw [allR, lvR, List.take_length, nz_append, ← wl_nz]; rfl
end Go.Sl
namespace Go.Sl
open Go
set_option linter.unusedVariables false
universe u
section
variable {P : Program} {n : Nat} {ρ : Env} {H : HP} {t t' t'' : TypeId} {x y : Operand}
end
section
variable {P : Program} {fn : Func} {β : Type u} {val : β → Value} {post : β → HP} {F H H' : HP} {ρ : Env} {D : Nat} {ds : List Deferred} {ex : Exit}
end
end Go.Sl
