/- The thread's laws: what all share. -/
import Derived.Test.YtmlgcldohaiohaaThR
namespace Go.Sl
open Go Go.Proofs
set_option linter.unusedVariables false
set_option linter.unusedSimpArgs false
attribute [local irreducible] star Ow Cw Pk Pu Dw thenQ blockQ retQ loudQ Cr thr
theorem fit6_fn : Fn Try.prog 8 [] emp Unit (fun _ => .bool true) (fun _ => emp) := by
  (refine Fn.of Try.func8 rfl (by kernel_rfl) Try.ntmps8 rfl (fun F => ?_))
  refine Cw.heq (emp_star F) ?_
  (repeat' (first | (refine Ow.is ?_; (first | refine Ow.nil ?_ | refine Ow.pu rfl (Pu.move rfl) ?_ | refine Ow.pu rfl (Pu.assign rfl) ?_ | refine Ow.pu rfl (Pu.extract rfl rfl) ?_ | (refine Ow.kGuard ?_; (first | refine Ow.guard_yes rfl rfl rfl ?_ | refine Ow.guard_no rfl rfl rfl rfl ?_ | refine Ow.guard_u rfl rfl rfl rfl ?_ | (refine Ow.guard_s rfl rfl rfl rfl (fun hb => ?_) (fun hb => ?_) <;> ((try simp only [decide_eq_true_eq, decide_eq_false_iff_not, Bool.not_eq_true, Bool.not_eq_false, Bool.not_not, Bool.not_true, Bool.not_false, Bool.not_eq_true', Bool.not_eq_false', beq_iff_eq, beq_eq_false_iff_ne, Bool.and_eq_true, Bool.or_eq_true, ne_eq] at hb); (try subst hb))))) | (refine Ow.kBin ?_; (first | (refine Ow.b_eql ?_; (first | refine Ow.pu rfl (Pu.eq_t rfl rfl (by first | rfl | omega)) ?_ | refine Ow.pu rfl (Pu.eq_f rfl rfl (by first | omega | decide)) ?_ | refine Ow.sp rfl (by exact Pu.eqI rfl rfl) (fun hc => ?_) (fun hc => ?_) | refine Ow.pu rfl (Pu.eqB_same rfl rfl) ?_ | refine Ow.pu rfl (Pu.eqNil rfl rfl) ?_)) | (refine Ow.b_neq ?_; (first | refine Ow.pu rfl (Pu.ne_t rfl rfl (by first | omega | decide)) ?_ | refine Ow.pu rfl (Pu.ne_f rfl rfl (by first | rfl | omega)) ?_ | refine Ow.sp rfl (by exact Pu.neI rfl rfl) (fun hc => ?_) (fun hc => ?_) | refine Ow.pu rfl (Pu.neB_same rfl rfl) ?_)))) | (refine Ow.kPick ?_; (first | refine Ow.pu rfl (Pu.pick_t rfl rfl) ?_ | refine Ow.pu rfl (Pu.pick_f rfl rfl) ?_ | (refine Ow.pick_s rfl rfl rfl rfl (fun hb => ?_) (fun hb => ?_) <;> ((try simp only [decide_eq_true_eq, decide_eq_false_iff_not, Bool.not_eq_true, Bool.not_eq_false, Bool.not_not, Bool.not_true, Bool.not_false, Bool.not_eq_true', Bool.not_eq_false', beq_iff_eq, beq_eq_false_iff_ne, Bool.and_eq_true, Bool.or_eq_true, ne_eq] at hb); (try subst hb))))) | (refine Ow.kUn ?_; (first | refine Ow.pu rfl (Pu.not rfl) ?_)) | (refine Ow.kCall ?_; (first | refine Ow.callE0 (by ((repeat first | exact trivial | refine ⟨rfl, ?_⟩); first | done | fail)) rfl (New_fn 2 1 (by decide)) (fun b => ?_) | refine Ow.callE (by ((repeat first | exact trivial | refine ⟨rfl, ?_⟩); first | done | fail)) (by ((repeat first | exact pk0 | exact pkl | apply pkn); first | done | fail)) rfl (Pop_t _ _ _ _ (by decide) (by decide)) (fun _ => ?_) | refine Ow.callE (by ((repeat first | exact trivial | refine ⟨rfl, ?_⟩); first | done | fail)) (by ((repeat first | exact pk0 | exact pkl | apply pkn); first | done | fail)) rfl (Push_t _ _ _ _ _ (by decide) (by decide)) (fun _ => ?_) | refine Ow.callE (by ((repeat first | exact trivial | refine ⟨rfl, ?_⟩); first | done | fail)) (by ((repeat first | exact pk0 | exact pkl | apply pkn); first | done | fail)) rfl (Push_f _ _ _ _ _ (by decide)) (fun _ => ?_) | refine Ow.callE (by ((repeat first | exact trivial | refine ⟨rfl, ?_⟩); first | done | fail)) (by ((repeat first | exact pk0 | exact pkl | apply pkn); first | done | fail)) rfl (SetReg_t _ _ _ _ _ _ (by decide)) (fun _ => ?_) | refine Ow.callE (by ((repeat first | exact trivial | refine ⟨rfl, ?_⟩); first | done | fail)) (by ((repeat first | exact pk0 | exact pkl | apply pkn); first | done | fail)) rfl (Reg_t _ _ _ _ _ (by decide)) (fun _ => ?_) | refine Ow.callE (by ((repeat first | exact trivial | refine ⟨rfl, ?_⟩); first | done | fail)) (by ((repeat first | exact pk0 | exact pkl | apply pkn); first | done | fail)) rfl (Reg_f _ _ _ _ _ (by decide)) (fun _ => ?_) | refine Ow.callE (by ((repeat first | exact trivial | refine ⟨rfl, ?_⟩); first | done | fail)) (by ((repeat first | exact pk0 | exact pkl | apply pkn); first | done | fail)) rfl (Full_t _ _ _ _ (by decide)) (fun _ => ?_) | fail)))) | (refine Cw.is ?_; (first | refine Cw.seq ?_ | refine Cw.region ?_ | refine Cw.cond_t rfl rfl ?_ | refine Cw.cond_f rfl rfl ?_ | refine Cw.block ?_ | refine Cw.ret ?_ | refine Cw.exit ?_ | refine Cw.skip ?_ | (refine Cw.condE rfl (fun hb => ?_) (fun hb => ?_) <;> ((try simp only [decide_eq_true_eq, decide_eq_false_iff_not, Bool.not_eq_true, Bool.not_eq_false, Bool.not_not, Bool.not_true, Bool.not_false, Bool.not_eq_true', Bool.not_eq_false', beq_iff_eq, beq_eq_false_iff_ne, Bool.and_eq_true, Bool.or_eq_true, ne_eq] at hb); (try subst hb))))) | (first | refine thenQ_n ?_ | refine thenQ_r ?_ | refine thenQ_e ?_ | refine blockQ_n ?_ | refine blockQ_r ?_ | refine blockQ_e ?_ | refine blockQ_o rfl ?_ | refine Cr.step ?_)))
  refine retQ_v () Try.results8 rfl rfl ?_; refine Ent.trans ?_ (Ent.of_eq (emp_star F).symm); ((try simp only [star_assoc]); (repeat (apply Ent.pk; focus ((repeat first | exact pk0 | exact pkl | apply pkn); first | done | fail))); first | exact Ent.fin (by ((repeat first | exact pk0 | exact pkl | apply pkn); first | done | fail)) | exact Ent.refl _)
structure Dd where
  k : Int
  i : Int
  r : Int
instance : Inhabited Dd := ⟨⟨0, 0, 0⟩⟩
abbrev Dd.cs (d : Dd) : List Value := [vi d.k, vi d.i, vi d.r]
instance : Fl Dd.cs 3 := ⟨fun _ => rfl, by decide, fun _ => rfl⟩
theorem nz_ne (l : List Int) (i : Nat) (h : i < (nz l).length) : (nz l)[i]! ≠ 0 := by
  have h1 : (nz l)[i]! = (nz l)[i] := getElem!_pos (nz l) i h
  have h2 : (nz l)[i] ∈ nz l := List.getElem_mem h
  rw [h1]
  have := (List.mem_filter.1 h2).2
  simpa using this
theorem nz_le (l : List Int) : (nz l).length ≤ l.length := List.length_filter_le _ _
theorem nz_take (l : List Int) (p : Nat) (hp : p < l.length) : (l[p]! = 0 → nz (l.take (p + 1)) = nz (l.take p)) ∧ (l[p]! ≠ 0 → nz (l.take (p + 1)) = nz (l.take p) ++ [l[p]!]) := by
  have e1 : l.take (p + 1) = l.take p ++ [l[p]!] := by rw [List.take_add_one]; simp [hp]
  rw [e1, nz_append]
  exact ⟨fun h => by rw [h]; simp [nz], fun h => by congr 1; simp only [nz, List.filter_cons, List.filter_nil, decide_eq_true h, if_true]⟩
end Go.Sl
