/- The bit laws: fit, size; counts. -/
import Derived.Test.YteomgcebbjoklaaBi6
namespace Go.Sl
open Go Go.Proofs
set_option linter.unusedVariables false
set_option linter.unusedSimpArgs false
abbrev S0 : Nat → Bool := fun _ => false
theorem sup0 (n : Nat) : Sup n S0 := fun _ _ => rfl
theorem cn_zero : ∀ j, cn S0 j = 0
  | 0 => rfl
  | j + 1 => by rw [cn, cn_zero j]; rfl
theorem cn_upd (S : Nat → Bool) (i : Nat) (v : Bool) : ∀ j, (j ≤ i → cn (upd S i v) j = cn S j) ∧ (i < j → cn (upd S i v) j + (S i).toNat = cn S j + v.toNat)
  | 0 => ⟨fun _ => rfl, fun h => by omega⟩
  | j + 1 => by
    obtain ⟨h1, h2⟩ := cn_upd S i v j
    have e1 : cn (upd S i v) (j + 1) = cn (upd S i v) j + (upd S i v j).toNat := rfl
    have e2 : cn S (j + 1) = cn S j + (S j).toNat := rfl
    constructor
    · intro h
      rw [e1, e2, h1 (by omega), upd_ne S v (by omega)]
    · intro h
      by_cases hj : i = j
      · subst hj
        rw [e1, e2, h1 (by omega), upd_same]; omega
      · rw [e1, e2, upd_ne S v (by omega)]
        have := h2 (by omega); omega
theorem cn_put {S : Nat → Bool} {i n : Nat} (hi : i < n) (h : S i = false) : cn (upd S i true) n = cn S n + 1 := by
  have := (cn_upd S i true n).2 hi
  rw [h] at this; simpa using this
theorem cn_drop {S : Nat → Bool} {i n : Nat} (hi : i < n) (h : S i = true) : cn (upd S i false) n + 1 = cn S n := by
  have := (cn_upd S i false n).2 hi
  rw [h] at this; simpa using this
attribute [local irreducible] star Ow Cw Pk Pu Dw thenQ blockQ retQ loudQ Cr andI orI xorI IntKind.wrap bset stAt
theorem fit1_fn : Fn Try.prog 14 [] emp Unit (fun _ => .bool true) (fun _ => emp) := by
  (refine Fn.of Try.func14 rfl (by kernel_rfl) Try.ntmps14 rfl (fun F => ?_))
  refine Cw.heq (emp_star F) ?_
  have hsup : Sup 70 (upd (upd S0 66 true) 66 true) := ((sup0 70).upd (by decide) true).upd (by decide) true
  have hcnt := fun b => Count_fn b 70 (upd (upd S0 66 true) 66 true) (by decide) hsup
  have hc : cn (upd (upd S0 66 true) 66 true) 70 = 1 := by decide +kernel
  rw [hc] at hcnt
  (repeat' (first | (refine Ow.is ?_; (first | refine Ow.nil ?_ | refine Ow.pu rfl (Pu.move rfl) ?_ | refine Ow.pu rfl (Pu.assign rfl) ?_ | (refine Ow.kGuard ?_; (first | refine Ow.guard_yes rfl rfl rfl ?_ | refine Ow.guard_no rfl rfl rfl rfl ?_ | refine Ow.guard_u rfl rfl rfl rfl ?_ | (refine Ow.guard_s rfl rfl rfl rfl (fun hb => ?_) (fun hb => ?_) <;> ((try simp only [decide_eq_true_eq, decide_eq_false_iff_not, Bool.not_eq_true, Bool.not_eq_false, Bool.not_not, Bool.not_true, Bool.not_false, Bool.not_eq_true', Bool.not_eq_false', beq_iff_eq, beq_eq_false_iff_ne, Bool.and_eq_true, Bool.or_eq_true, ne_eq] at hb); (try subst hb))))) | (refine Ow.kBin ?_; (first | (refine Ow.b_eql ?_; (first | refine Ow.pu rfl (Pu.eq_t rfl rfl (by first | rfl | omega)) ?_ | refine Ow.pu rfl (Pu.eq_f rfl rfl (by first | omega | decide)) ?_ | refine Ow.sp rfl (by exact Pu.eqI rfl rfl) (fun hc => ?_) (fun hc => ?_) | refine Ow.pu rfl (Pu.eqB_same rfl rfl) ?_)) | (refine Ow.b_neq ?_; (first | refine Ow.pu rfl (Pu.neB_same rfl rfl) ?_ | refine Ow.pu rfl (Pu.neNil rfl rfl) ?_)))) | (refine Ow.kPick ?_; (first | refine Ow.pu rfl (Pu.pick_t rfl rfl) ?_ | refine Ow.pu rfl (Pu.pick_f rfl rfl) ?_ | (refine Ow.pick_s rfl rfl rfl rfl (fun hb => ?_) (fun hb => ?_) <;> ((try simp only [decide_eq_true_eq, decide_eq_false_iff_not, Bool.not_eq_true, Bool.not_eq_false, Bool.not_not, Bool.not_true, Bool.not_false, Bool.not_eq_true', Bool.not_eq_false', beq_iff_eq, beq_eq_false_iff_ne, Bool.and_eq_true, Bool.or_eq_true, ne_eq] at hb); (try subst hb))))) | (refine Ow.kUn ?_; (first | refine Ow.pu rfl (Pu.not rfl) ?_)) | (refine Ow.kCall ?_; (first | refine Ow.callE (by ((repeat first | exact trivial | refine ⟨rfl, ?_⟩); first | done | fail)) (by ((repeat first | exact pk0 | exact pkl | apply pkn); first | done | fail)) rfl (hcnt _) (fun _ => ?_) | refine Ow.callE (by ((repeat first | exact trivial | refine ⟨rfl, ?_⟩); first | done | fail)) (by ((repeat first | exact pk0 | exact pkl | apply pkn); first | done | fail)) rfl (Has_v b 70 _ (by decide) 2 (by decide) (v := false) rfl) (fun _ => ?_) | refine Ow.callE (by ((repeat first | exact trivial | refine ⟨rfl, ?_⟩); first | done | fail)) (by ((repeat first | exact pk0 | exact pkl | apply pkn); first | done | fail)) rfl (Has_v b 70 _ (by decide) 66 (by decide) (v := true) rfl) (fun _ => ?_) | refine Ow.callE (by ((repeat first | exact trivial | refine ⟨rfl, ?_⟩); first | done | fail)) (by ((repeat first | exact pk0 | exact pkl | apply pkn); first | done | fail)) rfl (Put_t b 70 _ (by decide) 66 (by decide) rfl) (fun _ => ?_) | refine Ow.callE (by ((repeat first | exact trivial | refine ⟨rfl, ?_⟩); first | done | fail)) (by ((repeat first | exact pk0 | exact pkl | apply pkn); first | done | fail)) rfl (Put_f b 70 _ (by decide) 66 (by decide) rfl) (fun _ => ?_) | refine Ow.callE0 (by ((repeat first | exact trivial | refine ⟨rfl, ?_⟩); first | done | fail)) rfl (New_fn _ 70 (by decide)) (fun b => ?_) | fail)))) | (refine Cw.is ?_; (first | refine Cw.seq ?_ | refine Cw.region ?_ | refine Cw.cond_t rfl rfl ?_ | refine Cw.cond_f rfl rfl ?_ | refine Cw.block ?_ | refine Cw.ret ?_ | refine Cw.exit ?_ | refine Cw.skip ?_ | (refine Cw.condE rfl (fun hb => ?_) (fun hb => ?_) <;> ((try simp only [decide_eq_true_eq, decide_eq_false_iff_not, Bool.not_eq_true, Bool.not_eq_false, Bool.not_not, Bool.not_true, Bool.not_false, Bool.not_eq_true', Bool.not_eq_false', beq_iff_eq, beq_eq_false_iff_ne, Bool.and_eq_true, Bool.or_eq_true, ne_eq] at hb); (try subst hb))))) | (first | refine thenQ_n ?_ | refine thenQ_r ?_ | refine thenQ_e ?_ | refine blockQ_n ?_ | refine blockQ_r ?_ | refine blockQ_e ?_ | refine blockQ_o rfl ?_ | refine Cr.step ?_)))
  refine retQ_v () Try.results14 rfl rfl ?_
  refine Ent.trans ?_ (Ent.of_eq (emp_star F).symm); ((try simp only [star_assoc]); (repeat (apply Ent.pk; focus ((repeat first | exact pk0 | exact pkl | apply pkn); first | done | fail))); first | exact Ent.fin (by ((repeat first | exact pk0 | exact pkl | apply pkn); first | done | fail)) | exact Ent.refl _)
theorem size_fn (x : Int) : Fn Try.prog 15 [vi x] emp { m : Nat // m ≤ 300 } (fun m => vi m.1) (fun _ => emp) := by
  have ha : 0 ≤ andI .i64 x 255 ∧ andI .i64 x 255 ≤ 255 := and_i64 x 255 (by decide)
  (refine Fn.of Try.func15 rfl (by kernel_rfl) Try.ntmps15 rfl (fun F => ?_))
  refine Cw.heq (emp_star F) ?_
  (repeat' (first | (refine Ow.is ?_; (first | refine Ow.nil ?_ | refine Ow.pu rfl (Pu.move rfl) ?_ | refine Ow.pu rfl (Pu.assign rfl) ?_ | (refine Ow.kGuard ?_; (first | refine Ow.guard_yes rfl rfl rfl ?_ | refine Ow.guard_no rfl rfl rfl rfl ?_ | refine Ow.guard_u rfl rfl rfl rfl ?_ | (refine Ow.guard_s rfl rfl rfl rfl (fun hb => ?_) (fun hb => ?_) <;> ((try simp only [decide_eq_true_eq, decide_eq_false_iff_not, Bool.not_eq_true, Bool.not_eq_false, Bool.not_not, Bool.not_true, Bool.not_false, Bool.not_eq_true', Bool.not_eq_false', beq_iff_eq, beq_eq_false_iff_ne, Bool.and_eq_true, Bool.or_eq_true, ne_eq] at hb); (try subst hb))))) | (refine Ow.kBin ?_; (first | (refine Ow.b_lss ?_; first | refine Ow.pu rfl (Pu.lt_t rfl rfl (by omega)) ?_ | refine Ow.pu rfl (Pu.lt_f rfl rfl (by omega)) ?_ | refine Ow.sp rfl (by exact Pu.lt rfl rfl) (fun hc => ?_) (fun hc => ?_)) | (refine Ow.b_gtr ?_; first | refine Ow.pu rfl (Pu.gt_t rfl rfl (by omega)) ?_ | refine Ow.pu rfl (Pu.gt_f rfl rfl (by omega)) ?_ | refine Ow.sp rfl (by exact Pu.gt rfl rfl) (fun hc => ?_) (fun hc => ?_)) | refine Ow.pu rfl (Pu.andV rfl rfl) ?_)) | (refine Ow.kPick ?_; (first | refine Ow.pu rfl (Pu.pick_t rfl rfl) ?_ | refine Ow.pu rfl (Pu.pick_f rfl rfl) ?_ | (refine Ow.pick_s rfl rfl rfl rfl (fun hb => ?_) (fun hb => ?_) <;> ((try simp only [decide_eq_true_eq, decide_eq_false_iff_not, Bool.not_eq_true, Bool.not_eq_false, Bool.not_not, Bool.not_true, Bool.not_false, Bool.not_eq_true', Bool.not_eq_false', beq_iff_eq, beq_eq_false_iff_ne, Bool.and_eq_true, Bool.or_eq_true, ne_eq] at hb); (try subst hb))))))) | (refine Cw.is ?_; (first | refine Cw.seq ?_ | refine Cw.region ?_ | refine Cw.cond_t rfl rfl ?_ | refine Cw.cond_f rfl rfl ?_ | refine Cw.block ?_ | refine Cw.ret ?_ | refine Cw.exit ?_ | refine Cw.skip ?_ | (refine Cw.condE rfl (fun hb => ?_) (fun hb => ?_) <;> ((try simp only [decide_eq_true_eq, decide_eq_false_iff_not, Bool.not_eq_true, Bool.not_eq_false, Bool.not_not, Bool.not_true, Bool.not_false, Bool.not_eq_true', Bool.not_eq_false', beq_iff_eq, beq_eq_false_iff_ne, Bool.and_eq_true, Bool.or_eq_true, ne_eq] at hb); (try subst hb))))) | (first | refine thenQ_n ?_ | refine thenQ_r ?_ | refine thenQ_e ?_ | refine blockQ_n ?_ | refine blockQ_r ?_ | refine blockQ_e ?_ | refine blockQ_o rfl ?_ | refine Cr.step ?_)))
  all_goals first
    | (refine retQ_v ⟨x.toNat, by omega⟩ Try.results15 rfl (congrArg vi (by simp only; omega)) ?_; refine Ent.trans ?_ (Ent.of_eq (emp_star F).symm); ((try simp only [star_assoc]); (repeat (apply Ent.pk; focus ((repeat first | exact pk0 | exact pkl | apply pkn); first | done | fail))); first | exact Ent.fin (by ((repeat first | exact pk0 | exact pkl | apply pkn); first | done | fail)) | exact Ent.refl _))
    | (refine retQ_v ⟨(andI .i64 x 255).toNat, by omega⟩ Try.results15 rfl (congrArg vi (by simp only; omega)) ?_; refine Ent.trans ?_ (Ent.of_eq (emp_star F).symm); ((try simp only [star_assoc]); (repeat (apply Ent.pk; focus ((repeat first | exact pk0 | exact pkl | apply pkn); first | done | fail))); first | exact Ent.fin (by ((repeat first | exact pk0 | exact pkl | apply pkn); first | done | fail)) | exact Ent.refl _))
end Go.Sl
