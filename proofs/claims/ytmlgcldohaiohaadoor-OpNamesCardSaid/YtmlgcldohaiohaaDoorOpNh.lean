/- OpNames: the walk. -/
import Derived.Test.YtmlgcldohaiohaaDoorOpS
namespace Go.Sl
open Go Go.Proofs
set_option linter.unusedVariables false
set_option linter.unusedSimpArgs false
attribute [local irreducible] Ow Cw Pk Pu Dw thenQ blockQ retQ loudQ Cr
variable {A : HP} {b o c : Nat}
def nameCells : List Value := [.string ⟨#[97, 108, 108, 111, 99]⟩, .string ⟨#[108, 111, 97, 100]⟩, .string ⟨#[115, 116, 111, 114, 101]⟩, .string ⟨#[108, 111, 97, 100, 115]⟩, .string ⟨#[115, 116, 111, 114, 101, 115]⟩, .string ⟨#[109, 111, 118, 101]⟩,
  .string ⟨#[99, 108, 101, 97, 114]⟩, .string ⟨#[101, 113]⟩, .string ⟨#[105, 115, 110, 105, 108]⟩, .string ⟨#[112, 117, 115, 104]⟩, .string ⟨#[112, 111, 112]⟩, .string ⟨#[103, 101, 116, 103]⟩, .string ⟨#[112, 117, 116, 103]⟩]
theorem names_fn : Fn Tryd.prog 14 [] emp Nat (fun b => .slice (some ⟨b, 0, none⟩) 13 13) (fun b => cl b nameCells) := by
  (refine Fn.of Tryd.func14 rfl (by kernel_rfl) Tryd.ntmps14 rfl (fun F => ?_))
  refine Cw.heq (emp_star F) ?_
  (repeat' (first | (refine Ow.is ?_; (first | refine Ow.nil ?_ | refine Ow.pu rfl (Pu.assign rfl) ?_ | (refine Ow.kBuildS ?_; (first | refine Ow.bldS13 rfl rfl rfl rfl rfl rfl rfl rfl rfl rfl rfl rfl rfl rfl (fun w => by kernel_rfl) (fun bx => ?_))))) | (refine Cw.is ?_; (first | refine Cw.seq ?_ | refine Cw.region ?_ | refine Cw.cond_t rfl rfl ?_ | refine Cw.cond_f rfl rfl ?_ | refine Cw.block ?_ | refine Cw.ret ?_ | refine Cw.exit ?_ | refine Cw.skip ?_ | (refine Cw.condE rfl (fun hb => ?_) (fun hb => ?_) <;> ((try simp only [decide_eq_true_eq, decide_eq_false_iff_not, Bool.not_eq_true, Bool.not_eq_false, Bool.not_not, Bool.not_true, Bool.not_false, Bool.not_eq_true', Bool.not_eq_false', beq_iff_eq, beq_eq_false_iff_ne, Bool.and_eq_true, Bool.or_eq_true, ne_eq] at hb); (try subst hb))))) | (first | refine thenQ_n ?_ | refine thenQ_r ?_ | refine thenQ_e ?_ | refine blockQ_n ?_ | refine blockQ_r ?_ | refine blockQ_e ?_ | refine blockQ_o rfl ?_ | refine Cr.step ?_)))
  refine retQ_v bx Tryd.results14 rfl rfl ?_; ((try simp only [star_assoc]); (repeat (refine Ent.pk (by ((repeat first | exact pk0 | exact pkl | apply pkn); first | done | fail)) ?_)); first | exact Ent.refl _ | exact Ent.fin (by ((repeat first | exact pk0 | exact pkl | apply pkn); first | done | fail)))
theorem nameAt (k : Nat) (h : k < 13) : nameCells[0 + k * 1]? = some (.string ⟨(kindNames[k]!).toArray⟩) := by
  rcases (by omega : k = 0 ∨ k = 1 ∨ k = 2 ∨ k = 3 ∨ k = 4 ∨ k = 5 ∨ k = 6 ∨ k = 7 ∨ k = 8 ∨ k = 9 ∨ k = 10 ∨ k = 11 ∨ k = 12) with rfl | rfl | rfl | rfl | rfl | rfl | rfl | rfl | rfl | rfl | rfl | rfl | rfl <;> rfl
theorem Regs_ab (hK : Kinds A b o c) (k t n x y z : Int) (h : n = 1 ∨ n = 5 ∨ n = 7) : Fn Tryd.prog 18 [itv k t n x y z] A SV (fun v => v.v) (fun v => slk 1 v.v (([x, y] : List Int).map vi) * A) := Regs_fn hK _ _ _ _ _ _ _ (by rw [regsR, if_pos (by omega), if_pos h])
theorem Regs_ac (hK : Kinds A b o c) (k t n x y z : Int) (h : n = 2) : Fn Tryd.prog 18 [itv k t n x y z] A SV (fun v => v.v) (fun v => slk 1 v.v (([x, z] : List Int).map vi) * A) := Regs_fn hK _ _ _ _ _ _ _ (by rw [regsR, if_pos (by omega), if_neg (by omega), if_pos h])
theorem Regs_a (hK : Kinds A b o c) (k t n x y z : Int) (h : (0 ≤ n ∧ n < 13) ∧ ¬ (n = 1 ∨ n = 5 ∨ n = 7) ∧ n ≠ 2) : Fn Tryd.prog 18 [itv k t n x y z] A SV (fun v => v.v) (fun v => slk 1 v.v (([x] : List Int).map vi) * A) := Regs_fn hK _ _ _ _ _ _ _ (by rw [regsR, if_pos h.1, if_neg h.2.1, if_neg h.2.2])
theorem Regs_n (hK : Kinds A b o c) (k t n x y z : Int) (h : ¬ (0 ≤ n ∧ n < 13)) : Fn Tryd.prog 18 [itv k t n x y z] A SV (fun v => v.v) (fun v => slk 1 v.v (([] : List Int).map vi) * A) := Regs_fn hK _ _ _ _ _ _ _ (by rw [regsR, if_neg h])
structure NmS where
  i : Nat
  j : Nat
  w : Bool
def wantR (n : Int) (i : Nat) : ByteArray := if 0 ≤ n ∧ n < i then ⟨(kindNames[n.toNat]!).toArray⟩ else ⟨#[]⟩
def Cd (s : List UInt8) (i j : Nat) (w : Bool) : Prop := (w = true ∧ j < i ∧ kindNames[j]! = s) ∨ (w = false ∧ j = 0 ∧ ∀ m, m < i → kindNames[m]! ≠ s)
theorem Cd_end {s : List UInt8} {j : Nat} {w : Bool} (h : Cd s 13 j w) : codeR s = (j, w) := by
  rcases h with ⟨rfl, h1, h2⟩ | ⟨rfl, rfl, h2⟩
  · exact codeR_some h1 h2
  · exact codeR_none h2
end Go.Sl
