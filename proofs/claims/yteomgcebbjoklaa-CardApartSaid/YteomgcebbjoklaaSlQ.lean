/- Equality of structs whose fields are integers and truth values. -/
import Derived.Test.YteomgcebbjoklaaSlN
import Derived.Laws.StructEq
namespace Go.Sl
open Go
set_option linter.unusedVariables false
universe u
variable {P : Program} {r : Option Nat} {n : Nat} {Q : PostT} {ρ : Env} {ds : List Deferred} {H : HP} {t t' t'' : TypeId} {x y : Operand}
def leafK : Option TypeDesc → Option Bool
  | some (.int _) => some true
  | some .bool => some false
  | _ => none
def fldK (P : Program) (x : Field × Nat) : Option Bool := if x.1.name != "_" && x.1.offset == x.2 then leafK (P.underlying x.1.type) else none
def stK (P : Program) (t : TypeId) (ks : List Bool) : Bool := match P.underlying t with
  | some (.struct fs) => !P.stoodInHeld t && (!P.eqGuardType P.depth t && ((fs.toList.zipIdx.map (fldK P)) == ks.map some))
  | _ => false
/-- A struct whose fields are integers (true) and truth values (false), one cell each. -/
class TyE (P : Program) (t : TypeId) (ks : outParam (List Bool)) : Prop where
  h : stK P t ks = true
def eqL : List Bool → List Value → List Value → Option Bool
  | [], _, _ => some true
  | true :: ks, .int k a :: us, .int k' b :: vs => if k = k' then (if a = b then eqL ks us vs else some false) else none
  | false :: ks, .bool a :: us, .bool b :: vs => if a = b then eqL ks us vs else some false
  | _, _, _ => none
theorem run_part1 {td : TypeDesc} {xs : Array Value} {off : Nat} {v : Value} {w : World} (ht : P.underlying t = some td) (hl : aggB td = false) (hv : xs[off]? = some v) : (part t xs off).run P w = .ok v w := by
  haveI : TyA P t false := ⟨by rw [ht]; simp [hl]⟩
  simp only [part, Sem.run_bind, run_agg, Result.andThen_ok, Bool.false_eq_true, if_false, hv, Sem.run_pure]
theorem run_eqFields {d : Nat} {xs ys : Array Value} (w : World) : ∀ (fs : List Field) (ks : List Bool) (i : Nat) (us vs : List Value) (r : Bool),
    (fs.zipIdx i).map (fldK P) = ks.map some → (∀ j, xs[i + j]? = us[j]?) → (∀ j, ys[i + j]? = vs[j]?) → eqL ks us vs = some r → (Op.eqFields (d + 1) xs ys fs).run P w = .ok r w
  | [], ks, i, us, vs, r, hk, hx, hy, hr => by
    cases ks with
    | nil => simp [eqL] at hr; subst hr; simp [Op.eqFields]
    | cons k ks => simp at hk
  | f :: fs, ks, i, us, vs, r, hk, hx, hy, hr => by
    cases ks with
    | nil => simp at hk
    | cons k ks =>
      simp only [List.zipIdx_cons, List.map_cons, List.cons.injEq] at hk
      obtain ⟨hk1, hk2⟩ := hk
      unfold fldK at hk1
      split at hk1
      case isFalse => cases hk1
      case isTrue hc =>
        simp only [Bool.and_eq_true, bne_iff_ne, ne_eq, beq_iff_eq] at hc
        obtain ⟨hn, ho⟩ := hc
        have ih := fun us vs r h1 h2 h3 => run_eqFields (d := d) (xs := xs) (ys := ys) w fs ks (i + 1) us vs r hk2 h1 h2 h3
        cases us with
        | nil => cases k <;> simp [eqL] at hr
        | cons u us =>
          cases vs with
          | nil => cases k <;> cases u <;> simp [eqL] at hr
          | cons v vs =>
            have hu : xs[f.offset]? = some u := by have := hx 0; simpa [ho] using this
            have hv : ys[f.offset]? = some v := by have := hy 0; simpa [ho] using this
            have hx' : ∀ j, xs[i + 1 + j]? = us[j]? := fun j => by have := hx (j + 1); rw [show i + 1 + j = i + (j + 1) by omega, this]; rfl
            have hy' : ∀ j, ys[i + 1 + j]? = vs[j]? := fun j => by have := hy (j + 1); rw [show i + 1 + j = i + (j + 1) by omega, this]; rfl
            rw [Op.eqFields, if_pos hn]
            cases e : P.underlying f.type with
            | none => rw [e] at hk1; cases hk1
            | some td =>
              rw [e] at hk1
              cases td
              case int kk =>
                obtain rfl : k = true := by simpa [leafK] using hk1.symm
                cases u
                case int k1 a =>
                  cases v
                  case int k2 b =>
                    simp only [eqL] at hr
                    split at hr
                    case isTrue hkk =>
                      subst hkk
                      simp only [Sem.run_bind, run_part1 e rfl hu, run_part1 e rfl hv, Result.andThen_ok, run_equalIn_int w d f.type k1 kk a b e, Sem.run_ite]
                      by_cases hab : a = b
                      · rw [if_pos hab] at hr
                        rw [if_neg (by simp [hab])]
                        exact ih us vs r hx' hy' hr
                      · rw [if_neg hab] at hr
                        rw [if_pos (by simp [hab])]
                        simp only [Option.some.injEq] at hr
                        subst hr
                        rfl
                    case isFalse hkk => cases hr
                  all_goals simp [eqL] at hr
                all_goals simp [eqL] at hr
              case bool =>
                obtain rfl : k = false := by simpa [leafK] using hk1.symm
                cases u
                case bool a =>
                  cases v
                  case bool b =>
                    simp only [eqL] at hr
                    simp only [Sem.run_bind, run_part1 e rfl hu, run_part1 e rfl hv, Result.andThen_ok, run_equalIn_bool' w d f.type a b e, Sem.run_ite]
                    by_cases hab : a = b
                    · rw [if_pos hab] at hr
                      rw [if_neg (by simp [hab])]
                      exact ih us vs r hx' hy' hr
                    · rw [if_neg hab] at hr
                      rw [if_pos (by simp [hab])]
                      simp only [Option.some.injEq] at hr
                      subst hr
                      rfl
                  all_goals simp [eqL] at hr
                all_goals simp [eqL] at hr
              all_goals cases hk1
theorem run_eqSt {ks : List Bool} [E : TyE P t ks] {us vs : List Value} {r : Bool} (w : World) (hr : eqL ks us vs = some r) : (Op.equal t (.agg us.toArray) (.agg vs.toArray)).run P w = .ok r w := by
  have h := E.h
  unfold stK at h
  split at h
  case h_2 => cases h
  case h_1 fs hu =>
    simp only [Bool.and_eq_true, Bool.not_eq_true', beq_iff_eq] at h
    obtain ⟨h1, _, h2⟩ := h
    have hf : P.fieldsOf t = fs := by simp [Program.fieldsOf, hu]
    have := run_equalIn_struct (P := P) w 9999 t us.toArray vs.toArray (by rw [hf]; exact hu) h1
    refine this.trans ?_
    rw [hf]
    exact run_eqFields (d := 9998) w fs.toList ks 0 us vs r h2 (fun j => by simp) (fun j => by simp) hr
theorem guard_eqSt {ks : List Bool} [E : TyE P t ks] {op : BinOp} {us vs : List Value} (w : World) : (eqGuard op t x y (.agg us.toArray) (.agg vs.toArray)).run P w = .ok () w := by
  have h := E.h
  unfold stK at h
  split at h
  case h_2 => cases h
  case h_1 fs hu =>
    simp only [Bool.and_eq_true, Bool.not_eq_true', beq_iff_eq] at h
    obtain ⟨_, h1, _⟩ := h
    simp only [eqGuard, Sem.run_bind, Sem.run_ite, run_program, Result.andThen_ok, h1, Bool.not_false, if_true, Sem.run_pure]
    split <;> rfl
theorem Pu.eqSt {ks : List Bool} [E : TyE P t ks] {us vs : List Value} {r : Bool} (hx : ev ρ x = some (.agg us.toArray)) (hy : ev ρ y = some (.agg vs.toArray)) (hr : eqL ks us vs = some r) :
    Pu P n ρ H (.binOp .eql t x y t') t'' (.bool r) := Pu.bin hx hy guard_eqSt (fun w => run_eql rfl (run_eqSt w hr))
theorem Pu.neSt {ks : List Bool} [E : TyE P t ks] {us vs : List Value} {r : Bool} (hx : ev ρ x = some (.agg us.toArray)) (hy : ev ρ y = some (.agg vs.toArray)) (hr : eqL ks us vs = some r) :
    Pu P n ρ H (.binOp .neq t x y t') t'' (.bool (!r)) := Pu.bin hx hy guard_eqSt (fun w => run_neq rfl (run_eqSt w hr))
end Go.Sl
