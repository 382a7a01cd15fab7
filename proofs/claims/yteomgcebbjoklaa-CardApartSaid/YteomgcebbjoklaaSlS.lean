/- Loops that turn one part of the heap. -/
import Derived.Test.YteomgcebbjoklaaSlR
namespace Go.Sl
open Go
set_option linter.unusedVariables false
universe u
variable {P : Program} {r : Option Nat} {n : Nat} {Q : PostT} {ρ : Env} {ds : List Deferred} {H A R : HP} {t t' t'' T e : TypeId} {x y : Operand} {all rest : List Oper} {d : Option Nat} {pos : String} {aft : Array Edge} {v v2 : Value} {s bb kk : Nat} {zc : List Value} {k : IntKind} {i : Int} {α : Type}
/-- A loop that turns one part of the heap. -/
theorem Cw.loopR {σ : Type u} {c : Code} {ρ0 : Env} {R : HP} (ks : List Nat) (hN : er ks ρ = ρ0) (I : σ → Prop) (ρI : σ → Env) (BI : σ → HP) (μ : σ → Nat) (s₀ : σ) (hp : Pk H (BI s₀) R) (hI : I s₀) (h0 : Sub ρ (ρI s₀))
    (h : ∀ s, I s → Cw P r n c (thenQ (fun ρ' ds' H' => ds' = ds ∧ ∃ s', I s' ∧ μ s' < μ s ∧ Sub ρ' (ρI s' ++ ρ0) ∧ Ent H' (BI s' * R)) Q) (ρI s ++ ρ0) ds (BI s * R)) :
    Cw P r n (.loop c) Q ρ ds H := Cw.loopF ks hN I ρI (fun s => BI s * R) μ s₀ hI h0 (Ent.of_eq hp) h
/-- A block's name. -/
theorem Cw.clF {c : Code} {b : Nat} {R : HP} (cs : List Value) (hp : Pk H (cl b cs) R) (h : ∀ b', b' = b → Cw P r n c Q ρ ds (cl b' cs * R)) : Cw P r n c Q ρ ds H := Cw.heq hp (h b rfl)
end Go.Sl
