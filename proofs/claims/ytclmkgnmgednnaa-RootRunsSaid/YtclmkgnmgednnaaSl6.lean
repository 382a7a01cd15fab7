/- Pointers compared; the way out behind many ranges. -/
import Derived.Test.YtclmkgnmgednnaaSlN
namespace Go.Sl
open Go
set_option linter.unusedVariables false
universe u
section
variable {P : Program} {n : Nat} {ρ : Env} {H : HP} {t t' t'' : TypeId} {x y : Operand}
theorem run_equalIn_same {e : TypeId} {s bb : Nat} {zc : List Value} [T : TyU P t (.pointer e)] [S : TyS P e s bb zc] {a : Addr} (dd : Nat) (w : World) : (Op.equalIn (dd + 1) t (.pointer (some a)) (.pointer (some a))).run P w = .ok true w := by
  simp only [Op.equalIn, Sem.run_bind, run_under, Result.andThen_ok, run_size]
  by_cases h : s = 0
  · simp [h]
  · simp [h, sameAddr]
theorem Pu.neSame {e : TypeId} {s bb : Nat} {zc : List Value} [T : TyU P t (.pointer e)] [S : TyS P e s bb zc] {a : Addr} (hx : ev ρ x = some (.pointer (some a))) (hy : ev ρ y = some (.pointer (some a))) :
    Pu P n ρ H (.binOp .neq t x y t') t'' (.bool false) :=
  Pu.bin hx hy (fun w => by simp [eqGuard]) (fun w => run_neq rfl (run_equalIn_same (T := T) (S := S) 9999 w))
end
section
variable {P : Program} {fn : Func} {β : Type u} {val : β → Value} {post : β → HP} {F H H' : HP} {ρ : Env} {D : Nat} {ds : List Deferred} {ex : Exit}
theorem Leave.peel (hp : Pk H (pt D (.deferred (some []))) H') (h : Leave P fn val post F ρ ds (pt D (.deferred none) * H')) : Leave P fn val post F ρ (mk D :: ds) H := ⟨D, H', rfl, Ent.of_eq hp, h⟩
theorem Leave.fin (w : β) (hres : Res P fn ρ H (val w)) (hH : Ent H (post w * F)) : Leave P fn val post F ρ [] H := ⟨w, hres, hH⟩
theorem retQ_l (he : ex = .normal ∨ ex = .ret) (h : Leave P fn val post F ρ ds H) : retQ P fn val post F ex ρ ds H := ⟨he, h⟩
end
end Go.Sl
