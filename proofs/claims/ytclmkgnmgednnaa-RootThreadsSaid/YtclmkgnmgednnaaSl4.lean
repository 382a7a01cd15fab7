/- Reading within an assertion of parts. -/
import Derived.Test.YtclmkgnmgednnaaSlM
namespace Go.Sl
open Go
universe u
variable {A B : HP} {a : Addr} {v : Value}
theorem RdA.left (h : RdA A a v) : RdA (A * B) a v := fun x hx => by
  obtain ⟨p, q, d, rfl, hA, _⟩ := hx
  have h1 := h p hA
  unfold cellH at h1 ⊢
  cases e : p a.block with
  | none => rw [e] at h1; cases h1
  | some o => rw [show mrg p q a.block = some o by simp [mrg, e]]; rw [e] at h1; exact h1
theorem RdA.ex {α : Sort u} {A : α → HP} (h : ∀ x, RdA (A x) a v) : RdA (Sl.ex A) a v := fun y ⟨x, hx⟩ => h x y hx
end Go.Sl
