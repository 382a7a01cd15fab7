/- Reading within an assertion of parts. -/
import Derived.Test.YteomgcebbjoklaaSlM
namespace Go.Sl
open Go
universe u
variable {A B : HP} {a : Addr} {v : Value}
theorem RdA.left (h : RdA A a v) : RdA (A * B) a v := fun x hx => by
  obtain ⟨p, q, d, rfl, hA, _⟩ := hx
  have h1 := h p hA
  unfold cellH at h1 ⊢
  cases e : p a.block with
  | none => rw [e] at h1; cases h1
  | some o => rw [show mrg p q a.block = some o by simp [mrg, e]]; rw [e] at h1; exact h1
theorem RdA.ex {α : Sort u} {A : α → HP} (h : ∀ x, RdA (A x) a v) : RdA (Sl.ex A) a v := fun y ⟨x, hx⟩ => h x y hx
theorem Fn.frame {P : Program} {f : FuncId} {args : List Value} {Pre : HP} {β : Type} {val : β → Value} {post : β → HP} (h : Fn P f args Pre β val post) (R : HP) : Fn P f args (Pre * R) β val (fun b => post b * R) :=
  ⟨h.enters, fun g F w hs => (h.calls g (R * F) w (by rw [← star_assoc]; exact hs)).mono fun e w' ⟨b, he, hs'⟩ => ⟨b, he, by rw [star_assoc]; exact hs'⟩⟩
theorem Fn.preX {P : Program} {f : FuncId} {args : List Value} {α : Type} {Pre : α → HP} {β : Type} {val : β → Value} {post : β → HP}
    (hen : ∀ (args : Array Value) (w : World), (callFunc f args).run P w = .ok (.enter f args) w) (h : ∀ x, Fn P f args (Pre x) β val post) : Fn P f args (Sl.ex Pre) β val post :=
  ⟨hen, fun g F w hs => by rw [ex_star] at hs; obtain ⟨x, hx⟩ := St.ex.1 hs; exact (h x).calls g F w hx⟩
theorem Fn.preL {P : Program} {f : FuncId} {args : List Value} {p : Prop} {Pre : HP} {β : Type} {val : β → Value} {post : β → HP}
    (hen : ∀ (args : Array Value) (w : World), (callFunc f args).run P w = .ok (.enter f args) w) (h : p → Fn P f args Pre β val post) : Fn P f args (lift p * Pre) β val post :=
  ⟨hen, fun g F w hs => by rw [star_assoc] at hs; obtain ⟨hp, hs'⟩ := St.lift.1 hs; exact (h hp).calls g F w hs'⟩
theorem RdA.right {A B : HP} {a : Addr} {v : Value} (h : RdA B a v) : RdA (A * B) a v := by rw [star_comm]; exact RdA.left h
end Go.Sl
