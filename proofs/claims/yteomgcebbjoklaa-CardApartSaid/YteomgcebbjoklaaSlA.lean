/-
  Sl, first part: partial heaps, separating conjunction, what a world satisfies. Plain words over the model's World; no program in sight.
-/
import Derived.WalkKit
import Derived.RangeFuncRecord
import Derived.RangeFuncLeaves
import Derived.OrdersIn
import Derived.TacticsIn
import Derived.KernelRfl
namespace Go.Sl
open Go
set_option linter.unusedVariables false
universe u

def PH : Type := Nat → Option Obj
def disj (a b : PH) : Prop := ∀ i, a i = none ∨ b i = none
def mrg (a b : PH) : PH := fun i => (a i).or (b i)
def HP : Type := PH → Prop

theorem mrg_comm {a b : PH} (h : disj a b) : mrg a b = mrg b a := by
  funext i
  rcases h i with h | h <;> simp [mrg, h]

theorem disj_comm {a b : PH} (h : disj a b) : disj b a := fun i => (h i).symm

def star (A B : HP) : HP := fun h => ∃ a b, disj a b ∧ h = mrg a b ∧ A a ∧ B b
instance : Mul HP := ⟨star⟩
def emp : HP := fun h => h = fun _ => none
def pt (b : Nat) (o : Obj) : HP := fun h => h = fun i => if i = b then some o else none
def ex {α : Sort u} (A : α → HP) : HP := fun h => ∃ x, A x h
def lift (p : Prop) : HP := fun h => p ∧ emp h

theorem star_def (A B : HP) (h : PH) : (A * B) h ↔ ∃ a b, disj a b ∧ h = mrg a b ∧ A a ∧ B b := Iff.rfl

theorem star_comm (A B : HP) : A * B = B * A := by
  funext h
  apply propext
  constructor
  · rintro ⟨a, b, d, rfl, ha, hb⟩; exact ⟨b, a, disj_comm d, mrg_comm d, hb, ha⟩
  · rintro ⟨a, b, d, rfl, ha, hb⟩; exact ⟨b, a, disj_comm d, mrg_comm d, hb, ha⟩

theorem star_assoc (A B C : HP) : A * B * C = A * (B * C) := by
  funext h
  apply propext
  constructor
  · rintro ⟨_, c, d, rfl, ⟨a, b, d2, rfl, ha, hb⟩, hc⟩
    have d3 : ∀ i, (a i = none ∨ c i = none) ∧ (b i = none ∨ c i = none) := fun i => by
      rcases d i with h | h
      · have : a i = none ∧ b i = none := by simpa [mrg] using h
        exact ⟨.inl this.1, .inl this.2⟩
      · exact ⟨.inr h, .inr h⟩
    refine ⟨a, mrg b c, fun i => ?_, ?_, ha, b, c, fun i => (d3 i).2, rfl, hb, hc⟩
    · rcases d2 i with h | h
      · exact .inl h
      · rcases (d3 i).1 with h2 | h2
        · exact .inl h2
        · exact .inr (by simp [mrg, h, h2])
    · funext i; simp [mrg, Option.or_assoc]
  · rintro ⟨a, _, d, rfl, ha, b, c, d2, rfl, hb, hc⟩
    have d3 : ∀ i, (a i = none ∨ b i = none) ∧ (a i = none ∨ c i = none) := fun i => by
      rcases d i with h | h
      · exact ⟨.inl h, .inl h⟩
      · have : b i = none ∧ c i = none := by simpa [mrg] using h
        exact ⟨.inr this.1, .inr this.2⟩
    refine ⟨mrg a b, c, fun i => ?_, ?_, ⟨a, b, fun i => (d3 i).1, rfl, ha, hb⟩, hc⟩
    · rcases d2 i with h | h
      · rcases (d3 i).2 with h2 | h2
        · exact .inl (by simp [mrg, h, h2])
        · exact .inr h2
      · exact .inr h
    · funext i; simp [mrg, Option.or_assoc]

theorem star_left_comm (A B C : HP) : A * (B * C) = B * (A * C) := by
  rw [← star_assoc, star_comm A B, star_assoc]

theorem star_emp (A : HP) : A * emp = A := by
  funext h
  apply propext
  constructor
  · rintro ⟨a, b, _, rfl, ha, hb⟩
    have : mrg a b = a := by funext i; rw [show b = fun _ => none from hb]; simp [mrg]
    rw [this]; exact ha
  · intro ha
    exact ⟨h, fun _ => none, fun _ => .inr rfl, by funext i; simp [mrg], ha, rfl⟩

theorem emp_star (A : HP) : emp * A = A := by rw [star_comm, star_emp]

instance : Std.Associative (α := HP) (· * ·) := ⟨star_assoc⟩
instance : Std.Commutative (α := HP) (· * ·) := ⟨star_comm⟩

/-- A part of a heap. -/
def Subh (a b : PH) : Prop := ∀ i o, a i = some o → b i = some o
theorem Subh.refl (a : PH) : Subh a a := fun _ _ h => h
theorem Subh.trans {a b c : PH} (h : Subh a b) (h' : Subh b c) : Subh a c := fun i o x => h' i o (h i o x)
/-- Entailment; what is left over is let go. -/
def Ent (A B : HP) : Prop := ∀ h, A h → ∃ h', Subh h' h ∧ B h'
theorem Ent.refl (A : HP) : Ent A A := fun h hA => ⟨h, .refl h, hA⟩
theorem Ent.trans {A B C : HP} (h : Ent A B) (h' : Ent B C) : Ent A C := fun x hx =>
  let ⟨y, s, hy⟩ := h x hx; let ⟨z, s', hz⟩ := h' y hy; ⟨z, s'.trans s, hz⟩
theorem Ent.of_eq {A B : HP} (h : A = B) : Ent A B := h ▸ Ent.refl A
theorem Ent.of_imp {A B : HP} (h : ∀ x, A x → B x) : Ent A B := fun x hx => ⟨x, .refl x, h x hx⟩
theorem Ent.star {A A' B B' : HP} (h : Ent A A') (h' : Ent B B') : Ent (A * B) (A' * B') := by
  rintro x ⟨a, b, d, rfl, ha, hb⟩
  obtain ⟨a', sa, ha'⟩ := h a ha
  obtain ⟨b', sb, hb'⟩ := h' b hb
  have d' : disj a' b' := fun i => by
    cases e : a' i with
    | none => exact .inl rfl
    | some o =>
      cases e2 : b' i with
      | none => exact .inr rfl
      | some o' => rcases d i with h | h
                   · rw [sa i o e] at h; cases h
                   · rw [sb i o' e2] at h; cases h
  refine ⟨mrg a' b', fun i o hi => ?_, a', b', d', rfl, ha', hb'⟩
  simp only [mrg] at hi ⊢
  cases e : a' i with
  | some o1 => rw [e] at hi; simp at hi; subst hi; rw [sa i _ e]; rfl
  | none =>
    rw [e] at hi; simp at hi
    rcases d i with h | h
    · rw [h]; simp; exact sb i o hi
    · rw [sb i o hi] at h; cases h
theorem Ent.left {A A' B : HP} (h : Ent A A') : Ent (A * B) (A' * B) := h.star (.refl _)
theorem Ent.right {A B B' : HP} (h : Ent B B') : Ent (A * B) (A * B') := (Ent.refl _).star h
theorem Ent.ex {α : Sort u} {A : α → HP} (x : α) : Ent (A x) (ex A) := .of_imp fun _ h => ⟨x, h⟩
theorem Ent.drop (A B : HP) : Ent (A * B) A := by
  rintro x ⟨a, b, d, rfl, ha, hb⟩; exact ⟨a, fun i o hi => by simp [mrg, hi], ha⟩
theorem Ent.drop_left (A B : HP) : Ent (A * B) B := by rw [star_comm]; exact .drop B A
theorem Ent.out {A B : HP} {α : Sort u} {C : α → HP} (h : ∀ x, Ent (C x * A) B) : Ent (Sl.ex C * A) B := by
  rintro x ⟨a, b, d, rfl, ⟨y, ha⟩, hb⟩; exact h y _ ⟨a, b, d, rfl, ha, hb⟩
theorem Ent.out1 {B : HP} {α : Sort u} {C : α → HP} (h : ∀ x, Ent (C x) B) : Ent (Sl.ex C) B := by
  rintro x ⟨y, ha⟩; exact h y _ ha

theorem ex_star {α : Sort u} (A : α → HP) (B : HP) : ex A * B = ex fun x => A x * B := by
  funext h; apply propext; constructor
  · rintro ⟨a, b, d, rfl, ⟨x, ha⟩, hb⟩; exact ⟨x, a, b, d, rfl, ha, hb⟩
  · rintro ⟨x, a, b, d, rfl, ha, hb⟩; exact ⟨a, b, d, rfl, ⟨x, ha⟩, hb⟩
theorem star_ex {α : Sort u} (A : α → HP) (B : HP) : B * ex A = ex fun x => B * A x := by
  rw [star_comm, ex_star]; congr; funext x; rw [star_comm]

theorem lift_star {p : Prop} (A : HP) (h : PH) : (lift p * A) h ↔ p ∧ A h := by
  constructor
  · rintro ⟨a, b, _, rfl, ⟨hp, he⟩, hb⟩
    have : mrg a b = b := by funext i; rw [show a = fun _ => none from he]; simp [mrg]
    rw [this]; exact ⟨hp, hb⟩
  · rintro ⟨hp, hA⟩
    exact ⟨fun _ => none, h, fun _ => .inl rfl, by funext i; simp [mrg], ⟨hp, rfl⟩, hA⟩
theorem Ent.lift {p : Prop} {A : HP} (hp : p) : Ent A (lift p * A) := .of_imp fun h hA => (lift_star A h).2 ⟨hp, hA⟩
theorem Ent.unlift {p : Prop} {A B : HP} (h : p → Ent A B) : Ent (Sl.lift p * A) B := fun x hx => let ⟨hp, hA⟩ := (lift_star A x).1 hx; h hp x hA

/-- What the walk carries along unturned: the outside, and what has been printed. -/
structure Gh where
  os : Os
  output : Array (Nat × ByteArray)

/-- A world's heap holds what H says, and maybe more. -/
def St (g : Gh) (w : World) (H : HP) : Prop := w.os = g.os ∧ w.output = g.output ∧ ∃ h, H h ∧ ∀ i o, h i = some o → w.heap[i]? = some o

theorem St.mono {g : Gh} {w : World} {H H' : HP} (h : Ent H H') (s : St g w H) : St g w H' :=
  let ⟨h1, h2, x, hx, h3⟩ := s; let ⟨y, sy, hy⟩ := h x hx; ⟨h1, h2, y, hy, fun i o hi => h3 i o (sy i o hi)⟩
theorem St.left {g : Gh} {w : World} {A B : HP} (s : St g w (A * B)) : St g w A := by
  obtain ⟨h1, h2, x, ⟨a, b, d, rfl, ha, hb⟩, h3⟩ := s
  exact ⟨h1, h2, a, ha, fun i o hi => h3 i o (by simp [mrg, hi])⟩
theorem St.right {g : Gh} {w : World} {A B : HP} (s : St g w (A * B)) : St g w B := by rw [star_comm] at s; exact s.left
theorem St.ex {α : Sort u} {g : Gh} {w : World} {A : α → HP} : St g w (Sl.ex A) ↔ ∃ x, St g w (A x) := by
  constructor
  · rintro ⟨h1, h2, x, ⟨y, hy⟩, h3⟩; exact ⟨y, h1, h2, x, hy, h3⟩
  · rintro ⟨y, h1, h2, x, hy, h3⟩; exact ⟨h1, h2, x, ⟨y, hy⟩, h3⟩
theorem St.lift {p : Prop} {g : Gh} {w : World} {A : HP} : St g w (Sl.lift p * A) ↔ p ∧ St g w A := by
  constructor
  · rintro ⟨h1, h2, x, hx, h3⟩; have := (lift_star A x).1 hx; exact ⟨this.1, h1, h2, x, this.2, h3⟩
  · rintro ⟨hp, h1, h2, x, hx, h3⟩; exact ⟨h1, h2, x, (lift_star A x).2 ⟨hp, hx⟩, h3⟩
theorem St.emp {g : Gh} {w : World} (h1 : w.os = g.os) (h2 : w.output = g.output) : St g w Sl.emp := ⟨h1, h2, _, rfl, fun _ _ h => by cases h⟩

theorem St.get {g : Gh} {w : World} {b : Nat} {o : Obj} {R : HP} (s : St g w (pt b o * R)) : w.heap[b]? = some o := by
  obtain ⟨_, _, x, ⟨a, b', d, rfl, ha, hb⟩, h3⟩ := s
  refine h3 b o ?_
  rw [show a = _ from ha]; simp [mrg]

/-- Whatever turns block b alone. -/
theorem St.put {g : Gh} {w w' : World} {b : Nat} {o o' : Obj} {R : HP} (s : St g w (pt b o * R)) (h1 : w'.os = w.os) (h2 : w'.output = w.output)
    (hb : w'.heap[b]? = some o') (hr : ∀ i, i ≠ b → w'.heap[i]? = w.heap[i]?) : St g w' (pt b o' * R) := by
  obtain ⟨e1, e2, x, ⟨a, r, d, rfl, ha, hR⟩, h3⟩ := s
  have ha' : a = fun i => if i = b then some o else none := ha
  refine ⟨h1.trans e1, h2.trans e2, mrg (fun i => if i = b then some o' else none) r, ⟨_, r, fun i => ?_, rfl, rfl, hR⟩, fun i y hi => ?_⟩
  · by_cases e : i = b
    · right
      rcases d i with h | h
      · rw [ha'] at h; simp [e] at h
      · exact h
    · left; simp [e]
  · by_cases e : i = b
    · simp [mrg, e] at hi; subst e; rw [hb, hi]
    · simp [mrg, e] at hi; rw [hr i e]; exact h3 i y (by rw [ha']; simp [mrg, e, hi])

theorem St.lt {g : Gh} {w : World} {b : Nat} {o : Obj} {R : HP} (s : St g w (pt b o * R)) : b < w.heap.size :=
  (Array.getElem?_eq_some_iff.1 s.get).1

/-- A new block. -/
theorem St.alloc {g : Gh} {w : World} {R : HP} (s : St g w R) (o : Obj) : St g { w with heap := w.heap.push o } (pt w.heap.size o * R) := by
  obtain ⟨e1, e2, x, hx, h3⟩ := s
  have hn : ∀ i, w.heap.size ≤ i → x i = none := fun i hi => by
    cases hxi : x i with
    | none => rfl
    | some y => have := (Array.getElem?_eq_some_iff.1 (h3 i y hxi)).1; omega
  refine ⟨e1, e2, mrg (fun i => if i = w.heap.size then some o else none) x, ⟨_, x, fun i => ?_, rfl, rfl, hx⟩, fun i y hi => ?_⟩
  · by_cases e : i = w.heap.size
    · right; exact hn i (by omega)
    · left; simp [e]
  · by_cases e : i = w.heap.size
    · simp [mrg, e] at hi; simp [e, hi]
    · simp [mrg, e] at hi
      have := h3 i y hi
      have hlt := (Array.getElem?_eq_some_iff.1 this).1
      rw [Array.getElem?_push]; simp [e, this]

theorem St.drew {g : Gh} {w : World} {R : HP} (n : Nat) (s : St g w R) : St g { w with drawn := n } R := s

/-- The whole heap as it lies: a frame that keeps all. -/
def all (w : World) : HP := fun h => h = fun i => w.heap[i]?
theorem St.all (w : World) : St ⟨w.os, w.output⟩ w (Sl.all w) := ⟨rfl, rfl, _, rfl, fun _ _ h => h⟩
theorem St.all_same {g : Gh} {w w' : World} {R : HP} (s : St g w' (R * Sl.all w)) : ∀ (i : Nat) (o : Obj), w.heap[i]? = some o → w'.heap[i]? = some o := by
  obtain ⟨_, _, x, ⟨a, b, d, rfl, ha, hb⟩, h3⟩ := s
  intro i o hi
  refine h3 i o ?_
  have hb' : b = _ := hb
  rcases d i with h | h
  · simp [mrg, h, hb', hi]
  · simp only [hb'] at h; rw [h] at hi; cases hi

/-- Two blocks that are owned apart are two. -/
theorem St.ne {g : Gh} {w : World} {b c : Nat} {o o' : Obj} {R : HP} (s : St g w (pt b o * (pt c o' * R))) : b ≠ c := by
  obtain ⟨_, _, x, ⟨a, r, d, rfl, ha, ⟨e, r', d', rfl, he, _⟩⟩, _⟩ := s
  rintro rfl
  have ha' : a = _ := ha
  have he' : e = _ := he
  have := d b
  simp [ha', he', mrg] at this

end Go.Sl
