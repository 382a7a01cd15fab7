/- Part 1. -/
import Derived.WalkKit
import Derived.RangeFuncRecord
import Derived.RangeFuncLeaves
import Derived.OrdersIn
import Derived.TacticsIn
import Derived.KernelRfl
import Derived.Test.YteomgcebbjoklaaDoorChecked
import Derived.ProofKit
import Derived.OpenShut
import Derived.Carry
import Derived.HandedShaped
import Derived.RangeFuncNested
import Derived.LoopNIn
import Derived.Lib.Strings
import Derived.Deep.DeepHandedRow
import Derived.Lib.LaidTab
import Derived.SevenTiedAt
import Derived.Deep.DeepWitnessRowRef
import Derived.Laws.StructEq
import Derived.Laws.BytesString
namespace Go.Sl
open Go
set_option linter.unusedVariables false
universe u
def PH : Type := Nat → Option Obj
def disj (a b : PH) : Prop := ∀ i, a i = none ∨ b i = none
def mrg (a b : PH) : PH := fun i => (a i).or (b i)
def HP : Type := PH → Prop
theorem mrg_comm {a b : PH} (h : disj a b) : mrg a b = mrg b a := by
  funext i
  rcases h i with h | h <;> simp [mrg, h]
theorem disj_comm {a b : PH} (h : disj a b) : disj b a := fun i => (h i).symm
def star (A B : HP) : HP := fun h => ∃ a b, disj a b ∧ h = mrg a b ∧ A a ∧ B b
instance : Mul HP := ⟨star⟩
def emp : HP := fun h => h = fun _ => none
def pt (b : Nat) (o : Obj) : HP := fun h => h = fun i => if i = b then some o else none
def ex {α : Sort u} (A : α → HP) : HP := fun h => ∃ x, A x h
def lift (p : Prop) : HP := fun h => p ∧ emp h
theorem star_comm (A B : HP) : A * B = B * A := by
  funext h
  apply propext
  constructor
  · rintro ⟨a, b, d, rfl, ha, hb⟩; exact ⟨b, a, disj_comm d, mrg_comm d, hb, ha⟩
  · rintro ⟨a, b, d, rfl, ha, hb⟩; exact ⟨b, a, disj_comm d, mrg_comm d, hb, ha⟩
theorem star_assoc (A B C : HP) : A * B * C = A * (B * C) := by
  funext h
  apply propext
  constructor
  · rintro ⟨_, c, d, rfl, ⟨a, b, d2, rfl, ha, hb⟩, hc⟩
    have d3 : ∀ i, (a i = none ∨ c i = none) ∧ (b i = none ∨ c i = none) := fun i => by
      rcases d i with h | h
      · have : a i = none ∧ b i = none := by simpa [mrg] using h
        exact ⟨.inl this.1, .inl this.2⟩
      · exact ⟨.inr h, .inr h⟩
    refine ⟨a, mrg b c, fun i => ?_, ?_, ha, b, c, fun i => (d3 i).2, rfl, hb, hc⟩
    · rcases d2 i with h | h
      · exact .inl h
      · rcases (d3 i).1 with h2 | h2
        · exact .inl h2
        · exact .inr (by simp [mrg, h, h2])
    · funext i; simp [mrg, Option.or_assoc]
  · rintro ⟨a, _, d, rfl, ha, b, c, d2, rfl, hb, hc⟩
    have d3 : ∀ i, (a i = none ∨ b i = none) ∧ (a i = none ∨ c i = none) := fun i => by
      rcases d i with h | h
      · exact ⟨.inl h, .inl h⟩
      · have : b i = none ∧ c i = none := by simpa [mrg] using h
        exact ⟨.inr this.1, .inr this.2⟩
    refine ⟨mrg a b, c, fun i => ?_, ?_, ⟨a, b, fun i => (d3 i).1, rfl, ha, hb⟩, hc⟩
    · rcases d2 i with h | h
      · rcases (d3 i).2 with h2 | h2
        · exact .inl (by simp [mrg, h, h2])
        · exact .inr h2
      · exact .inr h
    · funext i; simp [mrg, Option.or_assoc]
theorem star_left_comm (A B C : HP) : A * (B * C) = B * (A * C) := by
  rw [← star_assoc, star_comm A B, star_assoc]
theorem star_emp (A : HP) : A * emp = A := by
  funext h
  apply propext
  constructor
  · rintro ⟨a, b, _, rfl, ha, hb⟩
    have : mrg a b = a := by funext i; rw [show b = fun _ => none from hb]; simp [mrg]
    rw [this]; exact ha
  · intro ha
    exact ⟨h, fun _ => none, fun _ => .inr rfl, by funext i; simp [mrg], ha, rfl⟩
theorem emp_star (A : HP) : emp * A = A := by rw [star_comm, star_emp]
instance : Std.Associative (α := HP) (· * ·) := ⟨star_assoc⟩
instance : Std.Commutative (α := HP) (· * ·) := ⟨star_comm⟩
def Subh (a b : PH) : Prop := ∀ i o, a i = some o → b i = some o
theorem Subh.refl (a : PH) : Subh a a := fun _ _ h => h
theorem Subh.trans {a b c : PH} (h : Subh a b) (h' : Subh b c) : Subh a c := fun i o x => h' i o (h i o x)
def Ent (A B : HP) : Prop := ∀ h, A h → ∃ h', Subh h' h ∧ B h'
theorem Ent.refl (A : HP) : Ent A A := fun h hA => ⟨h, .refl h, hA⟩
theorem Ent.trans {A B C : HP} (h : Ent A B) (h' : Ent B C) : Ent A C := fun x hx =>
  let ⟨y, s, hy⟩ := h x hx; let ⟨z, s', hz⟩ := h' y hy; ⟨z, s'.trans s, hz⟩
theorem Ent.of_eq {A B : HP} (h : A = B) : Ent A B := h ▸ Ent.refl A
theorem Ent.of_imp {A B : HP} (h : ∀ x, A x → B x) : Ent A B := fun x hx => ⟨x, .refl x, h x hx⟩
theorem Ent.star {A A' B B' : HP} (h : Ent A A') (h' : Ent B B') : Ent (A * B) (A' * B') := by
  rintro x ⟨a, b, d, rfl, ha, hb⟩
  obtain ⟨a', sa, ha'⟩ := h a ha
  obtain ⟨b', sb, hb'⟩ := h' b hb
  have d' : disj a' b' := fun i => by
    cases e : a' i with
    | none => exact .inl rfl
    | some o =>
      cases e2 : b' i with
      | none => exact .inr rfl
      | some o' => rcases d i with h | h
                   · rw [sa i o e] at h; cases h
                   · rw [sb i o' e2] at h; cases h
  refine ⟨mrg a' b', fun i o hi => ?_, a', b', d', rfl, ha', hb'⟩
  simp only [mrg] at hi ⊢
  cases e : a' i with
  | some o1 => rw [e] at hi; simp at hi; subst hi; rw [sa i _ e]; rfl
  | none =>
    rw [e] at hi; simp at hi
    rcases d i with h | h
    · rw [h]; simp; exact sb i o hi
    · rw [sb i o hi] at h; cases h
theorem Ent.left {A A' B : HP} (h : Ent A A') : Ent (A * B) (A' * B) := h.star (.refl _)
theorem Ent.right {A B B' : HP} (h : Ent B B') : Ent (A * B) (A * B') := (Ent.refl _).star h
theorem Ent.ex {α : Sort u} {A : α → HP} (x : α) : Ent (A x) (ex A) := .of_imp fun _ h => ⟨x, h⟩
theorem Ent.drop (A B : HP) : Ent (A * B) A := by
  rintro x ⟨a, b, d, rfl, ha, hb⟩; exact ⟨a, fun i o hi => by simp [mrg, hi], ha⟩
theorem Ent.drop_left (A B : HP) : Ent (A * B) B := by rw [star_comm]; exact .drop B A
theorem ex_star {α : Sort u} (A : α → HP) (B : HP) : ex A * B = ex fun x => A x * B := by
  funext h; apply propext; constructor
  · rintro ⟨a, b, d, rfl, ⟨x, ha⟩, hb⟩; exact ⟨x, a, b, d, rfl, ha, hb⟩
  · rintro ⟨x, a, b, d, rfl, ha, hb⟩; exact ⟨a, b, d, rfl, ⟨x, ha⟩, hb⟩
theorem lift_star {p : Prop} (A : HP) (h : PH) : (lift p * A) h ↔ p ∧ A h := by
  constructor
  · rintro ⟨a, b, _, rfl, ⟨hp, he⟩, hb⟩
    have : mrg a b = b := by funext i; rw [show a = fun _ => none from he]; simp [mrg]
    rw [this]; exact ⟨hp, hb⟩
  · rintro ⟨hp, hA⟩
    exact ⟨fun _ => none, h, fun _ => .inl rfl, by funext i; simp [mrg], ⟨hp, rfl⟩, hA⟩
theorem Ent.lift {p : Prop} {A : HP} (hp : p) : Ent A (lift p * A) := .of_imp fun h hA => (lift_star A h).2 ⟨hp, hA⟩
structure Gh where
  os : Os
  output : Array (Nat × ByteArray)
def St (g : Gh) (w : World) (H : HP) : Prop := w.os = g.os ∧ w.output = g.output ∧ ∃ h, H h ∧ ∀ i o, h i = some o → w.heap[i]? = some o
theorem St.mono {g : Gh} {w : World} {H H' : HP} (h : Ent H H') (s : St g w H) : St g w H' :=
  let ⟨h1, h2, x, hx, h3⟩ := s; let ⟨y, sy, hy⟩ := h x hx; ⟨h1, h2, y, hy, fun i o hi => h3 i o (sy i o hi)⟩
theorem St.left {g : Gh} {w : World} {A B : HP} (s : St g w (A * B)) : St g w A := by
  obtain ⟨h1, h2, x, ⟨a, b, d, rfl, ha, hb⟩, h3⟩ := s
  exact ⟨h1, h2, a, ha, fun i o hi => h3 i o (by simp [mrg, hi])⟩
theorem St.right {g : Gh} {w : World} {A B : HP} (s : St g w (A * B)) : St g w B := by rw [star_comm] at s; exact s.left
theorem St.ex {α : Sort u} {g : Gh} {w : World} {A : α → HP} : St g w (Sl.ex A) ↔ ∃ x, St g w (A x) := by
  constructor
  · rintro ⟨h1, h2, x, ⟨y, hy⟩, h3⟩; exact ⟨y, h1, h2, x, hy, h3⟩
  · rintro ⟨y, h1, h2, x, hy, h3⟩; exact ⟨h1, h2, x, ⟨y, hy⟩, h3⟩
theorem St.lift {p : Prop} {g : Gh} {w : World} {A : HP} : St g w (Sl.lift p * A) ↔ p ∧ St g w A := by
  constructor
  · rintro ⟨h1, h2, x, hx, h3⟩; have := (lift_star A x).1 hx; exact ⟨this.1, h1, h2, x, this.2, h3⟩
  · rintro ⟨hp, h1, h2, x, hx, h3⟩; exact ⟨h1, h2, x, (lift_star A x).2 ⟨hp, hx⟩, h3⟩
theorem St.get {g : Gh} {w : World} {b : Nat} {o : Obj} {R : HP} (s : St g w (pt b o * R)) : w.heap[b]? = some o := by
  obtain ⟨_, _, x, ⟨a, b', d, rfl, ha, hb⟩, h3⟩ := s
  refine h3 b o ?_
  rw [show a = _ from ha]; simp [mrg]
theorem St.put {g : Gh} {w w' : World} {b : Nat} {o o' : Obj} {R : HP} (s : St g w (pt b o * R)) (h1 : w'.os = w.os) (h2 : w'.output = w.output)
    (hb : w'.heap[b]? = some o') (hr : ∀ i, i ≠ b → w'.heap[i]? = w.heap[i]?) : St g w' (pt b o' * R) := by
  obtain ⟨e1, e2, x, ⟨a, r, d, rfl, ha, hR⟩, h3⟩ := s
  have ha' : a = fun i => if i = b then some o else none := ha
  refine ⟨h1.trans e1, h2.trans e2, mrg (fun i => if i = b then some o' else none) r, ⟨_, r, fun i => ?_, rfl, rfl, hR⟩, fun i y hi => ?_⟩
  · by_cases e : i = b
    · right
      rcases d i with h | h
      · rw [ha'] at h; simp [e] at h
      · exact h
    · left; simp [e]
  · by_cases e : i = b
    · simp [mrg, e] at hi; subst e; rw [hb, hi]
    · simp [mrg, e] at hi; rw [hr i e]; exact h3 i y (by rw [ha']; simp [mrg, e, hi])
theorem St.lt {g : Gh} {w : World} {b : Nat} {o : Obj} {R : HP} (s : St g w (pt b o * R)) : b < w.heap.size :=
  (Array.getElem?_eq_some_iff.1 s.get).1
theorem St.alloc {g : Gh} {w : World} {R : HP} (s : St g w R) (o : Obj) : St g { w with heap := w.heap.push o } (pt w.heap.size o * R) := by
  obtain ⟨e1, e2, x, hx, h3⟩ := s
  have hn : ∀ i, w.heap.size ≤ i → x i = none := fun i hi => by
    cases hxi : x i with
    | none => rfl
    | some y => have := (Array.getElem?_eq_some_iff.1 (h3 i y hxi)).1; omega
  refine ⟨e1, e2, mrg (fun i => if i = w.heap.size then some o else none) x, ⟨_, x, fun i => ?_, rfl, rfl, hx⟩, fun i y hi => ?_⟩
  · by_cases e : i = w.heap.size
    · right; exact hn i (by omega)
    · left; simp [e]
  · by_cases e : i = w.heap.size
    · simp [mrg, e] at hi; simp [e, hi]
    · simp [mrg, e] at hi
      have := h3 i y hi
      have hlt := (Array.getElem?_eq_some_iff.1 this).1
      rw [Array.getElem?_push]; simp [e, this]
theorem St.drew {g : Gh} {w : World} {R : HP} (n : Nat) (s : St g w R) : St g { w with drawn := n } R := s
def all (w : World) : HP := fun h => h = fun i => w.heap[i]?
theorem St.all (w : World) : St ⟨w.os, w.output⟩ w (Sl.all w) := ⟨rfl, rfl, _, rfl, fun _ _ h => h⟩
theorem St.all_same {g : Gh} {w w' : World} {R : HP} (s : St g w' (R * Sl.all w)) : ∀ (i : Nat) (o : Obj), w.heap[i]? = some o → w'.heap[i]? = some o := by
  obtain ⟨_, _, x, ⟨a, b, d, rfl, ha, hb⟩, h3⟩ := s
  intro i o hi
  refine h3 i o ?_
  have hb' : b = _ := hb
  rcases d i with h | h
  · simp [mrg, h, hb', hi]
  · simp only [hb'] at h; rw [h] at hi; cases hi
end Go.Sl
namespace Go.Sl
open Go
set_option linter.unusedVariables false
universe u
abbrev Env := List (Nat × Value)
def lk : Env → Nat → Option Value
  | [], _ => none
  | (k, v) :: l, j => bif Nat.beq k j then some v else lk l j
def Rep (n : Nat) (ρ : Env) (a : Act) : Prop := a.tmps.size = n ∧ ∀ j v, lk ρ j = some v → a.tmps[j]? = some v
def ev (ρ : Env) : Operand → Option Value
  | .tmp t => lk ρ t
  | .const v => some v
  | .global g => some (.pointer (some ⟨g, 0, none⟩))
  | .func f => some (.func (.func f) #[] #[])
theorem ev_eval {n : Nat} {ρ : Env} {a : Act} (h : Rep n ρ a) {x : Operand} {v : Value} (hx : ev ρ x = some v) : a.eval x = v := by
  cases x with
  | tmp t => have := h.2 t v hx; simp [Act.eval, this]
  | const w => simpa [ev, Act.eval] using hx
  | global g => simpa [ev, Act.eval] using hx
  | func f => simpa [ev, Act.eval] using hx
theorem Rep.put {n : Nat} {ρ : Env} {a : Act} (h : Rep n ρ a) {d : Nat} (hd : Nat.blt d n = true) (v : Value) : Rep n ((d, v) :: ρ) (a.put (some d) v) := by
  have hd' : d < n := Nat.le_of_ble_eq_true hd
  refine ⟨by simp [Act.put, h.1], fun j u hj => ?_⟩
  simp only [lk] at hj
  cases e : Nat.beq d j with
  | true =>
    have : d = j := Nat.eq_of_beq_eq_true e
    subst this
    rw [e] at hj
    simp at hj
    subst hj
    simp [Act.put, h.1, hd']
  | false =>
    have hne : d ≠ j := Nat.ne_of_beq_eq_false e
    rw [e] at hj
    simp only [cond_false] at hj
    have := h.2 j u hj
    simp [Act.put, Array.getElem?_setIfInBounds_ne hne, this]
def Sub (ρ : Env) : Env → Prop
  | [] => True
  | (j, v) :: l => lk ρ j = some v ∧ Sub ρ l
theorem Sub.spec {ρ : Env} : ∀ {ρ' : Env}, Sub ρ ρ' → ∀ j v, lk ρ' j = some v → lk ρ j = some v
  | [], _, j, v, h => by cases h
  | (k, u) :: l, hs, j, v, h => by
    simp only [lk] at h
    cases e : Nat.beq k j with
    | true =>
      have : k = j := Nat.eq_of_beq_eq_true e
      subst this
      rw [e] at h; simp at h; subst h; exact hs.1
    | false => rw [e] at h; exact hs.2.spec j v h
theorem Rep.sub {n : Nat} {ρ ρ' : Env} {a : Act} (h : Rep n ρ a) (hs : Sub ρ ρ') : Rep n ρ' a := ⟨h.1, fun j v hj => h.2 j v (hs.spec j v hj)⟩
def fen (r : Option Nat) : Fence := { Fence.wide with round := r }
abbrev PostT := Exit → Env → List Deferred → HP → Prop
def toQ (n : Nat) (g : Gh) (Q : PostT) : Exit → Act → World → Prop := fun e a w => ∃ ρ H, Rep n ρ a ∧ St g w H ∧ Q e ρ a.defers H
def Cw (P : Program) (r : Option Nat) (n : Nat) (c : Code) (Q : PostT) (ρ : Env) (ds : List Deferred) (H : HP) : Prop :=
  ∀ g w a, Rep n ρ a → a.defers = ds → St g w H → c.wpIn (fen r) 0 P (toQ n g Q) a w
def thenQ (K : Env → List Deferred → HP → Prop) (Q : PostT) : PostT
  | .normal => K
  | e => Q e
def blockQ (id : Nat) (Q : PostT) : PostT
  | .exit id' => bif Nat.beq id' id then Q .normal else Q (.exit id')
  | e => Q e
section
variable {P : Program} {r : Option Nat} {n : Nat} {Q : PostT} {ρ : Env} {ds : List Deferred} {H : HP}
theorem Cw.mono {c : Code} {Q' : PostT} (h : Cw P r n c Q ρ ds H) (hq : ∀ e ρ ds H, Q e ρ ds H → Q' e ρ ds H) : Cw P r n c Q' ρ ds H :=
  fun g w a hr hd hs => wpIn_mono (h g w a hr hd hs) fun e a w ⟨ρ', H', h1, h2, h3⟩ => ⟨ρ', H', h1, h2, hq _ _ _ _ h3⟩
theorem Cw.ent {c : Code} {H' : HP} (he : Ent H H') (h : Cw P r n c Q ρ ds H') : Cw P r n c Q ρ ds H := fun g w a hr hd hs => h g w a hr hd (hs.mono he)
theorem Cw.heq {c : Code} {H' : HP} (he : H = H') (h : Cw P r n c Q ρ ds H') : Cw P r n c Q ρ ds H := he ▸ h
theorem Cw.ex {α : Sort u} {c : Code} {A : α → HP} (h : ∀ x, Cw P r n c Q ρ ds (A x)) : Cw P r n c Q ρ ds (Sl.ex A) :=
  fun g w a hr hd hs => let ⟨x, hx⟩ := St.ex.1 hs; h x g w a hr hd hx
theorem Cw.exs {α : Sort u} {c : Code} {A : α → HP} {R : HP} (h : ∀ x, Cw P r n c Q ρ ds (A x * R)) : Cw P r n c Q ρ ds (Sl.ex A * R) := by
  rw [ex_star]; exact Cw.ex h
theorem Cw.lift {p : Prop} {c : Code} {R : HP} (h : p → Cw P r n c Q ρ ds R) : Cw P r n c Q ρ ds (Sl.lift p * R) :=
  fun g w a hr hd hs => let ⟨x, hx⟩ := St.lift.1 hs; h x g w a hr hd hx
theorem Cw.skip (h : Q .normal ρ ds H) : Cw P r n .skip Q ρ ds H := fun g w a hr hd hs => wpIn_skip ⟨ρ, H, hr, hs, hd ▸ h⟩
theorem Cw.exit {id : Nat} (h : Q (.exit id) ρ ds H) : Cw P r n (.exit id) Q ρ ds H := fun g w a hr hd hs => wpIn_exit ⟨ρ, H, hr, hs, hd ▸ h⟩
theorem Cw.ret (h : Q .ret ρ ds H) : Cw P r n .ret Q ρ ds H := fun g w a hr hd hs => wpIn_ret ⟨ρ, H, hr, hs, hd ▸ h⟩
theorem Cw.seq {x y : Code} (h : Cw P r n x (thenQ (fun ρ ds H => Cw P r n y Q ρ ds H) Q) ρ ds H) : Cw P r n (.seq x y) Q ρ ds H := by
  intro g w a hr hd hs
  refine wpIn_seq (wpIn_mono (h g w a hr hd hs) ?_)
  rintro e a w ⟨ρ', H', h1, h2, h3⟩
  cases e with
  | normal => exact h3 g w a h1 rfl h2
  | exit id => exact ⟨ρ', H', h1, h2, h3⟩
  | goto l => exact ⟨ρ', H', h1, h2, h3⟩
  | ret => exact ⟨ρ', H', h1, h2, h3⟩
  | panic c => exact ⟨ρ', H', h1, h2, h3⟩
  | outgrown => exact ⟨ρ', H', h1, h2, h3⟩
theorem Cw.cond {c : Operand} {x y : Code} {b : Bool} (hc : ev ρ c = some (.bool b)) (ht : b = true → Cw P r n x Q ρ ds H) (hf : b = false → Cw P r n y Q ρ ds H) :
    Cw P r n (.cond c x y) Q ρ ds H := by
  intro g w a hr hd hs
  refine wpIn_cond_split (ev_eval hr hc) (fun e => ht e g w a hr hd hs) (fun e => hf e g w a hr hd hs)
theorem Cw.cond_t {c : Operand} {x y : Code} {b : Bool} (hc : ev ρ c = some (.bool b)) (hb : b = true) (ht : Cw P r n x Q ρ ds H) :
    Cw P r n (.cond c x y) Q ρ ds H := Cw.cond hc (fun _ => ht) (fun h => by rw [hb] at h; cases h)
theorem Cw.cond_f {c : Operand} {x y : Code} {b : Bool} (hc : ev ρ c = some (.bool b)) (hb : b = false) (ht : Cw P r n y Q ρ ds H) :
    Cw P r n (.cond c x y) Q ρ ds H := Cw.cond hc (fun h => by rw [hb] at h; cases h) (fun _ => ht)
theorem Cw.block {id : Nat} {c : Code} (h : Cw P r n c (blockQ id Q) ρ ds H) : Cw P r n (.block id c) Q ρ ds H := by
  intro g w a hr hd hs
  refine wpIn_block (wpIn_mono (h g w a hr hd hs) ?_)
  rintro e a w ⟨ρ', H', h1, h2, h3⟩
  cases e with
  | exit id' =>
    simp only [blockQ] at h3
    simp only [Exit.inBlock]
    cases e : Nat.beq id' id with
    | true =>
      rw [e] at h3
      rw [if_pos (Nat.eq_of_beq_eq_true e)]
      exact ⟨ρ', H', h1, h2, h3⟩
    | false =>
      rw [e] at h3
      rw [if_neg (Nat.ne_of_beq_eq_false e)]
      exact ⟨ρ', H', h1, h2, h3⟩
  | normal => exact ⟨ρ', H', h1, h2, h3⟩
  | goto l => exact ⟨ρ', H', h1, h2, h3⟩
  | ret => exact ⟨ρ', H', h1, h2, h3⟩
  | panic c => exact ⟨ρ', H', h1, h2, h3⟩
  | outgrown => exact ⟨ρ', H', h1, h2, h3⟩
open Classical in
theorem least_exists {p : Nat → Prop} (h : ∃ n, p n) : ∃ n, p n ∧ ∀ m, p m → n ≤ m := by
  obtain ⟨n, hn⟩ := h
  induction n using Nat.strongRecOn with
  | _ n ih =>
    by_cases hm : ∃ m, m < n ∧ p m
    · obtain ⟨m, hlt, hp⟩ := hm; exact ih m hlt hp
    · exact ⟨n, hn, fun m hp => Nat.le_of_not_lt fun hlt => hm ⟨m, hlt, hp⟩⟩
open Classical in
noncomputable def least (p : Nat → Prop) : Nat := if h : ∃ n, p n then Classical.choose (least_exists h) else 0
theorem least_spec {p : Nat → Prop} (h : ∃ n, p n) : p (least p) ∧ ∀ m, p m → least p ≤ m := by
  unfold least; rw [dif_pos h]; exact Classical.choose_spec (least_exists h)
theorem Cw.loop {σ : Type u} {c : Code} (ρI : σ → Env) (HI : σ → HP) (μ : σ → Nat) (s₀ : σ) (h0 : Sub ρ (ρI s₀)) (hH : Ent H (HI s₀))
    (round : ∀ s, Cw P r n c (thenQ (fun ρ' ds' H' => ds' = ds ∧ ∃ s', μ s' < μ s ∧ Sub ρ' (ρI s') ∧ Ent H' (HI s')) Q) (ρI s) ds (HI s)) :
    Cw P r n (.loop c) Q ρ ds H := by
  intro g w a hr hd hs
  refine wpIn_loop (fun a w => ∃ s, Rep n (ρI s) a ∧ a.defers = ds ∧ St g w (HI s)) (fun a w => least fun k => ∃ s, μ s = k ∧ Rep n (ρI s) a ∧ a.defers = ds ∧ St g w (HI s))
    ⟨s₀, hr.sub h0, hd, hs.mono hH⟩ ?_
  rintro a w ⟨s₁, h1⟩
  obtain ⟨⟨s, hk, h2, h3, h4⟩, _⟩ := least_spec (p := fun k => ∃ s, μ s = k ∧ Rep n (ρI s) a ∧ a.defers = ds ∧ St g w (HI s)) ⟨_, s₁, rfl, h1⟩
  refine wpIn_mono (round s g w a h2 h3 h4) ?_
  rintro e a' w' ⟨ρ', H', g1, g2, g3⟩
  cases e with
  | normal =>
    obtain ⟨hds, s', hlt, hsub, hent⟩ := g3
    have h5 : Rep n (ρI s') a' ∧ a'.defers = ds ∧ St g w' (HI s') := ⟨g1.sub hsub, hds, g2.mono hent⟩
    refine ⟨⟨s', h5⟩, Nat.lt_of_le_of_lt ((least_spec (p := fun k => ∃ s, μ s = k ∧ Rep n (ρI s) a' ∧ a'.defers = ds ∧ St g w' (HI s)) ⟨_, s', rfl, h5⟩).2 _ ⟨s', rfl, h5⟩) ?_⟩
    rw [← hk]; exact hlt
  | exit id => exact ⟨ρ', H', g1, g2, g3⟩
  | goto l => exact ⟨ρ', H', g1, g2, g3⟩
  | ret => exact ⟨ρ', H', g1, g2, g3⟩
  | panic c => exact ⟨ρ', H', g1, g2, g3⟩
  | outgrown => exact ⟨ρ', H', g1, g2, g3⟩
/-! ### Operations -/
def Ow (P : Program) (r : Option Nat) (n : Nat) (all : List Oper) (l : List Oper) (Q : PostT) (ρ : Env) (ds : List Deferred) (H : HP) : Prop :=
  ∀ g w a, Rep n ρ a → a.defers = ds → St g w H → wpListIn (fen r) 0 P all.toArray (toQ n g Q) l a w
theorem Cw.region {id : Nat} {l : List Oper} (h : Ow P r n l l Q ρ ds H) : Cw P r n (.region id l.toArray false) Q ρ ds H :=
  fun g w a hr hd hs => wpIn_region_lit (h g w a hr hd hs)
variable {all rest : List Oper}
theorem Ow.nil (h : Q .normal ρ ds H) : Ow P r n all [] Q ρ ds H := fun g w a hr hd hs => ⟨ρ, H, hr, hs, hd ▸ h⟩
theorem Ow.ent {l : List Oper} {H' : HP} (he : Ent H H') (h : Ow P r n all l Q ρ ds H') : Ow P r n all l Q ρ ds H := fun g w a hr hd hs => h g w a hr hd (hs.mono he)
theorem Ow.heq {l : List Oper} {H' : HP} (he : H = H') (h : Ow P r n all l Q ρ ds H') : Ow P r n all l Q ρ ds H := he ▸ h
theorem Ow.ex {α : Sort u} {l : List Oper} {A : α → HP} (h : ∀ x, Ow P r n all l Q ρ ds (A x)) : Ow P r n all l Q ρ ds (Sl.ex A) :=
  fun g w a hr hd hs => let ⟨x, hx⟩ := St.ex.1 hs; h x g w a hr hd hx
theorem Ow.exs {α : Sort u} {l : List Oper} {A : α → HP} {R : HP} (h : ∀ x, Ow P r n all l Q ρ ds (A x * R)) : Ow P r n all l Q ρ ds (Sl.ex A * R) := by
  rw [ex_star]; exact Ow.ex h
def putE (d : Option Nat) (v : Value) (ρ : Env) : Env := match d with | some d => (d, v) :: ρ | none => ρ
def dOk (n : Nat) : Option Nat → Bool
  | some d => Nat.blt d n
  | none => true
theorem Rep.putE {a : Act} (h : Rep n ρ a) {d : Option Nat} (hd : dOk n d = true) (v : Value) : Rep n (Sl.putE d v ρ) (a.put d v) := by
  cases d with
  | none => exact h
  | some d => exact h.put hd v
theorem semAt_eq {o : Oper} (h : ∀ c, o.op ≠ .defer c) (ro : Option Nat) (ρ : Operand → Value) : o.semAt ro ρ = execOp ρ o := Oper.semAt_eq ro ρ o h
theorem Ow.value {d : Option Nat} {op : Op} {t : TypeId} {pos : String} {aft : Array Edge} {v : Value} {H' : HP} (hd : dOk n d = true) (hdf : ∀ c, op ≠ .defer c)
    (hrun : ∀ g w a, Rep n ρ a → St g w H → ∃ w', (execOp a.eval ⟨d, op, t, pos, aft, none⟩).run P w = .ok (.value v) w' ∧ St g w' H')
    (h : Ow P r n all rest Q (putE d v ρ) ds H') : Ow P r n all (⟨d, op, t, pos, aft, none⟩ :: rest) Q ρ ds H := by
  intro g w a hr hds hs
  obtain ⟨w', h1, h2⟩ := hrun g w a hr hs
  simp only [wpListIn, Region.wanted, if_true, Oper.wpIn]
  refine ⟨fun _ _ => trivial, ?_⟩
  rw [semAt_eq (o := ⟨d, op, t, pos, aft, none⟩) hdf, h1]
  exact h g w' _ (hr.putE hd v) (by cases d <;> exact hds) h2
theorem Ow.unit {d : Option Nat} {op : Op} {t : TypeId} {pos : String} {aft : Array Edge} {H' : HP} (hd : dOk n d = true) (hdf : ∀ c, op ≠ .defer c)
    (hrun : ∀ g w a, Rep n ρ a → St g w H → ∃ w', (execOp a.eval ⟨d, op, t, pos, aft, none⟩).run P w = .ok .skip w' ∧ St g w' H')
    (h : Ow P r n all rest Q (putE d undef ρ) ds H') : Ow P r n all (⟨d, op, t, pos, aft, none⟩ :: rest) Q ρ ds H := by
  intro g w a hr hds hs
  obtain ⟨w', h1, h2⟩ := hrun g w a hr hs
  simp only [wpListIn, Region.wanted, if_true, Oper.wpIn]
  refine ⟨fun _ _ => trivial, ?_⟩
  rw [semAt_eq (o := ⟨d, op, t, pos, aft, none⟩) hdf, h1]
  exact h g w' _ (hr.putE hd undef) (by cases d <;> exact hds) h2
theorem Ow.guard_yes {d : Option Nat} {op : Op} {t : TypeId} {pos : String} {aft : Array Edge} {j : Nat} {b : Bool} {oj : Oper} {dj : Nat}
    (hj : all[j]? = some oj) (hdj : oj.dst = some dj) (hb : lk ρ dj = some (.bool b))
    (h : Ow P r n all (⟨d, op, t, pos, aft, none⟩ :: rest) Q ρ ds H) : Ow P r n all (⟨d, op, t, pos, aft, some (j, b)⟩ :: rest) Q ρ ds H := by
  intro g w a hr hds hs
  have h := h g w a hr hds hs
  have hy : yielded all.toArray a.tmps j = some b := by
    have := hr.2 dj _ hb
    simp [yielded, hj, hdj, this]
  simp only [wpListIn, Region.wanted, hy, if_true, BEq.rfl] at h ⊢
  exact h
theorem Ow.guard_no {d : Option Nat} {op : Op} {t : TypeId} {pos : String} {aft : Array Edge} {j : Nat} {b : Bool} {oj : Oper} {dj : Nat} (hd : dOk n d = true)
    (hj : all[j]? = some oj) (hdj : oj.dst = some dj) (hb : lk ρ dj = some (.bool (!b)))
    (h : Ow P r n all rest Q (putE d undef ρ) ds H) : Ow P r n all (⟨d, op, t, pos, aft, some (j, b)⟩ :: rest) Q ρ ds H := by
  intro g w a hr hds hs
  have hy : yielded all.toArray a.tmps j = some (!b) := by
    have := hr.2 dj _ hb
    simp [yielded, hj, hdj, this]
  simp only [wpListIn, Region.wanted, hy]
  have : (some (!b) == some b) = false := by cases b <;> rfl
  rw [this]
  exact ⟨fun _ _ => trivial, h g w _ (hr.putE hd undef) (by cases d <;> exact hds) hs⟩
end
end Go.Sl
namespace Go.Sl
open Go
set_option linter.unusedVariables false
universe u
/-! ### What is known of types -/
class TyU (P : Program) (t : TypeId) (d : outParam TypeDesc) : Prop where
  h : P.underlying t = some d
class TyS (P : Program) (t : TypeId) (k b : outParam Nat) (z : outParam (List Value)) : Prop where
  h : (P.info? t).map (fun i => (i.size, i.bytes, i.zero.map (·.cells))) = some (k, b, some z.toArray)
theorem TyS.get {P : Program} {t : TypeId} {k b : Nat} {z : List Value} (T : TyS P t k b z) : ∃ i zv, P.info? t = some i ∧ i.size = k ∧ i.bytes = b ∧ i.zero = some zv ∧ zv.cells = z.toArray := by
  have h := T.h
  cases e : P.info? t with
  | none => rw [e] at h; cases h
  | some i =>
    rw [e] at h
    simp at h
    obtain ⟨h1, h2, zv, h3, h4⟩ := h
    exact ⟨i, zv, rfl, h1, h2, h3, h4⟩
def fldOf (P : Program) (s f : Nat) : Option (Nat × Bool) :=
  match P.underlying s with
  | some (.struct fs) => (fs[f]?).map fun fd => (fd.offset, (P.info? fd.type).any fun i => i.size != 0)
  | _ => none
class Fld (P : Program) (s f : Nat) (off : outParam Nat) : Prop where
  h : fldOf P s f = some (off, true)
theorem Fld.get {P : Program} {s f off : Nat} (T : Fld P s f off) : ∃ fs fd i, P.underlying s = some (.struct fs) ∧ fs[f]? = some fd ∧ fd.offset = off ∧ P.info? fd.type = some i ∧ i.size ≠ 0 := by
  have h := T.h
  unfold fldOf at h
  cases e : P.underlying s with
  | none => rw [e] at h; cases h
  | some d =>
    rw [e] at h
    cases d <;> simp at h
    rename_i fs
    obtain ⟨fd, h1, h2, h3⟩ := h
    cases e2 : P.info? fd.type with
    | none => rw [e2] at h3; simp at h3
    | some i => rw [e2] at h3; simp at h3; exact ⟨fs, fd, i, rfl, h1, h2, e2, h3⟩
def aggB : TypeDesc → Bool
  | .struct _ => true
  | .array _ _ => true
  | _ => false
class TyA (P : Program) (t : TypeId) (b : outParam Bool) : Prop where
  h : (P.underlying t).map aggB = some b
class TyB (P : Program) (T : TypeId) (ix : List Nat) (f : outParam (List Value → List Value)) : Prop where
  h : True
class TyBS (P : Program) (T : TypeId) (m : Nat) (e : outParam TypeId) (ix : List Nat) (f : outParam (List Value → List Value)) : Prop where
  h : True
variable {td : TypeDesc} {kk bb : Nat} {zc : List Value}
section
variable {P : Program} {t : TypeId} {w : World}
theorem run_under [T : TyU P t td] : (underlying t).run P w = .ok td w := by simp [underlying, T.h]
theorem run_size [T : TyS P t kk bb zc] : (sizeOf t).run P w = .ok kk w := by
  obtain ⟨i, zv, h1, h2, h3, h4, h5⟩ := T.get
  simp [sizeOf, typeInfo, h1, h2]
theorem run_zero [T : TyS P t kk bb zc] : ∃ zv, zv.cells = zc.toArray ∧ (zeroValue t).run P w = .ok zv w := by
  obtain ⟨i, zv, h1, h2, h3, h4, h5⟩ := T.get
  exact ⟨zv, h5, by simp [zeroValue, typeInfo, h1, h4]⟩
theorem run_agg {b : Bool} [T : TyA P t b] : (isAgg t).run P w = .ok b w := by
  have h := T.h
  cases e : P.underlying t with
  | none => rw [e] at h; cases h
  | some d =>
    rw [e] at h
    simp at h
    subst h
    simp only [isAgg, underlying, Sem.run_bind, run_program, Result.andThen_ok, e, Sem.run_pure]
    cases d <;> rfl
end
/-! ### Cells of a heap -/
def cellH (h : PH) (a : Addr) : Option Value :=
  match h a.block with
  | some (.cells c _ _) => if a.spot.isSome then none else c[a.off]?
  | _ => none
def RdA (A : HP) (a : Addr) (v : Value) : Prop := ∀ h, A h → cellH h a = some v
def WrA (A : HP) (a : Addr) (v : Value) (A' : HP) : Prop := ∀ h, A h → a.spot = none ∧ ∃ c t fz, h a.block = some (.cells c t fz) ∧ a.off < c.size ∧ ¬ (fz.1 ≤ a.off ∧ a.off < fz.2) ∧
  A' (fun i => if i = a.block then some (.cells (c.setIfInBounds a.off v) t fz) else h i)
def Pk (H A R : HP) : Prop := H = A * R
theorem pk0 {A R : HP} : Pk (A * R) A R := rfl
theorem pkn {A B R R' : HP} (h : Pk R A R') : Pk (B * R) A (B * R') := by unfold Pk at *; rw [h, star_left_comm]
theorem pkl {A : HP} : Pk A A emp := (star_emp A).symm
section
variable {g : Gh} {w : World} {A A' R H : HP} {a : Addr} {v : Value}
theorem St.cell (s : St g w H) (hp : Pk H A R) (hr : RdA A a v) : w.cell? a = some v := by
  unfold Pk at hp
  subst hp
  obtain ⟨_, _, x, ⟨p, q, d, rfl, hA, _⟩, h3⟩ := s
  have := hr p hA
  unfold cellH at this
  cases e : p a.block with
  | none => rw [e] at this; cases this
  | some o =>
    rw [e] at this
    have hw := h3 a.block o (by simp [mrg, e])
    unfold World.cell?
    rw [hw]
    cases o <;> first | exact this | cases this
theorem St.store (s : St g w (A * R)) (hw : WrA A a v A') : (∃ u, w.cell? a = some u) ∧ w.frozen? a = false ∧ St g (w.setCell a v) (A' * R) := by
  obtain ⟨e1, e2, x, ⟨p, q, d, rfl, hA, hR⟩, h3⟩ := s
  obtain ⟨hspot, c, t, fz, hb, hlt, hfz, hA'⟩ := hw p hA
  have hwb : w.heap[a.block]? = some (.cells c t fz) := h3 a.block _ (by simp [mrg, hb])
  refine ⟨⟨c[a.off], by simp [World.cell?, hwb, hspot, hlt]⟩, ?_, e1, e2, _, ⟨_, q, fun i => ?_, rfl, hA', hR⟩, fun i o hi => ?_⟩
  · simp only [World.frozen?, hwb]
    obtain ⟨lo, hi⟩ := fz
    have hfz' : ¬ (lo ≤ a.off ∧ a.off < hi) := hfz
    clear hw
    simp only [Bool.and_eq_false_iff, decide_eq_false_iff_not]
    omega
  · by_cases e : i = a.block
    · right
      rcases d i with h | h
      · rw [e, hb] at h; cases h
      · exact h
    · rcases d i with h | h
      · left; simp [e, h]
      · right; exact h
  · have hmod : (w.setCell a v).heap = w.heap.modify a.block fun
      | .cells c elem frozen => .cells (if a.spot.isSome then c else c.setIfInBounds a.off v) elem frozen
      | o => o := rfl
    rw [hmod, Array.getElem?_modify]
    by_cases e : i = a.block
    · subst e
      simp [mrg] at hi
      subst hi
      simp [hwb, hspot]
    · simp [mrg, e] at hi
      rw [if_neg (fun h => e h.symm)]
      exact h3 i o (by simp [mrg, hi])
end
def cl (b : Nat) (cs : List Value) : HP := ex fun x : TypeId × (Nat × Nat) => fun h => (∀ j, j < cs.length → ¬ (x.2.1 ≤ j ∧ j < x.2.2)) ∧ pt b (.cells cs.toArray x.1 x.2) h
theorem rd_cl {b : Nat} {cs : List Value} {o : Nat} {v : Value} (h : cs[o]? = some v) : RdA (cl b cs) ⟨b, o, none⟩ v := by
  rintro x ⟨⟨t, fz⟩, _, hx⟩
  have hx' : x = _ := hx
  simp [cellH, hx', h]
theorem wr_cl {b : Nat} {cs : List Value} {o : Nat} {v : Value} (h : o < cs.length) : WrA (cl b cs) ⟨b, o, none⟩ v (cl b (cs.set o v)) := by
  rintro x ⟨⟨t, fz⟩, h1, hx⟩
  have hx' : x = _ := hx
  refine ⟨rfl, cs.toArray, t, fz, by simp [hx'], by simpa using h, h1 o h, ⟨t, fz⟩, by simpa using h1, ?_⟩
  show _ = _
  funext i
  simp only [hx']
  by_cases e : i = b <;> simp [e]
theorem St.new_cl {g : Gh} {w : World} {R : HP} (s : St g w R) (cs : List Value) (t : TypeId) : St g { w with heap := w.heap.push (.cells cs.toArray t (0, 0)) } (cl w.heap.size cs * R) :=
  (s.alloc _).mono (Ent.left (.of_imp fun h hh => ⟨⟨t, (0, 0)⟩, fun j _ => by simp, hh⟩))
/-! ### Rules of operations -/
section
variable {P : Program} {r : Option Nat} {n : Nat} {Q : PostT} {ρ : Env} {ds : List Deferred} {H R A : HP} {all rest : List Oper} {d : Option Nat} {t t' : TypeId} {pos : String} {aft : Array Edge} {v : Value} {x y z : Operand}
def Pu (P : Program) (n : Nat) (ρ : Env) (H : HP) (op : Op) (t : TypeId) (v : Value) : Prop :=
  (∀ c, op ≠ .defer c) ∧ ∀ d pos aft gd g w a, Rep n ρ a → St g w H → (execOp a.eval ⟨d, op, t, pos, aft, gd⟩).run P w = .ok (.value v) w
theorem Pu.mk {op : Op} (hdf : ∀ c, op ≠ .defer c) (hrun : ∀ {d pos aft gd} a w, Rep n ρ a → (execOp a.eval ⟨d, op, t, pos, aft, gd⟩).run P w = .ok (.value v) w) : Pu P n ρ H op t v :=
  ⟨hdf, fun d pos aft gd g w a hr _ => hrun a w hr⟩
theorem Pu.mks {op : Op} (hdf : ∀ c, op ≠ .defer c) (hrun : ∀ {d pos aft gd g} w a, Rep n ρ a → St g w H → (execOp a.eval ⟨d, op, t, pos, aft, gd⟩).run P w = .ok (.value v) w) : Pu P n ρ H op t v :=
  ⟨hdf, fun d pos aft gd g w a hr hs => hrun w a hr hs⟩
theorem Ow.pu {op : Op} (hd : dOk n d = true) (hpu : Pu P n ρ H op t v) (h : Ow P r n all rest Q (putE d v ρ) ds H) : Ow P r n all (⟨d, op, t, pos, aft, none⟩ :: rest) Q ρ ds H :=
  Ow.value hd hpu.1 (fun g w a hr hs => ⟨w, hpu.2 _ _ _ _ g w a hr hs, hs⟩) h
theorem Pu.move (hx : ev ρ x = some v) : Pu P n ρ H (.move x) t v :=
  Pu.mk (by simp) (fun a w hr => by simp [execOp, ev_eval hr hx])
theorem Pu.assign (hx : ev ρ x = some v) : Pu P n ρ H (.assign x) t v :=
  Pu.mk (by simp) (fun a w hr => by simp [execOp, ev_eval hr hx])
theorem Pu.pick_t (hx : ev ρ x = some (.bool true)) (hy : ev ρ y = some v) : Pu P n ρ H (.pick x y z) t v :=
  Pu.mk (by simp) (fun a w hr => by simp [execOp, ev_eval hr hx, ev_eval hr hy, asBool])
theorem Pu.pick_f (hx : ev ρ x = some (.bool false)) (hz : ev ρ z = some v) : Pu P n ρ H (.pick x y z) t v :=
  Pu.mk (by simp) (fun a w hr => by simp [execOp, ev_eval hr hx, ev_eval hr hz, asBool])
theorem Pu.nilCheck {a : Addr} (hx : ev ρ x = some (.pointer (some a))) :
    Pu P n ρ H (.nilCheck x) t (.pointer (some a)) :=
  Pu.mk (by simp) (fun a' w hr => by simp [execOp, ev_eval hr hx])
theorem Pu.fieldAddr {s f off : Nat} [T : Fld P s f off] {a : Addr} (hx : ev ρ x = some (.pointer (some a))) :
    Pu P n ρ H (.fieldAddr s x f) t (.pointer (some (a.add off))) := by
  obtain ⟨fs, fd, i, h1, h2, h3, h4, h5⟩ := T.get
  exact Pu.mk (by simp) (fun a' w hr => by
    simp [execOp, ev_eval hr hx, Instr.fieldAt, underlying, h1, h2, Instr.sureAddr, Go.fieldPlace, sizeOf, typeInfo, h4, h5, h3])
theorem Pu.load [T : TyA P t false] {a : Addr} (hx : ev ρ x = some (.pointer (some a))) (hp : Pk H A R) (hr : RdA A a v) : Pu P n ρ H (.load t x) t' v :=
  Pu.mks (by simp) (fun w a' hrp hs => by
    simp [execOp, ev_eval hrp hx, Instr.loadAt, Instr.sureAddr, loadVar, run_agg, hs.cell hp hr])
theorem run_loadCells {P : Program} {w : World} {a : Addr} {vs : List Value} : ∀ (i : Nat) (acc : Array Value) (h : ∀ j v, vs[j]? = some v → w.cell? (a.add (i + j)) = some v),
    (loadCellsFrom a i vs.length acc).run P w = .ok (acc ++ vs.toArray) w := by
  induction vs with
  | nil => intro i acc _; simp [loadCellsFrom]
  | cons u vs ih =>
    intro i acc h
    have h0 := h 0 u rfl
    have hk := ih (i + 1) (acc.push u) (fun j v hv => by have := h (j + 1) v (by simpa using hv); rwa [show i + (j + 1) = i + 1 + j by omega] at this)
    simp only [List.length_cons, loadCellsFrom, Sem.run_bind, run_load]
    rw [show a.add i = a.add (i + 0) by rfl, h0]
    simp only [Result.andThen_ok, hk]
    simp
def RdN (A : HP) (a : Addr) (vs : List Value) : Prop := ∀ j v, vs[j]? = some v → RdA A (a.add j) v
theorem Pu.loadN [T : TyA P t true] [S : TyS P t kk bb zc] {a : Addr} {vs : List Value} (hx : ev ρ x = some (.pointer (some a))) (hp : Pk H A R) (hr : RdN A a vs) (hk : vs.length = kk) :
    Pu P n ρ H (.load t x) t' (.agg vs.toArray) :=
  Pu.mks (by simp) (fun w a' hrp hs => by
    have hl := run_loadCells (P := P) (w := w) (a := a) (vs := vs) 0 #[] (fun j v hv => by rw [Nat.zero_add]; exact hs.cell hp (hr j v hv))
    rw [hk] at hl
    simp [execOp, ev_eval hrp hx, Instr.loadAt, Instr.sureAddr, loadVar, run_agg, run_size, loadCells, hl])
theorem Ow.store [S : TyS P t 1 bb zc] {a : Addr} {A' : HP} (hd : dOk n d = true) (hx : ev ρ x = some (.pointer (some a))) (hy : ev ρ y = some v) (ho : v.oneCell' = true) (hp : Pk H A R) (hw : WrA A a v A')
    (h : Ow P r n all rest Q (putE d undef ρ) ds (A' * R)) : Ow P r n all (⟨d, .store t x y, t', pos, aft, none⟩ :: rest) Q ρ ds H :=
  Ow.unit hd (by simp) (fun g w a' hrp hs => by
    unfold Pk at hp; subst hp
    obtain ⟨⟨u, hu⟩, hf, hs'⟩ := hs.store hw
    refine ⟨w.setCell a v, ?_, hs'⟩
    have hc : v.cells = #[v] := by cases v <;> first | rfl | cases ho
    have hst := run_store P w a v .plain ho
    simp [execOp, ev_eval hrp hx, ev_eval hrp hy, Instr.storeAt, Instr.sureAddr, storeVar, hc, run_size, storeCells, Addr.add, hst, hu, hf]) h
end
attribute [irreducible] cl
end Go.Sl
namespace Go.Sl
open Go
set_option linter.unusedVariables false
universe u
/-! ### Numbers -/
theorem wrap_i64 {a : Int} (h : -9223372036854775808 ≤ a ∧ a ≤ 9223372036854775807) : IntKind.wrap .i64 a = a := by
  simp [IntKind.wrap, IntKind.signed, IntKind.bits]; omega
theorem wrap_u8 {a : Int} (h : 0 ≤ a ∧ a ≤ 255) : IntKind.wrap .u8 a = a := by
  simp [IntKind.wrap, IntKind.signed, IntKind.bits]; omega
theorem wrap_u64 {a : Int} (h : 0 ≤ a ∧ a ≤ 18446744073709551615) : IntKind.wrap .u64 a = a := by
  simp [IntKind.wrap, IntKind.signed, IntKind.bits]; omega
def andI (k : IntKind) (a b : Int) : Int := k.wrap ((BitVec.ofInt k.bits a &&& BitVec.ofInt k.bits b).toNat : Int)
def orI (k : IntKind) (a b : Int) : Int := k.wrap ((BitVec.ofInt k.bits a ||| BitVec.ofInt k.bits b).toNat : Int)
def xorI (k : IntKind) (a b : Int) : Int := k.wrap ((BitVec.ofInt k.bits a ^^^ BitVec.ofInt k.bits b).toNat : Int)
def clrI (k : IntKind) (a b : Int) : Int := k.wrap ((BitVec.ofInt k.bits a &&& ~~~ BitVec.ofInt k.bits b).toNat : Int)
variable {td td' : TypeDesc} {kk bb : Nat} {zc : List Value}
section
variable {P : Program} {r : Option Nat} {n : Nat} {Q : PostT} {ρ : Env} {ds : List Deferred} {H R A : HP} {all rest : List Oper} {d : Option Nat} {t t' t'' : TypeId} {pos : String} {aft : Array Edge} {v u : Value} {x y z : Operand}
  {k k' : IntKind} {a b c : Int} {p q : Bool}
theorem run_bin_int {op : BinOp} {e : Int → Int → Sem Value} (w : World) : (eqGuard op t x y (.int k a) (.int k' b)).run P w = .ok () w := by
  unfold eqGuard
  cases op <;> simp
theorem Pu.bin {op : BinOp} {x' y' : Value} (hx : ev ρ x = some x') (hy : ev ρ y = some y') (hg : ∀ w, (eqGuard op t x y x' y').run P w = .ok () w) (hv : ∀ w, (binOp op t x' y').run P w = .ok v w) : Pu P n ρ H (.binOp op t x y t') t'' v :=
  Pu.mk (by simp) (fun a w hr => by simp [execOp, ev_eval hr hx, ev_eval hr hy, hg, hv])
theorem Pu.binI {op : BinOp} (hx : ev ρ x = some (.int k a)) (hy : ev ρ y = some (.int k b)) (hv : ∀ w, (binOp op t (.int k a) (.int k b)).run P w = .ok v w) : Pu P n ρ H (.binOp op t x y t') t'' v :=
  Pu.bin hx hy (fun w => run_bin_int (e := fun _ _ => stuck "") w) hv
theorem Pu.eqI (hx : ev ρ x = some (.int k a)) (hy : ev ρ y = some (.int k b)) :
    Pu P n ρ H (.binOp .eql t x y t') t'' (.bool (decide (a = b))) := Pu.binI hx hy (fun w => by simp [Go.binOp, Op.intCmp]; rfl)
theorem Pu.neI (hx : ev ρ x = some (.int k a)) (hy : ev ρ y = some (.int k b)) :
    Pu P n ρ H (.binOp .neq t x y t') t'' (.bool (decide (¬ a = b))) := Pu.binI hx hy (fun w => by simp [Go.binOp, Op.intCmp]; rfl)
theorem Pu.lt (hx : ev ρ x = some (.int k a)) (hy : ev ρ y = some (.int k b)) :
    Pu P n ρ H (.binOp .lss t x y t') t'' (.bool (decide (a < b))) := Pu.binI hx hy (fun w => by simp [Go.binOp, Op.intCmp])
theorem Pu.gt (hx : ev ρ x = some (.int k a)) (hy : ev ρ y = some (.int k b)) :
    Pu P n ρ H (.binOp .gtr t x y t') t'' (.bool (decide (b < a))) := Pu.binI hx hy (fun w => by simp [Go.binOp, Op.intCmp])
theorem Pu.ge (hx : ev ρ x = some (.int k a)) (hy : ev ρ y = some (.int k b)) :
    Pu P n ρ H (.binOp .geq t x y t') t'' (.bool (decide (b ≤ a))) := Pu.binI hx hy (fun w => by simp [Go.binOp, Op.intCmp])
theorem Pu.add (hx : ev ρ x = some (.int k a)) (hy : ev ρ y = some (.int k b)) (hc : k.wrap (a + b) = c) :
    Pu P n ρ H (.binOp .add t x y t') t'' (.int k c) := Pu.binI hx hy (fun w => by simp [Go.binOp, Op.intArith, hc])
theorem Pu.add_i (hx : ev ρ x = some (.int .i64 a)) (hy : ev ρ y = some (.int .i64 b)) (hc : -9223372036854775808 ≤ a + b ∧ a + b ≤ 9223372036854775807) :
    Pu P n ρ H (.binOp .add t x y t') t'' (.int .i64 (a + b)) := Pu.add hx hy (wrap_i64 hc)
theorem Pu.sub (hx : ev ρ x = some (.int k a)) (hy : ev ρ y = some (.int k b)) (hc : k.wrap (a - b) = c) :
    Pu P n ρ H (.binOp .sub t x y t') t'' (.int k c) := Pu.binI hx hy (fun w => by simp [Go.binOp, Op.intArith, hc])
theorem Pu.sub_i (hx : ev ρ x = some (.int .i64 a)) (hy : ev ρ y = some (.int .i64 b)) (hc : -9223372036854775808 ≤ a - b ∧ a - b ≤ 9223372036854775807) :
    Pu P n ρ H (.binOp .sub t x y t') t'' (.int .i64 (a - b)) := Pu.sub hx hy (wrap_i64 hc)
theorem Pu.mul (hx : ev ρ x = some (.int k a)) (hy : ev ρ y = some (.int k b)) (hc : k.wrap (a * b) = c) :
    Pu P n ρ H (.binOp .mul t x y t') t'' (.int k c) := Pu.binI hx hy (fun w => by simp [Go.binOp, Op.intArith, hc])
theorem Pu.mul_i (hx : ev ρ x = some (.int .i64 a)) (hy : ev ρ y = some (.int .i64 b)) (hc : -9223372036854775808 ≤ a * b ∧ a * b ≤ 9223372036854775807) :
    Pu P n ρ H (.binOp .mul t x y t') t'' (.int .i64 (a * b)) := Pu.mul hx hy (wrap_i64 hc)
theorem Pu.quo (hx : ev ρ x = some (.int k a)) (hy : ev ρ y = some (.int k b)) (hb : b ≠ 0) (hc : k.wrap (a.tdiv b) = c) :
    Pu P n ρ H (.binOp .quo t x y t') t'' (.int k c) := Pu.binI hx hy (fun w => by simp [Go.binOp, Op.intDiv, hb, hc])
theorem Pu.quo_i (hx : ev ρ x = some (.int .i64 a)) (hy : ev ρ y = some (.int .i64 b)) (hb : 0 ≤ a ∧ a ≤ 9223372036854775807 ∧ 0 < b) :
    Pu P n ρ H (.binOp .quo t x y t') t'' (.int .i64 (a / b)) :=
  Pu.quo hx hy (by omega) (by
    rw [Int.tdiv_eq_ediv_of_nonneg hb.1]
    have h1 : 0 ≤ a / b := Int.ediv_nonneg hb.1 (by omega)
    have h2 : a / b ≤ a := Int.ediv_le_self _ hb.1
    exact wrap_i64 (by omega))
theorem Pu.rem (hx : ev ρ x = some (.int k a)) (hy : ev ρ y = some (.int k b)) (hb : b ≠ 0) :
    Pu P n ρ H (.binOp .rem t x y t') t'' (.int k (a.tmod b)) := Pu.binI hx hy (fun w => by simp [Go.binOp, Op.intDiv, hb])
theorem Pu.rem_p (hx : ev ρ x = some (.int k a)) (hy : ev ρ y = some (.int k b)) (hb : 0 ≤ a ∧ 0 < b) :
    Pu P n ρ H (.binOp .rem t x y t') t'' (.int k (a % b)) := by have := Pu.rem (P := P) (n := n) (H := H) (t := t) (t' := t') (t'' := t'') hx hy (show b ≠ 0 by omega); rwa [Int.tmod_eq_emod_of_nonneg hb.1] at this
theorem Pu.and (hx : ev ρ x = some (.int k a)) (hy : ev ρ y = some (.int k b)) (hc : andI k a b = c) :
    Pu P n ρ H (.binOp .and t x y t') t'' (.int k c) := Pu.binI hx hy (fun w => by subst hc; simp [Go.binOp, Op.intBits, andI])
theorem Pu.shl (hx : ev ρ x = some (.int k a)) (hy : ev ρ y = some (.int k' b)) (hb : 0 ≤ b) (hc : k.wrap (a * 2 ^ (min b.toNat k.bits)) = c) :
    Pu P n ρ H (.binOp .shl t x y t') t'' (.int k c) :=
  Pu.bin hx hy (fun w => run_bin_int (e := fun _ _ => stuck "") w) (fun w => by simp [Go.binOp, Op.shift, show ¬ b < 0 by omega, hc])
theorem Pu.shr (hx : ev ρ x = some (.int k a)) (hy : ev ρ y = some (.int k' b)) (hb : 0 ≤ b) (hc : a.fdiv (2 ^ (min b.toNat k.bits)) = c) :
    Pu P n ρ H (.binOp .shr t x y t') t'' (.int k c) :=
  Pu.bin hx hy (fun w => run_bin_int (e := fun _ _ => stuck "") w) (fun w => by simp [Go.binOp, Op.shift, show ¬ b < 0 by omega, hc])
theorem run_equalIn_bool [T : TyU P t .bool] (dd : Nat) (w : World) : (Op.equalIn (dd + 1) t (.bool p) (.bool q)).run P w = .ok (p == q) w := by
  simp only [Op.equalIn, Sem.run_bind, run_under, Result.andThen_ok]
  rfl
theorem run_equalIn_nil {e : TypeId} [T : TyU P t (.pointer e)] {l : Option Addr} (dd : Nat) (w : World) : (Op.equalIn (dd + 1) t (.pointer l) (.pointer none)).run P w = .ok l.isNone w := by
  simp only [Op.equalIn, Sem.run_bind, run_under, Result.andThen_ok]
  cases l <;> rfl
theorem run_equal_bool [T : TyU P t .bool] (w : World) : (Op.equal t (.bool p) (.bool q)).run P w = .ok (p == q) w := run_equalIn_bool 9999 w
theorem run_equal_nil {e : TypeId} [T : TyU P t (.pointer e)] {l : Option Addr} (w : World) : (Op.equal t (.pointer l) (.pointer none)).run P w = .ok l.isNone w := run_equalIn_nil 9999 w
theorem run_eql {x' y' : Value} {b : Bool} {w : World} (hb : binOp .eql t x' y' = (Op.equal t x' y' >>= fun z => pure (Value.bool z))) (h : (Op.equal t x' y').run P w = .ok b w) : (binOp .eql t x' y').run P w = .ok (.bool b) w := by
  rw [hb, Sem.run_bind, h]; rfl
theorem run_neq {x' y' : Value} {b : Bool} {w : World} (hb : binOp .neq t x' y' = (Op.equal t x' y' >>= fun z => pure (Value.bool (!z)))) (h : (Op.equal t x' y').run P w = .ok b w) : (binOp .neq t x' y').run P w = .ok (.bool (!b)) w := by
  rw [hb, Sem.run_bind, h]; rfl
theorem Pu.eqB [T : TyU P t .bool] (hx : ev ρ x = some (.bool p)) (hy : ev ρ y = some (.bool q)) :
    Pu P n ρ H (.binOp .eql t x y t') t'' (.bool (p == q)) :=
  Pu.bin hx hy (fun w => by simp [eqGuard]) (fun w => run_eql rfl (run_equal_bool w))
theorem Pu.neB [T : TyU P t .bool] (hx : ev ρ x = some (.bool p)) (hy : ev ρ y = some (.bool q)) :
    Pu P n ρ H (.binOp .neq t x y t') t'' (.bool (!(p == q))) :=
  Pu.bin hx hy (fun w => by simp [eqGuard]) (fun w => run_neq rfl (run_equal_bool w))
theorem Pu.eqNil {e : TypeId} [T : TyU P t (.pointer e)] {l : Option Addr} (hx : ev ρ x = some (.pointer l)) (hy : ev ρ y = some (.pointer none)) :
    Pu P n ρ H (.binOp .eql t x y t') t'' (.bool l.isNone) :=
  Pu.bin hx hy (fun w => by simp [eqGuard]) (fun w => run_eql (by cases l <;> rfl) (run_equal_nil w))
theorem Pu.neNil {e : TypeId} [T : TyU P t (.pointer e)] {l : Option Addr} (hx : ev ρ x = some (.pointer l)) (hy : ev ρ y = some (.pointer none)) :
    Pu P n ρ H (.binOp .neq t x y t') t'' (.bool (!l.isNone)) :=
  Pu.bin hx hy (fun w => by simp [eqGuard]) (fun w => run_neq (by cases l <;> rfl) (run_equal_nil w))
theorem Pu.not (hx : ev ρ x = some (.bool p)) :
    Pu P n ρ H (.unOp .not t x) t'' (.bool (!p)) := Pu.mk (by simp) (fun a w hr => by simp [execOp, ev_eval hr hx, Op.unary])
theorem Pu.conv [T : TyU P t (.int k)] [T' : TyU P t' (.int k')] (hx : ev ρ x = some (.int k a)) (hc : k'.wrap a = c) :
    Pu P n ρ H (.convert t t' x) t'' (.int k' c) :=
  Pu.mk (by simp) (fun a' w hr => by simp [execOp, ev_eval hr hx, Go.convert, run_under, Conv.intToInt, hc])
theorem Pu.extract {vs : Array Value} {i : Nat} (hx : ev ρ x = some (.tuple vs)) (hi : vs[i]? = some v) :
    Pu P n ρ H (.extract x i) t'' v :=
  Pu.mk (by simp) (fun a' w hr => by simp [execOp, ev_eval hr hx, Instr.extract, hi])
theorem Ow.fresh {op : Op} {f : Nat → Value} {cs : List Value} (hd : dOk n d = true) (hdf : ∀ c, op ≠ .defer c)
    (hrun : ∀ g w a, Rep n ρ a → St g w H → ∃ w', (execOp a.eval ⟨d, op, t, pos, aft, none⟩).run P w = .ok (.value (f w.heap.size)) w' ∧ St g w' (cl w.heap.size cs * H))
    (h : ∀ b, Ow P r n all rest Q (putE d (f b) ρ) ds (cl b cs * H)) : Ow P r n all (⟨d, op, t, pos, aft, none⟩ :: rest) Q ρ ds H := by
  intro g w a hr hds hs
  obtain ⟨w', h1, h2⟩ := hrun g w a hr hs
  simp only [wpListIn, Region.wanted, if_true, Oper.wpIn]
  refine ⟨fun _ _ => trivial, ?_⟩
  rw [semAt_eq (o := ⟨d, op, t, pos, aft, none⟩) hdf, h1]
  exact h _ g w' _ (hr.putE hd _) (by cases d <;> exact hds) h2
theorem Ow.box {cs : List Value} (hd : dOk n d = true) (hx : ev ρ x = some v) (hc : v.cells = cs.toArray) (h : ∀ b, Ow P r n all rest Q (putE d (.pointer (some ⟨b, 0, none⟩)) ρ) ds (cl b cs * H)) :
    Ow P r n all (⟨d, .box t x, t'', pos, aft, none⟩ :: rest) Q ρ ds H :=
  Ow.fresh (f := fun b => .pointer (some ⟨b, 0, none⟩)) hd (by simp) (fun g w a hr hs => ⟨_, by simp [execOp, ev_eval hr hx, Instr.box, newVar, newRow, hc], hs.new_cl cs t⟩) h
theorem Ow.alloc [S : TyS P t kk bb zc] (hd : dOk n d = true) (h : ∀ b, Ow P r n all rest Q (putE d (.pointer (some ⟨b, 0, none⟩)) ρ) ds (cl b zc * H)) :
    Ow P r n all (⟨d, .alloc t, t'', pos, aft, none⟩ :: rest) Q ρ ds H :=
  Ow.fresh (f := fun b => .pointer (some ⟨b, 0, none⟩)) hd (by simp) (fun g w a hr hs => ⟨_, by
    obtain ⟨zv, hz, hrun⟩ := run_zero (P := P) (t := t) (w := w)
    simp [execOp, Instr.alloc, hrun, newVar, newRow, hz], hs.new_cl zc t⟩) h
/-! ### Calls and contracts -/
structure Fn (P : Program) (f : FuncId) (args : List Value) (Pre : HP) (β : Type u) (val : β → Value) (post : β → HP) : Prop where
  enters : ∀ (args : Array Value) (w : World), (callFunc f args).run P w = .ok (.enter f args) w
  calls : ∀ g F w, St g w (Pre * F) → Calls P f args.toArray w (fun e w' => ∃ b, e = .returned (val b) ∧ St g w' (post b * F))
def Evs (ρ : Env) : List Operand → List Value → Prop
  | [], [] => True
  | x :: xs, v :: vs => ev ρ x = some v ∧ Evs ρ xs vs
  | _, _ => False
theorem Evs.eval {a : Act} (hr : Rep n ρ a) : ∀ {xs : List Operand} {vs : List Value}, Evs ρ xs vs → xs.map a.eval = vs
  | [], [], _ => rfl
  | x :: xs, v :: vs, h => by simp [ev_eval hr h.1, Evs.eval hr h.2]
  | [], _ :: _, h => h.elim
  | _ :: _, [], h => h.elim
theorem Ow.callv {β : Type u} {val : β → Value} {post : β → HP} {f : FuncId} {xs : List Operand} {vs caps : List Value} {ts : Array TypeId} {Pre F : HP}
    (hf : Fn P f (vs ++ caps) Pre β val post) (hd : dOk n d = true) (hx : ev ρ x = some (.func (.func f) #[] caps.toArray)) (hxs : Evs ρ xs vs) (hfr : Ent H (Pre * F))
    (h : ∀ b, Ow P r n all rest Q (putE d (val b) ρ) ds (post b * F)) :
    Ow P r n all (⟨d, .call { callee := .value x, args := xs.toArray, argTypes := ts }, t, pos, aft, none⟩ :: rest) Q ρ ds H := by
  intro g w a hr hds hs
  simp only [wpListIn, Region.wanted, if_true, Oper.wpIn]
  refine ⟨fun _ _ => trivial, ?_⟩
  rw [semAt_eq (o := ⟨d, .call { callee := .value x, args := xs.toArray, argTypes := ts }, t, pos, aft, none⟩) (by simp)]
  have he : (execOp a.eval ⟨d, .call { callee := .value x, args := xs.toArray, argTypes := ts }, t, pos, aft, none⟩).run P w = .ok (.enter f (vs ++ caps).toArray) w := by
    simp [execOp, resolve, ev_eval hr hx, Evs.eval hr hxs, Deferred.ofValue, invoke, hf.enters]
  rw [he, Oper.uponIn_enter]
  refine ⟨fun h => by simp [fen, Fence.wide] at h, ?_⟩
  have hc := hf.calls g F w (hs.mono hfr)
  have hc' : CallsIn (fen r) (0 - 1) P f (vs ++ caps).toArray w (fun e w' => ∃ b, e = .returned (val b) ∧ St g w' (post b * F)) := (callsIn_wide (n := 0 - 1)).2 hc
  refine hc'.mono ?_
  rintro e w' ⟨b, rfl, hs'⟩
  exact h b g w' _ (hr.putE hd _) (by cases d <;> exact hds) hs'
theorem Ow.call {β : Type u} {val : β → Value} {post : β → HP} {f : FuncId} {xs : List Operand} {vs : List Value} {ts : Array TypeId} {Pre F : HP}
    (hf : Fn P f vs Pre β val post) (hd : dOk n d = true) (hxs : Evs ρ xs vs) (hfr : Ent H (Pre * F))
    (h : ∀ b, Ow P r n all rest Q (putE d (val b) ρ) ds (post b * F)) :
    Ow P r n all (⟨d, .call { callee := .value (.func f), args := xs.toArray, argTypes := ts }, t, pos, aft, none⟩ :: rest) Q ρ ds H :=
  Ow.callv (caps := []) (by rw [List.append_nil]; exact hf) hd rfl hxs hfr h
/-! ### The way out -/
def Res (P : Program) (fn : Func) (ρ : Env) (H : HP) (v : Value) : Prop := ∀ n g w a, Rep n ρ a → St g w H → (results fn a.tmps).run P w = .ok v w
theorem res0 {fn : Func} (h : fn.results = #[]) : Res P fn ρ H (.tuple #[]) := fun _ _ _ _ _ _ => by simp [results, h]
theorem res1 {fn : Func} {i : Nat} (h : fn.results = #[.tmp i]) (hi : lk ρ i = some v) : Res P fn ρ H v := fun _ _ _ _ hr _ => by
  have := hr.2 _ _ hi
  simp [results, h, this]
theorem res2 {fn : Func} {i j : Nat} (h : fn.results = #[.tmp i, .tmp j]) (hi : lk ρ i = some v) (hj : lk ρ j = some u) : Res P fn ρ H (.tuple #[v, u]) := fun _ _ _ _ hr _ => by
  have h1 := hr.2 _ _ hi
  have h2 := hr.2 _ _ hj
  simp [results, h, h1, h2]
theorem res3 {fn : Func} {i j l : Nat} {u' : Value} (h : fn.results = #[.tmp i, .tmp j, .tmp l]) (hi : lk ρ i = some v) (hj : lk ρ j = some u) (hl : lk ρ l = some u') : Res P fn ρ H (.tuple #[v, u, u']) := fun _ _ _ _ hr _ => by
  have h1 := hr.2 _ _ hi
  have h2 := hr.2 _ _ hj
  have h3 := hr.2 _ _ hl
  simp [results, h, h1, h2, h3]
def Leave (P : Program) (fn : Func) {β : Type u} (val : β → Value) (post : β → HP) (F : HP) (ρ : Env) : List Deferred → HP → Prop
  | [], H => ∃ b, Res P fn ρ H (val b) ∧ Ent H (post b * F)
  | d :: ds, H => ∃ D H', d.target = .collected D ∧ Ent H (pt D (.deferred (some [])) * H') ∧ Leave P fn val post F ρ ds (pt D (.deferred none) * H')
def retQ (P : Program) (fn : Func) {β : Type u} (val : β → Value) (post : β → HP) (F : HP) : PostT := fun e ρ ds H => (e = .normal ∨ e = .ret) ∧ Leave P fn val post F ρ ds H
def argsE : Nat → List Value → Env
  | _, [] => []
  | i, v :: l => (i, v) :: argsE (i + 1) l
theorem argsE_spec : ∀ (l : List Value) (i j : Nat) (v : Value), lk (argsE i l) j = some v → i ≤ j ∧ l[j - i]? = some v
  | [], _, _, _, h => by cases h
  | u :: l, i, j, v, h => by
    simp only [argsE, lk] at h
    cases e : Nat.beq i j with
    | true =>
      have := Nat.eq_of_beq_eq_true e
      subst this
      rw [e] at h; simp at h; subst h; simp
    | false =>
      have hne : i ≠ j := Nat.ne_of_beq_eq_false e
      rw [e] at h
      obtain ⟨h1, h2⟩ := argsE_spec l (i + 1) j v h
      refine ⟨by omega, ?_⟩
      rw [show j - i = (j - (i + 1)) + 1 by omega]
      simpa using h2
theorem leave_steps {fn : Func} {β : Type u} {val : β → Value} {post : β → HP} {F : HP} {g : Gh} {a : Act} (hr : Rep n ρ a) : ∀ (ds : List Deferred) (H : HP) (w : World), St g w H → Leave P fn val post F ρ ds H →
    LeavesInM (fen none) 0 P fn a.tmps (fun e w' => ∃ b, e = .returned (val b) ∧ St g w' (post b * F)) ds .returning w
  | [], H, w, hs, ⟨b, h1, h2⟩ => ⟨_, h1 n g w a hr hs, b, rfl, hs.mono h2⟩
  | d :: ds, H, w, hs, ⟨D, H', h1, h2, h3⟩ => by
    have hs' := hs.mono h2
    have hk := run_takeDeferred (P := P) hs'.get
    refine ⟨by simp, .inl ⟨D, _, h1, hk, leave_steps hr ds _ _ (hs'.put rfl rfl ?_ ?_) h3⟩⟩
    · simp [World.putObj, hs'.lt]
    · intro i hi; simp [World.putObj, Array.getElem?_setIfInBounds_ne (Ne.symm hi)]
theorem Fn.of {f : FuncId} {fn : Func} {c : Code} {args : List Value} {Pre : HP} {β : Type u} {val : β → Value} {post : β → HP}
    (hf : P.funcs[f]? = some fn) (hb : fn.body = some c) (hname : (fn.name == "runtime.NumGoroutine") = false) (hn : fn.ntmps = n) (hlen : Nat.ble args.length n = true)
    (h : ∀ F, Cw P none n c (retQ P fn val post F) (argsE 0 args) [] (Pre * F)) : Fn P f args Pre β val post := by
  have hname' : ¬ fn.name = "runtime.NumGoroutine" := by simpa using hname
  refine ⟨fun args w => by simp [callFunc, hf, hname', hb], fun g F w hs => ?_⟩
  have hlen' : args.length ≤ n := Nat.le_of_ble_eq_true hlen
  refine (callsIn_wide (n := 0)).1 (callsIn_of_wp_marks hf hb trivial ?_ rfl)
  have hrep : Rep n (argsE 0 args) { tmps := args.toArray ++ Array.replicate (fn.ntmps - args.toArray.size) undef, defers := [] } := by
    refine ⟨by simp [hn]; omega, fun j v hj => ?_⟩
    obtain ⟨_, h2⟩ := argsE_spec args 0 j v hj
    simp at h2
    have hlt : j < args.length := (List.getElem?_eq_some_iff.1 h2).1
    simp only [Array.getElem?_append, List.size_toArray, hlt, if_true, List.getElem?_toArray]
    exact h2
  refine wpIn_mono (h F g w _ hrep rfl hs) ?_
  rintro e a w' ⟨ρ', H', hr, hs', he, hl⟩
  rcases he with rfl | rfl
  · exact leave_steps hr _ _ _ hs' hl
  · exact leave_steps hr _ _ _ hs' hl
end
end Go.Sl
namespace Go.Sl
open Go Go.Proofs
instance : TyU Tryd.prog 2 (.int .i64) := ⟨Tryd.underlying2⟩
instance : TyA Tryd.prog 2 false := ⟨by kernel_rfl⟩
instance : TyS Tryd.prog 2 1 8 [.int .i64 0] := ⟨by kernel_rfl⟩
instance : TyU Tryd.prog 3 (.int .i64) := ⟨Tryd.underlying3⟩
instance : TyA Tryd.prog 3 false := ⟨by kernel_rfl⟩
instance : TyS Tryd.prog 3 1 8 [.int .i64 0] := ⟨by kernel_rfl⟩
instance : TyU Tryd.prog 4 (.bool) := ⟨Tryd.underlying4⟩
instance : TyA Tryd.prog 4 false := ⟨by kernel_rfl⟩
instance : TyS Tryd.prog 4 1 1 [.bool false] := ⟨by kernel_rfl⟩
instance : TyU Tryd.prog 5 (.int .u8) := ⟨Tryd.underlying5⟩
instance : TyA Tryd.prog 5 false := ⟨by kernel_rfl⟩
instance : TyS Tryd.prog 5 1 1 [.int .u8 0] := ⟨by kernel_rfl⟩
instance : TyU Tryd.prog 9 (.string) := ⟨Tryd.underlying9⟩
instance : TyA Tryd.prog 9 false := ⟨by kernel_rfl⟩
instance : TyS Tryd.prog 9 1 16 [.string ByteArray.empty] := ⟨by kernel_rfl⟩
instance : TyU Tryd.prog 21 (.int .i32) := ⟨Tryd.underlying21⟩
instance : TyA Tryd.prog 21 false := ⟨by kernel_rfl⟩
instance : TyS Tryd.prog 21 1 4 [.int .i32 0] := ⟨by kernel_rfl⟩
instance : TyU Tryd.prog 22 (.array 6 5) := ⟨Tryd.underlying22⟩
instance : TyA Tryd.prog 22 true := ⟨by kernel_rfl⟩
instance : TyS Tryd.prog 22 6 6 [.int .u8 0, .int .u8 0, .int .u8 0, .int .u8 0, .int .u8 0, .int .u8 0] := ⟨by kernel_rfl⟩
instance : TyA Tryd.prog 25 true := ⟨by kernel_rfl⟩
instance : TyS Tryd.prog 25 11 88 [.int .i64 0, .bool false, .int .i64 0, .int .i64 0, .int .i64 0, .int .i64 0, .int .i64 0, .int .i64 0, .int .i64 0, .int .i64 0, .int .i64 0] := ⟨by kernel_rfl⟩
instance : TyU Tryd.prog 27 (.pointer 73) := ⟨Tryd.underlying27⟩
instance : TyA Tryd.prog 27 false := ⟨by kernel_rfl⟩
instance : TyS Tryd.prog 27 1 8 [.pointer none] := ⟨by kernel_rfl⟩
instance : TyU Tryd.prog 29 (.int .i64) := ⟨Tryd.underlying29⟩
instance : TyA Tryd.prog 29 false := ⟨by kernel_rfl⟩
instance : TyS Tryd.prog 29 1 8 [.int .i64 0] := ⟨by kernel_rfl⟩
instance : TyA Tryd.prog 31 true := ⟨by kernel_rfl⟩
instance : TyS Tryd.prog 31 2 16 [.int .i64 0, .int .i64 0] := ⟨by kernel_rfl⟩
instance : TyA Tryd.prog 34 true := ⟨by kernel_rfl⟩
instance : TyS Tryd.prog 34 6 48 [.int .i64 0, .int .i64 0, .int .i64 0, .int .i64 0, .int .i64 0, .int .i64 0] := ⟨by kernel_rfl⟩
instance : TyU Tryd.prog 38 (.slice 77) := ⟨Tryd.underlying38⟩
instance : TyA Tryd.prog 38 false := ⟨by kernel_rfl⟩
instance : TyS Tryd.prog 38 1 24 [.slice none 0 0] := ⟨by kernel_rfl⟩
instance : TyU Tryd.prog 41 (.slice 34) := ⟨Tryd.underlying41⟩
instance : TyA Tryd.prog 41 false := ⟨by kernel_rfl⟩
instance : TyS Tryd.prog 41 1 24 [.slice none 0 0] := ⟨by kernel_rfl⟩
instance : TyU Tryd.prog 47 (.pointer 54) := ⟨Tryd.underlying47⟩
instance : TyA Tryd.prog 47 false := ⟨by kernel_rfl⟩
instance : TyS Tryd.prog 47 1 8 [.pointer none] := ⟨by kernel_rfl⟩
instance : TyU Tryd.prog 48 (.slice 91) := ⟨Tryd.underlying48⟩
instance : TyA Tryd.prog 48 false := ⟨by kernel_rfl⟩
instance : TyS Tryd.prog 48 1 24 [.slice none 0 0] := ⟨by kernel_rfl⟩
instance : TyU Tryd.prog 49 (.array 4 47) := ⟨Tryd.underlying49⟩
instance : TyA Tryd.prog 49 true := ⟨by kernel_rfl⟩
instance : TyS Tryd.prog 49 4 32 [.pointer none, .pointer none, .pointer none, .pointer none] := ⟨by kernel_rfl⟩
instance : TyU Tryd.prog 50 (.slice 3) := ⟨Tryd.underlying50⟩
instance : TyA Tryd.prog 50 false := ⟨by kernel_rfl⟩
instance : TyS Tryd.prog 50 1 24 [.slice none 0 0] := ⟨by kernel_rfl⟩
instance : TyA Tryd.prog 52 true := ⟨by kernel_rfl⟩
instance : TyS Tryd.prog 52 17 168 [.int .i64 0, .bool false, .int .i64 0, .int .i64 0, .int .i64 0, .int .i64 0, .int .i64 0, .int .i64 0, .int .i64 0, .int .i64 0, .int .i64 0, .slice none 0 0, .pointer none, .pointer none, .pointer none, .pointer none, .slice none 0 0] := ⟨by kernel_rfl⟩
instance : TyA Tryd.prog 54 true := ⟨by kernel_rfl⟩
instance : TyS Tryd.prog 54 9 104 [.slice none 0 0, .slice none 0 0, .int .i64 0, .int .i64 0, .int .i64 0, .int .i64 0, .int .i64 0, .int .i64 0, .int .i64 0] := ⟨by kernel_rfl⟩
instance : TyU Tryd.prog 56 (.pointer 116) := ⟨Tryd.underlying56⟩
instance : TyA Tryd.prog 56 false := ⟨by kernel_rfl⟩
instance : TyS Tryd.prog 56 1 8 [.pointer none] := ⟨by kernel_rfl⟩
instance : TyU Tryd.prog 58 (.slice 4) := ⟨Tryd.underlying58⟩
instance : TyA Tryd.prog 58 false := ⟨by kernel_rfl⟩
instance : TyS Tryd.prog 58 1 24 [.slice none 0 0] := ⟨by kernel_rfl⟩
instance : TyU Tryd.prog 66 (.pointer 120) := ⟨Tryd.underlying66⟩
instance : TyA Tryd.prog 66 false := ⟨by kernel_rfl⟩
instance : TyS Tryd.prog 66 1 8 [.pointer none] := ⟨by kernel_rfl⟩
instance : TyU Tryd.prog 68 (.slice 89) := ⟨Tryd.underlying68⟩
instance : TyA Tryd.prog 68 false := ⟨by kernel_rfl⟩
instance : TyS Tryd.prog 68 1 24 [.slice none 0 0] := ⟨by kernel_rfl⟩
instance : TyA Tryd.prog 70 true := ⟨by kernel_rfl⟩
instance : TyS Tryd.prog 70 7 56 [.int .i64 0, .int .i64 0, .int .i64 0, .int .i64 0, .int .i64 0, .int .i64 0, .int .i64 0] := ⟨by kernel_rfl⟩
instance : TyU Tryd.prog 71 (.array 4 70) := ⟨Tryd.underlying71⟩
instance : TyA Tryd.prog 71 true := ⟨by kernel_rfl⟩
instance : TyS Tryd.prog 71 28 224 [.int .i64 0, .int .i64 0, .int .i64 0, .int .i64 0, .int .i64 0, .int .i64 0, .int .i64 0, .int .i64 0, .int .i64 0, .int .i64 0, .int .i64 0, .int .i64 0, .int .i64 0, .int .i64 0, .int .i64 0, .int .i64 0, .int .i64 0, .int .i64 0, .int .i64 0, .int .i64 0, .int .i64 0, .int .i64 0, .int .i64 0, .int .i64 0, .int .i64 0, .int .i64 0, .int .i64 0, .int .i64 0] := ⟨by kernel_rfl⟩
instance : TyA Tryd.prog 73 true := ⟨by kernel_rfl⟩
instance : TyS Tryd.prog 73 41 344 [.int .i64 0, .bool false, .int .i64 0, .int .i64 0, .int .i64 0, .int .i64 0, .int .i64 0, .int .i64 0, .int .i64 0, .int .i64 0, .int .i64 0, .slice none 0 0, .pointer none, .int .i64 0, .int .i64 0, .int .i64 0, .int .i64 0, .int .i64 0, .int .i64 0, .int .i64 0, .int .i64 0, .int .i64 0, .int .i64 0, .int .i64 0, .int .i64 0, .int .i64 0, .int .i64 0, .int .i64 0, .int .i64 0, .int .i64 0, .int .i64 0, .int .i64 0, .int .i64 0, .int .i64 0, .int .i64 0, .int .i64 0, .int .i64 0, .int .i64 0, .int .i64 0, .int .i64 0, .int .i64 0] := ⟨by kernel_rfl⟩
instance : TyA Tryd.prog 77 true := ⟨by kernel_rfl⟩
instance : TyS Tryd.prog 77 7 16 [.int .u8 0, .int .u8 0, .int .u8 0, .int .u8 0, .int .u8 0, .int .u8 0, .int .i64 0] := ⟨by kernel_rfl⟩
instance : TyU Tryd.prog 83 (.slice 87) := ⟨Tryd.underlying83⟩
instance : TyA Tryd.prog 83 false := ⟨by kernel_rfl⟩
instance : TyS Tryd.prog 83 1 24 [.slice none 0 0] := ⟨by kernel_rfl⟩
instance : TyU Tryd.prog 87 (.int .i64) := ⟨Tryd.underlying87⟩
instance : TyA Tryd.prog 87 false := ⟨by kernel_rfl⟩
instance : TyS Tryd.prog 87 1 8 [.int .i64 0] := ⟨by kernel_rfl⟩
instance : TyA Tryd.prog 89 true := ⟨by kernel_rfl⟩
instance : TyS Tryd.prog 89 2 32 [.slice none 0 0, .int .i64 0] := ⟨by kernel_rfl⟩
instance : TyA Tryd.prog 91 true := ⟨by kernel_rfl⟩
instance : TyS Tryd.prog 91 2 32 [.slice none 0 0, .int .i64 0] := ⟨by kernel_rfl⟩
instance : TyU Tryd.prog 93 (.int .u64) := ⟨Tryd.underlying93⟩
instance : TyA Tryd.prog 93 false := ⟨by kernel_rfl⟩
instance : TyS Tryd.prog 93 1 8 [.int .u64 0] := ⟨by kernel_rfl⟩
instance : TyU Tryd.prog 97 (.slice 104) := ⟨Tryd.underlying97⟩
instance : TyA Tryd.prog 97 false := ⟨by kernel_rfl⟩
instance : TyS Tryd.prog 97 1 24 [.slice none 0 0] := ⟨by kernel_rfl⟩
instance : TyA Tryd.prog 101 true := ⟨by kernel_rfl⟩
instance : TyS Tryd.prog 101 0 0 [] := ⟨by kernel_rfl⟩
instance : TyA Tryd.prog 102 true := ⟨by kernel_rfl⟩
instance : TyS Tryd.prog 102 0 0 [] := ⟨by kernel_rfl⟩
instance : TyA Tryd.prog 104 true := ⟨by kernel_rfl⟩
instance : TyS Tryd.prog 104 1 8 [.int .u64 0] := ⟨by kernel_rfl⟩
instance : TyA Tryd.prog 105 true := ⟨by kernel_rfl⟩
instance : TyS Tryd.prog 105 0 0 [] := ⟨by kernel_rfl⟩
instance : TyU Tryd.prog 106 (.int .u32) := ⟨Tryd.underlying106⟩
instance : TyA Tryd.prog 106 false := ⟨by kernel_rfl⟩
instance : TyS Tryd.prog 106 1 4 [.int .u32 0] := ⟨by kernel_rfl⟩
instance : TyA Tryd.prog 108 true := ⟨by kernel_rfl⟩
instance : TyS Tryd.prog 108 1 4 [.int .u32 0] := ⟨by kernel_rfl⟩
instance : TyA Tryd.prog 110 true := ⟨by kernel_rfl⟩
instance : TyS Tryd.prog 110 2 8 [.int .i32 0, .int .u32 0] := ⟨by kernel_rfl⟩
instance : TyA Tryd.prog 112 true := ⟨by kernel_rfl⟩
instance : TyS Tryd.prog 112 2 8 [.int .i32 0, .int .u32 0] := ⟨by kernel_rfl⟩
instance : TyA Tryd.prog 114 true := ⟨by kernel_rfl⟩
instance : TyS Tryd.prog 114 3 12 [.int .u32 0, .int .i32 0, .int .u32 0] := ⟨by kernel_rfl⟩
instance : TyA Tryd.prog 116 true := ⟨by kernel_rfl⟩
instance : TyS Tryd.prog 116 5 48 [.int .i64 0, .int .u32 0, .int .i32 0, .int .u32 0, .slice none 0 0] := ⟨by kernel_rfl⟩
instance : TyU Tryd.prog 117 (.pointer 143) := ⟨Tryd.underlying117⟩
instance : TyA Tryd.prog 117 false := ⟨by kernel_rfl⟩
instance : TyS Tryd.prog 117 1 8 [.pointer none] := ⟨by kernel_rfl⟩
instance : TyU Tryd.prog 118 (.array 4 117) := ⟨Tryd.underlying118⟩
instance : TyA Tryd.prog 118 true := ⟨by kernel_rfl⟩
instance : TyS Tryd.prog 118 4 32 [.pointer none, .pointer none, .pointer none, .pointer none] := ⟨by kernel_rfl⟩
instance : TyA Tryd.prog 120 true := ⟨by kernel_rfl⟩
instance : TyS Tryd.prog 120 16 144 [.int .i64 0, .bool false, .int .i64 0, .int .i64 0, .int .i64 0, .int .i64 0, .int .i64 0, .int .i64 0, .int .i64 0, .int .i64 0, .int .i64 0, .slice none 0 0, .pointer none, .pointer none, .pointer none, .pointer none] := ⟨by kernel_rfl⟩
instance : TyU Tryd.prog 123 (.slice 157) := ⟨Tryd.underlying123⟩
instance : TyA Tryd.prog 123 false := ⟨by kernel_rfl⟩
instance : TyS Tryd.prog 123 1 24 [.slice none 0 0] := ⟨by kernel_rfl⟩
instance : TyU Tryd.prog 134 (.func #[87] #[4] false) := ⟨Tryd.underlying134⟩
instance : TyA Tryd.prog 134 false := ⟨by kernel_rfl⟩
instance : TyS Tryd.prog 134 1 8 [.nilFunc] := ⟨by kernel_rfl⟩
instance : TyA Tryd.prog 143 true := ⟨by kernel_rfl⟩
instance : TyS Tryd.prog 143 3 56 [.slice none 0 0, .slice none 0 0, .int .i64 0] := ⟨by kernel_rfl⟩
instance : TyU Tryd.prog 153 (.array 2 83) := ⟨Tryd.underlying153⟩
instance : TyA Tryd.prog 153 true := ⟨by kernel_rfl⟩
instance : TyS Tryd.prog 153 2 48 [.slice none 0 0, .slice none 0 0] := ⟨by kernel_rfl⟩
instance : TyA Tryd.prog 157 true := ⟨by kernel_rfl⟩
instance : TyS Tryd.prog 157 4 24 [.string ByteArray.empty, .bool false, .bool false, .bool false] := ⟨by kernel_rfl⟩
instance : TyU Tryd.prog 158 (.array 3 4) := ⟨Tryd.underlying158⟩
instance : TyA Tryd.prog 158 true := ⟨by kernel_rfl⟩
instance : TyS Tryd.prog 158 3 3 [.bool false, .bool false, .bool false] := ⟨by kernel_rfl⟩
instance : TyU Tryd.prog 159 (.array 3 3) := ⟨Tryd.underlying159⟩
instance : TyA Tryd.prog 159 true := ⟨by kernel_rfl⟩
instance : TyS Tryd.prog 159 3 24 [.int .i64 0, .int .i64 0, .int .i64 0] := ⟨by kernel_rfl⟩
instance : TyU Tryd.prog 167 (.pointer 110) := ⟨Tryd.underlying167⟩
instance : TyA Tryd.prog 167 false := ⟨by kernel_rfl⟩
instance : TyS Tryd.prog 167 1 8 [.pointer none] := ⟨by kernel_rfl⟩
instance : TyU Tryd.prog 171 (.unsafePointer) := ⟨Tryd.underlying171⟩
instance : TyA Tryd.prog 171 false := ⟨by kernel_rfl⟩
instance : TyS Tryd.prog 171 1 8 [.pointer none] := ⟨by kernel_rfl⟩
instance : Fld Tryd.prog 25 0 0 := ⟨by kernel_rfl⟩
instance : Fld Tryd.prog 25 1 1 := ⟨by kernel_rfl⟩
instance : Fld Tryd.prog 25 3 3 := ⟨by kernel_rfl⟩
instance : Fld Tryd.prog 25 4 4 := ⟨by kernel_rfl⟩
instance : Fld Tryd.prog 25 5 5 := ⟨by kernel_rfl⟩
instance : Fld Tryd.prog 25 6 6 := ⟨by kernel_rfl⟩
instance : Fld Tryd.prog 25 7 7 := ⟨by kernel_rfl⟩
instance : Fld Tryd.prog 31 0 0 := ⟨by kernel_rfl⟩
instance : Fld Tryd.prog 34 0 0 := ⟨by kernel_rfl⟩
instance : Fld Tryd.prog 34 1 1 := ⟨by kernel_rfl⟩
instance : Fld Tryd.prog 34 2 2 := ⟨by kernel_rfl⟩
instance : Fld Tryd.prog 34 3 3 := ⟨by kernel_rfl⟩
instance : Fld Tryd.prog 34 4 4 := ⟨by kernel_rfl⟩
instance : Fld Tryd.prog 34 5 5 := ⟨by kernel_rfl⟩
instance : Fld Tryd.prog 52 0 0 := ⟨by kernel_rfl⟩
instance : Fld Tryd.prog 52 1 11 := ⟨by kernel_rfl⟩
instance : Fld Tryd.prog 52 2 12 := ⟨by kernel_rfl⟩
instance : Fld Tryd.prog 52 3 16 := ⟨by kernel_rfl⟩
instance : Fld Tryd.prog 54 0 0 := ⟨by kernel_rfl⟩
instance : Fld Tryd.prog 54 1 1 := ⟨by kernel_rfl⟩
instance : Fld Tryd.prog 54 2 2 := ⟨by kernel_rfl⟩
instance : Fld Tryd.prog 54 3 3 := ⟨by kernel_rfl⟩
instance : Fld Tryd.prog 70 0 0 := ⟨by kernel_rfl⟩
instance : Fld Tryd.prog 70 1 6 := ⟨by kernel_rfl⟩
instance : Fld Tryd.prog 73 0 0 := ⟨by kernel_rfl⟩
instance : Fld Tryd.prog 73 1 11 := ⟨by kernel_rfl⟩
instance : Fld Tryd.prog 73 2 12 := ⟨by kernel_rfl⟩
instance : Fld Tryd.prog 73 3 13 := ⟨by kernel_rfl⟩
instance : Fld Tryd.prog 77 0 0 := ⟨by kernel_rfl⟩
instance : Fld Tryd.prog 77 1 1 := ⟨by kernel_rfl⟩
instance : Fld Tryd.prog 77 2 2 := ⟨by kernel_rfl⟩
instance : Fld Tryd.prog 77 3 3 := ⟨by kernel_rfl⟩
instance : Fld Tryd.prog 77 4 4 := ⟨by kernel_rfl⟩
instance : Fld Tryd.prog 77 5 5 := ⟨by kernel_rfl⟩
instance : Fld Tryd.prog 77 6 6 := ⟨by kernel_rfl⟩
instance : Fld Tryd.prog 89 0 0 := ⟨by kernel_rfl⟩
instance : Fld Tryd.prog 89 1 1 := ⟨by kernel_rfl⟩
instance : Fld Tryd.prog 91 0 0 := ⟨by kernel_rfl⟩
instance : Fld Tryd.prog 91 1 1 := ⟨by kernel_rfl⟩
instance : Fld Tryd.prog 104 2 0 := ⟨by kernel_rfl⟩
instance : Fld Tryd.prog 108 1 0 := ⟨by kernel_rfl⟩
instance : Fld Tryd.prog 110 0 0 := ⟨by kernel_rfl⟩
instance : Fld Tryd.prog 110 1 1 := ⟨by kernel_rfl⟩
instance : Fld Tryd.prog 112 1 0 := ⟨by kernel_rfl⟩
instance : Fld Tryd.prog 114 1 0 := ⟨by kernel_rfl⟩
instance : Fld Tryd.prog 114 2 1 := ⟨by kernel_rfl⟩
instance : Fld Tryd.prog 116 0 0 := ⟨by kernel_rfl⟩
instance : Fld Tryd.prog 116 1 1 := ⟨by kernel_rfl⟩
instance : Fld Tryd.prog 116 2 4 := ⟨by kernel_rfl⟩
instance : Fld Tryd.prog 120 0 0 := ⟨by kernel_rfl⟩
instance : Fld Tryd.prog 120 1 11 := ⟨by kernel_rfl⟩
instance : Fld Tryd.prog 120 2 12 := ⟨by kernel_rfl⟩
instance : Fld Tryd.prog 143 0 0 := ⟨by kernel_rfl⟩
instance : Fld Tryd.prog 143 1 1 := ⟨by kernel_rfl⟩
instance : Fld Tryd.prog 143 2 2 := ⟨by kernel_rfl⟩
instance : Fld Tryd.prog 157 1 1 := ⟨by kernel_rfl⟩
instance : Fld Tryd.prog 157 2 2 := ⟨by kernel_rfl⟩
instance : Fld Tryd.prog 157 3 3 := ⟨by kernel_rfl⟩
instance : TyB Tryd.prog 25 [0, 1, 2, 3, 4, 5, 6, 7, 8, 9, 10] (fun vs => vs) := ⟨trivial⟩
instance : TyB Tryd.prog 31 [0] (fun vs => match vs with | [a0] => [a0, .int .i64 0] | _ => []) := ⟨trivial⟩
instance : TyB Tryd.prog 31 [0, 1] (fun vs => vs) := ⟨trivial⟩
instance : TyB Tryd.prog 31 [1] (fun vs => match vs with | [a0] => [.int .i64 0, a0] | _ => []) := ⟨trivial⟩
instance : TyB Tryd.prog 34 [0] (fun vs => match vs with | [a0] => [a0, .int .i64 0, .int .i64 0, .int .i64 0, .int .i64 0, .int .i64 0] | _ => []) := ⟨trivial⟩
instance : TyB Tryd.prog 34 [0, 1] (fun vs => match vs with | [a0, a1] => [a0, a1, .int .i64 0, .int .i64 0, .int .i64 0, .int .i64 0] | _ => []) := ⟨trivial⟩
instance : TyB Tryd.prog 34 [0, 1, 2, 3, 4, 5] (fun vs => vs) := ⟨trivial⟩
instance : TyB Tryd.prog 34 [0, 2, 3, 4, 5] (fun vs => match vs with | [a0, a1, a2, a3, a4] => [a0, .int .i64 0, a1, a2, a3, a4] | _ => []) := ⟨trivial⟩
instance : TyB Tryd.prog 54 [0] (fun vs => match vs with | [a0] => [a0, .slice none 0 0, .int .i64 0, .int .i64 0, .int .i64 0, .int .i64 0, .int .i64 0, .int .i64 0, .int .i64 0] | _ => []) := ⟨trivial⟩
instance : TyB Tryd.prog 89 [0] (fun vs => match vs with | [a0] => [a0, .int .i64 0] | _ => []) := ⟨trivial⟩
instance : TyB Tryd.prog 91 [0] (fun vs => match vs with | [a0] => [a0, .int .i64 0] | _ => []) := ⟨trivial⟩
instance : TyB Tryd.prog 116 [0] (fun vs => match vs with | [a0] => [a0, .int .u32 0, .int .i32 0, .int .u32 0, .slice none 0 0] | _ => []) := ⟨trivial⟩
instance : TyB Tryd.prog 143 [0, 2] (fun vs => match vs with | [a0, a1] => [a0, .slice none 0 0, a1] | _ => []) := ⟨trivial⟩
instance : TyB Tryd.prog 153 [0, 1] (fun vs => vs) := ⟨trivial⟩
instance : TyB Tryd.prog 157 [0, 1, 2, 3] (fun vs => vs) := ⟨trivial⟩
instance : TyB Tryd.prog 158 [0, 1, 2] (fun vs => vs) := ⟨trivial⟩
instance : TyB Tryd.prog 159 [0, 1, 2] (fun vs => vs) := ⟨trivial⟩
instance : TyBS Tryd.prog 41 1 34 [0] (fun vs => vs.flatMap fun v => match v with | .agg a => a.toList | v => [v]) := ⟨trivial⟩
instance : TyBS Tryd.prog 48 1 91 [0] (fun vs => vs.flatMap fun v => match v with | .agg a => a.toList | v => [v]) := ⟨trivial⟩
instance : TyBS Tryd.prog 50 1 3 [0] (fun vs => vs) := ⟨trivial⟩
instance : TyBS Tryd.prog 50 2 3 [0, 1] (fun vs => vs) := ⟨trivial⟩
instance : TyBS Tryd.prog 68 1 89 [0] (fun vs => vs.flatMap fun v => match v with | .agg a => a.toList | v => [v]) := ⟨trivial⟩
instance : TyBS Tryd.prog 83 1 87 [0] (fun vs => vs) := ⟨trivial⟩
instance : TyBS Tryd.prog 123 13 157 [0, 1, 2, 3, 4, 5, 6, 7, 8, 9, 10, 11, 12] (fun vs => vs.flatMap fun v => match v with | .agg a => a.toList | v => [v]) := ⟨trivial⟩
theorem mixed : Tryd.prog.follows .mixedOrders = true := by kernel_rfl
end Go.Sl
namespace Go.Sl
open Go
set_option linter.unusedVariables false
universe u
def sbase : Value → Addr
  | .slice (some a) _ _ => a
  | _ => ⟨0, 0, none⟩
structure SlX where
  b : Nat
  pre : List Value
  jk : List Value
  n : Nat
  c : Nat
def slk (s : Nat) (v : Value) (cs : List Value) : HP := ex fun x : Option SlX => match x with
  | none => lift (v = .slice none 0 0 ∧ cs = [])
  | some x => lift (v = .slice (some ⟨x.b, x.pre.length, none⟩) x.n x.c ∧ cs.length = x.n * s ∧ x.n ≤ x.c ∧ x.c * s ≤ cs.length + x.jk.length) * cl x.b (x.pre ++ (cs ++ x.jk))
abbrev sl (v : Value) (cs : List Value) : HP := slk 1 v cs
theorem addr_add (b o j : Nat) : Addr.add ⟨b, o, none⟩ j = ⟨b, o + j, none⟩ := by
  unfold Addr.add
  split
  · next h => subst h; rfl
  · rfl
theorem slk_nil (s : Nat) : Ent emp (slk s (.slice none 0 0) []) := .of_imp fun h hh => ⟨none, ⟨rfl, rfl⟩, hh⟩
theorem slk_mk {s b n c : Nat} {pre cs jk : List Value} (h1 : cs.length = n * s) (h2 : n ≤ c) (h3 : c * s ≤ cs.length + jk.length) :
    Ent (cl b (pre ++ (cs ++ jk))) (slk s (.slice (some ⟨b, pre.length, none⟩) n c) cs) := .of_imp fun h hh => ⟨some ⟨b, pre, jk, n, c⟩, (lift_star _ _).2 ⟨⟨rfl, h1, h2, h3⟩, hh⟩⟩
theorem slk_mk0 {s b n : Nat} {cs : List Value} (h1 : cs.length = n * s) : Ent (cl b cs) (slk s (.slice (some ⟨b, 0, none⟩) n n) cs) := by
  have := slk_mk (s := s) (b := b) (pre := []) (jk := []) h1 (Nat.le_refl n) (by simp [h1])
  simpa using this
theorem slk_cases {s : Nat} {v : Value} {cs : List Value} {g : Gh} {w : World} {R : HP} (h : St g w (slk s v cs * R)) :
    (v = .slice none 0 0 ∧ cs = [] ∧ St g w R) ∨
    ∃ b pre jk n c, v = .slice (some ⟨b, pre.length, none⟩) n c ∧ cs.length = n * s ∧ n ≤ c ∧ c * s ≤ cs.length + jk.length ∧ St g w (cl b (pre ++ (cs ++ jk)) * R) := by
  unfold slk at h
  rw [ex_star] at h
  obtain ⟨x, h⟩ := St.ex.1 h
  cases x with
  | none => obtain ⟨⟨h1, h2⟩, h3⟩ := St.lift.1 h; exact .inl ⟨h1, h2, h3⟩
  | some x =>
    simp only [star_assoc] at h
    obtain ⟨⟨h1, h2, h3, h4⟩, h5⟩ := St.lift.1 h
    exact .inr ⟨x.b, x.pre, x.jk, x.n, x.c, h1, h2, h3, h4, h5⟩
theorem rd_slk {s : Nat} {v u : Value} {cs : List Value} {j : Nat} (h : cs[j]? = some u) : RdA (slk s v cs) ((sbase v).add j) u := by
  rintro x ⟨y, hy⟩
  have hlt : j < cs.length := (List.getElem?_eq_some_iff.1 h).1
  cases y with
  | none => obtain ⟨⟨_, h2⟩, _⟩ := hy; subst h2; cases h
  | some y =>
    obtain ⟨⟨h1, h2, h3, h4⟩, h5⟩ := (lift_star _ _).1 hy
    subst h1
    simp only [sbase, addr_add]
    exact rd_cl (by rw [List.getElem?_append_right (by omega), List.getElem?_append_left (by omega)]; simpa using h) x h5
theorem WrA.imp {A B A' B' : HP} {a : Addr} {v : Value} (h : WrA A a v A') (hB : ∀ x, B x → A x) (hA : ∀ x, A' x → B' x) : WrA B a v B' := fun x hx =>
  let ⟨h1, c, t, fz, h2, h3, h4, h5⟩ := h x (hB x hx); ⟨h1, c, t, fz, h2, h3, h4, hA _ h5⟩
theorem wr_slk {s : Nat} {v u : Value} {cs : List Value} {j : Nat} (h : j < cs.length) : WrA (slk s v cs) ((sbase v).add j) u (slk s v (cs.set j u)) := by
  rintro x ⟨y, hy⟩
  cases y with
  | none => obtain ⟨⟨_, h2⟩, _⟩ := hy; subst h2; simp at h
  | some y =>
    obtain ⟨⟨h1, h2, h3, h4⟩, h5⟩ := (lift_star _ _).1 hy
    subst h1
    rw [show (sbase (.slice (some ⟨y.b, y.pre.length, none⟩) y.n y.c)).add j = ⟨y.b, y.pre.length + j, none⟩ from addr_add _ _ _]
    have hw := wr_cl (b := y.b) (cs := y.pre ++ (cs ++ y.jk)) (o := y.pre.length + j) (v := u) (by simp; omega)
    have e : (y.pre ++ (cs ++ y.jk)).set (y.pre.length + j) u = y.pre ++ (cs.set j u ++ y.jk) := by
      rw [List.set_append_right _ _ (by omega), List.set_append_left _ _ (by omega)]
      congr 3
      omega
    rw [e] at hw
    refine (hw.imp (B := cl y.b (y.pre ++ (cs ++ y.jk))) (B' := slk s (.slice (some ⟨y.b, y.pre.length, none⟩) y.n y.c) (cs.set j u)) (fun _ h => h) (fun z hz => ?_)) x h5
    exact ⟨some y, (lift_star _ _).2 ⟨⟨rfl, by simpa using h2, h3, by simpa using h4⟩, hz⟩⟩
variable {td td' : TypeDesc} {kk bb : Nat} {zc : List Value}
section
variable {P : Program} {r : Option Nat} {n : Nat} {Q : PostT} {ρ : Env} {ds : List Deferred} {H R A : HP} {all rest : List Oper} {d : Option Nat} {t t' T e : TypeId} {pos : String} {aft : Array Edge} {v u : Value} {x y z : Operand}
  {k k' : IntKind} {s m cap : Nat} {i : Int} {cs cs2 : List Value} {ts : Array TypeId}
theorem Pu.builtin {b : Builtin} {xs : List Operand} {vs : List Value} (hxs : Evs ρ xs vs)
    (hrun : ∀ g w, St g w H → ∀ consts, (Go.builtin b ts t consts vs.toArray).run P w = .ok (.value v) w) : Pu P n ρ H (.call { callee := .builtin b, args := xs.toArray, argTypes := ts }) t v :=
  Pu.mks (by simp) (fun {d pos aft gd g} w a hr hs => by
    have hm : Array.map a.eval xs.toArray = vs.toArray := by rw [← Evs.eval hr hxs]; simp
    simp only [execOp, resolve, Sem.run_bind, hm]
    simp only [Sem.run_pure, Result.andThen_ok, invoke]
    exact hrun g w hs _)
theorem Pu.len [TT : TyU P T (.slice e)] {a : Option Addr} (hx : ev ρ x = some (.slice a m cap)) : Pu P n ρ H (.call { callee := .builtin .len, args := #[x], argTypes := #[T] }) t (.int .i64 m) :=
  Pu.builtin (xs := [x]) (vs := [.slice a m cap]) ⟨hx, trivial⟩ (fun g w hs c => by simp [Go.builtin, Builtin.len_, run_under, goInt])
theorem Pu.len_slk [TT : TyU P T (.slice e)] (hx : ev ρ x = some v) (hp : Pk H (slk s v cs) R) (hm : cs.length = m * s) (hs0 : 0 < s) : Pu P n ρ H (.call { callee := .builtin .len, args := #[x], argTypes := #[T] }) t (.int .i64 m) :=
  Pu.builtin (xs := [x]) (vs := [v]) ⟨hx, trivial⟩ (fun g w hs c => by
    unfold Pk at hp
    subst hp
    rcases slk_cases hs with ⟨rfl, rfl, _⟩ | ⟨b, pre, jk, m', c, rfl, h2, _, _, _⟩
    · have : m = 0 := by
        rcases Nat.eq_zero_or_pos m with h | h
        · exact h
        · have := Nat.mul_pos h hs0; simp at hm; omega
      subst this
      simp [Go.builtin, Builtin.len_, run_under, goInt]
    · have : m' = m := Nat.eq_of_mul_eq_mul_right hs0 (h2.symm.trans hm)
      subst this
      simp [Go.builtin, Builtin.len_, run_under, goInt])
theorem Pu.len_sl [TT : TyU P T (.slice e)] (hx : ev ρ x = some v) (hp : Pk H (slk 1 v cs) R) : Pu P n ρ H (.call { callee := .builtin .len, args := #[x], argTypes := #[T] }) t (.int .i64 cs.length) :=
  Pu.len_slk hx hp (by simp) (by omega)
theorem Pu.idx [TT : TyU P T (.slice e)] [S : TyS P e s bb zc] {a : Addr} (hx : ev ρ x = some (.slice (some a) m cap)) (hy : ev ρ y = some (.int k i)) (hi : 0 ≤ i ∧ i < m) :
    Pu P n ρ H (.indexAddr T x y) t (.pointer (some (a.add (i.toNat * s)))) :=
  Pu.mk (by simp) (fun a' w hr => by simp [execOp, ev_eval hr hx, ev_eval hr hy, Instr.indexAt, asIntOf, run_under, run_size, hi.1, hi.2])
theorem Pu.idxA {len : Nat} [TT : TyU P T (.array len e)] [S : TyS P e s bb zc] {a : Addr} (hx : ev ρ x = some (.pointer (some a))) (hy : ev ρ y = some (.int k i)) (hi : 0 ≤ i ∧ i < len) :
    Pu P n ρ H (.indexAddr T x y) t (.pointer (some (a.add (i.toNat * s)))) :=
  Pu.mk (by simp) (fun a' w hr => by simp [execOp, ev_eval hr hx, ev_eval hr hy, Instr.indexAt, Instr.sureAddr, asIntOf, run_under, run_size, hi.1, hi.2])
theorem Pu.idx_slk [TT : TyU P T (.slice e)] [S : TyS P e s bb zc] (hx : ev ρ x = some v) (hy : ev ρ y = some (.int k i)) (hp : Pk H (slk s v cs) R) (hs0 : 0 < s) (hi : 0 ≤ i ∧ i * s < cs.length) :
    Pu P n ρ H (.indexAddr T x y) t (.pointer (some ((sbase v).add (i.toNat * s)))) :=
  Pu.mks (by simp) (fun w a' hr hst => by
    unfold Pk at hp
    subst hp
    rcases slk_cases hst with ⟨rfl, rfl, _⟩ | ⟨b, pre, jk, m', c, rfl, h2, _, _, _⟩
    · have := Int.mul_nonneg hi.1 (Int.natCast_nonneg s); simp at hi; omega
    · have hlt : i < m' := by
        have h3 := hi.2
        rw [h2] at h3
        push_cast at h3
        exact Int.lt_of_mul_lt_mul_right h3 (by omega)
      simp [execOp, ev_eval hr hx, ev_eval hr hy, Instr.indexAt, asIntOf, run_under, run_size, hi.1, hlt, sbase])
theorem Pu.idx_sl [TT : TyU P T (.slice e)] [S : TyS P e 1 bb zc] (hx : ev ρ x = some v) (hy : ev ρ y = some (.int k i)) (hp : Pk H (slk 1 v cs) R) (hi : 0 ≤ i ∧ i < cs.length) :
    Pu P n ρ H (.indexAddr T x y) t (.pointer (some ((sbase v).add i.toNat))) := by
  have := Pu.idx_slk (P := P) (n := n) (t := t) (T := T) hx hy hp (by omega) (by simpa using hi)
  simpa using this
end
attribute [irreducible] slk
end Go.Sl
namespace Go.Sl
open Go
set_option linter.unusedVariables false
universe u
variable {td td' : TypeDesc} {kk bb : Nat} {zc : List Value}
def rep (m : Nat) (z : List Value) : List Value := (List.range (m * z.length)).map fun i => z[i % z.length]!
theorem rep_one (m : Nat) (x : Value) : rep m [x] = List.replicate m x := by
  refine List.ext_getElem? fun i => ?_
  simp only [rep, List.length_singleton, Nat.mul_one, List.getElem?_map, List.getElem?_replicate]
  by_cases h : i < m
  · simp [h, Nat.mod_one]
  · simp [h]
theorem rep_length (m : Nat) (z : List Value) : (rep m z).length = m * z.length := by simp [rep]
def putL : List Value → Nat → List Value → List Value
  | xs, _, [] => xs
  | xs, o, u :: us => putL (xs.set o u) (o + 1) us
theorem putL_append : ∀ (us p q : List Value), us.length ≤ q.length → putL (p ++ q) p.length us = p ++ (us ++ q.drop us.length)
  | [], p, q, _ => by simp [putL]
  | u :: us, p, q, h => by
    cases q with
    | nil => simp at h
    | cons q0 q =>
      have ih := putL_append us (p ++ [u]) q (by simpa using h)
      simp only [List.length_append, List.length_cons, List.length_nil, Nat.zero_add, List.append_assoc, List.cons_append, List.nil_append] at ih
      simp only [putL]
      rw [List.set_append_right _ _ (Nat.le_refl _)]
      simp only [Nat.sub_self, List.set_cons_zero, List.length_cons, List.drop_succ_cons, List.cons_append]
      exact ih
structure SV where
  a : Option Addr
  n : Nat
  c : Nat
abbrev SV.v (x : SV) : Value := .slice x.a x.n x.c
section
variable {P : Program} {g : Gh} {w : World} {R : HP}
theorem run_storeCells {b : Nat} : ∀ (us xs : List Value) (o i : Nat) (w : World), (∀ u ∈ us, u.oneCell' = true) → o + i + us.length ≤ xs.length → St g w (cl b xs * R) →
    ∃ w', (storeCells ⟨b, o, none⟩ us i).run P w = .ok () w' ∧ St g w' (cl b (putL xs (o + i) us) * R)
  | [], xs, o, i, w, _, _, hs => ⟨w, rfl, hs⟩
  | u :: us, xs, o, i, w, h1, hl, hs => by
    simp only [List.length_cons] at hl
    obtain ⟨⟨u0, hu0⟩, hf, hs'⟩ := hs.store (wr_cl (b := b) (cs := xs) (o := o + i) (v := u) (by omega))
    have hst := run_store P w ⟨b, o + i, none⟩ u .plain (h1 u (by simp))
    simp only [hu0, hf] at hst
    obtain ⟨w', hr, hs''⟩ := run_storeCells us (xs.set (o + i) u) o (i + 1) _ (fun x hx => h1 x (by simp [hx])) (by simp; omega) hs'
    refine ⟨w', ?_, by simpa [putL, Nat.add_assoc] using hs''⟩
    simp only [storeCells, addr_add, Sem.run_bind, hst]
    simpa using hr
end
section
variable {P : Program} {r : Option Nat} {n : Nat} {Q : PostT} {ρ : Env} {ds : List Deferred} {H R A : HP} {all rest : List Oper} {d : Option Nat} {t t' T e : TypeId} {pos : String} {aft : Array Edge} {v v2 u : Value} {x y z : Operand}
  {k k' : IntKind} {s m cap n2 : Nat} {i : Int} {cs cs2 : List Value} {ts : Array TypeId}
theorem Ow.value_ex {op : Op} {α : Type u} {f : α → Value} {H' : α → HP} (hd : dOk n d = true) (hdf : ∀ c, op ≠ .defer c)
    (hrun : ∀ g w a, Rep n ρ a → St g w H → ∃ b w', (execOp a.eval ⟨d, op, t, pos, aft, none⟩).run P w = .ok (.value (f b)) w' ∧ St g w' (H' b))
    (h : ∀ b, Ow P r n all rest Q (putE d (f b) ρ) ds (H' b)) : Ow P r n all (⟨d, op, t, pos, aft, none⟩ :: rest) Q ρ ds H := by
  intro g w a hr hds hs
  obtain ⟨b, w', h1, h2⟩ := hrun g w a hr hs
  simp only [wpListIn, Region.wanted, if_true, Oper.wpIn]
  refine ⟨fun _ _ => trivial, ?_⟩
  rw [semAt_eq (o := ⟨d, op, t, pos, aft, none⟩) hdf, h1]
  exact h b g w' _ (hr.putE hd _) (by cases d <;> exact hds) h2
theorem Ow.builtin_ex {b : Builtin} {xs : List Operand} {vs : List Value} {α : Type u} {f : α → Value} {H' : α → HP} (hd : dOk n d = true) (hxs : Evs ρ xs vs)
    (hrun : ∀ g w, St g w H → ∃ q w', (∀ consts, (Go.builtin b ts t consts vs.toArray).run P w = .ok (.value (f q)) w') ∧ St g w' (H' q))
    (h : ∀ q, Ow P r n all rest Q (putE d (f q) ρ) ds (H' q)) : Ow P r n all (⟨d, .call { callee := .builtin b, args := xs.toArray, argTypes := ts }, t, pos, aft, none⟩ :: rest) Q ρ ds H :=
  Ow.value_ex hd (by simp) (fun g w a hr hs => by
    obtain ⟨q, w', h1, h2⟩ := hrun g w hs
    refine ⟨q, w', ?_, h2⟩
    have hm : Array.map a.eval xs.toArray = vs.toArray := by rw [← Evs.eval hr hxs]; simp
    simp only [execOp, resolve, Sem.run_bind, hm]
    simp only [Sem.run_pure, Result.andThen_ok, invoke]
    exact h1 _) h
theorem madeCells_rep (m : Nat) (z : Value) (hz : z.cells = zc.toArray) (hk : zc.length = kk) : madeCells z.cells (m * kk) = (rep m zc).toArray := by
  rw [← Array.toList_inj]
  simp [madeCells, rep, hz, hk, Array.toList_range]
theorem Ow.makeSlice [TT : TyU P T (.slice e)] [S : TyS P e kk bb zc] {m : Nat} (hd : dOk n d = true) (hx : ev ρ x = some (.int k (m : Int))) (hy : ev ρ y = some (.int k' (m : Int))) (hm : bb * m ≤ 281474976710656 ∧ m ≤ 9223372036854775807) (hz : zc.length = kk)
    (h : ∀ v : SV, Ow P r n all rest Q (putE d v.v ρ) ds (slk kk v.v (rep m zc) * H)) :
    Ow P r n all (⟨d, .makeSlice T x y, t, pos, aft, none⟩ :: rest) Q ρ ds H :=
  Ow.value_ex (α := SV) (f := fun v => v.v) (H' := fun v => slk kk v.v (rep m zc) * H) hd (by simp) (fun g w a hr hs => by
    obtain ⟨i, zv, h1, h2, h3, h4, h5⟩ := S.get
    have h6 : ((bb * m : Nat) : Int) ≤ 281474976710656 := by omega
    rw [Int.natCast_mul] at h6
    have hr' := run_make (P := P) w T e i zv TT.h h1 h4 k k' m m (by omega) (by omega) (by rw [h3]; exact h6) (by omega)
    rw [h2, Int.toNat_natCast, madeCells_rep m zv h5 hz] at hr'
    refine ⟨⟨(Option.some ⟨w.heap.size, 0, none⟩), m, m⟩, _, ?_, (hs.new_cl (rep m zc) e).mono (Ent.left (slk_mk0 (by rw [rep_length, hz])))⟩
    simp only [execOp, ev_eval hr hx, ev_eval hr hy, Sem.run_bind, hr', Result.andThen_ok]
    rfl) h
def RdSl (A : HP) (s : Nat) (v2 : Value) (n2 : Nat) (cs2 : List Value) : Prop := cs2.length = n2 * s ∧ ∀ g w R, St g w (A * R) →
  (v2 = .slice none 0 0 ∧ n2 = 0) ∨ ∃ a c, v2 = .slice (some a) n2 c ∧ ∀ j u, cs2[j]? = some u → w.cell? (a.add j) = some u
theorem RdSl.of_pk {A R' : HP} (h : RdSl A s v n2 cs2) (hp : Pk R A R') : RdSl R s v n2 cs2 := ⟨h.1, fun g w X hs => h.2 g w (R' * X) (by unfold Pk at hp; rw [hp, star_assoc] at hs; exact hs)⟩
theorem rdSl_slk (h : cs2.length = n2 * s) (hs0 : 0 < s) : RdSl (slk s v cs2) s v n2 cs2 := ⟨h, fun g w X hs => by
  rcases slk_cases hs with ⟨rfl, rfl, _⟩ | ⟨b, pre, jk, m', c, rfl, h2, _, _, h5⟩
  · left; refine ⟨rfl, ?_⟩
    rcases Nat.eq_zero_or_pos n2 with h0 | h0
    · exact h0
    · have := Nat.mul_pos h0 hs0; simp at h; omega
  · right
    have : m' = n2 := Nat.eq_of_mul_eq_mul_right hs0 (h2.symm.trans h)
    subst this
    refine ⟨_, c, rfl, fun j u hj => ?_⟩
    rw [addr_add]
    have hlt := (List.getElem?_eq_some_iff.1 hj).1
    exact h5.cell pk0 (rd_cl (by rw [List.getElem?_append_right (by omega), List.getElem?_append_left (by omega)]; simpa using hj))⟩
theorem rdSl_cl {b : Nat} (h : cs2.length = n2 * s) : RdSl (cl b cs2) s (.slice (some ⟨b, 0, none⟩) n2 cap) n2 cs2 := ⟨h, fun g w X hs => .inr ⟨_, _, rfl, fun j u hj => by
  rw [addr_add, Nat.zero_add]; exact hs.cell pk0 (rd_cl hj)⟩⟩
theorem Ow.append [TT : TyU P T (.slice e)] [S : TyS P e s bb zc] {m : Nat} (hd : dOk n d = true) (hx : ev ρ x = some v) (hy : ev ρ y = some v2) (hp : Pk H (slk s v cs) R) (hq : RdSl R s v2 n2 cs2)
    (hone : ∀ u ∈ cs2, u.oneCell' = true) (hm : cs.length = m * s) (hs0 : 0 < s) (hz : zc.length = s) (hbytes : (m + n2) * bb ≤ 140737488355328 ∧ m + n2 ≤ 9223372036854775807)
    (h : ∀ v' : SV, Ow P r n all rest Q (putE d v'.v ρ) ds (slk s v'.v (cs ++ cs2) * R)) :
    Ow P r n all (⟨d, .call { callee := .builtin .append, args := #[x, y], argTypes := #[T, T] }, t, pos, aft, none⟩ :: rest) Q ρ ds H :=
  Ow.builtin_ex (xs := [x, y]) (vs := [v, v2]) (α := SV) (f := fun v => v.v) (H' := fun v => slk s v.v (cs ++ cs2) * R) hd ⟨hx, hy, trivial⟩ (fun g w hst => by
    unfold Pk at hp
    subst hp
    obtain ⟨i, zv, h1, h2, h3, h4, h5⟩ := S.get
    have hap : ∀ {q : Value} {w' : World}, (Builtin.append_ #[T, T] t #[v, v2]).run P w = .ok q w' → ∀ consts, (Go.builtin .append #[T, T] t consts [v, v2].toArray).run P w = .ok (.value q) w' := fun hr c => by
      simp [Go.builtin, hr]
    have hzs : zv.cells.size = s := by rw [h5]; simpa using hz
    have grown : ∀ (old : Nat), ∃ jk, (cs.toArray ++ cs2.toArray ++ Builtin.zeroCells zv.cells (grownCap w (m + n2) old e - (m + n2))) = (([] : List Value) ++ ((cs ++ cs2) ++ jk)).toArray ∧ jk.length = (grownCap w (m + n2) old e - (m + n2)) * s := fun old =>
      ⟨(Builtin.zeroCells zv.cells (grownCap w (m + n2) old e - (m + n2))).toList, by apply Array.ext'; simp, by simp [Builtin.zeroCells, hzs]⟩
    have hlen : (cs ++ cs2).length = (m + n2) * s := by rw [List.length_append, hm, hq.1, Nat.add_mul]
    have fin : ∀ (old : Nat) (w1 : World) (jk : List Value), St g w1 (cl w.heap.size (([] : List Value) ++ ((cs ++ cs2) ++ jk)) * R) → jk.length = (grownCap w (m + n2) old e - (m + n2)) * s →
        St g w1 (slk s (.slice (Option.some ⟨w.heap.size, 0, none⟩) (m + n2) (grownCap w (m + n2) old e)) (cs ++ cs2) * R) := fun old w1 jk hs1 hj => by
      have hge := grownCap_ge w (m + n2) old e
      refine hs1.mono (Ent.left ?_)
      refine slk_mk (pre := []) hlen hge ?_
      rw [hlen, hj, ← Nat.add_mul]
      exact Nat.mul_le_mul_right _ (by omega)
    rcases slk_cases hst with ⟨rfl, rfl, hst'⟩ | ⟨b, pre, jk, m', c, rfl, g2, g3, g4, hst'⟩
    · have hm0 : m = 0 := by
        rcases Nat.eq_zero_or_pos m with h0 | h0
        · exact h0
        · have := Nat.mul_pos h0 hs0; simp at hm; omega
      subst hm0
      rcases hq.2 g w emp (by rw [star_emp]; exact hst') with ⟨rfl, rfl⟩ | ⟨a, c2, rfl, hc2⟩
      · have : cs2 = [] := List.eq_nil_of_length_eq_zero (by simpa using hq.1)
        subst this
        refine ⟨⟨none, 0, 0⟩, w, hap ?_, hst⟩
        simp [Builtin.append_, run_under, sizeOf, typeInfo, h1, Builtin.lenOf, Builtin.firstCells]
      · by_cases h0 : n2 = 0
        · subst h0
          have : cs2 = [] := List.eq_nil_of_length_eq_zero (by simpa using hq.1)
          subst this
          refine ⟨⟨none, 0, 0⟩, w, hap ?_, hst⟩
          simp [Builtin.append_, run_under, sizeOf, typeInfo, h1, Builtin.lenOf, Builtin.firstCells, loadCells, loadCellsFrom]
        · have hr := run_append_nil (P := P) w T t e i zv TT.h h1 h4 a n2 c2 cs2 (by rw [h2]; exact hq.1) hc2 (by omega) (by omega) (by rw [h3]; have hb := hbytes.1; simp only [Nat.zero_add] at hb; omega)
          obtain ⟨jk, e1, e2⟩ := grown 0
          simp only [Nat.zero_add, List.nil_append, Array.empty_append] at e1 e2 fin
          rw [e1] at hr
          refine ⟨⟨_, _, _⟩, _, hap hr, ?_⟩
          exact fin 0 _ jk ((St.drew (w := w) (w.drawn + 1) hst').new_cl (cs2 ++ jk) e) e2
    · have hmm : m' = m := Nat.eq_of_mul_eq_mul_right hs0 (g2.symm.trans hm)
      subst hmm
      have holds : ∀ j u, cs[j]? = Option.some u → w.cell? ((⟨b, pre.length, none⟩ : Addr).add j) = Option.some u := fun j u hj => by
        rw [addr_add]
        have hlt := (List.getElem?_eq_some_iff.1 hj).1
        exact hst'.cell pk0 (rd_cl (by rw [List.getElem?_append_right (by omega), List.getElem?_append_left (by omega)]; simpa using hj))
      have hR : St g w (R * cl b (pre ++ (cs ++ jk))) := by rw [star_comm]; exact hst'
      by_cases hroom : m' + n2 ≤ c
      · have hfit : (cs ++ cs2).length ≤ cs.length + jk.length := by rw [hlen]; exact Nat.le_trans (Nat.mul_le_mul_right _ hroom) g4
        have hfit2 : cs2.length ≤ jk.length := by simp at hfit; omega
        have hsc := run_storeCells (P := P) (g := g) (R := R) (b := b) cs2 (pre ++ (cs ++ jk)) (pre.length + cs.length) 0 w hone (by simp; omega) hst'
        obtain ⟨w', hr, hs'⟩ := hsc
        have hput : putL (pre ++ (cs ++ jk)) (pre.length + cs.length + 0) cs2 = pre ++ ((cs ++ cs2) ++ jk.drop cs2.length) := by
          have := putL_append cs2 (pre ++ cs) jk hfit2
          simpa [List.append_assoc] using this
        rw [hput] at hs'
        refine ⟨⟨(Option.some ⟨b, pre.length, none⟩), (m' + n2), c⟩, w', hap ?_, hs'.mono (Ent.left (slk_mk hlen hroom (by simp; omega)))⟩
        have hfirst : (Builtin.firstCells s n2 v2).run P w = .ok cs2.toArray w := by
          rcases hq.2 g w _ hR with ⟨rfl, rfl⟩ | ⟨a, c2, rfl, hc2⟩
          · have : cs2 = [] := List.eq_nil_of_length_eq_zero (by simpa using hq.1)
            subst this
            exact run_firstCells_none w s 0 0 0
          · exact run_firstCells_some (P := P) w s n2 a n2 c2 cs2 hq.1 hc2
        have hlenof : (Builtin.lenOf v2).run P w = .ok n2 w := by
          rcases hq.2 g w _ hR with ⟨rfl, rfl⟩ | ⟨a, c2, rfl, hc2⟩ <;> rfl
        have hadd : (⟨b, pre.length, none⟩ : Addr).add (m' * s) = ⟨b, pre.length + cs.length, none⟩ := by rw [addr_add, g2]
        simp [Builtin.append_, run_under, sizeOf, typeInfo, h1, h2, hlenof, hroom, hfirst, hadd, hr]
      · rcases hq.2 g w _ hR with ⟨rfl, rfl⟩ | ⟨a, c2, rfl, hc2⟩
        · omega
        · have hr := run_append_grow (P := P) w T t e i zv TT.h h1 h4 ⟨b, pre.length, none⟩ m' c cs (by rw [h2]; exact hm) holds a n2 c2 cs2 (by rw [h2]; exact hq.1) hc2 (by omega) (by omega) (growslice_fits (by omega) (by rw [h3]; exact hbytes.1))
          obtain ⟨jk', e1, e2⟩ := grown c
          rw [e1] at hr
          refine ⟨⟨_, _, _⟩, _, hap hr, ?_⟩
          exact fin c _ jk' ((St.drew (w := w) (w.drawn + 1) hR.left).new_cl _ e) e2) h
theorem Ow.slice_front [TT : TyU P T (.slice e)] [S : TyS P e s bb zc] {m : Nat} {hi : Nat} (hd : dOk n d = true) (hx : ev ρ x = some v) (hy : ev ρ y = some (.int k (hi : Int))) (hp : Pk H (slk s v cs) R) (hm : cs.length = m * s) (hs0 : 0 < s) (hle : hi ≤ m)
    (h : ∀ v' : SV, Ow P r n all rest Q (putE d v'.v ρ) ds (slk s v'.v (cs.take (hi * s)) * R)) :
    Ow P r n all (⟨d, .slice T x none (some y) none, t, pos, aft, none⟩ :: rest) Q ρ ds H :=
  Ow.value_ex (α := SV) (f := fun v => v.v) (H' := fun v => slk s v.v (cs.take (hi * s)) * R) hd (by simp) (fun g w a hr hst => by
    unfold Pk at hp
    subst hp
    rcases slk_cases hst with ⟨rfl, rfl, hst'⟩ | ⟨b, pre, jk, m', c, rfl, g2, g3, g4, hst'⟩
    · have hm0 : m = 0 := by
        rcases Nat.eq_zero_or_pos m with h0 | h0
        · exact h0
        · have := Nat.mul_pos h0 hs0; simp at hm; omega
      have hhi : hi = 0 := by omega
      subst hhi
      refine ⟨⟨none, 0, 0⟩, w, ?_, by simpa using hst⟩
      simp [execOp, ev_eval hr hx, ev_eval hr hy, Instr.sliceAt, Instr.slice, run_under, Instr.sliceBounds, Instr.sliceBound, asIntOf, run_size]
    · have hmm : m' = m := Nat.eq_of_mul_eq_mul_right hs0 (g2.symm.trans hm)
      subst hmm
      have hle' : hi ≤ c := by omega
      refine ⟨⟨(Option.some ⟨b, pre.length, none⟩), hi, c⟩, w, ?_, hst'.mono (Ent.left ?_)⟩
      · simp [execOp, ev_eval hr hx, ev_eval hr hy, Instr.sliceAt, Instr.slice, run_under, Instr.sliceBounds, Instr.sliceBound, asIntOf, run_size, hle', Addr.add]
      · have e1 : cs ++ jk = cs.take (hi * s) ++ (cs.drop (hi * s) ++ jk) := by rw [← List.append_assoc, List.take_append_drop]
        rw [e1]
        have hle2 : hi * s ≤ cs.length := by rw [hm]; exact Nat.mul_le_mul_right _ hle
        refine slk_mk (by simp; omega) hle' ?_
        simp
        omega) h
end
end Go.Sl
namespace Go.Sl
open Go
set_option linter.unusedVariables false
universe u
variable {td td' : TypeDesc} {kk bb : Nat} {zc : List Value}
section
variable {P : Program} {r : Option Nat} {n : Nat} {Q : PostT} {ρ : Env} {ds : List Deferred} {H R A : HP} {all rest : List Oper} {d : Option Nat} {t t' T e : TypeId} {pos : String} {aft : Array Edge} {v v2 u : Value} {x y z : Operand}
  {k k' : IntKind} {s m cap n2 b o : Nat} {i : Int} {cs cs2 : List Value} {ts : Array TypeId}
theorem Pu.fld {s f off : Nat} [T : Fld P s f off] (hx : ev ρ x = some (.pointer (some ⟨b, o, none⟩))) : Pu P n ρ H (.fieldAddr s x f) t (.pointer (some ⟨b, o + off, none⟩)) := by
  have := Pu.fieldAddr (P := P) (n := n) (H := H) (t := t) (s := s) (f := f) hx
  rwa [addr_add] at this
theorem Pu.load_cl [T : TyA P t false] (hx : ev ρ x = some (.pointer (some ⟨b, o, none⟩))) (hp : Pk H (cl b cs) R) (ho : cs[o]? = some v) : Pu P n ρ H (.load t x) t' v := Pu.load hx hp (rd_cl ho)
theorem Pu.load_slk [T : TyA P t false] {j : Nat} (hx : ev ρ x = some (.pointer (some ((sbase v).add j)))) (hp : Pk H (slk s v cs) R) (ho : cs[j]? = some u) : Pu P n ρ H (.load t x) t' u := Pu.load hx hp (rd_slk ho)
theorem Pu.loadN_cl [T : TyA P t true] [S : TyS P t kk bb zc] {vs : List Value} (hx : ev ρ x = some (.pointer (some ⟨b, o, none⟩))) (hp : Pk H (cl b cs) R) (ho : (cs.drop o).take kk = vs) (hk : vs.length = kk) :
    Pu P n ρ H (.load t x) t' (.agg vs.toArray) :=
  Pu.loadN hx hp (fun j u hj => by
    rw [addr_add]
    refine rd_cl ?_
    rw [← ho, List.getElem?_take] at hj
    split at hj
    · simpa [List.getElem?_drop] using hj
    · cases hj) hk
theorem Ow.store_cl [S : TyS P t 1 bb zc] (hd : dOk n d = true) (hx : ev ρ x = some (.pointer (some ⟨b, o, none⟩))) (hy : ev ρ y = some v) (ho : v.oneCell' = true) (hp : Pk H (cl b cs) R) (hw : Nat.blt o cs.length = true)
    (h : Ow P r n all rest Q (putE d undef ρ) ds (cl b (cs.set o v) * R)) : Ow P r n all (⟨d, .store t x y, t', pos, aft, none⟩ :: rest) Q ρ ds H := Ow.store hd hx hy ho hp (wr_cl (Nat.le_of_ble_eq_true hw)) h
theorem Ow.store_slk [S : TyS P t 1 bb zc] {j : Nat} (hd : dOk n d = true) (hx : ev ρ x = some (.pointer (some ((sbase v).add j)))) (hy : ev ρ y = some u) (ho : u.oneCell' = true) (hp : Pk H (slk s v cs) R) (hw : j < cs.length)
    (h : Ow P r n all rest Q (putE d undef ρ) ds (slk s v (cs.set j u) * R)) : Ow P r n all (⟨d, .store t x y, t', pos, aft, none⟩ :: rest) Q ρ ds H := Ow.store hd hx hy ho hp (wr_slk hw) h
theorem Ent.pk {R' : HP} (hp : Pk H A R) (h : Ent R R') : Ent H (A * R') := by unfold Pk at hp; rw [hp]; exact h.right
theorem Ent.fin (hp : Pk H A R) : Ent H A := by unfold Pk at hp; rw [hp]; exact .drop _ _
theorem Pu.len_slm {α : Type u} {l : List α} {f : α → Value} [TT : TyU P T (.slice e)] (hx : ev ρ x = some v) (hp : Pk H (slk 1 v (l.map f)) R) : Pu P n ρ H (.call { callee := .builtin .len, args := #[x], argTypes := #[T] }) t (.int .i64 l.length) := by
  have := Pu.len_sl (P := P) (n := n) (t := t) (T := T) hx hp
  rwa [List.length_map] at this
theorem Ow.unemp {l : List Oper} (h : Ow P r n all l Q ρ ds R) : Ow P r n all l Q ρ ds (emp * R) := Ow.heq (emp_star R) h
theorem Ow.assoc {B C : HP} {l : List Oper} (h : Ow P r n all l Q ρ ds (A * (B * C))) : Ow P r n all l Q ρ ds (A * B * C) := Ow.heq (star_assoc A B C) h
theorem Ow.pkd {l : List Oper} (hp : Pk H A R) (h : Ow P r n all l Q ρ ds (A * R)) : Ow P r n all l Q ρ ds H := Ow.heq hp h
theorem Cw.pkd {c : Code} (hp : Pk H A R) (h : Cw P r n c Q ρ ds (A * R)) : Cw P r n c Q ρ ds H := Cw.heq hp h
theorem Ow.opn {α : Sort u} {B : α → HP} {l : List Oper} (e : A = Sl.ex B) (h : ∀ x, Ow P r n all l Q ρ ds (B x * R)) : Ow P r n all l Q ρ ds (A * R) := by rw [e]; exact Ow.exs h
theorem Cw.opn {α : Sort u} {B : α → HP} {c : Code} (e : A = Sl.ex B) (h : ∀ x, Cw P r n c Q ρ ds (B x * R)) : Cw P r n c Q ρ ds (A * R) := by rw [e]; exact Cw.exs h
theorem thenQ_n {K : Env → List Deferred → HP → Prop} (h : K ρ ds H) : thenQ K Q .normal ρ ds H := h
theorem thenQ_r {K : Env → List Deferred → HP → Prop} (h : Q .ret ρ ds H) : thenQ K Q .ret ρ ds H := h
theorem thenQ_e {K : Env → List Deferred → HP → Prop} {id : Nat} (h : Q (.exit id) ρ ds H) : thenQ K Q (.exit id) ρ ds H := h
theorem blockQ_n {id : Nat} (h : Q .normal ρ ds H) : blockQ id Q .normal ρ ds H := h
theorem blockQ_r {id : Nat} (h : Q .ret ρ ds H) : blockQ id Q .ret ρ ds H := h
theorem blockQ_e {id : Nat} (h : Q .normal ρ ds H) : blockQ id Q (.exit id) ρ ds H := by
  show (bif Nat.beq id id then Q .normal else Q (.exit id)) ρ ds H
  rw [show Nat.beq id id = true from Nat.beq_refl id]; exact h
theorem retQ_r {fn : Func} {β : Type u} {val : β → Value} {post : β → HP} {F : HP} (w : β) (hres : Res P fn ρ H (val w)) (hH : Ent H (post w * F)) : retQ P fn val post F .ret ρ [] H := ⟨.inr rfl, w, hres, hH⟩
theorem retQ_n {fn : Func} {β : Type u} {val : β → Value} {post : β → HP} {F : HP} (w : β) (hres : Res P fn ρ H (val w)) (hH : Ent H (post w * F)) : retQ P fn val post F .normal ρ [] H := ⟨.inl rfl, w, hres, hH⟩
end
theorem Fn.weak {P : Program} {f : FuncId} {args : List Value} {Pre Pre' : HP} {β β' : Type u} {val : β → Value} {post : β → HP} {val' : β' → Value} {post' : β' → HP}
    (h : Fn P f args Pre β val post) (hpre : Ent Pre' Pre) (c : β → β') (hv : ∀ b, val b = val' (c b)) (hpost : ∀ b, Ent (post b) (post' (c b))) : Fn P f args Pre' β' val' post' :=
  ⟨h.enters, fun g F w hs => (h.calls g F w (hs.mono hpre.left)).mono fun e w' ⟨b, he, hs'⟩ => ⟨c b, by rw [he, hv], hs'.mono (hpost b).left⟩⟩
abbrev vi (n : Int) : Value := .int .i64 n
end Go.Sl
namespace Go.Sl
open Go
set_option linter.unusedVariables false
universe u
def noQ : Exit → Act → World → Prop := fun _ _ _ => False
section
variable {F : Fence} {P : Program} {ops : Array Oper} {md : Region.Mode} {Q : Exit → Act → World → Prop} {g : Gh} {B : HP}
theorem wpIn_of_noQ {o : Oper} {a : Act} {w : World} {K : Act → World → Prop} (h : o.wpIn F 0 P a w K noQ) : o.wpIn F 0 P a w K Q := by
  unfold Oper.wpIn at *
  refine ⟨h.1, ?_⟩
  have h := h.2
  generalize (o.semAt F.round a.eval).run P w = r at *
  cases r with
  | ok x w' =>
    cases x <;> simp only [Oper.uponIn] at h ⊢ <;>
      first
        | exact h
        | exact ⟨h.1, CallsIn.mono h.2 (fun e w'' he => by cases e <;> first | exact he | exact he.elim | (obtain ⟨_, _, hf⟩ := he; exact hf.elim))⟩
        | exact ⟨h.1, RowsIn.mono h.2 (fun _ _ he => he)⟩
        | exact ⟨h.1, RoundIn.mono h.2 (fun e w'' he => by cases e <;> first | exact he | exact he.elim | (obtain ⟨_, _, hf⟩ := he; exact hf.elim))⟩
  | halt x w' => cases x <;> simp only [Oper.uponIn] at h ⊢ <;> first | exact h | exact h.elim
def hStep (F : Fence) (P : Program) (ops : Array Oper) (g : Gh) (B : HP) (i : Nat) (K : Act → HP → Prop) (a : Act) (H : HP) : Prop :=
  match ops[i]? with
  | none => K a H
  | some o => if Region.wanted o (yielded ops a.tmps) then
      (∃ v, (∀ w, St g w B → (execOp a.eval o).run P w = .ok (.value v) w) ∧ K (a.put o.dst v) H) ∨
      (∀ w, St g w H → o.wpIn F 0 P a w (fun a' w' => ∃ H', St g w' H' ∧ K a' H') noQ)
    else K (a.put o.dst undef) H
theorem hStep_mono {i : Nat} {a : Act} {H : HP} {K K' : Act → HP → Prop} (h : ∀ a H, K a H → K' a H) (hh : hStep F P ops g B i K a H) : hStep F P ops g B i K' a H := by
  unfold hStep at *
  split
  · next ho => simp only [ho] at hh; exact h _ _ hh
  · next o ho =>
    simp only [ho] at hh
    split
    · next hw =>
      simp only [hw, if_true] at hh
      rcases hh with ⟨v, h1, h2⟩ | h1
      · exact .inl ⟨v, h1, h _ _ h2⟩
      · exact .inr fun w hs => Oper.wpIn_mono (fun a' w' ⟨H', h3, h4⟩ => ⟨H', h3, h _ _ h4⟩) (h1 w hs)
    · next hw => simp only [hw] at hh; exact h _ _ hh
def hAny (F : Fence) (P : Program) (md : Region.Mode) (ops : Array Oper) (g : Gh) (B : HP) (tl : Bool) (Qn : Act → HP → Prop) : Nat → Array Bool → Act → HP → Prop
  | 0, listed, a, H => (tl = false → Ent H B) ∧ Region.ready md ops listed = [] ∧ Qn a H
  | fuel + 1, listed, a, H => Ent H B ∧ (Region.ready md ops listed = [] → Qn a H) ∧ ∀ i ∈ Region.ready md ops listed, hStep F P ops g B i (hAny F P md ops g B tl Qn fuel (listed.setIfInBounds i true)) a H
def tame (ops : Array Oper) : Bool := ops.all fun o => match o.op with | .defer _ => false | .select _ _ => false | _ => true
theorem tame_defer (h : tame ops = true) {i : Nat} {o : Oper} (hi : ops[i]? = some o) : ∀ c, o.op ≠ .defer c := by
  intro c hc
  have := Array.all_eq_true'.1 h o (Array.mem_of_getElem? hi)
  rw [hc] at this; cases this
theorem tame_select (h : tame ops = true) {i : Nat} {o : Oper} (hi : ops[i]? = some o) : ∀ cs b, o.op ≠ .select cs b := by
  intro c b hc
  have := Array.all_eq_true'.1 h o (Array.mem_of_getElem? hi)
  rw [hc] at this; cases this
theorem wpOpIn_of_hStep (hF : ∀ f, F.fn f) (ht : tame ops = true) {i : Nat} {K : Act → HP → Prop} {K' : Act → World → Prop} {a : Act} {H : HP} {w : World} (hK : ∀ a H w, St g w H → K a H → K' a w)
    (hs : St g w H) (hB : Ent H B) (h : hStep F P ops g B i K a H) : wpOpIn F 0 P ops Q i K' a w := by
  unfold hStep at h
  unfold wpOpIn
  split
  · next ho => simp only [ho] at h; exact hK _ _ _ hs h
  · next o ho =>
    simp only [ho] at h
    split
    · next hw =>
      simp only [hw, if_true] at h
      rcases h with ⟨v, h1, h2⟩ | h1
      · unfold Oper.wpIn
        refine ⟨fun f _ => hF f, ?_⟩
        rw [semAt_eq (tame_defer ht ho), h1 _ (hs.mono hB)]
        exact hK _ _ _ hs h2
      · exact wpIn_of_noQ (Oper.wpIn_mono (fun a' w' ⟨H', h3, h4⟩ => hK _ _ _ h3 h4) (h1 w hs))
    · next hw => simp only [hw] at h; exact ⟨fun f _ => hF f, hK _ _ _ hs h⟩
theorem wpAnyIn_of_hAny (hF : ∀ f, F.fn f) (ht : tame ops = true) {tl : Bool} {Qn : Act → HP → Prop} (hQ : ∀ a H w, St g w H → Qn a H → Q .normal a w) : ∀ (fuel : Nat) (listed : Array Bool) (a : Act) (H : HP) (w : World), St g w H →
    hAny F P md ops g B tl Qn fuel listed a H → wpAnyIn F 0 P md ops Q fuel listed a w
  | 0, _, _, _, _, hs, h => ⟨h.2.1, hQ _ _ _ hs h.2.2⟩
  | fuel + 1, _, _, _, _, hs, h => ⟨fun h0 => hQ _ _ _ hs (h.2.1 h0), fun i hi => wpOpIn_of_hStep hF ht (fun a' H' w' hs' h' => wpAnyIn_of_hAny hF ht hQ fuel _ a' H' w' hs' h') hs h.1 (h.2.2 i hi)⟩
def YQ (P : Program) (ops : Array Oper) (g : Gh) (B : HP) (o : Oper) (v : Value) (a : Act) : Prop :=
  (Region.wanted o (yielded ops a.tmps) = true ∧ ∀ w, St g w B → (execOp a.eval o).run P w = .ok (.value v) w) ∨ (Region.wanted o (yielded ops a.tmps) = false ∧ v = undef)
theorem YQ.step {i : Nat} {o : Oper} {v : Value} {a : Act} {H : HP} (hi : ops[i]? = some o) (hy : YQ P ops g B o v a) {K : Act → HP → Prop} (h : K (a.put o.dst v) H) : hStep F P ops g B i K a H := by
  unfold hStep
  simp only [hi]
  rcases hy with ⟨hw, hv⟩ | ⟨hw, rfl⟩
  · simp only [hw, if_true]; exact .inl ⟨v, hv, h⟩
  · simp only [hw, Bool.false_eq_true, if_false]; exact h
theorem YQ.same {o : Oper} {v : Value} {a a' : Act} (hy : YQ P ops g B o v a) (he : execOp a'.eval o = execOp a.eval o)
    (hw : Region.wanted o (yielded ops a'.tmps) = Region.wanted o (yielded ops a.tmps)) : YQ P ops g B o v a' := by
  unfold YQ at *
  rw [he, hw]
  exact hy
theorem hStep_put (ht : tame ops = true) {i j : Nat} {oi oj : Oper} {v : Value} (hi : ops[i]? = some oi) (hj : ops[j]? = some oj) (hap : oi.apart ops oj = true) {K : Act → HP → Prop} {a : Act} {H : HP}
    (hF : ∀ f, F.fn f) (hy : YQ P ops g B oi v a) (h : hStep F P ops g B j K (a.put oi.dst v) H) : hStep F P ops g B j (fun a' H' => YQ P ops g B oi v a' ∧ K (a'.put oi.dst v) H') a H := by
  obtain ⟨h1, h2, h3⟩ := Oper.apart_spec hap
  have hsi := tame_select ht hi
  have hsj := tame_select ht hj
  have hdj := tame_defer ht hj
  have keep : ∀ (a : Act), YQ P ops g B oi v a → ∀ u, YQ P ops g B oi v (a.put oj.dst u) := fun a hy u =>
    hy.same (execOp_put oi hsi a oj.dst u h3) (wanted_put oi a oj.dst u h3)
  unfold hStep at *
  simp only [hj] at *
  rw [wanted_put oj a oi.dst v h1] at h
  split
  · next hw =>
    simp only [hw, if_true] at h
    rcases h with ⟨u, h4, h5⟩ | h4
    · refine .inl ⟨u, fun w hs => ?_, keep a hy u, by rw [← Act.put_comm a v u h2]; exact h5⟩
      have := h4 w hs
      rwa [execOp_put oj hsj a oi.dst v h1] at this
    · refine .inr fun w hs => ?_
      have h := h4 w hs
      unfold Oper.wpIn at *
      refine ⟨fun f _ => hF f, ?_⟩
      have h := h.2
      rw [semAt_eq hdj, execOp_put oj hsj a oi.dst v h1] at h
      rw [semAt_eq hdj]
      generalize (execOp a.eval oj).run P w = r at *
      cases r with
      | ok x w' =>
        cases x <;> simp only [Oper.uponIn] at h ⊢
        case value u =>
          obtain ⟨H', h6, h7⟩ := h
          exact ⟨H', h6, keep a hy u, by rw [← Act.put_comm a v u h2]; exact h7⟩
        case skip =>
          obtain ⟨H', h6, h7⟩ := h
          exact ⟨H', h6, keep a hy _, by rw [← Act.put_comm a v undef h2]; exact h7⟩
        case defer d =>
          obtain ⟨H', h6, h7⟩ := h
          refine ⟨H', h6, hy.same ?_ ?_, ?_⟩
          · exact (execOp_put oi hsi { a with defers := d :: a.defers } oj.dst undef h3)
          · exact (wanted_put oi { a with defers := d :: a.defers } oj.dst undef h3)
          · rw [← Act.put_comm _ v undef h2]; cases e : oi.dst <;> (rw [e] at h7; exact h7)
        case enter f args =>
          refine ⟨h.1, CallsIn.mono h.2 fun e w'' he => ?_⟩
          cases e with
          | returned u =>
            obtain ⟨H', h6, h7⟩ := he
            exact ⟨H', h6, keep a hy u, by rw [← Act.put_comm a v u h2]; exact h7⟩
          | panicked c => exact he.elim
          | outgrown => exact he
        case row row args => exact ⟨h.1, RowsIn.mono h.2 fun u w'' ⟨H', h6, h7⟩ => ⟨H', h6, keep a hy u, by rw [← Act.put_comm a v u h2]; exact h7⟩⟩
        case round l f tmps assign body =>
          refine ⟨h.1, RoundIn.mono h.2 fun e w'' he => ?_⟩
          cases e with
          | returned u =>
            obtain ⟨H', h6, h7⟩ := he
            exact ⟨H', h6, keep a hy u, by rw [← Act.put_comm a v u h2]; exact h7⟩
          | panicked c => exact he.elim
          | outgrown => exact he
      | halt x w' => cases x <;> simp only [Oper.uponIn] at h ⊢ <;> first | exact h.elim | exact h
  · next hw =>
    simp only [hw] at h
    exact ⟨keep a hy _, by rw [← Act.put_comm a v undef h2]; exact h⟩
def Shut (md : Region.Mode) (ops : Array Oper) (listed : Array Bool) : Prop := ∀ k ok, ops[k]? = some ok → listed.getD k false = true → ∀ e ∈ ok.after, Region.binds md e = true → listed.getD e.on false = true
theorem Shut.put {listed : Array Bool} (h : Shut md ops listed) {i : Nat} (hi : i ∈ Region.ready md ops listed) : Shut md ops (listed.setIfInBounds i true) := by
  intro k ok hk hl e he hb
  by_cases hki : i = k
  · subst hki
    obtain ⟨_, o, ho, hall⟩ := mem_ready.1 hi
    rw [hk] at ho; cases ho
    exact getD_set_true (hall e he hb)
  · rw [getD_set_ne false hki] at hl
    exact getD_set_true (h k ok hk hl e he hb)
def waits (md : Region.Mode) (ops : Array Oper) : Nat → Nat → Nat → Bool
  | 0, _, _ => false
  | f + 1, j, k => match ops[j]? with
    | none => false
    | some o => o.after.any fun e => Region.binds md e && (e.on == k || waits md ops f e.on k)
theorem waits_listed {listed : Array Bool} (hs : Shut md ops listed) : ∀ (f j k : Nat), waits md ops f j k = true → listed.getD j false = true → listed.getD k false = true
  | 0, _, _, h, _ => by cases h
  | f + 1, j, k, h, hl => by
    simp only [waits] at h
    cases ho : ops[j]? with
    | none => rw [ho] at h; cases h
    | some o =>
      rw [ho] at h
      obtain ⟨e, he, h1⟩ := Array.any_eq_true'.1 h
      simp only [Bool.and_eq_true, Bool.or_eq_true, beq_iff_eq] at h1
      have h2 := hs j o ho hl e he h1.1
      rcases h1.2 with h3 | h3
      · rw [← h3]; exact h2
      · exact waits_listed hs f e.on k h3 h2
theorem waits_ready {listed : Array Bool} (hs : Shut md ops listed) {f j k : Nat} (h : waits md ops f j k = true) (hr : j ∈ Region.ready md ops listed) : listed.getD k false = true := by
  cases f with
  | zero => cases h
  | succ f =>
    simp only [waits] at h
    obtain ⟨_, o, ho, hall⟩ := mem_ready.1 hr
    rw [ho] at h
    obtain ⟨e, he, h1⟩ := Array.any_eq_true'.1 h
    simp only [Bool.and_eq_true, Bool.or_eq_true, beq_iff_eq] at h1
    have h2 := hall e he h1.1
    rcases h1.2 with h3 | h3
    · rw [← h3]; exact h2
    · exact waits_listed hs f e.on k h3 h2
def lastOk (md : Region.Mode) (ops : Array Oper) (jt : Nat) : Bool := (List.range ops.size).all fun k => k == jt || waits md ops 4 jt k
theorem getD_true_of_false {listed : Array Bool} {k : Nat} (h : listed.getD k true = false) : listed.getD k false = false := by
  rcases Nat.lt_or_ge k listed.size with h' | h'
  · simp [h'] at h ⊢; exact h
  · simp [Array.getElem?_eq_none h'] at h
theorem countP_but {p p' : Nat → Bool} {j : Nat} (hp : p j = true) (hp' : p' j = false) (hs : ∀ k, k ≠ j → p' k = p k) : ∀ n, j < n → (List.range n).countP p' + 1 = (List.range n).countP p
  | 0, h => by omega
  | n + 1, h => by
    simp only [List.range_succ, List.countP_append, List.countP_cons, List.countP_nil, Nat.zero_add]
    by_cases e : j = n
    · subst e
      have : (List.range j).countP p' = (List.range j).countP p := List.countP_congr fun k hk => by
        have := List.mem_range.1 hk
        rw [hs k (by omega)]
      rw [this, hp, hp']; simp
    · have := countP_but hp hp' hs n (by omega)
      rw [hs n (fun h => e h.symm)]
      omega
def left (ops : Array Oper) (listed : Array Bool) : Nat := (List.range ops.size).countP fun k => !listed.getD k true
theorem left_put {listed : Array Bool} {j : Nat} (hj : j < ops.size) (hun : listed.getD j true = false) : left ops (listed.setIfInBounds j true) + 1 = left ops listed := by
  refine countP_but (j := j) ?_ ?_ (fun k hk => ?_) _ hj
  · simp only [hun, Bool.not_false]
  · have hlt : j < listed.size := by
      rcases Nat.lt_or_ge j listed.size with h' | h'
      · exact h'
      · simp [Array.getElem?_eq_none h'] at hun
    simp [hlt]
  · simp only [getD_set_ne true (Ne.symm hk)]
theorem hAny_first (ht : tame ops = true) (hF : ∀ f, F.fn f) {tl : Bool} {jt : Nat} (htl : tl = true → lastOk md ops jt = true) {Qn : Act → HP → Prop} {i : Nat} {oi : Oper} {v : Value} (hi : ops[i]? = some oi) (hit : i ≠ jt ∨ tl = false) (hjts : jt < ops.size ∨ tl = false) :
    ∀ (fuel : Nat) (listed : Array Bool) (a : Act) (H : HP), Shut md ops listed → (listed.getD jt true = false ∨ tl = false) → Ent H B → left ops listed ≤ fuel + 1 →
      (∀ j oj, ops[j]? = some oj → j ≠ i → listed.getD j true = false → (∀ e ∈ oj.after, Region.binds md e = true → e.on ≠ i) → oi.apart ops oj = true) →
      i ∈ Region.ready md ops listed → YQ P ops g B oi v a →
      hAny F P md ops g B tl Qn fuel (listed.setIfInBounds i true) (a.put oi.dst v) H → hAny F P md ops g B tl Qn (fuel + 1) listed a H := by
  intro fuel
  induction fuel with
  | zero =>
    intro listed a H _ _ hB _ _ hr hy HH
    refine ⟨hB, fun h => (by rw [h] at hr; cases hr), fun j hj => ?_⟩
    by_cases hji : j = i
    · subst hji; exact hy.step hi HH
    · have := ready_mono hj hji
      rw [HH.2.1] at this
      cases this
  | succ fuel ih =>
    intro listed a H hsh hjt hB hcnt hfree hr hy HH
    refine ⟨hB, fun h => (by rw [h] at hr; cases hr), fun j hj => ?_⟩
    by_cases hji : j = i
    · subst hji; exact hy.step hi HH
    · have h1 := HH.2.2 j (ready_mono hj hji)
      obtain ⟨hjun, oj, hoj, hall⟩ := mem_ready.1 hj
      have hjlt : j < ops.size := (Array.getElem?_eq_some_iff.1 hoj).1
      have hun_i : listed.getD i false = false := getD_true_of_false (mem_ready.1 hr).1
      -- the last one is not ready while i is to come
      have hjjt : j ≠ jt ∨ tl = false := by
        cases htb : tl with
        | false => exact .inr rfl
        | true =>
          refine .inl fun e => ?_
          subst e
          have hl := htl htb
          have hilt : i < ops.size := (Array.getElem?_eq_some_iff.1 hi).1
          have hw := List.all_eq_true.1 hl i (List.mem_range.2 hilt)
          simp only [Bool.or_eq_true, beq_iff_eq] at hw
          rcases hw with hw | hw
          · exact hji hw.symm
          · have := waits_ready hsh hw hj
            rw [hun_i] at this; cases this
      have hnot : ∀ e ∈ oj.after, Region.binds md e = true → e.on ≠ i := fun e he hb heq => by
        have h1 := hall e he hb
        rw [heq, hun_i] at h1; cases h1
      have h2 := hStep_put ht hi hoj (hfree j oj hoj hji hjun hnot) hF hy h1
      have hfree' : ∀ k ok, ops[k]? = some ok → k ≠ i → (listed.setIfInBounds j true).getD k true = false →
          (∀ e ∈ ok.after, Region.binds md e = true → e.on ≠ i) → oi.apart ops ok = true := fun k ok hk hki hun hno => by
        refine hfree k ok hk hki ?_ hno
        by_cases hjk : j = k
        · subst hjk; exact hjun
        · rw [getD_set_ne true hjk] at hun; exact hun
      refine hStep_mono (fun a' H' h3 => ?_) h2
      have h4 := h3.2
      have hB' : Ent H' B := by
        cases fuel with
        | succ k => exact h4.1
        | zero =>
          rcases hjjt with hjjt | htb
          · rcases hit with hit | htb
            · rcases hjt with hjt | htb
              · rcases hjts with hjts | htb
                · -- three are to come
                  have hi_un := (mem_ready.1 hr).1
                  have e1 := left_put (ops := ops) (listed := listed) (j := i) (Array.getElem?_eq_some_iff.1 hi).1 hi_un
                  have e2 := left_put (ops := ops) (listed := listed.setIfInBounds i true) (j := j) hjlt (by rw [getD_set_ne true (Ne.symm hji)]; exact hjun)
                  have e3 := left_put (ops := ops) (listed := (listed.setIfInBounds i true).setIfInBounds j true) (j := jt) hjts (by rw [getD_set_ne true hjjt, getD_set_ne true hit]; exact hjt)
                  omega
                · exact h4.1 htb
              · exact h4.1 htb
            · exact h4.1 htb
          · exact h4.1 htb
      refine ih (listed.setIfInBounds j true) a' H' (hsh.put hj) ?_ hB' ?_ hfree' (ready_mono hr (Ne.symm hji)) h3.1 ?_
      · rcases hjt with h5 | h5
        · rcases hjjt with h6 | h6
          · exact .inl (by rw [getD_set_ne true h6]; exact h5)
          · exact .inr h6
        · exact .inr h5
      · have := left_put (ops := ops) (listed := listed) (j := j) hjlt hjun
        omega
      · rw [Array.setIfInBounds_comm _ _ hji]
        exact h4
end
def ordOk (ops : Array Oper) (tl : Bool) (jt : Nat) : List (Nat × Bool) → Array Bool → Bool
  | [], listed => (Region.ready .any ops listed).isEmpty
  | (i, false) :: l, listed => (Region.ready .any ops listed).contains i && Region.free .any ops listed i && (i != jt || !tl) && ordOk ops tl jt l (listed.setIfInBounds i true)
  | (i, true) :: l, listed => (Region.ready .any ops listed == [i]) && (i != jt || !tl || l.isEmpty) && ordOk ops tl jt l (listed.setIfInBounds i true)
section
variable {P : Program} {r : Option Nat} {n : Nat} {Q : PostT} {ρ : Env} {ds : List Deferred} {H R A B X : HP} {all : List Oper} {d : Option Nat} {t t' : TypeId} {pos : String} {aft : Array Edge} {v : Value} {tl : Bool} {jt i : Nat} {ord : List (Nat × Bool)}
def Gy (all : List Oper) (ρ : Env) : Option (Nat × Bool) → Prop
  | none => True
  | some (j, b) => ∃ oj dj, all[j]? = some oj ∧ oj.dst = some dj ∧ lk ρ dj = some (.bool b)
def Dw (P : Program) (r : Option Nat) (n : Nat) (all : List Oper) (B : HP) (tl : Bool) (jt : Nat) (Q : PostT) (ds : List Deferred) (ord : List (Nat × Bool)) (ρ : Env) (X : HP) : Prop :=
  (tl = true → lastOk .any all.toArray jt = true) → (jt < all.length ∨ tl = false) → tame all.toArray = true → ∀ g a listed, ordOk all.toArray tl jt ord listed = true → Shut .any all.toArray listed → (ord = [] ∨ listed.getD jt true = false ∨ tl = false) → left all.toArray listed ≤ ord.length →
    Rep n ρ a → a.defers = ds → hAny (fen r) P .any all.toArray g B tl (fun a H => ∃ ρ, Rep n ρ a ∧ a.defers = ds ∧ Q .normal ρ ds H) ord.length listed a (B * X)
theorem Dw.nil (h : Q .normal ρ ds (B * X)) (htl : tl = false) : Dw P r n all B tl jt Q ds [] ρ X := fun _ _ _ g a listed hok _ _ _ hr hd =>
  ⟨fun _ => .drop _ _, by simpa [ordOk] using hok, ρ, hr, hd, h⟩
theorem Dw.nilE (h : Q .normal ρ ds B) (htl : tl = false) : Dw P r n all B tl jt Q ds [] ρ emp := Dw.nil (by rw [star_emp]; exact h) htl
theorem Dw.q {op : Op} {gd : Option (Nat × Bool)} (hi : all[i]? = some ⟨d, op, t, pos, aft, gd⟩) (hd : dOk n d = true)
    (hg : Gy all ρ gd)
    (hpu : Pu P n ρ B op t v) (h : Dw P r n all B tl jt Q ds ord (putE d v ρ) X) : Dw P r n all B tl jt Q ds ((i, false) :: ord) ρ X := by
  intro hl hj ht g a listed hok hsh hjt hle hr hds
  simp only [ordOk, Bool.and_eq_true, Bool.or_eq_true] at hok
  obtain ⟨⟨⟨hrd, hfr⟩, hit⟩, hok'⟩ := hok
  have hjt : listed.getD jt true = false ∨ tl = false := by rcases hjt with h | h; cases h; exact h
  have hrd' : i ∈ Region.ready .any all.toArray listed := by simpa using hrd
  have hi' : all.toArray[i]? = some ⟨d, op, t, pos, aft, gd⟩ := by simpa using hi
  have hlt := (Array.getElem?_eq_some_iff.1 hi').1
  have hit' : i ≠ jt ∨ tl = false := by simpa using hit
  have hw : Region.wanted ⟨d, op, t, pos, aft, gd⟩ (yielded all.toArray a.tmps) = true := by
    cases gd with
    | none => rfl
    | some jb =>
      obtain ⟨j, b⟩ := jb
      obtain ⟨oj, dj, h1, h2, h3⟩ := hg
      have := hr.2 dj _ h3
      simp [Region.wanted, yielded, h1, h2, this]
  have hlp := left_put (ops := all.toArray) hlt (mem_ready.1 hrd').1
  refine hAny_first ht (fun _ => trivial) hl hi' hit' (by rcases hj with hj | hj; exact .inl (by simpa using hj); exact .inr hj) ord.length listed a (B * X) hsh hjt (.drop _ _) (by simpa using hle) (Region.free_spec hi' hfr) hrd' (.inl ⟨hw, fun w hs => hpu.2 _ _ _ _ g w a hr hs⟩) ?_
  refine h hl hj ht g _ _ hok' (hsh.put hrd') ?_ (by simp only [List.length_cons] at hle; omega) (hr.putE hd v) (by cases d <;> exact hds)
  rcases hit' with h1 | h1
  · rcases hjt with h2 | h2
    · exact .inr (.inl (by rw [getD_set_ne true h1]; exact h2))
    · exact .inr (.inr h2)
  · exact .inr (.inr h1)
theorem Dw.s {op : Op} {j : Nat} {b : Bool} {oj : Oper} {dj : Nat} (hi : all[i]? = some ⟨d, op, t, pos, aft, some (j, b)⟩) (hd : dOk n d = true)
    (h1 : all[j]? = some oj) (h2 : oj.dst = some dj) (h3 : lk ρ dj = some (.bool (!b))) (h : Dw P r n all B tl jt Q ds ord (putE d undef ρ) X) : Dw P r n all B tl jt Q ds ((i, false) :: ord) ρ X := by
  intro hl hj ht g a listed hok hsh hjt hle hr hds
  simp only [ordOk, Bool.and_eq_true, Bool.or_eq_true] at hok
  obtain ⟨⟨⟨hrd, hfr⟩, hit⟩, hok'⟩ := hok
  have hjt : listed.getD jt true = false ∨ tl = false := by rcases hjt with h | h; cases h; exact h
  have hrd' : i ∈ Region.ready .any all.toArray listed := by simpa using hrd
  have hi' : all.toArray[i]? = some ⟨d, op, t, pos, aft, some (j, b)⟩ := by simpa using hi
  have hlt := (Array.getElem?_eq_some_iff.1 hi').1
  have hit' : i ≠ jt ∨ tl = false := by simpa using hit
  have hw : Region.wanted ⟨d, op, t, pos, aft, some (j, b)⟩ (yielded all.toArray a.tmps) = false := by
    have := hr.2 dj _ h3
    simp [Region.wanted, yielded, h1, h2, this]
  have hlp := left_put (ops := all.toArray) hlt (mem_ready.1 hrd').1
  refine hAny_first ht (fun _ => trivial) hl hi' hit' (by rcases hj with hj | hj; exact .inl (by simpa using hj); exact .inr hj) ord.length listed a (B * X) hsh hjt (.drop _ _) (by simpa using hle) (Region.free_spec hi' hfr) hrd' (.inr ⟨hw, rfl⟩) ?_
  refine h hl hj ht g _ _ hok' (hsh.put hrd') ?_ (by simp only [List.length_cons] at hle; omega) (hr.putE hd undef) (by cases d <;> exact hds)
  rcases hit' with h1 | h1
  · rcases hjt with h2 | h2
    · exact .inr (.inl (by rw [getD_set_ne true h1]; exact h2))
    · exact .inr (.inr h2)
  · exact .inr (.inr h1)
def loudQ (P : Program) (r : Option Nat) (n : Nat) (all : List Oper) (B : HP) (tl : Bool) (jt : Nat) (Q : PostT) (ds : List Deferred) (ord : List (Nat × Bool)) : PostT := fun e ρ ds' H => e = .normal ∧ ds' = ds ∧
  ((∃ X, H = B * X ∧ Dw P r n all B tl jt Q ds ord ρ X) ∨ (ord = [] ∧ tl = true ∧ Q .normal ρ ds H))
theorem loudQ.go (hp : Pk H B X) (h : Dw P r n all B tl jt Q ds ord ρ X) : loudQ P r n all B tl jt Q ds ord .normal ρ ds H := ⟨rfl, rfl, .inl ⟨X, hp, h⟩⟩
theorem loudQ.last (h : Q .normal ρ ds H) : loudQ P r n all B true jt Q ds [] .normal ρ ds H := ⟨rfl, rfl, .inr ⟨rfl, rfl, h⟩⟩
theorem Dw.l {op : Op} {gd : Option (Nat × Bool)} (hi : all[i]? = some ⟨d, op, t, pos, aft, gd⟩)
    (hg : Gy all ρ gd)
    (h : Ow P r n all [⟨d, op, t, pos, aft, none⟩] (loudQ P r n all B tl jt Q ds ord) ρ ds (B * X)) : Dw P r n all B tl jt Q ds ((i, true) :: ord) ρ X := by
  intro hl hj ht g a listed hok hsh hjt hle hr hds
  simp only [ordOk, Bool.and_eq_true, Bool.or_eq_true] at hok
  obtain ⟨⟨hrd, hjt'⟩, hok'⟩ := hok
  have hrd' : Region.ready .any all.toArray listed = [i] := by simpa using hrd
  have hmem : i ∈ Region.ready .any all.toArray listed := by rw [hrd']; simp
  have hi' : all.toArray[i]? = some ⟨d, op, t, pos, aft, gd⟩ := by simpa using hi
  have hlt := (Array.getElem?_eq_some_iff.1 hi').1
  have hlp := left_put (ops := all.toArray) hlt (mem_ready.1 hmem).1
  have hw : Region.wanted ⟨d, op, t, pos, aft, gd⟩ (yielded all.toArray a.tmps) = true := by
    cases gd with
    | none => rfl
    | some jb =>
      obtain ⟨j, b⟩ := jb
      obtain ⟨oj, dj, h1, h2, h3⟩ := hg
      have := hr.2 dj _ h3
      simp [Region.wanted, yielded, h1, h2, this]
  change hAny (fen r) P .any all.toArray g B tl _ (ord.length + 1) listed a (B * X)
  refine And.intro (.drop _ _) (And.intro (fun h0 => by rw [hrd'] at h0; cases h0) (fun k hk => ?_))
  rw [hrd'] at hk
  obtain rfl : k = i := by simpa using hk
  unfold hStep
  simp only [hi', hw, if_true]
  refine .inr fun w hs => ?_
  have h1 := h g w a hr hds hs
  simp only [wpListIn, Region.wanted, if_true] at h1
  have hno : ∀ e a w, e ≠ .normal → ¬ toQ n g (loudQ P r n all B tl jt Q ds ord) e a w := fun e a w hne ⟨_, _, _, _, h5⟩ => hne h5.1
  -- the guard plays no part in what is done
  have h2 : Oper.wpIn (fen r) 0 P ⟨d, op, t, pos, aft, gd⟩ a w (toQ n g (loudQ P r n all B tl jt Q ds ord) .normal) (toQ n g (loudQ P r n all B tl jt Q ds ord)) := h1
  have h3 : Oper.wpIn (fen r) 0 P ⟨d, op, t, pos, aft, gd⟩ a w (toQ n g (loudQ P r n all B tl jt Q ds ord) .normal) noQ := by
    unfold Oper.wpIn at *
    refine ⟨h2.1, ?_⟩
    have h2 := h2.2
    generalize ((⟨d, op, t, pos, aft, gd⟩ : Oper).semAt (fen r).round a.eval).run P w = x at *
    cases x with
    | ok x w' =>
      cases x <;> simp only [Oper.uponIn] at h2 ⊢ <;>
        first
          | exact h2
          | exact ⟨h2.1, CallsIn.mono h2.2 (fun e w'' he => by cases e <;> first | exact he | exact (hno _ _ _ (by simp) he).elim | (obtain ⟨_, _, hf⟩ := he; exact (hno _ _ _ (by simp) hf).elim))⟩
          | exact ⟨h2.1, RoundIn.mono h2.2 (fun e w'' he => by cases e <;> first | exact he | exact (hno _ _ _ (by simp) he).elim | (obtain ⟨_, _, hf⟩ := he; exact (hno _ _ _ (by simp) hf).elim))⟩
    | halt x w' => cases x <;> simp only [Oper.uponIn] at h2 ⊢ <;> first | exact h2 | exact (hno _ _ _ (by simp) h2).elim
  refine Oper.wpIn_mono ?_ h3
  rintro a' w' ⟨ρ', H', h4, h5, _, h6, h7⟩
  rcases h7 with ⟨X', rfl, h8⟩ | ⟨rfl, htl, h8⟩
  · refine ⟨B * X', h5, h8 hl hj ht g a' _ hok' (hsh.put hmem) ?_ (by simp only [List.length_cons] at hle; omega) h4 h6⟩
    rcases hjt with h9 | h9 | h9
    · cases h9
    · by_cases hkj : k = jt
      · simp only [hkj, bne_self_eq_false] at hjt'
        rcases hjt' with (h10 | h10) | h10
        · cases h10
        · exact .inr (.inr (by simpa using h10))
        · exact .inl (by simpa using h10)
      · exact .inr (.inl (by rw [getD_set_ne true hkj]; exact h9))
    · exact .inr (.inr h9)
  · refine ⟨H', h5, ?_⟩
    show (tl = false → Ent H' B) ∧ _ ∧ _
    exact ⟨(fun h => by rw [htl] at h; cases h), (by simpa [ordOk] using hok'), ρ', h4, h6, h6 ▸ h8⟩
theorem Cw.draw {id : Nat} (B X : HP) (tl : Bool) (jt : Nat) (ord : List (Nat × Bool)) (hH : Ent H (B * X)) (hm : P.follows .mixedOrders = true) (hok : (tame all.toArray && ordOk all.toArray tl jt ord (Array.replicate all.length false) && (!tl || (lastOk .any all.toArray jt && Nat.blt jt all.length)) && Nat.beq ord.length all.length) = true)
    (h : Dw P r n all B tl jt Q ds ord ρ X) : Cw P r n (.region id all.toArray true) Q ρ ds H := by
  simp only [Bool.and_eq_true, Bool.or_eq_true] at hok
  obtain ⟨⟨⟨h1, h2⟩, h3⟩, h4⟩ := hok
  have h4 := Nat.eq_of_beq_eq_true h4
  intro g w a hr hd hs
  refine wpIn_region_any hm ?_
  have hh := h (fun htl => by rw [htl] at h3; simp at h3; exact h3.1) (by cases tl with | false => exact .inr rfl | true => simp at h3; exact .inl h3.2) h1 g a _ h2
    (fun k ok hk hl e he hb => by
      rcases Nat.lt_or_ge k all.length with h' | h'
      · simp [h'] at hl
      · simp [Nat.not_lt.2 h'] at hl)
    (by
      rcases Nat.lt_or_ge jt all.length with h' | h'
      · exact .inr (.inl (by simp [h']))
      · cases tl with
        | false => exact .inr (.inr rfl)
        | true => simp at h3; omega)
    (by unfold left; rw [h4]; exact Nat.le_trans List.countP_le_length (by simp)) hr hd
  rw [h4] at hh
  exact wpAnyIn_of_hAny (fun _ => trivial) h1 (fun a H w hs ⟨ρ, h5, h6, h7⟩ => ⟨ρ, H, h5, hs, h6 ▸ h7⟩) _ _ _ _ _ (St.drew _ (hs.mono hH)) hh
theorem Cw.drawQ {id : Nat} (ord : List (Nat × Bool)) (hm : P.follows .mixedOrders = true) (hok : (tame all.toArray && ordOk all.toArray false 0 ord (Array.replicate all.length false) && (!false || (lastOk .any all.toArray 0 && Nat.blt 0 all.length)) && Nat.beq ord.length all.length) = true)
    (h : Dw P r n all H false 0 Q ds ord ρ emp) : Cw P r n (.region id all.toArray true) Q ρ ds H := Cw.draw H emp false 0 ord (.of_eq (star_emp H).symm) hm hok h
end
end Go.Sl
namespace Go.Sl
open Go
set_option linter.unusedVariables false
universe u
variable {td td' : TypeDesc} {kk bb : Nat} {zc : List Value}
section
variable {P : Program} {r : Option Nat} {n : Nat} {Q : PostT} {ρ : Env} {ds : List Deferred} {H R A : HP} {all rest : List Oper} {d : Option Nat} {t t' t'' T e : TypeId} {pos : String} {aft : Array Edge} {v v2 u : Value} {x y z : Operand}
  {k k' : IntKind} {s m cap n2 b o : Nat} {i j a c : Int} {cs cs2 : List Value} {ts : Array TypeId}
theorem Pu.max (hx : ev ρ x = some (.int k i)) (hy : ev ρ y = some (.int k' j)) : Pu P n ρ H (.call { callee := .builtin .max, args := #[x, y], argTypes := ts }) t (.int k (Max.max i j)) :=
  Pu.builtin (xs := [x, y]) (vs := [.int k i, .int k' j]) ⟨hx, hy, trivial⟩ (fun g w hs c => by
    have : (if j > i then j else i) = Max.max i j := by rw [Int.max_def]; split <;> split <;> omega
    simp [Go.builtin, Builtin.max_, Builtin.max2, this])
/-! comparisons that are decided -/
theorem Pu.lt_t (hx : ev ρ x = some (.int k a)) (hy : ev ρ y = some (.int k c)) (h : a < c) : Pu P n ρ H (.binOp .lss t x y t') t'' (.bool true) := by have := Pu.lt (P := P) (n := n) (H := H) (t := t) (t' := t') (t'' := t'') hx hy; rwa [decide_eq_true h] at this
theorem Pu.lt_f (hx : ev ρ x = some (.int k a)) (hy : ev ρ y = some (.int k c)) (h : ¬ a < c) : Pu P n ρ H (.binOp .lss t x y t') t'' (.bool false) := by have := Pu.lt (P := P) (n := n) (H := H) (t := t) (t' := t') (t'' := t'') hx hy; rwa [decide_eq_false h] at this
theorem Pu.gt_t (hx : ev ρ x = some (.int k a)) (hy : ev ρ y = some (.int k c)) (h : c < a) : Pu P n ρ H (.binOp .gtr t x y t') t'' (.bool true) := by have := Pu.gt (P := P) (n := n) (H := H) (t := t) (t' := t') (t'' := t'') hx hy; rwa [decide_eq_true h] at this
theorem Pu.gt_f (hx : ev ρ x = some (.int k a)) (hy : ev ρ y = some (.int k c)) (h : ¬ c < a) : Pu P n ρ H (.binOp .gtr t x y t') t'' (.bool false) := by have := Pu.gt (P := P) (n := n) (H := H) (t := t) (t' := t') (t'' := t'') hx hy; rwa [decide_eq_false h] at this
theorem Pu.ge_t (hx : ev ρ x = some (.int k a)) (hy : ev ρ y = some (.int k c)) (h : c ≤ a) : Pu P n ρ H (.binOp .geq t x y t') t'' (.bool true) := by have := Pu.ge (P := P) (n := n) (H := H) (t := t) (t' := t') (t'' := t'') hx hy; rwa [decide_eq_true h] at this
theorem Pu.ge_f (hx : ev ρ x = some (.int k a)) (hy : ev ρ y = some (.int k c)) (h : ¬ c ≤ a) : Pu P n ρ H (.binOp .geq t x y t') t'' (.bool false) := by have := Pu.ge (P := P) (n := n) (H := H) (t := t) (t' := t') (t'' := t'') hx hy; rwa [decide_eq_false h] at this
theorem Pu.eq_t (hx : ev ρ x = some (.int k a)) (hy : ev ρ y = some (.int k c)) (h : a = c) : Pu P n ρ H (.binOp .eql t x y t') t'' (.bool true) := by have := Pu.eqI (P := P) (n := n) (H := H) (t := t) (t' := t') (t'' := t'') hx hy; rwa [decide_eq_true h] at this
theorem Pu.eq_f (hx : ev ρ x = some (.int k a)) (hy : ev ρ y = some (.int k c)) (h : ¬ a = c) : Pu P n ρ H (.binOp .eql t x y t') t'' (.bool false) := by have := Pu.eqI (P := P) (n := n) (H := H) (t := t) (t' := t') (t'' := t'') hx hy; rwa [decide_eq_false h] at this
theorem Pu.ne_t (hx : ev ρ x = some (.int k a)) (hy : ev ρ y = some (.int k c)) (h : ¬ a = c) : Pu P n ρ H (.binOp .neq t x y t') t'' (.bool true) := by have := Pu.neI (P := P) (n := n) (H := H) (t := t) (t' := t') (t'' := t'') hx hy; rwa [decide_eq_true h] at this
theorem Pu.ne_f (hx : ev ρ x = some (.int k a)) (hy : ev ρ y = some (.int k c)) (h : a = c) : Pu P n ρ H (.binOp .neq t x y t') t'' (.bool false) := by have := Pu.neI (P := P) (n := n) (H := H) (t := t) (t' := t') (t'' := t'') hx hy; rwa [decide_eq_false (by simpa using h)] at this
theorem Pu.build {ps : List (Nat × Operand)} {vs : List Value} {cs : List Value} (hxs : Evs ρ (ps.map (·.2)) vs) (hb : ∀ w, (Instr.build T ((ps.map (·.1)).zip vs).toArray).run P w = .ok (.agg cs.toArray) w) :
    Pu P n ρ H (.build T ps.toArray) t (.agg cs.toArray) :=
  Pu.mk (by simp) (fun a w hr => by
    have hm : (ps.toArray.map fun (i, x) => (i, a.eval x)) = ((ps.map (·.1)).zip vs).toArray := by
      rw [← Evs.eval hr hxs]
      simp [List.zip_map', List.map_map]
    simp only [execOp, hm, Sem.run_bind, hb, Result.andThen_ok]
    rfl)
theorem Ow.buildSlice [TT : TyU P T (.slice e)] {ps : List (Nat × Operand)} {vs : List Value} {cs : List Value} (hd : dOk n d = true) (hxs : Evs ρ (ps.map (·.2)) vs)
    (hb : ∀ w, (Instr.buildSlice T m ((ps.map (·.1)).zip vs).toArray).run P w = .ok (.slice (some ⟨w.heap.size, 0, none⟩) m m) { w with heap := w.heap.push (.cells cs.toArray e (0, 0)) })
    (h : ∀ b, Ow P r n all rest Q (putE d (.slice (some ⟨b, 0, none⟩) m m) ρ) ds (cl b cs * H)) :
    Ow P r n all (⟨d, .buildSlice T m ps.toArray, t, pos, aft, none⟩ :: rest) Q ρ ds H :=
  Ow.fresh (f := fun b => .slice (some ⟨b, 0, none⟩) m m) hd (by simp) (fun g w a hr hs => by
    have hm : (ps.toArray.map fun (i, x) => (i, a.eval x)) = ((ps.map (·.1)).zip vs).toArray := by
      rw [← Evs.eval hr hxs]
      simp [List.zip_map', List.map_map]
    refine ⟨_, ?_, hs.new_cl cs e⟩
    simp only [execOp, hm, Sem.run_bind, hb, Result.andThen_ok]
    rfl) h
/-! slices of integers -/
theorem Pu.load_sli [T : TyA P t false] {l : List Int} {j : Nat} (hx : ev ρ x = some (.pointer (some ((sbase v).add j)))) (hp : Pk H (slk 1 v (l.map vi)) R) (hj : j < l.length) : Pu P n ρ H (.load t x) t' (vi l[j]!) :=
  Pu.load_slk hx hp (by simp [hj])
theorem Ow.store_sli [S : TyS P t 1 bb zc] {l : List Int} {j : Nat} {a : Int} (hd : dOk n d = true) (hx : ev ρ x = some (.pointer (some ((sbase v).add j)))) (hy : ev ρ y = some (vi a)) (hp : Pk H (slk 1 v (l.map vi)) R) (hj : j < l.length)
    (h : Ow P r n all rest Q (putE d undef ρ) ds (slk 1 v ((l.set j a).map vi) * R)) : Ow P r n all (⟨d, .store t x y, t', pos, aft, none⟩ :: rest) Q ρ ds H :=
  Ow.store_slk hd hx hy rfl hp (by simpa using hj) (by rw [← List.map_set]; exact h)
theorem Ow.slice_sli [TT : TyU P T (.slice e)] [S : TyS P e 1 bb zc] {l : List Int} (hd : dOk n d = true) (hx : ev ρ x = some v) (hy : ev ρ y = some (.int k i)) (hp : Pk H (slk 1 v (l.map vi)) R) (hi : 0 ≤ i ∧ i ≤ l.length)
    (h : ∀ v' : SV, Ow P r n all rest Q (putE d v'.v ρ) ds (slk 1 v'.v ((l.take i.toNat).map vi) * R)) :
    Ow P r n all (⟨d, .slice T x none (some y) none, t, pos, aft, none⟩ :: rest) Q ρ ds H :=
  Ow.slice_front (hi := i.toNat) (m := l.length) (k := k) hd hx (by rw [hy, Int.toNat_of_nonneg hi.1]) hp (by simp) (by omega) (by omega) (fun v' => by rw [Nat.mul_one, ← List.map_take]; exact h v')
theorem Ow.append_sli {z0 : Value} [TT : TyU P T (.slice e)] [S : TyS P e 1 8 [z0]] {l : List Int} {l2 : List Int} (hd : dOk n d = true) (hx : ev ρ x = some v) (hy : ev ρ y = some v2) (hp : Pk H (slk 1 v (l.map vi)) R) (hq : RdSl R 1 v2 l2.length (l2.map vi)) (hbytes : l.length + l2.length ≤ 10000000000)
    (h : ∀ v' : SV, Ow P r n all rest Q (putE d v'.v ρ) ds (slk 1 v'.v ((l ++ l2).map vi) * R)) :
    Ow P r n all (⟨d, .call { callee := .builtin .append, args := #[x, y], argTypes := #[T, T] }, t, pos, aft, none⟩ :: rest) Q ρ ds H :=
  Ow.append (m := l.length) hd hx hy hp hq (by simp [vi, Value.oneCell']) (by simp) (by omega) rfl (by omega) (fun v' => by rw [← List.map_append]; exact h v')
theorem rdSl_cli {b n2 cap : Nat} {l2 : List Int} (h : l2.length = n2) : RdSl (cl b (l2.map vi)) 1 (.slice (some ⟨b, 0, none⟩) n2 cap) l2.length (l2.map vi) := by subst h; exact rdSl_cl (by simp)
theorem Ent.addnil {K : HP} (s : Nat) (h : Ent (slk s (.slice none 0 0) [] * H) K) : Ent H K := Ent.trans (Ent.trans (Ent.of_eq (emp_star H).symm) (Ent.left (slk_nil s))) h
end
end Go.Sl
namespace Go.Sl
open Go
set_option linter.unusedVariables false
universe u
variable {td td' : TypeDesc} {kk bb : Nat} {zc : List Value}
theorem addr_add2 (a : Addr) (m n : Nat) : (a.add m).add n = a.add (m + n) := by
  unfold Addr.add
  by_cases hm : m = 0
  · subst hm; simp
  · by_cases hn : n = 0
    · subst hn; simp
    · simp [hm, hn, Nat.add_assoc]
def adr (a : Option Addr) : Addr := a.getD ⟨0, 0, none⟩
def Ro (A : HP) (a : Option Addr) (n s : Nat) (cs : List Value) : Prop := cs.length = n * s ∧ ∀ j u, cs[j]? = some u → a.isSome = true ∧ RdA A ((adr a).add j) u
section
variable {P : Program} {r : Option Nat} {n : Nat} {Q : PostT} {ρ : Env} {ds : List Deferred} {H R A : HP} {all rest : List Oper} {d : Option Nat} {t t' t'' T e : TypeId} {pos : String} {aft : Array Edge} {v v2 u : Value} {x y z : Operand}
  {k k' : IntKind} {s m cap n2 b o : Nat} {i j c : Int} {cs cs2 : List Value} {ts : Array TypeId} {a : Option Addr}
theorem Ro.get (hr : Ro A a m s cs) {j : Nat} (hj : j < cs.length) : ∃ ad, a = some ad := by
  have := (hr.2 j cs[j] (by simp [hj])).1
  cases a with
  | none => cases this
  | some ad => exact ⟨ad, rfl⟩
theorem Pu.idx_ro [TT : TyU P T (.slice e)] [S : TyS P e s bb zc] (hr : Ro A a m s cs) (hx : ev ρ x = some (.slice a m cap)) (hy : ev ρ y = some (.int k i)) (hs0 : 0 < s) (hi : 0 ≤ i ∧ i < m) :
    Pu P n ρ H (.indexAddr T x y) t (.pointer (some ((adr a).add (i.toNat * s)))) := by
  have hlt : i.toNat * s < cs.length := by rw [hr.1]; exact Nat.mul_lt_mul_of_pos_right (by omega) hs0
  obtain ⟨ad, rfl⟩ := hr.get hlt
  exact Pu.idx hx hy hi
theorem Pu.load_roN [TA : TyA P t true] [S : TyS P t s bb zc] {j : Nat} {vs : List Value} (hr : Ro A a m s cs) (hp : Pk H A R) (hx : ev ρ x = some (.pointer (some ((adr a).add j)))) (hj : (cs.drop j).take s = vs) (hk : vs.length = s) :
    Pu P n ρ H (.load t x) t' (.agg vs.toArray) :=
  Pu.loadN hx hp (fun o u ho => by
    subst hj
    rw [List.getElem?_take] at ho
    split at ho
    · rw [List.getElem?_drop] at ho
      have := (hr.2 (j + o) u ho)
      obtain ⟨ad, rfl⟩ : ∃ ad, a = some ad := by cases a with | none => cases this.1 | some ad => exact ⟨ad, rfl⟩
      have h2 := this.2
      simp only [adr, Option.getD_some] at h2 ⊢
      rw [addr_add2]; exact h2
    · cases ho) hk
theorem Pu.conv_i [T : TyU P t (.int k)] [T' : TyU P t' (.int .i64)] (hx : ev ρ x = some (.int k i)) (hc : -9223372036854775808 ≤ i ∧ i ≤ 9223372036854775807) :
    Pu P n ρ H (.convert t t' x) t'' (.int .i64 i) := Pu.conv hx (wrap_i64 hc)
theorem Ow.storeN [S : TyS P t kk bb zc] {vs : List Value} (hd : dOk n d = true) (hx : ev ρ x = some (.pointer (some ⟨b, o, none⟩))) (hy : ev ρ y = some (.agg vs.toArray)) (hone : vs.all (fun u => u.oneCell') = true) (hk : vs.length = kk) (hp : Pk H (cl b cs) R) (hlt : Nat.ble (o + vs.length) cs.length = true)
    (h : Ow P r n all rest Q (putE d undef ρ) ds (cl b (putL cs o vs) * R)) : Ow P r n all (⟨d, .store t x y, t', pos, aft, none⟩ :: rest) Q ρ ds H :=
  Ow.unit hd (by simp) (fun g w a' hrp hs => by
    unfold Pk at hp; subst hp
    obtain ⟨w', hr, hs'⟩ := run_storeCells (P := P) (g := g) (R := R) (b := b) vs cs o 0 w (by simpa using hone) (by have := Nat.le_of_ble_eq_true hlt; omega) hs
    refine ⟨w', ?_, hs'⟩
    simp [execOp, ev_eval hrp hx, ev_eval hrp hy, Instr.storeAt, Instr.sureAddr, storeVar, Value.cells, run_size, hk, hr]) h
theorem Cw.loopI {σ : Type u} {c : Code} (I : σ → Prop) (ρI : σ → Env) (HI : σ → HP) (μ : σ → Nat) (s₀ : σ) (hI : I s₀) (h0 : Sub ρ (ρI s₀)) (hH : Ent H (HI s₀))
    (round : ∀ s, I s → Cw P r n c (thenQ (fun ρ' ds' H' => ds' = ds ∧ ∃ s', I s' ∧ μ s' < μ s ∧ Sub ρ' (ρI s') ∧ Ent H' (HI s')) Q) (ρI s) ds (HI s)) :
    Cw P r n (.loop c) Q ρ ds H :=
  Cw.loop (σ := { s : σ // I s }) (fun s => ρI s.1) (fun s => HI s.1) (fun s => μ s.1) ⟨s₀, hI⟩ h0 hH (fun s => (round s.1 s.2).mono fun e ρ' ds' H' h => by
    cases e with
    | normal => obtain ⟨h1, s', h2, h3, h4, h5⟩ := h; exact ⟨h1, ⟨s', h2⟩, h3, h4, h5⟩
    | exit id => exact h
    | goto l => exact h
    | ret => exact h
    | panic c => exact h
    | outgrown => exact h)
end
end Go.Sl
namespace Go.Sl
open Go Go.ChangeShapes Go.WideShapes Go.ChangeAt Go.RowKit
set_option linter.unusedVariables false
universe u
section
variable {H : Type} {enc : TypeId × Value → H} {P : Program}
theorem trodAll_stays (hl : laidOutB P = true) {W W' : World} (hs : ∀ p : MemPlace, p.block < W.heap.size → W.sameAt W' p) {sp : Nat → Bool} :
    ∀ {ts : List TypeId} {vs : List Value} {ds : List (DataW H)} {ps : List MemPlace}, ts.all (fun t => P.readableRec t && decide (t < P.types.size)) = true →
    DataW.TrodAll enc P W 0 (fun _ => true) true ts vs ds ps → (∀ p ∈ ps, sp p.block = true) → (∀ p ∈ ps, p.block < W.heap.size) → DataW.TrodAll enc P W' 0 sp true ts vs ds ps
  | [], [], [], _, _, h, _, _ => h
  | [], [], _ :: _, _, _, h, _, _ => h.elim
  | [], _ :: _, _, _, _, h, _, _ => h.elim
  | _ :: _, [], _, _, _, h, _, _ => h.elim
  | _ :: _, _ :: _, [], _, _, h, _, _ => h.elim
  | t :: ts, v :: vs, d :: ds, ps, hr, ⟨p, q, h1, h2, e⟩, hsp, hlt => by
    simp only [List.all_cons, Bool.and_eq_true, decide_eq_true_eq] at hr
    refine ⟨p, q, WideElems.Trod_stays hl hr.1.1 hr.1.2 h1 (fun x hx => hs x (hlt x (by rw [e]; simp [hx]))) (fun x hx => hsp x (by rw [e]; simp [hx])), trodAll_stays hl hs hr.2 h2 (fun x hx => hsp x (by rw [e]; simp [hx])) (fun x hx => hlt x (by rw [e]; simp [hx])), e⟩
theorem trodAll_length {W : World} {base : Nat} {sp : Nat → Bool} {hd : Bool} : ∀ {ts : List TypeId} {vs : List Value} {ds : List (DataW H)} {ps : List MemPlace}, DataW.TrodAll enc P W base sp hd ts vs ds ps → ds.length = ts.length ∧ vs.length = ts.length
  | [], [], [], _, _ => ⟨rfl, rfl⟩
  | [], [], _ :: _, _, h => h.elim
  | [], _ :: _, _, _, h => h.elim
  | _ :: _, [], _, _, h => h.elim
  | _ :: _, _ :: _, [], _, h => h.elim
  | t :: ts, v :: vs, d :: ds, ps, ⟨p, q, h1, h2, e⟩ => by
    have := trodAll_length h2
    simp [this.1, this.2]
theorem post_true {f : Func} {s : ChangeSpec} {apart fresh handsOn again : Bool} {W W' : World} {args : Array Value} {ds gs : List (DataW H)} {before : List MemPlace} {tb : TypeId}
    (hl : laidOutB P = true) (hrow : f.params.toList.all (fun t => P.readableRec t && decide (t < P.types.size)) = true) (hres : f.resultTypes = #[tb]) (hbool : P.underlying tb = some .bool) (hv : s.vars = [])
    (hs : s.fn H ds = { results := [.lit (.bool true)], args := ds })
    (hW : DataW.Whole enc P f.params.toList s.vars apart W args.toList ds gs before)
    (h1 : W'.os = W.os) (h2 : W'.output = W.output) (hsame : ∀ (i : Nat) (o : Obj), W.heap[i]? = some o → W'.heap[i]? = some o) :
    s.post enc P f apart fresh handsOn again W args (.bool true) W' := by
  have hblk : ∀ i, i < W.heap.size → W'.heap[i]? = W.heap[i]? := fun i hi => by rw [hsame i W.heap[i] (by simp [hi])]; simp [hi]
  have hsz : W.heap.size ≤ W'.heap.size := Nat.le_of_not_lt fun hlt => by
    have h := hblk W'.heap.size hlt
    simp [hlt] at h
  have hst : ∀ p : MemPlace, p.block < W.heap.size → W.sameAt W' p := fun p hp => by
    cases p with
    | cell b o => exact World.cell?_of_block (w := W) (hblk b hp)
    | map b => exact hblk b hp
  have hkept : ∀ may, W.keptBut W' may := fun may => ⟨h1, h2, fun i hi => by rw [hblk i hi]; split <;> simp_all⟩
  have hlt := hW.lt
  have hW0 := hW
  obtain ⟨p, q, hA, hV, rfl, hfz, hn⟩ := hW
  rw [hv] at hV
  obtain ⟨rfl, rfl⟩ := trodVars_none hV
  simp only [List.append_nil] at hlt hfz hn hW0
  have hargs : ∀ sp : Nat → Bool, (∀ x ∈ p, sp x.block = true) → DataW.TrodAll enc P W' 0 sp true f.params.toList args.toList (s.fn H (ds ++ [])).args p := fun sp hsp => by
    rw [List.append_nil, hs]; exact trodAll_stays hl hst hrow hA hsp hlt
  have hvars : ∀ sp : Nat → Bool, DataW.TrodVars enc P W' sp s.vars (s.fn H (ds ++ [])).vars [] := fun sp => by
    rw [List.append_nil, hs, hv]; rfl
  have hresT : ∀ (b : Nat) (sp : Nat → Bool) (hd : Bool), DataW.TrodAll enc P W' b sp hd f.resultTypes.toList ((Value.bool true).resultList f.resultTypes.size) (s.fn H (ds ++ [])).results [] := fun b sp hd => by
    rw [List.append_nil, hs, hres]; exact trodAll_cons_mk (shut_bool hbool true) trodAll_mk0
  refine ⟨ds, [], p, [], p, [], hW0, hresT _ _ _, hargs _ (fun x hx => by simpa using hlt x hx), hvars _, hkept _, fun _ => ?_⟩
  refine ⟨ok_one hres rfl (okWide_bool_mk hbool _), _, _, ([] ++ p) ++ [], ⟨[] ++ p, [], trodAll_append (hargs _ (fun _ _ => rfl)) (hresT _ _ _), hvars _, rfl, ?_, ?_⟩, ?_⟩
  · intro b off hp
    have hp' : MemPlace.cell b off ∈ p := by simpa using hp
    rw [World.frozen?_of_block (w := W) (hblk b (hlt _ hp'))]
    exact hfz b off hp'
  · intro ha
    simpa using hn ha
  · intro x hx _
    simpa using hx
end
section
variable {H : Type} {enc : TypeId × Value → H} {P : Program} {W : World} {t e : TypeId} {v : Value} {d : DataW H} {p : List MemPlace}
theorem rd_all {a : Addr} (h : W.cell? a = some v) : RdA (Sl.all W) a v := fun x hx => by
  have hx' : x = _ := hx
  unfold cellH
  rw [hx']
  unfold World.cell? at h
  simp only
  cases ho : W.heap[a.block]? with
  | none => rw [ho] at h; cases h
  | some o =>
    rw [ho] at h
    cases o <;> first | exact h | cases h
def Len (d : DataW H) (n : Nat) : Prop := n = 0 ∨ ∃ el sp, d = .slice el sp ∧ el.length = n
theorem Len.sized {ts : List TypeId} {ds : List (DataW H)} {n : Nat} (h : Len d n) (hz : (DataW.weightsEach P ts ds).all (· ≤ reachBytes) = true) {j : Nat} (ht : ts[j]? = some t) (hd : ds[j]? = some d) (hu : P.underlying t = some (.slice e)) : n * P.bytesOf e ≤ 140737488351232 := by
  rcases h with rfl | ⟨el, sp, rfl, rfl⟩
  · simp
  · have := sized_slice hz ht hd hu
    have h2 : el.length * P.bytesOf e ≤ (el.length + sp.length) * P.bytesOf e := Nat.mul_le_mul_right _ (by omega)
    have h3 : reachBytes = 140737488351232 := rfl
    omega
theorem flatMap_get {α : Type} {dc : α → List Value} {s : Nat} (hs : ∀ x, (dc x).length = s) : ∀ (l : List α) (j : Nat) (u : Value), (l.flatMap dc)[j]? = some u → ∃ i o x, l[i]? = some x ∧ (dc x)[o]? = some u ∧ j = i * s + o ∧ o < s
  | [], j, u, h => by simp at h
  | x :: l, j, u, h => by
    rw [List.flatMap_cons] at h
    by_cases hj : j < s
    · rw [List.getElem?_append_left (by rw [hs]; exact hj)] at h
      exact ⟨0, j, x, rfl, h, by simp, hj⟩
    · rw [List.getElem?_append_right (by rw [hs]; omega), hs] at h
      obtain ⟨i, o, y, h1, h2, h3, h4⟩ := flatMap_get hs l _ u h
      exact ⟨i + 1, o, y, by simpa using h1, h2, by rw [Nat.add_mul]; omega, h4⟩
theorem flatMap_len {α : Type} {dc : α → List Value} {s : Nat} (hs : ∀ x, (dc x).length = s) : ∀ (l : List α), (l.flatMap dc).length = l.length * s
  | [] => by simp
  | x :: l => by rw [List.flatMap_cons, List.length_append, hs, flatMap_len hs l, List.length_cons, Nat.add_mul]; omega
theorem ro_slice {α : Type} [Inhabited α] {dc : α → List Value} {I : α → Prop} {s : Nat} (ht : P.underlying t = some (.slice e)) (hc : P.cellsOf e = s) (hs : ∀ x, (dc x).length = s)
    (hel : ∀ n cs y, DataW.trod enc P W 0 (fun _ => true) true n e cs = some y → ∃ x, I x ∧ cs = dc x)
    {base : Nat} (hv : Value.okWide P W .any base t v) (h : DataW.Trod enc P W 0 (fun _ => true) true t v d p) :
    ∃ (a : Option Addr) (c : Nat) (l : List α), v = .slice a l.length c ∧ l.length ≤ 9223372036854775807 ∧ Ro (Sl.all W) a l.length s (l.flatMap dc) ∧ (∀ x ∈ l, I x) ∧ Len d l.length := by
  obtain ⟨a0, len, cap, rfl⟩ := okWide_slice ht hv
  obtain ⟨fuel, hf⟩ := h
  rcases DataW.trod_slice ht hf with ⟨hcs, hx⟩ | ⟨a, len', cap', elems, rest, n, _, hcs, hx, hb, hl, hm, hlen, hel', _, _⟩
  · simp [Value.cells] at hcs
    obtain ⟨rfl, rfl, rfl⟩ := hcs
    exact ⟨none, 0, [], rfl, by simp, ⟨by simp, fun j u hj => by simp at hj⟩, by simp, .inl rfl⟩
  · simp [Value.cells] at hcs
    obtain ⟨rfl, rfl, rfl⟩ := hcs
    have each : ∀ i, ∃ x, i < len → I x ∧ W.cells? 0 (a.add (i * s)) s = some (dc x) := fun i => by
      by_cases hi : i < len
      · have h1 := hel' i hi
        rw [hc, List.getElem?_eq_getElem (by omega)] at h1
        obtain ⟨cs, h2, h3⟩ := Option.bind_eq_some_iff.1 h1
        obtain ⟨x, h4, h5⟩ := hel _ _ _ h3
        exact ⟨x, fun _ => ⟨h4, by rw [h2, h5]⟩⟩
      · exact ⟨default, fun h => absurd h hi⟩
    let l : List α := (List.range len).map fun i => Classical.choose (each i)
    have hll : l.length = len := by simp [l]
    have hget : ∀ i x, l[i]? = some x → i < len ∧ I x ∧ W.cells? 0 (a.add (i * s)) s = some (dc x) := fun i x hx => by
      have hi : i < len := by have := (List.getElem?_eq_some_iff.1 hx).1; omega
      have : x = Classical.choose (each i) := by simpa [l, hi, eq_comm] using hx
      subst this
      exact ⟨hi, Classical.choose_spec (each i) hi⟩
    refine ⟨some a, cap, l, by rw [hll], by rw [hll]; unfold maxLen at hm; omega, ⟨flatMap_len hs l, fun j u hj => ⟨rfl, ?_⟩⟩, fun x hx => ?_, .inr ⟨_, _, congrArg Prod.fst hx, by simp [hll, hlen]⟩⟩
    · obtain ⟨i, o, x, h1, h2, rfl, h4⟩ := flatMap_get hs l j u hj
      obtain ⟨h5, h6, h7⟩ := hget i x h1
      have h8 := (World.cells?_some h7).2.2 o h4
      rw [addr_add2, h2] at h8
      exact rd_all h8
    · obtain ⟨i, hi⟩ := List.getElem?_of_mem hx
      exact (hget i x hi).2.1
end
end Go.Sl
namespace Go.Sl
open Go
set_option linter.unusedVariables false
universe u
instance : Std.Associative (fun a b : HP => a * b) := ⟨star_assoc⟩
instance : Std.Commutative (fun a b : HP => a * b) := ⟨star_comm⟩
def Yc (P : Program) (y : Value) (vs : List Value) (Pre : HP) (post : Bool → HP) : Prop :=
  ∀ (r : Option Nat) (n : Nat) (all rest : List Oper) (Q : PostT) (ρ : Env) (ds : List Deferred) (d : Option Nat) (t : TypeId) (pos : String) (aft : Array Edge) (ts : Array TypeId) (x : Operand) (xs : List Operand) (F : HP),
    ev ρ x = some y → Evs ρ xs vs → dOk n d = true → (∀ b, Ow P r n all rest Q (putE d (.bool b) ρ) ds (post b * F)) →
    Ow P r n all (⟨d, .call { callee := .value x, args := xs.toArray, argTypes := ts }, t, pos, aft, none⟩ :: rest) Q ρ ds (Pre * F)
section
variable {P : Program} {r : Option Nat} {n : Nat} {Q : PostT} {ρ : Env} {ds : List Deferred} {H R A F : HP} {all rest : List Oper} {d : Option Nat} {t : TypeId} {pos : String} {aft : Array Edge} {ts : Array TypeId} {x : Operand}
theorem Ow.yc {y : Value} {vs : List Value} {Pre F : HP} {post : Bool → HP} {xs : List Operand} (hy : Yc P y vs Pre post) (hd : dOk n d = true) (hx : ev ρ x = some y) (hxs : Evs ρ xs vs) (hp : Pk H Pre F)
    (h : ∀ b, Ow P r n all rest Q (putE d (.bool b) ρ) ds (post b * F)) :
    Ow P r n all (⟨d, .call { callee := .value x, args := xs.toArray, argTypes := ts }, t, pos, aft, none⟩ :: rest) Q ρ ds H := by
  unfold Pk at hp; subst hp
  exact hy r n all rest Q ρ ds d t pos aft ts x xs F hx hxs hd h
theorem Yc.of_round {l : Nat} {vs : List Value} {Pre : HP} {post : Bool → HP}
    (hr : ∀ g w F', St g w (Pre * F') → ∃ fn tmps assign body, (Instr.yield l vs.toArray).run P w = .ok (.round l fn tmps assign body) w ∧ RoundIn (fen none) 0 P l fn tmps assign body w (fun e w' => ∃ b, e = .returned (.bool b) ∧ St g w' (post b * F'))) :
    Yc P (.func (.yield l) #[] #[]) vs Pre post := by
  intro r n all rest Q ρ ds d t pos aft ts x xs F hx hxs hd h g w a hrep hds hs
  simp only [wpListIn, Region.wanted, if_true, Oper.wpIn]
  refine ⟨fun _ _ => trivial, ?_⟩
  rw [semAt_eq (o := ⟨d, .call { callee := .value x, args := xs.toArray, argTypes := ts }, t, pos, aft, none⟩) (by simp)]
  obtain ⟨fn, tmps, assign, body, hy, hround⟩ := hr g w F hs
  have he : (execOp a.eval ⟨d, .call { callee := .value x, args := xs.toArray, argTypes := ts }, t, pos, aft, none⟩).run P w = .ok (.round l fn tmps assign body) w := by
    simp [execOp, resolve, ev_eval hrep hx, Evs.eval hrep hxs, Deferred.ofValue, invoke, hy]
  rw [he, Oper.uponIn_round]
  refine ⟨fun h => by simp [fen, Fence.wide] at h, ?_⟩
  have hround' : RoundIn (fen r) (0 - 1) P l fn tmps assign body w (fun e w' => ∃ b, e = .returned (.bool b) ∧ St g w' (post b * F)) := hround
  refine hround'.mono ?_
  rintro e w' ⟨b, rfl, hs'⟩
  exact h b g w' _ (hrep.putE hd _) (by cases d <;> exact hds) hs'
def rdE : List Nat → List Value → Env → Env
  | p :: ps, v :: vs, ρ => rdE ps vs ((p, v) :: ρ)
  | _, _, ρ => ρ
theorem rep_rdE {ds : List Deferred} : ∀ (ps : List Nat) (vs : List Value) (ρ : Env) (tm : Array Value), ps.all (fun p => Nat.blt p n) = true → Rep n ρ { tmps := tm, defers := ds } →
    Rep n (rdE ps vs ρ) { tmps := (ps.zip vs).foldl (fun tm (p, v) => tm.setIfInBounds p v) tm, defers := ds }
  | [], _, ρ, tm, _, h => by simpa [rdE] using h
  | p :: ps, [], ρ, tm, _, h => by simpa [rdE] using h
  | p :: ps, v :: vs, ρ, tm, hp, h => by
    simp only [List.all_cons, Bool.and_eq_true] at hp
    simp only [List.zip_cons_cons, List.foldl_cons, rdE]
    exact rep_rdE ps vs _ _ hp.2 (h.put hp.1 v)
def jumpOf : Exit → Option Code
  | .ret => some .ret
  | .exit id => some (.exit id)
  | .goto t => some (.goto t)
  | _ => none
def rdQ (B : HP) (J : Exit → Prop) (S : Exit → HP) : PostT := fun e _ _ H => (e = .normal ∧ Ent H B) ∨ (J e ∧ (jumpOf e).isSome = true ∧ Ent H (S e))
def nilQ : PostT := fun _ _ _ _ => False
def mk (D : Nat) : Deferred := { target := .collected D, args := #[] }
def itPost {ι : Type} (A : HP) (B : ι → HP) : Option ι → HP
  | none => A
  | some i => B i
theorem Cw.range {ι : Type} {g : Operand} {gf : FuncId} {caps : List Value} {ps : List Nat} {assign body : Code} {xs : ι → List Value} {A B : ι → HP} {J : ι → Exit → Prop} {S : ι → Exit → HP} {PS : ι → HP} {Pre Post : HP}
    (hit : ∀ (y : Value) (L : HP) (X : ι → HP), (∀ i, Yc P y (xs i) (A i * L) (fun c => bif c then B i * L else X i)) → Fn P gf (y :: caps) (Pre * L) (Option ι) (fun _ => .tuple #[]) (itPost (Post * L) (fun i => PS i * X i)))
    (hg : ev ρ g = some (.func (.func gf) #[] caps.toArray)) (hps : ps.all (fun p => Nat.blt p n) = true) (hxs : ∀ i, (xs i).length = ps.length) (hp : Ent H (Pre * F))
    (hbody : ∀ (i : ι) (F1 G : HP) (l : Nat) (rec : Loop), Cw P (some l) n assign (thenQ (fun ρ' ds' H' => ∃ H2, Ent H' (H2 * F1) ∧
      Cw P (some l) n body (rdQ (B i * (pt l (.loop rec) * G)) (J i) (fun e => S i e * (pt l (.loop rec) * G))) ρ' ds' (H2 * (pt l (.loop rec) * G))) nilQ) (rdE ps (xs i) ρ) [] (A i * F1))
    (hdone : ∀ D, Q .normal ρ (mk D :: ds) (Post * (pt D (.deferred (some [])) * F)))
    (hstop : ∀ D i e, J i e → Q e ρ (mk D :: ds) (PS i * (S i e * (pt D (.deferred (some [])) * F)))) :
    Cw P none n (.rangeFunc g ps.toArray assign body) Q ρ ds H := by
  intro gh w a hrep hds hs
  replace hs := hs.mono hp
  subst hds
  refine wpIn_rangeFunc ?_
  intro fn hfn
  obtain ⟨rec, hrec⟩ : ∃ rec : LoopState → Option Code → Loop, rec = fun st pe => { state := st, pending := pe, fn, tmps := a.tmps, params := ps.toArray, assign, body, defers := w.heap.size } := ⟨_, rfl⟩
  obtain ⟨D, hD⟩ : ∃ D, D = w.heap.size := ⟨_, rfl⟩
  obtain ⟨l, hl⟩ : ∃ l, l = D + 1 := ⟨_, rfl⟩
  obtain ⟨W1, hW1⟩ : ∃ W1, (w.alloc (.deferred (some []))).alloc (.loop (rec .ready none)) = W1 := ⟨_, rfl⟩
  have hs1 : St gh W1 (pt l (.loop (rec .ready none)) * (pt D (.deferred (some [])) * (Pre * F))) := by
    have h2 := (hs.alloc (.deferred (some []))).alloc (.loop (rec .ready none))
    have e : ({ w with heap := w.heap.push (.deferred (some [])) } : World).heap.size = l := by rw [hl, hD]; simp
    rw [e, ← hD] at h2
    rw [← hW1]; exact h2
  let L : HP := pt l (.loop (rec .ready none)) * pt D (.deferred (some []))
  let X : ι → HP := fun i => Sl.ex fun e : Exit => Sl.lift (J i e ∧ (jumpOf e).isSome = true) * (S i e * (pt l (.loop (rec .done (jumpOf e))) * pt D (.deferred (some []))))
  have hyc : ∀ i, Yc P (.func (.yield l) #[] #[]) (xs i) (A i * L) (fun c => bif c then B i * L else X i) := fun i => Yc.of_round (fun g' w' F' hst => by
    have hst1 : St g' w' (pt l (.loop (rec .ready none)) * (A i * (pt D (.deferred (some [])) * F'))) := by
      simp only [L, star_assoc] at hst
      rw [star_left_comm]; exact hst
    have hy := run_yield (P := P) (args := (xs i).toArray) hst1.get (by rw [hrec]; simp [hxs i])
    rw [hrec] at hy
    refine ⟨fn, _, assign, body, hy, roundIn_of_wpIn hfn ?_⟩
    have hrep' : Rep n (rdE ps (xs i) ρ) { tmps := (ps.toArray.zip (xs i).toArray).foldl (fun tmps (t, a) => tmps.setIfInBounds t a) a.tmps, defers := [] } := by
      have := rep_rdE (n := n) (ds := []) ps (xs i) ρ a.tmps hps ⟨hrep.1, hrep.2⟩
      simpa [List.zip_toArray] using this
    have hst2 : St g' w' (A i * (pt l (.loop (rec .ready none)) * (pt D (.deferred (some [])) * F'))) := by rw [star_left_comm]; exact hst1
    have hb := hbody i (pt l (.loop (rec .ready none)) * (pt D (.deferred (some [])) * F')) (pt D (.deferred (some [])) * F') l (rec .busy none)
    refine wpIn_mono (hb g' w' _ hrep' rfl hst2) ?_
    rintro e a1 w1 ⟨ρ1, H1, hr1, hs1, hq1⟩
    cases e with
    | normal =>
      obtain ⟨H2, hent, hcw⟩ := hq1
      have hs2 := hs1.mono hent
      rw [star_left_comm] at hs2
      refine ⟨_, run_beginRound hs2.get (by rw [hrec]), ?_⟩
      have hs3 : St g' (w1.putObj l (.loop { rec .ready none with state := .busy })) (H2 * (pt l (.loop (rec .busy none)) * (pt D (.deferred (some [])) * F'))) := by
        rw [star_left_comm]
        have e : (rec .busy none) = { rec .ready none with state := .busy } := by rw [hrec]
        rw [e]
        refine hs2.put rfl rfl ?_ ?_
        · simp [World.putObj, hs2.lt]
        · intro i hi; simp [World.putObj, Array.getElem?_setIfInBounds_ne (Ne.symm hi)]
      refine wpIn_mono (hcw g' _ a1 hr1 rfl hs3) ?_
      have fin : ∀ (K : HP) (jump : Option Code) (W3 : World), St g' W3 (K * (pt l (.loop (rec .busy none)) * (pt D (.deferred (some [])) * F'))) →
          ∃ W4, (Instr.endRound l jump).run P W3 = .ok (.bool jump.isNone) W4 ∧ St g' W4 (K * (pt l (.loop (rec (if jump.isNone then .ready else .done) jump)) * (pt D (.deferred (some [])) * F'))) := fun K jump W3 hs4 => by
        rw [star_left_comm] at hs4
        have hr := run_endRound (P := P) jump hs4.get
        refine ⟨_, hr, ?_⟩
        rw [star_left_comm]
        have e : (rec (if jump.isNone then .ready else .done) jump) = { rec .busy none with state := if jump.isNone then .ready else .done, pending := jump } := by rw [hrec]
        rw [e]
        refine hs4.put rfl rfl ?_ ?_
        · simp [World.putObj, hs4.lt]
        · intro i hi; simp [World.putObj, Array.getElem?_setIfInBounds_ne (Ne.symm hi)]
      rintro e a3 W3 ⟨ρ3, H3, hr3, hs4, hq⟩
      rcases hq with ⟨rfl, hent3⟩ | ⟨hj, hjs, hent3⟩
      · obtain ⟨W4, h5, h6⟩ := fin (B i) none W3 (hs4.mono hent3)
        refine ⟨_, _, h5, true, rfl, ?_⟩
        simp only [L, cond_true, star_assoc]
        exact h6
      · have done : ∃ W4, (Instr.endRound l (jumpOf e)).run P W3 = .ok (.bool (jumpOf e).isNone) W4 ∧ St g' W4 (X i * F') := by
          obtain ⟨W4, h5, h6⟩ := fin (S i e) (jumpOf e) W3 (hs4.mono hent3)
          refine ⟨W4, h5, h6.mono ?_⟩
          have hn : (jumpOf e).isNone = false := by cases h : jumpOf e <;> simp_all
          rw [hn]
          simp only [X]
          rw [ex_star]
          refine Ent.trans ?_ (Ent.ex (A := fun e => Sl.lift (J i e ∧ (jumpOf e).isSome = true) * (S i e * (pt l (.loop (rec .done (jumpOf e))) * pt D (.deferred (some [])))) * F') e)
          simp only [star_assoc]
          exact Ent.lift ⟨hj, hjs⟩
        obtain ⟨W4, h5, h6⟩ := done
        cases e with
        | normal => simp [jumpOf] at hjs
        | ret => exact ⟨_, _, h5, false, rfl, h6⟩
        | exit id => exact ⟨_, _, h5, false, rfl, h6⟩
        | goto t => exact ⟨_, _, h5, false, rfl, h6⟩
        | panic ch => simp [jumpOf] at hjs
        | outgrown => simp [jumpOf] at hjs
    | ret => exact hq1.elim
    | exit id => exact hq1.elim
    | goto t => exact hq1.elim
    | panic ch => exact hq1.elim
    | outgrown => exact hq1.elim)
  have hfn2 := hit (.func (.yield l) #[] #[]) L X hyc
  refine ⟨l, [mk D], W1, { target := .fn (.func gf) caps.toArray, args := #[.func (.yield l) #[] #[]] }, W1, gf, #[.func (.yield l) #[] #[]] ++ caps.toArray, W1, ?_, ?_, ?_, ?_, fun h => by simp [fen, Fence.wide] at h, ?_⟩
  · have h2 := run_enterLoop_outer (P := P) (w := w) fn a.tmps ps.toArray assign body
    rw [← hW1, hrec, hl, hD]; exact h2
  · simp only [resolve, ev_eval hrep hg]
    simp [go_sem]
  · intro f' hf'; trivial
  · simp [invoke, go_sem, hfn2.enters]
  · have hs2 : St gh W1 (Pre * L * F) := by
      simp only [L, star_assoc]
      have e : Pre * (pt l (.loop (rec .ready none)) * (pt D (.deferred (some [])) * F)) = pt l (.loop (rec .ready none)) * (pt D (.deferred (some [])) * (Pre * F)) := by
        rw [star_left_comm, star_left_comm Pre]
      rw [e]; exact hs1
    have hc := hfn2.calls gh F W1 hs2
    have hc' : CallsIn (fen none) (0 - 1) P gf (#[.func (.yield l) #[] #[]] ++ caps.toArray) W1 (fun e w' => ∃ o : Option ι, e = .returned (.tuple #[]) ∧ St gh w' (itPost (Post * L) (fun i => PS i * X i) o * F)) := by
      have e2 : (#[.func (.yield l) #[] #[]] ++ caps.toArray : Array Value) = (Value.func (.yield l) #[] #[] :: caps).toArray := by simp
      rw [e2]
      exact (callsIn_wide (n := 0 - 1)).2 hc
    refine hc'.mono ?_
    have fin : ∀ (K : HP) (st : LoopState) (jump : Option Code) (W3 : World), st ≠ .busy → St gh W3 (pt l (.loop (rec st jump)) * K) → ∃ W4, (Instr.endLoop l).run P W3 = .ok jump W4 ∧ St gh W4 K := fun K st jump W3 hst hs4 => by
      have hr := run_endLoop (P := P) hs4.get (by rw [hrec]; exact hst)
      obtain ⟨W4, hW4⟩ : ∃ W4, W3.putObj l (.loop { rec st jump with state := .exhausted }) = W4 := ⟨_, rfl⟩
      rw [hW4, show (rec st jump).pending = jump by rw [hrec]] at hr
      refine ⟨W4, hr, ?_⟩
      rw [← hW4]
      have : St gh (W3.putObj l (.loop { rec st jump with state := .exhausted })) (pt l (.loop { rec st jump with state := .exhausted }) * K) := by
        refine hs4.put rfl rfl ?_ ?_
        · simp [World.putObj, hs4.lt]
        · intro i hi; simp [World.putObj, Array.getElem?_setIfInBounds_ne (Ne.symm hi)]
      exact this.right
    rintro e W2 ⟨o, rfl, hst⟩
    cases o with
    | none =>
      have hst' : St gh W2 (pt l (.loop (rec .ready none)) * (Post * (pt D (.deferred (some [])) * F))) := by
        rw [star_left_comm]
        simp only [L, star_assoc, itPost] at hst
        exact hst
      obtain ⟨W4, h5, h6⟩ := fin _ _ _ _ (by simp) hst'
      exact ⟨none, W4, h5, ρ, _, ⟨hrep.1, hrep.2⟩, h6, hdone D⟩
    | some i =>
      simp only [X, itPost] at hst
      rw [star_assoc, star_left_comm, ex_star] at hst
      obtain ⟨e, hst⟩ := St.ex.1 hst
      rw [star_assoc] at hst
      obtain ⟨⟨hj, hjs⟩, hst⟩ := St.lift.1 hst
      have hst' : St gh W2 (pt l (.loop (rec .done (jumpOf e))) * (PS i * (S i e * (pt D (.deferred (some [])) * F)))) := by
        simp only [star_assoc] at hst
        refine hst.mono (Ent.of_eq ?_)
        ac_rfl
      obtain ⟨W4, h5, h6⟩ := fin _ _ _ _ (by simp) hst'
      refine ⟨jumpOf e, W4, h5, ?_⟩
      have hq : toQ n gh Q e { a with defers := mk D :: a.defers } W4 := ⟨ρ, _, ⟨hrep.1, hrep.2⟩, h6, hstop D i e hj⟩
      cases e with
      | normal => simp [jumpOf] at hjs
      | ret => exact wpIn_ret hq
      | exit id => exact wpIn_exit hq
      | goto t => exact wpIn_goto hq
      | panic ch => simp [jumpOf] at hjs
      | outgrown => simp [jumpOf] at hjs
end
end Go.Sl
namespace Go.Sl
open Go
set_option linter.unusedVariables false
universe u
variable {td td' : TypeDesc} {kk bb : Nat} {zc : List Value}
section
variable {P : Program} {r : Option Nat} {n : Nat} {Q : PostT} {ρ : Env} {ds : List Deferred} {H R A : HP} {all rest : List Oper} {d : Option Nat} {t t' t'' T e : TypeId} {pos : String} {aft : Array Edge} {v v2 u : Value} {x y z : Operand}
  {k k' : IntKind} {s m cap n2 b o : Nat} {i j c : Int} {cs cs2 : List Value} {ts : Array TypeId} {a : Option Addr}
theorem Pu.index_arr {len : Nat} [TT : TyU P T (.array len e)] [S : TyS P e 1 bb zc] [TA : TyA P e false] (hx : ev ρ x = some (.agg cs.toArray)) (hy : ev ρ y = some (.int k i)) (hi : 0 ≤ i ∧ i < len) (hc : cs[i.toNat]? = some v) :
    Pu P n ρ H (.index T x y) t v :=
  Pu.mk (by simp) (fun a' w hr => by simp [execOp, ev_eval hr hx, ev_eval hr hy, Instr.index, asIntOf, run_under, run_size, run_agg, hi.1, hi.2, part, hc])
theorem Evs.nil : Evs ρ [] [] := trivial
theorem Evs.cons {xs : List Operand} {vs : List Value} (hx : ev ρ x = some v) (h : Evs ρ xs vs) : Evs ρ (x :: xs) (v :: vs) := ⟨hx, h⟩
theorem Pu.bld1 {i0 : Nat} {x0 : Operand} {v0 : Value} {f : List Value → List Value} [B : TyB P T [i0] f] (h0 : ev ρ x0 = some v0) (hb : ∀ w, (Instr.build T #[(i0, v0)]).run P w = .ok (.agg (f [v0]).toArray) w) : Pu P n ρ H (.build T #[(i0, x0)]) t (.agg (f [v0]).toArray) :=
  Pu.build (ps := [(i0, x0)]) (vs := [v0]) ⟨h0, trivial⟩ hb
theorem Ow.bldS1 {i0 : Nat} {x0 : Operand} {v0 : Value} {f : List Value → List Value} [TT : TyU P T (.slice e)] [B : TyBS P T m e [i0] f] (hd : dOk n d = true) (h0 : ev ρ x0 = some v0) (hb : ∀ w, (Instr.buildSlice T m #[(i0, v0)]).run P w = .ok (.slice (some ⟨w.heap.size, 0, none⟩) m m) { w with heap := w.heap.push (.cells (f [v0]).toArray e (0, 0)) })
    (h : ∀ b, Ow P r n all rest Q (putE d (.slice (some ⟨b, 0, none⟩) m m) ρ) ds (cl b (f [v0]) * H)) : Ow P r n all (⟨d, .buildSlice T m #[(i0, x0)], t, pos, aft, none⟩ :: rest) Q ρ ds H :=
  Ow.buildSlice (e := e) (ps := [(i0, x0)]) (vs := [v0]) hd ⟨h0, trivial⟩ hb h
theorem Pu.bld2 {i0 i1 : Nat} {x0 x1 : Operand} {v0 v1 : Value} {f : List Value → List Value} [B : TyB P T [i0, i1] f] (h0 : ev ρ x0 = some v0) (h1 : ev ρ x1 = some v1) (hb : ∀ w, (Instr.build T #[(i0, v0), (i1, v1)]).run P w = .ok (.agg (f [v0, v1]).toArray) w) : Pu P n ρ H (.build T #[(i0, x0), (i1, x1)]) t (.agg (f [v0, v1]).toArray) :=
  Pu.build (ps := [(i0, x0), (i1, x1)]) (vs := [v0, v1]) ⟨h0, h1, trivial⟩ hb
theorem Ow.bldS2 {i0 i1 : Nat} {x0 x1 : Operand} {v0 v1 : Value} {f : List Value → List Value} [TT : TyU P T (.slice e)] [B : TyBS P T m e [i0, i1] f] (hd : dOk n d = true) (h0 : ev ρ x0 = some v0) (h1 : ev ρ x1 = some v1) (hb : ∀ w, (Instr.buildSlice T m #[(i0, v0), (i1, v1)]).run P w = .ok (.slice (some ⟨w.heap.size, 0, none⟩) m m) { w with heap := w.heap.push (.cells (f [v0, v1]).toArray e (0, 0)) })
    (h : ∀ b, Ow P r n all rest Q (putE d (.slice (some ⟨b, 0, none⟩) m m) ρ) ds (cl b (f [v0, v1]) * H)) : Ow P r n all (⟨d, .buildSlice T m #[(i0, x0), (i1, x1)], t, pos, aft, none⟩ :: rest) Q ρ ds H :=
  Ow.buildSlice (e := e) (ps := [(i0, x0), (i1, x1)]) (vs := [v0, v1]) hd ⟨h0, h1, trivial⟩ hb h
theorem Pu.bld3 {i0 i1 i2 : Nat} {x0 x1 x2 : Operand} {v0 v1 v2 : Value} {f : List Value → List Value} [B : TyB P T [i0, i1, i2] f] (h0 : ev ρ x0 = some v0) (h1 : ev ρ x1 = some v1) (h2 : ev ρ x2 = some v2) (hb : ∀ w, (Instr.build T #[(i0, v0), (i1, v1), (i2, v2)]).run P w = .ok (.agg (f [v0, v1, v2]).toArray) w) : Pu P n ρ H (.build T #[(i0, x0), (i1, x1), (i2, x2)]) t (.agg (f [v0, v1, v2]).toArray) :=
  Pu.build (ps := [(i0, x0), (i1, x1), (i2, x2)]) (vs := [v0, v1, v2]) ⟨h0, h1, h2, trivial⟩ hb
theorem Pu.bld6 {i0 i1 i2 i3 i4 i5 : Nat} {x0 x1 x2 x3 x4 x5 : Operand} {v0 v1 v2 v3 v4 v5 : Value} {f : List Value → List Value} [B : TyB P T [i0, i1, i2, i3, i4, i5] f] (h0 : ev ρ x0 = some v0) (h1 : ev ρ x1 = some v1) (h2 : ev ρ x2 = some v2) (h3 : ev ρ x3 = some v3) (h4 : ev ρ x4 = some v4) (h5 : ev ρ x5 = some v5) (hb : ∀ w, (Instr.build T #[(i0, v0), (i1, v1), (i2, v2), (i3, v3), (i4, v4), (i5, v5)]).run P w = .ok (.agg (f [v0, v1, v2, v3, v4, v5]).toArray) w) : Pu P n ρ H (.build T #[(i0, x0), (i1, x1), (i2, x2), (i3, x3), (i4, x4), (i5, x5)]) t (.agg (f [v0, v1, v2, v3, v4, v5]).toArray) :=
  Pu.build (ps := [(i0, x0), (i1, x1), (i2, x2), (i3, x3), (i4, x4), (i5, x5)]) (vs := [v0, v1, v2, v3, v4, v5]) ⟨h0, h1, h2, h3, h4, h5, trivial⟩ hb
/-! places whose number is a natural one -/
theorem Pu.idx_sln [TT : TyU P T (.slice e)] [S : TyS P e 1 bb zc] {j : Nat} (hx : ev ρ x = some v) (hy : ev ρ y = some (.int k (j : Int))) (hp : Pk H (slk 1 v cs) R) (hi : j < cs.length) :
    Pu P n ρ H (.indexAddr T x y) t (.pointer (some ((sbase v).add j))) := Pu.idx_sl (i := j) hx hy hp (by omega)
theorem Pu.idx_ron [TT : TyU P T (.slice e)] [S : TyS P e s bb zc] {j : Nat} (hr : Ro A a m s cs) (hx : ev ρ x = some (.slice a m cap)) (hy : ev ρ y = some (.int k (j : Int))) (hs0 : 0 < s) (hi : j < m) :
    Pu P n ρ H (.indexAddr T x y) t (.pointer (some ((adr a).add (j * s)))) := Pu.idx_ro (i := j) hr hx hy hs0 (by omega)
theorem Pu.makeFunc {fn : FuncId} {xs : List Operand} {vs : List Value} (hxs : Evs ρ xs vs) : Pu P n ρ H (.makeFunc (.func fn) #[] xs.toArray) t (.func (.func fn) #[] vs.toArray) :=
  Pu.mk (by simp) (fun a' w hr => by
    have hm : Array.map a'.eval xs.toArray = vs.toArray := by rw [← Evs.eval hr hxs]; simp
    simp [execOp, Instr.makeFunc, hm])
theorem rdQ_n {B : HP} {J : Exit → Prop} {S : Exit → HP} (h : Ent H B) : rdQ B J S .normal ρ ds H := .inl ⟨rfl, h⟩
theorem rdQ_j {B : HP} {J : Exit → Prop} {S : Exit → HP} {ex : Exit} (hj : J ex) (hs : (jumpOf ex).isSome = true) (h : Ent H (S ex)) : rdQ B J S ex ρ ds H := .inr ⟨hj, hs, h⟩
theorem retQ_m {fn : Func} {β : Type u} {val : β → Value} {post : β → HP} {F : HP} {ex : Exit} {D : Nat} {H' : HP} (he : ex = .normal ∨ ex = .ret) (hp : Pk H (pt D (.deferred (some []))) H') (w : β) (hres : Res P fn ρ (pt D (.deferred none) * H') (val w)) (hH : Ent H' (post w * F)) : retQ P fn val post F ex ρ [mk D] H :=
  ⟨he, D, H', rfl, Ent.of_eq hp, w, hres, Ent.trans (Ent.drop_left _ _) hH⟩
theorem retQ_mm {fn : Func} {β : Type u} {val : β → Value} {post : β → HP} {F : HP} {ex : Exit} {D D' : Nat} {H' H2 : HP} (he : ex = .normal ∨ ex = .ret) (hp : Pk H (pt D (.deferred (some []))) H') (hp2 : Pk H' (pt D' (.deferred (some []))) H2) (w : β)
    (hres : Res P fn ρ (pt D' (.deferred none) * (pt D (.deferred none) * H2)) (val w)) (hH : Ent H2 (post w * F)) : retQ P fn val post F ex ρ [mk D, mk D'] H := by
  unfold Pk at hp hp2
  refine ⟨he, D, H', rfl, Ent.of_eq hp, D', pt D (.deferred none) * H2, rfl, Ent.of_eq (by rw [hp2, star_left_comm]), w, hres, Ent.trans (Ent.drop_left _ _) (Ent.trans (Ent.drop_left _ _) hH)⟩
theorem Ow.yc2 {y : Value} {vs : List Value} {A1 A2 R1 F : HP} {post : Bool → HP} {xs : List Operand} (hy : Yc P y vs (A1 * A2) post) (hd : dOk n d = true) (hx : ev ρ x = some y) (hxs : Evs ρ xs vs) (hp : Pk H A1 R1) (hp2 : Pk R1 A2 F)
    (h : ∀ b, Ow P r n all rest Q (putE d (.bool b) ρ) ds (post b * F)) :
    Ow P r n all (⟨d, .call { callee := .value x, args := xs.toArray, argTypes := ts }, t, pos, aft, none⟩ :: rest) Q ρ ds H :=
  Ow.yc hy hd hx hxs (by unfold Pk at *; rw [hp, hp2, star_assoc]) h
end
end Go.Sl
namespace Go.Sl
open Go
set_option linter.unusedVariables false
universe u
variable {td td' : TypeDesc} {kk bb : Nat} {zc : List Value}
section
variable {P : Program} {r : Option Nat} {n : Nat} {Q : PostT} {ρ : Env} {ds : List Deferred} {H R A B X : HP} {all rest : List Oper} {d : Option Nat} {t t' t'' T e : TypeId} {pos : String} {aft : Array Edge} {v v2 u : Value} {x y z : Operand}
  {k k' : IntKind} {s m cap n2 b o : Nat} {i j a c : Int} {cs cs2 : List Value} {ts : Array TypeId} {tl : Bool} {jt : Nat} {ord : List (Nat × Bool)}
def Cr (P : Program) (r : Option Nat) (n : Nat) (c : Code) (Q : PostT) (m : Nat) (ρ : Env) (ds : List Deferred) (H : HP) : Prop :=
  ∀ g w a, Rep n ρ a → a.defers = ds → St g w H → Code.roundsIn (fen r) 0 P c (toQ n g Q) m a w
theorem Cw.rounds (m : Nat) {c : Code} (h : Cr P r n c Q m ρ ds H) : Cw P r n (.loop c) Q ρ ds H := fun g w a hr hd hs => wpIn_loop_rounds m (h g w a hr hd hs)
theorem Cr.step {m : Nat} {c : Code} (h : Cw P r n c (thenQ (Cr P r n c Q m) Q) ρ ds H) : Cr P r n c Q (m + 1) ρ ds H := by
  intro g w a hr hd hs
  rw [roundsIn_succ]
  refine wpIn_mono (h g w a hr hd hs) ?_
  rintro e a w ⟨ρ', H', h1, h2, h3⟩
  cases e with
  | normal => exact h3 g w a h1 rfl h2
  | exit id => exact ⟨ρ', H', h1, h2, h3⟩
  | goto l => exact ⟨ρ', H', h1, h2, h3⟩
  | ret => exact ⟨ρ', H', h1, h2, h3⟩
  | panic c => exact ⟨ρ', H', h1, h2, h3⟩
  | outgrown => exact ⟨ρ', H', h1, h2, h3⟩
theorem Ow.sp {op : Op} {p : Prop} {ip : Decidable p} (hd : dOk n d = true) (hpu : Pu P n ρ H op t (.bool (decide p)))
    (ht : p → Ow P r n all rest Q (putE d (.bool true) ρ) ds H) (hf : ¬ p → Ow P r n all rest Q (putE d (.bool false) ρ) ds H) : Ow P r n all (⟨d, op, t, pos, aft, none⟩ :: rest) Q ρ ds H := by
  refine Ow.pu hd hpu ?_
  by_cases hp : p
  · rw [decide_eq_true hp]; exact ht hp
  · rw [decide_eq_false hp]; exact hf hp
theorem Dw.sp {op : Op} {gd : Option (Nat × Bool)} {p : Prop} {ip : Decidable p} {i : Nat} (hi : all[i]? = some ⟨d, op, t, pos, aft, gd⟩) (hd : dOk n d = true) (hg : Gy all ρ gd)
    (hpu : Pu P n ρ B op t (.bool (decide p))) (ht : p → Dw P r n all B tl jt Q ds ord (putE d (.bool true) ρ) X) (hf : ¬ p → Dw P r n all B tl jt Q ds ord (putE d (.bool false) ρ) X) : Dw P r n all B tl jt Q ds ((i, false) :: ord) ρ X := by
  refine Dw.q hi hd hg hpu ?_
  by_cases hp : p
  · rw [decide_eq_true hp]; exact ht hp
  · rw [decide_eq_false hp]; exact hf hp
theorem Ow.callE {β : Type u} {val : β → Value} {post : β → HP} {f : FuncId} {xs : List Operand} {vs : List Value} {Pre F : HP}
    (hxs : Evs ρ xs vs) (hp : Pk H Pre F) (hd : dOk n d = true) (hf : Fn P f vs Pre β val post)
    (h : ∀ b, Ow P r n all rest Q (putE d (val b) ρ) ds (post b * F)) :
    Ow P r n all (⟨d, .call { callee := .value (.func f), args := xs.toArray, argTypes := ts }, t, pos, aft, none⟩ :: rest) Q ρ ds H := Ow.call hf hd hxs (.of_eq hp) h
theorem Ow.callE0 {β : Type u} {val : β → Value} {post : β → HP} {f : FuncId} {xs : List Operand} {vs : List Value}
    (hxs : Evs ρ xs vs) (hd : dOk n d = true) (hf : Fn P f vs emp β val post)
    (h : ∀ b, Ow P r n all rest Q (putE d (val b) ρ) ds (post b * H)) :
    Ow P r n all (⟨d, .call { callee := .value (.func f), args := xs.toArray, argTypes := ts }, t, pos, aft, none⟩ :: rest) Q ρ ds H := Ow.call hf hd hxs (.of_eq (emp_star H).symm) h
theorem retQ_v {fn : Func} {β : Type u} {val : β → Value} {post : β → HP} {F : HP} (w : β) {i : Nat} (h : fn.results = #[.tmp i]) (hi : lk ρ i = some v) (hv : v = val w) (hH : Ent H (post w * F)) : retQ P fn val post F .ret ρ [] H :=
  ⟨.inr rfl, w, hv ▸ res1 h hi, hH⟩
theorem retQ_v2 {fn : Func} {β : Type u} {val : β → Value} {post : β → HP} {F : HP} (w : β) {i j : Nat} (h : fn.results = #[.tmp i, .tmp j]) (hi : lk ρ i = some v) (hj : lk ρ j = some u) (hv : .tuple #[v, u] = val w) (hH : Ent H (post w * F)) : retQ P fn val post F .ret ρ [] H :=
  ⟨.inr rfl, w, hv ▸ res2 h hi hj, hH⟩
theorem retQ_v3 {fn : Func} {β : Type u} {val : β → Value} {post : β → HP} {F : HP} (w : β) {i j l : Nat} (h : fn.results = #[.tmp i, .tmp j, .tmp l]) (hi : lk ρ i = some v) (hj : lk ρ j = some u) (hl : lk ρ l = some v2) (hv : .tuple #[v, u, v2] = val w) (hH : Ent H (post w * F)) : retQ P fn val post F .ret ρ [] H :=
  ⟨.inr rfl, w, hv ▸ res3 h hi hj hl, hH⟩
theorem rescN {fn : Func} {i : Nat} [T : TyA P t true] [S : TyS P t kk bb zc] (h : fn.results = #[.cell i t]) {b o : Nat} {vs : List Value} (hi : lk ρ i = some (.pointer (some ⟨b, o, none⟩))) (hp : Pk H (cl b cs) R) (ho : (cs.drop o).take kk = vs) (hk : vs.length = kk) : Res P fn ρ H (.agg vs.toArray) := fun _ _ _ _ hrp hs => by
  have h1 := hrp.2 _ _ hi
  have hl := run_loadCells (P := P) (w := by assumption) (a := ⟨b, o, none⟩) (vs := vs) 0 #[] (fun j v hj => by
    rw [Nat.zero_add, addr_add]
    refine hs.cell hp (rd_cl ?_)
    rw [← ho, List.getElem?_take] at hj
    split at hj
    · simpa [List.getElem?_drop] using hj
    · cases hj)
  rw [hk] at hl
  simp [results, h, h1, asAddr, loadVar, run_agg, run_size, loadCells, hl]
theorem retQ_cN {fn : Func} {β : Type u} {val : β → Value} {post : β → HP} {F : HP} (w : β) {i : Nat} [T : TyA P t true] [S : TyS P t kk bb zc] (h : fn.results = #[.cell i t]) {b o : Nat} {vs : List Value} (hi : lk ρ i = some (.pointer (some ⟨b, o, none⟩))) (hp : Pk H (cl b cs) R) (ho : (cs.drop o).take kk = vs) (hk : vs.length = kk)
    (hv : .agg vs.toArray = val w) (hH : Ent H (post w * F)) : retQ P fn val post F .ret ρ [] H := ⟨.inr rfl, w, hv ▸ rescN h hi hp ho hk, hH⟩
theorem Ow.callvE {β : Type u} {val : β → Value} {post : β → HP} {f : FuncId} {xs : List Operand} {vs caps args : List Value} {Pre F : HP}
    (hx : ev ρ x = some (.func (.func f) #[] caps.toArray)) (hxs : Evs ρ xs vs) (ha : vs ++ caps = args) (hp : Pk H Pre F) (hd : dOk n d = true) (hf : Fn P f args Pre β val post)
    (h : ∀ b, Ow P r n all rest Q (putE d (val b) ρ) ds (post b * F)) :
    Ow P r n all (⟨d, .call { callee := .value x, args := xs.toArray, argTypes := ts }, t, pos, aft, none⟩ :: rest) Q ρ ds H := by subst ha; exact Ow.callv hf hd hx hxs (.of_eq hp) h
theorem Cw.drawL {id : Nat} (ord : List (Nat × Bool)) (hm : P.follows .mixedOrders = true) (hok : (tame all.toArray && ordOk all.toArray false 0 ord (Array.replicate all.length false) && (!false || (lastOk .any all.toArray 0 && Nat.blt 0 all.length)) && Nat.beq ord.length all.length) = true)
    (h : Dw P r n all H false 0 Q ds ord ρ emp) : Cw P r n (.region id all.toArray true) Q ρ ds H := Cw.drawQ ord hm hok h
theorem Cw.draw1 {id : Nat} (B : HP) (tl : Bool) (jt : Nat) (ord : List (Nat × Bool)) (hp : Pk H B X) (hm : P.follows .mixedOrders = true) (hok : (tame all.toArray && ordOk all.toArray tl jt ord (Array.replicate all.length false) && (!tl || (lastOk .any all.toArray jt && Nat.blt jt all.length)) && Nat.beq ord.length all.length) = true)
    (h : Dw P r n all B tl jt Q ds ord ρ X) : Cw P r n (.region id all.toArray true) Q ρ ds H := Cw.draw B X tl jt ord (.of_eq hp) hm hok h
theorem Cw.draw2 {id : Nat} {R1 : HP} (B1 B2 : HP) (tl : Bool) (jt : Nat) (ord : List (Nat × Bool)) (hp : Pk H B1 R1) (hp2 : Pk R1 B2 X) (hm : P.follows .mixedOrders = true) (hok : (tame all.toArray && ordOk all.toArray tl jt ord (Array.replicate all.length false) && (!tl || (lastOk .any all.toArray jt && Nat.blt jt all.length)) && Nat.beq ord.length all.length) = true)
    (h : Dw P r n all (B1 * B2) tl jt Q ds ord ρ X) : Cw P r n (.region id all.toArray true) Q ρ ds H := Cw.draw (B1 * B2) X tl jt ord (.of_eq (by unfold Pk at *; rw [hp, hp2, star_assoc])) hm hok h
theorem Cw.draw3 {id : Nat} {R1 R2 : HP} (B1 B2 B3 : HP) (tl : Bool) (jt : Nat) (ord : List (Nat × Bool)) (hp : Pk H B1 R1) (hp2 : Pk R1 B2 R2) (hp3 : Pk R2 B3 X) (hm : P.follows .mixedOrders = true) (hok : (tame all.toArray && ordOk all.toArray tl jt ord (Array.replicate all.length false) && (!tl || (lastOk .any all.toArray jt && Nat.blt jt all.length)) && Nat.beq ord.length all.length) = true)
    (h : Dw P r n all (B1 * (B2 * B3)) tl jt Q ds ord ρ X) : Cw P r n (.region id all.toArray true) Q ρ ds H := Cw.draw (B1 * (B2 * B3)) X tl jt ord (.of_eq (by unfold Pk at *; rw [hp, hp2, hp3, star_assoc, star_assoc])) hm hok h
theorem Dw.nil2 {B1 B2 : HP} (h : Q .normal ρ ds (B1 * (B2 * X))) (htl : tl = false) : Dw P r n all (B1 * B2) tl jt Q ds [] ρ X := Dw.nil (by rw [star_assoc]; exact h) htl
theorem Dw.nil3 {B1 B2 B3 : HP} (h : Q .normal ρ ds (B1 * (B2 * (B3 * X)))) (htl : tl = false) : Dw P r n all (B1 * (B2 * B3)) tl jt Q ds [] ρ X := Dw.nil (by rw [star_assoc, star_assoc]; exact h) htl
theorem Dw.lE {i : Nat} {op : Op} {gd : Option (Nat × Bool)} (hi : all[i]? = some ⟨d, op, t, pos, aft, gd⟩) (hg : Gy all ρ gd)
    (h : Ow P r n all [⟨d, op, t, pos, aft, none⟩] (loudQ P r n all B tl jt Q ds ord) ρ ds B) : Dw P r n all B tl jt Q ds ((i, true) :: ord) ρ emp := Dw.l hi hg (Ow.heq (star_emp B) h)
theorem loudQ.goE (e : H = B) (h : Dw P r n all B tl jt Q ds ord ρ emp) : loudQ P r n all B tl jt Q ds ord .normal ρ ds H := ⟨rfl, rfl, .inl ⟨emp, by rw [e, star_emp], h⟩⟩
def er : List Nat → Env → Env
  | _, [] => []
  | ks, (k, v) :: l => bif ks.elem k then er ks l else (k, v) :: er (k :: ks) l
theorem er_sub (ρ : Env) : ∀ (ks : List Nat) (l : Env), (∀ j, ks.elem j = false → lk ρ j = lk l j) → Sub ρ (er ks l)
  | ks, [], _ => trivial
  | ks, (k, v) :: l, h => by
    simp only [er]
    cases hk : ks.elem k with
    | true =>
      exact er_sub ρ ks l (fun j hj => by
        rw [h j hj]
        simp only [lk]
        have : Nat.beq k j = false := by
          cases e : Nat.beq k j with
          | false => rfl
          | true => have := Nat.eq_of_beq_eq_true e; subst this; rw [hk] at hj; cases hj
        rw [this]; rfl)
    | false =>
      refine ⟨?_, er_sub ρ (k :: ks) l (fun j hj => ?_)⟩
      · rw [h k hk]; simp only [lk]; rw [show Nat.beq k k = true from Nat.beq_refl k]; rfl
      · simp only [List.elem_cons] at hj
        have h1 : ks.elem j = false := by
          cases hjk : j == k with
          | true => rw [hjk] at hj; cases hj
          | false => rw [hjk] at hj; exact hj
        rw [h j h1]
        simp only [lk]
        have : Nat.beq k j = false := by
          cases e : Nat.beq k j with
          | false => rfl
          | true => have := Nat.eq_of_beq_eq_true e; subst this; simp at hj
        rw [this]; rfl
theorem Sub.append {ρ : Env} : ∀ {l m : Env}, Sub ρ l → Sub ρ m → Sub ρ (l ++ m)
  | [], _, _, h => h
  | (_, _) :: _, _, h, h' => ⟨h.1, h.2.append h'⟩
theorem er_nil {ks : List Nat} : er ks [] = [] := rfl
theorem er_keep {ks : List Nat} {k : Nat} {l l' : Env} (h : ks.elem k = false) (hl : er (k :: ks) l = l') : er ks ((k, v) :: l) = (k, v) :: l' := by
  simp only [er]; rw [h, hl]; rfl
theorem er_drop {ks : List Nat} {k : Nat} {l l' : Env} (h : ks.elem k = true) (hl : er ks l = l') : er ks ((k, v) :: l) = l' := by
  simp only [er]; rw [h, hl]; rfl
theorem Cw.loopF {σ : Type u} {c : Code} {ρ0 : Env} (ks : List Nat) (hN : er ks ρ = ρ0) (I : σ → Prop) (ρI : σ → Env) (HI : σ → HP) (μ : σ → Nat) (s₀ : σ) (hI : I s₀) (h0 : Sub ρ (ρI s₀)) (hH : Ent H (HI s₀))
    (round : ∀ s, I s → Cw P r n c (thenQ (fun ρ' ds' H' => ds' = ds ∧ ∃ s', I s' ∧ μ s' < μ s ∧ Sub ρ' (ρI s' ++ ρ0) ∧ Ent H' (HI s')) Q) (ρI s ++ ρ0) ds (HI s)) :
    Cw P r n (.loop c) Q ρ ds H := by
  subst hN
  exact Cw.loopI I (fun s => ρI s ++ er ks ρ) HI μ s₀ hI (h0.append (er_sub ρ ks ρ (fun _ _ => rfl))) hH round
theorem Cw.loopS {σ : Type u} {c : Code} {ρ0 : Env} (ks : List Nat) (hN : er ks ρ = ρ0) (I : σ → Prop) (ρI : σ → Env) (μ : σ → Nat) (s₀ : σ) (hI : I s₀) (h0 : Sub ρ (ρI s₀))
    (round : ∀ s, I s → Cw P r n c (thenQ (fun ρ' ds' H' => ds' = ds ∧ ∃ s', I s' ∧ μ s' < μ s ∧ Sub ρ' (ρI s' ++ ρ0) ∧ Ent H' H) Q) (ρI s ++ ρ0) ds H) :
    Cw P r n (.loop c) Q ρ ds H := Cw.loopF ks hN I ρI (fun _ => H) μ s₀ hI h0 (.refl _) round
theorem Pu.neB_same [T : TyU P t .bool] {p : Bool} (hx : ev ρ x = some (.bool p)) (hy : ev ρ y = some (.bool p)) : Pu P n ρ H (.binOp .neq t x y t') t'' (.bool false) := by
  have := Pu.neB (P := P) (n := n) (H := H) (t := t) (t' := t') (t'' := t'') hx hy
  rwa [show (!(p == p)) = false by cases p <;> rfl] at this
theorem Pu.eqB_same [T : TyU P t .bool] {p : Bool} (hx : ev ρ x = some (.bool p)) (hy : ev ρ y = some (.bool p)) : Pu P n ρ H (.binOp .eql t x y t') t'' (.bool true) := by
  have := Pu.eqB (P := P) (n := n) (H := H) (t := t) (t' := t') (t'' := t'') hx hy
  rwa [show (p == p) = true by cases p <;> rfl] at this
/-! strings -/
/-! which kind of goal, which kind of operation: the same again (for the walks' texts: a quick look) -/
theorem Ow.is {l : List Oper} (h : Ow P r n all l Q ρ ds H) : Ow P r n all l Q ρ ds H := h
theorem Cw.is {c : Code} (h : Cw P r n c Q ρ ds H) : Cw P r n c Q ρ ds H := h
theorem Dw.is (h : Dw P r n all B tl jt Q ds ord ρ X) : Dw P r n all B tl jt Q ds ord ρ X := h
theorem Ow.kLoad (h : Ow P r n all (⟨d, .load t x, t', pos, aft, none⟩ :: rest) Q ρ ds H) : Ow P r n all (⟨d, .load t x, t', pos, aft, none⟩ :: rest) Q ρ ds H := h
theorem Ow.kStore (h : Ow P r n all (⟨d, .store t x y, t', pos, aft, none⟩ :: rest) Q ρ ds H) : Ow P r n all (⟨d, .store t x y, t', pos, aft, none⟩ :: rest) Q ρ ds H := h
theorem Ow.kBin {op : BinOp} (h : Ow P r n all (⟨d, .binOp op t x y t', t'', pos, aft, none⟩ :: rest) Q ρ ds H) : Ow P r n all (⟨d, .binOp op t x y t', t'', pos, aft, none⟩ :: rest) Q ρ ds H := h
theorem Pu.kLoad (h : Pu P n ρ H (.load t x) t' v) : Pu P n ρ H (.load t x) t' v := h
theorem Pu.kIdx (h : Pu P n ρ H (.indexAddr T x y) t v) : Pu P n ρ H (.indexAddr T x y) t v := h
theorem Pu.kConv (h : Pu P n ρ H (.convert t t' x) t'' v) : Pu P n ρ H (.convert t t' x) t'' v := h
theorem Pu.kUn {op : UnOp} (h : Pu P n ρ H (.unOp op t x) t'' v) : Pu P n ρ H (.unOp op t x) t'' v := h
theorem Pu.kPick (h : Pu P n ρ H (.pick x y z) t v) : Pu P n ρ H (.pick x y z) t v := h
theorem Pu.kBuild {ps : Array (Nat × Operand)} (h : Pu P n ρ H (.build T ps) t v) : Pu P n ρ H (.build T ps) t v := h
theorem Pu.kBuiltin {bi : Builtin} {xs : Array Operand} (h : Pu P n ρ H (.call { callee := .builtin bi, args := xs, argTypes := ts }) t v) : Pu P n ρ H (.call { callee := .builtin bi, args := xs, argTypes := ts }) t v := h
theorem Pu.kBin {op : BinOp} (h : Pu P n ρ H (.binOp op t x y t') t'' v) : Pu P n ρ H (.binOp op t x y t') t'' v := h
theorem Pu.b_geq (h : Pu P n ρ H (.binOp .geq t x y t') t'' v) : Pu P n ρ H (.binOp .geq t x y t') t'' v := h
theorem Pu.b_eql (h : Pu P n ρ H (.binOp .eql t x y t') t'' v) : Pu P n ρ H (.binOp .eql t x y t') t'' v := h
theorem Pu.b_neq (h : Pu P n ρ H (.binOp .neq t x y t') t'' v) : Pu P n ρ H (.binOp .neq t x y t') t'' v := h
theorem Pu.b_add (h : Pu P n ρ H (.binOp .add t x y t') t'' v) : Pu P n ρ H (.binOp .add t x y t') t'' v := h
theorem Pu.b_sub (h : Pu P n ρ H (.binOp .sub t x y t') t'' v) : Pu P n ρ H (.binOp .sub t x y t') t'' v := h
theorem Pu.b_rem (h : Pu P n ρ H (.binOp .rem t x y t') t'' v) : Pu P n ρ H (.binOp .rem t x y t') t'' v := h
theorem Ent.is {B : HP} (h : Ent A B) : Ent A B := h
theorem loudQ.is (h : loudQ P r n all B tl jt Q ds ord .normal ρ ds H) : loudQ P r n all B tl jt Q ds ord .normal ρ ds H := h
theorem Ow.b_lss (h : Ow P r n all (⟨d, .binOp .lss t x y t', t'', pos, aft, none⟩ :: rest) Q ρ ds H) : Ow P r n all (⟨d, .binOp .lss t x y t', t'', pos, aft, none⟩ :: rest) Q ρ ds H := h
theorem Ow.b_gtr (h : Ow P r n all (⟨d, .binOp .gtr t x y t', t'', pos, aft, none⟩ :: rest) Q ρ ds H) : Ow P r n all (⟨d, .binOp .gtr t x y t', t'', pos, aft, none⟩ :: rest) Q ρ ds H := h
theorem Ow.b_geq (h : Ow P r n all (⟨d, .binOp .geq t x y t', t'', pos, aft, none⟩ :: rest) Q ρ ds H) : Ow P r n all (⟨d, .binOp .geq t x y t', t'', pos, aft, none⟩ :: rest) Q ρ ds H := h
theorem Ow.b_eql (h : Ow P r n all (⟨d, .binOp .eql t x y t', t'', pos, aft, none⟩ :: rest) Q ρ ds H) : Ow P r n all (⟨d, .binOp .eql t x y t', t'', pos, aft, none⟩ :: rest) Q ρ ds H := h
theorem Ow.b_neq (h : Ow P r n all (⟨d, .binOp .neq t x y t', t'', pos, aft, none⟩ :: rest) Q ρ ds H) : Ow P r n all (⟨d, .binOp .neq t x y t', t'', pos, aft, none⟩ :: rest) Q ρ ds H := h
theorem Ow.b_add (h : Ow P r n all (⟨d, .binOp .add t x y t', t'', pos, aft, none⟩ :: rest) Q ρ ds H) : Ow P r n all (⟨d, .binOp .add t x y t', t'', pos, aft, none⟩ :: rest) Q ρ ds H := h
theorem Ow.b_sub (h : Ow P r n all (⟨d, .binOp .sub t x y t', t'', pos, aft, none⟩ :: rest) Q ρ ds H) : Ow P r n all (⟨d, .binOp .sub t x y t', t'', pos, aft, none⟩ :: rest) Q ρ ds H := h
theorem Ow.b_mul (h : Ow P r n all (⟨d, .binOp .mul t x y t', t'', pos, aft, none⟩ :: rest) Q ρ ds H) : Ow P r n all (⟨d, .binOp .mul t x y t', t'', pos, aft, none⟩ :: rest) Q ρ ds H := h
theorem Ow.b_rem (h : Ow P r n all (⟨d, .binOp .rem t x y t', t'', pos, aft, none⟩ :: rest) Q ρ ds H) : Ow P r n all (⟨d, .binOp .rem t x y t', t'', pos, aft, none⟩ :: rest) Q ρ ds H := h
theorem Ow.b_and (h : Ow P r n all (⟨d, .binOp .and t x y t', t'', pos, aft, none⟩ :: rest) Q ρ ds H) : Ow P r n all (⟨d, .binOp .and t x y t', t'', pos, aft, none⟩ :: rest) Q ρ ds H := h
theorem Ow.b_shr (h : Ow P r n all (⟨d, .binOp .shr t x y t', t'', pos, aft, none⟩ :: rest) Q ρ ds H) : Ow P r n all (⟨d, .binOp .shr t x y t', t'', pos, aft, none⟩ :: rest) Q ρ ds H := h
theorem Ow.kGuard {op : Op} {q : Nat × Bool} (h : Ow P r n all (⟨d, op, t, pos, aft, some q⟩ :: rest) Q ρ ds H) : Ow P r n all (⟨d, op, t, pos, aft, some q⟩ :: rest) Q ρ ds H := h
theorem Ow.kCall {ce : Callee} {xs : Array Operand} (h : Ow P r n all (⟨d, .call { callee := ce, args := xs, argTypes := ts }, t, pos, aft, none⟩ :: rest) Q ρ ds H) : Ow P r n all (⟨d, .call { callee := ce, args := xs, argTypes := ts }, t, pos, aft, none⟩ :: rest) Q ρ ds H := h
theorem Ow.kBuiltin {bi : Builtin} {xs : Array Operand} (h : Ow P r n all (⟨d, .call { callee := .builtin bi, args := xs, argTypes := ts }, t, pos, aft, none⟩ :: rest) Q ρ ds H) : Ow P r n all (⟨d, .call { callee := .builtin bi, args := xs, argTypes := ts }, t, pos, aft, none⟩ :: rest) Q ρ ds H := h
theorem Ow.kBuild {ps : Array (Nat × Operand)} (h : Ow P r n all (⟨d, .build T ps, t, pos, aft, none⟩ :: rest) Q ρ ds H) : Ow P r n all (⟨d, .build T ps, t, pos, aft, none⟩ :: rest) Q ρ ds H := h
theorem Ow.kBuildS {ps : Array (Nat × Operand)} (h : Ow P r n all (⟨d, .buildSlice T m ps, t, pos, aft, none⟩ :: rest) Q ρ ds H) : Ow P r n all (⟨d, .buildSlice T m ps, t, pos, aft, none⟩ :: rest) Q ρ ds H := h
theorem Ow.kIdx (h : Ow P r n all (⟨d, .indexAddr T x y, t, pos, aft, none⟩ :: rest) Q ρ ds H) : Ow P r n all (⟨d, .indexAddr T x y, t, pos, aft, none⟩ :: rest) Q ρ ds H := h
theorem Ow.kConv (h : Ow P r n all (⟨d, .convert t t' x, t'', pos, aft, none⟩ :: rest) Q ρ ds H) : Ow P r n all (⟨d, .convert t t' x, t'', pos, aft, none⟩ :: rest) Q ρ ds H := h
theorem Ow.kUn {op : UnOp} (h : Ow P r n all (⟨d, .unOp op t x, t'', pos, aft, none⟩ :: rest) Q ρ ds H) : Ow P r n all (⟨d, .unOp op t x, t'', pos, aft, none⟩ :: rest) Q ρ ds H := h
theorem Ow.kPick (h : Ow P r n all (⟨d, .pick x y z, t, pos, aft, none⟩ :: rest) Q ρ ds H) : Ow P r n all (⟨d, .pick x y z, t, pos, aft, none⟩ :: rest) Q ρ ds H := h
/-! slices at a known place -/
theorem Pu.idx_b [TT : TyU P T (.slice e)] [S : TyS P e s bb zc] (hx : ev ρ x = some (.slice (some ⟨b, o, none⟩) m cap)) (hy : ev ρ y = some (.int k i)) (hi : 0 ≤ i ∧ i < m) :
    Pu P n ρ H (.indexAddr T x y) t (.pointer (some ⟨b, o + i.toNat * s, none⟩)) := by
  have := Pu.idx (P := P) (n := n) (H := H) (t := t) (T := T) hx hy hi
  rwa [addr_add] at this
theorem Pu.idxA_b {len : Nat} [TT : TyU P T (.array len e)] [S : TyS P e s bb zc] (hx : ev ρ x = some (.pointer (some ⟨b, o, none⟩))) (hy : ev ρ y = some (.int k i)) (hi : 0 ≤ i ∧ i < len) :
    Pu P n ρ H (.indexAddr T x y) t (.pointer (some ⟨b, o + i.toNat * s, none⟩)) := by
  have := Pu.idxA (P := P) (n := n) (H := H) (t := t) (T := T) hx hy hi
  rwa [addr_add] at this
def Tb (A : HP) (b o : Nat) (cs : List Value) : Prop := ∀ j u, cs[j]? = some u → RdA A ⟨b, o + j, none⟩ u
theorem Pu.loadN_tb [T : TyA P t true] [S : TyS P t kk bb zc] {k1 : Nat} {vs : List Value} (h : Tb A b o cs) (hp : Pk H A R) (hx : ev ρ x = some (.pointer (some ⟨b, o + k1, none⟩))) (ho : (cs.drop k1).take kk = vs) (hk : vs.length = kk) :
    Pu P n ρ H (.load t x) t' (.agg vs.toArray) :=
  Pu.loadN hx hp (fun j u hj => by
    rw [addr_add, Nat.add_assoc]
    refine h _ _ ?_
    rw [← ho, List.getElem?_take] at hj
    split at hj
    · simpa [List.getElem?_drop] using hj
    · cases hj) hk
theorem Cw.addnil {c : Code} (h : Cw P r n c Q ρ ds (slk 1 (.slice none 0 0) (([] : List Int).map vi) * H)) : Cw P r n c Q ρ ds H := Cw.ent (Ent.addnil 1 (Ent.refl _)) h
theorem Pu.shrN {a : Int} (s : Nat) (q : Int) (hx : ev ρ x = some (.int k a)) (hy : ev ρ y = some (.int k' (s : Int))) (hq : (2 : Int) ^ s = q) (hs : s ≤ k.bits) (ha : 0 ≤ a) :
    Pu P n ρ H (.binOp .shr t x y t') t'' (.int k (a / q)) := Pu.shr hx hy (by omega) (by rw [Int.toNat_natCast, Nat.min_eq_left hs, hq, Int.fdiv_eq_ediv_of_nonneg _ (by subst hq; exact Int.pow_nonneg (by decide))])
theorem Pu.andV {a c : Int} (hx : ev ρ x = some (.int k a)) (hy : ev ρ y = some (.int k c)) : Pu P n ρ H (.binOp .and t x y t') t'' (.int k (andI k a c)) := Pu.and hx hy rfl
end
theorem and_u8 (a : Int) (b : Nat) (hb : b < 256) : 0 ≤ andI .u8 a b ∧ andI .u8 a b ≤ b := by
  have h : ((BitVec.ofInt IntKind.u8.bits a &&& BitVec.ofInt IntKind.u8.bits (b : Int)).toNat : Int) ≤ b := by
    rw [BitVec.toNat_and]
    have h1 : (BitVec.ofInt IntKind.u8.bits (b : Int)).toNat ≤ b := by
      simp only [BitVec.toNat_ofInt, IntKind.bits]
      omega
    have := Nat.and_le_right (n := (BitVec.ofInt IntKind.u8.bits a).toNat) (m := (BitVec.ofInt IntKind.u8.bits (b : Int)).toNat)
    omega
  unfold andI
  rw [wrap_u8 (by omega)]
  omega
/-! put together out of more parts -/
section
variable {P : Program} {r : Option Nat} {n : Nat} {Q : PostT} {ρ : Env} {ds : List Deferred} {H R A B X : HP} {all rest : List Oper} {d : Option Nat} {t t' t'' T e : TypeId} {pos : String} {aft : Array Edge} {m : Nat}
theorem Pu.bld11 {i0 i1 i2 i3 i4 i5 i6 i7 i8 i9 i10 : Nat} {x0 x1 x2 x3 x4 x5 x6 x7 x8 x9 x10 : Operand} {v0 v1 v2 v3 v4 v5 v6 v7 v8 v9 v10 : Value} {f : List Value → List Value} [B : TyB P T [i0, i1, i2, i3, i4, i5, i6, i7, i8, i9, i10] f] (h0 : ev ρ x0 = some v0) (h1 : ev ρ x1 = some v1) (h2 : ev ρ x2 = some v2) (h3 : ev ρ x3 = some v3) (h4 : ev ρ x4 = some v4) (h5 : ev ρ x5 = some v5) (h6 : ev ρ x6 = some v6) (h7 : ev ρ x7 = some v7) (h8 : ev ρ x8 = some v8) (h9 : ev ρ x9 = some v9) (h10 : ev ρ x10 = some v10) (hb : ∀ w, (Instr.build T #[(i0, v0), (i1, v1), (i2, v2), (i3, v3), (i4, v4), (i5, v5), (i6, v6), (i7, v7), (i8, v8), (i9, v9), (i10, v10)]).run P w = .ok (.agg (f [v0, v1, v2, v3, v4, v5, v6, v7, v8, v9, v10]).toArray) w) : Pu P n ρ H (.build T #[(i0, x0), (i1, x1), (i2, x2), (i3, x3), (i4, x4), (i5, x5), (i6, x6), (i7, x7), (i8, x8), (i9, x9), (i10, x10)]) t (.agg (f [v0, v1, v2, v3, v4, v5, v6, v7, v8, v9, v10]).toArray) :=
  Pu.build (ps := [(i0, x0), (i1, x1), (i2, x2), (i3, x3), (i4, x4), (i5, x5), (i6, x6), (i7, x7), (i8, x8), (i9, x9), (i10, x10)]) (vs := [v0, v1, v2, v3, v4, v5, v6, v7, v8, v9, v10]) ⟨h0, h1, h2, h3, h4, h5, h6, h7, h8, h9, h10, trivial⟩ hb
end
end Go.Sl
namespace Go.Sl
open Go
theorem pkA {H A R : HP} (h : Pk H A R := by ((repeat first | exact pk0 | exact pkl | apply pkn); first | done | fail)) : Pk H A R := h
theorem evA {p : Prop} (h : p := by ((repeat first | exact trivial | refine ⟨rfl, ?_⟩); first | done | fail)) : p := h
theorem roA {p : Prop} (h : p := by first | rfl | omega) : p := h
theorem odA {p : Prop} (h : p := by first | omega | decide) : p := h
end Go.Sl

namespace Go.Sl
open Go Go.ChangeShapes Go.WideShapes Go.ChangeAt Go.RowKit
set_option linter.unusedVariables false
theorem law_laid {H : Type} {enc : TypeId × Value → H} {C : Checked} {os : Os} {f : FuncId} {fn : Func} {s : ChangeSpec} {apart fresh handsOn again : Bool} {conds : List PathCond} {laid : List (String × DataW Unit)} {tb : TypeId} {F : Stop.Interp}
    (own : ownKnob C.prog.godebug = none) (started : os.Started) (noInit : C.prog.inits.idxOf? f = none) (hfn : C.prog.funcs[f]? = some fn)
    (hl : laidOutB C.prog = true) (hrow : fn.params.toList.all (fun t => C.prog.readableRec t && decide (t < C.prog.types.size)) = true) (hres : fn.resultTypes = #[tb]) (hbool : C.prog.underlying tb = some .bool) (hv : s.vars = [])
    (hs : ∀ ds : List (DataW H), ds.length = fn.params.toList.length → s.fn H ds = { results := [.lit (.bool true)], args := ds })
    (witness : ∃ (w : World) (tape : Tape) (i : Input), w.os = os ∧ (w.forCall tape i).Shaped C.prog ∧ i.vars = [] ∧ Input.okWide C.prog (w.forCall tape i) .any w.heap.size f i ∧
      (OpenSpec.ofChange s).preRow enc C.prog fn conds apart laid (w.forCall tape i).memory i.args ∧ ({} : Assume).holds C.prog (lone (Frame.enter C.prog f i.args .normal) [] (w.forCall tape i)))
    (walk : ∀ (W : World) (base : Nat) (vs : List Value) (ds : List (DataW H)) (p : List MemPlace), laidMetH C.prog laid W → (DataW.weightsEach C.prog fn.params.toList ds).all (· ≤ reachBytes) = true → (∀ (j : Nat) t v, fn.params[j]? = some t → vs[j]? = some v → Value.okWide C.prog W .any base t v) →
      DataW.TrodAll enc C.prog W 0 (fun _ => true) true fn.params.toList vs ds p → ∃ (β : Type) (post : β → HP), Fn C.prog f vs (Sl.all W) β (fun _ => .bool true) post ∧ ∀ b, Ent (post b) (Sl.all W)) :
    ReturnsInHanded {} C os f .any ((OpenSpec.ofChange s).preRow enc C.prog fn conds apart laid) (((OpenSpec.ofChange s).at F).post enc C.prog fn apart fresh handsOn again) := by
  refine returnsInHanded_of_row (s := OpenSpec.ofChange s) own started noInit hfn witness ?_
  intro W base args ds gs before hval hW _ _ hsz hL _ _
  have hW' := hW
  obtain ⟨p, q, hA, hV, e, hfz, hn⟩ := hW
  rw [show (OpenSpec.ofChange s).vars = s.vars from rfl, hv] at hV
  obtain ⟨rfl, rfl⟩ := trodVars_none hV
  rw [show (OpenSpec.ofChange s).bare.plain.varTypes C.prog = [] by rw [show (OpenSpec.ofChange s).bare.plain.varTypes C.prog = s.vars.filterMap _ from rfl, hv]; rfl, List.append_nil, List.append_nil] at hsz
  obtain ⟨β, post, hf, hp⟩ := walk W base args.toList ds p hL hsz (fun j t v h1 h2 => hval j t v h1 (by simpa using h2)) hA
  have hc := hf.calls ⟨W.os, W.output⟩ emp W (by rw [star_emp]; exact St.all W)
  simp only [Array.toArray_toList] at hc
  refine hc.mono fun e' W' ⟨b, he, hst⟩ => ?_
  subst he
  have hst' := hst.mono (Ent.left (hp b))
  rw [star_comm] at hst'
  exact ⟨_, rfl, post_true hl hrow hres hbool hv (hs ds (trodAll_length hA).1) hW' hst'.1 hst'.2.1 hst'.all_same⟩
section
variable {H : Type} {enc : TypeId × Value → H} {P : Program} {W : World} {t e : TypeId} {v : Value} {d : DataW H} {p : List MemPlace}
theorem okWide_array {n : Nat} {r : Reach} {b0 : Nat} (ht : P.underlying t = some (.array n e)) (h : Value.okWide P W r b0 t v) : ∃ cs, v = .agg cs ∧ cs.size = P.cellsOf t := by
  simp only [Value.okWide, ht] at h
  obtain ⟨cs, h1, h2, _⟩ := h
  exact ⟨cs, h1, h2⟩
theorem open_agg (hag : (∃ fs, P.underlying t = some (.struct fs)) ∨ ∃ n e, P.underlying t = some (.array n e)) {b0 : Nat} (hv : Value.okWide P W .any b0 t v) (h : DataW.Trod enc P W 0 (fun _ => true) true t v d p) :
    ∃ (cs : List Value) (n : Nat), v = .agg cs.toArray ∧ DataW.trod enc P W 0 (fun _ => true) true n t cs = some (d, p) := by
  obtain ⟨fuel, hf⟩ := h
  have hv' : ∃ cs : Array Value, v = .agg cs := by
    rcases hag with ⟨fs, hu⟩ | ⟨n, e, hu⟩
    · obtain ⟨cs, h1, _⟩ := okWide_struct hu hv; exact ⟨cs, h1⟩
    · obtain ⟨cs, h1, _⟩ := okWide_array hu hv; exact ⟨cs, h1⟩
  obtain ⟨cs, rfl⟩ := hv'
  exact ⟨cs.toList, fuel, by simp, by simpa [Value.cells] using hf⟩
theorem wf_u8 {n : Int} (h : (Lit.int .u8 n).wf = true) : 0 ≤ n ∧ n ≤ 255 := by simpa [Lit.wf, IntKind.min, IntKind.max, IntKind.signed, IntKind.bits] using h
theorem laid_head {name : String} {dt : DataW Unit} {rest : List (String × DataW Unit)} {g : Nat} {t : TypeId} (hh : ((name, dt) :: rest).filter (fun x => x.2.handleName?.isSome) = [])
    (hg : P.globalNamed name = some g) (hty : (P.globals[g]?).map (·.type) = some t) (h : laidMetH P ((name, dt) :: rest) W) :
    ∃ (cs : Array Value) (fuel : Nat) (p : List MemPlace), DataW.trod (fun _ => ()) P W 0 (fun _ => true) false fuel t cs.toList = some (dt, p) ∧ ∀ i : Nat, W.cell? ⟨g, i, none⟩ = cs[i]? := by
  unfold laidMetH at h
  rw [hh] at h
  obtain ⟨ps, ⟨g', t', cs, fuel, p, q, hg', ht', hvar, hd, _, _⟩, _⟩ := h
  obtain rfl := Option.some.inj (hg.symm.trans hg')
  obtain rfl := Option.some.inj (hty.symm.trans ht')
  exact ⟨cs, fuel, p, hd, fun i => World.var?_cell hg hvar i⟩
end
end Go.Sl
namespace Go.Sl
open Go Go.Proofs
set_option linter.unusedVariables false
set_option linter.unusedSimpArgs false
attribute [local irreducible] Ow Cw Pk Pu Dw thenQ blockQ retQ loudQ Cr
def kindNames : List (List UInt8) := [[97, 108, 108, 111, 99], [108, 111, 97, 100], [115, 116, 111, 114, 101], [108, 111, 97, 100, 115], [115, 116, 111, 114, 101, 115], [109, 111, 118, 101], [99, 108, 101, 97, 114], [101, 113], [105, 115, 110, 105, 108], [112, 117, 115, 104], [112, 111, 112], [103, 101, 116, 103], [112, 117, 116, 103]]
def kindCells : List Value := [.string ⟨#[97, 108, 108, 111, 99]⟩, .bool true, .bool false, .bool false, .string ⟨#[108, 111, 97, 100]⟩, .bool true, .bool true, .bool false, .string ⟨#[115, 116, 111, 114, 101]⟩, .bool true, .bool false, .bool true,
  .string ⟨#[108, 111, 97, 100, 115]⟩, .bool true, .bool false, .bool false, .string ⟨#[115, 116, 111, 114, 101, 115]⟩, .bool true, .bool false, .bool false, .string ⟨#[109, 111, 118, 101]⟩, .bool true, .bool true, .bool false,
  .string ⟨#[99, 108, 101, 97, 114]⟩, .bool true, .bool false, .bool false, .string ⟨#[101, 113]⟩, .bool true, .bool true, .bool false, .string ⟨#[105, 115, 110, 105, 108]⟩, .bool true, .bool false, .bool false,
  .string ⟨#[112, 117, 115, 104]⟩, .bool true, .bool false, .bool false, .string ⟨#[112, 111, 112]⟩, .bool true, .bool false, .bool false, .string ⟨#[103, 101, 116, 103]⟩, .bool true, .bool false, .bool false, .string ⟨#[112, 117, 116, 103]⟩, .bool true, .bool false, .bool false]
structure Kinds (A : HP) (b o c : Nat) : Prop where
  g : RdA A ⟨0, 0, none⟩ (.slice (some ⟨b, o, none⟩) 13 c)
  t : Tb A b o kindCells
def nameR (n : Int) : ByteArray := if 0 ≤ n ∧ n < 13 then ⟨(kindNames[n.toNat]!).toArray⟩ else ⟨#[]⟩
theorem cases13 {n : Int} (h : 0 ≤ n ∧ n < 13) : n = 0 ∨ n = 1 ∨ n = 2 ∨ n = 3 ∨ n = 4 ∨ n = 5 ∨ n = 6 ∨ n = 7 ∨ n = 8 ∨ n = 9 ∨ n = 10 ∨ n = 11 ∨ n = 12 := by omega
variable {A : HP} {b o c : Nat}
theorem Known_t (hK : Kinds A b o c) (n : Int) (h : 0 ≤ n ∧ n < 13) : Fn Tryd.prog 26 [vi n] A Unit (fun _ => .bool true) (fun _ => A) := by
  obtain ⟨h0, h1⟩ := h
  (refine Fn.of Tryd.func26 rfl (by kernel_rfl) Tryd.ntmps26 rfl (fun F => ?_))
  (repeat' (first | (refine Ow.is ?_; (first | refine Ow.nil ?_ | refine Ow.pu rfl (Pu.move rfl) ?_ | refine Ow.pu rfl (Pu.assign rfl) ?_ | (refine Ow.kGuard ?_; (first | refine Ow.guard_yes rfl rfl rfl ?_)) | (refine Ow.kLoad ?_; (first | refine Ow.pu rfl (Pu.load rfl pkA hK.g) ?_)) | (refine Ow.kBin ?_; (first | (refine Ow.b_lss ?_; first | refine Ow.pu rfl (Pu.lt_t rfl rfl (by omega)) ?_ | refine Ow.pu rfl (Pu.lt_f rfl rfl (by omega)) ?_ | refine Ow.sp rfl (by exact Pu.lt rfl rfl) (fun hc => ?_) (fun hc => ?_)) | (refine Ow.b_geq ?_; first | refine Ow.pu rfl (Pu.ge_t rfl rfl (by omega)) ?_ | refine Ow.pu rfl (Pu.ge_f rfl rfl (by omega)) ?_ | refine Ow.sp rfl (by exact Pu.ge rfl rfl) (fun hc => ?_) (fun hc => ?_)))) | (refine Ow.kPick ?_; (first | refine Ow.pu rfl (Pu.pick_t rfl rfl) ?_)) | (refine Ow.kBuiltin ?_; (first | refine Ow.pu rfl (Pu.len rfl) ?_)))) | (refine Cw.is ?_; (first | refine Cw.seq ?_ | refine Cw.region ?_ | refine Cw.ret ?_)) | (first | refine thenQ_n ?_)))
  refine retQ_v () Tryd.results26 rfl rfl ?_; ((try simp only [star_assoc]); (repeat (apply Ent.pk; exact pkA)); first | exact Ent.fin pkA | exact Ent.refl _)
theorem Known_f (hK : Kinds A b o c) (n : Int) (h : ¬ (0 ≤ n ∧ n < 13)) : Fn Tryd.prog 26 [vi n] A Unit (fun _ => .bool false) (fun _ => A) := by
  (refine Fn.of Tryd.func26 rfl (by kernel_rfl) Tryd.ntmps26 rfl (fun F => ?_))
  (repeat' (first | (refine Ow.is ?_; (first | refine Ow.nil ?_ | refine Ow.pu rfl (Pu.move rfl) ?_ | refine Ow.pu rfl (Pu.assign rfl) ?_ | (refine Ow.kGuard ?_; (first | refine Ow.guard_yes rfl rfl rfl ?_ | refine Ow.guard_no rfl rfl rfl rfl ?_)) | (refine Ow.kLoad ?_; (first | refine Ow.pu rfl (Pu.load rfl pkA hK.g) ?_)) | (refine Ow.kBin ?_; (first | (refine Ow.b_lss ?_; first | refine Ow.pu rfl (Pu.lt_t rfl rfl (by omega)) ?_ | refine Ow.pu rfl (Pu.lt_f rfl rfl (by omega)) ?_ | refine Ow.sp rfl (by exact Pu.lt rfl rfl) (fun hc => ?_) (fun hc => ?_)) | (refine Ow.b_geq ?_; first | refine Ow.pu rfl (Pu.ge_t rfl rfl (by omega)) ?_ | refine Ow.pu rfl (Pu.ge_f rfl rfl (by omega)) ?_ | refine Ow.sp rfl (by exact Pu.ge rfl rfl) (fun hc => ?_) (fun hc => ?_)))) | (refine Ow.kPick ?_; (first | refine Ow.pu rfl (Pu.pick_t rfl rfl) ?_ | refine Ow.pu rfl (Pu.pick_f rfl rfl) ?_)) | (refine Ow.kBuiltin ?_; (first | refine Ow.pu rfl (Pu.len rfl) ?_)))) | (refine Cw.is ?_; (first | refine Cw.seq ?_ | refine Cw.region ?_ | refine Cw.ret ?_)) | (first | refine thenQ_n ?_)))
  all_goals (refine retQ_v () Tryd.results26 rfl rfl ?_; ((try simp only [star_assoc]); (repeat (apply Ent.pk; exact pkA)); first | exact Ent.fin pkA | exact Ent.refl _))
theorem Tells_fn (n : Int) : Fn Tryd.prog 43 [vi n] emp Unit (fun _ => .bool (decide (n = 0 ∨ n = 1 ∨ n = 10 ∨ n = 11))) (fun _ => emp) := by
  (refine Fn.of Tryd.func43 rfl (by kernel_rfl) Tryd.ntmps43 rfl (fun F => ?_))
  (repeat' (first | (refine Ow.is ?_; (first | refine Ow.nil ?_ | refine Ow.pu rfl (Pu.move rfl) ?_ | refine Ow.pu rfl (Pu.assign rfl) ?_ | (refine Ow.kBin ?_; (first | (refine Ow.b_eql ?_; (first | refine Ow.sp rfl (by exact Pu.eqI rfl rfl) (fun hc => ?_) (fun hc => ?_))))))) | (refine Cw.is ?_; (first | refine Cw.seq ?_ | refine Cw.region ?_ | refine Cw.cond_t rfl rfl ?_ | refine Cw.cond_f rfl rfl ?_ | refine Cw.block ?_ | refine Cw.ret ?_ | refine Cw.skip ?_)) | (first | refine thenQ_n ?_ | refine thenQ_r ?_ | refine blockQ_n ?_ | refine blockQ_r ?_)))
  all_goals (refine retQ_v () Tryd.results43 rfl ?_ ?_)
  all_goals first | (simp only [Value.bool.injEq]; first | (exact (decide_eq_true (by omega)).symm) | (exact (decide_eq_false (by omega)).symm)) | ((try simp only [star_assoc]); (repeat (apply Ent.pk; exact pkA)); first | exact Ent.fin pkA | exact Ent.refl _)
/-! registers -/
abbrev itv (k t n x y z : Int) : Value := .agg #[vi k, vi t, vi n, vi x, vi y, vi z]
def regsR (n x y z : Int) : List Int := if 0 ≤ n ∧ n < 13 then (if n = 1 ∨ n = 5 ∨ n = 7 then [x, y] else if n = 2 then [x, z] else [x]) else []
set_option maxHeartbeats 4000000 in
theorem Regs_fn (hK : Kinds A b o c) (k t n x y z : Int) (l : List Int) (hl : regsR n x y z = l) : Fn Tryd.prog 58 [itv k t n x y z] A SV (fun v => v.v) (fun v => slk 1 v.v (l.map vi) * A) := by
  subst hl
  by_cases h : 0 ≤ n ∧ n < 13
  · rcases cases13 h with rfl | rfl | rfl | rfl | rfl | rfl | rfl | rfl | rfl | rfl | rfl | rfl | rfl
    all_goals ((refine Fn.of Tryd.func58 rfl (by kernel_rfl) Tryd.ntmps58 rfl (fun F => ?_)); (repeat' (first | (refine Ow.is ?_; (first | refine Ow.nil ?_ | refine Ow.pu rfl (Pu.move rfl) ?_ | refine Ow.pu rfl (Pu.assign rfl) ?_ | refine Ow.pu rfl (Pu.fld rfl) ?_ | (refine Ow.kLoad ?_; (first | refine Ow.pu rfl (Pu.loadN_tb hK.t pkA rfl rfl rfl) ?_ | refine Ow.pu rfl (Pu.load rfl pkA hK.g) ?_ | refine Ow.pu rfl (Pu.load_cl rfl pkA rfl) ?_)) | (refine Ow.kBin ?_; (first | (refine Ow.b_lss ?_; first | refine Ow.pu rfl (Pu.lt_t rfl rfl (by omega)) ?_ | refine Ow.pu rfl (Pu.lt_f rfl rfl (by omega)) ?_ | refine Ow.sp rfl (by exact Pu.lt rfl rfl) (fun hc => ?_) (fun hc => ?_)) | (refine Ow.b_add ?_; refine Ow.pu rfl (Pu.add_i rfl rfl (by omega)) ?_))) | (refine Ow.kUn ?_; (first | refine Ow.pu rfl (Pu.not rfl) ?_)) | (refine Ow.kStore ?_; (first | refine Ow.storeN rfl rfl rfl rfl rfl pkA rfl ?_)) | (refine Ow.kIdx ?_; (first | refine Ow.pu rfl (Pu.idx_b rfl rfl (by omega)) ?_)) | (refine Ow.kBuiltin ?_; (first | refine Ow.append_sli rfl rfl rfl pkA ((rdSl_cli (l2 := [_]) rfl).of_pk pkA) (by first | (simp; done) | (simp; omega)) (fun sv => ?_))) | (refine Ow.kBuild ?_; (first | refine Ow.pu rfl (Pu.bld3 rfl rfl rfl (fun w => by kernel_rfl)) ?_)) | (refine Ow.kBuildS ?_; (first | refine Ow.bldS1 rfl rfl (fun w => by kernel_rfl) (fun bx => ?_))) | refine Ow.alloc rfl (fun bx => ?_) | refine Ow.box rfl rfl rfl (fun bx => ?_) | refine Ow.pu rfl (Pu.index_arr rfl rfl (by omega) (by first | rfl | assumption)) ?_)) | (refine Cw.is ?_; (first | refine Cw.seq ?_ | refine Cw.region ?_ | refine Cw.cond_t rfl rfl ?_ | refine Cw.cond_f rfl rfl ?_ | refine Cw.block ?_ | refine Cw.ret ?_ | refine Cw.exit ?_ | refine Cw.skip ?_)) | (first | refine thenQ_n ?_ | refine thenQ_r ?_ | refine thenQ_e ?_ | refine blockQ_n ?_ | refine blockQ_e ?_ | refine Cr.step ?_))); refine Ow.callE evA pkA rfl (Known_t hK _ (by omega)) (fun _ => ?_); (repeat' (first | (refine Ow.is ?_; (first | refine Ow.nil ?_ | refine Ow.pu rfl (Pu.move rfl) ?_ | refine Ow.pu rfl (Pu.assign rfl) ?_ | refine Ow.pu rfl (Pu.fld rfl) ?_ | (refine Ow.kLoad ?_; (first | refine Ow.pu rfl (Pu.loadN_tb hK.t pkA rfl rfl rfl) ?_ | refine Ow.pu rfl (Pu.load rfl pkA hK.g) ?_ | refine Ow.pu rfl (Pu.load_cl rfl pkA rfl) ?_)) | (refine Ow.kBin ?_; (first | (refine Ow.b_lss ?_; first | refine Ow.pu rfl (Pu.lt_t rfl rfl (by omega)) ?_ | refine Ow.pu rfl (Pu.lt_f rfl rfl (by omega)) ?_ | refine Ow.sp rfl (by exact Pu.lt rfl rfl) (fun hc => ?_) (fun hc => ?_)) | (refine Ow.b_add ?_; refine Ow.pu rfl (Pu.add_i rfl rfl (by omega)) ?_))) | (refine Ow.kUn ?_; (first | refine Ow.pu rfl (Pu.not rfl) ?_)) | (refine Ow.kStore ?_; (first | refine Ow.storeN rfl rfl rfl rfl rfl pkA rfl ?_)) | (refine Ow.kIdx ?_; (first | refine Ow.pu rfl (Pu.idx_b rfl rfl (by omega)) ?_)) | (refine Ow.kBuiltin ?_; (first | refine Ow.append_sli rfl rfl rfl pkA ((rdSl_cli (l2 := [_]) rfl).of_pk pkA) (by first | (simp; done) | (simp; omega)) (fun sv => ?_))) | (refine Ow.kBuild ?_; (first | refine Ow.pu rfl (Pu.bld3 rfl rfl rfl (fun w => by kernel_rfl)) ?_)) | (refine Ow.kBuildS ?_; (first | refine Ow.bldS1 rfl rfl (fun w => by kernel_rfl) (fun bx => ?_))) | refine Ow.alloc rfl (fun bx => ?_) | refine Ow.box rfl rfl rfl (fun bx => ?_) | refine Ow.pu rfl (Pu.index_arr rfl rfl (by omega) (by first | rfl | assumption)) ?_)) | (refine Cw.is ?_; (first | refine Cw.seq ?_ | refine Cw.region ?_ | refine Cw.cond_t rfl rfl ?_ | refine Cw.cond_f rfl rfl ?_ | refine Cw.block ?_ | refine Cw.ret ?_ | refine Cw.exit ?_ | refine Cw.skip ?_)) | (first | refine thenQ_n ?_ | refine thenQ_r ?_ | refine thenQ_e ?_ | refine blockQ_n ?_ | refine blockQ_e ?_ | refine Cr.step ?_))); refine Cw.addnil ?_; refine Cw.rounds 4 ?_; (repeat' (first | (refine Ow.is ?_; (first | refine Ow.nil ?_ | refine Ow.pu rfl (Pu.move rfl) ?_ | refine Ow.pu rfl (Pu.assign rfl) ?_ | refine Ow.pu rfl (Pu.fld rfl) ?_ | (refine Ow.kLoad ?_; (first | refine Ow.pu rfl (Pu.loadN_tb hK.t pkA rfl rfl rfl) ?_ | refine Ow.pu rfl (Pu.load rfl pkA hK.g) ?_ | refine Ow.pu rfl (Pu.load_cl rfl pkA rfl) ?_)) | (refine Ow.kBin ?_; (first | (refine Ow.b_lss ?_; first | refine Ow.pu rfl (Pu.lt_t rfl rfl (by omega)) ?_ | refine Ow.pu rfl (Pu.lt_f rfl rfl (by omega)) ?_ | refine Ow.sp rfl (by exact Pu.lt rfl rfl) (fun hc => ?_) (fun hc => ?_)) | (refine Ow.b_add ?_; refine Ow.pu rfl (Pu.add_i rfl rfl (by omega)) ?_))) | (refine Ow.kUn ?_; (first | refine Ow.pu rfl (Pu.not rfl) ?_)) | (refine Ow.kStore ?_; (first | refine Ow.storeN rfl rfl rfl rfl rfl pkA rfl ?_)) | (refine Ow.kIdx ?_; (first | refine Ow.pu rfl (Pu.idx_b rfl rfl (by omega)) ?_)) | (refine Ow.kBuiltin ?_; (first | refine Ow.append_sli rfl rfl rfl pkA ((rdSl_cli (l2 := [_]) rfl).of_pk pkA) (by first | (simp; done) | (simp; omega)) (fun sv => ?_))) | (refine Ow.kBuild ?_; (first | refine Ow.pu rfl (Pu.bld3 rfl rfl rfl (fun w => by kernel_rfl)) ?_)) | (refine Ow.kBuildS ?_; (first | refine Ow.bldS1 rfl rfl (fun w => by kernel_rfl) (fun bx => ?_))) | refine Ow.alloc rfl (fun bx => ?_) | refine Ow.box rfl rfl rfl (fun bx => ?_) | refine Ow.pu rfl (Pu.index_arr rfl rfl (by omega) (by first | rfl | assumption)) ?_)) | (refine Cw.is ?_; (first | refine Cw.seq ?_ | refine Cw.region ?_ | refine Cw.cond_t rfl rfl ?_ | refine Cw.cond_f rfl rfl ?_ | refine Cw.block ?_ | refine Cw.ret ?_ | refine Cw.exit ?_ | refine Cw.skip ?_)) | (first | refine thenQ_n ?_ | refine thenQ_r ?_ | refine thenQ_e ?_ | refine blockQ_n ?_ | refine blockQ_e ?_ | refine Cr.step ?_))); refine retQ_v sv Tryd.results58 rfl rfl ?_; ((try simp only [star_assoc]); (repeat (apply Ent.pk; exact pkA)); first | exact Ent.fin pkA | exact Ent.refl _))
  · have : regsR n x y z = [] := if_neg h
    rw [this]
    (refine Fn.of Tryd.func58 rfl (by kernel_rfl) Tryd.ntmps58 rfl (fun F => ?_))
    (repeat' (first | (refine Ow.is ?_; (first | refine Ow.nil ?_ | refine Ow.pu rfl (Pu.move rfl) ?_ | refine Ow.pu rfl (Pu.assign rfl) ?_ | refine Ow.pu rfl (Pu.fld rfl) ?_ | (refine Ow.kLoad ?_; (first | refine Ow.pu rfl (Pu.loadN_tb hK.t pkA rfl rfl rfl) ?_ | refine Ow.pu rfl (Pu.load rfl pkA hK.g) ?_ | refine Ow.pu rfl (Pu.load_cl rfl pkA rfl) ?_)) | (refine Ow.kBin ?_; (first | (refine Ow.b_lss ?_; first | refine Ow.pu rfl (Pu.lt_t rfl rfl (by omega)) ?_ | refine Ow.pu rfl (Pu.lt_f rfl rfl (by omega)) ?_ | refine Ow.sp rfl (by exact Pu.lt rfl rfl) (fun hc => ?_) (fun hc => ?_)) | (refine Ow.b_add ?_; refine Ow.pu rfl (Pu.add_i rfl rfl (by omega)) ?_))) | (refine Ow.kUn ?_; (first | refine Ow.pu rfl (Pu.not rfl) ?_)) | (refine Ow.kStore ?_; (first | refine Ow.storeN rfl rfl rfl rfl rfl pkA rfl ?_)) | (refine Ow.kIdx ?_; (first | refine Ow.pu rfl (Pu.idx_b rfl rfl (by omega)) ?_)) | (refine Ow.kBuiltin ?_; (first | refine Ow.append_sli rfl rfl rfl pkA ((rdSl_cli (l2 := [_]) rfl).of_pk pkA) (by first | (simp; done) | (simp; omega)) (fun sv => ?_))) | (refine Ow.kBuild ?_; (first | refine Ow.pu rfl (Pu.bld3 rfl rfl rfl (fun w => by kernel_rfl)) ?_)) | (refine Ow.kBuildS ?_; (first | refine Ow.bldS1 rfl rfl (fun w => by kernel_rfl) (fun bx => ?_))) | refine Ow.alloc rfl (fun bx => ?_) | refine Ow.box rfl rfl rfl (fun bx => ?_) | refine Ow.pu rfl (Pu.index_arr rfl rfl (by omega) (by first | rfl | assumption)) ?_)) | (refine Cw.is ?_; (first | refine Cw.seq ?_ | refine Cw.region ?_ | refine Cw.cond_t rfl rfl ?_ | refine Cw.cond_f rfl rfl ?_ | refine Cw.block ?_ | refine Cw.ret ?_ | refine Cw.exit ?_ | refine Cw.skip ?_)) | (first | refine thenQ_n ?_ | refine thenQ_r ?_ | refine thenQ_e ?_ | refine blockQ_n ?_ | refine blockQ_e ?_ | refine Cr.step ?_)))
    refine Ow.callE evA pkA rfl (Known_f hK _ h) (fun _ => ?_)
    (repeat' (first | (refine Ow.is ?_; (first | refine Ow.nil ?_ | refine Ow.pu rfl (Pu.move rfl) ?_ | refine Ow.pu rfl (Pu.assign rfl) ?_ | refine Ow.pu rfl (Pu.fld rfl) ?_ | (refine Ow.kLoad ?_; (first | refine Ow.pu rfl (Pu.loadN_tb hK.t pkA rfl rfl rfl) ?_ | refine Ow.pu rfl (Pu.load rfl pkA hK.g) ?_ | refine Ow.pu rfl (Pu.load_cl rfl pkA rfl) ?_)) | (refine Ow.kBin ?_; (first | (refine Ow.b_lss ?_; first | refine Ow.pu rfl (Pu.lt_t rfl rfl (by omega)) ?_ | refine Ow.pu rfl (Pu.lt_f rfl rfl (by omega)) ?_ | refine Ow.sp rfl (by exact Pu.lt rfl rfl) (fun hc => ?_) (fun hc => ?_)) | (refine Ow.b_add ?_; refine Ow.pu rfl (Pu.add_i rfl rfl (by omega)) ?_))) | (refine Ow.kUn ?_; (first | refine Ow.pu rfl (Pu.not rfl) ?_)) | (refine Ow.kStore ?_; (first | refine Ow.storeN rfl rfl rfl rfl rfl pkA rfl ?_)) | (refine Ow.kIdx ?_; (first | refine Ow.pu rfl (Pu.idx_b rfl rfl (by omega)) ?_)) | (refine Ow.kBuiltin ?_; (first | refine Ow.append_sli rfl rfl rfl pkA ((rdSl_cli (l2 := [_]) rfl).of_pk pkA) (by first | (simp; done) | (simp; omega)) (fun sv => ?_))) | (refine Ow.kBuild ?_; (first | refine Ow.pu rfl (Pu.bld3 rfl rfl rfl (fun w => by kernel_rfl)) ?_)) | (refine Ow.kBuildS ?_; (first | refine Ow.bldS1 rfl rfl (fun w => by kernel_rfl) (fun bx => ?_))) | refine Ow.alloc rfl (fun bx => ?_) | refine Ow.box rfl rfl rfl (fun bx => ?_) | refine Ow.pu rfl (Pu.index_arr rfl rfl (by omega) (by first | rfl | assumption)) ?_)) | (refine Cw.is ?_; (first | refine Cw.seq ?_ | refine Cw.region ?_ | refine Cw.cond_t rfl rfl ?_ | refine Cw.cond_f rfl rfl ?_ | refine Cw.block ?_ | refine Cw.ret ?_ | refine Cw.exit ?_ | refine Cw.skip ?_)) | (first | refine thenQ_n ?_ | refine thenQ_r ?_ | refine thenQ_e ?_ | refine blockQ_n ?_ | refine blockQ_e ?_ | refine Cr.step ?_)))
    refine retQ_v ⟨none, 0, 0⟩ Tryd.results58 rfl rfl ?_
    refine Ent.addnil 1 ?_
    ((try simp only [star_assoc]); (repeat (apply Ent.pk; exact pkA)); first | exact Ent.fin pkA | exact Ent.refl _)
end Go.Sl
namespace Go.Sl
open Go Go.Proofs
set_option linter.unusedVariables false
set_option linter.unusedSimpArgs false
attribute [local irreducible] Ow Cw Pk Pu Dw thenQ blockQ retQ loudQ Cr
variable {A : HP} {b o c : Nat}
def codeR (s : List UInt8) : Nat × Bool := match kindNames.findIdx? (fun x => decide (x = s)) with | some i => (i, true) | none => (0, false)
def kb (k : Nat) : Bool := decide (k = 1 ∨ k = 5 ∨ k = 7)
def kc (k : Nat) : Bool := decide (k = 2)
/-! configurations, and checks -/
structure Cfg where
  engine : Int
  black : Bool
  pages : Int
  threads : Int
  regs : Int
  stack : Int
  globals : Int
  fields : Int
  mark : Int
  log : Int
  budget : Int
abbrev Cfg.cs (c : Cfg) : List Value := [vi c.engine, .bool c.black, vi c.pages, vi c.threads, vi c.regs, vi c.stack, vi c.globals, vi c.fields, vi c.mark, vi c.log, vi c.budget]
abbrev Cfg.v (c : Cfg) : Value := .agg c.cs.toArray
def bad1 (regs r : Int) : Bool := decide (r < 0 ∨ regs ≤ r)
def checkR (q : Cfg) (n x y z : Int) : Int := if ¬ (0 ≤ n ∧ n < 13) then 1 else if (regsR n x y z).any (bad1 q.regs) then 4 else if n = 11 ∨ n = 12 then (if y < 0 ∨ q.globals ≤ y then 5 else 0) else if n = 0 then (if y < 0 then 6 else if q.fields < y then 7 else 0) else 0
theorem regsR_len (n x y z : Int) : (regsR n x y z).length ≤ 2 := by
  unfold regsR
  repeat' split
  all_goals simp
set_option maxHeartbeats 8000000 in
theorem Check_fn (hK : Kinds A b o c) (q : Cfg) (k t n x y z : Int) : Fn Tryd.prog 42 [q.v, itv k t n x y z] A Unit (fun _ => vi (checkR q n x y z)) (fun _ => A) := by
  (refine Fn.of Tryd.func42 rfl (by kernel_rfl) Tryd.ntmps42 rfl (fun F => ?_))
  by_cases hn : 0 ≤ n ∧ n < 13
  · rw [checkR, if_neg (by simpa using hn)]
    obtain ⟨hn0, hn1⟩ := hn
    (repeat' (first | (refine Ow.is ?_; (first | refine Ow.nil ?_ | refine Ow.pu rfl (Pu.move rfl) ?_ | refine Ow.pu rfl (Pu.assign rfl) ?_ | refine Ow.pu rfl (Pu.fld rfl) ?_ | (refine Ow.kGuard ?_; (first | refine Ow.guard_yes rfl rfl rfl ?_ | refine Ow.guard_no rfl rfl rfl rfl ?_)) | (refine Ow.kLoad ?_; (first | refine Ow.pu rfl (Pu.load_cl rfl pkA rfl) ?_ | refine Ow.pu rfl (Pu.loadN_cl rfl pkA rfl rfl) ?_ | refine Ow.pu rfl (Pu.load_sli rfl pkA (by first | omega | (simp only [List.length_set, List.length_append, List.length_replicate, List.length_cons, List.length_nil]; omega))) ?_)) | (refine Ow.kBin ?_; (first | (refine Ow.b_lss ?_; first | refine Ow.pu rfl (Pu.lt_t rfl rfl (by omega)) ?_ | refine Ow.pu rfl (Pu.lt_f rfl rfl (by omega)) ?_ | refine Ow.sp rfl (by exact Pu.lt rfl rfl) (fun hc => ?_) (fun hc => ?_)) | (refine Ow.b_gtr ?_; first | refine Ow.pu rfl (Pu.gt_t rfl rfl (by omega)) ?_ | refine Ow.pu rfl (Pu.gt_f rfl rfl (by omega)) ?_ | refine Ow.sp rfl (by exact Pu.gt rfl rfl) (fun hc => ?_) (fun hc => ?_)) | (refine Ow.b_geq ?_; first | refine Ow.pu rfl (Pu.ge_t rfl rfl (by omega)) ?_ | refine Ow.pu rfl (Pu.ge_f rfl rfl (by omega)) ?_ | refine Ow.sp rfl (by exact Pu.ge rfl rfl) (fun hc => ?_) (fun hc => ?_)) | (refine Ow.b_eql ?_; (first | refine Ow.sp rfl (by exact Pu.eqI rfl rfl) (fun hc => ?_) (fun hc => ?_))) | (refine Ow.b_add ?_; refine Ow.pu rfl (Pu.add_i rfl rfl (by omega)) ?_))) | (refine Ow.kPick ?_; (first | refine Ow.pu rfl (Pu.pick_t rfl rfl) ?_ | refine Ow.pu rfl (Pu.pick_f rfl rfl) ?_)) | (refine Ow.kUn ?_; (first | refine Ow.pu rfl (Pu.not rfl) ?_)) | (refine Ow.kIdx ?_; (first | refine Ow.pu rfl (Pu.idx_sln rfl rfl pkA (by simp only [List.length_map, List.length_append, List.length_set, List.length_replicate, List.length_cons, List.length_nil]; omega)) ?_)) | (refine Ow.kBuiltin ?_; (first | refine Ow.pu rfl (Pu.len_slm rfl pkA) ?_)) | (refine Ow.kCall ?_; (first | refine Ow.callE evA pkA rfl (Known_f hK _ (by omega)) (fun _ => ?_) | refine Ow.callE evA pkA rfl (Known_t hK _ (by omega)) (fun _ => ?_) | fail)) | refine Ow.box rfl rfl rfl (fun bx => ?_))) | (refine Cw.is ?_; (first | refine Cw.seq ?_ | refine Cw.region ?_ | refine Cw.cond_t rfl rfl ?_ | refine Cw.cond_f rfl rfl ?_ | refine Cw.block ?_ | refine Cw.ret ?_ | refine Cw.exit ?_ | refine Cw.skip ?_)) | (first | refine thenQ_n ?_ | refine thenQ_r ?_ | refine thenQ_e ?_ | refine blockQ_n ?_ | refine blockQ_r ?_ | refine blockQ_e ?_)))
    refine Ow.callE evA pkA rfl (Regs_fn hK _ _ _ _ _ _ _ rfl) (fun sv => Ow.assoc ?_)
    have hlen := regsR_len n x y z
    generalize hl : regsR n x y z = l at hlen
    (repeat' (first | (refine Ow.is ?_; (first | refine Ow.nil ?_ | refine Ow.pu rfl (Pu.move rfl) ?_ | refine Ow.pu rfl (Pu.assign rfl) ?_ | refine Ow.pu rfl (Pu.fld rfl) ?_ | (refine Ow.kGuard ?_; (first | refine Ow.guard_yes rfl rfl rfl ?_ | refine Ow.guard_no rfl rfl rfl rfl ?_)) | (refine Ow.kLoad ?_; (first | refine Ow.pu rfl (Pu.load_cl rfl pkA rfl) ?_ | refine Ow.pu rfl (Pu.loadN_cl rfl pkA rfl rfl) ?_ | refine Ow.pu rfl (Pu.load_sli rfl pkA (by first | omega | (simp only [List.length_set, List.length_append, List.length_replicate, List.length_cons, List.length_nil]; omega))) ?_)) | (refine Ow.kBin ?_; (first | (refine Ow.b_lss ?_; first | refine Ow.pu rfl (Pu.lt_t rfl rfl (by omega)) ?_ | refine Ow.pu rfl (Pu.lt_f rfl rfl (by omega)) ?_ | refine Ow.sp rfl (by exact Pu.lt rfl rfl) (fun hc => ?_) (fun hc => ?_)) | (refine Ow.b_gtr ?_; first | refine Ow.pu rfl (Pu.gt_t rfl rfl (by omega)) ?_ | refine Ow.pu rfl (Pu.gt_f rfl rfl (by omega)) ?_ | refine Ow.sp rfl (by exact Pu.gt rfl rfl) (fun hc => ?_) (fun hc => ?_)) | (refine Ow.b_geq ?_; first | refine Ow.pu rfl (Pu.ge_t rfl rfl (by omega)) ?_ | refine Ow.pu rfl (Pu.ge_f rfl rfl (by omega)) ?_ | refine Ow.sp rfl (by exact Pu.ge rfl rfl) (fun hc => ?_) (fun hc => ?_)) | (refine Ow.b_eql ?_; (first | refine Ow.sp rfl (by exact Pu.eqI rfl rfl) (fun hc => ?_) (fun hc => ?_))) | (refine Ow.b_add ?_; refine Ow.pu rfl (Pu.add_i rfl rfl (by omega)) ?_))) | (refine Ow.kPick ?_; (first | refine Ow.pu rfl (Pu.pick_t rfl rfl) ?_ | refine Ow.pu rfl (Pu.pick_f rfl rfl) ?_)) | (refine Ow.kUn ?_; (first | refine Ow.pu rfl (Pu.not rfl) ?_)) | (refine Ow.kIdx ?_; (first | refine Ow.pu rfl (Pu.idx_sln rfl rfl pkA (by simp only [List.length_map, List.length_append, List.length_set, List.length_replicate, List.length_cons, List.length_nil]; omega)) ?_)) | (refine Ow.kBuiltin ?_; (first | refine Ow.pu rfl (Pu.len_slm rfl pkA) ?_)) | (refine Ow.kCall ?_; (first | refine Ow.callE evA pkA rfl (Known_f hK _ (by omega)) (fun _ => ?_) | refine Ow.callE evA pkA rfl (Known_t hK _ (by omega)) (fun _ => ?_) | fail)) | refine Ow.box rfl rfl rfl (fun bx => ?_))) | (refine Cw.is ?_; (first | refine Cw.seq ?_ | refine Cw.region ?_ | refine Cw.cond_t rfl rfl ?_ | refine Cw.cond_f rfl rfl ?_ | refine Cw.block ?_ | refine Cw.ret ?_ | refine Cw.exit ?_ | refine Cw.skip ?_)) | (first | refine thenQ_n ?_ | refine thenQ_r ?_ | refine thenQ_e ?_ | refine blockQ_n ?_ | refine blockQ_r ?_ | refine blockQ_e ?_)))
    refine Cw.loopS [4, 6, 14, 15, 16, 17, 18, 19, 20, 21, 22, 23, 24, 25, 26] (by (repeat first | exact er_nil | apply er_drop rfl | apply er_keep rfl)) (fun j : Nat => j ≤ l.length ∧ ∀ i, i < j → bad1 q.regs l[i]! = false) (fun j => [(14, vi j)]) (fun j => l.length - j) 0 ⟨by omega, fun j hj => by omega⟩ (by (repeat first | exact trivial | refine ⟨rfl, ?_⟩)) (fun j hj => ?_)
    obtain ⟨hj, hb⟩ := hj
    have bad : ∀ i, i < l.length → bad1 q.regs l[i]! = true → (if l.any (bad1 q.regs) then (4 : Int) else if n = 11 ∨ n = 12 then (if y < 0 ∨ q.globals ≤ y then 5 else 0) else if n = 0 then (if y < 0 then 6 else if q.fields < y then 7 else 0) else 0) = 4 := fun i hi h1 => by
      rw [if_pos]
      rw [List.any_eq_true]
      exact ⟨l[i]!, by simp [hi], h1⟩
    by_cases hlt : j < l.length
    · (repeat' (first | (refine Ow.is ?_; (first | refine Ow.nil ?_ | refine Ow.pu rfl (Pu.move rfl) ?_ | refine Ow.pu rfl (Pu.assign rfl) ?_ | refine Ow.pu rfl (Pu.fld rfl) ?_ | (refine Ow.kGuard ?_; (first | refine Ow.guard_yes rfl rfl rfl ?_ | refine Ow.guard_no rfl rfl rfl rfl ?_)) | (refine Ow.kLoad ?_; (first | refine Ow.pu rfl (Pu.load_cl rfl pkA rfl) ?_ | refine Ow.pu rfl (Pu.loadN_cl rfl pkA rfl rfl) ?_ | refine Ow.pu rfl (Pu.load_sli rfl pkA (by first | omega | (simp only [List.length_set, List.length_append, List.length_replicate, List.length_cons, List.length_nil]; omega))) ?_)) | (refine Ow.kBin ?_; (first | (refine Ow.b_lss ?_; first | refine Ow.pu rfl (Pu.lt_t rfl rfl (by omega)) ?_ | refine Ow.pu rfl (Pu.lt_f rfl rfl (by omega)) ?_ | refine Ow.sp rfl (by exact Pu.lt rfl rfl) (fun hc => ?_) (fun hc => ?_)) | (refine Ow.b_gtr ?_; first | refine Ow.pu rfl (Pu.gt_t rfl rfl (by omega)) ?_ | refine Ow.pu rfl (Pu.gt_f rfl rfl (by omega)) ?_ | refine Ow.sp rfl (by exact Pu.gt rfl rfl) (fun hc => ?_) (fun hc => ?_)) | (refine Ow.b_geq ?_; first | refine Ow.pu rfl (Pu.ge_t rfl rfl (by omega)) ?_ | refine Ow.pu rfl (Pu.ge_f rfl rfl (by omega)) ?_ | refine Ow.sp rfl (by exact Pu.ge rfl rfl) (fun hc => ?_) (fun hc => ?_)) | (refine Ow.b_eql ?_; (first | refine Ow.sp rfl (by exact Pu.eqI rfl rfl) (fun hc => ?_) (fun hc => ?_))) | (refine Ow.b_add ?_; refine Ow.pu rfl (Pu.add_i rfl rfl (by omega)) ?_))) | (refine Ow.kPick ?_; (first | refine Ow.pu rfl (Pu.pick_t rfl rfl) ?_ | refine Ow.pu rfl (Pu.pick_f rfl rfl) ?_)) | (refine Ow.kUn ?_; (first | refine Ow.pu rfl (Pu.not rfl) ?_)) | (refine Ow.kIdx ?_; (first | refine Ow.pu rfl (Pu.idx_sln rfl rfl pkA (by simp only [List.length_map, List.length_append, List.length_set, List.length_replicate, List.length_cons, List.length_nil]; omega)) ?_)) | (refine Ow.kBuiltin ?_; (first | refine Ow.pu rfl (Pu.len_slm rfl pkA) ?_)) | (refine Ow.kCall ?_; (first | refine Ow.callE evA pkA rfl (Known_f hK _ (by omega)) (fun _ => ?_) | refine Ow.callE evA pkA rfl (Known_t hK _ (by omega)) (fun _ => ?_) | fail)) | refine Ow.box rfl rfl rfl (fun bx => ?_))) | (refine Cw.is ?_; (first | refine Cw.seq ?_ | refine Cw.region ?_ | refine Cw.cond_t rfl rfl ?_ | refine Cw.cond_f rfl rfl ?_ | refine Cw.block ?_ | refine Cw.ret ?_ | refine Cw.exit ?_ | refine Cw.skip ?_)) | (first | refine thenQ_n ?_ | refine thenQ_r ?_ | refine thenQ_e ?_ | refine blockQ_n ?_ | refine blockQ_r ?_ | refine blockQ_e ?_)))
      · refine retQ_v () Tryd.results42 rfl (congrArg vi (bad j hlt (by simp only [bad1, decide_eq_true_eq]; omega)).symm) ?_; ((try simp only [star_assoc]); (repeat (apply Ent.pk; exact pkA)); first | exact Ent.fin pkA | exact Ent.refl _)
      · refine retQ_v () Tryd.results42 rfl (congrArg vi (bad j hlt (by simp only [bad1, decide_eq_true_eq]; omega)).symm) ?_; ((try simp only [star_assoc]); (repeat (apply Ent.pk; exact pkA)); first | exact Ent.fin pkA | exact Ent.refl _)
      · refine ⟨rfl, j + 1, ⟨by omega, fun i hi => ?_⟩, by omega, by (repeat first | exact trivial | refine ⟨rfl, ?_⟩), by ((try simp only [star_assoc]); (repeat (apply Ent.pk; exact pkA)); first | exact Ent.fin pkA | exact Ent.refl _)⟩
        rcases (by omega : i < j ∨ i = j) with h | rfl
        · exact hb i h
        · simp only [bad1, decide_eq_false_iff_not]; omega
    · obtain rfl : j = l.length := by omega
      have hany : l.any (bad1 q.regs) = false := by
        rw [List.any_eq_false]
        intro r hr
        obtain ⟨i, hi, rfl⟩ := List.getElem_of_mem hr
        have := hb i hi
        rw [getElem!_pos l i hi] at this
        simp [this]
      rw [hany, if_neg (by simp)]
      (repeat' (first | (refine Ow.is ?_; (first | refine Ow.nil ?_ | refine Ow.pu rfl (Pu.move rfl) ?_ | refine Ow.pu rfl (Pu.assign rfl) ?_ | refine Ow.pu rfl (Pu.fld rfl) ?_ | (refine Ow.kGuard ?_; (first | refine Ow.guard_yes rfl rfl rfl ?_ | refine Ow.guard_no rfl rfl rfl rfl ?_)) | (refine Ow.kLoad ?_; (first | refine Ow.pu rfl (Pu.load_cl rfl pkA rfl) ?_ | refine Ow.pu rfl (Pu.loadN_cl rfl pkA rfl rfl) ?_ | refine Ow.pu rfl (Pu.load_sli rfl pkA (by first | omega | (simp only [List.length_set, List.length_append, List.length_replicate, List.length_cons, List.length_nil]; omega))) ?_)) | (refine Ow.kBin ?_; (first | (refine Ow.b_lss ?_; first | refine Ow.pu rfl (Pu.lt_t rfl rfl (by omega)) ?_ | refine Ow.pu rfl (Pu.lt_f rfl rfl (by omega)) ?_ | refine Ow.sp rfl (by exact Pu.lt rfl rfl) (fun hc => ?_) (fun hc => ?_)) | (refine Ow.b_gtr ?_; first | refine Ow.pu rfl (Pu.gt_t rfl rfl (by omega)) ?_ | refine Ow.pu rfl (Pu.gt_f rfl rfl (by omega)) ?_ | refine Ow.sp rfl (by exact Pu.gt rfl rfl) (fun hc => ?_) (fun hc => ?_)) | (refine Ow.b_geq ?_; first | refine Ow.pu rfl (Pu.ge_t rfl rfl (by omega)) ?_ | refine Ow.pu rfl (Pu.ge_f rfl rfl (by omega)) ?_ | refine Ow.sp rfl (by exact Pu.ge rfl rfl) (fun hc => ?_) (fun hc => ?_)) | (refine Ow.b_eql ?_; (first | refine Ow.sp rfl (by exact Pu.eqI rfl rfl) (fun hc => ?_) (fun hc => ?_))) | (refine Ow.b_add ?_; refine Ow.pu rfl (Pu.add_i rfl rfl (by omega)) ?_))) | (refine Ow.kPick ?_; (first | refine Ow.pu rfl (Pu.pick_t rfl rfl) ?_ | refine Ow.pu rfl (Pu.pick_f rfl rfl) ?_)) | (refine Ow.kUn ?_; (first | refine Ow.pu rfl (Pu.not rfl) ?_)) | (refine Ow.kIdx ?_; (first | refine Ow.pu rfl (Pu.idx_sln rfl rfl pkA (by simp only [List.length_map, List.length_append, List.length_set, List.length_replicate, List.length_cons, List.length_nil]; omega)) ?_)) | (refine Ow.kBuiltin ?_; (first | refine Ow.pu rfl (Pu.len_slm rfl pkA) ?_)) | (refine Ow.kCall ?_; (first | refine Ow.callE evA pkA rfl (Known_f hK _ (by omega)) (fun _ => ?_) | refine Ow.callE evA pkA rfl (Known_t hK _ (by omega)) (fun _ => ?_) | fail)) | refine Ow.box rfl rfl rfl (fun bx => ?_))) | (refine Cw.is ?_; (first | refine Cw.seq ?_ | refine Cw.region ?_ | refine Cw.cond_t rfl rfl ?_ | refine Cw.cond_f rfl rfl ?_ | refine Cw.block ?_ | refine Cw.ret ?_ | refine Cw.exit ?_ | refine Cw.skip ?_)) | (first | refine thenQ_n ?_ | refine thenQ_r ?_ | refine thenQ_e ?_ | refine blockQ_n ?_ | refine blockQ_r ?_ | refine blockQ_e ?_)))
      all_goals refine retQ_v () Tryd.results42 rfl ?_ ?_
      all_goals first | ((try simp only [star_assoc]); (repeat (apply Ent.pk; exact pkA)); first | exact Ent.fin pkA | exact Ent.refl _) | skip
      all_goals (refine congrArg vi ?_; repeat' split)
      all_goals omega
  · (repeat' (first | (refine Ow.is ?_; (first | refine Ow.nil ?_ | refine Ow.pu rfl (Pu.move rfl) ?_ | refine Ow.pu rfl (Pu.assign rfl) ?_ | refine Ow.pu rfl (Pu.fld rfl) ?_ | (refine Ow.kGuard ?_; (first | refine Ow.guard_yes rfl rfl rfl ?_ | refine Ow.guard_no rfl rfl rfl rfl ?_)) | (refine Ow.kLoad ?_; (first | refine Ow.pu rfl (Pu.load_cl rfl pkA rfl) ?_ | refine Ow.pu rfl (Pu.loadN_cl rfl pkA rfl rfl) ?_ | refine Ow.pu rfl (Pu.load_sli rfl pkA (by first | omega | (simp only [List.length_set, List.length_append, List.length_replicate, List.length_cons, List.length_nil]; omega))) ?_)) | (refine Ow.kBin ?_; (first | (refine Ow.b_lss ?_; first | refine Ow.pu rfl (Pu.lt_t rfl rfl (by omega)) ?_ | refine Ow.pu rfl (Pu.lt_f rfl rfl (by omega)) ?_ | refine Ow.sp rfl (by exact Pu.lt rfl rfl) (fun hc => ?_) (fun hc => ?_)) | (refine Ow.b_gtr ?_; first | refine Ow.pu rfl (Pu.gt_t rfl rfl (by omega)) ?_ | refine Ow.pu rfl (Pu.gt_f rfl rfl (by omega)) ?_ | refine Ow.sp rfl (by exact Pu.gt rfl rfl) (fun hc => ?_) (fun hc => ?_)) | (refine Ow.b_geq ?_; first | refine Ow.pu rfl (Pu.ge_t rfl rfl (by omega)) ?_ | refine Ow.pu rfl (Pu.ge_f rfl rfl (by omega)) ?_ | refine Ow.sp rfl (by exact Pu.ge rfl rfl) (fun hc => ?_) (fun hc => ?_)) | (refine Ow.b_eql ?_; (first | refine Ow.sp rfl (by exact Pu.eqI rfl rfl) (fun hc => ?_) (fun hc => ?_))) | (refine Ow.b_add ?_; refine Ow.pu rfl (Pu.add_i rfl rfl (by omega)) ?_))) | (refine Ow.kPick ?_; (first | refine Ow.pu rfl (Pu.pick_t rfl rfl) ?_ | refine Ow.pu rfl (Pu.pick_f rfl rfl) ?_)) | (refine Ow.kUn ?_; (first | refine Ow.pu rfl (Pu.not rfl) ?_)) | (refine Ow.kIdx ?_; (first | refine Ow.pu rfl (Pu.idx_sln rfl rfl pkA (by simp only [List.length_map, List.length_append, List.length_set, List.length_replicate, List.length_cons, List.length_nil]; omega)) ?_)) | (refine Ow.kBuiltin ?_; (first | refine Ow.pu rfl (Pu.len_slm rfl pkA) ?_)) | (refine Ow.kCall ?_; (first | refine Ow.callE evA pkA rfl (Known_f hK _ (by omega)) (fun _ => ?_) | refine Ow.callE evA pkA rfl (Known_t hK _ (by omega)) (fun _ => ?_) | fail)) | refine Ow.box rfl rfl rfl (fun bx => ?_))) | (refine Cw.is ?_; (first | refine Cw.seq ?_ | refine Cw.region ?_ | refine Cw.cond_t rfl rfl ?_ | refine Cw.cond_f rfl rfl ?_ | refine Cw.block ?_ | refine Cw.ret ?_ | refine Cw.exit ?_ | refine Cw.skip ?_)) | (first | refine thenQ_n ?_ | refine thenQ_r ?_ | refine thenQ_e ?_ | refine blockQ_n ?_ | refine blockQ_r ?_ | refine blockQ_e ?_)))
    rw [checkR, if_pos hn]
    refine retQ_v () Tryd.results42 rfl rfl ?_; ((try simp only [star_assoc]); (repeat (apply Ent.pk; exact pkA)); first | exact Ent.fin pkA | exact Ent.refl _)
end Go.Sl
namespace Go.Sl
open Go
set_option linter.unusedVariables false
universe u
variable {P : Program} {r : Option Nat} {n : Nat} {Q : PostT} {ρ : Env} {ds : List Deferred} {H : HP} {t t' t'' : TypeId} {x y : Operand}
def leafK : Option TypeDesc → Option Bool
  | some (.int _) => some true
  | some .bool => some false
  | _ => none
def fldK (P : Program) (x : Field × Nat) : Option Bool := if x.1.name != "_" && x.1.offset == x.2 then leafK (P.underlying x.1.type) else none
def stK (P : Program) (t : TypeId) (ks : List Bool) : Bool := match P.underlying t with
  | some (.struct fs) => !P.stoodInHeld t && (!P.eqGuardType P.depth t && ((fs.toList.zipIdx.map (fldK P)) == ks.map some))
  | _ => false
class TyE (P : Program) (t : TypeId) (ks : outParam (List Bool)) : Prop where
  h : stK P t ks = true
def eqL : List Bool → List Value → List Value → Option Bool
  | [], _, _ => some true
  | true :: ks, .int k a :: us, .int k' b :: vs => if k = k' then (if a = b then eqL ks us vs else some false) else none
  | false :: ks, .bool a :: us, .bool b :: vs => if a = b then eqL ks us vs else some false
  | _, _, _ => none
theorem run_part1 {td : TypeDesc} {xs : Array Value} {off : Nat} {v : Value} {w : World} (ht : P.underlying t = some td) (hl : aggB td = false) (hv : xs[off]? = some v) : (part t xs off).run P w = .ok v w := by
  haveI : TyA P t false := ⟨by rw [ht]; simp [hl]⟩
  simp only [part, Sem.run_bind, run_agg, Result.andThen_ok, Bool.false_eq_true, if_false, hv, Sem.run_pure]
end Go.Sl
namespace Go.Sl
open Go
set_option linter.unusedVariables false
universe u
variable {P : Program} {r : Option Nat} {n : Nat} {Q : PostT} {ρ : Env} {ds : List Deferred} {H A R : HP} {t t' t'' T e : TypeId} {x y : Operand} {all rest : List Oper} {d : Option Nat} {pos : String} {aft : Array Edge} {v v2 : Value} {s bb kk : Nat} {zc : List Value} {k : IntKind} {i : Int} {α : Type}
class Fl (f : α → List Value) (s : outParam Nat) : Prop where
  h : ∀ x, (f x).length = s
  p : 0 < s
  o : ∀ x, (f x).all (fun u => u.oneCell') = true
theorem flat_len {f : α → List Value} [F : Fl f s] (L : List α) : (L.flatMap f).length = L.length * s := by
  induction L with
  | nil => simp
  | cons x L ih => rw [List.flatMap_cons, List.length_append, F.h, ih, List.length_cons, Nat.add_mul]; omega
theorem flat_at [Inhabited α] {f : α → List Value} [F : Fl f s] : ∀ (L : List α) (j : Nat), j < L.length → ((L.flatMap f).drop (j * s)).take s = f L[j]!
  | [], j, h => by simp at h
  | x :: L, 0, h => by
    rw [List.flatMap_cons, Nat.zero_mul, List.drop_zero]
    have := F.h x
    simp [← this]
  | x :: L, j + 1, h => by
    have hx := F.h x
    rw [List.flatMap_cons, List.drop_append, List.drop_of_length_le (by rw [hx, Nat.add_mul]; omega), List.nil_append, hx, show (j + 1) * s - s = j * s by rw [Nat.add_mul]; omega]
    rw [flat_at L j (by simpa using h)]
    simp
theorem Pu.len_st {f : α → List Value} [F : Fl f s] {L : List α} [TT : TyU P T (.slice e)] (hx : ev ρ x = some v) (hp : Pk H (slk s v (L.flatMap f)) R) : Pu P n ρ H (.call { callee := .builtin .len, args := #[x], argTypes := #[T] }) t (.int .i64 L.length) :=
  Pu.len_slk hx hp (flat_len L) F.p
theorem Pu.len_stl {f : α → List Value} [F : Fl f s] {L : List α} (m : Nat) [TT : TyU P T (.slice e)] (hx : ev ρ x = some v) (hp : Pk H (slk s v (L.flatMap f)) R) (hm : L.length = m) : Pu P n ρ H (.call { callee := .builtin .len, args := #[x], argTypes := #[T] }) t (.int .i64 m) := hm ▸ Pu.len_st hx hp
theorem Pu.idx_st {f : α → List Value} [TT : TyU P T (.slice e)] [S : TyS P e s bb zc] [F : Fl f s] {L : List α} (hx : ev ρ x = some v) (hy : ev ρ y = some (.int k i)) (hp : Pk H (slk s v (L.flatMap f)) R) (hi : 0 ≤ i ∧ i < L.length) :
    Pu P n ρ H (.indexAddr T x y) t (.pointer (some ((sbase v).add (i.toNat * s)))) :=
  Pu.idx_slk hx hy hp F.p ⟨hi.1, by rw [flat_len (f := f)]; have := F.p; exact_mod_cast Int.mul_lt_mul_of_pos_right hi.2 (by omega)⟩
theorem Pu.idx_stn {f : α → List Value} [TT : TyU P T (.slice e)] [S : TyS P e s bb zc] [F : Fl f s] {L : List α} {j : Nat} (hx : ev ρ x = some v) (hy : ev ρ y = some (.int k (j : Int))) (hp : Pk H (slk s v (L.flatMap f)) R) (hi : j < L.length) :
    Pu P n ρ H (.indexAddr T x y) t (.pointer (some ((sbase v).add (j * s)))) := by
  have := Pu.idx_st (P := P) (n := n) (t := t) (T := T) (f := f) (k := k) hx hy hp ⟨by omega, by omega⟩
  rwa [Int.toNat_natCast] at this
theorem Pu.loadN_st [Inhabited α] {f : α → List Value} [TA : TyA P t true] [S : TyS P t s bb zc] [F : Fl f s] {L : List α} {j : Nat} (hx : ev ρ x = some (.pointer (some ((sbase v).add (j * s))))) (hp : Pk H (slk s v (L.flatMap f)) R) (hj : j < L.length) :
    Pu P n ρ H (.load t x) t' (.agg (f L[j]!).toArray) :=
  Pu.loadN hx hp (fun i u hu => by
    rw [addr_add2]
    refine rd_slk ?_
    rw [← flat_at (f := f) L j hj, List.getElem?_take] at hu
    split at hu
    · rw [List.getElem?_drop] at hu; exact hu
    · cases hu) (F.h _)
theorem Ow.append_st {f : α → List Value} [TT : TyU P T (.slice e)] [S : TyS P e s bb zc] [F : Fl f s] {L : List α} {b cap : Nat} {cs : List Value} (w : α) (hd : dOk n d = true) (hx : ev ρ x = some v) (hy : ev ρ y = some (.slice (some ⟨b, 0, none⟩) 1 cap)) (hp : Pk H (slk s v (L.flatMap f)) R) {R2 : HP} (hq : Pk R (cl b cs) R2) (hw : cs = f w) (hz : zc.length = s)
    (hbytes : (L.length + 1) * bb ≤ 140737488355328 ∧ L.length + 1 ≤ 9223372036854775807)
    (h : ∀ v' : SV, Ow P r n all rest Q (putE d v'.v ρ) ds (slk s v'.v ((L ++ [w]).flatMap f) * R)) :
    Ow P r n all (⟨d, .call { callee := .builtin .append, args := #[x, y], argTypes := #[T, T] }, t, pos, aft, none⟩ :: rest) Q ρ ds H :=
  Ow.append (m := L.length) (n2 := 1) (cs2 := f w) hd hx hy hp ((rdSl_cl (by rw [F.h, Nat.one_mul])).of_pk (hw ▸ hq)) (fun u hu => List.all_eq_true.1 (F.o w) u hu) (flat_len L) F.p hz hbytes (fun v' => by rw [show L.flatMap f ++ f w = (L ++ [w]).flatMap f by simp]; exact h v')
theorem Cw.addnilS {s : Nat} {c : Code} (f : α → List Value) (h : Cw P r n c Q ρ ds (slk s (.slice none 0 0) (([] : List α).flatMap f) * H)) : Cw P r n c Q ρ ds H := Cw.ent (Ent.addnil s (Ent.refl _)) h
section
universe v
variable {β : Type v} {val : β → Value} {post : β → HP} {ts : Array TypeId}
end
end Go.Sl
namespace Go.Sl
open Go
set_option linter.unusedVariables false
universe u
variable {P : Program} {r : Option Nat} {n : Nat} {Q : PostT} {ρ : Env} {ds : List Deferred} {H A R : HP} {t t' t'' T e : TypeId} {x y : Operand} {all rest : List Oper} {d : Option Nat} {pos : String} {aft : Array Edge} {v v2 : Value} {s bb kk : Nat} {zc : List Value} {k : IntKind} {i : Int} {α : Type}
end Go.Sl
namespace Go.Sl
open Go
set_option linter.unusedVariables false
universe u
variable {P : Program} {r : Option Nat} {n : Nat} {Q : PostT} {ρ : Env} {ds : List Deferred} {H A R : HP} {t t' t'' T e : TypeId} {x y : Operand} {all rest : List Oper} {d : Option Nat} {pos : String} {aft : Array Edge} {v v2 : Value} {s bb kk m cap : Nat} {zc : List Value} {k : IntKind} {i : Int} {α : Type} {a : Option Addr} {ts : Array TypeId}
theorem Pu.loadN_rof [Inhabited α] {f : α → List Value} [TA : TyA P t true] [S : TyS P t s bb zc] [F : Fl f s] {L : List α} {j : Nat} {z : α} (hr : Ro A a m s (L.flatMap f)) (hp : Pk H A R) (hx : ev ρ x = some (.pointer (some ((adr a).add (j * s))))) (hj : j < L.length) (hz : L[j]! = z) :
    Pu P n ρ H (.load t x) t' (.agg (f z).toArray) := Pu.load_roN (vs := f z) hr hp hx (hz ▸ flat_at L j hj) (F.h _)
theorem Pu.idx_rof {f : α → List Value} [TT : TyU P T (.slice e)] [S : TyS P e s bb zc] [F : Fl f s] {L : List α} {j : Nat} (hr : Ro A a m s (L.flatMap f)) (hx : ev ρ x = some (.slice a m cap)) (hy : ev ρ y = some (.int k (j : Int))) (hi : j < m) :
    Pu P n ρ H (.indexAddr T x y) t (.pointer (some ((adr a).add (j * s)))) := Pu.idx_ron hr hx hy F.p hi
theorem rdSl_sli {l2 : List Int} : RdSl (slk 1 v (l2.map vi)) 1 v l2.length (l2.map vi) := rdSl_slk (by simp) (by omega)
end Go.Sl
namespace Go.Sl
open Go
set_option linter.unusedVariables false
set_option linter.unusedSimpArgs false
universe u
abbrev vb (n : Int) : Value := .int .u8 n
def bs (l : List Int) : ByteArray := ⟨(l.map fun n => UInt8.ofNat n.toNat).toArray⟩
variable {P : Program} {r : Option Nat} {n : Nat} {Q : PostT} {ρ : Env} {ds : List Deferred} {H A R : HP} {t t' t'' T S' e : TypeId} {x y : Operand} {all rest : List Oper} {d : Option Nat} {pos : String} {aft : Array Edge} {v v2 : Value} {bb m cap : Nat} {zc : List Value} {k k' : IntKind} {i : Int} {a : Option Addr} {ts : Array TypeId} {l l2 : List Int}
structure Vw (A : HP) (a : Option Addr) (m cap : Nat) (l : List Int) : Prop where
  ro : Ro A a m 1 (l.map vb)
  le : m ≤ cap
  nil : a = none → cap = 0
  by_ : ∀ c ∈ l, 0 ≤ c ∧ c ≤ 255
def loA (a : Option Addr) (cap i : Nat) : Option Addr := if cap = i then a else a.map (·.add i)
end Go.Sl
namespace Go.Sl
open Go
set_option linter.unusedVariables false
def zz (n : Int) : Nat := if 0 ≤ n then (2 * n).toNat else (-2 * n - 1).toNat
def unzz (u : Nat) : Int := if u % 2 = 0 then ((u / 2 : Nat) : Int) else -((u / 2 : Nat) : Int) - 1
def num (u : Nat) : List Int := if h : u < 128 then [(u : Int)] else ((u % 128 + 128 : Nat) : Int) :: num (u / 128)
termination_by u
decreasing_by omega
def goR (i : Nat) (u : Nat) : List Int → Int × Int
  | [] => (0, 0)
  | c :: r => if c < 128 then (if (c = 0 ∧ 0 < i) ∨ (i = 9 ∧ c ≠ 1) then (0, 0) else (unzz (u + c.toNat * 2 ^ (7 * i)), i + 1)) else goR (i + 1) (u + (c.toNat - 128) * 2 ^ (7 * i)) r
def readR (l : List Int) : Int × Int := goR 0 0 (l.take 10)
end Go.Sl
namespace Go.Sl
open Go
set_option linter.unusedVariables false
theorem ofInt_u {w : Nat} {a : Int} (h : 0 ≤ a) (h2 : a < 2 ^ w) : (BitVec.ofInt w a).toNat = a.toNat := by
  rw [BitVec.toNat_ofInt]
  congr 1
  exact Int.emod_eq_of_lt h (by exact_mod_cast h2)
end Go.Sl
namespace Go.Sl
open Go Go.Proofs
set_option linter.unusedVariables false
set_option linter.unusedSimpArgs false
attribute [local irreducible] star Ow Cw Pk Pu Dw thenQ blockQ retQ loudQ Cr
section
variable {P : Program} {n : Nat} {ρ : Env} {H : HP} {t t' t'' : TypeId} {x y : Operand} {k k' : IntKind} {a b : Int}
end
structure NumS where
  u : Nat
  p : List Int
  sv : SV
end Go.Sl
namespace Go.Sl
open Go Go.Proofs
set_option linter.unusedVariables false
set_option linter.unusedSimpArgs false
attribute [local irreducible] andI orI xorI IntKind.wrap star Ow Cw Pk Pu Dw thenQ blockQ retQ loudQ Cr
end Go.Sl
namespace Go.Sl
open Go
set_option linter.unusedVariables false
set_option linter.unusedSimpArgs false
universe u
variable {P : Program} {r : Option Nat} {n : Nat} {Q : PostT} {ρ : Env} {ds : List Deferred} {H A R : HP} {t t' t'' T S' e : TypeId} {x y : Operand} {all rest : List Oper} {d d' : Option Nat} {pos pos' : String} {aft aft' : Array Edge} {v v2 : Value} {bb m cap s : Nat} {zc cs : List Value} {k k' : IntKind} {i : Int} {a : Option Addr} {ts : Array TypeId} {l l2 : List Int}
def SlP (s : Nat) (v : SV) (cs : List Value) : Prop := cs.length = v.n * s ∧ v.n ≤ v.c ∧ (v.a = none → v.c = 0)
theorem slk_pure {g : Gh} {w : World} {v : SV} (h : St g w (slk s v.v cs * R)) : SlP s v cs := by
  obtain ⟨a, n, c⟩ := v
  rcases slk_cases h with ⟨h1, h2, _⟩ | ⟨b, pre, jk, n', c', h1, h2, h3, h4, _⟩
  · simp only [SV.v, Value.slice.injEq] at h1
    obtain ⟨rfl, rfl, rfl⟩ := h1
    subst h2
    exact ⟨by simp, by simp, fun _ => rfl⟩
  · simp only [SV.v, Value.slice.injEq] at h1
    obtain ⟨rfl, rfl, rfl⟩ := h1
    exact ⟨h2, h3, fun h => by cases h⟩
theorem Ow.slP {v : SV} {L : List Oper} (hp : Pk H (slk s v.v cs) R) (h : SlP s v cs → Ow P r n all L Q ρ ds H) : Ow P r n all L Q ρ ds H := fun g w a hr hd hs => h (slk_pure (by unfold Pk at hp; rw [hp] at hs; exact hs)) g w a hr hd hs
theorem Cw.slP {v : SV} {c : Code} (hp : Pk H (slk s v.v cs) R) (h : SlP s v cs → Cw P r n c Q ρ ds H) : Cw P r n c Q ρ ds H := fun g w a hr hd hs => h (slk_pure (by unfold Pk at hp; rw [hp] at hs; exact hs)) g w a hr hd hs
end Go.Sl
namespace Go.Sl
open Go Go.Proofs
set_option linter.unusedVariables false
set_option linter.unusedSimpArgs false
attribute [local irreducible] andI orI xorI IntKind.wrap star Ow Cw Pk Pu Dw thenQ blockQ retQ loudQ Cr
structure It where
  k : Int
  t : Int
  c : Int
  x : Int
  y : Int
  z : Int
deriving DecidableEq
instance : Inhabited It := ⟨⟨0, 0, 0, 0, 0, 0⟩⟩
abbrev It.cs (d : It) : List Value := [vi d.k, vi d.t, vi d.c, vi d.x, vi d.y, vi d.z]
instance : Fl It.cs 6 := ⟨fun _ => rfl, by decide, fun _ => rfl⟩
abbrev ptrs (b : Nat) : List Value := [.pointer (some ⟨b, 0, none⟩), .pointer (some ⟨b, 1, none⟩), .pointer (some ⟨b, 2, none⟩), .pointer (some ⟨b, 3, none⟩), .pointer (some ⟨b, 4, none⟩), .pointer (some ⟨b, 5, none⟩)]
/-! what an item's bytes are -/
def pl (x : It) : List Int := [x.k, x.t, x.c, x.x, x.y, x.z]
def mkP (x : It) : Nat → Nat
  | 0 => 0
  | i + 1 => mkP x i + (if (pl x)[i]! ≠ 0 then 2 ^ i else 0)
def rsP (x : It) : Nat → List Int
  | 0 => []
  | i + 1 => rsP x i ++ (if (pl x)[i]! ≠ 0 then num (zz (pl x)[i]!) else [])
def itB (x : It) : List Int := (mkP x 6 : Int) :: rsP x 6
def encR (L : List It) : List Int := [104, 119] ++ num (zz L.length) ++ L.flatMap itB
abbrev i64 (n : Int) : Prop := -9223372036854775808 ≤ n ∧ n ≤ 9223372036854775807
def ItOk (x : It) : Prop := ∀ n ∈ pl x, i64 n
structure EnS where
  j : Nat
  sv : SV
end Go.Sl
namespace Go.Sl
open Go
set_option linter.unusedVariables false
universe u
section
variable {F : Fence} {P : Program} {ops : Array Oper} {md : Region.Mode} {Q : Exit → Act → World → Prop} {g : Gh} {B : HP}
theorem hStep_put2 {B2 : HP} (ht : tame ops = true) {i j : Nat} {oi oj : Oper} {v : Value} (hi : ops[i]? = some oi) (hj : ops[j]? = some oj) (hap : oi.apart ops oj = true) {K : Act → HP → Prop} {a : Act} {H : HP}
    (hF : ∀ f, F.fn f) (hy : YQ P ops g B2 oi v a) (h : hStep F P ops g B j K (a.put oi.dst v) H) : hStep F P ops g B j (fun a' H' => YQ P ops g B2 oi v a' ∧ K (a'.put oi.dst v) H') a H := by
  obtain ⟨h1, h2, h3⟩ := Oper.apart_spec hap
  have hsi := tame_select ht hi
  have hsj := tame_select ht hj
  have hdj := tame_defer ht hj
  have keep : ∀ (a : Act), YQ P ops g B2 oi v a → ∀ u, YQ P ops g B2 oi v (a.put oj.dst u) := fun a hy u =>
    hy.same (execOp_put oi hsi a oj.dst u h3) (wanted_put oi a oj.dst u h3)
  unfold hStep at *
  simp only [hj] at *
  rw [wanted_put oj a oi.dst v h1] at h
  split
  · next hw =>
    simp only [hw, if_true] at h
    rcases h with ⟨u, h4, h5⟩ | h4
    · refine .inl ⟨u, fun w hs => ?_, keep a hy u, by rw [← Act.put_comm a v u h2]; exact h5⟩
      have := h4 w hs
      rwa [execOp_put oj hsj a oi.dst v h1] at this
    · refine .inr fun w hs => ?_
      have h := h4 w hs
      unfold Oper.wpIn at *
      refine ⟨fun f _ => hF f, ?_⟩
      have h := h.2
      rw [semAt_eq hdj, execOp_put oj hsj a oi.dst v h1] at h
      rw [semAt_eq hdj]
      generalize (execOp a.eval oj).run P w = r at *
      cases r with
      | ok x w' =>
        cases x <;> simp only [Oper.uponIn] at h ⊢
        case value u =>
          obtain ⟨H', h6, h7⟩ := h
          exact ⟨H', h6, keep a hy u, by rw [← Act.put_comm a v u h2]; exact h7⟩
        case skip =>
          obtain ⟨H', h6, h7⟩ := h
          exact ⟨H', h6, keep a hy _, by rw [← Act.put_comm a v undef h2]; exact h7⟩
        case defer d =>
          obtain ⟨H', h6, h7⟩ := h
          refine ⟨H', h6, hy.same ?_ ?_, ?_⟩
          · exact (execOp_put oi hsi { a with defers := d :: a.defers } oj.dst undef h3)
          · exact (wanted_put oi { a with defers := d :: a.defers } oj.dst undef h3)
          · rw [← Act.put_comm _ v undef h2]; cases e : oi.dst <;> (rw [e] at h7; exact h7)
        case enter f args =>
          refine ⟨h.1, CallsIn.mono h.2 fun e w'' he => ?_⟩
          cases e with
          | returned u =>
            obtain ⟨H', h6, h7⟩ := he
            exact ⟨H', h6, keep a hy u, by rw [← Act.put_comm a v u h2]; exact h7⟩
          | panicked c => exact he.elim
          | outgrown => exact he
        case row row args => exact ⟨h.1, RowsIn.mono h.2 fun u w'' ⟨H', h6, h7⟩ => ⟨H', h6, keep a hy u, by rw [← Act.put_comm a v u h2]; exact h7⟩⟩
        case round l f tmps assign body =>
          refine ⟨h.1, RoundIn.mono h.2 fun e w'' he => ?_⟩
          cases e with
          | returned u =>
            obtain ⟨H', h6, h7⟩ := he
            exact ⟨H', h6, keep a hy u, by rw [← Act.put_comm a v u h2]; exact h7⟩
          | panicked c => exact he.elim
          | outgrown => exact he
      | halt x w' => cases x <;> simp only [Oper.uponIn] at h ⊢ <;> first | exact h.elim | exact h
  · next hw =>
    simp only [hw] at h
    exact ⟨keep a hy _, by rw [← Act.put_comm a v undef h2]; exact h⟩
theorem YQ.mono {B2 : HP} {o : Oper} {v : Value} {a : Act} (he : Ent B B2) (h : YQ P ops g B2 o v a) : YQ P ops g B o v a := by
  rcases h with ⟨h1, h2⟩ | h
  · exact .inl ⟨h1, fun w hs => h2 w (hs.mono he)⟩
  · exact .inr h
theorem Ent.emp (A : HP) : Ent A Sl.emp := fun h _ => Exists.intro (fun _ => none) (And.intro (fun i o hi => absurd hi (by simp)) rfl)
def Bfj (B : HP) (jt : Nat) (l : Array Bool) : HP := bif l.getD jt false then emp else B
def hAnyF (F : Fence) (P : Program) (md : Region.Mode) (ops : Array Oper) (g : Gh) (B : HP) (jt : Nat) (Qn : Act → HP → Prop) : Nat → Array Bool → Act → HP → Prop
  | 0, listed, a, H => Ent H (Bfj B jt listed) ∧ Region.ready md ops listed = [] ∧ Qn a H
  | fuel + 1, listed, a, H => Ent H (Bfj B jt listed) ∧ (Region.ready md ops listed = [] → Qn a H) ∧ ∀ i ∈ Region.ready md ops listed, hStep F P ops g (Bfj B jt listed) i (hAnyF F P md ops g B jt Qn fuel (listed.setIfInBounds i true)) a H
theorem hAnyF.ent {jt : Nat} {Qn : Act → HP → Prop} {fuel : Nat} {listed : Array Bool} {a : Act} {H : HP} (h : hAnyF F P md ops g B jt Qn fuel listed a H) : Ent H (Bfj B jt listed) := by
  cases fuel with
  | zero => exact h.1
  | succ k => exact h.1
theorem wpAnyIn_of_hAnyF (hF : ∀ f, F.fn f) (ht : tame ops = true) {jt : Nat} {Qn : Act → HP → Prop} (hQ : ∀ a H w, St g w H → Qn a H → Q .normal a w) : ∀ (fuel : Nat) (listed : Array Bool) (a : Act) (H : HP) (w : World), St g w H →
    hAnyF F P md ops g B jt Qn fuel listed a H → wpAnyIn F 0 P md ops Q fuel listed a w
  | 0, _, _, _, _, hs, h => ⟨h.2.1, hQ _ _ _ hs h.2.2⟩
  | fuel + 1, _, _, _, _, hs, h => ⟨fun h0 => hQ _ _ _ hs (h.2.1 h0), fun i hi => wpOpIn_of_hStep hF ht (fun a' H' w' hs' h' => wpAnyIn_of_hAnyF hF ht hQ fuel _ a' H' w' hs' h') hs h.1 (h.2.2 i hi)⟩
theorem Bfj_put {jt i : Nat} (h : i ≠ jt) (l : Array Bool) : Bfj B jt (l.setIfInBounds i true) = Bfj B jt l := by unfold Bfj; rw [getD_set_ne false h]
theorem hAnyF_first (ht : tame ops = true) (hF : ∀ f, F.fn f) {jt : Nat} {Qn : Act → HP → Prop} {i : Nat} {oi : Oper} {v : Value} {B2 : HP} (hi : ops[i]? = some oi) (hit : i ≠ jt)
    (hB2 : ∀ l, Shut md ops l → l.getD i false = false → Ent (Bfj B jt l) B2) :
    ∀ (fuel : Nat) (listed : Array Bool) (a : Act) (H : HP), Shut md ops listed → Ent H (Bfj B jt listed) →
      (∀ j oj, ops[j]? = some oj → j ≠ i → listed.getD j true = false → (∀ e ∈ oj.after, Region.binds md e = true → e.on ≠ i) → oi.apart ops oj = true) →
      i ∈ Region.ready md ops listed → YQ P ops g B2 oi v a →
      hAnyF F P md ops g B jt Qn fuel (listed.setIfInBounds i true) (a.put oi.dst v) H → hAnyF F P md ops g B jt Qn (fuel + 1) listed a H := by
  intro fuel
  induction fuel with
  | zero =>
    intro listed a H hsh hB hfree hr hy HH
    have hun : listed.getD i false = false := getD_true_of_false (mem_ready.1 hr).1
    refine ⟨hB, fun h => (by rw [h] at hr; cases hr), fun j hj => ?_⟩
    by_cases hji : j = i
    · subst hji; exact (hy.mono (hB2 _ hsh hun)).step hi HH
    · have := ready_mono hj hji
      rw [HH.2.1] at this
      cases this
  | succ fuel ih =>
    intro listed a H hsh hB hfree hr hy HH
    have hun_i : listed.getD i false = false := getD_true_of_false (mem_ready.1 hr).1
    refine ⟨hB, fun h => (by rw [h] at hr; cases hr), fun j hj => ?_⟩
    by_cases hji : j = i
    · subst hji; exact (hy.mono (hB2 _ hsh hun_i)).step hi HH
    · have h1 := HH.2.2 j (ready_mono hj hji)
      rw [Bfj_put hit] at h1
      obtain ⟨hjun, oj, hoj, hall⟩ := mem_ready.1 hj
      have hnot : ∀ e ∈ oj.after, Region.binds md e = true → e.on ≠ i := fun e he hb heq => by
        have h1 := hall e he hb
        rw [heq, hun_i] at h1; cases h1
      have h2 := hStep_put2 ht hi hoj (hfree j oj hoj hji hjun hnot) hF hy h1
      have hfree' : ∀ k ok, ops[k]? = some ok → k ≠ i → (listed.setIfInBounds j true).getD k true = false →
          (∀ e ∈ ok.after, Region.binds md e = true → e.on ≠ i) → oi.apart ops ok = true := fun k ok hk hki hun hno => by
        refine hfree k ok hk hki ?_ hno
        by_cases hjk : j = k
        · subst hjk; exact hjun
        · rw [getD_set_ne true hjk] at hun; exact hun
      refine hStep_mono (fun a' H' h3 => ?_) h2
      have h4 := h3.2
      rw [Array.setIfInBounds_comm _ _ (Ne.symm hji)] at h4
      have hB' := h4.ent
      rw [Bfj_put hit] at hB'
      exact ih (listed.setIfInBounds j true) a' H' (hsh.put hj) hB' hfree' (ready_mono hr (Ne.symm hji)) h3.1 h4
end
section
variable {P : Program} {r : Option Nat} {n : Nat} {Q : PostT} {ρ : Env} {ds : List Deferred} {H R A B X : HP} {all : List Oper} {d : Option Nat} {t t' : TypeId} {pos : String} {aft : Array Edge} {v : Value} {jt i : Nat} {ord : List (Nat × Bool)} {ph : Bool}
def held (B : HP) (ph : Bool) : HP := bif ph then emp else B
def DwF (P : Program) (r : Option Nat) (n : Nat) (all : List Oper) (B : HP) (jt : Nat) (Q : PostT) (ds : List Deferred) (ph : Bool) (ord : List (Nat × Bool)) (ρ : Env) (X : HP) : Prop :=
  tame all.toArray = true → ∀ g a listed, ordOk all.toArray false 0 ord listed = true → Shut .any all.toArray listed → listed.getD jt false = ph →
    Rep n ρ a → a.defers = ds → hAnyF (fen r) P .any all.toArray g B jt (fun a H => ∃ ρ, Rep n ρ a ∧ a.defers = ds ∧ Q .normal ρ ds H) ord.length listed a (held B ph * X)
theorem Bfj_held {l : Array Bool} (h : l.getD jt false = ph) : Bfj B jt l = held B ph := by unfold Bfj held; rw [h]
theorem DwF.nil (h : Q .normal ρ ds X) : DwF P r n all B jt Q ds true [] ρ X := fun _ g a listed hok _ hj hr hd =>
  ⟨by rw [Bfj_held hj]; exact .drop _ _, by simpa [ordOk] using hok, ρ, hr, hd, by rw [show held B true = emp from rfl, emp_star]; exact h⟩
theorem wanted_gy {op : Op} {gd : Option (Nat × Bool)} {a : Act} (hg : Gy all ρ gd) (hr : Rep n ρ a) : Region.wanted ⟨d, op, t, pos, aft, gd⟩ (yielded all.toArray a.tmps) = true := by
  cases gd with
  | none => rfl
  | some jb =>
    obtain ⟨j, b⟩ := jb
    obtain ⟨oj, dj, h1, h2, h3⟩ := hg
    have := hr.2 dj _ h3
    simp [Region.wanted, yielded, h1, h2, this]
theorem DwF.step {op : Op} {gd : Option (Nat × Bool)} {B2 : HP} (hi : all[i]? = some ⟨d, op, t, pos, aft, gd⟩) (hd : dOk n d = true) (hij : Nat.beq i jt = false)
    (hB2 : ∀ l, Shut .any all.toArray l → l.getD i false = false → Ent (Bfj B jt l) B2)
    (hy : ∀ g a, Rep n ρ a → YQ P all.toArray g B2 ⟨d, op, t, pos, aft, gd⟩ v a) (h : DwF P r n all B jt Q ds ph ord (putE d v ρ) X) : DwF P r n all B jt Q ds ph ((i, false) :: ord) ρ X := by
  intro ht g a listed hok hsh hj hr hds
  simp only [ordOk, Bool.and_eq_true, Bool.or_eq_true] at hok
  obtain ⟨⟨⟨hrd, hfr⟩, _⟩, hok'⟩ := hok
  have hne : i ≠ jt := Nat.ne_of_beq_eq_false hij
  have hrd' : i ∈ Region.ready .any all.toArray listed := by simpa using hrd
  have hi' : all.toArray[i]? = some ⟨d, op, t, pos, aft, gd⟩ := by simpa using hi
  refine hAnyF_first ht (fun _ => trivial) hi' hne hB2 ord.length listed a (held B ph * X) hsh (by rw [Bfj_held hj]; exact .drop _ _) (Region.free_spec hi' hfr) hrd' (hy g a hr) ?_
  exact h ht g _ _ hok' (hsh.put hrd') (by rw [getD_set_ne false hne]; exact hj) (hr.putE hd v) (by cases d <;> exact hds)
theorem DwF.q {op : Op} {gd : Option (Nat × Bool)} (hi : all[i]? = some ⟨d, op, t, pos, aft, gd⟩) (hd : dOk n d = true) (hij : (!Nat.beq i jt && waits .any all.toArray 12 jt i) = true) (hg : Gy all ρ gd)
    (hpu : Pu P n ρ B op t v) (h : DwF P r n all B jt Q ds ph ord (putE d v ρ) X) : DwF P r n all B jt Q ds ph ((i, false) :: ord) ρ X := by
  simp only [Bool.and_eq_true, Bool.not_eq_true'] at hij
  refine DwF.step hi hd hij.1 (B2 := B) (fun l hsh hun => ?_) (fun g a hr => .inl ⟨wanted_gy hg hr, fun w hs => hpu.2 _ _ _ _ g w a hr hs⟩) h
  have : l.getD jt false = false := by
    cases e : l.getD jt false with
    | false => rfl
    | true => have := waits_listed hsh 12 jt i hij.2 e; rw [hun] at this; cases this
  rw [Bfj_held this]; exact .refl _
theorem DwF.f {op : Op} {gd : Option (Nat × Bool)} (hi : all[i]? = some ⟨d, op, t, pos, aft, gd⟩) (hd : dOk n d = true) (hij : Nat.beq i jt = false) (hg : Gy all ρ gd)
    (hpu : Pu P n ρ emp op t v) (h : DwF P r n all B jt Q ds ph ord (putE d v ρ) X) : DwF P r n all B jt Q ds ph ((i, false) :: ord) ρ X :=
  DwF.step hi hd hij (B2 := emp) (fun l _ _ => Ent.emp _) (fun g a hr => .inl ⟨wanted_gy hg hr, fun w hs => hpu.2 _ _ _ _ g w a hr hs⟩) h
def loudF (P : Program) (r : Option Nat) (n : Nat) (all : List Oper) (B : HP) (jt : Nat) (Q : PostT) (ds : List Deferred) (ord : List (Nat × Bool)) : PostT := fun e ρ ds' H => e = .normal ∧ ds' = ds ∧ DwF P r n all B jt Q ds true ord ρ H
theorem loudF.go (h : DwF P r n all B jt Q ds true ord ρ H) : loudF P r n all B jt Q ds ord .normal ρ ds H := ⟨rfl, rfl, h⟩
theorem DwF.l {op : Op} {gd : Option (Nat × Bool)} (hi : all[i]? = some ⟨d, op, t, pos, aft, gd⟩) (hg : Gy all ρ gd) (hij : (ph || Nat.beq i jt) = true)
    (h : Ow P r n all [⟨d, op, t, pos, aft, none⟩] (loudF P r n all B jt Q ds ord) ρ ds (held B ph * X)) : DwF P r n all B jt Q ds ph ((i, true) :: ord) ρ X := by
  intro ht g a listed hok hsh hj hr hds
  simp only [ordOk, Bool.and_eq_true, Bool.or_eq_true] at hok
  obtain ⟨⟨hrd, _⟩, hok'⟩ := hok
  have hrd' : Region.ready .any all.toArray listed = [i] := by simpa using hrd
  have hmem : i ∈ Region.ready .any all.toArray listed := by rw [hrd']; simp
  have hi' : all.toArray[i]? = some ⟨d, op, t, pos, aft, gd⟩ := by simpa using hi
  have hw := wanted_gy (d := d) (op := op) (t := t) (pos := pos) (aft := aft) hg hr
  have hjn : (listed.setIfInBounds i true).getD jt false = true := by
    cases ph with
    | true => exact getD_set_true hj
    | false =>
      have hij' : i = jt := Nat.eq_of_beq_eq_true (by simpa using hij)
      subst hij'
      have hun := (mem_ready.1 hmem).1
      have hlt : i < listed.size := by
        rcases Nat.lt_or_ge i listed.size with h' | h'
        · exact h'
        · simp [Array.getElem?_eq_none h'] at hun
      simp [hlt]
  change hAnyF (fen r) P .any all.toArray g B jt _ (ord.length + 1) listed a (held B ph * X)
  refine And.intro (by rw [Bfj_held hj]; exact .drop _ _) (And.intro (fun h0 => by rw [hrd'] at h0; cases h0) (fun k hk => ?_))
  rw [hrd'] at hk
  obtain rfl : k = i := by simpa using hk
  unfold hStep
  simp only [hi', hw, if_true]
  refine .inr fun w hs => ?_
  have h1 := h g w a hr hds hs
  simp only [wpListIn, Region.wanted, if_true] at h1
  have hno : ∀ e a w, e ≠ .normal → ¬ toQ n g (loudF P r n all B jt Q ds ord) e a w := fun e a w hne ⟨_, _, _, _, h5⟩ => hne h5.1
  have h2 : Oper.wpIn (fen r) 0 P ⟨d, op, t, pos, aft, gd⟩ a w (toQ n g (loudF P r n all B jt Q ds ord) .normal) (toQ n g (loudF P r n all B jt Q ds ord)) := h1
  have h3 : Oper.wpIn (fen r) 0 P ⟨d, op, t, pos, aft, gd⟩ a w (toQ n g (loudF P r n all B jt Q ds ord) .normal) noQ := by
    unfold Oper.wpIn at *
    refine ⟨h2.1, ?_⟩
    have h2 := h2.2
    generalize ((⟨d, op, t, pos, aft, gd⟩ : Oper).semAt (fen r).round a.eval).run P w = x at *
    cases x with
    | ok x w' =>
      cases x <;> simp only [Oper.uponIn] at h2 ⊢ <;>
        first
          | exact h2
          | exact ⟨h2.1, CallsIn.mono h2.2 (fun e w'' he => by cases e <;> first | exact he | exact (hno _ _ _ (by simp) he).elim | (obtain ⟨_, _, hf⟩ := he; exact (hno _ _ _ (by simp) hf).elim))⟩
          | exact ⟨h2.1, RoundIn.mono h2.2 (fun e w'' he => by cases e <;> first | exact he | exact (hno _ _ _ (by simp) he).elim | (obtain ⟨_, _, hf⟩ := he; exact (hno _ _ _ (by simp) hf).elim))⟩
    | halt x w' => cases x <;> simp only [Oper.uponIn] at h2 ⊢ <;> first | exact h2 | exact (hno _ _ _ (by simp) h2).elim
  refine Oper.wpIn_mono ?_ h3
  rintro a' w' ⟨ρ', H', h4, h5, _, h6, h7⟩
  have h8 := h7 ht g a' _ hok' (hsh.put hmem) hjn h4 h6
  rw [show held B true = emp from rfl, emp_star] at h8
  exact ⟨H', h5, h8⟩
theorem DwF.b {op : Op} {gd : Option (Nat × Bool)} (hi : all[i]? = some ⟨d, op, t, pos, aft, gd⟩) (hg : Gy all ρ gd) (hij : Nat.beq i jt = true)
    (h : Ow P r n all [⟨d, op, t, pos, aft, none⟩] (loudF P r n all B jt Q ds ord) ρ ds (B * X)) : DwF P r n all B jt Q ds false ((i, true) :: ord) ρ X := DwF.l hi hg (by simpa using hij) h
theorem DwF.a {op : Op} {gd : Option (Nat × Bool)} (hi : all[i]? = some ⟨d, op, t, pos, aft, gd⟩) (hg : Gy all ρ gd)
    (h : Ow P r n all [⟨d, op, t, pos, aft, none⟩] (loudF P r n all B jt Q ds ord) ρ ds X) : DwF P r n all B jt Q ds true ((i, true) :: ord) ρ X := DwF.l hi hg rfl (Ow.heq (emp_star X) h)
theorem Cw.drawF {id : Nat} (B : HP) (jt : Nat) (ord : List (Nat × Bool)) (hp : Pk H B X) (hm : P.follows .mixedOrders = true) (hok : (tame all.toArray && ordOk all.toArray false 0 ord (Array.replicate all.length false) && Nat.beq ord.length all.length) = true)
    (h : DwF P r n all B jt Q ds false ord ρ X) : Cw P r n (.region id all.toArray true) Q ρ ds H := by
  simp only [Bool.and_eq_true] at hok
  obtain ⟨⟨h1, h2⟩, h4⟩ := hok
  have h4 := Nat.eq_of_beq_eq_true h4
  intro g w a hr hd hs
  refine wpIn_region_any hm ?_
  have hh := h h1 g a _ h2
    (fun k ok hk hl e he hb => by
      rcases Nat.lt_or_ge k all.length with h' | h'
      · simp [h'] at hl
      · simp [Nat.not_lt.2 h'] at hl)
    (by
      rcases Nat.lt_or_ge jt all.length with h' | h'
      · simp [h']
      · simp [Nat.not_lt.2 h']) hr hd
  rw [h4] at hh
  exact wpAnyIn_of_hAnyF (fun _ => trivial) h1 (fun a H w hs ⟨ρ, h5, h6, h7⟩ => ⟨ρ, H, h5, hs, h6 ▸ h7⟩) _ _ _ _ _ (St.drew _ (hs.mono (Ent.of_eq hp))) hh
end
end Go.Sl
namespace Go.Sl
open Go Go.Proofs
set_option linter.unusedVariables false
set_option linter.unusedSimpArgs false
attribute [local irreducible] andI orI xorI IntKind.wrap star Ow Cw Pk Pu Dw DwF thenQ blockQ retQ loudQ loudF Cr
def rdr (A : HP) (br : Nat) (l : List Int) (bad : Bool) : HP := ex fun x : Option Addr × (Nat × Nat) => lift (Vw A x.1 x.2.1 x.2.2 l ∧ x.2.1 ≤ 1000000000000) * cl br [.slice x.1 x.2.1 x.2.2, .bool bad]
def rest1 (l : List Int) : List Int := l.drop (readR l).2.toNat
def bad1c (l : List Int) : Bool := decide ((readR l).2 = 0)
end Go.Sl
namespace Go.Sl
open Go Go.Proofs
set_option linter.unusedVariables false
set_option linter.unusedSimpArgs false
attribute [local irreducible] andI orI xorI IntKind.wrap star Ow Cw Pk Pu Dw DwF thenQ blockQ retQ loudQ loudF Cr
end Go.Sl
namespace Go.Sl
open Go Go.Proofs
set_option linter.unusedVariables false
set_option linter.unusedSimpArgs false
attribute [local irreducible] andI orI xorI IntKind.wrap star Ow Cw Pk Pu Dw DwF thenQ blockQ retQ loudQ loudF Cr rdr
section
variable {P : Program} {r : Option Nat} {n : Nat} {Q : PostT} {ρ : Env} {ds : List Deferred} {H R : HP} {all rest : List Oper} {d : Option Nat} {t t' : TypeId} {pos : String} {aft : Array Edge} {x y : Operand} {bb : Nat} {zc : List Value} {b o : Nat} {l : List Int} {v : Int}
end
abbrev PSt := List Int × (List Int × Bool)
def stepP (c : Int) (i : Nat) (s : PSt) : PSt := if c / 2 ^ i % 2 = 0 then s else (s.1.set i (readR s.2.1).1, rest1 s.2.1, (s.2.2 || bad1c s.2.1) || decide ((readR s.2.1).1 = 0))
def foldP (c : Int) (l : List Int) (b : Bool) : Nat → PSt
  | 0 => ([0, 0, 0, 0, 0, 0], l, b)
  | i + 1 => stepP c i (foldP c l b i)
def itemR (l : List Int) (b : Bool) : PSt := if l = [] ∨ 63 < l[0]! then ([0, 0, 0, 0, 0, 0], l, true) else foldP l[0]! (l.drop 1) b 6
structure RiS where
  i : Nat
  s : PSt
end Go.Sl
namespace Go.Sl
open Go Go.Proofs
set_option linter.unusedVariables false
set_option linter.unusedSimpArgs false
attribute [local irreducible] andI orI xorI IntKind.wrap star Ow Cw Pk Pu Dw DwF thenQ blockQ retQ loudQ loudF Cr rdr
def itOf : List Int → It
  | [a, b, c, d, e, f] => ⟨a, b, c, d, e, f⟩
  | _ => default
def readIt : Nat → List Int → List It → Option (List It × List Int)
  | 0, l, acc => some (acc, l)
  | n + 1, l, acc => if (itemR l false).2.2 = true then none else readIt n (itemR l false).2.1 (acc ++ [itOf (itemR l false).1])
def decB (l : List Int) : List It × Int := if (readR l).2 = 0 ∨ (readR l).1 < 0 then ([], 12) else if 20000 < (readR l).1 then ([], 13) else match readIt (readR l).1.toNat (rest1 l) [] with
  | none => ([], 12)
  | some (L, r) => if r = [] then (L, 0) else ([], 12)
def decR (l : List Int) : List It × Int := if l.take 2 = [104, 119] then decB (l.drop 2) else ([], 12)
structure DeS where
  i : Nat
  sv : SV
  acc : List It
  l : List Int
end Go.Sl
namespace Go.Sl
open Go
set_option linter.unusedVariables false
end Go.Sl
namespace Go.Sl
open Go Go.Proofs
instance : TyE Tryd.prog 31 [true, true] := ⟨by kernel_rfl⟩
instance : TyE Tryd.prog 34 [true, true, true, true, true, true] := ⟨by kernel_rfl⟩
end Go.Sl
namespace Go.Sl
open Go Go.Proofs
set_option linter.unusedVariables false
set_option linter.unusedSimpArgs false
attribute [local irreducible] andI orI xorI IntKind.wrap star Ow Cw Pk Pu Dw DwF thenQ blockQ retQ loudQ loudF Cr rdr
abbrev fitIt : It := ⟨1, 2, 0, 0, 0, -3⟩
end Go.Sl
namespace Go.Sl
open Go Go.Proofs
set_option linter.unusedVariables false
set_option linter.unusedSimpArgs false
attribute [local irreducible] andI orI xorI IntKind.wrap star Ow Cw Pk Pu Dw DwF thenQ blockQ retQ loudQ loudF Cr rdr
section
variable {P : Program} {r : Option Nat} {n : Nat} {Q : PostT} {ρ : Env} {ds : List Deferred} {H : HP} {all : List Oper}
end
end Go.Sl
namespace Go.Sl
open Go
set_option linter.unusedVariables false
abbrev Byts (l : List Int) : Prop := ∀ c ∈ l, 0 ≤ c ∧ c ≤ 255
end Go.Sl
namespace Go.Sl
open Go
set_option linter.unusedVariables false
end Go.Sl
namespace Go.Sl
open Go Go.Proofs
set_option linter.unusedVariables false
set_option linter.unusedSimpArgs false
attribute [local irreducible] andI orI xorI IntKind.wrap star Ow Cw Pk Pu Dw DwF thenQ blockQ retQ loudQ loudF Cr rdr
end Go.Sl
namespace Go.Sl
open Go
set_option linter.unusedVariables false
set_option linter.unusedSimpArgs false
universe u
variable {P : Program} {r : Option Nat} {n : Nat} {Q : PostT} {ρ : Env} {ds : List Deferred} {H A R : HP} {t t' t'' T e : TypeId} {x y : Operand} {all rest : List Oper} {d : Option Nat} {pos : String} {aft : Array Edge} {v v2 : Value} {s bb kk m cap : Nat} {zc cs : List Value} {k k' : IntKind} {i : Int} {α : Type} {a : Option Addr} {ts : Array TypeId}
theorem putL_mid (us p mm q : List Value) (h : us.length = mm.length) : putL (p ++ (mm ++ q)) p.length us = p ++ (us ++ q) := by
  rw [putL_append us p (mm ++ q) (by simp; omega), List.drop_append, h, List.drop_length, List.nil_append, Nat.sub_self, List.drop_zero]
theorem flat_split {f : α → List Value} (L : List α) (j : Nat) (hj : j < L.length) : L.flatMap f = (L.take j).flatMap f ++ (f L[j] ++ (L.drop (j + 1)).flatMap f) := by
  conv => lhs; rw [← List.take_append_drop j L, List.drop_eq_getElem_cons hj, List.flatMap_append, List.flatMap_cons]
theorem flat_set {f : α → List Value} (L : List α) (j : Nat) (w : α) (hj : j < L.length) : (L.set j w).flatMap f = (L.take j).flatMap f ++ (f w ++ (L.drop (j + 1)).flatMap f) := by
  rw [List.set_eq_take_append_cons_drop, if_pos hj, List.flatMap_append, List.flatMap_cons]
end Go.Sl
namespace Go.Sl
open Go Go.Proofs
set_option linter.unusedVariables false
set_option linter.unusedSimpArgs false
attribute [local irreducible] andI orI xorI IntKind.wrap star Ow Cw Pk Pu Dw DwF thenQ blockQ retQ loudQ loudF Cr rdr
end Go.Sl
namespace Go.Sl
open Go
set_option linter.unusedVariables false
set_option linter.unusedSimpArgs false
universe u
section
variable {P : Program} {r : Option Nat} {n : Nat} {Q : PostT} {ρ : Env} {ds : List Deferred} {H A R : HP} {t t' t'' T e : TypeId} {x y : Operand} {all rest : List Oper} {d : Option Nat} {pos : String} {aft : Array Edge} {v v2 : Value} {s bb kk m cap n2 : Nat} {zc cs : List Value} {k k' : IntKind} {i : Int} {α : Type} {a : Option Addr} {ts : Array TypeId}
end
inductive Od
  | seq (l : List (Nat × Bool))
  | q (i : Nat) (T : Od)
  | b (i j : Nat) (T T' : Od)
def Od.len : Od → Nat
  | .seq l => l.length
  | .q _ T => T.len + 1
  | .b _ _ T _ => T.len + 1
def odOk (ops : Array Oper) : Od → Array Bool → Bool
  | .seq l, listed => ordOk ops false 0 l listed
  | .q i T, listed => (Region.ready .any ops listed).contains i && Region.free .any ops listed i && odOk ops T (listed.setIfInBounds i true)
  | .b i j T T', listed => (Region.ready .any ops listed == [i, j]) && (Nat.beq T.len T'.len) && (odOk ops T (listed.setIfInBounds i true) && odOk ops T' (listed.setIfInBounds j true))
section
variable {P : Program} {r : Option Nat} {n : Nat} {Q : PostT} {ρ : Env} {ds : List Deferred} {H R A B X : HP} {all : List Oper} {d d' : Option Nat} {t t' : TypeId} {pos pos' : String} {aft aft' : Array Edge} {v : Value} {jt i j : Nat} {ord : List (Nat × Bool)} {T T' : Od}
def Dt (P : Program) (r : Option Nat) (n : Nat) (all : List Oper) (B : HP) (Q : PostT) (ds : List Deferred) (T : Od) (ρ : Env) (X : HP) : Prop :=
  tame all.toArray = true → ∀ g a listed, odOk all.toArray T listed = true → Shut .any all.toArray listed → left all.toArray listed ≤ T.len →
    Rep n ρ a → a.defers = ds → hAny (fen r) P .any all.toArray g B false (fun a H => ∃ ρ, Rep n ρ a ∧ a.defers = ds ∧ Q .normal ρ ds H) T.len listed a (B * X)
theorem Dt.seq (h : Dw P r n all B false 0 Q ds ord ρ X) : Dt P r n all B Q ds (.seq ord) ρ X := fun ht g a listed hok hsh hle hr hd =>
  h (fun h => by cases h) (.inr rfl) ht g a listed hok hsh (.inr (.inr rfl)) hle hr hd
theorem Dt.q {op : Op} {gd : Option (Nat × Bool)} (hi : all[i]? = some ⟨d, op, t, pos, aft, gd⟩) (hd : dOk n d = true) (hg : Gy all ρ gd)
    (hpu : Pu P n ρ B op t v) (h : Dt P r n all B Q ds T (putE d v ρ) X) : Dt P r n all B Q ds (.q i T) ρ X := by
  intro ht g a listed hok hsh hle hr hds
  simp only [odOk, Bool.and_eq_true] at hok
  obtain ⟨⟨hrd, hfr⟩, hok'⟩ := hok
  have hrd' : i ∈ Region.ready .any all.toArray listed := by simpa using hrd
  have hi' : all.toArray[i]? = some ⟨d, op, t, pos, aft, gd⟩ := by simpa using hi
  have hlt := (Array.getElem?_eq_some_iff.1 hi').1
  have hw := wanted_gy (d := d) (op := op) (t := t) (pos := pos) (aft := aft) hg hr
  have hlp := left_put (ops := all.toArray) hlt (mem_ready.1 hrd').1
  refine hAny_first ht (fun _ => trivial) (tl := false) (jt := 0) (fun h => by cases h) hi' (.inr rfl) (.inr rfl) T.len listed a (B * X) hsh (.inr rfl) (.drop _ _) (by simpa [Od.len] using hle) (Region.free_spec hi' hfr) hrd' (.inl ⟨hw, fun w hs => hpu.2 _ _ _ _ g w a hr hs⟩) ?_
  exact h ht g _ _ hok' (hsh.put hrd') (by simp only [Od.len] at hle; omega) (hr.putE hd v) (by cases d <;> exact hds)
def loudT (P : Program) (r : Option Nat) (n : Nat) (all : List Oper) (B : HP) (Q : PostT) (ds : List Deferred) (T : Od) : PostT := fun e ρ ds' H => e = .normal ∧ ds' = ds ∧ ∃ X, H = B * X ∧ Dt P r n all B Q ds T ρ X
theorem loudT.go (hp : Pk H B X) (h : Dt P r n all B Q ds T ρ X) : loudT P r n all B Q ds T .normal ρ ds H := ⟨rfl, rfl, X, hp, h⟩
theorem loudT_step {op : Op} {gd : Option (Nat × Bool)} {g : Gh} {a : Act} {listed : Array Bool} (ht : tame all.toArray = true) (hi : all[i]? = some ⟨d, op, t, pos, aft, gd⟩) (hg : Gy all ρ gd)
    (h : Ow P r n all [⟨d, op, t, pos, aft, none⟩] (loudT P r n all B Q ds T) ρ ds (B * X)) (hok : odOk all.toArray T (listed.setIfInBounds i true) = true) (hsh : Shut .any all.toArray listed) (hmem : i ∈ Region.ready .any all.toArray listed)
    (hle : left all.toArray listed ≤ T.len + 1) (hr : Rep n ρ a) (hds : a.defers = ds) :
    hStep (fen r) P all.toArray g B i (hAny (fen r) P .any all.toArray g B false (fun a H => ∃ ρ, Rep n ρ a ∧ a.defers = ds ∧ Q .normal ρ ds H) T.len (listed.setIfInBounds i true)) a (B * X) := by
  have hi' : all.toArray[i]? = some ⟨d, op, t, pos, aft, gd⟩ := by simpa using hi
  have hlt := (Array.getElem?_eq_some_iff.1 hi').1
  have hlp := left_put (ops := all.toArray) hlt (mem_ready.1 hmem).1
  have hw := wanted_gy (d := d) (op := op) (t := t) (pos := pos) (aft := aft) hg hr
  unfold hStep
  simp only [hi', hw, if_true]
  refine .inr fun w hs => ?_
  have h1 := h g w a hr hds hs
  simp only [wpListIn, Region.wanted, if_true] at h1
  have hno : ∀ e a w, e ≠ .normal → ¬ toQ n g (loudT P r n all B Q ds T) e a w := fun e a w hne ⟨_, _, _, _, h5⟩ => hne h5.1
  have h2 : Oper.wpIn (fen r) 0 P ⟨d, op, t, pos, aft, gd⟩ a w (toQ n g (loudT P r n all B Q ds T) .normal) (toQ n g (loudT P r n all B Q ds T)) := h1
  have h3 : Oper.wpIn (fen r) 0 P ⟨d, op, t, pos, aft, gd⟩ a w (toQ n g (loudT P r n all B Q ds T) .normal) noQ := by
    unfold Oper.wpIn at *
    refine ⟨h2.1, ?_⟩
    have h2 := h2.2
    generalize ((⟨d, op, t, pos, aft, gd⟩ : Oper).semAt (fen r).round a.eval).run P w = x at *
    cases x with
    | ok x w' =>
      cases x <;> simp only [Oper.uponIn] at h2 ⊢ <;>
        first
          | exact h2
          | exact ⟨h2.1, CallsIn.mono h2.2 (fun e w'' he => by cases e <;> first | exact he | exact (hno _ _ _ (by simp) he).elim | (obtain ⟨_, _, hf⟩ := he; exact (hno _ _ _ (by simp) hf).elim))⟩
          | exact ⟨h2.1, RoundIn.mono h2.2 (fun e w'' he => by cases e <;> first | exact he | exact (hno _ _ _ (by simp) he).elim | (obtain ⟨_, _, hf⟩ := he; exact (hno _ _ _ (by simp) hf).elim))⟩
    | halt x w' => cases x <;> simp only [Oper.uponIn] at h2 ⊢ <;> first | exact h2 | exact (hno _ _ _ (by simp) h2).elim
  refine Oper.wpIn_mono ?_ h3
  rintro a' w' ⟨ρ', H', h4, h5, _, h6, X', rfl, h8⟩
  exact ⟨B * X', h5, h8 ht g a' _ hok (hsh.put hmem) (by omega) h4 h6⟩
theorem Dt.b {op op' : Op} {gd gd' : Option (Nat × Bool)} (hi : all[i]? = some ⟨d, op, t, pos, aft, gd⟩) (hj : all[j]? = some ⟨d', op', t', pos', aft', gd'⟩) (hg : Gy all ρ gd) (hg' : Gy all ρ gd')
    (h : Ow P r n all [⟨d, op, t, pos, aft, none⟩] (loudT P r n all B Q ds T) ρ ds (B * X))
    (h' : Ow P r n all [⟨d', op', t', pos', aft', none⟩] (loudT P r n all B Q ds T') ρ ds (B * X)) : Dt P r n all B Q ds (.b i j T T') ρ X := by
  intro ht g a listed hok hsh hle hr hds
  simp only [odOk, Bool.and_eq_true] at hok
  obtain ⟨⟨hrd, hln⟩, hok1, hok2⟩ := hok
  have hln := Nat.eq_of_beq_eq_true hln
  have hrd' : Region.ready .any all.toArray listed = [i, j] := by simpa using hrd
  change hAny (fen r) P .any all.toArray g B false _ (T.len + 1) listed a (B * X)
  refine And.intro (Ent.drop _ _) (And.intro (fun h0 => by rw [hrd'] at h0; cases h0) (fun k hk => ?_))
  have hmem : k ∈ Region.ready .any all.toArray listed := hk
  rw [hrd'] at hk
  have hk2 : k = i ∨ k = j := by simpa using hk
  rcases hk2 with rfl | rfl
  · exact loudT_step ht hi hg h hok1 hsh hmem hle hr hds
  · rw [hln]; exact loudT_step ht hj hg' h' hok2 hsh hmem (by rw [← hln]; exact hle) hr hds
theorem Cw.drawT {id : Nat} (B : HP) (T : Od) (hH : Pk H B X) (hm : P.follows .mixedOrders = true) (hok : (tame all.toArray && odOk all.toArray T (Array.replicate all.length false) && Nat.beq T.len all.length) = true)
    (h : Dt P r n all B Q ds T ρ X) : Cw P r n (.region id all.toArray true) Q ρ ds H := by
  simp only [Bool.and_eq_true] at hok
  obtain ⟨⟨h1, h2⟩, h4⟩ := hok
  have h4 := Nat.eq_of_beq_eq_true h4
  intro g w a hr hd hs
  refine wpIn_region_any hm ?_
  have hh := h h1 g a _ h2
    (fun k ok hk hl e he hb => by
      rcases Nat.lt_or_ge k all.length with h' | h'
      · simp [h'] at hl
      · simp [Nat.not_lt.2 h'] at hl)
    (by unfold left; rw [h4]; exact Nat.le_trans List.countP_le_length (by simp)) hr hd
  rw [h4] at hh
  exact wpAnyIn_of_hAny (fun _ => trivial) h1 (fun a H w hs ⟨ρ, h5, h6, h7⟩ => ⟨ρ, H, h5, hs, h6 ▸ h7⟩) _ _ _ _ _ (St.drew _ (hs.mono (Ent.of_eq hH))) hh
end
section
open Go.ChangeShapes Go.WideShapes Go.ChangeAt Go.RowKit
variable {H : Type} {enc : TypeId × Value → H} {P : Program} {W : World} {t e : TypeId} {v : Value} {d : DataW H} {p : List MemPlace}
theorem ro_slice0 {α : Type} [Inhabited α] {dc : α → List Value} {I : α → Prop} {s : Nat} (ht : P.underlying t = some (.slice e)) (hc : P.cellsOf e = s) (hs : ∀ x, (dc x).length = s)
    (hel : ∀ n cs y, DataW.trod enc P W 0 (fun _ => true) true n e cs = some y → ∃ x, I x ∧ cs = dc x)
    {base : Nat} (hv : Value.okWide P W .any base t v) (h : DataW.Trod enc P W 0 (fun _ => true) true t v d p) :
    ∃ (a : Option Addr) (c : Nat) (l : List α), v = .slice a l.length c ∧ l.length ≤ 9223372036854775807 ∧ Ro (Sl.all W) a l.length s (l.flatMap dc) ∧ (∀ x ∈ l, I x) ∧ Len d l.length ∧ (a = none → c = 0) ∧ l.length ≤ c := by
  obtain ⟨a, c, l, rfl, h1, h2, h3, h4⟩ := ro_slice ht hc hs hel hv h
  obtain ⟨fuel, hf⟩ := h
  refine ⟨a, c, l, rfl, h1, h2, h3, h4, ?_⟩
  rcases DataW.trod_slice ht hf with ⟨hcs, hx⟩ | ⟨a', len', cap', elems, rest, n, _, hcs, hx, hb, hl, hm, hlen, hel', _, _⟩
  · simp [Value.cells] at hcs
    obtain ⟨rfl, hl0, rfl⟩ := hcs
    exact ⟨fun _ => rfl, by simp [hl0]⟩
  · simp [Value.cells] at hcs
    obtain ⟨rfl, rfl, rfl⟩ := hcs
    exact ⟨(fun h => by cases h), hl⟩
end
section
variable {P : Program} {n : Nat} {ρ : Env} {H R : HP} {t t' T e : TypeId} {x y : Operand} {k : IntKind} {b o j m cap s bb : Nat} {zc : List Value}
theorem Pu.idxC [TT : TyU P T (.slice e)] [S : TyS P e s bb zc] (hx : ev ρ x = some (.slice (some ⟨b, o, none⟩) m cap)) (hy : ev ρ y = some (.int k (j : Int))) (hj : j < m) :
    Pu P n ρ H (.indexAddr T x y) t (.pointer (some ⟨b, o + j * s, none⟩)) := by
  have := Pu.idx (P := P) (n := n) (H := H) (t := t) (TT := TT) (S := S) hx hy ⟨by omega, by omega⟩
  rwa [Int.toNat_natCast, addr_add] at this
end
end Go.Sl
