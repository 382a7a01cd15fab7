/-
  Sl, second part: the walk's judgements over an environment (an association list of slots), deferred calls and a heap's word; the rules of control. Any program.
-/
import Derived.Test.YteomgcebbjoklaaSlA
namespace Go.Sl
open Go
set_option linter.unusedVariables false
universe u

abbrev Env := List (Nat × Value)

def lk : Env → Nat → Option Value
  | [], _ => none
  | (k, v) :: l, j => bif Nat.beq k j then some v else lk l j

def Rep (n : Nat) (ρ : Env) (a : Act) : Prop := a.tmps.size = n ∧ ∀ j v, lk ρ j = some v → a.tmps[j]? = some v

/-- What an operand is. -/
def ev (ρ : Env) : Operand → Option Value
  | .tmp t => lk ρ t
  | .const v => some v
  | .global g => some (.pointer (some ⟨g, 0, none⟩))
  | .func f => some (.func (.func f) #[] #[])

theorem ev_eval {n : Nat} {ρ : Env} {a : Act} (h : Rep n ρ a) {x : Operand} {v : Value} (hx : ev ρ x = some v) : a.eval x = v := by
  cases x with
  | tmp t => have := h.2 t v hx; simp [Act.eval, this]
  | const w => simpa [ev, Act.eval] using hx
  | global g => simpa [ev, Act.eval] using hx
  | func f => simpa [ev, Act.eval] using hx

theorem Rep.put {n : Nat} {ρ : Env} {a : Act} (h : Rep n ρ a) {d : Nat} (hd : Nat.blt d n = true) (v : Value) : Rep n ((d, v) :: ρ) (a.put (some d) v) := by
  have hd' : d < n := Nat.le_of_ble_eq_true hd
  refine ⟨by simp [Act.put, h.1], fun j u hj => ?_⟩
  simp only [lk] at hj
  cases e : Nat.beq d j with
  | true =>
    have : d = j := Nat.eq_of_beq_eq_true e
    subst this
    rw [e] at hj
    simp at hj
    subst hj
    simp [Act.put, h.1, hd']
  | false =>
    have hne : d ≠ j := Nat.ne_of_beq_eq_false e
    rw [e] at hj
    simp only [cond_false] at hj
    have := h.2 j u hj
    simp [Act.put, Array.getElem?_setIfInBounds_ne hne, this]

theorem Rep.put_none {n : Nat} {ρ : Env} {a : Act} (h : Rep n ρ a) (v : Value) : Rep n ρ (a.put none v) := h

/-- Each slot of ρ' is known in ρ, as it says. -/
def Sub (ρ : Env) : Env → Prop
  | [] => True
  | (j, v) :: l => lk ρ j = some v ∧ Sub ρ l
theorem Sub.spec {ρ : Env} : ∀ {ρ' : Env}, Sub ρ ρ' → ∀ j v, lk ρ' j = some v → lk ρ j = some v
  | [], _, j, v, h => by cases h
  | (k, u) :: l, hs, j, v, h => by
    simp only [lk] at h
    cases e : Nat.beq k j with
    | true =>
      have : k = j := Nat.eq_of_beq_eq_true e
      subst this
      rw [e] at h; simp at h; subst h; exact hs.1
    | false => rw [e] at h; exact hs.2.spec j v h
theorem Rep.sub {n : Nat} {ρ ρ' : Env} {a : Act} (h : Rep n ρ a) (hs : Sub ρ ρ') : Rep n ρ' a := ⟨h.1, fun j v hj => h.2 j v (hs.spec j v hj)⟩

/-- The fence that lets all by, in a round or none. -/
def fen (r : Option Nat) : Fence := { Fence.wide with round := r }
theorem fen_none : fen none = Fence.wide := rfl
theorem fen_in (l : Nat) : (fen none).inRound l = fen (some l) := rfl

abbrev PostT := Exit → Env → List Deferred → HP → Prop
def toQ (n : Nat) (g : Gh) (Q : PostT) : Exit → Act → World → Prop := fun e a w => ∃ ρ H, Rep n ρ a ∧ St g w H ∧ Q e ρ a.defers H

/-- CODE: from whatever state that fits, it comes to a state that Q takes. -/
def Cw (P : Program) (r : Option Nat) (n : Nat) (c : Code) (Q : PostT) (ρ : Env) (ds : List Deferred) (H : HP) : Prop :=
  ∀ g w a, Rep n ρ a → a.defers = ds → St g w H → c.wpIn (fen r) 0 P (toQ n g Q) a w

def thenQ (K : Env → List Deferred → HP → Prop) (Q : PostT) : PostT
  | .normal => K
  | e => Q e
def blockQ (id : Nat) (Q : PostT) : PostT
  | .exit id' => bif Nat.beq id' id then Q .normal else Q (.exit id')
  | e => Q e

section
variable {P : Program} {r : Option Nat} {n : Nat} {Q : PostT} {ρ : Env} {ds : List Deferred} {H : HP}

theorem Cw.mono {c : Code} {Q' : PostT} (h : Cw P r n c Q ρ ds H) (hq : ∀ e ρ ds H, Q e ρ ds H → Q' e ρ ds H) : Cw P r n c Q' ρ ds H :=
  fun g w a hr hd hs => wpIn_mono (h g w a hr hd hs) fun e a w ⟨ρ', H', h1, h2, h3⟩ => ⟨ρ', H', h1, h2, hq _ _ _ _ h3⟩
theorem Cw.ent {c : Code} {H' : HP} (he : Ent H H') (h : Cw P r n c Q ρ ds H') : Cw P r n c Q ρ ds H := fun g w a hr hd hs => h g w a hr hd (hs.mono he)
theorem Cw.heq {c : Code} {H' : HP} (he : H = H') (h : Cw P r n c Q ρ ds H') : Cw P r n c Q ρ ds H := he ▸ h
theorem Cw.sub {c : Code} {ρ' : Env} (hs : Sub ρ ρ') (h : Cw P r n c Q ρ' ds H) : Cw P r n c Q ρ ds H := fun g w a hr hd hst => h g w a (hr.sub hs) hd hst
theorem Cw.ex {α : Sort u} {c : Code} {A : α → HP} (h : ∀ x, Cw P r n c Q ρ ds (A x)) : Cw P r n c Q ρ ds (Sl.ex A) :=
  fun g w a hr hd hs => let ⟨x, hx⟩ := St.ex.1 hs; h x g w a hr hd hx
theorem Cw.exs {α : Sort u} {c : Code} {A : α → HP} {R : HP} (h : ∀ x, Cw P r n c Q ρ ds (A x * R)) : Cw P r n c Q ρ ds (Sl.ex A * R) := by
  rw [ex_star]; exact Cw.ex h
theorem Cw.lift {p : Prop} {c : Code} {R : HP} (h : p → Cw P r n c Q ρ ds R) : Cw P r n c Q ρ ds (Sl.lift p * R) :=
  fun g w a hr hd hs => let ⟨x, hx⟩ := St.lift.1 hs; h x g w a hr hd hx

theorem Cw.skip (h : Q .normal ρ ds H) : Cw P r n .skip Q ρ ds H := fun g w a hr hd hs => wpIn_skip ⟨ρ, H, hr, hs, hd ▸ h⟩
theorem Cw.label {l : Nat} (h : Q .normal ρ ds H) : Cw P r n (.label l) Q ρ ds H := fun g w a hr hd hs => wpIn_label ⟨ρ, H, hr, hs, hd ▸ h⟩
theorem Cw.exit {id : Nat} (h : Q (.exit id) ρ ds H) : Cw P r n (.exit id) Q ρ ds H := fun g w a hr hd hs => wpIn_exit ⟨ρ, H, hr, hs, hd ▸ h⟩
theorem Cw.ret (h : Q .ret ρ ds H) : Cw P r n .ret Q ρ ds H := fun g w a hr hd hs => wpIn_ret ⟨ρ, H, hr, hs, hd ▸ h⟩
theorem Cw.goto {l : Nat} (h : Q (.goto l) ρ ds H) : Cw P r n (.goto l) Q ρ ds H := fun g w a hr hd hs => wpIn_goto ⟨ρ, H, hr, hs, hd ▸ h⟩

theorem Cw.seq {x y : Code} (h : Cw P r n x (thenQ (fun ρ ds H => Cw P r n y Q ρ ds H) Q) ρ ds H) : Cw P r n (.seq x y) Q ρ ds H := by
  intro g w a hr hd hs
  refine wpIn_seq (wpIn_mono (h g w a hr hd hs) ?_)
  rintro e a w ⟨ρ', H', h1, h2, h3⟩
  cases e with
  | normal => exact h3 g w a h1 rfl h2
  | exit id => exact ⟨ρ', H', h1, h2, h3⟩
  | goto l => exact ⟨ρ', H', h1, h2, h3⟩
  | ret => exact ⟨ρ', H', h1, h2, h3⟩
  | panic c => exact ⟨ρ', H', h1, h2, h3⟩
  | outgrown => exact ⟨ρ', H', h1, h2, h3⟩

theorem Cw.cond {c : Operand} {x y : Code} {b : Bool} (hc : ev ρ c = some (.bool b)) (ht : b = true → Cw P r n x Q ρ ds H) (hf : b = false → Cw P r n y Q ρ ds H) :
    Cw P r n (.cond c x y) Q ρ ds H := by
  intro g w a hr hd hs
  refine wpIn_cond_split (ev_eval hr hc) (fun e => ht e g w a hr hd hs) (fun e => hf e g w a hr hd hs)
theorem Cw.condp {c : Operand} {x y : Code} {p : Prop} [Decidable p] (hc : ev ρ c = some (.bool (decide p))) (ht : p → Cw P r n x Q ρ ds H) (hf : ¬ p → Cw P r n y Q ρ ds H) :
    Cw P r n (.cond c x y) Q ρ ds H := Cw.cond hc (fun h => ht (of_decide_eq_true h)) (fun h => hf (of_decide_eq_false h))
theorem Cw.cond_t {c : Operand} {x y : Code} {b : Bool} (hc : ev ρ c = some (.bool b)) (hb : b = true) (ht : Cw P r n x Q ρ ds H) :
    Cw P r n (.cond c x y) Q ρ ds H := Cw.cond hc (fun _ => ht) (fun h => by rw [hb] at h; cases h)
theorem Cw.cond_f {c : Operand} {x y : Code} {b : Bool} (hc : ev ρ c = some (.bool b)) (hb : b = false) (ht : Cw P r n y Q ρ ds H) :
    Cw P r n (.cond c x y) Q ρ ds H := Cw.cond hc (fun h => by rw [hb] at h; cases h) (fun _ => ht)

theorem Cw.block {id : Nat} {c : Code} (h : Cw P r n c (blockQ id Q) ρ ds H) : Cw P r n (.block id c) Q ρ ds H := by
  intro g w a hr hd hs
  refine wpIn_block (wpIn_mono (h g w a hr hd hs) ?_)
  rintro e a w ⟨ρ', H', h1, h2, h3⟩
  cases e with
  | exit id' =>
    simp only [blockQ] at h3
    simp only [Exit.inBlock]
    cases e : Nat.beq id' id with
    | true =>
      rw [e] at h3
      rw [if_pos (Nat.eq_of_beq_eq_true e)]
      exact ⟨ρ', H', h1, h2, h3⟩
    | false =>
      rw [e] at h3
      rw [if_neg (Nat.ne_of_beq_eq_false e)]
      exact ⟨ρ', H', h1, h2, h3⟩
  | normal => exact ⟨ρ', H', h1, h2, h3⟩
  | goto l => exact ⟨ρ', H', h1, h2, h3⟩
  | ret => exact ⟨ρ', H', h1, h2, h3⟩
  | panic c => exact ⟨ρ', H', h1, h2, h3⟩
  | outgrown => exact ⟨ρ', H', h1, h2, h3⟩

open Classical in
theorem least_exists {p : Nat → Prop} (h : ∃ n, p n) : ∃ n, p n ∧ ∀ m, p m → n ≤ m := by
  obtain ⟨n, hn⟩ := h
  induction n using Nat.strongRecOn with
  | _ n ih =>
    by_cases hm : ∃ m, m < n ∧ p m
    · obtain ⟨m, hlt, hp⟩ := hm; exact ih m hlt hp
    · exact ⟨n, hn, fun m hp => Nat.le_of_not_lt fun hlt => hm ⟨m, hlt, hp⟩⟩
open Classical in
noncomputable def least (p : Nat → Prop) : Nat := if h : ∃ n, p n then Classical.choose (least_exists h) else 0
theorem least_spec {p : Nat → Prop} (h : ∃ n, p n) : p (least p) ∧ ∀ m, p m → least p ≤ m := by
  unfold least; rw [dif_pos h]; exact Classical.choose_spec (least_exists h)

/-- A LOOP: at each round's head the state is one of the family (ρI s, HI s); each round lowers μ. -/
theorem Cw.loop {σ : Type u} {c : Code} (ρI : σ → Env) (HI : σ → HP) (μ : σ → Nat) (s₀ : σ) (h0 : Sub ρ (ρI s₀)) (hH : Ent H (HI s₀))
    (round : ∀ s, Cw P r n c (thenQ (fun ρ' ds' H' => ds' = ds ∧ ∃ s', μ s' < μ s ∧ Sub ρ' (ρI s') ∧ Ent H' (HI s')) Q) (ρI s) ds (HI s)) :
    Cw P r n (.loop c) Q ρ ds H := by
  intro g w a hr hd hs
  refine wpIn_loop (fun a w => ∃ s, Rep n (ρI s) a ∧ a.defers = ds ∧ St g w (HI s)) (fun a w => least fun k => ∃ s, μ s = k ∧ Rep n (ρI s) a ∧ a.defers = ds ∧ St g w (HI s))
    ⟨s₀, hr.sub h0, hd, hs.mono hH⟩ ?_
  rintro a w ⟨s₁, h1⟩
  obtain ⟨⟨s, hk, h2, h3, h4⟩, _⟩ := least_spec (p := fun k => ∃ s, μ s = k ∧ Rep n (ρI s) a ∧ a.defers = ds ∧ St g w (HI s)) ⟨_, s₁, rfl, h1⟩
  refine wpIn_mono (round s g w a h2 h3 h4) ?_
  rintro e a' w' ⟨ρ', H', g1, g2, g3⟩
  cases e with
  | normal =>
    obtain ⟨hds, s', hlt, hsub, hent⟩ := g3
    have h5 : Rep n (ρI s') a' ∧ a'.defers = ds ∧ St g w' (HI s') := ⟨g1.sub hsub, hds, g2.mono hent⟩
    refine ⟨⟨s', h5⟩, Nat.lt_of_le_of_lt ((least_spec (p := fun k => ∃ s, μ s = k ∧ Rep n (ρI s) a' ∧ a'.defers = ds ∧ St g w' (HI s)) ⟨_, s', rfl, h5⟩).2 _ ⟨s', rfl, h5⟩) ?_⟩
    rw [← hk]; exact hlt
  | exit id => exact ⟨ρ', H', g1, g2, g3⟩
  | goto l => exact ⟨ρ', H', g1, g2, g3⟩
  | ret => exact ⟨ρ', H', g1, g2, g3⟩
  | panic c => exact ⟨ρ', H', g1, g2, g3⟩
  | outgrown => exact ⟨ρ', H', g1, g2, g3⟩

/-! ### Operations -/
/-- OPERATIONS, in the order of the list ('all': the whole region, for the guards). -/
def Ow (P : Program) (r : Option Nat) (n : Nat) (all : List Oper) (l : List Oper) (Q : PostT) (ρ : Env) (ds : List Deferred) (H : HP) : Prop :=
  ∀ g w a, Rep n ρ a → a.defers = ds → St g w H → wpListIn (fen r) 0 P all.toArray (toQ n g Q) l a w

theorem Cw.region {id : Nat} {l : List Oper} (h : Ow P r n l l Q ρ ds H) : Cw P r n (.region id l.toArray false) Q ρ ds H :=
  fun g w a hr hd hs => wpIn_region_lit (h g w a hr hd hs)
variable {all rest : List Oper}
theorem Ow.nil (h : Q .normal ρ ds H) : Ow P r n all [] Q ρ ds H := fun g w a hr hd hs => ⟨ρ, H, hr, hs, hd ▸ h⟩
theorem Ow.ent {l : List Oper} {H' : HP} (he : Ent H H') (h : Ow P r n all l Q ρ ds H') : Ow P r n all l Q ρ ds H := fun g w a hr hd hs => h g w a hr hd (hs.mono he)
theorem Ow.heq {l : List Oper} {H' : HP} (he : H = H') (h : Ow P r n all l Q ρ ds H') : Ow P r n all l Q ρ ds H := he ▸ h
theorem Ow.ex {α : Sort u} {l : List Oper} {A : α → HP} (h : ∀ x, Ow P r n all l Q ρ ds (A x)) : Ow P r n all l Q ρ ds (Sl.ex A) :=
  fun g w a hr hd hs => let ⟨x, hx⟩ := St.ex.1 hs; h x g w a hr hd hx
theorem Ow.exs {α : Sort u} {l : List Oper} {A : α → HP} {R : HP} (h : ∀ x, Ow P r n all l Q ρ ds (A x * R)) : Ow P r n all l Q ρ ds (Sl.ex A * R) := by
  rw [ex_star]; exact Ow.ex h
theorem Ow.lift {p : Prop} {l : List Oper} {R : HP} (h : p → Ow P r n all l Q ρ ds R) : Ow P r n all l Q ρ ds (Sl.lift p * R) :=
  fun g w a hr hd hs => let ⟨x, hx⟩ := St.lift.1 hs; h x g w a hr hd hx

/-- The environment behind an operation. -/
def putE (d : Option Nat) (v : Value) (ρ : Env) : Env := match d with | some d => (d, v) :: ρ | none => ρ
def dOk (n : Nat) : Option Nat → Bool
  | some d => Nat.blt d n
  | none => true
theorem Rep.putE {a : Act} (h : Rep n ρ a) {d : Option Nat} (hd : dOk n d = true) (v : Value) : Rep n (Sl.putE d v ρ) (a.put d v) := by
  cases d with
  | none => exact h
  | some d => exact h.put hd v

theorem semAt_eq {o : Oper} (h : ∀ c, o.op ≠ .defer c) (ro : Option Nat) (ρ : Operand → Value) : o.semAt ro ρ = execOp ρ o := Oper.semAt_eq ro ρ o h

/-- ONE OPERATION THAT YIELDS A VALUE, the heap's word turned. -/
theorem Ow.value {d : Option Nat} {op : Op} {t : TypeId} {pos : String} {aft : Array Edge} {v : Value} {H' : HP} (hd : dOk n d = true) (hdf : ∀ c, op ≠ .defer c)
    (hrun : ∀ g w a, Rep n ρ a → St g w H → ∃ w', (execOp a.eval ⟨d, op, t, pos, aft, none⟩).run P w = .ok (.value v) w' ∧ St g w' H')
    (h : Ow P r n all rest Q (putE d v ρ) ds H') : Ow P r n all (⟨d, op, t, pos, aft, none⟩ :: rest) Q ρ ds H := by
  intro g w a hr hds hs
  obtain ⟨w', h1, h2⟩ := hrun g w a hr hs
  simp only [wpListIn, Region.wanted, if_true, Oper.wpIn]
  refine ⟨fun _ _ => trivial, ?_⟩
  rw [semAt_eq (o := ⟨d, op, t, pos, aft, none⟩) hdf, h1]
  exact h g w' _ (hr.putE hd v) (by cases d <;> exact hds) h2
/-- .. or nothing (a store). -/
theorem Ow.unit {d : Option Nat} {op : Op} {t : TypeId} {pos : String} {aft : Array Edge} {H' : HP} (hd : dOk n d = true) (hdf : ∀ c, op ≠ .defer c)
    (hrun : ∀ g w a, Rep n ρ a → St g w H → ∃ w', (execOp a.eval ⟨d, op, t, pos, aft, none⟩).run P w = .ok .skip w' ∧ St g w' H')
    (h : Ow P r n all rest Q (putE d undef ρ) ds H') : Ow P r n all (⟨d, op, t, pos, aft, none⟩ :: rest) Q ρ ds H := by
  intro g w a hr hds hs
  obtain ⟨w', h1, h2⟩ := hrun g w a hr hs
  simp only [wpListIn, Region.wanted, if_true, Oper.wpIn]
  refine ⟨fun _ _ => trivial, ?_⟩
  rw [semAt_eq (o := ⟨d, op, t, pos, aft, none⟩) hdf, h1]
  exact h g w' _ (hr.putE hd undef) (by cases d <;> exact hds) h2

/-- THE GUARD of an operation, where it says yes. -/
theorem Ow.guard_yes {d : Option Nat} {op : Op} {t : TypeId} {pos : String} {aft : Array Edge} {j : Nat} {b : Bool} {oj : Oper} {dj : Nat}
    (hj : all[j]? = some oj) (hdj : oj.dst = some dj) (hb : lk ρ dj = some (.bool b))
    (h : Ow P r n all (⟨d, op, t, pos, aft, none⟩ :: rest) Q ρ ds H) : Ow P r n all (⟨d, op, t, pos, aft, some (j, b)⟩ :: rest) Q ρ ds H := by
  intro g w a hr hds hs
  have h := h g w a hr hds hs
  have hy : yielded all.toArray a.tmps j = some b := by
    have := hr.2 dj _ hb
    simp [yielded, hj, hdj, this]
  simp only [wpListIn, Region.wanted, hy, if_true, BEq.rfl] at h ⊢
  exact h
/-- .. where it says no. -/
theorem Ow.guard_no {d : Option Nat} {op : Op} {t : TypeId} {pos : String} {aft : Array Edge} {j : Nat} {b : Bool} {oj : Oper} {dj : Nat} (hd : dOk n d = true)
    (hj : all[j]? = some oj) (hdj : oj.dst = some dj) (hb : lk ρ dj = some (.bool (!b)))
    (h : Ow P r n all rest Q (putE d undef ρ) ds H) : Ow P r n all (⟨d, op, t, pos, aft, some (j, b)⟩ :: rest) Q ρ ds H := by
  intro g w a hr hds hs
  have hy : yielded all.toArray a.tmps j = some (!b) := by
    have := hr.2 dj _ hb
    simp [yielded, hj, hdj, this]
  simp only [wpListIn, Region.wanted, hy]
  have : (some (!b) == some b) = false := by cases b <;> rfl
  rw [this]
  exact ⟨fun _ _ => trivial, h g w _ (hr.putE hd undef) (by cases d <;> exact hds) hs⟩
/-- A slot that holds a bool, whichever: both ways. -/
theorem Ow.split (b : Bool) {l : List Oper} (ht : b = true → Ow P r n all l Q ρ ds H) (hf : b = false → Ow P r n all l Q ρ ds H) : Ow P r n all l Q ρ ds H := by
  cases b
  · exact hf rfl
  · exact ht rfl
end
end Go.Sl
