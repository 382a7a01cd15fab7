/- A scope through which the run goes without a goto. -/
import Derived.Test.YteomgcebbjoklaaSlN
namespace Go.Sl
open Go
theorem stepR_scope {P : Program} {b : Frame} {a : Act} {k : List Item} {cs : List Frame} {w : World} {c : Code} :
    step P (lone (b.atR a (.code (.scope c) :: k)) cs w) = .next (lone (b.atR a (.code c :: .inScope c :: k)) cs w) :=
  step_lone_go (by simp [stepG, stepG.exec, Frame.atR])
theorem stepR_inScope {P : Program} {b : Frame} {a : Act} {k : List Item} {cs : List Frame} {w : World} {c : Code} :
    step P (lone (b.atR a (.inScope c :: k)) cs w) = .next (lone (b.atR a k) cs w) :=
  step_lone_go (by simp [stepG, stepG.exec, Frame.atR])
theorem wpIn_scope {F : Fence} {n : Nat} {P : Program} {Q : Exit → Act → World → Prop} {a : Act} {w : World} {c : Code} (h : c.wpIn F n P (fun e a w => (∀ l, e ≠ .goto l) ∧ Q e a w) a w) : (Code.scope c).wpIn F n P Q a w := by
  intro b k cs hro hb hr
  have h0 : (lone (b.atR a (.code (.scope c) :: k)) cs w).fenced P F := fenced_calm hb hr rfl
  obtain ⟨e, a₁, w₁, ⟨hg, hq⟩, harr⟩ := h b (.inScope c :: k) cs hro hb hr
  cases e with
  | normal => exact ⟨.normal, a₁, w₁, hq, .head h0 stepR_scope (StepsIn.trans harr (.one (fenced_calm hb hr rfl) stepR_inScope))⟩
  | exit id =>
    have hx : exitTo id (.inScope c :: k) = exitTo id k := by simp [exitTo]
    exact ⟨.exit id, a₁, w₁, hq, fun k' hk => .head h0 stepR_scope (harr.1 k' (by rw [hx]; exact hk)),
      fun hr' hk => let ⟨k₁, h1, h2⟩ := harr.2 hr' (by rw [hx]; exact hk); ⟨k₁, h1, .head h0 stepR_scope h2⟩⟩
  | goto l => exact (hg l rfl).elim
  | ret => exact ⟨_, a₁, w₁, hq, .of_steps (.one h0 stepR_scope) harr⟩
  | panic ch => exact ⟨_, a₁, w₁, hq, .of_steps (.one h0 stepR_scope) harr⟩
  | outgrown => exact ⟨_, a₁, w₁, hq, .of_steps (.one h0 stepR_scope) harr⟩
def scopeQ (Q : PostT) : PostT
  | .goto _ => fun _ _ _ => False
  | e => Q e
section
variable {P : Program} {r : Option Nat} {n : Nat} {Q : PostT} {ρ : Env} {ds : List Deferred} {H : HP} {c : Code}
theorem Cw.scope (h : Cw P r n c (scopeQ Q) ρ ds H) : Cw P r n (.scope c) Q ρ ds H := by
  intro g w a hr hd hs
  refine wpIn_scope (wpIn_mono (h g w a hr hd hs) ?_)
  rintro e a w ⟨ρ', H', h1, h2, h3⟩
  cases e with
  | goto l => exact h3.elim
  | normal => exact ⟨fun l h => (by cases h), ρ', H', h1, h2, h3⟩
  | exit id => exact ⟨fun l h => (by cases h), ρ', H', h1, h2, h3⟩
  | ret => exact ⟨fun l h => (by cases h), ρ', H', h1, h2, h3⟩
  | panic c => exact ⟨fun l h => (by cases h), ρ', H', h1, h2, h3⟩
  | outgrown => exact ⟨fun l h => (by cases h), ρ', H', h1, h2, h3⟩
theorem scopeQ_n (h : Q .normal ρ ds H) : scopeQ Q .normal ρ ds H := h
theorem scopeQ_r (h : Q .ret ρ ds H) : scopeQ Q .ret ρ ds H := h
theorem scopeQ_e {id : Nat} (h : Q (.exit id) ρ ds H) : scopeQ Q (.exit id) ρ ds H := h
end
section
variable {P : Program} {r : Option Nat} {n : Nat} {Q : PostT} {ρ : Env} {ds : List Deferred} {H R A B X : HP} {all : List Oper} {d : Option Nat} {t t' : TypeId} {pos : String} {aft : Array Edge} {v : Value} {tl : Bool} {jt i : Nat} {ord : List (Nat × Bool)}
/-- A loud one that its guard passes over. -/
theorem Dw.sl {op : Op} {j : Nat} {b : Bool} {oj : Oper} {dj : Nat} (hi : all[i]? = some ⟨d, op, t, pos, aft, some (j, b)⟩) (hd : dOk n d = true)
    (h1 : all[j]? = some oj) (h2 : oj.dst = some dj) (h3 : lk ρ dj = some (.bool (!b))) (h : Dw P r n all B tl jt Q ds ord (putE d undef ρ) X) : Dw P r n all B tl jt Q ds ((i, true) :: ord) ρ X := by
  intro hl hj ht g a listed hok hsh hjt hle hr hds
  simp only [ordOk, Bool.and_eq_true, Bool.or_eq_true] at hok
  obtain ⟨⟨hrd, hjt'⟩, hok'⟩ := hok
  have hrd' : Region.ready .any all.toArray listed = [i] := by simpa using hrd
  have hmem : i ∈ Region.ready .any all.toArray listed := by rw [hrd']; simp
  have hi' : all.toArray[i]? = some ⟨d, op, t, pos, aft, some (j, b)⟩ := by simpa using hi
  have hlt := (Array.getElem?_eq_some_iff.1 hi').1
  have hlp := left_put (ops := all.toArray) hlt (mem_ready.1 hmem).1
  have hw : Region.wanted ⟨d, op, t, pos, aft, some (j, b)⟩ (yielded all.toArray a.tmps) = false := by
    have := hr.2 dj _ h3
    simp [Region.wanted, yielded, h1, h2, this]
  change hAny (fen r) P .any all.toArray g B tl _ (ord.length + 1) listed a (B * X)
  refine And.intro (.drop _ _) (And.intro (fun h0 => by rw [hrd'] at h0; cases h0) (fun k hk => ?_))
  rw [hrd'] at hk
  obtain rfl : k = i := by simpa using hk
  unfold hStep
  simp only [hi', hw]
  refine h hl hj ht g _ _ hok' (hsh.put hmem) ?_ (by simp only [List.length_cons] at hle; omega) (hr.putE hd undef) (by cases d <;> exact hds)
  rcases hjt with h9 | h9 | h9
  · cases h9
  · by_cases hkj : k = jt
    · simp only [hkj, bne_self_eq_false] at hjt'
      rcases hjt' with (h10 | h10) | h10
      · cases h10
      · exact .inr (.inr (by simpa using h10))
      · exact .inl (by simpa using h10)
    · exact .inr (.inl (by rw [getD_set_ne true hkj]; exact h9))
  · exact .inr (.inr h9)
end
end Go.Sl
