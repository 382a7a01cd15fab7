/- What is decoded is what was encoded: plain mathematics. -/
import Derived.Test.YtclmkgnmgednnaaCoE
namespace Go.Sl
open Go
set_option linter.unusedVariables false
abbrev Byts (l : List Int) : Prop := ∀ c ∈ l, 0 ≤ c ∧ c ≤ 255
theorem rest1_back {l : List Int} (hb : Byts l) (h : bad1 l = false) : i64 (readR l).1 ∧ l = num (zz (readR l).1) ++ rest1 l := by
  rcases readR_cases l hb with ⟨n, m, hn, h1, h2⟩ | ⟨h1, _⟩
  · have e : (readR l).1 = n := by rw [h2]
    have e2 : rest1 l = m := by unfold rest1; rw [h2]; simp [h1]
    rw [e, e2]; exact ⟨hn, h1⟩
  · unfold bad1 at h; rw [h1] at h; simp at h
theorem step_back {c : Int} {i : Nat} {xs xs' l l' : List Int} {b : Bool} (hb : Byts l) (h : stepP c i (xs, (l, b)) = (xs', (l', false))) :
    b = false ∧ Byts l' ∧ ∃ n, i64 n ∧ (c / 2 ^ i % 2 = if n ≠ 0 then 1 else 0) ∧ l = (if n ≠ 0 then num (zz n) else []) ++ l' ∧ xs' = if n ≠ 0 then xs.set i n else xs := by
  unfold stepP at h
  by_cases hz : c / 2 ^ i % 2 = 0
  · rw [if_pos hz] at h
    simp only [Prod.mk.injEq] at h
    obtain ⟨rfl, rfl, rfl⟩ := h
    exact ⟨rfl, hb, 0, by decide, by simpa using hz, by simp, by simp⟩
  · rw [if_neg hz] at h
    simp only [Prod.mk.injEq, Bool.or_eq_false_iff, decide_eq_false_iff_not] at h
    obtain ⟨rfl, rfl, ⟨h1, h2⟩, h3⟩ := h
    obtain ⟨h4, h5⟩ := rest1_back hb h2
    refine ⟨h1, fun c hc => hb c (by rw [h5]; exact List.mem_append_right _ hc), (readR l).1, h4, by rw [if_pos h3]; omega, by rw [if_pos h3]; exact h5, by rw [if_pos h3]⟩
theorem itemR_back {l xs r : List Int} (hb : Byts l) (h : itemR l false = (xs, (r, false))) : ItOk (itOf xs) ∧ Byts r ∧ l = itB (itOf xs) ++ r := by
  unfold itemR at h
  split at h
  · simp at h
  case isFalse hn =>
    cases l with
    | nil => exact absurd (.inl rfl) hn
    | cons c l =>
      have hc := hb c (List.mem_cons_self ..)
      have h63 : c ≤ 63 := by
        rcases Int.lt_or_le 63 c with h' | h'
        · exact absurd (.inr h') hn
        · exact h'
      have e0 : (c :: l)[0]! = c := rfl
      have e1 : (c :: l).drop 1 = l := rfl
      rw [e0, e1] at h
      have hb0 : Byts l := fun x hx => hb x (List.mem_cons_of_mem _ hx)
      simp only [foldP] at h
      generalize h0 : stepP c 0 ([0, 0, 0, 0, 0, 0], (l, false)) = s0 at h
      generalize h1 : stepP c 1 s0 = s1 at h
      generalize h2 : stepP c 2 s1 = s2 at h
      generalize h3 : stepP c 3 s2 = s3 at h
      generalize h4 : stepP c 4 s3 = s4 at h
      obtain ⟨x0, l0, b0⟩ := s0
      obtain ⟨x1, l1, b1⟩ := s1
      obtain ⟨x2, l2, b2⟩ := s2
      obtain ⟨x3, l3, b3⟩ := s3
      obtain ⟨x4, l4, b4⟩ := s4
      -- the bytes, forward
      have fwd : ∀ {c : Int} {i : Nat} {xs xs' l l' : List Int} {b b' : Bool}, Byts l → stepP c i (xs, (l, b)) = (xs', (l', b')) → Byts l' := by
        intro c i xs xs' l l' b b' hb h
        unfold stepP at h
        split at h
        · simp only [Prod.mk.injEq] at h; obtain ⟨_, rfl, _⟩ := h; exact hb
        · simp only [Prod.mk.injEq] at h; obtain ⟨_, rfl, _⟩ := h; exact fun x hx => hb x (List.mem_of_mem_drop hx)
      have y0 := fwd hb0 h0
      have y1 := fwd y0 h1
      have y2 := fwd y1 h2
      have y3 := fwd y2 h3
      have y4 := fwd y3 h4
      obtain ⟨rfl, y5, n5, i5, g5, e5, f5⟩ := step_back y4 h
      obtain ⟨rfl, _, n4, i4, g4, e4, f4⟩ := step_back y3 h4
      obtain ⟨rfl, _, n3, i3, g3, e3, f3⟩ := step_back y2 h3
      obtain ⟨rfl, _, n2, i2, g2, e2, f2⟩ := step_back y1 h2
      obtain ⟨rfl, _, n1, i1, g1, e1, f1⟩ := step_back y0 h1
      obtain ⟨_, _, n0, i0, g0, e0, f0⟩ := step_back hb0 h0
      rw [pick_if _ _ rfl] at f0
      subst f0
      rw [pick_if _ _ rfl] at f1
      subst f1
      rw [pick_if _ _ rfl] at f2
      subst f2
      rw [pick_if _ _ rfl] at f3
      subst f3
      rw [pick_if _ _ rfl] at f4
      subst f4
      rw [pick_if _ _ rfl] at f5
      subst f5
      have hx : itOf (((((([0, 0, 0, 0, 0, 0] : List Int).set 0 n0).set 1 n1).set 2 n2).set 3 n3 |>.set 4 n4).set 5 n5) = ⟨n0, n1, n2, n3, n4, n5⟩ := rfl
      rw [hx]
      refine ⟨?_, y5, ?_⟩
      · intro n hn
        simp only [pl, List.mem_cons, List.not_mem_nil, or_false] at hn
        rcases hn with rfl | rfl | rfl | rfl | rfl | rfl <;> assumption
      · have two : ∀ (p : Prop) [Decidable p] (k : Nat), (if p then k else 0) = k * (if p then 1 else 0) := fun p _ k => by split <;> simp
        have cst : ∀ (p : Prop) [Decidable p], (if p then (1 : Int) else 0) = (((if p then (1 : Nat) else 0) : Nat) : Int) := fun p _ => by split <;> simp
        have e : mkP ⟨n0, n1, n2, n3, n4, n5⟩ 6 = (if n0 ≠ 0 then 1 else 0) + 2 * (if n1 ≠ 0 then 1 else 0) + 4 * (if n2 ≠ 0 then 1 else 0) + 8 * (if n3 ≠ 0 then 1 else 0) + 16 * (if n4 ≠ 0 then 1 else 0) + 32 * (if n5 ≠ 0 then 1 else 0) := by
          rw [← two, ← two, ← two, ← two, ← two]
          show 0 + (if n0 ≠ 0 then 2 ^ 0 else 0) + (if n1 ≠ 0 then 2 ^ 1 else 0) + (if n2 ≠ 0 then 2 ^ 2 else 0) + (if n3 ≠ 0 then 2 ^ 3 else 0) + (if n4 ≠ 0 then 2 ^ 4 else 0) + (if n5 ≠ 0 then 2 ^ 5 else 0) = _
          simp only [Nat.zero_add]
        rw [cst] at g0 g1 g2 g3 g4 g5
        have hm : (mkP ⟨n0, n1, n2, n3, n4, n5⟩ 6 : Int) = c := by rw [e]; omega
        have er : rsP ⟨n0, n1, n2, n3, n4, n5⟩ 6 = ((((([] ++ (if n0 ≠ 0 then num (zz n0) else [])) ++ (if n1 ≠ 0 then num (zz n1) else [])) ++ (if n2 ≠ 0 then num (zz n2) else [])) ++ (if n3 ≠ 0 then num (zz n3) else [])) ++ (if n4 ≠ 0 then num (zz n4) else [])) ++ (if n5 ≠ 0 then num (zz n5) else []) := rfl
        rw [itB, hm, er, List.cons_append]
        congr 1
        rw [e0, e1, e2, e3, e4, e5]
        simp only [List.nil_append, List.append_assoc]
end Go.Sl
