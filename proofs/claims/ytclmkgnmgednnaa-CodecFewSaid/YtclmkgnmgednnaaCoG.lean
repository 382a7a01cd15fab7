/- What is decoded is what was encoded: whole scripts. -/
import Derived.Test.YtclmkgnmgednnaaCoF
import Derived.Test.YtclmkgnmgednnaaCo8
namespace Go.Sl
open Go
set_option linter.unusedVariables false
theorem readIt_back : ∀ (n : Nat) (l : List Int) (acc L : List It) (r : List Int), Byts l → readIt n l acc = some (L, r) → ∃ M, L = acc ++ M ∧ M.length = n ∧ (∀ x ∈ M, ItOk x) ∧ l = M.flatMap itB ++ r
  | 0, l, acc, L, r, hb, h => by
    simp only [readIt, Option.some.injEq, Prod.mk.injEq] at h
    obtain ⟨rfl, rfl⟩ := h
    exact ⟨[], by simp, rfl, by simp, by simp⟩
  | n + 1, l, acc, L, r, hb, h => by
    rw [readIt] at h
    split at h
    · cases h
    case isFalse hf =>
      generalize hS : itemR l false = S at h hf
      obtain ⟨xs, l1, b⟩ := S
      obtain rfl : b = false := by simpa using hf
      obtain ⟨h1, h2, h3⟩ := itemR_back hb hS
      obtain ⟨M, rfl, h5, h6, h7⟩ := readIt_back n l1 _ L r h2 h
      refine ⟨itOf xs :: M, by simp, by simp [h5], ?_, ?_⟩
      · intro x hx
        rcases List.mem_cons.1 hx with rfl | hx
        · exact h1
        · exact h6 x hx
      · rw [h3, h7, List.flatMap_cons, List.append_assoc]
theorem decR_back {l : List Int} {L : List It} (hb : Byts l) (h : decR l = (L, 0)) : encR L = l ∧ L.length ≤ 20000 ∧ ∀ x ∈ L, ItOk x := by
  unfold decR at h
  split at h
  case isFalse => simp at h
  case isTrue hp =>
    have hl : l = [104, 119] ++ l.drop 2 := by rw [← hp]; simp
    have hb2 : Byts (l.drop 2) := fun x hx => hb x (List.mem_of_mem_drop hx)
    generalize l.drop 2 = l1 at h hl hb2
    unfold decB at h
    split at h
    · simp at h
    case isFalse hn =>
      split at h
      · simp at h
      case isFalse hbig =>
        have hb1 : bad1 l1 = false := decide_eq_false (fun e => hn (.inl e))
        obtain ⟨hi, he⟩ := rest1_back hb2 hb1
        have hneg : ¬ (readR l1).1 < 0 := fun e => hn (.inr e)
        have hbr : Byts (rest1 l1) := fun x hx => hb2 x (List.mem_of_mem_drop hx)
        cases hr : readIt (readR l1).1.toNat (rest1 l1) [] with
        | none => rw [hr] at h; simp at h
        | some q =>
          obtain ⟨L', r⟩ := q
          rw [hr] at h
          simp only at h
          split at h
          case isFalse => simp at h
          case isTrue h0 =>
            subst h0
            obtain rfl : L' = L := by simpa using h
            obtain ⟨M, hM, h5, h6, h7⟩ := readIt_back _ _ _ _ _ hbr hr
            rw [List.nil_append] at hM
            subst hM
            have hlen : ((L'.length : Nat) : Int) = (readR l1).1 := by omega
            refine ⟨?_, by omega, h6⟩
            rw [hl, he, encR, hlen, h7, List.append_nil, List.append_assoc]
/-- What is no script is refused: too long, or none. -/
theorem decR_bad {l : List Int} {L : List It} {e : Int} (h : decR l = (L, e)) (he : e ≠ 0) : L = [] ∧ ((e = 13 ∧ l.take 2 = [104, 119] ∧ (readR (l.drop 2)).2 ≠ 0 ∧ 20000 < (readR (l.drop 2)).1) ∨ (e = 12 ∧ ¬ (l.take 2 = [104, 119] ∧ (readR (l.drop 2)).2 ≠ 0 ∧ 20000 < (readR (l.drop 2)).1))) := by
  unfold decR at h
  split at h
  case isFalse hp =>
    simp only [Prod.mk.injEq] at h
    obtain ⟨rfl, rfl⟩ := h
    exact ⟨rfl, .inr ⟨rfl, fun q => hp q.1⟩⟩
  case isTrue hp =>
    unfold decB at h
    split at h
    case isTrue hn =>
      simp only [Prod.mk.injEq] at h
      obtain ⟨rfl, rfl⟩ := h
      exact ⟨rfl, .inr ⟨rfl, fun q => by rcases hn with hn | hn; exact q.2.1 hn; omega⟩⟩
    case isFalse hn =>
      split at h
      case isTrue hbig =>
        simp only [Prod.mk.injEq] at h
        obtain ⟨rfl, rfl⟩ := h
        exact ⟨rfl, .inl ⟨rfl, hp, fun q => hn (.inl q), hbig⟩⟩
      case isFalse hbig =>
        cases hr : readIt (readR (l.drop 2)).1.toNat (rest1 (l.drop 2)) [] with
        | none =>
          rw [hr] at h
          simp only [Prod.mk.injEq] at h
          obtain ⟨rfl, rfl⟩ := h
          exact ⟨rfl, .inr ⟨rfl, fun q => hbig q.2.2⟩⟩
        | some q =>
          obtain ⟨L', r⟩ := q
          rw [hr] at h
          simp only at h
          split at h
          · simp only [Prod.mk.injEq] at h; exact absurd h.2.symm he
          · simp only [Prod.mk.injEq] at h
            obtain ⟨rfl, rfl⟩ := h
            exact ⟨rfl, .inr ⟨rfl, fun q => hbig q.2.2⟩⟩
end Go.Sl
