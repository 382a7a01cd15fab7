/- What stands in a map behind a put and a delete. -/
import Derived.Test.YteomgcebbjoklaaMp
namespace Go.Sl
open Go
set_option linter.unusedVariables false
theorem lookA_set (a b : Int) (v : Value) : ∀ l, lookA (setA l a v) b = if b = a then some v else lookA l b
  | [] => by simp [setA, lookA]
  | p :: l => by
    have ih := lookA_set a b v l
    unfold setA
    by_cases h : a = p.1
    · rw [if_pos h]
      by_cases hb : b = a
      · simp [lookA, hb]
      · have : ¬ b = p.1 := by rw [← h]; exact hb
        simp [lookA, hb, this]
    · rw [if_neg h]
      unfold lookA
      by_cases hb : b = p.1
      · have : ¬ b = a := fun e => h (e.symm.trans hb)
        rw [if_pos hb, if_neg this, if_pos hb]
      · rw [if_neg hb, ih, if_neg hb]
abbrev keysA (l : List (Int × Value)) : List Int := l.map Prod.fst
theorem lookA_none : ∀ {l : List (Int × Value)} {a : Int}, a ∉ keysA l → lookA l a = none
  | [], _, _ => rfl
  | p :: l, a, h => by
    simp only [keysA, List.map_cons, List.mem_cons, not_or] at h
    rw [lookA, if_neg h.1]; exact lookA_none h.2
theorem lookA_mem : ∀ {l : List (Int × Value)} {a : Int}, lookA l a = none → a ∉ keysA l
  | [], _, _ => by simp [keysA]
  | p :: l, a, h => by
    unfold lookA at h
    split at h
    · cases h
    · rename_i e
      simp only [keysA, List.map_cons, List.mem_cons, not_or]
      exact ⟨e, lookA_mem h⟩
theorem keys_set : ∀ (l : List (Int × Value)) (a : Int) (v : Value), keysA (setA l a v) = if (lookA l a).isSome then keysA l else keysA l ++ [a]
  | [], a, v => by simp [setA, lookA, keysA]
  | p :: l, a, v => by
    have ih := keys_set l a v
    unfold setA lookA
    by_cases h : a = p.1
    · simp [h, keysA]
    · simp only [if_neg h, keysA, List.map_cons] at ih ⊢
      rw [ih]; split <;> simp
theorem nodup_set {l : List (Int × Value)} {a : Int} (v : Value) (h : (keysA l).Nodup) : (keysA (setA l a v)).Nodup := by
  rw [keys_set]
  split
  · exact h
  · rename_i e
    have he : lookA l a = none := by simpa using e
    have := lookA_mem he
    refine List.nodup_append.2 ⟨h, by simp, fun x hx y hy => ?_⟩
    rw [List.mem_singleton.1 hy]; intro e2; exact this (e2 ▸ hx)
theorem len_set (l : List (Int × Value)) (a : Int) (v : Value) : (setA l a v).length = if (lookA l a).isSome then l.length else l.length + 1 := by
  have := congrArg List.length (keys_set l a v)
  rw [keysA, List.length_map] at this
  rw [this]; split <;> simp [keysA]
theorem keys_del : ∀ (l : List (Int × Value)) (a : Int), keysA (delA l a) = (keysA l).erase a
  | [], a => by simp [delA, keysA]
  | p :: l, a => by
    have ih := keys_del l a
    unfold delA
    by_cases h : a = p.1
    · rw [if_pos h, keysA, keysA, List.map_cons, ← h, List.erase_cons_head]
    · rw [if_neg h]
      simp only [keysA, List.map_cons] at ih ⊢
      rw [List.erase_cons_tail (by simpa using fun e => h e.symm), ih]
theorem nodup_del {l : List (Int × Value)} {a : Int} (h : (keysA l).Nodup) : (keysA (delA l a)).Nodup := by
  rw [keys_del]; exact h.erase a
theorem lookA_del {l : List (Int × Value)} (h : (keysA l).Nodup) (a b : Int) : lookA (delA l a) b = if b = a then none else lookA l b := by
  induction l with
  | nil => simp [delA, lookA]
  | cons p l ih =>
    simp only [keysA, List.map_cons, List.nodup_cons] at h
    have ih := ih h.2
    unfold delA
    by_cases e : a = p.1
    · rw [if_pos e]
      by_cases hb : b = a
      · rw [if_pos hb, hb]; exact lookA_none (e ▸ h.1)
      · have : ¬ b = p.1 := by rw [← e]; exact hb
        rw [if_neg hb, lookA, if_neg this]
    · rw [if_neg e]
      unfold lookA
      by_cases hb : b = p.1
      · have : ¬ b = a := fun e2 => e (e2.symm.trans hb)
        rw [if_pos hb, if_neg this, if_pos hb]
      · rw [if_neg hb, ih, if_neg hb]
theorem len_del (l : List (Int × Value)) (a : Int) : (delA l a).length + (if (lookA l a).isSome then 1 else 0) = l.length := by
  induction l with
  | nil => simp [delA, lookA]
  | cons p l ih =>
    unfold delA lookA
    by_cases e : a = p.1
    · simp [e]
    · simp only [if_neg e, List.length_cons]; omega
theorem del_none : ∀ {l : List (Int × Value)} {a : Int}, lookA l a = none → delA l a = l
  | [], _, _ => rfl
  | p :: l, a, h => by
    unfold lookA at h
    split at h
    · cases h
    · rename_i e
      rw [delA, if_neg e, del_none h]
end Go.Sl
