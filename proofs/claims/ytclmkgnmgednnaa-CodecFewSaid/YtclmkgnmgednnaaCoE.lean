/- What is encoded is decoded: plain mathematics. -/
import Derived.Test.YtclmkgnmgednnaaCo7
namespace Go.Sl
open Go
set_option linter.unusedVariables false
theorem num_pos (u : Nat) : 0 < (num u).length := List.length_pos_iff.2 (num_ne u)
theorem rest1_num {n : Int} (h : i64 n) (m : List Int) : rest1 (num (zz n) ++ m) = m ∧ bad1 (num (zz n) ++ m) = false := by
  have hr := readR_num h m
  have hp := num_pos (zz n)
  unfold rest1 bad1
  rw [hr]
  constructor
  · simp
  · exact decide_eq_false (by simp only; omega)
theorem step_ok {c : Int} {i : Nat} {n : Int} (m xs : List Int) (hc : c / 2 ^ i % 2 = if n ≠ 0 then 1 else 0) (hn : i64 n) :
    stepP c i (xs, ((if n ≠ 0 then num (zz n) else []) ++ m, false)) = (if n ≠ 0 then xs.set i n else xs, (m, false)) := by
  unfold stepP
  by_cases h : n ≠ 0
  · rw [if_pos h, if_pos h] at *
    obtain ⟨h1, h2⟩ := rest1_num hn m
    rw [if_neg (by rw [hc]; decide)]
    simp only [readR_num hn m, h1, h2, Bool.false_or]
    rw [decide_eq_false h]
  · rw [if_neg h, if_neg h] at *
    rw [if_pos hc]
    rfl
theorem pick_if (x : List Int) (i : Nat) (hx : x[i]? = some 0) (n : Int) : (if n ≠ 0 then x.set i n else x) = x.set i n := by
  by_cases h : n ≠ 0
  · rw [if_pos h]
  · obtain rfl : n = 0 := by simpa using h
    rw [if_neg h]
    have hlt := (List.getElem?_eq_some_iff.1 hx).1
    refine (List.ext_getElem? fun j => ?_)
    rw [List.getElem?_set]
    by_cases e : i = j
    · subst e; rw [if_pos rfl, if_pos hlt, hx]
    · rw [if_neg e]
theorem itemR_enc {x : It} (hx : ItOk x) (m : List Int) : itemR (itB x ++ m) false = (pl x, (m, false)) := by
  obtain ⟨n0, n1, n2, n3, n4, n5⟩ := x
  have h0 : i64 n0 := hx _ (by simp [pl])
  have h1 : i64 n1 := hx _ (by simp [pl])
  have h2 : i64 n2 := hx _ (by simp [pl])
  have h3 : i64 n3 := hx _ (by simp [pl])
  have h4 : i64 n4 := hx _ (by simp [pl])
  have h5 : i64 n5 := hx _ (by simp [pl])
  have hlt := mkP_lt ⟨n0, n1, n2, n3, n4, n5⟩ 6
  have two : ∀ (p : Prop) [Decidable p] (k : Nat), (if p then k else 0) = k * (if p then 1 else 0) := fun p _ k => by split <;> simp
  have bnd : ∀ (p : Prop) [Decidable p], (if p then (1 : Nat) else 0) ≤ 1 := fun p _ => by split <;> simp
  have cst : ∀ (p : Prop) [Decidable p], (if p then (1 : Int) else 0) = (((if p then (1 : Nat) else 0) : Nat) : Int) := fun p _ => by split <;> simp
  have e : mkP ⟨n0, n1, n2, n3, n4, n5⟩ 6 = (if n0 ≠ 0 then 1 else 0) + 2 * (if n1 ≠ 0 then 1 else 0) + 4 * (if n2 ≠ 0 then 1 else 0) + 8 * (if n3 ≠ 0 then 1 else 0) + 16 * (if n4 ≠ 0 then 1 else 0) + 32 * (if n5 ≠ 0 then 1 else 0) := by
    rw [← two, ← two, ← two, ← two, ← two]
    show 0 + (if n0 ≠ 0 then 2 ^ 0 else 0) + (if n1 ≠ 0 then 2 ^ 1 else 0) + (if n2 ≠ 0 then 2 ^ 2 else 0) + (if n3 ≠ 0 then 2 ^ 3 else 0) + (if n4 ≠ 0 then 2 ^ 4 else 0) + (if n5 ≠ 0 then 2 ^ 5 else 0) = _
    simp only [Nat.zero_add]
  have er : rsP ⟨n0, n1, n2, n3, n4, n5⟩ 6 ++ m = (if n0 ≠ 0 then num (zz n0) else []) ++ ((if n1 ≠ 0 then num (zz n1) else []) ++ ((if n2 ≠ 0 then num (zz n2) else []) ++ ((if n3 ≠ 0 then num (zz n3) else []) ++ ((if n4 ≠ 0 then num (zz n4) else []) ++ ((if n5 ≠ 0 then num (zz n5) else []) ++ m))))) := by
    show ((((((([] ++ (if n0 ≠ 0 then num (zz n0) else [])) ++ (if n1 ≠ 0 then num (zz n1) else [])) ++ (if n2 ≠ 0 then num (zz n2) else [])) ++ (if n3 ≠ 0 then num (zz n3) else [])) ++ (if n4 ≠ 0 then num (zz n4) else [])) ++ (if n5 ≠ 0 then num (zz n5) else [])) ++ m) = _
    simp only [List.nil_append, List.append_assoc]
  have b0 := bnd (n0 ≠ 0); have b1 := bnd (n1 ≠ 0); have b2 := bnd (n2 ≠ 0); have b3 := bnd (n3 ≠ 0); have b4 := bnd (n4 ≠ 0); have b5 := bnd (n5 ≠ 0)
  generalize hc : mkP ⟨n0, n1, n2, n3, n4, n5⟩ 6 = c at e hlt
  have g0 : (c : Int) / 2 ^ 0 % 2 = if n0 ≠ 0 then 1 else 0 := by rw [cst, e]; omega
  have g1 : (c : Int) / 2 ^ 1 % 2 = if n1 ≠ 0 then 1 else 0 := by rw [cst, e]; omega
  have g2 : (c : Int) / 2 ^ 2 % 2 = if n2 ≠ 0 then 1 else 0 := by rw [cst, e]; omega
  have g3 : (c : Int) / 2 ^ 3 % 2 = if n3 ≠ 0 then 1 else 0 := by rw [cst, e]; omega
  have g4 : (c : Int) / 2 ^ 4 % 2 = if n4 ≠ 0 then 1 else 0 := by rw [cst, e]; omega
  have g5 : (c : Int) / 2 ^ 5 % 2 = if n5 ≠ 0 then 1 else 0 := by rw [cst, e]; omega
  have hd : (((c : Int) :: (rsP ⟨n0, n1, n2, n3, n4, n5⟩ 6)) ++ m).drop 1 = rsP ⟨n0, n1, n2, n3, n4, n5⟩ 6 ++ m := rfl
  have hh : (((c : Int) :: (rsP ⟨n0, n1, n2, n3, n4, n5⟩ 6)) ++ m)[0]! = (c : Int) := rfl
  rw [itB, hc, itemR, hd, hh, if_neg (by
    rintro (h | h)
    · cases h
    · have : c < 64 := by simpa using hlt
      omega), er]
  simp only [foldP]
  rw [step_ok _ _ g0 h0, pick_if _ _ rfl, step_ok _ _ g1 h1, pick_if _ _ rfl, step_ok _ _ g2 h2, pick_if _ _ rfl, step_ok _ _ g3 h3, pick_if _ _ rfl, step_ok _ _ g4 h4, pick_if _ _ rfl, step_ok _ _ g5 h5, pick_if _ _ rfl]
  rfl
theorem readIt_enc : ∀ (L acc : List It) (m : List Int), (∀ x ∈ L, ItOk x) → readIt L.length (L.flatMap itB ++ m) acc = some (acc ++ L, m)
  | [], acc, m, _ => by simp [readIt]
  | x :: L, acc, m, h => by
    have hx := itemR_enc (h x (List.mem_cons_self ..)) (L.flatMap itB ++ m)
    rw [List.length_cons, readIt, List.flatMap_cons, List.append_assoc, hx]
    simp only [Bool.false_eq_true, if_false]
    rw [readIt_enc L _ m (fun y hy => h y (List.mem_cons_of_mem _ hy))]
    have : itOf (pl x) = x := rfl
    rw [this, List.append_assoc, List.singleton_append]
theorem decR_enc {L : List It} (h : ∀ x ∈ L, ItOk x) (hL : L.length ≤ 20000) : decR (encR L) = (L, 0) := by
  have hi : i64 (L.length : Int) := by omega
  have e : encR L = [104, 119] ++ (num (zz L.length) ++ L.flatMap itB) := by rw [encR, List.append_assoc]
  have hd : (encR L).drop 2 = num (zz L.length) ++ (L.flatMap itB ++ []) := by rw [e, List.append_nil]; rfl
  rw [decR, if_pos (by rw [e]; rfl), hd, decB]
  have hr := readR_num hi (L.flatMap itB ++ [])
  have hp := num_pos (zz (L.length : Int))
  obtain ⟨h1, h2⟩ := rest1_num hi (L.flatMap itB ++ [])
  rw [hr, h1]
  simp only
  rw [if_neg (by omega), if_neg (by omega), Int.toNat_natCast, readIt_enc L [] [] h]
  simp
end Go.Sl
