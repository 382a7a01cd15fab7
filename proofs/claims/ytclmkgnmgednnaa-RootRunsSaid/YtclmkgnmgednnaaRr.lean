/- RootRuns: what the map of registers has to do with the table. -/
import Derived.Test.YtclmkgnmgednnaaRg
import Derived.Test.YtclmkgnmgednnaaMq
namespace Go.Sl
open Go Go.Proofs
set_option linter.unusedVariables false
set_option linter.unusedSimpArgs false
instance : TyZ Try.prog 59 (.agg #[.int .i64 0, .int .i64 0]) := ⟨by kernel_rfl⟩
theorem set_at8 {T : List Slt} (h : T.length = 4) {i : Nat} (hi : i < 4) (x : Slt) : (T.set i x)[i]! = x := by simp [h, hi]
theorem take_18 (l : List Int) (i : Nat) (h : i < l.length) : l.take (i + 1) = l.take i ++ [l[i]!] := by rw [List.take_add_one]; simp [h]
theorem pkTwo8 {A B H R R2 : HP} (h : Pk H A R) (h2 : Pk R B R2) : Pk H (A * B) R2 := by unfold Pk at *; rw [h, h2, star_assoc]
abbrev rg2 (a b : Int) : Value := .agg #[vi a, vi b]
def rgV (x : Slt) : Option Value := x.map fun q => .agg (q.2.1.map vi).toArray
structure Wf7 (th : Int) (T : List Slt) : Prop where
  len : T.length = 4
  at_ : ∀ j : Nat, j < 4 → ∀ q : Nat × List Int × List Int, T[j]! = some q → (j : Int) < th ∧ (∃ a b, q.2.1 = [a, b]) ∧ q.2.2 = []
structure Tied7 (T : List Slt) (L : List (Int × Value)) : Prop where
  len : L.length = (lv T).length
  nod : (keysA L).Nodup
  look : ∀ x : Int, lookA L x = if 0 ≤ x ∧ x < 4 then rgV T[x.toNat]! else none
theorem lvN_set (T : List Slt) (i : Nat) (hi : i < T.length) (x : Slt) : ∀ j, (j ≤ i → lvN (T.set i x) j = lvN T j) ∧ (i < j → (lvN (T.set i x) j).length + (T[i]!).isSome.toNat = (lvN T j).length + x.isSome.toNat)
  | 0 => ⟨fun _ => rfl, fun h => by omega⟩
  | j + 1 => by
    obtain ⟨h1, h2⟩ := lvN_set T i hi x j
    constructor
    · intro h
      rw [lvN, lvN, h1 (by omega), List.getElem!_eq_getElem?_getD, List.getElem?_set_ne (by omega), ← List.getElem!_eq_getElem?_getD]
    · intro h
      by_cases e : i = j
      · subst e
        have e1 : (T.set i x)[i]! = x := by simp [hi]
        rw [lvN, lvN, h1 (Nat.le_refl _), e1]
        cases h3 : T[i]! <;> cases x <;> simp
      · have h2 := h2 (by omega)
        have e1 : (T.set i x)[j]! = T[j]! := by rw [List.getElem!_eq_getElem?_getD, List.getElem?_set_ne e, ← List.getElem!_eq_getElem?_getD]
        rw [lvN, lvN, e1, List.length_append, List.length_append]
        omega
theorem set_ne7 {T : List Slt} {i j : Nat} (e : i ≠ j) (x : Slt) : (T.set i x)[j]! = T[j]! := by rw [List.getElem!_eq_getElem?_getD, List.getElem?_set_ne e, ← List.getElem!_eq_getElem?_getD]
theorem Wf7.set {th : Int} {T : List Slt} (h : Wf7 th T) {i : Nat} (hi : i < 4) {x : Slt} (hx : ∀ q, x = some q → (i : Int) < th ∧ (∃ a b, q.2.1 = [a, b]) ∧ q.2.2 = []) : Wf7 th (T.set i x) where
  len := by rw [List.length_set]; exact h.len
  at_ j hj q hq := by
    by_cases e : i = j
    · subst e; rw [set_at8 h.len hi] at hq; exact hx q hq
    · rw [set_ne7 e] at hq; exact h.at_ j hj q hq
theorem Tied7.put {th : Int} {T : List Slt} {L : List (Int × Value)} (h : Tied7 T L) (hW : Wf7 th T) {i : Nat} (hi : i < 4) (q : Nat × List Int × List Int) {v : Value} (hv : v = .agg (q.2.1.map vi).toArray) : Tied7 (T.set i (some q)) (setA L i v) where
  len := by
    have h1 := (lvN_set T i (by rw [hW.len]; exact hi) (some q) 4).2 hi
    have h2 := len_set L i v
    have hl := h.look (i : Int); rw [if_pos (by omega), Int.toNat_natCast] at hl; rw [hl] at h2
    have h3 := h.len
    show _ = (lvN (T.set i (some q)) 4).length
    have h4 : (lv T).length = (lvN T 4).length := rfl
    rw [h2]
    cases h5 : T[i]! with
    | none => rw [h5] at h1; simp [rgV] at h1 ⊢; omega
    | some q' => rw [h5] at h1; simp [rgV] at h1 ⊢; omega
  nod := nodup_set _ h.nod
  look x := by
    rw [lookA_set, h.look]
    by_cases e : x = i
    · subst e
      rw [if_pos rfl, if_pos (by omega), Int.toNat_natCast, set_at8 hW.len hi, hv]; rfl
    · rw [if_neg e]
      by_cases hx : 0 ≤ x ∧ x < 4
      · rw [if_pos hx, if_pos hx, set_ne7 (by omega)]
      · rw [if_neg hx, if_neg hx]
theorem Tied7.del {th : Int} {T : List Slt} {L : List (Int × Value)} (h : Tied7 T L) (hW : Wf7 th T) {i : Nat} (hi : i < 4) : Tied7 (T.set i none) (delA L i) where
  len := by
    have h1 := (lvN_set T i (by rw [hW.len]; exact hi) none 4).2 hi
    have h2 := len_del L i
    have hl := h.look (i : Int); rw [if_pos (by omega), Int.toNat_natCast] at hl; rw [hl] at h2
    have h3 := h.len
    show _ = (lvN (T.set i none) 4).length
    have h4 : (lv T).length = (lvN T 4).length := rfl
    cases h5 : T[i]! with
    | none => rw [h5] at h1 h2; simp [rgV] at h1 h2 ⊢; omega
    | some q' => rw [h5] at h1 h2; simp [rgV] at h1 h2 ⊢; omega
  nod := nodup_del h.nod
  look x := by
    rw [lookA_del h.nod, h.look]
    by_cases e : x = i
    · subst e
      rw [if_pos rfl, if_pos (by omega), Int.toNat_natCast, set_at8 hW.len hi]; rfl
    · rw [if_neg e]
      by_cases hx : 0 ≤ x ∧ x < 4
      · rw [if_pos hx, if_pos hx, set_ne7 (by omega)]
      · rw [if_neg hx, if_neg hx]
theorem Tied7.del0 {T : List Slt} {L : List (Int × Value)} (h : Tied7 T L) {x : Int} (hx : lookA L x = none) : Tied7 T (delA L x) := by rw [del_none hx]; exact h
theorem Tied7.putx {th : Int} {T : List Slt} {L : List (Int × Value)} (h : Tied7 T L) (hW : Wf7 th T) {x : Int} (hx : 0 ≤ x ∧ x < 4) (q : Nat × List Int × List Int) {v : Value} (hv : v = .agg (q.2.1.map vi).toArray) : Tied7 (T.set x.toNat (some q)) (setA L x v) := by
  obtain ⟨i, rfl⟩ : ∃ i : Nat, x = i := ⟨x.toNat, by omega⟩
  rw [Int.toNat_natCast]; exact h.put hW (by omega) q hv
theorem Tied7.delx {th : Int} {T : List Slt} {L : List (Int × Value)} (h : Tied7 T L) (hW : Wf7 th T) {x : Int} (hx : 0 ≤ x ∧ x < 4) : Tied7 (T.set x.toNat none) (delA L x) := by
  obtain ⟨i, rfl⟩ : ∃ i : Nat, x = i := ⟨x.toNat, by omega⟩
  rw [Int.toNat_natCast]; exact h.del hW (by omega)
/-- What is looked up: of a thread that lives, or of none. -/
theorem Tied7.get {th : Int} {T : List Slt} {L : List (Int × Value)} (h : Tied7 T L) (hW : Wf7 th T) (x : Int) : ∃ (r0 r1 : Int) (o : Bool), (lookA L x).getD (rg2 0 0) = rg2 r0 r1 ∧ (lookA L x).isSome = o ∧
    (o = true ∧ (∃ nb : Nat, (0 ≤ x ∧ x < 4) ∧ x < th ∧ T[x.toNat]! = some (nb, [r0, r1], [])) ∨ o = false ∧ lookA L x = none ∧ r0 = 0 ∧ r1 = 0 ∧ (¬ (0 ≤ x ∧ x < 4) ∨ (0 ≤ x ∧ x < 4) ∧ T[x.toNat]! = none)) := by
  by_cases hx : 0 ≤ x ∧ x < 4
  · have hl := h.look x
    rw [if_pos hx] at hl
    cases hq : T[x.toNat]! with
    | none => rw [hq] at hl; exact ⟨0, 0, false, by rw [hl]; rfl, by rw [hl]; rfl, .inr ⟨rfl, hl, rfl, rfl, .inr ⟨hx, rfl⟩⟩⟩
    | some q =>
      obtain ⟨h1, ⟨a, b, hab⟩, h3⟩ := hW.at_ x.toNat (by omega) q hq
      rw [hq] at hl
      obtain ⟨nb, rs, sk⟩ := q
      simp only at hab h3
      subst hab; subst h3
      exact ⟨a, b, true, by rw [hl]; rfl, by rw [hl]; rfl, .inl ⟨rfl, nb, hx, by omega, rfl⟩⟩
  · have hl := h.look x
    rw [if_neg hx] at hl
    exact ⟨0, 0, false, by rw [hl]; rfl, by rw [hl]; rfl, .inr ⟨rfl, hl, rfl, rfl, .inl hx⟩⟩
theorem Wf7.small {th : Int} {T : List Slt} (h : Wf7 th T) : SmallT T := fun x hx => by
  obtain ⟨j, hj, rfl⟩ := List.getElem_of_mem hx
  have hg : T[j]! = T[j] := getElem!_pos T j hj
  cases hq : T[j] with
  | none => simp [rts]
  | some q =>
    obtain ⟨_, ⟨a, b, hab⟩, h3⟩ := h.at_ j (by rw [← h.len]; exact hj) q (by rw [hg, hq])
    show (q.2.1 ++ q.2.2).length < 1000000
    rw [hab, h3]; simp
end Go.Sl
