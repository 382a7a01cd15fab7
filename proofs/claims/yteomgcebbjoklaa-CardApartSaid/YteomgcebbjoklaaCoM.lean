/- Numbers as bytes: plain mathematics. -/
import Derived.Test.YteomgcebbjoklaaSlW
namespace Go.Sl
open Go
set_option linter.unusedVariables false
/-- Zigzag, and back. -/
def zz (n : Int) : Nat := if 0 ≤ n then (2 * n).toNat else (-2 * n - 1).toNat
def unzz (u : Nat) : Int := if u % 2 = 0 then ((u / 2 : Nat) : Int) else -((u / 2 : Nat) : Int) - 1
theorem unzz_zz (n : Int) : unzz (zz n) = n := by unfold unzz zz; split <;> split <;> omega
theorem zz_unzz (u : Nat) : zz (unzz u) = u := by unfold unzz zz; split <;> split <;> omega
theorem zz_lt {n : Int} (h : -9223372036854775808 ≤ n ∧ n ≤ 9223372036854775807) : zz n < 18446744073709551616 := by unfold zz; split <;> omega
theorem unzz_i64 {u : Nat} (h : u < 18446744073709551616) : -9223372036854775808 ≤ unzz u ∧ unzz u ≤ 9223372036854775807 := by unfold unzz; split <;> omega
theorem zz_zero {n : Int} : zz n = 0 ↔ n = 0 := by unfold zz; split <;> omega
/-- A number's bytes. -/
def num (u : Nat) : List Int := if h : u < 128 then [(u : Int)] else ((u % 128 + 128 : Nat) : Int) :: num (u / 128)
termination_by u
decreasing_by omega
theorem num_lo {u : Nat} (h : u < 128) : num u = [(u : Int)] := by rw [num, dif_pos h]
theorem num_hi {u : Nat} (h : ¬ u < 128) : num u = ((u % 128 + 128 : Nat) : Int) :: num (u / 128) := by rw [num, dif_neg h]
theorem num_ne (u : Nat) : num u ≠ [] := by by_cases h : u < 128; rw [num_lo h]; simp; rw [num_hi h]; simp
theorem num_byte : ∀ (u : Nat), ∀ c ∈ num u, 0 ≤ c ∧ c ≤ 255 := by
  intro u
  induction u using Nat.strongRecOn with
  | ind u ih =>
    intro c hc
    by_cases h : u < 128
    · rw [num_lo h] at hc; simp at hc; omega
    · rw [num_hi h] at hc
      rcases List.mem_cons.1 hc with rfl | hc
      · omega
      · exact ih (u / 128) (by omega) c hc
/-- What is read of bytes: i of them are behind, u is what they say. -/
def goR (i : Nat) (u : Nat) : List Int → Int × Int
  | [] => (0, 0)
  | c :: r => if c < 128 then (if (c = 0 ∧ 0 < i) ∨ (i = 9 ∧ c ≠ 1) then (0, 0) else (unzz (u + c.toNat * 2 ^ (7 * i)), i + 1)) else goR (i + 1) (u + (c.toNat - 128) * 2 ^ (7 * i)) r
def readR (l : List Int) : Int × Int := goR 0 0 (l.take 10)
/-- A number's bytes are read as it. -/
theorem goR_num : ∀ (v i u : Nat) (m : List Int), (i = 0 ∨ 0 < v) → v * 2 ^ (7 * i) < 18446744073709551616 → i ≤ 9 →
    goR i u ((num v ++ m).take (10 - i)) = (unzz (u + v * 2 ^ (7 * i)), ((i + (num v).length : Nat) : Int)) := by
  intro v
  induction v using Nat.strongRecOn with
  | ind v ih =>
    intro i u m hi hv h9
    by_cases h : v < 128
    · rw [num_lo h, List.singleton_append, show 10 - i = (9 - i) + 1 by omega, List.take_succ_cons, goR, if_pos (by omega), if_neg]
      · simp
      · rintro (⟨h1, h2⟩ | ⟨h1, h2⟩)
        · omega
        · subst h1
          have : v < 2 := by
            rcases Nat.lt_or_ge v 2 with h3 | h3
            · exact h3
            · have : 2 * 2 ^ (7 * 9) ≤ v * 2 ^ (7 * 9) := Nat.mul_le_mul_right _ h3
              have e : (2 : Nat) * 2 ^ (7 * 9) = 18446744073709551616 := by decide
              omega
          omega
    · have h8 : i < 9 := by
        rcases Nat.lt_or_ge i 9 with h3 | h3
        · exact h3
        · obtain rfl : i = 9 := by omega
          have : 128 * 2 ^ (7 * 9) ≤ v * 2 ^ (7 * 9) := Nat.mul_le_mul_right _ (by omega)
          have e : (128 : Nat) * 2 ^ (7 * 9) = 1180591620717411303424 := by decide
          omega
      have e1 : 2 ^ (7 * (i + 1)) = 128 * 2 ^ (7 * i) := by rw [show 7 * (i + 1) = 7 * i + 7 by omega, Nat.pow_add]; omega
      have e2 : v = v % 128 + 128 * (v / 128) := by omega
      have e3 : v * 2 ^ (7 * i) = v % 128 * 2 ^ (7 * i) + v / 128 * (128 * 2 ^ (7 * i)) := by
        calc v * 2 ^ (7 * i) = (v % 128 + 128 * (v / 128)) * 2 ^ (7 * i) := by rw [← e2]
          _ = _ := by rw [Nat.add_mul, Nat.mul_comm 128 (v / 128), Nat.mul_assoc]
      rw [num_hi h, List.cons_append, show 10 - i = (10 - (i + 1)) + 1 by omega, List.take_succ_cons, goR, if_neg (by omega), show (((v % 128 + 128 : Nat) : Int)).toNat - 128 = v % 128 by omega]
      rw [ih (v / 128) (by omega) (i + 1) _ m (.inr (by omega)) (by rw [e1]; omega) (by omega), e1, e3]
      simp only [List.length_cons]
      congr 2 <;> omega
theorem readR_num {n : Int} (h : -9223372036854775808 ≤ n ∧ n ≤ 9223372036854775807) (m : List Int) : readR (num (zz n) ++ m) = (n, ((num (zz n)).length : Int)) := by
  have := goR_num (zz n) 0 0 m (.inl rfl) (by have := zz_lt h; simpa using this) (by omega)
  rw [readR]
  simpa [unzz_zz] using this
/-- What was read as a number is its bytes. -/
theorem goR_back : ∀ (l : List Int) (i u : Nat), (∀ c ∈ l, 0 ≤ c ∧ c ≤ 255) → l.length ≤ 10 - i → u < 2 ^ (7 * i) → i ≤ 10 →
    (∃ v k, (0 < i → 0 < v) ∧ k ≤ l.length ∧ 0 < k ∧ v * 2 ^ (7 * i) < 18446744073709551616 ∧ l.take k = num v ∧ goR i u l = (unzz (u + v * 2 ^ (7 * i)), ((i + k : Nat) : Int))) ∨
    (goR i u l = (0, 0) ∧ ∀ j, goR i u (l.take j) = (0, 0))
  | [], i, u, _, _, _, _ => .inr ⟨rfl, fun j => by simp [goR]⟩
  | c :: r, i, u, hb, hl, hu, hi => by
    have hc := hb c (List.mem_cons_self ..)
    have h10 : i < 10 := by simp at hl; omega
    by_cases h : c < 128
    · by_cases h2 : (c = 0 ∧ 0 < i) ∨ (i = 9 ∧ c ≠ 1)
      · right
        have e : ∀ s : List Int, goR i u (c :: s) = (0, 0) := fun s => by rw [goR, if_pos h, if_pos h2]
        refine ⟨e r, fun j => ?_⟩
        cases j with
        | zero => rfl
        | succ j => rw [List.take_succ_cons]; exact e _
      · left
        refine ⟨c.toNat, 1, fun h0 => by omega, by simp, by omega, ?_, ?_, ?_⟩
        · rcases Nat.lt_or_ge i 9 with h9 | h9
          · have e0 : (2 : Nat) ^ (7 * i) ≤ 2 ^ (7 * 8) := Nat.pow_le_pow_right (by decide) (by omega)
            have e : (2 : Nat) ^ (7 * 8) = 72057594037927936 := by decide
            have : c.toNat * 2 ^ (7 * i) ≤ 127 * 2 ^ (7 * 8) := Nat.mul_le_mul (by omega) e0
            omega
          · obtain rfl : i = 9 := by omega
            have : c.toNat = 1 := by omega
            rw [this]; decide
        · rw [num_lo (by omega)]; simp; omega
        · rw [goR, if_pos h, if_neg h2]; simp
    · have e1 : 2 ^ (7 * (i + 1)) = 128 * 2 ^ (7 * i) := by rw [show 7 * (i + 1) = 7 * i + 7 by omega, Nat.pow_add]; omega
      have hu2 : u + (c.toNat - 128) * 2 ^ (7 * i) < 2 ^ (7 * (i + 1)) := by
        rw [e1]
        have : (c.toNat - 128) * 2 ^ (7 * i) ≤ 127 * 2 ^ (7 * i) := Nat.mul_le_mul_right _ (by omega)
        omega
      rcases goR_back r (i + 1) (u + (c.toNat - 128) * 2 ^ (7 * i)) (fun x hx => hb x (List.mem_cons_of_mem _ hx)) (by simp at hl; omega) hu2 (by omega) with ⟨v, k, h1, h2, h3, h4, h5, h6⟩ | ⟨h1, h2⟩
      · left
        have e3 : (c.toNat - 128 + 128 * v) * 2 ^ (7 * i) = (c.toNat - 128) * 2 ^ (7 * i) + v * 2 ^ (7 * (i + 1)) := by rw [Nat.add_mul, e1, Nat.mul_comm 128 v, Nat.mul_assoc]
        have hv := h1 (by omega)
        refine ⟨c.toNat - 128 + 128 * v, k + 1, fun _ => by omega, by simp; omega, by omega, ?_, ?_, ?_⟩
        · rw [e3]
          rcases Nat.lt_or_ge i 9 with h9 | h9
          · -- v * 2^(7(i+1)) is a multiple of 128 * 2^(7i) below 2^64
            have hm : (c.toNat - 128) * 2 ^ (7 * i) ≤ 127 * 2 ^ (7 * i) := Nat.mul_le_mul_right _ (by omega)
            obtain ⟨q, hq⟩ : ∃ q, 18446744073709551616 = q * 2 ^ (7 * (i + 1)) := ⟨2 ^ (64 - 7 * (i + 1)), by rw [← Nat.pow_add, show 64 - 7 * (i + 1) + 7 * (i + 1) = 64 by omega]⟩
            have hvq : v < q := by
              rcases Nat.lt_or_ge v q with h' | h'
              · exact h'
              · have := Nat.mul_le_mul_right (2 ^ (7 * (i + 1))) h'; omega
            have : (v + 1) * 2 ^ (7 * (i + 1)) ≤ q * 2 ^ (7 * (i + 1)) := Nat.mul_le_mul_right _ hvq
            rw [Nat.add_mul, Nat.one_mul] at this
            have hp : 0 < 2 ^ (7 * i) := Nat.pow_pos (by decide)
            omega
          · obtain rfl : i = 9 := by omega
            have : r = [] := by simp at hl; exact hl
            subst this
            simp at h2; subst h2; exact absurd h3 (by decide)
        · have e5 : (c.toNat - 128 + 128 * v) % 128 = c.toNat - 128 ∧ (c.toNat - 128 + 128 * v) / 128 = v := by omega
          rw [List.take_succ_cons, h5, num_hi (u := c.toNat - 128 + 128 * v) (by omega), e5.1, e5.2, show ((c.toNat - 128 + 128 : Nat) : Int) = c by omega]
        · rw [goR, if_neg h, h6, e3]
          congr 2 <;> omega
      · right
        have e : ∀ s : List Int, goR i u (c :: s) = goR (i + 1) (u + (c.toNat - 128) * 2 ^ (7 * i)) s := fun s => by rw [goR, if_neg h]
        refine ⟨by rw [e]; exact h1, fun j => ?_⟩
        cases j with
        | zero => rfl
        | succ j => rw [List.take_succ_cons, e]; exact h2 j
/-- Either a number's bytes stand ahead, or none's. -/
theorem readR_cases (l : List Int) (hb : ∀ c ∈ l, 0 ≤ c ∧ c ≤ 255) :
    (∃ n m, (-9223372036854775808 ≤ n ∧ n ≤ 9223372036854775807) ∧ l = num (zz n) ++ m ∧ readR l = (n, ((num (zz n)).length : Int))) ∨ (readR l = (0, 0) ∧ ∀ j, readR (l.take j) = (0, 0)) := by
  rcases goR_back (l.take 10) 0 0 (fun c hc => hb c (List.mem_of_mem_take hc)) (by simp; omega) (by decide) (by omega) with ⟨v, k, _, h2, h3, h4, h5, h6⟩ | ⟨h1, h2⟩
  · left
    have hv : v < 18446744073709551616 := by simpa using h4
    have hk : k ≤ 10 := by simp at h2; omega
    have e : l.take k = num v := by rw [← h5, List.take_take, Nat.min_eq_left hk]
    refine ⟨unzz v, l.drop k, unzz_i64 hv, by rw [zz_unzz, ← e]; simp, ?_⟩
    have hlen : (num v).length = k := by rw [← e, List.length_take]; simp at h2; omega
    rw [zz_unzz, hlen, readR, h6]; simp
  · right
    refine ⟨h1, fun j => ?_⟩
    rw [readR, List.take_take, Nat.min_comm, ← List.take_take]
    exact h2 j
end Go.Sl
