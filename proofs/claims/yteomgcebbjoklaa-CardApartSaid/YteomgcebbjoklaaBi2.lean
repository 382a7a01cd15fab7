/- Words of bits: plain mathematics. -/
import Derived.Test.YteomgcebbjoklaaCoB
namespace Go.Sl
open Go
set_option linter.unusedVariables false
abbrev M64 : Nat := 18446744073709551616
theorem m64 : M64 = 2 ^ 64 := by decide
/-- The word of 64 numbers from 64 k on, as far as m. -/
def wdN (S : Nat → Bool) (k : Nat) : Nat → Nat
  | 0 => 0
  | m + 1 => wdN S k m + (if S (64 * k + m) = true then 2 ^ m else 0)
def wd (S : Nat → Bool) (k : Nat) : Nat := wdN S k 64
def ws (S : Nat → Bool) (m : Nat) : List Nat := (List.range m).map (wd S)
theorem wdN_lt (S : Nat → Bool) (k : Nat) : ∀ m, wdN S k m < 2 ^ m
  | 0 => by simp [wdN]
  | m + 1 => by have := wdN_lt S k m; rw [wdN, Nat.pow_succ]; split <;> omega
theorem wdN_bit (S : Nat → Bool) (k : Nat) : ∀ m j, (wdN S k m).testBit j = (decide (j < m) && S (64 * k + j))
  | 0, j => by simp [wdN]
  | m + 1, j => by
    have hl := wdN_lt S k m
    have ih := wdN_bit S k m j
    rw [wdN]
    split
    case isTrue h =>
      rw [Nat.add_comm]
      rcases Nat.lt_trichotomy j m with h1 | h1 | h1
      · rw [Nat.testBit_two_pow_add_gt h1, ih, decide_eq_true h1, decide_eq_true (by omega : j < m + 1)]
      · subst h1
        rw [Nat.testBit_two_pow_add_eq, ih]
        simp [h]
      · have h3 : 2 ^ m + wdN S k m < 2 ^ j := Nat.lt_of_lt_of_le (by rw [Nat.pow_succ]; omega : _ < 2 ^ (m + 1)) (Nat.pow_le_pow_right (by decide) h1)
        rw [Nat.testBit_lt_two_pow h3, decide_eq_false (by omega)]; rfl
    case isFalse h =>
      rw [Nat.add_zero, ih]
      by_cases h1 : j = m
      · subst h1; simp at h; simp [h]
      · by_cases h2 : j < m
        · rw [decide_eq_true h2, decide_eq_true (by omega : j < m + 1)]
        · rw [decide_eq_false h2, decide_eq_false (by omega)]
theorem wd_lt (S : Nat → Bool) (k : Nat) : wd S k < M64 := by rw [m64]; exact wdN_lt S k 64
theorem wd_bit (S : Nat → Bool) (k j : Nat) : (wd S k).testBit j = (decide (j < 64) && S (64 * k + j)) := wdN_bit S k 64 j
theorem wd_zero {S : Nat → Bool} (h : ∀ i, S i = false) (k : Nat) : wd S k = 0 := by
  refine Nat.eq_of_testBit_eq fun j => ?_
  rw [wd_bit, h]; simp
def upd (S : Nat → Bool) (i : Nat) (v : Bool) : Nat → Bool := fun x => if x = i then v else S x
theorem upd_same (S : Nat → Bool) (i : Nat) (v : Bool) : upd S i v i = v := by simp [upd]
theorem upd_ne (S : Nat → Bool) {i x : Nat} (v : Bool) (h : x ≠ i) : upd S i v x = S x := by simp [upd, h]
theorem wd_upd_ne (S : Nat → Bool) {i k : Nat} (v : Bool) (h : i / 64 ≠ k) : wd (upd S i v) k = wd S k := by
  refine Nat.eq_of_testBit_eq fun j => ?_
  rw [wd_bit, wd_bit]
  by_cases hj : j < 64
  · rw [upd_ne S v (by omega)]
  · rw [decide_eq_false hj]; simp
theorem wd_or (S : Nat → Bool) (i : Nat) : wd (upd S i true) (i / 64) = wd S (i / 64) ||| 2 ^ (i % 64) := by
  refine Nat.eq_of_testBit_eq fun j => ?_
  rw [Nat.testBit_or, wd_bit, wd_bit, Nat.testBit_two_pow]
  by_cases hj : j < 64
  · by_cases h : i % 64 = j
    · rw [show 64 * (i / 64) + j = i by omega, upd_same]; simp [hj, h]
    · rw [upd_ne S true (by omega)]; simp [h]
  · have : i % 64 < 64 := Nat.mod_lt _ (by decide)
    rw [decide_eq_false hj, decide_eq_false (by omega : ¬ i % 64 = j)]; simp
theorem wd_and (S : Nat → Bool) (i : Nat) : wd (upd S i false) (i / 64) = wd S (i / 64) &&& (18446744073709551615 - 2 ^ (i % 64)) := by
  have hp : 2 ^ (i % 64) < 2 ^ 64 := Nat.pow_lt_pow_right (by decide) (Nat.mod_lt _ (by decide))
  refine Nat.eq_of_testBit_eq fun j => ?_
  have e : 18446744073709551615 - 2 ^ (i % 64) = 2 ^ 64 - (2 ^ (i % 64) + 1) := by omega
  rw [Nat.testBit_and, wd_bit, wd_bit, e, Nat.testBit_two_pow_sub_succ hp, Nat.testBit_two_pow]
  by_cases hj : j < 64
  · by_cases h : i % 64 = j
    · rw [show 64 * (i / 64) + j = i by omega, upd_same]; simp [h]
    · rw [upd_ne S false (by omega)]; simp [h, hj]
  · rw [decide_eq_false hj]; simp
theorem wd_test (S : Nat → Bool) (i : Nat) : wd S (i / 64) &&& 2 ^ (i % 64) = if S i = true then 2 ^ (i % 64) else 0 := by
  refine Nat.eq_of_testBit_eq fun j => ?_
  rw [Nat.testBit_and, wd_bit, Nat.testBit_two_pow]
  by_cases h : i % 64 = j
  · have hj : j < 64 := by omega
    rw [show 64 * (i / 64) + j = i by omega]
    cases hS : S i
    · simp
    · rw [if_pos rfl, Nat.testBit_two_pow]; simp [h, hj]
  · rw [decide_eq_false h, Bool.and_false]
    split
    · rw [Nat.testBit_two_pow, decide_eq_false h]
    · simp
theorem ws_len (S : Nat → Bool) (m : Nat) : (ws S m).length = m := by simp [ws]
theorem ws_at (S : Nat → Bool) {m k : Nat} (h : k < m) : (ws S m)[k]? = some (wd S k) := by simp [ws, h]
theorem ws_upd (S : Nat → Bool) (m i : Nat) (v : Bool) (w : Nat) (hw : wd (upd S i v) (i / 64) = w) : (ws S m).set (i / 64) w = ws (upd S i v) m := by
  refine List.ext_getElem (by simp [ws]) fun k h1 h2 => ?_
  rw [List.getElem_set]
  split
  case isTrue h => subst h; simp [ws, hw]
  case isFalse h => simp only [ws, List.getElem_map, List.getElem_range]; exact (wd_upd_ne S v h).symm
theorem ws_zero {S : Nat → Bool} (h : ∀ i, S i = false) (m : Nat) : ws S m = List.replicate m 0 := by
  refine List.ext_getElem (by simp [ws]) fun k h1 h2 => ?_
  simp [ws, wd_zero h]
/-! the model's operations on words -/
theorem ofInt_nat {a : Nat} (h : a < M64) : (BitVec.ofInt 64 (a : Int)).toNat = a := by
  have := ofInt_u (w := 64) (a := (a : Int)) (by omega) (by have := m64; omega)
  rw [this]; simp
theorem and_nat {a b : Nat} (ha : a < M64) (hb : b < M64) : andI .u64 (a : Int) (b : Int) = ((a &&& b : Nat) : Int) := by
  have h : a &&& b < M64 := by rw [m64] at *; exact Nat.and_lt_two_pow a hb
  unfold andI
  rw [show IntKind.u64.bits = 64 from rfl, BitVec.toNat_and, ofInt_nat ha, ofInt_nat hb, wrap_u64 ⟨by omega, by have hm : M64 = 18446744073709551616 := rfl; omega⟩]
theorem or_nat {a b : Nat} (ha : a < M64) (hb : b < M64) : orI .u64 (a : Int) (b : Int) = ((a ||| b : Nat) : Int) := by
  have h : a ||| b < M64 := by rw [m64] at *; exact Nat.or_lt_two_pow ha hb
  unfold orI
  rw [show IntKind.u64.bits = 64 from rfl, BitVec.toNat_or, ofInt_nat ha, ofInt_nat hb, wrap_u64 ⟨by omega, by have hm : M64 = 18446744073709551616 := rfl; omega⟩]
theorem shl_nat {j : Nat} (hj : j < 64) : IntKind.wrap .u64 (1 * 2 ^ (min ((j : Nat) : Int).toNat IntKind.u64.bits)) = ((2 ^ j : Nat) : Int) := by
  have h : 2 ^ j < 2 ^ 64 := Nat.pow_lt_pow_right (by decide) hj
  have e : (2 : Int) ^ j = ((2 ^ j : Nat) : Int) := by rw [Int.natCast_pow]; rfl
  have h64 : (2 : Nat) ^ 64 = 18446744073709551616 := by decide
  rw [Int.toNat_natCast, show IntKind.u64.bits = 64 from rfl, Nat.min_eq_left (by omega), Int.one_mul, e]
  generalize 2 ^ j = p at h
  rw [wrap_u64 (by omega)]
end Go.Sl
