/- What the operations on bits are, in numbers. -/
import Derived.Test.YteomgcebbjoklaaCoM
namespace Go.Sl
open Go
set_option linter.unusedVariables false
theorem ofInt_u {w : Nat} {a : Int} (h : 0 ≤ a) (h2 : a < 2 ^ w) : (BitVec.ofInt w a).toNat = a.toNat := by
  rw [BitVec.toNat_ofInt]
  congr 1
  exact Int.emod_eq_of_lt h (by exact_mod_cast h2)
theorem xor_zero (a : Int) (h : 0 ≤ a ∧ a < 18446744073709551616) : xorI .u64 a 0 = a := by
  unfold xorI
  rw [BitVec.toNat_xor, ofInt_u h.1 (by simpa [IntKind.bits] using h.2), ofInt_u (by decide) (by decide)]
  simp only [Int.toNat_zero, Nat.xor_zero]
  rw [Int.toNat_of_nonneg h.1]
  exact wrap_u64 (by omega)
theorem xor_ones (a : Int) (h : 0 ≤ a ∧ a < 18446744073709551616) : xorI .u64 a 18446744073709551615 = 18446744073709551615 - a := by
  unfold xorI
  have e : BitVec.ofInt IntKind.u64.bits 18446744073709551615 = BitVec.allOnes IntKind.u64.bits := by decide
  have e2 : (BitVec.ofInt IntKind.u64.bits a ^^^ BitVec.allOnes IntKind.u64.bits) = ~~~ (BitVec.ofInt IntKind.u64.bits a) := BitVec.xor_allOnes
  rw [e, e2, BitVec.toNat_not, ofInt_u h.1 (by simpa [IntKind.bits] using h.2)]
  rw [wrap_u64 (by simp [IntKind.bits]; omega)]
  simp [IntKind.bits]; omega
theorem wrap_u64_neg {n : Int} (h : -9223372036854775808 ≤ n ∧ n < 0) : IntKind.wrap .u64 n = n + 18446744073709551616 := by
  simp [IntKind.wrap, IntKind.signed, IntKind.bits]; omega
theorem zig {n : Int} (h : -9223372036854775808 ≤ n ∧ n ≤ 9223372036854775807) :
    xorI .u64 (IntKind.wrap .u64 (IntKind.wrap .u64 n * 2 ^ (min (1 : Int).toNat IntKind.u64.bits))) (IntKind.wrap .u64 (n.fdiv (2 ^ (min (63 : Int).toNat IntKind.i64.bits)))) = (zz n : Int) := by
  have p1 : (2 : Int) ^ (min (1 : Int).toNat IntKind.u64.bits) = 2 := by decide
  have p2 : (2 : Int) ^ (min (63 : Int).toNat IntKind.i64.bits) = 9223372036854775808 := by decide
  rw [p1, p2, Int.fdiv_eq_ediv_of_nonneg _ (by decide)]
  rcases Int.lt_or_le n 0 with hn | hn
  · have e1 : n / 9223372036854775808 = -1 := by omega
    rw [e1, wrap_u64_neg ⟨h.1, hn⟩, show IntKind.wrap .u64 (-1) = 18446744073709551615 by decide]
    have e2 : IntKind.wrap .u64 ((n + 18446744073709551616) * 2) = 2 * n + 18446744073709551616 := by simp [IntKind.wrap, IntKind.signed, IntKind.bits]; omega
    rw [e2, xor_ones _ (by omega)]
    unfold zz; rw [if_neg (by omega)]; omega
  · have e1 : n / 9223372036854775808 = 0 := by omega
    rw [e1, wrap_u64 (a := n) (by omega), show IntKind.wrap .u64 0 = 0 by decide, wrap_u64 (by omega), xor_zero _ (by omega)]
    unfold zz; rw [if_pos hn]; omega
theorem or128 (a : Int) (h : 0 ≤ a) : orI .u8 (a % 256) 128 = a % 128 + 128 := by
  have key : ∀ x : Fin 256, orI .u8 (x.1 : Int) 128 = (x.1 : Int) % 128 + 128 := by decide +kernel
  have := key ⟨(a % 256).toNat, by omega⟩
  simp only at this
  rw [Int.toNat_of_nonneg (by omega)] at this
  rw [this]; omega
theorem and127 (a : Int) (h : 0 ≤ a ∧ a ≤ 255) : andI .u8 a 127 = a % 128 := by
  have key : ∀ x : Fin 256, andI .u8 (x.1 : Int) 127 = (x.1 : Int) % 128 := by decide +kernel
  have := key ⟨a.toNat, by omega⟩
  simp only at this
  rwa [Int.toNat_of_nonneg (by omega)] at this
theorem and1 (a : Int) (h : 0 ≤ a ∧ a < 18446744073709551616) : andI .u64 a 1 = a % 2 := by
  unfold andI
  rw [BitVec.toNat_and, ofInt_u h.1 (by simpa [IntKind.bits] using h.2), ofInt_u (by decide) (by decide)]
  have : a.toNat &&& (1 : Int).toNat = a.toNat % 2 := by simp
  rw [this, wrap_u64 (by omega)]; omega
theorem or_shift (u c : Nat) (i : Nat) (hu : u < 2 ^ (7 * i)) (hc : c * 2 ^ (7 * i) < 18446744073709551616) (h7 : 7 * i ≤ 64) : orI .u64 u (IntKind.wrap .u64 ((c : Int) * 2 ^ (min (7 * (i : Int)).toNat IntKind.u64.bits))) = ((u + c * 2 ^ (7 * i) : Nat) : Int) := by
  have e : (7 * (i : Int)).toNat = 7 * i := by omega
  have hu64 : u < 18446744073709551616 := Nat.lt_of_lt_of_le hu (Nat.le_trans (Nat.pow_le_pow_right (by decide) h7) (by decide))
  rw [e, show min (7 * i) IntKind.u64.bits = 7 * i from Nat.min_eq_left h7]
  have e2 : ((c : Int) * 2 ^ (7 * i)) = ((c * 2 ^ (7 * i) : Nat) : Int) := by rw [Int.natCast_mul, Int.natCast_pow]; rfl
  rw [e2, wrap_u64 (by omega)]
  unfold orI
  have b64 : ∀ z : Nat, z < 18446744073709551616 → (z : Int) < 2 ^ IntKind.u64.bits := fun z hz => by
    rw [show (2 : Int) ^ IntKind.u64.bits = 18446744073709551616 by decide]; omega
  rw [BitVec.toNat_or, ofInt_u (by omega) (b64 u hu64), ofInt_u (by omega) (b64 _ hc)]
  have e3 : (u : Int).toNat ||| ((c * 2 ^ (7 * i) : Nat) : Int).toNat = u + c * 2 ^ (7 * i) := by
    rw [Int.toNat_natCast, Int.toNat_natCast, Nat.or_comm, Nat.mul_comm c, ← Nat.two_pow_add_eq_or_of_lt hu, Nat.add_comm]
  rw [e3]
  have : u + c * 2 ^ (7 * i) < 18446744073709551616 := by
    have := (Nat.or_lt_two_pow (n := 64) (x := u) (y := c * 2 ^ (7 * i)) (by simpa using hu64) (by simpa using hc))
    rw [Nat.or_comm, Nat.mul_comm c, ← Nat.two_pow_add_eq_or_of_lt hu, Nat.add_comm] at this
    rw [Nat.mul_comm c]; simpa using this
  exact wrap_u64 (by omega)
theorem xor_i0 (a : Int) (h : 0 ≤ a ∧ a ≤ 9223372036854775807) : xorI .i64 a 0 = a := by
  unfold xorI
  rw [BitVec.toNat_xor, ofInt_u h.1 (by simp [IntKind.bits]; omega), ofInt_u (by decide) (by decide)]
  simp only [Int.toNat_zero, Nat.xor_zero]
  rw [Int.toNat_of_nonneg h.1]
  exact wrap_i64 (by omega)
theorem xor_i1 (a : Int) (h : 0 ≤ a ∧ a ≤ 9223372036854775807) : xorI .i64 a (-1) = -a - 1 := by
  unfold xorI
  have e : BitVec.ofInt IntKind.i64.bits (-1) = BitVec.allOnes IntKind.i64.bits := by decide
  have e2 : (BitVec.ofInt IntKind.i64.bits a ^^^ BitVec.allOnes IntKind.i64.bits) = ~~~ (BitVec.ofInt IntKind.i64.bits a) := BitVec.xor_allOnes
  rw [e, e2, BitVec.toNat_not, ofInt_u h.1 (by simp [IntKind.bits]; omega)]
  simp [IntKind.wrap, IntKind.signed, IntKind.bits]
  omega
theorem unzig (u : Nat) (h : u < 18446744073709551616) : xorI .i64 ((u : Int) / 2) (0 - (u : Int) % 2) = unzz u := by
  unfold unzz
  by_cases h2 : u % 2 = 0
  · rw [if_pos h2, show (0 : Int) - (u : Int) % 2 = 0 by omega, xor_i0 _ (by omega)]; omega
  · rw [if_neg h2, show (0 : Int) - (u : Int) % 2 = -1 by omega, xor_i1 _ (by omega)]; omega
end Go.Sl
