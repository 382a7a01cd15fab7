/- Counting the bits of a word: plain mathematics. -/
import Derived.Test.YteomgcebbjoklaaBi2
namespace Go.Sl
open Go
set_option linter.unusedVariables false
/-- How many of the first j bits are there. -/
def pcN (x : Nat) : Nat → Nat
  | 0 => 0
  | j + 1 => pcN x j + (x.testBit j).toNat
def bval : List Nat → Nat
  | [] => 0
  | a :: l => a + 256 * bval l
def mk8 (c : Nat) : Nat → Nat
  | 0 => 0
  | k + 1 => c + 256 * mk8 c k
theorem and_cons {a c : Nat} (ha : a < 256) (hc : c < 256) (y d : Nat) : (a + 256 * y) &&& (c + 256 * d) = (a &&& c) + 256 * (y &&& d) := by
  refine Nat.eq_of_testBit_eq fun j => ?_
  have h : (a &&& c) < 2 ^ 8 := Nat.and_lt_two_pow a (by simpa using hc)
  rw [show a + 256 * y = 2 ^ 8 * y + a by omega, show c + 256 * d = 2 ^ 8 * d + c by omega, show (a &&& c) + 256 * (y &&& d) = 2 ^ 8 * (y &&& d) + (a &&& c) by omega]
  rw [Nat.testBit_and, Nat.testBit_two_pow_mul_add _ (by simpa using ha), Nat.testBit_two_pow_mul_add _ (by simpa using hc), Nat.testBit_two_pow_mul_add _ h]
  split
  · rw [Nat.testBit_and]
  · rw [Nat.testBit_and]
def h1 (a : Nat) : Nat := (a / 2 &&& 85) + (a &&& 85)
def h2 (a : Nat) : Nat := (a / 4 &&& 51) + (a &&& 51)
def h3 (a : Nat) : Nat := (a / 16 + a) &&& 15
theorem k1 : ∀ a, a < 256 → ∀ t, t < 2 → (a / 2 + 128 * t) &&& 85 = a / 2 &&& 85 := by decide +kernel
theorem k2 : ∀ a, a < 256 → ∀ t, t < 4 → (a / 4 + 64 * t) &&& 51 = a / 4 &&& 51 := by decide +kernel
theorem k3 : ∀ a, a < 69 → ∀ t, t < 5 → (a / 16 + a + 16 * t) &&& 15 = (a / 16 + a) &&& 15 := by decide +kernel
theorem h1_lt : ∀ a, a < 256 → h1 a < 256 := by decide +kernel
theorem h2_ok : ∀ a, a < 256 → h2 (h1 a) < 69 ∧ h2 (h1 a) % 16 < 5 := by decide +kernel
theorem h_pc : ∀ a, a < 256 → h3 (h2 (h1 a)) = pcN a 8 := by decide +kernel
theorem pc8_le : ∀ a, a < 256 → pcN a 8 ≤ 8 := by decide +kernel
theorem s1 : ∀ l : List Nat, (∀ a ∈ l, a < 256) → (bval l / 2 &&& mk8 85 l.length) + (bval l &&& mk8 85 l.length) = bval (l.map h1)
  | [], _ => by simp [bval, mk8]
  | a :: l, h => by
    have ha := h a (List.mem_cons_self ..)
    have ih := s1 l (fun b hb => h b (List.mem_cons_of_mem _ hb))
    have e : (a + 256 * bval l) / 2 = (a / 2 + 128 * (bval l % 2)) + 256 * (bval l / 2) := by omega
    simp only [bval, List.length_cons, mk8, List.map_cons]
    rw [e, and_cons (by omega) (by decide), and_cons ha (by decide), k1 a ha _ (by omega), ← ih, h1]
    omega
theorem s2 : ∀ l : List Nat, (∀ a ∈ l, a < 256) → (bval l / 4 &&& mk8 51 l.length) + (bval l &&& mk8 51 l.length) = bval (l.map h2)
  | [], _ => by simp [bval, mk8]
  | a :: l, h => by
    have ha := h a (List.mem_cons_self ..)
    have ih := s2 l (fun b hb => h b (List.mem_cons_of_mem _ hb))
    have e : (a + 256 * bval l) / 4 = (a / 4 + 64 * (bval l % 4)) + 256 * (bval l / 4) := by omega
    simp only [bval, List.length_cons, mk8, List.map_cons]
    rw [e, and_cons (by omega) (by decide), and_cons ha (by decide), k2 a ha _ (by omega), ← ih, h2]
    omega
theorem s3 : ∀ l : List Nat, (∀ a ∈ l, a < 69 ∧ a % 16 < 5) → (bval l / 16 + bval l) &&& mk8 15 l.length = bval (l.map h3)
  | [], _ => by simp [bval, mk8]
  | a :: l, h => by
    have ha := h a (List.mem_cons_self ..)
    have ih := s3 l (fun b hb => h b (List.mem_cons_of_mem _ hb))
    have ht : bval l % 16 < 5 := by
      cases l with
      | nil => simp [bval]
      | cons b l =>
        have hb := (h b (List.mem_cons_of_mem _ (List.mem_cons_self ..))).2
        simp only [bval]; omega
    have e : (a + 256 * bval l) / 16 + (a + 256 * bval l) = (a / 16 + a + 16 * (bval l % 16)) + 256 * (bval l / 16 + bval l) := by omega
    simp only [bval, List.length_cons, mk8, List.map_cons]
    rw [e, and_cons (by omega) (by decide), k3 a ha.1 _ ht, ih, h3]
theorem pcN_cons {a : Nat} (ha : a < 256) (y : Nat) : ∀ j, pcN (a + 256 * y) (8 + j) = pcN a 8 + pcN y j := by
  have hb : ∀ t, (a + 256 * y).testBit t = if t < 8 then a.testBit t else y.testBit (t - 8) := fun t => by
    rw [show a + 256 * y = 2 ^ 8 * y + a by omega, Nat.testBit_two_pow_mul_add _ (by simpa using ha)]
  intro j
  induction j with
  | zero => simp [pcN, hb]
  | succ j ih =>
    have e1 : pcN (a + 256 * y) (8 + (j + 1)) = pcN (a + 256 * y) (8 + j) + ((a + 256 * y).testBit (8 + j)).toNat := rfl
    have e2 : pcN y (j + 1) = pcN y j + (y.testBit j).toNat := rfl
    rw [e1, e2, ih, hb, if_neg (by omega), show 8 + j - 8 = j by omega, Nat.add_assoc]
theorem pcN_bval : ∀ l : List Nat, (∀ a ∈ l, a < 256) → pcN (bval l) (8 * l.length) = (l.map fun a => pcN a 8).sum
  | [], _ => by simp [bval, pcN]
  | a :: l, h => by
    have ha := h a (List.mem_cons_self ..)
    have ih := pcN_bval l (fun b hb => h b (List.mem_cons_of_mem _ hb))
    rw [List.length_cons, show 8 * (l.length + 1) = 8 + 8 * l.length by omega, bval, pcN_cons ha, ih]
    simp
def bytsN : Nat → Nat → List Nat
  | 0, _ => []
  | k + 1, x => x % 256 :: bytsN k (x / 256)
theorem bytsN_val : ∀ (k x : Nat), x < 256 ^ k → bval (bytsN k x) = x
  | 0, x, h => by simp at h; simp [bytsN, bval, h]
  | k + 1, x, h => by
    have := bytsN_val k (x / 256) (Nat.div_lt_of_lt_mul (by rw [Nat.pow_succ, Nat.mul_comm] at h; exact h))
    rw [bytsN, bval, this]; omega
theorem bytsN_lt : ∀ (k x : Nat), ∀ a ∈ bytsN k x, a < 256
  | 0, x, a, h => by simp [bytsN] at h
  | k + 1, x, a, h => by
    rw [bytsN] at h
    rcases List.mem_cons.1 h with rfl | h
    · omega
    · exact bytsN_lt k _ a h
theorem bytsN_len : ∀ (k x : Nat), (bytsN k x).length = k
  | 0, x => rfl
  | k + 1, x => by rw [bytsN, List.length_cons, bytsN_len k]
def byts (x : Nat) : List Nat := bytsN 8 x
theorem byts_val {x : Nat} (h : x < 18446744073709551616) : bval (byts x) = x := bytsN_val 8 x (by rw [show (256 : Nat) ^ 8 = 18446744073709551616 from by decide]; exact h)
theorem byts_lt (x : Nat) : ∀ a ∈ byts x, a < 256 := bytsN_lt 8 x
theorem byts_len (x : Nat) : (byts x).length = 8 := bytsN_len 8 x
theorem div256 {p t x : Nat} (hp : p < 256) (h : x = p + 256 * t) : x / 256 = t := by omega
theorem fold8 (p0 p1 p2 p3 p4 p5 p6 p7 t1 t2 t3 t4 t5 t6 t7 : Nat) (h : p0 ≤ 8 ∧ p1 ≤ 8 ∧ p2 ≤ 8 ∧ p3 ≤ 8 ∧ p4 ≤ 8 ∧ p5 ≤ 8 ∧ p6 ≤ 8 ∧ p7 ≤ 8) (x3 x4 x5 x6 : Nat) (e0 : x3 = p0 + 256 * t1) (e1 : t1 = p1 + 256 * t2) (e2 : t2 = p2 + 256 * t3) (e3 : t3 = p3 + 256 * t4) (e4 : t4 = p4 + 256 * t5) (e5 : t5 = p5 + 256 * t6) (e6 : t6 = p6 + 256 * t7) (e7 : t7 = p7)
    (h4 : x4 = x3 + x3 / 256) (h5 : x5 = x4 + x4 / 65536) (h6 : x6 = x5 + x5 / 4294967296) :
    x6 % 128 = p0 + p1 + p2 + p3 + p4 + p5 + p6 + p7 ∧ x6 < 9223372036854775808 := by
  have d1 : x3 / 256 = t1 := by clear h4 h5 h6 e1 e2 e3 e4 e5 e6 e7; omega
  rw [d1] at h4
  have d2 : x4 / 65536 = t2 + t3 := by
    have q : x4 = (p0 + p1 + 256 * (p1 + p2)) + 65536 * (t2 + t3) := by clear h5 h6 e3 e4 e5 e6 e7 d1; omega
    clear h4 h5 h6 e0 e1 e2 e3 e4 e5 e6 e7 d1; omega
  rw [d2] at h5
  have d3 : x5 / 4294967296 = t4 + t5 + (t6 + t7) := by
    have q0 : x3 = p0 + 256 * p1 + 65536 * p2 + 16777216 * p3 + 4294967296 * t4 := by clear h4 h5 h6 e4 e5 e6 e7 d1 d2; omega
    have q1 : t1 = p1 + 256 * p2 + 65536 * p3 + 16777216 * p4 + 4294967296 * t5 := by clear h4 h5 h6 e0 e5 e6 e7 d1 d2 q0; omega
    have q2 : t2 = p2 + 256 * p3 + 65536 * p4 + 16777216 * p5 + 4294967296 * t6 := by clear h4 h5 h6 e0 e1 e6 e7 d1 d2 q0 q1; omega
    have q3 : t3 = p3 + 256 * p4 + 65536 * p5 + 16777216 * p6 + 4294967296 * t7 := by clear h4 h5 h6 e0 e1 e2 e7 d1 d2 q0 q1 q2; omega
    clear h6 e0 e1 e2 e3 e4 e5 e6 e7 d1 d2
    subst h4
    omega
  rw [d3] at h6
  clear d1 d2 d3
  subst h4 h5
  constructor
  · have m : ∀ p t : Nat, (p + 256 * t) % 128 = p % 128 := fun p t => by omega
    have s : x6 = x3 + t1 + (t2 + t3) + (t4 + t5 + (t6 + t7)) := h6
    clear h6
    omega
  · omega
theorem ones_math {x x1 x2 x3 x4 x5 x6 : Nat} (hx : x < 18446744073709551616) (g1 : (x / 2 &&& 6148914691236517205) + (x &&& 6148914691236517205) = x1) (g2 : (x1 / 4 &&& 3689348814741910323) + (x1 &&& 3689348814741910323) = x2)
    (g3 : (x2 / 16 + x2) &&& 1085102592571150095 = x3) (g4 : x3 + x3 / 256 = x4) (g5 : x4 + x4 / 65536 = x5) (g6 : x5 + x5 / 4294967296 = x6) : x6 % 128 = pcN x 64 ∧ x6 < 9223372036854775808 ∧ x5 ≤ x6 ∧ x4 ≤ x5 ∧ x3 ≤ x4 := by
  have hl := byts_lt x
  have hv := byts_val hx
  have q1 := s1 (byts x) hl
  rw [hv, show mk8 85 (byts x).length = 6148914691236517205 from by rw [byts_len]; decide, g1] at q1
  have q2 := s2 ((byts x).map h1) (fun a ha => by obtain ⟨c, hc, rfl⟩ := List.mem_map.1 ha; exact h1_lt c (hl c hc))
  rw [← q1, show mk8 51 ((byts x).map h1).length = 3689348814741910323 from by rw [List.length_map, byts_len]; decide, g2] at q2
  have q3 := s3 (((byts x).map h1).map h2) (fun a ha => by
    obtain ⟨c, hc, rfl⟩ := List.mem_map.1 ha
    obtain ⟨d, hd, rfl⟩ := List.mem_map.1 hc
    exact h2_ok d (hl d hd))
  rw [← q2, show mk8 15 (((byts x).map h1).map h2).length = 1085102592571150095 from by rw [List.length_map, List.length_map, byts_len]; decide, g3] at q3
  have q4 : x3 = bval ((byts x).map fun a => pcN a 8) := by
    rw [q3, List.map_map, List.map_map]
    congr 1
    refine List.map_congr_left fun a ha => ?_
    exact h_pc a (hl a ha)
  have q5 := pcN_bval (byts x) hl
  rw [hv, byts_len] at q5
  have hp : ∀ a ∈ byts x, pcN a 8 ≤ 8 := fun a ha => pc8_le a (hl a ha)
  have hlen := byts_len x
  generalize byts x = B at q4 q5 hp hlen
  match B, hlen with
  | [a0, a1, a2, a3, a4, a5, a6, a7], _ =>
    simp only [List.map_cons, List.map_nil, bval] at q4
    simp only [List.map_cons, List.map_nil, List.sum_cons, List.sum_nil] at q5
    simp only [List.mem_cons, List.not_mem_nil, or_false, forall_eq_or_imp, forall_eq] at hp
    obtain ⟨r1, r2⟩ := fold8 _ _ _ _ _ _ _ _ _ _ _ _ _ _ _ hp x3 x4 x5 x6 q4 rfl rfl rfl rfl rfl rfl (by rw [Nat.mul_zero, Nat.add_zero]) g4.symm g5.symm g6.symm
    refine ⟨?_, r2, by rw [← g6]; exact Nat.le_add_right _ _, by rw [← g5]; exact Nat.le_add_right _ _, by rw [← g4]; exact Nat.le_add_right _ _⟩
    rw [r1, q5]
    simp only [Nat.add_zero, Nat.add_assoc]
theorem and_i127 {x : Nat} (h : x < 9223372036854775808) : andI .i64 (x : Int) 127 = ((x % 128 : Nat) : Int) := by
  unfold andI
  rw [show IntKind.i64.bits = 64 from rfl, BitVec.toNat_and, ofInt_nat (by have hm : M64 = 18446744073709551616 := rfl; omega), show (BitVec.ofInt 64 127).toNat = 2 ^ 7 - 1 from by decide, Nat.and_two_pow_sub_one_eq_mod]
  have : x % 2 ^ 7 < 128 := Nat.mod_lt _ (by decide)
  rw [wrap_i64 (by omega)]
end Go.Sl
