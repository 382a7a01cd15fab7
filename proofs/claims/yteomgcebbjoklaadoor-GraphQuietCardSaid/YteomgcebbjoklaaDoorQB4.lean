/- Part 4. -/
import Derived.WalkKit
import Derived.RangeFuncRecord
import Derived.RangeFuncLeaves
import Derived.OrdersIn
import Derived.TacticsIn
import Derived.KernelRfl
import Derived.Test.YteomgcebbjoklaaDoorChecked
import Derived.ProofKit
import Derived.OpenShut
import Derived.Carry
import Derived.HandedShaped
import Derived.RangeFuncNested
import Derived.LoopNIn
import Derived.Lib.Strings
import Derived.Deep.DeepHandedRow
import Derived.Lib.LaidTab
import Derived.SevenTiedAt
import Derived.Deep.DeepWitnessRowRef
import Derived.Laws.StructEq
import Derived.Laws.BytesString
import Derived.Laws.LoneSync
import Derived.Test.YteomgcebbjoklaaDoorRows
import Derived.Test.YteomgcebbjoklaaDoorCards
import Derived.Test.YteomgcebbjoklaaDoorTie
import Derived.ChangeMaps5
import Derived.Test.YteomgcebbjoklaaDoorQB3
namespace Go.Sl
open Go
set_option linter.unusedVariables false
def pcN (x : Nat) : Nat → Nat
  | 0 => 0
  | j + 1 => pcN x j + (x.testBit j).toNat
def bval : List Nat → Nat
  | [] => 0
  | a :: l => a + 256 * bval l
def mk8 (c : Nat) : Nat → Nat
  | 0 => 0
  | k + 1 => c + 256 * mk8 c k
theorem and_cons {a c : Nat} (ha : a < 256) (hc : c < 256) (y d : Nat) : (a + 256 * y) &&& (c + 256 * d) = (a &&& c) + 256 * (y &&& d) := by
  refine Nat.eq_of_testBit_eq fun j => ?_
  have h : (a &&& c) < 2 ^ 8 := Nat.and_lt_two_pow a (by simpa using hc)
  rw [show a + 256 * y = 2 ^ 8 * y + a by omega, show c + 256 * d = 2 ^ 8 * d + c by omega, show (a &&& c) + 256 * (y &&& d) = 2 ^ 8 * (y &&& d) + (a &&& c) by omega]
  rw [Nat.testBit_and, Nat.testBit_two_pow_mul_add _ (by simpa using ha), Nat.testBit_two_pow_mul_add _ (by simpa using hc), Nat.testBit_two_pow_mul_add _ h]
  split
  · rw [Nat.testBit_and]
  · rw [Nat.testBit_and]
def h1 (a : Nat) : Nat := (a / 2 &&& 85) + (a &&& 85)
def h2 (a : Nat) : Nat := (a / 4 &&& 51) + (a &&& 51)
def h3 (a : Nat) : Nat := (a / 16 + a) &&& 15
theorem k1 : ∀ a, a < 256 → ∀ t, t < 2 → (a / 2 + 128 * t) &&& 85 = a / 2 &&& 85 := by decide +kernel
theorem k2 : ∀ a, a < 256 → ∀ t, t < 4 → (a / 4 + 64 * t) &&& 51 = a / 4 &&& 51 := by decide +kernel
theorem k3 : ∀ a, a < 69 → ∀ t, t < 5 → (a / 16 + a + 16 * t) &&& 15 = (a / 16 + a) &&& 15 := by decide +kernel
theorem h1_lt : ∀ a, a < 256 → h1 a < 256 := by decide +kernel
theorem h2_ok : ∀ a, a < 256 → h2 (h1 a) < 69 ∧ h2 (h1 a) % 16 < 5 := by decide +kernel
theorem h_pc : ∀ a, a < 256 → h3 (h2 (h1 a)) = pcN a 8 := by decide +kernel
theorem pc8_le : ∀ a, a < 256 → pcN a 8 ≤ 8 := by decide +kernel
theorem s1 : ∀ l : List Nat, (∀ a ∈ l, a < 256) → (bval l / 2 &&& mk8 85 l.length) + (bval l &&& mk8 85 l.length) = bval (l.map h1)
  | [], _ => by simp [bval, mk8]
  | a :: l, h => by
    have ha := h a (List.mem_cons_self ..)
    have ih := s1 l (fun b hb => h b (List.mem_cons_of_mem _ hb))
    have e : (a + 256 * bval l) / 2 = (a / 2 + 128 * (bval l % 2)) + 256 * (bval l / 2) := by omega
    simp only [bval, List.length_cons, mk8, List.map_cons]
    rw [e, and_cons (by omega) (by decide), and_cons ha (by decide), k1 a ha _ (by omega), ← ih, h1]
    omega
theorem s2 : ∀ l : List Nat, (∀ a ∈ l, a < 256) → (bval l / 4 &&& mk8 51 l.length) + (bval l &&& mk8 51 l.length) = bval (l.map h2)
  | [], _ => by simp [bval, mk8]
  | a :: l, h => by
    have ha := h a (List.mem_cons_self ..)
    have ih := s2 l (fun b hb => h b (List.mem_cons_of_mem _ hb))
    have e : (a + 256 * bval l) / 4 = (a / 4 + 64 * (bval l % 4)) + 256 * (bval l / 4) := by omega
    simp only [bval, List.length_cons, mk8, List.map_cons]
    rw [e, and_cons (by omega) (by decide), and_cons ha (by decide), k2 a ha _ (by omega), ← ih, h2]
    omega
theorem s3 : ∀ l : List Nat, (∀ a ∈ l, a < 69 ∧ a % 16 < 5) → (bval l / 16 + bval l) &&& mk8 15 l.length = bval (l.map h3)
  | [], _ => by simp [bval, mk8]
  | a :: l, h => by
    have ha := h a (List.mem_cons_self ..)
    have ih := s3 l (fun b hb => h b (List.mem_cons_of_mem _ hb))
    have ht : bval l % 16 < 5 := by
      cases l with
      | nil => simp [bval]
      | cons b l =>
        have hb := (h b (List.mem_cons_of_mem _ (List.mem_cons_self ..))).2
        simp only [bval]; omega
    have e : (a + 256 * bval l) / 16 + (a + 256 * bval l) = (a / 16 + a + 16 * (bval l % 16)) + 256 * (bval l / 16 + bval l) := by omega
    simp only [bval, List.length_cons, mk8, List.map_cons]
    rw [e, and_cons (by omega) (by decide), k3 a ha.1 _ ht, ih, h3]
theorem pcN_cons {a : Nat} (ha : a < 256) (y : Nat) : ∀ j, pcN (a + 256 * y) (8 + j) = pcN a 8 + pcN y j := by
  have hb : ∀ t, (a + 256 * y).testBit t = if t < 8 then a.testBit t else y.testBit (t - 8) := fun t => by
    rw [show a + 256 * y = 2 ^ 8 * y + a by omega, Nat.testBit_two_pow_mul_add _ (by simpa using ha)]
  intro j
  induction j with
  | zero => simp [pcN, hb]
  | succ j ih =>
    have e1 : pcN (a + 256 * y) (8 + (j + 1)) = pcN (a + 256 * y) (8 + j) + ((a + 256 * y).testBit (8 + j)).toNat := rfl
    have e2 : pcN y (j + 1) = pcN y j + (y.testBit j).toNat := rfl
    rw [e1, e2, ih, hb, if_neg (by omega), show 8 + j - 8 = j by omega, Nat.add_assoc]
theorem pcN_bval : ∀ l : List Nat, (∀ a ∈ l, a < 256) → pcN (bval l) (8 * l.length) = (l.map fun a => pcN a 8).sum
  | [], _ => by simp [bval, pcN]
  | a :: l, h => by
    have ha := h a (List.mem_cons_self ..)
    have ih := pcN_bval l (fun b hb => h b (List.mem_cons_of_mem _ hb))
    rw [List.length_cons, show 8 * (l.length + 1) = 8 + 8 * l.length by omega, bval, pcN_cons ha, ih]
    simp
def bytsN : Nat → Nat → List Nat
  | 0, _ => []
  | k + 1, x => x % 256 :: bytsN k (x / 256)
theorem bytsN_val : ∀ (k x : Nat), x < 256 ^ k → bval (bytsN k x) = x
  | 0, x, h => by simp at h; simp [bytsN, bval, h]
  | k + 1, x, h => by
    have := bytsN_val k (x / 256) (Nat.div_lt_of_lt_mul (by rw [Nat.pow_succ, Nat.mul_comm] at h; exact h))
    rw [bytsN, bval, this]; omega
theorem bytsN_lt : ∀ (k x : Nat), ∀ a ∈ bytsN k x, a < 256
  | 0, x, a, h => by simp [bytsN] at h
  | k + 1, x, a, h => by
    rw [bytsN] at h
    rcases List.mem_cons.1 h with rfl | h
    · omega
    · exact bytsN_lt k _ a h
theorem bytsN_len : ∀ (k x : Nat), (bytsN k x).length = k
  | 0, x => rfl
  | k + 1, x => by rw [bytsN, List.length_cons, bytsN_len k]
def byts (x : Nat) : List Nat := bytsN 8 x
theorem byts_val {x : Nat} (h : x < 18446744073709551616) : bval (byts x) = x := bytsN_val 8 x (by rw [show (256 : Nat) ^ 8 = 18446744073709551616 from by decide]; exact h)
theorem byts_lt (x : Nat) : ∀ a ∈ byts x, a < 256 := bytsN_lt 8 x
theorem byts_len (x : Nat) : (byts x).length = 8 := bytsN_len 8 x
theorem fold8 (p0 p1 p2 p3 p4 p5 p6 p7 t1 t2 t3 t4 t5 t6 t7 : Nat) (h : p0 ≤ 8 ∧ p1 ≤ 8 ∧ p2 ≤ 8 ∧ p3 ≤ 8 ∧ p4 ≤ 8 ∧ p5 ≤ 8 ∧ p6 ≤ 8 ∧ p7 ≤ 8) (x3 x4 x5 x6 : Nat) (e0 : x3 = p0 + 256 * t1) (e1 : t1 = p1 + 256 * t2) (e2 : t2 = p2 + 256 * t3) (e3 : t3 = p3 + 256 * t4) (e4 : t4 = p4 + 256 * t5) (e5 : t5 = p5 + 256 * t6) (e6 : t6 = p6 + 256 * t7) (e7 : t7 = p7)
    (h4 : x4 = x3 + x3 / 256) (h5 : x5 = x4 + x4 / 65536) (h6 : x6 = x5 + x5 / 4294967296) :
    x6 % 128 = p0 + p1 + p2 + p3 + p4 + p5 + p6 + p7 ∧ x6 < 9223372036854775808 := by
  have d1 : x3 / 256 = t1 := by clear h4 h5 h6 e1 e2 e3 e4 e5 e6 e7; omega
  rw [d1] at h4
  have d2 : x4 / 65536 = t2 + t3 := by
    have q : x4 = (p0 + p1 + 256 * (p1 + p2)) + 65536 * (t2 + t3) := by clear h5 h6 e3 e4 e5 e6 e7 d1; omega
    clear h4 h5 h6 e0 e1 e2 e3 e4 e5 e6 e7 d1; omega
  rw [d2] at h5
  have d3 : x5 / 4294967296 = t4 + t5 + (t6 + t7) := by
    have q0 : x3 = p0 + 256 * p1 + 65536 * p2 + 16777216 * p3 + 4294967296 * t4 := by clear h4 h5 h6 e4 e5 e6 e7 d1 d2; omega
    have q1 : t1 = p1 + 256 * p2 + 65536 * p3 + 16777216 * p4 + 4294967296 * t5 := by clear h4 h5 h6 e0 e5 e6 e7 d1 d2 q0; omega
    have q2 : t2 = p2 + 256 * p3 + 65536 * p4 + 16777216 * p5 + 4294967296 * t6 := by clear h4 h5 h6 e0 e1 e6 e7 d1 d2 q0 q1; omega
    have q3 : t3 = p3 + 256 * p4 + 65536 * p5 + 16777216 * p6 + 4294967296 * t7 := by clear h4 h5 h6 e0 e1 e2 e7 d1 d2 q0 q1 q2; omega
    clear h6 e0 e1 e2 e3 e4 e5 e6 e7 d1 d2
    subst h4
    omega
  rw [d3] at h6
  clear d1 d2 d3
  subst h4 h5
  constructor
  · have m : ∀ p t : Nat, (p + 256 * t) % 128 = p % 128 := fun p t => by omega
    have s : x6 = x3 + t1 + (t2 + t3) + (t4 + t5 + (t6 + t7)) := h6
    clear h6
    omega
  · omega
theorem ones_math {x x1 x2 x3 x4 x5 x6 : Nat} (hx : x < 18446744073709551616) (g1 : (x / 2 &&& 6148914691236517205) + (x &&& 6148914691236517205) = x1) (g2 : (x1 / 4 &&& 3689348814741910323) + (x1 &&& 3689348814741910323) = x2)
    (g3 : (x2 / 16 + x2) &&& 1085102592571150095 = x3) (g4 : x3 + x3 / 256 = x4) (g5 : x4 + x4 / 65536 = x5) (g6 : x5 + x5 / 4294967296 = x6) : x6 % 128 = pcN x 64 ∧ x6 < 9223372036854775808 ∧ x5 ≤ x6 ∧ x4 ≤ x5 ∧ x3 ≤ x4 := by
  have hl := byts_lt x
  have hv := byts_val hx
  have q1 := s1 (byts x) hl
  rw [hv, show mk8 85 (byts x).length = 6148914691236517205 from by rw [byts_len]; decide, g1] at q1
  have q2 := s2 ((byts x).map h1) (fun a ha => by obtain ⟨c, hc, rfl⟩ := List.mem_map.1 ha; exact h1_lt c (hl c hc))
  rw [← q1, show mk8 51 ((byts x).map h1).length = 3689348814741910323 from by rw [List.length_map, byts_len]; decide, g2] at q2
  have q3 := s3 (((byts x).map h1).map h2) (fun a ha => by
    obtain ⟨c, hc, rfl⟩ := List.mem_map.1 ha
    obtain ⟨d, hd, rfl⟩ := List.mem_map.1 hc
    exact h2_ok d (hl d hd))
  rw [← q2, show mk8 15 (((byts x).map h1).map h2).length = 1085102592571150095 from by rw [List.length_map, List.length_map, byts_len]; decide, g3] at q3
  have q4 : x3 = bval ((byts x).map fun a => pcN a 8) := by
    rw [q3, List.map_map, List.map_map]
    congr 1
    refine List.map_congr_left fun a ha => ?_
    exact h_pc a (hl a ha)
  have q5 := pcN_bval (byts x) hl
  rw [hv, byts_len] at q5
  have hp : ∀ a ∈ byts x, pcN a 8 ≤ 8 := fun a ha => pc8_le a (hl a ha)
  have hlen := byts_len x
  generalize byts x = B at q4 q5 hp hlen
  match B, hlen with
  | [a0, a1, a2, a3, a4, a5, a6, a7], _ =>
    simp only [List.map_cons, List.map_nil, bval] at q4
    simp only [List.map_cons, List.map_nil, List.sum_cons, List.sum_nil] at q5
    simp only [List.mem_cons, List.not_mem_nil, or_false, forall_eq_or_imp, forall_eq] at hp
    obtain ⟨r1, r2⟩ := fold8 _ _ _ _ _ _ _ _ _ _ _ _ _ _ _ hp x3 x4 x5 x6 q4 rfl rfl rfl rfl rfl rfl (by rw [Nat.mul_zero, Nat.add_zero]) g4.symm g5.symm g6.symm
    refine ⟨?_, r2, by rw [← g6]; exact Nat.le_add_right _ _, by rw [← g5]; exact Nat.le_add_right _ _, by rw [← g4]; exact Nat.le_add_right _ _⟩
    rw [r1, q5]
    simp only [Nat.add_zero, Nat.add_assoc]
theorem and_i127 {x : Nat} (h : x < 9223372036854775808) : andI .i64 (x : Int) 127 = ((x % 128 : Nat) : Int) := by
  unfold andI
  rw [show IntKind.i64.bits = 64 from rfl, BitVec.toNat_and, ofInt_nat (by have hm : M64 = 18446744073709551616 := rfl; omega), show (BitVec.ofInt 64 127).toNat = 2 ^ 7 - 1 from by decide, Nat.and_two_pow_sub_one_eq_mod]
  have : x % 2 ^ 7 < 128 := Nat.mod_lt _ (by decide)
  rw [wrap_i64 (by omega)]
end Go.Sl
namespace Go.Sl
open Go Go.Proofs
set_option linter.unusedVariables false
set_option linter.unusedSimpArgs false
abbrev m5 : Nat := 6148914691236517205
abbrev m3 : Nat := 3689348814741910323
abbrev mf : Nat := 1085102592571150095
section
variable {P : Program} {n : Nat} {ρ : Env} {H : HP} {t t' t'' : TypeId} {x y : Operand} {a b c : Nat}
theorem Pu.shrE (s q : Nat) (hx : ev ρ x = some (.int .u64 (a : Int))) (hy : ev ρ y = some (.int .u64 (s : Int))) (hq : 2 ^ s = q) (hs : s ≤ 64) (hc : a / q = c) : Pu P n ρ H (.binOp .shr t x y t') t'' (.int .u64 (c : Int)) := by
  have := Pu.shrN (P := P) (n := n) (H := H) (t := t) (t' := t') (t'' := t'') s ((q : Nat) : Int) hx hy (by rw [← hq, Int.natCast_pow]; rfl) hs (by omega)
  rw [← hc, Int.natCast_ediv]; exact this
theorem Pu.andE (m : Nat) (hx : ev ρ x = some (.int .u64 (a : Int))) (hy : ev ρ y = some (.int .u64 (m : Int))) (ha : a < 18446744073709551616) (hm : m < 18446744073709551616) (hc : (a &&& m) = c) : Pu P n ρ H (.binOp .and t x y t') t'' (.int .u64 (c : Int)) :=
  Pu.and hx hy (by rw [and_nat ha hm, hc])
theorem Pu.addE (hx : ev ρ x = some (.int .u64 (a : Int))) (hy : ev ρ y = some (.int .u64 (b : Int))) (hc : a + b = c) (hl : c < 18446744073709551616) : Pu P n ρ H (.binOp .add t x y t') t'' (.int .u64 (c : Int)) :=
  Pu.add hx hy (by rw [wrap_u64 (by omega)]; omega)
end
attribute [local irreducible] star Ow Cw Pk Pu Dw thenQ blockQ retQ loudQ Cr andI orI xorI IntKind.wrap wd ws bset pcN
theorem ones_fn (x : Nat) (hx : x < 18446744073709551616) : Fn Tryd.prog 38 [vw x] emp Unit (fun _ => vi (pcN x 64)) (fun _ => emp) := by
  obtain ⟨y1, e1⟩ : ∃ y, x / 2 = y := ⟨_, rfl⟩
  obtain ⟨z1, f1⟩ : ∃ y, y1 &&& m5 = y := ⟨_, rfl⟩
  obtain ⟨w1, f1'⟩ : ∃ y, x &&& m5 = y := ⟨_, rfl⟩
  obtain ⟨x1, g1⟩ : ∃ y, z1 + w1 = y := ⟨_, rfl⟩
  obtain ⟨y2, e2⟩ : ∃ y, x1 / 4 = y := ⟨_, rfl⟩
  obtain ⟨z2, f2⟩ : ∃ y, y2 &&& m3 = y := ⟨_, rfl⟩
  obtain ⟨w2, f2'⟩ : ∃ y, x1 &&& m3 = y := ⟨_, rfl⟩
  obtain ⟨x2, g2⟩ : ∃ y, z2 + w2 = y := ⟨_, rfl⟩
  obtain ⟨y3, e3⟩ : ∃ y, x2 / 16 = y := ⟨_, rfl⟩
  obtain ⟨w3, f3⟩ : ∃ y, y3 + x2 = y := ⟨_, rfl⟩
  obtain ⟨x3, g3⟩ : ∃ y, w3 &&& mf = y := ⟨_, rfl⟩
  obtain ⟨y4, e4⟩ : ∃ y, x3 / 256 = y := ⟨_, rfl⟩
  obtain ⟨x4, g4⟩ : ∃ y, x3 + y4 = y := ⟨_, rfl⟩
  obtain ⟨y5, e5⟩ : ∃ y, x4 / 65536 = y := ⟨_, rfl⟩
  obtain ⟨x5, g5⟩ : ∃ y, x4 + y5 = y := ⟨_, rfl⟩
  obtain ⟨y6, e6⟩ : ∃ y, x5 / 4294967296 = y := ⟨_, rfl⟩
  obtain ⟨x6, g6⟩ : ∃ y, x5 + y6 = y := ⟨_, rfl⟩
  have l1 : z1 ≤ 6148914691236517205 := by rw [← f1]; exact Nat.and_le_right
  have l2 : w1 ≤ 6148914691236517205 := by rw [← f1']; exact Nat.and_le_right
  have l3 : z2 ≤ 3689348814741910323 := by rw [← f2]; exact Nat.and_le_right
  have l4 : w2 ≤ 3689348814741910323 := by rw [← f2']; exact Nat.and_le_right
  obtain ⟨r1, r2, r3, r4, r5⟩ := ones_math (x1 := x1) (x2 := x2) (x3 := x3) (x4 := x4) (x5 := x5) (x6 := x6) hx (by rw [e1, f1, f1', g1]) (by rw [e2, f2, f2', g2]) (by rw [e3, f3, g3]) (by rw [e4, g4]) (by rw [e5, g5]) (by rw [e6, g6])
  have h127 := and_i127 r2
  have lx1 : x1 < 18446744073709551616 := by omega
  have ly1 : y1 < 18446744073709551616 := by omega
  have ly2 : y2 < 18446744073709551616 := by omega
  have lx2 : x2 < 18446744073709551616 := by omega
  have lw3 : w3 < 18446744073709551616 := by omega
  have lx3 : x3 < 18446744073709551616 := by omega
  have lx4 : x4 < 18446744073709551616 := by omega
  have lx5 : x5 < 18446744073709551616 := by omega
  have lx6 : x6 < 18446744073709551616 := by omega
  rw [r1] at h127
  have hcv : -9223372036854775808 ≤ (x6 : Int) ∧ (x6 : Int) ≤ 9223372036854775807 := (by have q := r2; exact ⟨Int.le_trans (by decide) (Int.natCast_nonneg x6), by omega⟩)
  clear r1 r3 r4 r5 l1 l2 l3 l4
  (refine Fn.of Tryd.func38 rfl (by kernel_rfl) Tryd.ntmps38 rfl (fun F => ?_))
  refine Cw.heq (emp_star F) ?_
  (repeat' (first | (refine Ow.is ?_; (first | refine Ow.nil ?_ | refine Ow.pu rfl (Pu.move rfl) ?_ | refine Ow.pu rfl (Pu.assign rfl) ?_ | (refine Ow.kBin ?_; (first | (refine Ow.b_add ?_; refine Ow.pu rfl (Pu.addE rfl rfl (by assumption) (by assumption)) ?_) | (refine Ow.b_and ?_; refine Ow.pu rfl (Pu.and rfl rfl h127) ?_) | (refine Ow.b_and ?_; refine Ow.pu rfl (Pu.andE mf rfl rfl (by assumption) (by decide) (by assumption)) ?_) | (refine Ow.b_and ?_; refine Ow.pu rfl (Pu.andE m3 rfl rfl (by assumption) (by decide) (by assumption)) ?_) | (refine Ow.b_and ?_; refine Ow.pu rfl (Pu.andE m5 rfl rfl (by assumption) (by decide) (by assumption)) ?_) | (refine Ow.b_shr ?_; refine Ow.pu rfl (Pu.shrE 32 4294967296 rfl rfl (by decide) (by decide) (by assumption)) ?_) | (refine Ow.b_shr ?_; refine Ow.pu rfl (Pu.shrE 16 65536 rfl rfl (by decide) (by decide) (by assumption)) ?_) | (refine Ow.b_shr ?_; refine Ow.pu rfl (Pu.shrE 8 256 rfl rfl (by decide) (by decide) (by assumption)) ?_) | (refine Ow.b_shr ?_; refine Ow.pu rfl (Pu.shrE 4 16 rfl rfl (by decide) (by decide) (by assumption)) ?_) | (refine Ow.b_shr ?_; refine Ow.pu rfl (Pu.shrE 2 4 rfl rfl (by decide) (by decide) (by assumption)) ?_) | (refine Ow.b_shr ?_; refine Ow.pu rfl (Pu.shrE 1 2 rfl rfl (by decide) (by decide) (by assumption)) ?_))) | (refine Ow.kConv ?_; (first | refine Ow.pu rfl (Pu.conv_i rfl hcv) ?_ | refine Ow.pu rfl (Pu.conv_i rfl (by omega)) ?_)))) | (refine Cw.is ?_; (first | refine Cw.seq ?_ | refine Cw.region ?_ | refine Cw.ret ?_)) | (first | refine thenQ_n ?_)))
  refine retQ_v () Tryd.results38 rfl rfl ?_
  refine Ent.trans ?_ (Ent.of_eq (emp_star F).symm); ((try simp only [star_assoc]); (repeat (apply Ent.pk; focus ((repeat first | exact pk0 | exact pkl | apply pkn); first | done | fail))); first | exact Ent.fin pkA | exact Ent.refl _)
def cn (S : Nat → Bool) : Nat → Nat
  | 0 => 0
  | j + 1 => cn S j + (S j).toNat
theorem cn_wd (S : Nat → Bool) (k : Nat) : ∀ j, j ≤ 64 → cn S (64 * k + j) = cn S (64 * k) + pcN (wd S k) j
  | 0, _ => by unfold pcN; simp
  | j + 1, h => by
    have ih := cn_wd S k j (by omega)
    have e1 : cn S (64 * k + (j + 1)) = cn S (64 * k + j) + (S (64 * k + j)).toNat := rfl
    have e2 : pcN (wd S k) (j + 1) = pcN (wd S k) j + ((wd S k).testBit j).toNat := by rw [pcN]
    rw [e1, e2, ih, wd_bit, decide_eq_true (by omega : j < 64), Bool.true_and, Nat.add_assoc]
theorem cn_step (S : Nat → Bool) (k : Nat) : cn S (64 * (k + 1)) = cn S (64 * k) + pcN (wd S k) 64 := by rw [← cn_wd S k 64 (by omega)]; rfl
theorem cn_sup (S : Nat → Bool) {n : Nat} (h : ∀ i, n ≤ i → S i = false) : ∀ t, cn S (n + t) = cn S n
  | 0 => rfl
  | t + 1 => by
    have e1 : cn S (n + (t + 1)) = cn S (n + t) + (S (n + t)).toNat := rfl
    rw [e1, cn_sup S h t, h _ (by omega)]; rfl
theorem cn_le (S : Nat → Bool) : ∀ j, cn S j ≤ j
  | 0 => Nat.le_refl _
  | j + 1 => by
    have := cn_le S j
    have e1 : cn S (j + 1) = cn S j + (S j).toNat := rfl
    have e2 : (S j).toNat ≤ 1 := by cases S j <;> simp
    omega
def Sup (n : Nat) (S : Nat → Bool) : Prop := ∀ i, n ≤ i → S i = false
theorem Pu.len_ws {P : Program} {n : Nat} {ρ : Env} {H R : HP} {t T e : TypeId} {x : Operand} {v : Value} {S : Nat → Bool} {m : Nat} [TT : TyU P T (.slice e)] (hx : ev ρ x = some v) (hp : Pk H (slk 1 v ((ws S m).map vw)) R) : Pu P n ρ H (.call { callee := .builtin .len, args := #[x], argTypes := #[T] }) t (.int .i64 m) := by
  have := Pu.len_slm (P := P) (n := n) (t := t) (T := T) (e := e) (TT := TT) hx hp
  rwa [ws_len] at this
variable (b n : Nat) (S : Nat → Bool)
theorem BCount_fn (hn : n ≤ 1000000) (hS : Sup n S) : Fn Tryd.prog 20 [.pointer (some ⟨b, 0, none⟩)] (bset b n S) Unit (fun _ => vi (cn S n)) (fun _ => bset b n S) := by
  have hend : cn S (64 * ((n + 63) / 64)) = cn S n := by
    have := cn_sup S hS (64 * ((n + 63) / 64) - n)
    rwa [show n + (64 * ((n + 63) / 64) - n) = 64 * ((n + 63) / 64) by omega] at this
  (refine Fn.of Tryd.func20 rfl (by kernel_rfl) Tryd.ntmps20 rfl (fun F => ?_))
  (repeat' (first | (refine Ow.is ?_; (first | refine Ow.nil ?_ | refine Ow.pu rfl (Pu.move rfl) ?_ | refine Ow.pu rfl (Pu.assign rfl) ?_ | (refine Ow.kBin ?_; (first | (refine Ow.b_lss ?_; first | refine Ow.pu rfl (Pu.lt_t rfl rfl (by omega)) ?_ | refine Ow.pu rfl (Pu.lt_f rfl rfl (by omega)) ?_ | refine Ow.sp rfl (by exact Pu.lt rfl rfl) (fun hc => ?_) (fun hc => ?_)) | (refine Ow.b_add ?_; refine Ow.pu rfl (Pu.add_i rfl rfl (by omega)) ?_))) | (refine Ow.kIdx ?_; (first | refine Ow.pu rfl (Pu.idx_sln rfl rfl pkA (by rw [List.length_map, ws_len]; omega)) ?_ | refine Ow.pu rfl (Pu.idx_sln rfl rfl pkA (by simp only [List.length_map, List.length_append, List.length_set, List.length_replicate, List.length_cons, List.length_nil]; omega)) ?_)) | (refine Ow.kBuiltin ?_; (first | refine Ow.pu rfl (Pu.len_ws rfl pkA) ?_)) | (refine Ow.kCall ?_; (first | refine Ow.callE evA pkA rfl (ALoad_fn hr) (fun _ => ?_) | refine Ow.callE evA pkA rfl (words_fn b n S hn) (fun v => Ow.assoc ?_) | refine Ow.callE0 evA rfl (ones_fn _ hz) (fun _ => Ow.unemp ?_) | fail)))) | (refine Cw.is ?_; (first | refine Cw.seq ?_ | refine Cw.region ?_ | refine Cw.cond_t rfl rfl ?_ | refine Cw.cond_f rfl rfl ?_ | refine Cw.block ?_ | refine Cw.ret ?_ | refine Cw.exit ?_ | refine Cw.skip ?_)) | (first | refine thenQ_n ?_ | refine thenQ_e ?_ | refine blockQ_n ?_ | refine blockQ_e ?_)))
  have hbl := bset_l b n S v
  unfold lset at hbl
  have hm : (n + 63) / 64 ≤ 20000 := by omega
  generalize (n + 63) / 64 = m at hend hm hbl ⊢
  refine Cw.loopS [3, 5, 10, 11, 12, 13, 14, 15, 16, 17, 18, 19, 20] (by (repeat first | exact er_nil | apply er_drop rfl | apply er_keep rfl)) (fun k : Nat => k ≤ m) (fun k => [(3, vi (cn S (64 * k))), (10, vi k)]) (fun k => m - k) 0 (by omega) (by (repeat first | exact trivial | refine ⟨rfl, ?_⟩)) (fun k hk => ?_)
  by_cases hlt : k < m
  · have hz := wd_lt S k
    have hr : RdA (slk 1 v.v ((ws S m).map vw)) ((sbase v.v).add k) (vw (wd S k)) := rd_slk (by rw [List.getElem?_map, ws_at S hlt]; rfl)
    have hc := cn_step S k
    have hc1 := cn_le S (64 * k)
    have hc2 := cn_le S (64 * (k + 1))
    (repeat' (first | (refine Ow.is ?_; (first | refine Ow.nil ?_ | refine Ow.pu rfl (Pu.move rfl) ?_ | refine Ow.pu rfl (Pu.assign rfl) ?_ | (refine Ow.kBin ?_; (first | (refine Ow.b_lss ?_; first | refine Ow.pu rfl (Pu.lt_t rfl rfl (by omega)) ?_ | refine Ow.pu rfl (Pu.lt_f rfl rfl (by omega)) ?_ | refine Ow.sp rfl (by exact Pu.lt rfl rfl) (fun hc => ?_) (fun hc => ?_)) | (refine Ow.b_add ?_; refine Ow.pu rfl (Pu.add_i rfl rfl (by omega)) ?_))) | (refine Ow.kIdx ?_; (first | refine Ow.pu rfl (Pu.idx_sln rfl rfl pkA (by rw [List.length_map, ws_len]; omega)) ?_ | refine Ow.pu rfl (Pu.idx_sln rfl rfl pkA (by simp only [List.length_map, List.length_append, List.length_set, List.length_replicate, List.length_cons, List.length_nil]; omega)) ?_)) | (refine Ow.kBuiltin ?_; (first | refine Ow.pu rfl (Pu.len_ws rfl pkA) ?_)) | (refine Ow.kCall ?_; (first | refine Ow.callE evA pkA rfl (ALoad_fn hr) (fun _ => ?_) | refine Ow.callE evA pkA rfl (words_fn b n S hn) (fun v => Ow.assoc ?_) | refine Ow.callE0 evA rfl (ones_fn _ hz) (fun _ => Ow.unemp ?_) | fail)))) | (refine Cw.is ?_; (first | refine Cw.seq ?_ | refine Cw.region ?_ | refine Cw.cond_t rfl rfl ?_ | refine Cw.cond_f rfl rfl ?_ | refine Cw.block ?_ | refine Cw.ret ?_ | refine Cw.exit ?_ | refine Cw.skip ?_)) | (first | refine thenQ_n ?_ | refine thenQ_e ?_ | refine blockQ_n ?_ | refine blockQ_e ?_)))
    exact ⟨rfl, k + 1, by omega, by omega, by rw [hc]; (repeat first | exact trivial | refine ⟨rfl, ?_⟩), by ((try simp only [star_assoc]); (repeat (apply Ent.pk; focus ((repeat first | exact pk0 | exact pkl | apply pkn); first | done | fail))); first | exact Ent.fin pkA | exact Ent.refl _)⟩
  · obtain rfl : k = m := by omega
    rw [hend]
    (repeat' (first | (refine Ow.is ?_; (first | refine Ow.nil ?_ | refine Ow.pu rfl (Pu.move rfl) ?_ | refine Ow.pu rfl (Pu.assign rfl) ?_ | (refine Ow.kBin ?_; (first | (refine Ow.b_lss ?_; first | refine Ow.pu rfl (Pu.lt_t rfl rfl (by omega)) ?_ | refine Ow.pu rfl (Pu.lt_f rfl rfl (by omega)) ?_ | refine Ow.sp rfl (by exact Pu.lt rfl rfl) (fun hc => ?_) (fun hc => ?_)) | (refine Ow.b_add ?_; refine Ow.pu rfl (Pu.add_i rfl rfl (by omega)) ?_))) | (refine Ow.kIdx ?_; (first | refine Ow.pu rfl (Pu.idx_sln rfl rfl pkA (by rw [List.length_map, ws_len]; omega)) ?_ | refine Ow.pu rfl (Pu.idx_sln rfl rfl pkA (by simp only [List.length_map, List.length_append, List.length_set, List.length_replicate, List.length_cons, List.length_nil]; omega)) ?_)) | (refine Ow.kBuiltin ?_; (first | refine Ow.pu rfl (Pu.len_ws rfl pkA) ?_)) | (refine Ow.kCall ?_; (first | refine Ow.callE evA pkA rfl (ALoad_fn hr) (fun _ => ?_) | refine Ow.callE evA pkA rfl (words_fn b n S hn) (fun v => Ow.assoc ?_) | refine Ow.callE0 evA rfl (ones_fn _ hz) (fun _ => Ow.unemp ?_) | fail)))) | (refine Cw.is ?_; (first | refine Cw.seq ?_ | refine Cw.region ?_ | refine Cw.cond_t rfl rfl ?_ | refine Cw.cond_f rfl rfl ?_ | refine Cw.block ?_ | refine Cw.ret ?_ | refine Cw.exit ?_ | refine Cw.skip ?_)) | (first | refine thenQ_n ?_ | refine thenQ_e ?_ | refine blockQ_n ?_ | refine blockQ_e ?_)))
    refine retQ_v () Tryd.results20 rfl rfl ?_
    refine Ent.trans ?_ (Ent.left hbl); ((try simp only [star_assoc]); (repeat (apply Ent.pk; focus ((repeat first | exact pk0 | exact pkl | apply pkn); first | done | fail))); first | exact Ent.fin pkA | exact Ent.refl _)
def clr (S : Nat → Bool) (k : Nat) : Nat → Bool := fun i => if i < 64 * k then false else S i
theorem BAll_fn : Fn Tryd.prog 21 [.pointer (some ⟨b, 0, none⟩)] emp Nat (fun c => .func (.func 39) #[] #[.pointer (some ⟨c, 0, none⟩)]) (fun c => cl c [.pointer (some ⟨b, 0, none⟩)]) := by
  (refine Fn.of Tryd.func21 rfl (by kernel_rfl) Tryd.ntmps21 rfl (fun F => ?_))
  refine Cw.heq (emp_star F) ?_
  (repeat' (first | (refine Ow.is ?_; (first | refine Ow.nil ?_ | refine Ow.pu rfl (Pu.assign rfl) ?_ | refine Ow.box rfl rfl rfl (fun bx => ?_) | refine Ow.pu rfl (Pu.makeFunc (by (repeat first | exact Evs.nil | apply Evs.cons rfl))) ?_)) | (refine Cw.is ?_; (first | refine Cw.seq ?_ | refine Cw.region ?_ | refine Cw.ret ?_)) | (first | refine thenQ_n ?_)))
  refine retQ_v bx Tryd.results21 rfl rfl ?_
  ((try simp only [star_assoc]); (repeat (apply Ent.pk; focus ((repeat first | exact pk0 | exact pkl | apply pkn); first | done | fail))); first | exact Ent.fin pkA | exact Ent.refl _)
theorem Ow.yc3 {P : Program} {r : Option Nat} {n : Nat} {Q : PostT} {ρ : Env} {ds : List Deferred} {H : HP} {all rest : List Oper} {d : Option Nat} {t : TypeId} {pos : String} {aft : Array Edge} {ts : Array TypeId} {x : Operand} {y : Value} {vs : List Value} {A1 A2 A3 R1 R2 F : HP} {post : Bool → HP} {xs : List Operand} (hy : Yc P y vs (A1 * A2 * A3) post) (hd : dOk n d = true) (hx : ev ρ x = some y) (hxs : Evs ρ xs vs) (hp : Pk H A1 R1) (hp2 : Pk R1 A2 R2) (hp3 : Pk R2 A3 F)
    (h : ∀ b, Ow P r n all rest Q (putE d (.bool b) ρ) ds (post b * F)) :
    Ow P r n all (⟨d, .call { callee := .value x, args := xs.toArray, argTypes := ts }, t, pos, aft, none⟩ :: rest) Q ρ ds H :=
  Ow.yc hy hd hx hxs (by unfold Pk at *; rw [hp, hp2, hp3]; simp only [star_assoc]) h
def stAt {σ : Type} (b n : Nat) (S : σ → Nat → Bool) (J : Nat → σ → HP) (i : Nat) : HP := Sl.ex fun s => bset b n (S s) * J i s
theorem stAt_ex {σ : Type} (b n : Nat) (S : σ → Nat → Bool) (J : Nat → σ → HP) (i : Nat) : stAt b n S J i = Sl.ex fun s => bset b n (S s) * J i s := rfl
theorem stAt_mk {σ : Type} (b n : Nat) (S : σ → Nat → Bool) (J : Nat → σ → HP) (i : Nat) (s : σ) : Ent (bset b n (S s) * J i s) (stAt b n S J i) := Ent.ex (A := fun s => bset b n (S s) * J i s) s
theorem stAt_n {σ : Type} (b n : Nat) (S : σ → Nat → Bool) (J : Nat → σ → HP) (i : Nat) : RdA (stAt b n S J i) ⟨b, 0, none⟩ (vi n) := RdA.ex fun s => RdA.left (bset_n b n (S s))
attribute [local irreducible] stAt
set_option maxHeartbeats 4000000 in
theorem BAllIt {σ : Type} (b n : Nat) (hn : n ≤ 1000000) (c : Nat) (S : σ → Nat → Bool) (J : Nat → σ → HP) (hskip : ∀ i s, i < n → S s i = false → Ent (bset b n (S s) * J i s) (stAt b n S J (i + 1))) (y : Value) (L : HP) (X : { p : Nat × σ // p.1 < n ∧ S p.2 p.1 = true } → HP)
    (hy : ∀ p : { p : Nat × σ // p.1 < n ∧ S p.2 p.1 = true }, Yc Tryd.prog y [vi p.1.1] (bset b n (S p.1.2) * J p.1.1 p.1.2 * L) (fun c => bif c then stAt b n S J (p.1.1 + 1) * L else X p)) :
    Fn Tryd.prog 39 (y :: [.pointer (some ⟨c, 0, none⟩)]) (cl c [.pointer (some ⟨b, 0, none⟩)] * stAt b n S J 0 * L) (Option { p : Nat × σ // p.1 < n ∧ S p.2 p.1 = true }) (fun _ => .tuple #[])
      (itPost (cl c [.pointer (some ⟨b, 0, none⟩)] * stAt b n S J n * L) (fun p => cl c [.pointer (some ⟨b, 0, none⟩)] * X p)) := by
  have hI0 := stAt_n b n S J 0
  (refine Fn.of Tryd.func39 rfl (by kernel_rfl) Tryd.ntmps39 rfl (fun F => ?_))
  (refine Cw.heq (by simp only [star_assoc, emp_star, star_emp]; exact rfl) ?_)
  (repeat' (first | (refine Ow.is ?_; (first | refine Ow.nil ?_ | refine Ow.pu rfl (Pu.move rfl) ?_ | refine Ow.pu rfl (Pu.assign rfl) ?_ | refine Ow.pu rfl (Pu.fld rfl) ?_ | refine Ow.pu rfl (Pu.nilCheck rfl) ?_ | (refine Ow.kGuard ?_; (first | refine Ow.guard_yes rfl rfl rfl ?_ | refine Ow.guard_no rfl rfl rfl rfl ?_)) | (refine Ow.kLoad ?_; (first | refine Ow.pu rfl (Pu.load (a := ⟨b, 0, none⟩) rfl pkA hI0) ?_ | refine Ow.pu rfl (Pu.load_cl rfl pkA rfl) ?_)) | (refine Ow.kBin ?_; (first | (refine Ow.b_lss ?_; first | refine Ow.pu rfl (Pu.lt_t rfl rfl (by omega)) ?_ | refine Ow.pu rfl (Pu.lt_f rfl rfl (by omega)) ?_ | refine Ow.sp rfl (by exact Pu.lt rfl rfl) (fun hc => ?_) (fun hc => ?_)) | (refine Ow.b_add ?_; refine Ow.pu rfl (Pu.add_i rfl rfl (by omega)) ?_))) | (refine Ow.kPick ?_; (first | refine Ow.pu rfl (Pu.pick_t rfl rfl) ?_ | refine Ow.pu rfl (Pu.pick_f rfl rfl) ?_)) | (refine Ow.kUn ?_; (first | refine Ow.pu rfl (Pu.not rfl) ?_)) | (refine Ow.kCall ?_; (first | refine Ow.callE evA pkA rfl (Has_v b n (S s) hn i h2 hS) (fun _ => ?_) | fail)))) | (refine Cw.is ?_; (first | refine Cw.seq ?_ | refine Cw.region ?_ | refine Cw.cond_t rfl rfl ?_ | refine Cw.cond_f rfl rfl ?_ | refine Cw.block ?_ | refine Cw.ret ?_ | refine Cw.exit ?_ | refine Cw.skip ?_)) | (first | refine thenQ_n ?_ | refine thenQ_r ?_ | refine thenQ_e ?_ | refine blockQ_n ?_ | refine blockQ_r ?_ | refine blockQ_e ?_)))
  refine Cw.loopF [3, 8, 9, 10, 11, 12, 13, 14, 15, 16, 17, 18, 19, 20] (by (repeat first | exact er_nil | apply er_drop rfl | apply er_keep rfl)) (fun i : Nat => i ≤ n) (fun i => [(8, vi i)]) (fun i => stAt b n S J i * (cl c [.pointer (some ⟨b, 0, none⟩)] * (L * F))) (fun i => n - i) 0 (by omega) (by (repeat first | exact trivial | refine ⟨rfl, ?_⟩)) (by ((try simp only [star_assoc]); (repeat (apply Ent.pk; focus ((repeat first | exact pk0 | exact pkl | apply pkn); first | done | fail))); first | exact Ent.fin pkA | exact Ent.refl _)) (fun i hi => ?_)
  by_cases h2 : i < n
  · refine Cw.opn (stAt_ex b n S J i) (fun s => ?_)
    (refine Cw.heq (by simp only [star_assoc, emp_star, star_emp]; exact rfl) ?_)
    cases hS : S s i with
    | false =>
      have hsk := hskip i s h2 hS
      (repeat' (first | (refine Ow.is ?_; (first | refine Ow.nil ?_ | refine Ow.pu rfl (Pu.move rfl) ?_ | refine Ow.pu rfl (Pu.assign rfl) ?_ | refine Ow.pu rfl (Pu.fld rfl) ?_ | refine Ow.pu rfl (Pu.nilCheck rfl) ?_ | (refine Ow.kGuard ?_; (first | refine Ow.guard_yes rfl rfl rfl ?_ | refine Ow.guard_no rfl rfl rfl rfl ?_)) | (refine Ow.kLoad ?_; (first | refine Ow.pu rfl (Pu.load (a := ⟨b, 0, none⟩) rfl pkA hI0) ?_ | refine Ow.pu rfl (Pu.load_cl rfl pkA rfl) ?_)) | (refine Ow.kBin ?_; (first | (refine Ow.b_lss ?_; first | refine Ow.pu rfl (Pu.lt_t rfl rfl (by omega)) ?_ | refine Ow.pu rfl (Pu.lt_f rfl rfl (by omega)) ?_ | refine Ow.sp rfl (by exact Pu.lt rfl rfl) (fun hc => ?_) (fun hc => ?_)) | (refine Ow.b_add ?_; refine Ow.pu rfl (Pu.add_i rfl rfl (by omega)) ?_))) | (refine Ow.kPick ?_; (first | refine Ow.pu rfl (Pu.pick_t rfl rfl) ?_ | refine Ow.pu rfl (Pu.pick_f rfl rfl) ?_)) | (refine Ow.kUn ?_; (first | refine Ow.pu rfl (Pu.not rfl) ?_)) | (refine Ow.kCall ?_; (first | refine Ow.callE evA pkA rfl (Has_v b n (S s) hn i h2 hS) (fun _ => ?_) | fail)))) | (refine Cw.is ?_; (first | refine Cw.seq ?_ | refine Cw.region ?_ | refine Cw.cond_t rfl rfl ?_ | refine Cw.cond_f rfl rfl ?_ | refine Cw.block ?_ | refine Cw.ret ?_ | refine Cw.exit ?_ | refine Cw.skip ?_)) | (first | refine thenQ_n ?_ | refine thenQ_r ?_ | refine thenQ_e ?_ | refine blockQ_n ?_ | refine blockQ_r ?_ | refine blockQ_e ?_)))
      exact ⟨rfl, i + 1, by omega, by omega, by (repeat first | exact trivial | refine ⟨rfl, ?_⟩), by
        refine Ent.trans (Ent.of_eq ?_) (Ent.left hsk)
        ac_rfl⟩
    | true =>
      have hyy := hy ⟨(i, s), h2, hS⟩
      simp only at hyy
      (repeat' (first | (refine Ow.is ?_; (first | refine Ow.nil ?_ | refine Ow.pu rfl (Pu.move rfl) ?_ | refine Ow.pu rfl (Pu.assign rfl) ?_ | refine Ow.pu rfl (Pu.fld rfl) ?_ | refine Ow.pu rfl (Pu.nilCheck rfl) ?_ | (refine Ow.kGuard ?_; (first | refine Ow.guard_yes rfl rfl rfl ?_ | refine Ow.guard_no rfl rfl rfl rfl ?_)) | (refine Ow.kLoad ?_; (first | refine Ow.pu rfl (Pu.load (a := ⟨b, 0, none⟩) rfl pkA hI0) ?_ | refine Ow.pu rfl (Pu.load_cl rfl pkA rfl) ?_)) | (refine Ow.kBin ?_; (first | (refine Ow.b_lss ?_; first | refine Ow.pu rfl (Pu.lt_t rfl rfl (by omega)) ?_ | refine Ow.pu rfl (Pu.lt_f rfl rfl (by omega)) ?_ | refine Ow.sp rfl (by exact Pu.lt rfl rfl) (fun hc => ?_) (fun hc => ?_)) | (refine Ow.b_add ?_; refine Ow.pu rfl (Pu.add_i rfl rfl (by omega)) ?_))) | (refine Ow.kPick ?_; (first | refine Ow.pu rfl (Pu.pick_t rfl rfl) ?_ | refine Ow.pu rfl (Pu.pick_f rfl rfl) ?_)) | (refine Ow.kUn ?_; (first | refine Ow.pu rfl (Pu.not rfl) ?_)) | (refine Ow.kCall ?_; (first | refine Ow.callE evA pkA rfl (Has_v b n (S s) hn i h2 hS) (fun _ => ?_) | fail)))) | (refine Cw.is ?_; (first | refine Cw.seq ?_ | refine Cw.region ?_ | refine Cw.cond_t rfl rfl ?_ | refine Cw.cond_f rfl rfl ?_ | refine Cw.block ?_ | refine Cw.ret ?_ | refine Cw.exit ?_ | refine Cw.skip ?_)) | (first | refine thenQ_n ?_ | refine thenQ_r ?_ | refine thenQ_e ?_ | refine blockQ_n ?_ | refine blockQ_r ?_ | refine blockQ_e ?_)))
      refine Ow.yc3 hyy rfl rfl evA pkA pkA pkA (fun r => ?_)
      cases r with
      | true =>
        rw [cond_true]
        (repeat' (first | (refine Ow.is ?_; (first | refine Ow.nil ?_ | refine Ow.pu rfl (Pu.move rfl) ?_ | refine Ow.pu rfl (Pu.assign rfl) ?_ | refine Ow.pu rfl (Pu.fld rfl) ?_ | refine Ow.pu rfl (Pu.nilCheck rfl) ?_ | (refine Ow.kGuard ?_; (first | refine Ow.guard_yes rfl rfl rfl ?_ | refine Ow.guard_no rfl rfl rfl rfl ?_)) | (refine Ow.kLoad ?_; (first | refine Ow.pu rfl (Pu.load (a := ⟨b, 0, none⟩) rfl pkA hI0) ?_ | refine Ow.pu rfl (Pu.load_cl rfl pkA rfl) ?_)) | (refine Ow.kBin ?_; (first | (refine Ow.b_lss ?_; first | refine Ow.pu rfl (Pu.lt_t rfl rfl (by omega)) ?_ | refine Ow.pu rfl (Pu.lt_f rfl rfl (by omega)) ?_ | refine Ow.sp rfl (by exact Pu.lt rfl rfl) (fun hc => ?_) (fun hc => ?_)) | (refine Ow.b_add ?_; refine Ow.pu rfl (Pu.add_i rfl rfl (by omega)) ?_))) | (refine Ow.kPick ?_; (first | refine Ow.pu rfl (Pu.pick_t rfl rfl) ?_ | refine Ow.pu rfl (Pu.pick_f rfl rfl) ?_)) | (refine Ow.kUn ?_; (first | refine Ow.pu rfl (Pu.not rfl) ?_)) | (refine Ow.kCall ?_; (first | refine Ow.callE evA pkA rfl (Has_v b n (S s) hn i h2 hS) (fun _ => ?_) | fail)))) | (refine Cw.is ?_; (first | refine Cw.seq ?_ | refine Cw.region ?_ | refine Cw.cond_t rfl rfl ?_ | refine Cw.cond_f rfl rfl ?_ | refine Cw.block ?_ | refine Cw.ret ?_ | refine Cw.exit ?_ | refine Cw.skip ?_)) | (first | refine thenQ_n ?_ | refine thenQ_r ?_ | refine thenQ_e ?_ | refine blockQ_n ?_ | refine blockQ_r ?_ | refine blockQ_e ?_)))
        exact ⟨rfl, i + 1, by omega, by omega, by (repeat first | exact trivial | refine ⟨rfl, ?_⟩), by ((try simp only [star_assoc]); (repeat (apply Ent.pk; focus ((repeat first | exact pk0 | exact pkl | apply pkn); first | done | fail))); first | exact Ent.fin pkA | exact Ent.refl _)⟩
      | false =>
        rw [cond_false]
        (repeat' (first | (refine Ow.is ?_; (first | refine Ow.nil ?_ | refine Ow.pu rfl (Pu.move rfl) ?_ | refine Ow.pu rfl (Pu.assign rfl) ?_ | refine Ow.pu rfl (Pu.fld rfl) ?_ | refine Ow.pu rfl (Pu.nilCheck rfl) ?_ | (refine Ow.kGuard ?_; (first | refine Ow.guard_yes rfl rfl rfl ?_ | refine Ow.guard_no rfl rfl rfl rfl ?_)) | (refine Ow.kLoad ?_; (first | refine Ow.pu rfl (Pu.load (a := ⟨b, 0, none⟩) rfl pkA hI0) ?_ | refine Ow.pu rfl (Pu.load_cl rfl pkA rfl) ?_)) | (refine Ow.kBin ?_; (first | (refine Ow.b_lss ?_; first | refine Ow.pu rfl (Pu.lt_t rfl rfl (by omega)) ?_ | refine Ow.pu rfl (Pu.lt_f rfl rfl (by omega)) ?_ | refine Ow.sp rfl (by exact Pu.lt rfl rfl) (fun hc => ?_) (fun hc => ?_)) | (refine Ow.b_add ?_; refine Ow.pu rfl (Pu.add_i rfl rfl (by omega)) ?_))) | (refine Ow.kPick ?_; (first | refine Ow.pu rfl (Pu.pick_t rfl rfl) ?_ | refine Ow.pu rfl (Pu.pick_f rfl rfl) ?_)) | (refine Ow.kUn ?_; (first | refine Ow.pu rfl (Pu.not rfl) ?_)) | (refine Ow.kCall ?_; (first | refine Ow.callE evA pkA rfl (Has_v b n (S s) hn i h2 hS) (fun _ => ?_) | fail)))) | (refine Cw.is ?_; (first | refine Cw.seq ?_ | refine Cw.region ?_ | refine Cw.cond_t rfl rfl ?_ | refine Cw.cond_f rfl rfl ?_ | refine Cw.block ?_ | refine Cw.ret ?_ | refine Cw.exit ?_ | refine Cw.skip ?_)) | (first | refine thenQ_n ?_ | refine thenQ_r ?_ | refine thenQ_e ?_ | refine blockQ_n ?_ | refine blockQ_r ?_ | refine blockQ_e ?_)))
        refine retQ_r (some ⟨(i, s), h2, hS⟩) (res0 Tryd.results39) ?_
        refine Ent.of_eq ?_
        simp only [itPost]; ac_rfl
  · obtain rfl : i = n := by omega
    (repeat' (first | (refine Ow.is ?_; (first | refine Ow.nil ?_ | refine Ow.pu rfl (Pu.move rfl) ?_ | refine Ow.pu rfl (Pu.assign rfl) ?_ | refine Ow.pu rfl (Pu.fld rfl) ?_ | refine Ow.pu rfl (Pu.nilCheck rfl) ?_ | (refine Ow.kGuard ?_; (first | refine Ow.guard_yes rfl rfl rfl ?_ | refine Ow.guard_no rfl rfl rfl rfl ?_)) | (refine Ow.kLoad ?_; (first | refine Ow.pu rfl (Pu.load (a := ⟨b, 0, none⟩) rfl pkA hI0) ?_ | refine Ow.pu rfl (Pu.load_cl rfl pkA rfl) ?_)) | (refine Ow.kBin ?_; (first | (refine Ow.b_lss ?_; first | refine Ow.pu rfl (Pu.lt_t rfl rfl (by omega)) ?_ | refine Ow.pu rfl (Pu.lt_f rfl rfl (by omega)) ?_ | refine Ow.sp rfl (by exact Pu.lt rfl rfl) (fun hc => ?_) (fun hc => ?_)) | (refine Ow.b_add ?_; refine Ow.pu rfl (Pu.add_i rfl rfl (by omega)) ?_))) | (refine Ow.kPick ?_; (first | refine Ow.pu rfl (Pu.pick_t rfl rfl) ?_ | refine Ow.pu rfl (Pu.pick_f rfl rfl) ?_)) | (refine Ow.kUn ?_; (first | refine Ow.pu rfl (Pu.not rfl) ?_)) | (refine Ow.kCall ?_; (first | refine Ow.callE evA pkA rfl (Has_v b n (S s) hn i h2 hS) (fun _ => ?_) | fail)))) | (refine Cw.is ?_; (first | refine Cw.seq ?_ | refine Cw.region ?_ | refine Cw.cond_t rfl rfl ?_ | refine Cw.cond_f rfl rfl ?_ | refine Cw.block ?_ | refine Cw.ret ?_ | refine Cw.exit ?_ | refine Cw.skip ?_)) | (first | refine thenQ_n ?_ | refine thenQ_r ?_ | refine thenQ_e ?_ | refine blockQ_n ?_ | refine blockQ_r ?_ | refine blockQ_e ?_)))
    refine retQ_n none (res0 Tryd.results39) ?_
    refine Ent.of_eq ?_
    simp only [itPost]; ac_rfl
end Go.Sl
namespace Go.Sl
open Go Go.Proofs
set_option linter.unusedVariables false
set_option linter.unusedSimpArgs false
abbrev S0 : Nat → Bool := fun _ => false
theorem cn_zero : ∀ j, cn S0 j = 0
  | 0 => rfl
  | j + 1 => by rw [cn, cn_zero j]; rfl
theorem cn_upd (S : Nat → Bool) (i : Nat) (v : Bool) : ∀ j, (j ≤ i → cn (upd S i v) j = cn S j) ∧ (i < j → cn (upd S i v) j + (S i).toNat = cn S j + v.toNat)
  | 0 => ⟨fun _ => rfl, fun h => by omega⟩
  | j + 1 => by
    obtain ⟨h1, h2⟩ := cn_upd S i v j
    have e1 : cn (upd S i v) (j + 1) = cn (upd S i v) j + (upd S i v j).toNat := rfl
    have e2 : cn S (j + 1) = cn S j + (S j).toNat := rfl
    constructor
    · intro h
      rw [e1, e2, h1 (by omega), upd_ne S v (by omega)]
    · intro h
      by_cases hj : i = j
      · subst hj
        rw [e1, e2, h1 (by omega), upd_same]; omega
      · rw [e1, e2, upd_ne S v (by omega)]
        have := h2 (by omega); omega
theorem cn_put {S : Nat → Bool} {i n : Nat} (hi : i < n) (h : S i = false) : cn (upd S i true) n = cn S n + 1 := by
  have := (cn_upd S i true n).2 hi
  rw [h] at this; simpa using this
attribute [local irreducible] star Ow Cw Pk Pu Dw thenQ blockQ retQ loudQ Cr andI orI xorI IntKind.wrap bset stAt
end Go.Sl
namespace Go.Sl
open Go Go.Proofs
set_option linter.unusedVariables false
set_option linter.unusedSectionVars false
section
variable {α : Type} [Inhabited α] {O : List (Obj α)} {R : List Int}
def flds (O : List (Obj α)) (z : Int) : List Int := (O[(z - 1).toNat]!).2.1
inductive Rch (O : List (Obj α)) (R : List Int) : Int → Prop
  | root {z : Int} : z ∈ R → z ≠ 0 → Rch O R z
  | step {z y : Int} : Rch O R z → y ∈ flds O z → y ≠ 0 → Rch O R y
structure OkO (O : List (Obj α)) (R : List Int) : Prop where
  r : ∀ z ∈ R, okR O.length z
  o : ∀ x ∈ O, x.2.1.length ≤ 6 ∧ ∀ z ∈ x.2.1, okR O.length z
theorem OkO.f (h : OkO O R) {z : Int} (hz : 1 ≤ z ∧ z ≤ O.length) : (flds O z).length ≤ 6 ∧ ∀ y ∈ flds O z, okR O.length y := by
  unfold flds
  rw [getElem!_pos O (z - 1).toNat (by omega)]
  exact h.o _ (List.getElem_mem _)
theorem Rch.ok (h : OkO O R) {z : Int} (hz : Rch O R z) : 1 ≤ z ∧ z ≤ O.length := by
  induction hz with
  | root h1 h2 => have := h.r _ h1; unfold okR at this; omega
  | step _ h1 h2 ih => have := (h.f ih).2 _ h1; unfold okR at this; omega
open Classical in
noncomputable def rchB (O : List (Obj α)) (R : List Int) : Nat → Bool := fun z => decide (Rch O R z)
theorem rchB_t {z : Nat} : rchB O R z = true ↔ Rch O R z := by unfold rchB; simp
theorem rchB_sup (h : OkO O R) : Sup (O.length + 1) (rchB O R) := fun i hi => by
  cases e : rchB O R i with
  | false => rfl
  | true => have := (rchB_t.1 e).ok h; omega
structure Wl (O : List (Obj α)) (R : List Int) (V : Nat → Bool) (l : List Int) : Prop where
  hv : ∀ z : Nat, V z = true → Rch O R z ∧ 1 ≤ z ∧ z ≤ O.length
  hl : ∀ z ∈ l, okR O.length z ∧ (z ≠ 0 → Rch O R z)
  hr : ∀ z ∈ R, z ≠ 0 → V z.toNat = true ∨ z ∈ l
  hc : ∀ z : Nat, V z = true → ∀ y ∈ flds O z, y ≠ 0 → V y.toNat = true ∨ y ∈ l
theorem Wl.start (h : OkO O R) {l : List Int} (hll : ∀ z, z ≠ 0 → (z ∈ l ↔ z ∈ R)) (hl2 : ∀ z ∈ l, okR O.length z) : Wl O R S0 l where
  hv z hz := by cases hz
  hl z hz := ⟨hl2 z hz, fun h0 => .root ((hll z h0).1 hz) h0⟩
  hr z hz h0 := .inr ((hll z h0).2 hz)
  hc z hz := by cases hz
theorem Wl.skip {V : Nat → Bool} {l : List Int} {z : Int} (h : Wl O R V (l ++ [z])) (hz : z = 0 ∨ V z.toNat = true) : Wl O R V l where
  hv := h.hv
  hl y hy := h.hl y (List.mem_append_left _ hy)
  hr y hy h0 := by
    rcases h.hr y hy h0 with h1 | h1
    · exact .inl h1
    · rcases List.mem_append.1 h1 with h1 | h1
      · exact .inr h1
      · have : y = z := by simpa using h1
        subst this
        rcases hz with hz | hz
        · exact (h0 hz).elim
        · exact .inl hz
  hc x hx y hy h0 := by
    rcases h.hc x hx y hy h0 with h1 | h1
    · exact .inl h1
    · rcases List.mem_append.1 h1 with h1 | h1
      · exact .inr h1
      · have : y = z := by simpa using h1
        subst this
        rcases hz with hz | hz
        · exact (h0 hz).elim
        · exact .inl hz
theorem Wl.put {V : Nat → Bool} {l : List Int} {z : Int} (h : Wl O R V (l ++ [z])) (ho : OkO O R) (hz : z ≠ 0) : Wl O R (upd V z.toNat true) (l ++ flds O z) := by
  obtain ⟨hz1, hz2⟩ := h.hl z (by simp)
  have hzr := hz2 hz
  have hz3 : 1 ≤ z ∧ z ≤ O.length := hzr.ok ho
  have hup : ∀ y : Nat, V y = true → upd V z.toNat true y = true := fun y hy => by
    by_cases e : z.toNat = y
    · rw [← e, upd_same]
    · rw [upd_ne _ _ (by omega)]; exact hy
  have hin : ∀ y : Int, y ∈ l ++ [z] → upd V z.toNat true y.toNat = true ∨ y ∈ l ++ flds O z := fun y hy => by
    rcases List.mem_append.1 hy with h1 | h1
    · exact .inr (List.mem_append_left _ h1)
    · have : y = z := by simpa using h1
      subst this
      exact .inl (upd_same _ _ _)
  refine ⟨fun y hy => ?_, fun y hy => ?_, fun y hy h0 => ?_, fun x hx y hy h0 => ?_⟩
  · by_cases e : z.toNat = y
    · have : z = (y : Int) := by omega
      rw [← this]; exact ⟨hzr, by omega, by omega⟩
    · rw [upd_ne _ _ (by omega)] at hy; exact h.hv y hy
  · rcases List.mem_append.1 hy with h1 | h1
    · exact h.hl y (List.mem_append_left _ h1)
    · exact ⟨(ho.f hz3).2 y h1, fun h0 => .step hzr h1 h0⟩
  · rcases h.hr y hy h0 with h1 | h1
    · exact .inl (hup _ h1)
    · exact hin y h1
  · by_cases e : z.toNat = x
    · have e2 : z = (x : Int) := by omega
      rw [← e2] at hy
      exact .inr (List.mem_append_right _ hy)
    · rw [upd_ne _ _ (by omega)] at hx
      rcases h.hc x hx y hy h0 with h1 | h1
      · exact .inl (hup _ h1)
      · exact hin y h1
theorem Wl.done {V : Nat → Bool} (h : Wl O R V []) (ho : OkO O R) : V = rchB O R := by
  have key : ∀ z : Int, Rch O R z → V z.toNat = true := fun z hz => by
    induction hz with
    | root h1 h2 => exact (h.hr _ h1 h2).resolve_right (by simp)
    | step h0 h1 h2 ih =>
      rename_i z y
      have hz := h0.ok ho
      have e : z = (z.toNat : Int) := by omega
      rw [e] at h1
      exact (h.hc _ ih _ h1 h2).resolve_right (by simp)
  funext z
  cases e : V z with
  | true => exact (rchB_t.2 (h.hv z e).1).symm
  | false =>
    cases e2 : rchB O R z with
    | false => rfl
    | true => have := key z (rchB_t.1 e2); rw [Int.toNat_natCast, e] at this; cases this
def wlM (n : Nat) (V : Nat → Bool) (l : List Int) : Nat := 7 * (n + 1 - cn V (n + 1)) + l.length
theorem wlM_put {V : Nat → Bool} {l : List Int} {z : Int} (h : Wl O R V (l ++ [z])) (ho : OkO O R) (hz : z ≠ 0) (hV : V z.toNat = false) : wlM O.length (upd V z.toNat true) (l ++ flds O z) < wlM O.length V (l ++ [z]) := by
  have hz3 : 1 ≤ z ∧ z ≤ O.length := ((h.hl z (by simp)).2 hz).ok ho
  have h1 := cn_put (n := O.length + 1) (by omega) hV
  have h2 := cn_le (upd V z.toNat true) (O.length + 1)
  have h3 := (ho.f hz3).1
  unfold wlM
  simp only [List.length_append, List.length_cons, List.length_nil]
  omega
theorem wlM_skip {n : Nat} {V : Nat → Bool} {l : List Int} {z : Int} : wlM n V l < wlM n V (l ++ [z]) := by
  unfold wlM; simp
theorem wlM_len {n : Nat} {V : Nat → Bool} {l : List Int} : l.length ≤ wlM n V l := by unfold wlM; omega
theorem wlM_0 (n : Nat) (l : List Int) : wlM n S0 l = 7 * (n + 1) + l.length := by unfold wlM; rw [cn_zero]; rfl
variable {β : Type} [Inhabited β]
def rtsG : Option (β × ThS) → List Int
  | none => []
  | some p => p.2.r ++ p.2.s
def rootsG (s : GS α β) : List Int := s.G ++ s.T.flatMap rtsG
theorem GsOk.oko {q : Cfg} {s : GS α β} (h : GsOk q s) : OkO s.O (rootsG s) where
  r z hz := by
    rcases List.mem_append.1 hz with h1 | h1
    · exact h.g z h1
    · obtain ⟨o, ho, hzo⟩ := List.mem_flatMap.1 h1
      obtain ⟨j, hj, rfl⟩ := List.mem_iff_getElem.1 ho
      have hj4 : j < 4 := by rw [h.tl] at hj; exact hj
      cases e : s.T[j] with
      | none => rw [e] at hzo; cases hzo
      | some p =>
        rw [e] at hzo
        have ht := (h.t j p.1 p.2 hj4 (by rw [getElem!_pos s.T j hj, e])).1
        rcases List.mem_append.1 hzo with h2 | h2
        · exact ht.r z h2
        · exact ht.s z h2
  o := h.o
theorem rootsG_len {q : Cfg} {s : GS α β} (h : GsOk q s) (hq : QOk q) : (rootsG s).length ≤ 68 := by
  have h4 := h.tl
  have key : ∀ j, j < 4 → (rtsG s.T[j]!).length ≤ 16 := fun j hj => by
    cases e : s.T[j]! with
    | none => simp [rtsG]
    | some p =>
      have ht := (h.t j p.1 p.2 hj e).1
      have h1 := ht.rl
      have h2 := ht.sl
      have := hq.rg
      have := hq.st
      simp only [rtsG, List.length_append]
      omega
  have h0 := key 0 (by omega)
  have h1 := key 1 (by omega)
  have h2 := key 2 (by omega)
  have h3 := key 3 (by omega)
  have hg := h.gl
  have := hq.gl
  obtain ⟨O, G, T⟩ := s
  simp only at h4
  match T, h4 with
  | [t0, t1, t2, t3], _ =>
    simp only [rootsG, List.flatMap_cons, List.flatMap_nil, List.length_append, List.length_nil]
    have e0 : ([t0, t1, t2, t3] : List (Option (β × ThS)))[0]! = t0 := rfl
    have e1 : ([t0, t1, t2, t3] : List (Option (β × ThS)))[1]! = t1 := rfl
    have e2 : ([t0, t1, t2, t3] : List (Option (β × ThS)))[2]! = t2 := rfl
    have e3 : ([t0, t1, t2, t3] : List (Option (β × ThS)))[3]! = t3 := rfl
    rw [e0] at h0; rw [e1] at h1; rw [e2] at h2; rw [e3] at h3
    simp only at hg
    omega
end
def wlN (T : List Slt) : Nat → List Int
  | 0 => []
  | j + 1 => wlN T j ++ rts T[j]!
theorem wl_nz (T : List Slt) : ∀ j, (lvN T j).flatMap (fun j => nz (rts T[j]!)) = nz (wlN T j)
  | 0 => rfl
  | j + 1 => by
    rw [lvN, wlN, List.flatMap_append, wl_nz T j, nz_append]
    cases h : T[j]! with
    | none => simp [rts, nz]
    | some q => rw [show (if (some q : Slt).isSome = true then [j] else []) = [j] from rfl]; simp only [List.flatMap_cons, List.flatMap_nil, List.append_nil, h]
theorem all_wl (G : List Int) (T : List Slt) : allR G T = nz (G ++ wlN T 4) := by
  rw [allR, lvR, List.take_length, nz_append, ← wl_nz]; rfl
end Go.Sl
namespace Go.Sl
open Go
set_option linter.unusedVariables false
universe u
section
variable {P : Program} {n : Nat} {ρ : Env} {H : HP} {t t' t'' : TypeId} {x y : Operand}
end
section
variable {P : Program} {fn : Func} {β : Type u} {val : β → Value} {post : β → HP} {F H H' : HP} {ρ : Env} {D : Nat} {ds : List Deferred} {ex : Exit}
theorem Leave.peel (hp : Pk H (pt D (.deferred (some []))) H') (h : Leave P fn val post F ρ ds (pt D (.deferred none) * H')) : Leave P fn val post F ρ (mk D :: ds) H := ⟨D, H', rfl, Ent.of_eq hp, h⟩
theorem Leave.fin (w : β) (hres : Res P fn ρ H (val w)) (hH : Ent H (post w * F)) : Leave P fn val post F ρ [] H := ⟨w, hres, hH⟩
theorem retQ_l (he : ex = .normal ∨ ex = .ret) (h : Leave P fn val post F ρ ds H) : retQ P fn val post F ex ρ ds H := ⟨he, h⟩
end
end Go.Sl
namespace Go.Sl
open Go Go.Proofs
set_option linter.unusedVariables false
set_option linter.unusedSimpArgs false
def lU (b4 : Nat) (L : List Int) (k : Nat) : HP := Sl.ex fun sv : SV => cl b4 [sv.v] * slk 1 sv.v ((L.take k).map vi)
theorem lU_ex (b4 : Nat) (L : List Int) (k : Nat) : lU b4 L k = Sl.ex fun sv : SV => cl b4 [sv.v] * slk 1 sv.v ((L.take k).map vi) := rfl
theorem lU_mk (b4 : Nat) {L l : List Int} {k : Nat} (h : l = L.take k) (sv : SV) : Ent (cl b4 [sv.v] * slk 1 sv.v (l.map vi)) (lU b4 L k) := by
  subst h; exact Ent.ex (A := fun sv : SV => cl b4 [sv.v] * slk 1 sv.v ((L.take k).map vi)) sv
theorem take_s {L : List Int} {i : Nat} (hi : i < L.length) : L.take i ++ [L[i]!] = L.take (i + 1) := by
  rw [List.take_succ_eq_append_getElem hi, getElem!_pos L i hi]
theorem upd_tt {S : Nat → Bool} {i : Nat} (h : S i = true) : upd S i true = S := by
  funext j
  by_cases e : i = j
  · subst e; rw [upd_same, h]
  · rw [upd_ne _ _ (by omega)]
theorem rts_sltO (o : Option (Nat × ThS)) : rts (sltO o) = rtsG o := by cases o <;> rfl
theorem wl_roots {s : GS SV Nat} (hT : s.T.length = 4) : s.G ++ wlN (s.T.map sltO) 4 = rootsG s := by
  obtain ⟨O, G, T⟩ := s
  simp only at hT
  match T, hT with
  | [t0, t1, t2, t3], _ =>
    show G ++ ((((([] : List Int) ++ rts (sltO t0)) ++ rts (sltO t1)) ++ rts (sltO t2)) ++ rts (sltO t3)) = _
    simp only [rts_sltO, rootsG, List.flatMap_cons, List.flatMap_nil, List.nil_append, List.append_nil, List.append_assoc]
theorem allR_mem {s : GS SV Nat} (hT : s.T.length = 4) (z : Int) : z ∈ allR s.G (s.T.map sltO) ↔ z ∈ rootsG s ∧ z ≠ 0 := by
  rw [all_wl, wl_roots hT]; simp [nz]
theorem allR_len {s : GS SV Nat} (hT : s.T.length = 4) : (allR s.G (s.T.map sltO)).length ≤ (rootsG s).length := by
  rw [all_wl, wl_roots hT]; exact List.length_filter_le _ _
structure RzS where
  V : Nat → Bool
  l : List Int
  sv : SV
attribute [local irreducible] star Ow Cw Pk Pu Dw DwF thenQ blockQ retQ loudQ loudF loudG Cr thr tab obs andI bset lU stAt cn
set_option maxHeartbeats 16000000 in
theorem Reach_fn (g : Nat) (q : Cfg) (s : GS SV Nat) (hok : GsOk q s) (hq8 : QOk q) (hO : s.O.length ≤ 900000) :
    Fn Tryd.prog 17 [.pointer (some ⟨g, 0, none⟩)] (gph g q s) Nat (fun sb => .pointer (some ⟨sb, 0, none⟩)) (fun sb => bset sb (s.O.length + 1) (rchB s.O (rootsG s)) * gph g q s) := by
  have hT := hok.tl
  have hoko := hok.oko
  have hrl := rootsG_len hok hq8
  have hmem := allR_mem hT
  have hall := allR_len hT
  have hG : s.G.length < 1000000 := by have := hok.gl; have := hq8.gl; omega
  have hSm : SmallT (s.T.map sltO) := fun x hx => by
    obtain ⟨o, ho, rfl⟩ := List.mem_map.1 hx
    rw [rts_sltO]
    have h1 : (rtsG o).length ≤ (rootsG s).length := by
      unfold rootsG
      obtain ⟨a, b, hab⟩ := List.append_of_mem ho
      rw [hab]; simp; omega
    omega
  obtain ⟨R, hR⟩ : ∃ R, rootsG s = R := ⟨_, rfl⟩
  rw [hR] at hmem hall hrl hoko ⊢
  obtain ⟨L, hL⟩ : ∃ L, allR s.G (s.T.map sltO) = L := ⟨_, rfl⟩
  have hLok : ∀ z ∈ L, okR s.O.length z := fun z hz => hoko.r z ((hmem z).1 (hL ▸ hz)).1
  have hLR : ∀ z, z ≠ 0 → (z ∈ L ↔ z ∈ R) := fun z h0 => by rw [← hL, hmem]; exact ⟨fun h => h.1, fun h => ⟨h, h0⟩⟩
  have hAll := fun cc rb => AllIt rb cc q.threads q.regs q.stack s.G (s.T.map sltO) (by simpa using hT) hG hSm
  rw [hL] at hAll hall
  obtain ⟨O, hOO⟩ : ∃ O, s.O = O := ⟨_, rfl⟩
  rw [hOO] at hO hoko hLok ⊢
  (refine Fn.of Tryd.func17 rfl (by kernel_rfl) Tryd.ntmps17 rfl (fun F => ?_))
  refine Cw.opn (gph_ex g q s) (fun y => ?_)
  refine Cw.heq (star_assoc _ _ _) ?_
  refine Cw.lift (fun hy => ?_)
  obtain ⟨rb, W⟩ := y
  obtain ⟨hWl, hW⟩ := hy
  dsimp only at hWl hW ⊢
  rw [hOO]
  refine Cw.opn (gpW_ex g q rb _ O s.G (s.T.map sltO)) (fun tv => ?_)
  (refine Cw.heq (by simp only [star_assoc, emp_star, star_emp]; exact rfl) ?_)
  (repeat' (first | (refine Ow.is ?_; (first | refine Ow.pu rfl (Pu.fld rfl) ?_ | refine Ow.pu rfl (Pu.fld0 rfl) ?_ | refine Ow.nil ?_ | refine Ow.pu rfl (Pu.move rfl) ?_ | refine Ow.pu rfl (Pu.assign rfl) ?_ | refine Ow.pu rfl (Pu.fld rfl) ?_ | refine Ow.pu rfl (Pu.nilCheck rfl) ?_ | (refine Ow.kLoad ?_; (first | refine Ow.pu rfl (Pu.load_stfd (o := 0) (w := fo) rfl pkA (by omega) hfo rfl) ?_ | refine Ow.pu rfl (Pu.load_cl rfl pkA rfl) ?_ | refine Ow.pu rfl (Pu.load_sli rfl pkA (by first | omega | (simp only [List.length_set, List.length_append, List.length_replicate, List.length_cons, List.length_nil]; omega))) ?_)) | (refine Ow.kBin ?_; (first | (refine Ow.b_add ?_; refine Ow.pu rfl (Pu.add_i rfl rfl (by omega)) ?_))) | (refine Ow.kBuiltin ?_; (first | refine Ow.pu rfl (Pu.len_st rfl pkA) ?_ | refine Ow.pu rfl (Pu.len_slm rfl pkA) ?_)) | (refine Ow.kCall ?_; (first | refine Ow.callE0 evA rfl (All_fn _) (fun cc => ?_) | refine Ow.callE0 evA rfl (BNew_fn _ (O.length + 1) (by omega)) (fun sb => ?_) | fail)) | refine Ow.alloc rfl (fun bx => ?_))) | (refine Cw.is ?_; (first | refine Cw.seq ?_ | refine Cw.region ?_ | refine Cw.cond_t rfl rfl ?_ | refine Cw.cond_f rfl rfl ?_ | refine Cw.block ?_ | refine Cw.ret ?_ | refine Cw.exit ?_ | refine Cw.skip ?_)) | (first | refine thenQ_n ?_ | refine thenQ_e ?_ | refine blockQ_n ?_ | refine blockQ_e ?_)))
  obtain ⟨b4, h4⟩ : ∃ q, q = bx := ⟨_, rfl⟩
  subst h4
  refine Cw.rangeY (ι := Fin L.length) (xs := fun i => [vi L[i.1]!]) (A := fun i => lU b4 L i.1) (B := fun i => lU b4 L (i.1 + 1)) (J := fun _ e => False)
    (S := fun i _ => emp) (PS := fun _ => cl cc [.pointer (some ⟨rb, 0, none⟩)] * tab rb q.threads q.regs q.stack s.G (s.T.map sltO))
    (Pre := cl cc [.pointer (some ⟨rb, 0, none⟩)] * (tab rb q.threads q.regs q.stack s.G (s.T.map sltO) * lU b4 L 0))
    (Post := cl cc [.pointer (some ⟨rb, 0, none⟩)] * (tab rb q.threads q.regs q.stack s.G (s.T.map sltO) * lU b4 L L.length))
    (F := bset sb (O.length + 1) S0 * (gcl g q tv rb (W.flatMap wkc) * (slk 2 tv.v (O.flatMap obc) * (obs O * F)))) (fun y' L' X hy => hAll cc rb (fun k => lU b4 L k) _ ⟨y', rfl⟩ L' X hy) rfl rfl (fun _ => rfl) ?_ (fun i F1 G' l' rec => ?_) (fun D => ?_) (fun D i e h => h.elim)
  · refine Ent.trans (Ent.addnil 1 (Ent.refl _)) ?_
    refine Ent.trans ?_ (Ent.left (Ent.right (Ent.right (lU_mk b4 (l := []) (k := 0) rfl ⟨none, 0, 0⟩))))
    ((try simp only [star_assoc]); (repeat (apply Ent.pk; focus ((repeat first | exact pk0 | exact pkl | apply pkn); first | done | fail))); first | exact Ent.fin pkA | exact Ent.refl _)
  · obtain ⟨i, hi⟩ := i
    have htk := take_s hi
    try (refine Cw.heq (by simp only [star_assoc, emp_star, star_emp]; exact rfl) ?_)
    (repeat' (first | (refine Ow.is ?_; (first | refine Ow.pu rfl (Pu.fld0 rfl) ?_ | refine Ow.nil ?_ | refine Ow.pu rfl (Pu.assign rfl) ?_)) | (refine Cw.is ?_; (first | refine Cw.seq ?_ | refine Cw.region ?_ | refine Cw.cond_t rfl rfl ?_ | refine Cw.cond_f rfl rfl ?_ | refine Cw.block ?_ | refine Cw.ret ?_ | refine Cw.exit ?_ | refine Cw.skip ?_)) | (first | refine thenQ_n ?_ | refine thenQ_e ?_ | refine blockQ_n ?_ | refine blockQ_e ?_)))
    refine ⟨_, Ent.refl _, ?_⟩
    refine Cw.opn (lU_ex b4 L i) (fun sv => ?_)
    (refine Cw.heq (by simp only [star_assoc, emp_star, star_emp]; exact rfl) ?_)
    (repeat' (first | (refine Ow.is ?_; (first | refine Ow.pu rfl (Pu.fld0 rfl) ?_ | refine Ow.nil ?_ | refine Ow.pu rfl (Pu.move rfl) ?_ | (refine Ow.kLoad ?_; (first | refine Ow.pu rfl (Pu.load_stfd (o := 0) (w := fo) rfl pkA (by omega) hfo rfl) ?_ | refine Ow.pu rfl (Pu.load_cl rfl pkA rfl) ?_ | refine Ow.pu rfl (Pu.load_sli rfl pkA (by first | omega | (simp only [List.length_set, List.length_append, List.length_replicate, List.length_cons, List.length_nil]; omega))) ?_)) | (refine Ow.kStore ?_; (first | refine Ow.store_cl rfl rfl rfl (by (first | rfl | assumption | exact Subtype.property _)) pkA rfl ?_)) | (refine Ow.kBuiltin ?_; (first | refine Ow.append_sli rfl rfl rfl pkA ((rdSl_cli (l2 := [_]) rfl).of_pk pkA) (by first | (simp; done) | (simp; omega)) (fun sv => ?_))) | (refine Ow.kBuildS ?_; (first | refine Ow.bldS1 rfl rfl (fun w => by kernel_rfl) (fun bx => ?_))))) | (refine Cw.is ?_; (first | refine Cw.seq ?_ | refine Cw.region ?_ | refine Cw.cond_t rfl rfl ?_ | refine Cw.cond_f rfl rfl ?_ | refine Cw.block ?_ | refine Cw.ret ?_ | refine Cw.exit ?_ | refine Cw.skip ?_)) | (first | refine thenQ_n ?_ | refine thenQ_e ?_ | refine blockQ_n ?_ | refine blockQ_e ?_)))
    refine rdQ_n ?_
    refine Ent.trans ?_ (Ent.left (lU_mk b4 (k := i + 1) htk sv))
    ((try simp only [star_assoc]); (repeat (apply Ent.pk; focus ((repeat first | exact pk0 | exact pkl | apply pkn); first | done | fail))); first | exact Ent.fin pkA | exact Ent.refl _)
  · try (refine Cw.heq (by simp only [star_assoc, emp_star, star_emp]; exact rfl) ?_)
    (repeat' (first | (refine Ow.is ?_; (first | refine Ow.pu rfl (Pu.fld0 rfl) ?_ | refine Ow.nil ?_ | (refine Ow.kLoad ?_; (first | refine Ow.pu rfl (Pu.load_stfd (o := 0) (w := fo) rfl pkA (by omega) hfo rfl) ?_ | refine Ow.pu rfl (Pu.load_cl rfl pkA rfl) ?_ | refine Ow.pu rfl (Pu.load_sli rfl pkA (by first | omega | (simp only [List.length_set, List.length_append, List.length_replicate, List.length_cons, List.length_nil]; omega))) ?_)) | (refine Ow.kBin ?_; (first | (refine Ow.b_gtr ?_; first | refine Ow.pu rfl (Pu.gt_t rfl rfl (by omega)) ?_ | refine Ow.pu rfl (Pu.gt_f rfl rfl (by omega)) ?_ | refine Ow.sp rfl (by exact Pu.gt rfl rfl) (fun hc => ?_) (fun hc => ?_)))) | (refine Ow.kBuiltin ?_; (first | refine Ow.pu rfl (Pu.len_st rfl pkA) ?_ | refine Ow.pu rfl (Pu.len_slm rfl pkA) ?_)))) | (refine Cw.is ?_; (first | refine Cw.seq ?_ | refine Cw.region ?_ | refine Cw.cond_t rfl rfl ?_ | refine Cw.cond_f rfl rfl ?_ | refine Cw.block ?_ | refine Cw.ret ?_ | refine Cw.exit ?_ | refine Cw.skip ?_)) | (first | refine thenQ_n ?_ | refine thenQ_e ?_ | refine blockQ_n ?_ | refine blockQ_e ?_)))
    try (refine Cw.heq (by simp only [star_assoc, emp_star, star_emp]; exact rfl) ?_)
    refine Cw.pkd (A := lU b4 L L.length) pkA ?_
    refine Cw.opn (lU_ex b4 L L.length) (fun sv0 => ?_)
    rw [List.take_length]
    (refine Cw.heq (by simp only [star_assoc, emp_star, star_emp]; exact rfl) ?_)
    have hstart : Wl O R S0 L := Wl.start hoko hLR hLok
    refine Cw.loopF [6, 24, 25, 26, 27, 28, 29, 30, 31, 32, 33, 34, 35, 36, 37, 38, 39, 40, 41, 42, 43, 44, 45, 46, 47, 48, 49, 50, 51, 52, 53, 54, 55] (by (repeat first | exact er_nil | apply er_drop rfl | apply er_keep rfl)) (fun z : RzS => Wl O R z.V z.l ∧ wlM O.length z.V z.l ≤ 7 * (O.length + 1) + 68) (fun z => [])
      (fun z => cl b4 [z.sv.v] * (slk 1 z.sv.v (z.l.map vi) * (bset sb (O.length + 1) z.V * (gcl g q tv rb (W.flatMap wkc) * (slk 2 tv.v (O.flatMap obc) * (obs O * (tab rb q.threads q.regs q.stack s.G (s.T.map sltO) * (pt D (.deferred (some [])) * F))))))))
      (fun z => wlM O.length z.V z.l) ⟨S0, L, sv0⟩ ⟨hstart, by show wlM O.length S0 L ≤ _; rw [wlM_0]; omega⟩ (by (repeat first | exact trivial | refine ⟨rfl, ?_⟩)) (by ((try simp only [star_assoc]); (repeat (apply Ent.pk; focus ((repeat first | exact pk0 | exact pkl | apply pkn); first | done | fail))); first | exact Ent.fin pkA | exact Ent.refl _)) (fun z hz => ?_)
    obtain ⟨V, l, sv⟩ := z
    obtain ⟨hwl, hm⟩ := hz
    simp only at hwl hm ⊢
    have hll := wlM_len (n := O.length) (V := V) (l := l)
    have hlb : l.length ≤ 7 * (O.length + 1) + 68 := by omega
    clear hll
    rcases List.eq_nil_or_concat l with h0 | ⟨l', z, h0⟩
    · have hl0 : l.length = 0 := by rw [h0]; rfl
      have hdone : V = rchB O R := (h0 ▸ hwl : Wl O R V []).done hoko
      (repeat' (first | (refine Ow.is ?_; (first | refine Ow.pu rfl (Pu.fld0 rfl) ?_ | refine Ow.nil ?_ | (refine Ow.kLoad ?_; (first | refine Ow.pu rfl (Pu.load_stfd (o := 0) (w := fo) rfl pkA (by omega) hfo rfl) ?_ | refine Ow.pu rfl (Pu.load_cl rfl pkA rfl) ?_ | refine Ow.pu rfl (Pu.load_sli rfl pkA (by first | omega | (simp only [List.length_set, List.length_append, List.length_replicate, List.length_cons, List.length_nil]; omega))) ?_)) | (refine Ow.kBin ?_; (first | (refine Ow.b_gtr ?_; first | refine Ow.pu rfl (Pu.gt_t rfl rfl (by omega)) ?_ | refine Ow.pu rfl (Pu.gt_f rfl rfl (by omega)) ?_ | refine Ow.sp rfl (by exact Pu.gt rfl rfl) (fun hc => ?_) (fun hc => ?_)))) | (refine Ow.kBuiltin ?_; (first | refine Ow.pu rfl (Pu.len_st rfl pkA) ?_ | refine Ow.pu rfl (Pu.len_slm rfl pkA) ?_)))) | (refine Cw.is ?_; (first | refine Cw.seq ?_ | refine Cw.region ?_ | refine Cw.cond_t rfl rfl ?_ | refine Cw.cond_f rfl rfl ?_ | refine Cw.block ?_ | refine Cw.ret ?_ | refine Cw.exit ?_ | refine Cw.skip ?_)) | (first | refine thenQ_n ?_ | refine thenQ_e ?_ | refine blockQ_n ?_ | refine blockQ_e ?_)))
      (repeat' (first | (refine Ow.is ?_; (first | refine Ow.pu rfl (Pu.fld0 rfl) ?_ | refine Ow.nil ?_ | refine Ow.pu rfl (Pu.move rfl) ?_ | refine Ow.pu rfl (Pu.assign rfl) ?_)) | (refine Cw.is ?_; (first | refine Cw.seq ?_ | refine Cw.region ?_ | refine Cw.cond_t rfl rfl ?_ | refine Cw.cond_f rfl rfl ?_ | refine Cw.block ?_ | refine Cw.ret ?_ | refine Cw.exit ?_ | refine Cw.skip ?_)) | (first | refine thenQ_n ?_ | refine thenQ_e ?_ | refine blockQ_n ?_ | refine blockQ_e ?_)))
      rw [hdone]
      refine retQ_m (.inr rfl) pkA sb (res1 Tryd.results17 rfl) ?_
      refine Ent.trans ?_ (Ent.left (Ent.right (Ent.trans (gpW_mk g q rb (W.flatMap wkc) O s.G (s.T.map sltO) tv) (gph_mk g q s (rb := rb) hOO rfl rfl hWl hW))))
      ((try simp only [star_assoc]); (repeat (apply Ent.pk; focus ((repeat first | exact pk0 | exact pkl | apply pkn); first | done | fail))); first | exact Ent.fin pkA | exact Ent.refl _)
    · replace h0 : l = l' ++ [z] := by rw [h0]; simp
      have hzo := (hwl.hl z (by rw [h0]; simp)).1
      have hlen : l.length = l'.length + 1 := by rw [h0]; simp
      have hz : l[((l.length : Int) - 1).toNat]! = z := by
        rw [show ((l.length : Int) - 1).toNat = l'.length by omega, h0, getElem!_pos _ _ (by simp)]; simp
      have htk : l.take ((l.length : Int) - 1).toNat = l' := by
        rw [show ((l.length : Int) - 1).toNat = l'.length by omega, h0]; simp
      rw [h0] at hwl hm
      obtain ⟨zn, rfl⟩ : ∃ zn : Nat, z = zn := ⟨z.toNat, by unfold okR at hzo; omega⟩
      unfold okR at hzo
      (repeat' (first | (refine Ow.is ?_; (first | refine Ow.pu rfl (Pu.fld0 rfl) ?_ | refine Ow.nil ?_ | refine Ow.pu rfl (Pu.assign rfl) ?_ | (refine Ow.kLoad ?_; (first | refine Ow.pu rfl (Pu.load_stfd (o := 0) (w := fo) rfl pkA (by omega) hfo rfl) ?_ | refine Ow.pu rfl (Pu.load_cl rfl pkA rfl) ?_ | refine Ow.pu rfl (Pu.load_sli rfl pkA (by first | omega | (simp only [List.length_set, List.length_append, List.length_replicate, List.length_cons, List.length_nil]; omega))) ?_)) | (refine Ow.kBin ?_; (first | (refine Ow.b_gtr ?_; first | refine Ow.pu rfl (Pu.gt_t rfl rfl (by omega)) ?_ | refine Ow.pu rfl (Pu.gt_f rfl rfl (by omega)) ?_ | refine Ow.sp rfl (by exact Pu.gt rfl rfl) (fun hc => ?_) (fun hc => ?_)) | (refine Ow.b_sub ?_; refine Ow.pu rfl (Pu.sub_i rfl rfl (by omega)) ?_))) | (refine Ow.kIdx ?_; (first | refine Ow.pu rfl (Pu.idx_st rfl rfl pkA (by omega)) ?_ | refine Ow.pu rfl (Pu.idx_sl rfl rfl pkA (by simp only [List.length_map, List.length_append, List.length_set, List.length_replicate, List.length_cons, List.length_nil]; omega)) ?_)) | (refine Ow.kBuiltin ?_; (first | refine Ow.pu rfl (Pu.len_st rfl pkA) ?_ | refine Ow.pu rfl (Pu.len_slm rfl pkA) ?_)))) | (refine Cw.is ?_; (first | refine Cw.seq ?_ | refine Cw.region ?_ | refine Cw.cond_t rfl rfl ?_ | refine Cw.cond_f rfl rfl ?_ | refine Cw.block ?_ | refine Cw.ret ?_ | refine Cw.exit ?_ | refine Cw.skip ?_)) | (first | refine thenQ_n ?_ | refine thenQ_e ?_ | refine blockQ_n ?_ | refine blockQ_e ?_)))
      rw [hz]
      (repeat' (first | (refine Ow.is ?_; (first | refine Ow.pu rfl (Pu.fld0 rfl) ?_ | refine Ow.nil ?_ | refine Ow.pu rfl (Pu.assign rfl) ?_ | (refine Ow.kLoad ?_; (first | refine Ow.pu rfl (Pu.load_stfd (o := 0) (w := fo) rfl pkA (by omega) hfo rfl) ?_ | refine Ow.pu rfl (Pu.load_cl rfl pkA rfl) ?_ | refine Ow.pu rfl (Pu.load_sli rfl pkA (by first | omega | (simp only [List.length_set, List.length_append, List.length_replicate, List.length_cons, List.length_nil]; omega))) ?_)) | (refine Ow.kBin ?_; (first | (refine Ow.b_sub ?_; refine Ow.pu rfl (Pu.sub_i rfl rfl (by omega)) ?_))) | (refine Ow.kStore ?_; (first | refine Ow.store_cl rfl rfl rfl (by (first | rfl | assumption | exact Subtype.property _)) pkA rfl ?_)) | (refine Ow.kIdx ?_; (first | refine Ow.pu rfl (Pu.idx_st rfl rfl pkA (by omega)) ?_ | refine Ow.pu rfl (Pu.idx_sl rfl rfl pkA (by simp only [List.length_map, List.length_append, List.length_set, List.length_replicate, List.length_cons, List.length_nil]; omega)) ?_)) | (refine Ow.kBuiltin ?_; (first | refine Ow.pu rfl (Pu.len_st rfl pkA) ?_ | refine Ow.pu rfl (Pu.len_slm rfl pkA) ?_)) | refine Ow.slice_sli rfl rfl rfl pkA (by omega) (fun sv => ?_))) | (refine Cw.is ?_; (first | refine Cw.seq ?_ | refine Cw.region ?_ | refine Cw.cond_t rfl rfl ?_ | refine Cw.cond_f rfl rfl ?_ | refine Cw.block ?_ | refine Cw.ret ?_ | refine Cw.exit ?_ | refine Cw.skip ?_)) | (first | refine thenQ_n ?_ | refine thenQ_e ?_ | refine blockQ_n ?_ | refine blockQ_e ?_)))
      rw [htk]
      by_cases hzz : zn = 0 ∨ V zn = true
      · have hsk := hwl.skip (z := (zn : Int)) (hzz.imp (fun h => by omega) (fun h => by rw [Int.toNat_natCast]; exact h))
        have hmm := wlM_skip (n := O.length) (V := V) (l := l') (z := (zn : Int))
        by_cases hz0 : zn = 0
        · (repeat' (first | (refine Ow.is ?_; (first | refine Ow.pu rfl (Pu.fld0 rfl) ?_ | refine Ow.nil ?_ | refine Ow.pu rfl (Pu.move rfl) ?_ | (refine Ow.kGuard ?_; (first | refine Ow.guard_yes rfl rfl rfl ?_ | refine Ow.guard_no rfl rfl rfl rfl ?_)) | (refine Ow.kLoad ?_; (first | refine Ow.pu rfl (Pu.load_stfd (o := 0) (w := fo) rfl pkA (by omega) hfo rfl) ?_ | refine Ow.pu rfl (Pu.load_cl rfl pkA rfl) ?_ | refine Ow.pu rfl (Pu.load_sli rfl pkA (by first | omega | (simp only [List.length_set, List.length_append, List.length_replicate, List.length_cons, List.length_nil]; omega))) ?_)) | (refine Ow.kBin ?_; (first | (refine Ow.b_neq ?_; (first | refine Ow.pu rfl (Pu.ne_t rfl rfl odA) ?_ | refine Ow.pu rfl (Pu.ne_f rfl rfl roA) ?_)) | (refine Ow.b_sub ?_; refine Ow.pu rfl (Pu.sub_i rfl rfl (by omega)) ?_))) | (refine Ow.kPick ?_; (first | refine Ow.pu rfl (Pu.pick_t rfl rfl) ?_ | refine Ow.pu rfl (Pu.pick_f rfl rfl) ?_)) | (refine Ow.kStore ?_; (first | refine Ow.store_cl rfl rfl rfl (by (first | rfl | assumption | exact Subtype.property _)) pkA rfl ?_)) | (refine Ow.kBuiltin ?_; (first | refine Ow.pu rfl (Pu.len_st rfl pkA) ?_ | refine Ow.pu rfl (Pu.len_slm rfl pkA) ?_)) | (refine Ow.kCall ?_; (first | refine Ow.callE evA pkA rfl hput (fun _ => ?_) | fail)) | refine Ow.slice_sli rfl rfl rfl pkA (by omega) (fun sv => ?_))) | (refine Cw.is ?_; (first | refine Cw.seq ?_ | refine Cw.region ?_ | refine Cw.cond_t rfl rfl ?_ | refine Cw.cond_f rfl rfl ?_ | refine Cw.block ?_ | refine Cw.ret ?_ | refine Cw.exit ?_ | refine Cw.skip ?_)) | (first | refine thenQ_n ?_ | refine thenQ_e ?_ | refine blockQ_n ?_ | refine blockQ_e ?_)))
          exact ⟨rfl, ⟨V, l', sv⟩, ⟨hsk, by simp only; omega⟩, by simp only; rw [h0]; omega, by (repeat first | exact trivial | refine ⟨rfl, ?_⟩), by ((try simp only [star_assoc]); (repeat (apply Ent.pk; focus ((repeat first | exact pk0 | exact pkl | apply pkn); first | done | fail))); first | exact Ent.fin pkA | exact Ent.refl _)⟩
        · have hV : V zn = true := hzz.resolve_left hz0
          have hput : Fn Tryd.prog 34 [.pointer (some ⟨sb, 0, none⟩), vi zn] (bset sb (O.length + 1) V) Unit (fun _ => .bool false) (fun _ => bset sb (O.length + 1) V) := by
            have h := Put_f sb (O.length + 1) V (by omega) zn (by omega) hV
            rw [upd_tt hV] at h; exact h
          (repeat' (first | (refine Ow.is ?_; (first | refine Ow.pu rfl (Pu.fld0 rfl) ?_ | refine Ow.nil ?_ | refine Ow.pu rfl (Pu.move rfl) ?_ | (refine Ow.kGuard ?_; (first | refine Ow.guard_yes rfl rfl rfl ?_ | refine Ow.guard_no rfl rfl rfl rfl ?_)) | (refine Ow.kLoad ?_; (first | refine Ow.pu rfl (Pu.load_stfd (o := 0) (w := fo) rfl pkA (by omega) hfo rfl) ?_ | refine Ow.pu rfl (Pu.load_cl rfl pkA rfl) ?_ | refine Ow.pu rfl (Pu.load_sli rfl pkA (by first | omega | (simp only [List.length_set, List.length_append, List.length_replicate, List.length_cons, List.length_nil]; omega))) ?_)) | (refine Ow.kBin ?_; (first | (refine Ow.b_neq ?_; (first | refine Ow.pu rfl (Pu.ne_t rfl rfl odA) ?_ | refine Ow.pu rfl (Pu.ne_f rfl rfl roA) ?_)) | (refine Ow.b_sub ?_; refine Ow.pu rfl (Pu.sub_i rfl rfl (by omega)) ?_))) | (refine Ow.kPick ?_; (first | refine Ow.pu rfl (Pu.pick_t rfl rfl) ?_ | refine Ow.pu rfl (Pu.pick_f rfl rfl) ?_)) | (refine Ow.kStore ?_; (first | refine Ow.store_cl rfl rfl rfl (by (first | rfl | assumption | exact Subtype.property _)) pkA rfl ?_)) | (refine Ow.kBuiltin ?_; (first | refine Ow.pu rfl (Pu.len_st rfl pkA) ?_ | refine Ow.pu rfl (Pu.len_slm rfl pkA) ?_)) | (refine Ow.kCall ?_; (first | refine Ow.callE evA pkA rfl hput (fun _ => ?_) | fail)) | refine Ow.slice_sli rfl rfl rfl pkA (by omega) (fun sv => ?_))) | (refine Cw.is ?_; (first | refine Cw.seq ?_ | refine Cw.region ?_ | refine Cw.cond_t rfl rfl ?_ | refine Cw.cond_f rfl rfl ?_ | refine Cw.block ?_ | refine Cw.ret ?_ | refine Cw.exit ?_ | refine Cw.skip ?_)) | (first | refine thenQ_n ?_ | refine thenQ_e ?_ | refine blockQ_n ?_ | refine blockQ_e ?_)))
          exact ⟨rfl, ⟨V, l', sv⟩, ⟨hsk, by simp only; omega⟩, by simp only; rw [h0]; omega, by (repeat first | exact trivial | refine ⟨rfl, ?_⟩), by ((try simp only [star_assoc]); (repeat (apply Ent.pk; focus ((repeat first | exact pk0 | exact pkl | apply pkn); first | done | fail))); first | exact Ent.fin pkA | exact Ent.refl _)⟩
      · have hz0 : zn ≠ 0 := fun h => hzz (.inl h)
        have hV : V zn = false := by
          cases e : V zn with
          | false => rfl
          | true => exact (hzz (.inr e)).elim
        have hput := Put_t sb (O.length + 1) V (by omega) zn (by omega) hV
        have hjo : ((zn : Int) - 1).toNat < O.length := by omega
        have hob' := obs_at O ((zn : Int) - 1).toNat hjo
        obtain ⟨fo, hfo⟩ : ∃ fo, O[((zn : Int) - 1).toNat]! = fo := ⟨_, rfl⟩
        have hfl : flds O (zn : Int) = fo.2.1 := by unfold flds; rw [hfo]
        have hf6 := (hoko.f (z := (zn : Int)) (by omega)).1
        have hpw := hwl.put hoko (by omega)
        have hmp := wlM_put hwl hoko (by omega) (by rw [Int.toNat_natCast]; exact hV)
        rw [hfl] at hf6 hpw hmp
        rw [Int.toNat_natCast] at hpw hmp
        rw [hfo] at hob'
        (repeat' (first | (refine Ow.is ?_; (first | refine Ow.pu rfl (Pu.fld0 rfl) ?_ | refine Ow.nil ?_ | refine Ow.pu rfl (Pu.move rfl) ?_ | (refine Ow.kGuard ?_; (first | refine Ow.guard_yes rfl rfl rfl ?_ | refine Ow.guard_no rfl rfl rfl rfl ?_)) | (refine Ow.kLoad ?_; (first | refine Ow.pu rfl (Pu.load_stfd (o := 0) (w := fo) rfl pkA (by omega) hfo rfl) ?_ | refine Ow.pu rfl (Pu.load_cl rfl pkA rfl) ?_ | refine Ow.pu rfl (Pu.load_sli rfl pkA (by first | omega | (simp only [List.length_set, List.length_append, List.length_replicate, List.length_cons, List.length_nil]; omega))) ?_)) | (refine Ow.kBin ?_; (first | (refine Ow.b_neq ?_; (first | refine Ow.pu rfl (Pu.ne_t rfl rfl odA) ?_ | refine Ow.pu rfl (Pu.ne_f rfl rfl roA) ?_)) | (refine Ow.b_sub ?_; refine Ow.pu rfl (Pu.sub_i rfl rfl (by omega)) ?_))) | (refine Ow.kPick ?_; (first | refine Ow.pu rfl (Pu.pick_t rfl rfl) ?_ | refine Ow.pu rfl (Pu.pick_f rfl rfl) ?_)) | (refine Ow.kStore ?_; (first | refine Ow.store_cl rfl rfl rfl (by (first | rfl | assumption | exact Subtype.property _)) pkA rfl ?_)) | (refine Ow.kBuiltin ?_; (first | refine Ow.pu rfl (Pu.len_st rfl pkA) ?_ | refine Ow.pu rfl (Pu.len_slm rfl pkA) ?_)) | (refine Ow.kCall ?_; (first | refine Ow.callE evA pkA rfl hput (fun _ => ?_) | fail)) | refine Ow.slice_sli rfl rfl rfl pkA (by omega) (fun sv => ?_))) | (refine Cw.is ?_; (first | refine Cw.seq ?_ | refine Cw.region ?_ | refine Cw.cond_t rfl rfl ?_ | refine Cw.cond_f rfl rfl ?_ | refine Cw.block ?_ | refine Cw.ret ?_ | refine Cw.exit ?_ | refine Cw.skip ?_)) | (first | refine thenQ_n ?_ | refine thenQ_e ?_ | refine blockQ_n ?_ | refine blockQ_e ?_)))
        rw [hob']
        (refine Cw.heq (by simp only [star_assoc, emp_star, star_emp]; exact rfl) ?_)
        (refine Cw.drawF3 (cl b4 _) (gcl _ _ _ _ _) (slk 2 tv.v _) 11 [(0, false), (1, false), (2, false), (3, false), (4, false), (5, false), (6, false), (7, false), (8, false), (9, false), (10, true), (11, true)] pkA pkA pkA mixed (by kernel_rfl) ?_; ((first | refine DwF.q rfl rfl (by kernel_rfl) trivial (by (first | exact Pu.move rfl | exact Pu.assign rfl | exact Pu.fld rfl | exact Pu.nilCheck rfl | exact Pu.fld0 rfl | (apply Pu.kLoad; (first | exact Pu.load_stfd (o := 0) (w := fo) rfl pkA (by omega) hfo rfl | exact Pu.load_cl rfl pkA rfl | exact Pu.load_sli rfl pkA (by first | omega | (simp only [List.length_set, List.length_append, List.length_replicate, List.length_cons, List.length_nil]; omega)))) | (apply Pu.kIdx; (first | exact Pu.idx_st rfl rfl pkA (by omega) | exact Pu.idx_sl rfl rfl pkA (by simp only [List.length_map, List.length_append, List.length_set, List.length_replicate, List.length_cons, List.length_nil]; omega))) | (apply Pu.kBin; (first | (apply Pu.b_sub; exact Pu.sub_i rfl rfl (by omega)))))) ?_ | refine DwF.q rfl rfl (by kernel_rfl) ⟨_, _, rfl, rfl, rfl⟩ (by (first | exact Pu.move rfl | exact Pu.assign rfl | exact Pu.fld rfl | exact Pu.nilCheck rfl | exact Pu.fld0 rfl | (apply Pu.kLoad; (first | exact Pu.load_stfd (o := 0) (w := fo) rfl pkA (by omega) hfo rfl | exact Pu.load_cl rfl pkA rfl | exact Pu.load_sli rfl pkA (by first | omega | (simp only [List.length_set, List.length_append, List.length_replicate, List.length_cons, List.length_nil]; omega)))) | (apply Pu.kIdx; (first | exact Pu.idx_st rfl rfl pkA (by omega) | exact Pu.idx_sl rfl rfl pkA (by simp only [List.length_map, List.length_append, List.length_set, List.length_replicate, List.length_cons, List.length_nil]; omega))) | (apply Pu.kBin; (first | (apply Pu.b_sub; exact Pu.sub_i rfl rfl (by omega)))))) ?_)); ((first | refine DwF.q rfl rfl (by kernel_rfl) trivial (by (first | exact Pu.move rfl | exact Pu.assign rfl | exact Pu.fld rfl | exact Pu.nilCheck rfl | exact Pu.fld0 rfl | (apply Pu.kLoad; (first | exact Pu.load_stfd (o := 0) (w := fo) rfl pkA (by omega) hfo rfl | exact Pu.load_cl rfl pkA rfl | exact Pu.load_sli rfl pkA (by first | omega | (simp only [List.length_set, List.length_append, List.length_replicate, List.length_cons, List.length_nil]; omega)))) | (apply Pu.kIdx; (first | exact Pu.idx_st rfl rfl pkA (by omega) | exact Pu.idx_sl rfl rfl pkA (by simp only [List.length_map, List.length_append, List.length_set, List.length_replicate, List.length_cons, List.length_nil]; omega))) | (apply Pu.kBin; (first | (apply Pu.b_sub; exact Pu.sub_i rfl rfl (by omega)))))) ?_ | refine DwF.q rfl rfl (by kernel_rfl) ⟨_, _, rfl, rfl, rfl⟩ (by (first | exact Pu.move rfl | exact Pu.assign rfl | exact Pu.fld rfl | exact Pu.nilCheck rfl | exact Pu.fld0 rfl | (apply Pu.kLoad; (first | exact Pu.load_stfd (o := 0) (w := fo) rfl pkA (by omega) hfo rfl | exact Pu.load_cl rfl pkA rfl | exact Pu.load_sli rfl pkA (by first | omega | (simp only [List.length_set, List.length_append, List.length_replicate, List.length_cons, List.length_nil]; omega)))) | (apply Pu.kIdx; (first | exact Pu.idx_st rfl rfl pkA (by omega) | exact Pu.idx_sl rfl rfl pkA (by simp only [List.length_map, List.length_append, List.length_set, List.length_replicate, List.length_cons, List.length_nil]; omega))) | (apply Pu.kBin; (first | (apply Pu.b_sub; exact Pu.sub_i rfl rfl (by omega)))))) ?_)); ((first | refine DwF.q rfl rfl (by kernel_rfl) trivial (by (first | exact Pu.move rfl | exact Pu.assign rfl | exact Pu.fld rfl | exact Pu.nilCheck rfl | exact Pu.fld0 rfl | (apply Pu.kLoad; (first | exact Pu.load_stfd (o := 0) (w := fo) rfl pkA (by omega) hfo rfl | exact Pu.load_cl rfl pkA rfl | exact Pu.load_sli rfl pkA (by first | omega | (simp only [List.length_set, List.length_append, List.length_replicate, List.length_cons, List.length_nil]; omega)))) | (apply Pu.kIdx; (first | exact Pu.idx_st rfl rfl pkA (by omega) | exact Pu.idx_sl rfl rfl pkA (by simp only [List.length_map, List.length_append, List.length_set, List.length_replicate, List.length_cons, List.length_nil]; omega))) | (apply Pu.kBin; (first | (apply Pu.b_sub; exact Pu.sub_i rfl rfl (by omega)))))) ?_ | refine DwF.q rfl rfl (by kernel_rfl) ⟨_, _, rfl, rfl, rfl⟩ (by (first | exact Pu.move rfl | exact Pu.assign rfl | exact Pu.fld rfl | exact Pu.nilCheck rfl | exact Pu.fld0 rfl | (apply Pu.kLoad; (first | exact Pu.load_stfd (o := 0) (w := fo) rfl pkA (by omega) hfo rfl | exact Pu.load_cl rfl pkA rfl | exact Pu.load_sli rfl pkA (by first | omega | (simp only [List.length_set, List.length_append, List.length_replicate, List.length_cons, List.length_nil]; omega)))) | (apply Pu.kIdx; (first | exact Pu.idx_st rfl rfl pkA (by omega) | exact Pu.idx_sl rfl rfl pkA (by simp only [List.length_map, List.length_append, List.length_set, List.length_replicate, List.length_cons, List.length_nil]; omega))) | (apply Pu.kBin; (first | (apply Pu.b_sub; exact Pu.sub_i rfl rfl (by omega)))))) ?_)); ((first | refine DwF.q rfl rfl (by kernel_rfl) trivial (by (first | exact Pu.move rfl | exact Pu.assign rfl | exact Pu.fld rfl | exact Pu.nilCheck rfl | exact Pu.fld0 rfl | (apply Pu.kLoad; (first | exact Pu.load_stfd (o := 0) (w := fo) rfl pkA (by omega) hfo rfl | exact Pu.load_cl rfl pkA rfl | exact Pu.load_sli rfl pkA (by first | omega | (simp only [List.length_set, List.length_append, List.length_replicate, List.length_cons, List.length_nil]; omega)))) | (apply Pu.kIdx; (first | exact Pu.idx_st rfl rfl pkA (by omega) | exact Pu.idx_sl rfl rfl pkA (by simp only [List.length_map, List.length_append, List.length_set, List.length_replicate, List.length_cons, List.length_nil]; omega))) | (apply Pu.kBin; (first | (apply Pu.b_sub; exact Pu.sub_i rfl rfl (by omega)))))) ?_ | refine DwF.q rfl rfl (by kernel_rfl) ⟨_, _, rfl, rfl, rfl⟩ (by (first | exact Pu.move rfl | exact Pu.assign rfl | exact Pu.fld rfl | exact Pu.nilCheck rfl | exact Pu.fld0 rfl | (apply Pu.kLoad; (first | exact Pu.load_stfd (o := 0) (w := fo) rfl pkA (by omega) hfo rfl | exact Pu.load_cl rfl pkA rfl | exact Pu.load_sli rfl pkA (by first | omega | (simp only [List.length_set, List.length_append, List.length_replicate, List.length_cons, List.length_nil]; omega)))) | (apply Pu.kIdx; (first | exact Pu.idx_st rfl rfl pkA (by omega) | exact Pu.idx_sl rfl rfl pkA (by simp only [List.length_map, List.length_append, List.length_set, List.length_replicate, List.length_cons, List.length_nil]; omega))) | (apply Pu.kBin; (first | (apply Pu.b_sub; exact Pu.sub_i rfl rfl (by omega)))))) ?_)); ((first | refine DwF.q rfl rfl (by kernel_rfl) trivial (by (first | exact Pu.move rfl | exact Pu.assign rfl | exact Pu.fld rfl | exact Pu.nilCheck rfl | exact Pu.fld0 rfl | (apply Pu.kLoad; (first | exact Pu.load_stfd (o := 0) (w := fo) rfl pkA (by omega) hfo rfl | exact Pu.load_cl rfl pkA rfl | exact Pu.load_sli rfl pkA (by first | omega | (simp only [List.length_set, List.length_append, List.length_replicate, List.length_cons, List.length_nil]; omega)))) | (apply Pu.kIdx; (first | exact Pu.idx_st rfl rfl pkA (by omega) | exact Pu.idx_sl rfl rfl pkA (by simp only [List.length_map, List.length_append, List.length_set, List.length_replicate, List.length_cons, List.length_nil]; omega))) | (apply Pu.kBin; (first | (apply Pu.b_sub; exact Pu.sub_i rfl rfl (by omega)))))) ?_ | refine DwF.q rfl rfl (by kernel_rfl) ⟨_, _, rfl, rfl, rfl⟩ (by (first | exact Pu.move rfl | exact Pu.assign rfl | exact Pu.fld rfl | exact Pu.nilCheck rfl | exact Pu.fld0 rfl | (apply Pu.kLoad; (first | exact Pu.load_stfd (o := 0) (w := fo) rfl pkA (by omega) hfo rfl | exact Pu.load_cl rfl pkA rfl | exact Pu.load_sli rfl pkA (by first | omega | (simp only [List.length_set, List.length_append, List.length_replicate, List.length_cons, List.length_nil]; omega)))) | (apply Pu.kIdx; (first | exact Pu.idx_st rfl rfl pkA (by omega) | exact Pu.idx_sl rfl rfl pkA (by simp only [List.length_map, List.length_append, List.length_set, List.length_replicate, List.length_cons, List.length_nil]; omega))) | (apply Pu.kBin; (first | (apply Pu.b_sub; exact Pu.sub_i rfl rfl (by omega)))))) ?_)); ((first | refine DwF.q rfl rfl (by kernel_rfl) trivial (by (first | exact Pu.move rfl | exact Pu.assign rfl | exact Pu.fld rfl | exact Pu.nilCheck rfl | exact Pu.fld0 rfl | (apply Pu.kLoad; (first | exact Pu.load_stfd (o := 0) (w := fo) rfl pkA (by omega) hfo rfl | exact Pu.load_cl rfl pkA rfl | exact Pu.load_sli rfl pkA (by first | omega | (simp only [List.length_set, List.length_append, List.length_replicate, List.length_cons, List.length_nil]; omega)))) | (apply Pu.kIdx; (first | exact Pu.idx_st rfl rfl pkA (by omega) | exact Pu.idx_sl rfl rfl pkA (by simp only [List.length_map, List.length_append, List.length_set, List.length_replicate, List.length_cons, List.length_nil]; omega))) | (apply Pu.kBin; (first | (apply Pu.b_sub; exact Pu.sub_i rfl rfl (by omega)))))) ?_ | refine DwF.q rfl rfl (by kernel_rfl) ⟨_, _, rfl, rfl, rfl⟩ (by (first | exact Pu.move rfl | exact Pu.assign rfl | exact Pu.fld rfl | exact Pu.nilCheck rfl | exact Pu.fld0 rfl | (apply Pu.kLoad; (first | exact Pu.load_stfd (o := 0) (w := fo) rfl pkA (by omega) hfo rfl | exact Pu.load_cl rfl pkA rfl | exact Pu.load_sli rfl pkA (by first | omega | (simp only [List.length_set, List.length_append, List.length_replicate, List.length_cons, List.length_nil]; omega)))) | (apply Pu.kIdx; (first | exact Pu.idx_st rfl rfl pkA (by omega) | exact Pu.idx_sl rfl rfl pkA (by simp only [List.length_map, List.length_append, List.length_set, List.length_replicate, List.length_cons, List.length_nil]; omega))) | (apply Pu.kBin; (first | (apply Pu.b_sub; exact Pu.sub_i rfl rfl (by omega)))))) ?_)); ((first | refine DwF.q rfl rfl (by kernel_rfl) trivial (by (first | exact Pu.move rfl | exact Pu.assign rfl | exact Pu.fld rfl | exact Pu.nilCheck rfl | exact Pu.fld0 rfl | (apply Pu.kLoad; (first | exact Pu.load_stfd (o := 0) (w := fo) rfl pkA (by omega) hfo rfl | exact Pu.load_cl rfl pkA rfl | exact Pu.load_sli rfl pkA (by first | omega | (simp only [List.length_set, List.length_append, List.length_replicate, List.length_cons, List.length_nil]; omega)))) | (apply Pu.kIdx; (first | exact Pu.idx_st rfl rfl pkA (by omega) | exact Pu.idx_sl rfl rfl pkA (by simp only [List.length_map, List.length_append, List.length_set, List.length_replicate, List.length_cons, List.length_nil]; omega))) | (apply Pu.kBin; (first | (apply Pu.b_sub; exact Pu.sub_i rfl rfl (by omega)))))) ?_ | refine DwF.q rfl rfl (by kernel_rfl) ⟨_, _, rfl, rfl, rfl⟩ (by (first | exact Pu.move rfl | exact Pu.assign rfl | exact Pu.fld rfl | exact Pu.nilCheck rfl | exact Pu.fld0 rfl | (apply Pu.kLoad; (first | exact Pu.load_stfd (o := 0) (w := fo) rfl pkA (by omega) hfo rfl | exact Pu.load_cl rfl pkA rfl | exact Pu.load_sli rfl pkA (by first | omega | (simp only [List.length_set, List.length_append, List.length_replicate, List.length_cons, List.length_nil]; omega)))) | (apply Pu.kIdx; (first | exact Pu.idx_st rfl rfl pkA (by omega) | exact Pu.idx_sl rfl rfl pkA (by simp only [List.length_map, List.length_append, List.length_set, List.length_replicate, List.length_cons, List.length_nil]; omega))) | (apply Pu.kBin; (first | (apply Pu.b_sub; exact Pu.sub_i rfl rfl (by omega)))))) ?_)); ((first | refine DwF.q rfl rfl (by kernel_rfl) trivial (by (first | exact Pu.move rfl | exact Pu.assign rfl | exact Pu.fld rfl | exact Pu.nilCheck rfl | exact Pu.fld0 rfl | (apply Pu.kLoad; (first | exact Pu.load_stfd (o := 0) (w := fo) rfl pkA (by omega) hfo rfl | exact Pu.load_cl rfl pkA rfl | exact Pu.load_sli rfl pkA (by first | omega | (simp only [List.length_set, List.length_append, List.length_replicate, List.length_cons, List.length_nil]; omega)))) | (apply Pu.kIdx; (first | exact Pu.idx_st rfl rfl pkA (by omega) | exact Pu.idx_sl rfl rfl pkA (by simp only [List.length_map, List.length_append, List.length_set, List.length_replicate, List.length_cons, List.length_nil]; omega))) | (apply Pu.kBin; (first | (apply Pu.b_sub; exact Pu.sub_i rfl rfl (by omega)))))) ?_ | refine DwF.q rfl rfl (by kernel_rfl) ⟨_, _, rfl, rfl, rfl⟩ (by (first | exact Pu.move rfl | exact Pu.assign rfl | exact Pu.fld rfl | exact Pu.nilCheck rfl | exact Pu.fld0 rfl | (apply Pu.kLoad; (first | exact Pu.load_stfd (o := 0) (w := fo) rfl pkA (by omega) hfo rfl | exact Pu.load_cl rfl pkA rfl | exact Pu.load_sli rfl pkA (by first | omega | (simp only [List.length_set, List.length_append, List.length_replicate, List.length_cons, List.length_nil]; omega)))) | (apply Pu.kIdx; (first | exact Pu.idx_st rfl rfl pkA (by omega) | exact Pu.idx_sl rfl rfl pkA (by simp only [List.length_map, List.length_append, List.length_set, List.length_replicate, List.length_cons, List.length_nil]; omega))) | (apply Pu.kBin; (first | (apply Pu.b_sub; exact Pu.sub_i rfl rfl (by omega)))))) ?_)); ((first | refine DwF.q rfl rfl (by kernel_rfl) trivial (by (first | exact Pu.move rfl | exact Pu.assign rfl | exact Pu.fld rfl | exact Pu.nilCheck rfl | exact Pu.fld0 rfl | (apply Pu.kLoad; (first | exact Pu.load_stfd (o := 0) (w := fo) rfl pkA (by omega) hfo rfl | exact Pu.load_cl rfl pkA rfl | exact Pu.load_sli rfl pkA (by first | omega | (simp only [List.length_set, List.length_append, List.length_replicate, List.length_cons, List.length_nil]; omega)))) | (apply Pu.kIdx; (first | exact Pu.idx_st rfl rfl pkA (by omega) | exact Pu.idx_sl rfl rfl pkA (by simp only [List.length_map, List.length_append, List.length_set, List.length_replicate, List.length_cons, List.length_nil]; omega))) | (apply Pu.kBin; (first | (apply Pu.b_sub; exact Pu.sub_i rfl rfl (by omega)))))) ?_ | refine DwF.q rfl rfl (by kernel_rfl) ⟨_, _, rfl, rfl, rfl⟩ (by (first | exact Pu.move rfl | exact Pu.assign rfl | exact Pu.fld rfl | exact Pu.nilCheck rfl | exact Pu.fld0 rfl | (apply Pu.kLoad; (first | exact Pu.load_stfd (o := 0) (w := fo) rfl pkA (by omega) hfo rfl | exact Pu.load_cl rfl pkA rfl | exact Pu.load_sli rfl pkA (by first | omega | (simp only [List.length_set, List.length_append, List.length_replicate, List.length_cons, List.length_nil]; omega)))) | (apply Pu.kIdx; (first | exact Pu.idx_st rfl rfl pkA (by omega) | exact Pu.idx_sl rfl rfl pkA (by simp only [List.length_map, List.length_append, List.length_set, List.length_replicate, List.length_cons, List.length_nil]; omega))) | (apply Pu.kBin; (first | (apply Pu.b_sub; exact Pu.sub_i rfl rfl (by omega)))))) ?_)); ((first | refine DwF.q rfl rfl (by kernel_rfl) trivial (by (first | exact Pu.move rfl | exact Pu.assign rfl | exact Pu.fld rfl | exact Pu.nilCheck rfl | exact Pu.fld0 rfl | (apply Pu.kLoad; (first | exact Pu.load_stfd (o := 0) (w := fo) rfl pkA (by omega) hfo rfl | exact Pu.load_cl rfl pkA rfl | exact Pu.load_sli rfl pkA (by first | omega | (simp only [List.length_set, List.length_append, List.length_replicate, List.length_cons, List.length_nil]; omega)))) | (apply Pu.kIdx; (first | exact Pu.idx_st rfl rfl pkA (by omega) | exact Pu.idx_sl rfl rfl pkA (by simp only [List.length_map, List.length_append, List.length_set, List.length_replicate, List.length_cons, List.length_nil]; omega))) | (apply Pu.kBin; (first | (apply Pu.b_sub; exact Pu.sub_i rfl rfl (by omega)))))) ?_ | refine DwF.q rfl rfl (by kernel_rfl) ⟨_, _, rfl, rfl, rfl⟩ (by (first | exact Pu.move rfl | exact Pu.assign rfl | exact Pu.fld rfl | exact Pu.nilCheck rfl | exact Pu.fld0 rfl | (apply Pu.kLoad; (first | exact Pu.load_stfd (o := 0) (w := fo) rfl pkA (by omega) hfo rfl | exact Pu.load_cl rfl pkA rfl | exact Pu.load_sli rfl pkA (by first | omega | (simp only [List.length_set, List.length_append, List.length_replicate, List.length_cons, List.length_nil]; omega)))) | (apply Pu.kIdx; (first | exact Pu.idx_st rfl rfl pkA (by omega) | exact Pu.idx_sl rfl rfl pkA (by simp only [List.length_map, List.length_append, List.length_set, List.length_replicate, List.length_cons, List.length_nil]; omega))) | (apply Pu.kBin; (first | (apply Pu.b_sub; exact Pu.sub_i rfl rfl (by omega)))))) ?_)); refine DwF.c rfl (by first | exact trivial | exact ⟨_, _, rfl, rfl, rfl⟩) rfl ?_; refine Ow.as3 ?_; refine Ow.append_sli (l2 := fo.2.1) rfl rfl rfl pkA (rdSl_sli.of_pk pkA) (by omega) (fun sv3 => ?_); refine Ow.nil ?_; refine loudG.go3 pkA pkA pkA ?_; refine DwF.b rfl (by first | exact trivial | exact ⟨_, _, rfl, rfl, rfl⟩) rfl ?_; refine Ow.as3 ?_; refine Ow.store_cl rfl rfl rfl (by (first | rfl | assumption | exact Subtype.property _)) pkA rfl ?_; refine Ow.nil ?_; refine loudF.go ?_; refine DwF.nil ?_)
        (repeat' (first | (refine Ow.is ?_; (first | refine Ow.pu rfl (Pu.fld rfl) ?_ | refine Ow.pu rfl (Pu.fld0 rfl) ?_ | refine Ow.nil ?_ | refine Ow.pu rfl (Pu.move rfl) ?_ | refine Ow.pu rfl (Pu.fld rfl) ?_ | refine Ow.pu rfl (Pu.nilCheck rfl) ?_ | (refine Ow.kLoad ?_; (first | refine Ow.pu rfl (Pu.load_stfd (o := 0) (w := fo) rfl pkA (by omega) hfo rfl) ?_ | refine Ow.pu rfl (Pu.load_cl rfl pkA rfl) ?_ | refine Ow.pu rfl (Pu.load_sli rfl pkA (by first | omega | (simp only [List.length_set, List.length_append, List.length_replicate, List.length_cons, List.length_nil]; omega))) ?_)) | (refine Ow.kBin ?_; (first | (refine Ow.b_sub ?_; refine Ow.pu rfl (Pu.sub_i rfl rfl (by omega)) ?_))) | (refine Ow.kStore ?_; (first | refine Ow.store_cl rfl rfl rfl (by (first | rfl | assumption | exact Subtype.property _)) pkA rfl ?_)) | (refine Ow.kIdx ?_; (first | refine Ow.pu rfl (Pu.idx_st rfl rfl pkA (by omega)) ?_ | refine Ow.pu rfl (Pu.idx_sl rfl rfl pkA (by simp only [List.length_map, List.length_append, List.length_set, List.length_replicate, List.length_cons, List.length_nil]; omega)) ?_)) | (refine Ow.kBuiltin ?_; (first | refine Ow.append_sli rfl rfl rfl pkA ((rdSl_cli (l2 := [_]) rfl).of_pk pkA) (by first | (simp; done) | (simp; omega)) (fun sv => ?_))))) | (refine Cw.is ?_; (first | refine Cw.seq ?_ | refine Cw.region ?_ | refine Cw.cond_t rfl rfl ?_ | refine Cw.cond_f rfl rfl ?_ | refine Cw.block ?_ | refine Cw.ret ?_ | refine Cw.exit ?_ | refine Cw.skip ?_)) | (first | refine thenQ_n ?_ | refine thenQ_e ?_ | refine blockQ_n ?_ | refine blockQ_e ?_)))
        exact ⟨rfl, ⟨upd V zn true, l' ++ fo.2.1, sv3⟩, ⟨hpw, by simp only; omega⟩, by simp only; rw [h0]; exact hmp, by (repeat first | exact trivial | refine ⟨rfl, ?_⟩), by simp only; ((try simp only [star_assoc]); (repeat (apply Ent.pk; focus ((repeat first | exact pk0 | exact pkl | apply pkn); first | done | fail))); first | exact Ent.fin pkA | exact Ent.refl _)⟩
end Go.Sl
namespace Go.Sl
open Go Go.Proofs
set_option linter.unusedVariables false
set_option linter.unusedSimpArgs false
universe u
theorem obs_nil : obs [] = emp := rfl
section
variable {P : Program} {r : Option Nat} {n : Nat} {Q : PostT} {ρ : Env} {ds : List Deferred} {H R : HP} {t : TypeId} {kk bb : Nat} {zc : List Value} {v : Value} {cs : List Value}
end
attribute [local irreducible] star Ow Cw Pk Pu Dw DwF thenQ blockQ retQ loudQ loudF loudG Cr thr tab obs andI bset lU stAt cn gpW
def gs0 (q : Cfg) : GS SV Nat := ⟨[], List.replicate q.globals.toNat 0, [none, none, none, none]⟩
theorem GNew_fn (q : Cfg) (hq8 : QOk q) : Fn Tryd.prog 9 [q.v] emp Nat (fun g => .pointer (some ⟨g, 0, none⟩)) (fun g => gph g q (gs0 q)) := by
  obtain ⟨gl, hgl⟩ : ∃ n : Nat, q.globals = n := ⟨q.globals.toNat, by have := hq8.gl; omega⟩
  have hnew : Fn Tryd.prog 22 [q.v] emp Nat (fun b => .pointer (some ⟨b, 0, none⟩)) (fun b => tab b q.threads q.regs q.stack (List.replicate q.globals.toNat 0) [none, none, none, none]) := by
    have h := RNew_fn q.threads q.regs q.stack ⟨q.engine, q.black, q.pages, q.fields, q.mark, q.log, q.budget⟩ gl (by have := hq8.gl; omega)
    rw [show q.globals.toNat = gl by omega]
    rw [show q.v = .agg (cfgC q.threads q.regs q.stack gl ⟨q.engine, q.black, q.pages, q.fields, q.mark, q.log, q.budget⟩).toArray by rw [← hgl]]
    exact h
  (refine Fn.of Tryd.func9 rfl (by kernel_rfl) Tryd.ntmps9 rfl (fun F => ?_))
  refine Cw.heq (emp_star F) ?_
  (repeat' (first | (refine Ow.is ?_; (first | refine Ow.nil ?_ | refine Ow.pu rfl (Pu.assign rfl) ?_ | refine Ow.box rfl rfl rfl (fun bx => ?_))) | (refine Cw.is ?_; (first | refine Cw.seq ?_ | refine Cw.region ?_ | refine Cw.ret ?_)) | (first | refine thenQ_n ?_)))
  (refine Cw.draw1 (cl bx q.cs) false 0 [(0, false), (1, false), (2, true), (3, false), (4, true), (5, false)] pkA mixed (by kernel_rfl) ?_; (repeat (first | refine Dw.q rfl rfl trivial (by (first | exact Pu.assign rfl | exact Pu.build (ps := [(0, .tmp 3), (2, .tmp 5)]) (vs := [.agg q.cs.toArray, .pointer (some ⟨rb, 0, none⟩)]) (cs := q.cs ++ (.slice none 0 0 :: .pointer (some ⟨rb, 0, none⟩) :: (wkc wk0 ++ (wkc wk0 ++ (wkc wk0 ++ wkc wk0))))) evA (fun w => by kernel_rfl) | (apply Pu.kLoad; (first | exact Pu.loadN_cl rfl pkA rfl rfl)))) ?_ | refine Dw.q rfl rfl ⟨_, _, rfl, rfl, rfl⟩ (by (first | exact Pu.assign rfl | exact Pu.build (ps := [(0, .tmp 3), (2, .tmp 5)]) (vs := [.agg q.cs.toArray, .pointer (some ⟨rb, 0, none⟩)]) (cs := q.cs ++ (.slice none 0 0 :: .pointer (some ⟨rb, 0, none⟩) :: (wkc wk0 ++ (wkc wk0 ++ (wkc wk0 ++ wkc wk0))))) evA (fun w => by kernel_rfl) | (apply Pu.kLoad; (first | exact Pu.loadN_cl rfl pkA rfl rfl)))) ?_)); refine Dw.l rfl (by first | exact trivial | exact ⟨_, _, rfl, rfl, rfl⟩) ?_; refine Ow.callE0 evA rfl hnew (fun rb => ?_); refine Ow.nil ?_; refine loudQ.go pkA ?_; (repeat (first | refine Dw.q rfl rfl trivial (by (first | exact Pu.assign rfl | exact Pu.build (ps := [(0, .tmp 3), (2, .tmp 5)]) (vs := [.agg q.cs.toArray, .pointer (some ⟨rb, 0, none⟩)]) (cs := q.cs ++ (.slice none 0 0 :: .pointer (some ⟨rb, 0, none⟩) :: (wkc wk0 ++ (wkc wk0 ++ (wkc wk0 ++ wkc wk0))))) evA (fun w => by kernel_rfl) | (apply Pu.kLoad; (first | exact Pu.loadN_cl rfl pkA rfl rfl)))) ?_ | refine Dw.q rfl rfl ⟨_, _, rfl, rfl, rfl⟩ (by (first | exact Pu.assign rfl | exact Pu.build (ps := [(0, .tmp 3), (2, .tmp 5)]) (vs := [.agg q.cs.toArray, .pointer (some ⟨rb, 0, none⟩)]) (cs := q.cs ++ (.slice none 0 0 :: .pointer (some ⟨rb, 0, none⟩) :: (wkc wk0 ++ (wkc wk0 ++ (wkc wk0 ++ wkc wk0))))) evA (fun w => by kernel_rfl) | (apply Pu.kLoad; (first | exact Pu.loadN_cl rfl pkA rfl rfl)))) ?_)); refine Dw.l rfl (by first | exact trivial | exact ⟨_, _, rfl, rfl, rfl⟩) ?_; refine Ow.box rfl rfl rfl (fun g => ?_); refine Ow.nil ?_; refine loudQ.go pkA ?_; (repeat (first | refine Dw.q rfl rfl trivial (by (first | exact Pu.assign rfl | exact Pu.build (ps := [(0, .tmp 3), (2, .tmp 5)]) (vs := [.agg q.cs.toArray, .pointer (some ⟨rb, 0, none⟩)]) (cs := q.cs ++ (.slice none 0 0 :: .pointer (some ⟨rb, 0, none⟩) :: (wkc wk0 ++ (wkc wk0 ++ (wkc wk0 ++ wkc wk0))))) evA (fun w => by kernel_rfl) | (apply Pu.kLoad; (first | exact Pu.loadN_cl rfl pkA rfl rfl)))) ?_ | refine Dw.q rfl rfl ⟨_, _, rfl, rfl, rfl⟩ (by (first | exact Pu.assign rfl | exact Pu.build (ps := [(0, .tmp 3), (2, .tmp 5)]) (vs := [.agg q.cs.toArray, .pointer (some ⟨rb, 0, none⟩)]) (cs := q.cs ++ (.slice none 0 0 :: .pointer (some ⟨rb, 0, none⟩) :: (wkc wk0 ++ (wkc wk0 ++ (wkc wk0 ++ wkc wk0))))) evA (fun w => by kernel_rfl) | (apply Pu.kLoad; (first | exact Pu.loadN_cl rfl pkA rfl rfl)))) ?_)); refine Dw.nil ?_ rfl)
  (repeat' (first | (refine Ow.is ?_; (first | refine Ow.nil ?_ | refine Ow.pu rfl (Pu.assign rfl) ?_ | refine Ow.box rfl rfl rfl (fun bx => ?_))) | (refine Cw.is ?_; (first | refine Cw.seq ?_ | refine Cw.region ?_ | refine Cw.ret ?_)) | (first | refine thenQ_n ?_)))
  refine retQ_v g Tryd.results9 rfl rfl ?_
  refine Ent.trans ?_ (Ent.left (Ent.trans (gpW_mk g q rb ([wk0, wk0, wk0, wk0].flatMap wkc) [] (List.replicate q.globals.toNat 0) [none, none, none, none] ⟨none, 0, 0⟩) (gph_mk g q (gs0 q) (rb := rb) (W := [wk0, wk0, wk0, wk0]) rfl rfl rfl rfl (fun j p hj h => by
    rcases (by omega : j = 0 ∨ j = 1 ∨ j = 2 ∨ j = 3) with rfl | rfl | rfl | rfl <;> cases h))))
  refine Ent.addnil 2 ?_
  rw [obs_nil, emp_star]
  ((try simp only [star_assoc]); (repeat (apply Ent.pk; focus ((repeat first | exact pk0 | exact pkl | apply pkn); first | done | fail))); first | exact Ent.fin pkA | exact Ent.refl _)
theorem Born_fn (g : Nat) (q : Cfg) (s : GS SV Nat) : Fn Tryd.prog 12 [.pointer (some ⟨g, 0, none⟩)] (gph g q s) Unit (fun _ => vi s.O.length) (fun _ => gph g q s) := by
  (refine Fn.of Tryd.func12 rfl (by kernel_rfl) Tryd.ntmps12 rfl (fun F => ?_))
  refine Cw.opn (gph_ex g q s) (fun y => ?_)
  refine Cw.heq (star_assoc _ _ _) ?_
  refine Cw.lift (fun hy => ?_)
  obtain ⟨rb, W⟩ := y
  obtain ⟨hWl, hW⟩ := hy
  dsimp only at hWl hW ⊢
  refine Cw.opn (gpW_ex g q rb _ s.O s.G (s.T.map sltO)) (fun tv => ?_)
  (refine Cw.heq (by simp only [star_assoc, emp_star, star_emp]; exact rfl) ?_)
  (repeat' (first | (refine Ow.is ?_; (first | refine Ow.pu rfl (Pu.fld rfl) ?_ | refine Ow.nil ?_ | refine Ow.pu rfl (Pu.move rfl) ?_ | refine Ow.pu rfl (Pu.assign rfl) ?_ | refine Ow.pu rfl (Pu.fld rfl) ?_ | refine Ow.pu rfl (Pu.nilCheck rfl) ?_ | (refine Ow.kLoad ?_; (first | refine Ow.pu rfl (Pu.load_cl rfl pkA rfl) ?_)) | (refine Ow.kBuiltin ?_; (first | refine Ow.pu rfl (Pu.len_st rfl pkA) ?_)))) | (refine Cw.is ?_; (first | refine Cw.seq ?_ | refine Cw.region ?_ | refine Cw.ret ?_)) | (first | refine thenQ_n ?_)))
  refine retQ_v () Tryd.results12 rfl rfl ?_
  refine Ent.trans ?_ (Ent.left (Ent.trans (gpW_mk g q rb (W.flatMap wkc) s.O s.G (s.T.map sltO) tv) (gph_mk g q s (rb := rb) rfl rfl rfl hWl hW)))
  ((try simp only [star_assoc]); (repeat (apply Ent.pk; focus ((repeat first | exact pk0 | exact pkl | apply pkn); first | done | fail))); first | exact Ent.fin pkA | exact Ent.refl _)
def atI (s : GS SV Nat) (t : Int) : It := match thOf s t with
  | some p => if p.2.w.ph = 0 then it0 else p.2.w.it
  | none => it0
def atN (s : GS SV Nat) (t : Int) : Int := match thOf s t with
  | some p => p.2.w.ph
  | none => 0
end Go.Sl
namespace Go.Sl
open Go Go.Proofs
set_option linter.unusedVariables false
set_option linter.unusedSectionVars false
section
variable {α β : Type} [Inhabited α] [Inhabited β]
theorem okR_mono {n m : Nat} (h : n ≤ m) {z : Int} (hz : okR n z) : okR m z := by unfold okR at *; omega
theorem at_ok {n : Nat} {l : List Int} (h : ∀ z ∈ l, okR n z) {i : Nat} (hi : i < l.length) : okR n l[i]! := by
  rw [getElem!_pos l i hi]; exact h _ (List.getElem_mem _)
structure EfOk (q : Cfg) (n0 gl rl : Nat) (f : Ef α) : Prop where
  n : n0 ≤ f.O.length ∧ f.O.length ≤ n0 + 1
  o : ∀ x ∈ f.O, x.2.1.length ≤ 6 ∧ ∀ z ∈ x.2.1, okR f.O.length z
  g : f.G.length = gl ∧ ∀ z ∈ f.G, okR f.O.length z
  r : f.r.length = rl ∧ ∀ z ∈ f.r, okR f.O.length z
  s : (f.s.length : Int) ≤ q.stack ∧ ∀ z ∈ f.s, okR f.O.length z
theorem actR_ok (b : α) {q : Cfg} {O : List (Obj α)} {G r s : List Int} (x : It) (full : Bool) (hq8 : QOk q) (ho : ∀ x ∈ O, x.2.1.length ≤ 6 ∧ ∀ z ∈ x.2.1, okR O.length z) (hg : ∀ z ∈ G, okR O.length z) (hgl : (G.length : Int) = q.globals) (hr : ∀ z ∈ r, okR O.length z) (hs : (s.length : Int) ≤ q.stack ∧ ∀ z ∈ s, okR O.length z) :
    EfOk q O.length G.length r.length (actR b q O G r s x full) := by
  have base : ∀ e v, EfOk q O.length G.length r.length (⟨O, G, r, s, e, v⟩ : Ef α) := fun e v => ⟨⟨by simp, by simp⟩, ho, ⟨rfl, hg⟩, ⟨rfl, hr⟩, hs⟩
  have breg : ∀ i z e v, okR O.length z → EfOk q O.length G.length r.length (⟨O, G, r.set i z, s, e, v⟩ : Ef α) := fun i z e v hz => ⟨⟨by simp, by simp⟩, ho, ⟨rfl, hg⟩, ⟨by simp, fun y hy => (List.mem_or_eq_of_mem_set hy).elim (hr y) (fun e => e ▸ hz)⟩, hs⟩
  have okreg : ∀ i, okR O.length (regR r i) := regR_ok hr
  have fldok : ∀ o i, okR O.length o → fldE O o i = 0 → okR O.length (fldV O o i) := fun o i hoo he => by
    unfold fldE at he
    split at he
    · cases he
    · split at he
      · rename_i h0 hi
        have h1 : (o - 1).toNat < O.length := by unfold okR at hoo; omega
        unfold fldV
        have h2 := (ho O[(o - 1).toNat]! (by rw [getElem!_pos O _ h1]; exact List.getElem_mem _)).2
        exact at_ok h2 (by omega)
      · cases he
  unfold actR
  split
  · exact base _ _
  rename_i hck
  have hck : checkR q x.c x.x x.y x.z = 0 := by simpa using hck
  obtain ⟨hn, hxx, hgy, hfy, hry, hrz⟩ := check0 hck
  have hf6 := hq8.fd
  split
  · unfold getR
    split
    · rename_i hc
      split
      · exact breg _ _ _ _ (by unfold okR; omega)
      · have hm : O.length ≤ (O ++ [(b, List.replicate x.y.toNat 0, 0)]).length := by simp
        refine ⟨⟨by simp, by simp⟩, fun y hy => ?_, ⟨rfl, fun z hz => okR_mono hm (hg z hz)⟩, ⟨by simp, fun z hz => ?_⟩, ⟨hs.1, fun z hz => okR_mono hm (hs.2 z hz)⟩⟩
        · rcases List.mem_append.1 hy with h | h
          · exact ⟨(ho y h).1, fun z hz => okR_mono hm ((ho y h).2 z hz)⟩
          · have : y = (b, List.replicate x.y.toNat 0, 0) := by simpa using h
            subst this
            have := hfy hc
            refine ⟨by simp; omega, fun z hz => ?_⟩
            have : z = 0 := (List.mem_replicate.1 hz).2
            unfold okR; omega
        · rcases List.mem_or_eq_of_mem_set hz with h | h
          · exact okR_mono hm (hr z h)
          · subst h; unfold okR; simp only [List.length_append, List.length_cons, List.length_nil]; omega
    split
    · split
      · rename_i he
        exact breg _ _ _ _ (fldok _ _ (okreg _) he)
      · exact base _ _
    split
    · split
      · exact base _ _
      · rename_i hne
        have hlen : s.length - 1 < s.length := by have := List.length_pos_iff.2 hne; omega
        refine ⟨⟨by simp, by simp⟩, ho, ⟨rfl, hg⟩, ⟨by simp, fun y hy => (List.mem_or_eq_of_mem_set hy).elim (hr y) (fun e => e ▸ at_ok hs.2 hlen)⟩, ⟨by simp only [List.length_take]; omega, fun z hz => hs.2 z (List.mem_of_mem_take hz)⟩⟩
    · rename_i h1 h2 h3 h4
      refine breg _ _ _ _ (at_ok hg ?_)
      have : x.c = 11 := by unfold tellsC at h1; omega
      have := hgy (.inl this); omega
  · unfold plainR
    simp only
    split
    · split
      · rename_i he
        have hao := okreg x.x
        have h1 : (regR r x.x - 1).toNat < O.length := by
          unfold fldE at he
          split at he
          · cases he
          · unfold okR at hao; omega
        refine ⟨⟨by simp [setF], by simp [setF]⟩, fun y hy => ?_, ⟨rfl, fun z hz => by simpa [setF] using hg z hz⟩, ⟨rfl, fun z hz => by simpa [setF] using hr z hz⟩, ⟨hs.1, fun z hz => by simpa [setF] using hs.2 z hz⟩⟩
        simp only [setF, List.length_set] at hy ⊢
        have hob := ho O[(regR r x.x - 1).toNat]! (by rw [getElem!_pos O _ h1]; exact List.getElem_mem _)
        rcases List.mem_or_eq_of_mem_set hy with h | h
        · exact ho y h
        · subst h
          refine ⟨by simpa using hob.1, fun z hz => ?_⟩
          rcases List.mem_or_eq_of_mem_set hz with h | h
          · exact hob.2 z h
          · rw [h]; exact okreg _
      · exact base _ _
    split
    · split
      · exact base _ _
      · exact base _ _
    split
    · split
      · exact base _ _
      · rename_i h0
        have hao := okreg x.x
        have h1 : (regR r x.x - 1).toNat < O.length := by unfold okR at hao; omega
        refine ⟨⟨by simp [setS], by simp [setS]⟩, fun y hy => ?_, ⟨rfl, fun z hz => by simpa [setS] using hg z hz⟩, ⟨rfl, fun z hz => by simpa [setS] using hr z hz⟩, ⟨hs.1, fun z hz => by simpa [setS] using hs.2 z hz⟩⟩
        simp only [setS, List.length_set] at hy ⊢
        have hob := ho O[(regR r x.x - 1).toNat]! (by rw [getElem!_pos O _ h1]; exact List.getElem_mem _)
        rcases List.mem_or_eq_of_mem_set hy with h | h
        · exact ho y h
        · subst h; exact hob
    split
    · exact breg _ _ _ _ (okreg _)
    split
    · exact breg _ _ _ _ (by unfold okR; omega)
    split
    · exact base _ _
    split
    · exact base _ _
    split
    · split
      · exact base _ _
      · refine ⟨⟨by simp, by simp⟩, ho, ⟨rfl, hg⟩, ⟨rfl, hr⟩, ⟨by simp only [List.length_append, List.length_cons, List.length_nil]; omega, fun z hz => ?_⟩⟩
        rcases List.mem_append.1 hz with h | h
        · exact hs.2 z h
        · have : z = regR r x.x := by simpa using h
          rw [this]; exact okreg _
    · refine ⟨⟨by simp, by simp⟩, ho, ⟨by simp, fun y hy => (List.mem_or_eq_of_mem_set hy).elim (hg y) (fun e => e ▸ okreg _)⟩, ⟨rfl, hr⟩, hs⟩
theorem thOf_s {s : GS α β} {t : Int} {p : β × ThS} (h : thOf s t = some p) : (0 ≤ t ∧ t < 4) ∧ s.T[t.toNat]! = some p := by
  unfold thOf at h
  split at h
  · rename_i h1; exact ⟨h1, h⟩
  · cases h
theorem doG_ok (a : α) (b : β) {q : Cfg} {s : GS α β} (x : It) (full : Bool) (hok : GsOk q s) (hq8 : QOk q) : GsOk q (doG a b q s x full).1 ∧ s.O.length ≤ (doG a b q s x full).1.O.length ∧ (doG a b q s x full).1.O.length ≤ s.O.length + 1 := by
  have hT := hok.tl
  have hset : ∀ (i : Nat) (o : Option (β × ThS)), (∀ c th, o = some (c, th) → i < 4 → ThOk q s.O.length th ∧ (i : Int) < q.threads ∧ (th.w.ph ≠ 0 → th.w.it.t = (i : Int))) → GsOk q { s with T := s.T.set i o } := fun i o ho =>
    ⟨by simpa using hT, hok.gl, hok.g, hok.o, fun j c th hj h => by
      simp only at h
      rw [set_get _ _ _ _ (by omega)] at h
      by_cases e : i = j
      · rw [if_pos e] at h; subst e; exact ho c th h hj
      · rw [if_neg e] at h; exact hok.t j c th hj h⟩
  have same : ∀ e v : Int, GsOk q ((s, e, v) : GS α β × Int × Int).1 ∧ s.O.length ≤ ((s, e, v) : GS α β × Int × Int).1.O.length ∧ ((s, e, v) : GS α β × Int × Int).1.O.length ≤ s.O.length + 1 := fun e v => ⟨hok, by simp, by simp⟩
  unfold doG
  split
  · split
    · rename_i h
      refine ⟨hset _ _ (fun c th he hi => ?_), by simp, by simp⟩
      cases he
      have := hq8.rg
      have := hq8.st
      refine ⟨⟨by simp; omega, by simp; omega, .inl rfl, .inl rfl, fun z hz => ?_, fun z hz => by cases hz⟩, by omega, fun h => (h rfl).elim⟩
      have : z = 0 := (List.mem_replicate.1 hz).2
      unfold okR; omega
    · exact same _ _
  split
  · split
    · exact same _ _
    · rename_i c th hth
      obtain ⟨hx4, hst⟩ := thOf_s hth
      obtain ⟨htk, htt, htx⟩ := hok.t x.t.toNat c th (by omega) hst
      split
      · exact same _ _
      split
      · exact ⟨hset _ _ (fun c th he => by cases he), by simp, by simp⟩
      split
      · split
        · rename_i hc
          refine ⟨hset _ _ (fun c' th' he hi => ?_), by simp, by simp⟩
          cases he
          exact ⟨⟨htk.rl, htk.sl, .inr (.inl rfl), .inr hc, htk.r, htk.s⟩, htt, fun _ => by simp only; omega⟩
        · exact same _ _
      split
      · rename_i hph
        have hef := actR_ok a (q := q) (O := s.O) (G := s.G) (r := th.r) (s := th.s) th.w.it full hq8 hok.o hok.g hok.gl htk.r ⟨htk.sl, htk.s⟩
        simp only
        refine ⟨⟨by simpa using hT, ?_, hef.g.2, hef.o, fun j c' th' hj h => ?_⟩, hef.n.1, hef.n.2⟩
        · have := hef.g.1; have := hok.gl; simp only; omega
        · simp only at h
          rw [set_get _ _ _ _ (by omega)] at h
          by_cases e : x.t.toNat = j
          · rw [if_pos e] at h
            cases h
            have hw := htk.wt
            refine ⟨⟨by have := hef.r.1; have := htk.rl; simp only; omega, hef.s.1, .inr (.inr rfl), hw.elim (fun h => by omega) .inr, hef.r.2, hef.s.2⟩, by omega, fun _ => by have := htx (by omega); simp only; omega⟩
          · rw [if_neg e] at h
            obtain ⟨h1, h2, h3⟩ := hok.t j c' th' hj h
            exact ⟨⟨h1.rl, h1.sl, h1.ph, h1.wt, fun z hz => okR_mono hef.n.1 (h1.r z hz), fun z hz => okR_mono hef.n.1 (h1.s z hz)⟩, h2, h3⟩
      · refine ⟨hset _ _ (fun c' th' he hi => ?_), by simp, by simp⟩
        cases he
        exact ⟨⟨htk.rl, htk.sl, .inl rfl, .inl rfl, htk.r, htk.s⟩, htt, fun h => (h rfl).elim⟩
  · exact same _ _
theorem gs0_ok {q : Cfg} (hq8 : QOk q) : GsOk q (gs0 q) where
  tl := rfl
  gl := by have := hq8.gl; simp [gs0]; omega
  g z hz := by
    have : z = 0 := (List.mem_replicate.1 hz).2
    unfold okR; omega
  o x hx := by cases hx
  t j c th hj h := by rcases (by omega : j = 0 ∨ j = 1 ∨ j = 2 ∨ j = 3) with rfl | rfl | rfl | rfl <;> cases h
end
end Go.Sl
namespace Go.Sl
open Go Go.Proofs
set_option linter.unusedVariables false
set_option linter.unusedSimpArgs false
theorem Count_v (b n : Nat) (S : Nat → Bool) (hn : n ≤ 1000000) (hS : Sup n S) {k : Nat} (hk : cn S n = k) : Fn Tryd.prog 20 [.pointer (some ⟨b, 0, none⟩)] (bset b n S) Unit (fun _ => vi k) (fun _ => bset b n S) := hk ▸ BCount_fn b n S hn hS
def ltS (i : Nat) : Nat → Bool := fun x => decide (x < i)
theorem ex_unit (A : Unit → HP) : Sl.ex A = A () := by funext h; exact propext ⟨fun ⟨x, hx⟩ => hx, fun hx => ⟨(), hx⟩⟩
theorem stAt_u (b n : Nat) (S : Nat → Bool) (J : Nat → HP) (i : Nat) : stAt b n (fun _ : Unit => S) (fun i _ => J i) i = bset b n S * J i := by rw [stAt_ex]; exact ex_unit _
attribute [local irreducible] star Ow Cw Pk Pu Dw thenQ blockQ retQ loudQ Cr andI orI xorI IntKind.wrap bset stAt ltS cn
end Go.Sl
namespace Go.Sl
open Go
set_option linter.unusedVariables false
def fldV' (P : Program) (s f : Nat) : Option (Nat × Option Bool) :=
  match P.underlying s with
  | some (.struct fs) => (fs[f]?).map fun fd => (fd.offset, (P.underlying fd.type).map aggB)
  | _ => none
class FldV (P : Program) (s f : Nat) (off : outParam Nat) : Prop where
  h : fldV' P s f = some (off, some false)
theorem Pu.fieldv {P : Program} {n : Nat} {ρ : Env} {H : HP} {t : TypeId} {x : Operand} {s f off : Nat} {cs : List Value} {v : Value} [T : FldV P s f off] (hx : ev ρ x = some (.agg cs.toArray)) (hv : cs[off]? = some v) : Pu P n ρ H (.field s x f) t v := by
  have h := T.h
  unfold fldV' at h
  split at h
  · rename_i fs hs
    cases hf : fs[f]? with
    | none => rw [hf] at h; cases h
    | some fd =>
      rw [hf] at h
      simp only [Option.map_some, Option.some.injEq, Prod.mk.injEq] at h
      obtain ⟨h1, h2⟩ := h
      cases hu : P.underlying fd.type with
      | none => rw [hu] at h2; cases h2
      | some td =>
        rw [hu] at h2
        simp only [Option.map_some, Option.some.injEq] at h2
        exact Pu.mk (by simp) (fun a' w hr => by
          have hp := run_part1 (P := P) (xs := cs.toArray) (off := off) (v := v) (w := w) hu h2 (by simpa using hv)
          simp [execOp, ev_eval hr hx, Instr.field, underlying, hs, hf, asAgg, h1, hp])
  · cases h
end Go.Sl
namespace Go.Sl
open Go Go.Proofs
set_option linter.unusedVariables false
set_option linter.unusedSimpArgs false
instance : FldV Tryd.prog 31 0 0 := ⟨by kernel_rfl⟩
instance : FldV Tryd.prog 31 1 1 := ⟨by kernel_rfl⟩
def q0 : Cfg := madeR 0 0 0 0 0 0
theorem Made0_fn : Fn Tryd.prog 8 [l6v 0 0 0 0 0 0] emp Unit (fun _ => q0.v) (fun _ => emp) := Made_fn 0 0 0 0 0 0 (by decide) (by decide) (by decide) (by decide) (by decide) (by decide)
theorem q0_ok : QOk q0 := ⟨by decide +kernel, by decide +kernel, by decide +kernel, by decide +kernel, by decide +kernel⟩
def fs (b : Nat) (O : List (Obj SV)) (z ph : Int) : GS SV Nat := ⟨O, [], [some (b, ⟨[z, 0], [], ⟨it0, ph⟩⟩), none, none, none]⟩
theorem fs_sp (p : SV × Nat) : doG p.1 p.2 q0 (gs0 q0) ⟨2, 0, 0, 0, 0, 0⟩ false = (fs p.2 [] 0 0, 0, 0) := by kernel_rfl
theorem fs_do (p : SV × Nat) (b : Nat) (O : List (Obj SV)) (z : Int) : doG p.1 p.2 q0 (fs b O z 0) it0 false = (fs b O z 1, 0, 0) := by kernel_rfl
theorem fs_go (p : SV × Nat) (b : Nat) (O : List (Obj SV)) (z : Int) : doG p.1 p.2 q0 (fs b O z 1) ⟨1, 0, 0, 0, 0, 0⟩ false = (fs b (O ++ [(p.1, [], 0)]) (O.length + 1 : Nat) 2, 0, ((O.length + 1 : Nat) : Int)) := by kernel_rfl
theorem fs_go2 (p : SV × Nat) (b : Nat) (O : List (Obj SV)) (z : Int) : doG p.1 p.2 q0 (fs b O z 2) ⟨1, 0, 0, 0, 0, 0⟩ false = (fs b O z 0, 0, 0) := by kernel_rfl
theorem Do_w {A : HP} {kb ko kc : Nat} (hK : Kinds A kb ko kc) (g : Nat) {q : Cfg} {s : GS SV Nat} {x : It} {full : Bool} (hok : GsOk q s) (hO : s.O.length ≤ 900000) (hq8 : QOk q) {f : SV × Nat → GS SV Nat} {e v : SV × Nat → Int} (h : ∀ p : SV × Nat, doG p.1 p.2 q s x full = (f p, e p, v p)) :
    Fn Tryd.prog 10 [.pointer (some ⟨g, 0, none⟩), .agg x.cs.toArray, .bool full] (gph g q s * A) (SV × Nat) (fun p => ansV (e p) (v p)) (fun p => gph g q (f p) * A) := by
  have h1 := Do_fn hK g q s x full hok hO hq8
  simp only [h] at h1
  exact h1
theorem ok_w {q : Cfg} {s : GS SV Nat} {x : It} {full : Bool} (hok : GsOk q s) (hq8 : QOk q) {f : SV × Nat → GS SV Nat} {e v : SV × Nat → Int} (h : ∀ p : SV × Nat, doG p.1 p.2 q s x full = (f p, e p, v p)) (p : SV × Nat) : GsOk q (f p) := by
  have h1 := (doG_ok p.1 p.2 x full hok hq8).1
  rw [h] at h1; exact h1
def nn20 (k : Nat) : Int := if k = 0 then 0 else if k = 1 then 1 else 12
theorem rch_fs {b : Nat} {O : List (Obj SV)} (hO : O.length = 2) (he : ∀ o ∈ O, o.2.1 = []) (z : Int) : Rch O (rootsG (fs b O O.length 0)) z ↔ z = 2 := by
  have hfl : ∀ z : Int, flds O z = [] := fun z => by
    unfold flds
    by_cases h : (z - 1).toNat < O.length
    · rw [getElem!_pos O _ h]; exact he _ (List.getElem_mem _)
    · rw [getElem!_neg O _ h]; rfl
  have hR : ∀ z, z ∈ rootsG (fs b O O.length 0) → z = 2 ∨ z = 0 := fun z h => by
    rw [hO] at h
    simpa [rootsG, fs, rtsG] using h
  constructor
  · intro h
    cases h with
    | root h1 h2 => exact (hR z h1).resolve_right h2
    | step _ h1 _ => rw [hfl] at h1; cases h1
  · rintro rfl
    exact .root (by rw [hO]; simp [rootsG, fs, rtsG]) (by decide)
attribute [local irreducible] star Ow Cw Pk Pu Dw DwF thenQ blockQ retQ loudQ loudF loudG Cr thr tab obs andI bset lU stAt cn gpW gph fs gs0 q0 nn20
set_option maxHeartbeats 4000000 in
theorem fit20_fn {A : HP} {kb ko kc : Nat} (hK : Kinds A kb ko kc) : Fn Tryd.prog 7 [] A Unit (fun _ => .bool true) (fun _ => A) := by
  have hok0 := gs0_ok q0_ok
  have hd0 := fun g => Do_w hK g (s := gs0 q0) hok0 (by unfold gs0; decide) q0_ok fs_sp
  (refine Fn.of Tryd.func7 rfl (by kernel_rfl) Tryd.ntmps7 rfl (fun F => ?_))
  (repeat' (first | (refine Ow.is ?_; (first | refine Ow.pu rfl (Pu.fieldv rfl rfl) ?_ | refine Ow.pu rfl (Pu.build (ps := [(0, .const (vi 0))]) (vs := [vi 0]) (cs := it0.cs) evA (fun w => by kernel_rfl)) ?_ | refine Ow.pu rfl (Pu.build (ps := [(0, .const (vi 1))]) (vs := [vi 1]) (cs := (It.mk 1 0 0 0 0 0).cs) evA (fun w => by kernel_rfl)) ?_ | refine Ow.pu rfl (Pu.build (ps := [(0, .const (vi 2))]) (vs := [vi 2]) (cs := (It.mk 2 0 0 0 0 0).cs) evA (fun w => by kernel_rfl)) ?_ | (refine Ow.kBuild ?_; refine Ow.pu rfl (Pu.build (ps := []) (vs := []) (cs := [.int .u8 0, .int .u8 0, .int .u8 0, .int .u8 0, .int .u8 0, .int .u8 0]) trivial (fun w => by kernel_rfl)) ?_) | refine Ow.nil ?_ | refine Ow.pu rfl (Pu.move rfl) ?_ | refine Ow.pu rfl (Pu.assign rfl) ?_ | (refine Ow.kGuard ?_; (first | refine Ow.guard_yes rfl rfl rfl ?_)) | (refine Ow.kBin ?_; (first | (refine Ow.b_eql ?_; (first | refine Ow.pu rfl (Pu.eqNil rfl rfl) ?_)) | (refine Ow.b_neq ?_; (first | refine Ow.pu rfl (Pu.ne_f rfl rfl roA) ?_)))) | (refine Ow.kPick ?_; (first | refine Ow.pu rfl (Pu.pick_t rfl rfl) ?_ | refine Ow.pu rfl (Pu.pick_f rfl rfl) ?_)) | (refine Ow.kCall ?_; (first | refine Ow.callE evA (pk2' pkA pkA) rfl (hd3 _) (fun p => Ow.assoc ?_) | refine Ow.callE evA (pk2' pkA pkA) rfl hd2 (fun p => Ow.assoc ?_) | refine Ow.callE evA (pk2' pkA pkA) rfl hd1 (fun p => Ow.assoc ?_) | refine Ow.callE evA (pk2' pkA pkA) rfl (hd0 _) (fun p => Ow.assoc ?_) | refine Ow.callE0 evA rfl (GNew_fn _ q0_ok) (fun g => ?_) | refine Ow.callE0 evA rfl Made0_fn (fun _ => Ow.unemp ?_) | fail)) | (refine Ow.kBuild ?_; (first | fail)))) | (refine Cw.is ?_; (first | refine Cw.seq ?_ | refine Cw.region ?_ | refine Cw.cond_t rfl rfl ?_ | refine Cw.cond_f rfl rfl ?_ | refine Cw.block ?_ | refine Cw.ret ?_ | refine Cw.exit ?_ | refine Cw.skip ?_)) | (first | refine thenQ_n ?_ | refine thenQ_e ?_ | refine blockQ_n ?_ | refine blockQ_e ?_)))
  obtain ⟨a1, b⟩ := p
  dsimp only
  have hok1 := ok_w hok0 q0_ok fs_sp (a1, b)
  dsimp only at hok1
  refine Cw.loopF [2, 15, 16, 17, 18, 19, 20, 21, 22, 23, 24, 25, 26, 27, 28, 29, 30] (by (repeat first | exact er_nil | apply er_drop rfl | apply er_keep rfl)) (fun O : List (Obj SV) => O.length ≤ 2 ∧ (∀ o ∈ O, o.2.1 = []) ∧ GsOk q0 (fs b O O.length 0)) (fun O => [(15, vi O.length), (2, vi (nn20 O.length))]) (fun O => gph g q0 (fs b O O.length 0) * (A * F)) (fun O => 2 - O.length) [] ⟨by simp, by simp, hok1⟩ (by unfold nn20; (repeat first | exact trivial | refine ⟨rfl, ?_⟩)) (by ((try simp only [star_assoc]); (repeat (apply Ent.pk; focus ((repeat first | exact pk0 | exact pkl | apply pkn); first | done | fail))); first | exact Ent.fin pkA | exact Ent.refl _)) (fun O hO => ?_)
  obtain ⟨hO2, hOe, hOk⟩ := hO
  by_cases hk : O.length < 2
  · have hd1 := Do_w hK g (s := fs b O O.length 0) hOk (by unfold fs; simp only; omega) q0_ok (fun p => fs_do p b O O.length)
    have hok2 := ok_w hOk q0_ok (fun p => fs_do p b O O.length) (default, 0)
    have hd2 := Do_w hK g (s := fs b O O.length 1) hok2 (by unfold fs; simp only; omega) q0_ok (fun p => fs_go p b O O.length)
    have hok3 := ok_w hok2 q0_ok (fun p => fs_go p b O O.length)
    have hd3 := fun p : SV × Nat => Do_w hK g (s := fs b (O ++ [(p.1, [], 0)]) (O.length + 1 : Nat) 2) (hok3 p) (by unfold fs; simp; omega) q0_ok (fun p' => fs_go2 p' b (O ++ [(p.1, [], 0)]) (O.length + 1 : Nat))
    have hnn : nn20 O.length = O.length := by unfold nn20; rcases (by omega : O.length = 0 ∨ O.length = 1) with h | h <;> rw [h] <;> rfl
    (repeat' (first | (refine Ow.is ?_; (first | refine Ow.pu rfl (Pu.fieldv rfl rfl) ?_ | refine Ow.pu rfl (Pu.build (ps := [(0, .const (vi 0))]) (vs := [vi 0]) (cs := it0.cs) evA (fun w => by kernel_rfl)) ?_ | refine Ow.pu rfl (Pu.build (ps := [(0, .const (vi 1))]) (vs := [vi 1]) (cs := (It.mk 1 0 0 0 0 0).cs) evA (fun w => by kernel_rfl)) ?_ | refine Ow.pu rfl (Pu.build (ps := [(0, .const (vi 2))]) (vs := [vi 2]) (cs := (It.mk 2 0 0 0 0 0).cs) evA (fun w => by kernel_rfl)) ?_ | (refine Ow.kBuild ?_; refine Ow.pu rfl (Pu.build (ps := []) (vs := []) (cs := [.int .u8 0, .int .u8 0, .int .u8 0, .int .u8 0, .int .u8 0, .int .u8 0]) trivial (fun w => by kernel_rfl)) ?_) | refine Ow.nil ?_ | refine Ow.pu rfl (Pu.move rfl) ?_ | refine Ow.pu rfl (Pu.assign rfl) ?_ | (refine Ow.kBin ?_; (first | (refine Ow.b_lss ?_; first | refine Ow.pu rfl (Pu.lt_t rfl rfl (by omega)) ?_ | refine Ow.pu rfl (Pu.lt_f rfl rfl (by omega)) ?_ | refine Ow.sp rfl (by exact Pu.lt rfl rfl) (fun hc => ?_) (fun hc => ?_)) | (refine Ow.b_add ?_; refine Ow.pu rfl (Pu.add_i rfl rfl (by omega)) ?_) | (refine Ow.b_mul ?_; refine Ow.pu rfl (Pu.mul_i rfl rfl (by omega)) ?_))) | (refine Ow.kCall ?_; (first | refine Ow.callE evA (pk2' pkA pkA) rfl (hd3 _) (fun p => Ow.assoc ?_) | refine Ow.callE evA (pk2' pkA pkA) rfl hd2 (fun p => Ow.assoc ?_) | refine Ow.callE evA (pk2' pkA pkA) rfl hd1 (fun p => Ow.assoc ?_) | refine Ow.callE evA (pk2' pkA pkA) rfl (hd0 _) (fun p => Ow.assoc ?_) | fail)) | (refine Ow.kBuild ?_; (first | fail)))) | (refine Cw.is ?_; (first | refine Cw.seq ?_ | refine Cw.region ?_ | refine Cw.cond_t rfl rfl ?_ | refine Cw.cond_f rfl rfl ?_ | refine Cw.block ?_ | refine Cw.ret ?_ | refine Cw.exit ?_ | refine Cw.skip ?_)) | (first | refine thenQ_n ?_ | refine thenQ_e ?_ | refine blockQ_n ?_ | refine blockQ_e ?_)))
    rename_i p1 p3 p2
    have hok4 := ok_w (hok3 p2) q0_ok (fun p' => fs_go2 p' b (O ++ [(p2.1, [], 0)]) (O.length + 1 : Nat)) (default, 0)
    have hlen : (O ++ [(p2.1, ([] : List Int), (0 : Int))]).length = O.length + 1 := by simp
    refine ⟨rfl, O ++ [(p2.1, [], 0)], ⟨by omega, fun o ho => ?_, by rw [hlen]; exact hok4⟩, by omega, ?_, by rw [hlen]; ((try simp only [star_assoc]); (repeat (apply Ent.pk; focus ((repeat first | exact pk0 | exact pkl | apply pkn); first | done | fail))); first | exact Ent.fin pkA | exact Ent.refl _)⟩
    · rcases List.mem_append.1 ho with h | h
      · exact hOe o h
      · have : o = (p2.1, [], 0) := by simpa using h
        rw [this]
    · refine ⟨congrArg (fun z : Int => some (vi z)) (by rw [hlen]; rfl), congrArg (fun z : Int => some (vi z)) (by rw [hlen, hnn]; unfold nn20; rcases (by omega : O.length = 0 ∨ O.length = 1) with h | h <;> rw [h] <;> rfl), ?_⟩
      (repeat first | exact trivial | refine ⟨rfl, ?_⟩)
  · have hk2 : O.length = 2 := by omega
    have hnn : nn20 O.length = 12 := by rw [hk2]; unfold nn20; rfl
    have hre := Reach_fn g q0 (fs b O O.length 0) hOk q0_ok (by unfold fs; simp only; omega)
    have hrc := rch_fs (b := b) hk2 hOe
    have hrb : rchB O (rootsG (fs b O O.length 0)) = fun z => decide (z = 2) := by
      funext z
      rw [Bool.eq_iff_iff, rchB_t, hrc, decide_eq_true_iff]; omega
    have hsup := rchB_sup (hOk.oko)
    have hO2' : (fs b O O.length 0).O = O := by unfold fs; rfl
    rw [hO2', hrb, hk2] at hre hsup
    have hcn := fun sb => Count_v sb 3 (fun z => decide (z = 2)) (by decide) hsup (k := 1) (by decide +kernel)
    have hbo : ((fs b O 2 0).O.length : Int) = 2 := by unfold fs; simp only; omega
    rw [hk2] at hnn
    rw [hk2]
    (repeat' (first | (refine Ow.is ?_; (first | refine Ow.pu rfl (Pu.fieldv rfl rfl) ?_ | refine Ow.pu rfl (Pu.build (ps := [(0, .const (vi 0))]) (vs := [vi 0]) (cs := it0.cs) evA (fun w => by kernel_rfl)) ?_ | refine Ow.pu rfl (Pu.build (ps := [(0, .const (vi 1))]) (vs := [vi 1]) (cs := (It.mk 1 0 0 0 0 0).cs) evA (fun w => by kernel_rfl)) ?_ | refine Ow.pu rfl (Pu.build (ps := [(0, .const (vi 2))]) (vs := [vi 2]) (cs := (It.mk 2 0 0 0 0 0).cs) evA (fun w => by kernel_rfl)) ?_ | refine Ow.nil ?_ | (refine Ow.kBin ?_; (first | (refine Ow.b_lss ?_; first | refine Ow.pu rfl (Pu.lt_t rfl rfl (by omega)) ?_ | refine Ow.pu rfl (Pu.lt_f rfl rfl (by omega)) ?_ | refine Ow.sp rfl (by exact Pu.lt rfl rfl) (fun hc => ?_) (fun hc => ?_)))))) | (refine Cw.is ?_; (first | refine Cw.seq ?_ | refine Cw.region ?_ | refine Cw.cond_t rfl rfl ?_ | refine Cw.cond_f rfl rfl ?_ | refine Cw.block ?_ | refine Cw.ret ?_ | refine Cw.exit ?_ | refine Cw.skip ?_)) | (first | refine thenQ_n ?_ | refine thenQ_e ?_ | refine blockQ_n ?_ | refine blockQ_e ?_)))
    (repeat' (first | (refine Ow.is ?_; (first | refine Ow.pu rfl (Pu.fieldv rfl rfl) ?_ | refine Ow.pu rfl (Pu.build (ps := [(0, .const (vi 0))]) (vs := [vi 0]) (cs := it0.cs) evA (fun w => by kernel_rfl)) ?_ | refine Ow.pu rfl (Pu.build (ps := [(0, .const (vi 1))]) (vs := [vi 1]) (cs := (It.mk 1 0 0 0 0 0).cs) evA (fun w => by kernel_rfl)) ?_ | refine Ow.pu rfl (Pu.build (ps := [(0, .const (vi 2))]) (vs := [vi 2]) (cs := (It.mk 2 0 0 0 0 0).cs) evA (fun w => by kernel_rfl)) ?_ | refine Ow.nil ?_ | refine Ow.pu rfl (Pu.move rfl) ?_ | refine Ow.pu rfl (Pu.assign rfl) ?_ | (refine Ow.kGuard ?_; (first | refine Ow.guard_yes rfl rfl rfl ?_)) | (refine Ow.kBin ?_; (first | (refine Ow.b_eql ?_; (first | refine Ow.pu rfl (Pu.eq_t rfl rfl roA) ?_)) | (refine Ow.b_neq ?_; (first | refine Ow.pu rfl (Pu.neNil rfl rfl) ?_)))) | (refine Ow.kPick ?_; (first | refine Ow.pu rfl (Pu.pick_t rfl rfl) ?_ | refine Ow.pu rfl (Pu.pick_f rfl rfl) ?_)) | (refine Ow.kCall ?_; (first | refine Ow.callE evA pkA rfl (hcn _) (fun _ => ?_) | refine Ow.callE evA pkA rfl hre (fun sb => Ow.assoc ?_) | refine Ow.callE evA pkA rfl (Born_fn _ _ _) (fun _ => ?_) | fail)))) | (refine Cw.is ?_; (first | refine Cw.seq ?_ | refine Cw.region ?_ | refine Cw.cond_t rfl rfl ?_ | refine Cw.cond_f rfl rfl ?_ | refine Cw.block ?_ | refine Cw.ret ?_ | refine Cw.exit ?_ | refine Cw.skip ?_)) | (first | refine thenQ_n ?_ | refine thenQ_e ?_ | refine blockQ_n ?_ | refine blockQ_e ?_)))
    refine retQ_v () Tryd.results7 rfl rfl ?_
    ((try simp only [star_assoc]); (repeat (apply Ent.pk; focus ((repeat first | exact pk0 | exact pkl | apply pkn); first | done | fail))); first | exact Ent.fin pkA | exact Ent.refl _)
end Go.Sl
namespace Go.Sl
open Go Go.Proofs
set_option linter.unusedVariables false
set_option linter.unusedSimpArgs false
def gf (c : Nat) (O : List (Obj SV)) (G r st : List Int) (w : Wk) : GS SV Nat := ⟨O, G, [some (c, ⟨r, st, w⟩), none, none, none]⟩
attribute [local irreducible] star Ow Cw Pk Pu Dw DwF thenQ blockQ retQ loudQ loudF loudG Cr thr tab obs andI bset lU stAt cn gpW gph gf actR
end Go.Sl
namespace Go.Sl
open Go Go.Proofs
set_option linter.unusedVariables false
set_option linter.unusedSimpArgs false
theorem made_ok (l0 l1 l2 l3 l4 l5 : Int) (h2 : 0 ≤ l2 ∧ l2 ≤ 255) : QOk (madeR l0 l1 l2 l3 l4 l5) := by
  have a1 : 0 ≤ andI .u8 l2 3 ∧ andI .u8 l2 3 ≤ 3 := and_u8 l2 3 (by decide)
  have a2 : 0 ≤ andI .u8 (l2 / 4) 3 ∧ andI .u8 (l2 / 4) 3 ≤ 3 := and_u8 (l2 / 4) 3 (by decide)
  have a3 : 0 ≤ andI .u8 (l2 / 16) 3 ∧ andI .u8 (l2 / 16) 3 ≤ 3 := and_u8 (l2 / 16) 3 (by decide)
  have a4 : 0 ≤ andI .u8 l3 3 ∧ andI .u8 l3 3 ≤ 3 := and_u8 l3 3 (by decide)
  unfold madeR
  exact ⟨by simp only; omega, by simp only; omega, by simp only; omega, by simp only; omega, by simp only; omega⟩
section
variable {q : Cfg} {G r st : List Int} (hr : (r.length : Int) = q.regs) (h2 : 2 ≤ q.regs)
include h2
end
def obM (x : SV) (n m : Nat) : Obj SV := (x, List.replicate m 1 ++ List.replicate (n - m) 0, 0)
structure GyS where
  m : Nat
  r : List Int
  i : It
attribute [local irreducible] star Ow Cw Pk Pu Dw DwF thenQ blockQ retQ loudQ loudF loudG Cr thr tab obs andI bset lU stAt cn gpW gph gf gs0 actR madeR obM
end Go.Sl
namespace Go.Sl
open Go Go.Proofs Go.ChangeShapes Go.WideShapes Go.ChangeAt Go.RowKit
set_option linter.unusedVariables false
theorem own : ownKnob Tryd.prog.godebug = none := by kernel_rfl
theorem laidOut : laidOutB Tryd.prog = true := by kernel_rfl
set_option maxRecDepth 20000 in
theorem l6_trod {H : Type} {enc : TypeId × Value → H} {W : World} {held : Bool} (n : Nat) (cs : List Value) (y : DataW H × List MemPlace) (h : DataW.trod enc Tryd.prog W 0 (fun _ => true) held n 22 cs = some y) : ∃ (a0 : Int) (a1 : Int) (a2 : Int) (a3 : Int) (a4 : Int) (a5 : Int), cs = [.int .u8 a0, .int .u8 a1, .int .u8 a2, .int .u8 a3, .int .u8 a4, .int .u8 a5] ∧ y.1 = .agg [.lit (.int .u8 a0), .lit (.int .u8 a1), .lit (.int .u8 a2), .lit (.int .u8 a3), .lit (.int .u8 a4), .lit (.int .u8 a5)] ∧ (Lit.int .u8 a0).wf = true ∧ (Lit.int .u8 a1).wf = true ∧ (Lit.int .u8 a2).wf = true ∧ (Lit.int .u8 a3).wf = true ∧ (Lit.int .u8 a4).wf = true ∧ (Lit.int .u8 a5).wf = true := by
  obtain ⟨xs, m, _, hy, hl, hlen, hf⟩ := DataW.trod_array Tryd.underlying22 h
  have hc : Tryd.prog.cellsOf 22 = 6 := by kernel_rfl
  have hx : xs.length = 6 := hlen
  have e5 : Tryd.prog.cellsOf 5 = 1 := by kernel_rfl
  rw [hc] at hl
  match cs, hl, xs, hx with
  | [u0, u1, u2, u3, u4, u5], _, [x0, x1, x2, x3, x4, x5], _ =>
    have h0 : DataW.trod enc Tryd.prog W 0 (fun _ => true) held m 5 (List.take (Tryd.prog.cellsOf 5) (List.drop (0 * Tryd.prog.cellsOf 5) [u0, u1, u2, u3, u4, u5])) = some x0 := hf 0 (by omega)
    have h1 : DataW.trod enc Tryd.prog W 0 (fun _ => true) held m 5 (List.take (Tryd.prog.cellsOf 5) (List.drop (1 * Tryd.prog.cellsOf 5) [u0, u1, u2, u3, u4, u5])) = some x1 := hf 1 (by omega)
    have h2 : DataW.trod enc Tryd.prog W 0 (fun _ => true) held m 5 (List.take (Tryd.prog.cellsOf 5) (List.drop (2 * Tryd.prog.cellsOf 5) [u0, u1, u2, u3, u4, u5])) = some x2 := hf 2 (by omega)
    have h3 : DataW.trod enc Tryd.prog W 0 (fun _ => true) held m 5 (List.take (Tryd.prog.cellsOf 5) (List.drop (3 * Tryd.prog.cellsOf 5) [u0, u1, u2, u3, u4, u5])) = some x3 := hf 3 (by omega)
    have h4 : DataW.trod enc Tryd.prog W 0 (fun _ => true) held m 5 (List.take (Tryd.prog.cellsOf 5) (List.drop (4 * Tryd.prog.cellsOf 5) [u0, u1, u2, u3, u4, u5])) = some x4 := hf 4 (by omega)
    have h5 : DataW.trod enc Tryd.prog W 0 (fun _ => true) held m 5 (List.take (Tryd.prog.cellsOf 5) (List.drop (5 * Tryd.prog.cellsOf 5) [u0, u1, u2, u3, u4, u5])) = some x5 := hf 5 (by omega)
    rw [e5] at h0
    rw [e5] at h1
    rw [e5] at h2
    rw [e5] at h3
    rw [e5] at h4
    rw [e5] at h5
    obtain ⟨a0, c0, d0, w0⟩ := DataW.trod_int Tryd.underlying5 h0
    obtain ⟨a1, c1, d1, w1⟩ := DataW.trod_int Tryd.underlying5 h1
    obtain ⟨a2, c2, d2, w2⟩ := DataW.trod_int Tryd.underlying5 h2
    obtain ⟨a3, c3, d3, w3⟩ := DataW.trod_int Tryd.underlying5 h3
    obtain ⟨a4, c4, d4, w4⟩ := DataW.trod_int Tryd.underlying5 h4
    obtain ⟨a5, c5, d5, w5⟩ := DataW.trod_int Tryd.underlying5 h5
    simp at c0 c1 c2 c3 c4 c5
    refine ⟨a0, a1, a2, a3, a4, a5, by rw [c0, c1, c2, c3, c4, c5], ?_, w0, w1, w2, w3, w4, w5⟩
    rw [hy, d0, d1, d2, d3, d4, d5]; rfl
set_option maxRecDepth 20000 in
theorem kind_trod {H : Type} {enc : TypeId × Value → H} {W : World} {held : Bool} (n : Nat) (cs : List Value) (y : DataW H × List MemPlace) (h : DataW.trod enc Tryd.prog W 0 (fun _ => true) held n 157 cs = some y) : ∃ (a0 : ByteArray) (a1 : Bool) (a2 : Bool) (a3 : Bool), cs = [.string a0, .bool a1, .bool a2, .bool a3] ∧ y.1 = .agg [.lit (.string a0.data.toList), .lit (.bool a1), .lit (.bool a2), .lit (.bool a3)] ∧ a0.size ≤ maxLen ∧ True ∧ True ∧ True := by
  obtain ⟨xs, m, _, hy, hl, hlen, hf⟩ := DataW.trod_struct Tryd.underlying157 h
  have hc : Tryd.prog.cellsOf 157 = 4 := by kernel_rfl
  have hx : xs.length = 4 := hlen
  have e4 : Tryd.prog.cellsOf 4 = 1 := by kernel_rfl
  have e9 : Tryd.prog.cellsOf 9 = 1 := by kernel_rfl
  rw [hc] at hl
  match cs, hl, xs, hx with
  | [u0, u1, u2, u3], _, [x0, x1, x2, x3], _ =>
    have h0 : DataW.trod enc Tryd.prog W 0 (fun _ => true) held m 9 (List.take (Tryd.prog.cellsOf 9) (List.drop (0) [u0, u1, u2, u3])) = some x0 := hf 0 _ rfl
    have h1 : DataW.trod enc Tryd.prog W 0 (fun _ => true) held m 4 (List.take (Tryd.prog.cellsOf 4) (List.drop (1) [u0, u1, u2, u3])) = some x1 := hf 1 _ rfl
    have h2 : DataW.trod enc Tryd.prog W 0 (fun _ => true) held m 4 (List.take (Tryd.prog.cellsOf 4) (List.drop (2) [u0, u1, u2, u3])) = some x2 := hf 2 _ rfl
    have h3 : DataW.trod enc Tryd.prog W 0 (fun _ => true) held m 4 (List.take (Tryd.prog.cellsOf 4) (List.drop (3) [u0, u1, u2, u3])) = some x3 := hf 3 _ rfl
    rw [e9] at h0
    rw [e4] at h1
    rw [e4] at h2
    rw [e4] at h3
    obtain ⟨a0, c0, d0, w0⟩ := DataW.trod_string Tryd.underlying9 h0
    obtain ⟨a1, c1, d1⟩ := DataW.trod_bool Tryd.underlying4 h1
    obtain ⟨a2, c2, d2⟩ := DataW.trod_bool Tryd.underlying4 h2
    obtain ⟨a3, c3, d3⟩ := DataW.trod_bool Tryd.underlying4 h3
    simp at c0 c1 c2 c3
    refine ⟨a0, a1, a2, a3, by rw [c0, c1, c2, c3], ?_, w0, trivial, trivial, trivial⟩
    rw [hy, d0, d1, d2, d3]; rfl
set_option maxRecDepth 20000 in
theorem kinds_of {W : World} (h : laidMetH Tryd.prog Go.Proofs.YteomgcebbjoklaaDoor.Rows.graphFreshRow.laid W) : ∃ b o c, Kinds (all W) b o c := by
  obtain ⟨cs, fuel, p, hd, hc⟩ := laid_head (g := 0) (t := 123) rfl (by kernel_rfl) (by kernel_rfl) h
  rcases DataW.trod_slice Tryd.underlying123 hd with ⟨_, hx⟩ | ⟨a, len, cap, elems, rest, n, _, hcs, hx, _, _, _, hlen, hel, _, _⟩
  · simp [Go.Proofs.YteomgcebbjoklaaDoor.Rows.laid_hawthorn_op_kinds] at hx
  · have hx1 := congrArg Prod.fst hx
    simp only [Go.Proofs.YteomgcebbjoklaaDoor.Rows.laid_hawthorn_op_kinds, DataW.slice.injEq] at hx1
    obtain ⟨hx1, hx2⟩ := hx1
    have h13 : elems.length = 13 := by have := congrArg List.length hx1; simpa using this.symm
    rw [hlen] at h13
    subst h13
    have e60 : Tryd.prog.cellsOf 157 = 4 := by kernel_rfl
    rw [e60] at hel
    have hcell : ∀ i, i < 13 → ∃ s x y z, W.cells? 0 (a.add (i * 4)) 4 = some [.string s, .bool x, .bool y, .bool z] ∧ (elems.map (·.1))[i]? = some (.agg [.lit (.string s.data.toList), .lit (.bool x), .lit (.bool y), .lit (.bool z)]) := fun i hi => by
      have h1 := hel i hi
      rw [List.getElem?_eq_getElem (by omega)] at h1
      obtain ⟨cs, h2, h3⟩ := Option.bind_eq_some_iff.1 h1
      obtain ⟨s, x, y, z, h4, h5, _⟩ := kind_trod _ _ _ h3
      exact ⟨s, x, y, z, by rw [h2, h4], by rw [List.getElem?_map, List.getElem?_eq_getElem (by omega)]; simp [h5]⟩
    have hspot : ∃ b o, a = ⟨b, o, none⟩ := by
      obtain ⟨s, x, y, z, h4, _⟩ := hcell 0 (by omega)
      have := (World.cells?_some h4).2.2 0 (by omega)
      simp at this
      obtain ⟨b, o, sp⟩ := a
      unfold World.cell? at this
      simp only [Addr.add, if_pos] at this
      cases sp with
      | none => exact ⟨b, o, rfl⟩
      | some q =>
        exfalso
        revert this
        cases W.heap[b]? with
        | none => simp
        | some ob => cases ob <;> simp
    obtain ⟨b, o, rfl⟩ := hspot
    refine ⟨b, o, cap, ?_, ?_⟩
    · refine rd_all ?_
      rw [hc 0]
      have : cs = #[.slice (some ⟨b, o, none⟩) 13 cap] := by rw [← Array.toList_inj]; exact hcs
      rw [this]; rfl
    · have key : ∀ i, i < 13 → W.cells? 0 ((⟨b, o, none⟩ : Addr).add (i * 4)) 4 = some ((kindCells.drop (i * 4)).take 4) := fun i hi => by
        obtain ⟨s, x, y, z, h4, h5⟩ := hcell i hi
        rw [← hx1] at h5
        rw [h4]
        obtain ⟨⟨l⟩⟩ := s
        rcases (by omega : i = 0 ∨ i = 1 ∨ i = 2 ∨ i = 3 ∨ i = 4 ∨ i = 5 ∨ i = 6 ∨ i = 7 ∨ i = 8 ∨ i = 9 ∨ i = 10 ∨ i = 11 ∨ i = 12) with rfl | rfl | rfl | rfl | rfl | rfl | rfl | rfl | rfl | rfl | rfl | rfl | rfl
        all_goals (simp at h5; obtain ⟨h6, h7, h8, h9⟩ := h5; subst h6 h7 h8 h9; rfl)
      intro j u hj
      have hlt : j < 52 := (List.getElem?_eq_some_iff.1 hj).1
      refine rd_all ?_
      have h1 := (World.cells?_some (key (j / 4) (by omega))).2.2 (j % 4) (by omega)
      rw [addr_add, addr_add] at h1
      rw [show o + j = o + j / 4 * 4 + j % 4 by omega]
      refine h1.trans ?_
      rw [List.getElem?_take, if_pos (by omega), List.getElem?_drop, show j / 4 * 4 + j % 4 = j by omega]
      exact hj
end Go.Sl
namespace Go.Proofs.YteomgcebbjoklaaDoor
open Go.ChangeShapes Go.WideShapes Go.ChangeAt Go.RowKit Go.Sl
set_option linter.unusedVariables false
def laidHeap (h : Array Obj) : Array Obj := (h.modify 0 (fun | .cells _ t frozen => .cells #[.slice (some ⟨h.size, 0, none⟩) 13 13] t frozen | o => o)).push (Obj.cells kindCells.toArray 157 (0, 0))
noncomputable def laidWorld (os : Os) : World := { World.holding Tryd.prog os ⟨#[], #[], []⟩ with heap := laidHeap (World.holding Tryd.prog os ⟨#[], #[], []⟩).heap }
theorem laid_met (os : Os) (av : Array Value) : laidMet Tryd.prog Rows.graphFreshRow.laid ((laidWorld os).forCall (fun _ _ => 0) ⟨#[], av, []⟩).memory :=
  laidMet_of_run' 8 (by kernel_rfl) (by kernel_rfl)
end Go.Proofs.YteomgcebbjoklaaDoor
namespace Go.Sl
open Go Go.Proofs
set_option linter.unusedVariables false
set_option linter.unusedSectionVars false
section
variable {α β : Type} [Inhabited α] [Inhabited β]
def absO (O : List (Obj α)) : List (Obj Unit) := O.map fun o => ((), o.2)
def absT : Option (β × ThS) → Option (Unit × ThS)
  | none => none
  | some p => some ((), p.2)
def absG (s : GS α β) : GS Unit Unit := ⟨absO s.O, s.G, s.T.map absT⟩
theorem absO_len (O : List (Obj α)) : (absO O).length = O.length := by simp [absO]
theorem absO_at (O : List (Obj α)) (j : Nat) : ((absO O)[j]!).2 = (O[j]!).2 := by
  by_cases h : j < O.length
  · rw [getElem!_pos (absO O) j (by rw [absO_len]; exact h), getElem!_pos O j h]; simp [absO]
  · rw [getElem!_neg (absO O) j (by rw [absO_len]; exact h), getElem!_neg O j h]; rfl
theorem fldE_abs (O : List (Obj α)) (o i : Int) : fldE (absO O) o i = fldE O o i := by unfold fldE; rw [absO_at]
theorem fldV_abs (O : List (Obj α)) (o i : Int) : fldV (absO O) o i = fldV O o i := by unfold fldV; rw [absO_at]
theorem setF_abs (O : List (Obj α)) (o i v : Int) : setF (absO O) o i v = absO (setF O o i v) := by
  unfold setF absO
  rw [List.map_set]
  simp only
  rw [show (List.map (fun o : Obj α => (((), o.2) : Obj Unit)) O)[(o - 1).toNat]!.2 = O[(o - 1).toNat]!.2 from absO_at O _]
theorem setS_abs (O : List (Obj α)) (o v : Int) : setS (absO O) o v = absO (setS O o v) := by
  unfold setS absO
  rw [List.map_set]
  simp only
  rw [show (List.map (fun o : Obj α => (((), o.2) : Obj Unit)) O)[(o - 1).toNat]!.2 = O[(o - 1).toNat]!.2 from absO_at O _]
def absE (f : Ef α) : Ef Unit := ⟨absO f.O, f.G, f.r, f.s, f.e, f.v⟩
theorem actR_abs (b : α) (q : Cfg) (O : List (Obj α)) (G r s : List Int) (x : It) (full : Bool) : actR () q (absO O) G r s x full = absE (actR b q O G r s x full) := by
  unfold actR
  split
  · rfl
  split
  · unfold getR
    rw [fldE_abs, fldV_abs, absO_len]
    split
    · split
      · rfl
      · simp [absE, absO]
    split
    · split <;> rfl
    split
    · split <;> rfl
    · rfl
  · unfold plainR
    simp only
    rw [fldE_abs, setF_abs, setS_abs, absO_at]
    split
    · split <;> rfl
    split
    · split <;> rfl
    split
    · split <;> rfl
    split
    · rfl
    split
    · rfl
    split
    · rfl
    split
    · rfl
    split
    · split <;> rfl
    · rfl
theorem absT_at (T : List (Option (β × ThS))) (j : Nat) : (T.map absT)[j]! = absT T[j]! := by
  by_cases h : j < T.length
  · rw [getElem!_pos (T.map absT) j (by simpa using h), getElem!_pos T j h, List.getElem_map]
  · rw [getElem!_neg (T.map absT) j (by simpa using h), getElem!_neg T j h]; rfl
theorem thOf_abs (s : GS α β) (t : Int) : thOf (absG s) t = absT (thOf s t) := by
  unfold thOf absG
  simp only
  split
  · exact absT_at _ _
  · rfl
theorem doG_abs (a : α) (b : β) (q : Cfg) (s : GS α β) (x : It) (full : Bool) : doG () () q (absG s) x full = (absG (doG a b q s x full).1, (doG a b q s x full).2) := by
  unfold doG
  rw [thOf_abs]
  split
  · rw [show (absT (thOf s x.t)).isNone = (thOf s x.t).isNone by cases thOf s x.t <;> rfl]
    split
    · simp [absG, List.map_set, absT]
    · rfl
  split
  · cases hth : thOf s x.t with
    | none => rfl
    | some p =>
      obtain ⟨c, th⟩ := p
      simp only [absT]
      split
      · rfl
      split
      · simp [absG, List.map_set, absT]
      split
      · split
        · simp [absG, List.map_set, absT]
        · rfl
      split
      · have h := actR_abs a q s.O s.G th.r th.s th.w.it full
        simp only [absG]
        rw [h]
        simp [absE, List.map_set, absT]
      · simp [absG, List.map_set, absT]
  · rfl
end
end Go.Sl
namespace Go.Sl
open Go Go.Proofs
set_option linter.unusedVariables false
set_option linter.unusedSectionVars false
section
variable {α β : Type} [Inhabited α] [Inhabited β]
theorem grow_gen {O O' : List (Obj α)} {R R' : List Int} (hR : ∀ z ∈ R', z ≠ 0 → Rch O R z ∨ z = (O.length : Int) + 1) (hO : ∀ z, (Rch O R z ∨ z = (O.length : Int) + 1) → ∀ y ∈ flds O' z, y ≠ 0 → Rch O R y) {z : Int} (h : Rch O' R' z) : Rch O R z ∨ z = (O.length : Int) + 1 := by
  induction h with
  | root h1 h2 => exact hR _ h1 h2
  | step _ h1 h2 ih => exact .inl (hO _ ih _ h1 h2)
theorem regR_mem {r : List Int} {i : Int} (h : regR r i ≠ 0) : regR r i ∈ r := by
  unfold regR at h ⊢
  split
  · rename_i hi
    rw [getElem!_pos r i.toNat (by omega)]; exact List.getElem_mem _
  · rename_i hi; rw [if_neg hi] at h; exact (h rfl).elim
theorem flds_out {O : List (Obj α)} : flds O ((O.length : Int) + 1) = [] := by
  unfold flds
  rw [show ((O.length : Int) + 1 - 1).toNat = O.length by omega, getElem!_neg O _ (by omega)]; rfl
structure Gw (O : List (Obj α)) (R : List Int) (f : Ef α) : Prop where
  g : ∀ z ∈ f.G, z ≠ 0 → Rch O R z ∨ z = (O.length : Int) + 1
  r : ∀ z ∈ f.r, z ≠ 0 → Rch O R z ∨ z = (O.length : Int) + 1
  s : ∀ z ∈ f.s, z ≠ 0 → Rch O R z ∨ z = (O.length : Int) + 1
  o : ∀ z, (Rch O R z ∨ z = (O.length : Int) + 1) → ∀ y ∈ flds f.O z, y ≠ 0 → Rch O R y
theorem act_grow (b : α) {q : Cfg} {O : List (Obj α)} {R G r s : List Int} (x : It) (full : Bool) (hk : OkO O R) (hg : ∀ z ∈ G, z ∈ R) (hr : ∀ z ∈ r, z ∈ R) (hs : ∀ z ∈ s, z ∈ R) (hgl : (G.length : Int) = q.globals) :
    Gw O R (actR b q O G r s x full) := by
  have pG : ∀ z ∈ G, z ≠ 0 → Rch O R z ∨ z = (O.length : Int) + 1 := fun z h h0 => .inl (.root (hg z h) h0)
  have pr : ∀ z ∈ r, z ≠ 0 → Rch O R z ∨ z = (O.length : Int) + 1 := fun z h h0 => .inl (.root (hr z h) h0)
  have ps : ∀ z ∈ s, z ≠ 0 → Rch O R z ∨ z = (O.length : Int) + 1 := fun z h h0 => .inl (.root (hs z h) h0)
  have pO : ∀ z, (Rch O R z ∨ z = (O.length : Int) + 1) → ∀ y ∈ flds O z, y ≠ 0 → Rch O R y := fun z h y hy h0 => by
    rcases h with h | h
    · exact .step h hy h0
    · rw [h, flds_out] at hy; cases hy
  have base : ∀ e v, Gw O R (⟨O, G, r, s, e, v⟩ : Ef α) := fun e v => ⟨pG, pr, ps, pO⟩
  have preg : ∀ i, regR r i ≠ 0 → Rch O R (regR r i) := fun i h => .root (hr _ (regR_mem h)) h
  have breg : ∀ i z e v, (z ≠ 0 → Rch O R z) → Gw O R (⟨O, G, r.set i z, s, e, v⟩ : Ef α) := fun i z e v hz => ⟨pG, fun y hy h0 => (List.mem_or_eq_of_mem_set hy).elim (fun h => pr y h h0) (fun h => .inl (h ▸ hz (h ▸ h0))), ps, pO⟩
  unfold actR
  split
  · exact base _ _
  rename_i hck
  have hck : checkR q x.c x.x x.y x.z = 0 := by simpa using hck
  obtain ⟨hn, hxx, hgy, hfy, hry, hrz⟩ := check0 hck
  split
  · rename_i htc
    unfold getR
    split
    · split
      · exact breg _ _ _ _ (fun h => (h rfl).elim)
      · refine ⟨pG, fun y hy h0 => (List.mem_or_eq_of_mem_set hy).elim (fun h => pr y h h0) (fun h => .inr (by rw [h]; omega)), ps, fun z hz y hy h0 => ?_⟩
        rcases hz with hz | hz
        · have hzb := hz.ok hk
          have : flds (O ++ [(b, List.replicate x.y.toNat 0, 0)]) z = flds O z := by
            unfold flds
            rw [getElem!_pos (O ++ [(b, List.replicate x.y.toNat (0 : Int), (0 : Int))]) _ (by simp; omega), getElem!_pos O _ (by omega), List.getElem_append_left (by omega)]
          rw [this] at hy
          exact .step hz hy h0
        · have : flds (O ++ [(b, List.replicate x.y.toNat 0, 0)]) z = List.replicate x.y.toNat 0 := by
            unfold flds
            rw [hz, show ((O.length : Int) + 1 - 1).toNat = O.length by omega, getElem!_pos (O ++ [(b, List.replicate x.y.toNat (0 : Int), (0 : Int))]) _ (by simp)]
            simp
          rw [this] at hy
          exact (h0 (List.mem_replicate.1 hy).2).elim
    split
    · split
      · rename_i he
        refine breg _ _ _ _ (fun h0 => ?_)
        have ha : regR r x.y ≠ 0 := fun h => by unfold fldE at he; rw [if_pos h] at he; cases he
        refine .step (preg _ ha) ?_ h0
        unfold fldE at he
        rw [if_neg ha] at he
        split at he
        · rename_i hi
          unfold fldV flds
          rw [getElem!_pos (O[(regR r x.y - 1).toNat]!).2.1 x.z.toNat (by omega)]; exact List.getElem_mem _
        · cases he
      · exact base _ _
    split
    · split
      · exact base _ _
      · rename_i hne
        have hlen : s.length - 1 < s.length := by have := List.length_pos_iff.2 hne; omega
        have hl : s[s.length - 1]! ∈ s := by rw [getElem!_pos s _ hlen]; exact List.getElem_mem _
        refine ⟨pG, fun y hy h0 => (List.mem_or_eq_of_mem_set hy).elim (fun h => pr y h h0) (fun h => ps y (h ▸ hl) h0), fun y hy => ps y (List.mem_of_mem_take hy), pO⟩
    · rename_i h2 h3 h4
      have hc11 : x.c = 11 := by unfold tellsC at htc; omega
      have hy := hgy (.inl hc11)
      have hl : G[x.y.toNat]! ∈ G := by rw [getElem!_pos G _ (by omega)]; exact List.getElem_mem _
      exact breg _ _ _ _ (fun h0 => .root (hg _ hl) h0)
  · unfold plainR
    simp only
    split
    · split
      · rename_i he
        refine ⟨pG, pr, ps, fun z hz y hy h0 => ?_⟩
        simp only at hy
        unfold flds setF at hy
        by_cases hj : (z - 1).toNat < O.length
        · rw [set_get _ _ _ _ hj] at hy
          split at hy
          · rename_i e
            rcases List.mem_or_eq_of_mem_set hy with h | h
            · exact pO z hz y (by unfold flds; rw [← e]; exact h) h0
            · rw [h] at h0 ⊢; exact preg _ h0
          · exact pO z hz y hy h0
        · rw [getElem!_neg _ _ (by simpa using hj)] at hy; cases hy
      · exact base _ _
    split
    · split
      · exact base _ _
      · exact base _ _
    split
    · split
      · exact base _ _
      · refine ⟨pG, pr, ps, fun z hz y hy h0 => ?_⟩
        simp only at hy
        unfold flds setS at hy
        by_cases hj : (z - 1).toNat < O.length
        · rw [set_get _ _ _ _ hj] at hy
          split at hy
          · rename_i e
            exact pO z hz y (by unfold flds; rw [← e]; exact hy) h0
          · exact pO z hz y hy h0
        · rw [getElem!_neg _ _ (by simpa using hj)] at hy; cases hy
    split
    · exact breg _ _ _ _ (preg _)
    split
    · exact breg _ _ _ _ (fun h => (h rfl).elim)
    split
    · exact base _ _
    split
    · exact base _ _
    split
    · split
      · exact base _ _
      · refine ⟨pG, pr, fun z hz h0 => ?_, pO⟩
        rcases List.mem_append.1 hz with h | h
        · exact ps z h h0
        · have : z = regR r x.x := by simpa using h
          rw [this] at h0 ⊢; exact .inl (preg _ h0)
    · refine ⟨fun y hy h0 => (List.mem_or_eq_of_mem_set hy).elim (fun h => pG y h h0) (fun h => .inl (by rw [h] at h0 ⊢; exact preg _ h0)), pr, ps, pO⟩
theorem root_at {s : GS α β} {j : Nat} {p : β × ThS} (h4 : s.T.length = 4) (hj : j < 4) (h : s.T[j]! = some p) : (∀ z ∈ p.2.r, z ∈ rootsG s) ∧ ∀ z ∈ p.2.s, z ∈ rootsG s := by
  have hm : some p ∈ s.T := by rw [← h, getElem!_pos s.T j (by omega)]; exact List.getElem_mem _
  constructor <;> intro z hz
  · exact List.mem_append_right _ (List.mem_flatMap.2 ⟨_, hm, List.mem_append_left _ hz⟩)
  · exact List.mem_append_right _ (List.mem_flatMap.2 ⟨_, hm, List.mem_append_right _ hz⟩)
theorem do_grow (a : α) (b : β) {q : Cfg} {s : GS α β} (x : It) (full : Bool) (hok : GsOk q s) (hq8 : QOk q) {z : Int} (h : Rch (doG a b q s x full).1.O (rootsG (doG a b q s x full).1) z) (hz : z ≤ s.O.length) : Rch s.O (rootsG s) z := by
  have hT := hok.tl
  have hk := hok.oko
  have same : ∀ {s' : GS α β}, s'.O = s.O → (∀ y ∈ rootsG s', y ≠ 0 → y ∈ rootsG s) → Rch s'.O (rootsG s') z → Rch s.O (rootsG s) z := fun {s'} hO hR h' => by
    rw [hO] at h'
    exact (grow_gen (fun y hy h0 => .inl (.root (hR y hy h0) h0)) (fun y hy w hw h0 => by
      rcases hy with hy | hy
      · exact .step hy hw h0
      · rw [hy, flds_out] at hw; cases hw) h').resolve_right (by omega)
  have hset : ∀ (i : Nat) (o : Option (β × ThS)), (∀ y ∈ rtsG o, y ≠ 0 → y ∈ rootsG s) → ∀ y ∈ rootsG { s with T := s.T.set i o }, y ≠ 0 → y ∈ rootsG s := fun i o ho y hy h0 => by
    rcases List.mem_append.1 hy with h1 | h1
    · exact List.mem_append_left _ h1
    · obtain ⟨p, hp, hyp⟩ := List.mem_flatMap.1 h1
      rcases List.mem_or_eq_of_mem_set hp with h2 | h2
      · exact List.mem_append_right _ (List.mem_flatMap.2 ⟨p, h2, hyp⟩)
      · rw [h2] at hyp; exact ho y hyp h0
  revert h
  unfold doG
  split
  · split
    · refine same rfl (hset _ _ (fun y hy h0 => ?_))
      have : y ∈ List.replicate q.regs.toNat (0 : Int) := by simpa [rtsG] using hy
      exact (h0 (List.mem_replicate.1 this).2).elim
    · exact id
  split
  · split
    · exact id
    · rename_i c th hth
      obtain ⟨hx4, hst⟩ := thOf_s hth
      obtain ⟨hrr, hrs⟩ := root_at hT (by omega) hst
      have hold : ∀ w : Wk, ∀ y ∈ rtsG (some (c, (⟨th.r, th.s, w⟩ : ThS))), y ≠ 0 → y ∈ rootsG s := fun w y hy _ => by
        rcases List.mem_append.1 hy with h1 | h1
        · exact hrr y h1
        · exact hrs y h1
      split
      · exact id
      split
      · exact same rfl (hset _ _ (fun y hy => by cases hy))
      split
      · split
        · exact same rfl (hset _ _ (hold _))
        · exact id
      split
      · have hgw := act_grow a (q := q) (O := s.O) (R := rootsG s) (G := s.G) (r := th.r) (s := th.s) th.w.it full hk (fun z hz => List.mem_append_left _ hz) hrr hrs hok.gl
        simp only
        intro h
        refine (grow_gen (fun y hy h0 => ?_) hgw.o h).resolve_right (by omega)
        rcases List.mem_append.1 hy with h1 | h1
        · exact hgw.g y h1 h0
        · obtain ⟨p, hp, hyp⟩ := List.mem_flatMap.1 h1
          rcases List.mem_or_eq_of_mem_set hp with h2 | h2
          · exact .inl (.root (List.mem_append_right _ (List.mem_flatMap.2 ⟨p, h2, hyp⟩)) h0)
          · rw [h2] at hyp
            rcases List.mem_append.1 hyp with h3 | h3
            · exact hgw.r y h3 h0
            · exact hgw.s y h3 h0
      · exact same rfl (hset _ _ (hold _))
  · exact id
end
end Go.Sl
namespace Go.Sl
open Go
set_option linter.unusedVariables false
universe u
section
variable {P : Program} {r : Option Nat} {n : Nat} {Q : PostT} {ρ : Env} {ds : List Deferred} {H : HP}
theorem Cw.loopD {σ : Type u} {c : Code} {ρ0 : Env} (ks : List Nat) (hN : er ks ρ = ρ0) (I : σ → Prop) (ρI : σ → Env) (dI : σ → List Deferred) (HI : σ → HP) (μ : σ → Nat) (s₀ : σ) (hI : I s₀) (h0 : Sub ρ (ρI s₀)) (hd0 : ds = dI s₀) (hH : Ent H (HI s₀))
    (round : ∀ s, I s → Cw P r n c (thenQ (fun ρ' ds' H' => ∃ s', ds' = dI s' ∧ I s' ∧ μ s' < μ s ∧ Sub ρ' (ρI s' ++ ρ0) ∧ Ent H' (HI s')) Q) (ρI s ++ ρ0) (dI s) (HI s)) :
    Cw P r n (.loop c) Q ρ ds H := by
  subst hN
  intro g w a hr hd hs
  refine wpIn_loop (fun a w => ∃ s, I s ∧ Rep n (ρI s ++ er ks ρ) a ∧ a.defers = dI s ∧ St g w (HI s)) (fun a w => least fun k => ∃ s, μ s = k ∧ I s ∧ Rep n (ρI s ++ er ks ρ) a ∧ a.defers = dI s ∧ St g w (HI s))
    ⟨s₀, hI, hr.sub (h0.append (er_sub ρ ks ρ (fun _ _ => rfl))), hd.trans hd0, hs.mono hH⟩ ?_
  rintro a w ⟨s₁, h1⟩
  obtain ⟨⟨s, hk, hIs, h2, h3, h4⟩, _⟩ := least_spec (p := fun k => ∃ s, μ s = k ∧ I s ∧ Rep n (ρI s ++ er ks ρ) a ∧ a.defers = dI s ∧ St g w (HI s)) ⟨_, s₁, rfl, h1⟩
  refine wpIn_mono (round s hIs g w a h2 h3 h4) ?_
  rintro e a' w' ⟨ρ', H', g1, g2, g3⟩
  cases e with
  | normal =>
    obtain ⟨s', hds, hIs', hlt, hsub, hent⟩ := g3
    have h5 : I s' ∧ Rep n (ρI s' ++ er ks ρ) a' ∧ a'.defers = dI s' ∧ St g w' (HI s') := ⟨hIs', g1.sub hsub, hds, g2.mono hent⟩
    refine ⟨⟨s', h5⟩, Nat.lt_of_le_of_lt ((least_spec (p := fun k => ∃ s, μ s = k ∧ I s ∧ Rep n (ρI s ++ er ks ρ) a' ∧ a'.defers = dI s ∧ St g w' (HI s)) ⟨_, s', rfl, h5⟩).2 _ ⟨s', rfl, h5⟩) ?_⟩
    rw [← hk]; exact hlt
  | exit id => exact ⟨ρ', H', g1, g2, g3⟩
  | goto l => exact ⟨ρ', H', g1, g2, g3⟩
  | ret => exact ⟨ρ', H', g1, g2, g3⟩
  | panic c => exact ⟨ρ', H', g1, g2, g3⟩
  | outgrown => exact ⟨ρ', H', g1, g2, g3⟩
end
def dfs : List Nat → HP
  | [] => emp
  | D :: Ds => pt D (.deferred (some [])) * dfs Ds
section
variable {P : Program} {fn : Func} {β : Type u} {val : β → Value} {post : β → HP} {F H H' : HP} {ρ : Env} {ex : Exit}
theorem Leave.all (w : β) (hres : ∀ X : HP, Res P fn ρ (X * H') (val w)) (hH : Ent H' (post w * F)) : ∀ (Ds : List Nat) (X : HP), Leave P fn val post F ρ (Ds.map mk) (X * (dfs Ds * H'))
  | [], X => Leave.fin w (by show Res P fn ρ (X * (emp * H')) (val w); rw [emp_star]; exact hres X) (by show Ent (X * (emp * H')) _; rw [emp_star]; exact Ent.trans (Ent.of_eq (star_comm _ _)) (Ent.trans (Ent.drop _ _) hH))
  | D :: Ds, X => by
    refine Leave.peel (D := D) (H' := X * (dfs Ds * H')) ?_ ?_
    · show X * (pt D (.deferred (some [])) * dfs Ds * H') = pt D (.deferred (some [])) * (X * (dfs Ds * H'))
      rw [star_assoc, star_left_comm]
    · rw [← star_assoc]
      exact Leave.all w hres hH Ds _
theorem retQ_d (he : ex = .normal ∨ ex = .ret) (Ds : List Nat) (w : β) (hp : Pk H (dfs Ds) H') (hres : ∀ X : HP, Res P fn ρ (X * H') (val w)) (hH : Ent H' (post w * F)) : retQ P fn val post F ex ρ (Ds.map mk) H := by
  unfold Pk at hp
  subst hp
  refine retQ_l he ?_
  have := Leave.all (P := P) (ρ := ρ) w hres hH Ds emp
  rwa [emp_star] at this
end
end Go.Sl
namespace Go.Sl
open Go
section
variable {P : Program} {n s : Nat} {ρ : Env} {H R : HP} {t t' T e : TypeId} {x y : Operand} {v : Value} {bb : Nat} {zc : List Value} {α : Type}
theorem Pu.loadN_std [Inhabited α] {f : α → List Value} [TA : TyA P t true] [S : TyS P t s bb zc] [F : Fl f s] {L : List α} {j : Nat} {w : α} (hx : ev ρ x = some (.pointer (some ((sbase v).add (j * s))))) (hp : Pk H (slk s v (L.flatMap f)) R) (hj : j < L.length) (hw : L[j]! = w) :
    Pu P n ρ H (.load t x) t' (.agg (f w).toArray) := hw ▸ Pu.loadN_st hx hp hj
end
end Go.Sl
namespace Go.Sl
open Go Go.Proofs
set_option linter.unusedVariables false
set_option linter.unusedSimpArgs false
structure QuS where
  k : Nat
  Ds : List Nat
  sa : GS SV Nat
  sb : GS SV Nat
theorem do_quiet {q : Cfg} {s : GS SV Nat} {x : It} {full : Bool} (h : 4 ≤ x.k ∨ x.k < 0) (p : SV × Nat) : doG p.1 p.2 q s x full = (s, 0, 0) := by
  unfold doG
  rw [if_neg (by omega), if_neg (by omega)]
theorem dfs_c (D : Nat) (Ds : List Nat) : dfs (D :: Ds) = pt D (.deferred (some [])) * dfs Ds := rfl
theorem eqL2 (e v : Int) : eqL [true, true] [vi e, vi v] [vi e, vi v] = some true := by simp [eqL, vi]
attribute [local irreducible] star Ow Cw Pk Pu Dw DwF thenQ blockQ retQ loudQ loudF loudG Cr thr tab obs andI bset lU stAt cn gpW gph gs0 actR madeR doG absG dfs
set_option maxHeartbeats 16000000 in
theorem GraphQuiet_fn {A : HP} {kb ko kc : Nat} (hK : Kinds A kb ko kc) (l0 l1 l2 l3 l4 l5 : Int) (h0 : 0 ≤ l0 ∧ l0 ≤ 255) (h1 : 0 ≤ l1 ∧ l1 ≤ 255) (h2 : 0 ≤ l2 ∧ l2 ≤ 255) (h3 : 0 ≤ l3 ∧ l3 ≤ 255) (h4 : 0 ≤ l4 ∧ l4 ≤ 255) (h5 : 0 ≤ l5 ∧ l5 ≤ 255)
    (a1 : Option Addr) (c1 : Nat) (l : List Stp) (hl : l.length ≤ 1000000000000000) (hro : Ro A a1 l.length 7 (l.flatMap Stp.cs)) (hall : ∀ x ∈ l, StOk x) (a2 : Option Addr) (c2 : Nat) (kl : List Int) (hkl : kl.length ≤ 1000000000000000) (hro2 : Ro A a2 kl.length 1 (kl.map (Value.int .i64))) :
    Fn Tryd.prog 6 [l6v l0 l1 l2 l3 l4 l5, .slice a1 l.length c1, .slice a2 kl.length c2] A Unit (fun _ => .bool true) (fun _ => A) := by
  have hq8 := made_ok l0 l1 l2 l3 l4 l5 h2
  have hmf := Made_fn l0 l1 l2 l3 l4 l5 h0 h1 h2 h3 h4 h5
  obtain ⟨q, hq⟩ : ∃ q, madeR l0 l1 l2 l3 l4 l5 = q := ⟨_, rfl⟩
  rw [hq] at hq8 hmf
  have hok0 := gs0_ok hq8
  (refine Fn.of Tryd.func6 rfl (by kernel_rfl) Tryd.ntmps6 rfl (fun F => ?_))
  (repeat' (first | (refine Ow.is ?_; (first | refine Ow.pu rfl (Pu.build (ps := [(0, .tmp 60), (1, .tmp 62)]) (vs := [vi kl[((k : Nat) : Int).toNat]!, vi w3]) (cs := (It.mk kl[((k : Nat) : Int).toNat]! w3 0 0 0 0).cs) evA (fun w => by kernel_rfl)) ?_ | refine Ow.nil ?_ | refine Ow.alloc rfl (fun bx => ?_) | refine Ow.box rfl rfl rfl (fun bx => ?_))) | (refine Cw.is ?_; (first | refine Cw.seq ?_ | refine Cw.region ?_ | refine Cw.cond_t rfl rfl ?_ | refine Cw.cond_f rfl rfl ?_ | refine Cw.block ?_ | refine Cw.ret ?_ | refine Cw.exit ?_ | refine Cw.skip ?_)) | (first | refine thenQ_n ?_ | refine thenQ_r ?_ | refine thenQ_e ?_ | refine blockQ_n ?_ | refine blockQ_e ?_)))
  rename_i b3
  obtain ⟨b6, h6⟩ : ∃ q, q = bx := ⟨_, rfl⟩
  subst h6
  (repeat' (first | (refine Ow.is ?_; (first | refine Ow.pu rfl (Pu.build (ps := [(0, .tmp 60), (1, .tmp 62)]) (vs := [vi kl[((k : Nat) : Int).toNat]!, vi w3]) (cs := (It.mk kl[((k : Nat) : Int).toNat]! w3 0 0 0 0).cs) evA (fun w => by kernel_rfl)) ?_ | refine Ow.nil ?_ | refine Ow.pu rfl (Pu.move rfl) ?_ | (refine Ow.kGuard ?_; (first | refine Ow.guard_yes rfl rfl rfl ?_ | refine Ow.guard_no rfl rfl rfl rfl ?_ | refine Ow.guard_u rfl rfl rfl rfl ?_)) | (refine Ow.kBin ?_; (first | (refine Ow.b_gtr ?_; first | refine Ow.pu rfl (Pu.gt_t rfl rfl (by omega)) ?_ | refine Ow.pu rfl (Pu.gt_f rfl rfl (by omega)) ?_ | refine Ow.sp rfl (by exact Pu.gt rfl rfl) (fun hc => ?_) (fun hc => ?_)))) | (refine Ow.kPick ?_; (first | refine Ow.pu rfl (Pu.pick_t rfl rfl) ?_ | refine Ow.pu rfl (Pu.pick_f rfl rfl) ?_)) | (refine Ow.kUn ?_; (first | refine Ow.pu rfl (Pu.not rfl) ?_)) | (refine Ow.kStore ?_; (first | refine Ow.store_cl rfl rfl rfl (by (first | rfl | assumption | exact Subtype.property _)) pkA rfl ?_)) | (refine Ow.kBuiltin ?_; (first | refine Ow.pu rfl (Pu.len_st rfl pkA) ?_ | refine Ow.pu rfl (Pu.len rfl) ?_)) | (refine Ow.kCall ?_; (first | refine Ow.callE evA pkA rfl (fit20_fn hK) (fun _ => ?_) | fail)))) | (refine Cw.is ?_; (first | refine Cw.seq ?_ | refine Cw.region ?_ | refine Cw.cond_t rfl rfl ?_ | refine Cw.cond_f rfl rfl ?_ | refine Cw.block ?_ | refine Cw.ret ?_ | refine Cw.exit ?_ | refine Cw.skip ?_)) | (first | refine thenQ_n ?_ | refine thenQ_r ?_ | refine thenQ_e ?_ | refine blockQ_n ?_ | refine blockQ_e ?_)))
  · refine retQ_c () inferInstance Tryd.results6 rfl pkA rfl rfl ?_; ((try simp only [star_assoc]); (repeat (apply Ent.pk; focus ((repeat first | exact pk0 | exact pkl | apply pkn); first | done | fail))); first | exact Ent.fin pkA | exact Ent.refl _)
  · refine retQ_c () inferInstance Tryd.results6 rfl pkA rfl rfl ?_; ((try simp only [star_assoc]); (repeat (apply Ent.pk; focus ((repeat first | exact pk0 | exact pkl | apply pkn); first | done | fail))); first | exact Ent.fin pkA | exact Ent.refl _)
  (refine Cw.draw1 (cl b3 _) false 0 [(0, false), (3, false), (1, true), (2, true), (4, true), (5, true), (6, false), (7, false)] pkA mixed (by kernel_rfl) ?_; (repeat (first | refine Dw.q rfl rfl trivial (by (first | exact Pu.move rfl | exact Pu.assign rfl | exact Pu.neSt (r := true) rfl rfl (he _ _) | (apply Pu.kLoad; (first | exact Pu.load_roi hro2 pkA rfl (by omega) | exact Pu.loadN_std rfl pkA (by omega) hx | exact Pu.load_cl rfl pkA rfl | exact Pu.loadN_cl rfl pkA rfl rfl | exact Pu.load_roi (by assumption) pkA rfl (by omega))))) ?_ | refine Dw.q rfl rfl ⟨_, _, rfl, rfl, rfl⟩ (by (first | exact Pu.move rfl | exact Pu.assign rfl | exact Pu.neSt (r := true) rfl rfl (he _ _) | (apply Pu.kLoad; (first | exact Pu.load_roi hro2 pkA rfl (by omega) | exact Pu.loadN_std rfl pkA (by omega) hx | exact Pu.load_cl rfl pkA rfl | exact Pu.loadN_cl rfl pkA rfl rfl | exact Pu.load_roi (by assumption) pkA rfl (by omega))))) ?_)); refine Dw.l rfl (by first | exact trivial | exact ⟨_, _, rfl, rfl, rfl⟩) ?_; refine Ow.callE0 evA rfl hmf (fun _ => Ow.unemp ?_); refine Ow.nil ?_; refine loudQ.go pkA ?_; refine Dw.l rfl (by first | exact trivial | exact ⟨_, _, rfl, rfl, rfl⟩) ?_; refine Ow.callE0 evA rfl (GNew_fn _ hq8) (fun ga => ?_); refine Ow.nil ?_; refine loudQ.go pkA ?_; refine Dw.l rfl (by first | exact trivial | exact ⟨_, _, rfl, rfl, rfl⟩) ?_; refine Ow.callE0 evA rfl hmf (fun _ => Ow.unemp ?_); refine Ow.nil ?_; refine loudQ.go pkA ?_; refine Dw.l rfl (by first | exact trivial | exact ⟨_, _, rfl, rfl, rfl⟩) ?_; refine Ow.callE0 evA rfl (GNew_fn _ hq8) (fun gb => ?_); refine Ow.nil ?_; refine loudQ.go pkA ?_; (repeat (first | refine Dw.q rfl rfl trivial (by (first | exact Pu.move rfl | exact Pu.assign rfl | exact Pu.neSt (r := true) rfl rfl (he _ _) | (apply Pu.kLoad; (first | exact Pu.load_roi hro2 pkA rfl (by omega) | exact Pu.loadN_std rfl pkA (by omega) hx | exact Pu.load_cl rfl pkA rfl | exact Pu.loadN_cl rfl pkA rfl rfl | exact Pu.load_roi (by assumption) pkA rfl (by omega))))) ?_ | refine Dw.q rfl rfl ⟨_, _, rfl, rfl, rfl⟩ (by (first | exact Pu.move rfl | exact Pu.assign rfl | exact Pu.neSt (r := true) rfl rfl (he _ _) | (apply Pu.kLoad; (first | exact Pu.load_roi hro2 pkA rfl (by omega) | exact Pu.loadN_std rfl pkA (by omega) hx | exact Pu.load_cl rfl pkA rfl | exact Pu.loadN_cl rfl pkA rfl rfl | exact Pu.load_roi (by assumption) pkA rfl (by omega))))) ?_)); refine Dw.nil ?_ rfl)
  (repeat' (first | (refine Ow.is ?_; (first | refine Ow.pu rfl (Pu.build (ps := [(0, .tmp 60), (1, .tmp 62)]) (vs := [vi kl[((k : Nat) : Int).toNat]!, vi w3]) (cs := (It.mk kl[((k : Nat) : Int).toNat]! w3 0 0 0 0).cs) evA (fun w => by kernel_rfl)) ?_ | refine Ow.nil ?_ | refine Ow.pu rfl (Pu.move rfl) ?_ | (refine Ow.kBuiltin ?_; (first | refine Ow.pu rfl (Pu.len_st rfl pkA) ?_ | refine Ow.pu rfl (Pu.len rfl) ?_)) | (refine Ow.kCall ?_; (first | refine Ow.callE evA pkA rfl (Items_fn hro (by omega) hall) (fun p => Ow.assoc ?_) | fail)))) | (refine Cw.is ?_; (first | refine Cw.seq ?_ | refine Cw.region ?_ | refine Cw.cond_t rfl rfl ?_ | refine Cw.cond_f rfl rfl ?_ | refine Cw.block ?_ | refine Cw.ret ?_ | refine Cw.exit ?_ | refine Cw.skip ?_)) | (first | refine thenQ_n ?_ | refine thenQ_r ?_ | refine thenQ_e ?_ | refine blockQ_n ?_ | refine blockQ_e ?_)))
  obtain ⟨nv, N, hNl, hNok⟩ := p
  dsimp only
  refine Cw.loopD [9, 10, 11, 12, 13, 33, 34, 35, 36, 37, 38, 39, 40, 41, 42, 43, 44, 45, 46, 47, 48, 49, 50, 51, 52, 53, 54, 55, 56, 57, 58, 59, 60, 61, 62, 63, 64, 65, 66, 67, 68, 69, 70, 71, 72, 73, 74, 75, 76, 77, 78, 79, 80, 81, 82, 83, 84, 85, 86, 87, 88, 89, 90, 91, 92, 93, 94] (by (repeat first | exact er_nil | apply er_drop rfl | apply er_keep rfl)) (fun s : QuS => s.k ≤ N.length ∧ GsOk q s.sa ∧ GsOk q s.sb ∧ absG s.sa = absG s.sb ∧ s.sa.O.length ≤ s.k) (fun s => [(33, vi s.k)]) (fun s => s.Ds.map mk)
    (fun s => gph ga q s.sa * (gph gb q s.sb * (slk 6 nv.v (N.flatMap It.cs) * (cl b6 [.bool false] * (dfs s.Ds * (A * F)))))) (fun s => N.length - s.k) ⟨0, [], gs0 q, gs0 q⟩ ⟨by simp, hok0, hok0, rfl, by unfold gs0; simp⟩ (by (repeat first | exact trivial | refine ⟨rfl, ?_⟩)) rfl (by
      refine Ent.trans (Ent.of_eq (emp_star _).symm) ?_
      rw [show emp = dfs [] by unfold dfs; rfl]
      ((try simp only [star_assoc]); (repeat (apply Ent.pk; focus ((repeat first | exact pk0 | exact pkl | apply pkn); first | done | fail))); first | exact Ent.fin pkA | exact Ent.refl _)) (fun s hs => ?_)
  obtain ⟨k, Ds, sa, sb⟩ := s
  obtain ⟨hk, hoka, hokb, hab, hla⟩ := hs
  simp only at hk hoka hokb hab hla ⊢
  by_cases hkn : k < N.length
  · obtain ⟨x, hx⟩ : ∃ x, N[k]! = x := ⟨_, rfl⟩
    obtain ⟨w3, ha3⟩ : ∃ w, andI .i64 (k : Int) 3 = w := ⟨_, rfl⟩
    obtain ⟨w1, ha1⟩ : ∃ w, andI .i64 (k : Int) 1 = w := ⟨_, rfl⟩
    have hlb : sb.O.length ≤ 900000 := by
      have h1 := congrArg (fun s : GS Unit Unit => s.O.length) hab
      unfold absG at h1
      simp only [absO_len] at h1
      omega
    have hdq : ∀ (z : Int) (full : Bool), (4 ≤ z ∨ z < 0) → Fn Tryd.prog 10 [.pointer (some ⟨ga, 0, none⟩), .agg (It.mk z w3 0 0 0 0).cs.toArray, .bool full] (gph ga q sa * A) (SV × Nat) (fun p => ansV 0 0) (fun p => gph ga q sa * A) := fun z full hz =>
      Do_w hK ga hoka (by omega) hq8 (f := fun _ => sa) (e := fun _ => 0) (v := fun _ => 0) (fun p => do_quiet hz p)
    have hre1 := Reach_fn ga q sa hoka hq8 (by omega)
    have hdok := fun pa : SV × Nat => doG_ok pa.1 pa.2 x false hoka hq8
    have hdokb := fun pb : SV × Nat => doG_ok pb.1 pb.2 x false hokb hq8
    have hre2 := fun pa : SV × Nat => Reach_fn ga q (doG pa.1 pa.2 q sa x false).1 (hdok pa).1 hq8 (by have := (hdok pa).2.2; omega)
    have h22 : ∀ pa pb : SV × Nat, (doG pa.1 pa.2 q sa x false).2 = (doG pb.1 pb.2 q sb x false).2 := fun pa pb => by
      have e1 := doG_abs pa.1 pa.2 q sa x false
      have e2 := doG_abs pb.1 pb.2 q sb x false
      rw [hab, e2] at e1
      exact (congrArg Prod.snd e1).symm
    have h21 : ∀ pa pb : SV × Nat, absG (doG pa.1 pa.2 q sa x false).1 = absG (doG pb.1 pb.2 q sb x false).1 := fun pa pb => by
      have e1 := doG_abs pa.1 pa.2 q sa x false
      have e2 := doG_abs pb.1 pb.2 q sb x false
      rw [hab, e2] at e1
      exact (congrArg Prod.fst e1).symm
    have he : ∀ pa pb : SV × Nat, eqL [true, true] [vi (doG pa.1 pa.2 q sa x false).2.1, vi (doG pa.1 pa.2 q sa x false).2.2] [vi (doG pb.1 pb.2 q sb x false).2.1, vi (doG pb.1 pb.2 q sb x false).2.2] = some true := fun pa pb => by rw [h22 pa pb]; exact eqL2 _ _
    have hgrow : ∀ (pa : SV × Nat) (j : Nat), rchB (doG pa.1 pa.2 q sa x false).1.O (rootsG (doG pa.1 pa.2 q sa x false).1) j = true → j ≤ sa.O.length → rchB sa.O (rootsG sa) j = true := fun pa j h hj =>
      rchB_t.2 (do_grow pa.1 pa.2 x false hoka hq8 (rchB_t.1 h) (by omega))
    (repeat' (first | (refine Ow.is ?_; (first | refine Ow.pu rfl (Pu.build (ps := [(0, .tmp 60), (1, .tmp 62)]) (vs := [vi kl[((k : Nat) : Int).toNat]!, vi w3]) (cs := (It.mk kl[((k : Nat) : Int).toNat]! w3 0 0 0 0).cs) evA (fun w => by kernel_rfl)) ?_ | refine Ow.nil ?_ | refine Ow.pu rfl (Pu.move rfl) ?_ | refine Ow.pu rfl (Pu.assign rfl) ?_ | (refine Ow.kLoad ?_; (first | refine Ow.pu rfl (Pu.loadN_std rfl pkA (by omega) hx) ?_ | refine Ow.pu rfl (Pu.loadN_cl rfl pkA rfl rfl) ?_)) | (refine Ow.kBin ?_; (first | (refine Ow.b_lss ?_; first | refine Ow.pu rfl (Pu.lt_t rfl rfl (by omega)) ?_ | refine Ow.pu rfl (Pu.lt_f rfl rfl (by omega)) ?_ | refine Ow.sp rfl (by exact Pu.lt rfl rfl) (fun hc => ?_) (fun hc => ?_)))) | (refine Ow.kStore ?_; (first | refine Ow.storeN rfl rfl rfl rfl rfl pkA rfl ?_)) | (refine Ow.kIdx ?_; (first | refine Ow.pu rfl (Pu.idx_roi hro2 rfl rfl (by omega)) ?_ | refine Ow.pu rfl (Pu.idx_stn rfl rfl pkA (by omega)) ?_ | refine Ow.pu rfl (Pu.idx_roi (by assumption) rfl rfl (by omega)) ?_)) | refine Ow.alloc rfl (fun bx => ?_))) | (refine Cw.is ?_; (first | refine Cw.seq ?_ | refine Cw.region ?_ | refine Cw.cond_t rfl rfl ?_ | refine Cw.cond_f rfl rfl ?_ | refine Cw.block ?_ | refine Cw.ret ?_ | refine Cw.exit ?_ | refine Cw.skip ?_)) | (first | refine thenQ_n ?_ | refine thenQ_r ?_ | refine thenQ_e ?_ | refine blockQ_n ?_ | refine blockQ_e ?_)))
    obtain ⟨b10, h10⟩ : ∃ q, q = bx := ⟨_, rfl⟩
    subst h10
    (repeat' (first | (refine Ow.is ?_; (first | refine Ow.pu rfl (Pu.build (ps := [(0, .tmp 60), (1, .tmp 62)]) (vs := [vi kl[((k : Nat) : Int).toNat]!, vi w3]) (cs := (It.mk kl[((k : Nat) : Int).toNat]! w3 0 0 0 0).cs) evA (fun w => by kernel_rfl)) ?_ | (refine Ow.kBuild ?_; refine Ow.pu rfl (Pu.build (ps := []) (vs := []) (cs := [vi 0, vi 0]) trivial (fun w => by kernel_rfl)) ?_) | refine Ow.nil ?_ | refine Ow.pu rfl (Pu.move rfl) ?_ | (refine Ow.kGuard ?_; (first | refine Ow.guard_yes rfl rfl rfl ?_ | refine Ow.guard_no rfl rfl rfl rfl ?_ | refine Ow.guard_u rfl rfl rfl rfl ?_)) | (refine Ow.kLoad ?_; (first | refine Ow.pu rfl (Pu.load_roi hro2 pkA rfl (by omega)) ?_ | refine Ow.pu rfl (Pu.loadN_std rfl pkA (by omega) hx) ?_ | refine Ow.pu rfl (Pu.load_cl rfl pkA rfl) ?_ | refine Ow.pu rfl (Pu.load_roi (by assumption) pkA rfl (by omega)) ?_)) | (refine Ow.kBin ?_; (first | (refine Ow.b_and ?_; refine Ow.pu rfl (Pu.and rfl rfl ha1) ?_) | (refine Ow.b_and ?_; refine Ow.pu rfl (Pu.and rfl rfl ha3) ?_) | (refine Ow.b_lss ?_; first | refine Ow.pu rfl (Pu.lt_t rfl rfl (by omega)) ?_ | refine Ow.pu rfl (Pu.lt_f rfl rfl (by omega)) ?_ | refine Ow.sp rfl (by exact Pu.lt rfl rfl) (fun hc => ?_) (fun hc => ?_)) | (refine Ow.b_geq ?_; first | refine Ow.pu rfl (Pu.ge_t rfl rfl (by omega)) ?_ | refine Ow.pu rfl (Pu.ge_f rfl rfl (by omega)) ?_ | refine Ow.sp rfl (by exact Pu.ge rfl rfl) (fun hc => ?_) (fun hc => ?_)) | (refine Ow.b_eql ?_; (first | refine Ow.sp rfl (by exact Pu.eqI rfl rfl) (fun hc => ?_) (fun hc => ?_))) | (refine Ow.b_neq ?_; (first | refine Ow.pu rfl (Pu.neSt (r := true) rfl rfl rfl) ?_)))) | (refine Ow.kPick ?_; (first | refine Ow.pu rfl (Pu.pick_t rfl rfl) ?_ | refine Ow.pu rfl (Pu.pick_f rfl rfl) ?_)) | (refine Ow.kStore ?_; (first | refine Ow.store_cl rfl rfl rfl (by (first | rfl | assumption | exact Subtype.property _)) pkA rfl ?_)) | (refine Ow.kIdx ?_; (first | refine Ow.pu rfl (Pu.idx_roi hro2 rfl rfl (by omega)) ?_ | refine Ow.pu rfl (Pu.idx_stn rfl rfl pkA (by omega)) ?_ | refine Ow.pu rfl (Pu.idx_roi (by assumption) rfl rfl (by omega)) ?_)) | (refine Ow.kBuiltin ?_; (first | refine Ow.pu rfl (Pu.len_st rfl pkA) ?_ | refine Ow.pu rfl (Pu.len rfl) ?_)) | (refine Ow.kCall ?_; (first | refine Ow.callE evA (pk2' pkA pkA) rfl (hdq _ _ (by omega)) (fun p => Ow.assoc ?_) | fail)) | (refine Ow.kBuild ?_; (first | fail)))) | (refine Cw.is ?_; (first | refine Cw.seq ?_ | refine Cw.region ?_ | refine Cw.cond_t rfl rfl ?_ | refine Cw.cond_f rfl rfl ?_ | refine Cw.block ?_ | refine Cw.ret ?_ | refine Cw.exit ?_ | refine Cw.skip ?_)) | (first | refine thenQ_n ?_ | refine thenQ_r ?_ | refine thenQ_e ?_ | refine blockQ_n ?_ | refine blockQ_e ?_)))
    all_goals (repeat' (first | (refine Ow.is ?_; (first | refine Ow.pu rfl (Pu.build (ps := [(0, .tmp 60), (1, .tmp 62)]) (vs := [vi kl[((k : Nat) : Int).toNat]!, vi w3]) (cs := (It.mk kl[((k : Nat) : Int).toNat]! w3 0 0 0 0).cs) evA (fun w => by kernel_rfl)) ?_ | refine Ow.nil ?_ | refine Ow.pu rfl (Pu.move rfl) ?_ | (refine Ow.kStore ?_; (first | refine Ow.store_cl rfl rfl rfl (by (first | rfl | assumption | exact Subtype.property _)) pkA rfl ?_)) | (refine Ow.kCall ?_; (first | refine Ow.callE evA pkA rfl (Born_fn _ _ _) (fun _ => ?_) | refine Ow.callE evA pkA rfl (hre2 _) (fun vb => Ow.assoc ?_) | refine Ow.callE evA pkA rfl hre1 (fun wb => Ow.assoc ?_) | fail)) | refine Ow.alloc rfl (fun bx => ?_))) | (refine Cw.is ?_; (first | refine Cw.seq ?_ | refine Cw.region ?_ | refine Cw.cond_t rfl rfl ?_ | refine Cw.cond_f rfl rfl ?_ | refine Cw.block ?_ | refine Cw.ret ?_ | refine Cw.exit ?_ | refine Cw.skip ?_)) | (first | refine thenQ_n ?_ | refine thenQ_r ?_ | refine thenQ_e ?_ | refine blockQ_n ?_ | refine blockQ_e ?_)))
    all_goals
      rename_i b11
      obtain ⟨b12, h12⟩ : ∃ q, q = bx := ⟨_, rfl⟩
      subst h12
      (refine Cw.draw1 (cl b10 x.cs) false 0 [(0, false), (1, false), (3, false), (4, false), (2, true), (5, true), (6, false)] pkA mixed (by kernel_rfl) ?_; (repeat (first | refine Dw.q rfl rfl trivial (by (first | exact Pu.move rfl | exact Pu.assign rfl | exact Pu.neSt (r := true) rfl rfl (he _ _) | (apply Pu.kLoad; (first | exact Pu.load_roi hro2 pkA rfl (by omega) | exact Pu.loadN_std rfl pkA (by omega) hx | exact Pu.load_cl rfl pkA rfl | exact Pu.loadN_cl rfl pkA rfl rfl | exact Pu.load_roi (by assumption) pkA rfl (by omega))))) ?_ | refine Dw.q rfl rfl ⟨_, _, rfl, rfl, rfl⟩ (by (first | exact Pu.move rfl | exact Pu.assign rfl | exact Pu.neSt (r := true) rfl rfl (he _ _) | (apply Pu.kLoad; (first | exact Pu.load_roi hro2 pkA rfl (by omega) | exact Pu.loadN_std rfl pkA (by omega) hx | exact Pu.load_cl rfl pkA rfl | exact Pu.loadN_cl rfl pkA rfl rfl | exact Pu.load_roi (by assumption) pkA rfl (by omega))))) ?_)); refine Dw.l rfl (by first | exact trivial | exact ⟨_, _, rfl, rfl, rfl⟩) ?_; refine Ow.callE evA (pk2' pkA pkA) rfl (Do_fn hK ga q sa x false hoka (by omega) hq8) (fun pa => Ow.assoc ?_); refine Ow.nil ?_; refine loudQ.go pkA ?_; refine Dw.l rfl (by first | exact trivial | exact ⟨_, _, rfl, rfl, rfl⟩) ?_; refine Ow.callE evA (pk2' pkA pkA) rfl (Do_fn hK gb q sb x false hokb hlb hq8) (fun pb => Ow.assoc ?_); refine Ow.nil ?_; refine loudQ.go pkA ?_; (repeat (first | refine Dw.q rfl rfl trivial (by (first | exact Pu.move rfl | exact Pu.assign rfl | exact Pu.neSt (r := true) rfl rfl (he _ _) | (apply Pu.kLoad; (first | exact Pu.load_roi hro2 pkA rfl (by omega) | exact Pu.loadN_std rfl pkA (by omega) hx | exact Pu.load_cl rfl pkA rfl | exact Pu.loadN_cl rfl pkA rfl rfl | exact Pu.load_roi (by assumption) pkA rfl (by omega))))) ?_ | refine Dw.q rfl rfl ⟨_, _, rfl, rfl, rfl⟩ (by (first | exact Pu.move rfl | exact Pu.assign rfl | exact Pu.neSt (r := true) rfl rfl (he _ _) | (apply Pu.kLoad; (first | exact Pu.load_roi hro2 pkA rfl (by omega) | exact Pu.loadN_std rfl pkA (by omega) hx | exact Pu.load_cl rfl pkA rfl | exact Pu.loadN_cl rfl pkA rfl rfl | exact Pu.load_roi (by assumption) pkA rfl (by omega))))) ?_)); refine Dw.nil ?_ rfl)
      (repeat' (first | (refine Ow.is ?_; (first | refine Ow.pu rfl (Pu.build (ps := [(0, .tmp 60), (1, .tmp 62)]) (vs := [vi kl[((k : Nat) : Int).toNat]!, vi w3]) (cs := (It.mk kl[((k : Nat) : Int).toNat]! w3 0 0 0 0).cs) evA (fun w => by kernel_rfl)) ?_ | refine Ow.nil ?_ | refine Ow.pu rfl (Pu.move rfl) ?_ | (refine Ow.kStore ?_; (first | refine Ow.store_cl rfl rfl rfl (by (first | rfl | assumption | exact Subtype.property _)) pkA rfl ?_)) | (refine Ow.kCall ?_; (first | refine Ow.callE0 evA rfl (BAll_fn _) (fun cc => ?_) | refine Ow.callE evA pkA rfl (hre2 _) (fun vb => Ow.assoc ?_) | refine Ow.callE evA pkA rfl hre1 (fun wb => Ow.assoc ?_) | fail)))) | (refine Cw.is ?_; (first | refine Cw.seq ?_ | refine Cw.region ?_ | refine Cw.cond_t rfl rfl ?_ | refine Cw.cond_f rfl rfl ?_ | refine Cw.block ?_ | refine Cw.ret ?_ | refine Cw.exit ?_ | refine Cw.skip ?_)) | (first | refine thenQ_n ?_ | refine thenQ_r ?_ | refine thenQ_e ?_ | refine blockQ_n ?_ | refine blockQ_e ?_)))
      have hoka' := (hdok pa).1
      have hokb' := (hdokb pb).1
      have hla' : (doG pa.1 pa.2 q sa x false).1.O.length ≤ k + 1 := by have := (hdok pa).2.2; omega
      have hab' := h21 pa pb
      have hgr := hgrow pa
      obtain ⟨sa', hsa⟩ : ∃ s, (doG pa.1 pa.2 q sa x false).1 = s := ⟨_, rfl⟩
      obtain ⟨sb', hsb⟩ : ∃ s, (doG pb.1 pb.2 q sb x false).1 = s := ⟨_, rfl⟩
      rw [hsa] at hoka' hla' hab' hgr
      rw [hsb] at hokb' hab'
      rw [hsa, hsb]
      obtain ⟨V, hV⟩ : ∃ V, rchB sa'.O (rootsG sa') = V := ⟨_, rfl⟩
      obtain ⟨W, hW⟩ : ∃ W, rchB sa.O (rootsG sa) = W := ⟨_, rfl⟩
      obtain ⟨m, hm⟩ : ∃ m, sa'.O.length + 1 = m := ⟨_, rfl⟩
      obtain ⟨n, hn⟩ : ∃ n, sa.O.length = n := ⟨_, rfl⟩
      rw [hV, hW, hn] at hgr
      rw [hV, hW, hm, hn]
      have hn9 : n ≤ 900000 := by omega
      have hm9 : m ≤ 1000000 := by omega
      clear hdq hre1 hre2 hdok hdokb h22 h21 he hgrow
      refine Cw.rangeY (ι := { p : Nat × Unit // p.1 < m ∧ V p.1 = true }) (xs := fun p => [vi p.1.1]) (A := fun p => bset vb m V * (bset wb (n + 1) W * (cl b11 [.pointer (some ⟨wb, 0, none⟩)] * cl b12 [vi n]))) (B := fun p => stAt vb m (fun _ : Unit => V) (fun i (_ : Unit) => bset wb (n + 1) W * (cl b11 [.pointer (some ⟨wb, 0, none⟩)] * cl b12 [vi n])) (p.1.1 + 1)) (J := fun _ _ => False)
        (S := fun _ _ => emp) (PS := fun _ => cl cc [.pointer (some ⟨vb, 0, none⟩)])
        (Pre := cl cc [.pointer (some ⟨vb, 0, none⟩)] * stAt vb m (fun _ : Unit => V) (fun i (_ : Unit) => bset wb (n + 1) W * (cl b11 [.pointer (some ⟨wb, 0, none⟩)] * cl b12 [vi n])) 0)
        (Post := cl cc [.pointer (some ⟨vb, 0, none⟩)] * stAt vb m (fun _ : Unit => V) (fun i (_ : Unit) => bset wb (n + 1) W * (cl b11 [.pointer (some ⟨wb, 0, none⟩)] * cl b12 [vi n])) m)
        (F := gph ga q sa' * (gph gb q sb' * (slk 6 nv.v (N.flatMap It.cs) * (cl b6 [.bool false] * (dfs Ds * (A * F)))))) (fun l' L' X hy => BAllIt vb m hm9 cc (fun _ : Unit => V) (fun i (_ : Unit) => bset wb (n + 1) W * (cl b11 [.pointer (some ⟨wb, 0, none⟩)] * cl b12 [vi n])) (fun i s _ hf => stAt_mk vb m (fun _ : Unit => V) (fun i (_ : Unit) => bset wb (n + 1) W * (cl b11 [.pointer (some ⟨wb, 0, none⟩)] * cl b12 [vi n])) (i + 1) s) _ L' X hy) rfl rfl (fun _ => rfl) (by rw [stAt_u vb m V (fun i => bset wb (n + 1) W * (cl b11 [.pointer (some ⟨wb, 0, none⟩)] * cl b12 [vi n]))]; ((try simp only [star_assoc]); (repeat (apply Ent.pk; focus ((repeat first | exact pk0 | exact pkl | apply pkn); first | done | fail))); first | exact Ent.fin pkA | exact Ent.refl _)) (fun p F1 G l' rec => ?_) (fun D => ?_) (fun D i e h => h.elim)
      · obtain ⟨⟨j, uu⟩, hjm, hVj⟩ := p
        simp only at hjm hVj ⊢
        have hWj := hgr j hVj
        rw [stAt_u vb m V (fun i => bset wb (n + 1) W * (cl b11 [.pointer (some ⟨wb, 0, none⟩)] * cl b12 [vi n]))]
        by_cases hjn : j ≤ n
        · have hhas := Has_v wb (n + 1) W (by omega) j (by omega) (v := true) (hWj hjn)
          (repeat' (first | (refine Ow.is ?_; (first | refine Ow.pu rfl (Pu.build (ps := [(0, .tmp 60), (1, .tmp 62)]) (vs := [vi kl[((k : Nat) : Int).toNat]!, vi w3]) (cs := (It.mk kl[((k : Nat) : Int).toNat]! w3 0 0 0 0).cs) evA (fun w => by kernel_rfl)) ?_ | refine Ow.nil ?_ | refine Ow.pu rfl (Pu.assign rfl) ?_)) | (refine Cw.is ?_; (first | refine Cw.seq ?_ | refine Cw.region ?_ | refine Cw.cond_t rfl rfl ?_ | refine Cw.cond_f rfl rfl ?_ | refine Cw.block ?_ | refine Cw.ret ?_ | refine Cw.exit ?_ | refine Cw.skip ?_)) | (first | refine thenQ_n ?_ | refine thenQ_r ?_ | refine thenQ_e ?_ | refine blockQ_n ?_ | refine blockQ_e ?_)))
          refine ⟨_, Ent.refl _, ?_⟩
          try (refine Cw.heq (by simp only [star_assoc, emp_star, star_emp]; exact rfl) ?_)
          (repeat' (first | (refine Ow.is ?_; (first | refine Ow.pu rfl (Pu.build (ps := [(0, .tmp 60), (1, .tmp 62)]) (vs := [vi kl[((k : Nat) : Int).toNat]!, vi w3]) (cs := (It.mk kl[((k : Nat) : Int).toNat]! w3 0 0 0 0).cs) evA (fun w => by kernel_rfl)) ?_ | refine Ow.nil ?_ | refine Ow.pu rfl (Pu.move rfl) ?_ | (refine Ow.kGuard ?_; (first | refine Ow.guard_yes rfl rfl rfl ?_ | refine Ow.guard_no rfl rfl rfl rfl ?_ | refine Ow.guard_u rfl rfl rfl rfl ?_)) | (refine Ow.kLoad ?_; (first | refine Ow.pu rfl (Pu.load_roi hro2 pkA rfl (by omega)) ?_ | refine Ow.pu rfl (Pu.loadN_std rfl pkA (by omega) hx) ?_ | refine Ow.pu rfl (Pu.load_cl rfl pkA rfl) ?_ | refine Ow.pu rfl (Pu.load_roi (by assumption) pkA rfl (by omega)) ?_)) | (refine Ow.kBin ?_; (first | (refine Ow.b_leq ?_; first | refine Ow.pu rfl (Pu.le_t rfl rfl (by omega)) ?_ | refine Ow.pu rfl (Pu.le_f rfl rfl (by omega)) ?_ | refine Ow.sp rfl (by exact Pu.le rfl rfl) (fun hc => ?_) (fun hc => ?_)))) | (refine Ow.kPick ?_; (first | refine Ow.pu rfl (Pu.pick_t rfl rfl) ?_ | refine Ow.pu rfl (Pu.pick_f rfl rfl) ?_)) | (refine Ow.kUn ?_; (first | refine Ow.pu rfl (Pu.not rfl) ?_)) | (refine Ow.kStore ?_; (first | refine Ow.store_cl rfl rfl rfl (by (first | rfl | assumption | exact Subtype.property _)) pkA rfl ?_)) | (refine Ow.kCall ?_; (first | refine Ow.callE evA pkA rfl hhas (fun _ => ?_) | fail)))) | (refine Cw.is ?_; (first | refine Cw.seq ?_ | refine Cw.region ?_ | refine Cw.cond_t rfl rfl ?_ | refine Cw.cond_f rfl rfl ?_ | refine Cw.block ?_ | refine Cw.ret ?_ | refine Cw.exit ?_ | refine Cw.skip ?_)) | (first | refine thenQ_n ?_ | refine thenQ_r ?_ | refine thenQ_e ?_ | refine blockQ_n ?_ | refine blockQ_e ?_)))
          refine rdQ_n ?_
          ((try simp only [star_assoc]); (repeat (apply Ent.pk; focus ((repeat first | exact pk0 | exact pkl | apply pkn); first | done | fail))); first | exact Ent.fin pkA | exact Ent.refl _)
        · (repeat' (first | (refine Ow.is ?_; (first | refine Ow.pu rfl (Pu.build (ps := [(0, .tmp 60), (1, .tmp 62)]) (vs := [vi kl[((k : Nat) : Int).toNat]!, vi w3]) (cs := (It.mk kl[((k : Nat) : Int).toNat]! w3 0 0 0 0).cs) evA (fun w => by kernel_rfl)) ?_ | refine Ow.nil ?_ | refine Ow.pu rfl (Pu.assign rfl) ?_)) | (refine Cw.is ?_; (first | refine Cw.seq ?_ | refine Cw.region ?_ | refine Cw.cond_t rfl rfl ?_ | refine Cw.cond_f rfl rfl ?_ | refine Cw.block ?_ | refine Cw.ret ?_ | refine Cw.exit ?_ | refine Cw.skip ?_)) | (first | refine thenQ_n ?_ | refine thenQ_r ?_ | refine thenQ_e ?_ | refine blockQ_n ?_ | refine blockQ_e ?_)))
          refine ⟨_, Ent.refl _, ?_⟩
          try (refine Cw.heq (by simp only [star_assoc, emp_star, star_emp]; exact rfl) ?_)
          (repeat' (first | (refine Ow.is ?_; (first | refine Ow.pu rfl (Pu.build (ps := [(0, .tmp 60), (1, .tmp 62)]) (vs := [vi kl[((k : Nat) : Int).toNat]!, vi w3]) (cs := (It.mk kl[((k : Nat) : Int).toNat]! w3 0 0 0 0).cs) evA (fun w => by kernel_rfl)) ?_ | refine Ow.nil ?_ | refine Ow.pu rfl (Pu.move rfl) ?_ | (refine Ow.kGuard ?_; (first | refine Ow.guard_yes rfl rfl rfl ?_ | refine Ow.guard_no rfl rfl rfl rfl ?_ | refine Ow.guard_u rfl rfl rfl rfl ?_)) | (refine Ow.kLoad ?_; (first | refine Ow.pu rfl (Pu.load_roi hro2 pkA rfl (by omega)) ?_ | refine Ow.pu rfl (Pu.loadN_std rfl pkA (by omega) hx) ?_ | refine Ow.pu rfl (Pu.load_cl rfl pkA rfl) ?_ | refine Ow.pu rfl (Pu.load_roi (by assumption) pkA rfl (by omega)) ?_)) | (refine Ow.kBin ?_; (first | (refine Ow.b_leq ?_; first | refine Ow.pu rfl (Pu.le_t rfl rfl (by omega)) ?_ | refine Ow.pu rfl (Pu.le_f rfl rfl (by omega)) ?_ | refine Ow.sp rfl (by exact Pu.le rfl rfl) (fun hc => ?_) (fun hc => ?_)))) | (refine Ow.kPick ?_; (first | refine Ow.pu rfl (Pu.pick_t rfl rfl) ?_ | refine Ow.pu rfl (Pu.pick_f rfl rfl) ?_)) | (refine Ow.kUn ?_; (first | refine Ow.pu rfl (Pu.not rfl) ?_)) | (refine Ow.kStore ?_; (first | refine Ow.store_cl rfl rfl rfl (by (first | rfl | assumption | exact Subtype.property _)) pkA rfl ?_)) | (refine Ow.kCall ?_; (first | refine Ow.callE evA pkA rfl hhas (fun _ => ?_) | fail)))) | (refine Cw.is ?_; (first | refine Cw.seq ?_ | refine Cw.region ?_ | refine Cw.cond_t rfl rfl ?_ | refine Cw.cond_f rfl rfl ?_ | refine Cw.block ?_ | refine Cw.ret ?_ | refine Cw.exit ?_ | refine Cw.skip ?_)) | (first | refine thenQ_n ?_ | refine thenQ_r ?_ | refine thenQ_e ?_ | refine blockQ_n ?_ | refine blockQ_e ?_)))
          refine rdQ_n ?_
          ((try simp only [star_assoc]); (repeat (apply Ent.pk; focus ((repeat first | exact pk0 | exact pkl | apply pkn); first | done | fail))); first | exact Ent.fin pkA | exact Ent.refl _)
      · rw [stAt_u vb m V (fun i => bset wb (n + 1) W * (cl b11 [.pointer (some ⟨wb, 0, none⟩)] * cl b12 [vi n]))]
        try (refine Cw.heq (by simp only [star_assoc, emp_star, star_emp]; exact rfl) ?_)
        (repeat' (first | (refine Ow.is ?_; (first | refine Ow.pu rfl (Pu.build (ps := [(0, .tmp 60), (1, .tmp 62)]) (vs := [vi kl[((k : Nat) : Int).toNat]!, vi w3]) (cs := (It.mk kl[((k : Nat) : Int).toNat]! w3 0 0 0 0).cs) evA (fun w => by kernel_rfl)) ?_ | refine Ow.nil ?_ | refine Ow.pu rfl (Pu.move rfl) ?_ | (refine Ow.kBin ?_; (first | (refine Ow.b_add ?_; refine Ow.pu rfl (Pu.add_i rfl rfl (by omega)) ?_))))) | (refine Cw.is ?_; (first | refine Cw.seq ?_ | refine Cw.region ?_ | refine Cw.cond_t rfl rfl ?_ | refine Cw.cond_f rfl rfl ?_ | refine Cw.block ?_ | refine Cw.ret ?_ | refine Cw.exit ?_ | refine Cw.skip ?_)) | (first | refine thenQ_n ?_ | refine thenQ_r ?_ | refine thenQ_e ?_ | refine blockQ_n ?_ | refine blockQ_e ?_)))
        exact ⟨⟨k + 1, D :: Ds, sa', sb'⟩, rfl, ⟨by simp only; omega, hoka', hokb', hab', hla'⟩, by simp only; omega, by (repeat first | exact trivial | refine ⟨rfl, ?_⟩), by simp only [dfs_c]; ((try simp only [star_assoc]); (repeat (apply Ent.pk; focus ((repeat first | exact pk0 | exact pkl | apply pkn); first | done | fail))); first | exact Ent.fin pkA | exact Ent.refl _)⟩
  · (repeat' (first | (refine Ow.is ?_; (first | refine Ow.pu rfl (Pu.build (ps := [(0, .tmp 60), (1, .tmp 62)]) (vs := [vi kl[((k : Nat) : Int).toNat]!, vi w3]) (cs := (It.mk kl[((k : Nat) : Int).toNat]! w3 0 0 0 0).cs) evA (fun w => by kernel_rfl)) ?_ | refine Ow.nil ?_ | (refine Ow.kBin ?_; (first | (refine Ow.b_lss ?_; first | refine Ow.pu rfl (Pu.lt_t rfl rfl (by omega)) ?_ | refine Ow.pu rfl (Pu.lt_f rfl rfl (by omega)) ?_ | refine Ow.sp rfl (by exact Pu.lt rfl rfl) (fun hc => ?_) (fun hc => ?_)))))) | (refine Cw.is ?_; (first | refine Cw.seq ?_ | refine Cw.region ?_ | refine Cw.cond_t rfl rfl ?_ | refine Cw.cond_f rfl rfl ?_ | refine Cw.block ?_ | refine Cw.ret ?_ | refine Cw.exit ?_ | refine Cw.skip ?_)) | (first | refine thenQ_n ?_ | refine thenQ_r ?_ | refine thenQ_e ?_ | refine blockQ_n ?_ | refine blockQ_e ?_)))
    (repeat' (first | (refine Ow.is ?_; (first | refine Ow.pu rfl (Pu.build (ps := [(0, .tmp 60), (1, .tmp 62)]) (vs := [vi kl[((k : Nat) : Int).toNat]!, vi w3]) (cs := (It.mk kl[((k : Nat) : Int).toNat]! w3 0 0 0 0).cs) evA (fun w => by kernel_rfl)) ?_ | refine Ow.nil ?_ | (refine Ow.kStore ?_; (first | refine Ow.store_cl rfl rfl rfl (by (first | rfl | assumption | exact Subtype.property _)) pkA rfl ?_)))) | (refine Cw.is ?_; (first | refine Cw.seq ?_ | refine Cw.region ?_ | refine Cw.cond_t rfl rfl ?_ | refine Cw.cond_f rfl rfl ?_ | refine Cw.block ?_ | refine Cw.ret ?_ | refine Cw.exit ?_ | refine Cw.skip ?_)) | (first | refine thenQ_n ?_ | refine thenQ_r ?_ | refine thenQ_e ?_ | refine blockQ_n ?_ | refine blockQ_e ?_)))
    refine retQ_d (.inr rfl) Ds () pkA (fun X => resc (T := inferInstance) Tryd.results6 rfl (pkn pkA) (rd_cl rfl)) ?_
    ((try simp only [star_assoc]); (repeat (apply Ent.pk; focus ((repeat first | exact pk0 | exact pkl | apply pkn); first | done | fail))); first | exact Ent.fin pkA | exact Ent.refl _)
end Go.Sl
namespace Go.Sl
open Go Go.Proofs Go.ChangeShapes Go.WideShapes Go.ChangeAt Go.RowKit
set_option linter.unusedVariables false
theorem wf64 {n : Int} (h : (Lit.int .i64 n).wf = true) : i64 n := by simpa [i64, Lit.wf, IntKind.min, IntKind.max, IntKind.signed, IntKind.bits] using h
set_option maxRecDepth 10000 in
theorem step_trod {H : Type} {enc : TypeId × Value → H} {W : World} {held : Bool} (n : Nat) (cs : List Value) (y : DataW H × List MemPlace) (h : DataW.trod enc Tryd.prog W 0 (fun _ => true) held n 77 cs = some y) : ∃ (a0 : Int) (a1 : Int) (a2 : Int) (a3 : Int) (a4 : Int) (a5 : Int) (a6 : Int), cs = [.int .u8 a0, .int .u8 a1, .int .u8 a2, .int .u8 a3, .int .u8 a4, .int .u8 a5, .int .i64 a6] ∧ y.1 = .agg [.lit (.int .u8 a0), .lit (.int .u8 a1), .lit (.int .u8 a2), .lit (.int .u8 a3), .lit (.int .u8 a4), .lit (.int .u8 a5), .lit (.int .i64 a6)] ∧ (Lit.int .u8 a0).wf = true ∧ (Lit.int .u8 a1).wf = true ∧ (Lit.int .u8 a2).wf = true ∧ (Lit.int .u8 a3).wf = true ∧ (Lit.int .u8 a4).wf = true ∧ (Lit.int .u8 a5).wf = true ∧ (Lit.int .i64 a6).wf = true := by
  obtain ⟨xs, m, _, hy, hl, hlen, hf⟩ := DataW.trod_struct Tryd.underlying77 h
  have hc : Tryd.prog.cellsOf 77 = 7 := by kernel_rfl
  have hx : xs.length = 7 := hlen
  have e3 : Tryd.prog.cellsOf 3 = 1 := by kernel_rfl
  have e5 : Tryd.prog.cellsOf 5 = 1 := by kernel_rfl
  rw [hc] at hl
  match cs, hl, xs, hx with
  | [u0, u1, u2, u3, u4, u5, u6], _, [x0, x1, x2, x3, x4, x5, x6], _ =>
    have h0 : DataW.trod enc Tryd.prog W 0 (fun _ => true) held m 5 (List.take (Tryd.prog.cellsOf 5) (List.drop (0) [u0, u1, u2, u3, u4, u5, u6])) = some x0 := hf 0 _ rfl
    have h1 : DataW.trod enc Tryd.prog W 0 (fun _ => true) held m 5 (List.take (Tryd.prog.cellsOf 5) (List.drop (1) [u0, u1, u2, u3, u4, u5, u6])) = some x1 := hf 1 _ rfl
    have h2 : DataW.trod enc Tryd.prog W 0 (fun _ => true) held m 5 (List.take (Tryd.prog.cellsOf 5) (List.drop (2) [u0, u1, u2, u3, u4, u5, u6])) = some x2 := hf 2 _ rfl
    have h3 : DataW.trod enc Tryd.prog W 0 (fun _ => true) held m 5 (List.take (Tryd.prog.cellsOf 5) (List.drop (3) [u0, u1, u2, u3, u4, u5, u6])) = some x3 := hf 3 _ rfl
    have h4 : DataW.trod enc Tryd.prog W 0 (fun _ => true) held m 5 (List.take (Tryd.prog.cellsOf 5) (List.drop (4) [u0, u1, u2, u3, u4, u5, u6])) = some x4 := hf 4 _ rfl
    have h5 : DataW.trod enc Tryd.prog W 0 (fun _ => true) held m 5 (List.take (Tryd.prog.cellsOf 5) (List.drop (5) [u0, u1, u2, u3, u4, u5, u6])) = some x5 := hf 5 _ rfl
    have h6 : DataW.trod enc Tryd.prog W 0 (fun _ => true) held m 3 (List.take (Tryd.prog.cellsOf 3) (List.drop (6) [u0, u1, u2, u3, u4, u5, u6])) = some x6 := hf 6 _ rfl
    rw [e5] at h0
    rw [e5] at h1
    rw [e5] at h2
    rw [e5] at h3
    rw [e5] at h4
    rw [e5] at h5
    rw [e3] at h6
    obtain ⟨a0, c0, d0, w0⟩ := DataW.trod_int Tryd.underlying5 h0
    obtain ⟨a1, c1, d1, w1⟩ := DataW.trod_int Tryd.underlying5 h1
    obtain ⟨a2, c2, d2, w2⟩ := DataW.trod_int Tryd.underlying5 h2
    obtain ⟨a3, c3, d3, w3⟩ := DataW.trod_int Tryd.underlying5 h3
    obtain ⟨a4, c4, d4, w4⟩ := DataW.trod_int Tryd.underlying5 h4
    obtain ⟨a5, c5, d5, w5⟩ := DataW.trod_int Tryd.underlying5 h5
    obtain ⟨a6, c6, d6, w6⟩ := DataW.trod_int Tryd.underlying3 h6
    simp at c0 c1 c2 c3 c4 c5 c6
    refine ⟨a0, a1, a2, a3, a4, a5, a6, by rw [c0, c1, c2, c3, c4, c5, c6], ?_, w0, w1, w2, w3, w4, w5, w6⟩
    rw [hy, d0, d1, d2, d3, d4, d5, d6]; rfl
theorem wf8 {n : Int} (h : (Lit.int .u8 n).wf = true) : b8 n := by simpa [b8, Lit.wf, IntKind.min, IntKind.max, IntKind.signed, IntKind.bits] using h
theorem st_trod {H : Type} {enc : TypeId × Value → H} {W : World} {held : Bool} (n : Nat) (cs : List Value) (y : DataW H × List MemPlace) (h : DataW.trod enc Tryd.prog W 0 (fun _ => true) held n 77 cs = some y) : ∃ x : Stp, StOk x ∧ cs = x.cs := by
  obtain ⟨k, t, c, x, y', z, w, rfl, _, w0, w1, w2, w3, w4, w5, w6⟩ := step_trod _ _ _ h
  exact ⟨⟨k, t, c, x, y', z, w⟩, ⟨wf8 w0, wf8 w1, wf8 w2, wf8 w3, wf8 w4, wf8 w5, wf64 w6⟩, rfl⟩
end Go.Sl
namespace Go.Sl
open Go Go.ChangeShapes Go.WideShapes Go.ChangeAt Go.RowKit
set_option linter.unusedVariables false
variable {H : Type} {enc : TypeId × Value → H} {P : Program} {W : World} {t e : TypeId} {v : Value} {d : DataW H} {p : List MemPlace}
end Go.Sl
namespace Go.Proofs.YteomgcebbjoklaaDoor.graphQuiet
open Go.ChangeShapes Go.WideShapes Go.ChangeAt Go.RowKit Go.Sl
set_option linter.unusedVariables false
abbrev w1 : Array Value := #[.agg #[.int .u8 0, .int .u8 0, .int .u8 0, .int .u8 0, .int .u8 0, .int .u8 0], .slice none 0 0, .slice none 0 0]
theorem reads (os : Os) {H : Type} (enc : TypeId × Value → H) : ∃ ds places, DataW.whole enc Tryd.prog ((laidWorld os).forCall (fun _ _ => 0) ⟨#[], w1, []⟩).memory Tryd.f6.params.toList Rows.graphQuietSpec.vars false w1.toList 8 = some (ds, [], places) :=
  ⟨[.agg [.lit (.int .u8 0), .lit (.int .u8 0), .lit (.int .u8 0), .lit (.int .u8 0), .lit (.int .u8 0), .lit (.int .u8 0)], .nil, .nil], [], by kernel_rfl⟩
set_option maxRecDepth 100000 in
theorem lifted (os : Os) (started : os.Started) (H : Type) (enc : TypeId × Value → H) (F : Stop.Interp) :
    ReturnsInHanded {} Tryd.checked os 6 .any ((OpenSpec.ofChange Rows.graphQuietSpec).preRow enc Tryd.prog Tryd.f6 Rows.graphQuietRow.domain false Rows.graphQuietRow.laid) (((OpenSpec.ofChange Rows.graphQuietSpec).at F).post enc Tryd.prog Tryd.f6 false true false false) := by
  obtain ⟨ds, places, hx⟩ := reads os enc
  refine law_laid (C := Tryd.checked) own started (by kernel_rfl) Tryd.func6 laidOut (by kernel_rfl) rfl Tryd.underlying4 rfl (fun ds h => ?_)
    (witness_row_atRef (enc := enc) (C := Tryd.checked) false (laidWorld os) w1 rfl (by kernel_rfl) (by kernel_rfl) (by kernel_rfl)
      (OpenSpec.preRow_of_cond 8 hx (by kernel_rfl) (fun k hk => by cases hk) (by kernel_rfl) (laid_met os _))) (fun W base vs ds p hL hsz hval hA => ?_)
  · rw [Tryd.params6] at h
    match ds, h with
    | [d0, d1, d2], _ => rfl
  · rw [Tryd.params6] at hA hval hsz
    obtain ⟨gb, go, gc, hK⟩ := kinds_of hL
    obtain ⟨v0, vs0, d0, ds0, p0, q0, rfl, rfl, rfl, h0, r0⟩ := trodAll_cons hA
    obtain ⟨v1, vs1, d1, ds1, p1, q1, rfl, rfl, rfl, h1, r1⟩ := trodAll_cons r0
    obtain ⟨v2, vs2, d2, ds2, p2, q2, rfl, rfl, rfl, h2, r2⟩ := trodAll_cons r1
    obtain ⟨rfl, rfl, rfl⟩ := trodAll_nil r2
    obtain ⟨cs0, n0, rfl, t0⟩ := open_agg (.inr ⟨_, _, Tryd.underlying22⟩) (hval 0 _ v0 rfl rfl) h0
    obtain ⟨l0, l1, l2, l3, l4, l5, rfl, _, wl0, wl1, wl2, wl3, wl4, wl5⟩ := l6_trod _ _ _ t0
    obtain ⟨au, cu, lu, rfl, hlu, hrou, hwu, hnu, hnilu, hcapu⟩ := ro_slice0 (s := 7) (dc := Stp.cs) (I := StOk) Tryd.underlying38 (by kernel_rfl) (fun _ => rfl) (st_trod) (hval 1 _ v1 rfl rfl) h1
    have hbu : Tryd.checked.prog.bytesOf 77 = 16 := by kernel_rfl
    have zu := hnu.sized hsz (j := 1) rfl rfl Tryd.underlying38
    rw [hbu] at zu
    obtain ⟨av, cv, lv, rfl, hlv, hrov, hwv, hnv⟩ := ro_ints Tryd.underlying50 Tryd.underlying3 (by kernel_rfl) (hval 2 _ v2 rfl rfl) h2
    have hbv : Tryd.checked.prog.bytesOf 3 = 8 := by kernel_rfl
    have zv := hnv.sized hsz (j := 2) rfl rfl Tryd.underlying50
    rw [hbv] at zv
    exact ⟨Unit, _, GraphQuiet_fn hK l0 l1 l2 l3 l4 l5 (wf_u8 wl0) (wf_u8 wl1) (wf_u8 wl2) (wf_u8 wl3) (wf_u8 wl4) (wf_u8 wl5) au cu lu (by omega) hrou hwu av cv lv (by omega) hrov, fun _ => Ent.refl _⟩
theorem said : Rows.GraphQuietSaid :=
  OpenClaim.holds_of_cond 6 Tryd.f6 rfl rfl rfl rfl rfl rfl rfl ⟨rfl, rfl, rfl, rfl, rfl⟩ rfl rfl rfl rfl rfl (by kernel_rfl) Tryd.func6 (by kernel_rfl)
    (of_decide_eq_true (by kernel_rfl)) (by unfold Func.isWrapper; first | (rw [if_pos (by decide +kernel)]; kernel_rfl) | (rw [if_neg (by decide +kernel)]; exact ⟨rfl, rfl⟩))
    (fun os started H enc _ F => by rw [OpenClaim.pre_eq_preRow]; exact lifted os started H enc F)
theorem plain (f : FuncId) (fn : Func) (hf : Tryd.pinned.checked.prog.funcNamed "hawthorn/hawthornlaw20.GraphQuiet" = some f) (hfn : Tryd.pinned.checked.prog.funcs[f]? = some fn) :
    false = Tryd.pinned.checked.prog.looks [] ∧ ∀ (j : Nat) t, fn.params[j]? = some t → Tryd.pinned.checked.prog.wantsStandIn t = false := by
  obtain rfl : f = 6 := Option.some.inj ((show Tryd.prog.funcNamed "hawthorn/hawthornlaw20.GraphQuiet" = some 6 by kernel_rfl).symm.trans hf) |>.symm
  obtain rfl : fn = Tryd.f6 := (Option.some.inj (Tryd.func6.symm.trans hfn)).symm
  refine ⟨by kernel_rfl, fun j t ht => ?_⟩
  rw [Tryd.params6] at ht
  have : t ∈ (#[22, 38, 50] : Array TypeId) := Array.mem_of_getElem? ht
  have hall : ((#[22, 38, 50] : Array TypeId).all fun t => !Tryd.prog.wantsStandIn t) = true := by kernel_rfl
  have h2 := Array.all_eq_true'.1 hall t this
  have h3 : Tryd.prog.wantsStandIn t = false := by simpa using h2
  exact h3
end Go.Proofs.YteomgcebbjoklaaDoor.graphQuiet
namespace Go.Proofs.YteomgcebbjoklaaDoor
open Go.Sl
theorem graphQuiet_proved : Rows.GraphQuietCardSaid :=
  Claim7.holds_tied_plain_at .later [] _ _ _ _ graphQuiet.said (fun _ h => by cases h) (by kernel_rfl) (fun _ h => by cases h) graphQuiet_row_tie rfl ⟨rfl, rfl⟩ (by kernel_rfl) rfl graphQuiet.plain (by kernel_rfl)
#print axioms graphQuiet_proved
end Go.Proofs.YteomgcebbjoklaaDoor
