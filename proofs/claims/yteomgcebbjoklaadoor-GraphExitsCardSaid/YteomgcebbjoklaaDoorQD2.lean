/- Part 2. -/
import Derived.WalkKit
import Derived.RangeFuncRecord
import Derived.RangeFuncLeaves
import Derived.OrdersIn
import Derived.TacticsIn
import Derived.KernelRfl
import Derived.Test.YteomgcebbjoklaaDoorChecked
import Derived.ProofKit
import Derived.OpenShut
import Derived.Carry
import Derived.HandedShaped
import Derived.RangeFuncNested
import Derived.LoopNIn
import Derived.Lib.Strings
import Derived.Deep.DeepHandedRow
import Derived.Lib.LaidTab
import Derived.SevenTiedAt
import Derived.Deep.DeepWitnessRowRef
import Derived.Laws.StructEq
import Derived.Laws.BytesString
import Derived.Laws.LoneSync
import Derived.Test.YteomgcebbjoklaaDoorQD1
namespace Go.Sl
open Go Go.Proofs
set_option linter.unusedVariables false
set_option linter.unusedSimpArgs false
attribute [local irreducible] andI orI xorI IntKind.wrap star Ow Cw Pk Pu Dw DwF thenQ blockQ retQ loudQ loudF Cr rdr Dt loudT
structure Stp where
  k : Int
  t : Int
  c : Int
  x : Int
  y : Int
  z : Int
  w : Int
instance : Inhabited Stp := ⟨⟨0, 0, 0, 0, 0, 0, 0⟩⟩
abbrev Stp.cs (d : Stp) : List Value := [.int .u8 d.k, .int .u8 d.t, .int .u8 d.c, .int .u8 d.x, .int .u8 d.y, .int .u8 d.z, vi d.w]
instance : Fl Stp.cs 7 := ⟨fun _ => rfl, by decide, fun _ => rfl⟩
abbrev b8 (n : Int) : Prop := 0 ≤ n ∧ n ≤ 255
structure StOk (d : Stp) : Prop where
  k : b8 d.k
  t : b8 d.t
  c : b8 d.c
  x : b8 d.x
  y : b8 d.y
  z : b8 d.z
  w : i64 d.w
theorem itOk_mk {a b c d e f : Int} (h : i64 a ∧ i64 b ∧ i64 c ∧ i64 d ∧ i64 e ∧ i64 f) : ItOk ⟨a, b, c, d, e, f⟩ := fun q hq => by
  obtain ⟨h0, h1, h2, h3, h4, h5⟩ := h
  have hq' : q = a ∨ q = b ∨ q = c ∨ q = d ∨ q = e ∨ q = f := by simpa only [pl, List.mem_cons, List.not_mem_nil, or_false] using hq
  clear hq
  rcases hq' with e | e | e | e | e | e
  all_goals (rw [e]; assumption)
abbrev ktb : List Value := [vi 0, vi 0, vi 1, vi 1, vi 1, vi 2, vi 3, vi 4, vi 5, vi 5, vi 6, vi 7, vi 8, vi 8, vi 0, vi 1]
theorem ktb_at (j : Nat) (h : j < 16) : ∃ v, ktb[0 + j * 1]? = some (vi v) ∧ 0 ≤ v ∧ v ≤ 8 := by
  rcases (by omega : j = 0 ∨ j = 1 ∨ j = 2 ∨ j = 3 ∨ j = 4 ∨ j = 5 ∨ j = 6 ∨ j = 7 ∨ j = 8 ∨ j = 9 ∨ j = 10 ∨ j = 11 ∨ j = 12 ∨ j = 13 ∨ j = 14 ∨ j = 15) with rfl | rfl | rfl | rfl | rfl | rfl | rfl | rfl | rfl | rfl | rfl | rfl | rfl | rfl | rfl | rfl
  all_goals exact ⟨_, rfl, by decide, by decide⟩
set_option maxHeartbeats 8000000 in
theorem Item_fn (s : Stp) (h : StOk s) : Fn Tryd.prog 28 [.agg s.cs.toArray] emp { x : It // ItOk x } (fun q => .agg q.1.cs.toArray) (fun _ => emp) := by
  obtain ⟨k, t, c, x, y, z, w⟩ := s
  obtain ⟨hk, ht, hc, hx, hy, hz, hw⟩ := h
  simp only at hk ht hc hx hy hz hw ⊢
  have g0 : 0 ≤ andI .u8 k 15 ∧ andI .u8 k 15 ≤ 15 := and_u8 k 15 (by decide)
  have g1 : 0 ≤ andI .u8 t 3 ∧ andI .u8 t 3 ≤ 3 := and_u8 t 3 (by decide)
  have g2 : 0 ≤ andI .u8 x 3 ∧ andI .u8 x 3 ≤ 3 := and_u8 x 3 (by decide)
  have g3 : 0 ≤ andI .u8 y 3 ∧ andI .u8 y 3 ≤ 3 := and_u8 y 3 (by decide)
  have g4 : 0 ≤ andI .u8 z 3 ∧ andI .u8 z 3 ≤ 3 := and_u8 z 3 (by decide)
  obtain ⟨j, ha0⟩ : ∃ j : Nat, andI .u8 k 15 = (j : Int) := ⟨(andI .u8 k 15).toNat, by omega⟩
  obtain ⟨m1, ha1⟩ : ∃ j : Int, andI .u8 t 3 = j := ⟨_, rfl⟩
  obtain ⟨m2, ha2⟩ : ∃ j : Int, andI .u8 x 3 = j := ⟨_, rfl⟩
  obtain ⟨m3, ha3⟩ : ∃ j : Int, andI .u8 y 3 = j := ⟨_, rfl⟩
  obtain ⟨m4, ha4⟩ : ∃ j : Int, andI .u8 z 3 = j := ⟨_, rfl⟩
  have b0 : j < 16 := by omega
  have b1 : 0 ≤ m1 ∧ m1 ≤ 3 := by omega
  have b2 : 0 ≤ m2 ∧ m2 ≤ 3 := by omega
  have b3 : 0 ≤ m3 ∧ m3 ≤ 3 := by omega
  have b4 : 0 ≤ m4 ∧ m4 ≤ 3 := by omega
  clear g0 g1 g2 g3 g4
  obtain ⟨kv, hkv, hkb⟩ := ktb_at j b0
  have hkb' : i64 kv := by omega
  have hB : i64 m1 ∧ i64 (c % 13) ∧ i64 m2 ∧ i64 m3 ∧ i64 m4 := by omega
  obtain ⟨hB1, hB2, hB3, hB4, hB5⟩ := hB
  (refine Fn.of Tryd.func28 rfl (by kernel_rfl) Tryd.ntmps28 rfl (fun F => ?_))
  refine Cw.heq (emp_star F) ?_
  (repeat' (first | (refine Ow.is ?_; (first | refine Ow.nil ?_ | refine Ow.pu rfl (Pu.assign rfl) ?_ | refine Ow.pu rfl (Pu.fld rfl) ?_ | (refine Ow.kLoad ?_; (first | refine Ow.pu rfl (Pu.load_cl rfl pkA rfl) ?_ | refine Ow.pu rfl (Pu.loadN_cl rfl pkA rfl rfl) ?_)) | (refine Ow.kBin ?_; (first | (refine Ow.b_geq ?_; first | refine Ow.pu rfl (Pu.ge_t rfl rfl (by omega)) ?_ | refine Ow.pu rfl (Pu.ge_f rfl rfl (by omega)) ?_ | refine Ow.sp rfl (by exact Pu.ge rfl rfl) (fun hc => ?_) (fun hc => ?_)) | (refine Ow.b_eql ?_; (first | refine Ow.sp rfl (by exact Pu.eqI rfl rfl) (fun hc => ?_) (fun hc => ?_))) | (refine Ow.b_rem ?_; refine Ow.pu rfl (Pu.rem_p rfl rfl (by omega)) ?_))) | (refine Ow.kStore ?_; (first | refine Ow.store_cl rfl rfl rfl (by (first | rfl | assumption | exact Subtype.property _)) pkA rfl ?_ | refine Ow.storeN rfl rfl rfl rfl rfl pkA rfl ?_)) | refine Ow.alloc rfl (fun bx => ?_) | refine Ow.box rfl rfl rfl (fun bx => ?_))) | (refine Cw.is ?_; (first | refine Cw.seq ?_ | refine Cw.region ?_ | refine Cw.cond_t rfl rfl ?_ | refine Cw.cond_f rfl rfl ?_ | refine Cw.block ?_ | refine Cw.ret ?_ | refine Cw.skip ?_)) | (first | refine thenQ_n ?_ | refine blockQ_n ?_)))
  rename_i b7
  refine Cw.drawT (cl b7 [.int .u8 k, .int .u8 t, .int .u8 c, .int .u8 x, .int .u8 y, .int .u8 z, vi w]) (.q 1 (.q 2 (.q 3 (.q 6 (.q 7 (.q 8 (.q 9 (.q 10 (.q 11 (.q 12 (.q 13 (.q 14 (.q 15 (.q 16 (.q 17 (.q 18 (.q 19 (.q 20 (.q 21 (.q 22 (.q 23 (.q 24 (.q 25 (.b 0 27 (.q 4 (.b 5 27 (.q 26 (.seq [(27, true), (28, true)])) (.seq [(5, true), (26, false), (28, true)]))) (.seq [(0, true), (4, false), (5, true), (26, false), (28, true)]))))))))))))))))))))))))) pkA mixed (by kernel_rfl) ?_
  iterate 23 (refine Dt.q rfl rfl trivial (by (first | exact Pu.move rfl | exact Pu.assign rfl | exact Pu.fld rfl | exact Pu.nilCheck rfl | exact Pu.extract rfl rfl | exact Pu.index_arr rfl rfl (by omega) (by first | rfl | assumption) | exact Pu.makeFunc (by (repeat first | exact Evs.nil | apply Evs.cons rfl)) | (apply Pu.kLookup; first | exact Pu.lookup rfl rfl pkA (by first | assumption | rfl)) | exact Pu.and rfl rfl ha0 | exact Pu.and rfl rfl ha1 | exact Pu.and rfl rfl ha2 | exact Pu.and rfl rfl ha3 | exact Pu.and rfl rfl ha4 | (apply Pu.kLoad; (first | exact Pu.loadN_rof hro pkA rfl (by omega) hx | exact Pu.load_cl rfl pkA rfl | exact Pu.loadN_cl rfl pkA rfl rfl | exact Pu.load_sli rfl pkA (by first | omega | (simp only [List.length_set, List.length_append, List.length_replicate, List.length_cons, List.length_nil]; omega)) | exact Pu.load_rob (by assumption) pkA rfl (by omega) | exact Pu.load_roi (by assumption) pkA rfl (by omega))) | (apply Pu.kIdx; (first | exact Pu.idx_rof hro rfl rfl (by omega) | exact Pu.idx_b rfl rfl (by omega) | exact Pu.idxA_b rfl rfl (by omega) | exact Pu.idx_sln rfl rfl pkA (by simp only [List.length_map, List.length_append, List.length_set, List.length_replicate, List.length_cons, List.length_nil]; omega) | exact Pu.idx_sl rfl rfl pkA (by simp only [List.length_map, List.length_append, List.length_set, List.length_replicate, List.length_cons, List.length_nil]; omega) | exact Pu.idx_roin (by assumption) rfl rfl (by omega) | exact Pu.idx_roi (by assumption) rfl rfl (by omega) | exact Pu.idx_ron (by assumption) rfl rfl (by omega) (by omega) | exact Pu.idx_ro (by assumption) rfl rfl (by omega) (by omega))) | (apply Pu.kConv; (first | exact Pu.conv_i rfl (by omega) | exact Pu.conv_u8 rfl | exact Pu.conv_u64 rfl (by omega))) | (apply Pu.kUn; (first | exact Pu.not rfl | exact Pu.neg_i rfl (by omega))) | (apply Pu.kBin; (first | (apply Pu.b_lss; first | exact Pu.lt_t rfl rfl (by omega) | exact Pu.lt_f rfl rfl (by omega)) | (apply Pu.b_leq; first | exact Pu.le_t rfl rfl (by omega) | exact Pu.le_f rfl rfl (by omega)) | (apply Pu.b_gtr; first | exact Pu.gt_t rfl rfl (by omega) | exact Pu.gt_f rfl rfl (by omega)) | (apply Pu.b_geq; first | exact Pu.ge_t rfl rfl (by omega) | exact Pu.ge_f rfl rfl (by omega)) | (apply Pu.b_eql; (first | exact Pu.eq_t rfl rfl roA | exact Pu.eq_f rfl rfl odA | exact Pu.eqB_same rfl rfl | exact Pu.eqB rfl rfl | exact Pu.eqS_t rfl rfl (by first | rfl | assumption | decide) | exact Pu.eqS_f rfl rfl (by first | assumption | decide) | exact Pu.eqNil rfl rfl)) | (apply Pu.b_neq; (first | exact Pu.ne_t rfl rfl odA | exact Pu.ne_f rfl rfl roA | exact Pu.neB_same rfl rfl | exact Pu.neB rfl rfl | exact Pu.neS_t rfl rfl (by first | assumption | decide) | exact Pu.neS_f rfl rfl (by first | rfl | assumption | decide) | exact Pu.neNil rfl rfl)) | (apply Pu.b_add; exact Pu.add_i rfl rfl (by omega)) | (apply Pu.b_sub; exact Pu.sub_i rfl rfl (by omega)) | (apply Pu.b_mul; exact Pu.mul_i rfl rfl (by omega)) | (apply Pu.b_rem; exact Pu.rem_p rfl rfl (by omega)) | exact Pu.andV rfl rfl)) | (apply Pu.kBuiltin; (first | exact Pu.len_slm rfl pkA | exact Pu.len_sl rfl pkA | exact Pu.len rfl | exact Pu.len_str rfl | exact Pu.max rfl rfl | exact Pu.min rfl rfl | exact Pu.len_map rfl pkA)) | (apply Pu.kPick; (first | exact Pu.pick_t rfl rfl | exact Pu.pick_f rfl rfl)) | (apply Pu.kBuild; (first | exact Pu.bld1 rfl (fun w => by kernel_rfl) | exact Pu.bld2 rfl rfl (fun w => by kernel_rfl) | exact Pu.bld3 rfl rfl rfl (fun w => by kernel_rfl) | exact Pu.bld4 rfl rfl rfl rfl (fun w => by kernel_rfl) | exact Pu.bld5 rfl rfl rfl rfl rfl (fun w => by kernel_rfl) | exact Pu.bld6 rfl rfl rfl rfl rfl rfl (fun w => by kernel_rfl) | exact Pu.bld7 rfl rfl rfl rfl rfl rfl rfl (fun w => by kernel_rfl) | exact Pu.bld8 rfl rfl rfl rfl rfl rfl rfl rfl (fun w => by kernel_rfl) | exact Pu.bld9 rfl rfl rfl rfl rfl rfl rfl rfl rfl (fun w => by kernel_rfl) | exact Pu.bld10 rfl rfl rfl rfl rfl rfl rfl rfl rfl rfl (fun w => by kernel_rfl) | exact Pu.bld11 rfl rfl rfl rfl rfl rfl rfl rfl rfl rfl rfl (fun w => by kernel_rfl) | exact Pu.bld12 rfl rfl rfl rfl rfl rfl rfl rfl rfl rfl rfl rfl (fun w => by kernel_rfl) | exact Pu.bld13 rfl rfl rfl rfl rfl rfl rfl rfl rfl rfl rfl rfl rfl (fun w => by kernel_rfl))))) ?_)
  refine Dt.b rfl rfl trivial trivial ?_ ?_
  · refine Ow.buildSlice (e := 3) (ps := [(0, .const (vi 0)), (1, .const (vi 0)), (2, .const (vi 1)), (3, .const (vi 1)), (4, .const (vi 1)), (5, .const (vi 2)), (6, .const (vi 3)), (7, .const (vi 4)), (8, .const (vi 5)), (9, .const (vi 5)), (10, .const (vi 6)), (11, .const (vi 7)), (12, .const (vi 8)), (13, .const (vi 8)), (14, .const (vi 0)), (15, .const (vi 1))]) (vs := ktb) (cs := ktb) rfl evA (fun w => by kernel_rfl) (fun bs7 => ?_)
    refine Ow.nil ?_
    refine loudT.go pkA ?_
    refine Dt.q rfl rfl trivial (by exact Pu.idxC rfl rfl b0) ?_
    refine Dt.b rfl rfl trivial trivial ?_ ?_
    refine Ow.pu rfl (Pu.load_cl rfl pkA hkv) ?_
    refine Ow.nil ?_
    refine loudT.go pkA ?_
    refine Dt.q rfl rfl trivial (by (first | exact Pu.move rfl | exact Pu.assign rfl | exact Pu.fld rfl | exact Pu.nilCheck rfl | exact Pu.extract rfl rfl | exact Pu.index_arr rfl rfl (by omega) (by first | rfl | assumption) | exact Pu.makeFunc (by (repeat first | exact Evs.nil | apply Evs.cons rfl)) | (apply Pu.kLookup; first | exact Pu.lookup rfl rfl pkA (by first | assumption | rfl)) | exact Pu.and rfl rfl ha0 | exact Pu.and rfl rfl ha1 | exact Pu.and rfl rfl ha2 | exact Pu.and rfl rfl ha3 | exact Pu.and rfl rfl ha4 | (apply Pu.kLoad; (first | exact Pu.loadN_rof hro pkA rfl (by omega) hx | exact Pu.load_cl rfl pkA rfl | exact Pu.loadN_cl rfl pkA rfl rfl | exact Pu.load_sli rfl pkA (by first | omega | (simp only [List.length_set, List.length_append, List.length_replicate, List.length_cons, List.length_nil]; omega)) | exact Pu.load_rob (by assumption) pkA rfl (by omega) | exact Pu.load_roi (by assumption) pkA rfl (by omega))) | (apply Pu.kIdx; (first | exact Pu.idx_rof hro rfl rfl (by omega) | exact Pu.idx_b rfl rfl (by omega) | exact Pu.idxA_b rfl rfl (by omega) | exact Pu.idx_sln rfl rfl pkA (by simp only [List.length_map, List.length_append, List.length_set, List.length_replicate, List.length_cons, List.length_nil]; omega) | exact Pu.idx_sl rfl rfl pkA (by simp only [List.length_map, List.length_append, List.length_set, List.length_replicate, List.length_cons, List.length_nil]; omega) | exact Pu.idx_roin (by assumption) rfl rfl (by omega) | exact Pu.idx_roi (by assumption) rfl rfl (by omega) | exact Pu.idx_ron (by assumption) rfl rfl (by omega) (by omega) | exact Pu.idx_ro (by assumption) rfl rfl (by omega) (by omega))) | (apply Pu.kConv; (first | exact Pu.conv_i rfl (by omega) | exact Pu.conv_u8 rfl | exact Pu.conv_u64 rfl (by omega))) | (apply Pu.kUn; (first | exact Pu.not rfl | exact Pu.neg_i rfl (by omega))) | (apply Pu.kBin; (first | (apply Pu.b_lss; first | exact Pu.lt_t rfl rfl (by omega) | exact Pu.lt_f rfl rfl (by omega)) | (apply Pu.b_leq; first | exact Pu.le_t rfl rfl (by omega) | exact Pu.le_f rfl rfl (by omega)) | (apply Pu.b_gtr; first | exact Pu.gt_t rfl rfl (by omega) | exact Pu.gt_f rfl rfl (by omega)) | (apply Pu.b_geq; first | exact Pu.ge_t rfl rfl (by omega) | exact Pu.ge_f rfl rfl (by omega)) | (apply Pu.b_eql; (first | exact Pu.eq_t rfl rfl roA | exact Pu.eq_f rfl rfl odA | exact Pu.eqB_same rfl rfl | exact Pu.eqB rfl rfl | exact Pu.eqS_t rfl rfl (by first | rfl | assumption | decide) | exact Pu.eqS_f rfl rfl (by first | assumption | decide) | exact Pu.eqNil rfl rfl)) | (apply Pu.b_neq; (first | exact Pu.ne_t rfl rfl odA | exact Pu.ne_f rfl rfl roA | exact Pu.neB_same rfl rfl | exact Pu.neB rfl rfl | exact Pu.neS_t rfl rfl (by first | assumption | decide) | exact Pu.neS_f rfl rfl (by first | rfl | assumption | decide) | exact Pu.neNil rfl rfl)) | (apply Pu.b_add; exact Pu.add_i rfl rfl (by omega)) | (apply Pu.b_sub; exact Pu.sub_i rfl rfl (by omega)) | (apply Pu.b_mul; exact Pu.mul_i rfl rfl (by omega)) | (apply Pu.b_rem; exact Pu.rem_p rfl rfl (by omega)) | exact Pu.andV rfl rfl)) | (apply Pu.kBuiltin; (first | exact Pu.len_slm rfl pkA | exact Pu.len_sl rfl pkA | exact Pu.len rfl | exact Pu.len_str rfl | exact Pu.max rfl rfl | exact Pu.min rfl rfl | exact Pu.len_map rfl pkA)) | (apply Pu.kPick; (first | exact Pu.pick_t rfl rfl | exact Pu.pick_f rfl rfl)) | (apply Pu.kBuild; (first | exact Pu.bld1 rfl (fun w => by kernel_rfl) | exact Pu.bld2 rfl rfl (fun w => by kernel_rfl) | exact Pu.bld3 rfl rfl rfl (fun w => by kernel_rfl) | exact Pu.bld4 rfl rfl rfl rfl (fun w => by kernel_rfl) | exact Pu.bld5 rfl rfl rfl rfl rfl (fun w => by kernel_rfl) | exact Pu.bld6 rfl rfl rfl rfl rfl rfl (fun w => by kernel_rfl) | exact Pu.bld7 rfl rfl rfl rfl rfl rfl rfl (fun w => by kernel_rfl) | exact Pu.bld8 rfl rfl rfl rfl rfl rfl rfl rfl (fun w => by kernel_rfl) | exact Pu.bld9 rfl rfl rfl rfl rfl rfl rfl rfl rfl (fun w => by kernel_rfl) | exact Pu.bld10 rfl rfl rfl rfl rfl rfl rfl rfl rfl rfl (fun w => by kernel_rfl) | exact Pu.bld11 rfl rfl rfl rfl rfl rfl rfl rfl rfl rfl rfl (fun w => by kernel_rfl) | exact Pu.bld12 rfl rfl rfl rfl rfl rfl rfl rfl rfl rfl rfl rfl (fun w => by kernel_rfl) | exact Pu.bld13 rfl rfl rfl rfl rfl rfl rfl rfl rfl rfl rfl rfl rfl (fun w => by kernel_rfl))))) ?_
    refine Dt.seq ?_
    refine Dw.l rfl trivial ?_
    refine Ow.alloc rfl (fun b9 => ?_)
    refine Ow.nil ?_
    refine loudQ.go pkA ?_
    refine Dw.l rfl trivial ?_
    refine Ow.storeN rfl rfl rfl rfl rfl pkA rfl ?_
    refine Ow.nil ?_
    refine loudQ.go pkA ?_
    refine Dw.nil ?_ rfl
    rotate_left
    refine Ow.alloc rfl (fun b9 => ?_)
    refine Ow.nil ?_
    refine loudT.go pkA ?_
    refine Dt.seq ?_
    refine Dw.l rfl trivial ?_
    refine Ow.pu rfl (Pu.load_cl rfl pkA hkv) ?_
    refine Ow.nil ?_
    refine loudQ.go pkA ?_
    refine Dw.q rfl rfl trivial (by (first | exact Pu.move rfl | exact Pu.assign rfl | exact Pu.fld rfl | exact Pu.nilCheck rfl | exact Pu.extract rfl rfl | exact Pu.index_arr rfl rfl (by omega) (by first | rfl | assumption) | exact Pu.makeFunc (by (repeat first | exact Evs.nil | apply Evs.cons rfl)) | (apply Pu.kLookup; first | exact Pu.lookup rfl rfl pkA (by first | assumption | rfl)) | exact Pu.and rfl rfl ha0 | exact Pu.and rfl rfl ha1 | exact Pu.and rfl rfl ha2 | exact Pu.and rfl rfl ha3 | exact Pu.and rfl rfl ha4 | (apply Pu.kLoad; (first | exact Pu.loadN_rof hro pkA rfl (by omega) hx | exact Pu.load_cl rfl pkA rfl | exact Pu.loadN_cl rfl pkA rfl rfl | exact Pu.load_sli rfl pkA (by first | omega | (simp only [List.length_set, List.length_append, List.length_replicate, List.length_cons, List.length_nil]; omega)) | exact Pu.load_rob (by assumption) pkA rfl (by omega) | exact Pu.load_roi (by assumption) pkA rfl (by omega))) | (apply Pu.kIdx; (first | exact Pu.idx_rof hro rfl rfl (by omega) | exact Pu.idx_b rfl rfl (by omega) | exact Pu.idxA_b rfl rfl (by omega) | exact Pu.idx_sln rfl rfl pkA (by simp only [List.length_map, List.length_append, List.length_set, List.length_replicate, List.length_cons, List.length_nil]; omega) | exact Pu.idx_sl rfl rfl pkA (by simp only [List.length_map, List.length_append, List.length_set, List.length_replicate, List.length_cons, List.length_nil]; omega) | exact Pu.idx_roin (by assumption) rfl rfl (by omega) | exact Pu.idx_roi (by assumption) rfl rfl (by omega) | exact Pu.idx_ron (by assumption) rfl rfl (by omega) (by omega) | exact Pu.idx_ro (by assumption) rfl rfl (by omega) (by omega))) | (apply Pu.kConv; (first | exact Pu.conv_i rfl (by omega) | exact Pu.conv_u8 rfl | exact Pu.conv_u64 rfl (by omega))) | (apply Pu.kUn; (first | exact Pu.not rfl | exact Pu.neg_i rfl (by omega))) | (apply Pu.kBin; (first | (apply Pu.b_lss; first | exact Pu.lt_t rfl rfl (by omega) | exact Pu.lt_f rfl rfl (by omega)) | (apply Pu.b_leq; first | exact Pu.le_t rfl rfl (by omega) | exact Pu.le_f rfl rfl (by omega)) | (apply Pu.b_gtr; first | exact Pu.gt_t rfl rfl (by omega) | exact Pu.gt_f rfl rfl (by omega)) | (apply Pu.b_geq; first | exact Pu.ge_t rfl rfl (by omega) | exact Pu.ge_f rfl rfl (by omega)) | (apply Pu.b_eql; (first | exact Pu.eq_t rfl rfl roA | exact Pu.eq_f rfl rfl odA | exact Pu.eqB_same rfl rfl | exact Pu.eqB rfl rfl | exact Pu.eqS_t rfl rfl (by first | rfl | assumption | decide) | exact Pu.eqS_f rfl rfl (by first | assumption | decide) | exact Pu.eqNil rfl rfl)) | (apply Pu.b_neq; (first | exact Pu.ne_t rfl rfl odA | exact Pu.ne_f rfl rfl roA | exact Pu.neB_same rfl rfl | exact Pu.neB rfl rfl | exact Pu.neS_t rfl rfl (by first | assumption | decide) | exact Pu.neS_f rfl rfl (by first | rfl | assumption | decide) | exact Pu.neNil rfl rfl)) | (apply Pu.b_add; exact Pu.add_i rfl rfl (by omega)) | (apply Pu.b_sub; exact Pu.sub_i rfl rfl (by omega)) | (apply Pu.b_mul; exact Pu.mul_i rfl rfl (by omega)) | (apply Pu.b_rem; exact Pu.rem_p rfl rfl (by omega)) | exact Pu.andV rfl rfl)) | (apply Pu.kBuiltin; (first | exact Pu.len_slm rfl pkA | exact Pu.len_sl rfl pkA | exact Pu.len rfl | exact Pu.len_str rfl | exact Pu.max rfl rfl | exact Pu.min rfl rfl | exact Pu.len_map rfl pkA)) | (apply Pu.kPick; (first | exact Pu.pick_t rfl rfl | exact Pu.pick_f rfl rfl)) | (apply Pu.kBuild; (first | exact Pu.bld1 rfl (fun w => by kernel_rfl) | exact Pu.bld2 rfl rfl (fun w => by kernel_rfl) | exact Pu.bld3 rfl rfl rfl (fun w => by kernel_rfl) | exact Pu.bld4 rfl rfl rfl rfl (fun w => by kernel_rfl) | exact Pu.bld5 rfl rfl rfl rfl rfl (fun w => by kernel_rfl) | exact Pu.bld6 rfl rfl rfl rfl rfl rfl (fun w => by kernel_rfl) | exact Pu.bld7 rfl rfl rfl rfl rfl rfl rfl (fun w => by kernel_rfl) | exact Pu.bld8 rfl rfl rfl rfl rfl rfl rfl rfl (fun w => by kernel_rfl) | exact Pu.bld9 rfl rfl rfl rfl rfl rfl rfl rfl rfl (fun w => by kernel_rfl) | exact Pu.bld10 rfl rfl rfl rfl rfl rfl rfl rfl rfl rfl (fun w => by kernel_rfl) | exact Pu.bld11 rfl rfl rfl rfl rfl rfl rfl rfl rfl rfl rfl (fun w => by kernel_rfl) | exact Pu.bld12 rfl rfl rfl rfl rfl rfl rfl rfl rfl rfl rfl rfl (fun w => by kernel_rfl) | exact Pu.bld13 rfl rfl rfl rfl rfl rfl rfl rfl rfl rfl rfl rfl rfl (fun w => by kernel_rfl))))) ?_
    refine Dw.l rfl trivial ?_
    refine Ow.storeN rfl rfl rfl rfl rfl pkA rfl ?_
    refine Ow.nil ?_
    refine loudQ.go pkA ?_
    refine Dw.nil ?_ rfl
    all_goals (repeat' (first | (refine Ow.is ?_; (first | refine Ow.nil ?_ | refine Ow.pu rfl (Pu.assign rfl) ?_ | refine Ow.pu rfl (Pu.fld rfl) ?_ | (refine Ow.kLoad ?_; (first | refine Ow.pu rfl (Pu.load_cl rfl pkA rfl) ?_ | refine Ow.pu rfl (Pu.loadN_cl rfl pkA rfl rfl) ?_)) | (refine Ow.kBin ?_; (first | (refine Ow.b_geq ?_; first | refine Ow.pu rfl (Pu.ge_t rfl rfl (by omega)) ?_ | refine Ow.pu rfl (Pu.ge_f rfl rfl (by omega)) ?_ | refine Ow.sp rfl (by exact Pu.ge rfl rfl) (fun hc => ?_) (fun hc => ?_)) | (refine Ow.b_eql ?_; (first | refine Ow.sp rfl (by exact Pu.eqI rfl rfl) (fun hc => ?_) (fun hc => ?_))) | (refine Ow.b_rem ?_; refine Ow.pu rfl (Pu.rem_p rfl rfl (by omega)) ?_))) | (refine Ow.kStore ?_; (first | refine Ow.store_cl rfl rfl rfl (by (first | rfl | assumption | exact Subtype.property _)) pkA rfl ?_ | refine Ow.storeN rfl rfl rfl rfl rfl pkA rfl ?_)) | refine Ow.alloc rfl (fun bx => ?_) | refine Ow.box rfl rfl rfl (fun bx => ?_))) | (refine Cw.is ?_; (first | refine Cw.seq ?_ | refine Cw.region ?_ | refine Cw.cond_t rfl rfl ?_ | refine Cw.cond_f rfl rfl ?_ | refine Cw.block ?_ | refine Cw.ret ?_ | refine Cw.skip ?_)) | (first | refine thenQ_n ?_ | refine blockQ_n ?_)))
    all_goals first
      | refine retQ_cN (⟨⟨kv, m1, c % 13, m2, m3, m4⟩, itOk_mk ⟨by assumption, by assumption, by assumption, by assumption, by assumption, by assumption⟩⟩ : { x : It // ItOk x }) Tryd.results28 rfl pkA rfl rfl rfl ?_
      | refine retQ_cN (⟨⟨w, m1, c % 13, m2, m3, m4⟩, itOk_mk ⟨by assumption, by assumption, by assumption, by assumption, by assumption, by assumption⟩⟩ : { x : It // ItOk x }) Tryd.results28 rfl pkA rfl rfl rfl ?_
      | refine retQ_cN (⟨⟨kv, w, c % 13, m2, m3, m4⟩, itOk_mk ⟨by assumption, by assumption, by assumption, by assumption, by assumption, by assumption⟩⟩ : { x : It // ItOk x }) Tryd.results28 rfl pkA rfl rfl rfl ?_
      | refine retQ_cN (⟨⟨kv, m1, w, m2, m3, m4⟩, itOk_mk ⟨by assumption, by assumption, by assumption, by assumption, by assumption, by assumption⟩⟩ : { x : It // ItOk x }) Tryd.results28 rfl pkA rfl rfl rfl ?_
      | refine retQ_cN (⟨⟨kv, m1, c % 13, w, m3, m4⟩, itOk_mk ⟨by assumption, by assumption, by assumption, by assumption, by assumption, by assumption⟩⟩ : { x : It // ItOk x }) Tryd.results28 rfl pkA rfl rfl rfl ?_
      | refine retQ_cN (⟨⟨kv, m1, c % 13, m2, w, m4⟩, itOk_mk ⟨by assumption, by assumption, by assumption, by assumption, by assumption, by assumption⟩⟩ : { x : It // ItOk x }) Tryd.results28 rfl pkA rfl rfl rfl ?_
    all_goals (refine Ent.trans ?_ (Ent.of_eq (emp_star F).symm); ((try simp only [star_assoc]); (repeat (apply Ent.pk; exact pkA)); first | exact Ent.fin pkA | exact Ent.refl _))
  · refine Ow.alloc rfl (fun b9 => ?_)
    refine Ow.nil ?_
    refine loudT.go pkA ?_
    refine Dt.seq ?_
    refine Dw.l rfl trivial ?_
    refine Ow.buildSlice (e := 3) (ps := [(0, .const (vi 0)), (1, .const (vi 0)), (2, .const (vi 1)), (3, .const (vi 1)), (4, .const (vi 1)), (5, .const (vi 2)), (6, .const (vi 3)), (7, .const (vi 4)), (8, .const (vi 5)), (9, .const (vi 5)), (10, .const (vi 6)), (11, .const (vi 7)), (12, .const (vi 8)), (13, .const (vi 8)), (14, .const (vi 0)), (15, .const (vi 1))]) (vs := ktb) (cs := ktb) rfl evA (fun w => by kernel_rfl) (fun bs7 => ?_)
    refine Ow.nil ?_
    refine loudQ.go pkA ?_
    refine Dw.q rfl rfl trivial (by exact Pu.idxC rfl rfl b0) ?_
    refine Dw.l rfl trivial ?_
    refine Ow.pu rfl (Pu.load_cl rfl pkA hkv) ?_
    refine Ow.nil ?_
    refine loudQ.go pkA ?_
    refine Dw.q rfl rfl trivial (by (first | exact Pu.move rfl | exact Pu.assign rfl | exact Pu.fld rfl | exact Pu.nilCheck rfl | exact Pu.extract rfl rfl | exact Pu.index_arr rfl rfl (by omega) (by first | rfl | assumption) | exact Pu.makeFunc (by (repeat first | exact Evs.nil | apply Evs.cons rfl)) | (apply Pu.kLookup; first | exact Pu.lookup rfl rfl pkA (by first | assumption | rfl)) | exact Pu.and rfl rfl ha0 | exact Pu.and rfl rfl ha1 | exact Pu.and rfl rfl ha2 | exact Pu.and rfl rfl ha3 | exact Pu.and rfl rfl ha4 | (apply Pu.kLoad; (first | exact Pu.loadN_rof hro pkA rfl (by omega) hx | exact Pu.load_cl rfl pkA rfl | exact Pu.loadN_cl rfl pkA rfl rfl | exact Pu.load_sli rfl pkA (by first | omega | (simp only [List.length_set, List.length_append, List.length_replicate, List.length_cons, List.length_nil]; omega)) | exact Pu.load_rob (by assumption) pkA rfl (by omega) | exact Pu.load_roi (by assumption) pkA rfl (by omega))) | (apply Pu.kIdx; (first | exact Pu.idx_rof hro rfl rfl (by omega) | exact Pu.idx_b rfl rfl (by omega) | exact Pu.idxA_b rfl rfl (by omega) | exact Pu.idx_sln rfl rfl pkA (by simp only [List.length_map, List.length_append, List.length_set, List.length_replicate, List.length_cons, List.length_nil]; omega) | exact Pu.idx_sl rfl rfl pkA (by simp only [List.length_map, List.length_append, List.length_set, List.length_replicate, List.length_cons, List.length_nil]; omega) | exact Pu.idx_roin (by assumption) rfl rfl (by omega) | exact Pu.idx_roi (by assumption) rfl rfl (by omega) | exact Pu.idx_ron (by assumption) rfl rfl (by omega) (by omega) | exact Pu.idx_ro (by assumption) rfl rfl (by omega) (by omega))) | (apply Pu.kConv; (first | exact Pu.conv_i rfl (by omega) | exact Pu.conv_u8 rfl | exact Pu.conv_u64 rfl (by omega))) | (apply Pu.kUn; (first | exact Pu.not rfl | exact Pu.neg_i rfl (by omega))) | (apply Pu.kBin; (first | (apply Pu.b_lss; first | exact Pu.lt_t rfl rfl (by omega) | exact Pu.lt_f rfl rfl (by omega)) | (apply Pu.b_leq; first | exact Pu.le_t rfl rfl (by omega) | exact Pu.le_f rfl rfl (by omega)) | (apply Pu.b_gtr; first | exact Pu.gt_t rfl rfl (by omega) | exact Pu.gt_f rfl rfl (by omega)) | (apply Pu.b_geq; first | exact Pu.ge_t rfl rfl (by omega) | exact Pu.ge_f rfl rfl (by omega)) | (apply Pu.b_eql; (first | exact Pu.eq_t rfl rfl roA | exact Pu.eq_f rfl rfl odA | exact Pu.eqB_same rfl rfl | exact Pu.eqB rfl rfl | exact Pu.eqS_t rfl rfl (by first | rfl | assumption | decide) | exact Pu.eqS_f rfl rfl (by first | assumption | decide) | exact Pu.eqNil rfl rfl)) | (apply Pu.b_neq; (first | exact Pu.ne_t rfl rfl odA | exact Pu.ne_f rfl rfl roA | exact Pu.neB_same rfl rfl | exact Pu.neB rfl rfl | exact Pu.neS_t rfl rfl (by first | assumption | decide) | exact Pu.neS_f rfl rfl (by first | rfl | assumption | decide) | exact Pu.neNil rfl rfl)) | (apply Pu.b_add; exact Pu.add_i rfl rfl (by omega)) | (apply Pu.b_sub; exact Pu.sub_i rfl rfl (by omega)) | (apply Pu.b_mul; exact Pu.mul_i rfl rfl (by omega)) | (apply Pu.b_rem; exact Pu.rem_p rfl rfl (by omega)) | exact Pu.andV rfl rfl)) | (apply Pu.kBuiltin; (first | exact Pu.len_slm rfl pkA | exact Pu.len_sl rfl pkA | exact Pu.len rfl | exact Pu.len_str rfl | exact Pu.max rfl rfl | exact Pu.min rfl rfl | exact Pu.len_map rfl pkA)) | (apply Pu.kPick; (first | exact Pu.pick_t rfl rfl | exact Pu.pick_f rfl rfl)) | (apply Pu.kBuild; (first | exact Pu.bld1 rfl (fun w => by kernel_rfl) | exact Pu.bld2 rfl rfl (fun w => by kernel_rfl) | exact Pu.bld3 rfl rfl rfl (fun w => by kernel_rfl) | exact Pu.bld4 rfl rfl rfl rfl (fun w => by kernel_rfl) | exact Pu.bld5 rfl rfl rfl rfl rfl (fun w => by kernel_rfl) | exact Pu.bld6 rfl rfl rfl rfl rfl rfl (fun w => by kernel_rfl) | exact Pu.bld7 rfl rfl rfl rfl rfl rfl rfl (fun w => by kernel_rfl) | exact Pu.bld8 rfl rfl rfl rfl rfl rfl rfl rfl (fun w => by kernel_rfl) | exact Pu.bld9 rfl rfl rfl rfl rfl rfl rfl rfl rfl (fun w => by kernel_rfl) | exact Pu.bld10 rfl rfl rfl rfl rfl rfl rfl rfl rfl rfl (fun w => by kernel_rfl) | exact Pu.bld11 rfl rfl rfl rfl rfl rfl rfl rfl rfl rfl rfl (fun w => by kernel_rfl) | exact Pu.bld12 rfl rfl rfl rfl rfl rfl rfl rfl rfl rfl rfl rfl (fun w => by kernel_rfl) | exact Pu.bld13 rfl rfl rfl rfl rfl rfl rfl rfl rfl rfl rfl rfl rfl (fun w => by kernel_rfl))))) ?_
    refine Dw.l rfl trivial ?_
    refine Ow.storeN rfl rfl rfl rfl rfl pkA rfl ?_
    refine Ow.nil ?_
    refine loudQ.go pkA ?_
    refine Dw.nil ?_ rfl
    (repeat' (first | (refine Ow.is ?_; (first | refine Ow.nil ?_ | refine Ow.pu rfl (Pu.assign rfl) ?_ | refine Ow.pu rfl (Pu.fld rfl) ?_ | (refine Ow.kLoad ?_; (first | refine Ow.pu rfl (Pu.load_cl rfl pkA rfl) ?_ | refine Ow.pu rfl (Pu.loadN_cl rfl pkA rfl rfl) ?_)) | (refine Ow.kBin ?_; (first | (refine Ow.b_geq ?_; first | refine Ow.pu rfl (Pu.ge_t rfl rfl (by omega)) ?_ | refine Ow.pu rfl (Pu.ge_f rfl rfl (by omega)) ?_ | refine Ow.sp rfl (by exact Pu.ge rfl rfl) (fun hc => ?_) (fun hc => ?_)) | (refine Ow.b_eql ?_; (first | refine Ow.sp rfl (by exact Pu.eqI rfl rfl) (fun hc => ?_) (fun hc => ?_))) | (refine Ow.b_rem ?_; refine Ow.pu rfl (Pu.rem_p rfl rfl (by omega)) ?_))) | (refine Ow.kStore ?_; (first | refine Ow.store_cl rfl rfl rfl (by (first | rfl | assumption | exact Subtype.property _)) pkA rfl ?_ | refine Ow.storeN rfl rfl rfl rfl rfl pkA rfl ?_)) | refine Ow.alloc rfl (fun bx => ?_) | refine Ow.box rfl rfl rfl (fun bx => ?_))) | (refine Cw.is ?_; (first | refine Cw.seq ?_ | refine Cw.region ?_ | refine Cw.cond_t rfl rfl ?_ | refine Cw.cond_f rfl rfl ?_ | refine Cw.block ?_ | refine Cw.ret ?_ | refine Cw.skip ?_)) | (first | refine thenQ_n ?_ | refine blockQ_n ?_)))
    all_goals first
      | refine retQ_cN (⟨⟨kv, m1, c % 13, m2, m3, m4⟩, itOk_mk ⟨by assumption, by assumption, by assumption, by assumption, by assumption, by assumption⟩⟩ : { x : It // ItOk x }) Tryd.results28 rfl pkA rfl rfl rfl ?_
      | refine retQ_cN (⟨⟨w, m1, c % 13, m2, m3, m4⟩, itOk_mk ⟨by assumption, by assumption, by assumption, by assumption, by assumption, by assumption⟩⟩ : { x : It // ItOk x }) Tryd.results28 rfl pkA rfl rfl rfl ?_
      | refine retQ_cN (⟨⟨kv, w, c % 13, m2, m3, m4⟩, itOk_mk ⟨by assumption, by assumption, by assumption, by assumption, by assumption, by assumption⟩⟩ : { x : It // ItOk x }) Tryd.results28 rfl pkA rfl rfl rfl ?_
      | refine retQ_cN (⟨⟨kv, m1, w, m2, m3, m4⟩, itOk_mk ⟨by assumption, by assumption, by assumption, by assumption, by assumption, by assumption⟩⟩ : { x : It // ItOk x }) Tryd.results28 rfl pkA rfl rfl rfl ?_
      | refine retQ_cN (⟨⟨kv, m1, c % 13, w, m3, m4⟩, itOk_mk ⟨by assumption, by assumption, by assumption, by assumption, by assumption, by assumption⟩⟩ : { x : It // ItOk x }) Tryd.results28 rfl pkA rfl rfl rfl ?_
      | refine retQ_cN (⟨⟨kv, m1, c % 13, m2, w, m4⟩, itOk_mk ⟨by assumption, by assumption, by assumption, by assumption, by assumption, by assumption⟩⟩ : { x : It // ItOk x }) Tryd.results28 rfl pkA rfl rfl rfl ?_
    all_goals (refine Ent.trans ?_ (Ent.of_eq (emp_star F).symm); ((try simp only [star_assoc]); (repeat (apply Ent.pk; exact pkA)); first | exact Ent.fin pkA | exact Ent.refl _))
structure ItS where
  j : Nat
  sv : SV
  L : List It
set_option maxHeartbeats 8000000 in
theorem Items_fn {A : HP} {a : Option Addr} {cap : Nat} {S : List Stp} (hro : Ro A a S.length 7 (S.flatMap Stp.cs)) (hL : S.length ≤ 1000000) (hall : ∀ x ∈ S, StOk x) :
    Fn Tryd.prog 14 [.slice a S.length cap] A (SV × { L : List It // L.length = S.length ∧ ∀ x ∈ L, ItOk x }) (fun q => q.1.v) (fun q => slk 6 q.1.v (q.2.1.flatMap It.cs) * A) := by
  (refine Fn.of Tryd.func14 rfl (by kernel_rfl) Tryd.ntmps14 rfl (fun F => ?_))
  (repeat' (first | (refine Ow.is ?_; (first | refine Ow.nil ?_ | refine Ow.pu rfl (Pu.move rfl) ?_ | refine Ow.pu rfl (Pu.assign rfl) ?_ | (refine Ow.kLoad ?_; (first | refine Ow.pu rfl (Pu.loadN_rof hro pkA rfl (by omega) hx) ?_ | refine Ow.pu rfl (Pu.loadN_cl rfl pkA rfl rfl) ?_)) | (refine Ow.kBin ?_; (first | (refine Ow.b_lss ?_; first | refine Ow.pu rfl (Pu.lt_t rfl rfl (by omega)) ?_ | refine Ow.pu rfl (Pu.lt_f rfl rfl (by omega)) ?_ | refine Ow.sp rfl (by exact Pu.lt rfl rfl) (fun hc => ?_) (fun hc => ?_)) | (refine Ow.b_add ?_; refine Ow.pu rfl (Pu.add_i rfl rfl (by omega)) ?_))) | (refine Ow.kStore ?_; (first | refine Ow.storeN rfl rfl rfl rfl rfl pkA rfl ?_)) | (refine Ow.kIdx ?_; (first | refine Ow.pu rfl (Pu.idx_rof hro rfl rfl (by omega)) ?_)) | (refine Ow.kBuiltin ?_; (first | refine Ow.append_st (f := It.cs) q.1 rfl rfl rfl pkA pkA rfl (by rfl) (by omega) (fun sv => ?_) | refine Ow.pu rfl (Pu.len rfl) ?_)) | (refine Ow.kCall ?_; (first | refine Ow.callE0 evA rfl (Item_fn _ hok) (fun q => Ow.unemp ?_) | fail)) | (refine Ow.kBuildS ?_; (first | refine Ow.bldS1 rfl rfl (fun w => by kernel_rfl) (fun bx => ?_))) | refine Ow.alloc rfl (fun bx => ?_))) | (refine Cw.is ?_; (first | refine Cw.seq ?_ | refine Cw.region ?_ | refine Cw.cond_t rfl rfl ?_ | refine Cw.cond_f rfl rfl ?_ | refine Cw.block ?_ | refine Cw.ret ?_ | refine Cw.exit ?_ | refine Cw.skip ?_)) | (first | refine thenQ_n ?_ | refine thenQ_e ?_ | refine blockQ_n ?_ | refine blockQ_e ?_)))
  refine Cw.addnilS (s := 6) It.cs ?_
  refine Cw.loopF [3, 5, 8, 9, 10, 11, 12, 13, 14, 15, 16, 17] (by (repeat first | exact er_nil | apply er_drop rfl | apply er_keep rfl)) (fun s : ItS => s.j ≤ S.length ∧ s.L.length = s.j ∧ ∀ x ∈ s.L, ItOk x) (fun s => [(3, s.sv.v), (8, vi s.j)]) (fun s => slk 6 s.sv.v (s.L.flatMap It.cs) * (A * F)) (fun s => S.length - s.j) ⟨0, ⟨none, 0, 0⟩, []⟩ ⟨by simp, rfl, by simp⟩ (by (repeat first | exact trivial | refine ⟨rfl, ?_⟩)) (by ((try simp only [star_assoc]); (repeat (apply Ent.pk; exact pkA)); first | exact Ent.fin pkA | exact Ent.refl _)) (fun s hs => ?_)
  obtain ⟨j, ov, L⟩ := s
  obtain ⟨hj, hl, hi⟩ := hs
  simp only at hj hl hi ⊢
  by_cases hlt : j < S.length
  · obtain ⟨x, hx⟩ : ∃ x, S[j]! = x := ⟨_, rfl⟩
    have hok : StOk x := hall x (by rw [← hx, getElem!_pos S j hlt]; exact List.getElem_mem _)
    have hL' : L.length ≤ 1000000 := by omega
    (repeat' (first | (refine Ow.is ?_; (first | refine Ow.nil ?_ | refine Ow.pu rfl (Pu.move rfl) ?_ | refine Ow.pu rfl (Pu.assign rfl) ?_ | (refine Ow.kLoad ?_; (first | refine Ow.pu rfl (Pu.loadN_rof hro pkA rfl (by omega) hx) ?_ | refine Ow.pu rfl (Pu.loadN_cl rfl pkA rfl rfl) ?_)) | (refine Ow.kBin ?_; (first | (refine Ow.b_lss ?_; first | refine Ow.pu rfl (Pu.lt_t rfl rfl (by omega)) ?_ | refine Ow.pu rfl (Pu.lt_f rfl rfl (by omega)) ?_ | refine Ow.sp rfl (by exact Pu.lt rfl rfl) (fun hc => ?_) (fun hc => ?_)) | (refine Ow.b_add ?_; refine Ow.pu rfl (Pu.add_i rfl rfl (by omega)) ?_))) | (refine Ow.kStore ?_; (first | refine Ow.storeN rfl rfl rfl rfl rfl pkA rfl ?_)) | (refine Ow.kIdx ?_; (first | refine Ow.pu rfl (Pu.idx_rof hro rfl rfl (by omega)) ?_)) | (refine Ow.kBuiltin ?_; (first | refine Ow.append_st (f := It.cs) q.1 rfl rfl rfl pkA pkA rfl (by rfl) (by omega) (fun sv => ?_) | refine Ow.pu rfl (Pu.len rfl) ?_)) | (refine Ow.kCall ?_; (first | refine Ow.callE0 evA rfl (Item_fn _ hok) (fun q => Ow.unemp ?_) | fail)) | (refine Ow.kBuildS ?_; (first | refine Ow.bldS1 rfl rfl (fun w => by kernel_rfl) (fun bx => ?_))) | refine Ow.alloc rfl (fun bx => ?_))) | (refine Cw.is ?_; (first | refine Cw.seq ?_ | refine Cw.region ?_ | refine Cw.cond_t rfl rfl ?_ | refine Cw.cond_f rfl rfl ?_ | refine Cw.block ?_ | refine Cw.ret ?_ | refine Cw.exit ?_ | refine Cw.skip ?_)) | (first | refine thenQ_n ?_ | refine thenQ_e ?_ | refine blockQ_n ?_ | refine blockQ_e ?_)))
    refine ⟨rfl, ⟨j + 1, sv, L ++ [q.1]⟩, ⟨by simp only; omega, by simp [hl], fun x hx => ?_⟩, by simp only; omega, by (repeat first | exact trivial | refine ⟨rfl, ?_⟩), by ((try simp only [star_assoc]); (repeat (apply Ent.pk; exact pkA)); first | exact Ent.fin pkA | exact Ent.refl _)⟩
    rcases List.mem_append.1 hx with h | h
    · exact hi x h
    · rw [List.mem_singleton.1 h]; exact q.2
  · obtain rfl : j = S.length := by omega
    (repeat' (first | (refine Ow.is ?_; (first | refine Ow.nil ?_ | refine Ow.pu rfl (Pu.move rfl) ?_ | refine Ow.pu rfl (Pu.assign rfl) ?_ | (refine Ow.kLoad ?_; (first | refine Ow.pu rfl (Pu.loadN_rof hro pkA rfl (by omega) hx) ?_ | refine Ow.pu rfl (Pu.loadN_cl rfl pkA rfl rfl) ?_)) | (refine Ow.kBin ?_; (first | (refine Ow.b_lss ?_; first | refine Ow.pu rfl (Pu.lt_t rfl rfl (by omega)) ?_ | refine Ow.pu rfl (Pu.lt_f rfl rfl (by omega)) ?_ | refine Ow.sp rfl (by exact Pu.lt rfl rfl) (fun hc => ?_) (fun hc => ?_)) | (refine Ow.b_add ?_; refine Ow.pu rfl (Pu.add_i rfl rfl (by omega)) ?_))) | (refine Ow.kStore ?_; (first | refine Ow.storeN rfl rfl rfl rfl rfl pkA rfl ?_)) | (refine Ow.kIdx ?_; (first | refine Ow.pu rfl (Pu.idx_rof hro rfl rfl (by omega)) ?_)) | (refine Ow.kBuiltin ?_; (first | refine Ow.append_st (f := It.cs) q.1 rfl rfl rfl pkA pkA rfl (by rfl) (by omega) (fun sv => ?_) | refine Ow.pu rfl (Pu.len rfl) ?_)) | (refine Ow.kCall ?_; (first | refine Ow.callE0 evA rfl (Item_fn _ hok) (fun q => Ow.unemp ?_) | fail)) | (refine Ow.kBuildS ?_; (first | refine Ow.bldS1 rfl rfl (fun w => by kernel_rfl) (fun bx => ?_))) | refine Ow.alloc rfl (fun bx => ?_))) | (refine Cw.is ?_; (first | refine Cw.seq ?_ | refine Cw.region ?_ | refine Cw.cond_t rfl rfl ?_ | refine Cw.cond_f rfl rfl ?_ | refine Cw.block ?_ | refine Cw.ret ?_ | refine Cw.exit ?_ | refine Cw.skip ?_)) | (first | refine thenQ_n ?_ | refine thenQ_e ?_ | refine blockQ_n ?_ | refine blockQ_e ?_)))
    refine retQ_v (⟨ov, L, hl, hi⟩ : SV × { L : List It // L.length = S.length ∧ ∀ x ∈ L, ItOk x }) Tryd.results14 rfl rfl ?_
    ((try simp only [star_assoc]); (repeat (apply Ent.pk; exact pkA)); first | exact Ent.fin pkA | exact Ent.refl _)
end Go.Sl
namespace Go.Sl
open Go Go.Proofs
set_option linter.unusedVariables false
set_option linter.unusedSimpArgs false
attribute [local irreducible] star Ow Cw Pk Pu Dw thenQ blockQ retQ loudQ Cr
def thr (b : Nat) (regs stack : List Int) (room : Int) : HP := ex fun x : SV × SV => cl b [x.1.v, x.2.v, .int .i64 room] * (slk 1 x.1.v (regs.map vi) * slk 1 x.2.v (stack.map vi))
theorem thr_ex (b : Nat) (regs stack : List Int) (room : Int) : thr b regs stack room = ex fun x : SV × SV => cl b [x.1.v, x.2.v, .int .i64 room] * (slk 1 x.1.v (regs.map vi) * slk 1 x.2.v (stack.map vi)) := rfl
theorem thr_mk (b : Nat) (regs stack : List Int) (room : Int) (x y : SV) : Ent (cl b [x.v, y.v, .int .i64 room] * (slk 1 x.v (regs.map vi) * slk 1 y.v (stack.map vi))) (thr b regs stack room) :=
  Ent.ex (A := fun x : SV × SV => cl b [x.1.v, x.2.v, .int .i64 room] * (slk 1 x.1.v (regs.map vi) * slk 1 x.2.v (stack.map vi))) (x, y)
attribute [local irreducible] thr
variable (b : Nat) (regs stack : List Int) (room : Int)
theorem Full_t (h : room ≤ stack.length) : Fn Tryd.prog 72 [.pointer (some ⟨b, 0, none⟩)] (thr b regs stack room) Unit (fun _ => .bool true) (fun _ => thr b regs stack room) := by
  (refine Fn.of Tryd.func72 rfl (by kernel_rfl) Tryd.ntmps72 rfl (fun F => ?_))
  refine Cw.opn (thr_ex _ _ _ _) (fun x => ?_)
  (refine Cw.heq (by simp only [star_assoc, emp_star, star_emp]; exact rfl) ?_)
  (repeat' (first | (refine Ow.is ?_; (first | refine Ow.nil ?_ | refine Ow.pu rfl (Pu.move rfl) ?_ | refine Ow.pu rfl (Pu.assign rfl) ?_ | refine Ow.pu rfl (Pu.fld rfl) ?_ | refine Ow.pu rfl (Pu.nilCheck rfl) ?_)) | (refine Cw.is ?_; (first | refine Cw.seq ?_ | refine Cw.region ?_ | refine Cw.ret ?_ | refine Cw.drawL (n := 13) (id := 1) [(0, false), (1, false), (2, false), (3, false), (4, false), (5, false), (6, false), (7, false), (8, false), (9, false), (10, false)] mixed (by kernel_rfl) ?_)) | (first | refine thenQ_n ?_) | (refine Dw.is ?_; (first | refine Dw.q rfl rfl trivial (by (first | exact Pu.move rfl | exact Pu.assign rfl | exact Pu.fld rfl | exact Pu.nilCheck rfl | (apply Pu.kLoad; (first | exact Pu.load_cl rfl pkA rfl)) | (apply Pu.kBin; (first | (apply Pu.b_geq; first | exact Pu.ge_t rfl rfl (by omega) | exact Pu.ge_f rfl rfl (by omega)))) | (apply Pu.kBuiltin; (first | exact Pu.len_slm rfl pkA)))) ?_ | refine Dw.q rfl rfl ⟨_, _, rfl, rfl, rfl⟩ (by (first | exact Pu.move rfl | exact Pu.assign rfl | exact Pu.fld rfl | exact Pu.nilCheck rfl | (apply Pu.kLoad; (first | exact Pu.load_cl rfl pkA rfl)) | (apply Pu.kBin; (first | (apply Pu.b_geq; first | exact Pu.ge_t rfl rfl (by omega) | exact Pu.ge_f rfl rfl (by omega)))) | (apply Pu.kBuiltin; (first | exact Pu.len_slm rfl pkA)))) ?_ | refine Dw.nilE ?_ rfl))))
  refine retQ_v () Tryd.results72 rfl rfl ?_; refine Ent.trans ?_ (Ent.left (thr_mk b regs stack room x.1 x.2)); ((try simp only [star_assoc]); (repeat (apply Ent.pk; exact pkA)); first | exact Ent.fin pkA | exact Ent.refl _)
theorem Full_f (h : stack.length < room) : Fn Tryd.prog 72 [.pointer (some ⟨b, 0, none⟩)] (thr b regs stack room) Unit (fun _ => .bool false) (fun _ => thr b regs stack room) := by
  (refine Fn.of Tryd.func72 rfl (by kernel_rfl) Tryd.ntmps72 rfl (fun F => ?_))
  refine Cw.opn (thr_ex _ _ _ _) (fun x => ?_)
  (refine Cw.heq (by simp only [star_assoc, emp_star, star_emp]; exact rfl) ?_)
  (repeat' (first | (refine Ow.is ?_; (first | refine Ow.nil ?_ | refine Ow.pu rfl (Pu.move rfl) ?_ | refine Ow.pu rfl (Pu.assign rfl) ?_ | refine Ow.pu rfl (Pu.fld rfl) ?_ | refine Ow.pu rfl (Pu.nilCheck rfl) ?_)) | (refine Cw.is ?_; (first | refine Cw.seq ?_ | refine Cw.region ?_ | refine Cw.ret ?_ | refine Cw.drawL (n := 13) (id := 1) [(0, false), (1, false), (2, false), (3, false), (4, false), (5, false), (6, false), (7, false), (8, false), (9, false), (10, false)] mixed (by kernel_rfl) ?_)) | (first | refine thenQ_n ?_) | (refine Dw.is ?_; (first | refine Dw.q rfl rfl trivial (by (first | exact Pu.move rfl | exact Pu.assign rfl | exact Pu.fld rfl | exact Pu.nilCheck rfl | (apply Pu.kLoad; (first | exact Pu.load_cl rfl pkA rfl)) | (apply Pu.kBin; (first | (apply Pu.b_geq; first | exact Pu.ge_t rfl rfl (by omega) | exact Pu.ge_f rfl rfl (by omega)))) | (apply Pu.kBuiltin; (first | exact Pu.len_slm rfl pkA)))) ?_ | refine Dw.q rfl rfl ⟨_, _, rfl, rfl, rfl⟩ (by (first | exact Pu.move rfl | exact Pu.assign rfl | exact Pu.fld rfl | exact Pu.nilCheck rfl | (apply Pu.kLoad; (first | exact Pu.load_cl rfl pkA rfl)) | (apply Pu.kBin; (first | (apply Pu.b_geq; first | exact Pu.ge_t rfl rfl (by omega) | exact Pu.ge_f rfl rfl (by omega)))) | (apply Pu.kBuiltin; (first | exact Pu.len_slm rfl pkA)))) ?_ | refine Dw.nilE ?_ rfl))))
  refine retQ_v () Tryd.results72 rfl rfl ?_; refine Ent.trans ?_ (Ent.left (thr_mk b regs stack room x.1 x.2)); ((try simp only [star_assoc]); (repeat (apply Ent.pk; exact pkA)); first | exact Ent.fin pkA | exact Ent.refl _)
theorem Reg_t (i : Int) (h : 0 ≤ i ∧ i < regs.length) : Fn Tryd.prog 59 [.pointer (some ⟨b, 0, none⟩), vi i] (thr b regs stack room) Unit (fun _ => .tuple #[vi regs[i.toNat]!, vi 0]) (fun _ => thr b regs stack room) := by
  (refine Fn.of Tryd.func59 rfl (by kernel_rfl) Tryd.ntmps59 rfl (fun F => ?_))
  refine Cw.opn (thr_ex _ _ _ _) (fun x => ?_)
  (refine Cw.heq (by simp only [star_assoc, emp_star, star_emp]; exact rfl) ?_)
  (repeat' (first | (refine Ow.is ?_; (first | refine Ow.nil ?_ | refine Ow.pu rfl (Pu.move rfl) ?_ | refine Ow.pu rfl (Pu.assign rfl) ?_ | refine Ow.pu rfl (Pu.fld rfl) ?_ | refine Ow.pu rfl (Pu.nilCheck rfl) ?_ | (refine Ow.kGuard ?_; (first | refine Ow.guard_yes rfl rfl rfl ?_)) | (refine Ow.kLoad ?_; (first | refine Ow.pu rfl (Pu.load_cl rfl pkA rfl) ?_ | refine Ow.pu rfl (Pu.load_sli rfl pkA (by first | omega | (simp only [List.length_set, List.length_append, List.length_replicate, List.length_cons, List.length_nil]; omega))) ?_)) | (refine Ow.kBin ?_; (first | (refine Ow.b_lss ?_; first | refine Ow.pu rfl (Pu.lt_t rfl rfl (by omega)) ?_ | refine Ow.pu rfl (Pu.lt_f rfl rfl (by omega)) ?_ | refine Ow.sp rfl (by exact Pu.lt rfl rfl) (fun hc => ?_) (fun hc => ?_)) | (refine Ow.b_geq ?_; first | refine Ow.pu rfl (Pu.ge_t rfl rfl (by omega)) ?_ | refine Ow.pu rfl (Pu.ge_f rfl rfl (by omega)) ?_ | refine Ow.sp rfl (by exact Pu.ge rfl rfl) (fun hc => ?_) (fun hc => ?_)))) | (refine Ow.kPick ?_; (first | refine Ow.pu rfl (Pu.pick_f rfl rfl) ?_)) | (refine Ow.kIdx ?_; (first | refine Ow.pu rfl (Pu.idx_sl rfl rfl pkA (by simp only [List.length_map, List.length_append, List.length_set, List.length_replicate, List.length_cons, List.length_nil]; omega)) ?_)) | (refine Ow.kBuiltin ?_; (first | refine Ow.pu rfl (Pu.len_slm rfl pkA) ?_)))) | (refine Cw.is ?_; (first | refine Cw.seq ?_ | refine Cw.region ?_ | refine Cw.cond_f rfl rfl ?_ | refine Cw.ret ?_ | refine Cw.skip ?_)) | (first | refine thenQ_n ?_)))
  refine retQ_v2 () Tryd.results59 rfl rfl rfl ?_; refine Ent.trans ?_ (Ent.left (thr_mk b regs stack room x.1 x.2)); ((try simp only [star_assoc]); (repeat (apply Ent.pk; exact pkA)); first | exact Ent.fin pkA | exact Ent.refl _)
theorem Reg_f (i : Int) (h : ¬ (0 ≤ i ∧ i < regs.length)) : Fn Tryd.prog 59 [.pointer (some ⟨b, 0, none⟩), vi i] (thr b regs stack room) Unit (fun _ => .tuple #[vi 0, vi 4]) (fun _ => thr b regs stack room) := by
  (refine Fn.of Tryd.func59 rfl (by kernel_rfl) Tryd.ntmps59 rfl (fun F => ?_))
  refine Cw.opn (thr_ex _ _ _ _) (fun x => ?_)
  (refine Cw.heq (by simp only [star_assoc, emp_star, star_emp]; exact rfl) ?_)
  (repeat' (first | (refine Ow.is ?_; (first | refine Ow.nil ?_ | refine Ow.pu rfl (Pu.move rfl) ?_ | refine Ow.pu rfl (Pu.assign rfl) ?_ | refine Ow.pu rfl (Pu.fld rfl) ?_ | refine Ow.pu rfl (Pu.nilCheck rfl) ?_ | (refine Ow.kGuard ?_; (first | refine Ow.guard_yes rfl rfl rfl ?_ | refine Ow.guard_no rfl rfl rfl rfl ?_)) | (refine Ow.kLoad ?_; (first | refine Ow.pu rfl (Pu.load_cl rfl pkA rfl) ?_)) | (refine Ow.kBin ?_; (first | (refine Ow.b_lss ?_; first | refine Ow.pu rfl (Pu.lt_t rfl rfl (by omega)) ?_ | refine Ow.pu rfl (Pu.lt_f rfl rfl (by omega)) ?_ | refine Ow.sp rfl (by exact Pu.lt rfl rfl) (fun hc => ?_) (fun hc => ?_)) | (refine Ow.b_geq ?_; first | refine Ow.pu rfl (Pu.ge_t rfl rfl (by omega)) ?_ | refine Ow.pu rfl (Pu.ge_f rfl rfl (by omega)) ?_ | refine Ow.sp rfl (by exact Pu.ge rfl rfl) (fun hc => ?_) (fun hc => ?_)))) | (refine Ow.kPick ?_; (first | refine Ow.pu rfl (Pu.pick_t rfl rfl) ?_ | refine Ow.pu rfl (Pu.pick_f rfl rfl) ?_)) | (refine Ow.kBuiltin ?_; (first | refine Ow.pu rfl (Pu.len_slm rfl pkA) ?_)))) | (refine Cw.is ?_; (first | refine Cw.seq ?_ | refine Cw.region ?_ | refine Cw.cond_t rfl rfl ?_ | refine Cw.ret ?_)) | (first | refine thenQ_n ?_ | refine thenQ_r ?_)))
  all_goals (refine retQ_v2 () Tryd.results59 rfl rfl rfl ?_; refine Ent.trans ?_ (Ent.left (thr_mk b regs stack room x.1 x.2)); ((try simp only [star_assoc]); (repeat (apply Ent.pk; exact pkA)); first | exact Ent.fin pkA | exact Ent.refl _))
theorem SetReg_t (i r : Int) (h : 0 ≤ i ∧ i < regs.length) : Fn Tryd.prog 46 [.pointer (some ⟨b, 0, none⟩), vi i, vi r] (thr b regs stack room) Unit (fun _ => vi 0) (fun _ => thr b (regs.set i.toNat r) stack room) := by
  (refine Fn.of Tryd.func46 rfl (by kernel_rfl) Tryd.ntmps46 rfl (fun F => ?_))
  (repeat' (first | (refine Ow.is ?_; (first | refine Ow.nil ?_ | refine Ow.pu rfl (Pu.move rfl) ?_ | refine Ow.pu rfl (Pu.assign rfl) ?_ | refine Ow.pu rfl (Pu.fld rfl) ?_ | refine Ow.pu rfl (Pu.nilCheck rfl) ?_ | refine Ow.pu rfl (Pu.extract rfl rfl) ?_ | (refine Ow.kLoad ?_; (first | refine Ow.pu rfl (Pu.load_cl rfl pkA rfl) ?_)) | (refine Ow.kBin ?_; (first | (refine Ow.b_eql ?_; (first | refine Ow.pu rfl (Pu.eq_t rfl rfl roA) ?_)))) | (refine Ow.kStore ?_; (first | refine Ow.store_sli rfl rfl rfl pkA (by first | omega | (simp only [List.length_set, List.length_append, List.length_replicate, List.length_cons, List.length_nil]; omega)) ?_)) | (refine Ow.kIdx ?_; (first | refine Ow.pu rfl (Pu.idx_sl rfl rfl pkA (by simp only [List.length_map, List.length_append, List.length_set, List.length_replicate, List.length_cons, List.length_nil]; omega)) ?_)) | (refine Ow.kCall ?_; (first | refine Ow.callE evA pkA rfl (Reg_t _ _ _ _ _ (by omega)) (fun _ => ?_) | fail)))) | (refine Cw.is ?_; (first | refine Cw.seq ?_ | refine Cw.region ?_ | refine Cw.cond_t rfl rfl ?_ | refine Cw.ret ?_)) | (first | refine thenQ_n ?_)))
  refine Ow.opn (thr_ex _ _ _ _) (fun x => ?_)
  (refine Ow.heq (by simp only [star_assoc, emp_star, star_emp]; exact rfl) ?_)
  (repeat' (first | (refine Ow.is ?_; (first | refine Ow.nil ?_ | refine Ow.pu rfl (Pu.move rfl) ?_ | refine Ow.pu rfl (Pu.assign rfl) ?_ | refine Ow.pu rfl (Pu.fld rfl) ?_ | refine Ow.pu rfl (Pu.nilCheck rfl) ?_ | refine Ow.pu rfl (Pu.extract rfl rfl) ?_ | (refine Ow.kLoad ?_; (first | refine Ow.pu rfl (Pu.load_cl rfl pkA rfl) ?_)) | (refine Ow.kBin ?_; (first | (refine Ow.b_eql ?_; (first | refine Ow.pu rfl (Pu.eq_t rfl rfl roA) ?_)))) | (refine Ow.kStore ?_; (first | refine Ow.store_sli rfl rfl rfl pkA (by first | omega | (simp only [List.length_set, List.length_append, List.length_replicate, List.length_cons, List.length_nil]; omega)) ?_)) | (refine Ow.kIdx ?_; (first | refine Ow.pu rfl (Pu.idx_sl rfl rfl pkA (by simp only [List.length_map, List.length_append, List.length_set, List.length_replicate, List.length_cons, List.length_nil]; omega)) ?_)) | (refine Ow.kCall ?_; (first | refine Ow.callE evA pkA rfl (Reg_t _ _ _ _ _ (by omega)) (fun _ => ?_) | fail)))) | (refine Cw.is ?_; (first | refine Cw.seq ?_ | refine Cw.region ?_ | refine Cw.cond_t rfl rfl ?_ | refine Cw.ret ?_)) | (first | refine thenQ_n ?_)))
  refine retQ_v () Tryd.results46 rfl rfl ?_; refine Ent.trans ?_ (Ent.left (thr_mk b (regs.set i.toNat r) stack room x.1 x.2)); ((try simp only [star_assoc]); (repeat (apply Ent.pk; exact pkA)); first | exact Ent.fin pkA | exact Ent.refl _)
theorem Push_t (r : Int) (h : stack.length < room) (hl : stack.length < 1000000) : Fn Tryd.prog 62 [.pointer (some ⟨b, 0, none⟩), vi r] (thr b regs stack room) Unit (fun _ => vi 0) (fun _ => thr b regs (stack ++ [r]) room) := by
  (refine Fn.of Tryd.func62 rfl (by kernel_rfl) Tryd.ntmps62 rfl (fun F => ?_))
  (repeat' (first | (refine Ow.is ?_; (first | refine Ow.nil ?_ | refine Ow.pu rfl (Pu.move rfl) ?_ | refine Ow.pu rfl (Pu.assign rfl) ?_ | refine Ow.pu rfl (Pu.fld rfl) ?_ | refine Ow.pu rfl (Pu.nilCheck rfl) ?_ | (refine Ow.kLoad ?_; (first | refine Ow.pu rfl (Pu.load_cl rfl pkA rfl) ?_)) | (refine Ow.kStore ?_; (first | refine Ow.store_cl rfl rfl rfl (by (first | rfl | assumption | exact Subtype.property _)) pkA rfl ?_)) | (refine Ow.kBuiltin ?_; (first | refine Ow.append_sli rfl rfl rfl pkA ((rdSl_cli (l2 := [_]) rfl).of_pk pkA) (by first | (simp; done) | (simp; omega)) (fun sv => ?_))) | (refine Ow.kCall ?_; (first | refine Ow.callE evA pkA rfl (Full_f _ _ _ _ (by omega)) (fun _ => ?_) | fail)) | (refine Ow.kBuildS ?_; (first | refine Ow.bldS1 rfl rfl (fun w => by kernel_rfl) (fun bx => ?_))))) | (refine Cw.is ?_; (first | refine Cw.seq ?_ | refine Cw.region ?_ | refine Cw.cond_f rfl rfl ?_ | refine Cw.ret ?_ | refine Cw.skip ?_)) | (first | refine thenQ_n ?_)))
  refine Ow.opn (thr_ex _ _ _ _) (fun x => ?_)
  (refine Ow.heq (by simp only [star_assoc, emp_star, star_emp]; exact rfl) ?_)
  (repeat' (first | (refine Ow.is ?_; (first | refine Ow.nil ?_ | refine Ow.pu rfl (Pu.move rfl) ?_ | refine Ow.pu rfl (Pu.assign rfl) ?_ | refine Ow.pu rfl (Pu.fld rfl) ?_ | refine Ow.pu rfl (Pu.nilCheck rfl) ?_ | (refine Ow.kLoad ?_; (first | refine Ow.pu rfl (Pu.load_cl rfl pkA rfl) ?_)) | (refine Ow.kStore ?_; (first | refine Ow.store_cl rfl rfl rfl (by (first | rfl | assumption | exact Subtype.property _)) pkA rfl ?_)) | (refine Ow.kBuiltin ?_; (first | refine Ow.append_sli rfl rfl rfl pkA ((rdSl_cli (l2 := [_]) rfl).of_pk pkA) (by first | (simp; done) | (simp; omega)) (fun sv => ?_))) | (refine Ow.kCall ?_; (first | refine Ow.callE evA pkA rfl (Full_f _ _ _ _ (by omega)) (fun _ => ?_) | fail)) | (refine Ow.kBuildS ?_; (first | refine Ow.bldS1 rfl rfl (fun w => by kernel_rfl) (fun bx => ?_))))) | (refine Cw.is ?_; (first | refine Cw.seq ?_ | refine Cw.region ?_ | refine Cw.cond_f rfl rfl ?_ | refine Cw.ret ?_ | refine Cw.skip ?_)) | (first | refine thenQ_n ?_)))
  refine retQ_v () Tryd.results62 rfl rfl ?_; refine Ent.trans ?_ (Ent.left (thr_mk b regs _ room x.1 sv)); ((try simp only [star_assoc]); (repeat (apply Ent.pk; exact pkA)); first | exact Ent.fin pkA | exact Ent.refl _)
theorem Push_f (r : Int) (h : room ≤ stack.length) : Fn Tryd.prog 62 [.pointer (some ⟨b, 0, none⟩), vi r] (thr b regs stack room) Unit (fun _ => vi 9) (fun _ => thr b regs stack room) := by
  (refine Fn.of Tryd.func62 rfl (by kernel_rfl) Tryd.ntmps62 rfl (fun F => ?_))
  (repeat' (first | (refine Ow.is ?_; (first | refine Ow.nil ?_ | refine Ow.pu rfl (Pu.move rfl) ?_ | refine Ow.pu rfl (Pu.assign rfl) ?_ | (refine Ow.kCall ?_; (first | refine Ow.callE evA pkA rfl (Full_t _ _ _ _ (by omega)) (fun _ => ?_) | fail)))) | (refine Cw.is ?_; (first | refine Cw.seq ?_ | refine Cw.region ?_ | refine Cw.cond_t rfl rfl ?_ | refine Cw.ret ?_)) | (first | refine thenQ_n ?_ | refine thenQ_r ?_)))
  refine retQ_v () Tryd.results62 rfl rfl ?_; ((try simp only [star_assoc]); (repeat (apply Ent.pk; exact pkA)); first | exact Ent.fin pkA | exact Ent.refl _)
theorem New_fn (regs stack : Int) (hr : regs ≤ 1000000) : Fn Tryd.prog 40 [vi regs, vi stack] emp Nat (fun b => .pointer (some ⟨b, 0, none⟩)) (fun b => thr b (List.replicate (max regs 0).toNat 0) [] (max stack 0)) := by
  (refine Fn.of Tryd.func40 rfl (by kernel_rfl) Tryd.ntmps40 rfl (fun F => ?_))
  refine Cw.heq (emp_star F) ?_
  obtain ⟨m, hm⟩ : ∃ m : Nat, max regs 0 = m := ⟨(max regs 0).toNat, by omega⟩
  rw [hm]
  (repeat' (first | (refine Ow.is ?_; (first | refine Ow.nil ?_ | refine Ow.pu rfl (Pu.move rfl) ?_ | refine Ow.pu rfl (Pu.assign rfl) ?_ | (refine Ow.kBuiltin ?_; (first | refine Ow.pu rfl (Pu.max rfl rfl) ?_)) | (refine Ow.kBuild ?_; (first | refine Ow.pu rfl (Pu.bld2 rfl rfl (fun w => by kernel_rfl)) ?_)) | refine Ow.box rfl rfl rfl (fun bx => ?_))) | (refine Cw.is ?_; (first | refine Cw.seq ?_ | refine Cw.region ?_ | refine Cw.ret ?_)) | (first | refine thenQ_n ?_)))
  rw [hm]
  refine Ow.makeSlice rfl rfl rfl (by omega) (by rfl) (fun v => ?_)
  (repeat' (first | (refine Ow.is ?_; (first | refine Ow.nil ?_ | refine Ow.pu rfl (Pu.move rfl) ?_ | refine Ow.pu rfl (Pu.assign rfl) ?_ | (refine Ow.kBuiltin ?_; (first | refine Ow.pu rfl (Pu.max rfl rfl) ?_)) | (refine Ow.kBuild ?_; (first | refine Ow.pu rfl (Pu.bld2 rfl rfl (fun w => by kernel_rfl)) ?_)) | refine Ow.box rfl rfl rfl (fun bx => ?_))) | (refine Cw.is ?_; (first | refine Cw.seq ?_ | refine Cw.region ?_ | refine Cw.ret ?_)) | (first | refine thenQ_n ?_)))
  refine retQ_v bx Tryd.results40 rfl rfl ?_
  refine Ent.trans ?_ (Ent.left (thr_mk bx _ _ _ v ⟨none, 0, 0⟩))
  rw [rep_one, Int.toNat_natCast, List.map_replicate]
  refine Ent.addnil 1 ?_
  ((try simp only [star_assoc]); (repeat (apply Ent.pk; exact pkA)); first | exact Ent.fin pkA | exact Ent.refl _)
end Go.Sl
namespace Go.Sl
open Go Go.Proofs
set_option linter.unusedVariables false
set_option linter.unusedSimpArgs false
attribute [local irreducible] star Ow Cw Pk Pu Dw thenQ blockQ retQ loudQ Cr
/-! the roots -/
def nz (l : List Int) : List Int := l.filter fun z => decide (z ≠ 0)
def cnt (l : List Int) (p : Nat) : Nat := (nz (l.take p)).length
theorem nz_append (a b : List Int) : nz (a ++ b) = nz a ++ nz b := by simp [nz]
theorem cnt_all (l : List Int) : cnt l l.length = (nz l).length := by simp [cnt]
theorem cnt_step (l : List Int) (p : Nat) (hp : p < l.length) : (l[p]! = 0 → cnt l (p + 1) = cnt l p) ∧ (l[p]! ≠ 0 → cnt l (p + 1) = cnt l p + 1 ∧ cnt l p < (nz l).length ∧ (nz l)[cnt l p]! = l[p]!) := by
  have e1 : l.take (p + 1) = l.take p ++ [l[p]!] := by rw [List.take_add_one]; simp [hp]
  have e2 : l = l.take p ++ l[p]! :: l.drop (p + 1) := by
    have h1 : l[p]! = l[p] := by simp [hp]
    rw [h1]; simp
  constructor
  · intro h
    unfold cnt
    rw [e1, nz_append, h]; simp [nz]
  · intro h
    have e3 : nz [l[p]!] = [l[p]!] := by simp only [nz, List.filter_cons, List.filter_nil, decide_eq_true h, if_true]
    have e4 : nz l = nz (l.take p) ++ (l[p]! :: nz (l.drop (p + 1))) := by
      have : nz l = nz (l.take p ++ ([l[p]!] ++ l.drop (p + 1))) := by rw [List.singleton_append, ← e2]
      rw [this, nz_append, nz_append, e3, List.singleton_append]
    refine ⟨?_, ?_, ?_⟩
    · unfold cnt; rw [e1, nz_append, e3]; simp
    · unfold cnt; rw [e4]; simp
    · unfold cnt; rw [e4]; simp
theorem Roots_fn (b : Nat) : Fn Tryd.prog 53 [.pointer (some ⟨b, 0, none⟩)] emp Nat (fun c => .func (.func 68) #[] #[.pointer (some ⟨c, 0, none⟩)]) (fun c => cl c [.pointer (some ⟨b, 0, none⟩)]) := by
  (refine Fn.of Tryd.func53 rfl (by kernel_rfl) Tryd.ntmps53 rfl (fun F => ?_))
  refine Cw.heq (emp_star F) ?_
  (repeat' (first | (refine Ow.is ?_; (first | refine Ow.nil ?_ | refine Ow.pu rfl (Pu.assign rfl) ?_ | refine Ow.box rfl rfl rfl (fun bx => ?_) | refine Ow.pu rfl (Pu.makeFunc (by (repeat first | exact Evs.nil | apply Evs.cons rfl))) ?_)) | (refine Cw.is ?_; (first | refine Cw.seq ?_ | refine Cw.region ?_ | refine Cw.ret ?_)) | (first | refine thenQ_n ?_)))
  refine retQ_v bx Tryd.results53 rfl rfl ?_
  ((try simp only [star_assoc]); (repeat (apply Ent.pk; exact pkA)); first | exact Ent.fin pkA | exact Ent.refl _)
set_option maxHeartbeats 4000000 in
theorem RootsIt (b c : Nat) (regs stack : List Int) (room : Int) (hlen : (regs ++ stack).length < 1000000) (U : Nat → HP) (y : Value) (L : HP) (X : Fin (nz (regs ++ stack)).length → HP)
    (hy : ∀ i : Fin (nz (regs ++ stack)).length, Yc Tryd.prog y [vi (nz (regs ++ stack))[i.1]!] (U i.1 * L) (fun c => bif c then U (i.1 + 1) * L else X i)) :
    Fn Tryd.prog 68 (y :: [.pointer (some ⟨c, 0, none⟩)]) (cl c [.pointer (some ⟨b, 0, none⟩)] * (thr b regs stack room * U 0) * L) (Option (Fin (nz (regs ++ stack)).length)) (fun _ => .tuple #[])
      (itPost (cl c [.pointer (some ⟨b, 0, none⟩)] * (thr b regs stack room * U (nz (regs ++ stack)).length) * L) (fun i => cl c [.pointer (some ⟨b, 0, none⟩)] * thr b regs stack room * X i)) := by
  (refine Fn.of Tryd.func68 rfl (by kernel_rfl) Tryd.ntmps68 rfl (fun F => ?_))
  refine Cw.heq (show _ = thr b regs stack room * (cl c [.pointer (some ⟨b, 0, none⟩)] * (U 0 * (L * F))) by ac_rfl) ?_
  refine Cw.opn (thr_ex _ _ _ _) (fun x => ?_)
  (refine Cw.heq (by simp only [star_assoc, emp_star, star_emp]; exact rfl) ?_)
  (repeat' (first | (refine Ow.is ?_; (first | refine Ow.nil ?_ | refine Ow.pu rfl (Pu.move rfl) ?_ | refine Ow.pu rfl (Pu.assign rfl) ?_ | refine Ow.pu rfl (Pu.fld rfl) ?_ | refine Ow.pu rfl (Pu.nilCheck rfl) ?_ | (refine Ow.kGuard ?_; (first | refine Ow.guard_yes rfl rfl rfl ?_ | refine Ow.guard_no rfl rfl rfl rfl ?_)) | (refine Ow.kLoad ?_; (first | refine Ow.pu rfl (Pu.load_cl rfl pkA rfl) ?_ | refine Ow.pu rfl (Pu.load_sli rfl pkA (by first | omega | (simp only [List.length_set, List.length_append, List.length_replicate, List.length_cons, List.length_nil]; omega))) ?_)) | (refine Ow.kBin ?_; (first | (refine Ow.b_lss ?_; first | refine Ow.pu rfl (Pu.lt_t rfl rfl (by omega)) ?_ | refine Ow.pu rfl (Pu.lt_f rfl rfl (by omega)) ?_ | refine Ow.sp rfl (by exact Pu.lt rfl rfl) (fun hc => ?_) (fun hc => ?_)) | (refine Ow.b_neq ?_; (first | refine Ow.pu rfl (Pu.ne_t rfl rfl odA) ?_ | refine Ow.pu rfl (Pu.ne_f rfl rfl roA) ?_)) | (refine Ow.b_add ?_; refine Ow.pu rfl (Pu.add_i rfl rfl (by omega)) ?_))) | (refine Ow.kPick ?_; (first | refine Ow.pu rfl (Pu.pick_t rfl rfl) ?_ | refine Ow.pu rfl (Pu.pick_f rfl rfl) ?_)) | (refine Ow.kUn ?_; (first | refine Ow.pu rfl (Pu.not rfl) ?_)) | (refine Ow.kIdx ?_; (first | refine Ow.pu rfl (Pu.idx_sln rfl rfl pkA (by simp only [List.length_map, List.length_append, List.length_set, List.length_replicate, List.length_cons, List.length_nil]; omega)) ?_)) | (refine Ow.kBuiltin ?_; (first | refine Ow.pu rfl (Pu.len_slm rfl pkA) ?_)) | refine Ow.pu rfl (Pu.index_arr rfl rfl (by omega) (by first | rfl | assumption)) ?_)) | (refine Cw.is ?_; (first | refine Cw.seq ?_ | refine Cw.region ?_ | refine Cw.cond_t rfl rfl ?_ | refine Cw.cond_f rfl rfl ?_ | refine Cw.block ?_ | refine Cw.ret ?_ | refine Cw.exit ?_ | refine Cw.skip ?_ | refine Cw.drawL (n := 35) (id := 0) [(0, false), (1, false), (2, false), (3, false), (4, false), (5, false), (6, false), (7, false), (8, false), (9, false)] mixed (by kernel_rfl) ?_)) | (first | refine thenQ_n ?_ | refine thenQ_r ?_ | refine thenQ_e ?_ | refine blockQ_n ?_ | refine blockQ_r ?_ | refine blockQ_e ?_) | (refine Dw.is ?_; (first | refine Dw.q rfl rfl trivial (by (first | exact Pu.move rfl | exact Pu.assign rfl | exact Pu.fld rfl | exact Pu.nilCheck rfl | exact Pu.index_arr rfl rfl (by omega) (by first | rfl | assumption) | (apply Pu.kLoad; (first | exact Pu.load_cl rfl pkA rfl | exact Pu.load_sli rfl pkA (by first | omega | (simp only [List.length_set, List.length_append, List.length_replicate, List.length_cons, List.length_nil]; omega)))) | (apply Pu.kBuild; (first | exact Pu.bld2 rfl rfl (fun w => by kernel_rfl))))) ?_ | refine Dw.q rfl rfl ⟨_, _, rfl, rfl, rfl⟩ (by (first | exact Pu.move rfl | exact Pu.assign rfl | exact Pu.fld rfl | exact Pu.nilCheck rfl | exact Pu.index_arr rfl rfl (by omega) (by first | rfl | assumption) | (apply Pu.kLoad; (first | exact Pu.load_cl rfl pkA rfl | exact Pu.load_sli rfl pkA (by first | omega | (simp only [List.length_set, List.length_append, List.length_replicate, List.length_cons, List.length_nil]; omega)))) | (apply Pu.kBuild; (first | exact Pu.bld2 rfl rfl (fun w => by kernel_rfl))))) ?_ | refine Dw.nilE ?_ rfl))))
  have base : ∀ i : Nat, i < 2 → ∃ (sv : SV) (l : List Int) (R' : HP) (p : Nat), [x.1.v, x.2.v][i]? = some sv.v ∧ slk 1 x.1.v (regs.map vi) * slk 1 x.2.v (stack.map vi) = slk 1 sv.v (l.map vi) * R' ∧
      p = (if i = 0 then 0 else regs.length) ∧ p + l.length = (if i + 1 = 1 then regs.length else (regs ++ stack).length) ∧ ∀ j, j < l.length → (regs ++ stack)[p + j]! = l[j]! := fun i hi => by
    rcases (show i = 0 ∨ i = 1 by omega) with rfl | rfl
    · exact ⟨x.1, regs, slk 1 x.2.v (stack.map vi), 0, rfl, rfl, rfl, by simp, fun j hj => by simp [List.getElem?_append, hj]⟩
    · exact ⟨x.2, stack, slk 1 x.1.v (regs.map vi), regs.length, rfl, star_comm _ _, rfl, by simp, fun j hj => by simp [List.getElem?_append, show ¬ regs.length + j < regs.length by omega]⟩
  refine Cw.loopI (fun i : Nat => i ≤ 2) (fun i => [(0, y), (15, .agg [x.1.v, x.2.v].toArray), (16, vi i)])
    (fun i => U (cnt (regs ++ stack) (if i = 0 then 0 else if i = 1 then regs.length else (regs ++ stack).length)) * (L * (slk 1 x.1.v (regs.map vi) * slk 1 x.2.v (stack.map vi) * (cl b [x.1.v, x.2.v, .int .i64 room] * (cl c [.pointer (some ⟨b, 0, none⟩)] * F)))))
    (fun i => 2 - i) 0 (by omega) (by (repeat first | exact trivial | refine ⟨rfl, ?_⟩)) (by
      refine Ent.of_eq ?_
      rw [if_pos rfl, show cnt (regs ++ stack) 0 = 0 by simp [cnt, nz]]
      ac_rfl) (fun i hi => ?_)
  by_cases hi2 : i < 2
  · obtain ⟨sv, l, R', p, hsv, hpk, hp0, hp1, hpl⟩ := base i hi2
    rw [hpk]
    have hll : l.length < 1000000 := by have := hp1; rw [List.length_append] at hlen this; split at this <;> omega
    refine Cw.heq (show _ = slk 1 sv.v (l.map vi) * (U (cnt (regs ++ stack) p) * (L * (R' * (cl b [x.1.v, x.2.v, .int .i64 room] * (cl c [.pointer (some ⟨b, 0, none⟩)] * F))))) by
      have : (if i = 0 then 0 else if i = 1 then regs.length else (regs ++ stack).length) = p := by rw [hp0]; split <;> first | rfl | (rw [if_pos (by omega)])
      rw [this]; ac_rfl) ?_
    (repeat' (first | (refine Ow.is ?_; (first | refine Ow.nil ?_ | refine Ow.pu rfl (Pu.move rfl) ?_ | refine Ow.pu rfl (Pu.assign rfl) ?_ | refine Ow.pu rfl (Pu.fld rfl) ?_ | refine Ow.pu rfl (Pu.nilCheck rfl) ?_ | (refine Ow.kGuard ?_; (first | refine Ow.guard_yes rfl rfl rfl ?_ | refine Ow.guard_no rfl rfl rfl rfl ?_)) | (refine Ow.kLoad ?_; (first | refine Ow.pu rfl (Pu.load_cl rfl pkA rfl) ?_ | refine Ow.pu rfl (Pu.load_sli rfl pkA (by first | omega | (simp only [List.length_set, List.length_append, List.length_replicate, List.length_cons, List.length_nil]; omega))) ?_)) | (refine Ow.kBin ?_; (first | (refine Ow.b_lss ?_; first | refine Ow.pu rfl (Pu.lt_t rfl rfl (by omega)) ?_ | refine Ow.pu rfl (Pu.lt_f rfl rfl (by omega)) ?_ | refine Ow.sp rfl (by exact Pu.lt rfl rfl) (fun hc => ?_) (fun hc => ?_)) | (refine Ow.b_neq ?_; (first | refine Ow.pu rfl (Pu.ne_t rfl rfl odA) ?_ | refine Ow.pu rfl (Pu.ne_f rfl rfl roA) ?_)) | (refine Ow.b_add ?_; refine Ow.pu rfl (Pu.add_i rfl rfl (by omega)) ?_))) | (refine Ow.kPick ?_; (first | refine Ow.pu rfl (Pu.pick_t rfl rfl) ?_ | refine Ow.pu rfl (Pu.pick_f rfl rfl) ?_)) | (refine Ow.kUn ?_; (first | refine Ow.pu rfl (Pu.not rfl) ?_)) | (refine Ow.kIdx ?_; (first | refine Ow.pu rfl (Pu.idx_sln rfl rfl pkA (by simp only [List.length_map, List.length_append, List.length_set, List.length_replicate, List.length_cons, List.length_nil]; omega)) ?_)) | (refine Ow.kBuiltin ?_; (first | refine Ow.pu rfl (Pu.len_slm rfl pkA) ?_)) | refine Ow.pu rfl (Pu.index_arr rfl rfl (by omega) (by first | rfl | assumption)) ?_)) | (refine Cw.is ?_; (first | refine Cw.seq ?_ | refine Cw.region ?_ | refine Cw.cond_t rfl rfl ?_ | refine Cw.cond_f rfl rfl ?_ | refine Cw.block ?_ | refine Cw.ret ?_ | refine Cw.exit ?_ | refine Cw.skip ?_ | refine Cw.drawL (n := 35) (id := 0) [(0, false), (1, false), (2, false), (3, false), (4, false), (5, false), (6, false), (7, false), (8, false), (9, false)] mixed (by kernel_rfl) ?_)) | (first | refine thenQ_n ?_ | refine thenQ_r ?_ | refine thenQ_e ?_ | refine blockQ_n ?_ | refine blockQ_r ?_ | refine blockQ_e ?_) | (refine Dw.is ?_; (first | refine Dw.q rfl rfl trivial (by (first | exact Pu.move rfl | exact Pu.assign rfl | exact Pu.fld rfl | exact Pu.nilCheck rfl | exact Pu.index_arr rfl rfl (by omega) (by first | rfl | assumption) | (apply Pu.kLoad; (first | exact Pu.load_cl rfl pkA rfl | exact Pu.load_sli rfl pkA (by first | omega | (simp only [List.length_set, List.length_append, List.length_replicate, List.length_cons, List.length_nil]; omega)))) | (apply Pu.kBuild; (first | exact Pu.bld2 rfl rfl (fun w => by kernel_rfl))))) ?_ | refine Dw.q rfl rfl ⟨_, _, rfl, rfl, rfl⟩ (by (first | exact Pu.move rfl | exact Pu.assign rfl | exact Pu.fld rfl | exact Pu.nilCheck rfl | exact Pu.index_arr rfl rfl (by omega) (by first | rfl | assumption) | (apply Pu.kLoad; (first | exact Pu.load_cl rfl pkA rfl | exact Pu.load_sli rfl pkA (by first | omega | (simp only [List.length_set, List.length_append, List.length_replicate, List.length_cons, List.length_nil]; omega)))) | (apply Pu.kBuild; (first | exact Pu.bld2 rfl rfl (fun w => by kernel_rfl))))) ?_ | refine Dw.nilE ?_ rfl))))
    refine Cw.loopI (fun j : Nat => j ≤ l.length) (fun j => [(0, y), (15, .agg [x.1.v, x.2.v].toArray), (16, vi i), (19, sv.v), (20, vi l.length), (21, vi j)])
      (fun j => slk 1 sv.v (l.map vi) * (U (cnt (regs ++ stack) (p + j)) * (L * (R' * (cl b [x.1.v, x.2.v, .int .i64 room] * (cl c [.pointer (some ⟨b, 0, none⟩)] * F))))))
      (fun j => l.length - j) 0 (by omega) (by (repeat first | exact trivial | refine ⟨rfl, ?_⟩)) (by rw [Nat.add_zero]; ((try simp only [star_assoc]); (repeat (apply Ent.pk; exact pkA)); first | exact Ent.fin pkA | exact Ent.refl _)) (fun j hj => ?_)
    by_cases hj2 : j < l.length
    · have hstep := cnt_step (regs ++ stack) (p + j) (by have := hp1; split at this <;> simp at * <;> omega)
      rw [hpl j hj2] at hstep
      by_cases hz : l[j]! = 0
      · (repeat' (first | (refine Ow.is ?_; (first | refine Ow.nil ?_ | refine Ow.pu rfl (Pu.move rfl) ?_ | refine Ow.pu rfl (Pu.assign rfl) ?_ | refine Ow.pu rfl (Pu.fld rfl) ?_ | refine Ow.pu rfl (Pu.nilCheck rfl) ?_ | (refine Ow.kGuard ?_; (first | refine Ow.guard_yes rfl rfl rfl ?_ | refine Ow.guard_no rfl rfl rfl rfl ?_)) | (refine Ow.kLoad ?_; (first | refine Ow.pu rfl (Pu.load_cl rfl pkA rfl) ?_ | refine Ow.pu rfl (Pu.load_sli rfl pkA (by first | omega | (simp only [List.length_set, List.length_append, List.length_replicate, List.length_cons, List.length_nil]; omega))) ?_)) | (refine Ow.kBin ?_; (first | (refine Ow.b_lss ?_; first | refine Ow.pu rfl (Pu.lt_t rfl rfl (by omega)) ?_ | refine Ow.pu rfl (Pu.lt_f rfl rfl (by omega)) ?_ | refine Ow.sp rfl (by exact Pu.lt rfl rfl) (fun hc => ?_) (fun hc => ?_)) | (refine Ow.b_neq ?_; (first | refine Ow.pu rfl (Pu.ne_t rfl rfl odA) ?_ | refine Ow.pu rfl (Pu.ne_f rfl rfl roA) ?_)) | (refine Ow.b_add ?_; refine Ow.pu rfl (Pu.add_i rfl rfl (by omega)) ?_))) | (refine Ow.kPick ?_; (first | refine Ow.pu rfl (Pu.pick_t rfl rfl) ?_ | refine Ow.pu rfl (Pu.pick_f rfl rfl) ?_)) | (refine Ow.kUn ?_; (first | refine Ow.pu rfl (Pu.not rfl) ?_)) | (refine Ow.kIdx ?_; (first | refine Ow.pu rfl (Pu.idx_sln rfl rfl pkA (by simp only [List.length_map, List.length_append, List.length_set, List.length_replicate, List.length_cons, List.length_nil]; omega)) ?_)) | (refine Ow.kBuiltin ?_; (first | refine Ow.pu rfl (Pu.len_slm rfl pkA) ?_)) | refine Ow.pu rfl (Pu.index_arr rfl rfl (by omega) (by first | rfl | assumption)) ?_)) | (refine Cw.is ?_; (first | refine Cw.seq ?_ | refine Cw.region ?_ | refine Cw.cond_t rfl rfl ?_ | refine Cw.cond_f rfl rfl ?_ | refine Cw.block ?_ | refine Cw.ret ?_ | refine Cw.exit ?_ | refine Cw.skip ?_ | refine Cw.drawL (n := 35) (id := 0) [(0, false), (1, false), (2, false), (3, false), (4, false), (5, false), (6, false), (7, false), (8, false), (9, false)] mixed (by kernel_rfl) ?_)) | (first | refine thenQ_n ?_ | refine thenQ_r ?_ | refine thenQ_e ?_ | refine blockQ_n ?_ | refine blockQ_r ?_ | refine blockQ_e ?_) | (refine Dw.is ?_; (first | refine Dw.q rfl rfl trivial (by (first | exact Pu.move rfl | exact Pu.assign rfl | exact Pu.fld rfl | exact Pu.nilCheck rfl | exact Pu.index_arr rfl rfl (by omega) (by first | rfl | assumption) | (apply Pu.kLoad; (first | exact Pu.load_cl rfl pkA rfl | exact Pu.load_sli rfl pkA (by first | omega | (simp only [List.length_set, List.length_append, List.length_replicate, List.length_cons, List.length_nil]; omega)))) | (apply Pu.kBuild; (first | exact Pu.bld2 rfl rfl (fun w => by kernel_rfl))))) ?_ | refine Dw.q rfl rfl ⟨_, _, rfl, rfl, rfl⟩ (by (first | exact Pu.move rfl | exact Pu.assign rfl | exact Pu.fld rfl | exact Pu.nilCheck rfl | exact Pu.index_arr rfl rfl (by omega) (by first | rfl | assumption) | (apply Pu.kLoad; (first | exact Pu.load_cl rfl pkA rfl | exact Pu.load_sli rfl pkA (by first | omega | (simp only [List.length_set, List.length_append, List.length_replicate, List.length_cons, List.length_nil]; omega)))) | (apply Pu.kBuild; (first | exact Pu.bld2 rfl rfl (fun w => by kernel_rfl))))) ?_ | refine Dw.nilE ?_ rfl))))
        refine ⟨rfl, j + 1, by omega, by omega, ?_, ?_⟩
        · (repeat first | exact trivial | refine ⟨rfl, ?_⟩)
        · rw [show p + (j + 1) = p + j + 1 by omega, hstep.1 hz]
          ((try simp only [star_assoc]); (repeat (apply Ent.pk; exact pkA)); first | exact Ent.fin pkA | exact Ent.refl _)
      · obtain ⟨h1, h2, h3⟩ := hstep.2 hz
        have hyy := hy ⟨cnt (regs ++ stack) (p + j), h2⟩
        simp only [h3] at hyy
        (repeat' (first | (refine Ow.is ?_; (first | refine Ow.nil ?_ | refine Ow.pu rfl (Pu.move rfl) ?_ | refine Ow.pu rfl (Pu.assign rfl) ?_ | refine Ow.pu rfl (Pu.fld rfl) ?_ | refine Ow.pu rfl (Pu.nilCheck rfl) ?_ | (refine Ow.kGuard ?_; (first | refine Ow.guard_yes rfl rfl rfl ?_ | refine Ow.guard_no rfl rfl rfl rfl ?_)) | (refine Ow.kLoad ?_; (first | refine Ow.pu rfl (Pu.load_cl rfl pkA rfl) ?_ | refine Ow.pu rfl (Pu.load_sli rfl pkA (by first | omega | (simp only [List.length_set, List.length_append, List.length_replicate, List.length_cons, List.length_nil]; omega))) ?_)) | (refine Ow.kBin ?_; (first | (refine Ow.b_lss ?_; first | refine Ow.pu rfl (Pu.lt_t rfl rfl (by omega)) ?_ | refine Ow.pu rfl (Pu.lt_f rfl rfl (by omega)) ?_ | refine Ow.sp rfl (by exact Pu.lt rfl rfl) (fun hc => ?_) (fun hc => ?_)) | (refine Ow.b_neq ?_; (first | refine Ow.pu rfl (Pu.ne_t rfl rfl odA) ?_ | refine Ow.pu rfl (Pu.ne_f rfl rfl roA) ?_)) | (refine Ow.b_add ?_; refine Ow.pu rfl (Pu.add_i rfl rfl (by omega)) ?_))) | (refine Ow.kPick ?_; (first | refine Ow.pu rfl (Pu.pick_t rfl rfl) ?_ | refine Ow.pu rfl (Pu.pick_f rfl rfl) ?_)) | (refine Ow.kUn ?_; (first | refine Ow.pu rfl (Pu.not rfl) ?_)) | (refine Ow.kIdx ?_; (first | refine Ow.pu rfl (Pu.idx_sln rfl rfl pkA (by simp only [List.length_map, List.length_append, List.length_set, List.length_replicate, List.length_cons, List.length_nil]; omega)) ?_)) | (refine Ow.kBuiltin ?_; (first | refine Ow.pu rfl (Pu.len_slm rfl pkA) ?_)) | refine Ow.pu rfl (Pu.index_arr rfl rfl (by omega) (by first | rfl | assumption)) ?_)) | (refine Cw.is ?_; (first | refine Cw.seq ?_ | refine Cw.region ?_ | refine Cw.cond_t rfl rfl ?_ | refine Cw.cond_f rfl rfl ?_ | refine Cw.block ?_ | refine Cw.ret ?_ | refine Cw.exit ?_ | refine Cw.skip ?_ | refine Cw.drawL (n := 35) (id := 0) [(0, false), (1, false), (2, false), (3, false), (4, false), (5, false), (6, false), (7, false), (8, false), (9, false)] mixed (by kernel_rfl) ?_)) | (first | refine thenQ_n ?_ | refine thenQ_r ?_ | refine thenQ_e ?_ | refine blockQ_n ?_ | refine blockQ_r ?_ | refine blockQ_e ?_) | (refine Dw.is ?_; (first | refine Dw.q rfl rfl trivial (by (first | exact Pu.move rfl | exact Pu.assign rfl | exact Pu.fld rfl | exact Pu.nilCheck rfl | exact Pu.index_arr rfl rfl (by omega) (by first | rfl | assumption) | (apply Pu.kLoad; (first | exact Pu.load_cl rfl pkA rfl | exact Pu.load_sli rfl pkA (by first | omega | (simp only [List.length_set, List.length_append, List.length_replicate, List.length_cons, List.length_nil]; omega)))) | (apply Pu.kBuild; (first | exact Pu.bld2 rfl rfl (fun w => by kernel_rfl))))) ?_ | refine Dw.q rfl rfl ⟨_, _, rfl, rfl, rfl⟩ (by (first | exact Pu.move rfl | exact Pu.assign rfl | exact Pu.fld rfl | exact Pu.nilCheck rfl | exact Pu.index_arr rfl rfl (by omega) (by first | rfl | assumption) | (apply Pu.kLoad; (first | exact Pu.load_cl rfl pkA rfl | exact Pu.load_sli rfl pkA (by first | omega | (simp only [List.length_set, List.length_append, List.length_replicate, List.length_cons, List.length_nil]; omega)))) | (apply Pu.kBuild; (first | exact Pu.bld2 rfl rfl (fun w => by kernel_rfl))))) ?_ | refine Dw.nilE ?_ rfl))))
        refine Ow.yc2 hyy rfl rfl evA pkA pkA (fun r => ?_)
        cases r with
        | true =>
          rw [cond_true]
          (repeat' (first | (refine Ow.is ?_; (first | refine Ow.nil ?_ | refine Ow.pu rfl (Pu.move rfl) ?_ | refine Ow.pu rfl (Pu.assign rfl) ?_ | refine Ow.pu rfl (Pu.fld rfl) ?_ | refine Ow.pu rfl (Pu.nilCheck rfl) ?_ | (refine Ow.kGuard ?_; (first | refine Ow.guard_yes rfl rfl rfl ?_ | refine Ow.guard_no rfl rfl rfl rfl ?_)) | (refine Ow.kLoad ?_; (first | refine Ow.pu rfl (Pu.load_cl rfl pkA rfl) ?_ | refine Ow.pu rfl (Pu.load_sli rfl pkA (by first | omega | (simp only [List.length_set, List.length_append, List.length_replicate, List.length_cons, List.length_nil]; omega))) ?_)) | (refine Ow.kBin ?_; (first | (refine Ow.b_lss ?_; first | refine Ow.pu rfl (Pu.lt_t rfl rfl (by omega)) ?_ | refine Ow.pu rfl (Pu.lt_f rfl rfl (by omega)) ?_ | refine Ow.sp rfl (by exact Pu.lt rfl rfl) (fun hc => ?_) (fun hc => ?_)) | (refine Ow.b_neq ?_; (first | refine Ow.pu rfl (Pu.ne_t rfl rfl odA) ?_ | refine Ow.pu rfl (Pu.ne_f rfl rfl roA) ?_)) | (refine Ow.b_add ?_; refine Ow.pu rfl (Pu.add_i rfl rfl (by omega)) ?_))) | (refine Ow.kPick ?_; (first | refine Ow.pu rfl (Pu.pick_t rfl rfl) ?_ | refine Ow.pu rfl (Pu.pick_f rfl rfl) ?_)) | (refine Ow.kUn ?_; (first | refine Ow.pu rfl (Pu.not rfl) ?_)) | (refine Ow.kIdx ?_; (first | refine Ow.pu rfl (Pu.idx_sln rfl rfl pkA (by simp only [List.length_map, List.length_append, List.length_set, List.length_replicate, List.length_cons, List.length_nil]; omega)) ?_)) | (refine Ow.kBuiltin ?_; (first | refine Ow.pu rfl (Pu.len_slm rfl pkA) ?_)) | refine Ow.pu rfl (Pu.index_arr rfl rfl (by omega) (by first | rfl | assumption)) ?_)) | (refine Cw.is ?_; (first | refine Cw.seq ?_ | refine Cw.region ?_ | refine Cw.cond_t rfl rfl ?_ | refine Cw.cond_f rfl rfl ?_ | refine Cw.block ?_ | refine Cw.ret ?_ | refine Cw.exit ?_ | refine Cw.skip ?_ | refine Cw.drawL (n := 35) (id := 0) [(0, false), (1, false), (2, false), (3, false), (4, false), (5, false), (6, false), (7, false), (8, false), (9, false)] mixed (by kernel_rfl) ?_)) | (first | refine thenQ_n ?_ | refine thenQ_r ?_ | refine thenQ_e ?_ | refine blockQ_n ?_ | refine blockQ_r ?_ | refine blockQ_e ?_) | (refine Dw.is ?_; (first | refine Dw.q rfl rfl trivial (by (first | exact Pu.move rfl | exact Pu.assign rfl | exact Pu.fld rfl | exact Pu.nilCheck rfl | exact Pu.index_arr rfl rfl (by omega) (by first | rfl | assumption) | (apply Pu.kLoad; (first | exact Pu.load_cl rfl pkA rfl | exact Pu.load_sli rfl pkA (by first | omega | (simp only [List.length_set, List.length_append, List.length_replicate, List.length_cons, List.length_nil]; omega)))) | (apply Pu.kBuild; (first | exact Pu.bld2 rfl rfl (fun w => by kernel_rfl))))) ?_ | refine Dw.q rfl rfl ⟨_, _, rfl, rfl, rfl⟩ (by (first | exact Pu.move rfl | exact Pu.assign rfl | exact Pu.fld rfl | exact Pu.nilCheck rfl | exact Pu.index_arr rfl rfl (by omega) (by first | rfl | assumption) | (apply Pu.kLoad; (first | exact Pu.load_cl rfl pkA rfl | exact Pu.load_sli rfl pkA (by first | omega | (simp only [List.length_set, List.length_append, List.length_replicate, List.length_cons, List.length_nil]; omega)))) | (apply Pu.kBuild; (first | exact Pu.bld2 rfl rfl (fun w => by kernel_rfl))))) ?_ | refine Dw.nilE ?_ rfl))))
          refine ⟨rfl, j + 1, by omega, by omega, ?_, ?_⟩
          · (repeat first | exact trivial | refine ⟨rfl, ?_⟩)
          · rw [show p + (j + 1) = p + j + 1 by omega, h1]
            ((try simp only [star_assoc]); (repeat (apply Ent.pk; exact pkA)); first | exact Ent.fin pkA | exact Ent.refl _)
        | false =>
          rw [cond_false]
          (repeat' (first | (refine Ow.is ?_; (first | refine Ow.nil ?_ | refine Ow.pu rfl (Pu.move rfl) ?_ | refine Ow.pu rfl (Pu.assign rfl) ?_ | refine Ow.pu rfl (Pu.fld rfl) ?_ | refine Ow.pu rfl (Pu.nilCheck rfl) ?_ | (refine Ow.kGuard ?_; (first | refine Ow.guard_yes rfl rfl rfl ?_ | refine Ow.guard_no rfl rfl rfl rfl ?_)) | (refine Ow.kLoad ?_; (first | refine Ow.pu rfl (Pu.load_cl rfl pkA rfl) ?_ | refine Ow.pu rfl (Pu.load_sli rfl pkA (by first | omega | (simp only [List.length_set, List.length_append, List.length_replicate, List.length_cons, List.length_nil]; omega))) ?_)) | (refine Ow.kBin ?_; (first | (refine Ow.b_lss ?_; first | refine Ow.pu rfl (Pu.lt_t rfl rfl (by omega)) ?_ | refine Ow.pu rfl (Pu.lt_f rfl rfl (by omega)) ?_ | refine Ow.sp rfl (by exact Pu.lt rfl rfl) (fun hc => ?_) (fun hc => ?_)) | (refine Ow.b_neq ?_; (first | refine Ow.pu rfl (Pu.ne_t rfl rfl odA) ?_ | refine Ow.pu rfl (Pu.ne_f rfl rfl roA) ?_)) | (refine Ow.b_add ?_; refine Ow.pu rfl (Pu.add_i rfl rfl (by omega)) ?_))) | (refine Ow.kPick ?_; (first | refine Ow.pu rfl (Pu.pick_t rfl rfl) ?_ | refine Ow.pu rfl (Pu.pick_f rfl rfl) ?_)) | (refine Ow.kUn ?_; (first | refine Ow.pu rfl (Pu.not rfl) ?_)) | (refine Ow.kIdx ?_; (first | refine Ow.pu rfl (Pu.idx_sln rfl rfl pkA (by simp only [List.length_map, List.length_append, List.length_set, List.length_replicate, List.length_cons, List.length_nil]; omega)) ?_)) | (refine Ow.kBuiltin ?_; (first | refine Ow.pu rfl (Pu.len_slm rfl pkA) ?_)) | refine Ow.pu rfl (Pu.index_arr rfl rfl (by omega) (by first | rfl | assumption)) ?_)) | (refine Cw.is ?_; (first | refine Cw.seq ?_ | refine Cw.region ?_ | refine Cw.cond_t rfl rfl ?_ | refine Cw.cond_f rfl rfl ?_ | refine Cw.block ?_ | refine Cw.ret ?_ | refine Cw.exit ?_ | refine Cw.skip ?_ | refine Cw.drawL (n := 35) (id := 0) [(0, false), (1, false), (2, false), (3, false), (4, false), (5, false), (6, false), (7, false), (8, false), (9, false)] mixed (by kernel_rfl) ?_)) | (first | refine thenQ_n ?_ | refine thenQ_r ?_ | refine thenQ_e ?_ | refine blockQ_n ?_ | refine blockQ_r ?_ | refine blockQ_e ?_) | (refine Dw.is ?_; (first | refine Dw.q rfl rfl trivial (by (first | exact Pu.move rfl | exact Pu.assign rfl | exact Pu.fld rfl | exact Pu.nilCheck rfl | exact Pu.index_arr rfl rfl (by omega) (by first | rfl | assumption) | (apply Pu.kLoad; (first | exact Pu.load_cl rfl pkA rfl | exact Pu.load_sli rfl pkA (by first | omega | (simp only [List.length_set, List.length_append, List.length_replicate, List.length_cons, List.length_nil]; omega)))) | (apply Pu.kBuild; (first | exact Pu.bld2 rfl rfl (fun w => by kernel_rfl))))) ?_ | refine Dw.q rfl rfl ⟨_, _, rfl, rfl, rfl⟩ (by (first | exact Pu.move rfl | exact Pu.assign rfl | exact Pu.fld rfl | exact Pu.nilCheck rfl | exact Pu.index_arr rfl rfl (by omega) (by first | rfl | assumption) | (apply Pu.kLoad; (first | exact Pu.load_cl rfl pkA rfl | exact Pu.load_sli rfl pkA (by first | omega | (simp only [List.length_set, List.length_append, List.length_replicate, List.length_cons, List.length_nil]; omega)))) | (apply Pu.kBuild; (first | exact Pu.bld2 rfl rfl (fun w => by kernel_rfl))))) ?_ | refine Dw.nilE ?_ rfl))))
          refine retQ_r (some ⟨cnt (regs ++ stack) (p + j), h2⟩) (res0 Tryd.results68) ?_
          refine Ent.trans (Ent.of_eq ?_) (Ent.left (Ent.left (Ent.right (thr_mk b regs stack room x.1 x.2))))
          rw [hpk]; ac_rfl
    · (repeat' (first | (refine Ow.is ?_; (first | refine Ow.nil ?_ | refine Ow.pu rfl (Pu.move rfl) ?_ | refine Ow.pu rfl (Pu.assign rfl) ?_ | refine Ow.pu rfl (Pu.fld rfl) ?_ | refine Ow.pu rfl (Pu.nilCheck rfl) ?_ | (refine Ow.kGuard ?_; (first | refine Ow.guard_yes rfl rfl rfl ?_ | refine Ow.guard_no rfl rfl rfl rfl ?_)) | (refine Ow.kLoad ?_; (first | refine Ow.pu rfl (Pu.load_cl rfl pkA rfl) ?_ | refine Ow.pu rfl (Pu.load_sli rfl pkA (by first | omega | (simp only [List.length_set, List.length_append, List.length_replicate, List.length_cons, List.length_nil]; omega))) ?_)) | (refine Ow.kBin ?_; (first | (refine Ow.b_lss ?_; first | refine Ow.pu rfl (Pu.lt_t rfl rfl (by omega)) ?_ | refine Ow.pu rfl (Pu.lt_f rfl rfl (by omega)) ?_ | refine Ow.sp rfl (by exact Pu.lt rfl rfl) (fun hc => ?_) (fun hc => ?_)) | (refine Ow.b_neq ?_; (first | refine Ow.pu rfl (Pu.ne_t rfl rfl odA) ?_ | refine Ow.pu rfl (Pu.ne_f rfl rfl roA) ?_)) | (refine Ow.b_add ?_; refine Ow.pu rfl (Pu.add_i rfl rfl (by omega)) ?_))) | (refine Ow.kPick ?_; (first | refine Ow.pu rfl (Pu.pick_t rfl rfl) ?_ | refine Ow.pu rfl (Pu.pick_f rfl rfl) ?_)) | (refine Ow.kUn ?_; (first | refine Ow.pu rfl (Pu.not rfl) ?_)) | (refine Ow.kIdx ?_; (first | refine Ow.pu rfl (Pu.idx_sln rfl rfl pkA (by simp only [List.length_map, List.length_append, List.length_set, List.length_replicate, List.length_cons, List.length_nil]; omega)) ?_)) | (refine Ow.kBuiltin ?_; (first | refine Ow.pu rfl (Pu.len_slm rfl pkA) ?_)) | refine Ow.pu rfl (Pu.index_arr rfl rfl (by omega) (by first | rfl | assumption)) ?_)) | (refine Cw.is ?_; (first | refine Cw.seq ?_ | refine Cw.region ?_ | refine Cw.cond_t rfl rfl ?_ | refine Cw.cond_f rfl rfl ?_ | refine Cw.block ?_ | refine Cw.ret ?_ | refine Cw.exit ?_ | refine Cw.skip ?_ | refine Cw.drawL (n := 35) (id := 0) [(0, false), (1, false), (2, false), (3, false), (4, false), (5, false), (6, false), (7, false), (8, false), (9, false)] mixed (by kernel_rfl) ?_)) | (first | refine thenQ_n ?_ | refine thenQ_r ?_ | refine thenQ_e ?_ | refine blockQ_n ?_ | refine blockQ_r ?_ | refine blockQ_e ?_) | (refine Dw.is ?_; (first | refine Dw.q rfl rfl trivial (by (first | exact Pu.move rfl | exact Pu.assign rfl | exact Pu.fld rfl | exact Pu.nilCheck rfl | exact Pu.index_arr rfl rfl (by omega) (by first | rfl | assumption) | (apply Pu.kLoad; (first | exact Pu.load_cl rfl pkA rfl | exact Pu.load_sli rfl pkA (by first | omega | (simp only [List.length_set, List.length_append, List.length_replicate, List.length_cons, List.length_nil]; omega)))) | (apply Pu.kBuild; (first | exact Pu.bld2 rfl rfl (fun w => by kernel_rfl))))) ?_ | refine Dw.q rfl rfl ⟨_, _, rfl, rfl, rfl⟩ (by (first | exact Pu.move rfl | exact Pu.assign rfl | exact Pu.fld rfl | exact Pu.nilCheck rfl | exact Pu.index_arr rfl rfl (by omega) (by first | rfl | assumption) | (apply Pu.kLoad; (first | exact Pu.load_cl rfl pkA rfl | exact Pu.load_sli rfl pkA (by first | omega | (simp only [List.length_set, List.length_append, List.length_replicate, List.length_cons, List.length_nil]; omega)))) | (apply Pu.kBuild; (first | exact Pu.bld2 rfl rfl (fun w => by kernel_rfl))))) ?_ | refine Dw.nilE ?_ rfl))))
      refine ⟨rfl, i + 1, by omega, by omega, ?_, ?_⟩
      · (repeat first | exact trivial | refine ⟨rfl, ?_⟩)
      · have : (if i + 1 = 0 then 0 else if i + 1 = 1 then regs.length else (regs ++ stack).length) = p + j := by
          rw [show j = l.length by omega, hp1, if_neg (by omega)]
        rw [this]
        ((try simp only [star_assoc]); (repeat (apply Ent.pk; exact pkA)); first | exact Ent.fin pkA | exact Ent.refl _)
  · (repeat' (first | (refine Ow.is ?_; (first | refine Ow.nil ?_ | refine Ow.pu rfl (Pu.move rfl) ?_ | refine Ow.pu rfl (Pu.assign rfl) ?_ | refine Ow.pu rfl (Pu.fld rfl) ?_ | refine Ow.pu rfl (Pu.nilCheck rfl) ?_ | (refine Ow.kGuard ?_; (first | refine Ow.guard_yes rfl rfl rfl ?_ | refine Ow.guard_no rfl rfl rfl rfl ?_)) | (refine Ow.kLoad ?_; (first | refine Ow.pu rfl (Pu.load_cl rfl pkA rfl) ?_ | refine Ow.pu rfl (Pu.load_sli rfl pkA (by first | omega | (simp only [List.length_set, List.length_append, List.length_replicate, List.length_cons, List.length_nil]; omega))) ?_)) | (refine Ow.kBin ?_; (first | (refine Ow.b_lss ?_; first | refine Ow.pu rfl (Pu.lt_t rfl rfl (by omega)) ?_ | refine Ow.pu rfl (Pu.lt_f rfl rfl (by omega)) ?_ | refine Ow.sp rfl (by exact Pu.lt rfl rfl) (fun hc => ?_) (fun hc => ?_)) | (refine Ow.b_neq ?_; (first | refine Ow.pu rfl (Pu.ne_t rfl rfl odA) ?_ | refine Ow.pu rfl (Pu.ne_f rfl rfl roA) ?_)) | (refine Ow.b_add ?_; refine Ow.pu rfl (Pu.add_i rfl rfl (by omega)) ?_))) | (refine Ow.kPick ?_; (first | refine Ow.pu rfl (Pu.pick_t rfl rfl) ?_ | refine Ow.pu rfl (Pu.pick_f rfl rfl) ?_)) | (refine Ow.kUn ?_; (first | refine Ow.pu rfl (Pu.not rfl) ?_)) | (refine Ow.kIdx ?_; (first | refine Ow.pu rfl (Pu.idx_sln rfl rfl pkA (by simp only [List.length_map, List.length_append, List.length_set, List.length_replicate, List.length_cons, List.length_nil]; omega)) ?_)) | (refine Ow.kBuiltin ?_; (first | refine Ow.pu rfl (Pu.len_slm rfl pkA) ?_)) | refine Ow.pu rfl (Pu.index_arr rfl rfl (by omega) (by first | rfl | assumption)) ?_)) | (refine Cw.is ?_; (first | refine Cw.seq ?_ | refine Cw.region ?_ | refine Cw.cond_t rfl rfl ?_ | refine Cw.cond_f rfl rfl ?_ | refine Cw.block ?_ | refine Cw.ret ?_ | refine Cw.exit ?_ | refine Cw.skip ?_ | refine Cw.drawL (n := 35) (id := 0) [(0, false), (1, false), (2, false), (3, false), (4, false), (5, false), (6, false), (7, false), (8, false), (9, false)] mixed (by kernel_rfl) ?_)) | (first | refine thenQ_n ?_ | refine thenQ_r ?_ | refine thenQ_e ?_ | refine blockQ_n ?_ | refine blockQ_r ?_ | refine blockQ_e ?_) | (refine Dw.is ?_; (first | refine Dw.q rfl rfl trivial (by (first | exact Pu.move rfl | exact Pu.assign rfl | exact Pu.fld rfl | exact Pu.nilCheck rfl | exact Pu.index_arr rfl rfl (by omega) (by first | rfl | assumption) | (apply Pu.kLoad; (first | exact Pu.load_cl rfl pkA rfl | exact Pu.load_sli rfl pkA (by first | omega | (simp only [List.length_set, List.length_append, List.length_replicate, List.length_cons, List.length_nil]; omega)))) | (apply Pu.kBuild; (first | exact Pu.bld2 rfl rfl (fun w => by kernel_rfl))))) ?_ | refine Dw.q rfl rfl ⟨_, _, rfl, rfl, rfl⟩ (by (first | exact Pu.move rfl | exact Pu.assign rfl | exact Pu.fld rfl | exact Pu.nilCheck rfl | exact Pu.index_arr rfl rfl (by omega) (by first | rfl | assumption) | (apply Pu.kLoad; (first | exact Pu.load_cl rfl pkA rfl | exact Pu.load_sli rfl pkA (by first | omega | (simp only [List.length_set, List.length_append, List.length_replicate, List.length_cons, List.length_nil]; omega)))) | (apply Pu.kBuild; (first | exact Pu.bld2 rfl rfl (fun w => by kernel_rfl))))) ?_ | refine Dw.nilE ?_ rfl))))
    refine retQ_n none (res0 Tryd.results68) ?_
    rw [if_neg (by omega), if_neg (by omega), cnt_all]
    refine Ent.trans (Ent.of_eq ?_) (Ent.left (Ent.left (Ent.right (Ent.left (thr_mk b regs stack room x.1 x.2)))))
    ac_rfl
end Go.Sl
namespace Go.Sl
open Go
universe u
variable {A B : HP} {a : Addr} {v : Value}
theorem RdA.left (h : RdA A a v) : RdA (A * B) a v := fun x hx => by
  obtain ⟨p, q, d, rfl, hA, _⟩ := hx
  have h1 := h p hA
  unfold cellH at h1 ⊢
  cases e : p a.block with
  | none => rw [e] at h1; cases h1
  | some o => rw [show mrg p q a.block = some o by simp [mrg, e]]; rw [e] at h1; exact h1
theorem RdA.ex {α : Sort u} {A : α → HP} (h : ∀ x, RdA (A x) a v) : RdA (Sl.ex A) a v := fun y ⟨x, hx⟩ => h x y hx
theorem Fn.frame {P : Program} {f : FuncId} {args : List Value} {Pre : HP} {β : Type} {val : β → Value} {post : β → HP} (h : Fn P f args Pre β val post) (R : HP) : Fn P f args (Pre * R) β val (fun b => post b * R) :=
  ⟨h.enters, fun g F w hs => (h.calls g (R * F) w (by rw [← star_assoc]; exact hs)).mono fun e w' ⟨b, he, hs'⟩ => ⟨b, he, by rw [star_assoc]; exact hs'⟩⟩
theorem Fn.preX {P : Program} {f : FuncId} {args : List Value} {α : Type} {Pre : α → HP} {β : Type} {val : β → Value} {post : β → HP}
    (hen : ∀ (args : Array Value) (w : World), (callFunc f args).run P w = .ok (.enter f args) w) (h : ∀ x, Fn P f args (Pre x) β val post) : Fn P f args (Sl.ex Pre) β val post :=
  ⟨hen, fun g F w hs => by rw [ex_star] at hs; obtain ⟨x, hx⟩ := St.ex.1 hs; exact (h x).calls g F w hx⟩
theorem Fn.preL {P : Program} {f : FuncId} {args : List Value} {p : Prop} {Pre : HP} {β : Type} {val : β → Value} {post : β → HP}
    (hen : ∀ (args : Array Value) (w : World), (callFunc f args).run P w = .ok (.enter f args) w) (h : p → Fn P f args Pre β val post) : Fn P f args (lift p * Pre) β val post :=
  ⟨hen, fun g F w hs => by rw [star_assoc] at hs; obtain ⟨hp, hs'⟩ := St.lift.1 hs; exact (h hp).calls g F w hs'⟩
theorem RdA.right {A B : HP} {a : Addr} {v : Value} (h : RdA B a v) : RdA (A * B) a v := by rw [star_comm]; exact RdA.left h
end Go.Sl
namespace Go.Sl
open Go Go.Proofs
set_option linter.unusedVariables false
set_option linter.unusedSimpArgs false
attribute [local irreducible] star Ow Cw Pk Pu Dw thenQ blockQ retQ loudQ Cr thr
abbrev Slt := Option (Nat × List Int × List Int)
def ptA : Slt → Option Addr
  | none => none
  | some q => some ⟨q.1, 0, none⟩
abbrev ptrO (x : Slt) : Value := .pointer (ptA x)
theorem ptA_n (x : Slt) : (!(ptA x).isNone) = x.isSome := by cases x <;> rfl
def thO (room : Int) : Slt → HP
  | none => emp
  | some q => thr q.1 q.2.1 q.2.2 room
def stars (room : Int) : List Slt → HP
  | [] => emp
  | x :: T => thO room x * stars room T
structure Ck where
  e : Int
  bl : Bool
  pg : Int
  fd : Int
  mq : Int
  lg : Int
  bd : Int
abbrev k0 : Ck := ⟨0, false, 0, 0, 0, 0, 0⟩
abbrev cfgC (th rg st gl : Int) (k : Ck) : List Value := [vi k.e, .bool k.bl, vi k.pg, vi th, vi rg, vi st, vi gl, vi k.fd, vi k.mq, vi k.lg, vi k.bd]
def tab (b : Nat) (th rg st : Int) (G : List Int) (T : List Slt) : HP := ex fun x : SV × Int × Ck => cl b (cfgC th rg st x.2.1 x.2.2 ++ (x.1.v :: T.map ptrO)) * (slk 1 x.1.v (G.map vi) * stars st T)
theorem tab_ex (b : Nat) (th rg st : Int) (G : List Int) (T : List Slt) : tab b th rg st G T = ex fun x : SV × Int × Ck => cl b (cfgC th rg st x.2.1 x.2.2 ++ (x.1.v :: T.map ptrO)) * (slk 1 x.1.v (G.map vi) * stars st T) := rfl
theorem tab_mk (b : Nat) (th rg st : Int) (G : List Int) (T : List Slt) (x : SV) (gl : Int) (k : Ck) : Ent (cl b (cfgC th rg st gl k ++ (x.v :: T.map ptrO)) * (slk 1 x.v (G.map vi) * stars st T)) (tab b th rg st G T) :=
  Ent.ex (A := fun x : SV × Int × Ck => cl b (cfgC th rg st x.2.1 x.2.2 ++ (x.1.v :: T.map ptrO)) * (slk 1 x.1.v (G.map vi) * stars st T)) (x, gl, k)
attribute [local irreducible] tab
theorem tab_th (b : Nat) (th rg st : Int) (G : List Int) (T : List Slt) : RdA (tab b th rg st G T) ⟨b, 3, none⟩ (vi th) := by
  rw [tab_ex]; exact RdA.ex fun x => RdA.left (rd_cl rfl)
theorem stars_at (room : Int) : ∀ (T : List Slt) (j : Nat) (hj : j < T.length), stars room T = thO room T[j] * stars room (T.set j none)
  | x :: T, 0, _ => by simp [stars, thO, emp_star]
  | x :: T, j + 1, h => by
    have := stars_at room T j (by simpa using h)
    simp only [stars, List.set_cons_succ, List.getElem_cons_succ]
    rw [this, star_left_comm]
theorem stars_set (room : Int) (T : List Slt) (j : Nat) (hj : j < T.length) (x : Slt) : stars room (T.set j x) = thO room x * stars room (T.set j none) := by
  have := stars_at room (T.set j x) j (by rw [List.length_set]; exact hj)
  rw [this]; simp
variable (b : Nat) (th rg st : Int) (G : List Int) (T : List Slt)
theorem Of_f (i : Int) (h : ¬ (0 ≤ i ∧ i < 4)) : Fn Tryd.prog 41 [.pointer (some ⟨b, 0, none⟩), vi i] (tab b th rg st G T) Unit (fun _ => .pointer none) (fun _ => tab b th rg st G T) := by
  (refine Fn.of Tryd.func41 rfl (by kernel_rfl) Tryd.ntmps41 rfl (fun F => ?_))
  (repeat' (first | (refine Ow.is ?_; (first | refine Ow.nil ?_ | refine Ow.pu rfl (Pu.move rfl) ?_ | refine Ow.pu rfl (Pu.assign rfl) ?_ | (refine Ow.kGuard ?_; (first | refine Ow.guard_yes rfl rfl rfl ?_ | refine Ow.guard_no rfl rfl rfl rfl ?_)) | (refine Ow.kBin ?_; (first | (refine Ow.b_lss ?_; first | refine Ow.pu rfl (Pu.lt_t rfl rfl (by omega)) ?_ | refine Ow.pu rfl (Pu.lt_f rfl rfl (by omega)) ?_ | refine Ow.sp rfl (by exact Pu.lt rfl rfl) (fun hc => ?_) (fun hc => ?_)) | (refine Ow.b_geq ?_; first | refine Ow.pu rfl (Pu.ge_t rfl rfl (by omega)) ?_ | refine Ow.pu rfl (Pu.ge_f rfl rfl (by omega)) ?_ | refine Ow.sp rfl (by exact Pu.ge rfl rfl) (fun hc => ?_) (fun hc => ?_)))) | (refine Ow.kPick ?_; (first | refine Ow.pu rfl (Pu.pick_t rfl rfl) ?_ | refine Ow.pu rfl (Pu.pick_f rfl rfl) ?_)))) | (refine Cw.is ?_; (first | refine Cw.seq ?_ | refine Cw.region ?_ | refine Cw.cond_t rfl rfl ?_ | refine Cw.ret ?_)) | (first | refine thenQ_n ?_ | refine thenQ_r ?_)))
  all_goals (refine retQ_v () Tryd.results41 rfl rfl ?_; ((try simp only [star_assoc]); (repeat (apply Ent.pk; exact pkA)); first | exact Ent.fin pkA | exact Ent.refl _))
theorem Of_t (hT : T.length = 4) (i : Int) (h : 0 ≤ i ∧ i < 4) : Fn Tryd.prog 41 [.pointer (some ⟨b, 0, none⟩), vi i] (tab b th rg st G T) Unit (fun _ => ptrO T[i.toNat]!) (fun _ => tab b th rg st G T) := by
  match T, hT with
  | [t0, t1, t2, t3], _ =>
  obtain rfl | rfl | rfl | rfl : i = 0 ∨ i = 1 ∨ i = 2 ∨ i = 3 := by omega
  all_goals (refine Fn.of Tryd.func41 rfl (by kernel_rfl) Tryd.ntmps41 rfl (fun F => ?_))
  all_goals refine Cw.opn (tab_ex _ _ _ _ _ _) (fun x => ?_)
  all_goals (refine Cw.heq (by simp only [star_assoc, emp_star, star_emp]; exact rfl) ?_)
  all_goals (repeat' (first | (refine Ow.is ?_; (first | refine Ow.nil ?_ | refine Ow.pu rfl (Pu.move rfl) ?_ | refine Ow.pu rfl (Pu.assign rfl) ?_ | refine Ow.pu rfl (Pu.fld rfl) ?_ | refine Ow.pu rfl (Pu.nilCheck rfl) ?_ | (refine Ow.kGuard ?_; (first | refine Ow.guard_yes rfl rfl rfl ?_)) | (refine Ow.kLoad ?_; (first | refine Ow.pu rfl (Pu.load_cl rfl pkA rfl) ?_)) | (refine Ow.kBin ?_; (first | (refine Ow.b_lss ?_; first | refine Ow.pu rfl (Pu.lt_t rfl rfl (by omega)) ?_ | refine Ow.pu rfl (Pu.lt_f rfl rfl (by omega)) ?_ | refine Ow.sp rfl (by exact Pu.lt rfl rfl) (fun hc => ?_) (fun hc => ?_)) | (refine Ow.b_geq ?_; first | refine Ow.pu rfl (Pu.ge_t rfl rfl (by omega)) ?_ | refine Ow.pu rfl (Pu.ge_f rfl rfl (by omega)) ?_ | refine Ow.sp rfl (by exact Pu.ge rfl rfl) (fun hc => ?_) (fun hc => ?_)))) | (refine Ow.kPick ?_; (first | refine Ow.pu rfl (Pu.pick_f rfl rfl) ?_)) | (refine Ow.kIdx ?_; (first | refine Ow.pu rfl (Pu.idxA_b rfl rfl (by omega)) ?_)))) | (refine Cw.is ?_; (first | refine Cw.seq ?_ | refine Cw.region ?_ | refine Cw.cond_f rfl rfl ?_ | refine Cw.ret ?_ | refine Cw.skip ?_)) | (first | refine thenQ_n ?_)))
  all_goals (refine retQ_v () Tryd.results41 rfl rfl ?_; refine Ent.trans ?_ (Ent.left (tab_mk b th rg st G [t0, t1, t2, t3] x.1 x.2.1 x.2.2)); ((try simp only [star_assoc]); (repeat (apply Ent.pk; exact pkA)); first | exact Ent.fin pkA | exact Ent.refl _))
theorem Live_f (i : Int) (h : ¬ (0 ≤ i ∧ i < 4)) : Fn Tryd.prog 24 [.pointer (some ⟨b, 0, none⟩), vi i] (tab b th rg st G T) Unit (fun _ => .bool false) (fun _ => tab b th rg st G T) := by
  (refine Fn.of Tryd.func24 rfl (by kernel_rfl) Tryd.ntmps24 rfl (fun F => ?_))
  (repeat' (first | (refine Ow.is ?_; (first | refine Ow.nil ?_ | refine Ow.pu rfl (Pu.move rfl) ?_ | refine Ow.pu rfl (Pu.assign rfl) ?_ | (refine Ow.kBin ?_; (first | (refine Ow.b_neq ?_; (first | refine Ow.pu rfl (Pu.neNil rfl rfl) ?_)))) | (refine Ow.kCall ?_; (first | refine Ow.callE evA pkA rfl (Of_f _ _ _ _ _ _ _ (by omega)) (fun _ => ?_) | fail)))) | (refine Cw.is ?_; (first | refine Cw.seq ?_ | refine Cw.region ?_ | refine Cw.ret ?_)) | (first | refine thenQ_n ?_)))
  all_goals (refine retQ_v () Tryd.results24 rfl rfl ?_; ((try simp only [star_assoc]); (repeat (apply Ent.pk; exact pkA)); first | exact Ent.fin pkA | exact Ent.refl _))
theorem Live_t (hT : T.length = 4) (i : Int) (h : 0 ≤ i ∧ i < 4) (hq : (T[i.toNat]!).isSome = true) : Fn Tryd.prog 24 [.pointer (some ⟨b, 0, none⟩), vi i] (tab b th rg st G T) Unit (fun _ => .bool true) (fun _ => tab b th rg st G T) := by
  rw [← ptA_n] at hq
  (refine Fn.of Tryd.func24 rfl (by kernel_rfl) Tryd.ntmps24 rfl (fun F => ?_))
  (repeat' (first | (refine Ow.is ?_; (first | refine Ow.nil ?_ | refine Ow.pu rfl (Pu.move rfl) ?_ | refine Ow.pu rfl (Pu.assign rfl) ?_ | (refine Ow.kBin ?_; (first | (refine Ow.b_neq ?_; (first | refine Ow.pu rfl (Pu.neNil rfl rfl) ?_)))) | (refine Ow.kCall ?_; (first | refine Ow.callE evA pkA rfl (Of_t _ _ _ _ _ _ hT _ (by omega)) (fun _ => ?_) | fail)))) | (refine Cw.is ?_; (first | refine Cw.seq ?_ | refine Cw.region ?_ | refine Cw.ret ?_)) | (first | refine thenQ_n ?_)))
  all_goals (refine retQ_v () Tryd.results24 rfl (congrArg Value.bool hq) ?_; ((try simp only [star_assoc]); (repeat (apply Ent.pk; exact pkA)); first | exact Ent.fin pkA | exact Ent.refl _))
theorem Live_n (hT : T.length = 4) (i : Int) (h : 0 ≤ i ∧ i < 4) (hq : (T[i.toNat]!).isSome = false) : Fn Tryd.prog 24 [.pointer (some ⟨b, 0, none⟩), vi i] (tab b th rg st G T) Unit (fun _ => .bool false) (fun _ => tab b th rg st G T) := by
  rw [← ptA_n] at hq
  (refine Fn.of Tryd.func24 rfl (by kernel_rfl) Tryd.ntmps24 rfl (fun F => ?_))
  (repeat' (first | (refine Ow.is ?_; (first | refine Ow.nil ?_ | refine Ow.pu rfl (Pu.move rfl) ?_ | refine Ow.pu rfl (Pu.assign rfl) ?_ | (refine Ow.kBin ?_; (first | (refine Ow.b_neq ?_; (first | refine Ow.pu rfl (Pu.neNil rfl rfl) ?_)))) | (refine Ow.kCall ?_; (first | refine Ow.callE evA pkA rfl (Of_t _ _ _ _ _ _ hT _ (by omega)) (fun _ => ?_) | fail)))) | (refine Cw.is ?_; (first | refine Cw.seq ?_ | refine Cw.region ?_ | refine Cw.ret ?_)) | (first | refine thenQ_n ?_)))
  all_goals (refine retQ_v () Tryd.results24 rfl (congrArg Value.bool hq) ?_; ((try simp only [star_assoc]); (repeat (apply Ent.pk; exact pkA)); first | exact Ent.fin pkA | exact Ent.refl _))
theorem Exit_t (hT : T.length = 4) (i : Int) (h : 0 ≤ i ∧ i < 4) (hq : (T[i.toNat]!).isSome = true) : Fn Tryd.prog 25 [.pointer (some ⟨b, 0, none⟩), vi i] (tab b th rg st G T) Unit (fun _ => vi 0) (fun _ => tab b th rg st G (T.set i.toNat none)) := by
  have hi := h
  match T, hT with
  | [t0, t1, t2, t3], hT =>
  obtain rfl | rfl | rfl | rfl : i = 0 ∨ i = 1 ∨ i = 2 ∨ i = 3 := by omega
  all_goals (refine Fn.of Tryd.func25 rfl (by kernel_rfl) Tryd.ntmps25 rfl (fun F => ?_))
  all_goals (repeat' (first | (refine Ow.is ?_; (first | refine Ow.nil ?_ | refine Ow.pu rfl (Pu.move rfl) ?_ | refine Ow.pu rfl (Pu.assign rfl) ?_ | refine Ow.pu rfl (Pu.fld rfl) ?_ | refine Ow.pu rfl (Pu.nilCheck rfl) ?_ | (refine Ow.kUn ?_; (first | refine Ow.pu rfl (Pu.not rfl) ?_)) | (refine Ow.kStore ?_; (first | refine Ow.store_cl rfl rfl rfl (by (first | rfl | assumption | exact Subtype.property _)) pkA rfl ?_)) | (refine Ow.kIdx ?_; (first | refine Ow.pu rfl (Pu.idxA_b rfl rfl (by omega)) ?_)) | (refine Ow.kCall ?_; (first | refine Ow.callE evA pkA rfl (Live_t _ _ _ _ _ _ hT _ hi hq) (fun _ => ?_) | fail)))) | (refine Cw.is ?_; (first | refine Cw.seq ?_ | refine Cw.region ?_ | refine Cw.cond_f rfl rfl ?_ | refine Cw.ret ?_ | refine Cw.skip ?_)) | (first | refine thenQ_n ?_)))
  all_goals refine Ow.opn (tab_ex _ _ _ _ _ _) (fun x => ?_)
  all_goals (refine Ow.heq (by simp only [star_assoc, emp_star, star_emp]; exact rfl) ?_)
  all_goals simp only [List.map_cons, List.map_nil, stars]
  all_goals (repeat' (first | (refine Ow.is ?_; (first | refine Ow.nil ?_ | refine Ow.pu rfl (Pu.move rfl) ?_ | refine Ow.pu rfl (Pu.assign rfl) ?_ | refine Ow.pu rfl (Pu.fld rfl) ?_ | refine Ow.pu rfl (Pu.nilCheck rfl) ?_ | (refine Ow.kUn ?_; (first | refine Ow.pu rfl (Pu.not rfl) ?_)) | (refine Ow.kStore ?_; (first | refine Ow.store_cl rfl rfl rfl (by (first | rfl | assumption | exact Subtype.property _)) pkA rfl ?_)) | (refine Ow.kIdx ?_; (first | refine Ow.pu rfl (Pu.idxA_b rfl rfl (by omega)) ?_)) | (refine Ow.kCall ?_; (first | refine Ow.callE evA pkA rfl (Live_t _ _ _ _ _ _ hT _ hi hq) (fun _ => ?_) | fail)))) | (refine Cw.is ?_; (first | refine Cw.seq ?_ | refine Cw.region ?_ | refine Cw.cond_f rfl rfl ?_ | refine Cw.ret ?_ | refine Cw.skip ?_)) | (first | refine thenQ_n ?_)))
  all_goals (refine retQ_v () Tryd.results25 rfl rfl ?_; refine Ent.trans ?_ (Ent.left (tab_mk b th rg st G _ x.1 x.2.1 x.2.2)))
  all_goals (simp only [Int.toNat_zero, Int.toNat_one, Int.reduceToNat, List.set_cons_zero, List.set_cons_succ, stars, thO, emp_star, star_emp, star_assoc]; ((try simp only [star_assoc]); (repeat (apply Ent.pk; exact pkA)); first | exact Ent.fin pkA | exact Ent.refl _))
theorem Spawn_f (i : Int) (h : ¬ (0 ≤ i ∧ i < th)) : Fn Tryd.prog 23 [.pointer (some ⟨b, 0, none⟩), vi i] (tab b th rg st G T) Unit (fun _ => vi 2) (fun _ => tab b th rg st G T) := by
  (refine Fn.of Tryd.func23 rfl (by kernel_rfl) Tryd.ntmps23 rfl (fun F => ?_))
  (repeat' (first | (refine Ow.is ?_; (first | refine Ow.nil ?_ | refine Ow.pu rfl (Pu.move rfl) ?_ | refine Ow.pu rfl (Pu.assign rfl) ?_ | refine Ow.pu rfl (Pu.fld rfl) ?_ | refine Ow.pu rfl (Pu.nilCheck rfl) ?_ | (refine Ow.kGuard ?_; (first | refine Ow.guard_yes rfl rfl rfl ?_ | refine Ow.guard_no rfl rfl rfl rfl ?_)) | (refine Ow.kLoad ?_; (first | refine Ow.pu rfl (Pu.load (a := ⟨b, 3, none⟩) rfl pkA (tab_th b th rg st G _)) ?_)) | (refine Ow.kBin ?_; (first | (refine Ow.b_lss ?_; first | refine Ow.pu rfl (Pu.lt_t rfl rfl (by omega)) ?_ | refine Ow.pu rfl (Pu.lt_f rfl rfl (by omega)) ?_ | refine Ow.sp rfl (by exact Pu.lt rfl rfl) (fun hc => ?_) (fun hc => ?_)) | (refine Ow.b_geq ?_; first | refine Ow.pu rfl (Pu.ge_t rfl rfl (by omega)) ?_ | refine Ow.pu rfl (Pu.ge_f rfl rfl (by omega)) ?_ | refine Ow.sp rfl (by exact Pu.ge rfl rfl) (fun hc => ?_) (fun hc => ?_)))) | (refine Ow.kPick ?_; (first | refine Ow.pu rfl (Pu.pick_t rfl rfl) ?_ | refine Ow.pu rfl (Pu.pick_f rfl rfl) ?_)))) | (refine Cw.is ?_; (first | refine Cw.seq ?_ | refine Cw.region ?_ | refine Cw.cond_t rfl rfl ?_ | refine Cw.ret ?_)) | (first | refine thenQ_n ?_ | refine thenQ_r ?_)))
  all_goals (refine retQ_v () Tryd.results23 rfl rfl ?_; ((try simp only [star_assoc]); (repeat (apply Ent.pk; exact pkA)); first | exact Ent.fin pkA | exact Ent.refl _))
theorem Spawn_n (hT : T.length = 4) (i : Int) (hi : 0 ≤ i ∧ i < 4) (hq : (T[i.toNat]!).isSome = true) : Fn Tryd.prog 23 [.pointer (some ⟨b, 0, none⟩), vi i] (tab b th rg st G T) Unit (fun _ => vi 2) (fun _ => tab b th rg st G T) := by
  (refine Fn.of Tryd.func23 rfl (by kernel_rfl) Tryd.ntmps23 rfl (fun F => ?_))
  (repeat' (first | (refine Ow.is ?_; (first | refine Ow.nil ?_ | refine Ow.pu rfl (Pu.move rfl) ?_ | refine Ow.pu rfl (Pu.assign rfl) ?_ | refine Ow.pu rfl (Pu.fld rfl) ?_ | refine Ow.pu rfl (Pu.nilCheck rfl) ?_ | (refine Ow.kGuard ?_; (first | refine Ow.guard_yes rfl rfl rfl ?_ | refine Ow.guard_no rfl rfl rfl rfl ?_)) | (refine Ow.kLoad ?_; (first | refine Ow.pu rfl (Pu.load (a := ⟨b, 3, none⟩) rfl pkA (tab_th b th rg st G _)) ?_)) | (refine Ow.kBin ?_; (first | (refine Ow.b_lss ?_; first | refine Ow.pu rfl (Pu.lt_t rfl rfl (by omega)) ?_ | refine Ow.pu rfl (Pu.lt_f rfl rfl (by omega)) ?_ | refine Ow.sp rfl (by exact Pu.lt rfl rfl) (fun hc => ?_) (fun hc => ?_)) | (refine Ow.b_geq ?_; first | refine Ow.pu rfl (Pu.ge_t rfl rfl (by omega)) ?_ | refine Ow.pu rfl (Pu.ge_f rfl rfl (by omega)) ?_ | refine Ow.sp rfl (by exact Pu.ge rfl rfl) (fun hc => ?_) (fun hc => ?_)))) | (refine Ow.kPick ?_; (first | refine Ow.pu rfl (Pu.pick_t rfl rfl) ?_ | refine Ow.pu rfl (Pu.pick_f rfl rfl) ?_)) | (refine Ow.kCall ?_; (first | refine Ow.callE evA pkA rfl (Live_t _ _ _ _ _ _ hT _ hi hq) (fun _ => ?_) | fail)))) | (refine Cw.is ?_; (first | refine Cw.seq ?_ | refine Cw.region ?_ | refine Cw.cond_t rfl rfl ?_ | refine Cw.ret ?_)) | (first | refine thenQ_n ?_ | refine thenQ_r ?_)))
  all_goals (refine retQ_v () Tryd.results23 rfl rfl ?_; ((try simp only [star_assoc]); (repeat (apply Ent.pk; exact pkA)); first | exact Ent.fin pkA | exact Ent.refl _))
theorem Spawn_t (hT : T.length = 4) (hth : th ≤ 4) (hrg : 0 ≤ rg ∧ rg ≤ 1000000) (hst : 0 ≤ st) (i : Int) (h : 0 ≤ i ∧ i < th) (hq : (T[i.toNat]!).isSome = false) : Fn Tryd.prog 23 [.pointer (some ⟨b, 0, none⟩), vi i] (tab b th rg st G T) Nat (fun _ => vi 0) (fun nb => tab b th rg st G (T.set i.toNat (some (nb, List.replicate rg.toNat 0, [])))) := by
  have hi : 0 ≤ i ∧ i < 4 := by omega
  have hN := New_fn rg st (by omega)
  rw [show max rg 0 = rg by omega, show max st 0 = st by omega] at hN
  match T, hT with
  | [t0, t1, t2, t3], hT =>
  obtain rfl | rfl | rfl | rfl : i = 0 ∨ i = 1 ∨ i = 2 ∨ i = 3 := by omega
  all_goals (refine Fn.of Tryd.func23 rfl (by kernel_rfl) Tryd.ntmps23 rfl (fun F => ?_))
  all_goals (repeat' (first | (refine Ow.is ?_; (first | refine Ow.nil ?_ | refine Ow.pu rfl (Pu.move rfl) ?_ | refine Ow.pu rfl (Pu.assign rfl) ?_ | refine Ow.pu rfl (Pu.fld rfl) ?_ | refine Ow.pu rfl (Pu.nilCheck rfl) ?_ | (refine Ow.kGuard ?_; (first | refine Ow.guard_yes rfl rfl rfl ?_)) | (refine Ow.kLoad ?_; (first | refine Ow.pu rfl (Pu.load (a := ⟨b, 3, none⟩) rfl pkA (tab_th b th rg st G _)) ?_ | refine Ow.pu rfl (Pu.load_cl rfl pkA rfl) ?_)) | (refine Ow.kBin ?_; (first | (refine Ow.b_lss ?_; first | refine Ow.pu rfl (Pu.lt_t rfl rfl (by omega)) ?_ | refine Ow.pu rfl (Pu.lt_f rfl rfl (by omega)) ?_ | refine Ow.sp rfl (by exact Pu.lt rfl rfl) (fun hc => ?_) (fun hc => ?_)) | (refine Ow.b_geq ?_; first | refine Ow.pu rfl (Pu.ge_t rfl rfl (by omega)) ?_ | refine Ow.pu rfl (Pu.ge_f rfl rfl (by omega)) ?_ | refine Ow.sp rfl (by exact Pu.ge rfl rfl) (fun hc => ?_) (fun hc => ?_)))) | (refine Ow.kPick ?_; (first | refine Ow.pu rfl (Pu.pick_f rfl rfl) ?_)) | (refine Ow.kCall ?_; (first | refine Ow.callE evA pkA rfl (Live_n _ _ _ _ _ _ hT _ hi hq) (fun _ => ?_) | refine Ow.callE0 evA rfl (New_fn _ _ (by omega)) (fun nb => ?_) | fail)))) | (refine Cw.is ?_; (first | refine Cw.seq ?_ | refine Cw.region ?_ | refine Cw.cond_f rfl rfl ?_ | refine Cw.ret ?_ | refine Cw.skip ?_)) | (first | refine thenQ_n ?_)))
  all_goals refine Cw.opn (tab_ex _ _ _ _ _ _) (fun x => ?_)
  all_goals (refine Cw.heq (by simp only [star_assoc, emp_star, star_emp]; exact rfl) ?_)
  all_goals simp only [List.map_cons, List.map_nil, stars]
  all_goals (refine Cw.draw1 (cl b (cfgC th rg st x.2.1 x.2.2 ++ [x.1.v, ptrO t0, ptrO t1, ptrO t2, ptrO t3])) true 16 [(0, false), (1, false), (2, false), (3, false), (4, false), (5, false), (6, false), (7, false), (8, false), (9, false), (10, false), (11, false), (13, false), (14, false), (12, true), (15, false), (16, true)] pkA mixed (by kernel_rfl) ?_; (repeat (first | refine Dw.q rfl rfl trivial (by (first | exact Pu.move rfl | exact Pu.assign rfl | exact Pu.fld rfl | exact Pu.nilCheck rfl | exact Pu.idxA rfl rfl (by omega) | (apply Pu.kLoad; (first | exact Pu.load (a := ⟨b, 3, none⟩) rfl pkA (tab_th b th rg st G _) | exact Pu.load_cl rfl pkA rfl)))) ?_ | refine Dw.q rfl rfl ⟨_, _, rfl, rfl, rfl⟩ (by (first | exact Pu.move rfl | exact Pu.assign rfl | exact Pu.fld rfl | exact Pu.nilCheck rfl | exact Pu.idxA rfl rfl (by omega) | (apply Pu.kLoad; (first | exact Pu.load (a := ⟨b, 3, none⟩) rfl pkA (tab_th b th rg st G _) | exact Pu.load_cl rfl pkA rfl)))) ?_)); refine Dw.l rfl (by first | exact trivial | exact ⟨_, _, rfl, rfl, rfl⟩) ?_; refine Ow.callE0 evA rfl hN (fun nb => ?_); refine Ow.nil ?_; refine loudQ.go pkA ?_; (repeat (first | refine Dw.q rfl rfl trivial (by (first | exact Pu.move rfl | exact Pu.assign rfl | exact Pu.fld rfl | exact Pu.nilCheck rfl | exact Pu.idxA rfl rfl (by omega) | (apply Pu.kLoad; (first | exact Pu.load (a := ⟨b, 3, none⟩) rfl pkA (tab_th b th rg st G _) | exact Pu.load_cl rfl pkA rfl)))) ?_ | refine Dw.q rfl rfl ⟨_, _, rfl, rfl, rfl⟩ (by (first | exact Pu.move rfl | exact Pu.assign rfl | exact Pu.fld rfl | exact Pu.nilCheck rfl | exact Pu.idxA rfl rfl (by omega) | (apply Pu.kLoad; (first | exact Pu.load (a := ⟨b, 3, none⟩) rfl pkA (tab_th b th rg st G _) | exact Pu.load_cl rfl pkA rfl)))) ?_)); refine Dw.l rfl (by first | exact trivial | exact ⟨_, _, rfl, rfl, rfl⟩) ?_; refine Ow.store_cl rfl rfl rfl (by (first | rfl | assumption | exact Subtype.property _)) pkA rfl ?_; refine Ow.nil ?_; refine loudQ.last ?_)
  all_goals (repeat' (first | (refine Ow.is ?_; (first | refine Ow.nil ?_ | refine Ow.pu rfl (Pu.move rfl) ?_ | refine Ow.pu rfl (Pu.assign rfl) ?_ | refine Ow.pu rfl (Pu.fld rfl) ?_ | refine Ow.pu rfl (Pu.nilCheck rfl) ?_ | (refine Ow.kGuard ?_; (first | refine Ow.guard_yes rfl rfl rfl ?_)) | (refine Ow.kLoad ?_; (first | refine Ow.pu rfl (Pu.load (a := ⟨b, 3, none⟩) rfl pkA (tab_th b th rg st G _)) ?_ | refine Ow.pu rfl (Pu.load_cl rfl pkA rfl) ?_)) | (refine Ow.kBin ?_; (first | (refine Ow.b_lss ?_; first | refine Ow.pu rfl (Pu.lt_t rfl rfl (by omega)) ?_ | refine Ow.pu rfl (Pu.lt_f rfl rfl (by omega)) ?_ | refine Ow.sp rfl (by exact Pu.lt rfl rfl) (fun hc => ?_) (fun hc => ?_)) | (refine Ow.b_geq ?_; first | refine Ow.pu rfl (Pu.ge_t rfl rfl (by omega)) ?_ | refine Ow.pu rfl (Pu.ge_f rfl rfl (by omega)) ?_ | refine Ow.sp rfl (by exact Pu.ge rfl rfl) (fun hc => ?_) (fun hc => ?_)))) | (refine Ow.kPick ?_; (first | refine Ow.pu rfl (Pu.pick_f rfl rfl) ?_)) | (refine Ow.kCall ?_; (first | refine Ow.callE evA pkA rfl (Live_n _ _ _ _ _ _ hT _ hi hq) (fun _ => ?_) | refine Ow.callE0 evA rfl (New_fn _ _ (by omega)) (fun nb => ?_) | fail)))) | (refine Cw.is ?_; (first | refine Cw.seq ?_ | refine Cw.region ?_ | refine Cw.cond_f rfl rfl ?_ | refine Cw.ret ?_ | refine Cw.skip ?_)) | (first | refine thenQ_n ?_)))
  all_goals (refine retQ_v nb Tryd.results23 rfl rfl ?_; refine Ent.trans ?_ (Ent.left (tab_mk b th rg st G _ x.1 x.2.1 x.2.2)))
  all_goals (simp only [Int.toNat_zero, Int.toNat_one, Int.reduceToNat, List.set_cons_zero, List.set_cons_succ, stars, thO, emp_star, star_emp, star_assoc]; ((try simp only [star_assoc]); (repeat (apply Ent.pk; exact pkA)); first | exact Ent.fin pkA | exact Ent.refl _))
theorem Global_t (i : Int) (h : 0 ≤ i ∧ i < G.length) : Fn Tryd.prog 65 [.pointer (some ⟨b, 0, none⟩), vi i] (tab b th rg st G T) Unit (fun _ => .tuple #[vi G[i.toNat]!, vi 0]) (fun _ => tab b th rg st G T) := by
  (refine Fn.of Tryd.func65 rfl (by kernel_rfl) Tryd.ntmps65 rfl (fun F => ?_))
  refine Cw.opn (tab_ex _ _ _ _ _ _) (fun x => ?_)
  (refine Cw.heq (by simp only [star_assoc, emp_star, star_emp]; exact rfl) ?_)
  (repeat' (first | (refine Ow.is ?_; (first | refine Ow.nil ?_ | refine Ow.pu rfl (Pu.move rfl) ?_ | refine Ow.pu rfl (Pu.assign rfl) ?_ | refine Ow.pu rfl (Pu.fld rfl) ?_ | refine Ow.pu rfl (Pu.nilCheck rfl) ?_ | (refine Ow.kGuard ?_; (first | refine Ow.guard_yes rfl rfl rfl ?_)) | (refine Ow.kLoad ?_; (first | refine Ow.pu rfl (Pu.load_cl rfl pkA rfl) ?_ | refine Ow.pu rfl (Pu.load_sli rfl pkA (by first | omega | (simp only [List.length_set, List.length_append, List.length_replicate, List.length_cons, List.length_nil]; omega))) ?_)) | (refine Ow.kBin ?_; (first | (refine Ow.b_lss ?_; first | refine Ow.pu rfl (Pu.lt_t rfl rfl (by omega)) ?_ | refine Ow.pu rfl (Pu.lt_f rfl rfl (by omega)) ?_ | refine Ow.sp rfl (by exact Pu.lt rfl rfl) (fun hc => ?_) (fun hc => ?_)) | (refine Ow.b_geq ?_; first | refine Ow.pu rfl (Pu.ge_t rfl rfl (by omega)) ?_ | refine Ow.pu rfl (Pu.ge_f rfl rfl (by omega)) ?_ | refine Ow.sp rfl (by exact Pu.ge rfl rfl) (fun hc => ?_) (fun hc => ?_)))) | (refine Ow.kPick ?_; (first | refine Ow.pu rfl (Pu.pick_f rfl rfl) ?_)) | (refine Ow.kIdx ?_; (first | refine Ow.pu rfl (Pu.idx_sl rfl rfl pkA (by simp only [List.length_map, List.length_append, List.length_set, List.length_replicate, List.length_cons, List.length_nil]; omega)) ?_)) | (refine Ow.kBuiltin ?_; (first | refine Ow.pu rfl (Pu.len_slm rfl pkA) ?_)))) | (refine Cw.is ?_; (first | refine Cw.seq ?_ | refine Cw.region ?_ | refine Cw.cond_f rfl rfl ?_ | refine Cw.ret ?_ | refine Cw.skip ?_)) | (first | refine thenQ_n ?_)))
  refine retQ_v2 () Tryd.results65 rfl rfl rfl ?_; refine Ent.trans ?_ (Ent.left (tab_mk b th rg st G T x.1 x.2.1 x.2.2)); ((try simp only [star_assoc]); (repeat (apply Ent.pk; exact pkA)); first | exact Ent.fin pkA | exact Ent.refl _)
theorem SetGlobal_t (i r : Int) (h : 0 ≤ i ∧ i < G.length) : Fn Tryd.prog 63 [.pointer (some ⟨b, 0, none⟩), vi i, vi r] (tab b th rg st G T) Unit (fun _ => vi 0) (fun _ => tab b th rg st (G.set i.toNat r) T) := by
  have hi := h
  (refine Fn.of Tryd.func63 rfl (by kernel_rfl) Tryd.ntmps63 rfl (fun F => ?_))
  (repeat' (first | (refine Ow.is ?_; (first | refine Ow.nil ?_ | refine Ow.pu rfl (Pu.move rfl) ?_ | refine Ow.pu rfl (Pu.assign rfl) ?_ | refine Ow.pu rfl (Pu.fld rfl) ?_ | refine Ow.pu rfl (Pu.nilCheck rfl) ?_ | refine Ow.pu rfl (Pu.extract rfl rfl) ?_ | (refine Ow.kLoad ?_; (first | refine Ow.pu rfl (Pu.load_cl rfl pkA rfl) ?_)) | (refine Ow.kBin ?_; (first | (refine Ow.b_eql ?_; (first | refine Ow.pu rfl (Pu.eq_t rfl rfl roA) ?_)))) | (refine Ow.kStore ?_; (first | refine Ow.store_sli rfl rfl rfl pkA (by first | omega | (simp only [List.length_set, List.length_append, List.length_replicate, List.length_cons, List.length_nil]; omega)) ?_)) | (refine Ow.kIdx ?_; (first | refine Ow.pu rfl (Pu.idx_sl rfl rfl pkA (by simp only [List.length_map, List.length_append, List.length_set, List.length_replicate, List.length_cons, List.length_nil]; omega)) ?_)) | (refine Ow.kCall ?_; (first | refine Ow.callE evA pkA rfl (Global_t _ _ _ _ _ _ _ hi) (fun _ => ?_) | fail)))) | (refine Cw.is ?_; (first | refine Cw.seq ?_ | refine Cw.region ?_ | refine Cw.cond_t rfl rfl ?_ | refine Cw.ret ?_)) | (first | refine thenQ_n ?_)))
  refine Ow.opn (tab_ex _ _ _ _ _ _) (fun x => ?_)
  (refine Ow.heq (by simp only [star_assoc, emp_star, star_emp]; exact rfl) ?_)
  (repeat' (first | (refine Ow.is ?_; (first | refine Ow.nil ?_ | refine Ow.pu rfl (Pu.move rfl) ?_ | refine Ow.pu rfl (Pu.assign rfl) ?_ | refine Ow.pu rfl (Pu.fld rfl) ?_ | refine Ow.pu rfl (Pu.nilCheck rfl) ?_ | refine Ow.pu rfl (Pu.extract rfl rfl) ?_ | (refine Ow.kLoad ?_; (first | refine Ow.pu rfl (Pu.load_cl rfl pkA rfl) ?_)) | (refine Ow.kBin ?_; (first | (refine Ow.b_eql ?_; (first | refine Ow.pu rfl (Pu.eq_t rfl rfl roA) ?_)))) | (refine Ow.kStore ?_; (first | refine Ow.store_sli rfl rfl rfl pkA (by first | omega | (simp only [List.length_set, List.length_append, List.length_replicate, List.length_cons, List.length_nil]; omega)) ?_)) | (refine Ow.kIdx ?_; (first | refine Ow.pu rfl (Pu.idx_sl rfl rfl pkA (by simp only [List.length_map, List.length_append, List.length_set, List.length_replicate, List.length_cons, List.length_nil]; omega)) ?_)) | (refine Ow.kCall ?_; (first | refine Ow.callE evA pkA rfl (Global_t _ _ _ _ _ _ _ hi) (fun _ => ?_) | fail)))) | (refine Cw.is ?_; (first | refine Cw.seq ?_ | refine Cw.region ?_ | refine Cw.cond_t rfl rfl ?_ | refine Cw.ret ?_)) | (first | refine thenQ_n ?_)))
  refine retQ_v () Tryd.results63 rfl rfl ?_; refine Ent.trans ?_ (Ent.left (tab_mk b th rg st _ T x.1 x.2.1 x.2.2)); ((try simp only [star_assoc]); (repeat (apply Ent.pk; exact pkA)); first | exact Ent.fin pkA | exact Ent.refl _)
theorem RNew_fn (k : Ck) (g : Nat) (hg : g ≤ 1000000) : Fn Tryd.prog 22 [.agg (cfgC th rg st g k).toArray] emp Nat (fun b => .pointer (some ⟨b, 0, none⟩)) (fun b => tab b th rg st (List.replicate g 0) [none, none, none, none]) := by
  (refine Fn.of Tryd.func22 rfl (by kernel_rfl) Tryd.ntmps22 rfl (fun F => ?_))
  refine Cw.heq (emp_star F) ?_
  (repeat' (first | (refine Ow.is ?_; (first | refine Ow.nil ?_ | refine Ow.pu rfl (Pu.assign rfl) ?_ | refine Ow.pu rfl (Pu.fld rfl) ?_ | refine Ow.box rfl rfl rfl (fun bx => ?_))) | (refine Cw.is ?_; (first | refine Cw.seq ?_ | refine Cw.region ?_ | refine Cw.ret ?_)) | (first | refine thenQ_n ?_)))
  (refine Cw.draw1 (cl bx (cfgC th rg st g k)) false 0 [(0, false), (1, false), (2, false), (3, true), (4, false), (5, true), (6, false)] pkA mixed (by kernel_rfl) ?_; (repeat (first | refine Dw.q rfl rfl trivial (by (first | exact Pu.assign rfl | exact Pu.fld rfl | exact Pu.build (ps := [(0, .tmp 3), (1, .tmp 6)]) (vs := [.agg (cfgC th rg st g k).toArray, gv.v]) (cs := cfgC th rg st g k ++ [gv.v, .pointer none, .pointer none, .pointer none, .pointer none]) evA (fun w => by kernel_rfl) | (apply Pu.kLoad; (first | exact Pu.load_cl rfl pkA rfl | exact Pu.loadN_cl rfl pkA rfl rfl)))) ?_ | refine Dw.q rfl rfl ⟨_, _, rfl, rfl, rfl⟩ (by (first | exact Pu.assign rfl | exact Pu.fld rfl | exact Pu.build (ps := [(0, .tmp 3), (1, .tmp 6)]) (vs := [.agg (cfgC th rg st g k).toArray, gv.v]) (cs := cfgC th rg st g k ++ [gv.v, .pointer none, .pointer none, .pointer none, .pointer none]) evA (fun w => by kernel_rfl) | (apply Pu.kLoad; (first | exact Pu.load_cl rfl pkA rfl | exact Pu.loadN_cl rfl pkA rfl rfl)))) ?_)); refine Dw.l rfl (by first | exact trivial | exact ⟨_, _, rfl, rfl, rfl⟩) ?_; refine Ow.makeSlice rfl rfl rfl (by omega) (by rfl) (fun gv => ?_); refine Ow.nil ?_; refine loudQ.go pkA ?_; (repeat (first | refine Dw.q rfl rfl trivial (by (first | exact Pu.assign rfl | exact Pu.fld rfl | exact Pu.build (ps := [(0, .tmp 3), (1, .tmp 6)]) (vs := [.agg (cfgC th rg st g k).toArray, gv.v]) (cs := cfgC th rg st g k ++ [gv.v, .pointer none, .pointer none, .pointer none, .pointer none]) evA (fun w => by kernel_rfl) | (apply Pu.kLoad; (first | exact Pu.load_cl rfl pkA rfl | exact Pu.loadN_cl rfl pkA rfl rfl)))) ?_ | refine Dw.q rfl rfl ⟨_, _, rfl, rfl, rfl⟩ (by (first | exact Pu.assign rfl | exact Pu.fld rfl | exact Pu.build (ps := [(0, .tmp 3), (1, .tmp 6)]) (vs := [.agg (cfgC th rg st g k).toArray, gv.v]) (cs := cfgC th rg st g k ++ [gv.v, .pointer none, .pointer none, .pointer none, .pointer none]) evA (fun w => by kernel_rfl) | (apply Pu.kLoad; (first | exact Pu.load_cl rfl pkA rfl | exact Pu.loadN_cl rfl pkA rfl rfl)))) ?_)); refine Dw.l rfl (by first | exact trivial | exact ⟨_, _, rfl, rfl, rfl⟩) ?_; refine Ow.box rfl rfl rfl (fun nb => ?_); refine Ow.nil ?_; refine loudQ.go pkA ?_; (repeat (first | refine Dw.q rfl rfl trivial (by (first | exact Pu.assign rfl | exact Pu.fld rfl | exact Pu.build (ps := [(0, .tmp 3), (1, .tmp 6)]) (vs := [.agg (cfgC th rg st g k).toArray, gv.v]) (cs := cfgC th rg st g k ++ [gv.v, .pointer none, .pointer none, .pointer none, .pointer none]) evA (fun w => by kernel_rfl) | (apply Pu.kLoad; (first | exact Pu.load_cl rfl pkA rfl | exact Pu.loadN_cl rfl pkA rfl rfl)))) ?_ | refine Dw.q rfl rfl ⟨_, _, rfl, rfl, rfl⟩ (by (first | exact Pu.assign rfl | exact Pu.fld rfl | exact Pu.build (ps := [(0, .tmp 3), (1, .tmp 6)]) (vs := [.agg (cfgC th rg st g k).toArray, gv.v]) (cs := cfgC th rg st g k ++ [gv.v, .pointer none, .pointer none, .pointer none, .pointer none]) evA (fun w => by kernel_rfl) | (apply Pu.kLoad; (first | exact Pu.load_cl rfl pkA rfl | exact Pu.loadN_cl rfl pkA rfl rfl)))) ?_)); refine Dw.nil ?_ rfl)
  (repeat' (first | (refine Ow.is ?_; (first | refine Ow.nil ?_ | refine Ow.pu rfl (Pu.assign rfl) ?_ | refine Ow.pu rfl (Pu.fld rfl) ?_ | refine Ow.box rfl rfl rfl (fun bx => ?_))) | (refine Cw.is ?_; (first | refine Cw.seq ?_ | refine Cw.region ?_ | refine Cw.ret ?_)) | (first | refine thenQ_n ?_)))
  refine retQ_v nb Tryd.results22 rfl rfl ?_
  rw [rep_one, show List.replicate g (Value.int .i64 0) = (List.replicate g (0 : Int)).map vi by rw [List.map_replicate]]
  refine Ent.trans ?_ (Ent.left (tab_mk nb th rg st _ _ gv g k))
  simp only [stars, thO, emp_star, star_emp]
  ((try simp only [star_assoc]); (repeat (apply Ent.pk; exact pkA)); first | exact Ent.fin pkA | exact Ent.refl _)
end Go.Sl
namespace Go.Sl
open Go
set_option linter.unusedVariables false
universe u
section
variable {P : Program} {r : Option Nat} {n : Nat} {Q : PostT} {ρ : Env} {ds : List Deferred} {H R A F : HP} {all rest : List Oper} {d : Option Nat} {t : TypeId} {pos : String} {aft : Array Edge} {ts : Array TypeId} {x : Operand}
theorem Cw.rangeN {ι : Type} {l0 : Nat} {r0 : Loop} {g : Operand} {gf : FuncId} {caps : List Value} {ps : List Nat} {assign body : Code} {xs : ι → List Value} {A B : ι → HP} {J : ι → Exit → Prop} {S : ι → Exit → HP} {PS : ι → HP} {Pre Post : HP}
    (hit : ∀ (y : Value) (L : HP) (X : ι → HP), (∀ i, Yc P y (xs i) (A i * L) (fun c => bif c then B i * L else X i)) → Fn P gf (y :: caps) (Pre * L) (Option ι) (fun _ => .tuple #[]) (itPost (Post * L) (fun i => PS i * X i)))
    (hg : ev ρ g = some (.func (.func gf) #[] caps.toArray)) (hps : ps.all (fun p => Nat.blt p n) = true) (hxs : ∀ i, (xs i).length = ps.length) (hp : Ent H (Pre * (pt l0 (.loop r0) * F)))
    (hbody : ∀ (i : ι) (F1 G : HP) (l : Nat) (rec : Loop), Cw P (some l) n assign (thenQ (fun ρ' ds' H' => ∃ H2, Ent H' (H2 * F1) ∧
      Cw P (some l) n body (rdQ (B i * (pt l (.loop rec) * G)) (J i) (fun e => S i e * (pt l (.loop rec) * G))) ρ' ds' (H2 * (pt l (.loop rec) * G))) nilQ) (rdE ps (xs i) ρ) [] (A i * F1))
    (hdone : Q .normal ρ ds (Post * (pt l0 (.loop r0) * F)))
    (hstop : ∀ i e, J i e → Q e ρ ds (PS i * (S i e * (pt l0 (.loop r0) * F)))) :
    Cw P (some l0) n (.rangeFunc g ps.toArray assign body) Q ρ ds H := by
  intro gh w a hrep hds hs
  replace hs := hs.mono hp
  subst hds
  refine wpIn_rangeFunc ?_
  intro fn hfn
  obtain ⟨rec, hrec⟩ : ∃ rec : LoopState → Option Code → Loop, rec = fun st pe => { state := st, pending := pe, fn, tmps := a.tmps, params := ps.toArray, assign, body, defers := r0.defers } := ⟨_, rfl⟩
  obtain ⟨l, hl⟩ : ∃ l, l = w.heap.size := ⟨_, rfl⟩
  obtain ⟨W1, hW1⟩ : ∃ W1, w.alloc (.loop (rec .ready none)) = W1 := ⟨_, rfl⟩
  have hs1 : St gh W1 (pt l (.loop (rec .ready none)) * (pt l0 (.loop r0) * (Pre * F))) := by
    rw [star_left_comm] at hs
    have h2 := hs.alloc (.loop (rec .ready none))
    rw [← hl] at h2
    rw [← hW1]; exact h2
  have hget : w.heap[l0]? = some (.loop r0) := by rw [star_left_comm] at hs; exact hs.get
  let L : HP := pt l (.loop (rec .ready none)) * pt l0 (.loop r0)
  let X : ι → HP := fun i => Sl.ex fun e : Exit => Sl.lift (J i e ∧ (jumpOf e).isSome = true) * (S i e * (pt l (.loop (rec .done (jumpOf e))) * pt l0 (.loop r0)))
  have hyc : ∀ i, Yc P (.func (.yield l) #[] #[]) (xs i) (A i * L) (fun c => bif c then B i * L else X i) := fun i => Yc.of_round (fun g' w' F' hst => by
    have hst1 : St g' w' (pt l (.loop (rec .ready none)) * (A i * (pt l0 (.loop r0) * F'))) := by
      simp only [L, star_assoc] at hst
      rw [star_left_comm]; exact hst
    have hy := run_yield (P := P) (args := (xs i).toArray) hst1.get (by rw [hrec]; simp [hxs i])
    rw [hrec] at hy
    refine ⟨fn, _, assign, body, hy, roundIn_of_wpIn hfn ?_⟩
    have hrep' : Rep n (rdE ps (xs i) ρ) { tmps := (ps.toArray.zip (xs i).toArray).foldl (fun tmps (t, a) => tmps.setIfInBounds t a) a.tmps, defers := [] } := by
      have := rep_rdE (n := n) (ds := []) ps (xs i) ρ a.tmps hps ⟨hrep.1, hrep.2⟩
      simpa [List.zip_toArray] using this
    have hst2 : St g' w' (A i * (pt l (.loop (rec .ready none)) * (pt l0 (.loop r0) * F'))) := by rw [star_left_comm]; exact hst1
    have hb := hbody i (pt l (.loop (rec .ready none)) * (pt l0 (.loop r0) * F')) (pt l0 (.loop r0) * F') l (rec .busy none)
    refine wpIn_mono (hb g' w' _ hrep' rfl hst2) ?_
    rintro e a1 w1 ⟨ρ1, H1, hr1, hs1, hq1⟩
    cases e with
    | normal =>
      obtain ⟨H2, hent, hcw⟩ := hq1
      have hs2 := hs1.mono hent
      rw [star_left_comm] at hs2
      refine ⟨_, run_beginRound hs2.get (by rw [hrec]), ?_⟩
      have hs3 : St g' (w1.putObj l (.loop { rec .ready none with state := .busy })) (H2 * (pt l (.loop (rec .busy none)) * (pt l0 (.loop r0) * F'))) := by
        rw [star_left_comm]
        have e : (rec .busy none) = { rec .ready none with state := .busy } := by rw [hrec]
        rw [e]
        refine hs2.put rfl rfl ?_ ?_
        · simp [World.putObj, hs2.lt]
        · intro i hi; simp [World.putObj, Array.getElem?_setIfInBounds_ne (Ne.symm hi)]
      refine wpIn_mono (hcw g' _ a1 hr1 rfl hs3) ?_
      have fin : ∀ (K : HP) (jump : Option Code) (W3 : World), St g' W3 (K * (pt l (.loop (rec .busy none)) * (pt l0 (.loop r0) * F'))) →
          ∃ W4, (Instr.endRound l jump).run P W3 = .ok (.bool jump.isNone) W4 ∧ St g' W4 (K * (pt l (.loop (rec (if jump.isNone then .ready else .done) jump)) * (pt l0 (.loop r0) * F'))) := fun K jump W3 hs4 => by
        rw [star_left_comm] at hs4
        have hr := run_endRound (P := P) jump hs4.get
        refine ⟨_, hr, ?_⟩
        rw [star_left_comm]
        have e : (rec (if jump.isNone then .ready else .done) jump) = { rec .busy none with state := if jump.isNone then .ready else .done, pending := jump } := by rw [hrec]
        rw [e]
        refine hs4.put rfl rfl ?_ ?_
        · simp [World.putObj, hs4.lt]
        · intro i hi; simp [World.putObj, Array.getElem?_setIfInBounds_ne (Ne.symm hi)]
      rintro e a3 W3 ⟨ρ3, H3, hr3, hs4, hq⟩
      rcases hq with ⟨rfl, hent3⟩ | ⟨hj, hjs, hent3⟩
      · obtain ⟨W4, h5, h6⟩ := fin (B i) none W3 (hs4.mono hent3)
        refine ⟨_, _, h5, true, rfl, ?_⟩
        simp only [L, cond_true, star_assoc]
        exact h6
      · have done : ∃ W4, (Instr.endRound l (jumpOf e)).run P W3 = .ok (.bool (jumpOf e).isNone) W4 ∧ St g' W4 (X i * F') := by
          obtain ⟨W4, h5, h6⟩ := fin (S i e) (jumpOf e) W3 (hs4.mono hent3)
          refine ⟨W4, h5, h6.mono ?_⟩
          have hn : (jumpOf e).isNone = false := by cases h : jumpOf e <;> simp_all
          rw [hn]
          simp only [X]
          rw [ex_star]
          refine Ent.trans ?_ (Ent.ex (A := fun e => Sl.lift (J i e ∧ (jumpOf e).isSome = true) * (S i e * (pt l (.loop (rec .done (jumpOf e))) * pt l0 (.loop r0))) * F') e)
          simp only [star_assoc]
          exact Ent.lift ⟨hj, hjs⟩
        obtain ⟨W4, h5, h6⟩ := done
        cases e with
        | normal => simp [jumpOf] at hjs
        | ret => exact ⟨_, _, h5, false, rfl, h6⟩
        | exit id => exact ⟨_, _, h5, false, rfl, h6⟩
        | goto t => exact ⟨_, _, h5, false, rfl, h6⟩
        | panic ch => simp [jumpOf] at hjs
        | outgrown => simp [jumpOf] at hjs
    | ret => exact hq1.elim
    | exit id => exact hq1.elim
    | goto t => exact hq1.elim
    | panic ch => exact hq1.elim
    | outgrown => exact hq1.elim)
  have hfn2 := hit (.func (.yield l) #[] #[]) L X hyc
  refine ⟨l, [], W1, { target := .fn (.func gf) caps.toArray, args := #[.func (.yield l) #[] #[]] }, W1, gf, #[.func (.yield l) #[] #[]] ++ caps.toArray, W1, ?_, ?_, ?_, ?_, fun h => by simp [fen, Fence.wide] at h, ?_⟩
  · have h2 := run_enterLoop_inner (P := P) (w := w) hget fn a.tmps ps.toArray assign body
    rw [← hW1, hrec, hl]; exact h2
  · simp only [resolve, ev_eval hrep hg]
    simp [go_sem]
  · intro f' hf'; trivial
  · simp [invoke, go_sem, hfn2.enters]
  · have hs2 : St gh W1 (Pre * L * F) := by
      simp only [L, star_assoc]
      have e : Pre * (pt l (.loop (rec .ready none)) * (pt l0 (.loop r0) * F)) = pt l (.loop (rec .ready none)) * (pt l0 (.loop r0) * (Pre * F)) := by
        rw [star_left_comm, star_left_comm Pre]
      rw [e]; exact hs1
    have hc := hfn2.calls gh F W1 hs2
    have hc' : CallsIn (fen (some l0)) (0 - 1) P gf (#[.func (.yield l) #[] #[]] ++ caps.toArray) W1 (fun e w' => ∃ o : Option ι, e = .returned (.tuple #[]) ∧ St gh w' (itPost (Post * L) (fun i => PS i * X i) o * F)) := by
      have e2 : (#[.func (.yield l) #[] #[]] ++ caps.toArray : Array Value) = (Value.func (.yield l) #[] #[] :: caps).toArray := by simp
      rw [e2]
      exact (callsIn_wide (n := 0 - 1)).2 hc
    refine hc'.mono ?_
    have fin : ∀ (K : HP) (st : LoopState) (jump : Option Code) (W3 : World), st ≠ .busy → St gh W3 (pt l (.loop (rec st jump)) * K) → ∃ W4, (Instr.endLoop l).run P W3 = .ok jump W4 ∧ St gh W4 K := fun K st jump W3 hst hs4 => by
      have hr := run_endLoop (P := P) hs4.get (by rw [hrec]; exact hst)
      obtain ⟨W4, hW4⟩ : ∃ W4, W3.putObj l (.loop { rec st jump with state := .exhausted }) = W4 := ⟨_, rfl⟩
      rw [hW4, show (rec st jump).pending = jump by rw [hrec]] at hr
      refine ⟨W4, hr, ?_⟩
      rw [← hW4]
      have : St gh (W3.putObj l (.loop { rec st jump with state := .exhausted })) (pt l (.loop { rec st jump with state := .exhausted }) * K) := by
        refine hs4.put rfl rfl ?_ ?_
        · simp [World.putObj, hs4.lt]
        · intro i hi; simp [World.putObj, Array.getElem?_setIfInBounds_ne (Ne.symm hi)]
      exact this.right
    rintro e W2 ⟨o, rfl, hst⟩
    cases o with
    | none =>
      have hst' : St gh W2 (pt l (.loop (rec .ready none)) * (Post * (pt l0 (.loop r0) * F))) := by
        rw [star_left_comm]
        simp only [L, star_assoc, itPost] at hst
        exact hst
      obtain ⟨W4, h5, h6⟩ := fin _ _ _ _ (by simp) hst'
      exact ⟨none, W4, h5, ρ, _, ⟨hrep.1, hrep.2⟩, h6, hdone⟩
    | some i =>
      simp only [X, itPost] at hst
      rw [star_assoc, star_left_comm, ex_star] at hst
      obtain ⟨e, hst⟩ := St.ex.1 hst
      rw [star_assoc] at hst
      obtain ⟨⟨hj, hjs⟩, hst⟩ := St.lift.1 hst
      have hst' : St gh W2 (pt l (.loop (rec .done (jumpOf e))) * (PS i * (S i e * (pt l0 (.loop r0) * F)))) := by
        simp only [star_assoc] at hst
        refine hst.mono (Ent.of_eq ?_)
        ac_rfl
      obtain ⟨W4, h5, h6⟩ := fin _ _ _ _ (by simp) hst'
      refine ⟨jumpOf e, W4, h5, ?_⟩
      have hq : toQ n gh Q e a W4 := ⟨ρ, _, ⟨hrep.1, hrep.2⟩, h6, hstop i e hj⟩
      cases e with
      | normal => simp [jumpOf] at hjs
      | ret => exact wpIn_ret hq
      | exit id => exact wpIn_exit hq
      | goto t => exact wpIn_goto hq
      | panic ch => simp [jumpOf] at hjs
      | outgrown => simp [jumpOf] at hjs
end
end Go.Sl
namespace Go.Sl
open Go Go.Proofs
set_option linter.unusedVariables false
set_option linter.unusedSimpArgs false
attribute [local irreducible] star Ow Cw Pk Pu Dw thenQ blockQ retQ loudQ Cr thr tab rdQ
theorem Globals_fn (b : Nat) : Fn Tryd.prog 51 [.pointer (some ⟨b, 0, none⟩)] emp Nat (fun c => .func (.func 66) #[] #[.pointer (some ⟨c, 0, none⟩)]) (fun c => cl c [.pointer (some ⟨b, 0, none⟩)]) := by
  (refine Fn.of Tryd.func51 rfl (by kernel_rfl) Tryd.ntmps51 rfl (fun F => ?_))
  refine Cw.heq (emp_star F) ?_
  (repeat' (first | (refine Ow.is ?_; (first | refine Ow.nil ?_ | refine Ow.pu rfl (Pu.assign rfl) ?_ | refine Ow.box rfl rfl rfl (fun bx => ?_) | refine Ow.pu rfl (Pu.makeFunc (by (repeat first | exact Evs.nil | apply Evs.cons rfl))) ?_)) | (refine Cw.is ?_; (first | refine Cw.seq ?_ | refine Cw.region ?_ | refine Cw.ret ?_)) | (first | refine thenQ_n ?_)))
  refine retQ_v bx Tryd.results51 rfl rfl ?_
  ((try simp only [star_assoc]); (repeat (apply Ent.pk; exact pkA)); first | exact Ent.fin pkA | exact Ent.refl _)
theorem Threads_fn (b : Nat) : Fn Tryd.prog 52 [.pointer (some ⟨b, 0, none⟩)] emp Nat (fun c => .func (.func 67) #[] #[.pointer (some ⟨c, 0, none⟩)]) (fun c => cl c [.pointer (some ⟨b, 0, none⟩)]) := by
  (refine Fn.of Tryd.func52 rfl (by kernel_rfl) Tryd.ntmps52 rfl (fun F => ?_))
  refine Cw.heq (emp_star F) ?_
  (repeat' (first | (refine Ow.is ?_; (first | refine Ow.nil ?_ | refine Ow.pu rfl (Pu.assign rfl) ?_ | refine Ow.box rfl rfl rfl (fun bx => ?_) | refine Ow.pu rfl (Pu.makeFunc (by (repeat first | exact Evs.nil | apply Evs.cons rfl))) ?_)) | (refine Cw.is ?_; (first | refine Cw.seq ?_ | refine Cw.region ?_ | refine Cw.ret ?_)) | (first | refine thenQ_n ?_)))
  refine retQ_v bx Tryd.results52 rfl rfl ?_
  ((try simp only [star_assoc]); (repeat (apply Ent.pk; exact pkA)); first | exact Ent.fin pkA | exact Ent.refl _)
theorem All_fn (b : Nat) : Fn Tryd.prog 33 [.pointer (some ⟨b, 0, none⟩)] emp Nat (fun c => .func (.func 50) #[] #[.pointer (some ⟨c, 0, none⟩)]) (fun c => cl c [.pointer (some ⟨b, 0, none⟩)]) := by
  (refine Fn.of Tryd.func33 rfl (by kernel_rfl) Tryd.ntmps33 rfl (fun F => ?_))
  refine Cw.heq (emp_star F) ?_
  (repeat' (first | (refine Ow.is ?_; (first | refine Ow.nil ?_ | refine Ow.pu rfl (Pu.assign rfl) ?_ | refine Ow.box rfl rfl rfl (fun bx => ?_) | refine Ow.pu rfl (Pu.makeFunc (by (repeat first | exact Evs.nil | apply Evs.cons rfl))) ?_)) | (refine Cw.is ?_; (first | refine Cw.seq ?_ | refine Cw.region ?_ | refine Cw.ret ?_)) | (first | refine thenQ_n ?_)))
  refine retQ_v bx Tryd.results33 rfl rfl ?_
  ((try simp only [star_assoc]); (repeat (apply Ent.pk; exact pkA)); first | exact Ent.fin pkA | exact Ent.refl _)
set_option maxHeartbeats 4000000 in
theorem GlobalsIt (b c : Nat) (th rg st : Int) (G : List Int) (T : List Slt) (hG : G.length < 1000000) (U : Nat → HP) (y : Value) (L : HP) (X : Fin (nz G).length → HP)
    (hy : ∀ i : Fin (nz G).length, Yc Tryd.prog y [vi (nz G)[i.1]!] (U i.1 * L) (fun c => bif c then U (i.1 + 1) * L else X i)) :
    Fn Tryd.prog 66 (y :: [.pointer (some ⟨c, 0, none⟩)]) (cl c [.pointer (some ⟨b, 0, none⟩)] * (tab b th rg st G T * U 0) * L) (Option (Fin (nz G).length)) (fun _ => .tuple #[])
      (itPost (cl c [.pointer (some ⟨b, 0, none⟩)] * (tab b th rg st G T * U (nz G).length) * L) (fun i => cl c [.pointer (some ⟨b, 0, none⟩)] * tab b th rg st G T * X i)) := by
  (refine Fn.of Tryd.func66 rfl (by kernel_rfl) Tryd.ntmps66 rfl (fun F => ?_))
  refine Cw.heq (show _ = tab b th rg st G T * (cl c [.pointer (some ⟨b, 0, none⟩)] * (U 0 * (L * F))) by ac_rfl) ?_
  refine Cw.opn (tab_ex _ _ _ _ _ _) (fun x => ?_)
  (refine Cw.heq (by simp only [star_assoc, emp_star, star_emp]; exact rfl) ?_)
  (repeat' (first | (refine Ow.is ?_; (first | refine Ow.nil ?_ | refine Ow.pu rfl (Pu.move rfl) ?_ | refine Ow.pu rfl (Pu.assign rfl) ?_ | refine Ow.pu rfl (Pu.fld rfl) ?_ | refine Ow.pu rfl (Pu.nilCheck rfl) ?_ | (refine Ow.kGuard ?_; (first | refine Ow.guard_yes rfl rfl rfl ?_ | refine Ow.guard_no rfl rfl rfl rfl ?_)) | (refine Ow.kLoad ?_; (first | refine Ow.pu rfl (Pu.load_cl rfl pkA rfl) ?_ | refine Ow.pu rfl (Pu.load_sli rfl pkA (by first | omega | (simp only [List.length_set, List.length_append, List.length_replicate, List.length_cons, List.length_nil]; omega))) ?_)) | (refine Ow.kBin ?_; (first | (refine Ow.b_lss ?_; first | refine Ow.pu rfl (Pu.lt_t rfl rfl (by omega)) ?_ | refine Ow.pu rfl (Pu.lt_f rfl rfl (by omega)) ?_ | refine Ow.sp rfl (by exact Pu.lt rfl rfl) (fun hc => ?_) (fun hc => ?_)) | (refine Ow.b_neq ?_; (first | refine Ow.pu rfl (Pu.ne_t rfl rfl odA) ?_ | refine Ow.pu rfl (Pu.ne_f rfl rfl roA) ?_)) | (refine Ow.b_add ?_; refine Ow.pu rfl (Pu.add_i rfl rfl (by omega)) ?_))) | (refine Ow.kPick ?_; (first | refine Ow.pu rfl (Pu.pick_t rfl rfl) ?_ | refine Ow.pu rfl (Pu.pick_f rfl rfl) ?_)) | (refine Ow.kUn ?_; (first | refine Ow.pu rfl (Pu.not rfl) ?_)) | (refine Ow.kIdx ?_; (first | refine Ow.pu rfl (Pu.idx_sln rfl rfl pkA (by simp only [List.length_map, List.length_append, List.length_set, List.length_replicate, List.length_cons, List.length_nil]; omega)) ?_)) | (refine Ow.kBuiltin ?_; (first | refine Ow.pu rfl (Pu.len_slm rfl pkA) ?_)))) | (refine Cw.is ?_; (first | refine Cw.seq ?_ | refine Cw.region ?_ | refine Cw.cond_t rfl rfl ?_ | refine Cw.cond_f rfl rfl ?_ | refine Cw.block ?_ | refine Cw.ret ?_ | refine Cw.exit ?_ | refine Cw.skip ?_)) | (first | refine thenQ_n ?_ | refine thenQ_r ?_ | refine thenQ_e ?_ | refine blockQ_n ?_ | refine blockQ_r ?_ | refine blockQ_e ?_)))
  refine Cw.loopI (fun j : Nat => j ≤ G.length) (fun j => [(0, y), (8, x.1.v), (9, vi G.length), (10, vi j)])
    (fun j => slk 1 x.1.v (G.map vi) * (U (cnt G j) * (L * (stars st T * (cl b (cfgC th rg st x.2.1 x.2.2 ++ (x.1.v :: T.map ptrO)) * (cl c [.pointer (some ⟨b, 0, none⟩)] * F))))))
    (fun j => G.length - j) 0 (by omega) (by (repeat first | exact trivial | refine ⟨rfl, ?_⟩)) (by rw [show cnt G 0 = 0 by simp [cnt, nz]]; ((try simp only [star_assoc]); (repeat (apply Ent.pk; exact pkA)); first | exact Ent.fin pkA | exact Ent.refl _)) (fun j hj => ?_)
  by_cases hj2 : j < G.length
  · have hstep := cnt_step G j hj2
    by_cases hz : G[j]! = 0
    · (repeat' (first | (refine Ow.is ?_; (first | refine Ow.nil ?_ | refine Ow.pu rfl (Pu.move rfl) ?_ | refine Ow.pu rfl (Pu.assign rfl) ?_ | refine Ow.pu rfl (Pu.fld rfl) ?_ | refine Ow.pu rfl (Pu.nilCheck rfl) ?_ | (refine Ow.kGuard ?_; (first | refine Ow.guard_yes rfl rfl rfl ?_ | refine Ow.guard_no rfl rfl rfl rfl ?_)) | (refine Ow.kLoad ?_; (first | refine Ow.pu rfl (Pu.load_cl rfl pkA rfl) ?_ | refine Ow.pu rfl (Pu.load_sli rfl pkA (by first | omega | (simp only [List.length_set, List.length_append, List.length_replicate, List.length_cons, List.length_nil]; omega))) ?_)) | (refine Ow.kBin ?_; (first | (refine Ow.b_lss ?_; first | refine Ow.pu rfl (Pu.lt_t rfl rfl (by omega)) ?_ | refine Ow.pu rfl (Pu.lt_f rfl rfl (by omega)) ?_ | refine Ow.sp rfl (by exact Pu.lt rfl rfl) (fun hc => ?_) (fun hc => ?_)) | (refine Ow.b_neq ?_; (first | refine Ow.pu rfl (Pu.ne_t rfl rfl odA) ?_ | refine Ow.pu rfl (Pu.ne_f rfl rfl roA) ?_)) | (refine Ow.b_add ?_; refine Ow.pu rfl (Pu.add_i rfl rfl (by omega)) ?_))) | (refine Ow.kPick ?_; (first | refine Ow.pu rfl (Pu.pick_t rfl rfl) ?_ | refine Ow.pu rfl (Pu.pick_f rfl rfl) ?_)) | (refine Ow.kUn ?_; (first | refine Ow.pu rfl (Pu.not rfl) ?_)) | (refine Ow.kIdx ?_; (first | refine Ow.pu rfl (Pu.idx_sln rfl rfl pkA (by simp only [List.length_map, List.length_append, List.length_set, List.length_replicate, List.length_cons, List.length_nil]; omega)) ?_)) | (refine Ow.kBuiltin ?_; (first | refine Ow.pu rfl (Pu.len_slm rfl pkA) ?_)))) | (refine Cw.is ?_; (first | refine Cw.seq ?_ | refine Cw.region ?_ | refine Cw.cond_t rfl rfl ?_ | refine Cw.cond_f rfl rfl ?_ | refine Cw.block ?_ | refine Cw.ret ?_ | refine Cw.exit ?_ | refine Cw.skip ?_)) | (first | refine thenQ_n ?_ | refine thenQ_r ?_ | refine thenQ_e ?_ | refine blockQ_n ?_ | refine blockQ_r ?_ | refine blockQ_e ?_)))
      exact ⟨rfl, j + 1, by omega, by omega, by (repeat first | exact trivial | refine ⟨rfl, ?_⟩), by rw [hstep.1 hz]; ((try simp only [star_assoc]); (repeat (apply Ent.pk; exact pkA)); first | exact Ent.fin pkA | exact Ent.refl _)⟩
    · obtain ⟨h1, h2, h3⟩ := hstep.2 hz
      have hyy := hy ⟨cnt G j, h2⟩
      simp only [h3] at hyy
      (repeat' (first | (refine Ow.is ?_; (first | refine Ow.nil ?_ | refine Ow.pu rfl (Pu.move rfl) ?_ | refine Ow.pu rfl (Pu.assign rfl) ?_ | refine Ow.pu rfl (Pu.fld rfl) ?_ | refine Ow.pu rfl (Pu.nilCheck rfl) ?_ | (refine Ow.kGuard ?_; (first | refine Ow.guard_yes rfl rfl rfl ?_ | refine Ow.guard_no rfl rfl rfl rfl ?_)) | (refine Ow.kLoad ?_; (first | refine Ow.pu rfl (Pu.load_cl rfl pkA rfl) ?_ | refine Ow.pu rfl (Pu.load_sli rfl pkA (by first | omega | (simp only [List.length_set, List.length_append, List.length_replicate, List.length_cons, List.length_nil]; omega))) ?_)) | (refine Ow.kBin ?_; (first | (refine Ow.b_lss ?_; first | refine Ow.pu rfl (Pu.lt_t rfl rfl (by omega)) ?_ | refine Ow.pu rfl (Pu.lt_f rfl rfl (by omega)) ?_ | refine Ow.sp rfl (by exact Pu.lt rfl rfl) (fun hc => ?_) (fun hc => ?_)) | (refine Ow.b_neq ?_; (first | refine Ow.pu rfl (Pu.ne_t rfl rfl odA) ?_ | refine Ow.pu rfl (Pu.ne_f rfl rfl roA) ?_)) | (refine Ow.b_add ?_; refine Ow.pu rfl (Pu.add_i rfl rfl (by omega)) ?_))) | (refine Ow.kPick ?_; (first | refine Ow.pu rfl (Pu.pick_t rfl rfl) ?_ | refine Ow.pu rfl (Pu.pick_f rfl rfl) ?_)) | (refine Ow.kUn ?_; (first | refine Ow.pu rfl (Pu.not rfl) ?_)) | (refine Ow.kIdx ?_; (first | refine Ow.pu rfl (Pu.idx_sln rfl rfl pkA (by simp only [List.length_map, List.length_append, List.length_set, List.length_replicate, List.length_cons, List.length_nil]; omega)) ?_)) | (refine Ow.kBuiltin ?_; (first | refine Ow.pu rfl (Pu.len_slm rfl pkA) ?_)))) | (refine Cw.is ?_; (first | refine Cw.seq ?_ | refine Cw.region ?_ | refine Cw.cond_t rfl rfl ?_ | refine Cw.cond_f rfl rfl ?_ | refine Cw.block ?_ | refine Cw.ret ?_ | refine Cw.exit ?_ | refine Cw.skip ?_)) | (first | refine thenQ_n ?_ | refine thenQ_r ?_ | refine thenQ_e ?_ | refine blockQ_n ?_ | refine blockQ_r ?_ | refine blockQ_e ?_)))
      refine Ow.yc2 hyy rfl rfl evA pkA pkA (fun r => ?_)
      cases r with
      | true =>
        rw [cond_true]
        (repeat' (first | (refine Ow.is ?_; (first | refine Ow.nil ?_ | refine Ow.pu rfl (Pu.move rfl) ?_ | refine Ow.pu rfl (Pu.assign rfl) ?_ | refine Ow.pu rfl (Pu.fld rfl) ?_ | refine Ow.pu rfl (Pu.nilCheck rfl) ?_ | (refine Ow.kGuard ?_; (first | refine Ow.guard_yes rfl rfl rfl ?_ | refine Ow.guard_no rfl rfl rfl rfl ?_)) | (refine Ow.kLoad ?_; (first | refine Ow.pu rfl (Pu.load_cl rfl pkA rfl) ?_ | refine Ow.pu rfl (Pu.load_sli rfl pkA (by first | omega | (simp only [List.length_set, List.length_append, List.length_replicate, List.length_cons, List.length_nil]; omega))) ?_)) | (refine Ow.kBin ?_; (first | (refine Ow.b_lss ?_; first | refine Ow.pu rfl (Pu.lt_t rfl rfl (by omega)) ?_ | refine Ow.pu rfl (Pu.lt_f rfl rfl (by omega)) ?_ | refine Ow.sp rfl (by exact Pu.lt rfl rfl) (fun hc => ?_) (fun hc => ?_)) | (refine Ow.b_neq ?_; (first | refine Ow.pu rfl (Pu.ne_t rfl rfl odA) ?_ | refine Ow.pu rfl (Pu.ne_f rfl rfl roA) ?_)) | (refine Ow.b_add ?_; refine Ow.pu rfl (Pu.add_i rfl rfl (by omega)) ?_))) | (refine Ow.kPick ?_; (first | refine Ow.pu rfl (Pu.pick_t rfl rfl) ?_ | refine Ow.pu rfl (Pu.pick_f rfl rfl) ?_)) | (refine Ow.kUn ?_; (first | refine Ow.pu rfl (Pu.not rfl) ?_)) | (refine Ow.kIdx ?_; (first | refine Ow.pu rfl (Pu.idx_sln rfl rfl pkA (by simp only [List.length_map, List.length_append, List.length_set, List.length_replicate, List.length_cons, List.length_nil]; omega)) ?_)) | (refine Ow.kBuiltin ?_; (first | refine Ow.pu rfl (Pu.len_slm rfl pkA) ?_)))) | (refine Cw.is ?_; (first | refine Cw.seq ?_ | refine Cw.region ?_ | refine Cw.cond_t rfl rfl ?_ | refine Cw.cond_f rfl rfl ?_ | refine Cw.block ?_ | refine Cw.ret ?_ | refine Cw.exit ?_ | refine Cw.skip ?_)) | (first | refine thenQ_n ?_ | refine thenQ_r ?_ | refine thenQ_e ?_ | refine blockQ_n ?_ | refine blockQ_r ?_ | refine blockQ_e ?_)))
        exact ⟨rfl, j + 1, by omega, by omega, by (repeat first | exact trivial | refine ⟨rfl, ?_⟩), by rw [h1]; ((try simp only [star_assoc]); (repeat (apply Ent.pk; exact pkA)); first | exact Ent.fin pkA | exact Ent.refl _)⟩
      | false =>
        rw [cond_false]
        (repeat' (first | (refine Ow.is ?_; (first | refine Ow.nil ?_ | refine Ow.pu rfl (Pu.move rfl) ?_ | refine Ow.pu rfl (Pu.assign rfl) ?_ | refine Ow.pu rfl (Pu.fld rfl) ?_ | refine Ow.pu rfl (Pu.nilCheck rfl) ?_ | (refine Ow.kGuard ?_; (first | refine Ow.guard_yes rfl rfl rfl ?_ | refine Ow.guard_no rfl rfl rfl rfl ?_)) | (refine Ow.kLoad ?_; (first | refine Ow.pu rfl (Pu.load_cl rfl pkA rfl) ?_ | refine Ow.pu rfl (Pu.load_sli rfl pkA (by first | omega | (simp only [List.length_set, List.length_append, List.length_replicate, List.length_cons, List.length_nil]; omega))) ?_)) | (refine Ow.kBin ?_; (first | (refine Ow.b_lss ?_; first | refine Ow.pu rfl (Pu.lt_t rfl rfl (by omega)) ?_ | refine Ow.pu rfl (Pu.lt_f rfl rfl (by omega)) ?_ | refine Ow.sp rfl (by exact Pu.lt rfl rfl) (fun hc => ?_) (fun hc => ?_)) | (refine Ow.b_neq ?_; (first | refine Ow.pu rfl (Pu.ne_t rfl rfl odA) ?_ | refine Ow.pu rfl (Pu.ne_f rfl rfl roA) ?_)) | (refine Ow.b_add ?_; refine Ow.pu rfl (Pu.add_i rfl rfl (by omega)) ?_))) | (refine Ow.kPick ?_; (first | refine Ow.pu rfl (Pu.pick_t rfl rfl) ?_ | refine Ow.pu rfl (Pu.pick_f rfl rfl) ?_)) | (refine Ow.kUn ?_; (first | refine Ow.pu rfl (Pu.not rfl) ?_)) | (refine Ow.kIdx ?_; (first | refine Ow.pu rfl (Pu.idx_sln rfl rfl pkA (by simp only [List.length_map, List.length_append, List.length_set, List.length_replicate, List.length_cons, List.length_nil]; omega)) ?_)) | (refine Ow.kBuiltin ?_; (first | refine Ow.pu rfl (Pu.len_slm rfl pkA) ?_)))) | (refine Cw.is ?_; (first | refine Cw.seq ?_ | refine Cw.region ?_ | refine Cw.cond_t rfl rfl ?_ | refine Cw.cond_f rfl rfl ?_ | refine Cw.block ?_ | refine Cw.ret ?_ | refine Cw.exit ?_ | refine Cw.skip ?_)) | (first | refine thenQ_n ?_ | refine thenQ_r ?_ | refine thenQ_e ?_ | refine blockQ_n ?_ | refine blockQ_r ?_ | refine blockQ_e ?_)))
        refine retQ_r (some ⟨cnt G j, h2⟩) (res0 Tryd.results66) ?_
        refine Ent.trans (Ent.of_eq ?_) (Ent.left (Ent.left (Ent.right (tab_mk b th rg st G T x.1 x.2.1 x.2.2))))
        ac_rfl
  · obtain rfl : j = G.length := by omega
    (repeat' (first | (refine Ow.is ?_; (first | refine Ow.nil ?_ | refine Ow.pu rfl (Pu.move rfl) ?_ | refine Ow.pu rfl (Pu.assign rfl) ?_ | refine Ow.pu rfl (Pu.fld rfl) ?_ | refine Ow.pu rfl (Pu.nilCheck rfl) ?_ | (refine Ow.kGuard ?_; (first | refine Ow.guard_yes rfl rfl rfl ?_ | refine Ow.guard_no rfl rfl rfl rfl ?_)) | (refine Ow.kLoad ?_; (first | refine Ow.pu rfl (Pu.load_cl rfl pkA rfl) ?_ | refine Ow.pu rfl (Pu.load_sli rfl pkA (by first | omega | (simp only [List.length_set, List.length_append, List.length_replicate, List.length_cons, List.length_nil]; omega))) ?_)) | (refine Ow.kBin ?_; (first | (refine Ow.b_lss ?_; first | refine Ow.pu rfl (Pu.lt_t rfl rfl (by omega)) ?_ | refine Ow.pu rfl (Pu.lt_f rfl rfl (by omega)) ?_ | refine Ow.sp rfl (by exact Pu.lt rfl rfl) (fun hc => ?_) (fun hc => ?_)) | (refine Ow.b_neq ?_; (first | refine Ow.pu rfl (Pu.ne_t rfl rfl odA) ?_ | refine Ow.pu rfl (Pu.ne_f rfl rfl roA) ?_)) | (refine Ow.b_add ?_; refine Ow.pu rfl (Pu.add_i rfl rfl (by omega)) ?_))) | (refine Ow.kPick ?_; (first | refine Ow.pu rfl (Pu.pick_t rfl rfl) ?_ | refine Ow.pu rfl (Pu.pick_f rfl rfl) ?_)) | (refine Ow.kUn ?_; (first | refine Ow.pu rfl (Pu.not rfl) ?_)) | (refine Ow.kIdx ?_; (first | refine Ow.pu rfl (Pu.idx_sln rfl rfl pkA (by simp only [List.length_map, List.length_append, List.length_set, List.length_replicate, List.length_cons, List.length_nil]; omega)) ?_)) | (refine Ow.kBuiltin ?_; (first | refine Ow.pu rfl (Pu.len_slm rfl pkA) ?_)))) | (refine Cw.is ?_; (first | refine Cw.seq ?_ | refine Cw.region ?_ | refine Cw.cond_t rfl rfl ?_ | refine Cw.cond_f rfl rfl ?_ | refine Cw.block ?_ | refine Cw.ret ?_ | refine Cw.exit ?_ | refine Cw.skip ?_)) | (first | refine thenQ_n ?_ | refine thenQ_r ?_ | refine thenQ_e ?_ | refine blockQ_n ?_ | refine blockQ_r ?_ | refine blockQ_e ?_)))
    refine retQ_n none (res0 Tryd.results66) ?_
    rw [cnt_all]
    refine Ent.trans (Ent.of_eq ?_) (Ent.left (Ent.left (Ent.right (Ent.left (tab_mk b th rg st G T x.1 x.2.1 x.2.2)))))
    ac_rfl
/-! the threads that live -/
def lvN (T : List Slt) : Nat → List Nat
  | 0 => []
  | j + 1 => lvN T j ++ (if (T[j]!).isSome = true then [j] else [])
def lv (T : List Slt) : List Nat := lvN T 4
theorem lvN_app (T : List Slt) (j : Nat) : ∀ k, ∃ r, lvN T (j + k) = lvN T j ++ r
  | 0 => ⟨[], by simp⟩
  | k + 1 => by
    obtain ⟨r, hr⟩ := lvN_app T j k
    exact ⟨r ++ (if (T[j + k]!).isSome = true then [j + k] else []), by rw [← Nat.add_assoc, lvN, hr, List.append_assoc]⟩
theorem lv_step (T : List Slt) (j : Nat) (hj : j < 4) : ((T[j]!).isSome = false → lvN T (j + 1) = lvN T j) ∧ ((T[j]!).isSome = true → (lvN T (j + 1)).length = (lvN T j).length + 1 ∧ (lvN T j).length < (lv T).length ∧ (lv T)[(lvN T j).length]! = j) := by
  constructor
  · intro h; rw [lvN, h]; simp
  · intro h
    obtain ⟨r, hr⟩ := lvN_app T (j + 1) (4 - (j + 1))
    have e : lvN T (j + 1) = lvN T j ++ [j] := by rw [lvN, if_pos h]
    rw [show j + 1 + (4 - (j + 1)) = 4 by omega, e] at hr
    refine ⟨by rw [e]; simp, ?_, ?_⟩
    · rw [lv, hr]; simp
    · rw [lv, hr]; simp
set_option maxHeartbeats 4000000 in
theorem ThreadsIt (b c : Nat) (th rg st : Int) (G : List Int) (T : List Slt) (hT : T.length = 4) (U : Nat → HP) (R0 : HP) (hU : U 0 = tab b th rg st G T * R0) (y : Value) (L : HP) (X : Fin (lv T).length → HP)
    (hy : ∀ i : Fin (lv T).length, Yc Tryd.prog y [vi ((lv T)[i.1]! : Nat), ptrO T[(lv T)[i.1]!]!] (U i.1 * L) (fun c => bif c then U (i.1 + 1) * L else X i)) :
    Fn Tryd.prog 67 (y :: [.pointer (some ⟨c, 0, none⟩)]) (cl c [.pointer (some ⟨b, 0, none⟩)] * U 0 * L) (Option (Fin (lv T).length)) (fun _ => .tuple #[])
      (itPost (cl c [.pointer (some ⟨b, 0, none⟩)] * U (lv T).length * L) (fun i => cl c [.pointer (some ⟨b, 0, none⟩)] * X i)) := by
  have hl4 : (T.map ptrO).length = 4 := by rw [List.length_map]; exact hT
  have hld : ∀ x : SV × Int × Ck, ((cfgC th rg st x.2.1 x.2.2 ++ (x.1.v :: T.map ptrO)).drop 12).take 4 = T.map ptrO := fun x => by
    show (T.map ptrO).take 4 = T.map ptrO
    rw [List.take_of_length_le (by omega)]
  (refine Fn.of Tryd.func67 rfl (by kernel_rfl) Tryd.ntmps67 rfl (fun F => ?_))
  refine Cw.heq (show _ = tab b th rg st G T * (R0 * (cl c [.pointer (some ⟨b, 0, none⟩)] * (L * F))) by rw [hU]; ac_rfl) ?_
  refine Cw.opn (tab_ex _ _ _ _ _ _) (fun x => ?_)
  (refine Cw.heq (by simp only [star_assoc, emp_star, star_emp]; exact rfl) ?_)
  (repeat' (first | (refine Ow.is ?_; (first | refine Ow.nil ?_ | refine Ow.pu rfl (Pu.move rfl) ?_ | refine Ow.pu rfl (Pu.assign rfl) ?_ | refine Ow.pu rfl (Pu.fld rfl) ?_ | refine Ow.pu rfl (Pu.nilCheck rfl) ?_ | (refine Ow.kGuard ?_; (first | refine Ow.guard_yes rfl rfl rfl ?_ | refine Ow.guard_no rfl rfl rfl rfl ?_)) | (refine Ow.kLoad ?_; (first | refine Ow.pu rfl (Pu.loadN_cl rfl pkA (hld x) hl4) ?_ | refine Ow.pu rfl (Pu.load_cl rfl pkA rfl) ?_ | refine Ow.pu rfl (Pu.loadN_cl rfl pkA rfl rfl) ?_)) | (refine Ow.kBin ?_; (first | (refine Ow.b_lss ?_; first | refine Ow.pu rfl (Pu.lt_t rfl rfl (by omega)) ?_ | refine Ow.pu rfl (Pu.lt_f rfl rfl (by omega)) ?_ | refine Ow.sp rfl (by exact Pu.lt rfl rfl) (fun hc => ?_) (fun hc => ?_)) | (refine Ow.b_neq ?_; (first | refine Ow.pu rfl (Pu.neNil rfl rfl) ?_)) | (refine Ow.b_add ?_; refine Ow.pu rfl (Pu.add_i rfl rfl (by omega)) ?_))) | (refine Ow.kPick ?_; (first | refine Ow.pu rfl (Pu.pick_t rfl rfl) ?_ | refine Ow.pu rfl (Pu.pick_f rfl rfl) ?_)) | (refine Ow.kUn ?_; (first | refine Ow.pu rfl (Pu.not rfl) ?_)) | refine Ow.pu rfl (Pu.index_arr rfl rfl (by omega) (by first | rfl | assumption)) ?_)) | (refine Cw.is ?_; (first | refine Cw.seq ?_ | refine Cw.region ?_ | refine Cw.cond_t rfl rfl ?_ | refine Cw.cond_f rfl rfl ?_ | refine Cw.block ?_ | refine Cw.ret ?_ | refine Cw.exit ?_ | refine Cw.skip ?_)) | (first | refine thenQ_n ?_ | refine thenQ_r ?_ | refine thenQ_e ?_ | refine blockQ_n ?_ | refine blockQ_r ?_ | refine blockQ_e ?_)))
  refine Cw.ent (show Ent _ (U 0 * (L * (cl c [.pointer (some ⟨b, 0, none⟩)] * F))) by
    rw [hU]
    refine Ent.trans (Ent.of_eq ?_) (Ent.left (Ent.left (tab_mk b th rg st G T x.1 x.2.1 x.2.2)))
    ac_rfl) ?_
  refine Cw.loopI (fun j : Nat => j ≤ 4) (fun j => [(0, y), (8, .agg (T.map ptrO).toArray), (9, vi j)])
    (fun j => U (lvN T j).length * (L * (cl c [.pointer (some ⟨b, 0, none⟩)] * F)))
    (fun j => 4 - j) 0 (by omega) (by (repeat first | exact trivial | refine ⟨rfl, ?_⟩)) (by simp only [lvN, List.length_nil]; exact Ent.refl _) (fun j hj => ?_)
  by_cases hj2 : j < 4
  · have hstep := lv_step T j hj2
    have hgt : T[j]? = some T[j]! := by rw [getElem!_pos T j (by omega)]; exact List.getElem?_eq_getElem (by omega)
    have hix : (T.map ptrO)[((j : Nat) : Int).toNat]? = some (ptrO T[j]!) := by rw [Int.toNat_natCast, List.getElem?_map, hgt]; rfl
    cases hq : T[j]! with
    | none =>
      rw [hq] at hix hstep
      replace hix : (T.map ptrO)[((j : Nat) : Int).toNat]? = some (.pointer none) := hix
      (repeat' (first | (refine Ow.is ?_; (first | refine Ow.nil ?_ | refine Ow.pu rfl (Pu.move rfl) ?_ | refine Ow.pu rfl (Pu.assign rfl) ?_ | refine Ow.pu rfl (Pu.fld rfl) ?_ | refine Ow.pu rfl (Pu.nilCheck rfl) ?_ | (refine Ow.kGuard ?_; (first | refine Ow.guard_yes rfl rfl rfl ?_ | refine Ow.guard_no rfl rfl rfl rfl ?_)) | (refine Ow.kLoad ?_; (first | refine Ow.pu rfl (Pu.loadN_cl rfl pkA (hld x) hl4) ?_ | refine Ow.pu rfl (Pu.load_cl rfl pkA rfl) ?_ | refine Ow.pu rfl (Pu.loadN_cl rfl pkA rfl rfl) ?_)) | (refine Ow.kBin ?_; (first | (refine Ow.b_lss ?_; first | refine Ow.pu rfl (Pu.lt_t rfl rfl (by omega)) ?_ | refine Ow.pu rfl (Pu.lt_f rfl rfl (by omega)) ?_ | refine Ow.sp rfl (by exact Pu.lt rfl rfl) (fun hc => ?_) (fun hc => ?_)) | (refine Ow.b_neq ?_; (first | refine Ow.pu rfl (Pu.neNil rfl rfl) ?_)) | (refine Ow.b_add ?_; refine Ow.pu rfl (Pu.add_i rfl rfl (by omega)) ?_))) | (refine Ow.kPick ?_; (first | refine Ow.pu rfl (Pu.pick_t rfl rfl) ?_ | refine Ow.pu rfl (Pu.pick_f rfl rfl) ?_)) | (refine Ow.kUn ?_; (first | refine Ow.pu rfl (Pu.not rfl) ?_)) | refine Ow.pu rfl (Pu.index_arr rfl rfl (by omega) (by first | rfl | assumption)) ?_)) | (refine Cw.is ?_; (first | refine Cw.seq ?_ | refine Cw.region ?_ | refine Cw.cond_t rfl rfl ?_ | refine Cw.cond_f rfl rfl ?_ | refine Cw.block ?_ | refine Cw.ret ?_ | refine Cw.exit ?_ | refine Cw.skip ?_)) | (first | refine thenQ_n ?_ | refine thenQ_r ?_ | refine thenQ_e ?_ | refine blockQ_n ?_ | refine blockQ_r ?_ | refine blockQ_e ?_)))
      exact ⟨rfl, j + 1, by omega, by omega, by (repeat first | exact trivial | refine ⟨rfl, ?_⟩), by rw [hstep.1 rfl]; exact Ent.refl _⟩
    | some q =>
      rw [hq] at hix hstep
      replace hix : (T.map ptrO)[((j : Nat) : Int).toNat]? = some (.pointer (some ⟨q.1, 0, none⟩)) := hix
      obtain ⟨h1, h2, h3⟩ := hstep.2 rfl
      have hyy := hy ⟨(lvN T j).length, h2⟩
      simp only [h3, hq] at hyy
      (repeat' (first | (refine Ow.is ?_; (first | refine Ow.nil ?_ | refine Ow.pu rfl (Pu.move rfl) ?_ | refine Ow.pu rfl (Pu.assign rfl) ?_ | refine Ow.pu rfl (Pu.fld rfl) ?_ | refine Ow.pu rfl (Pu.nilCheck rfl) ?_ | (refine Ow.kGuard ?_; (first | refine Ow.guard_yes rfl rfl rfl ?_ | refine Ow.guard_no rfl rfl rfl rfl ?_)) | (refine Ow.kLoad ?_; (first | refine Ow.pu rfl (Pu.loadN_cl rfl pkA (hld x) hl4) ?_ | refine Ow.pu rfl (Pu.load_cl rfl pkA rfl) ?_ | refine Ow.pu rfl (Pu.loadN_cl rfl pkA rfl rfl) ?_)) | (refine Ow.kBin ?_; (first | (refine Ow.b_lss ?_; first | refine Ow.pu rfl (Pu.lt_t rfl rfl (by omega)) ?_ | refine Ow.pu rfl (Pu.lt_f rfl rfl (by omega)) ?_ | refine Ow.sp rfl (by exact Pu.lt rfl rfl) (fun hc => ?_) (fun hc => ?_)) | (refine Ow.b_neq ?_; (first | refine Ow.pu rfl (Pu.neNil rfl rfl) ?_)) | (refine Ow.b_add ?_; refine Ow.pu rfl (Pu.add_i rfl rfl (by omega)) ?_))) | (refine Ow.kPick ?_; (first | refine Ow.pu rfl (Pu.pick_t rfl rfl) ?_ | refine Ow.pu rfl (Pu.pick_f rfl rfl) ?_)) | (refine Ow.kUn ?_; (first | refine Ow.pu rfl (Pu.not rfl) ?_)) | refine Ow.pu rfl (Pu.index_arr rfl rfl (by omega) (by first | rfl | assumption)) ?_)) | (refine Cw.is ?_; (first | refine Cw.seq ?_ | refine Cw.region ?_ | refine Cw.cond_t rfl rfl ?_ | refine Cw.cond_f rfl rfl ?_ | refine Cw.block ?_ | refine Cw.ret ?_ | refine Cw.exit ?_ | refine Cw.skip ?_)) | (first | refine thenQ_n ?_ | refine thenQ_r ?_ | refine thenQ_e ?_ | refine blockQ_n ?_ | refine blockQ_r ?_ | refine blockQ_e ?_)))
      refine Ow.yc2 hyy rfl rfl evA pkA pkA (fun r => ?_)
      cases r with
      | true =>
        rw [cond_true]
        (repeat' (first | (refine Ow.is ?_; (first | refine Ow.nil ?_ | refine Ow.pu rfl (Pu.move rfl) ?_ | refine Ow.pu rfl (Pu.assign rfl) ?_ | refine Ow.pu rfl (Pu.fld rfl) ?_ | refine Ow.pu rfl (Pu.nilCheck rfl) ?_ | (refine Ow.kGuard ?_; (first | refine Ow.guard_yes rfl rfl rfl ?_ | refine Ow.guard_no rfl rfl rfl rfl ?_)) | (refine Ow.kLoad ?_; (first | refine Ow.pu rfl (Pu.loadN_cl rfl pkA (hld x) hl4) ?_ | refine Ow.pu rfl (Pu.load_cl rfl pkA rfl) ?_ | refine Ow.pu rfl (Pu.loadN_cl rfl pkA rfl rfl) ?_)) | (refine Ow.kBin ?_; (first | (refine Ow.b_lss ?_; first | refine Ow.pu rfl (Pu.lt_t rfl rfl (by omega)) ?_ | refine Ow.pu rfl (Pu.lt_f rfl rfl (by omega)) ?_ | refine Ow.sp rfl (by exact Pu.lt rfl rfl) (fun hc => ?_) (fun hc => ?_)) | (refine Ow.b_neq ?_; (first | refine Ow.pu rfl (Pu.neNil rfl rfl) ?_)) | (refine Ow.b_add ?_; refine Ow.pu rfl (Pu.add_i rfl rfl (by omega)) ?_))) | (refine Ow.kPick ?_; (first | refine Ow.pu rfl (Pu.pick_t rfl rfl) ?_ | refine Ow.pu rfl (Pu.pick_f rfl rfl) ?_)) | (refine Ow.kUn ?_; (first | refine Ow.pu rfl (Pu.not rfl) ?_)) | refine Ow.pu rfl (Pu.index_arr rfl rfl (by omega) (by first | rfl | assumption)) ?_)) | (refine Cw.is ?_; (first | refine Cw.seq ?_ | refine Cw.region ?_ | refine Cw.cond_t rfl rfl ?_ | refine Cw.cond_f rfl rfl ?_ | refine Cw.block ?_ | refine Cw.ret ?_ | refine Cw.exit ?_ | refine Cw.skip ?_)) | (first | refine thenQ_n ?_ | refine thenQ_r ?_ | refine thenQ_e ?_ | refine blockQ_n ?_ | refine blockQ_r ?_ | refine blockQ_e ?_)))
        exact ⟨rfl, j + 1, by omega, by omega, by (repeat first | exact trivial | refine ⟨rfl, ?_⟩), by rw [h1]; ((try simp only [star_assoc]); (repeat (apply Ent.pk; exact pkA)); first | exact Ent.fin pkA | exact Ent.refl _)⟩
      | false =>
        rw [cond_false]
        (repeat' (first | (refine Ow.is ?_; (first | refine Ow.nil ?_ | refine Ow.pu rfl (Pu.move rfl) ?_ | refine Ow.pu rfl (Pu.assign rfl) ?_ | refine Ow.pu rfl (Pu.fld rfl) ?_ | refine Ow.pu rfl (Pu.nilCheck rfl) ?_ | (refine Ow.kGuard ?_; (first | refine Ow.guard_yes rfl rfl rfl ?_ | refine Ow.guard_no rfl rfl rfl rfl ?_)) | (refine Ow.kLoad ?_; (first | refine Ow.pu rfl (Pu.loadN_cl rfl pkA (hld x) hl4) ?_ | refine Ow.pu rfl (Pu.load_cl rfl pkA rfl) ?_ | refine Ow.pu rfl (Pu.loadN_cl rfl pkA rfl rfl) ?_)) | (refine Ow.kBin ?_; (first | (refine Ow.b_lss ?_; first | refine Ow.pu rfl (Pu.lt_t rfl rfl (by omega)) ?_ | refine Ow.pu rfl (Pu.lt_f rfl rfl (by omega)) ?_ | refine Ow.sp rfl (by exact Pu.lt rfl rfl) (fun hc => ?_) (fun hc => ?_)) | (refine Ow.b_neq ?_; (first | refine Ow.pu rfl (Pu.neNil rfl rfl) ?_)) | (refine Ow.b_add ?_; refine Ow.pu rfl (Pu.add_i rfl rfl (by omega)) ?_))) | (refine Ow.kPick ?_; (first | refine Ow.pu rfl (Pu.pick_t rfl rfl) ?_ | refine Ow.pu rfl (Pu.pick_f rfl rfl) ?_)) | (refine Ow.kUn ?_; (first | refine Ow.pu rfl (Pu.not rfl) ?_)) | refine Ow.pu rfl (Pu.index_arr rfl rfl (by omega) (by first | rfl | assumption)) ?_)) | (refine Cw.is ?_; (first | refine Cw.seq ?_ | refine Cw.region ?_ | refine Cw.cond_t rfl rfl ?_ | refine Cw.cond_f rfl rfl ?_ | refine Cw.block ?_ | refine Cw.ret ?_ | refine Cw.exit ?_ | refine Cw.skip ?_)) | (first | refine thenQ_n ?_ | refine thenQ_r ?_ | refine thenQ_e ?_ | refine blockQ_n ?_ | refine blockQ_r ?_ | refine blockQ_e ?_)))
        refine retQ_r (some ⟨(lvN T j).length, h2⟩) (res0 Tryd.results67) ?_
        refine Ent.of_eq ?_
        simp only [itPost]; ac_rfl
  · obtain rfl : j = 4 := by omega
    (repeat' (first | (refine Ow.is ?_; (first | refine Ow.nil ?_ | refine Ow.pu rfl (Pu.move rfl) ?_ | refine Ow.pu rfl (Pu.assign rfl) ?_ | refine Ow.pu rfl (Pu.fld rfl) ?_ | refine Ow.pu rfl (Pu.nilCheck rfl) ?_ | (refine Ow.kGuard ?_; (first | refine Ow.guard_yes rfl rfl rfl ?_ | refine Ow.guard_no rfl rfl rfl rfl ?_)) | (refine Ow.kLoad ?_; (first | refine Ow.pu rfl (Pu.loadN_cl rfl pkA (hld x) hl4) ?_ | refine Ow.pu rfl (Pu.load_cl rfl pkA rfl) ?_ | refine Ow.pu rfl (Pu.loadN_cl rfl pkA rfl rfl) ?_)) | (refine Ow.kBin ?_; (first | (refine Ow.b_lss ?_; first | refine Ow.pu rfl (Pu.lt_t rfl rfl (by omega)) ?_ | refine Ow.pu rfl (Pu.lt_f rfl rfl (by omega)) ?_ | refine Ow.sp rfl (by exact Pu.lt rfl rfl) (fun hc => ?_) (fun hc => ?_)) | (refine Ow.b_neq ?_; (first | refine Ow.pu rfl (Pu.neNil rfl rfl) ?_)) | (refine Ow.b_add ?_; refine Ow.pu rfl (Pu.add_i rfl rfl (by omega)) ?_))) | (refine Ow.kPick ?_; (first | refine Ow.pu rfl (Pu.pick_t rfl rfl) ?_ | refine Ow.pu rfl (Pu.pick_f rfl rfl) ?_)) | (refine Ow.kUn ?_; (first | refine Ow.pu rfl (Pu.not rfl) ?_)) | refine Ow.pu rfl (Pu.index_arr rfl rfl (by omega) (by first | rfl | assumption)) ?_)) | (refine Cw.is ?_; (first | refine Cw.seq ?_ | refine Cw.region ?_ | refine Cw.cond_t rfl rfl ?_ | refine Cw.cond_f rfl rfl ?_ | refine Cw.block ?_ | refine Cw.ret ?_ | refine Cw.exit ?_ | refine Cw.skip ?_)) | (first | refine thenQ_n ?_ | refine thenQ_r ?_ | refine thenQ_e ?_ | refine blockQ_n ?_ | refine blockQ_r ?_ | refine blockQ_e ?_)))
    refine retQ_n none (res0 Tryd.results67) ?_
    refine Ent.of_eq ?_
    simp only [itPost, lv]; ac_rfl
end Go.Sl
namespace Go.Sl
open Go
set_option linter.unusedVariables false
universe u
section
variable {P : Program} {r : Option Nat} {n : Nat} {Q : PostT} {ρ : Env} {ds : List Deferred} {H R A F : HP} {all rest : List Oper} {d : Option Nat} {t : TypeId} {pos : String} {aft : Array Edge} {ts : Array TypeId} {x : Operand}
theorem Cw.rangeY {ι : Type} {g : Operand} {gf : FuncId} {caps : List Value} {ps : List Nat} {assign body : Code} {xs : ι → List Value} {A B : ι → HP} {J : ι → Exit → Prop} {S : ι → Exit → HP} {PS : ι → HP} {Pre Post : HP}
    (hit : ∀ (l : Nat) (L : HP) (X : ι → HP), (∀ i, Yc P (.func (.yield l) #[] #[]) (xs i) (A i * L) (fun c => bif c then B i * L else X i)) → Fn P gf (.func (.yield l) #[] #[] :: caps) (Pre * L) (Option ι) (fun _ => .tuple #[]) (itPost (Post * L) (fun i => PS i * X i)))
    (hg : ev ρ g = some (.func (.func gf) #[] caps.toArray)) (hps : ps.all (fun p => Nat.blt p n) = true) (hxs : ∀ i, (xs i).length = ps.length) (hp : Ent H (Pre * F))
    (hbody : ∀ (i : ι) (F1 G : HP) (l : Nat) (rec : Loop), Cw P (some l) n assign (thenQ (fun ρ' ds' H' => ∃ H2, Ent H' (H2 * F1) ∧
      Cw P (some l) n body (rdQ (B i * (pt l (.loop rec) * G)) (J i) (fun e => S i e * (pt l (.loop rec) * G))) ρ' ds' (H2 * (pt l (.loop rec) * G))) nilQ) (rdE ps (xs i) ρ) [] (A i * F1))
    (hdone : ∀ D, Q .normal ρ (mk D :: ds) (Post * (pt D (.deferred (some [])) * F)))
    (hstop : ∀ D i e, J i e → Q e ρ (mk D :: ds) (PS i * (S i e * (pt D (.deferred (some [])) * F)))) :
    Cw P none n (.rangeFunc g ps.toArray assign body) Q ρ ds H := by
  intro gh w a hrep hds hs
  replace hs := hs.mono hp
  subst hds
  refine wpIn_rangeFunc ?_
  intro fn hfn
  obtain ⟨rec, hrec⟩ : ∃ rec : LoopState → Option Code → Loop, rec = fun st pe => { state := st, pending := pe, fn, tmps := a.tmps, params := ps.toArray, assign, body, defers := w.heap.size } := ⟨_, rfl⟩
  obtain ⟨D, hD⟩ : ∃ D, D = w.heap.size := ⟨_, rfl⟩
  obtain ⟨l, hl⟩ : ∃ l, l = D + 1 := ⟨_, rfl⟩
  obtain ⟨W1, hW1⟩ : ∃ W1, (w.alloc (.deferred (some []))).alloc (.loop (rec .ready none)) = W1 := ⟨_, rfl⟩
  have hs1 : St gh W1 (pt l (.loop (rec .ready none)) * (pt D (.deferred (some [])) * (Pre * F))) := by
    have h2 := (hs.alloc (.deferred (some []))).alloc (.loop (rec .ready none))
    have e : ({ w with heap := w.heap.push (.deferred (some [])) } : World).heap.size = l := by rw [hl, hD]; simp
    rw [e, ← hD] at h2
    rw [← hW1]; exact h2
  let L : HP := pt l (.loop (rec .ready none)) * pt D (.deferred (some []))
  let X : ι → HP := fun i => Sl.ex fun e : Exit => Sl.lift (J i e ∧ (jumpOf e).isSome = true) * (S i e * (pt l (.loop (rec .done (jumpOf e))) * pt D (.deferred (some []))))
  have hyc : ∀ i, Yc P (.func (.yield l) #[] #[]) (xs i) (A i * L) (fun c => bif c then B i * L else X i) := fun i => Yc.of_round (fun g' w' F' hst => by
    have hst1 : St g' w' (pt l (.loop (rec .ready none)) * (A i * (pt D (.deferred (some [])) * F'))) := by
      simp only [L, star_assoc] at hst
      rw [star_left_comm]; exact hst
    have hy := run_yield (P := P) (args := (xs i).toArray) hst1.get (by rw [hrec]; simp [hxs i])
    rw [hrec] at hy
    refine ⟨fn, _, assign, body, hy, roundIn_of_wpIn hfn ?_⟩
    have hrep' : Rep n (rdE ps (xs i) ρ) { tmps := (ps.toArray.zip (xs i).toArray).foldl (fun tmps (t, a) => tmps.setIfInBounds t a) a.tmps, defers := [] } := by
      have := rep_rdE (n := n) (ds := []) ps (xs i) ρ a.tmps hps ⟨hrep.1, hrep.2⟩
      simpa [List.zip_toArray] using this
    have hst2 : St g' w' (A i * (pt l (.loop (rec .ready none)) * (pt D (.deferred (some [])) * F'))) := by rw [star_left_comm]; exact hst1
    have hb := hbody i (pt l (.loop (rec .ready none)) * (pt D (.deferred (some [])) * F')) (pt D (.deferred (some [])) * F') l (rec .busy none)
    refine wpIn_mono (hb g' w' _ hrep' rfl hst2) ?_
    rintro e a1 w1 ⟨ρ1, H1, hr1, hs1, hq1⟩
    cases e with
    | normal =>
      obtain ⟨H2, hent, hcw⟩ := hq1
      have hs2 := hs1.mono hent
      rw [star_left_comm] at hs2
      refine ⟨_, run_beginRound hs2.get (by rw [hrec]), ?_⟩
      have hs3 : St g' (w1.putObj l (.loop { rec .ready none with state := .busy })) (H2 * (pt l (.loop (rec .busy none)) * (pt D (.deferred (some [])) * F'))) := by
        rw [star_left_comm]
        have e : (rec .busy none) = { rec .ready none with state := .busy } := by rw [hrec]
        rw [e]
        refine hs2.put rfl rfl ?_ ?_
        · simp [World.putObj, hs2.lt]
        · intro i hi; simp [World.putObj, Array.getElem?_setIfInBounds_ne (Ne.symm hi)]
      refine wpIn_mono (hcw g' _ a1 hr1 rfl hs3) ?_
      have fin : ∀ (K : HP) (jump : Option Code) (W3 : World), St g' W3 (K * (pt l (.loop (rec .busy none)) * (pt D (.deferred (some [])) * F'))) →
          ∃ W4, (Instr.endRound l jump).run P W3 = .ok (.bool jump.isNone) W4 ∧ St g' W4 (K * (pt l (.loop (rec (if jump.isNone then .ready else .done) jump)) * (pt D (.deferred (some [])) * F'))) := fun K jump W3 hs4 => by
        rw [star_left_comm] at hs4
        have hr := run_endRound (P := P) jump hs4.get
        refine ⟨_, hr, ?_⟩
        rw [star_left_comm]
        have e : (rec (if jump.isNone then .ready else .done) jump) = { rec .busy none with state := if jump.isNone then .ready else .done, pending := jump } := by rw [hrec]
        rw [e]
        refine hs4.put rfl rfl ?_ ?_
        · simp [World.putObj, hs4.lt]
        · intro i hi; simp [World.putObj, Array.getElem?_setIfInBounds_ne (Ne.symm hi)]
      rintro e a3 W3 ⟨ρ3, H3, hr3, hs4, hq⟩
      rcases hq with ⟨rfl, hent3⟩ | ⟨hj, hjs, hent3⟩
      · obtain ⟨W4, h5, h6⟩ := fin (B i) none W3 (hs4.mono hent3)
        refine ⟨_, _, h5, true, rfl, ?_⟩
        simp only [L, cond_true, star_assoc]
        exact h6
      · have done : ∃ W4, (Instr.endRound l (jumpOf e)).run P W3 = .ok (.bool (jumpOf e).isNone) W4 ∧ St g' W4 (X i * F') := by
          obtain ⟨W4, h5, h6⟩ := fin (S i e) (jumpOf e) W3 (hs4.mono hent3)
          refine ⟨W4, h5, h6.mono ?_⟩
          have hn : (jumpOf e).isNone = false := by cases h : jumpOf e <;> simp_all
          rw [hn]
          simp only [X]
          rw [ex_star]
          refine Ent.trans ?_ (Ent.ex (A := fun e => Sl.lift (J i e ∧ (jumpOf e).isSome = true) * (S i e * (pt l (.loop (rec .done (jumpOf e))) * pt D (.deferred (some [])))) * F') e)
          simp only [star_assoc]
          exact Ent.lift ⟨hj, hjs⟩
        obtain ⟨W4, h5, h6⟩ := done
        cases e with
        | normal => simp [jumpOf] at hjs
        | ret => exact ⟨_, _, h5, false, rfl, h6⟩
        | exit id => exact ⟨_, _, h5, false, rfl, h6⟩
        | goto t => exact ⟨_, _, h5, false, rfl, h6⟩
        | panic ch => simp [jumpOf] at hjs
        | outgrown => simp [jumpOf] at hjs
    | ret => exact hq1.elim
    | exit id => exact hq1.elim
    | goto t => exact hq1.elim
    | panic ch => exact hq1.elim
    | outgrown => exact hq1.elim)
  have hfn2 := hit l L X hyc
  refine ⟨l, [mk D], W1, { target := .fn (.func gf) caps.toArray, args := #[.func (.yield l) #[] #[]] }, W1, gf, #[.func (.yield l) #[] #[]] ++ caps.toArray, W1, ?_, ?_, ?_, ?_, fun h => by simp [fen, Fence.wide] at h, ?_⟩
  · have h2 := run_enterLoop_outer (P := P) (w := w) fn a.tmps ps.toArray assign body
    rw [← hW1, hrec, hl, hD]; exact h2
  · simp only [resolve, ev_eval hrep hg]
    simp [go_sem]
  · intro f' hf'; trivial
  · simp [invoke, go_sem, hfn2.enters]
  · have hs2 : St gh W1 (Pre * L * F) := by
      simp only [L, star_assoc]
      have e : Pre * (pt l (.loop (rec .ready none)) * (pt D (.deferred (some [])) * F)) = pt l (.loop (rec .ready none)) * (pt D (.deferred (some [])) * (Pre * F)) := by
        rw [star_left_comm, star_left_comm Pre]
      rw [e]; exact hs1
    have hc := hfn2.calls gh F W1 hs2
    have hc' : CallsIn (fen none) (0 - 1) P gf (#[.func (.yield l) #[] #[]] ++ caps.toArray) W1 (fun e w' => ∃ o : Option ι, e = .returned (.tuple #[]) ∧ St gh w' (itPost (Post * L) (fun i => PS i * X i) o * F)) := by
      have e2 : (#[.func (.yield l) #[] #[]] ++ caps.toArray : Array Value) = (Value.func (.yield l) #[] #[] :: caps).toArray := by simp
      rw [e2]
      exact (callsIn_wide (n := 0 - 1)).2 hc
    refine hc'.mono ?_
    have fin : ∀ (K : HP) (st : LoopState) (jump : Option Code) (W3 : World), st ≠ .busy → St gh W3 (pt l (.loop (rec st jump)) * K) → ∃ W4, (Instr.endLoop l).run P W3 = .ok jump W4 ∧ St gh W4 K := fun K st jump W3 hst hs4 => by
      have hr := run_endLoop (P := P) hs4.get (by rw [hrec]; exact hst)
      obtain ⟨W4, hW4⟩ : ∃ W4, W3.putObj l (.loop { rec st jump with state := .exhausted }) = W4 := ⟨_, rfl⟩
      rw [hW4, show (rec st jump).pending = jump by rw [hrec]] at hr
      refine ⟨W4, hr, ?_⟩
      rw [← hW4]
      have : St gh (W3.putObj l (.loop { rec st jump with state := .exhausted })) (pt l (.loop { rec st jump with state := .exhausted }) * K) := by
        refine hs4.put rfl rfl ?_ ?_
        · simp [World.putObj, hs4.lt]
        · intro i hi; simp [World.putObj, Array.getElem?_setIfInBounds_ne (Ne.symm hi)]
      exact this.right
    rintro e W2 ⟨o, rfl, hst⟩
    cases o with
    | none =>
      have hst' : St gh W2 (pt l (.loop (rec .ready none)) * (Post * (pt D (.deferred (some [])) * F))) := by
        rw [star_left_comm]
        simp only [L, star_assoc, itPost] at hst
        exact hst
      obtain ⟨W4, h5, h6⟩ := fin _ _ _ _ (by simp) hst'
      exact ⟨none, W4, h5, ρ, _, ⟨hrep.1, hrep.2⟩, h6, hdone D⟩
    | some i =>
      simp only [X, itPost] at hst
      rw [star_assoc, star_left_comm, ex_star] at hst
      obtain ⟨e, hst⟩ := St.ex.1 hst
      rw [star_assoc] at hst
      obtain ⟨⟨hj, hjs⟩, hst⟩ := St.lift.1 hst
      have hst' : St gh W2 (pt l (.loop (rec .done (jumpOf e))) * (PS i * (S i e * (pt D (.deferred (some [])) * F)))) := by
        simp only [star_assoc] at hst
        refine hst.mono (Ent.of_eq ?_)
        ac_rfl
      obtain ⟨W4, h5, h6⟩ := fin _ _ _ _ (by simp) hst'
      refine ⟨jumpOf e, W4, h5, ?_⟩
      have hq : toQ n gh Q e { a with defers := mk D :: a.defers } W4 := ⟨ρ, _, ⟨hrep.1, hrep.2⟩, h6, hstop D i e hj⟩
      cases e with
      | normal => simp [jumpOf] at hjs
      | ret => exact wpIn_ret hq
      | exit id => exact wpIn_exit hq
      | goto t => exact wpIn_goto hq
      | panic ch => simp [jumpOf] at hjs
      | outgrown => simp [jumpOf] at hjs
theorem Cw.rangeX {ι κ : Type} {S' : ι → Exit → κ → HP} {g : Operand} {gf : FuncId} {caps : List Value} {ps : List Nat} {assign body : Code} {xs : ι → List Value} {A B : ι → HP} {J : ι → Exit → Prop} {S : ι → Exit → HP} {PS : ι → HP} {Pre Post : HP}
    (hit : ∀ (y : Value) (L : HP) (X : ι → HP), (∀ i, Yc P y (xs i) (A i * L) (fun c => bif c then B i * L else X i)) → Fn P gf (y :: caps) (Pre * L) (Option ι) (fun _ => .tuple #[]) (itPost (Post * L) (fun i => PS i * X i)))
    (hg : ev ρ g = some (.func (.func gf) #[] caps.toArray)) (hps : ps.all (fun p => Nat.blt p n) = true) (hxs : ∀ i, (xs i).length = ps.length) (hp : Ent H (Pre * F))
    (hbody : ∀ (i : ι) (F1 G : HP) (l : Nat) (rec : Loop), Cw P (some l) n assign (thenQ (fun ρ' ds' H' => ∃ H2, Ent H' (H2 * F1) ∧
      Cw P (some l) n body (rdQ (B i * (pt l (.loop rec) * G)) (J i) (fun e => S i e * (pt l (.loop rec) * G))) ρ' ds' (H2 * (pt l (.loop rec) * G))) nilQ) (rdE ps (xs i) ρ) [] (A i * F1))
    (hdone : ∀ D, Q .normal ρ (mk D :: ds) (Post * (pt D (.deferred (some [])) * F)))
    (hSS : ∀ i e, S i e = Sl.ex (S' i e)) (hstop : ∀ D i e m, J i e → Q e ρ (mk D :: ds) (PS i * (S' i e m * (pt D (.deferred (some [])) * F)))) :
    Cw P none n (.rangeFunc g ps.toArray assign body) Q ρ ds H := by
  intro gh w a hrep hds hs
  replace hs := hs.mono hp
  subst hds
  refine wpIn_rangeFunc ?_
  intro fn hfn
  obtain ⟨rec, hrec⟩ : ∃ rec : LoopState → Option Code → Loop, rec = fun st pe => { state := st, pending := pe, fn, tmps := a.tmps, params := ps.toArray, assign, body, defers := w.heap.size } := ⟨_, rfl⟩
  obtain ⟨D, hD⟩ : ∃ D, D = w.heap.size := ⟨_, rfl⟩
  obtain ⟨l, hl⟩ : ∃ l, l = D + 1 := ⟨_, rfl⟩
  obtain ⟨W1, hW1⟩ : ∃ W1, (w.alloc (.deferred (some []))).alloc (.loop (rec .ready none)) = W1 := ⟨_, rfl⟩
  have hs1 : St gh W1 (pt l (.loop (rec .ready none)) * (pt D (.deferred (some [])) * (Pre * F))) := by
    have h2 := (hs.alloc (.deferred (some []))).alloc (.loop (rec .ready none))
    have e : ({ w with heap := w.heap.push (.deferred (some [])) } : World).heap.size = l := by rw [hl, hD]; simp
    rw [e, ← hD] at h2
    rw [← hW1]; exact h2
  let L : HP := pt l (.loop (rec .ready none)) * pt D (.deferred (some []))
  let X : ι → HP := fun i => Sl.ex fun e : Exit => Sl.lift (J i e ∧ (jumpOf e).isSome = true) * (S i e * (pt l (.loop (rec .done (jumpOf e))) * pt D (.deferred (some []))))
  have hyc : ∀ i, Yc P (.func (.yield l) #[] #[]) (xs i) (A i * L) (fun c => bif c then B i * L else X i) := fun i => Yc.of_round (fun g' w' F' hst => by
    have hst1 : St g' w' (pt l (.loop (rec .ready none)) * (A i * (pt D (.deferred (some [])) * F'))) := by
      simp only [L, star_assoc] at hst
      rw [star_left_comm]; exact hst
    have hy := run_yield (P := P) (args := (xs i).toArray) hst1.get (by rw [hrec]; simp [hxs i])
    rw [hrec] at hy
    refine ⟨fn, _, assign, body, hy, roundIn_of_wpIn hfn ?_⟩
    have hrep' : Rep n (rdE ps (xs i) ρ) { tmps := (ps.toArray.zip (xs i).toArray).foldl (fun tmps (t, a) => tmps.setIfInBounds t a) a.tmps, defers := [] } := by
      have := rep_rdE (n := n) (ds := []) ps (xs i) ρ a.tmps hps ⟨hrep.1, hrep.2⟩
      simpa [List.zip_toArray] using this
    have hst2 : St g' w' (A i * (pt l (.loop (rec .ready none)) * (pt D (.deferred (some [])) * F'))) := by rw [star_left_comm]; exact hst1
    have hb := hbody i (pt l (.loop (rec .ready none)) * (pt D (.deferred (some [])) * F')) (pt D (.deferred (some [])) * F') l (rec .busy none)
    refine wpIn_mono (hb g' w' _ hrep' rfl hst2) ?_
    rintro e a1 w1 ⟨ρ1, H1, hr1, hs1, hq1⟩
    cases e with
    | normal =>
      obtain ⟨H2, hent, hcw⟩ := hq1
      have hs2 := hs1.mono hent
      rw [star_left_comm] at hs2
      refine ⟨_, run_beginRound hs2.get (by rw [hrec]), ?_⟩
      have hs3 : St g' (w1.putObj l (.loop { rec .ready none with state := .busy })) (H2 * (pt l (.loop (rec .busy none)) * (pt D (.deferred (some [])) * F'))) := by
        rw [star_left_comm]
        have e : (rec .busy none) = { rec .ready none with state := .busy } := by rw [hrec]
        rw [e]
        refine hs2.put rfl rfl ?_ ?_
        · simp [World.putObj, hs2.lt]
        · intro i hi; simp [World.putObj, Array.getElem?_setIfInBounds_ne (Ne.symm hi)]
      refine wpIn_mono (hcw g' _ a1 hr1 rfl hs3) ?_
      have fin : ∀ (K : HP) (jump : Option Code) (W3 : World), St g' W3 (K * (pt l (.loop (rec .busy none)) * (pt D (.deferred (some [])) * F'))) →
          ∃ W4, (Instr.endRound l jump).run P W3 = .ok (.bool jump.isNone) W4 ∧ St g' W4 (K * (pt l (.loop (rec (if jump.isNone then .ready else .done) jump)) * (pt D (.deferred (some [])) * F'))) := fun K jump W3 hs4 => by
        rw [star_left_comm] at hs4
        have hr := run_endRound (P := P) jump hs4.get
        refine ⟨_, hr, ?_⟩
        rw [star_left_comm]
        have e : (rec (if jump.isNone then .ready else .done) jump) = { rec .busy none with state := if jump.isNone then .ready else .done, pending := jump } := by rw [hrec]
        rw [e]
        refine hs4.put rfl rfl ?_ ?_
        · simp [World.putObj, hs4.lt]
        · intro i hi; simp [World.putObj, Array.getElem?_setIfInBounds_ne (Ne.symm hi)]
      rintro e a3 W3 ⟨ρ3, H3, hr3, hs4, hq⟩
      rcases hq with ⟨rfl, hent3⟩ | ⟨hj, hjs, hent3⟩
      · obtain ⟨W4, h5, h6⟩ := fin (B i) none W3 (hs4.mono hent3)
        refine ⟨_, _, h5, true, rfl, ?_⟩
        simp only [L, cond_true, star_assoc]
        exact h6
      · have done : ∃ W4, (Instr.endRound l (jumpOf e)).run P W3 = .ok (.bool (jumpOf e).isNone) W4 ∧ St g' W4 (X i * F') := by
          obtain ⟨W4, h5, h6⟩ := fin (S i e) (jumpOf e) W3 (hs4.mono hent3)
          refine ⟨W4, h5, h6.mono ?_⟩
          have hn : (jumpOf e).isNone = false := by cases h : jumpOf e <;> simp_all
          rw [hn]
          simp only [X]
          rw [ex_star]
          refine Ent.trans ?_ (Ent.ex (A := fun e => Sl.lift (J i e ∧ (jumpOf e).isSome = true) * (S i e * (pt l (.loop (rec .done (jumpOf e))) * pt D (.deferred (some [])))) * F') e)
          simp only [star_assoc]
          exact Ent.lift ⟨hj, hjs⟩
        obtain ⟨W4, h5, h6⟩ := done
        cases e with
        | normal => simp [jumpOf] at hjs
        | ret => exact ⟨_, _, h5, false, rfl, h6⟩
        | exit id => exact ⟨_, _, h5, false, rfl, h6⟩
        | goto t => exact ⟨_, _, h5, false, rfl, h6⟩
        | panic ch => simp [jumpOf] at hjs
        | outgrown => simp [jumpOf] at hjs
    | ret => exact hq1.elim
    | exit id => exact hq1.elim
    | goto t => exact hq1.elim
    | panic ch => exact hq1.elim
    | outgrown => exact hq1.elim)
  have hfn2 := hit (.func (.yield l) #[] #[]) L X hyc
  refine ⟨l, [mk D], W1, { target := .fn (.func gf) caps.toArray, args := #[.func (.yield l) #[] #[]] }, W1, gf, #[.func (.yield l) #[] #[]] ++ caps.toArray, W1, ?_, ?_, ?_, ?_, fun h => by simp [fen, Fence.wide] at h, ?_⟩
  · have h2 := run_enterLoop_outer (P := P) (w := w) fn a.tmps ps.toArray assign body
    rw [← hW1, hrec, hl, hD]; exact h2
  · simp only [resolve, ev_eval hrep hg]
    simp [go_sem]
  · intro f' hf'; trivial
  · simp [invoke, go_sem, hfn2.enters]
  · have hs2 : St gh W1 (Pre * L * F) := by
      simp only [L, star_assoc]
      have e : Pre * (pt l (.loop (rec .ready none)) * (pt D (.deferred (some [])) * F)) = pt l (.loop (rec .ready none)) * (pt D (.deferred (some [])) * (Pre * F)) := by
        rw [star_left_comm, star_left_comm Pre]
      rw [e]; exact hs1
    have hc := hfn2.calls gh F W1 hs2
    have hc' : CallsIn (fen none) (0 - 1) P gf (#[.func (.yield l) #[] #[]] ++ caps.toArray) W1 (fun e w' => ∃ o : Option ι, e = .returned (.tuple #[]) ∧ St gh w' (itPost (Post * L) (fun i => PS i * X i) o * F)) := by
      have e2 : (#[.func (.yield l) #[] #[]] ++ caps.toArray : Array Value) = (Value.func (.yield l) #[] #[] :: caps).toArray := by simp
      rw [e2]
      exact (callsIn_wide (n := 0 - 1)).2 hc
    refine hc'.mono ?_
    have fin : ∀ (K : HP) (st : LoopState) (jump : Option Code) (W3 : World), st ≠ .busy → St gh W3 (pt l (.loop (rec st jump)) * K) → ∃ W4, (Instr.endLoop l).run P W3 = .ok jump W4 ∧ St gh W4 K := fun K st jump W3 hst hs4 => by
      have hr := run_endLoop (P := P) hs4.get (by rw [hrec]; exact hst)
      obtain ⟨W4, hW4⟩ : ∃ W4, W3.putObj l (.loop { rec st jump with state := .exhausted }) = W4 := ⟨_, rfl⟩
      rw [hW4, show (rec st jump).pending = jump by rw [hrec]] at hr
      refine ⟨W4, hr, ?_⟩
      rw [← hW4]
      have : St gh (W3.putObj l (.loop { rec st jump with state := .exhausted })) (pt l (.loop { rec st jump with state := .exhausted }) * K) := by
        refine hs4.put rfl rfl ?_ ?_
        · simp [World.putObj, hs4.lt]
        · intro i hi; simp [World.putObj, Array.getElem?_setIfInBounds_ne (Ne.symm hi)]
      exact this.right
    rintro e W2 ⟨o, rfl, hst⟩
    cases o with
    | none =>
      have hst' : St gh W2 (pt l (.loop (rec .ready none)) * (Post * (pt D (.deferred (some [])) * F))) := by
        rw [star_left_comm]
        simp only [L, star_assoc, itPost] at hst
        exact hst
      obtain ⟨W4, h5, h6⟩ := fin _ _ _ _ (by simp) hst'
      exact ⟨none, W4, h5, ρ, _, ⟨hrep.1, hrep.2⟩, h6, hdone D⟩
    | some i =>
      simp only [X, itPost] at hst
      rw [star_assoc, star_left_comm, ex_star] at hst
      obtain ⟨e, hst⟩ := St.ex.1 hst
      rw [star_assoc] at hst
      obtain ⟨⟨hj, hjs⟩, hst⟩ := St.lift.1 hst
      have hst' : St gh W2 (pt l (.loop (rec .done (jumpOf e))) * (PS i * (S i e * (pt D (.deferred (some [])) * F)))) := by
        simp only [star_assoc] at hst
        refine hst.mono (Ent.of_eq ?_)
        ac_rfl
      obtain ⟨W4, h5, h6⟩ := fin _ _ _ _ (by simp) hst'
      rw [hSS, star_left_comm, ex_star] at h6
      obtain ⟨m, h6⟩ := St.ex.1 h6
      rw [star_left_comm] at h6
      refine ⟨jumpOf e, W4, h5, ?_⟩
      have hq : toQ n gh Q e { a with defers := mk D :: a.defers } W4 := ⟨ρ, _, ⟨hrep.1, hrep.2⟩, h6, hstop D i e m hj⟩
      cases e with
      | normal => simp [jumpOf] at hjs
      | ret => exact wpIn_ret hq
      | exit id => exact wpIn_exit hq
      | goto t => exact wpIn_goto hq
      | panic ch => simp [jumpOf] at hjs
      | outgrown => simp [jumpOf] at hjs
end
end Go.Sl
namespace Go.Sl
open Go Go.Proofs
set_option linter.unusedVariables false
set_option linter.unusedSimpArgs false
attribute [local irreducible] star Ow Cw Pk Pu Dw thenQ blockQ retQ loudQ Cr thr tab rdQ
theorem lv_mem (T : List Slt) (k : Nat) (hk : k < (lv T).length) : (lv T)[k]! < 4 ∧ (T[(lv T)[k]!]!).isSome = true := by
  have h : ∀ j, ∀ z ∈ lvN T j, z < j ∧ (T[z]!).isSome = true := fun j => by
    induction j with
    | zero => intro z hz; simp [lvN] at hz
    | succ j ih =>
      intro z hz
      rw [lvN] at hz
      rcases List.mem_append.1 hz with h | h
      · have := ih z h; exact ⟨by omega, this.2⟩
      · split at h
        · rw [List.mem_singleton.1 h]; exact ⟨by omega, by assumption⟩
        · simp at h
  have e : (lv T)[k]! = (lv T)[k] := getElem!_pos (lv T) k hk
  rw [e]
  exact h 4 _ (List.getElem_mem hk)
/-! all roots -/
def rts : Slt → List Int
  | none => []
  | some q => q.2.1 ++ q.2.2
def lvR (T : List Slt) (k : Nat) : List Int := ((lv T).take k).flatMap fun j => nz (rts T[j]!)
def allR (G : List Int) (T : List Slt) : List Int := nz G ++ lvR T (lv T).length
def SmallT (T : List Slt) : Prop := ∀ x ∈ T, (rts x).length < 1000000
theorem lvR_succ (T : List Slt) (k : Nat) (hk : k < (lv T).length) : lvR T (k + 1) = lvR T k ++ nz (rts T[(lv T)[k]!]!) := by
  unfold lvR
  have e : (lv T)[k]! = (lv T)[k] := getElem!_pos (lv T) k hk
  rw [List.take_add_one, List.flatMap_append, getElem?_pos (lv T) k hk, e]
  simp
theorem lvR_app (T : List Slt) (k : Nat) : ∃ r, lvR T (lv T).length = lvR T k ++ r := by
  unfold lvR
  refine ⟨((lv T).drop k).flatMap fun j => nz (rts T[j]!), ?_⟩
  rw [← List.flatMap_append, List.take_append_drop, List.take_length]
theorem allR_g (G : List Int) (T : List Slt) (i : Nat) (hi : i < (nz G).length) : i < (allR G T).length ∧ (allR G T)[i]! = (nz G)[i]! := by
  refine ⟨by rw [allR, List.length_append]; omega, ?_⟩
  rw [allR]; simp [List.getElem?_append, hi]
theorem allR_t (G : List Int) (T : List Slt) (k : Nat) (hk : k < (lv T).length) (i : Nat) (hi : i < (nz (rts T[(lv T)[k]!]!)).length) :
    (nz G).length + (lvR T k).length + i < (allR G T).length ∧ (allR G T)[(nz G).length + (lvR T k).length + i]! = (nz (rts T[(lv T)[k]!]!))[i]! := by
  obtain ⟨r, hr⟩ := lvR_app T (k + 1)
  rw [lvR_succ T k hk] at hr
  generalize nz (rts T[(lv T)[k]!]!) = M at hi hr ⊢
  generalize lvR T k = K at hr ⊢
  have e : allR G T = (nz G ++ K) ++ (M ++ r) := by rw [allR, hr]; simp only [List.append_assoc]
  have hlen : (nz G ++ K).length = (nz G).length + K.length := List.length_append
  refine ⟨by rw [e]; simp only [List.length_append]; omega, ?_⟩
  rw [e, ← hlen]
  rw [List.getElem!_eq_getElem?_getD, List.getElem!_eq_getElem?_getD, List.getElem?_append_right (by omega), Nat.add_sub_cancel_left, List.getElem?_append_left hi]
set_option maxHeartbeats 16000000 in
theorem AllIt (b c : Nat) (th rg st : Int) (G : List Int) (T : List Slt) (hT : T.length = 4) (hG : G.length < 1000000) (hS : SmallT T) (U : Nat → HP) (y : Value) (hyo : ∃ l, y = .func (.yield l) #[] #[]) (L : HP) (X : Fin (allR G T).length → HP)
    (hy : ∀ i : Fin (allR G T).length, Yc Tryd.prog y [vi (allR G T)[i.1]!] (U i.1 * L) (fun c => bif c then U (i.1 + 1) * L else X i)) :
    Fn Tryd.prog 50 (y :: [.pointer (some ⟨c, 0, none⟩)]) (cl c [.pointer (some ⟨b, 0, none⟩)] * (tab b th rg st G T * U 0) * L) (Option (Fin (allR G T).length)) (fun _ => .tuple #[])
      (itPost (cl c [.pointer (some ⟨b, 0, none⟩)] * (tab b th rg st G T * U (allR G T).length) * L) (fun i => cl c [.pointer (some ⟨b, 0, none⟩)] * tab b th rg st G T * X i)) := by
  obtain ⟨yl, rfl⟩ := hyo
  (refine Fn.of Tryd.func50 rfl (by kernel_rfl) Tryd.ntmps50 rfl (fun F => ?_))
  refine Cw.heq (show _ = cl c [.pointer (some ⟨b, 0, none⟩)] * (tab b th rg st G T * (U 0 * (L * F))) by ac_rfl) ?_
  (repeat' (first | (refine Ow.is ?_; (first | refine Ow.nil ?_ | refine Ow.pu rfl (Pu.move rfl) ?_ | refine Ow.pu rfl (Pu.assign rfl) ?_ | (refine Ow.kLoad ?_; (first | refine Ow.pu rfl (Pu.load_cl rfl pkA rfl) ?_)) | (refine Ow.kUn ?_; (first | refine Ow.pu rfl (Pu.not rfl) ?_)) | (refine Ow.kCall ?_; (first | refine Ow.callE0 evA rfl (Roots_fn _) (fun cr => ?_) | refine Ow.callE0 evA rfl (Globals_fn _) (fun cg => ?_) | refine Ow.callE0 evA rfl (Threads_fn _) (fun cc => ?_) | fail)) | refine Ow.box rfl rfl rfl (fun bx => ?_))) | (refine Cw.is ?_; (first | refine Cw.seq ?_ | refine Cw.region ?_ | refine Cw.cond_t rfl rfl ?_ | refine Cw.cond_f rfl rfl ?_ | refine Cw.block ?_ | refine Cw.ret ?_ | refine Cw.skip ?_)) | (first | refine thenQ_n ?_ | refine thenQ_r ?_ | refine blockQ_n ?_ | refine blockQ_r ?_)))
  refine Cw.range (ι := Fin (nz G).length) (xs := fun i => [vi (nz G)[i.1]!]) (A := fun i => cl bx [.func (.yield yl) #[] #[]] * (U i.1 * L)) (B := fun i => cl bx [.func (.yield yl) #[] #[]] * (U (i.1 + 1) * L)) (J := fun _ e => e = .ret)
    (S := fun i _ => cl bx [.func (.yield yl) #[] #[]] * X ⟨i.1, (allR_g G T i.1 i.2).1⟩) (PS := fun _ => cl cg [.pointer (some ⟨b, 0, none⟩)] * tab b th rg st G T)
    (Pre := cl cg [.pointer (some ⟨b, 0, none⟩)] * (tab b th rg st G T * (cl bx [.func (.yield yl) #[] #[]] * (U 0 * L))))
    (Post := cl cg [.pointer (some ⟨b, 0, none⟩)] * (tab b th rg st G T * (cl bx [.func (.yield yl) #[] #[]] * (U (nz G).length * L))))
    (F := cl c [.pointer (some ⟨b, 0, none⟩)] * F) (fun y' L' X' hy' => GlobalsIt b cg th rg st G T hG (fun k => cl bx [.func (.yield yl) #[] #[]] * (U k * L)) y' L' X' hy') rfl rfl (fun _ => rfl) (by ((try simp only [star_assoc]); (repeat (apply Ent.pk; exact pkA)); first | exact Ent.fin pkA | exact Ent.refl _)) (fun i F1 G' l' rec => ?_) (fun D => ?_) (fun D i e h => ?_)
  · have hi := allR_g G T i.1 i.2
    have hyy := hy ⟨i.1, hi.1⟩
    simp only [hi.2] at hyy
    (repeat' (first | (refine Ow.is ?_; (first | refine Ow.nil ?_ | refine Ow.pu rfl (Pu.move rfl) ?_ | refine Ow.pu rfl (Pu.assign rfl) ?_ | (refine Ow.kLoad ?_; (first | refine Ow.pu rfl (Pu.load_cl rfl pkA rfl) ?_)) | (refine Ow.kUn ?_; (first | refine Ow.pu rfl (Pu.not rfl) ?_)) | (refine Ow.kCall ?_; (first | refine Ow.callE0 evA rfl (Roots_fn _) (fun cr => ?_) | refine Ow.callE0 evA rfl (Globals_fn _) (fun cg => ?_) | refine Ow.callE0 evA rfl (Threads_fn _) (fun cc => ?_) | fail)) | refine Ow.box rfl rfl rfl (fun bx => ?_))) | (refine Cw.is ?_; (first | refine Cw.seq ?_ | refine Cw.region ?_ | refine Cw.cond_t rfl rfl ?_ | refine Cw.cond_f rfl rfl ?_ | refine Cw.block ?_ | refine Cw.ret ?_ | refine Cw.skip ?_)) | (first | refine thenQ_n ?_ | refine thenQ_r ?_ | refine blockQ_n ?_ | refine blockQ_r ?_)))
    refine ⟨_, Ent.refl _, ?_⟩
    try (refine Cw.heq (by simp only [star_assoc, emp_star, star_emp]; exact rfl) ?_)
    (repeat' (first | (refine Ow.is ?_; (first | refine Ow.nil ?_ | refine Ow.pu rfl (Pu.move rfl) ?_ | refine Ow.pu rfl (Pu.assign rfl) ?_ | (refine Ow.kLoad ?_; (first | refine Ow.pu rfl (Pu.load_cl rfl pkA rfl) ?_)) | (refine Ow.kUn ?_; (first | refine Ow.pu rfl (Pu.not rfl) ?_)) | (refine Ow.kCall ?_; (first | refine Ow.callE0 evA rfl (Roots_fn _) (fun cr => ?_) | refine Ow.callE0 evA rfl (Globals_fn _) (fun cg => ?_) | refine Ow.callE0 evA rfl (Threads_fn _) (fun cc => ?_) | fail)) | refine Ow.box rfl rfl rfl (fun bx => ?_))) | (refine Cw.is ?_; (first | refine Cw.seq ?_ | refine Cw.region ?_ | refine Cw.cond_t rfl rfl ?_ | refine Cw.cond_f rfl rfl ?_ | refine Cw.block ?_ | refine Cw.ret ?_ | refine Cw.skip ?_)) | (first | refine thenQ_n ?_ | refine thenQ_r ?_ | refine blockQ_n ?_ | refine blockQ_r ?_)))
    refine Ow.yc2 hyy rfl rfl evA pkA pkA (fun r => ?_)
    cases r with
    | true =>
      rw [cond_true]
      (repeat' (first | (refine Ow.is ?_; (first | refine Ow.nil ?_ | refine Ow.pu rfl (Pu.move rfl) ?_ | refine Ow.pu rfl (Pu.assign rfl) ?_ | (refine Ow.kLoad ?_; (first | refine Ow.pu rfl (Pu.load_cl rfl pkA rfl) ?_)) | (refine Ow.kUn ?_; (first | refine Ow.pu rfl (Pu.not rfl) ?_)) | (refine Ow.kCall ?_; (first | refine Ow.callE0 evA rfl (Roots_fn _) (fun cr => ?_) | refine Ow.callE0 evA rfl (Globals_fn _) (fun cg => ?_) | refine Ow.callE0 evA rfl (Threads_fn _) (fun cc => ?_) | fail)) | refine Ow.box rfl rfl rfl (fun bx => ?_))) | (refine Cw.is ?_; (first | refine Cw.seq ?_ | refine Cw.region ?_ | refine Cw.cond_t rfl rfl ?_ | refine Cw.cond_f rfl rfl ?_ | refine Cw.block ?_ | refine Cw.ret ?_ | refine Cw.skip ?_)) | (first | refine thenQ_n ?_ | refine thenQ_r ?_ | refine blockQ_n ?_ | refine blockQ_r ?_)))
      refine rdQ_n ?_
      ((try simp only [star_assoc]); (repeat (apply Ent.pk; exact pkA)); first | exact Ent.fin pkA | exact Ent.refl _)
    | false =>
      rw [cond_false]
      (repeat' (first | (refine Ow.is ?_; (first | refine Ow.nil ?_ | refine Ow.pu rfl (Pu.move rfl) ?_ | refine Ow.pu rfl (Pu.assign rfl) ?_ | (refine Ow.kLoad ?_; (first | refine Ow.pu rfl (Pu.load_cl rfl pkA rfl) ?_)) | (refine Ow.kUn ?_; (first | refine Ow.pu rfl (Pu.not rfl) ?_)) | (refine Ow.kCall ?_; (first | refine Ow.callE0 evA rfl (Roots_fn _) (fun cr => ?_) | refine Ow.callE0 evA rfl (Globals_fn _) (fun cg => ?_) | refine Ow.callE0 evA rfl (Threads_fn _) (fun cc => ?_) | fail)) | refine Ow.box rfl rfl rfl (fun bx => ?_))) | (refine Cw.is ?_; (first | refine Cw.seq ?_ | refine Cw.region ?_ | refine Cw.cond_t rfl rfl ?_ | refine Cw.cond_f rfl rfl ?_ | refine Cw.block ?_ | refine Cw.ret ?_ | refine Cw.skip ?_)) | (first | refine thenQ_n ?_ | refine thenQ_r ?_ | refine blockQ_n ?_ | refine blockQ_r ?_)))
      refine rdQ_j rfl rfl ?_
      ((try simp only [star_assoc]); (repeat (apply Ent.pk; exact pkA)); first | exact Ent.fin pkA | exact Ent.refl _)
  · try (refine Cw.heq (by simp only [star_assoc, emp_star, star_emp]; exact rfl) ?_)
    rw [show (nz G).length = (nz G).length + (lvR T 0).length by simp [lvR]]
    (repeat' (first | (refine Ow.is ?_; (first | refine Ow.nil ?_ | refine Ow.pu rfl (Pu.move rfl) ?_ | refine Ow.pu rfl (Pu.assign rfl) ?_ | (refine Ow.kLoad ?_; (first | refine Ow.pu rfl (Pu.load_cl rfl pkA rfl) ?_)) | (refine Ow.kUn ?_; (first | refine Ow.pu rfl (Pu.not rfl) ?_)) | (refine Ow.kCall ?_; (first | refine Ow.callE0 evA rfl (Roots_fn _) (fun cr => ?_) | refine Ow.callE0 evA rfl (Globals_fn _) (fun cg => ?_) | refine Ow.callE0 evA rfl (Threads_fn _) (fun cc => ?_) | fail)) | refine Ow.box rfl rfl rfl (fun bx => ?_))) | (refine Cw.is ?_; (first | refine Cw.seq ?_ | refine Cw.region ?_ | refine Cw.cond_t rfl rfl ?_ | refine Cw.cond_f rfl rfl ?_ | refine Cw.block ?_ | refine Cw.ret ?_ | refine Cw.skip ?_)) | (first | refine thenQ_n ?_ | refine thenQ_r ?_ | refine blockQ_n ?_ | refine blockQ_r ?_)))
    refine Cw.rangeX (ι := Fin (lv T).length) (κ := Fin (allR G T).length) (S' := fun k _ m => tab b th rg st G T * X m) (xs := fun k => [vi ((lv T)[k.1]! : Nat), ptrO T[(lv T)[k.1]!]!]) (A := fun k => tab b th rg st G T * (cl bx [.func (.yield yl) #[] #[]] * (U ((nz G).length + (lvR T k.1).length) * L))) (B := fun k => tab b th rg st G T * (cl bx [.func (.yield yl) #[] #[]] * (U ((nz G).length + (lvR T (k.1 + 1)).length) * L))) (J := fun _ e => e = .ret)
      (S := fun k _ => Sl.ex fun m : Fin (allR G T).length => tab b th rg st G T * X m) (PS := fun _ => cl cc [.pointer (some ⟨b, 0, none⟩)])
      (Pre := cl cc [.pointer (some ⟨b, 0, none⟩)] * (tab b th rg st G T * (cl bx [.func (.yield yl) #[] #[]] * (U ((nz G).length + (lvR T 0).length) * L))))
      (Post := cl cc [.pointer (some ⟨b, 0, none⟩)] * (tab b th rg st G T * (cl bx [.func (.yield yl) #[] #[]] * (U ((nz G).length + (lvR T (lv T).length).length) * L))))
      (F := cl cg [.pointer (some ⟨b, 0, none⟩)] * (pt D (.deferred (some [])) * (cl c [.pointer (some ⟨b, 0, none⟩)] * F))) (fun y' L' X' hy' => ThreadsIt b cc th rg st G T hT (fun k => tab b th rg st G T * (cl bx [.func (.yield yl) #[] #[]] * (U ((nz G).length + (lvR T k).length) * L))) _ rfl y' L' X' hy') rfl rfl (fun _ => rfl) (by ((try simp only [star_assoc]); (repeat (apply Ent.pk; exact pkA)); first | exact Ent.fin pkA | exact Ent.refl _)) (fun k F1 G' l' rec => ?_) (fun D' => ?_) (fun _ _ => rfl) (fun D' k e m h => ?_)
    · obtain ⟨hj4, hsome⟩ := lv_mem T k.1 k.2
      have hallt := allR_t G T k.1 k.2
      have hsucc := lvR_succ T k.1 k.2
      generalize (lv T)[k.1]! = j at hj4 hsome hallt hsucc ⊢
      have hjT : j < T.length := by omega
      have hg : T[j]! = T[j] := getElem!_pos T j hjT
      obtain ⟨q, hq⟩ : ∃ q, T[j]! = some q := Option.isSome_iff_exists.1 hsome
      have hsp : stars st T = thr q.1 q.2.1 q.2.2 st * stars st (T.set j none) := by
        rw [stars_at st T j hjT, ← hg, hq]; rfl
      have hsm : (q.2.1 ++ q.2.2).length < 1000000 := by
        have := hS T[j] (List.getElem_mem hjT)
        rw [← hg, hq] at this; exact this
      rw [hq] at hallt hsucc ⊢
      replace hallt : ∀ i, i < (nz (q.2.1 ++ q.2.2)).length → (nz G).length + (lvR T k.1).length + i < (allR G T).length ∧ (allR G T)[(nz G).length + (lvR T k.1).length + i]! = (nz (q.2.1 ++ q.2.2))[i]! := hallt
      replace hsucc : lvR T (k.1 + 1) = lvR T k.1 ++ nz (q.2.1 ++ q.2.2) := hsucc
      rw [hsucc, List.length_append, ← Nat.add_assoc]
      generalize (nz G).length + (lvR T k.1).length = o at hallt ⊢
      (repeat' (first | (refine Ow.is ?_; (first | refine Ow.nil ?_ | refine Ow.pu rfl (Pu.move rfl) ?_ | refine Ow.pu rfl (Pu.assign rfl) ?_ | (refine Ow.kLoad ?_; (first | refine Ow.pu rfl (Pu.load_cl rfl pkA rfl) ?_)) | (refine Ow.kUn ?_; (first | refine Ow.pu rfl (Pu.not rfl) ?_)) | (refine Ow.kCall ?_; (first | refine Ow.callE0 evA rfl (Roots_fn _) (fun cr => ?_) | refine Ow.callE0 evA rfl (Globals_fn _) (fun cg => ?_) | refine Ow.callE0 evA rfl (Threads_fn _) (fun cc => ?_) | fail)) | refine Ow.box rfl rfl rfl (fun bx => ?_))) | (refine Cw.is ?_; (first | refine Cw.seq ?_ | refine Cw.region ?_ | refine Cw.cond_t rfl rfl ?_ | refine Cw.cond_f rfl rfl ?_ | refine Cw.block ?_ | refine Cw.ret ?_ | refine Cw.skip ?_)) | (first | refine thenQ_n ?_ | refine thenQ_r ?_ | refine blockQ_n ?_ | refine blockQ_r ?_)))
      refine ⟨_, Ent.refl _, ?_⟩
      try (refine Cw.heq (by simp only [star_assoc, emp_star, star_emp]; exact rfl) ?_)
      refine Cw.pkd (A := tab b th rg st G T) pkA ?_
      refine Cw.opn (tab_ex _ _ _ _ _ _) (fun x => ?_)
      rw [hsp]
      (refine Cw.heq (by simp only [star_assoc, emp_star, star_emp]; exact rfl) ?_)
      (repeat' (first | (refine Ow.is ?_; (first | refine Ow.nil ?_ | refine Ow.pu rfl (Pu.move rfl) ?_ | refine Ow.pu rfl (Pu.assign rfl) ?_ | (refine Ow.kLoad ?_; (first | refine Ow.pu rfl (Pu.load_cl rfl pkA rfl) ?_)) | (refine Ow.kUn ?_; (first | refine Ow.pu rfl (Pu.not rfl) ?_)) | (refine Ow.kCall ?_; (first | refine Ow.callE0 evA rfl (Roots_fn _) (fun cr => ?_) | refine Ow.callE0 evA rfl (Globals_fn _) (fun cg => ?_) | refine Ow.callE0 evA rfl (Threads_fn _) (fun cc => ?_) | fail)) | refine Ow.box rfl rfl rfl (fun bx => ?_))) | (refine Cw.is ?_; (first | refine Cw.seq ?_ | refine Cw.region ?_ | refine Cw.cond_t rfl rfl ?_ | refine Cw.cond_f rfl rfl ?_ | refine Cw.block ?_ | refine Cw.ret ?_ | refine Cw.skip ?_)) | (first | refine thenQ_n ?_ | refine thenQ_r ?_ | refine blockQ_n ?_ | refine blockQ_r ?_)))
      refine Cw.rangeN (ι := Fin (nz (q.2.1 ++ q.2.2)).length) (xs := fun i => [vi (nz (q.2.1 ++ q.2.2))[i.1]!]) (A := fun i => cl bx [.func (.yield yl) #[] #[]] * (U (o + i.1) * L)) (B := fun i => cl bx [.func (.yield yl) #[] #[]] * (U (o + (i.1 + 1)) * L)) (J := fun _ e => e = .ret)
        (S := fun i _ => cl bx [.func (.yield yl) #[] #[]] * X ⟨o + i.1, (hallt i.1 i.2).1⟩) (PS := fun _ => cl cr [.pointer (some ⟨q.1, 0, none⟩)] * thr q.1 q.2.1 q.2.2 st)
        (Pre := cl cr [.pointer (some ⟨q.1, 0, none⟩)] * (thr q.1 q.2.1 q.2.2 st * (cl bx [.func (.yield yl) #[] #[]] * (U (o + 0) * L))))
        (Post := cl cr [.pointer (some ⟨q.1, 0, none⟩)] * (thr q.1 q.2.1 q.2.2 st * (cl bx [.func (.yield yl) #[] #[]] * (U (o + (nz (q.2.1 ++ q.2.2)).length) * L))))
        (l0 := l') (r0 := rec)
        (F := cl b (cfgC th rg st x.2.1 x.2.2 ++ (x.1.v :: T.map ptrO)) * (slk 1 x.1.v (G.map vi) * (stars st (T.set j none) * G'))) (fun y' L' X' hy' => RootsIt q.1 cr q.2.1 q.2.2 st hsm (fun i => cl bx [.func (.yield yl) #[] #[]] * (U (o + i) * L)) y' L' X' hy') rfl rfl (fun _ => rfl) (by rw [Nat.add_zero]; ((try simp only [star_assoc]); (repeat (apply Ent.pk; exact pkA)); first | exact Ent.fin pkA | exact Ent.refl _)) (fun i F2 G2 l2 rec2 => ?_) ?_ (fun i e h => ?_)
      · have hi := hallt i.1 i.2
        have hyy := hy ⟨o + i.1, hi.1⟩
        simp only [hi.2] at hyy
        (repeat' (first | (refine Ow.is ?_; (first | refine Ow.nil ?_ | refine Ow.pu rfl (Pu.move rfl) ?_ | refine Ow.pu rfl (Pu.assign rfl) ?_ | (refine Ow.kLoad ?_; (first | refine Ow.pu rfl (Pu.load_cl rfl pkA rfl) ?_)) | (refine Ow.kUn ?_; (first | refine Ow.pu rfl (Pu.not rfl) ?_)) | (refine Ow.kCall ?_; (first | refine Ow.callE0 evA rfl (Roots_fn _) (fun cr => ?_) | refine Ow.callE0 evA rfl (Globals_fn _) (fun cg => ?_) | refine Ow.callE0 evA rfl (Threads_fn _) (fun cc => ?_) | fail)) | refine Ow.box rfl rfl rfl (fun bx => ?_))) | (refine Cw.is ?_; (first | refine Cw.seq ?_ | refine Cw.region ?_ | refine Cw.cond_t rfl rfl ?_ | refine Cw.cond_f rfl rfl ?_ | refine Cw.block ?_ | refine Cw.ret ?_ | refine Cw.skip ?_)) | (first | refine thenQ_n ?_ | refine thenQ_r ?_ | refine blockQ_n ?_ | refine blockQ_r ?_)))
        refine ⟨_, Ent.refl _, ?_⟩
        try (refine Cw.heq (by simp only [star_assoc, emp_star, star_emp]; exact rfl) ?_)
        (repeat' (first | (refine Ow.is ?_; (first | refine Ow.nil ?_ | refine Ow.pu rfl (Pu.move rfl) ?_ | refine Ow.pu rfl (Pu.assign rfl) ?_ | (refine Ow.kLoad ?_; (first | refine Ow.pu rfl (Pu.load_cl rfl pkA rfl) ?_)) | (refine Ow.kUn ?_; (first | refine Ow.pu rfl (Pu.not rfl) ?_)) | (refine Ow.kCall ?_; (first | refine Ow.callE0 evA rfl (Roots_fn _) (fun cr => ?_) | refine Ow.callE0 evA rfl (Globals_fn _) (fun cg => ?_) | refine Ow.callE0 evA rfl (Threads_fn _) (fun cc => ?_) | fail)) | refine Ow.box rfl rfl rfl (fun bx => ?_))) | (refine Cw.is ?_; (first | refine Cw.seq ?_ | refine Cw.region ?_ | refine Cw.cond_t rfl rfl ?_ | refine Cw.cond_f rfl rfl ?_ | refine Cw.block ?_ | refine Cw.ret ?_ | refine Cw.skip ?_)) | (first | refine thenQ_n ?_ | refine thenQ_r ?_ | refine blockQ_n ?_ | refine blockQ_r ?_)))
        refine Ow.yc2 hyy rfl rfl evA pkA pkA (fun r => ?_)
        cases r with
        | true =>
          rw [cond_true]
          (repeat' (first | (refine Ow.is ?_; (first | refine Ow.nil ?_ | refine Ow.pu rfl (Pu.move rfl) ?_ | refine Ow.pu rfl (Pu.assign rfl) ?_ | (refine Ow.kLoad ?_; (first | refine Ow.pu rfl (Pu.load_cl rfl pkA rfl) ?_)) | (refine Ow.kUn ?_; (first | refine Ow.pu rfl (Pu.not rfl) ?_)) | (refine Ow.kCall ?_; (first | refine Ow.callE0 evA rfl (Roots_fn _) (fun cr => ?_) | refine Ow.callE0 evA rfl (Globals_fn _) (fun cg => ?_) | refine Ow.callE0 evA rfl (Threads_fn _) (fun cc => ?_) | fail)) | refine Ow.box rfl rfl rfl (fun bx => ?_))) | (refine Cw.is ?_; (first | refine Cw.seq ?_ | refine Cw.region ?_ | refine Cw.cond_t rfl rfl ?_ | refine Cw.cond_f rfl rfl ?_ | refine Cw.block ?_ | refine Cw.ret ?_ | refine Cw.skip ?_)) | (first | refine thenQ_n ?_ | refine thenQ_r ?_ | refine blockQ_n ?_ | refine blockQ_r ?_)))
          refine rdQ_n ?_
          rw [← Nat.add_assoc]
          ((try simp only [star_assoc]); (repeat (apply Ent.pk; exact pkA)); first | exact Ent.fin pkA | exact Ent.refl _)
        | false =>
          rw [cond_false]
          (repeat' (first | (refine Ow.is ?_; (first | refine Ow.nil ?_ | refine Ow.pu rfl (Pu.move rfl) ?_ | refine Ow.pu rfl (Pu.assign rfl) ?_ | (refine Ow.kLoad ?_; (first | refine Ow.pu rfl (Pu.load_cl rfl pkA rfl) ?_)) | (refine Ow.kUn ?_; (first | refine Ow.pu rfl (Pu.not rfl) ?_)) | (refine Ow.kCall ?_; (first | refine Ow.callE0 evA rfl (Roots_fn _) (fun cr => ?_) | refine Ow.callE0 evA rfl (Globals_fn _) (fun cg => ?_) | refine Ow.callE0 evA rfl (Threads_fn _) (fun cc => ?_) | fail)) | refine Ow.box rfl rfl rfl (fun bx => ?_))) | (refine Cw.is ?_; (first | refine Cw.seq ?_ | refine Cw.region ?_ | refine Cw.cond_t rfl rfl ?_ | refine Cw.cond_f rfl rfl ?_ | refine Cw.block ?_ | refine Cw.ret ?_ | refine Cw.skip ?_)) | (first | refine thenQ_n ?_ | refine thenQ_r ?_ | refine blockQ_n ?_ | refine blockQ_r ?_)))
          refine rdQ_j rfl rfl ?_
          ((try simp only [star_assoc]); (repeat (apply Ent.pk; exact pkA)); first | exact Ent.fin pkA | exact Ent.refl _)
      · try (refine Cw.heq (by simp only [star_assoc, emp_star, star_emp]; exact rfl) ?_)
        (repeat' (first | (refine Ow.is ?_; (first | refine Ow.nil ?_ | refine Ow.pu rfl (Pu.move rfl) ?_ | refine Ow.pu rfl (Pu.assign rfl) ?_ | (refine Ow.kLoad ?_; (first | refine Ow.pu rfl (Pu.load_cl rfl pkA rfl) ?_)) | (refine Ow.kUn ?_; (first | refine Ow.pu rfl (Pu.not rfl) ?_)) | (refine Ow.kCall ?_; (first | refine Ow.callE0 evA rfl (Roots_fn _) (fun cr => ?_) | refine Ow.callE0 evA rfl (Globals_fn _) (fun cg => ?_) | refine Ow.callE0 evA rfl (Threads_fn _) (fun cc => ?_) | fail)) | refine Ow.box rfl rfl rfl (fun bx => ?_))) | (refine Cw.is ?_; (first | refine Cw.seq ?_ | refine Cw.region ?_ | refine Cw.cond_t rfl rfl ?_ | refine Cw.cond_f rfl rfl ?_ | refine Cw.block ?_ | refine Cw.ret ?_ | refine Cw.skip ?_)) | (first | refine thenQ_n ?_ | refine thenQ_r ?_ | refine blockQ_n ?_ | refine blockQ_r ?_)))
        refine rdQ_n ?_
        refine Ent.trans ?_ (Ent.left (Ent.left (tab_mk b th rg st G T x.1 x.2.1 x.2.2)))
        rw [hsp]
        ((try simp only [star_assoc]); (repeat (apply Ent.pk; exact pkA)); first | exact Ent.fin pkA | exact Ent.refl _)
      · subst h
        (repeat' (first | (refine Ow.is ?_; (first | refine Ow.nil ?_ | refine Ow.pu rfl (Pu.move rfl) ?_ | refine Ow.pu rfl (Pu.assign rfl) ?_ | (refine Ow.kLoad ?_; (first | refine Ow.pu rfl (Pu.load_cl rfl pkA rfl) ?_)) | (refine Ow.kUn ?_; (first | refine Ow.pu rfl (Pu.not rfl) ?_)) | (refine Ow.kCall ?_; (first | refine Ow.callE0 evA rfl (Roots_fn _) (fun cr => ?_) | refine Ow.callE0 evA rfl (Globals_fn _) (fun cg => ?_) | refine Ow.callE0 evA rfl (Threads_fn _) (fun cc => ?_) | fail)) | refine Ow.box rfl rfl rfl (fun bx => ?_))) | (refine Cw.is ?_; (first | refine Cw.seq ?_ | refine Cw.region ?_ | refine Cw.cond_t rfl rfl ?_ | refine Cw.cond_f rfl rfl ?_ | refine Cw.block ?_ | refine Cw.ret ?_ | refine Cw.skip ?_)) | (first | refine thenQ_n ?_ | refine thenQ_r ?_ | refine blockQ_n ?_ | refine blockQ_r ?_)))
        refine rdQ_j rfl rfl ?_
        refine Ent.trans ?_ (Ent.left (Ent.ex (A := fun m : Fin (allR G T).length => tab b th rg st G T * X m) ⟨o + i.1, (hallt i.1 i.2).1⟩))
        refine Ent.trans ?_ (Ent.left (Ent.left (tab_mk b th rg st G T x.1 x.2.1 x.2.2)))
        rw [hsp]
        ((try simp only [star_assoc]); (repeat (apply Ent.pk; exact pkA)); first | exact Ent.fin pkA | exact Ent.refl _)
    · try (refine Cw.heq (by simp only [star_assoc, emp_star, star_emp]; exact rfl) ?_)
      (repeat' (first | (refine Ow.is ?_; (first | refine Ow.nil ?_ | refine Ow.pu rfl (Pu.move rfl) ?_ | refine Ow.pu rfl (Pu.assign rfl) ?_ | (refine Ow.kLoad ?_; (first | refine Ow.pu rfl (Pu.load_cl rfl pkA rfl) ?_)) | (refine Ow.kUn ?_; (first | refine Ow.pu rfl (Pu.not rfl) ?_)) | (refine Ow.kCall ?_; (first | refine Ow.callE0 evA rfl (Roots_fn _) (fun cr => ?_) | refine Ow.callE0 evA rfl (Globals_fn _) (fun cg => ?_) | refine Ow.callE0 evA rfl (Threads_fn _) (fun cc => ?_) | fail)) | refine Ow.box rfl rfl rfl (fun bx => ?_))) | (refine Cw.is ?_; (first | refine Cw.seq ?_ | refine Cw.region ?_ | refine Cw.cond_t rfl rfl ?_ | refine Cw.cond_f rfl rfl ?_ | refine Cw.block ?_ | refine Cw.ret ?_ | refine Cw.skip ?_)) | (first | refine thenQ_n ?_ | refine thenQ_r ?_ | refine blockQ_n ?_ | refine blockQ_r ?_)))
      refine retQ_mm (.inl rfl) pkA pkA none (res0 Tryd.results50) ?_
      simp only [itPost]
      rw [show (allR G T).length = (nz G).length + (lvR T (lv T).length).length by rw [allR, List.length_append]]
      ((try simp only [star_assoc]); (repeat (apply Ent.pk; exact pkA)); first | exact Ent.fin pkA | exact Ent.refl _)
    · subst h
      try (refine Cw.heq (by simp only [star_assoc, emp_star, star_emp]; exact rfl) ?_)
      (repeat' (first | (refine Ow.is ?_; (first | refine Ow.nil ?_ | refine Ow.pu rfl (Pu.move rfl) ?_ | refine Ow.pu rfl (Pu.assign rfl) ?_ | (refine Ow.kLoad ?_; (first | refine Ow.pu rfl (Pu.load_cl rfl pkA rfl) ?_)) | (refine Ow.kUn ?_; (first | refine Ow.pu rfl (Pu.not rfl) ?_)) | (refine Ow.kCall ?_; (first | refine Ow.callE0 evA rfl (Roots_fn _) (fun cr => ?_) | refine Ow.callE0 evA rfl (Globals_fn _) (fun cg => ?_) | refine Ow.callE0 evA rfl (Threads_fn _) (fun cc => ?_) | fail)) | refine Ow.box rfl rfl rfl (fun bx => ?_))) | (refine Cw.is ?_; (first | refine Cw.seq ?_ | refine Cw.region ?_ | refine Cw.cond_t rfl rfl ?_ | refine Cw.cond_f rfl rfl ?_ | refine Cw.block ?_ | refine Cw.ret ?_ | refine Cw.skip ?_)) | (first | refine thenQ_n ?_ | refine thenQ_r ?_ | refine blockQ_n ?_ | refine blockQ_r ?_)))
      refine retQ_mm (.inr rfl) pkA pkA (some m) (res0 Tryd.results50) ?_
      simp only [itPost]
      ((try simp only [star_assoc]); (repeat (apply Ent.pk; exact pkA)); first | exact Ent.fin pkA | exact Ent.refl _)
  · subst h
    (repeat' (first | (refine Ow.is ?_; (first | refine Ow.nil ?_ | refine Ow.pu rfl (Pu.move rfl) ?_ | refine Ow.pu rfl (Pu.assign rfl) ?_ | (refine Ow.kLoad ?_; (first | refine Ow.pu rfl (Pu.load_cl rfl pkA rfl) ?_)) | (refine Ow.kUn ?_; (first | refine Ow.pu rfl (Pu.not rfl) ?_)) | (refine Ow.kCall ?_; (first | refine Ow.callE0 evA rfl (Roots_fn _) (fun cr => ?_) | refine Ow.callE0 evA rfl (Globals_fn _) (fun cg => ?_) | refine Ow.callE0 evA rfl (Threads_fn _) (fun cc => ?_) | fail)) | refine Ow.box rfl rfl rfl (fun bx => ?_))) | (refine Cw.is ?_; (first | refine Cw.seq ?_ | refine Cw.region ?_ | refine Cw.cond_t rfl rfl ?_ | refine Cw.cond_f rfl rfl ?_ | refine Cw.block ?_ | refine Cw.ret ?_ | refine Cw.skip ?_)) | (first | refine thenQ_n ?_ | refine thenQ_r ?_ | refine blockQ_n ?_ | refine blockQ_r ?_)))
    refine retQ_m (.inr rfl) pkA (some ⟨i.1, (allR_g G T i.1 i.2).1⟩) (res0 Tryd.results50) ?_
    simp only [itPost]
    ((try simp only [star_assoc]); (repeat (apply Ent.pk; exact pkA)); first | exact Ent.fin pkA | exact Ent.refl _)
end Go.Sl
namespace Go.Sl
open Go Go.Proofs
set_option linter.unusedVariables false
set_option linter.unusedSimpArgs false
attribute [local irreducible] star Ow Cw Pk Pu Dw thenQ blockQ retQ loudQ Cr thr tab rdQ
theorem map_ptr (T : List Slt) (j : Nat) (hj : j < T.length) (q : Nat × List Int × List Int) (hq : T[j]! = some q) (r s : List Int) : (T.set j (some (q.1, r, s))).map ptrO = T.map ptrO := by
  have hg : T[j] = some q := by rw [← hq]; exact (getElem!_pos T j hj).symm
  rw [List.map_set]
  have : ptrO (some (q.1, r, s)) = (T.map ptrO)[j]'(by rw [List.length_map]; exact hj) := by rw [List.getElem_map, hg]; rfl
  rw [this, List.set_getElem_self]
theorem Fn.inTab {P : Program} {f : FuncId} {args : List Value} {β : Type} {val : β → Value} {b : Nat} {th rg st : Int} {G : List Int} {T : List Slt} {j : Nat} {q : Nat × List Int × List Int} {r' s' : β → List Int} (hj : j < T.length) (hq : T[j]! = some q)
    (h : Fn P f args (thr q.1 q.2.1 q.2.2 st) β val (fun v => thr q.1 (r' v) (s' v) st)) : Fn P f args (tab b th rg st G T) β val (fun v => tab b th rg st G (T.set j (some (q.1, r' v, s' v)))) := by
  have hg : T[j] = some q := by rw [← hq]; exact (getElem!_pos T j hj).symm
  rw [tab_ex]
  refine Fn.preX h.enters (fun x => ?_)
  refine Fn.weak (h.frame (cl b (cfgC th rg st x.2.1 x.2.2 ++ (x.1.v :: T.map ptrO)) * (slk 1 x.1.v (G.map vi) * stars st (T.set j none)))) (Ent.of_eq ?_) id (fun _ => rfl) (fun v => ?_)
  · rw [stars_at st T j hj, hg]
    show _ * (_ * (thr q.1 q.2.1 q.2.2 st * _)) = _
    ac_rfl
  · refine Ent.trans ?_ (tab_mk b th rg st G _ x.1 x.2.1 x.2.2)
    simp only [id]
    rw [map_ptr T j hj q hq, stars_set st T j hj (some (q.1, r' v, s' v))]
    refine Ent.of_eq ?_
    show _ = _ * (_ * (thr q.1 (r' v) (s' v) st * _))
    ac_rfl
theorem Fn.inTab0 {P : Program} {f : FuncId} {args : List Value} {β : Type} {val : β → Value} {b : Nat} {th rg st : Int} {G : List Int} {T : List Slt} {j : Nat} {q : Nat × List Int × List Int} (hj : j < T.length) (hq : T[j]! = some q)
    (h : Fn P f args (thr q.1 q.2.1 q.2.2 st) β val (fun v => thr q.1 q.2.1 q.2.2 st)) : Fn P f args (tab b th rg st G T) β val (fun v => tab b th rg st G T) := by
  have hg : T[j] = some q := by rw [← hq]; exact (getElem!_pos T j hj).symm
  have := h.inTab (b := b) (th := th) (rg := rg) (G := G) hj hq (r' := fun _ => q.2.1) (s' := fun _ => q.2.2)
  have e : T.set j (some (q.1, q.2.1, q.2.2)) = T := by
    have : some (q.1, q.2.1, q.2.2) = T[j] := hg.symm
    rw [this, List.set_getElem_self]
  rw [e] at this
  exact this
end Go.Sl
namespace Go.Sl
open Go Go.Proofs
set_option linter.unusedVariables false
abbrev Obj (α : Type) := α × List Int × Int
structure Wk where
  it : It
  ph : Int
abbrev it0 : It := ⟨0, 0, 0, 0, 0, 0⟩
abbrev wk0 : Wk := ⟨it0, 0⟩
structure ThS where
  r : List Int
  s : List Int
  w : Wk
structure GS (α β : Type) where
  O : List (Obj α)
  G : List Int
  T : List (Option (β × ThS))
section
variable {α : Type} [Inhabited α]
def regR (r : List Int) (i : Int) : Int := if 0 ≤ i ∧ i < r.length then r[i.toNat]! else 0
def fldE (O : List (Obj α)) (o i : Int) : Int := if o = 0 then 8 else if 0 ≤ i ∧ i < (O[(o - 1).toNat]!).2.1.length then 0 else 6
def fldV (O : List (Obj α)) (o i : Int) : Int := (O[(o - 1).toNat]!).2.1[i.toNat]!
def setF (O : List (Obj α)) (o i v : Int) : List (Obj α) := O.set (o - 1).toNat ((O[(o - 1).toNat]!).1, (O[(o - 1).toNat]!).2.1.set i.toNat v, (O[(o - 1).toNat]!).2.2)
def setS (O : List (Obj α)) (o v : Int) : List (Obj α) := O.set (o - 1).toNat ((O[(o - 1).toNat]!).1, (O[(o - 1).toNat]!).2.1, v)
structure Ef (α : Type) where
  O : List (Obj α)
  G : List Int
  r : List Int
  s : List Int
  e : Int
  v : Int
def plainR (q : Cfg) (O : List (Obj α)) (G r s : List Int) (x : It) : Ef α :=
  let a := regR r x.x
  if x.c = 2 then (if fldE O a x.y = 0 then ⟨setF O a x.y (regR r x.z), G, r, s, 0, 0⟩ else ⟨O, G, r, s, fldE O a x.y, 0⟩)
  else if x.c = 3 then (if a = 0 then ⟨O, G, r, s, 8, 0⟩ else ⟨O, G, r, s, 0, (O[(a - 1).toNat]!).2.2⟩)
  else if x.c = 4 then (if a = 0 then ⟨O, G, r, s, 8, 0⟩ else ⟨setS O a x.y, G, r, s, 0, 0⟩)
  else if x.c = 5 then ⟨O, G, r.set x.x.toNat (regR r x.y), s, 0, 0⟩
  else if x.c = 6 then ⟨O, G, r.set x.x.toNat 0, s, 0, 0⟩
  else if x.c = 7 then ⟨O, G, r, s, 0, if a = regR r x.y then 1 else 0⟩
  else if x.c = 8 then ⟨O, G, r, s, 0, if a = 0 then 1 else 0⟩
  else if x.c = 9 then (if q.stack ≤ s.length then ⟨O, G, r, s, 9, 0⟩ else ⟨O, G, r, s ++ [a], 0, 0⟩)
  else ⟨O, G.set x.y.toNat a, r, s, 0, 0⟩
def getR (b : α) (q : Cfg) (O : List (Obj α)) (G r s : List Int) (x : It) (full : Bool) : Ef α :=
  if x.c = 0 then (if full then ⟨O, G, r.set x.x.toNat 0, s, 10, 0⟩ else ⟨O ++ [(b, List.replicate x.y.toNat 0, 0)], G, r.set x.x.toNat (O.length + 1 : Nat), s, 0, (O.length + 1 : Nat)⟩)
  else if x.c = 1 then (if fldE O (regR r x.y) x.z = 0 then ⟨O, G, r.set x.x.toNat (fldV O (regR r x.y) x.z), s, 0, fldV O (regR r x.y) x.z⟩ else ⟨O, G, r, s, fldE O (regR r x.y) x.z, 0⟩)
  else if x.c = 10 then (if s = [] then ⟨O, G, r, s, 9, 0⟩ else ⟨O, G, r.set x.x.toNat s[s.length - 1]!, s.take (s.length - 1), 0, s[s.length - 1]!⟩)
  else ⟨O, G, r.set x.x.toNat G[x.y.toNat]!, s, 0, G[x.y.toNat]!⟩
abbrev tellsC (c : Int) : Prop := c = 0 ∨ c = 1 ∨ c = 10 ∨ c = 11
def actR (b : α) (q : Cfg) (O : List (Obj α)) (G r s : List Int) (x : It) (full : Bool) : Ef α :=
  if checkR q x.c x.x x.y x.z ≠ 0 then ⟨O, G, r, s, checkR q x.c x.x x.y x.z, 0⟩ else if tellsC x.c then getR b q O G r s x full else plainR q O G r s x
variable {β : Type} [Inhabited β]
abbrev thOf (s : GS α β) (t : Int) : Option (β × ThS) := if 0 ≤ t ∧ t < 4 then s.T[t.toNat]! else none
def doG (a : α) (b : β) (q : Cfg) (s : GS α β) (x : It) (full : Bool) : GS α β × Int × Int :=
  if x.k = 2 then
    (if (0 ≤ x.t ∧ x.t < q.threads) ∧ (thOf s x.t).isNone then ({ s with T := s.T.set x.t.toNat (some (b, ⟨List.replicate q.regs.toNat 0, [], wk0⟩)) }, 0, 0) else (s, 2, 0))
  else if x.k = 0 ∨ x.k = 1 ∨ x.k = 3 then
    match thOf s x.t with
    | none => (s, 2, 0)
    | some (c, th) =>
      if (x.k = 1 ∧ th.w.ph = 0) ∨ (x.k ≠ 1 ∧ th.w.ph ≠ 0) then (s, 3, 0)
      else if x.k = 3 then ({ s with T := s.T.set x.t.toNat none }, 0, 0)
      else if x.k = 0 then (if 0 ≤ x.c ∧ x.c < 13 then ({ s with T := s.T.set x.t.toNat (some (c, ⟨th.r, th.s, ⟨x, 1⟩⟩)) }, 0, 0) else (s, 1, 0))
      else if th.w.ph = 1 then
        let f := actR a q s.O s.G th.r th.s th.w.it full
        (⟨f.O, f.G, s.T.set x.t.toNat (some (c, ⟨f.r, f.s, ⟨th.w.it, 2⟩⟩))⟩, f.e, f.v)
      else ({ s with T := s.T.set x.t.toNat (some (c, ⟨th.r, th.s, ⟨th.w.it, 0⟩⟩)) }, 0, 0)
  else (s, 0, 0)
abbrev okR (n : Nat) (z : Int) : Prop := 0 ≤ z ∧ z ≤ n
structure ThOk (q : Cfg) (n : Nat) (th : ThS) : Prop where
  rl : (th.r.length : Int) = q.regs
  sl : (th.s.length : Int) ≤ q.stack
  ph : th.w.ph = 0 ∨ th.w.ph = 1 ∨ th.w.ph = 2
  wt : th.w.ph = 0 ∨ (0 ≤ th.w.it.c ∧ th.w.it.c < 13)
  r : ∀ z ∈ th.r, okR n z
  s : ∀ z ∈ th.s, okR n z
structure GsOk (q : Cfg) (s : GS α β) : Prop where
  tl : s.T.length = 4
  gl : (s.G.length : Int) = q.globals
  g : ∀ z ∈ s.G, okR s.O.length z
  o : ∀ x ∈ s.O, x.2.1.length ≤ 6 ∧ ∀ z ∈ x.2.1, okR s.O.length z
  t : ∀ (j : Nat) c th, j < 4 → s.T[j]! = some (c, th) → ThOk q s.O.length th ∧ (j : Int) < q.threads ∧ (th.w.ph ≠ 0 → th.w.it.t = (j : Int))
structure QOk (q : Cfg) : Prop where
  th : 1 ≤ q.threads ∧ q.threads ≤ 4
  rg : 1 ≤ q.regs ∧ q.regs ≤ 8
  st : 0 ≤ q.stack ∧ q.stack ≤ 8
  gl : 0 ≤ q.globals ∧ q.globals ≤ 4
  fd : 0 ≤ q.fields ∧ q.fields ≤ 6
end
end Go.Sl
namespace Go.Sl
open Go Go.Proofs
set_option linter.unusedVariables false
set_option linter.unusedSimpArgs false
attribute [local irreducible] star Ow Cw Pk Pu Dw thenQ blockQ retQ loudQ Cr thr
variable (b : Nat) (regs stack : List Int) (room : Int)
theorem Pop_t (h : 0 < stack.length) (hl : stack.length < 1000000) : Fn Tryd.prog 64 [.pointer (some ⟨b, 0, none⟩)] (thr b regs stack room) Unit (fun _ => .tuple #[vi stack[((stack.length : Int) - 1).toNat]!, vi 0]) (fun _ => thr b regs (stack.take ((stack.length : Int) - 1).toNat) room) := by
  (refine Fn.of Tryd.func64 rfl (by kernel_rfl) Tryd.ntmps64 rfl (fun F => ?_))
  refine Cw.opn (thr_ex _ _ _ _) (fun x => ?_)
  (refine Cw.heq (by simp only [star_assoc, emp_star, star_emp]; exact rfl) ?_)
  (repeat' (first | (refine Ow.is ?_; (first | refine Ow.nil ?_ | refine Ow.pu rfl (Pu.move rfl) ?_ | refine Ow.pu rfl (Pu.assign rfl) ?_ | refine Ow.pu rfl (Pu.fld rfl) ?_ | refine Ow.pu rfl (Pu.nilCheck rfl) ?_ | (refine Ow.kLoad ?_; (first | refine Ow.pu rfl (Pu.load_cl rfl pkA rfl) ?_ | refine Ow.pu rfl (Pu.load_sli rfl pkA (by first | omega | (simp only [List.length_set, List.length_append, List.length_replicate, List.length_cons, List.length_nil]; omega))) ?_)) | (refine Ow.kBin ?_; (first | (refine Ow.b_lss ?_; first | refine Ow.pu rfl (Pu.lt_t rfl rfl (by omega)) ?_ | refine Ow.pu rfl (Pu.lt_f rfl rfl (by omega)) ?_ | refine Ow.sp rfl (by exact Pu.lt rfl rfl) (fun hc => ?_) (fun hc => ?_)) | (refine Ow.b_sub ?_; refine Ow.pu rfl (Pu.sub_i rfl rfl (by omega)) ?_))) | (refine Ow.kStore ?_; (first | refine Ow.store_cl rfl rfl rfl (by (first | rfl | assumption | exact Subtype.property _)) pkA rfl ?_)) | (refine Ow.kIdx ?_; (first | refine Ow.pu rfl (Pu.idx_sl rfl rfl pkA (by simp only [List.length_map, List.length_append, List.length_set, List.length_replicate, List.length_cons, List.length_nil]; omega)) ?_)) | (refine Ow.kBuiltin ?_; (first | refine Ow.pu rfl (Pu.len_slm rfl pkA) ?_)) | refine Ow.slice_sli rfl rfl rfl pkA (by omega) (fun sv => ?_))) | (refine Cw.is ?_; (first | refine Cw.seq ?_ | refine Cw.region ?_ | refine Cw.cond_f rfl rfl ?_ | refine Cw.ret ?_ | refine Cw.skip ?_)) | (first | refine thenQ_n ?_)))
  refine retQ_v2 () Tryd.results64 rfl rfl rfl ?_; refine Ent.trans ?_ (Ent.left (thr_mk b regs _ room x.1 sv)); ((try simp only [star_assoc]); (repeat (apply Ent.pk; exact pkA)); first | exact Ent.fin pkA | exact Ent.refl _)
theorem Pop_f (h : stack.length = 0) : Fn Tryd.prog 64 [.pointer (some ⟨b, 0, none⟩)] (thr b regs stack room) Unit (fun _ => .tuple #[vi 0, vi 9]) (fun _ => thr b regs stack room) := by
  (refine Fn.of Tryd.func64 rfl (by kernel_rfl) Tryd.ntmps64 rfl (fun F => ?_))
  refine Cw.opn (thr_ex _ _ _ _) (fun x => ?_)
  (refine Cw.heq (by simp only [star_assoc, emp_star, star_emp]; exact rfl) ?_)
  (repeat' (first | (refine Ow.is ?_; (first | refine Ow.nil ?_ | refine Ow.pu rfl (Pu.move rfl) ?_ | refine Ow.pu rfl (Pu.assign rfl) ?_ | refine Ow.pu rfl (Pu.fld rfl) ?_ | refine Ow.pu rfl (Pu.nilCheck rfl) ?_ | (refine Ow.kLoad ?_; (first | refine Ow.pu rfl (Pu.load_cl rfl pkA rfl) ?_)) | (refine Ow.kBin ?_; (first | (refine Ow.b_lss ?_; first | refine Ow.pu rfl (Pu.lt_t rfl rfl (by omega)) ?_ | refine Ow.pu rfl (Pu.lt_f rfl rfl (by omega)) ?_ | refine Ow.sp rfl (by exact Pu.lt rfl rfl) (fun hc => ?_) (fun hc => ?_)) | (refine Ow.b_sub ?_; refine Ow.pu rfl (Pu.sub_i rfl rfl (by omega)) ?_))) | (refine Ow.kBuiltin ?_; (first | refine Ow.pu rfl (Pu.len_slm rfl pkA) ?_)))) | (refine Cw.is ?_; (first | refine Cw.seq ?_ | refine Cw.region ?_ | refine Cw.cond_t rfl rfl ?_ | refine Cw.ret ?_)) | (first | refine thenQ_n ?_ | refine thenQ_r ?_)))
  refine retQ_v2 () Tryd.results64 rfl rfl rfl ?_; refine Ent.trans ?_ (Ent.left (thr_mk b regs stack room x.1 x.2)); ((try simp only [star_assoc]); (repeat (apply Ent.pk; exact pkA)); first | exact Ent.fin pkA | exact Ent.refl _)
end Go.Sl
namespace Go.Sl
open Go
set_option linter.unusedVariables false
set_option linter.unusedSimpArgs false
section
variable {P : Program} {r : Option Nat} {n : Nat} {Q : PostT} {ρ : Env} {ds : List Deferred} {H A R : HP} {t t' t'' T e : TypeId} {x y : Operand} {all rest : List Oper} {d : Option Nat} {pos : String} {aft : Array Edge} {v u : Value} {s bb m cap : Nat} {zc : List Value} {α : Type} {f : α → List Value}
theorem flat_get [Inhabited α] [F : Fl f s] (L : List α) (j o : Nat) (hj : j < L.length) (ho : o < s) : (L.flatMap f)[j * s + o]? = (f L[j]!)[o]? := by
  have h := flat_at (f := f) L j hj
  rw [← h, List.getElem?_take, if_pos ho, List.getElem?_drop]
theorem flat_setf [Inhabited α] [F : Fl f s] (L : List α) (j o : Nat) (w : α) (hj : j < L.length) (hw : f w = (f L[j]!).set o u) (ho : o < s) : (L.flatMap f).set (j * s + o) u = (L.set j w).flatMap f := by
  have e1 : (f L[j]!).length = s := F.h _
  have e2 : L[j] = L[j]! := (getElem!_pos L j hj).symm
  have e3 : ((L.take j).flatMap f).length = j * s := by rw [flat_len, List.length_take, Nat.min_eq_left (by omega)]
  rw [flat_set L j w hj, flat_split L j hj, hw, e2, List.set_append_right _ _ (by omega), e3, Nat.add_sub_cancel_left, List.set_append_left _ _ (by omega)]
theorem Pu.load_stf [Inhabited α] [F : Fl f s] [TA : TyA P t false] {L : List α} {j o : Nat} (hx : ev ρ x = some (.pointer (some ((sbase v).add (j * s + o))))) (hp : Pk H (slk s v (L.flatMap f)) R) (hj : j < L.length) (ho : (f L[j]!)[o]? = some u) : Pu P n ρ H (.load t x) t' u :=
  Pu.load hx hp (rd_slk (by rw [flat_get (f := f) L j o hj (by have := (List.getElem?_eq_some_iff.1 ho).1; rwa [F.h] at this)]; exact ho))
theorem Ow.store_stf [Inhabited α] [F : Fl f s] [S : TyS P t 1 bb zc] {L : List α} {j o : Nat} (w : α) (hd : dOk n d = true) (hx : ev ρ x = some (.pointer (some ((sbase v).add (j * s + o))))) (hy : ev ρ y = some u) (h1 : u.oneCell' = true) (hp : Pk H (slk s v (L.flatMap f)) R) (hj : j < L.length) (hw : f w = (f L[j]!).set o u ∧ o < s)
    (h : Ow P r n all rest Q (putE d undef ρ) ds (slk s v ((L.set j w).flatMap f) * R)) : Ow P r n all (⟨d, .store t x y, t', pos, aft, none⟩ :: rest) Q ρ ds H := by
  have hlen : j * s + o < (L.flatMap f).length := by
    rw [flat_len]
    calc j * s + o < j * s + s := by omega
      _ = (j + 1) * s := by rw [Nat.add_mul]; omega
      _ ≤ L.length * s := Nat.mul_le_mul_right _ hj
  have hwr := wr_slk (s := s) (v := v) (u := u) (cs := L.flatMap f) hlen
  rw [flat_setf (f := f) L j o w hj hw.1 hw.2] at hwr
  exact Ow.store hd hx hy h1 hp hwr h
theorem Pu.load_stfd [Inhabited α] [F : Fl f s] [TA : TyA P t false] {L : List α} {j o : Nat} {w : α} (hx : ev ρ x = some (.pointer (some ((sbase v).add (j * s + o))))) (hp : Pk H (slk s v (L.flatMap f)) R) (hj : j < L.length) (hw : L[j]! = w) (ho : (f w)[o]? = some u) : Pu P n ρ H (.load t x) t' u :=
  Pu.load_stf hx hp hj (hw ▸ ho)
theorem pk2' {A B H R R2 : HP} (h : Pk H A R) (h2 : Pk R B R2) : Pk H (A * B) R2 := by unfold Pk at *; rw [h, h2, star_assoc]
theorem pk3 {A B C H R R2 R3 : HP} (h : Pk H A R) (h2 : Pk R B R2) (h3 : Pk R2 C R3) : Pk H (A * (B * C)) R3 := by unfold Pk at *; rw [h, h2, h3, star_assoc, star_assoc]
theorem Ow.ass3 {A B C R : HP} {l : List Oper} (h : Ow P r n all l Q ρ ds (A * (B * (C * R)))) : Ow P r n all l Q ρ ds (A * (B * C) * R) := Ow.heq (by rw [star_assoc, star_assoc]) h
theorem Pu.fldS {s' f' off m : Nat} {a : Addr} [T : Fld P s' f' off] (hx : ev ρ x = some (.pointer (some (a.add m)))) : Pu P n ρ H (.fieldAddr s' x f') t (.pointer (some (a.add (m + off)))) := by
  have := Pu.fieldAddr (P := P) (n := n) (H := H) (t := t) (s := s') (f := f') hx
  rwa [addr_add2] at this
theorem Pu.idx_sp [TT : TyU P T (.slice e)] [S : TyS P e s bb zc] {sv : SV} {k : IntKind} {i : Int} {cs : List Value} (hs : SlP s sv cs) (hx : ev ρ x = some sv.v) (hy : ev ρ y = some (.int k i)) (hi : 0 ≤ i ∧ i < sv.n) :
    Pu P n ρ H (.indexAddr T x y) t (.pointer (some ((sbase sv.v).add (i.toNat * s)))) :=
  Pu.mk (by simp) (fun a' w hr => by
    obtain ⟨sa, sn, sc⟩ := sv
    obtain ⟨q1, q2, q3⟩ := hs
    simp only at q1 q2 q3 hi
    cases sa with
    | none => have := q3 rfl; omega
    | some ad => simp [execOp, ev_eval hr hx, ev_eval hr hy, Instr.indexAt, asIntOf, run_under, run_size, hi.1, hi.2, sbase])
theorem flat_same [Inhabited α] (L : List α) (j : Nat) (w : α) (hj : j < L.length) (h : f w = f L[j]!) : (L.set j w).flatMap f = L.flatMap f := by
  rw [flat_set L j w hj, flat_split L j hj, h, getElem!_pos L j hj]
end
end Go.Sl
namespace Go.Sl
open Go
set_option linter.unusedVariables false
universe u
section
variable {P : Program} {r : Option Nat} {n : Nat} {Q : PostT} {ρ : Env} {ds : List Deferred} {H R A F Pre : HP} {all rest : List Oper} {d : Option Nat} {t : TypeId} {pos : String} {aft : Array Edge} {ts : Array TypeId} {f : FuncId} {v : Value}
structure FnD (P : Program) (f : FuncId) (args : List Value) (Pre post : HP) : Prop where
  enters : ∀ (args : Array Value) (w : World), (callFunc f args).run P w = .ok (.enter f args) w
  calls : ∀ g F w u, St g w (Pre * F) → CallsDIn (fen none) (0 - 1) P f args.toArray u w (fun e u' w' => u' = u ∧ ∃ v, e = .returned v ∧ St g w' (post * F))
def retD (P : Program) (fn : Func) (post F : HP) : PostT := fun e ρ ds H => (e = .normal ∨ e = .ret) ∧ ds = [] ∧ (∃ v, Res P fn ρ H v) ∧ Ent H (post * F)
theorem retD_n {fn : Func} {post : HP} (h : fn.results = #[]) (hH : Ent H (post * F)) : retD P fn post F .normal ρ [] H := ⟨.inl rfl, rfl, ⟨_, res0 h⟩, hH⟩
theorem FnD.of {fn : Func} {c : Code} {args : List Value} {post : HP}
    (hf : P.funcs[f]? = some fn) (hb : fn.body = some c) (hname : (fn.name == "runtime.NumGoroutine") = false) (hn : fn.ntmps = n) (hlen : Nat.ble args.length n = true)
    (h : ∀ F, Cw P none n c (retD P fn post F) (argsE 0 args) [] (Pre * F)) : FnD P f args Pre post := by
  have hname' : ¬ fn.name = "runtime.NumGoroutine" := by simpa using hname
  refine ⟨fun args w => by simp [callFunc, hf, hname', hb], fun g F w u hs => ?_⟩
  have hlen' : args.length ≤ n := Nat.le_of_ble_eq_true hlen
  refine callsDIn_of_wp hf hb trivial ?_ rfl
  have hrep : Rep n (argsE 0 args) { tmps := args.toArray ++ Array.replicate (fn.ntmps - args.toArray.size) undef, defers := [] } := by
    refine ⟨by simp [hn]; omega, fun j v hj => ?_⟩
    obtain ⟨_, h2⟩ := argsE_spec args 0 j v hj
    simp at h2
    have hlt : j < args.length := (List.getElem?_eq_some_iff.1 h2).1
    simp only [Array.getElem?_append, List.size_toArray, hlt, if_true, List.getElem?_toArray]
    exact h2
  refine wpIn_mono (h F g w _ hrep rfl hs) ?_
  rintro e a w' ⟨ρ', H', hr, hs', he, hd, ⟨v, hv⟩, hH⟩
  rcases he with rfl | rfl
  · exact ⟨hd, v, hv n g w' a hr hs', v, rfl, hs'.mono hH⟩
  · exact ⟨hd, v, hv n g w' a hr hs', v, rfl, hs'.mono hH⟩
def LeaveD (P : Program) (fn : Func) {β : Type u} (val : β → Value) (post : β → HP) (F : HP) (ρ : Env) : List Deferred → HP → Prop
  | [], H => ∃ b, Res P fn ρ H (val b) ∧ Ent H (post b * F)
  | d :: ds, H => ∃ (f : FuncId) (args : List Value) (Pre post' R : HP), d = ⟨.fn (.func f) #[], args.toArray⟩ ∧ FnD P f args Pre post' ∧ Ent H (Pre * R) ∧ LeaveD P fn val post F ρ ds (post' * R)
def retQD (P : Program) (fn : Func) {β : Type u} (val : β → Value) (post : β → HP) (F : HP) : PostT := fun e ρ ds H => (e = .normal ∨ e = .ret) ∧ LeaveD P fn val post F ρ ds H
theorem LeaveD.cons {fn : Func} {β : Type u} {val : β → Value} {post : β → HP} {args : List Value} {post' : HP} (hf : FnD P f args Pre post') (hp : Ent H (Pre * R)) (h : LeaveD P fn val post F ρ ds (post' * R)) : LeaveD P fn val post F ρ (⟨.fn (.func f) #[], args.toArray⟩ :: ds) H :=
  ⟨f, args, Pre, post', R, rfl, hf, hp, h⟩
theorem LeaveD.nil {fn : Func} {β : Type u} {val : β → Value} {post : β → HP} (w : β) (hres : Res P fn ρ H (val w)) (hH : Ent H (post w * F)) : LeaveD P fn val post F ρ [] H := ⟨w, hres, hH⟩
theorem leaveD_steps {fn : Func} {β : Type u} {val : β → Value} {post : β → HP} {F : HP} {g : Gh} {a : Act} (hr : Rep n ρ a) : ∀ (ds : List Deferred) (H : HP) (w : World), St g w H → LeaveD P fn val post F ρ ds H →
    LeavesInM (fen none) 0 P fn a.tmps (fun e w' => ∃ b, e = .returned (val b) ∧ St g w' (post b * F)) ds .returning w
  | [], H, w, hs, ⟨b, h1, h2⟩ => ⟨_, h1 n g w a hr hs, b, rfl, hs.mono h2⟩
  | d :: ds, H, w, hs, ⟨f, args, Pre, post', R, h1, h2, h3, h4⟩ => by
    subst h1
    refine ⟨by simp, .inr ⟨fun h => by simp [fen, Fence.wide] at h, .func f, #[], f, args.toArray, rfl, ?_, fun g' hg' => trivial, ?_⟩⟩
    · simp [invoke, go_sem, h2.enters]
    · refine (h2.calls g R w .returning (hs.mono h3)).mono ?_
      rintro e u' w' ⟨rfl, v, rfl, hs'⟩
      exact leaveD_steps hr ds _ _ hs' h4
theorem Fn.ofD {f : FuncId} {fn : Func} {c : Code} {args : List Value} {β : Type u} {val : β → Value} {post : β → HP}
    (hf : P.funcs[f]? = some fn) (hb : fn.body = some c) (hname : (fn.name == "runtime.NumGoroutine") = false) (hn : fn.ntmps = n) (hlen : Nat.ble args.length n = true)
    (h : ∀ F, Cw P none n c (retQD P fn val post F) (argsE 0 args) [] (Pre * F)) : Fn P f args Pre β val post := by
  have hname' : ¬ fn.name = "runtime.NumGoroutine" := by simpa using hname
  refine ⟨fun args w => by simp [callFunc, hf, hname', hb], fun g F w hs => ?_⟩
  have hlen' : args.length ≤ n := Nat.le_of_ble_eq_true hlen
  refine (callsIn_wide (n := 0)).1 (callsIn_of_wp_marks hf hb trivial ?_ rfl)
  have hrep : Rep n (argsE 0 args) { tmps := args.toArray ++ Array.replicate (fn.ntmps - args.toArray.size) undef, defers := [] } := by
    refine ⟨by simp [hn]; omega, fun j v hj => ?_⟩
    obtain ⟨_, h2⟩ := argsE_spec args 0 j v hj
    simp at h2
    have hlt : j < args.length := (List.getElem?_eq_some_iff.1 h2).1
    simp only [Array.getElem?_append, List.size_toArray, hlt, if_true, List.getElem?_toArray]
    exact h2
  refine wpIn_mono (h F g w _ hrep rfl hs) ?_
  rintro e a w' ⟨ρ', H', hr, hs', he, hl⟩
  rcases he with rfl | rfl
  · exact leaveD_steps hr _ _ _ hs' hl
  · exact leaveD_steps hr _ _ _ hs' hl
theorem Ow.defer {xs : List Operand} {vs : List Value} (hd : dOk n d = true) (hxs : Evs ρ xs vs) (h : Ow P none n all rest Q (putE d undef ρ) (⟨.fn (.func f) #[], vs.toArray⟩ :: ds) H) :
    Ow P none n all (⟨d, .defer { callee := .value (.func f), args := xs.toArray, argTypes := ts }, t, pos, aft, none⟩ :: rest) Q ρ ds H := by
  intro g w a hr hds hs
  simp only [wpListIn, Region.wanted, if_true, Oper.wpIn]
  refine ⟨fun _ _ => trivial, ?_⟩
  have he : ((⟨d, .defer { callee := .value (.func f), args := xs.toArray, argTypes := ts }, t, pos, aft, none⟩ : Oper).semAt (fen none).round a.eval).run P w = .ok (.defer ⟨.fn (.func f) #[], vs.toArray⟩) w := by
    simp [Oper.semAt, fen, Fence.wide, execOp, resolve, Act.eval, Evs.eval hr hxs, Deferred.ofValue]
  rw [he, Oper.uponIn_defer]
  exact h g w _ (by have := hr.putE hd undef; cases d <;> exact this) (by cases d <;> simp [Act.put, hds]) hs
theorem Ow.ext_ex {xs : List Operand} {vs : List Value} {α : Type u} {val : α → Value} {H' : α → HP} (hd : dOk n d = true) (hxs : Evs ρ xs vs)
    (hrun : ∀ g w, St g w H → ∃ q w', (callFunc f vs.toArray).run P w = .ok (.value (val q)) w' ∧ St g w' (H' q))
    (h : ∀ q, Ow P r n all rest Q (putE d (val q) ρ) ds (H' q)) : Ow P r n all (⟨d, .call { callee := .value (.func f), args := xs.toArray, argTypes := ts }, t, pos, aft, none⟩ :: rest) Q ρ ds H :=
  Ow.value_ex hd (by simp) (fun g w a hr hs => by
    obtain ⟨q, w', h1, h2⟩ := hrun g w hs
    refine ⟨q, w', ?_, h2⟩
    simp [execOp, resolve, Act.eval, Evs.eval hr hxs, Deferred.ofValue, invoke, h1]) h
class Ext (P : Program) (f : FuncId) (e : outParam (Array Value → Sem Value)) : Prop where
  h : ∃ fn, P.funcs[f]? = some fn ∧ (fn.name == "runtime.NumGoroutine") = false ∧ fn.body.isNone = true ∧ Extern.findNext fn = none ∧ Extern.find fn = some e
theorem Ow.aload {k : IntKind} {x : Operand} {a : Addr} {z : Int} [E : Ext P f (Extern.Atomic.loadT (.int k))] (hd : dOk n d = true) (hx : ev ρ x = some (.pointer (some a))) (hp : Pk H A R) (hr : RdA A a (.int k z))
    (h : Ow P r n all rest Q (putE d (.int k z) ρ) ds H) : Ow P r n all (⟨d, .call { callee := .value (.func f), args := #[x], argTypes := ts }, t, pos, aft, none⟩ :: rest) Q ρ ds H :=
  Ow.ext_ex (xs := [x]) (vs := [.pointer (some a)]) (α := Unit) (val := fun _ => .int k z) (H' := fun _ => H) hd ⟨hx, trivial⟩ (fun g w hs => by
    obtain ⟨fn, h1, h2, h3, h4, h5⟩ := E.h
    exact ⟨(), w, run_call_load h1 h2 h3 h4 k h5 (hs.cell hp hr), hs⟩) (fun _ => h)
theorem Ow.astore {k : IntKind} {x y : Operand} {a : Addr} {z : Int} {A' : HP} [E : Ext P f Extern.Atomic.storeT] (hd : dOk n d = true) (hx : ev ρ x = some (.pointer (some a))) (hy : ev ρ y = some (.int k z)) (hp : Pk H A R) (hw : WrA A a (.int k z) A')
    (h : Ow P r n all rest Q (putE d (.tuple #[]) ρ) ds (A' * R)) : Ow P r n all (⟨d, .call { callee := .value (.func f), args := #[x, y], argTypes := ts }, t, pos, aft, none⟩ :: rest) Q ρ ds H :=
  Ow.ext_ex (xs := [x, y]) (vs := [.pointer (some a), .int k z]) (α := Unit) (val := fun _ => .tuple #[]) (H' := fun _ => A' * R) hd ⟨hx, hy, trivial⟩ (fun g w hs => by
    obtain ⟨fn, h1, h2, h3, h4, h5⟩ := E.h
    unfold Pk at hp; subst hp
    obtain ⟨⟨u0, hu0⟩, hf, hs'⟩ := hs.store hw
    exact ⟨(), _, run_call_store h1 h2 h3 h4 h5 hu0 hf, hs'⟩) (fun _ => h)
theorem run_call_bits {P : Program} {f : FuncId} {fn : Func} {op : BinOp} (hf : P.funcs[f]? = some fn) (hname : (fn.name == "runtime.NumGoroutine") = false) (hb : fn.body.isNone = true) (hn : Extern.findNext fn = none) (k : IntKind) (nw : Bool) {o : IntKind → Int → Int → Sem Value}
    (he : Extern.find fn = some (Extern.Atomic.update o k nw)) {a : Addr} {x y s : Int} {w : World} (hc : w.cell? a = some (.int k x)) (hz : w.frozen? a = false)
    (hs : (o k x y).run P w = .ok (.int k s) w) :
    (callFunc f #[.pointer (some a), .int k y]).run P w = .ok (.value (.int k (if nw then s else x))) (w.setCell a (.int k s)) := by
  rw [run_callFunc_extern hf hname hb hn he]
  change (Sem.run P (do
    let a' ← asAddr (.pointer (some a))
    let old ← Extern.Atomic.read (.int k) a'
    let new ← o k (← asInt old) (← asInt (.int k y))
    store a' new .atomic
    pure (if nw then new else old)) w).andThen _ = _
  cases nw <;> simp [Extern.Atomic.read, asAddr, asInt, asIntOf, hc, hz, hs, run_store P w a (.int k s) .atomic rfl, Result.andThen]
theorem Ow.aupd {k : IntKind} {x y : Operand} {a : Addr} {z b s : Int} {A' : HP} {o : IntKind → Int → Int → Sem Value} {nw : Bool} [E : Ext P f (Extern.Atomic.update o k nw)] (hd : dOk n d = true) (hx : ev ρ x = some (.pointer (some a))) (hy : ev ρ y = some (.int k b)) (hp : Pk H A R) (hr : RdA A a (.int k z))
    (hs : ∀ w : World, (o k z b).run P w = .ok (.int k s) w) (hw : WrA A a (.int k s) A')
    (h : Ow P r n all rest Q (putE d (.int k (if nw then s else z)) ρ) ds (A' * R)) : Ow P r n all (⟨d, .call { callee := .value (.func f), args := #[x, y], argTypes := ts }, t, pos, aft, none⟩ :: rest) Q ρ ds H :=
  Ow.ext_ex (xs := [x, y]) (vs := [.pointer (some a), .int k b]) (α := Unit) (val := fun _ => .int k (if nw then s else z)) (H' := fun _ => A' * R) hd ⟨hx, hy, trivial⟩ (fun g w hs0 => by
    obtain ⟨fn, h1, h2, h3, h4, h5⟩ := E.h
    unfold Pk at hp; subst hp
    obtain ⟨⟨u0, hu0⟩, hf, hs'⟩ := hs0.store hw
    exact ⟨(), _, run_call_bits (op := .and) h1 h2 h3 h4 k nw h5 (hs0.cell pk0 hr) hf (hs w), hs'⟩) (fun _ => h)
theorem Ow.acas {k : IntKind} {x y y' : Operand} {a : Addr} {z s : Int} {A' : HP} [E : Ext P f (Extern.Atomic.casT (.int k))] (hd : dOk n d = true) (hx : ev ρ x = some (.pointer (some a))) (hy : ev ρ y = some (.int k z)) (hy' : ev ρ y' = some (.int k s)) (hp : Pk H A R) (hr : RdA A a (.int k z)) (hw : WrA A a (.int k s) A')
    (h : Ow P r n all rest Q (putE d (.bool true) ρ) ds (A' * R)) : Ow P r n all (⟨d, .call { callee := .value (.func f), args := #[x, y, y'], argTypes := ts }, t, pos, aft, none⟩ :: rest) Q ρ ds H :=
  Ow.ext_ex (xs := [x, y, y']) (vs := [.pointer (some a), .int k z, .int k s]) (α := Unit) (val := fun _ => .bool true) (H' := fun _ => A' * R) hd ⟨hx, hy, hy', trivial⟩ (fun g w hs0 => by
    obtain ⟨fn, h1, h2, h3, h4, h5⟩ := E.h
    unfold Pk at hp; subst hp
    obtain ⟨⟨u0, hu0⟩, hf, hs'⟩ := hs0.store hw
    exact ⟨(), _, run_call_cas_hit h1 h2 h3 h4 k h5 (hs0.cell pk0 hr) hf, hs'⟩) (fun _ => h)
theorem Ow.mark0 {m : Mark} [E : Ext P f (fun _ => do mark m; pure Extern.Race.none_)] (hd : dOk n d = true)
    (h : Ow P r n all rest Q (putE d (.tuple #[]) ρ) ds H) : Ow P r n all (⟨d, .call { callee := .value (.func f), args := #[], argTypes := ts }, t, pos, aft, none⟩ :: rest) Q ρ ds H :=
  Ow.ext_ex (xs := []) (vs := []) (α := Unit) (val := fun _ => .tuple #[]) (H' := fun _ => H) hd trivial (fun g w hs0 => by
    obtain ⟨fn, h1, h2, h3, h4, h5⟩ := E.h
    exact ⟨(), _, run_call_mark0 h1 h2 h3 h4 m h5 w, hs0⟩) (fun _ => h)
theorem Ow.marked {m : Addr → Mark} {x : Operand} {a : Addr} [E : Ext P f (Extern.Race.marked m)] (hd : dOk n d = true) (hx : ev ρ x = some (.pointer (some a)))
    (h : Ow P r n all rest Q (putE d (.tuple #[]) ρ) ds H) : Ow P r n all (⟨d, .call { callee := .value (.func f), args := #[x], argTypes := ts }, t, pos, aft, none⟩ :: rest) Q ρ ds H :=
  Ow.ext_ex (xs := [x]) (vs := [.pointer (some a)]) (α := Unit) (val := fun _ => .tuple #[]) (H' := fun _ => H) hd ⟨hx, trivial⟩ (fun g w hs0 => by
    obtain ⟨fn, h1, h2, h3, h4, h5⟩ := E.h
    exact ⟨(), _, run_call_marked h1 h2 h3 h4 m h5 a w, hs0⟩) (fun _ => h)
theorem Pu.unsafeP {src dst t' : TypeId} {x : Operand} {a : Addr} {z : Value} {tt : TypeId} [T1 : TyU P src (.pointer t')] [T2 : TyU P dst .unsafePointer] (hsz : (P.info? t').map (fun i => decide (i.size = 0)) = some false)
    (hx : ev ρ x = some (.pointer (some a))) (hp : Pk H A R) (hr : RdA A a z) : Pu P n ρ H (.convert src dst x) tt (.pointer (some a)) :=
  Pu.mks (by simp) (fun w a' hrp hs => by
    have := run_convert_to_unsafe (P := P) T1.h T2.h hsz (hs.cell hp hr)
    simp [execOp, ev_eval hrp hx, this])
theorem Ow.aload_cl {k : IntKind} {x : Operand} {b o : Nat} {cs : List Value} {z : Int} [E : Ext P f (Extern.Atomic.loadT (.int k))] (hd : dOk n d = true) (hx : ev ρ x = some (.pointer (some ⟨b, o, none⟩))) (hp : Pk H (cl b cs) R) (ho : cs[o]? = some (.int k z))
    (h : Ow P r n all rest Q (putE d (.int k z) ρ) ds H) : Ow P r n all (⟨d, .call { callee := .value (.func f), args := #[x], argTypes := ts }, t, pos, aft, none⟩ :: rest) Q ρ ds H := Ow.aload hd hx hp (rd_cl ho) h
theorem Ow.astore_cl {k : IntKind} {x y : Operand} {b o : Nat} {cs : List Value} {z : Int} [E : Ext P f Extern.Atomic.storeT] (hd : dOk n d = true) (hx : ev ρ x = some (.pointer (some ⟨b, o, none⟩))) (hy : ev ρ y = some (.int k z)) (hp : Pk H (cl b cs) R) (hw : Nat.blt o cs.length = true)
    (h : Ow P r n all rest Q (putE d (.tuple #[]) ρ) ds (cl b (cs.set o (.int k z)) * R)) : Ow P r n all (⟨d, .call { callee := .value (.func f), args := #[x, y], argTypes := ts }, t, pos, aft, none⟩ :: rest) Q ρ ds H := Ow.astore hd hx hy hp (wr_cl (Nat.le_of_ble_eq_true hw)) h
theorem Ow.aupd_cl {k : IntKind} {x y : Operand} {b' o : Nat} {cs : List Value} {z b s : Int} {op : IntKind → Int → Int → Sem Value} {nw : Bool} [E : Ext P f (Extern.Atomic.update op k nw)] (hd : dOk n d = true) (hx : ev ρ x = some (.pointer (some ⟨b', o, none⟩))) (hy : ev ρ y = some (.int k b)) (hp : Pk H (cl b' cs) R) (ho : cs[o]? = some (.int k z))
    (hs : ∀ w : World, (op k z b).run P w = .ok (.int k s) w) (hw : Nat.blt o cs.length = true)
    (h : Ow P r n all rest Q (putE d (.int k (if nw then s else z)) ρ) ds (cl b' (cs.set o (.int k s)) * R)) : Ow P r n all (⟨d, .call { callee := .value (.func f), args := #[x, y], argTypes := ts }, t, pos, aft, none⟩ :: rest) Q ρ ds H := Ow.aupd hd hx hy hp (rd_cl ho) hs (wr_cl (Nat.le_of_ble_eq_true hw)) h
theorem Ow.acas_cl {k : IntKind} {x y y' : Operand} {b o : Nat} {cs : List Value} {z s : Int} [E : Ext P f (Extern.Atomic.casT (.int k))] (hd : dOk n d = true) (hx : ev ρ x = some (.pointer (some ⟨b, o, none⟩))) (hy : ev ρ y = some (.int k z)) (hy' : ev ρ y' = some (.int k s)) (hp : Pk H (cl b cs) R) (ho : cs[o]? = some (.int k z)) (hw : Nat.blt o cs.length = true)
    (h : Ow P r n all rest Q (putE d (.bool true) ρ) ds (cl b (cs.set o (.int k s)) * R)) : Ow P r n all (⟨d, .call { callee := .value (.func f), args := #[x, y, y'], argTypes := ts }, t, pos, aft, none⟩ :: rest) Q ρ ds H := Ow.acas hd hx hy hy' hp (rd_cl ho) (wr_cl (Nat.le_of_ble_eq_true hw)) h
theorem Pu.unsafe_cl {src dst t' : TypeId} {x : Operand} {b o : Nat} {cs : List Value} {z : Value} {tt : TypeId} [T1 : TyU P src (.pointer t')] [T2 : TyU P dst .unsafePointer] (hsz : (P.info? t').map (fun i => decide (i.size = 0)) = some false)
    (hx : ev ρ x = some (.pointer (some ⟨b, o, none⟩))) (hp : Pk H (cl b cs) R) (ho : cs[o]? = some z) : Pu P n ρ H (.convert src dst x) tt (.pointer (some ⟨b, o, none⟩)) := Pu.unsafeP hsz hx hp (rd_cl ho)
end
end Go.Sl
namespace Go.Sl
open Go Go.Proofs
instance : Ext Tryd.prog 55 (Extern.Atomic.loadT (.int .u64)) := ⟨⟨Tryd.f55, Tryd.func55, by kernel_rfl, by kernel_rfl, by kernel_rfl, by kernel_rfl⟩⟩
instance : Ext Tryd.prog 69 (Extern.Atomic.update (Op.intBits .or) .u64 false) := ⟨⟨Tryd.f69, Tryd.func69, by kernel_rfl, by kernel_rfl, by kernel_rfl, by kernel_rfl⟩⟩
instance : Ext Tryd.prog 73 (Extern.Atomic.loadT (.int .u32)) := ⟨⟨Tryd.f73, Tryd.func73, by kernel_rfl, by kernel_rfl, by kernel_rfl, by kernel_rfl⟩⟩
instance : Ext Tryd.prog 79 (Extern.Atomic.storeT) := ⟨⟨Tryd.f79, Tryd.func79, by kernel_rfl, by kernel_rfl, by kernel_rfl, by kernel_rfl⟩⟩
instance : Ext Tryd.prog 81 (fun _ => do mark .disable; pure Extern.Race.none_) := ⟨⟨Tryd.f81, Tryd.func81, by kernel_rfl, by kernel_rfl, by kernel_rfl, by kernel_rfl⟩⟩
instance : Ext Tryd.prog 82 (Extern.Atomic.casT (.int .i32)) := ⟨⟨Tryd.f82, Tryd.func82, by kernel_rfl, by kernel_rfl, by kernel_rfl, by kernel_rfl⟩⟩
instance : Ext Tryd.prog 83 (fun _ => do mark .enable; pure Extern.Race.none_) := ⟨⟨Tryd.f83, Tryd.func83, by kernel_rfl, by kernel_rfl, by kernel_rfl, by kernel_rfl⟩⟩
instance : Ext Tryd.prog 84 (Extern.Race.marked .acquire) := ⟨⟨Tryd.f84, Tryd.func84, by kernel_rfl, by kernel_rfl, by kernel_rfl, by kernel_rfl⟩⟩
instance : Ext Tryd.prog 86 (Extern.Race.marked .releaseMerge) := ⟨⟨Tryd.f86, Tryd.func86, by kernel_rfl, by kernel_rfl, by kernel_rfl, by kernel_rfl⟩⟩
instance : Ext Tryd.prog 87 (Extern.Atomic.update (Op.intArith .add) .i32 true) := ⟨⟨Tryd.f87, Tryd.func87, by kernel_rfl, by kernel_rfl, by kernel_rfl, by kernel_rfl⟩⟩
end Go.Sl
namespace Go.Sl
open Go Go.Proofs
set_option linter.unusedVariables false
set_option linter.unusedSimpArgs false
theorem Pu.quo_pe {P : Program} {n : Nat} {ρ : Env} {H : HP} {t t' t'' : TypeId} {x y : Operand} {a b c : Int} (hx : ev ρ x = some (.int .i64 a)) (hy : ev ρ y = some (.int .i64 b)) (hb : 0 ≤ a ∧ a ≤ 9223372036854775807 ∧ 0 < b) (hc : a / b = c) : Pu P n ρ H (.binOp .quo t x y t') t'' (.int .i64 c) := hc ▸ Pu.quo_i hx hy hb
attribute [local irreducible] star Ow Cw Pk Pu Dw thenQ blockQ retQ loudQ Cr retD retQD
variable (b : Nat) (c0 c1 c3 c4 : Value)
theorem ILock_fn : Fn Tryd.prog 77 [.pointer (some ⟨b, 2, none⟩)] (cl b [c0, c1, .int .i32 0, c3, c4]) Unit (fun _ => .tuple #[]) (fun _ => cl b [c0, c1, .int .i32 1, c3, c4]) := by
  (refine Fn.of Tryd.func77 rfl (by kernel_rfl) Tryd.ntmps77 rfl (fun F => ?_))
  (repeat' (first | (refine Ow.is ?_; (first | refine Ow.nil ?_ | refine Ow.pu rfl (Pu.move rfl) ?_ | refine Ow.pu rfl (Pu.fld rfl) ?_ | refine Ow.pu rfl (Pu.nilCheck rfl) ?_ | (refine Ow.kCall ?_; (first | refine Ow.acas_cl rfl rfl rfl rfl pkA rfl rfl ?_ | refine Ow.marked rfl rfl ?_ | refine Ow.mark0 rfl ?_ | fail)) | (refine Ow.kConv ?_; (first | refine Ow.pu rfl (Pu.unsafe_cl (by kernel_rfl) rfl pkA rfl) ?_)))) | (refine Cw.is ?_; (first | refine Cw.seq ?_ | refine Cw.region ?_ | refine Cw.cond_t rfl rfl ?_ | refine Cw.ret ?_)) | (first | refine thenQ_n ?_ | refine thenQ_r ?_)))
  refine retQ_r () (res0 Tryd.results77) ?_; ((try simp only [star_assoc]); (repeat (apply Ent.pk; exact pkA)); first | exact Ent.fin pkA | exact Ent.refl _)
theorem IUnlock_fn : Fn Tryd.prog 78 [.pointer (some ⟨b, 2, none⟩)] (cl b [c0, c1, .int .i32 1, c3, c4]) Unit (fun _ => .tuple #[]) (fun _ => cl b [c0, c1, .int .i32 0, c3, c4]) := by
  (refine Fn.of Tryd.func78 rfl (by kernel_rfl) Tryd.ntmps78 rfl (fun F => ?_))
  (repeat' (first | (refine Ow.is ?_; (first | refine Ow.nil ?_ | refine Ow.pu rfl (Pu.move rfl) ?_ | refine Ow.pu rfl (Pu.assign rfl) ?_ | refine Ow.pu rfl (Pu.fld rfl) ?_ | refine Ow.pu rfl (Pu.nilCheck rfl) ?_ | (refine Ow.kLoad ?_; (first | refine Ow.pu rfl (Pu.load_cl rfl pkA rfl) ?_)) | (refine Ow.kBin ?_; (first | (refine Ow.b_neq ?_; (first | refine Ow.pu rfl (Pu.ne_f rfl rfl roA) ?_)))) | (refine Ow.kCall ?_; (first | refine Ow.aupd_cl (s := 0) rfl rfl rfl pkA rfl (fun w => rfl) rfl ?_ | refine Ow.marked rfl rfl ?_ | refine Ow.mark0 rfl ?_ | fail)) | (refine Ow.kConv ?_; (first | refine Ow.pu rfl (Pu.unsafe_cl (by kernel_rfl) rfl pkA rfl) ?_)))) | (refine Cw.is ?_; (first | refine Cw.seq ?_ | refine Cw.region ?_ | refine Cw.cond_t rfl rfl ?_ | refine Cw.cond_f rfl rfl ?_ | refine Cw.skip ?_)) | (first | refine thenQ_n ?_)))
  refine retQ_n () (res0 Tryd.results78) ?_; ((try simp only [star_assoc]); (repeat (apply Ent.pk; exact pkA)); first | exact Ent.fin pkA | exact Ent.refl _)
theorem Lock_fn : Fn Tryd.prog 74 [.pointer (some ⟨b, 2, none⟩)] (cl b [c0, c1, .int .i32 0, c3, c4]) Unit (fun _ => .tuple #[]) (fun _ => cl b [c0, c1, .int .i32 1, c3, c4]) := by
  (refine Fn.of Tryd.func74 rfl (by kernel_rfl) Tryd.ntmps74 rfl (fun F => ?_))
  (repeat' (first | (refine Ow.is ?_; (first | refine Ow.nil ?_ | refine Ow.pu rfl (Pu.move rfl) ?_ | refine Ow.pu rfl (Pu.fld rfl) ?_ | refine Ow.pu rfl (Pu.nilCheck rfl) ?_ | (refine Ow.kCall ?_; (first | refine Ow.callE evA pkA rfl (ILock_fn _ _ _ _ _) (fun _ => ?_) | fail)))) | (refine Cw.is ?_; (first | refine Cw.region ?_)) | (first | fail)))
  refine retQ_n () (res0 Tryd.results74) ?_; ((try simp only [star_assoc]); (repeat (apply Ent.pk; exact pkA)); first | exact Ent.fin pkA | exact Ent.refl _)
theorem Unlock_d : FnD Tryd.prog 75 [.pointer (some ⟨b, 2, none⟩)] (cl b [c0, c1, .int .i32 1, c3, c4]) (cl b [c0, c1, .int .i32 0, c3, c4]) := by
  (refine FnD.of Tryd.func75 rfl (by kernel_rfl) Tryd.ntmps75 rfl (fun F => ?_))
  (repeat' (first | (refine Ow.is ?_; (first | refine Ow.nil ?_ | refine Ow.pu rfl (Pu.move rfl) ?_ | refine Ow.pu rfl (Pu.fld rfl) ?_ | refine Ow.pu rfl (Pu.nilCheck rfl) ?_ | (refine Ow.kCall ?_; (first | refine Ow.callE evA pkA rfl (IUnlock_fn _ _ _ _ _) (fun _ => ?_) | fail)))) | (refine Cw.is ?_; (first | refine Cw.region ?_)) | (first | fail)))
  refine retD_n Tryd.results75 ?_; ((try simp only [star_assoc]); (repeat (apply Ent.pk; exact pkA)); first | exact Ent.fin pkA | exact Ent.refl _)
theorem b32_fn : Fn Tryd.prog 80 [.bool true] emp Unit (fun _ => .int .u32 1) (fun _ => emp) := by
  (refine Fn.of Tryd.func80 rfl (by kernel_rfl) Tryd.ntmps80 rfl (fun F => ?_))
  refine Cw.heq (emp_star F) ?_
  (repeat' (first | (refine Ow.is ?_; (first | refine Ow.nil ?_ | refine Ow.pu rfl (Pu.move rfl) ?_ | refine Ow.pu rfl (Pu.assign rfl) ?_)) | (refine Cw.is ?_; (first | refine Cw.seq ?_ | refine Cw.region ?_ | refine Cw.cond_t rfl rfl ?_ | refine Cw.ret ?_)) | (first | refine thenQ_n ?_ | refine thenQ_r ?_)))
  refine retQ_v () Tryd.results80 rfl rfl ?_
  refine Ent.trans ?_ (Ent.of_eq (emp_star F).symm); ((try simp only [star_assoc]); (repeat (apply Ent.pk; exact pkA)); first | exact Ent.fin pkA | exact Ent.refl _)
theorem BLoad_fn (z : Int) : Fn Tryd.prog 70 [.pointer (some ⟨b, 1, none⟩)] (cl b [c0, .int .u32 z, c1, c3, c4]) Unit (fun _ => .bool (decide (¬ z = 0))) (fun _ => cl b [c0, .int .u32 z, c1, c3, c4]) := by
  (refine Fn.of Tryd.func70 rfl (by kernel_rfl) Tryd.ntmps70 rfl (fun F => ?_))
  (repeat' (first | (refine Ow.is ?_; (first | refine Ow.nil ?_ | refine Ow.pu rfl (Pu.move rfl) ?_ | refine Ow.pu rfl (Pu.assign rfl) ?_ | refine Ow.pu rfl (Pu.fld rfl) ?_ | refine Ow.pu rfl (Pu.nilCheck rfl) ?_ | (refine Ow.kBin ?_; (first | (refine Ow.b_neq ?_; (first | refine Ow.sp rfl (by exact Pu.neI rfl rfl) (fun hc => ?_) (fun hc => ?_))))) | (refine Ow.kCall ?_; (first | refine Ow.aload_cl rfl rfl pkA rfl ?_ | fail)))) | (refine Cw.is ?_; (first | refine Cw.seq ?_ | refine Cw.region ?_ | refine Cw.ret ?_)) | (first | refine thenQ_n ?_)))
  all_goals (refine retQ_v () Tryd.results70 rfl ?_ ?_; (first | exact congrArg Value.bool (decide_eq_true (by assumption)).symm | exact congrArg Value.bool (decide_eq_false (by omega)).symm); ((try simp only [star_assoc]); (repeat (apply Ent.pk; exact pkA)); first | exact Ent.fin pkA | exact Ent.refl _))
theorem BStore_d : FnD Tryd.prog 76 [.pointer (some ⟨b, 1, none⟩), .bool true] (cl b [c0, .int .u32 0, c1, c3, c4]) (cl b [c0, .int .u32 1, c1, c3, c4]) := by
  (refine FnD.of Tryd.func76 rfl (by kernel_rfl) Tryd.ntmps76 rfl (fun F => ?_))
  (refine Cw.draw1 (cl b [c0, .int .u32 0, c1, c3, c4]) true 5 [(0, false), (1, false), (2, false), (3, false), (4, true), (5, true)] pkA mixed (by kernel_rfl) ?_; (repeat (first | refine Dw.q rfl rfl trivial (by (first | exact Pu.move rfl | exact Pu.fld rfl | exact Pu.nilCheck rfl)) ?_ | refine Dw.q rfl rfl ⟨_, _, rfl, rfl, rfl⟩ (by (first | exact Pu.move rfl | exact Pu.fld rfl | exact Pu.nilCheck rfl)) ?_)); refine Dw.l rfl (by first | exact trivial | exact ⟨_, _, rfl, rfl, rfl⟩) ?_; refine Ow.callE0 evA rfl b32_fn (fun _ => Ow.unemp ?_); refine Ow.nil ?_; refine loudQ.go pkA ?_; refine Dw.l rfl (by first | exact trivial | exact ⟨_, _, rfl, rfl, rfl⟩) ?_; refine Ow.astore_cl rfl rfl rfl pkA rfl ?_; refine Ow.nil ?_; refine loudQ.last ?_)
  (repeat' (first | (first | fail)))
  refine retD_n Tryd.results76 ?_; ((try simp only [star_assoc]); (repeat (apply Ent.pk; exact pkA)); first | exact Ent.fin pkA | exact Ent.refl _)
theorem pkTw {A B H R R2 : HP} (h : Pk H A R) (h2 : Pk R B R2) : Pk H (A * B) R2 := by unfold Pk at *; rw [h, h2, star_assoc]
theorem LeaveD.consP {P : Program} {fn : Func} {β : Type} {val : β → Value} {post : β → HP} {f : FuncId} {args : List Value} {Pre post' H R F : HP} {ρ : Env} {ds : List Deferred} (hf : FnD P f args Pre post') (hp : Pk H Pre R) (h : LeaveD P fn val post F ρ ds (post' * R)) : LeaveD P fn val post F ρ (⟨.fn (.func f) #[], args.toArray⟩ :: ds) H := by unfold Pk at hp; exact LeaveD.cons hf (Ent.of_eq hp) h
theorem retQD_mk {P : Program} {fn : Func} {β : Type} {val : β → Value} {post : β → HP} {F H : HP} {ρ : Env} {ds : List Deferred} {ex : Exit} (he : ex = .normal ∨ ex = .ret) (h : LeaveD P fn val post F ρ ds H) : retQD P fn val post F ex ρ ds H := by unfold retQD; exact ⟨he, h⟩
theorem Ow.assoc3 {P : Program} {r : Option Nat} {n : Nat} {Q : PostT} {ρ : Env} {ds : List Deferred} {all l : List Oper} {A B C R : HP} (h : Ow P r n all l Q ρ ds (A * (B * (C * R)))) : Ow P r n all l Q ρ ds (A * (B * C) * R) := Ow.heq (by rw [star_assoc, star_assoc]) h
abbrev w0 : Value := .int .u64 0
theorem words1_fn (bx n m : Nat) (hq : ((n : Int) + 63) / 64 = (m : Int)) (hn : n ≤ 1000000) : Fn Tryd.prog 57 [.pointer (some ⟨bx, 0, none⟩)] (cl bx [.pointer (some ⟨b, 0, none⟩)] * cl b [vi n, c0, c1, c3, .slice none 0 0]) SV (fun _ => .tuple #[])
    (fun v => cl bx [.pointer (some ⟨b, 0, none⟩)] * (cl b [vi n, c0, c1, c3, v.v] * slk 1 v.v (List.replicate m w0))) := by
  (refine Fn.of Tryd.func57 rfl (by kernel_rfl) Tryd.ntmps57 rfl (fun F => ?_))
  (refine Cw.heq (by simp only [star_assoc, emp_star, star_emp]; exact rfl) ?_)
  (refine Cw.draw2 (cl bx [.pointer (some ⟨b, 0, none⟩)]) (cl b [vi n, c0, c1, c3, .slice none 0 0]) true 10 [(0, false), (1, false), (2, false), (3, false), (4, false), (5, false), (6, false), (7, true), (8, false), (9, false), (10, true)] pkA pkA mixed (by kernel_rfl) ?_; (repeat (first | refine Dw.q rfl rfl trivial (by (first | exact Pu.fld rfl | exact Pu.nilCheck rfl | exact Pu.quo_pe rfl rfl (by omega) hq | (apply Pu.kLoad; (first | exact Pu.load_cl rfl pkA rfl)) | (apply Pu.kBin; (first | (apply Pu.b_add; exact Pu.add_i rfl rfl (by omega)))))) ?_ | refine Dw.q rfl rfl ⟨_, _, rfl, rfl, rfl⟩ (by (first | exact Pu.fld rfl | exact Pu.nilCheck rfl | exact Pu.quo_pe rfl rfl (by omega) hq | (apply Pu.kLoad; (first | exact Pu.load_cl rfl pkA rfl)) | (apply Pu.kBin; (first | (apply Pu.b_add; exact Pu.add_i rfl rfl (by omega)))))) ?_)); refine Dw.l rfl (by first | exact trivial | exact ⟨_, _, rfl, rfl, rfl⟩) ?_; refine Ow.makeSlice (bb := 8) (zc := [w0]) rfl rfl rfl (by omega) (by rfl) (fun gv => ?_); refine Ow.nil ?_; refine loudQ.go pkA ?_; (repeat (first | refine Dw.q rfl rfl trivial (by (first | exact Pu.fld rfl | exact Pu.nilCheck rfl | exact Pu.quo_pe rfl rfl (by omega) hq | (apply Pu.kLoad; (first | exact Pu.load_cl rfl pkA rfl)) | (apply Pu.kBin; (first | (apply Pu.b_add; exact Pu.add_i rfl rfl (by omega)))))) ?_ | refine Dw.q rfl rfl ⟨_, _, rfl, rfl, rfl⟩ (by (first | exact Pu.fld rfl | exact Pu.nilCheck rfl | exact Pu.quo_pe rfl rfl (by omega) hq | (apply Pu.kLoad; (first | exact Pu.load_cl rfl pkA rfl)) | (apply Pu.kBin; (first | (apply Pu.b_add; exact Pu.add_i rfl rfl (by omega)))))) ?_)); refine Dw.l rfl (by first | exact trivial | exact ⟨_, _, rfl, rfl, rfl⟩) ?_; (refine Ow.heq (by simp only [star_assoc, emp_star, star_emp]; exact rfl) ?_); refine Ow.store_cl rfl rfl rfl (by (first | rfl | assumption | exact Subtype.property _)) pkA rfl ?_; refine Ow.nil ?_; refine loudQ.last ?_)
  (repeat' (first | (first | fail)))
  refine retQ_n gv (res0 Tryd.results57) ?_
  rw [← rep_one]
  ((try simp only [star_assoc]); (repeat (apply Ent.pk; exact pkA)); first | exact Ent.fin pkA | exact Ent.refl _)
theorem doSlow_fn (bx n : Nat) {m : Nat} (hq : ((n : Int) + 63) / 64 = (m : Int)) (hn : n ≤ 1000000) (c3 : Value) : Fn Tryd.prog 71 [.pointer (some ⟨b, 1, none⟩), .func (.func 57) #[] #[.pointer (some ⟨bx, 0, none⟩)]] (cl bx [.pointer (some ⟨b, 0, none⟩)] * cl b [vi n, .int .u32 0, .int .i32 0, c3, .slice none 0 0]) SV (fun _ => .tuple #[])
    (fun v => cl bx [.pointer (some ⟨b, 0, none⟩)] * (cl b [vi n, .int .u32 1, .int .i32 0, c3, v.v] * slk 1 v.v (List.replicate m w0))) := by
  (refine Fn.ofD Tryd.func71 rfl (by kernel_rfl) Tryd.ntmps71 rfl (fun F => ?_))
  (refine Cw.heq (by simp only [star_assoc, emp_star, star_emp]; exact rfl) ?_)
  (repeat' (first | (refine Ow.is ?_; (first | refine Ow.defer rfl (by (repeat first | exact Evs.nil | apply Evs.cons rfl)) ?_ | refine Ow.nil ?_ | refine Ow.pu rfl (Pu.move rfl) ?_ | refine Ow.pu rfl (Pu.fld rfl) ?_ | refine Ow.pu rfl (Pu.nilCheck rfl) ?_ | (refine Ow.kUn ?_; (first | refine Ow.pu rfl (Pu.not rfl) ?_)) | (refine Ow.kCall ?_; (first | refine Ow.callE evA pkA rfl (BLoad_fn _ _ _ _ _ _) (fun _ => ?_) | refine Ow.callE evA pkA rfl (Lock_fn _ _ _ _ _) (fun _ => ?_) | fail)))) | (refine Cw.is ?_; (first | refine Cw.seq ?_ | refine Cw.region ?_ | refine Cw.cond_t rfl rfl ?_)) | (first | refine thenQ_n ?_)))
  refine Ow.callvE (vs := []) rfl evA rfl (pkTw pkA pkA) rfl (words1_fn b _ _ _ bx n m hq hn) (fun v => Ow.assoc ?_)
  (refine Ow.heq (by simp only [star_assoc, emp_star, star_emp]; exact rfl) ?_)
  (repeat' (first | (refine Ow.is ?_; (first | refine Ow.defer rfl (by (repeat first | exact Evs.nil | apply Evs.cons rfl)) ?_ | refine Ow.nil ?_ | refine Ow.pu rfl (Pu.move rfl) ?_ | refine Ow.pu rfl (Pu.fld rfl) ?_ | refine Ow.pu rfl (Pu.nilCheck rfl) ?_ | (refine Ow.kUn ?_; (first | refine Ow.pu rfl (Pu.not rfl) ?_)) | (refine Ow.kCall ?_; (first | refine Ow.callE evA pkA rfl (BLoad_fn _ _ _ _ _ _) (fun _ => ?_) | refine Ow.callE evA pkA rfl (Lock_fn _ _ _ _ _) (fun _ => ?_) | fail)))) | (refine Cw.is ?_; (first | refine Cw.seq ?_ | refine Cw.region ?_ | refine Cw.cond_t rfl rfl ?_)) | (first | refine thenQ_n ?_)))
  refine retQD_mk (.inl rfl) (LeaveD.consP (BStore_d b (vi n) (.int .i32 1) c3 v.v) pkA (LeaveD.consP (Unlock_d b (vi n) (.int .u32 1) c3 v.v) pkA (LeaveD.nil v (res0 Tryd.results71) ?_)))
  ((try simp only [star_assoc]); (repeat (apply Ent.pk; exact pkA)); first | exact Ent.fin pkA | exact Ent.refl _)
theorem Do_n (bx n : Nat) {m : Nat} (hq : ((n : Int) + 63) / 64 = (m : Int)) (hn : n ≤ 1000000) (c3 : Value) : Fn Tryd.prog 56 [.pointer (some ⟨b, 1, none⟩), .func (.func 57) #[] #[.pointer (some ⟨bx, 0, none⟩)]] (cl bx [.pointer (some ⟨b, 0, none⟩)] * cl b [vi n, .int .u32 0, .int .i32 0, c3, .slice none 0 0]) SV (fun _ => .tuple #[])
    (fun v => cl bx [.pointer (some ⟨b, 0, none⟩)] * (cl b [vi n, .int .u32 1, .int .i32 0, c3, v.v] * slk 1 v.v (List.replicate m w0))) := by
  (refine Fn.of Tryd.func56 rfl (by kernel_rfl) Tryd.ntmps56 rfl (fun F => ?_))
  (refine Cw.heq (by simp only [star_assoc, emp_star, star_emp]; exact rfl) ?_)
  (repeat' (first | (refine Ow.is ?_; (first | refine Ow.nil ?_ | refine Ow.pu rfl (Pu.move rfl) ?_ | refine Ow.pu rfl (Pu.fld rfl) ?_ | refine Ow.pu rfl (Pu.nilCheck rfl) ?_ | (refine Ow.kUn ?_; (first | refine Ow.pu rfl (Pu.not rfl) ?_)) | (refine Ow.kCall ?_; (first | refine Ow.callE evA (pkTw pkA pkA) rfl (doSlow_fn _ _ _ hq hn c3) (fun v => Ow.assoc3 ?_) | refine Ow.callE evA pkA rfl (BLoad_fn _ _ _ _ _ _) (fun _ => ?_) | fail)))) | (refine Cw.is ?_; (first | refine Cw.seq ?_ | refine Cw.region ?_ | refine Cw.cond_t rfl rfl ?_)) | (first | refine thenQ_n ?_)))
  refine retQ_n v (res0 Tryd.results56) ?_
  ((try simp only [star_assoc]); (repeat (apply Ent.pk; exact pkA)); first | exact Ent.fin pkA | exact Ent.refl _)
theorem Do_d (y : Value) : Fn Tryd.prog 56 [.pointer (some ⟨b, 1, none⟩), y] (cl b [c0, .int .u32 1, c1, c3, c4]) Unit (fun _ => .tuple #[]) (fun _ => cl b [c0, .int .u32 1, c1, c3, c4]) := by
  (refine Fn.of Tryd.func56 rfl (by kernel_rfl) Tryd.ntmps56 rfl (fun F => ?_))
  (repeat' (first | (refine Ow.is ?_; (first | refine Ow.nil ?_ | refine Ow.pu rfl (Pu.move rfl) ?_ | refine Ow.pu rfl (Pu.fld rfl) ?_ | refine Ow.pu rfl (Pu.nilCheck rfl) ?_ | (refine Ow.kUn ?_; (first | refine Ow.pu rfl (Pu.not rfl) ?_)) | (refine Ow.kCall ?_; (first | refine Ow.callE evA pkA rfl (BLoad_fn _ _ _ _ _ _) (fun _ => ?_) | fail)))) | (refine Cw.is ?_; (first | refine Cw.seq ?_ | refine Cw.region ?_ | refine Cw.cond_f rfl rfl ?_ | refine Cw.skip ?_)) | (first | refine thenQ_n ?_)))
  refine retQ_n () (res0 Tryd.results56) ?_
  ((try simp only [star_assoc]); (repeat (apply Ent.pk; exact pkA)); first | exact Ent.fin pkA | exact Ent.refl _)
theorem words_n (n : Nat) {m : Nat} (hq : ((n : Int) + 63) / 64 = (m : Int)) (hn : n ≤ 1000000) (c3 : Value) : Fn Tryd.prog 37 [.pointer (some ⟨b, 0, none⟩)] (cl b [vi n, .int .u32 0, .int .i32 0, c3, .slice none 0 0]) SV (fun v => v.v)
    (fun v => cl b [vi n, .int .u32 1, .int .i32 0, c3, v.v] * slk 1 v.v (List.replicate m w0)) := by
  (refine Fn.of Tryd.func37 rfl (by kernel_rfl) Tryd.ntmps37 rfl (fun F => ?_))
  (repeat' (first | (refine Ow.is ?_; (first | refine Ow.nil ?_ | refine Ow.pu rfl (Pu.assign rfl) ?_ | refine Ow.pu rfl (Pu.fld rfl) ?_ | refine Ow.pu rfl (Pu.nilCheck rfl) ?_ | (refine Ow.kLoad ?_; (first | refine Ow.pu rfl (Pu.load_cl rfl pkA rfl) ?_)) | (refine Ow.kCall ?_; (first | refine Ow.callE evA (pkTw pkA pkA) rfl (Do_n _ _ _ hq hn c3) (fun v => Ow.assoc3 ?_) | fail)) | refine Ow.box rfl rfl rfl (fun bx => ?_) | refine Ow.pu rfl (Pu.makeFunc (by (repeat first | exact Evs.nil | apply Evs.cons rfl))) ?_)) | (refine Cw.is ?_; (first | refine Cw.seq ?_ | refine Cw.region ?_ | refine Cw.ret ?_)) | (first | refine thenQ_n ?_)))
  refine retQ_v v Tryd.results37 rfl rfl ?_
  ((try simp only [star_assoc]); (repeat (apply Ent.pk; exact pkA)); first | exact Ent.fin pkA | exact Ent.refl _)
theorem words_d (c0 c1 c3 : Value) (v : SV) : Fn Tryd.prog 37 [.pointer (some ⟨b, 0, none⟩)] (cl b [c0, .int .u32 1, c1, c3, v.v]) Unit (fun _ => v.v) (fun _ => cl b [c0, .int .u32 1, c1, c3, v.v]) := by
  (refine Fn.of Tryd.func37 rfl (by kernel_rfl) Tryd.ntmps37 rfl (fun F => ?_))
  (repeat' (first | (refine Ow.is ?_; (first | refine Ow.nil ?_ | refine Ow.pu rfl (Pu.assign rfl) ?_ | refine Ow.pu rfl (Pu.fld rfl) ?_ | refine Ow.pu rfl (Pu.nilCheck rfl) ?_ | (refine Ow.kLoad ?_; (first | refine Ow.pu rfl (Pu.load_cl rfl pkA rfl) ?_)) | (refine Ow.kCall ?_; (first | refine Ow.callE evA pkA rfl (Do_d _ _ _ _ _ _) (fun _ => ?_) | fail)) | refine Ow.box rfl rfl rfl (fun bx => ?_) | refine Ow.pu rfl (Pu.makeFunc (by (repeat first | exact Evs.nil | apply Evs.cons rfl))) ?_)) | (refine Cw.is ?_; (first | refine Cw.seq ?_ | refine Cw.region ?_ | refine Cw.ret ?_)) | (first | refine thenQ_n ?_)))
  refine retQ_v () Tryd.results37 rfl rfl ?_
  ((try simp only [star_assoc]); (repeat (apply Ent.pk; exact pkA)); first | exact Ent.fin pkA | exact Ent.refl _)
end Go.Sl
namespace Go.Sl
open Go
set_option linter.unusedVariables false
abbrev M64 : Nat := 18446744073709551616
theorem m64 : M64 = 2 ^ 64 := by decide
def wdN (S : Nat → Bool) (k : Nat) : Nat → Nat
  | 0 => 0
  | m + 1 => wdN S k m + (if S (64 * k + m) = true then 2 ^ m else 0)
def wd (S : Nat → Bool) (k : Nat) : Nat := wdN S k 64
def ws (S : Nat → Bool) (m : Nat) : List Nat := (List.range m).map (wd S)
theorem wdN_lt (S : Nat → Bool) (k : Nat) : ∀ m, wdN S k m < 2 ^ m
  | 0 => by simp [wdN]
  | m + 1 => by have := wdN_lt S k m; rw [wdN, Nat.pow_succ]; split <;> omega
theorem wdN_bit (S : Nat → Bool) (k : Nat) : ∀ m j, (wdN S k m).testBit j = (decide (j < m) && S (64 * k + j))
  | 0, j => by simp [wdN]
  | m + 1, j => by
    have hl := wdN_lt S k m
    have ih := wdN_bit S k m j
    rw [wdN]
    split
    case isTrue h =>
      rw [Nat.add_comm]
      rcases Nat.lt_trichotomy j m with h1 | h1 | h1
      · rw [Nat.testBit_two_pow_add_gt h1, ih, decide_eq_true h1, decide_eq_true (by omega : j < m + 1)]
      · subst h1
        rw [Nat.testBit_two_pow_add_eq, ih]
        simp [h]
      · have h3 : 2 ^ m + wdN S k m < 2 ^ j := Nat.lt_of_lt_of_le (by rw [Nat.pow_succ]; omega : _ < 2 ^ (m + 1)) (Nat.pow_le_pow_right (by decide) h1)
        rw [Nat.testBit_lt_two_pow h3, decide_eq_false (by omega)]; rfl
    case isFalse h =>
      rw [Nat.add_zero, ih]
      by_cases h1 : j = m
      · subst h1; simp at h; simp [h]
      · by_cases h2 : j < m
        · rw [decide_eq_true h2, decide_eq_true (by omega : j < m + 1)]
        · rw [decide_eq_false h2, decide_eq_false (by omega)]
theorem wd_lt (S : Nat → Bool) (k : Nat) : wd S k < M64 := by rw [m64]; exact wdN_lt S k 64
theorem wd_bit (S : Nat → Bool) (k j : Nat) : (wd S k).testBit j = (decide (j < 64) && S (64 * k + j)) := wdN_bit S k 64 j
theorem wd_zero {S : Nat → Bool} (h : ∀ i, S i = false) (k : Nat) : wd S k = 0 := by
  refine Nat.eq_of_testBit_eq fun j => ?_
  rw [wd_bit, h]; simp
def upd (S : Nat → Bool) (i : Nat) (v : Bool) : Nat → Bool := fun x => if x = i then v else S x
theorem upd_same (S : Nat → Bool) (i : Nat) (v : Bool) : upd S i v i = v := by simp [upd]
theorem upd_ne (S : Nat → Bool) {i x : Nat} (v : Bool) (h : x ≠ i) : upd S i v x = S x := by simp [upd, h]
theorem wd_upd_ne (S : Nat → Bool) {i k : Nat} (v : Bool) (h : i / 64 ≠ k) : wd (upd S i v) k = wd S k := by
  refine Nat.eq_of_testBit_eq fun j => ?_
  rw [wd_bit, wd_bit]
  by_cases hj : j < 64
  · rw [upd_ne S v (by omega)]
  · rw [decide_eq_false hj]; simp
theorem wd_or (S : Nat → Bool) (i : Nat) : wd (upd S i true) (i / 64) = wd S (i / 64) ||| 2 ^ (i % 64) := by
  refine Nat.eq_of_testBit_eq fun j => ?_
  rw [Nat.testBit_or, wd_bit, wd_bit, Nat.testBit_two_pow]
  by_cases hj : j < 64
  · by_cases h : i % 64 = j
    · rw [show 64 * (i / 64) + j = i by omega, upd_same]; simp [hj, h]
    · rw [upd_ne S true (by omega)]; simp [h]
  · have : i % 64 < 64 := Nat.mod_lt _ (by decide)
    rw [decide_eq_false hj, decide_eq_false (by omega : ¬ i % 64 = j)]; simp
theorem wd_test (S : Nat → Bool) (i : Nat) : wd S (i / 64) &&& 2 ^ (i % 64) = if S i = true then 2 ^ (i % 64) else 0 := by
  refine Nat.eq_of_testBit_eq fun j => ?_
  rw [Nat.testBit_and, wd_bit, Nat.testBit_two_pow]
  by_cases h : i % 64 = j
  · have hj : j < 64 := by omega
    rw [show 64 * (i / 64) + j = i by omega]
    cases hS : S i
    · simp
    · rw [if_pos rfl, Nat.testBit_two_pow]; simp [h, hj]
  · rw [decide_eq_false h, Bool.and_false]
    split
    · rw [Nat.testBit_two_pow, decide_eq_false h]
    · simp
theorem ws_len (S : Nat → Bool) (m : Nat) : (ws S m).length = m := by simp [ws]
theorem ws_at (S : Nat → Bool) {m k : Nat} (h : k < m) : (ws S m)[k]? = some (wd S k) := by simp [ws, h]
theorem ws_upd (S : Nat → Bool) (m i : Nat) (v : Bool) (w : Nat) (hw : wd (upd S i v) (i / 64) = w) : (ws S m).set (i / 64) w = ws (upd S i v) m := by
  refine List.ext_getElem (by simp [ws]) fun k h1 h2 => ?_
  rw [List.getElem_set]
  split
  case isTrue h => subst h; simp [ws, hw]
  case isFalse h => simp only [ws, List.getElem_map, List.getElem_range]; exact (wd_upd_ne S v h).symm
theorem ws_zero {S : Nat → Bool} (h : ∀ i, S i = false) (m : Nat) : ws S m = List.replicate m 0 := by
  refine List.ext_getElem (by simp [ws]) fun k h1 h2 => ?_
  simp [ws, wd_zero h]
/-! the model's operations on words -/
theorem ofInt_nat {a : Nat} (h : a < M64) : (BitVec.ofInt 64 (a : Int)).toNat = a := by
  have := ofInt_u (w := 64) (a := (a : Int)) (by omega) (by have := m64; omega)
  rw [this]; simp
theorem and_nat {a b : Nat} (ha : a < M64) (hb : b < M64) : andI .u64 (a : Int) (b : Int) = ((a &&& b : Nat) : Int) := by
  have h : a &&& b < M64 := by rw [m64] at *; exact Nat.and_lt_two_pow a hb
  unfold andI
  rw [show IntKind.u64.bits = 64 from rfl, BitVec.toNat_and, ofInt_nat ha, ofInt_nat hb, wrap_u64 ⟨by omega, by have hm : M64 = 18446744073709551616 := rfl; omega⟩]
theorem or_nat {a b : Nat} (ha : a < M64) (hb : b < M64) : orI .u64 (a : Int) (b : Int) = ((a ||| b : Nat) : Int) := by
  have h : a ||| b < M64 := by rw [m64] at *; exact Nat.or_lt_two_pow ha hb
  unfold orI
  rw [show IntKind.u64.bits = 64 from rfl, BitVec.toNat_or, ofInt_nat ha, ofInt_nat hb, wrap_u64 ⟨by omega, by have hm : M64 = 18446744073709551616 := rfl; omega⟩]
theorem shl_nat {j : Nat} (hj : j < 64) : IntKind.wrap .u64 (1 * 2 ^ (min ((j : Nat) : Int).toNat IntKind.u64.bits)) = ((2 ^ j : Nat) : Int) := by
  have h : 2 ^ j < 2 ^ 64 := Nat.pow_lt_pow_right (by decide) hj
  have e : (2 : Int) ^ j = ((2 ^ j : Nat) : Int) := by rw [Int.natCast_pow]; rfl
  have h64 : (2 : Nat) ^ 64 = 18446744073709551616 := by decide
  rw [Int.toNat_natCast, show IntKind.u64.bits = 64 from rfl, Nat.min_eq_left (by omega), Int.one_mul, e]
  generalize 2 ^ j = p at h
  rw [wrap_u64 (by omega)]
end Go.Sl
namespace Go.Sl
open Go Go.Proofs
set_option linter.unusedVariables false
set_option linter.unusedSimpArgs false
section
variable {P : Program} {n : Nat} {ρ : Env} {H : HP} {t t' t'' T e : TypeId} {x y : Operand} {a : Addr} {s bb : Nat} {zc : List Value} {k : IntKind} {m cap j i : Nat}
theorem Pu.fld0 {s f : Nat} [T : Fld P s f 0] (hx : ev ρ x = some (.pointer (some a))) : Pu P n ρ H (.fieldAddr s x f) t (.pointer (some a)) := by
  have := Pu.fieldAddr (P := P) (n := n) (H := H) (t := t) (s := s) (f := f) hx
  rwa [show a.add 0 = a by simp [Addr.add]] at this
theorem Pu.idxN [TT : TyU P T (.slice e)] [S : TyS P e 1 bb zc] (hx : ev ρ x = some (.slice (some a) m cap)) (hy : ev ρ y = some (.int k (j : Int))) (hj : j < m) :
    Pu P n ρ H (.indexAddr T x y) t (.pointer (some (a.add j))) := by
  have := Pu.idx (P := P) (n := n) (H := H) (t := t) (TT := TT) (S := S) hx hy ⟨by omega, by omega⟩
  rwa [Int.toNat_natCast, Nat.mul_one] at this
theorem Pu.quo_n64 (hx : ev ρ x = some (.int .i64 (i : Int))) (hy : ev ρ y = some (.int .i64 64)) (hb : i ≤ 9223372036854775807) : Pu P n ρ H (.binOp .quo t x y t') t'' (.int .i64 ((i / 64 : Nat) : Int)) := by
  have := Pu.quo_i (P := P) (n := n) (H := H) (t := t) (t' := t') (t'' := t'') hx hy ⟨by omega, by omega, by omega⟩
  rw [Int.natCast_ediv]; exact this
theorem Pu.rem_n64 (hx : ev ρ x = some (.int .i64 (i : Int))) (hy : ev ρ y = some (.int .i64 64)) : Pu P n ρ H (.binOp .rem t x y t') t'' (.int .i64 ((i % 64 : Nat) : Int)) := by
  have := Pu.rem_p (P := P) (n := n) (H := H) (t := t) (t' := t') (t'' := t'') hx hy ⟨by omega, by omega⟩
  rw [Int.natCast_emod]; exact this
end
attribute [local irreducible] star Ow Cw Pk Pu Dw thenQ blockQ retQ loudQ Cr andI orI xorI IntKind.wrap wd ws
abbrev vw (n : Nat) : Value := .int .u64 (n : Int)
abbrev lset (b n : Nat) (S : Nat → Bool) (v : Value) : HP := cl b [vi n, .int .u32 1, .int .i32 0, .int .u32 0, v] * slk 1 v ((ws S ((n + 63) / 64)).map vw)
def bset (b n : Nat) (S : Nat → Bool) : HP := Sl.ex fun x : Option SV => match x with
  | none => lift (∀ i, S i = false) * cl b [vi n, .int .u32 0, .int .i32 0, .int .u32 0, .slice none 0 0]
  | some v => lset b n S v.v
theorem bset_l (b n : Nat) (S : Nat → Bool) (v : SV) : Ent (lset b n S v.v) (bset b n S) := Ent.ex (A := fun x : Option SV => match x with
  | none => lift (∀ i, S i = false) * cl b [vi n, .int .u32 0, .int .i32 0, .int .u32 0, .slice none 0 0]
  | some v => lset b n S v.v) (some v)
theorem bset_0 (b n : Nat) : Ent (cl b [vi n, .int .u32 0, .int .i32 0, .int .u32 0, .slice none 0 0]) (bset b n (fun _ => false)) :=
  Ent.trans (Ent.lift (p := ∀ i : Nat, (fun _ => false : Nat → Bool) i = false) (fun _ => rfl)) (Ent.ex (A := fun x : Option SV => match x with
  | none => lift (∀ i : Nat, (fun _ => false : Nat → Bool) i = false) * cl b [vi n, .int .u32 0, .int .i32 0, .int .u32 0, .slice none 0 0]
  | some v => lset b n (fun _ => false) v.v) none)
theorem bset_n (b n : Nat) (S : Nat → Bool) : RdA (bset b n S) ⟨b, 0, none⟩ (vi n) := RdA.ex fun x => by
  cases x with
  | none => exact RdA.right (rd_cl rfl)
  | some v => exact RdA.left (rd_cl rfl)
theorem words_fn (b n : Nat) (S : Nat → Bool) (hn : n ≤ 1000000) : Fn Tryd.prog 37 [.pointer (some ⟨b, 0, none⟩)] (bset b n S) SV (fun v => v.v) (fun v => lset b n S v.v) := by
  have hq : ((n : Int) + 63) / 64 = (((n + 63) / 64 : Nat) : Int) := by omega
  have h0 := words_n b n hq hn (.int .u32 0)
  refine Fn.preX h0.enters (fun x => ?_)
  cases x with
  | none =>
    refine Fn.preL h0.enters (fun hS => ?_)
    refine h0.weak (Ent.refl _) id (fun _ => rfl) (fun v => Ent.of_eq ?_)
    show _ = cl b _ * slk 1 v.v ((ws S ((n + 63) / 64)).map vw)
    rw [ws_zero hS, List.map_replicate]; rfl
  | some v =>
    have h1 := (words_d b (vi n) (.int .i32 0) (.int .u32 0) v).frame (slk 1 v.v ((ws S ((n + 63) / 64)).map vw))
    exact h1.weak (Ent.refl _) (fun _ => v) (fun _ => rfl) (fun _ => Ent.refl _)
attribute [local irreducible] bset
theorem BNew_fn (x : Int) (n : Nat) (hx : max x 0 = (n : Int)) : Fn Tryd.prog 32 [vi x] emp Nat (fun b => .pointer (some ⟨b, 0, none⟩)) (fun b => bset b n (fun _ => false)) := by
  (refine Fn.of Tryd.func32 rfl (by kernel_rfl) Tryd.ntmps32 rfl (fun F => ?_))
  refine Cw.heq (emp_star F) ?_
  (repeat' (first | (refine Ow.is ?_; (first | refine Ow.nil ?_ | refine Ow.pu rfl (Pu.move rfl) ?_ | refine Ow.pu rfl (Pu.assign rfl) ?_ | (refine Ow.kBuiltin ?_; (first | refine Ow.pu rfl (Pu.max rfl rfl) ?_)) | (refine Ow.kBuild ?_; (first | refine Ow.pu rfl (Pu.bld1 rfl (fun w => by kernel_rfl)) ?_)) | refine Ow.box rfl rfl rfl (fun bx => ?_))) | (refine Cw.is ?_; (first | refine Cw.seq ?_ | refine Cw.region ?_ | refine Cw.ret ?_)) | (first | refine thenQ_n ?_)))
  rw [hx]
  refine retQ_v bx Tryd.results32 rfl rfl ?_
  refine Ent.trans ?_ (Ent.left (bset_0 bx n)); ((try simp only [star_assoc]); (repeat (apply Ent.pk; exact pkA)); first | exact Ent.fin pkA | exact Ent.refl _)
theorem AOr_fn {A A' : HP} {a : Addr} {z m : Nat} (hr : RdA A a (vw z)) (hz : z < M64) (hm : m < M64) (hw : WrA A a (vw (z ||| m)) A') : Fn Tryd.prog 54 [.pointer (some a), vw m] A Unit (fun _ => vw z) (fun _ => A') := by
  have ho : ∀ w : World, (Op.intBits .or .u64 (z : Int) (m : Int)).run Tryd.prog w = .ok (.int .u64 ((z ||| m : Nat) : Int)) w := fun w => by
    rw [← or_nat hz hm]; simp [Op.intBits, orI]
  (refine Fn.of Tryd.func54 rfl (by kernel_rfl) Tryd.ntmps54 rfl (fun F => ?_))
  (repeat' (first | (refine Ow.is ?_; (first | refine Ow.pu rfl (Pu.fld0 rfl) ?_ | refine Ow.nil ?_ | refine Ow.pu rfl (Pu.move rfl) ?_ | refine Ow.pu rfl (Pu.assign rfl) ?_ | refine Ow.pu rfl (Pu.nilCheck rfl) ?_ | (refine Ow.kCall ?_; (first | refine Ow.aupd rfl rfl rfl pkA hr ho hw ?_ | fail)))) | (refine Cw.is ?_; (first | refine Cw.seq ?_ | refine Cw.region ?_ | refine Cw.ret ?_)) | (first | refine thenQ_n ?_)))
  refine retQ_v () Tryd.results54 rfl rfl ?_; ((try simp only [star_assoc]); (repeat (apply Ent.pk; exact pkA)); first | exact Ent.fin pkA | exact Ent.refl _)
theorem ALoad_fn {A : HP} {a : Addr} {z : Nat} (hr : RdA A a (vw z)) : Fn Tryd.prog 36 [.pointer (some a)] A Unit (fun _ => vw z) (fun _ => A) := by
  (refine Fn.of Tryd.func36 rfl (by kernel_rfl) Tryd.ntmps36 rfl (fun F => ?_))
  (repeat' (first | (refine Ow.is ?_; (first | refine Ow.pu rfl (Pu.fld0 rfl) ?_ | refine Ow.nil ?_ | refine Ow.pu rfl (Pu.move rfl) ?_ | refine Ow.pu rfl (Pu.assign rfl) ?_ | refine Ow.pu rfl (Pu.nilCheck rfl) ?_ | (refine Ow.kCall ?_; (first | refine Ow.aload rfl rfl pkA hr ?_ | fail)))) | (refine Cw.is ?_; (first | refine Cw.seq ?_ | refine Cw.region ?_ | refine Cw.ret ?_)) | (first | refine thenQ_n ?_)))
  refine retQ_v () Tryd.results36 rfl rfl ?_; ((try simp only [star_assoc]); (repeat (apply Ent.pk; exact pkA)); first | exact Ent.fin pkA | exact Ent.refl _)
theorem place_t (b n : Nat) (S : Nat → Bool) (hn : n ≤ 1000000) (i : Nat) (h : i < n) : Fn Tryd.prog 35 [.pointer (some ⟨b, 0, none⟩), vi i] (bset b n S) { p : Addr × Nat × Nat // True } (fun p => .tuple #[.pointer (some (p.1.1.add (i / 64))), vw (2 ^ (i % 64)), .bool true]) (fun p => lset b n S (.slice (some p.1.1) p.1.2.1 p.1.2.2)) := by
  have hsh := shl_nat (Nat.mod_lt i (by decide : 64 > 0))
  (refine Fn.of Tryd.func35 rfl (by kernel_rfl) Tryd.ntmps35 rfl (fun F => ?_))
  (repeat' (first | (refine Ow.is ?_; (first | refine Ow.pu rfl (Pu.fld0 rfl) ?_ | refine Ow.nil ?_ | refine Ow.pu rfl (Pu.move rfl) ?_ | refine Ow.pu rfl (Pu.assign rfl) ?_ | refine Ow.pu rfl (Pu.nilCheck rfl) ?_ | (refine Ow.kGuard ?_; (first | refine Ow.guard_yes rfl rfl rfl ?_)) | (refine Ow.kLoad ?_; (first | refine Ow.pu rfl (Pu.load (a := ⟨b, 0, none⟩) rfl pkA (bset_n b n S)) ?_)) | (refine Ow.kBin ?_; (first | (refine Ow.b_lss ?_; first | refine Ow.pu rfl (Pu.lt_t rfl rfl (by omega)) ?_ | refine Ow.pu rfl (Pu.lt_f rfl rfl (by omega)) ?_ | refine Ow.sp rfl (by exact Pu.lt rfl rfl) (fun hc => ?_) (fun hc => ?_)) | (refine Ow.b_geq ?_; first | refine Ow.pu rfl (Pu.ge_t rfl rfl (by omega)) ?_ | refine Ow.pu rfl (Pu.ge_f rfl rfl (by omega)) ?_ | refine Ow.sp rfl (by exact Pu.ge rfl rfl) (fun hc => ?_) (fun hc => ?_)))) | (refine Ow.kPick ?_; (first | refine Ow.pu rfl (Pu.pick_f rfl rfl) ?_)))) | (refine Cw.is ?_; (first | refine Cw.seq ?_ | refine Cw.region ?_ | refine Cw.cond_f rfl rfl ?_ | refine Cw.ret ?_ | refine Cw.skip ?_)) | (first | refine thenQ_n ?_)))
  (refine Cw.draw1 (F) false 0 [(0, false), (2, false), (3, false), (5, false), (6, false), (7, false), (1, true), (4, false), (8, false), (9, false), (10, false)] pkA mixed (by kernel_rfl) ?_; (repeat (first | refine Dw.q rfl rfl trivial (by (first | exact Pu.move rfl | exact Pu.assign rfl | exact Pu.nilCheck rfl | exact Pu.quo_n64 rfl rfl (by omega) | exact Pu.rem_n64 rfl rfl | exact Pu.shl rfl rfl (by omega) hsh | exact Pu.idxN rfl rfl (by omega))) ?_ | refine Dw.q rfl rfl ⟨_, _, rfl, rfl, rfl⟩ (by (first | exact Pu.move rfl | exact Pu.assign rfl | exact Pu.nilCheck rfl | exact Pu.quo_n64 rfl rfl (by omega) | exact Pu.rem_n64 rfl rfl | exact Pu.shl rfl rfl (by omega) hsh | exact Pu.idxN rfl rfl (by omega))) ?_)); refine Dw.l rfl (by first | exact trivial | exact ⟨_, _, rfl, rfl, rfl⟩) ?_; refine Ow.callE evA pkA rfl (words_fn b n S hn) (fun v => Ow.assoc ?_); refine Ow.slP (v := v) (s := 1) (cs := (ws S ((n + 63) / 64)).map vw) pkA (fun hp => ?_); obtain ⟨hp1, hp2, hp3⟩ := hp; rw [List.length_map, ws_len, Nat.mul_one] at hp1; obtain ⟨va, vn, vc⟩ := v; obtain ⟨a, rfl⟩ : ∃ a, va = some a := (by cases va with | none => (have h3 := hp3 rfl; simp only at hp1 hp2 h3; omega) | some a => exact ⟨a, rfl⟩); refine Ow.nil ?_; refine loudQ.go pkA ?_; (repeat (first | refine Dw.q rfl rfl trivial (by (first | exact Pu.move rfl | exact Pu.assign rfl | exact Pu.nilCheck rfl | exact Pu.quo_n64 rfl rfl (by omega) | exact Pu.rem_n64 rfl rfl | exact Pu.shl rfl rfl (by omega) hsh | exact Pu.idxN rfl rfl (by omega))) ?_ | refine Dw.q rfl rfl ⟨_, _, rfl, rfl, rfl⟩ (by (first | exact Pu.move rfl | exact Pu.assign rfl | exact Pu.nilCheck rfl | exact Pu.quo_n64 rfl rfl (by omega) | exact Pu.rem_n64 rfl rfl | exact Pu.shl rfl rfl (by omega) hsh | exact Pu.idxN rfl rfl (by omega))) ?_)); refine Dw.nil ?_ rfl)
  (repeat' (first | (refine Ow.is ?_; (first | refine Ow.pu rfl (Pu.fld0 rfl) ?_ | refine Ow.nil ?_ | refine Ow.pu rfl (Pu.move rfl) ?_ | refine Ow.pu rfl (Pu.assign rfl) ?_ | refine Ow.pu rfl (Pu.nilCheck rfl) ?_ | (refine Ow.kGuard ?_; (first | refine Ow.guard_yes rfl rfl rfl ?_)) | (refine Ow.kLoad ?_; (first | refine Ow.pu rfl (Pu.load (a := ⟨b, 0, none⟩) rfl pkA (bset_n b n S)) ?_)) | (refine Ow.kBin ?_; (first | (refine Ow.b_lss ?_; first | refine Ow.pu rfl (Pu.lt_t rfl rfl (by omega)) ?_ | refine Ow.pu rfl (Pu.lt_f rfl rfl (by omega)) ?_ | refine Ow.sp rfl (by exact Pu.lt rfl rfl) (fun hc => ?_) (fun hc => ?_)) | (refine Ow.b_geq ?_; first | refine Ow.pu rfl (Pu.ge_t rfl rfl (by omega)) ?_ | refine Ow.pu rfl (Pu.ge_f rfl rfl (by omega)) ?_ | refine Ow.sp rfl (by exact Pu.ge rfl rfl) (fun hc => ?_) (fun hc => ?_)))) | (refine Ow.kPick ?_; (first | refine Ow.pu rfl (Pu.pick_f rfl rfl) ?_)))) | (refine Cw.is ?_; (first | refine Cw.seq ?_ | refine Cw.region ?_ | refine Cw.cond_f rfl rfl ?_ | refine Cw.ret ?_ | refine Cw.skip ?_)) | (first | refine thenQ_n ?_)))
  refine retQ_v3 ⟨(a, vn, vc), trivial⟩ Tryd.results35 rfl rfl rfl rfl ?_
  ((try simp only [star_assoc]); (repeat (apply Ent.pk; exact pkA)); first | exact Ent.fin pkA | exact Ent.refl _)
end Go.Sl
