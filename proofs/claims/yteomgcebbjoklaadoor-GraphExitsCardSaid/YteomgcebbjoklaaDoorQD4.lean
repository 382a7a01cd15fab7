/- Part 4. -/
import Derived.WalkKit
import Derived.RangeFuncRecord
import Derived.RangeFuncLeaves
import Derived.OrdersIn
import Derived.TacticsIn
import Derived.KernelRfl
import Derived.Test.YteomgcebbjoklaaDoorChecked
import Derived.ProofKit
import Derived.OpenShut
import Derived.Carry
import Derived.HandedShaped
import Derived.RangeFuncNested
import Derived.LoopNIn
import Derived.Lib.Strings
import Derived.Deep.DeepHandedRow
import Derived.Lib.LaidTab
import Derived.SevenTiedAt
import Derived.Deep.DeepWitnessRowRef
import Derived.Laws.StructEq
import Derived.Laws.BytesString
import Derived.Laws.LoneSync
import Derived.Test.YteomgcebbjoklaaDoorRows
import Derived.Test.YteomgcebbjoklaaDoorCards
import Derived.Test.YteomgcebbjoklaaDoorTie
import Derived.Test.YteomgcebbjoklaaDoorQD3
namespace Go.Sl
open Go Go.Proofs
set_option linter.unusedVariables false
set_option linter.unusedSimpArgs false
def lU (b4 : Nat) (L : List Int) (k : Nat) : HP := Sl.ex fun sv : SV => cl b4 [sv.v] * slk 1 sv.v ((L.take k).map vi)
theorem lU_ex (b4 : Nat) (L : List Int) (k : Nat) : lU b4 L k = Sl.ex fun sv : SV => cl b4 [sv.v] * slk 1 sv.v ((L.take k).map vi) := rfl
theorem lU_mk (b4 : Nat) {L l : List Int} {k : Nat} (h : l = L.take k) (sv : SV) : Ent (cl b4 [sv.v] * slk 1 sv.v (l.map vi)) (lU b4 L k) := by
  subst h; exact Ent.ex (A := fun sv : SV => cl b4 [sv.v] * slk 1 sv.v ((L.take k).map vi)) sv
theorem take_s {L : List Int} {i : Nat} (hi : i < L.length) : L.take i ++ [L[i]!] = L.take (i + 1) := by
  rw [List.take_succ_eq_append_getElem hi, getElem!_pos L i hi]
theorem upd_tt {S : Nat → Bool} {i : Nat} (h : S i = true) : upd S i true = S := by
  funext j
  by_cases e : i = j
  · subst e; rw [upd_same, h]
  · rw [upd_ne _ _ (by omega)]
theorem rts_sltO (o : Option (Nat × ThS)) : rts (sltO o) = rtsG o := by cases o <;> rfl
theorem wl_roots {s : GS SV Nat} (hT : s.T.length = 4) : s.G ++ wlN (s.T.map sltO) 4 = rootsG s := by
  obtain ⟨O, G, T⟩ := s
  simp only at hT
  match T, hT with
  | [t0, t1, t2, t3], _ =>
    show G ++ ((((([] : List Int) ++ rts (sltO t0)) ++ rts (sltO t1)) ++ rts (sltO t2)) ++ rts (sltO t3)) = _
    simp only [rts_sltO, rootsG, List.flatMap_cons, List.flatMap_nil, List.nil_append, List.append_nil, List.append_assoc]
theorem allR_mem {s : GS SV Nat} (hT : s.T.length = 4) (z : Int) : z ∈ allR s.G (s.T.map sltO) ↔ z ∈ rootsG s ∧ z ≠ 0 := by
  rw [all_wl, wl_roots hT]; simp [nz]
theorem allR_len {s : GS SV Nat} (hT : s.T.length = 4) : (allR s.G (s.T.map sltO)).length ≤ (rootsG s).length := by
  rw [all_wl, wl_roots hT]; exact List.length_filter_le _ _
structure RzS where
  V : Nat → Bool
  l : List Int
  sv : SV
attribute [local irreducible] star Ow Cw Pk Pu Dw DwF thenQ blockQ retQ loudQ loudF loudG Cr thr tab obs andI bset lU stAt cn
set_option maxHeartbeats 16000000 in
theorem Reach_fn (g : Nat) (q : Cfg) (s : GS SV Nat) (hok : GsOk q s) (hq8 : QOk q) (hO : s.O.length ≤ 900000) :
    Fn Tryd.prog 17 [.pointer (some ⟨g, 0, none⟩)] (gph g q s) Nat (fun sb => .pointer (some ⟨sb, 0, none⟩)) (fun sb => bset sb (s.O.length + 1) (rchB s.O (rootsG s)) * gph g q s) := by
  have hT := hok.tl
  have hoko := hok.oko
  have hrl := rootsG_len hok hq8
  have hmem := allR_mem hT
  have hall := allR_len hT
  have hG : s.G.length < 1000000 := by have := hok.gl; have := hq8.gl; omega
  have hSm : SmallT (s.T.map sltO) := fun x hx => by
    obtain ⟨o, ho, rfl⟩ := List.mem_map.1 hx
    rw [rts_sltO]
    have h1 : (rtsG o).length ≤ (rootsG s).length := by
      unfold rootsG
      obtain ⟨a, b, hab⟩ := List.append_of_mem ho
      rw [hab]; simp; omega
    omega
  obtain ⟨R, hR⟩ : ∃ R, rootsG s = R := ⟨_, rfl⟩
  rw [hR] at hmem hall hrl hoko ⊢
  obtain ⟨L, hL⟩ : ∃ L, allR s.G (s.T.map sltO) = L := ⟨_, rfl⟩
  have hLok : ∀ z ∈ L, okR s.O.length z := fun z hz => hoko.r z ((hmem z).1 (hL ▸ hz)).1
  have hLR : ∀ z, z ≠ 0 → (z ∈ L ↔ z ∈ R) := fun z h0 => by rw [← hL, hmem]; exact ⟨fun h => h.1, fun h => ⟨h, h0⟩⟩
  have hAll := fun cc rb => AllIt rb cc q.threads q.regs q.stack s.G (s.T.map sltO) (by simpa using hT) hG hSm
  rw [hL] at hAll hall
  obtain ⟨O, hOO⟩ : ∃ O, s.O = O := ⟨_, rfl⟩
  rw [hOO] at hO hoko hLok ⊢
  (refine Fn.of Tryd.func17 rfl (by kernel_rfl) Tryd.ntmps17 rfl (fun F => ?_))
  refine Cw.opn (gph_ex g q s) (fun y => ?_)
  refine Cw.heq (star_assoc _ _ _) ?_
  refine Cw.lift (fun hy => ?_)
  obtain ⟨rb, W⟩ := y
  obtain ⟨hWl, hW⟩ := hy
  dsimp only at hWl hW ⊢
  rw [hOO]
  refine Cw.opn (gpW_ex g q rb _ O s.G (s.T.map sltO)) (fun tv => ?_)
  (refine Cw.heq (by simp only [star_assoc, emp_star, star_emp]; exact rfl) ?_)
  (repeat' (first | (refine Ow.is ?_; (first | refine Ow.pu rfl (Pu.fld rfl) ?_ | refine Ow.pu rfl (Pu.fld0 rfl) ?_ | refine Ow.nil ?_ | refine Ow.pu rfl (Pu.move rfl) ?_ | refine Ow.pu rfl (Pu.assign rfl) ?_ | refine Ow.pu rfl (Pu.fld rfl) ?_ | refine Ow.pu rfl (Pu.nilCheck rfl) ?_ | (refine Ow.kLoad ?_; (first | refine Ow.pu rfl (Pu.load_stfd (o := 0) (w := fo) rfl pkA (by omega) hfo rfl) ?_ | refine Ow.pu rfl (Pu.load_cl rfl pkA rfl) ?_ | refine Ow.pu rfl (Pu.load_sli rfl pkA (by first | omega | (simp only [List.length_set, List.length_append, List.length_replicate, List.length_cons, List.length_nil]; omega))) ?_)) | (refine Ow.kBin ?_; (first | (refine Ow.b_add ?_; refine Ow.pu rfl (Pu.add_i rfl rfl (by omega)) ?_))) | (refine Ow.kBuiltin ?_; (first | refine Ow.pu rfl (Pu.len_st rfl pkA) ?_ | refine Ow.pu rfl (Pu.len_slm rfl pkA) ?_)) | (refine Ow.kCall ?_; (first | refine Ow.callE0 evA rfl (All_fn _) (fun cc => ?_) | refine Ow.callE0 evA rfl (BNew_fn _ (O.length + 1) (by omega)) (fun sb => ?_) | fail)) | refine Ow.alloc rfl (fun bx => ?_))) | (refine Cw.is ?_; (first | refine Cw.seq ?_ | refine Cw.region ?_ | refine Cw.cond_t rfl rfl ?_ | refine Cw.cond_f rfl rfl ?_ | refine Cw.block ?_ | refine Cw.ret ?_ | refine Cw.exit ?_ | refine Cw.skip ?_)) | (first | refine thenQ_n ?_ | refine thenQ_e ?_ | refine blockQ_n ?_ | refine blockQ_e ?_)))
  obtain ⟨b4, h4⟩ : ∃ q, q = bx := ⟨_, rfl⟩
  subst h4
  refine Cw.rangeY (ι := Fin L.length) (xs := fun i => [vi L[i.1]!]) (A := fun i => lU b4 L i.1) (B := fun i => lU b4 L (i.1 + 1)) (J := fun _ e => False)
    (S := fun i _ => emp) (PS := fun _ => cl cc [.pointer (some ⟨rb, 0, none⟩)] * tab rb q.threads q.regs q.stack s.G (s.T.map sltO))
    (Pre := cl cc [.pointer (some ⟨rb, 0, none⟩)] * (tab rb q.threads q.regs q.stack s.G (s.T.map sltO) * lU b4 L 0))
    (Post := cl cc [.pointer (some ⟨rb, 0, none⟩)] * (tab rb q.threads q.regs q.stack s.G (s.T.map sltO) * lU b4 L L.length))
    (F := bset sb (O.length + 1) S0 * (gcl g q tv rb (W.flatMap wkc) * (slk 2 tv.v (O.flatMap obc) * (obs O * F)))) (fun y' L' X hy => hAll cc rb (fun k => lU b4 L k) _ ⟨y', rfl⟩ L' X hy) rfl rfl (fun _ => rfl) ?_ (fun i F1 G' l' rec => ?_) (fun D => ?_) (fun D i e h => h.elim)
  · refine Ent.trans (Ent.addnil 1 (Ent.refl _)) ?_
    refine Ent.trans ?_ (Ent.left (Ent.right (Ent.right (lU_mk b4 (l := []) (k := 0) rfl ⟨none, 0, 0⟩))))
    ((try simp only [star_assoc]); (repeat (apply Ent.pk; exact pkA)); first | exact Ent.fin pkA | exact Ent.refl _)
  · obtain ⟨i, hi⟩ := i
    have htk := take_s hi
    try (refine Cw.heq (by simp only [star_assoc, emp_star, star_emp]; exact rfl) ?_)
    (repeat' (first | (refine Ow.is ?_; (first | refine Ow.pu rfl (Pu.fld0 rfl) ?_ | refine Ow.nil ?_ | refine Ow.pu rfl (Pu.assign rfl) ?_)) | (refine Cw.is ?_; (first | refine Cw.seq ?_ | refine Cw.region ?_ | refine Cw.cond_t rfl rfl ?_ | refine Cw.cond_f rfl rfl ?_ | refine Cw.block ?_ | refine Cw.ret ?_ | refine Cw.exit ?_ | refine Cw.skip ?_)) | (first | refine thenQ_n ?_ | refine thenQ_e ?_ | refine blockQ_n ?_ | refine blockQ_e ?_)))
    refine ⟨_, Ent.refl _, ?_⟩
    refine Cw.opn (lU_ex b4 L i) (fun sv => ?_)
    (refine Cw.heq (by simp only [star_assoc, emp_star, star_emp]; exact rfl) ?_)
    (repeat' (first | (refine Ow.is ?_; (first | refine Ow.pu rfl (Pu.fld0 rfl) ?_ | refine Ow.nil ?_ | refine Ow.pu rfl (Pu.move rfl) ?_ | (refine Ow.kLoad ?_; (first | refine Ow.pu rfl (Pu.load_stfd (o := 0) (w := fo) rfl pkA (by omega) hfo rfl) ?_ | refine Ow.pu rfl (Pu.load_cl rfl pkA rfl) ?_ | refine Ow.pu rfl (Pu.load_sli rfl pkA (by first | omega | (simp only [List.length_set, List.length_append, List.length_replicate, List.length_cons, List.length_nil]; omega))) ?_)) | (refine Ow.kStore ?_; (first | refine Ow.store_cl rfl rfl rfl (by (first | rfl | assumption | exact Subtype.property _)) pkA rfl ?_)) | (refine Ow.kBuiltin ?_; (first | refine Ow.append_sli rfl rfl rfl pkA ((rdSl_cli (l2 := [_]) rfl).of_pk pkA) (by first | (simp; done) | (simp; omega)) (fun sv => ?_))) | (refine Ow.kBuildS ?_; (first | refine Ow.bldS1 rfl rfl (fun w => by kernel_rfl) (fun bx => ?_))))) | (refine Cw.is ?_; (first | refine Cw.seq ?_ | refine Cw.region ?_ | refine Cw.cond_t rfl rfl ?_ | refine Cw.cond_f rfl rfl ?_ | refine Cw.block ?_ | refine Cw.ret ?_ | refine Cw.exit ?_ | refine Cw.skip ?_)) | (first | refine thenQ_n ?_ | refine thenQ_e ?_ | refine blockQ_n ?_ | refine blockQ_e ?_)))
    refine rdQ_n ?_
    refine Ent.trans ?_ (Ent.left (lU_mk b4 (k := i + 1) htk sv))
    ((try simp only [star_assoc]); (repeat (apply Ent.pk; exact pkA)); first | exact Ent.fin pkA | exact Ent.refl _)
  · try (refine Cw.heq (by simp only [star_assoc, emp_star, star_emp]; exact rfl) ?_)
    (repeat' (first | (refine Ow.is ?_; (first | refine Ow.pu rfl (Pu.fld0 rfl) ?_ | refine Ow.nil ?_ | (refine Ow.kLoad ?_; (first | refine Ow.pu rfl (Pu.load_stfd (o := 0) (w := fo) rfl pkA (by omega) hfo rfl) ?_ | refine Ow.pu rfl (Pu.load_cl rfl pkA rfl) ?_ | refine Ow.pu rfl (Pu.load_sli rfl pkA (by first | omega | (simp only [List.length_set, List.length_append, List.length_replicate, List.length_cons, List.length_nil]; omega))) ?_)) | (refine Ow.kBin ?_; (first | (refine Ow.b_gtr ?_; first | refine Ow.pu rfl (Pu.gt_t rfl rfl (by omega)) ?_ | refine Ow.pu rfl (Pu.gt_f rfl rfl (by omega)) ?_ | refine Ow.sp rfl (by exact Pu.gt rfl rfl) (fun hc => ?_) (fun hc => ?_)))) | (refine Ow.kBuiltin ?_; (first | refine Ow.pu rfl (Pu.len_st rfl pkA) ?_ | refine Ow.pu rfl (Pu.len_slm rfl pkA) ?_)))) | (refine Cw.is ?_; (first | refine Cw.seq ?_ | refine Cw.region ?_ | refine Cw.cond_t rfl rfl ?_ | refine Cw.cond_f rfl rfl ?_ | refine Cw.block ?_ | refine Cw.ret ?_ | refine Cw.exit ?_ | refine Cw.skip ?_)) | (first | refine thenQ_n ?_ | refine thenQ_e ?_ | refine blockQ_n ?_ | refine blockQ_e ?_)))
    try (refine Cw.heq (by simp only [star_assoc, emp_star, star_emp]; exact rfl) ?_)
    refine Cw.pkd (A := lU b4 L L.length) pkA ?_
    refine Cw.opn (lU_ex b4 L L.length) (fun sv0 => ?_)
    rw [List.take_length]
    (refine Cw.heq (by simp only [star_assoc, emp_star, star_emp]; exact rfl) ?_)
    have hstart : Wl O R S0 L := Wl.start hoko hLR hLok
    refine Cw.loopF [6, 24, 25, 26, 27, 28, 29, 30, 31, 32, 33, 34, 35, 36, 37, 38, 39, 40, 41, 42, 43, 44, 45, 46, 47, 48, 49, 50, 51, 52, 53, 54, 55] (by (repeat first | exact er_nil | apply er_drop rfl | apply er_keep rfl)) (fun z : RzS => Wl O R z.V z.l ∧ wlM O.length z.V z.l ≤ 7 * (O.length + 1) + 68) (fun z => [])
      (fun z => cl b4 [z.sv.v] * (slk 1 z.sv.v (z.l.map vi) * (bset sb (O.length + 1) z.V * (gcl g q tv rb (W.flatMap wkc) * (slk 2 tv.v (O.flatMap obc) * (obs O * (tab rb q.threads q.regs q.stack s.G (s.T.map sltO) * (pt D (.deferred (some [])) * F))))))))
      (fun z => wlM O.length z.V z.l) ⟨S0, L, sv0⟩ ⟨hstart, by show wlM O.length S0 L ≤ _; rw [wlM_0]; omega⟩ (by (repeat first | exact trivial | refine ⟨rfl, ?_⟩)) (by ((try simp only [star_assoc]); (repeat (apply Ent.pk; exact pkA)); first | exact Ent.fin pkA | exact Ent.refl _)) (fun z hz => ?_)
    obtain ⟨V, l, sv⟩ := z
    obtain ⟨hwl, hm⟩ := hz
    simp only at hwl hm ⊢
    have hll := wlM_len (n := O.length) (V := V) (l := l)
    have hlb : l.length ≤ 7 * (O.length + 1) + 68 := by omega
    clear hll
    rcases List.eq_nil_or_concat l with h0 | ⟨l', z, h0⟩
    · have hl0 : l.length = 0 := by rw [h0]; rfl
      have hdone : V = rchB O R := (h0 ▸ hwl : Wl O R V []).done hoko
      (repeat' (first | (refine Ow.is ?_; (first | refine Ow.pu rfl (Pu.fld0 rfl) ?_ | refine Ow.nil ?_ | (refine Ow.kLoad ?_; (first | refine Ow.pu rfl (Pu.load_stfd (o := 0) (w := fo) rfl pkA (by omega) hfo rfl) ?_ | refine Ow.pu rfl (Pu.load_cl rfl pkA rfl) ?_ | refine Ow.pu rfl (Pu.load_sli rfl pkA (by first | omega | (simp only [List.length_set, List.length_append, List.length_replicate, List.length_cons, List.length_nil]; omega))) ?_)) | (refine Ow.kBin ?_; (first | (refine Ow.b_gtr ?_; first | refine Ow.pu rfl (Pu.gt_t rfl rfl (by omega)) ?_ | refine Ow.pu rfl (Pu.gt_f rfl rfl (by omega)) ?_ | refine Ow.sp rfl (by exact Pu.gt rfl rfl) (fun hc => ?_) (fun hc => ?_)))) | (refine Ow.kBuiltin ?_; (first | refine Ow.pu rfl (Pu.len_st rfl pkA) ?_ | refine Ow.pu rfl (Pu.len_slm rfl pkA) ?_)))) | (refine Cw.is ?_; (first | refine Cw.seq ?_ | refine Cw.region ?_ | refine Cw.cond_t rfl rfl ?_ | refine Cw.cond_f rfl rfl ?_ | refine Cw.block ?_ | refine Cw.ret ?_ | refine Cw.exit ?_ | refine Cw.skip ?_)) | (first | refine thenQ_n ?_ | refine thenQ_e ?_ | refine blockQ_n ?_ | refine blockQ_e ?_)))
      (repeat' (first | (refine Ow.is ?_; (first | refine Ow.pu rfl (Pu.fld0 rfl) ?_ | refine Ow.nil ?_ | refine Ow.pu rfl (Pu.move rfl) ?_ | refine Ow.pu rfl (Pu.assign rfl) ?_)) | (refine Cw.is ?_; (first | refine Cw.seq ?_ | refine Cw.region ?_ | refine Cw.cond_t rfl rfl ?_ | refine Cw.cond_f rfl rfl ?_ | refine Cw.block ?_ | refine Cw.ret ?_ | refine Cw.exit ?_ | refine Cw.skip ?_)) | (first | refine thenQ_n ?_ | refine thenQ_e ?_ | refine blockQ_n ?_ | refine blockQ_e ?_)))
      rw [hdone]
      refine retQ_m (.inr rfl) pkA sb (res1 Tryd.results17 rfl) ?_
      refine Ent.trans ?_ (Ent.left (Ent.right (Ent.trans (gpW_mk g q rb (W.flatMap wkc) O s.G (s.T.map sltO) tv) (gph_mk g q s (rb := rb) hOO rfl rfl hWl hW))))
      ((try simp only [star_assoc]); (repeat (apply Ent.pk; exact pkA)); first | exact Ent.fin pkA | exact Ent.refl _)
    · replace h0 : l = l' ++ [z] := by rw [h0]; simp
      have hzo := (hwl.hl z (by rw [h0]; simp)).1
      have hlen : l.length = l'.length + 1 := by rw [h0]; simp
      have hz : l[((l.length : Int) - 1).toNat]! = z := by
        rw [show ((l.length : Int) - 1).toNat = l'.length by omega, h0, getElem!_pos _ _ (by simp)]; simp
      have htk : l.take ((l.length : Int) - 1).toNat = l' := by
        rw [show ((l.length : Int) - 1).toNat = l'.length by omega, h0]; simp
      rw [h0] at hwl hm
      obtain ⟨zn, rfl⟩ : ∃ zn : Nat, z = zn := ⟨z.toNat, by unfold okR at hzo; omega⟩
      unfold okR at hzo
      (repeat' (first | (refine Ow.is ?_; (first | refine Ow.pu rfl (Pu.fld0 rfl) ?_ | refine Ow.nil ?_ | refine Ow.pu rfl (Pu.assign rfl) ?_ | (refine Ow.kLoad ?_; (first | refine Ow.pu rfl (Pu.load_stfd (o := 0) (w := fo) rfl pkA (by omega) hfo rfl) ?_ | refine Ow.pu rfl (Pu.load_cl rfl pkA rfl) ?_ | refine Ow.pu rfl (Pu.load_sli rfl pkA (by first | omega | (simp only [List.length_set, List.length_append, List.length_replicate, List.length_cons, List.length_nil]; omega))) ?_)) | (refine Ow.kBin ?_; (first | (refine Ow.b_gtr ?_; first | refine Ow.pu rfl (Pu.gt_t rfl rfl (by omega)) ?_ | refine Ow.pu rfl (Pu.gt_f rfl rfl (by omega)) ?_ | refine Ow.sp rfl (by exact Pu.gt rfl rfl) (fun hc => ?_) (fun hc => ?_)) | (refine Ow.b_sub ?_; refine Ow.pu rfl (Pu.sub_i rfl rfl (by omega)) ?_))) | (refine Ow.kIdx ?_; (first | refine Ow.pu rfl (Pu.idx_st rfl rfl pkA (by omega)) ?_ | refine Ow.pu rfl (Pu.idx_sl rfl rfl pkA (by simp only [List.length_map, List.length_append, List.length_set, List.length_replicate, List.length_cons, List.length_nil]; omega)) ?_)) | (refine Ow.kBuiltin ?_; (first | refine Ow.pu rfl (Pu.len_st rfl pkA) ?_ | refine Ow.pu rfl (Pu.len_slm rfl pkA) ?_)))) | (refine Cw.is ?_; (first | refine Cw.seq ?_ | refine Cw.region ?_ | refine Cw.cond_t rfl rfl ?_ | refine Cw.cond_f rfl rfl ?_ | refine Cw.block ?_ | refine Cw.ret ?_ | refine Cw.exit ?_ | refine Cw.skip ?_)) | (first | refine thenQ_n ?_ | refine thenQ_e ?_ | refine blockQ_n ?_ | refine blockQ_e ?_)))
      rw [hz]
      (repeat' (first | (refine Ow.is ?_; (first | refine Ow.pu rfl (Pu.fld0 rfl) ?_ | refine Ow.nil ?_ | refine Ow.pu rfl (Pu.assign rfl) ?_ | (refine Ow.kLoad ?_; (first | refine Ow.pu rfl (Pu.load_stfd (o := 0) (w := fo) rfl pkA (by omega) hfo rfl) ?_ | refine Ow.pu rfl (Pu.load_cl rfl pkA rfl) ?_ | refine Ow.pu rfl (Pu.load_sli rfl pkA (by first | omega | (simp only [List.length_set, List.length_append, List.length_replicate, List.length_cons, List.length_nil]; omega))) ?_)) | (refine Ow.kBin ?_; (first | (refine Ow.b_sub ?_; refine Ow.pu rfl (Pu.sub_i rfl rfl (by omega)) ?_))) | (refine Ow.kStore ?_; (first | refine Ow.store_cl rfl rfl rfl (by (first | rfl | assumption | exact Subtype.property _)) pkA rfl ?_)) | (refine Ow.kIdx ?_; (first | refine Ow.pu rfl (Pu.idx_st rfl rfl pkA (by omega)) ?_ | refine Ow.pu rfl (Pu.idx_sl rfl rfl pkA (by simp only [List.length_map, List.length_append, List.length_set, List.length_replicate, List.length_cons, List.length_nil]; omega)) ?_)) | (refine Ow.kBuiltin ?_; (first | refine Ow.pu rfl (Pu.len_st rfl pkA) ?_ | refine Ow.pu rfl (Pu.len_slm rfl pkA) ?_)) | refine Ow.slice_sli rfl rfl rfl pkA (by omega) (fun sv => ?_))) | (refine Cw.is ?_; (first | refine Cw.seq ?_ | refine Cw.region ?_ | refine Cw.cond_t rfl rfl ?_ | refine Cw.cond_f rfl rfl ?_ | refine Cw.block ?_ | refine Cw.ret ?_ | refine Cw.exit ?_ | refine Cw.skip ?_)) | (first | refine thenQ_n ?_ | refine thenQ_e ?_ | refine blockQ_n ?_ | refine blockQ_e ?_)))
      rw [htk]
      by_cases hzz : zn = 0 ∨ V zn = true
      · have hsk := hwl.skip (z := (zn : Int)) (hzz.imp (fun h => by omega) (fun h => by rw [Int.toNat_natCast]; exact h))
        have hmm := wlM_skip (n := O.length) (V := V) (l := l') (z := (zn : Int))
        by_cases hz0 : zn = 0
        · (repeat' (first | (refine Ow.is ?_; (first | refine Ow.pu rfl (Pu.fld0 rfl) ?_ | refine Ow.nil ?_ | refine Ow.pu rfl (Pu.move rfl) ?_ | (refine Ow.kGuard ?_; (first | refine Ow.guard_yes rfl rfl rfl ?_ | refine Ow.guard_no rfl rfl rfl rfl ?_)) | (refine Ow.kLoad ?_; (first | refine Ow.pu rfl (Pu.load_stfd (o := 0) (w := fo) rfl pkA (by omega) hfo rfl) ?_ | refine Ow.pu rfl (Pu.load_cl rfl pkA rfl) ?_ | refine Ow.pu rfl (Pu.load_sli rfl pkA (by first | omega | (simp only [List.length_set, List.length_append, List.length_replicate, List.length_cons, List.length_nil]; omega))) ?_)) | (refine Ow.kBin ?_; (first | (refine Ow.b_neq ?_; (first | refine Ow.pu rfl (Pu.ne_t rfl rfl odA) ?_ | refine Ow.pu rfl (Pu.ne_f rfl rfl roA) ?_)) | (refine Ow.b_sub ?_; refine Ow.pu rfl (Pu.sub_i rfl rfl (by omega)) ?_))) | (refine Ow.kPick ?_; (first | refine Ow.pu rfl (Pu.pick_t rfl rfl) ?_ | refine Ow.pu rfl (Pu.pick_f rfl rfl) ?_)) | (refine Ow.kStore ?_; (first | refine Ow.store_cl rfl rfl rfl (by (first | rfl | assumption | exact Subtype.property _)) pkA rfl ?_)) | (refine Ow.kBuiltin ?_; (first | refine Ow.pu rfl (Pu.len_st rfl pkA) ?_ | refine Ow.pu rfl (Pu.len_slm rfl pkA) ?_)) | (refine Ow.kCall ?_; (first | refine Ow.callE evA pkA rfl hput (fun _ => ?_) | fail)) | refine Ow.slice_sli rfl rfl rfl pkA (by omega) (fun sv => ?_))) | (refine Cw.is ?_; (first | refine Cw.seq ?_ | refine Cw.region ?_ | refine Cw.cond_t rfl rfl ?_ | refine Cw.cond_f rfl rfl ?_ | refine Cw.block ?_ | refine Cw.ret ?_ | refine Cw.exit ?_ | refine Cw.skip ?_)) | (first | refine thenQ_n ?_ | refine thenQ_e ?_ | refine blockQ_n ?_ | refine blockQ_e ?_)))
          exact ⟨rfl, ⟨V, l', sv⟩, ⟨hsk, by simp only; omega⟩, by simp only; rw [h0]; omega, by (repeat first | exact trivial | refine ⟨rfl, ?_⟩), by ((try simp only [star_assoc]); (repeat (apply Ent.pk; exact pkA)); first | exact Ent.fin pkA | exact Ent.refl _)⟩
        · have hV : V zn = true := hzz.resolve_left hz0
          have hput : Fn Tryd.prog 34 [.pointer (some ⟨sb, 0, none⟩), vi zn] (bset sb (O.length + 1) V) Unit (fun _ => .bool false) (fun _ => bset sb (O.length + 1) V) := by
            have h := Put_f sb (O.length + 1) V (by omega) zn (by omega) hV
            rw [upd_tt hV] at h; exact h
          (repeat' (first | (refine Ow.is ?_; (first | refine Ow.pu rfl (Pu.fld0 rfl) ?_ | refine Ow.nil ?_ | refine Ow.pu rfl (Pu.move rfl) ?_ | (refine Ow.kGuard ?_; (first | refine Ow.guard_yes rfl rfl rfl ?_ | refine Ow.guard_no rfl rfl rfl rfl ?_)) | (refine Ow.kLoad ?_; (first | refine Ow.pu rfl (Pu.load_stfd (o := 0) (w := fo) rfl pkA (by omega) hfo rfl) ?_ | refine Ow.pu rfl (Pu.load_cl rfl pkA rfl) ?_ | refine Ow.pu rfl (Pu.load_sli rfl pkA (by first | omega | (simp only [List.length_set, List.length_append, List.length_replicate, List.length_cons, List.length_nil]; omega))) ?_)) | (refine Ow.kBin ?_; (first | (refine Ow.b_neq ?_; (first | refine Ow.pu rfl (Pu.ne_t rfl rfl odA) ?_ | refine Ow.pu rfl (Pu.ne_f rfl rfl roA) ?_)) | (refine Ow.b_sub ?_; refine Ow.pu rfl (Pu.sub_i rfl rfl (by omega)) ?_))) | (refine Ow.kPick ?_; (first | refine Ow.pu rfl (Pu.pick_t rfl rfl) ?_ | refine Ow.pu rfl (Pu.pick_f rfl rfl) ?_)) | (refine Ow.kStore ?_; (first | refine Ow.store_cl rfl rfl rfl (by (first | rfl | assumption | exact Subtype.property _)) pkA rfl ?_)) | (refine Ow.kBuiltin ?_; (first | refine Ow.pu rfl (Pu.len_st rfl pkA) ?_ | refine Ow.pu rfl (Pu.len_slm rfl pkA) ?_)) | (refine Ow.kCall ?_; (first | refine Ow.callE evA pkA rfl hput (fun _ => ?_) | fail)) | refine Ow.slice_sli rfl rfl rfl pkA (by omega) (fun sv => ?_))) | (refine Cw.is ?_; (first | refine Cw.seq ?_ | refine Cw.region ?_ | refine Cw.cond_t rfl rfl ?_ | refine Cw.cond_f rfl rfl ?_ | refine Cw.block ?_ | refine Cw.ret ?_ | refine Cw.exit ?_ | refine Cw.skip ?_)) | (first | refine thenQ_n ?_ | refine thenQ_e ?_ | refine blockQ_n ?_ | refine blockQ_e ?_)))
          exact ⟨rfl, ⟨V, l', sv⟩, ⟨hsk, by simp only; omega⟩, by simp only; rw [h0]; omega, by (repeat first | exact trivial | refine ⟨rfl, ?_⟩), by ((try simp only [star_assoc]); (repeat (apply Ent.pk; exact pkA)); first | exact Ent.fin pkA | exact Ent.refl _)⟩
      · have hz0 : zn ≠ 0 := fun h => hzz (.inl h)
        have hV : V zn = false := by
          cases e : V zn with
          | false => rfl
          | true => exact (hzz (.inr e)).elim
        have hput := Put_t sb (O.length + 1) V (by omega) zn (by omega) hV
        have hjo : ((zn : Int) - 1).toNat < O.length := by omega
        have hob' := obs_at O ((zn : Int) - 1).toNat hjo
        obtain ⟨fo, hfo⟩ : ∃ fo, O[((zn : Int) - 1).toNat]! = fo := ⟨_, rfl⟩
        have hfl : flds O (zn : Int) = fo.2.1 := by unfold flds; rw [hfo]
        have hf6 := (hoko.f (z := (zn : Int)) (by omega)).1
        have hpw := hwl.put hoko (by omega)
        have hmp := wlM_put hwl hoko (by omega) (by rw [Int.toNat_natCast]; exact hV)
        rw [hfl] at hf6 hpw hmp
        rw [Int.toNat_natCast] at hpw hmp
        rw [hfo] at hob'
        (repeat' (first | (refine Ow.is ?_; (first | refine Ow.pu rfl (Pu.fld0 rfl) ?_ | refine Ow.nil ?_ | refine Ow.pu rfl (Pu.move rfl) ?_ | (refine Ow.kGuard ?_; (first | refine Ow.guard_yes rfl rfl rfl ?_ | refine Ow.guard_no rfl rfl rfl rfl ?_)) | (refine Ow.kLoad ?_; (first | refine Ow.pu rfl (Pu.load_stfd (o := 0) (w := fo) rfl pkA (by omega) hfo rfl) ?_ | refine Ow.pu rfl (Pu.load_cl rfl pkA rfl) ?_ | refine Ow.pu rfl (Pu.load_sli rfl pkA (by first | omega | (simp only [List.length_set, List.length_append, List.length_replicate, List.length_cons, List.length_nil]; omega))) ?_)) | (refine Ow.kBin ?_; (first | (refine Ow.b_neq ?_; (first | refine Ow.pu rfl (Pu.ne_t rfl rfl odA) ?_ | refine Ow.pu rfl (Pu.ne_f rfl rfl roA) ?_)) | (refine Ow.b_sub ?_; refine Ow.pu rfl (Pu.sub_i rfl rfl (by omega)) ?_))) | (refine Ow.kPick ?_; (first | refine Ow.pu rfl (Pu.pick_t rfl rfl) ?_ | refine Ow.pu rfl (Pu.pick_f rfl rfl) ?_)) | (refine Ow.kStore ?_; (first | refine Ow.store_cl rfl rfl rfl (by (first | rfl | assumption | exact Subtype.property _)) pkA rfl ?_)) | (refine Ow.kBuiltin ?_; (first | refine Ow.pu rfl (Pu.len_st rfl pkA) ?_ | refine Ow.pu rfl (Pu.len_slm rfl pkA) ?_)) | (refine Ow.kCall ?_; (first | refine Ow.callE evA pkA rfl hput (fun _ => ?_) | fail)) | refine Ow.slice_sli rfl rfl rfl pkA (by omega) (fun sv => ?_))) | (refine Cw.is ?_; (first | refine Cw.seq ?_ | refine Cw.region ?_ | refine Cw.cond_t rfl rfl ?_ | refine Cw.cond_f rfl rfl ?_ | refine Cw.block ?_ | refine Cw.ret ?_ | refine Cw.exit ?_ | refine Cw.skip ?_)) | (first | refine thenQ_n ?_ | refine thenQ_e ?_ | refine blockQ_n ?_ | refine blockQ_e ?_)))
        rw [hob']
        (refine Cw.heq (by simp only [star_assoc, emp_star, star_emp]; exact rfl) ?_)
        (refine Cw.drawF3 (cl b4 _) (gcl _ _ _ _ _) (slk 2 tv.v _) 11 [(0, false), (1, false), (2, false), (3, false), (4, false), (5, false), (6, false), (7, false), (8, false), (9, false), (10, true), (11, true)] pkA pkA pkA mixed (by kernel_rfl) ?_; (iterate 10 ((first | refine DwF.q rfl rfl (by kernel_rfl) trivial (by (first | exact Pu.move rfl | exact Pu.assign rfl | exact Pu.fld rfl | exact Pu.nilCheck rfl | exact Pu.fld0 rfl | (apply Pu.kLoad; (first | exact Pu.load_stfd (o := 0) (w := fo) rfl pkA (by omega) hfo rfl | exact Pu.load_cl rfl pkA rfl | exact Pu.load_sli rfl pkA (by first | omega | (simp only [List.length_set, List.length_append, List.length_replicate, List.length_cons, List.length_nil]; omega)))) | (apply Pu.kIdx; (first | exact Pu.idx_st rfl rfl pkA (by omega) | exact Pu.idx_sl rfl rfl pkA (by simp only [List.length_map, List.length_append, List.length_set, List.length_replicate, List.length_cons, List.length_nil]; omega))) | (apply Pu.kBin; (first | (apply Pu.b_sub; exact Pu.sub_i rfl rfl (by omega)))))) ?_ | refine DwF.q rfl rfl (by kernel_rfl) ⟨_, _, rfl, rfl, rfl⟩ (by (first | exact Pu.move rfl | exact Pu.assign rfl | exact Pu.fld rfl | exact Pu.nilCheck rfl | exact Pu.fld0 rfl | (apply Pu.kLoad; (first | exact Pu.load_stfd (o := 0) (w := fo) rfl pkA (by omega) hfo rfl | exact Pu.load_cl rfl pkA rfl | exact Pu.load_sli rfl pkA (by first | omega | (simp only [List.length_set, List.length_append, List.length_replicate, List.length_cons, List.length_nil]; omega)))) | (apply Pu.kIdx; (first | exact Pu.idx_st rfl rfl pkA (by omega) | exact Pu.idx_sl rfl rfl pkA (by simp only [List.length_map, List.length_append, List.length_set, List.length_replicate, List.length_cons, List.length_nil]; omega))) | (apply Pu.kBin; (first | (apply Pu.b_sub; exact Pu.sub_i rfl rfl (by omega)))))) ?_))); refine DwF.c rfl (by first | exact trivial | exact ⟨_, _, rfl, rfl, rfl⟩) rfl ?_; refine Ow.as3 ?_; refine Ow.append_sli (l2 := fo.2.1) rfl rfl rfl pkA (rdSl_sli.of_pk pkA) (by omega) (fun sv3 => ?_); refine Ow.nil ?_; refine loudG.go3 pkA pkA pkA ?_; refine DwF.b rfl (by first | exact trivial | exact ⟨_, _, rfl, rfl, rfl⟩) rfl ?_; refine Ow.as3 ?_; refine Ow.store_cl rfl rfl rfl (by (first | rfl | assumption | exact Subtype.property _)) pkA rfl ?_; refine Ow.nil ?_; refine loudF.go ?_; refine DwF.nil ?_)
        (repeat' (first | (refine Ow.is ?_; (first | refine Ow.pu rfl (Pu.fld rfl) ?_ | refine Ow.pu rfl (Pu.fld0 rfl) ?_ | refine Ow.nil ?_ | refine Ow.pu rfl (Pu.move rfl) ?_ | refine Ow.pu rfl (Pu.fld rfl) ?_ | refine Ow.pu rfl (Pu.nilCheck rfl) ?_ | (refine Ow.kLoad ?_; (first | refine Ow.pu rfl (Pu.load_stfd (o := 0) (w := fo) rfl pkA (by omega) hfo rfl) ?_ | refine Ow.pu rfl (Pu.load_cl rfl pkA rfl) ?_ | refine Ow.pu rfl (Pu.load_sli rfl pkA (by first | omega | (simp only [List.length_set, List.length_append, List.length_replicate, List.length_cons, List.length_nil]; omega))) ?_)) | (refine Ow.kBin ?_; (first | (refine Ow.b_sub ?_; refine Ow.pu rfl (Pu.sub_i rfl rfl (by omega)) ?_))) | (refine Ow.kStore ?_; (first | refine Ow.store_cl rfl rfl rfl (by (first | rfl | assumption | exact Subtype.property _)) pkA rfl ?_)) | (refine Ow.kIdx ?_; (first | refine Ow.pu rfl (Pu.idx_st rfl rfl pkA (by omega)) ?_ | refine Ow.pu rfl (Pu.idx_sl rfl rfl pkA (by simp only [List.length_map, List.length_append, List.length_set, List.length_replicate, List.length_cons, List.length_nil]; omega)) ?_)) | (refine Ow.kBuiltin ?_; (first | refine Ow.append_sli rfl rfl rfl pkA ((rdSl_cli (l2 := [_]) rfl).of_pk pkA) (by first | (simp; done) | (simp; omega)) (fun sv => ?_))))) | (refine Cw.is ?_; (first | refine Cw.seq ?_ | refine Cw.region ?_ | refine Cw.cond_t rfl rfl ?_ | refine Cw.cond_f rfl rfl ?_ | refine Cw.block ?_ | refine Cw.ret ?_ | refine Cw.exit ?_ | refine Cw.skip ?_)) | (first | refine thenQ_n ?_ | refine thenQ_e ?_ | refine blockQ_n ?_ | refine blockQ_e ?_)))
        exact ⟨rfl, ⟨upd V zn true, l' ++ fo.2.1, sv3⟩, ⟨hpw, by simp only; omega⟩, by simp only; rw [h0]; exact hmp, by (repeat first | exact trivial | refine ⟨rfl, ?_⟩), by simp only; ((try simp only [star_assoc]); (repeat (apply Ent.pk; exact pkA)); first | exact Ent.fin pkA | exact Ent.refl _)⟩
end Go.Sl
namespace Go.Sl
open Go Go.Proofs
set_option linter.unusedVariables false
set_option linter.unusedSimpArgs false
universe u
theorem obs_nil : obs [] = emp := rfl
section
variable {P : Program} {r : Option Nat} {n : Nat} {Q : PostT} {ρ : Env} {ds : List Deferred} {H R : HP} {t : TypeId} {kk bb : Nat} {zc : List Value} {v : Value} {cs : List Value}
theorem rescNt {fn : Func} {i k : Nat} [T : TyA P t true] [S : TyS P t kk bb zc] (h : fn.results = #[.cell i t, .tmp k]) {b o : Nat} {vs : List Value} (hi : lk ρ i = some (.pointer (some ⟨b, o, none⟩))) (hp : Pk H (cl b cs) R) (ho : (cs.drop o).take kk = vs) (hk : vs.length = kk) (hv : lk ρ k = some v) : Res P fn ρ H (.tuple #[.agg vs.toArray, v]) := fun _ _ _ _ hrp hs => by
  have h1 := hrp.2 _ _ hi
  have h2 := hrp.2 _ _ hv
  have hl := run_loadCells (P := P) (w := by assumption) (a := ⟨b, o, none⟩) (vs := vs) 0 #[] (fun j v hj => by
    rw [Nat.zero_add, addr_add]
    refine hs.cell hp (rd_cl ?_)
    rw [← ho, List.getElem?_take] at hj
    split at hj
    · simpa [List.getElem?_drop] using hj
    · cases hj)
  rw [hk] at hl
  simp [results, h, h1, h2, asAddr, loadVar, run_agg, run_size, loadCells, hl]
theorem retQ_cNt {fn : Func} {β : Type u} {val : β → Value} {post : β → HP} {F : HP} (w : β) {i k : Nat} [T : TyA P t true] [S : TyS P t kk bb zc] (h : fn.results = #[.cell i t, .tmp k]) {b o : Nat} {vs : List Value} (hi : lk ρ i = some (.pointer (some ⟨b, o, none⟩))) (hp : Pk H (cl b cs) R) (ho : (cs.drop o).take kk = vs) (hk : vs.length = kk) (hv' : lk ρ k = some v)
    (hv : .tuple #[.agg vs.toArray, v] = val w) (hH : Ent H (post w * F)) : retQ P fn val post F .ret ρ [] H := ⟨.inr rfl, w, hv ▸ rescNt h hi hp ho hk hv', hH⟩
end
attribute [local irreducible] star Ow Cw Pk Pu Dw DwF thenQ blockQ retQ loudQ loudF loudG Cr thr tab obs andI bset lU stAt cn gpW
def gs0 (q : Cfg) : GS SV Nat := ⟨[], List.replicate q.globals.toNat 0, [none, none, none, none]⟩
theorem GNew_fn (q : Cfg) (hq8 : QOk q) : Fn Tryd.prog 9 [q.v] emp Nat (fun g => .pointer (some ⟨g, 0, none⟩)) (fun g => gph g q (gs0 q)) := by
  obtain ⟨gl, hgl⟩ : ∃ n : Nat, q.globals = n := ⟨q.globals.toNat, by have := hq8.gl; omega⟩
  have hnew : Fn Tryd.prog 22 [q.v] emp Nat (fun b => .pointer (some ⟨b, 0, none⟩)) (fun b => tab b q.threads q.regs q.stack (List.replicate q.globals.toNat 0) [none, none, none, none]) := by
    have h := RNew_fn q.threads q.regs q.stack ⟨q.engine, q.black, q.pages, q.fields, q.mark, q.log, q.budget⟩ gl (by have := hq8.gl; omega)
    rw [show q.globals.toNat = gl by omega]
    rw [show q.v = .agg (cfgC q.threads q.regs q.stack gl ⟨q.engine, q.black, q.pages, q.fields, q.mark, q.log, q.budget⟩).toArray by rw [← hgl]]
    exact h
  (refine Fn.of Tryd.func9 rfl (by kernel_rfl) Tryd.ntmps9 rfl (fun F => ?_))
  refine Cw.heq (emp_star F) ?_
  (repeat' (first | (refine Ow.is ?_; (first | refine Ow.nil ?_ | refine Ow.pu rfl (Pu.assign rfl) ?_ | refine Ow.box rfl rfl rfl (fun bx => ?_))) | (refine Cw.is ?_; (first | refine Cw.seq ?_ | refine Cw.region ?_ | refine Cw.ret ?_)) | (first | refine thenQ_n ?_)))
  (refine Cw.draw1 (cl bx q.cs) false 0 [(0, false), (1, false), (2, true), (3, false), (4, true), (5, false)] pkA mixed (by kernel_rfl) ?_; (repeat (first | refine Dw.q rfl rfl trivial (by (first | exact Pu.assign rfl | exact Pu.build (ps := [(0, .tmp 3), (2, .tmp 5)]) (vs := [.agg q.cs.toArray, .pointer (some ⟨rb, 0, none⟩)]) (cs := q.cs ++ (.slice none 0 0 :: .pointer (some ⟨rb, 0, none⟩) :: (wkc wk0 ++ (wkc wk0 ++ (wkc wk0 ++ wkc wk0))))) evA (fun w => by kernel_rfl) | (apply Pu.kLoad; (first | exact Pu.loadN_cl rfl pkA rfl rfl)))) ?_ | refine Dw.q rfl rfl ⟨_, _, rfl, rfl, rfl⟩ (by (first | exact Pu.assign rfl | exact Pu.build (ps := [(0, .tmp 3), (2, .tmp 5)]) (vs := [.agg q.cs.toArray, .pointer (some ⟨rb, 0, none⟩)]) (cs := q.cs ++ (.slice none 0 0 :: .pointer (some ⟨rb, 0, none⟩) :: (wkc wk0 ++ (wkc wk0 ++ (wkc wk0 ++ wkc wk0))))) evA (fun w => by kernel_rfl) | (apply Pu.kLoad; (first | exact Pu.loadN_cl rfl pkA rfl rfl)))) ?_)); refine Dw.l rfl (by first | exact trivial | exact ⟨_, _, rfl, rfl, rfl⟩) ?_; refine Ow.callE0 evA rfl hnew (fun rb => ?_); refine Ow.nil ?_; refine loudQ.go pkA ?_; (repeat (first | refine Dw.q rfl rfl trivial (by (first | exact Pu.assign rfl | exact Pu.build (ps := [(0, .tmp 3), (2, .tmp 5)]) (vs := [.agg q.cs.toArray, .pointer (some ⟨rb, 0, none⟩)]) (cs := q.cs ++ (.slice none 0 0 :: .pointer (some ⟨rb, 0, none⟩) :: (wkc wk0 ++ (wkc wk0 ++ (wkc wk0 ++ wkc wk0))))) evA (fun w => by kernel_rfl) | (apply Pu.kLoad; (first | exact Pu.loadN_cl rfl pkA rfl rfl)))) ?_ | refine Dw.q rfl rfl ⟨_, _, rfl, rfl, rfl⟩ (by (first | exact Pu.assign rfl | exact Pu.build (ps := [(0, .tmp 3), (2, .tmp 5)]) (vs := [.agg q.cs.toArray, .pointer (some ⟨rb, 0, none⟩)]) (cs := q.cs ++ (.slice none 0 0 :: .pointer (some ⟨rb, 0, none⟩) :: (wkc wk0 ++ (wkc wk0 ++ (wkc wk0 ++ wkc wk0))))) evA (fun w => by kernel_rfl) | (apply Pu.kLoad; (first | exact Pu.loadN_cl rfl pkA rfl rfl)))) ?_)); refine Dw.l rfl (by first | exact trivial | exact ⟨_, _, rfl, rfl, rfl⟩) ?_; refine Ow.box rfl rfl rfl (fun g => ?_); refine Ow.nil ?_; refine loudQ.go pkA ?_; (repeat (first | refine Dw.q rfl rfl trivial (by (first | exact Pu.assign rfl | exact Pu.build (ps := [(0, .tmp 3), (2, .tmp 5)]) (vs := [.agg q.cs.toArray, .pointer (some ⟨rb, 0, none⟩)]) (cs := q.cs ++ (.slice none 0 0 :: .pointer (some ⟨rb, 0, none⟩) :: (wkc wk0 ++ (wkc wk0 ++ (wkc wk0 ++ wkc wk0))))) evA (fun w => by kernel_rfl) | (apply Pu.kLoad; (first | exact Pu.loadN_cl rfl pkA rfl rfl)))) ?_ | refine Dw.q rfl rfl ⟨_, _, rfl, rfl, rfl⟩ (by (first | exact Pu.assign rfl | exact Pu.build (ps := [(0, .tmp 3), (2, .tmp 5)]) (vs := [.agg q.cs.toArray, .pointer (some ⟨rb, 0, none⟩)]) (cs := q.cs ++ (.slice none 0 0 :: .pointer (some ⟨rb, 0, none⟩) :: (wkc wk0 ++ (wkc wk0 ++ (wkc wk0 ++ wkc wk0))))) evA (fun w => by kernel_rfl) | (apply Pu.kLoad; (first | exact Pu.loadN_cl rfl pkA rfl rfl)))) ?_)); refine Dw.nil ?_ rfl)
  (repeat' (first | (refine Ow.is ?_; (first | refine Ow.nil ?_ | refine Ow.pu rfl (Pu.assign rfl) ?_ | refine Ow.box rfl rfl rfl (fun bx => ?_))) | (refine Cw.is ?_; (first | refine Cw.seq ?_ | refine Cw.region ?_ | refine Cw.ret ?_)) | (first | refine thenQ_n ?_)))
  refine retQ_v g Tryd.results9 rfl rfl ?_
  refine Ent.trans ?_ (Ent.left (Ent.trans (gpW_mk g q rb ([wk0, wk0, wk0, wk0].flatMap wkc) [] (List.replicate q.globals.toNat 0) [none, none, none, none] ⟨none, 0, 0⟩) (gph_mk g q (gs0 q) (rb := rb) (W := [wk0, wk0, wk0, wk0]) rfl rfl rfl rfl (fun j p hj h => by
    rcases (by omega : j = 0 ∨ j = 1 ∨ j = 2 ∨ j = 3) with rfl | rfl | rfl | rfl <;> cases h))))
  refine Ent.addnil 2 ?_
  rw [obs_nil, emp_star]
  ((try simp only [star_assoc]); (repeat (apply Ent.pk; exact pkA)); first | exact Ent.fin pkA | exact Ent.refl _)
theorem Born_fn (g : Nat) (q : Cfg) (s : GS SV Nat) : Fn Tryd.prog 12 [.pointer (some ⟨g, 0, none⟩)] (gph g q s) Unit (fun _ => vi s.O.length) (fun _ => gph g q s) := by
  (refine Fn.of Tryd.func12 rfl (by kernel_rfl) Tryd.ntmps12 rfl (fun F => ?_))
  refine Cw.opn (gph_ex g q s) (fun y => ?_)
  refine Cw.heq (star_assoc _ _ _) ?_
  refine Cw.lift (fun hy => ?_)
  obtain ⟨rb, W⟩ := y
  obtain ⟨hWl, hW⟩ := hy
  dsimp only at hWl hW ⊢
  refine Cw.opn (gpW_ex g q rb _ s.O s.G (s.T.map sltO)) (fun tv => ?_)
  (refine Cw.heq (by simp only [star_assoc, emp_star, star_emp]; exact rfl) ?_)
  (repeat' (first | (refine Ow.is ?_; (first | refine Ow.pu rfl (Pu.fld rfl) ?_ | refine Ow.nil ?_ | refine Ow.pu rfl (Pu.move rfl) ?_ | refine Ow.pu rfl (Pu.assign rfl) ?_ | refine Ow.pu rfl (Pu.fld rfl) ?_ | refine Ow.pu rfl (Pu.nilCheck rfl) ?_ | (refine Ow.kLoad ?_; (first | refine Ow.pu rfl (Pu.load_cl rfl pkA rfl) ?_)) | (refine Ow.kBuiltin ?_; (first | refine Ow.pu rfl (Pu.len_st rfl pkA) ?_)))) | (refine Cw.is ?_; (first | refine Cw.seq ?_ | refine Cw.region ?_ | refine Cw.ret ?_)) | (first | refine thenQ_n ?_)))
  refine retQ_v () Tryd.results12 rfl rfl ?_
  refine Ent.trans ?_ (Ent.left (Ent.trans (gpW_mk g q rb (W.flatMap wkc) s.O s.G (s.T.map sltO) tv) (gph_mk g q s (rb := rb) rfl rfl rfl hWl hW)))
  ((try simp only [star_assoc]); (repeat (apply Ent.pk; exact pkA)); first | exact Ent.fin pkA | exact Ent.refl _)
def atI (s : GS SV Nat) (t : Int) : It := match thOf s t with
  | some p => if p.2.w.ph = 0 then it0 else p.2.w.it
  | none => it0
def atN (s : GS SV Nat) (t : Int) : Int := match thOf s t with
  | some p => p.2.w.ph
  | none => 0
theorem At_fn (g : Nat) (q : Cfg) (s : GS SV Nat) (t : Int) (hok : GsOk q s) : Fn Tryd.prog 16 [.pointer (some ⟨g, 0, none⟩), vi t] (gph g q s) Unit (fun _ => .tuple #[.agg (atI s t).cs.toArray, vi (atN s t)]) (fun _ => gph g q s) := by
  have hT := hok.tl
  obtain ⟨x, hx⟩ : ∃ x : It, x.t = t := ⟨⟨0, t, 0, 0, 0, 0⟩, rfl⟩
  cases hth : thOf s t with
  | none =>
    have e1 : atI s t = it0 := by unfold atI; rw [hth]
    have e2 : atN s t = 0 := by unfold atN; rw [hth]
    rw [e1, e2]
    have hlv := fun rb W => hlv_n g q s x (rb := rb) (W := W) hT (hx ▸ hth)
    rw [hx] at hlv
    (refine Fn.of Tryd.func16 rfl (by kernel_rfl) Tryd.ntmps16 rfl (fun F => ?_))
    refine Cw.opn (gph_ex g q s) (fun y => ?_)
    refine Cw.heq (star_assoc _ _ _) ?_
    refine Cw.lift (fun hy => ?_)
    obtain ⟨rb, W⟩ := y
    obtain ⟨hWl, hW⟩ := hy
    dsimp only at hWl hW ⊢
    have hlv := hlv rb (W.flatMap wkc)
    (repeat' (first | (refine Ow.is ?_; (first | (refine Ow.kBuild ?_; refine Ow.pu rfl (Pu.build (ps := []) (vs := []) (cs := it0.cs) trivial (fun w => by kernel_rfl)) ?_) | refine Ow.pu rfl (Pu.fld rfl) ?_ | refine Ow.nil ?_ | refine Ow.pu rfl (Pu.move rfl) ?_ | refine Ow.pu rfl (Pu.assign rfl) ?_ | refine Ow.pu rfl (Pu.fld rfl) ?_ | refine Ow.pu rfl (Pu.nilCheck rfl) ?_ | (refine Ow.kGuard ?_; (first | refine Ow.guard_yes rfl rfl rfl ?_ | refine Ow.guard_no rfl rfl rfl rfl ?_)) | (refine Ow.kLoad ?_; (first | refine Ow.pu rfl (Pu.loadN (a := ⟨g, 0 + 13 + t.toNat * 7 + 0, none⟩) (vs := w.it.cs) rfl pkA hit rfl) ?_ | refine Ow.pu rfl (Pu.load (a := ⟨g, 0 + 13 + t.toNat * 7 + 6, none⟩) rfl pkA hph) ?_ | refine Ow.pu rfl (Pu.load (a := ⟨g, 0 + 12, none⟩) rfl pkA (gpW_rb g q rb _ _ _ _)) ?_)) | (refine Ow.kBin ?_; (first | (refine Ow.b_eql ?_; (first | refine Ow.pu rfl (Pu.eq_t rfl rfl roA) ?_ | refine Ow.pu rfl (Pu.eq_f rfl rfl odA) ?_)))) | (refine Ow.kPick ?_; (first | refine Ow.pu rfl (Pu.pick_t rfl rfl) ?_ | refine Ow.pu rfl (Pu.pick_f rfl rfl) ?_)) | (refine Ow.kUn ?_; (first | refine Ow.pu rfl (Pu.not rfl) ?_)) | (refine Ow.kStore ?_; (first | refine Ow.storeN rfl rfl rfl rfl rfl pkA rfl ?_)) | (refine Ow.kIdx ?_; (first | refine Ow.pu rfl (Pu.idxA_b rfl rfl (by omega)) ?_ | refine Ow.pu rfl (Pu.idxA_b rfl rfl (by omega)) ?_)) | (refine Ow.kCall ?_; (first | refine Ow.callE evA pkA rfl hlv (fun _ => ?_) | fail)) | (refine Ow.kBuild ?_; (first | fail)) | refine Ow.alloc rfl (fun bx => ?_))) | (refine Cw.is ?_; (first | refine Cw.seq ?_ | refine Cw.region ?_ | refine Cw.cond_t rfl rfl ?_ | refine Cw.cond_f rfl rfl ?_ | refine Cw.ret ?_ | refine Cw.skip ?_)) | (first | refine thenQ_n ?_ | refine thenQ_r ?_)))
    refine retQ_cNt () Tryd.results16 rfl pkA rfl rfl rfl rfl ?_
    refine Ent.trans ?_ (Ent.left (gph_mk g q s (rb := rb) rfl rfl rfl hWl hW))
    ((try simp only [star_assoc]); (repeat (apply Ent.pk; exact pkA)); first | exact Ent.fin pkA | exact Ent.refl _)
  | some pt =>
    obtain ⟨c, th⟩ := pt
    obtain ⟨hx4, hst⟩ := thOf_some hth
    have hj4 : t.toNat < 4 := by omega
    obtain ⟨w, hw⟩ : ∃ w, th.w = w := ⟨_, rfl⟩
    have e2 : atN s t = w.ph := by unfold atN; rw [hth]; simp only [hw]
    have hph3 := (hok.t t.toNat c th hj4 hst).1.ph
    rw [hw] at hph3
    have hlv := fun rb W => hlv_t g q s x (rb := rb) (W := W) hT (hx ▸ hth)
    rw [hx] at hlv
    by_cases h0 : w.ph = 0
    · have e1 : atI s t = it0 := by unfold atI; rw [hth]; simp only [hw, if_pos h0]
      rw [e1, e2, h0]
      (refine Fn.of Tryd.func16 rfl (by kernel_rfl) Tryd.ntmps16 rfl (fun F => ?_))
      refine Cw.opn (gph_ex g q s) (fun y => ?_)
      refine Cw.heq (star_assoc _ _ _) ?_
      refine Cw.lift (fun hy => ?_)
      obtain ⟨rb, W⟩ := y
      obtain ⟨hWl, hW⟩ := hy
      dsimp only at hWl hW ⊢
      have hlv := hlv rb (W.flatMap wkc)
      have hwW : W[t.toNat]! = w := by rw [hW t.toNat (c, th) hj4 hst]; exact hw
      have hph := gpW_ph g q rb s.O s.G (s.T.map sltO) (W := W) (j := t.toNat) (by omega) hwW
      (repeat' (first | (refine Ow.is ?_; (first | (refine Ow.kBuild ?_; refine Ow.pu rfl (Pu.build (ps := []) (vs := []) (cs := it0.cs) trivial (fun w => by kernel_rfl)) ?_) | refine Ow.pu rfl (Pu.fld rfl) ?_ | refine Ow.nil ?_ | refine Ow.pu rfl (Pu.move rfl) ?_ | refine Ow.pu rfl (Pu.assign rfl) ?_ | refine Ow.pu rfl (Pu.fld rfl) ?_ | refine Ow.pu rfl (Pu.nilCheck rfl) ?_ | (refine Ow.kGuard ?_; (first | refine Ow.guard_yes rfl rfl rfl ?_ | refine Ow.guard_no rfl rfl rfl rfl ?_)) | (refine Ow.kLoad ?_; (first | refine Ow.pu rfl (Pu.loadN (a := ⟨g, 0 + 13 + t.toNat * 7 + 0, none⟩) (vs := w.it.cs) rfl pkA hit rfl) ?_ | refine Ow.pu rfl (Pu.load (a := ⟨g, 0 + 13 + t.toNat * 7 + 6, none⟩) rfl pkA hph) ?_ | refine Ow.pu rfl (Pu.load (a := ⟨g, 0 + 12, none⟩) rfl pkA (gpW_rb g q rb _ _ _ _)) ?_)) | (refine Ow.kBin ?_; (first | (refine Ow.b_eql ?_; (first | refine Ow.pu rfl (Pu.eq_t rfl rfl roA) ?_ | refine Ow.pu rfl (Pu.eq_f rfl rfl odA) ?_)))) | (refine Ow.kPick ?_; (first | refine Ow.pu rfl (Pu.pick_t rfl rfl) ?_ | refine Ow.pu rfl (Pu.pick_f rfl rfl) ?_)) | (refine Ow.kUn ?_; (first | refine Ow.pu rfl (Pu.not rfl) ?_)) | (refine Ow.kStore ?_; (first | refine Ow.storeN rfl rfl rfl rfl rfl pkA rfl ?_)) | (refine Ow.kIdx ?_; (first | refine Ow.pu rfl (Pu.idxA_b rfl rfl (by omega)) ?_ | refine Ow.pu rfl (Pu.idxA_b rfl rfl (by omega)) ?_)) | (refine Ow.kCall ?_; (first | refine Ow.callE evA pkA rfl hlv (fun _ => ?_) | fail)) | (refine Ow.kBuild ?_; (first | fail)) | refine Ow.alloc rfl (fun bx => ?_))) | (refine Cw.is ?_; (first | refine Cw.seq ?_ | refine Cw.region ?_ | refine Cw.cond_t rfl rfl ?_ | refine Cw.cond_f rfl rfl ?_ | refine Cw.ret ?_ | refine Cw.skip ?_)) | (first | refine thenQ_n ?_ | refine thenQ_r ?_)))
      refine retQ_cNt () Tryd.results16 rfl pkA rfl rfl rfl rfl ?_
      refine Ent.trans ?_ (Ent.left (gph_mk g q s (rb := rb) rfl rfl rfl hWl hW))
      ((try simp only [star_assoc]); (repeat (apply Ent.pk; exact pkA)); first | exact Ent.fin pkA | exact Ent.refl _)
    · have e1 : atI s t = w.it := by unfold atI; rw [hth]; simp only [hw, if_neg h0]
      rw [e1, e2]
      (refine Fn.of Tryd.func16 rfl (by kernel_rfl) Tryd.ntmps16 rfl (fun F => ?_))
      refine Cw.opn (gph_ex g q s) (fun y => ?_)
      refine Cw.heq (star_assoc _ _ _) ?_
      refine Cw.lift (fun hy => ?_)
      obtain ⟨rb, W⟩ := y
      obtain ⟨hWl, hW⟩ := hy
      dsimp only at hWl hW ⊢
      have hlv := hlv rb (W.flatMap wkc)
      have hwW : W[t.toNat]! = w := by rw [hW t.toNat (c, th) hj4 hst]; exact hw
      have hph := gpW_ph g q rb s.O s.G (s.T.map sltO) (W := W) (j := t.toNat) (by omega) hwW
      have hit := gpW_it g q rb s.O s.G (s.T.map sltO) (W := W) (j := t.toNat) (by omega) hwW
      (repeat' (first | (refine Ow.is ?_; (first | (refine Ow.kBuild ?_; refine Ow.pu rfl (Pu.build (ps := []) (vs := []) (cs := it0.cs) trivial (fun w => by kernel_rfl)) ?_) | refine Ow.pu rfl (Pu.fld rfl) ?_ | refine Ow.nil ?_ | refine Ow.pu rfl (Pu.move rfl) ?_ | refine Ow.pu rfl (Pu.assign rfl) ?_ | refine Ow.pu rfl (Pu.fld rfl) ?_ | refine Ow.pu rfl (Pu.nilCheck rfl) ?_ | (refine Ow.kGuard ?_; (first | refine Ow.guard_yes rfl rfl rfl ?_ | refine Ow.guard_no rfl rfl rfl rfl ?_)) | (refine Ow.kLoad ?_; (first | refine Ow.pu rfl (Pu.loadN (a := ⟨g, 0 + 13 + t.toNat * 7 + 0, none⟩) (vs := w.it.cs) rfl pkA hit rfl) ?_ | refine Ow.pu rfl (Pu.load (a := ⟨g, 0 + 13 + t.toNat * 7 + 6, none⟩) rfl pkA hph) ?_ | refine Ow.pu rfl (Pu.load (a := ⟨g, 0 + 12, none⟩) rfl pkA (gpW_rb g q rb _ _ _ _)) ?_)) | (refine Ow.kBin ?_; (first | (refine Ow.b_eql ?_; (first | refine Ow.pu rfl (Pu.eq_t rfl rfl roA) ?_ | refine Ow.pu rfl (Pu.eq_f rfl rfl odA) ?_)))) | (refine Ow.kPick ?_; (first | refine Ow.pu rfl (Pu.pick_t rfl rfl) ?_ | refine Ow.pu rfl (Pu.pick_f rfl rfl) ?_)) | (refine Ow.kUn ?_; (first | refine Ow.pu rfl (Pu.not rfl) ?_)) | (refine Ow.kStore ?_; (first | refine Ow.storeN rfl rfl rfl rfl rfl pkA rfl ?_)) | (refine Ow.kIdx ?_; (first | refine Ow.pu rfl (Pu.idxA_b rfl rfl (by omega)) ?_ | refine Ow.pu rfl (Pu.idxA_b rfl rfl (by omega)) ?_)) | (refine Ow.kCall ?_; (first | refine Ow.callE evA pkA rfl hlv (fun _ => ?_) | fail)) | (refine Ow.kBuild ?_; (first | fail)) | refine Ow.alloc rfl (fun bx => ?_))) | (refine Cw.is ?_; (first | refine Cw.seq ?_ | refine Cw.region ?_ | refine Cw.cond_t rfl rfl ?_ | refine Cw.cond_f rfl rfl ?_ | refine Cw.ret ?_ | refine Cw.skip ?_)) | (first | refine thenQ_n ?_ | refine thenQ_r ?_)))
      (refine Cw.draw1 (gpW _ _ _ _ _ _ _) false 0 [(0, false), (1, false), (2, false), (3, false), (4, false), (5, false), (6, false), (7, false), (8, false), (9, false), (10, false), (11, false), (12, false), (13, false), (14, true), (15, false)] pkA mixed (by kernel_rfl) ?_; (repeat (first | refine Dw.q rfl rfl trivial (by (first | exact Pu.move rfl | exact Pu.assign rfl | exact Pu.fld rfl | exact Pu.nilCheck rfl | exact Pu.build (ps := [(0, .tmp 3), (2, .tmp 5)]) (vs := [.agg q.cs.toArray, .pointer (some ⟨rb, 0, none⟩)]) (cs := q.cs ++ (.slice none 0 0 :: .pointer (some ⟨rb, 0, none⟩) :: (wkc wk0 ++ (wkc wk0 ++ (wkc wk0 ++ wkc wk0))))) evA (fun w => by kernel_rfl) | (apply Pu.kLoad; (first | exact Pu.loadN (a := ⟨g, 0 + 13 + t.toNat * 7 + 0, none⟩) (vs := w.it.cs) rfl pkA hit rfl | exact Pu.load (a := ⟨g, 0 + 13 + t.toNat * 7 + 6, none⟩) rfl pkA hph | exact Pu.load (a := ⟨g, 0 + 12, none⟩) rfl pkA (gpW_rb g q rb _ _ _ _))) | (apply Pu.kIdx; (first | exact Pu.idxA_b rfl rfl (by omega) | exact Pu.idxA_b rfl rfl (by omega))))) ?_ | refine Dw.q rfl rfl ⟨_, _, rfl, rfl, rfl⟩ (by (first | exact Pu.move rfl | exact Pu.assign rfl | exact Pu.fld rfl | exact Pu.nilCheck rfl | exact Pu.build (ps := [(0, .tmp 3), (2, .tmp 5)]) (vs := [.agg q.cs.toArray, .pointer (some ⟨rb, 0, none⟩)]) (cs := q.cs ++ (.slice none 0 0 :: .pointer (some ⟨rb, 0, none⟩) :: (wkc wk0 ++ (wkc wk0 ++ (wkc wk0 ++ wkc wk0))))) evA (fun w => by kernel_rfl) | (apply Pu.kLoad; (first | exact Pu.loadN (a := ⟨g, 0 + 13 + t.toNat * 7 + 0, none⟩) (vs := w.it.cs) rfl pkA hit rfl | exact Pu.load (a := ⟨g, 0 + 13 + t.toNat * 7 + 6, none⟩) rfl pkA hph | exact Pu.load (a := ⟨g, 0 + 12, none⟩) rfl pkA (gpW_rb g q rb _ _ _ _))) | (apply Pu.kIdx; (first | exact Pu.idxA_b rfl rfl (by omega) | exact Pu.idxA_b rfl rfl (by omega))))) ?_)); refine Dw.l rfl (by first | exact trivial | exact ⟨_, _, rfl, rfl, rfl⟩) ?_; refine Ow.storeN rfl rfl rfl rfl rfl pkA rfl ?_; refine Ow.nil ?_; refine loudQ.go pkA ?_; (repeat (first | refine Dw.q rfl rfl trivial (by (first | exact Pu.move rfl | exact Pu.assign rfl | exact Pu.fld rfl | exact Pu.nilCheck rfl | exact Pu.build (ps := [(0, .tmp 3), (2, .tmp 5)]) (vs := [.agg q.cs.toArray, .pointer (some ⟨rb, 0, none⟩)]) (cs := q.cs ++ (.slice none 0 0 :: .pointer (some ⟨rb, 0, none⟩) :: (wkc wk0 ++ (wkc wk0 ++ (wkc wk0 ++ wkc wk0))))) evA (fun w => by kernel_rfl) | (apply Pu.kLoad; (first | exact Pu.loadN (a := ⟨g, 0 + 13 + t.toNat * 7 + 0, none⟩) (vs := w.it.cs) rfl pkA hit rfl | exact Pu.load (a := ⟨g, 0 + 13 + t.toNat * 7 + 6, none⟩) rfl pkA hph | exact Pu.load (a := ⟨g, 0 + 12, none⟩) rfl pkA (gpW_rb g q rb _ _ _ _))) | (apply Pu.kIdx; (first | exact Pu.idxA_b rfl rfl (by omega) | exact Pu.idxA_b rfl rfl (by omega))))) ?_ | refine Dw.q rfl rfl ⟨_, _, rfl, rfl, rfl⟩ (by (first | exact Pu.move rfl | exact Pu.assign rfl | exact Pu.fld rfl | exact Pu.nilCheck rfl | exact Pu.build (ps := [(0, .tmp 3), (2, .tmp 5)]) (vs := [.agg q.cs.toArray, .pointer (some ⟨rb, 0, none⟩)]) (cs := q.cs ++ (.slice none 0 0 :: .pointer (some ⟨rb, 0, none⟩) :: (wkc wk0 ++ (wkc wk0 ++ (wkc wk0 ++ wkc wk0))))) evA (fun w => by kernel_rfl) | (apply Pu.kLoad; (first | exact Pu.loadN (a := ⟨g, 0 + 13 + t.toNat * 7 + 0, none⟩) (vs := w.it.cs) rfl pkA hit rfl | exact Pu.load (a := ⟨g, 0 + 13 + t.toNat * 7 + 6, none⟩) rfl pkA hph | exact Pu.load (a := ⟨g, 0 + 12, none⟩) rfl pkA (gpW_rb g q rb _ _ _ _))) | (apply Pu.kIdx; (first | exact Pu.idxA_b rfl rfl (by omega) | exact Pu.idxA_b rfl rfl (by omega))))) ?_)); refine Dw.nil ?_ rfl)
      (repeat' (first | (refine Ow.is ?_; (first | refine Ow.pu rfl (Pu.fld rfl) ?_ | refine Ow.nil ?_ | refine Ow.pu rfl (Pu.move rfl) ?_ | refine Ow.pu rfl (Pu.assign rfl) ?_ | refine Ow.pu rfl (Pu.fld rfl) ?_ | refine Ow.pu rfl (Pu.nilCheck rfl) ?_ | (refine Ow.kLoad ?_; (first | refine Ow.pu rfl (Pu.loadN (a := ⟨g, 0 + 13 + t.toNat * 7 + 0, none⟩) (vs := w.it.cs) rfl pkA hit rfl) ?_ | refine Ow.pu rfl (Pu.load (a := ⟨g, 0 + 13 + t.toNat * 7 + 6, none⟩) rfl pkA hph) ?_ | refine Ow.pu rfl (Pu.load (a := ⟨g, 0 + 12, none⟩) rfl pkA (gpW_rb g q rb _ _ _ _)) ?_)) | (refine Ow.kStore ?_; (first | refine Ow.storeN rfl rfl rfl rfl rfl pkA rfl ?_)) | (refine Ow.kIdx ?_; (first | refine Ow.pu rfl (Pu.idxA_b rfl rfl (by omega)) ?_ | refine Ow.pu rfl (Pu.idxA_b rfl rfl (by omega)) ?_)))) | (refine Cw.is ?_; (first | refine Cw.seq ?_ | refine Cw.region ?_ | refine Cw.cond_t rfl rfl ?_ | refine Cw.cond_f rfl rfl ?_ | refine Cw.ret ?_ | refine Cw.skip ?_)) | (first | refine thenQ_n ?_ | refine thenQ_r ?_)))
      refine retQ_cNt () Tryd.results16 rfl pkA rfl rfl rfl rfl ?_
      refine Ent.trans ?_ (Ent.left (gph_mk g q s (rb := rb) rfl rfl rfl hWl hW))
      ((try simp only [star_assoc]); (repeat (apply Ent.pk; exact pkA)); first | exact Ent.fin pkA | exact Ent.refl _)
end Go.Sl
namespace Go.Sl
open Go Go.Proofs
set_option linter.unusedVariables false
set_option linter.unusedSectionVars false
section
variable {α β : Type} [Inhabited α] [Inhabited β]
theorem okR_mono {n m : Nat} (h : n ≤ m) {z : Int} (hz : okR n z) : okR m z := by unfold okR at *; omega
theorem at_ok {n : Nat} {l : List Int} (h : ∀ z ∈ l, okR n z) {i : Nat} (hi : i < l.length) : okR n l[i]! := by
  rw [getElem!_pos l i hi]; exact h _ (List.getElem_mem _)
structure EfOk (q : Cfg) (n0 gl rl : Nat) (f : Ef α) : Prop where
  n : n0 ≤ f.O.length ∧ f.O.length ≤ n0 + 1
  o : ∀ x ∈ f.O, x.2.1.length ≤ 6 ∧ ∀ z ∈ x.2.1, okR f.O.length z
  g : f.G.length = gl ∧ ∀ z ∈ f.G, okR f.O.length z
  r : f.r.length = rl ∧ ∀ z ∈ f.r, okR f.O.length z
  s : (f.s.length : Int) ≤ q.stack ∧ ∀ z ∈ f.s, okR f.O.length z
theorem actR_ok (b : α) {q : Cfg} {O : List (Obj α)} {G r s : List Int} (x : It) (full : Bool) (hq8 : QOk q) (ho : ∀ x ∈ O, x.2.1.length ≤ 6 ∧ ∀ z ∈ x.2.1, okR O.length z) (hg : ∀ z ∈ G, okR O.length z) (hgl : (G.length : Int) = q.globals) (hr : ∀ z ∈ r, okR O.length z) (hs : (s.length : Int) ≤ q.stack ∧ ∀ z ∈ s, okR O.length z) :
    EfOk q O.length G.length r.length (actR b q O G r s x full) := by
  have base : ∀ e v, EfOk q O.length G.length r.length (⟨O, G, r, s, e, v⟩ : Ef α) := fun e v => ⟨⟨by simp, by simp⟩, ho, ⟨rfl, hg⟩, ⟨rfl, hr⟩, hs⟩
  have breg : ∀ i z e v, okR O.length z → EfOk q O.length G.length r.length (⟨O, G, r.set i z, s, e, v⟩ : Ef α) := fun i z e v hz => ⟨⟨by simp, by simp⟩, ho, ⟨rfl, hg⟩, ⟨by simp, fun y hy => (List.mem_or_eq_of_mem_set hy).elim (hr y) (fun e => e ▸ hz)⟩, hs⟩
  have okreg : ∀ i, okR O.length (regR r i) := regR_ok hr
  have fldok : ∀ o i, okR O.length o → fldE O o i = 0 → okR O.length (fldV O o i) := fun o i hoo he => by
    unfold fldE at he
    split at he
    · cases he
    · split at he
      · rename_i h0 hi
        have h1 : (o - 1).toNat < O.length := by unfold okR at hoo; omega
        unfold fldV
        have h2 := (ho O[(o - 1).toNat]! (by rw [getElem!_pos O _ h1]; exact List.getElem_mem _)).2
        exact at_ok h2 (by omega)
      · cases he
  unfold actR
  split
  · exact base _ _
  rename_i hck
  have hck : checkR q x.c x.x x.y x.z = 0 := by simpa using hck
  obtain ⟨hn, hxx, hgy, hfy, hry, hrz⟩ := check0 hck
  have hf6 := hq8.fd
  split
  · unfold getR
    split
    · rename_i hc
      split
      · exact breg _ _ _ _ (by unfold okR; omega)
      · have hm : O.length ≤ (O ++ [(b, List.replicate x.y.toNat 0, 0)]).length := by simp
        refine ⟨⟨by simp, by simp⟩, fun y hy => ?_, ⟨rfl, fun z hz => okR_mono hm (hg z hz)⟩, ⟨by simp, fun z hz => ?_⟩, ⟨hs.1, fun z hz => okR_mono hm (hs.2 z hz)⟩⟩
        · rcases List.mem_append.1 hy with h | h
          · exact ⟨(ho y h).1, fun z hz => okR_mono hm ((ho y h).2 z hz)⟩
          · have : y = (b, List.replicate x.y.toNat 0, 0) := by simpa using h
            subst this
            have := hfy hc
            refine ⟨by simp; omega, fun z hz => ?_⟩
            have : z = 0 := (List.mem_replicate.1 hz).2
            unfold okR; omega
        · rcases List.mem_or_eq_of_mem_set hz with h | h
          · exact okR_mono hm (hr z h)
          · subst h; unfold okR; simp only [List.length_append, List.length_cons, List.length_nil]; omega
    split
    · split
      · rename_i he
        exact breg _ _ _ _ (fldok _ _ (okreg _) he)
      · exact base _ _
    split
    · split
      · exact base _ _
      · rename_i hne
        have hlen : s.length - 1 < s.length := by have := List.length_pos_iff.2 hne; omega
        refine ⟨⟨by simp, by simp⟩, ho, ⟨rfl, hg⟩, ⟨by simp, fun y hy => (List.mem_or_eq_of_mem_set hy).elim (hr y) (fun e => e ▸ at_ok hs.2 hlen)⟩, ⟨by simp only [List.length_take]; omega, fun z hz => hs.2 z (List.mem_of_mem_take hz)⟩⟩
    · rename_i h1 h2 h3 h4
      refine breg _ _ _ _ (at_ok hg ?_)
      have : x.c = 11 := by unfold tellsC at h1; omega
      have := hgy (.inl this); omega
  · unfold plainR
    simp only
    split
    · split
      · rename_i he
        have hao := okreg x.x
        have h1 : (regR r x.x - 1).toNat < O.length := by
          unfold fldE at he
          split at he
          · cases he
          · unfold okR at hao; omega
        refine ⟨⟨by simp [setF], by simp [setF]⟩, fun y hy => ?_, ⟨rfl, fun z hz => by simpa [setF] using hg z hz⟩, ⟨rfl, fun z hz => by simpa [setF] using hr z hz⟩, ⟨hs.1, fun z hz => by simpa [setF] using hs.2 z hz⟩⟩
        simp only [setF, List.length_set] at hy ⊢
        have hob := ho O[(regR r x.x - 1).toNat]! (by rw [getElem!_pos O _ h1]; exact List.getElem_mem _)
        rcases List.mem_or_eq_of_mem_set hy with h | h
        · exact ho y h
        · subst h
          refine ⟨by simpa using hob.1, fun z hz => ?_⟩
          rcases List.mem_or_eq_of_mem_set hz with h | h
          · exact hob.2 z h
          · rw [h]; exact okreg _
      · exact base _ _
    split
    · split
      · exact base _ _
      · exact base _ _
    split
    · split
      · exact base _ _
      · rename_i h0
        have hao := okreg x.x
        have h1 : (regR r x.x - 1).toNat < O.length := by unfold okR at hao; omega
        refine ⟨⟨by simp [setS], by simp [setS]⟩, fun y hy => ?_, ⟨rfl, fun z hz => by simpa [setS] using hg z hz⟩, ⟨rfl, fun z hz => by simpa [setS] using hr z hz⟩, ⟨hs.1, fun z hz => by simpa [setS] using hs.2 z hz⟩⟩
        simp only [setS, List.length_set] at hy ⊢
        have hob := ho O[(regR r x.x - 1).toNat]! (by rw [getElem!_pos O _ h1]; exact List.getElem_mem _)
        rcases List.mem_or_eq_of_mem_set hy with h | h
        · exact ho y h
        · subst h; exact hob
    split
    · exact breg _ _ _ _ (okreg _)
    split
    · exact breg _ _ _ _ (by unfold okR; omega)
    split
    · exact base _ _
    split
    · exact base _ _
    split
    · split
      · exact base _ _
      · refine ⟨⟨by simp, by simp⟩, ho, ⟨rfl, hg⟩, ⟨rfl, hr⟩, ⟨by simp only [List.length_append, List.length_cons, List.length_nil]; omega, fun z hz => ?_⟩⟩
        rcases List.mem_append.1 hz with h | h
        · exact hs.2 z h
        · have : z = regR r x.x := by simpa using h
          rw [this]; exact okreg _
    · refine ⟨⟨by simp, by simp⟩, ho, ⟨by simp, fun y hy => (List.mem_or_eq_of_mem_set hy).elim (hg y) (fun e => e ▸ okreg _)⟩, ⟨rfl, hr⟩, hs⟩
theorem thOf_s {s : GS α β} {t : Int} {p : β × ThS} (h : thOf s t = some p) : (0 ≤ t ∧ t < 4) ∧ s.T[t.toNat]! = some p := by
  unfold thOf at h
  split at h
  · rename_i h1; exact ⟨h1, h⟩
  · cases h
theorem doG_ok (a : α) (b : β) {q : Cfg} {s : GS α β} (x : It) (full : Bool) (hok : GsOk q s) (hq8 : QOk q) : GsOk q (doG a b q s x full).1 ∧ s.O.length ≤ (doG a b q s x full).1.O.length ∧ (doG a b q s x full).1.O.length ≤ s.O.length + 1 := by
  have hT := hok.tl
  have hset : ∀ (i : Nat) (o : Option (β × ThS)), (∀ c th, o = some (c, th) → i < 4 → ThOk q s.O.length th ∧ (i : Int) < q.threads ∧ (th.w.ph ≠ 0 → th.w.it.t = (i : Int))) → GsOk q { s with T := s.T.set i o } := fun i o ho =>
    ⟨by simpa using hT, hok.gl, hok.g, hok.o, fun j c th hj h => by
      simp only at h
      rw [set_get _ _ _ _ (by omega)] at h
      by_cases e : i = j
      · rw [if_pos e] at h; subst e; exact ho c th h hj
      · rw [if_neg e] at h; exact hok.t j c th hj h⟩
  have same : ∀ e v : Int, GsOk q ((s, e, v) : GS α β × Int × Int).1 ∧ s.O.length ≤ ((s, e, v) : GS α β × Int × Int).1.O.length ∧ ((s, e, v) : GS α β × Int × Int).1.O.length ≤ s.O.length + 1 := fun e v => ⟨hok, by simp, by simp⟩
  unfold doG
  split
  · split
    · rename_i h
      refine ⟨hset _ _ (fun c th he hi => ?_), by simp, by simp⟩
      cases he
      have := hq8.rg
      have := hq8.st
      refine ⟨⟨by simp; omega, by simp; omega, .inl rfl, .inl rfl, fun z hz => ?_, fun z hz => by cases hz⟩, by omega, fun h => (h rfl).elim⟩
      have : z = 0 := (List.mem_replicate.1 hz).2
      unfold okR; omega
    · exact same _ _
  split
  · split
    · exact same _ _
    · rename_i c th hth
      obtain ⟨hx4, hst⟩ := thOf_s hth
      obtain ⟨htk, htt, htx⟩ := hok.t x.t.toNat c th (by omega) hst
      split
      · exact same _ _
      split
      · exact ⟨hset _ _ (fun c th he => by cases he), by simp, by simp⟩
      split
      · split
        · rename_i hc
          refine ⟨hset _ _ (fun c' th' he hi => ?_), by simp, by simp⟩
          cases he
          exact ⟨⟨htk.rl, htk.sl, .inr (.inl rfl), .inr hc, htk.r, htk.s⟩, htt, fun _ => by simp only; omega⟩
        · exact same _ _
      split
      · rename_i hph
        have hef := actR_ok a (q := q) (O := s.O) (G := s.G) (r := th.r) (s := th.s) th.w.it full hq8 hok.o hok.g hok.gl htk.r ⟨htk.sl, htk.s⟩
        simp only
        refine ⟨⟨by simpa using hT, ?_, hef.g.2, hef.o, fun j c' th' hj h => ?_⟩, hef.n.1, hef.n.2⟩
        · have := hef.g.1; have := hok.gl; simp only; omega
        · simp only at h
          rw [set_get _ _ _ _ (by omega)] at h
          by_cases e : x.t.toNat = j
          · rw [if_pos e] at h
            cases h
            have hw := htk.wt
            refine ⟨⟨by have := hef.r.1; have := htk.rl; simp only; omega, hef.s.1, .inr (.inr rfl), hw.elim (fun h => by omega) .inr, hef.r.2, hef.s.2⟩, by omega, fun _ => by have := htx (by omega); simp only; omega⟩
          · rw [if_neg e] at h
            obtain ⟨h1, h2, h3⟩ := hok.t j c' th' hj h
            exact ⟨⟨h1.rl, h1.sl, h1.ph, h1.wt, fun z hz => okR_mono hef.n.1 (h1.r z hz), fun z hz => okR_mono hef.n.1 (h1.s z hz)⟩, h2, h3⟩
      · refine ⟨hset _ _ (fun c' th' he hi => ?_), by simp, by simp⟩
        cases he
        exact ⟨⟨htk.rl, htk.sl, .inl rfl, .inl rfl, htk.r, htk.s⟩, htt, fun h => (h rfl).elim⟩
  · exact same _ _
theorem gs0_ok {q : Cfg} (hq8 : QOk q) : GsOk q (gs0 q) where
  tl := rfl
  gl := by have := hq8.gl; simp [gs0]; omega
  g z hz := by
    have : z = 0 := (List.mem_replicate.1 hz).2
    unfold okR; omega
  o x hx := by cases hx
  t j c th hj h := by rcases (by omega : j = 0 ∨ j = 1 ∨ j = 2 ∨ j = 3) with rfl | rfl | rfl | rfl <;> cases h
end
end Go.Sl
namespace Go.Sl
open Go Go.Proofs
set_option linter.unusedVariables false
set_option linter.unusedSimpArgs false
theorem Count_v (b n : Nat) (S : Nat → Bool) (hn : n ≤ 1000000) (hS : Sup n S) {k : Nat} (hk : cn S n = k) : Fn Tryd.prog 20 [.pointer (some ⟨b, 0, none⟩)] (bset b n S) Unit (fun _ => vi k) (fun _ => bset b n S) := hk ▸ BCount_fn b n S hn hS
def ltS (i : Nat) : Nat → Bool := fun x => decide (x < i)
attribute [local irreducible] star Ow Cw Pk Pu Dw thenQ blockQ retQ loudQ Cr andI orI xorI IntKind.wrap bset stAt ltS cn
end Go.Sl
namespace Go.Sl
open Go
set_option linter.unusedVariables false
def fldV' (P : Program) (s f : Nat) : Option (Nat × Option Bool) :=
  match P.underlying s with
  | some (.struct fs) => (fs[f]?).map fun fd => (fd.offset, (P.underlying fd.type).map aggB)
  | _ => none
class FldV (P : Program) (s f : Nat) (off : outParam Nat) : Prop where
  h : fldV' P s f = some (off, some false)
theorem Pu.fieldv {P : Program} {n : Nat} {ρ : Env} {H : HP} {t : TypeId} {x : Operand} {s f off : Nat} {cs : List Value} {v : Value} [T : FldV P s f off] (hx : ev ρ x = some (.agg cs.toArray)) (hv : cs[off]? = some v) : Pu P n ρ H (.field s x f) t v := by
  have h := T.h
  unfold fldV' at h
  split at h
  · rename_i fs hs
    cases hf : fs[f]? with
    | none => rw [hf] at h; cases h
    | some fd =>
      rw [hf] at h
      simp only [Option.map_some, Option.some.injEq, Prod.mk.injEq] at h
      obtain ⟨h1, h2⟩ := h
      cases hu : P.underlying fd.type with
      | none => rw [hu] at h2; cases h2
      | some td =>
        rw [hu] at h2
        simp only [Option.map_some, Option.some.injEq] at h2
        exact Pu.mk (by simp) (fun a' w hr => by
          have hp := run_part1 (P := P) (xs := cs.toArray) (off := off) (v := v) (w := w) hu h2 (by simpa using hv)
          simp [execOp, ev_eval hr hx, Instr.field, underlying, hs, hf, asAgg, h1, hp])
  · cases h
end Go.Sl
namespace Go.Sl
open Go Go.Proofs
set_option linter.unusedVariables false
set_option linter.unusedSimpArgs false
instance : FldV Tryd.prog 31 0 0 := ⟨by kernel_rfl⟩
instance : FldV Tryd.prog 31 1 1 := ⟨by kernel_rfl⟩
def q0 : Cfg := madeR 0 0 0 0 0 0
theorem Made0_fn : Fn Tryd.prog 8 [l6v 0 0 0 0 0 0] emp Unit (fun _ => q0.v) (fun _ => emp) := Made_fn 0 0 0 0 0 0 (by decide) (by decide) (by decide) (by decide) (by decide) (by decide)
theorem q0_ok : QOk q0 := ⟨by decide +kernel, by decide +kernel, by decide +kernel, by decide +kernel, by decide +kernel⟩
def fs (b : Nat) (O : List (Obj SV)) (z ph : Int) : GS SV Nat := ⟨O, [], [some (b, ⟨[z, 0], [], ⟨it0, ph⟩⟩), none, none, none]⟩
theorem fs_sp (p : SV × Nat) : doG p.1 p.2 q0 (gs0 q0) ⟨2, 0, 0, 0, 0, 0⟩ false = (fs p.2 [] 0 0, 0, 0) := by kernel_rfl
theorem fs_do (p : SV × Nat) (b : Nat) (O : List (Obj SV)) (z : Int) : doG p.1 p.2 q0 (fs b O z 0) it0 false = (fs b O z 1, 0, 0) := by kernel_rfl
theorem fs_go (p : SV × Nat) (b : Nat) (O : List (Obj SV)) (z : Int) : doG p.1 p.2 q0 (fs b O z 1) ⟨1, 0, 0, 0, 0, 0⟩ false = (fs b (O ++ [(p.1, [], 0)]) (O.length + 1 : Nat) 2, 0, ((O.length + 1 : Nat) : Int)) := by kernel_rfl
theorem fs_go2 (p : SV × Nat) (b : Nat) (O : List (Obj SV)) (z : Int) : doG p.1 p.2 q0 (fs b O z 2) ⟨1, 0, 0, 0, 0, 0⟩ false = (fs b O z 0, 0, 0) := by kernel_rfl
theorem Do_w {A : HP} {kb ko kc : Nat} (hK : Kinds A kb ko kc) (g : Nat) {q : Cfg} {s : GS SV Nat} {x : It} {full : Bool} (hok : GsOk q s) (hO : s.O.length ≤ 900000) (hq8 : QOk q) {f : SV × Nat → GS SV Nat} {e v : SV × Nat → Int} (h : ∀ p : SV × Nat, doG p.1 p.2 q s x full = (f p, e p, v p)) :
    Fn Tryd.prog 10 [.pointer (some ⟨g, 0, none⟩), .agg x.cs.toArray, .bool full] (gph g q s * A) (SV × Nat) (fun p => ansV (e p) (v p)) (fun p => gph g q (f p) * A) := by
  have h1 := Do_fn hK g q s x full hok hO hq8
  simp only [h] at h1
  exact h1
theorem ok_w {q : Cfg} {s : GS SV Nat} {x : It} {full : Bool} (hok : GsOk q s) (hq8 : QOk q) {f : SV × Nat → GS SV Nat} {e v : SV × Nat → Int} (h : ∀ p : SV × Nat, doG p.1 p.2 q s x full = (f p, e p, v p)) (p : SV × Nat) : GsOk q (f p) := by
  have h1 := (doG_ok p.1 p.2 x full hok hq8).1
  rw [h] at h1; exact h1
def nn20 (k : Nat) : Int := if k = 0 then 0 else if k = 1 then 1 else 12
theorem rch_fs {b : Nat} {O : List (Obj SV)} (hO : O.length = 2) (he : ∀ o ∈ O, o.2.1 = []) (z : Int) : Rch O (rootsG (fs b O O.length 0)) z ↔ z = 2 := by
  have hfl : ∀ z : Int, flds O z = [] := fun z => by
    unfold flds
    by_cases h : (z - 1).toNat < O.length
    · rw [getElem!_pos O _ h]; exact he _ (List.getElem_mem _)
    · rw [getElem!_neg O _ h]; rfl
  have hR : ∀ z, z ∈ rootsG (fs b O O.length 0) → z = 2 ∨ z = 0 := fun z h => by
    rw [hO] at h
    simpa [rootsG, fs, rtsG] using h
  constructor
  · intro h
    cases h with
    | root h1 h2 => exact (hR z h1).resolve_right h2
    | step _ h1 _ => rw [hfl] at h1; cases h1
  · rintro rfl
    exact .root (by rw [hO]; simp [rootsG, fs, rtsG]) (by decide)
attribute [local irreducible] star Ow Cw Pk Pu Dw DwF thenQ blockQ retQ loudQ loudF loudG Cr thr tab obs andI bset lU stAt cn gpW gph fs gs0 q0 nn20
set_option maxHeartbeats 4000000 in
theorem fit20_fn {A : HP} {kb ko kc : Nat} (hK : Kinds A kb ko kc) : Fn Tryd.prog 7 [] A Unit (fun _ => .bool true) (fun _ => A) := by
  have hok0 := gs0_ok q0_ok
  have hd0 := fun g => Do_w hK g (s := gs0 q0) hok0 (by unfold gs0; decide) q0_ok fs_sp
  (refine Fn.of Tryd.func7 rfl (by kernel_rfl) Tryd.ntmps7 rfl (fun F => ?_))
  (repeat' (first | (refine Ow.is ?_; (first | refine Ow.pu rfl (Pu.fieldv rfl rfl) ?_ | refine Ow.pu rfl (Pu.build (ps := [(0, .const (vi 0))]) (vs := [vi 0]) (cs := it0.cs) evA (fun w => by kernel_rfl)) ?_ | refine Ow.pu rfl (Pu.build (ps := [(0, .const (vi 1))]) (vs := [vi 1]) (cs := (It.mk 1 0 0 0 0 0).cs) evA (fun w => by kernel_rfl)) ?_ | refine Ow.pu rfl (Pu.build (ps := [(0, .const (vi 2))]) (vs := [vi 2]) (cs := (It.mk 2 0 0 0 0 0).cs) evA (fun w => by kernel_rfl)) ?_ | (refine Ow.kBuild ?_; refine Ow.pu rfl (Pu.build (ps := []) (vs := []) (cs := [.int .u8 0, .int .u8 0, .int .u8 0, .int .u8 0, .int .u8 0, .int .u8 0]) trivial (fun w => by kernel_rfl)) ?_) | refine Ow.nil ?_ | refine Ow.pu rfl (Pu.move rfl) ?_ | refine Ow.pu rfl (Pu.assign rfl) ?_ | (refine Ow.kGuard ?_; (first | refine Ow.guard_yes rfl rfl rfl ?_)) | (refine Ow.kBin ?_; (first | (refine Ow.b_eql ?_; (first | refine Ow.pu rfl (Pu.eqNil rfl rfl) ?_)) | (refine Ow.b_neq ?_; (first | refine Ow.pu rfl (Pu.ne_f rfl rfl roA) ?_)))) | (refine Ow.kPick ?_; (first | refine Ow.pu rfl (Pu.pick_t rfl rfl) ?_ | refine Ow.pu rfl (Pu.pick_f rfl rfl) ?_)) | (refine Ow.kCall ?_; (first | refine Ow.callE evA (pk2' pkA pkA) rfl (hd3 _) (fun p => Ow.assoc ?_) | refine Ow.callE evA (pk2' pkA pkA) rfl hd2 (fun p => Ow.assoc ?_) | refine Ow.callE evA (pk2' pkA pkA) rfl hd1 (fun p => Ow.assoc ?_) | refine Ow.callE evA (pk2' pkA pkA) rfl (hd0 _) (fun p => Ow.assoc ?_) | refine Ow.callE0 evA rfl (GNew_fn _ q0_ok) (fun g => ?_) | refine Ow.callE0 evA rfl Made0_fn (fun _ => Ow.unemp ?_) | fail)) | (refine Ow.kBuild ?_; (first | fail)))) | (refine Cw.is ?_; (first | refine Cw.seq ?_ | refine Cw.region ?_ | refine Cw.cond_t rfl rfl ?_ | refine Cw.cond_f rfl rfl ?_ | refine Cw.block ?_ | refine Cw.ret ?_ | refine Cw.exit ?_ | refine Cw.skip ?_)) | (first | refine thenQ_n ?_ | refine thenQ_e ?_ | refine blockQ_n ?_ | refine blockQ_e ?_)))
  obtain ⟨a1, b⟩ := p
  dsimp only
  have hok1 := ok_w hok0 q0_ok fs_sp (a1, b)
  dsimp only at hok1
  refine Cw.loopF [2, 15, 16, 17, 18, 19, 20, 21, 22, 23, 24, 25, 26, 27, 28, 29, 30] (by (repeat first | exact er_nil | apply er_drop rfl | apply er_keep rfl)) (fun O : List (Obj SV) => O.length ≤ 2 ∧ (∀ o ∈ O, o.2.1 = []) ∧ GsOk q0 (fs b O O.length 0)) (fun O => [(15, vi O.length), (2, vi (nn20 O.length))]) (fun O => gph g q0 (fs b O O.length 0) * (A * F)) (fun O => 2 - O.length) [] ⟨by simp, by simp, hok1⟩ (by unfold nn20; (repeat first | exact trivial | refine ⟨rfl, ?_⟩)) (by ((try simp only [star_assoc]); (repeat (apply Ent.pk; exact pkA)); first | exact Ent.fin pkA | exact Ent.refl _)) (fun O hO => ?_)
  obtain ⟨hO2, hOe, hOk⟩ := hO
  by_cases hk : O.length < 2
  · have hd1 := Do_w hK g (s := fs b O O.length 0) hOk (by unfold fs; simp only; omega) q0_ok (fun p => fs_do p b O O.length)
    have hok2 := ok_w hOk q0_ok (fun p => fs_do p b O O.length) (default, 0)
    have hd2 := Do_w hK g (s := fs b O O.length 1) hok2 (by unfold fs; simp only; omega) q0_ok (fun p => fs_go p b O O.length)
    have hok3 := ok_w hok2 q0_ok (fun p => fs_go p b O O.length)
    have hd3 := fun p : SV × Nat => Do_w hK g (s := fs b (O ++ [(p.1, [], 0)]) (O.length + 1 : Nat) 2) (hok3 p) (by unfold fs; simp; omega) q0_ok (fun p' => fs_go2 p' b (O ++ [(p.1, [], 0)]) (O.length + 1 : Nat))
    have hnn : nn20 O.length = O.length := by unfold nn20; rcases (by omega : O.length = 0 ∨ O.length = 1) with h | h <;> rw [h] <;> rfl
    (repeat' (first | (refine Ow.is ?_; (first | refine Ow.pu rfl (Pu.fieldv rfl rfl) ?_ | refine Ow.pu rfl (Pu.build (ps := [(0, .const (vi 0))]) (vs := [vi 0]) (cs := it0.cs) evA (fun w => by kernel_rfl)) ?_ | refine Ow.pu rfl (Pu.build (ps := [(0, .const (vi 1))]) (vs := [vi 1]) (cs := (It.mk 1 0 0 0 0 0).cs) evA (fun w => by kernel_rfl)) ?_ | refine Ow.pu rfl (Pu.build (ps := [(0, .const (vi 2))]) (vs := [vi 2]) (cs := (It.mk 2 0 0 0 0 0).cs) evA (fun w => by kernel_rfl)) ?_ | (refine Ow.kBuild ?_; refine Ow.pu rfl (Pu.build (ps := []) (vs := []) (cs := [.int .u8 0, .int .u8 0, .int .u8 0, .int .u8 0, .int .u8 0, .int .u8 0]) trivial (fun w => by kernel_rfl)) ?_) | refine Ow.nil ?_ | refine Ow.pu rfl (Pu.move rfl) ?_ | refine Ow.pu rfl (Pu.assign rfl) ?_ | (refine Ow.kBin ?_; (first | (refine Ow.b_lss ?_; first | refine Ow.pu rfl (Pu.lt_t rfl rfl (by omega)) ?_ | refine Ow.pu rfl (Pu.lt_f rfl rfl (by omega)) ?_ | refine Ow.sp rfl (by exact Pu.lt rfl rfl) (fun hc => ?_) (fun hc => ?_)) | (refine Ow.b_add ?_; refine Ow.pu rfl (Pu.add_i rfl rfl (by omega)) ?_) | (refine Ow.b_mul ?_; refine Ow.pu rfl (Pu.mul_i rfl rfl (by omega)) ?_))) | (refine Ow.kCall ?_; (first | refine Ow.callE evA (pk2' pkA pkA) rfl (hd3 _) (fun p => Ow.assoc ?_) | refine Ow.callE evA (pk2' pkA pkA) rfl hd2 (fun p => Ow.assoc ?_) | refine Ow.callE evA (pk2' pkA pkA) rfl hd1 (fun p => Ow.assoc ?_) | refine Ow.callE evA (pk2' pkA pkA) rfl (hd0 _) (fun p => Ow.assoc ?_) | fail)) | (refine Ow.kBuild ?_; (first | fail)))) | (refine Cw.is ?_; (first | refine Cw.seq ?_ | refine Cw.region ?_ | refine Cw.cond_t rfl rfl ?_ | refine Cw.cond_f rfl rfl ?_ | refine Cw.block ?_ | refine Cw.ret ?_ | refine Cw.exit ?_ | refine Cw.skip ?_)) | (first | refine thenQ_n ?_ | refine thenQ_e ?_ | refine blockQ_n ?_ | refine blockQ_e ?_)))
    rename_i p1 p3 p2
    have hok4 := ok_w (hok3 p2) q0_ok (fun p' => fs_go2 p' b (O ++ [(p2.1, [], 0)]) (O.length + 1 : Nat)) (default, 0)
    have hlen : (O ++ [(p2.1, ([] : List Int), (0 : Int))]).length = O.length + 1 := by simp
    refine ⟨rfl, O ++ [(p2.1, [], 0)], ⟨by omega, fun o ho => ?_, by rw [hlen]; exact hok4⟩, by omega, ?_, by rw [hlen]; ((try simp only [star_assoc]); (repeat (apply Ent.pk; exact pkA)); first | exact Ent.fin pkA | exact Ent.refl _)⟩
    · rcases List.mem_append.1 ho with h | h
      · exact hOe o h
      · have : o = (p2.1, [], 0) := by simpa using h
        rw [this]
    · refine ⟨congrArg (fun z : Int => some (vi z)) (by rw [hlen]; rfl), congrArg (fun z : Int => some (vi z)) (by rw [hlen, hnn]; unfold nn20; rcases (by omega : O.length = 0 ∨ O.length = 1) with h | h <;> rw [h] <;> rfl), ?_⟩
      (repeat first | exact trivial | refine ⟨rfl, ?_⟩)
  · have hk2 : O.length = 2 := by omega
    have hnn : nn20 O.length = 12 := by rw [hk2]; unfold nn20; rfl
    have hre := Reach_fn g q0 (fs b O O.length 0) hOk q0_ok (by unfold fs; simp only; omega)
    have hrc := rch_fs (b := b) hk2 hOe
    have hrb : rchB O (rootsG (fs b O O.length 0)) = fun z => decide (z = 2) := by
      funext z
      rw [Bool.eq_iff_iff, rchB_t, hrc, decide_eq_true_iff]; omega
    have hsup := rchB_sup (hOk.oko)
    have hO2' : (fs b O O.length 0).O = O := by unfold fs; rfl
    rw [hO2', hrb, hk2] at hre hsup
    have hcn := fun sb => Count_v sb 3 (fun z => decide (z = 2)) (by decide) hsup (k := 1) (by decide +kernel)
    have hbo : ((fs b O 2 0).O.length : Int) = 2 := by unfold fs; simp only; omega
    rw [hk2] at hnn
    rw [hk2]
    (repeat' (first | (refine Ow.is ?_; (first | refine Ow.pu rfl (Pu.fieldv rfl rfl) ?_ | refine Ow.pu rfl (Pu.build (ps := [(0, .const (vi 0))]) (vs := [vi 0]) (cs := it0.cs) evA (fun w => by kernel_rfl)) ?_ | refine Ow.pu rfl (Pu.build (ps := [(0, .const (vi 1))]) (vs := [vi 1]) (cs := (It.mk 1 0 0 0 0 0).cs) evA (fun w => by kernel_rfl)) ?_ | refine Ow.pu rfl (Pu.build (ps := [(0, .const (vi 2))]) (vs := [vi 2]) (cs := (It.mk 2 0 0 0 0 0).cs) evA (fun w => by kernel_rfl)) ?_ | refine Ow.nil ?_ | (refine Ow.kBin ?_; (first | (refine Ow.b_lss ?_; first | refine Ow.pu rfl (Pu.lt_t rfl rfl (by omega)) ?_ | refine Ow.pu rfl (Pu.lt_f rfl rfl (by omega)) ?_ | refine Ow.sp rfl (by exact Pu.lt rfl rfl) (fun hc => ?_) (fun hc => ?_)))))) | (refine Cw.is ?_; (first | refine Cw.seq ?_ | refine Cw.region ?_ | refine Cw.cond_t rfl rfl ?_ | refine Cw.cond_f rfl rfl ?_ | refine Cw.block ?_ | refine Cw.ret ?_ | refine Cw.exit ?_ | refine Cw.skip ?_)) | (first | refine thenQ_n ?_ | refine thenQ_e ?_ | refine blockQ_n ?_ | refine blockQ_e ?_)))
    (repeat' (first | (refine Ow.is ?_; (first | refine Ow.pu rfl (Pu.fieldv rfl rfl) ?_ | refine Ow.pu rfl (Pu.build (ps := [(0, .const (vi 0))]) (vs := [vi 0]) (cs := it0.cs) evA (fun w => by kernel_rfl)) ?_ | refine Ow.pu rfl (Pu.build (ps := [(0, .const (vi 1))]) (vs := [vi 1]) (cs := (It.mk 1 0 0 0 0 0).cs) evA (fun w => by kernel_rfl)) ?_ | refine Ow.pu rfl (Pu.build (ps := [(0, .const (vi 2))]) (vs := [vi 2]) (cs := (It.mk 2 0 0 0 0 0).cs) evA (fun w => by kernel_rfl)) ?_ | refine Ow.nil ?_ | refine Ow.pu rfl (Pu.move rfl) ?_ | refine Ow.pu rfl (Pu.assign rfl) ?_ | (refine Ow.kGuard ?_; (first | refine Ow.guard_yes rfl rfl rfl ?_)) | (refine Ow.kBin ?_; (first | (refine Ow.b_eql ?_; (first | refine Ow.pu rfl (Pu.eq_t rfl rfl roA) ?_)) | (refine Ow.b_neq ?_; (first | refine Ow.pu rfl (Pu.neNil rfl rfl) ?_)))) | (refine Ow.kPick ?_; (first | refine Ow.pu rfl (Pu.pick_t rfl rfl) ?_ | refine Ow.pu rfl (Pu.pick_f rfl rfl) ?_)) | (refine Ow.kCall ?_; (first | refine Ow.callE evA pkA rfl (hcn _) (fun _ => ?_) | refine Ow.callE evA pkA rfl hre (fun sb => Ow.assoc ?_) | refine Ow.callE evA pkA rfl (Born_fn _ _ _) (fun _ => ?_) | fail)))) | (refine Cw.is ?_; (first | refine Cw.seq ?_ | refine Cw.region ?_ | refine Cw.cond_t rfl rfl ?_ | refine Cw.cond_f rfl rfl ?_ | refine Cw.block ?_ | refine Cw.ret ?_ | refine Cw.exit ?_ | refine Cw.skip ?_)) | (first | refine thenQ_n ?_ | refine thenQ_e ?_ | refine blockQ_n ?_ | refine blockQ_e ?_)))
    refine retQ_v () Tryd.results7 rfl rfl ?_
    ((try simp only [star_assoc]); (repeat (apply Ent.pk; exact pkA)); first | exact Ent.fin pkA | exact Ent.refl _)
end Go.Sl
namespace Go.Sl
open Go Go.Proofs
set_option linter.unusedVariables false
set_option linter.unusedSimpArgs false
def gf (c : Nat) (O : List (Obj SV)) (G r st : List Int) (w : Wk) : GS SV Nat := ⟨O, G, [some (c, ⟨r, st, w⟩), none, none, none]⟩
attribute [local irreducible] star Ow Cw Pk Pu Dw DwF thenQ blockQ retQ loudQ loudF loudG Cr thr tab obs andI bset lU stAt cn gpW gph gf actR
end Go.Sl
namespace Go.Sl
open Go Go.Proofs
set_option linter.unusedVariables false
set_option linter.unusedSimpArgs false
theorem made_ok (l0 l1 l2 l3 l4 l5 : Int) (h2 : 0 ≤ l2 ∧ l2 ≤ 255) : QOk (madeR l0 l1 l2 l3 l4 l5) := by
  have a1 : 0 ≤ andI .u8 l2 3 ∧ andI .u8 l2 3 ≤ 3 := and_u8 l2 3 (by decide)
  have a2 : 0 ≤ andI .u8 (l2 / 4) 3 ∧ andI .u8 (l2 / 4) 3 ≤ 3 := and_u8 (l2 / 4) 3 (by decide)
  have a3 : 0 ≤ andI .u8 (l2 / 16) 3 ∧ andI .u8 (l2 / 16) 3 ≤ 3 := and_u8 (l2 / 16) 3 (by decide)
  have a4 : 0 ≤ andI .u8 l3 3 ∧ andI .u8 l3 3 ≤ 3 := and_u8 l3 3 (by decide)
  unfold madeR
  exact ⟨by simp only; omega, by simp only; omega, by simp only; omega, by simp only; omega, by simp only; omega⟩
section
variable {q : Cfg} {G r st : List Int} (hr : (r.length : Int) = q.regs) (h2 : 2 ≤ q.regs)
include h2
end
def obM (x : SV) (n m : Nat) : Obj SV := (x, List.replicate m 1 ++ List.replicate (n - m) 0, 0)
structure GyS where
  m : Nat
  r : List Int
  i : It
attribute [local irreducible] star Ow Cw Pk Pu Dw DwF thenQ blockQ retQ loudQ loudF loudG Cr thr tab obs andI bset lU stAt cn gpW gph gf gs0 actR madeR obM
end Go.Sl
namespace Go.Sl
open Go Go.Proofs Go.ChangeShapes Go.WideShapes Go.ChangeAt Go.RowKit
set_option linter.unusedVariables false
theorem own : ownKnob Tryd.prog.godebug = none := by kernel_rfl
theorem laidOut : laidOutB Tryd.prog = true := by kernel_rfl
set_option maxRecDepth 20000 in
theorem l6_trod {H : Type} {enc : TypeId × Value → H} {W : World} {held : Bool} (n : Nat) (cs : List Value) (y : DataW H × List MemPlace) (h : DataW.trod enc Tryd.prog W 0 (fun _ => true) held n 22 cs = some y) : ∃ (a0 : Int) (a1 : Int) (a2 : Int) (a3 : Int) (a4 : Int) (a5 : Int), cs = [.int .u8 a0, .int .u8 a1, .int .u8 a2, .int .u8 a3, .int .u8 a4, .int .u8 a5] ∧ y.1 = .agg [.lit (.int .u8 a0), .lit (.int .u8 a1), .lit (.int .u8 a2), .lit (.int .u8 a3), .lit (.int .u8 a4), .lit (.int .u8 a5)] ∧ (Lit.int .u8 a0).wf = true ∧ (Lit.int .u8 a1).wf = true ∧ (Lit.int .u8 a2).wf = true ∧ (Lit.int .u8 a3).wf = true ∧ (Lit.int .u8 a4).wf = true ∧ (Lit.int .u8 a5).wf = true := by
  obtain ⟨xs, m, _, hy, hl, hlen, hf⟩ := DataW.trod_array Tryd.underlying22 h
  have hc : Tryd.prog.cellsOf 22 = 6 := by kernel_rfl
  have hx : xs.length = 6 := hlen
  have e5 : Tryd.prog.cellsOf 5 = 1 := by kernel_rfl
  rw [hc] at hl
  match cs, hl, xs, hx with
  | [u0, u1, u2, u3, u4, u5], _, [x0, x1, x2, x3, x4, x5], _ =>
    have h0 : DataW.trod enc Tryd.prog W 0 (fun _ => true) held m 5 (List.take (Tryd.prog.cellsOf 5) (List.drop (0 * Tryd.prog.cellsOf 5) [u0, u1, u2, u3, u4, u5])) = some x0 := hf 0 (by omega)
    have h1 : DataW.trod enc Tryd.prog W 0 (fun _ => true) held m 5 (List.take (Tryd.prog.cellsOf 5) (List.drop (1 * Tryd.prog.cellsOf 5) [u0, u1, u2, u3, u4, u5])) = some x1 := hf 1 (by omega)
    have h2 : DataW.trod enc Tryd.prog W 0 (fun _ => true) held m 5 (List.take (Tryd.prog.cellsOf 5) (List.drop (2 * Tryd.prog.cellsOf 5) [u0, u1, u2, u3, u4, u5])) = some x2 := hf 2 (by omega)
    have h3 : DataW.trod enc Tryd.prog W 0 (fun _ => true) held m 5 (List.take (Tryd.prog.cellsOf 5) (List.drop (3 * Tryd.prog.cellsOf 5) [u0, u1, u2, u3, u4, u5])) = some x3 := hf 3 (by omega)
    have h4 : DataW.trod enc Tryd.prog W 0 (fun _ => true) held m 5 (List.take (Tryd.prog.cellsOf 5) (List.drop (4 * Tryd.prog.cellsOf 5) [u0, u1, u2, u3, u4, u5])) = some x4 := hf 4 (by omega)
    have h5 : DataW.trod enc Tryd.prog W 0 (fun _ => true) held m 5 (List.take (Tryd.prog.cellsOf 5) (List.drop (5 * Tryd.prog.cellsOf 5) [u0, u1, u2, u3, u4, u5])) = some x5 := hf 5 (by omega)
    rw [e5] at h0
    rw [e5] at h1
    rw [e5] at h2
    rw [e5] at h3
    rw [e5] at h4
    rw [e5] at h5
    obtain ⟨a0, c0, d0, w0⟩ := DataW.trod_int Tryd.underlying5 h0
    obtain ⟨a1, c1, d1, w1⟩ := DataW.trod_int Tryd.underlying5 h1
    obtain ⟨a2, c2, d2, w2⟩ := DataW.trod_int Tryd.underlying5 h2
    obtain ⟨a3, c3, d3, w3⟩ := DataW.trod_int Tryd.underlying5 h3
    obtain ⟨a4, c4, d4, w4⟩ := DataW.trod_int Tryd.underlying5 h4
    obtain ⟨a5, c5, d5, w5⟩ := DataW.trod_int Tryd.underlying5 h5
    simp at c0 c1 c2 c3 c4 c5
    refine ⟨a0, a1, a2, a3, a4, a5, by rw [c0, c1, c2, c3, c4, c5], ?_, w0, w1, w2, w3, w4, w5⟩
    rw [hy, d0, d1, d2, d3, d4, d5]; rfl
set_option maxRecDepth 20000 in
theorem kind_trod {H : Type} {enc : TypeId × Value → H} {W : World} {held : Bool} (n : Nat) (cs : List Value) (y : DataW H × List MemPlace) (h : DataW.trod enc Tryd.prog W 0 (fun _ => true) held n 157 cs = some y) : ∃ (a0 : ByteArray) (a1 : Bool) (a2 : Bool) (a3 : Bool), cs = [.string a0, .bool a1, .bool a2, .bool a3] ∧ y.1 = .agg [.lit (.string a0.data.toList), .lit (.bool a1), .lit (.bool a2), .lit (.bool a3)] ∧ a0.size ≤ maxLen ∧ True ∧ True ∧ True := by
  obtain ⟨xs, m, _, hy, hl, hlen, hf⟩ := DataW.trod_struct Tryd.underlying157 h
  have hc : Tryd.prog.cellsOf 157 = 4 := by kernel_rfl
  have hx : xs.length = 4 := hlen
  have e4 : Tryd.prog.cellsOf 4 = 1 := by kernel_rfl
  have e9 : Tryd.prog.cellsOf 9 = 1 := by kernel_rfl
  rw [hc] at hl
  match cs, hl, xs, hx with
  | [u0, u1, u2, u3], _, [x0, x1, x2, x3], _ =>
    have h0 : DataW.trod enc Tryd.prog W 0 (fun _ => true) held m 9 (List.take (Tryd.prog.cellsOf 9) (List.drop (0) [u0, u1, u2, u3])) = some x0 := hf 0 _ rfl
    have h1 : DataW.trod enc Tryd.prog W 0 (fun _ => true) held m 4 (List.take (Tryd.prog.cellsOf 4) (List.drop (1) [u0, u1, u2, u3])) = some x1 := hf 1 _ rfl
    have h2 : DataW.trod enc Tryd.prog W 0 (fun _ => true) held m 4 (List.take (Tryd.prog.cellsOf 4) (List.drop (2) [u0, u1, u2, u3])) = some x2 := hf 2 _ rfl
    have h3 : DataW.trod enc Tryd.prog W 0 (fun _ => true) held m 4 (List.take (Tryd.prog.cellsOf 4) (List.drop (3) [u0, u1, u2, u3])) = some x3 := hf 3 _ rfl
    rw [e9] at h0
    rw [e4] at h1
    rw [e4] at h2
    rw [e4] at h3
    obtain ⟨a0, c0, d0, w0⟩ := DataW.trod_string Tryd.underlying9 h0
    obtain ⟨a1, c1, d1⟩ := DataW.trod_bool Tryd.underlying4 h1
    obtain ⟨a2, c2, d2⟩ := DataW.trod_bool Tryd.underlying4 h2
    obtain ⟨a3, c3, d3⟩ := DataW.trod_bool Tryd.underlying4 h3
    simp at c0 c1 c2 c3
    refine ⟨a0, a1, a2, a3, by rw [c0, c1, c2, c3], ?_, w0, trivial, trivial, trivial⟩
    rw [hy, d0, d1, d2, d3]; rfl
set_option maxRecDepth 20000 in
theorem kinds_of {W : World} (h : laidMetH Tryd.prog Go.Proofs.YteomgcebbjoklaaDoor.Rows.graphFreshRow.laid W) : ∃ b o c, Kinds (all W) b o c := by
  obtain ⟨cs, fuel, p, hd, hc⟩ := laid_head (g := 0) (t := 123) rfl (by kernel_rfl) (by kernel_rfl) h
  rcases DataW.trod_slice Tryd.underlying123 hd with ⟨_, hx⟩ | ⟨a, len, cap, elems, rest, n, _, hcs, hx, _, _, _, hlen, hel, _, _⟩
  · simp [Go.Proofs.YteomgcebbjoklaaDoor.Rows.laid_hawthorn_op_kinds] at hx
  · have hx1 := congrArg Prod.fst hx
    simp only [Go.Proofs.YteomgcebbjoklaaDoor.Rows.laid_hawthorn_op_kinds, DataW.slice.injEq] at hx1
    obtain ⟨hx1, hx2⟩ := hx1
    have h13 : elems.length = 13 := by have := congrArg List.length hx1; simpa using this.symm
    rw [hlen] at h13
    subst h13
    have e60 : Tryd.prog.cellsOf 157 = 4 := by kernel_rfl
    rw [e60] at hel
    have hcell : ∀ i, i < 13 → ∃ s x y z, W.cells? 0 (a.add (i * 4)) 4 = some [.string s, .bool x, .bool y, .bool z] ∧ (elems.map (·.1))[i]? = some (.agg [.lit (.string s.data.toList), .lit (.bool x), .lit (.bool y), .lit (.bool z)]) := fun i hi => by
      have h1 := hel i hi
      rw [List.getElem?_eq_getElem (by omega)] at h1
      obtain ⟨cs, h2, h3⟩ := Option.bind_eq_some_iff.1 h1
      obtain ⟨s, x, y, z, h4, h5, _⟩ := kind_trod _ _ _ h3
      exact ⟨s, x, y, z, by rw [h2, h4], by rw [List.getElem?_map, List.getElem?_eq_getElem (by omega)]; simp [h5]⟩
    have hspot : ∃ b o, a = ⟨b, o, none⟩ := by
      obtain ⟨s, x, y, z, h4, _⟩ := hcell 0 (by omega)
      have := (World.cells?_some h4).2.2 0 (by omega)
      simp at this
      obtain ⟨b, o, sp⟩ := a
      unfold World.cell? at this
      simp only [Addr.add, if_pos] at this
      cases sp with
      | none => exact ⟨b, o, rfl⟩
      | some q =>
        exfalso
        revert this
        cases W.heap[b]? with
        | none => simp
        | some ob => cases ob <;> simp
    obtain ⟨b, o, rfl⟩ := hspot
    refine ⟨b, o, cap, ?_, ?_⟩
    · refine rd_all ?_
      rw [hc 0]
      have : cs = #[.slice (some ⟨b, o, none⟩) 13 cap] := by rw [← Array.toList_inj]; exact hcs
      rw [this]; rfl
    · have key : ∀ i, i < 13 → W.cells? 0 ((⟨b, o, none⟩ : Addr).add (i * 4)) 4 = some ((kindCells.drop (i * 4)).take 4) := fun i hi => by
        obtain ⟨s, x, y, z, h4, h5⟩ := hcell i hi
        rw [← hx1] at h5
        rw [h4]
        obtain ⟨⟨l⟩⟩ := s
        rcases (by omega : i = 0 ∨ i = 1 ∨ i = 2 ∨ i = 3 ∨ i = 4 ∨ i = 5 ∨ i = 6 ∨ i = 7 ∨ i = 8 ∨ i = 9 ∨ i = 10 ∨ i = 11 ∨ i = 12) with rfl | rfl | rfl | rfl | rfl | rfl | rfl | rfl | rfl | rfl | rfl | rfl | rfl
        all_goals (simp at h5; obtain ⟨h6, h7, h8, h9⟩ := h5; subst h6 h7 h8 h9; rfl)
      intro j u hj
      have hlt : j < 52 := (List.getElem?_eq_some_iff.1 hj).1
      refine rd_all ?_
      have h1 := (World.cells?_some (key (j / 4) (by omega))).2.2 (j % 4) (by omega)
      rw [addr_add, addr_add] at h1
      rw [show o + j = o + j / 4 * 4 + j % 4 by omega]
      refine h1.trans ?_
      rw [List.getElem?_take, if_pos (by omega), List.getElem?_drop, show j / 4 * 4 + j % 4 = j by omega]
      exact hj
end Go.Sl
namespace Go.Proofs.YteomgcebbjoklaaDoor
open Go.ChangeShapes Go.WideShapes Go.ChangeAt Go.RowKit Go.Sl
set_option linter.unusedVariables false
def laidHeap (h : Array Obj) : Array Obj := (h.modify 0 (fun | .cells _ t frozen => .cells #[.slice (some ⟨h.size, 0, none⟩) 13 13] t frozen | o => o)).push (Obj.cells kindCells.toArray 157 (0, 0))
noncomputable def laidWorld (os : Os) : World := { World.holding Tryd.prog os ⟨#[], #[], []⟩ with heap := laidHeap (World.holding Tryd.prog os ⟨#[], #[], []⟩).heap }
theorem laid_met (os : Os) (av : Array Value) : laidMet Tryd.prog Rows.graphFreshRow.laid ((laidWorld os).forCall (fun _ _ => 0) ⟨#[], av, []⟩).memory :=
  laidMet_of_run' 8 (by kernel_rfl) (by kernel_rfl)
end Go.Proofs.YteomgcebbjoklaaDoor
namespace Go.Sl
open Go Go.Proofs
set_option linter.unusedVariables false
set_option linter.unusedSimpArgs false
attribute [local irreducible] star Ow Cw Pk Pu Dw DwF thenQ blockQ retQ loudQ loudF loudG Cr thr tab obs andI
theorem in_t (n k : Int) (h : 0 ≤ n ∧ n < k) : Fn Tryd.prog 30 [vi n, vi k] emp Unit (fun _ => .bool true) (fun _ => emp) := by
  (refine Fn.of Tryd.func30 rfl (by kernel_rfl) Tryd.ntmps30 rfl (fun F => ?_))
  refine Cw.heq (emp_star F) ?_
  (repeat' (first | (refine Ow.is ?_; (first | refine Ow.nil ?_ | refine Ow.pu rfl (Pu.move rfl) ?_ | refine Ow.pu rfl (Pu.assign rfl) ?_ | (refine Ow.kGuard ?_; (first | refine Ow.guard_yes rfl rfl rfl ?_)) | (refine Ow.kBin ?_; (first | (refine Ow.b_lss ?_; first | refine Ow.pu rfl (Pu.lt_t rfl rfl (by omega)) ?_ | refine Ow.pu rfl (Pu.lt_f rfl rfl (by omega)) ?_ | refine Ow.sp rfl (by exact Pu.lt rfl rfl) (fun hc => ?_) (fun hc => ?_)) | (refine Ow.b_geq ?_; first | refine Ow.pu rfl (Pu.ge_t rfl rfl (by omega)) ?_ | refine Ow.pu rfl (Pu.ge_f rfl rfl (by omega)) ?_ | refine Ow.sp rfl (by exact Pu.ge rfl rfl) (fun hc => ?_) (fun hc => ?_)))) | (refine Ow.kPick ?_; (first | refine Ow.pu rfl (Pu.pick_t rfl rfl) ?_)))) | (refine Cw.is ?_; (first | refine Cw.seq ?_ | refine Cw.region ?_ | refine Cw.ret ?_)) | (first | refine thenQ_n ?_)))
  refine retQ_v () Tryd.results30 rfl rfl ?_; refine Ent.trans ?_ (Ent.of_eq (emp_star F).symm); ((try simp only [star_assoc]); (repeat (apply Ent.pk; exact pkA)); first | exact Ent.fin pkA | exact Ent.refl _)
theorem in_f (n k : Int) (h : ¬ (0 ≤ n ∧ n < k)) : Fn Tryd.prog 30 [vi n, vi k] emp Unit (fun _ => .bool false) (fun _ => emp) := by
  (refine Fn.of Tryd.func30 rfl (by kernel_rfl) Tryd.ntmps30 rfl (fun F => ?_))
  refine Cw.heq (emp_star F) ?_
  (repeat' (first | (refine Ow.is ?_; (first | refine Ow.nil ?_ | refine Ow.pu rfl (Pu.move rfl) ?_ | refine Ow.pu rfl (Pu.assign rfl) ?_ | (refine Ow.kGuard ?_; (first | refine Ow.guard_yes rfl rfl rfl ?_ | refine Ow.guard_no rfl rfl rfl rfl ?_)) | (refine Ow.kBin ?_; (first | (refine Ow.b_lss ?_; first | refine Ow.pu rfl (Pu.lt_t rfl rfl (by omega)) ?_ | refine Ow.pu rfl (Pu.lt_f rfl rfl (by omega)) ?_ | refine Ow.sp rfl (by exact Pu.lt rfl rfl) (fun hc => ?_) (fun hc => ?_)) | (refine Ow.b_geq ?_; first | refine Ow.pu rfl (Pu.ge_t rfl rfl (by omega)) ?_ | refine Ow.pu rfl (Pu.ge_f rfl rfl (by omega)) ?_ | refine Ow.sp rfl (by exact Pu.ge rfl rfl) (fun hc => ?_) (fun hc => ?_)))) | (refine Ow.kPick ?_; (first | refine Ow.pu rfl (Pu.pick_t rfl rfl) ?_ | refine Ow.pu rfl (Pu.pick_f rfl rfl) ?_)))) | (refine Cw.is ?_; (first | refine Cw.seq ?_ | refine Cw.region ?_ | refine Cw.ret ?_)) | (first | refine thenQ_n ?_)))
  all_goals (refine retQ_v () Tryd.results30 rfl rfl ?_; refine Ent.trans ?_ (Ent.of_eq (emp_star F).symm); ((try simp only [star_assoc]); (repeat (apply Ent.pk; exact pkA)); first | exact Ent.fin pkA | exact Ent.refl _))
theorem rtruth_fn (b : Bool) : Fn Tryd.prog 49 [.bool b] emp Unit (fun _ => vi (if b = true then 1 else 0)) (fun _ => emp) := by
  cases b
  all_goals (refine Fn.of Tryd.func49 rfl (by kernel_rfl) Tryd.ntmps49 rfl (fun F => ?_))
  all_goals refine Cw.heq (emp_star F) ?_
  all_goals (repeat' (first | (refine Ow.is ?_; (first | refine Ow.nil ?_ | refine Ow.pu rfl (Pu.move rfl) ?_ | refine Ow.pu rfl (Pu.assign rfl) ?_)) | (refine Cw.is ?_; (first | refine Cw.seq ?_ | refine Cw.region ?_ | refine Cw.cond_t rfl rfl ?_ | refine Cw.cond_f rfl rfl ?_ | refine Cw.ret ?_ | refine Cw.skip ?_)) | (first | refine thenQ_n ?_ | refine thenQ_r ?_)))
  all_goals (refine retQ_v () Tryd.results49 rfl rfl ?_; refine Ent.trans ?_ (Ent.of_eq (emp_star F).symm); ((try simp only [star_assoc]); (repeat (apply Ent.pk; exact pkA)); first | exact Ent.fin pkA | exact Ent.refl _))
def tpO : Option (Nat × ThS) → Value
  | none => .pointer none
  | some p => .pointer (some ⟨p.1, 0, none⟩)
abbrev rcl (m : Nat) (q : Cfg) (tv gv : SV) (P : List Value) : HP := cl m (q.cs ++ (tv.v :: (P ++ [gv.v])))
variable (m : Nat) (q : Cfg) (tv gv : SV) (P : List Value) (O : List (Obj SV))
theorem rcs_t {i : Nat} (h : i < P.length) : (q.cs ++ (tv.v :: (P ++ [gv.v])))[0 + 12 + i * 1]? = P[i]? := by
  rw [show 0 + 12 + i * 1 = i + 12 by omega]
  show (P ++ [gv.v])[i]? = _
  rw [List.getElem?_append_left h]
theorem rcs_set {i : Nat} (h : i < P.length) (u : Value) : (q.cs ++ (tv.v :: (P ++ [gv.v]))).set (0 + 12 + i * 1) u = q.cs ++ (tv.v :: (P.set i u ++ [gv.v])) := by
  rw [show 0 + 12 + i * 1 = i + 12 by omega]
  show q.cs ++ (tv.v :: (P ++ [gv.v]).set i u) = _
  rw [List.set_append_left _ _ h]
theorem rcl_t {i : Nat} {v : Value} (h : P[i]? = some v) : RdA (rcl m q tv gv P) ⟨m, 0 + 12 + i * 1, none⟩ v := rd_cl (by
  rw [rcs_t q tv gv P (List.getElem?_eq_some_iff.1 h).1]; exact h)
theorem rcl_w {i : Nat} {u : Value} (h : i < P.length) : WrA (rcl m q tv gv P) ⟨m, 0 + 12 + i * 1, none⟩ u (rcl m q tv gv (P.set i u)) := by
  have hw := wr_cl (b := m) (cs := q.cs ++ (tv.v :: (P ++ [gv.v]))) (o := 0 + 12 + i * 1) (v := u) (by simp; omega)
  rw [rcs_set q tv gv P h] at hw
  exact hw
theorem live_n (t : Int) (h : ¬ (0 ≤ t ∧ t < 4)) : Fn Tryd.prog 29 [.pointer (some ⟨m, 0, none⟩), vi t] (rcl m q tv gv P) Unit (fun _ => .pointer none) (fun _ => rcl m q tv gv P) := by
  (refine Fn.of Tryd.func29 rfl (by kernel_rfl) Tryd.ntmps29 rfl (fun F => ?_))
  (repeat' (first | (refine Ow.is ?_; (first | refine Ow.nil ?_ | refine Ow.pu rfl (Pu.move rfl) ?_ | refine Ow.pu rfl (Pu.assign rfl) ?_ | (refine Ow.kUn ?_; (first | refine Ow.pu rfl (Pu.not rfl) ?_)) | (refine Ow.kCall ?_; (first | refine Ow.callE0 evA rfl (in_f _ _ (by omega)) (fun _ => Ow.unemp ?_) | fail)))) | (refine Cw.is ?_; (first | refine Cw.seq ?_ | refine Cw.region ?_ | refine Cw.cond_t rfl rfl ?_ | refine Cw.ret ?_)) | (first | refine thenQ_n ?_ | refine thenQ_r ?_)))
  all_goals (refine retQ_v () Tryd.results29 rfl rfl ?_; ((try simp only [star_assoc]); (repeat (apply Ent.pk; exact pkA)); first | exact Ent.fin pkA | exact Ent.refl _))
theorem live_t (t : Int) (h : 0 ≤ t ∧ t < 4) {v : Value} (hv : P[t.toNat]? = some v) : Fn Tryd.prog 29 [.pointer (some ⟨m, 0, none⟩), vi t] (rcl m q tv gv P) Unit (fun _ => v) (fun _ => rcl m q tv gv P) := by
  have hpt := rcl_t m q tv gv P hv
  (refine Fn.of Tryd.func29 rfl (by kernel_rfl) Tryd.ntmps29 rfl (fun F => ?_))
  (repeat' (first | (refine Ow.is ?_; (first | refine Ow.pu rfl (Pu.fld rfl) ?_ | refine Ow.nil ?_ | refine Ow.pu rfl (Pu.move rfl) ?_ | refine Ow.pu rfl (Pu.assign rfl) ?_ | refine Ow.pu rfl (Pu.fld rfl) ?_ | refine Ow.pu rfl (Pu.nilCheck rfl) ?_ | (refine Ow.kLoad ?_; (first | refine Ow.pu rfl (Pu.load (a := ⟨m, 0 + 12 + t.toNat * 1, none⟩) rfl pkA hpt) ?_)) | (refine Ow.kUn ?_; (first | refine Ow.pu rfl (Pu.not rfl) ?_)) | (refine Ow.kIdx ?_; (first | refine Ow.pu rfl (Pu.idxA_b rfl rfl (by omega)) ?_ | refine Ow.pu rfl (Pu.idxA_b rfl rfl (by omega)) ?_)) | (refine Ow.kCall ?_; (first | refine Ow.callE0 evA rfl (in_t _ _ (by omega)) (fun _ => Ow.unemp ?_) | fail)))) | (refine Cw.is ?_; (first | refine Cw.seq ?_ | refine Cw.region ?_ | refine Cw.cond_f rfl rfl ?_ | refine Cw.ret ?_ | refine Cw.skip ?_)) | (first | refine thenQ_n ?_)))
  all_goals (refine retQ_v () Tryd.results29 rfl rfl ?_; ((try simp only [star_assoc]); (repeat (apply Ent.pk; exact pkA)); first | exact Ent.fin pkA | exact Ent.refl _))
abbrev rfldH : HP := rcl m q tv gv P * (slk 2 tv.v (O.flatMap obc) * obs O)
theorem rfield_0 (i : Int) : Fn Tryd.prog 48 [.pointer (some ⟨m, 0, none⟩), vi 0, vi i] (rfldH m q tv gv P O) Unit (fun _ => .tuple #[.pointer none, vi 8]) (fun _ => rfldH m q tv gv P O) := by
  (refine Fn.of Tryd.func48 rfl (by kernel_rfl) Tryd.ntmps48 rfl (fun F => ?_))
  (repeat' (first | (refine Ow.is ?_; (first | refine Ow.nil ?_ | refine Ow.pu rfl (Pu.move rfl) ?_ | refine Ow.pu rfl (Pu.assign rfl) ?_ | (refine Ow.kBin ?_; (first | (refine Ow.b_eql ?_; (first | refine Ow.pu rfl (Pu.eq_t rfl rfl roA) ?_)))))) | (refine Cw.is ?_; (first | refine Cw.seq ?_ | refine Cw.region ?_ | refine Cw.cond_t rfl rfl ?_ | refine Cw.ret ?_)) | (first | refine thenQ_n ?_ | refine thenQ_r ?_)))
  refine retQ_v2 () Tryd.results48 rfl rfl rfl ?_; ((try simp only [star_assoc]); (repeat (apply Ent.pk; exact pkA)); first | exact Ent.fin pkA | exact Ent.refl _)
theorem rfield_x (hO : O.length ≤ 1000000) (o i : Int) (ho : 1 ≤ o ∧ o ≤ O.length) (hi : ¬ (0 ≤ i ∧ i < (O[(o - 1).toNat]!).2.1.length)) : Fn Tryd.prog 48 [.pointer (some ⟨m, 0, none⟩), vi o, vi i] (rfldH m q tv gv P O) Unit (fun _ => .tuple #[.pointer none, vi 6]) (fun _ => rfldH m q tv gv P O) := by
  unfold rfldH
  have hob' := obs_at O (o - 1).toNat (by omega)
  obtain ⟨ob, hob⟩ : ∃ ob, O[(o - 1).toNat]! = ob := ⟨_, rfl⟩
  rw [hob] at hob' hi
  rw [hob']
  (refine Fn.of Tryd.func48 rfl (by kernel_rfl) Tryd.ntmps48 rfl (fun F => ?_))
  (refine Cw.heq (by simp only [star_assoc, emp_star, star_emp]; exact rfl) ?_)
  (repeat' (first | (refine Ow.is ?_; (first | refine Ow.pu rfl (Pu.fld rfl) ?_ | refine Ow.pu rfl (Pu.fld0 rfl) ?_ | refine Ow.nil ?_ | refine Ow.pu rfl (Pu.move rfl) ?_ | refine Ow.pu rfl (Pu.assign rfl) ?_ | refine Ow.pu rfl (Pu.fld rfl) ?_ | refine Ow.pu rfl (Pu.nilCheck rfl) ?_ | (refine Ow.kLoad ?_; (first | refine Ow.pu rfl (Pu.load_stfd (o := 0) (w := ob) rfl pkA (by omega) hob rfl) ?_ | refine Ow.pu rfl (Pu.load_cl rfl pkA rfl) ?_)) | (refine Ow.kBin ?_; (first | (refine Ow.b_eql ?_; (first | refine Ow.pu rfl (Pu.eq_f rfl rfl odA) ?_)) | (refine Ow.b_sub ?_; refine Ow.pu rfl (Pu.sub_i rfl rfl (by omega)) ?_))) | (refine Ow.kUn ?_; (first | refine Ow.pu rfl (Pu.not rfl) ?_)) | (refine Ow.kIdx ?_; (first | refine Ow.pu rfl (Pu.idx_st rfl rfl pkA (by omega)) ?_)) | (refine Ow.kBuiltin ?_; (first | refine Ow.pu rfl (Pu.len_slm rfl pkA) ?_)) | (refine Ow.kCall ?_; (first | refine Ow.callE0 evA rfl (in_f _ _ (by omega)) (fun _ => Ow.unemp ?_) | fail)))) | (refine Cw.is ?_; (first | refine Cw.seq ?_ | refine Cw.region ?_ | refine Cw.cond_t rfl rfl ?_ | refine Cw.cond_f rfl rfl ?_ | refine Cw.ret ?_ | refine Cw.skip ?_)) | (first | refine thenQ_n ?_ | refine thenQ_r ?_)))
  all_goals (refine retQ_v2 () Tryd.results48 rfl rfl rfl ?_; ((try simp only [star_assoc]); (repeat (apply Ent.pk; exact pkA)); first | exact Ent.fin pkA | exact Ent.refl _))
theorem rfield_t (hO : O.length ≤ 1000000) (o i : Int) (ho : 1 ≤ o ∧ o ≤ O.length) (hi : 0 ≤ i ∧ i < (O[(o - 1).toNat]!).2.1.length) : Fn Tryd.prog 48 [.pointer (some ⟨m, 0, none⟩), vi o, vi i] (rfldH m q tv gv P O) Unit (fun _ => .tuple #[.pointer (some ((sbase (O[(o - 1).toNat]!).1.v).add i.toNat)), vi 0]) (fun _ => rfldH m q tv gv P O) := by
  unfold rfldH
  have hob' := obs_at O (o - 1).toNat (by omega)
  obtain ⟨ob, hob⟩ : ∃ ob, O[(o - 1).toNat]! = ob := ⟨_, rfl⟩
  rw [hob] at hob' hi
  rw [hob', hob]
  (refine Fn.of Tryd.func48 rfl (by kernel_rfl) Tryd.ntmps48 rfl (fun F => ?_))
  (refine Cw.heq (by simp only [star_assoc, emp_star, star_emp]; exact rfl) ?_)
  (repeat' (first | (refine Ow.is ?_; (first | refine Ow.pu rfl (Pu.fld rfl) ?_ | refine Ow.pu rfl (Pu.fld0 rfl) ?_ | refine Ow.nil ?_ | refine Ow.pu rfl (Pu.move rfl) ?_ | refine Ow.pu rfl (Pu.assign rfl) ?_ | refine Ow.pu rfl (Pu.fld rfl) ?_ | refine Ow.pu rfl (Pu.nilCheck rfl) ?_ | (refine Ow.kLoad ?_; (first | refine Ow.pu rfl (Pu.load_stfd (o := 0) (w := ob) rfl pkA (by omega) hob rfl) ?_ | refine Ow.pu rfl (Pu.load_cl rfl pkA rfl) ?_)) | (refine Ow.kBin ?_; (first | (refine Ow.b_eql ?_; (first | refine Ow.pu rfl (Pu.eq_f rfl rfl odA) ?_)) | (refine Ow.b_sub ?_; refine Ow.pu rfl (Pu.sub_i rfl rfl (by omega)) ?_))) | (refine Ow.kUn ?_; (first | refine Ow.pu rfl (Pu.not rfl) ?_)) | (refine Ow.kIdx ?_; (first | refine Ow.pu rfl (Pu.idx_st rfl rfl pkA (by omega)) ?_ | refine Ow.pu rfl (Pu.idx_sl rfl rfl pkA (by simp only [List.length_map, List.length_append, List.length_set, List.length_replicate, List.length_cons, List.length_nil]; omega)) ?_)) | (refine Ow.kBuiltin ?_; (first | refine Ow.pu rfl (Pu.len_slm rfl pkA) ?_)) | (refine Ow.kCall ?_; (first | refine Ow.callE0 evA rfl (in_t _ _ (by omega)) (fun _ => Ow.unemp ?_) | fail)))) | (refine Cw.is ?_; (first | refine Cw.seq ?_ | refine Cw.region ?_ | refine Cw.cond_f rfl rfl ?_ | refine Cw.ret ?_ | refine Cw.skip ?_)) | (first | refine thenQ_n ?_)))
  all_goals (refine retQ_v2 () Tryd.results48 rfl rfl rfl ?_; ((try simp only [star_assoc]); (repeat (apply Ent.pk; exact pkA)); first | exact Ent.fin pkA | exact Ent.refl _))
end Go.Sl
namespace Go.Sl
open Go
def scopeQ (Q : PostT) : PostT
  | .goto _ => fun _ _ _ => False
  | e => Q e
section
variable {P : Program} {r : Option Nat} {n : Nat} {Q : PostT} {ρ : Env} {ds : List Deferred} {H : HP} {c : Code}
end
section
variable {P : Program} {r : Option Nat} {n : Nat} {Q : PostT} {ρ : Env} {ds : List Deferred} {H R A B X : HP} {all : List Oper} {d : Option Nat} {t t' : TypeId} {pos : String} {aft : Array Edge} {v : Value} {tl : Bool} {jt i : Nat} {ord : List (Nat × Bool)}
theorem Dw.sl {op : Op} {j : Nat} {b : Bool} {oj : Oper} {dj : Nat} (hi : all[i]? = some ⟨d, op, t, pos, aft, some (j, b)⟩) (hd : dOk n d = true)
    (h1 : all[j]? = some oj) (h2 : oj.dst = some dj) (h3 : lk ρ dj = some (.bool (!b))) (h : Dw P r n all B tl jt Q ds ord (putE d undef ρ) X) : Dw P r n all B tl jt Q ds ((i, true) :: ord) ρ X := by
  intro hl hj ht g a listed hok hsh hjt hle hr hds
  simp only [ordOk, Bool.and_eq_true, Bool.or_eq_true] at hok
  obtain ⟨⟨hrd, hjt'⟩, hok'⟩ := hok
  have hrd' : Region.ready .any all.toArray listed = [i] := by simpa using hrd
  have hmem : i ∈ Region.ready .any all.toArray listed := by rw [hrd']; simp
  have hi' : all.toArray[i]? = some ⟨d, op, t, pos, aft, some (j, b)⟩ := by simpa using hi
  have hlt := (Array.getElem?_eq_some_iff.1 hi').1
  have hlp := left_put (ops := all.toArray) hlt (mem_ready.1 hmem).1
  have hw : Region.wanted ⟨d, op, t, pos, aft, some (j, b)⟩ (yielded all.toArray a.tmps) = false := by
    have := hr.2 dj _ h3
    simp [Region.wanted, yielded, h1, h2, this]
  change hAny (fen r) P .any all.toArray g B tl _ (ord.length + 1) listed a (B * X)
  refine And.intro (.drop _ _) (And.intro (fun h0 => by rw [hrd'] at h0; cases h0) (fun k hk => ?_))
  rw [hrd'] at hk
  obtain rfl : k = i := by simpa using hk
  unfold hStep
  simp only [hi', hw]
  refine h hl hj ht g _ _ hok' (hsh.put hmem) ?_ (by simp only [List.length_cons] at hle; omega) (hr.putE hd undef) (by cases d <;> exact hds)
  rcases hjt with h9 | h9 | h9
  · cases h9
  · by_cases hkj : k = jt
    · simp only [hkj, bne_self_eq_false] at hjt'
      rcases hjt' with (h10 | h10) | h10
      · cases h10
      · exact .inr (.inr (by simpa using h10))
      · exact .inl (by simpa using h10)
    · exact .inr (.inl (by rw [getD_set_ne true hkj]; exact h9))
  · exact .inr (.inr h9)
end
end Go.Sl
namespace Go.Sl
open Go Go.Proofs
set_option linter.unusedVariables false
set_option linter.unusedSimpArgs false
attribute [local irreducible] star Ow Cw Pk Pu Dw DwF thenQ blockQ retQ loudQ loudF loudG Cr thr tab obs andI
variable (m : Nat) (q : Cfg) (tv gv : SV) (P : List Value)
set_option maxHeartbeats 8000000 in
theorem wrong_fn (k t n x y z : Int) (hn : 0 ≤ n ∧ n < 13) : Fn Tryd.prog 47 [.pointer (some ⟨m, 0, none⟩), itv k t n x y z] (rcl m q tv gv P) Unit (fun _ => vi (checkR q n x y z)) (fun _ => rcl m q tv gv P) := by
  by_cases hk : okx q n x y z
  · rw [checkR_ok hn hk]
    obtain ⟨hx, hy, hz⟩ := hk
    rcases (by omega : (n = 1 ∨ n = 5 ∨ n = 7) ∨ n = 2 ∨ n = 0 ∨ (n = 11 ∨ n = 12) ∨ (n = 3 ∨ n = 4 ∨ n = 6 ∨ n = 8 ∨ n = 9 ∨ n = 10)) with h | h | h | h | h
    · have hy := hy h
      rw [if_neg (by omega), if_neg (by omega)]
      (refine Fn.of Tryd.func47 rfl (by kernel_rfl) Tryd.ntmps47 rfl (fun F => ?_))
      (repeat' (first | (refine Ow.is ?_; (first | refine Ow.pu rfl (Pu.fld rfl) ?_ | refine Ow.nil ?_ | refine Ow.pu rfl (Pu.assign rfl) ?_ | refine Ow.pu rfl (Pu.fld rfl) ?_ | (refine Ow.kLoad ?_; (first | refine Ow.pu rfl (Pu.load_cl rfl pkA rfl) ?_)) | (refine Ow.kBin ?_; (first | (refine Ow.b_eql ?_; (first | refine Ow.pu rfl (Pu.eq_t rfl rfl roA) ?_ | refine Ow.pu rfl (Pu.eq_f rfl rfl odA) ?_ | refine Ow.sp rfl (by exact Pu.eqI rfl rfl) (fun hc => ?_) (fun hc => ?_))))) | (refine Ow.kBuildS ?_; (first | refine Ow.bldS1 rfl rfl (fun w => by kernel_rfl) (fun bx => ?_) | refine Ow.bldS2 rfl rfl rfl (fun w => by kernel_rfl) (fun bx => ?_))) | refine Ow.box rfl rfl rfl (fun bx => ?_))) | (refine Cw.is ?_; (first | refine Cw.seq ?_ | refine Cw.region ?_ | refine Cw.cond_t rfl rfl ?_ | refine Cw.cond_f rfl rfl ?_ | refine Cw.block ?_ | refine Cw.ret ?_ | refine Cw.exit ?_ | refine Cw.skip ?_)) | (first | refine thenQ_n ?_ | refine thenQ_r ?_ | refine thenQ_e ?_ | refine blockQ_n ?_ | refine blockQ_r ?_ | refine blockQ_e ?_ | refine Cr.step ?_)))
      all_goals (refine Cw.rounds 3 ?_)
      all_goals (repeat' (first | (refine Ow.is ?_; (first | refine Ow.pu rfl (Pu.fld rfl) ?_ | refine Ow.nil ?_ | refine Ow.pu rfl (Pu.move rfl) ?_ | refine Ow.pu rfl (Pu.assign rfl) ?_ | refine Ow.pu rfl (Pu.fld rfl) ?_ | refine Ow.pu rfl (Pu.nilCheck rfl) ?_ | (refine Ow.kGuard ?_; (first | refine Ow.guard_yes rfl rfl rfl ?_ | refine Ow.guard_no rfl rfl rfl rfl ?_)) | (refine Ow.kLoad ?_; (first | refine Ow.pu rfl (Pu.load_cl rfl pkA rfl) ?_)) | (refine Ow.kBin ?_; (first | (refine Ow.b_lss ?_; first | refine Ow.pu rfl (Pu.lt_t rfl rfl (by omega)) ?_ | refine Ow.pu rfl (Pu.lt_f rfl rfl (by omega)) ?_ | refine Ow.sp rfl (by exact Pu.lt rfl rfl) (fun hc => ?_) (fun hc => ?_)) | (refine Ow.b_add ?_; refine Ow.pu rfl (Pu.add_i rfl rfl (by omega)) ?_))) | (refine Ow.kPick ?_; (first | refine Ow.pu rfl (Pu.pick_t rfl rfl) ?_ | refine Ow.pu rfl (Pu.pick_f rfl rfl) ?_)) | (refine Ow.kBuiltin ?_; (first | refine Ow.pu rfl (Pu.len rfl) ?_)) | (refine Ow.kCall ?_; (first | refine Ow.callE0 evA rfl (in_t _ _ (by omega)) (fun _ => Ow.unemp ?_) | refine Ow.callE0 evA rfl (in_f _ _ (by omega)) (fun _ => Ow.unemp ?_) | fail)))) | (refine Cw.is ?_; (first | refine Cw.seq ?_ | refine Cw.region ?_ | refine Cw.cond_t rfl rfl ?_ | refine Cw.cond_f rfl rfl ?_ | refine Cw.block ?_ | refine Cw.ret ?_ | refine Cw.exit ?_ | refine Cw.skip ?_ | refine Cw.drawL (n := 80) (id := 12) [(0, false), (1, false), (2, false), (3, false), (4, false), (5, false), (6, false), (7, false), (8, false), (9, true), (10, false)] mixed (by kernel_rfl) ?_ | refine Cw.drawL (n := 80) (id := 14) [(0, false), (1, false), (2, false), (3, false), (4, false), (5, false), (6, false), (7, false), (8, false), (9, false), (10, false), (11, true), (12, false), (13, false)] mixed (by kernel_rfl) ?_)) | (first | refine thenQ_n ?_ | refine thenQ_r ?_ | refine thenQ_e ?_ | refine blockQ_n ?_ | refine blockQ_r ?_ | refine blockQ_e ?_ | refine Cr.step ?_ | (refine loudQ.is ?_; first | refine loudQ.go pkA ?_ | refine loudQ.goE (by ac_rfl) ?_)) | (refine Dw.is ?_; (first | refine Dw.q rfl rfl trivial (by (first | exact Pu.move rfl | exact Pu.assign rfl | exact Pu.fld rfl | exact Pu.nilCheck rfl | (apply Pu.kLoad; (first | exact Pu.load_cl rfl pkA rfl)) | (apply Pu.kIdx; (first | exact Pu.idx_b rfl rfl (by omega))) | (apply Pu.kUn; (first | exact Pu.not rfl)) | (apply Pu.kBin; (first | (apply Pu.b_geq; first | exact Pu.ge_t rfl rfl (by omega) | exact Pu.ge_f rfl rfl (by omega)))) | (apply Pu.kPick; (first | exact Pu.pick_t rfl rfl | exact Pu.pick_f rfl rfl)))) ?_ | refine Dw.q rfl rfl ⟨_, _, rfl, rfl, rfl⟩ (by (first | exact Pu.move rfl | exact Pu.assign rfl | exact Pu.fld rfl | exact Pu.nilCheck rfl | (apply Pu.kLoad; (first | exact Pu.load_cl rfl pkA rfl)) | (apply Pu.kIdx; (first | exact Pu.idx_b rfl rfl (by omega))) | (apply Pu.kUn; (first | exact Pu.not rfl)) | (apply Pu.kBin; (first | (apply Pu.b_geq; first | exact Pu.ge_t rfl rfl (by omega) | exact Pu.ge_f rfl rfl (by omega)))) | (apply Pu.kPick; (first | exact Pu.pick_t rfl rfl | exact Pu.pick_f rfl rfl)))) ?_ | refine Dw.s rfl rfl rfl rfl rfl ?_ | refine Dw.sp rfl rfl trivial (by (first | exact Pu.lt rfl rfl)) (fun hc => ?_) (fun hc => ?_) | refine Dw.sp rfl rfl ⟨_, _, rfl, rfl, rfl⟩ (by (first | exact Pu.lt rfl rfl)) (fun hc => ?_) (fun hc => ?_) | refine Dw.nilE ?_ rfl | refine Dw.lE rfl trivial ?_ | refine Dw.lE rfl ⟨_, _, rfl, rfl, rfl⟩ ?_))))
      all_goals (refine Dw.sl rfl rfl rfl rfl rfl ?_)
      all_goals (repeat' (first | (refine Ow.is ?_; (first | refine Ow.pu rfl (Pu.fld rfl) ?_ | refine Ow.nil ?_ | refine Ow.pu rfl (Pu.move rfl) ?_ | refine Ow.pu rfl (Pu.assign rfl) ?_ | refine Ow.pu rfl (Pu.fld rfl) ?_ | refine Ow.pu rfl (Pu.nilCheck rfl) ?_ | (refine Ow.kGuard ?_; (first | refine Ow.guard_yes rfl rfl rfl ?_ | refine Ow.guard_no rfl rfl rfl rfl ?_)) | (refine Ow.kLoad ?_; (first | refine Ow.pu rfl (Pu.load_cl rfl pkA rfl) ?_)) | (refine Ow.kBin ?_; (first | (refine Ow.b_lss ?_; first | refine Ow.pu rfl (Pu.lt_t rfl rfl (by omega)) ?_ | refine Ow.pu rfl (Pu.lt_f rfl rfl (by omega)) ?_ | refine Ow.sp rfl (by exact Pu.lt rfl rfl) (fun hc => ?_) (fun hc => ?_)) | (refine Ow.b_eql ?_; (first | refine Ow.pu rfl (Pu.eq_t rfl rfl roA) ?_ | refine Ow.pu rfl (Pu.eq_f rfl rfl odA) ?_ | refine Ow.sp rfl (by exact Pu.eqI rfl rfl) (fun hc => ?_) (fun hc => ?_))))) | (refine Ow.kPick ?_; (first | refine Ow.pu rfl (Pu.pick_t rfl rfl) ?_ | refine Ow.pu rfl (Pu.pick_f rfl rfl) ?_)) | (refine Ow.kCall ?_; (first | refine Ow.callE0 evA rfl (in_t _ _ (by omega)) (fun _ => Ow.unemp ?_) | refine Ow.callE0 evA rfl (in_f _ _ (by omega)) (fun _ => Ow.unemp ?_) | fail)))) | (refine Cw.is ?_; (first | refine Cw.seq ?_ | refine Cw.region ?_ | refine Cw.cond_t rfl rfl ?_ | refine Cw.cond_f rfl rfl ?_ | refine Cw.block ?_ | refine Cw.ret ?_ | refine Cw.exit ?_ | refine Cw.skip ?_ | refine Cw.drawL (n := 80) (id := 14) [(0, false), (1, false), (2, false), (3, false), (4, false), (5, false), (6, false), (7, false), (8, false), (9, false), (10, false), (11, true), (12, false), (13, false)] mixed (by kernel_rfl) ?_ | refine Cw.drawL (n := 80) (id := 18) [(0, false), (1, false), (2, false), (3, false), (4, false), (5, false), (6, false), (7, false), (8, false), (9, false), (10, false), (11, false), (12, false)] mixed (by kernel_rfl) ?_)) | (first | refine thenQ_n ?_ | refine thenQ_r ?_ | refine thenQ_e ?_ | refine blockQ_n ?_ | refine blockQ_r ?_ | refine blockQ_e ?_ | refine Cr.step ?_ | (refine loudQ.is ?_; first | refine loudQ.go pkA ?_ | refine loudQ.goE (by ac_rfl) ?_)) | (refine Dw.is ?_; (first | refine Dw.q rfl rfl trivial (by (first | exact Pu.move rfl | exact Pu.assign rfl | exact Pu.fld rfl | exact Pu.nilCheck rfl | (apply Pu.kLoad; (first | exact Pu.load_cl rfl pkA rfl)) | (apply Pu.kUn; (first | exact Pu.not rfl)) | (apply Pu.kBin; (first | (apply Pu.b_geq; first | exact Pu.ge_t rfl rfl (by omega) | exact Pu.ge_f rfl rfl (by omega)) | (apply Pu.b_eql; (first | exact Pu.eq_t rfl rfl roA | exact Pu.eq_f rfl rfl odA)))) | (apply Pu.kPick; (first | exact Pu.pick_t rfl rfl | exact Pu.pick_f rfl rfl)))) ?_ | refine Dw.q rfl rfl ⟨_, _, rfl, rfl, rfl⟩ (by (first | exact Pu.move rfl | exact Pu.assign rfl | exact Pu.fld rfl | exact Pu.nilCheck rfl | (apply Pu.kLoad; (first | exact Pu.load_cl rfl pkA rfl)) | (apply Pu.kUn; (first | exact Pu.not rfl)) | (apply Pu.kBin; (first | (apply Pu.b_geq; first | exact Pu.ge_t rfl rfl (by omega) | exact Pu.ge_f rfl rfl (by omega)) | (apply Pu.b_eql; (first | exact Pu.eq_t rfl rfl roA | exact Pu.eq_f rfl rfl odA)))) | (apply Pu.kPick; (first | exact Pu.pick_t rfl rfl | exact Pu.pick_f rfl rfl)))) ?_ | refine Dw.s rfl rfl rfl rfl rfl ?_ | refine Dw.sp rfl rfl trivial (by (first | exact Pu.lt rfl rfl | exact Pu.gt rfl rfl | exact Pu.eqI rfl rfl)) (fun hc => ?_) (fun hc => ?_) | refine Dw.sp rfl rfl ⟨_, _, rfl, rfl, rfl⟩ (by (first | exact Pu.lt rfl rfl | exact Pu.gt rfl rfl | exact Pu.eqI rfl rfl)) (fun hc => ?_) (fun hc => ?_) | refine Dw.nilE ?_ rfl | refine Dw.lE rfl trivial ?_ | refine Dw.lE rfl ⟨_, _, rfl, rfl, rfl⟩ ?_))))
      all_goals (refine retQ_v () Tryd.results47 rfl rfl ?_; ((try simp only [star_assoc]); (repeat (apply Ent.pk; exact pkA)); first | exact Ent.fin pkA | exact Ent.refl _))
    · have hz := hz h
      rw [if_neg (by omega), if_neg (by omega)]
      (refine Fn.of Tryd.func47 rfl (by kernel_rfl) Tryd.ntmps47 rfl (fun F => ?_))
      (repeat' (first | (refine Ow.is ?_; (first | refine Ow.pu rfl (Pu.fld rfl) ?_ | refine Ow.nil ?_ | refine Ow.pu rfl (Pu.assign rfl) ?_ | refine Ow.pu rfl (Pu.fld rfl) ?_ | (refine Ow.kLoad ?_; (first | refine Ow.pu rfl (Pu.load_cl rfl pkA rfl) ?_)) | (refine Ow.kBin ?_; (first | (refine Ow.b_eql ?_; (first | refine Ow.pu rfl (Pu.eq_t rfl rfl roA) ?_ | refine Ow.pu rfl (Pu.eq_f rfl rfl odA) ?_ | refine Ow.sp rfl (by exact Pu.eqI rfl rfl) (fun hc => ?_) (fun hc => ?_))))) | (refine Ow.kBuildS ?_; (first | refine Ow.bldS1 rfl rfl (fun w => by kernel_rfl) (fun bx => ?_) | refine Ow.bldS2 rfl rfl rfl (fun w => by kernel_rfl) (fun bx => ?_))) | refine Ow.box rfl rfl rfl (fun bx => ?_))) | (refine Cw.is ?_; (first | refine Cw.seq ?_ | refine Cw.region ?_ | refine Cw.cond_t rfl rfl ?_ | refine Cw.cond_f rfl rfl ?_ | refine Cw.block ?_ | refine Cw.ret ?_ | refine Cw.exit ?_ | refine Cw.skip ?_)) | (first | refine thenQ_n ?_ | refine thenQ_r ?_ | refine thenQ_e ?_ | refine blockQ_n ?_ | refine blockQ_r ?_ | refine blockQ_e ?_ | refine Cr.step ?_)))
      all_goals (refine Cw.rounds 3 ?_)
      all_goals (repeat' (first | (refine Ow.is ?_; (first | refine Ow.pu rfl (Pu.fld rfl) ?_ | refine Ow.nil ?_ | refine Ow.pu rfl (Pu.move rfl) ?_ | refine Ow.pu rfl (Pu.assign rfl) ?_ | refine Ow.pu rfl (Pu.fld rfl) ?_ | refine Ow.pu rfl (Pu.nilCheck rfl) ?_ | (refine Ow.kGuard ?_; (first | refine Ow.guard_yes rfl rfl rfl ?_ | refine Ow.guard_no rfl rfl rfl rfl ?_)) | (refine Ow.kLoad ?_; (first | refine Ow.pu rfl (Pu.load_cl rfl pkA rfl) ?_)) | (refine Ow.kBin ?_; (first | (refine Ow.b_lss ?_; first | refine Ow.pu rfl (Pu.lt_t rfl rfl (by omega)) ?_ | refine Ow.pu rfl (Pu.lt_f rfl rfl (by omega)) ?_ | refine Ow.sp rfl (by exact Pu.lt rfl rfl) (fun hc => ?_) (fun hc => ?_)) | (refine Ow.b_add ?_; refine Ow.pu rfl (Pu.add_i rfl rfl (by omega)) ?_))) | (refine Ow.kPick ?_; (first | refine Ow.pu rfl (Pu.pick_t rfl rfl) ?_ | refine Ow.pu rfl (Pu.pick_f rfl rfl) ?_)) | (refine Ow.kBuiltin ?_; (first | refine Ow.pu rfl (Pu.len rfl) ?_)) | (refine Ow.kCall ?_; (first | refine Ow.callE0 evA rfl (in_t _ _ (by omega)) (fun _ => Ow.unemp ?_) | refine Ow.callE0 evA rfl (in_f _ _ (by omega)) (fun _ => Ow.unemp ?_) | fail)))) | (refine Cw.is ?_; (first | refine Cw.seq ?_ | refine Cw.region ?_ | refine Cw.cond_t rfl rfl ?_ | refine Cw.cond_f rfl rfl ?_ | refine Cw.block ?_ | refine Cw.ret ?_ | refine Cw.exit ?_ | refine Cw.skip ?_ | refine Cw.drawL (n := 80) (id := 12) [(0, false), (1, false), (2, false), (3, false), (4, false), (5, false), (6, false), (7, false), (8, false), (9, true), (10, false)] mixed (by kernel_rfl) ?_ | refine Cw.drawL (n := 80) (id := 14) [(0, false), (1, false), (2, false), (3, false), (4, false), (5, false), (6, false), (7, false), (8, false), (9, false), (10, false), (11, true), (12, false), (13, false)] mixed (by kernel_rfl) ?_)) | (first | refine thenQ_n ?_ | refine thenQ_r ?_ | refine thenQ_e ?_ | refine blockQ_n ?_ | refine blockQ_r ?_ | refine blockQ_e ?_ | refine Cr.step ?_ | (refine loudQ.is ?_; first | refine loudQ.go pkA ?_ | refine loudQ.goE (by ac_rfl) ?_)) | (refine Dw.is ?_; (first | refine Dw.q rfl rfl trivial (by (first | exact Pu.move rfl | exact Pu.assign rfl | exact Pu.fld rfl | exact Pu.nilCheck rfl | (apply Pu.kLoad; (first | exact Pu.load_cl rfl pkA rfl)) | (apply Pu.kIdx; (first | exact Pu.idx_b rfl rfl (by omega))) | (apply Pu.kUn; (first | exact Pu.not rfl)) | (apply Pu.kBin; (first | (apply Pu.b_geq; first | exact Pu.ge_t rfl rfl (by omega) | exact Pu.ge_f rfl rfl (by omega)))) | (apply Pu.kPick; (first | exact Pu.pick_t rfl rfl | exact Pu.pick_f rfl rfl)))) ?_ | refine Dw.q rfl rfl ⟨_, _, rfl, rfl, rfl⟩ (by (first | exact Pu.move rfl | exact Pu.assign rfl | exact Pu.fld rfl | exact Pu.nilCheck rfl | (apply Pu.kLoad; (first | exact Pu.load_cl rfl pkA rfl)) | (apply Pu.kIdx; (first | exact Pu.idx_b rfl rfl (by omega))) | (apply Pu.kUn; (first | exact Pu.not rfl)) | (apply Pu.kBin; (first | (apply Pu.b_geq; first | exact Pu.ge_t rfl rfl (by omega) | exact Pu.ge_f rfl rfl (by omega)))) | (apply Pu.kPick; (first | exact Pu.pick_t rfl rfl | exact Pu.pick_f rfl rfl)))) ?_ | refine Dw.s rfl rfl rfl rfl rfl ?_ | refine Dw.sp rfl rfl trivial (by (first | exact Pu.lt rfl rfl)) (fun hc => ?_) (fun hc => ?_) | refine Dw.sp rfl rfl ⟨_, _, rfl, rfl, rfl⟩ (by (first | exact Pu.lt rfl rfl)) (fun hc => ?_) (fun hc => ?_) | refine Dw.nilE ?_ rfl | refine Dw.lE rfl trivial ?_ | refine Dw.lE rfl ⟨_, _, rfl, rfl, rfl⟩ ?_))))
      all_goals (refine Dw.sl rfl rfl rfl rfl rfl ?_)
      all_goals (repeat' (first | (refine Ow.is ?_; (first | refine Ow.pu rfl (Pu.fld rfl) ?_ | refine Ow.nil ?_ | refine Ow.pu rfl (Pu.move rfl) ?_ | refine Ow.pu rfl (Pu.assign rfl) ?_ | refine Ow.pu rfl (Pu.fld rfl) ?_ | refine Ow.pu rfl (Pu.nilCheck rfl) ?_ | (refine Ow.kGuard ?_; (first | refine Ow.guard_yes rfl rfl rfl ?_ | refine Ow.guard_no rfl rfl rfl rfl ?_)) | (refine Ow.kLoad ?_; (first | refine Ow.pu rfl (Pu.load_cl rfl pkA rfl) ?_)) | (refine Ow.kBin ?_; (first | (refine Ow.b_lss ?_; first | refine Ow.pu rfl (Pu.lt_t rfl rfl (by omega)) ?_ | refine Ow.pu rfl (Pu.lt_f rfl rfl (by omega)) ?_ | refine Ow.sp rfl (by exact Pu.lt rfl rfl) (fun hc => ?_) (fun hc => ?_)) | (refine Ow.b_eql ?_; (first | refine Ow.pu rfl (Pu.eq_t rfl rfl roA) ?_ | refine Ow.pu rfl (Pu.eq_f rfl rfl odA) ?_ | refine Ow.sp rfl (by exact Pu.eqI rfl rfl) (fun hc => ?_) (fun hc => ?_))))) | (refine Ow.kPick ?_; (first | refine Ow.pu rfl (Pu.pick_t rfl rfl) ?_ | refine Ow.pu rfl (Pu.pick_f rfl rfl) ?_)) | (refine Ow.kCall ?_; (first | refine Ow.callE0 evA rfl (in_t _ _ (by omega)) (fun _ => Ow.unemp ?_) | refine Ow.callE0 evA rfl (in_f _ _ (by omega)) (fun _ => Ow.unemp ?_) | fail)))) | (refine Cw.is ?_; (first | refine Cw.seq ?_ | refine Cw.region ?_ | refine Cw.cond_t rfl rfl ?_ | refine Cw.cond_f rfl rfl ?_ | refine Cw.block ?_ | refine Cw.ret ?_ | refine Cw.exit ?_ | refine Cw.skip ?_ | refine Cw.drawL (n := 80) (id := 14) [(0, false), (1, false), (2, false), (3, false), (4, false), (5, false), (6, false), (7, false), (8, false), (9, false), (10, false), (11, true), (12, false), (13, false)] mixed (by kernel_rfl) ?_ | refine Cw.drawL (n := 80) (id := 18) [(0, false), (1, false), (2, false), (3, false), (4, false), (5, false), (6, false), (7, false), (8, false), (9, false), (10, false), (11, false), (12, false)] mixed (by kernel_rfl) ?_)) | (first | refine thenQ_n ?_ | refine thenQ_r ?_ | refine thenQ_e ?_ | refine blockQ_n ?_ | refine blockQ_r ?_ | refine blockQ_e ?_ | refine Cr.step ?_ | (refine loudQ.is ?_; first | refine loudQ.go pkA ?_ | refine loudQ.goE (by ac_rfl) ?_)) | (refine Dw.is ?_; (first | refine Dw.q rfl rfl trivial (by (first | exact Pu.move rfl | exact Pu.assign rfl | exact Pu.fld rfl | exact Pu.nilCheck rfl | (apply Pu.kLoad; (first | exact Pu.load_cl rfl pkA rfl)) | (apply Pu.kUn; (first | exact Pu.not rfl)) | (apply Pu.kBin; (first | (apply Pu.b_geq; first | exact Pu.ge_t rfl rfl (by omega) | exact Pu.ge_f rfl rfl (by omega)) | (apply Pu.b_eql; (first | exact Pu.eq_t rfl rfl roA | exact Pu.eq_f rfl rfl odA)))) | (apply Pu.kPick; (first | exact Pu.pick_t rfl rfl | exact Pu.pick_f rfl rfl)))) ?_ | refine Dw.q rfl rfl ⟨_, _, rfl, rfl, rfl⟩ (by (first | exact Pu.move rfl | exact Pu.assign rfl | exact Pu.fld rfl | exact Pu.nilCheck rfl | (apply Pu.kLoad; (first | exact Pu.load_cl rfl pkA rfl)) | (apply Pu.kUn; (first | exact Pu.not rfl)) | (apply Pu.kBin; (first | (apply Pu.b_geq; first | exact Pu.ge_t rfl rfl (by omega) | exact Pu.ge_f rfl rfl (by omega)) | (apply Pu.b_eql; (first | exact Pu.eq_t rfl rfl roA | exact Pu.eq_f rfl rfl odA)))) | (apply Pu.kPick; (first | exact Pu.pick_t rfl rfl | exact Pu.pick_f rfl rfl)))) ?_ | refine Dw.s rfl rfl rfl rfl rfl ?_ | refine Dw.sp rfl rfl trivial (by (first | exact Pu.lt rfl rfl | exact Pu.gt rfl rfl | exact Pu.eqI rfl rfl)) (fun hc => ?_) (fun hc => ?_) | refine Dw.sp rfl rfl ⟨_, _, rfl, rfl, rfl⟩ (by (first | exact Pu.lt rfl rfl | exact Pu.gt rfl rfl | exact Pu.eqI rfl rfl)) (fun hc => ?_) (fun hc => ?_) | refine Dw.nilE ?_ rfl | refine Dw.lE rfl trivial ?_ | refine Dw.lE rfl ⟨_, _, rfl, rfl, rfl⟩ ?_))))
      all_goals (refine retQ_v () Tryd.results47 rfl rfl ?_; ((try simp only [star_assoc]); (repeat (apply Ent.pk; exact pkA)); first | exact Ent.fin pkA | exact Ent.refl _))
    · rw [if_neg (by omega), if_pos h]
      (refine Fn.of Tryd.func47 rfl (by kernel_rfl) Tryd.ntmps47 rfl (fun F => ?_))
      (repeat' (first | (refine Ow.is ?_; (first | refine Ow.pu rfl (Pu.fld rfl) ?_ | refine Ow.nil ?_ | refine Ow.pu rfl (Pu.assign rfl) ?_ | refine Ow.pu rfl (Pu.fld rfl) ?_ | (refine Ow.kLoad ?_; (first | refine Ow.pu rfl (Pu.load_cl rfl pkA rfl) ?_)) | (refine Ow.kBin ?_; (first | (refine Ow.b_eql ?_; (first | refine Ow.pu rfl (Pu.eq_t rfl rfl roA) ?_ | refine Ow.pu rfl (Pu.eq_f rfl rfl odA) ?_ | refine Ow.sp rfl (by exact Pu.eqI rfl rfl) (fun hc => ?_) (fun hc => ?_))))) | (refine Ow.kBuildS ?_; (first | refine Ow.bldS1 rfl rfl (fun w => by kernel_rfl) (fun bx => ?_) | refine Ow.bldS2 rfl rfl rfl (fun w => by kernel_rfl) (fun bx => ?_))) | refine Ow.box rfl rfl rfl (fun bx => ?_))) | (refine Cw.is ?_; (first | refine Cw.seq ?_ | refine Cw.region ?_ | refine Cw.cond_t rfl rfl ?_ | refine Cw.cond_f rfl rfl ?_ | refine Cw.block ?_ | refine Cw.ret ?_ | refine Cw.exit ?_ | refine Cw.skip ?_)) | (first | refine thenQ_n ?_ | refine thenQ_r ?_ | refine thenQ_e ?_ | refine blockQ_n ?_ | refine blockQ_r ?_ | refine blockQ_e ?_ | refine Cr.step ?_)))
      all_goals (refine Cw.rounds 3 ?_)
      all_goals (repeat' (first | (refine Ow.is ?_; (first | refine Ow.pu rfl (Pu.fld rfl) ?_ | refine Ow.nil ?_ | refine Ow.pu rfl (Pu.move rfl) ?_ | refine Ow.pu rfl (Pu.assign rfl) ?_ | refine Ow.pu rfl (Pu.fld rfl) ?_ | refine Ow.pu rfl (Pu.nilCheck rfl) ?_ | (refine Ow.kGuard ?_; (first | refine Ow.guard_yes rfl rfl rfl ?_ | refine Ow.guard_no rfl rfl rfl rfl ?_)) | (refine Ow.kLoad ?_; (first | refine Ow.pu rfl (Pu.load_cl rfl pkA rfl) ?_)) | (refine Ow.kBin ?_; (first | (refine Ow.b_lss ?_; first | refine Ow.pu rfl (Pu.lt_t rfl rfl (by omega)) ?_ | refine Ow.pu rfl (Pu.lt_f rfl rfl (by omega)) ?_ | refine Ow.sp rfl (by exact Pu.lt rfl rfl) (fun hc => ?_) (fun hc => ?_)) | (refine Ow.b_add ?_; refine Ow.pu rfl (Pu.add_i rfl rfl (by omega)) ?_))) | (refine Ow.kPick ?_; (first | refine Ow.pu rfl (Pu.pick_t rfl rfl) ?_ | refine Ow.pu rfl (Pu.pick_f rfl rfl) ?_)) | (refine Ow.kBuiltin ?_; (first | refine Ow.pu rfl (Pu.len rfl) ?_)) | (refine Ow.kCall ?_; (first | refine Ow.callE0 evA rfl (in_t _ _ (by omega)) (fun _ => Ow.unemp ?_) | refine Ow.callE0 evA rfl (in_f _ _ (by omega)) (fun _ => Ow.unemp ?_) | fail)))) | (refine Cw.is ?_; (first | refine Cw.seq ?_ | refine Cw.region ?_ | refine Cw.cond_t rfl rfl ?_ | refine Cw.cond_f rfl rfl ?_ | refine Cw.block ?_ | refine Cw.ret ?_ | refine Cw.exit ?_ | refine Cw.skip ?_ | refine Cw.drawL (n := 80) (id := 12) [(0, false), (1, false), (2, false), (3, false), (4, false), (5, false), (6, false), (7, false), (8, false), (9, true), (10, false)] mixed (by kernel_rfl) ?_ | refine Cw.drawL (n := 80) (id := 14) [(0, false), (1, false), (2, false), (3, false), (4, false), (5, false), (6, false), (7, false), (8, false), (9, false), (10, false), (11, true), (12, false), (13, false)] mixed (by kernel_rfl) ?_)) | (first | refine thenQ_n ?_ | refine thenQ_r ?_ | refine thenQ_e ?_ | refine blockQ_n ?_ | refine blockQ_r ?_ | refine blockQ_e ?_ | refine Cr.step ?_ | (refine loudQ.is ?_; first | refine loudQ.go pkA ?_ | refine loudQ.goE (by ac_rfl) ?_)) | (refine Dw.is ?_; (first | refine Dw.q rfl rfl trivial (by (first | exact Pu.move rfl | exact Pu.assign rfl | exact Pu.fld rfl | exact Pu.nilCheck rfl | (apply Pu.kLoad; (first | exact Pu.load_cl rfl pkA rfl)) | (apply Pu.kIdx; (first | exact Pu.idx_b rfl rfl (by omega))) | (apply Pu.kUn; (first | exact Pu.not rfl)) | (apply Pu.kBin; (first | (apply Pu.b_geq; first | exact Pu.ge_t rfl rfl (by omega) | exact Pu.ge_f rfl rfl (by omega)))) | (apply Pu.kPick; (first | exact Pu.pick_t rfl rfl | exact Pu.pick_f rfl rfl)))) ?_ | refine Dw.q rfl rfl ⟨_, _, rfl, rfl, rfl⟩ (by (first | exact Pu.move rfl | exact Pu.assign rfl | exact Pu.fld rfl | exact Pu.nilCheck rfl | (apply Pu.kLoad; (first | exact Pu.load_cl rfl pkA rfl)) | (apply Pu.kIdx; (first | exact Pu.idx_b rfl rfl (by omega))) | (apply Pu.kUn; (first | exact Pu.not rfl)) | (apply Pu.kBin; (first | (apply Pu.b_geq; first | exact Pu.ge_t rfl rfl (by omega) | exact Pu.ge_f rfl rfl (by omega)))) | (apply Pu.kPick; (first | exact Pu.pick_t rfl rfl | exact Pu.pick_f rfl rfl)))) ?_ | refine Dw.s rfl rfl rfl rfl rfl ?_ | refine Dw.sp rfl rfl trivial (by (first | exact Pu.lt rfl rfl)) (fun hc => ?_) (fun hc => ?_) | refine Dw.sp rfl rfl ⟨_, _, rfl, rfl, rfl⟩ (by (first | exact Pu.lt rfl rfl)) (fun hc => ?_) (fun hc => ?_) | refine Dw.nilE ?_ rfl | refine Dw.lE rfl trivial ?_ | refine Dw.lE rfl ⟨_, _, rfl, rfl, rfl⟩ ?_))))
      all_goals (refine Dw.sl rfl rfl rfl rfl rfl ?_)
      all_goals (repeat' (first | (refine Ow.is ?_; (first | refine Ow.pu rfl (Pu.fld rfl) ?_ | refine Ow.nil ?_ | refine Ow.pu rfl (Pu.move rfl) ?_ | refine Ow.pu rfl (Pu.assign rfl) ?_ | refine Ow.pu rfl (Pu.fld rfl) ?_ | refine Ow.pu rfl (Pu.nilCheck rfl) ?_ | (refine Ow.kGuard ?_; (first | refine Ow.guard_yes rfl rfl rfl ?_ | refine Ow.guard_no rfl rfl rfl rfl ?_)) | (refine Ow.kLoad ?_; (first | refine Ow.pu rfl (Pu.load_cl rfl pkA rfl) ?_)) | (refine Ow.kBin ?_; (first | (refine Ow.b_lss ?_; first | refine Ow.pu rfl (Pu.lt_t rfl rfl (by omega)) ?_ | refine Ow.pu rfl (Pu.lt_f rfl rfl (by omega)) ?_ | refine Ow.sp rfl (by exact Pu.lt rfl rfl) (fun hc => ?_) (fun hc => ?_)) | (refine Ow.b_eql ?_; (first | refine Ow.pu rfl (Pu.eq_t rfl rfl roA) ?_ | refine Ow.pu rfl (Pu.eq_f rfl rfl odA) ?_ | refine Ow.sp rfl (by exact Pu.eqI rfl rfl) (fun hc => ?_) (fun hc => ?_))))) | (refine Ow.kPick ?_; (first | refine Ow.pu rfl (Pu.pick_t rfl rfl) ?_ | refine Ow.pu rfl (Pu.pick_f rfl rfl) ?_)) | (refine Ow.kCall ?_; (first | refine Ow.callE0 evA rfl (in_t _ _ (by omega)) (fun _ => Ow.unemp ?_) | refine Ow.callE0 evA rfl (in_f _ _ (by omega)) (fun _ => Ow.unemp ?_) | fail)))) | (refine Cw.is ?_; (first | refine Cw.seq ?_ | refine Cw.region ?_ | refine Cw.cond_t rfl rfl ?_ | refine Cw.cond_f rfl rfl ?_ | refine Cw.block ?_ | refine Cw.ret ?_ | refine Cw.exit ?_ | refine Cw.skip ?_ | refine Cw.drawL (n := 80) (id := 14) [(0, false), (1, false), (2, false), (3, false), (4, false), (5, false), (6, false), (7, false), (8, false), (9, false), (10, false), (11, true), (12, false), (13, false)] mixed (by kernel_rfl) ?_ | refine Cw.drawL (n := 80) (id := 18) [(0, false), (1, false), (2, false), (3, false), (4, false), (5, false), (6, false), (7, false), (8, false), (9, false), (10, false), (11, false), (12, false)] mixed (by kernel_rfl) ?_)) | (first | refine thenQ_n ?_ | refine thenQ_r ?_ | refine thenQ_e ?_ | refine blockQ_n ?_ | refine blockQ_r ?_ | refine blockQ_e ?_ | refine Cr.step ?_ | (refine loudQ.is ?_; first | refine loudQ.go pkA ?_ | refine loudQ.goE (by ac_rfl) ?_)) | (refine Dw.is ?_; (first | refine Dw.q rfl rfl trivial (by (first | exact Pu.move rfl | exact Pu.assign rfl | exact Pu.fld rfl | exact Pu.nilCheck rfl | (apply Pu.kLoad; (first | exact Pu.load_cl rfl pkA rfl)) | (apply Pu.kUn; (first | exact Pu.not rfl)) | (apply Pu.kBin; (first | (apply Pu.b_geq; first | exact Pu.ge_t rfl rfl (by omega) | exact Pu.ge_f rfl rfl (by omega)) | (apply Pu.b_eql; (first | exact Pu.eq_t rfl rfl roA | exact Pu.eq_f rfl rfl odA)))) | (apply Pu.kPick; (first | exact Pu.pick_t rfl rfl | exact Pu.pick_f rfl rfl)))) ?_ | refine Dw.q rfl rfl ⟨_, _, rfl, rfl, rfl⟩ (by (first | exact Pu.move rfl | exact Pu.assign rfl | exact Pu.fld rfl | exact Pu.nilCheck rfl | (apply Pu.kLoad; (first | exact Pu.load_cl rfl pkA rfl)) | (apply Pu.kUn; (first | exact Pu.not rfl)) | (apply Pu.kBin; (first | (apply Pu.b_geq; first | exact Pu.ge_t rfl rfl (by omega) | exact Pu.ge_f rfl rfl (by omega)) | (apply Pu.b_eql; (first | exact Pu.eq_t rfl rfl roA | exact Pu.eq_f rfl rfl odA)))) | (apply Pu.kPick; (first | exact Pu.pick_t rfl rfl | exact Pu.pick_f rfl rfl)))) ?_ | refine Dw.s rfl rfl rfl rfl rfl ?_ | refine Dw.sp rfl rfl trivial (by (first | exact Pu.lt rfl rfl | exact Pu.gt rfl rfl | exact Pu.eqI rfl rfl)) (fun hc => ?_) (fun hc => ?_) | refine Dw.sp rfl rfl ⟨_, _, rfl, rfl, rfl⟩ (by (first | exact Pu.lt rfl rfl | exact Pu.gt rfl rfl | exact Pu.eqI rfl rfl)) (fun hc => ?_) (fun hc => ?_) | refine Dw.nilE ?_ rfl | refine Dw.lE rfl trivial ?_ | refine Dw.lE rfl ⟨_, _, rfl, rfl, rfl⟩ ?_))))
      all_goals (refine retQ_v () Tryd.results47 rfl ?_ ?_)
      all_goals first | (refine Ent.is ?_; ((try simp only [star_assoc]); (repeat (apply Ent.pk; exact pkA)); first | exact Ent.fin pkA | exact Ent.refl _)) | skip
      all_goals (refine congrArg vi ?_; repeat' split)
      all_goals omega
    · rw [if_pos h]
      (refine Fn.of Tryd.func47 rfl (by kernel_rfl) Tryd.ntmps47 rfl (fun F => ?_))
      (repeat' (first | (refine Ow.is ?_; (first | refine Ow.pu rfl (Pu.fld rfl) ?_ | refine Ow.nil ?_ | refine Ow.pu rfl (Pu.assign rfl) ?_ | refine Ow.pu rfl (Pu.fld rfl) ?_ | (refine Ow.kLoad ?_; (first | refine Ow.pu rfl (Pu.load_cl rfl pkA rfl) ?_)) | (refine Ow.kBin ?_; (first | (refine Ow.b_eql ?_; (first | refine Ow.pu rfl (Pu.eq_t rfl rfl roA) ?_ | refine Ow.pu rfl (Pu.eq_f rfl rfl odA) ?_ | refine Ow.sp rfl (by exact Pu.eqI rfl rfl) (fun hc => ?_) (fun hc => ?_))))) | (refine Ow.kBuildS ?_; (first | refine Ow.bldS1 rfl rfl (fun w => by kernel_rfl) (fun bx => ?_) | refine Ow.bldS2 rfl rfl rfl (fun w => by kernel_rfl) (fun bx => ?_))) | refine Ow.box rfl rfl rfl (fun bx => ?_))) | (refine Cw.is ?_; (first | refine Cw.seq ?_ | refine Cw.region ?_ | refine Cw.cond_t rfl rfl ?_ | refine Cw.cond_f rfl rfl ?_ | refine Cw.block ?_ | refine Cw.ret ?_ | refine Cw.exit ?_ | refine Cw.skip ?_)) | (first | refine thenQ_n ?_ | refine thenQ_r ?_ | refine thenQ_e ?_ | refine blockQ_n ?_ | refine blockQ_r ?_ | refine blockQ_e ?_ | refine Cr.step ?_)))
      all_goals (refine Cw.rounds 3 ?_)
      by_cases hy : 0 ≤ y ∧ y < q.globals
      all_goals (repeat' (first | (refine Ow.is ?_; (first | refine Ow.pu rfl (Pu.fld rfl) ?_ | refine Ow.nil ?_ | refine Ow.pu rfl (Pu.move rfl) ?_ | refine Ow.pu rfl (Pu.assign rfl) ?_ | refine Ow.pu rfl (Pu.fld rfl) ?_ | refine Ow.pu rfl (Pu.nilCheck rfl) ?_ | (refine Ow.kGuard ?_; (first | refine Ow.guard_yes rfl rfl rfl ?_ | refine Ow.guard_no rfl rfl rfl rfl ?_)) | (refine Ow.kLoad ?_; (first | refine Ow.pu rfl (Pu.load_cl rfl pkA rfl) ?_)) | (refine Ow.kBin ?_; (first | (refine Ow.b_lss ?_; first | refine Ow.pu rfl (Pu.lt_t rfl rfl (by omega)) ?_ | refine Ow.pu rfl (Pu.lt_f rfl rfl (by omega)) ?_ | refine Ow.sp rfl (by exact Pu.lt rfl rfl) (fun hc => ?_) (fun hc => ?_)) | (refine Ow.b_eql ?_; (first | refine Ow.pu rfl (Pu.eq_t rfl rfl roA) ?_ | refine Ow.pu rfl (Pu.eq_f rfl rfl odA) ?_ | refine Ow.sp rfl (by exact Pu.eqI rfl rfl) (fun hc => ?_) (fun hc => ?_))) | (refine Ow.b_add ?_; refine Ow.pu rfl (Pu.add_i rfl rfl (by omega)) ?_))) | (refine Ow.kPick ?_; (first | refine Ow.pu rfl (Pu.pick_t rfl rfl) ?_ | refine Ow.pu rfl (Pu.pick_f rfl rfl) ?_)) | (refine Ow.kBuiltin ?_; (first | refine Ow.pu rfl (Pu.len rfl) ?_)) | (refine Ow.kCall ?_; (first | refine Ow.callE0 evA rfl (in_t _ _ (by omega)) (fun _ => Ow.unemp ?_) | refine Ow.callE0 evA rfl (in_f _ _ (by omega)) (fun _ => Ow.unemp ?_) | fail)))) | (refine Cw.is ?_; (first | refine Cw.seq ?_ | refine Cw.region ?_ | refine Cw.cond_t rfl rfl ?_ | refine Cw.cond_f rfl rfl ?_ | refine Cw.block ?_ | refine Cw.ret ?_ | refine Cw.exit ?_ | refine Cw.skip ?_ | refine Cw.drawL (n := 80) (id := 12) [(0, false), (1, false), (2, false), (3, false), (4, false), (5, false), (6, false), (7, false), (8, false), (9, true), (10, false)] mixed (by kernel_rfl) ?_ | refine Cw.drawL (n := 80) (id := 14) [(0, false), (1, false), (2, false), (3, false), (4, false), (5, false), (6, false), (7, false), (8, false), (9, false), (10, false), (11, true), (12, false), (13, false)] mixed (by kernel_rfl) ?_ | refine Cw.drawL (n := 80) (id := 18) [(0, false), (1, false), (2, false), (3, false), (4, false), (5, false), (6, false), (7, false), (8, false), (9, false), (10, false), (11, false), (12, false)] mixed (by kernel_rfl) ?_)) | (first | refine thenQ_n ?_ | refine thenQ_r ?_ | refine thenQ_e ?_ | refine blockQ_n ?_ | refine blockQ_r ?_ | refine blockQ_e ?_ | refine Cr.step ?_ | (refine loudQ.is ?_; first | refine loudQ.go pkA ?_ | refine loudQ.goE (by ac_rfl) ?_)) | (refine Dw.is ?_; (first | refine Dw.q rfl rfl trivial (by (first | exact Pu.move rfl | exact Pu.assign rfl | exact Pu.fld rfl | exact Pu.nilCheck rfl | (apply Pu.kLoad; (first | exact Pu.load_cl rfl pkA rfl)) | (apply Pu.kIdx; (first | exact Pu.idx_b rfl rfl (by omega))) | (apply Pu.kUn; (first | exact Pu.not rfl)) | (apply Pu.kBin; (first | (apply Pu.b_geq; first | exact Pu.ge_t rfl rfl (by omega) | exact Pu.ge_f rfl rfl (by omega)) | (apply Pu.b_eql; (first | exact Pu.eq_t rfl rfl roA | exact Pu.eq_f rfl rfl odA)))) | (apply Pu.kPick; (first | exact Pu.pick_t rfl rfl | exact Pu.pick_f rfl rfl)))) ?_ | refine Dw.q rfl rfl ⟨_, _, rfl, rfl, rfl⟩ (by (first | exact Pu.move rfl | exact Pu.assign rfl | exact Pu.fld rfl | exact Pu.nilCheck rfl | (apply Pu.kLoad; (first | exact Pu.load_cl rfl pkA rfl)) | (apply Pu.kIdx; (first | exact Pu.idx_b rfl rfl (by omega))) | (apply Pu.kUn; (first | exact Pu.not rfl)) | (apply Pu.kBin; (first | (apply Pu.b_geq; first | exact Pu.ge_t rfl rfl (by omega) | exact Pu.ge_f rfl rfl (by omega)) | (apply Pu.b_eql; (first | exact Pu.eq_t rfl rfl roA | exact Pu.eq_f rfl rfl odA)))) | (apply Pu.kPick; (first | exact Pu.pick_t rfl rfl | exact Pu.pick_f rfl rfl)))) ?_ | refine Dw.s rfl rfl rfl rfl rfl ?_ | refine Dw.sp rfl rfl trivial (by (first | exact Pu.lt rfl rfl | exact Pu.gt rfl rfl | exact Pu.eqI rfl rfl)) (fun hc => ?_) (fun hc => ?_) | refine Dw.sp rfl rfl ⟨_, _, rfl, rfl, rfl⟩ (by (first | exact Pu.lt rfl rfl | exact Pu.gt rfl rfl | exact Pu.eqI rfl rfl)) (fun hc => ?_) (fun hc => ?_) | refine Dw.nilE ?_ rfl | refine Dw.lE rfl trivial ?_ | refine Dw.lE rfl ⟨_, _, rfl, rfl, rfl⟩ ?_))))
      all_goals (refine retQ_v () Tryd.results47 rfl ?_ ?_)
      all_goals first | (refine Ent.is ?_; ((try simp only [star_assoc]); (repeat (apply Ent.pk; exact pkA)); first | exact Ent.fin pkA | exact Ent.refl _)) | skip
      all_goals (refine congrArg vi ?_; repeat' split)
      all_goals omega
    · rw [if_neg (by omega), if_neg (by omega)]
      (refine Fn.of Tryd.func47 rfl (by kernel_rfl) Tryd.ntmps47 rfl (fun F => ?_))
      (repeat' (first | (refine Ow.is ?_; (first | refine Ow.pu rfl (Pu.fld rfl) ?_ | refine Ow.nil ?_ | refine Ow.pu rfl (Pu.assign rfl) ?_ | refine Ow.pu rfl (Pu.fld rfl) ?_ | (refine Ow.kLoad ?_; (first | refine Ow.pu rfl (Pu.load_cl rfl pkA rfl) ?_)) | (refine Ow.kBin ?_; (first | (refine Ow.b_eql ?_; (first | refine Ow.pu rfl (Pu.eq_t rfl rfl roA) ?_ | refine Ow.pu rfl (Pu.eq_f rfl rfl odA) ?_ | refine Ow.sp rfl (by exact Pu.eqI rfl rfl) (fun hc => ?_) (fun hc => ?_))))) | (refine Ow.kBuildS ?_; (first | refine Ow.bldS1 rfl rfl (fun w => by kernel_rfl) (fun bx => ?_) | refine Ow.bldS2 rfl rfl rfl (fun w => by kernel_rfl) (fun bx => ?_))) | refine Ow.box rfl rfl rfl (fun bx => ?_))) | (refine Cw.is ?_; (first | refine Cw.seq ?_ | refine Cw.region ?_ | refine Cw.cond_t rfl rfl ?_ | refine Cw.cond_f rfl rfl ?_ | refine Cw.block ?_ | refine Cw.ret ?_ | refine Cw.exit ?_ | refine Cw.skip ?_)) | (first | refine thenQ_n ?_ | refine thenQ_r ?_ | refine thenQ_e ?_ | refine blockQ_n ?_ | refine blockQ_r ?_ | refine blockQ_e ?_ | refine Cr.step ?_)))
      all_goals (refine Cw.rounds 3 ?_)
      all_goals (repeat' (first | (refine Ow.is ?_; (first | refine Ow.pu rfl (Pu.fld rfl) ?_ | refine Ow.nil ?_ | refine Ow.pu rfl (Pu.move rfl) ?_ | refine Ow.pu rfl (Pu.assign rfl) ?_ | refine Ow.pu rfl (Pu.fld rfl) ?_ | refine Ow.pu rfl (Pu.nilCheck rfl) ?_ | (refine Ow.kGuard ?_; (first | refine Ow.guard_yes rfl rfl rfl ?_ | refine Ow.guard_no rfl rfl rfl rfl ?_)) | (refine Ow.kLoad ?_; (first | refine Ow.pu rfl (Pu.load_cl rfl pkA rfl) ?_)) | (refine Ow.kBin ?_; (first | (refine Ow.b_lss ?_; first | refine Ow.pu rfl (Pu.lt_t rfl rfl (by omega)) ?_ | refine Ow.pu rfl (Pu.lt_f rfl rfl (by omega)) ?_ | refine Ow.sp rfl (by exact Pu.lt rfl rfl) (fun hc => ?_) (fun hc => ?_)) | (refine Ow.b_add ?_; refine Ow.pu rfl (Pu.add_i rfl rfl (by omega)) ?_))) | (refine Ow.kPick ?_; (first | refine Ow.pu rfl (Pu.pick_t rfl rfl) ?_ | refine Ow.pu rfl (Pu.pick_f rfl rfl) ?_)) | (refine Ow.kBuiltin ?_; (first | refine Ow.pu rfl (Pu.len rfl) ?_)) | (refine Ow.kCall ?_; (first | refine Ow.callE0 evA rfl (in_t _ _ (by omega)) (fun _ => Ow.unemp ?_) | refine Ow.callE0 evA rfl (in_f _ _ (by omega)) (fun _ => Ow.unemp ?_) | fail)))) | (refine Cw.is ?_; (first | refine Cw.seq ?_ | refine Cw.region ?_ | refine Cw.cond_t rfl rfl ?_ | refine Cw.cond_f rfl rfl ?_ | refine Cw.block ?_ | refine Cw.ret ?_ | refine Cw.exit ?_ | refine Cw.skip ?_ | refine Cw.drawL (n := 80) (id := 12) [(0, false), (1, false), (2, false), (3, false), (4, false), (5, false), (6, false), (7, false), (8, false), (9, true), (10, false)] mixed (by kernel_rfl) ?_ | refine Cw.drawL (n := 80) (id := 14) [(0, false), (1, false), (2, false), (3, false), (4, false), (5, false), (6, false), (7, false), (8, false), (9, false), (10, false), (11, true), (12, false), (13, false)] mixed (by kernel_rfl) ?_)) | (first | refine thenQ_n ?_ | refine thenQ_r ?_ | refine thenQ_e ?_ | refine blockQ_n ?_ | refine blockQ_r ?_ | refine blockQ_e ?_ | refine Cr.step ?_ | (refine loudQ.is ?_; first | refine loudQ.go pkA ?_ | refine loudQ.goE (by ac_rfl) ?_)) | (refine Dw.is ?_; (first | refine Dw.q rfl rfl trivial (by (first | exact Pu.move rfl | exact Pu.assign rfl | exact Pu.fld rfl | exact Pu.nilCheck rfl | (apply Pu.kLoad; (first | exact Pu.load_cl rfl pkA rfl)) | (apply Pu.kIdx; (first | exact Pu.idx_b rfl rfl (by omega))) | (apply Pu.kUn; (first | exact Pu.not rfl)) | (apply Pu.kBin; (first | (apply Pu.b_geq; first | exact Pu.ge_t rfl rfl (by omega) | exact Pu.ge_f rfl rfl (by omega)))) | (apply Pu.kPick; (first | exact Pu.pick_t rfl rfl | exact Pu.pick_f rfl rfl)))) ?_ | refine Dw.q rfl rfl ⟨_, _, rfl, rfl, rfl⟩ (by (first | exact Pu.move rfl | exact Pu.assign rfl | exact Pu.fld rfl | exact Pu.nilCheck rfl | (apply Pu.kLoad; (first | exact Pu.load_cl rfl pkA rfl)) | (apply Pu.kIdx; (first | exact Pu.idx_b rfl rfl (by omega))) | (apply Pu.kUn; (first | exact Pu.not rfl)) | (apply Pu.kBin; (first | (apply Pu.b_geq; first | exact Pu.ge_t rfl rfl (by omega) | exact Pu.ge_f rfl rfl (by omega)))) | (apply Pu.kPick; (first | exact Pu.pick_t rfl rfl | exact Pu.pick_f rfl rfl)))) ?_ | refine Dw.s rfl rfl rfl rfl rfl ?_ | refine Dw.sp rfl rfl trivial (by (first | exact Pu.lt rfl rfl)) (fun hc => ?_) (fun hc => ?_) | refine Dw.sp rfl rfl ⟨_, _, rfl, rfl, rfl⟩ (by (first | exact Pu.lt rfl rfl)) (fun hc => ?_) (fun hc => ?_) | refine Dw.nilE ?_ rfl | refine Dw.lE rfl trivial ?_ | refine Dw.lE rfl ⟨_, _, rfl, rfl, rfl⟩ ?_))))
      all_goals (refine Dw.sl rfl rfl rfl rfl rfl ?_)
      all_goals (repeat' (first | (refine Ow.is ?_; (first | refine Ow.pu rfl (Pu.fld rfl) ?_ | refine Ow.nil ?_ | refine Ow.pu rfl (Pu.move rfl) ?_ | refine Ow.pu rfl (Pu.assign rfl) ?_ | refine Ow.pu rfl (Pu.fld rfl) ?_ | refine Ow.pu rfl (Pu.nilCheck rfl) ?_ | (refine Ow.kGuard ?_; (first | refine Ow.guard_yes rfl rfl rfl ?_ | refine Ow.guard_no rfl rfl rfl rfl ?_)) | (refine Ow.kLoad ?_; (first | refine Ow.pu rfl (Pu.load_cl rfl pkA rfl) ?_)) | (refine Ow.kBin ?_; (first | (refine Ow.b_lss ?_; first | refine Ow.pu rfl (Pu.lt_t rfl rfl (by omega)) ?_ | refine Ow.pu rfl (Pu.lt_f rfl rfl (by omega)) ?_ | refine Ow.sp rfl (by exact Pu.lt rfl rfl) (fun hc => ?_) (fun hc => ?_)) | (refine Ow.b_eql ?_; (first | refine Ow.pu rfl (Pu.eq_t rfl rfl roA) ?_ | refine Ow.pu rfl (Pu.eq_f rfl rfl odA) ?_ | refine Ow.sp rfl (by exact Pu.eqI rfl rfl) (fun hc => ?_) (fun hc => ?_))))) | (refine Ow.kPick ?_; (first | refine Ow.pu rfl (Pu.pick_t rfl rfl) ?_ | refine Ow.pu rfl (Pu.pick_f rfl rfl) ?_)) | (refine Ow.kCall ?_; (first | refine Ow.callE0 evA rfl (in_t _ _ (by omega)) (fun _ => Ow.unemp ?_) | refine Ow.callE0 evA rfl (in_f _ _ (by omega)) (fun _ => Ow.unemp ?_) | fail)))) | (refine Cw.is ?_; (first | refine Cw.seq ?_ | refine Cw.region ?_ | refine Cw.cond_t rfl rfl ?_ | refine Cw.cond_f rfl rfl ?_ | refine Cw.block ?_ | refine Cw.ret ?_ | refine Cw.exit ?_ | refine Cw.skip ?_ | refine Cw.drawL (n := 80) (id := 14) [(0, false), (1, false), (2, false), (3, false), (4, false), (5, false), (6, false), (7, false), (8, false), (9, false), (10, false), (11, true), (12, false), (13, false)] mixed (by kernel_rfl) ?_ | refine Cw.drawL (n := 80) (id := 18) [(0, false), (1, false), (2, false), (3, false), (4, false), (5, false), (6, false), (7, false), (8, false), (9, false), (10, false), (11, false), (12, false)] mixed (by kernel_rfl) ?_)) | (first | refine thenQ_n ?_ | refine thenQ_r ?_ | refine thenQ_e ?_ | refine blockQ_n ?_ | refine blockQ_r ?_ | refine blockQ_e ?_ | refine Cr.step ?_ | (refine loudQ.is ?_; first | refine loudQ.go pkA ?_ | refine loudQ.goE (by ac_rfl) ?_)) | (refine Dw.is ?_; (first | refine Dw.q rfl rfl trivial (by (first | exact Pu.move rfl | exact Pu.assign rfl | exact Pu.fld rfl | exact Pu.nilCheck rfl | (apply Pu.kLoad; (first | exact Pu.load_cl rfl pkA rfl)) | (apply Pu.kUn; (first | exact Pu.not rfl)) | (apply Pu.kBin; (first | (apply Pu.b_geq; first | exact Pu.ge_t rfl rfl (by omega) | exact Pu.ge_f rfl rfl (by omega)) | (apply Pu.b_eql; (first | exact Pu.eq_t rfl rfl roA | exact Pu.eq_f rfl rfl odA)))) | (apply Pu.kPick; (first | exact Pu.pick_t rfl rfl | exact Pu.pick_f rfl rfl)))) ?_ | refine Dw.q rfl rfl ⟨_, _, rfl, rfl, rfl⟩ (by (first | exact Pu.move rfl | exact Pu.assign rfl | exact Pu.fld rfl | exact Pu.nilCheck rfl | (apply Pu.kLoad; (first | exact Pu.load_cl rfl pkA rfl)) | (apply Pu.kUn; (first | exact Pu.not rfl)) | (apply Pu.kBin; (first | (apply Pu.b_geq; first | exact Pu.ge_t rfl rfl (by omega) | exact Pu.ge_f rfl rfl (by omega)) | (apply Pu.b_eql; (first | exact Pu.eq_t rfl rfl roA | exact Pu.eq_f rfl rfl odA)))) | (apply Pu.kPick; (first | exact Pu.pick_t rfl rfl | exact Pu.pick_f rfl rfl)))) ?_ | refine Dw.s rfl rfl rfl rfl rfl ?_ | refine Dw.sp rfl rfl trivial (by (first | exact Pu.lt rfl rfl | exact Pu.gt rfl rfl | exact Pu.eqI rfl rfl)) (fun hc => ?_) (fun hc => ?_) | refine Dw.sp rfl rfl ⟨_, _, rfl, rfl, rfl⟩ (by (first | exact Pu.lt rfl rfl | exact Pu.gt rfl rfl | exact Pu.eqI rfl rfl)) (fun hc => ?_) (fun hc => ?_) | refine Dw.nilE ?_ rfl | refine Dw.lE rfl trivial ?_ | refine Dw.lE rfl ⟨_, _, rfl, rfl, rfl⟩ ?_))))
      all_goals (refine retQ_v () Tryd.results47 rfl rfl ?_; ((try simp only [star_assoc]); (repeat (apply Ent.pk; exact pkA)); first | exact Ent.fin pkA | exact Ent.refl _))
  · rw [checkR_bad hn hk]
    have hk' : ¬ (0 ≤ x ∧ x < q.regs) ∨ ((0 ≤ x ∧ x < q.regs) ∧ (n = 1 ∨ n = 5 ∨ n = 7) ∧ ¬ (0 ≤ y ∧ y < q.regs)) ∨ ((0 ≤ x ∧ x < q.regs) ∧ n = 2 ∧ ¬ (0 ≤ z ∧ z < q.regs)) := by unfold okx at hk; omega
    clear hk
    rcases hk' with h | ⟨h, h1, h2⟩ | ⟨h, h1, h2⟩
    all_goals (refine Fn.of Tryd.func47 rfl (by kernel_rfl) Tryd.ntmps47 rfl (fun F => ?_))
    all_goals (repeat' (first | (refine Ow.is ?_; (first | refine Ow.pu rfl (Pu.fld rfl) ?_ | refine Ow.nil ?_ | refine Ow.pu rfl (Pu.assign rfl) ?_ | refine Ow.pu rfl (Pu.fld rfl) ?_ | (refine Ow.kLoad ?_; (first | refine Ow.pu rfl (Pu.load_cl rfl pkA rfl) ?_)) | (refine Ow.kBin ?_; (first | (refine Ow.b_eql ?_; (first | refine Ow.pu rfl (Pu.eq_t rfl rfl roA) ?_ | refine Ow.pu rfl (Pu.eq_f rfl rfl odA) ?_ | refine Ow.sp rfl (by exact Pu.eqI rfl rfl) (fun hc => ?_) (fun hc => ?_))))) | (refine Ow.kBuildS ?_; (first | refine Ow.bldS1 rfl rfl (fun w => by kernel_rfl) (fun bx => ?_) | refine Ow.bldS2 rfl rfl rfl (fun w => by kernel_rfl) (fun bx => ?_))) | refine Ow.box rfl rfl rfl (fun bx => ?_))) | (refine Cw.is ?_; (first | refine Cw.seq ?_ | refine Cw.region ?_ | refine Cw.cond_t rfl rfl ?_ | refine Cw.cond_f rfl rfl ?_ | refine Cw.block ?_ | refine Cw.ret ?_ | refine Cw.exit ?_ | refine Cw.skip ?_)) | (first | refine thenQ_n ?_ | refine thenQ_r ?_ | refine thenQ_e ?_ | refine blockQ_n ?_ | refine blockQ_r ?_ | refine blockQ_e ?_ | refine Cr.step ?_)))
    all_goals (refine Cw.rounds 3 ?_)
    all_goals (repeat' (first | (refine Ow.is ?_; (first | refine Ow.pu rfl (Pu.fld rfl) ?_ | refine Ow.nil ?_ | refine Ow.pu rfl (Pu.move rfl) ?_ | refine Ow.pu rfl (Pu.assign rfl) ?_ | refine Ow.pu rfl (Pu.fld rfl) ?_ | refine Ow.pu rfl (Pu.nilCheck rfl) ?_ | (refine Ow.kGuard ?_; (first | refine Ow.guard_yes rfl rfl rfl ?_ | refine Ow.guard_no rfl rfl rfl rfl ?_)) | (refine Ow.kLoad ?_; (first | refine Ow.pu rfl (Pu.load_cl rfl pkA rfl) ?_)) | (refine Ow.kBin ?_; (first | (refine Ow.b_lss ?_; first | refine Ow.pu rfl (Pu.lt_t rfl rfl (by omega)) ?_ | refine Ow.pu rfl (Pu.lt_f rfl rfl (by omega)) ?_ | refine Ow.sp rfl (by exact Pu.lt rfl rfl) (fun hc => ?_) (fun hc => ?_)) | (refine Ow.b_add ?_; refine Ow.pu rfl (Pu.add_i rfl rfl (by omega)) ?_))) | (refine Ow.kPick ?_; (first | refine Ow.pu rfl (Pu.pick_t rfl rfl) ?_ | refine Ow.pu rfl (Pu.pick_f rfl rfl) ?_)) | (refine Ow.kBuiltin ?_; (first | refine Ow.pu rfl (Pu.len rfl) ?_)) | (refine Ow.kCall ?_; (first | refine Ow.callE0 evA rfl (in_t _ _ (by omega)) (fun _ => Ow.unemp ?_) | refine Ow.callE0 evA rfl (in_f _ _ (by omega)) (fun _ => Ow.unemp ?_) | fail)))) | (refine Cw.is ?_; (first | refine Cw.seq ?_ | refine Cw.region ?_ | refine Cw.cond_t rfl rfl ?_ | refine Cw.cond_f rfl rfl ?_ | refine Cw.block ?_ | refine Cw.ret ?_ | refine Cw.exit ?_ | refine Cw.skip ?_ | refine Cw.drawL (n := 80) (id := 12) [(0, false), (1, false), (2, false), (3, false), (4, false), (5, false), (6, false), (7, false), (8, false), (9, true), (10, false)] mixed (by kernel_rfl) ?_ | refine Cw.drawL (n := 80) (id := 14) [(0, false), (1, false), (2, false), (3, false), (4, false), (5, false), (6, false), (7, false), (8, false), (9, false), (10, false), (11, true), (12, false), (13, false)] mixed (by kernel_rfl) ?_)) | (first | refine thenQ_n ?_ | refine thenQ_r ?_ | refine thenQ_e ?_ | refine blockQ_n ?_ | refine blockQ_r ?_ | refine blockQ_e ?_ | refine Cr.step ?_ | (refine loudQ.is ?_; first | refine loudQ.go pkA ?_ | refine loudQ.goE (by ac_rfl) ?_)) | (refine Dw.is ?_; (first | refine Dw.q rfl rfl trivial (by (first | exact Pu.move rfl | exact Pu.assign rfl | exact Pu.fld rfl | exact Pu.nilCheck rfl | (apply Pu.kLoad; (first | exact Pu.load_cl rfl pkA rfl)) | (apply Pu.kIdx; (first | exact Pu.idx_b rfl rfl (by omega))) | (apply Pu.kUn; (first | exact Pu.not rfl)) | (apply Pu.kBin; (first | (apply Pu.b_geq; first | exact Pu.ge_t rfl rfl (by omega) | exact Pu.ge_f rfl rfl (by omega)))) | (apply Pu.kPick; (first | exact Pu.pick_t rfl rfl | exact Pu.pick_f rfl rfl)))) ?_ | refine Dw.q rfl rfl ⟨_, _, rfl, rfl, rfl⟩ (by (first | exact Pu.move rfl | exact Pu.assign rfl | exact Pu.fld rfl | exact Pu.nilCheck rfl | (apply Pu.kLoad; (first | exact Pu.load_cl rfl pkA rfl)) | (apply Pu.kIdx; (first | exact Pu.idx_b rfl rfl (by omega))) | (apply Pu.kUn; (first | exact Pu.not rfl)) | (apply Pu.kBin; (first | (apply Pu.b_geq; first | exact Pu.ge_t rfl rfl (by omega) | exact Pu.ge_f rfl rfl (by omega)))) | (apply Pu.kPick; (first | exact Pu.pick_t rfl rfl | exact Pu.pick_f rfl rfl)))) ?_ | refine Dw.s rfl rfl rfl rfl rfl ?_ | refine Dw.sp rfl rfl trivial (by (first | exact Pu.lt rfl rfl)) (fun hc => ?_) (fun hc => ?_) | refine Dw.sp rfl rfl ⟨_, _, rfl, rfl, rfl⟩ (by (first | exact Pu.lt rfl rfl)) (fun hc => ?_) (fun hc => ?_) | refine Dw.nilE ?_ rfl | refine Dw.lE rfl trivial ?_ | refine Dw.lE rfl ⟨_, _, rfl, rfl, rfl⟩ ?_))))
    all_goals (refine retQ_v () Tryd.results47 rfl rfl ?_; ((try simp only [star_assoc]); (repeat (apply Ent.pk; exact pkA)); first | exact Ent.fin pkA | exact Ent.refl _))
end Go.Sl
