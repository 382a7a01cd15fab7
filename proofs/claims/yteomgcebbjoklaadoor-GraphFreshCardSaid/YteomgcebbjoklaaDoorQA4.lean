/- Part 4. -/
import Derived.WalkKit
import Derived.RangeFuncRecord
import Derived.RangeFuncLeaves
import Derived.OrdersIn
import Derived.TacticsIn
import Derived.KernelRfl
import Derived.Test.YteomgcebbjoklaaDoorChecked
import Derived.ProofKit
import Derived.OpenShut
import Derived.Carry
import Derived.HandedShaped
import Derived.RangeFuncNested
import Derived.LoopNIn
import Derived.Lib.Strings
import Derived.Deep.DeepHandedRow
import Derived.Lib.LaidTab
import Derived.SevenTiedAt
import Derived.Deep.DeepWitnessRowRef
import Derived.Laws.StructEq
import Derived.Laws.BytesString
import Derived.Laws.LoneSync
import Derived.Test.YteomgcebbjoklaaDoorRows
import Derived.Test.YteomgcebbjoklaaDoorCards
import Derived.Test.YteomgcebbjoklaaDoorTie
import Derived.ChangeMaps5
import Derived.Test.YteomgcebbjoklaaDoorQA3
namespace Go.Sl
open Go Go.Proofs
set_option linter.unusedVariables false
set_option linter.unusedSectionVars false
section
variable {α : Type} [Inhabited α] {O : List (Obj α)} {R : List Int}
def flds (O : List (Obj α)) (z : Int) : List Int := (O[(z - 1).toNat]!).2.1
inductive Rch (O : List (Obj α)) (R : List Int) : Int → Prop
  | root {z : Int} : z ∈ R → z ≠ 0 → Rch O R z
  | step {z y : Int} : Rch O R z → y ∈ flds O z → y ≠ 0 → Rch O R y
structure OkO (O : List (Obj α)) (R : List Int) : Prop where
  r : ∀ z ∈ R, okR O.length z
  o : ∀ x ∈ O, x.2.1.length ≤ 6 ∧ ∀ z ∈ x.2.1, okR O.length z
theorem OkO.f (h : OkO O R) {z : Int} (hz : 1 ≤ z ∧ z ≤ O.length) : (flds O z).length ≤ 6 ∧ ∀ y ∈ flds O z, okR O.length y := by
  unfold flds
  rw [getElem!_pos O (z - 1).toNat (by omega)]
  exact h.o _ (List.getElem_mem _)
theorem Rch.ok (h : OkO O R) {z : Int} (hz : Rch O R z) : 1 ≤ z ∧ z ≤ O.length := by
  induction hz with
  | root h1 h2 => have := h.r _ h1; unfold okR at this; omega
  | step _ h1 h2 ih => have := (h.f ih).2 _ h1; unfold okR at this; omega
open Classical in
noncomputable def rchB (O : List (Obj α)) (R : List Int) : Nat → Bool := fun z => decide (Rch O R z)
theorem rchB_t {z : Nat} : rchB O R z = true ↔ Rch O R z := by unfold rchB; simp
theorem rchB_sup (h : OkO O R) : Sup (O.length + 1) (rchB O R) := fun i hi => by
  cases e : rchB O R i with
  | false => rfl
  | true => have := (rchB_t.1 e).ok h; omega
structure Wl (O : List (Obj α)) (R : List Int) (V : Nat → Bool) (l : List Int) : Prop where
  hv : ∀ z : Nat, V z = true → Rch O R z ∧ 1 ≤ z ∧ z ≤ O.length
  hl : ∀ z ∈ l, okR O.length z ∧ (z ≠ 0 → Rch O R z)
  hr : ∀ z ∈ R, z ≠ 0 → V z.toNat = true ∨ z ∈ l
  hc : ∀ z : Nat, V z = true → ∀ y ∈ flds O z, y ≠ 0 → V y.toNat = true ∨ y ∈ l
theorem Wl.start (h : OkO O R) {l : List Int} (hll : ∀ z, z ≠ 0 → (z ∈ l ↔ z ∈ R)) (hl2 : ∀ z ∈ l, okR O.length z) : Wl O R S0 l where
  hv z hz := by cases hz
  hl z hz := ⟨hl2 z hz, fun h0 => .root ((hll z h0).1 hz) h0⟩
  hr z hz h0 := .inr ((hll z h0).2 hz)
  hc z hz := by cases hz
theorem Wl.skip {V : Nat → Bool} {l : List Int} {z : Int} (h : Wl O R V (l ++ [z])) (hz : z = 0 ∨ V z.toNat = true) : Wl O R V l where
  hv := h.hv
  hl y hy := h.hl y (List.mem_append_left _ hy)
  hr y hy h0 := by
    rcases h.hr y hy h0 with h1 | h1
    · exact .inl h1
    · rcases List.mem_append.1 h1 with h1 | h1
      · exact .inr h1
      · have : y = z := by simpa using h1
        subst this
        rcases hz with hz | hz
        · exact (h0 hz).elim
        · exact .inl hz
  hc x hx y hy h0 := by
    rcases h.hc x hx y hy h0 with h1 | h1
    · exact .inl h1
    · rcases List.mem_append.1 h1 with h1 | h1
      · exact .inr h1
      · have : y = z := by simpa using h1
        subst this
        rcases hz with hz | hz
        · exact (h0 hz).elim
        · exact .inl hz
theorem Wl.put {V : Nat → Bool} {l : List Int} {z : Int} (h : Wl O R V (l ++ [z])) (ho : OkO O R) (hz : z ≠ 0) : Wl O R (upd V z.toNat true) (l ++ flds O z) := by
  obtain ⟨hz1, hz2⟩ := h.hl z (by simp)
  have hzr := hz2 hz
  have hz3 : 1 ≤ z ∧ z ≤ O.length := hzr.ok ho
  have hup : ∀ y : Nat, V y = true → upd V z.toNat true y = true := fun y hy => by
    by_cases e : z.toNat = y
    · rw [← e, upd_same]
    · rw [upd_ne _ _ (by omega)]; exact hy
  have hin : ∀ y : Int, y ∈ l ++ [z] → upd V z.toNat true y.toNat = true ∨ y ∈ l ++ flds O z := fun y hy => by
    rcases List.mem_append.1 hy with h1 | h1
    · exact .inr (List.mem_append_left _ h1)
    · have : y = z := by simpa using h1
      subst this
      exact .inl (upd_same _ _ _)
  refine ⟨fun y hy => ?_, fun y hy => ?_, fun y hy h0 => ?_, fun x hx y hy h0 => ?_⟩
  · by_cases e : z.toNat = y
    · have : z = (y : Int) := by omega
      rw [← this]; exact ⟨hzr, by omega, by omega⟩
    · rw [upd_ne _ _ (by omega)] at hy; exact h.hv y hy
  · rcases List.mem_append.1 hy with h1 | h1
    · exact h.hl y (List.mem_append_left _ h1)
    · exact ⟨(ho.f hz3).2 y h1, fun h0 => .step hzr h1 h0⟩
  · rcases h.hr y hy h0 with h1 | h1
    · exact .inl (hup _ h1)
    · exact hin y h1
  · by_cases e : z.toNat = x
    · have e2 : z = (x : Int) := by omega
      rw [← e2] at hy
      exact .inr (List.mem_append_right _ hy)
    · rw [upd_ne _ _ (by omega)] at hx
      rcases h.hc x hx y hy h0 with h1 | h1
      · exact .inl (hup _ h1)
      · exact hin y h1
theorem Wl.done {V : Nat → Bool} (h : Wl O R V []) (ho : OkO O R) : V = rchB O R := by
  have key : ∀ z : Int, Rch O R z → V z.toNat = true := fun z hz => by
    induction hz with
    | root h1 h2 => exact (h.hr _ h1 h2).resolve_right (by simp)
    | step h0 h1 h2 ih =>
      rename_i z y
      have hz := h0.ok ho
      have e : z = (z.toNat : Int) := by omega
      rw [e] at h1
      exact (h.hc _ ih _ h1 h2).resolve_right (by simp)
  funext z
  cases e : V z with
  | true => exact (rchB_t.2 (h.hv z e).1).symm
  | false =>
    cases e2 : rchB O R z with
    | false => rfl
    | true => have := key z (rchB_t.1 e2); rw [Int.toNat_natCast, e] at this; cases this
def wlM (n : Nat) (V : Nat → Bool) (l : List Int) : Nat := 7 * (n + 1 - cn V (n + 1)) + l.length
theorem wlM_put {V : Nat → Bool} {l : List Int} {z : Int} (h : Wl O R V (l ++ [z])) (ho : OkO O R) (hz : z ≠ 0) (hV : V z.toNat = false) : wlM O.length (upd V z.toNat true) (l ++ flds O z) < wlM O.length V (l ++ [z]) := by
  have hz3 : 1 ≤ z ∧ z ≤ O.length := ((h.hl z (by simp)).2 hz).ok ho
  have h1 := cn_put (n := O.length + 1) (by omega) hV
  have h2 := cn_le (upd V z.toNat true) (O.length + 1)
  have h3 := (ho.f hz3).1
  unfold wlM
  simp only [List.length_append, List.length_cons, List.length_nil]
  omega
theorem wlM_skip {n : Nat} {V : Nat → Bool} {l : List Int} {z : Int} : wlM n V l < wlM n V (l ++ [z]) := by
  unfold wlM; simp
theorem wlM_len {n : Nat} {V : Nat → Bool} {l : List Int} : l.length ≤ wlM n V l := by unfold wlM; omega
theorem wlM_0 (n : Nat) (l : List Int) : wlM n S0 l = 7 * (n + 1) + l.length := by unfold wlM; rw [cn_zero]; rfl
variable {β : Type} [Inhabited β]
def rtsG : Option (β × ThS) → List Int
  | none => []
  | some p => p.2.r ++ p.2.s
def rootsG (s : GS α β) : List Int := s.G ++ s.T.flatMap rtsG
theorem GsOk.oko {q : Cfg} {s : GS α β} (h : GsOk q s) : OkO s.O (rootsG s) where
  r z hz := by
    rcases List.mem_append.1 hz with h1 | h1
    · exact h.g z h1
    · obtain ⟨o, ho, hzo⟩ := List.mem_flatMap.1 h1
      obtain ⟨j, hj, rfl⟩ := List.mem_iff_getElem.1 ho
      have hj4 : j < 4 := by rw [h.tl] at hj; exact hj
      cases e : s.T[j] with
      | none => rw [e] at hzo; cases hzo
      | some p =>
        rw [e] at hzo
        have ht := (h.t j p.1 p.2 hj4 (by rw [getElem!_pos s.T j hj, e])).1
        rcases List.mem_append.1 hzo with h2 | h2
        · exact ht.r z h2
        · exact ht.s z h2
  o := h.o
theorem rootsG_len {q : Cfg} {s : GS α β} (h : GsOk q s) (hq : QOk q) : (rootsG s).length ≤ 68 := by
  have h4 := h.tl
  have key : ∀ j, j < 4 → (rtsG s.T[j]!).length ≤ 16 := fun j hj => by
    cases e : s.T[j]! with
    | none => simp [rtsG]
    | some p =>
      have ht := (h.t j p.1 p.2 hj e).1
      have h1 := ht.rl
      have h2 := ht.sl
      have := hq.rg
      have := hq.st
      simp only [rtsG, List.length_append]
      omega
  have h0 := key 0 (by omega)
  have h1 := key 1 (by omega)
  have h2 := key 2 (by omega)
  have h3 := key 3 (by omega)
  have hg := h.gl
  have := hq.gl
  obtain ⟨O, G, T⟩ := s
  simp only at h4
  match T, h4 with
  | [t0, t1, t2, t3], _ =>
    simp only [rootsG, List.flatMap_cons, List.flatMap_nil, List.length_append, List.length_nil]
    have e0 : ([t0, t1, t2, t3] : List (Option (β × ThS)))[0]! = t0 := rfl
    have e1 : ([t0, t1, t2, t3] : List (Option (β × ThS)))[1]! = t1 := rfl
    have e2 : ([t0, t1, t2, t3] : List (Option (β × ThS)))[2]! = t2 := rfl
    have e3 : ([t0, t1, t2, t3] : List (Option (β × ThS)))[3]! = t3 := rfl
    rw [e0] at h0; rw [e1] at h1; rw [e2] at h2; rw [e3] at h3
    simp only at hg
    omega
end
def wlN (T : List Slt) : Nat → List Int
  | 0 => []
  | j + 1 => wlN T j ++ rts T[j]!
theorem wl_nz (T : List Slt) : ∀ j, (lvN T j).flatMap (fun j => nz (rts T[j]!)) = nz (wlN T j)
  | 0 => rfl
  | j + 1 => by
    rw [lvN, wlN, List.flatMap_append, wl_nz T j, nz_append]
    cases h : T[j]! with
    | none => simp [rts, nz]
    | some q => rw [show (if (some q : Slt).isSome = true then [j] else []) = [j] from rfl]; simp only [List.flatMap_cons, List.flatMap_nil, List.append_nil, h]
theorem all_wl (G : List Int) (T : List Slt) : allR G T = nz (G ++ wlN T 4) := by
  rw [allR, lvR, List.take_length, nz_append, ← wl_nz]; rfl
end Go.Sl
namespace Go.Sl
open Go
set_option linter.unusedVariables false
universe u
section
variable {P : Program} {n : Nat} {ρ : Env} {H : HP} {t t' t'' : TypeId} {x y : Operand}
end
section
variable {P : Program} {fn : Func} {β : Type u} {val : β → Value} {post : β → HP} {F H H' : HP} {ρ : Env} {D : Nat} {ds : List Deferred} {ex : Exit}
end
end Go.Sl
namespace Go.Sl
open Go Go.Proofs
set_option linter.unusedVariables false
set_option linter.unusedSimpArgs false
def lU (b4 : Nat) (L : List Int) (k : Nat) : HP := Sl.ex fun sv : SV => cl b4 [sv.v] * slk 1 sv.v ((L.take k).map vi)
theorem lU_ex (b4 : Nat) (L : List Int) (k : Nat) : lU b4 L k = Sl.ex fun sv : SV => cl b4 [sv.v] * slk 1 sv.v ((L.take k).map vi) := rfl
theorem lU_mk (b4 : Nat) {L l : List Int} {k : Nat} (h : l = L.take k) (sv : SV) : Ent (cl b4 [sv.v] * slk 1 sv.v (l.map vi)) (lU b4 L k) := by
  subst h; exact Ent.ex (A := fun sv : SV => cl b4 [sv.v] * slk 1 sv.v ((L.take k).map vi)) sv
theorem take_s {L : List Int} {i : Nat} (hi : i < L.length) : L.take i ++ [L[i]!] = L.take (i + 1) := by
  rw [List.take_succ_eq_append_getElem hi, getElem!_pos L i hi]
theorem upd_tt {S : Nat → Bool} {i : Nat} (h : S i = true) : upd S i true = S := by
  funext j
  by_cases e : i = j
  · subst e; rw [upd_same, h]
  · rw [upd_ne _ _ (by omega)]
theorem rts_sltO (o : Option (Nat × ThS)) : rts (sltO o) = rtsG o := by cases o <;> rfl
theorem wl_roots {s : GS SV Nat} (hT : s.T.length = 4) : s.G ++ wlN (s.T.map sltO) 4 = rootsG s := by
  obtain ⟨O, G, T⟩ := s
  simp only at hT
  match T, hT with
  | [t0, t1, t2, t3], _ =>
    show G ++ ((((([] : List Int) ++ rts (sltO t0)) ++ rts (sltO t1)) ++ rts (sltO t2)) ++ rts (sltO t3)) = _
    simp only [rts_sltO, rootsG, List.flatMap_cons, List.flatMap_nil, List.nil_append, List.append_nil, List.append_assoc]
theorem allR_mem {s : GS SV Nat} (hT : s.T.length = 4) (z : Int) : z ∈ allR s.G (s.T.map sltO) ↔ z ∈ rootsG s ∧ z ≠ 0 := by
  rw [all_wl, wl_roots hT]; simp [nz]
theorem allR_len {s : GS SV Nat} (hT : s.T.length = 4) : (allR s.G (s.T.map sltO)).length ≤ (rootsG s).length := by
  rw [all_wl, wl_roots hT]; exact List.length_filter_le _ _
structure RzS where
  V : Nat → Bool
  l : List Int
  sv : SV
attribute [local irreducible] star Ow Cw Pk Pu Dw DwF thenQ blockQ retQ loudQ loudF loudG Cr thr tab obs andI bset lU stAt cn
set_option maxHeartbeats 16000000 in
theorem Reach_fn (g : Nat) (q : Cfg) (s : GS SV Nat) (hok : GsOk q s) (hq8 : QOk q) (hO : s.O.length ≤ 900000) :
    Fn Tryd.prog 17 [.pointer (some ⟨g, 0, none⟩)] (gph g q s) Nat (fun sb => .pointer (some ⟨sb, 0, none⟩)) (fun sb => bset sb (s.O.length + 1) (rchB s.O (rootsG s)) * gph g q s) := by
  have hT := hok.tl
  have hoko := hok.oko
  have hrl := rootsG_len hok hq8
  have hmem := allR_mem hT
  have hall := allR_len hT
  have hG : s.G.length < 1000000 := by have := hok.gl; have := hq8.gl; omega
  have hSm : SmallT (s.T.map sltO) := fun x hx => by
    obtain ⟨o, ho, rfl⟩ := List.mem_map.1 hx
    rw [rts_sltO]
    have h1 : (rtsG o).length ≤ (rootsG s).length := by
      unfold rootsG
      obtain ⟨a, b, hab⟩ := List.append_of_mem ho
      rw [hab]; simp; omega
    omega
  obtain ⟨R, hR⟩ : ∃ R, rootsG s = R := ⟨_, rfl⟩
  rw [hR] at hmem hall hrl hoko ⊢
  obtain ⟨L, hL⟩ : ∃ L, allR s.G (s.T.map sltO) = L := ⟨_, rfl⟩
  have hLok : ∀ z ∈ L, okR s.O.length z := fun z hz => hoko.r z ((hmem z).1 (hL ▸ hz)).1
  have hLR : ∀ z, z ≠ 0 → (z ∈ L ↔ z ∈ R) := fun z h0 => by rw [← hL, hmem]; exact ⟨fun h => h.1, fun h => ⟨h, h0⟩⟩
  have hAll := fun cc rb => AllIt rb cc q.threads q.regs q.stack s.G (s.T.map sltO) (by simpa using hT) hG hSm
  rw [hL] at hAll hall
  obtain ⟨O, hOO⟩ : ∃ O, s.O = O := ⟨_, rfl⟩
  rw [hOO] at hO hoko hLok ⊢
  (refine Fn.of Tryd.func17 rfl (by kernel_rfl) Tryd.ntmps17 rfl (fun F => ?_))
  refine Cw.opn (gph_ex g q s) (fun y => ?_)
  refine Cw.heq (star_assoc _ _ _) ?_
  refine Cw.lift (fun hy => ?_)
  obtain ⟨rb, W⟩ := y
  obtain ⟨hWl, hW⟩ := hy
  dsimp only at hWl hW ⊢
  rw [hOO]
  refine Cw.opn (gpW_ex g q rb _ O s.G (s.T.map sltO)) (fun tv => ?_)
  (refine Cw.heq (by simp only [star_assoc, emp_star, star_emp]; exact rfl) ?_)
  (repeat' (first | (refine Ow.is ?_; (first | refine Ow.pu rfl (Pu.fld rfl) ?_ | refine Ow.pu rfl (Pu.fld0 rfl) ?_ | refine Ow.nil ?_ | refine Ow.pu rfl (Pu.move rfl) ?_ | refine Ow.pu rfl (Pu.assign rfl) ?_ | refine Ow.pu rfl (Pu.fld rfl) ?_ | refine Ow.pu rfl (Pu.nilCheck rfl) ?_ | (refine Ow.kLoad ?_; (first | refine Ow.pu rfl (Pu.load_stfd (o := 0) (w := fo) rfl pkA (by omega) hfo rfl) ?_ | refine Ow.pu rfl (Pu.load_cl rfl pkA rfl) ?_ | refine Ow.pu rfl (Pu.load_sli rfl pkA (by first | omega | (simp only [List.length_set, List.length_append, List.length_replicate, List.length_cons, List.length_nil]; omega))) ?_)) | (refine Ow.kBin ?_; (first | (refine Ow.b_add ?_; refine Ow.pu rfl (Pu.add_i rfl rfl (by omega)) ?_))) | (refine Ow.kBuiltin ?_; (first | refine Ow.pu rfl (Pu.len_st rfl pkA) ?_ | refine Ow.pu rfl (Pu.len_slm rfl pkA) ?_)) | (refine Ow.kCall ?_; (first | refine Ow.callE0 evA rfl (All_fn _) (fun cc => ?_) | refine Ow.callE0 evA rfl (BNew_fn _ (O.length + 1) (by omega)) (fun sb => ?_) | fail)) | refine Ow.alloc rfl (fun bx => ?_))) | (refine Cw.is ?_; (first | refine Cw.seq ?_ | refine Cw.region ?_ | refine Cw.cond_t rfl rfl ?_ | refine Cw.cond_f rfl rfl ?_ | refine Cw.block ?_ | refine Cw.ret ?_ | refine Cw.exit ?_ | refine Cw.skip ?_)) | (first | refine thenQ_n ?_ | refine thenQ_e ?_ | refine blockQ_n ?_ | refine blockQ_e ?_)))
  obtain ⟨b4, h4⟩ : ∃ q, q = bx := ⟨_, rfl⟩
  subst h4
  refine Cw.rangeY (ι := Fin L.length) (xs := fun i => [vi L[i.1]!]) (A := fun i => lU b4 L i.1) (B := fun i => lU b4 L (i.1 + 1)) (J := fun _ e => False)
    (S := fun i _ => emp) (PS := fun _ => cl cc [.pointer (some ⟨rb, 0, none⟩)] * tab rb q.threads q.regs q.stack s.G (s.T.map sltO))
    (Pre := cl cc [.pointer (some ⟨rb, 0, none⟩)] * (tab rb q.threads q.regs q.stack s.G (s.T.map sltO) * lU b4 L 0))
    (Post := cl cc [.pointer (some ⟨rb, 0, none⟩)] * (tab rb q.threads q.regs q.stack s.G (s.T.map sltO) * lU b4 L L.length))
    (F := bset sb (O.length + 1) S0 * (gcl g q tv rb (W.flatMap wkc) * (slk 2 tv.v (O.flatMap obc) * (obs O * F)))) (fun y' L' X hy => hAll cc rb (fun k => lU b4 L k) _ ⟨y', rfl⟩ L' X hy) rfl rfl (fun _ => rfl) ?_ (fun i F1 G' l' rec => ?_) (fun D => ?_) (fun D i e h => h.elim)
  · refine Ent.trans (Ent.addnil 1 (Ent.refl _)) ?_
    refine Ent.trans ?_ (Ent.left (Ent.right (Ent.right (lU_mk b4 (l := []) (k := 0) rfl ⟨none, 0, 0⟩))))
    ((try simp only [star_assoc]); (repeat (apply Ent.pk; focus ((repeat first | exact pk0 | exact pkl | apply pkn); first | done | fail))); first | exact Ent.fin pkA | exact Ent.refl _)
  · obtain ⟨i, hi⟩ := i
    have htk := take_s hi
    try (refine Cw.heq (by simp only [star_assoc, emp_star, star_emp]; exact rfl) ?_)
    (repeat' (first | (refine Ow.is ?_; (first | refine Ow.pu rfl (Pu.fld0 rfl) ?_ | refine Ow.nil ?_ | refine Ow.pu rfl (Pu.assign rfl) ?_)) | (refine Cw.is ?_; (first | refine Cw.seq ?_ | refine Cw.region ?_ | refine Cw.cond_t rfl rfl ?_ | refine Cw.cond_f rfl rfl ?_ | refine Cw.block ?_ | refine Cw.ret ?_ | refine Cw.exit ?_ | refine Cw.skip ?_)) | (first | refine thenQ_n ?_ | refine thenQ_e ?_ | refine blockQ_n ?_ | refine blockQ_e ?_)))
    refine ⟨_, Ent.refl _, ?_⟩
    refine Cw.opn (lU_ex b4 L i) (fun sv => ?_)
    (refine Cw.heq (by simp only [star_assoc, emp_star, star_emp]; exact rfl) ?_)
    (repeat' (first | (refine Ow.is ?_; (first | refine Ow.pu rfl (Pu.fld0 rfl) ?_ | refine Ow.nil ?_ | refine Ow.pu rfl (Pu.move rfl) ?_ | (refine Ow.kLoad ?_; (first | refine Ow.pu rfl (Pu.load_stfd (o := 0) (w := fo) rfl pkA (by omega) hfo rfl) ?_ | refine Ow.pu rfl (Pu.load_cl rfl pkA rfl) ?_ | refine Ow.pu rfl (Pu.load_sli rfl pkA (by first | omega | (simp only [List.length_set, List.length_append, List.length_replicate, List.length_cons, List.length_nil]; omega))) ?_)) | (refine Ow.kStore ?_; (first | refine Ow.store_cl rfl rfl rfl (by (first | rfl | assumption | exact Subtype.property _)) pkA rfl ?_)) | (refine Ow.kBuiltin ?_; (first | refine Ow.append_sli rfl rfl rfl pkA ((rdSl_cli (l2 := [_]) rfl).of_pk pkA) (by first | (simp; done) | (simp; omega)) (fun sv => ?_))) | (refine Ow.kBuildS ?_; (first | refine Ow.bldS1 rfl rfl (fun w => by kernel_rfl) (fun bx => ?_))))) | (refine Cw.is ?_; (first | refine Cw.seq ?_ | refine Cw.region ?_ | refine Cw.cond_t rfl rfl ?_ | refine Cw.cond_f rfl rfl ?_ | refine Cw.block ?_ | refine Cw.ret ?_ | refine Cw.exit ?_ | refine Cw.skip ?_)) | (first | refine thenQ_n ?_ | refine thenQ_e ?_ | refine blockQ_n ?_ | refine blockQ_e ?_)))
    refine rdQ_n ?_
    refine Ent.trans ?_ (Ent.left (lU_mk b4 (k := i + 1) htk sv))
    ((try simp only [star_assoc]); (repeat (apply Ent.pk; focus ((repeat first | exact pk0 | exact pkl | apply pkn); first | done | fail))); first | exact Ent.fin pkA | exact Ent.refl _)
  · try (refine Cw.heq (by simp only [star_assoc, emp_star, star_emp]; exact rfl) ?_)
    (repeat' (first | (refine Ow.is ?_; (first | refine Ow.pu rfl (Pu.fld0 rfl) ?_ | refine Ow.nil ?_ | (refine Ow.kLoad ?_; (first | refine Ow.pu rfl (Pu.load_stfd (o := 0) (w := fo) rfl pkA (by omega) hfo rfl) ?_ | refine Ow.pu rfl (Pu.load_cl rfl pkA rfl) ?_ | refine Ow.pu rfl (Pu.load_sli rfl pkA (by first | omega | (simp only [List.length_set, List.length_append, List.length_replicate, List.length_cons, List.length_nil]; omega))) ?_)) | (refine Ow.kBin ?_; (first | (refine Ow.b_gtr ?_; first | refine Ow.pu rfl (Pu.gt_t rfl rfl (by omega)) ?_ | refine Ow.pu rfl (Pu.gt_f rfl rfl (by omega)) ?_ | refine Ow.sp rfl (by exact Pu.gt rfl rfl) (fun hc => ?_) (fun hc => ?_)))) | (refine Ow.kBuiltin ?_; (first | refine Ow.pu rfl (Pu.len_st rfl pkA) ?_ | refine Ow.pu rfl (Pu.len_slm rfl pkA) ?_)))) | (refine Cw.is ?_; (first | refine Cw.seq ?_ | refine Cw.region ?_ | refine Cw.cond_t rfl rfl ?_ | refine Cw.cond_f rfl rfl ?_ | refine Cw.block ?_ | refine Cw.ret ?_ | refine Cw.exit ?_ | refine Cw.skip ?_)) | (first | refine thenQ_n ?_ | refine thenQ_e ?_ | refine blockQ_n ?_ | refine blockQ_e ?_)))
    try (refine Cw.heq (by simp only [star_assoc, emp_star, star_emp]; exact rfl) ?_)
    refine Cw.pkd (A := lU b4 L L.length) pkA ?_
    refine Cw.opn (lU_ex b4 L L.length) (fun sv0 => ?_)
    rw [List.take_length]
    (refine Cw.heq (by simp only [star_assoc, emp_star, star_emp]; exact rfl) ?_)
    have hstart : Wl O R S0 L := Wl.start hoko hLR hLok
    refine Cw.loopF [6, 24, 25, 26, 27, 28, 29, 30, 31, 32, 33, 34, 35, 36, 37, 38, 39, 40, 41, 42, 43, 44, 45, 46, 47, 48, 49, 50, 51, 52, 53, 54, 55] (by (repeat first | exact er_nil | apply er_drop rfl | apply er_keep rfl)) (fun z : RzS => Wl O R z.V z.l ∧ wlM O.length z.V z.l ≤ 7 * (O.length + 1) + 68) (fun z => [])
      (fun z => cl b4 [z.sv.v] * (slk 1 z.sv.v (z.l.map vi) * (bset sb (O.length + 1) z.V * (gcl g q tv rb (W.flatMap wkc) * (slk 2 tv.v (O.flatMap obc) * (obs O * (tab rb q.threads q.regs q.stack s.G (s.T.map sltO) * (pt D (.deferred (some [])) * F))))))))
      (fun z => wlM O.length z.V z.l) ⟨S0, L, sv0⟩ ⟨hstart, by show wlM O.length S0 L ≤ _; rw [wlM_0]; omega⟩ (by (repeat first | exact trivial | refine ⟨rfl, ?_⟩)) (by ((try simp only [star_assoc]); (repeat (apply Ent.pk; focus ((repeat first | exact pk0 | exact pkl | apply pkn); first | done | fail))); first | exact Ent.fin pkA | exact Ent.refl _)) (fun z hz => ?_)
    obtain ⟨V, l, sv⟩ := z
    obtain ⟨hwl, hm⟩ := hz
    simp only at hwl hm ⊢
    have hll := wlM_len (n := O.length) (V := V) (l := l)
    have hlb : l.length ≤ 7 * (O.length + 1) + 68 := by omega
    clear hll
    rcases List.eq_nil_or_concat l with h0 | ⟨l', z, h0⟩
    · have hl0 : l.length = 0 := by rw [h0]; rfl
      have hdone : V = rchB O R := (h0 ▸ hwl : Wl O R V []).done hoko
      (repeat' (first | (refine Ow.is ?_; (first | refine Ow.pu rfl (Pu.fld0 rfl) ?_ | refine Ow.nil ?_ | (refine Ow.kLoad ?_; (first | refine Ow.pu rfl (Pu.load_stfd (o := 0) (w := fo) rfl pkA (by omega) hfo rfl) ?_ | refine Ow.pu rfl (Pu.load_cl rfl pkA rfl) ?_ | refine Ow.pu rfl (Pu.load_sli rfl pkA (by first | omega | (simp only [List.length_set, List.length_append, List.length_replicate, List.length_cons, List.length_nil]; omega))) ?_)) | (refine Ow.kBin ?_; (first | (refine Ow.b_gtr ?_; first | refine Ow.pu rfl (Pu.gt_t rfl rfl (by omega)) ?_ | refine Ow.pu rfl (Pu.gt_f rfl rfl (by omega)) ?_ | refine Ow.sp rfl (by exact Pu.gt rfl rfl) (fun hc => ?_) (fun hc => ?_)))) | (refine Ow.kBuiltin ?_; (first | refine Ow.pu rfl (Pu.len_st rfl pkA) ?_ | refine Ow.pu rfl (Pu.len_slm rfl pkA) ?_)))) | (refine Cw.is ?_; (first | refine Cw.seq ?_ | refine Cw.region ?_ | refine Cw.cond_t rfl rfl ?_ | refine Cw.cond_f rfl rfl ?_ | refine Cw.block ?_ | refine Cw.ret ?_ | refine Cw.exit ?_ | refine Cw.skip ?_)) | (first | refine thenQ_n ?_ | refine thenQ_e ?_ | refine blockQ_n ?_ | refine blockQ_e ?_)))
      (repeat' (first | (refine Ow.is ?_; (first | refine Ow.pu rfl (Pu.fld0 rfl) ?_ | refine Ow.nil ?_ | refine Ow.pu rfl (Pu.move rfl) ?_ | refine Ow.pu rfl (Pu.assign rfl) ?_)) | (refine Cw.is ?_; (first | refine Cw.seq ?_ | refine Cw.region ?_ | refine Cw.cond_t rfl rfl ?_ | refine Cw.cond_f rfl rfl ?_ | refine Cw.block ?_ | refine Cw.ret ?_ | refine Cw.exit ?_ | refine Cw.skip ?_)) | (first | refine thenQ_n ?_ | refine thenQ_e ?_ | refine blockQ_n ?_ | refine blockQ_e ?_)))
      rw [hdone]
      refine retQ_m (.inr rfl) pkA sb (res1 Tryd.results17 rfl) ?_
      refine Ent.trans ?_ (Ent.left (Ent.right (Ent.trans (gpW_mk g q rb (W.flatMap wkc) O s.G (s.T.map sltO) tv) (gph_mk g q s (rb := rb) hOO rfl rfl hWl hW))))
      ((try simp only [star_assoc]); (repeat (apply Ent.pk; focus ((repeat first | exact pk0 | exact pkl | apply pkn); first | done | fail))); first | exact Ent.fin pkA | exact Ent.refl _)
    · replace h0 : l = l' ++ [z] := by rw [h0]; simp
      have hzo := (hwl.hl z (by rw [h0]; simp)).1
      have hlen : l.length = l'.length + 1 := by rw [h0]; simp
      have hz : l[((l.length : Int) - 1).toNat]! = z := by
        rw [show ((l.length : Int) - 1).toNat = l'.length by omega, h0, getElem!_pos _ _ (by simp)]; simp
      have htk : l.take ((l.length : Int) - 1).toNat = l' := by
        rw [show ((l.length : Int) - 1).toNat = l'.length by omega, h0]; simp
      rw [h0] at hwl hm
      obtain ⟨zn, rfl⟩ : ∃ zn : Nat, z = zn := ⟨z.toNat, by unfold okR at hzo; omega⟩
      unfold okR at hzo
      (repeat' (first | (refine Ow.is ?_; (first | refine Ow.pu rfl (Pu.fld0 rfl) ?_ | refine Ow.nil ?_ | refine Ow.pu rfl (Pu.assign rfl) ?_ | (refine Ow.kLoad ?_; (first | refine Ow.pu rfl (Pu.load_stfd (o := 0) (w := fo) rfl pkA (by omega) hfo rfl) ?_ | refine Ow.pu rfl (Pu.load_cl rfl pkA rfl) ?_ | refine Ow.pu rfl (Pu.load_sli rfl pkA (by first | omega | (simp only [List.length_set, List.length_append, List.length_replicate, List.length_cons, List.length_nil]; omega))) ?_)) | (refine Ow.kBin ?_; (first | (refine Ow.b_gtr ?_; first | refine Ow.pu rfl (Pu.gt_t rfl rfl (by omega)) ?_ | refine Ow.pu rfl (Pu.gt_f rfl rfl (by omega)) ?_ | refine Ow.sp rfl (by exact Pu.gt rfl rfl) (fun hc => ?_) (fun hc => ?_)) | (refine Ow.b_sub ?_; refine Ow.pu rfl (Pu.sub_i rfl rfl (by omega)) ?_))) | (refine Ow.kIdx ?_; (first | refine Ow.pu rfl (Pu.idx_st rfl rfl pkA (by omega)) ?_ | refine Ow.pu rfl (Pu.idx_sl rfl rfl pkA (by simp only [List.length_map, List.length_append, List.length_set, List.length_replicate, List.length_cons, List.length_nil]; omega)) ?_)) | (refine Ow.kBuiltin ?_; (first | refine Ow.pu rfl (Pu.len_st rfl pkA) ?_ | refine Ow.pu rfl (Pu.len_slm rfl pkA) ?_)))) | (refine Cw.is ?_; (first | refine Cw.seq ?_ | refine Cw.region ?_ | refine Cw.cond_t rfl rfl ?_ | refine Cw.cond_f rfl rfl ?_ | refine Cw.block ?_ | refine Cw.ret ?_ | refine Cw.exit ?_ | refine Cw.skip ?_)) | (first | refine thenQ_n ?_ | refine thenQ_e ?_ | refine blockQ_n ?_ | refine blockQ_e ?_)))
      rw [hz]
      (repeat' (first | (refine Ow.is ?_; (first | refine Ow.pu rfl (Pu.fld0 rfl) ?_ | refine Ow.nil ?_ | refine Ow.pu rfl (Pu.assign rfl) ?_ | (refine Ow.kLoad ?_; (first | refine Ow.pu rfl (Pu.load_stfd (o := 0) (w := fo) rfl pkA (by omega) hfo rfl) ?_ | refine Ow.pu rfl (Pu.load_cl rfl pkA rfl) ?_ | refine Ow.pu rfl (Pu.load_sli rfl pkA (by first | omega | (simp only [List.length_set, List.length_append, List.length_replicate, List.length_cons, List.length_nil]; omega))) ?_)) | (refine Ow.kBin ?_; (first | (refine Ow.b_sub ?_; refine Ow.pu rfl (Pu.sub_i rfl rfl (by omega)) ?_))) | (refine Ow.kStore ?_; (first | refine Ow.store_cl rfl rfl rfl (by (first | rfl | assumption | exact Subtype.property _)) pkA rfl ?_)) | (refine Ow.kIdx ?_; (first | refine Ow.pu rfl (Pu.idx_st rfl rfl pkA (by omega)) ?_ | refine Ow.pu rfl (Pu.idx_sl rfl rfl pkA (by simp only [List.length_map, List.length_append, List.length_set, List.length_replicate, List.length_cons, List.length_nil]; omega)) ?_)) | (refine Ow.kBuiltin ?_; (first | refine Ow.pu rfl (Pu.len_st rfl pkA) ?_ | refine Ow.pu rfl (Pu.len_slm rfl pkA) ?_)) | refine Ow.slice_sli rfl rfl rfl pkA (by omega) (fun sv => ?_))) | (refine Cw.is ?_; (first | refine Cw.seq ?_ | refine Cw.region ?_ | refine Cw.cond_t rfl rfl ?_ | refine Cw.cond_f rfl rfl ?_ | refine Cw.block ?_ | refine Cw.ret ?_ | refine Cw.exit ?_ | refine Cw.skip ?_)) | (first | refine thenQ_n ?_ | refine thenQ_e ?_ | refine blockQ_n ?_ | refine blockQ_e ?_)))
      rw [htk]
      by_cases hzz : zn = 0 ∨ V zn = true
      · have hsk := hwl.skip (z := (zn : Int)) (hzz.imp (fun h => by omega) (fun h => by rw [Int.toNat_natCast]; exact h))
        have hmm := wlM_skip (n := O.length) (V := V) (l := l') (z := (zn : Int))
        by_cases hz0 : zn = 0
        · (repeat' (first | (refine Ow.is ?_; (first | refine Ow.pu rfl (Pu.fld0 rfl) ?_ | refine Ow.nil ?_ | refine Ow.pu rfl (Pu.move rfl) ?_ | (refine Ow.kGuard ?_; (first | refine Ow.guard_yes rfl rfl rfl ?_ | refine Ow.guard_no rfl rfl rfl rfl ?_)) | (refine Ow.kLoad ?_; (first | refine Ow.pu rfl (Pu.load_stfd (o := 0) (w := fo) rfl pkA (by omega) hfo rfl) ?_ | refine Ow.pu rfl (Pu.load_cl rfl pkA rfl) ?_ | refine Ow.pu rfl (Pu.load_sli rfl pkA (by first | omega | (simp only [List.length_set, List.length_append, List.length_replicate, List.length_cons, List.length_nil]; omega))) ?_)) | (refine Ow.kBin ?_; (first | (refine Ow.b_neq ?_; (first | refine Ow.pu rfl (Pu.ne_t rfl rfl odA) ?_ | refine Ow.pu rfl (Pu.ne_f rfl rfl roA) ?_)) | (refine Ow.b_sub ?_; refine Ow.pu rfl (Pu.sub_i rfl rfl (by omega)) ?_))) | (refine Ow.kPick ?_; (first | refine Ow.pu rfl (Pu.pick_t rfl rfl) ?_ | refine Ow.pu rfl (Pu.pick_f rfl rfl) ?_)) | (refine Ow.kStore ?_; (first | refine Ow.store_cl rfl rfl rfl (by (first | rfl | assumption | exact Subtype.property _)) pkA rfl ?_)) | (refine Ow.kBuiltin ?_; (first | refine Ow.pu rfl (Pu.len_st rfl pkA) ?_ | refine Ow.pu rfl (Pu.len_slm rfl pkA) ?_)) | (refine Ow.kCall ?_; (first | refine Ow.callE evA pkA rfl hput (fun _ => ?_) | fail)) | refine Ow.slice_sli rfl rfl rfl pkA (by omega) (fun sv => ?_))) | (refine Cw.is ?_; (first | refine Cw.seq ?_ | refine Cw.region ?_ | refine Cw.cond_t rfl rfl ?_ | refine Cw.cond_f rfl rfl ?_ | refine Cw.block ?_ | refine Cw.ret ?_ | refine Cw.exit ?_ | refine Cw.skip ?_)) | (first | refine thenQ_n ?_ | refine thenQ_e ?_ | refine blockQ_n ?_ | refine blockQ_e ?_)))
          exact ⟨rfl, ⟨V, l', sv⟩, ⟨hsk, by simp only; omega⟩, by simp only; rw [h0]; omega, by (repeat first | exact trivial | refine ⟨rfl, ?_⟩), by ((try simp only [star_assoc]); (repeat (apply Ent.pk; focus ((repeat first | exact pk0 | exact pkl | apply pkn); first | done | fail))); first | exact Ent.fin pkA | exact Ent.refl _)⟩
        · have hV : V zn = true := hzz.resolve_left hz0
          have hput : Fn Tryd.prog 34 [.pointer (some ⟨sb, 0, none⟩), vi zn] (bset sb (O.length + 1) V) Unit (fun _ => .bool false) (fun _ => bset sb (O.length + 1) V) := by
            have h := Put_f sb (O.length + 1) V (by omega) zn (by omega) hV
            rw [upd_tt hV] at h; exact h
          (repeat' (first | (refine Ow.is ?_; (first | refine Ow.pu rfl (Pu.fld0 rfl) ?_ | refine Ow.nil ?_ | refine Ow.pu rfl (Pu.move rfl) ?_ | (refine Ow.kGuard ?_; (first | refine Ow.guard_yes rfl rfl rfl ?_ | refine Ow.guard_no rfl rfl rfl rfl ?_)) | (refine Ow.kLoad ?_; (first | refine Ow.pu rfl (Pu.load_stfd (o := 0) (w := fo) rfl pkA (by omega) hfo rfl) ?_ | refine Ow.pu rfl (Pu.load_cl rfl pkA rfl) ?_ | refine Ow.pu rfl (Pu.load_sli rfl pkA (by first | omega | (simp only [List.length_set, List.length_append, List.length_replicate, List.length_cons, List.length_nil]; omega))) ?_)) | (refine Ow.kBin ?_; (first | (refine Ow.b_neq ?_; (first | refine Ow.pu rfl (Pu.ne_t rfl rfl odA) ?_ | refine Ow.pu rfl (Pu.ne_f rfl rfl roA) ?_)) | (refine Ow.b_sub ?_; refine Ow.pu rfl (Pu.sub_i rfl rfl (by omega)) ?_))) | (refine Ow.kPick ?_; (first | refine Ow.pu rfl (Pu.pick_t rfl rfl) ?_ | refine Ow.pu rfl (Pu.pick_f rfl rfl) ?_)) | (refine Ow.kStore ?_; (first | refine Ow.store_cl rfl rfl rfl (by (first | rfl | assumption | exact Subtype.property _)) pkA rfl ?_)) | (refine Ow.kBuiltin ?_; (first | refine Ow.pu rfl (Pu.len_st rfl pkA) ?_ | refine Ow.pu rfl (Pu.len_slm rfl pkA) ?_)) | (refine Ow.kCall ?_; (first | refine Ow.callE evA pkA rfl hput (fun _ => ?_) | fail)) | refine Ow.slice_sli rfl rfl rfl pkA (by omega) (fun sv => ?_))) | (refine Cw.is ?_; (first | refine Cw.seq ?_ | refine Cw.region ?_ | refine Cw.cond_t rfl rfl ?_ | refine Cw.cond_f rfl rfl ?_ | refine Cw.block ?_ | refine Cw.ret ?_ | refine Cw.exit ?_ | refine Cw.skip ?_)) | (first | refine thenQ_n ?_ | refine thenQ_e ?_ | refine blockQ_n ?_ | refine blockQ_e ?_)))
          exact ⟨rfl, ⟨V, l', sv⟩, ⟨hsk, by simp only; omega⟩, by simp only; rw [h0]; omega, by (repeat first | exact trivial | refine ⟨rfl, ?_⟩), by ((try simp only [star_assoc]); (repeat (apply Ent.pk; focus ((repeat first | exact pk0 | exact pkl | apply pkn); first | done | fail))); first | exact Ent.fin pkA | exact Ent.refl _)⟩
      · have hz0 : zn ≠ 0 := fun h => hzz (.inl h)
        have hV : V zn = false := by
          cases e : V zn with
          | false => rfl
          | true => exact (hzz (.inr e)).elim
        have hput := Put_t sb (O.length + 1) V (by omega) zn (by omega) hV
        have hjo : ((zn : Int) - 1).toNat < O.length := by omega
        have hob' := obs_at O ((zn : Int) - 1).toNat hjo
        obtain ⟨fo, hfo⟩ : ∃ fo, O[((zn : Int) - 1).toNat]! = fo := ⟨_, rfl⟩
        have hfl : flds O (zn : Int) = fo.2.1 := by unfold flds; rw [hfo]
        have hf6 := (hoko.f (z := (zn : Int)) (by omega)).1
        have hpw := hwl.put hoko (by omega)
        have hmp := wlM_put hwl hoko (by omega) (by rw [Int.toNat_natCast]; exact hV)
        rw [hfl] at hf6 hpw hmp
        rw [Int.toNat_natCast] at hpw hmp
        rw [hfo] at hob'
        (repeat' (first | (refine Ow.is ?_; (first | refine Ow.pu rfl (Pu.fld0 rfl) ?_ | refine Ow.nil ?_ | refine Ow.pu rfl (Pu.move rfl) ?_ | (refine Ow.kGuard ?_; (first | refine Ow.guard_yes rfl rfl rfl ?_ | refine Ow.guard_no rfl rfl rfl rfl ?_)) | (refine Ow.kLoad ?_; (first | refine Ow.pu rfl (Pu.load_stfd (o := 0) (w := fo) rfl pkA (by omega) hfo rfl) ?_ | refine Ow.pu rfl (Pu.load_cl rfl pkA rfl) ?_ | refine Ow.pu rfl (Pu.load_sli rfl pkA (by first | omega | (simp only [List.length_set, List.length_append, List.length_replicate, List.length_cons, List.length_nil]; omega))) ?_)) | (refine Ow.kBin ?_; (first | (refine Ow.b_neq ?_; (first | refine Ow.pu rfl (Pu.ne_t rfl rfl odA) ?_ | refine Ow.pu rfl (Pu.ne_f rfl rfl roA) ?_)) | (refine Ow.b_sub ?_; refine Ow.pu rfl (Pu.sub_i rfl rfl (by omega)) ?_))) | (refine Ow.kPick ?_; (first | refine Ow.pu rfl (Pu.pick_t rfl rfl) ?_ | refine Ow.pu rfl (Pu.pick_f rfl rfl) ?_)) | (refine Ow.kStore ?_; (first | refine Ow.store_cl rfl rfl rfl (by (first | rfl | assumption | exact Subtype.property _)) pkA rfl ?_)) | (refine Ow.kBuiltin ?_; (first | refine Ow.pu rfl (Pu.len_st rfl pkA) ?_ | refine Ow.pu rfl (Pu.len_slm rfl pkA) ?_)) | (refine Ow.kCall ?_; (first | refine Ow.callE evA pkA rfl hput (fun _ => ?_) | fail)) | refine Ow.slice_sli rfl rfl rfl pkA (by omega) (fun sv => ?_))) | (refine Cw.is ?_; (first | refine Cw.seq ?_ | refine Cw.region ?_ | refine Cw.cond_t rfl rfl ?_ | refine Cw.cond_f rfl rfl ?_ | refine Cw.block ?_ | refine Cw.ret ?_ | refine Cw.exit ?_ | refine Cw.skip ?_)) | (first | refine thenQ_n ?_ | refine thenQ_e ?_ | refine blockQ_n ?_ | refine blockQ_e ?_)))
        rw [hob']
        (refine Cw.heq (by simp only [star_assoc, emp_star, star_emp]; exact rfl) ?_)
        (refine Cw.drawF3 (cl b4 _) (gcl _ _ _ _ _) (slk 2 tv.v _) 11 [(0, false), (1, false), (2, false), (3, false), (4, false), (5, false), (6, false), (7, false), (8, false), (9, false), (10, true), (11, true)] pkA pkA pkA mixed (by kernel_rfl) ?_; ((first | refine DwF.q rfl rfl (by kernel_rfl) trivial (by (first | exact Pu.move rfl | exact Pu.assign rfl | exact Pu.fld rfl | exact Pu.nilCheck rfl | exact Pu.fld0 rfl | (apply Pu.kLoad; (first | exact Pu.load_stfd (o := 0) (w := fo) rfl pkA (by omega) hfo rfl | exact Pu.load_cl rfl pkA rfl | exact Pu.load_sli rfl pkA (by first | omega | (simp only [List.length_set, List.length_append, List.length_replicate, List.length_cons, List.length_nil]; omega)))) | (apply Pu.kIdx; (first | exact Pu.idx_st rfl rfl pkA (by omega) | exact Pu.idx_sl rfl rfl pkA (by simp only [List.length_map, List.length_append, List.length_set, List.length_replicate, List.length_cons, List.length_nil]; omega))) | (apply Pu.kBin; (first | (apply Pu.b_sub; exact Pu.sub_i rfl rfl (by omega)))))) ?_ | refine DwF.q rfl rfl (by kernel_rfl) ⟨_, _, rfl, rfl, rfl⟩ (by (first | exact Pu.move rfl | exact Pu.assign rfl | exact Pu.fld rfl | exact Pu.nilCheck rfl | exact Pu.fld0 rfl | (apply Pu.kLoad; (first | exact Pu.load_stfd (o := 0) (w := fo) rfl pkA (by omega) hfo rfl | exact Pu.load_cl rfl pkA rfl | exact Pu.load_sli rfl pkA (by first | omega | (simp only [List.length_set, List.length_append, List.length_replicate, List.length_cons, List.length_nil]; omega)))) | (apply Pu.kIdx; (first | exact Pu.idx_st rfl rfl pkA (by omega) | exact Pu.idx_sl rfl rfl pkA (by simp only [List.length_map, List.length_append, List.length_set, List.length_replicate, List.length_cons, List.length_nil]; omega))) | (apply Pu.kBin; (first | (apply Pu.b_sub; exact Pu.sub_i rfl rfl (by omega)))))) ?_)); ((first | refine DwF.q rfl rfl (by kernel_rfl) trivial (by (first | exact Pu.move rfl | exact Pu.assign rfl | exact Pu.fld rfl | exact Pu.nilCheck rfl | exact Pu.fld0 rfl | (apply Pu.kLoad; (first | exact Pu.load_stfd (o := 0) (w := fo) rfl pkA (by omega) hfo rfl | exact Pu.load_cl rfl pkA rfl | exact Pu.load_sli rfl pkA (by first | omega | (simp only [List.length_set, List.length_append, List.length_replicate, List.length_cons, List.length_nil]; omega)))) | (apply Pu.kIdx; (first | exact Pu.idx_st rfl rfl pkA (by omega) | exact Pu.idx_sl rfl rfl pkA (by simp only [List.length_map, List.length_append, List.length_set, List.length_replicate, List.length_cons, List.length_nil]; omega))) | (apply Pu.kBin; (first | (apply Pu.b_sub; exact Pu.sub_i rfl rfl (by omega)))))) ?_ | refine DwF.q rfl rfl (by kernel_rfl) ⟨_, _, rfl, rfl, rfl⟩ (by (first | exact Pu.move rfl | exact Pu.assign rfl | exact Pu.fld rfl | exact Pu.nilCheck rfl | exact Pu.fld0 rfl | (apply Pu.kLoad; (first | exact Pu.load_stfd (o := 0) (w := fo) rfl pkA (by omega) hfo rfl | exact Pu.load_cl rfl pkA rfl | exact Pu.load_sli rfl pkA (by first | omega | (simp only [List.length_set, List.length_append, List.length_replicate, List.length_cons, List.length_nil]; omega)))) | (apply Pu.kIdx; (first | exact Pu.idx_st rfl rfl pkA (by omega) | exact Pu.idx_sl rfl rfl pkA (by simp only [List.length_map, List.length_append, List.length_set, List.length_replicate, List.length_cons, List.length_nil]; omega))) | (apply Pu.kBin; (first | (apply Pu.b_sub; exact Pu.sub_i rfl rfl (by omega)))))) ?_)); ((first | refine DwF.q rfl rfl (by kernel_rfl) trivial (by (first | exact Pu.move rfl | exact Pu.assign rfl | exact Pu.fld rfl | exact Pu.nilCheck rfl | exact Pu.fld0 rfl | (apply Pu.kLoad; (first | exact Pu.load_stfd (o := 0) (w := fo) rfl pkA (by omega) hfo rfl | exact Pu.load_cl rfl pkA rfl | exact Pu.load_sli rfl pkA (by first | omega | (simp only [List.length_set, List.length_append, List.length_replicate, List.length_cons, List.length_nil]; omega)))) | (apply Pu.kIdx; (first | exact Pu.idx_st rfl rfl pkA (by omega) | exact Pu.idx_sl rfl rfl pkA (by simp only [List.length_map, List.length_append, List.length_set, List.length_replicate, List.length_cons, List.length_nil]; omega))) | (apply Pu.kBin; (first | (apply Pu.b_sub; exact Pu.sub_i rfl rfl (by omega)))))) ?_ | refine DwF.q rfl rfl (by kernel_rfl) ⟨_, _, rfl, rfl, rfl⟩ (by (first | exact Pu.move rfl | exact Pu.assign rfl | exact Pu.fld rfl | exact Pu.nilCheck rfl | exact Pu.fld0 rfl | (apply Pu.kLoad; (first | exact Pu.load_stfd (o := 0) (w := fo) rfl pkA (by omega) hfo rfl | exact Pu.load_cl rfl pkA rfl | exact Pu.load_sli rfl pkA (by first | omega | (simp only [List.length_set, List.length_append, List.length_replicate, List.length_cons, List.length_nil]; omega)))) | (apply Pu.kIdx; (first | exact Pu.idx_st rfl rfl pkA (by omega) | exact Pu.idx_sl rfl rfl pkA (by simp only [List.length_map, List.length_append, List.length_set, List.length_replicate, List.length_cons, List.length_nil]; omega))) | (apply Pu.kBin; (first | (apply Pu.b_sub; exact Pu.sub_i rfl rfl (by omega)))))) ?_)); ((first | refine DwF.q rfl rfl (by kernel_rfl) trivial (by (first | exact Pu.move rfl | exact Pu.assign rfl | exact Pu.fld rfl | exact Pu.nilCheck rfl | exact Pu.fld0 rfl | (apply Pu.kLoad; (first | exact Pu.load_stfd (o := 0) (w := fo) rfl pkA (by omega) hfo rfl | exact Pu.load_cl rfl pkA rfl | exact Pu.load_sli rfl pkA (by first | omega | (simp only [List.length_set, List.length_append, List.length_replicate, List.length_cons, List.length_nil]; omega)))) | (apply Pu.kIdx; (first | exact Pu.idx_st rfl rfl pkA (by omega) | exact Pu.idx_sl rfl rfl pkA (by simp only [List.length_map, List.length_append, List.length_set, List.length_replicate, List.length_cons, List.length_nil]; omega))) | (apply Pu.kBin; (first | (apply Pu.b_sub; exact Pu.sub_i rfl rfl (by omega)))))) ?_ | refine DwF.q rfl rfl (by kernel_rfl) ⟨_, _, rfl, rfl, rfl⟩ (by (first | exact Pu.move rfl | exact Pu.assign rfl | exact Pu.fld rfl | exact Pu.nilCheck rfl | exact Pu.fld0 rfl | (apply Pu.kLoad; (first | exact Pu.load_stfd (o := 0) (w := fo) rfl pkA (by omega) hfo rfl | exact Pu.load_cl rfl pkA rfl | exact Pu.load_sli rfl pkA (by first | omega | (simp only [List.length_set, List.length_append, List.length_replicate, List.length_cons, List.length_nil]; omega)))) | (apply Pu.kIdx; (first | exact Pu.idx_st rfl rfl pkA (by omega) | exact Pu.idx_sl rfl rfl pkA (by simp only [List.length_map, List.length_append, List.length_set, List.length_replicate, List.length_cons, List.length_nil]; omega))) | (apply Pu.kBin; (first | (apply Pu.b_sub; exact Pu.sub_i rfl rfl (by omega)))))) ?_)); ((first | refine DwF.q rfl rfl (by kernel_rfl) trivial (by (first | exact Pu.move rfl | exact Pu.assign rfl | exact Pu.fld rfl | exact Pu.nilCheck rfl | exact Pu.fld0 rfl | (apply Pu.kLoad; (first | exact Pu.load_stfd (o := 0) (w := fo) rfl pkA (by omega) hfo rfl | exact Pu.load_cl rfl pkA rfl | exact Pu.load_sli rfl pkA (by first | omega | (simp only [List.length_set, List.length_append, List.length_replicate, List.length_cons, List.length_nil]; omega)))) | (apply Pu.kIdx; (first | exact Pu.idx_st rfl rfl pkA (by omega) | exact Pu.idx_sl rfl rfl pkA (by simp only [List.length_map, List.length_append, List.length_set, List.length_replicate, List.length_cons, List.length_nil]; omega))) | (apply Pu.kBin; (first | (apply Pu.b_sub; exact Pu.sub_i rfl rfl (by omega)))))) ?_ | refine DwF.q rfl rfl (by kernel_rfl) ⟨_, _, rfl, rfl, rfl⟩ (by (first | exact Pu.move rfl | exact Pu.assign rfl | exact Pu.fld rfl | exact Pu.nilCheck rfl | exact Pu.fld0 rfl | (apply Pu.kLoad; (first | exact Pu.load_stfd (o := 0) (w := fo) rfl pkA (by omega) hfo rfl | exact Pu.load_cl rfl pkA rfl | exact Pu.load_sli rfl pkA (by first | omega | (simp only [List.length_set, List.length_append, List.length_replicate, List.length_cons, List.length_nil]; omega)))) | (apply Pu.kIdx; (first | exact Pu.idx_st rfl rfl pkA (by omega) | exact Pu.idx_sl rfl rfl pkA (by simp only [List.length_map, List.length_append, List.length_set, List.length_replicate, List.length_cons, List.length_nil]; omega))) | (apply Pu.kBin; (first | (apply Pu.b_sub; exact Pu.sub_i rfl rfl (by omega)))))) ?_)); ((first | refine DwF.q rfl rfl (by kernel_rfl) trivial (by (first | exact Pu.move rfl | exact Pu.assign rfl | exact Pu.fld rfl | exact Pu.nilCheck rfl | exact Pu.fld0 rfl | (apply Pu.kLoad; (first | exact Pu.load_stfd (o := 0) (w := fo) rfl pkA (by omega) hfo rfl | exact Pu.load_cl rfl pkA rfl | exact Pu.load_sli rfl pkA (by first | omega | (simp only [List.length_set, List.length_append, List.length_replicate, List.length_cons, List.length_nil]; omega)))) | (apply Pu.kIdx; (first | exact Pu.idx_st rfl rfl pkA (by omega) | exact Pu.idx_sl rfl rfl pkA (by simp only [List.length_map, List.length_append, List.length_set, List.length_replicate, List.length_cons, List.length_nil]; omega))) | (apply Pu.kBin; (first | (apply Pu.b_sub; exact Pu.sub_i rfl rfl (by omega)))))) ?_ | refine DwF.q rfl rfl (by kernel_rfl) ⟨_, _, rfl, rfl, rfl⟩ (by (first | exact Pu.move rfl | exact Pu.assign rfl | exact Pu.fld rfl | exact Pu.nilCheck rfl | exact Pu.fld0 rfl | (apply Pu.kLoad; (first | exact Pu.load_stfd (o := 0) (w := fo) rfl pkA (by omega) hfo rfl | exact Pu.load_cl rfl pkA rfl | exact Pu.load_sli rfl pkA (by first | omega | (simp only [List.length_set, List.length_append, List.length_replicate, List.length_cons, List.length_nil]; omega)))) | (apply Pu.kIdx; (first | exact Pu.idx_st rfl rfl pkA (by omega) | exact Pu.idx_sl rfl rfl pkA (by simp only [List.length_map, List.length_append, List.length_set, List.length_replicate, List.length_cons, List.length_nil]; omega))) | (apply Pu.kBin; (first | (apply Pu.b_sub; exact Pu.sub_i rfl rfl (by omega)))))) ?_)); ((first | refine DwF.q rfl rfl (by kernel_rfl) trivial (by (first | exact Pu.move rfl | exact Pu.assign rfl | exact Pu.fld rfl | exact Pu.nilCheck rfl | exact Pu.fld0 rfl | (apply Pu.kLoad; (first | exact Pu.load_stfd (o := 0) (w := fo) rfl pkA (by omega) hfo rfl | exact Pu.load_cl rfl pkA rfl | exact Pu.load_sli rfl pkA (by first | omega | (simp only [List.length_set, List.length_append, List.length_replicate, List.length_cons, List.length_nil]; omega)))) | (apply Pu.kIdx; (first | exact Pu.idx_st rfl rfl pkA (by omega) | exact Pu.idx_sl rfl rfl pkA (by simp only [List.length_map, List.length_append, List.length_set, List.length_replicate, List.length_cons, List.length_nil]; omega))) | (apply Pu.kBin; (first | (apply Pu.b_sub; exact Pu.sub_i rfl rfl (by omega)))))) ?_ | refine DwF.q rfl rfl (by kernel_rfl) ⟨_, _, rfl, rfl, rfl⟩ (by (first | exact Pu.move rfl | exact Pu.assign rfl | exact Pu.fld rfl | exact Pu.nilCheck rfl | exact Pu.fld0 rfl | (apply Pu.kLoad; (first | exact Pu.load_stfd (o := 0) (w := fo) rfl pkA (by omega) hfo rfl | exact Pu.load_cl rfl pkA rfl | exact Pu.load_sli rfl pkA (by first | omega | (simp only [List.length_set, List.length_append, List.length_replicate, List.length_cons, List.length_nil]; omega)))) | (apply Pu.kIdx; (first | exact Pu.idx_st rfl rfl pkA (by omega) | exact Pu.idx_sl rfl rfl pkA (by simp only [List.length_map, List.length_append, List.length_set, List.length_replicate, List.length_cons, List.length_nil]; omega))) | (apply Pu.kBin; (first | (apply Pu.b_sub; exact Pu.sub_i rfl rfl (by omega)))))) ?_)); ((first | refine DwF.q rfl rfl (by kernel_rfl) trivial (by (first | exact Pu.move rfl | exact Pu.assign rfl | exact Pu.fld rfl | exact Pu.nilCheck rfl | exact Pu.fld0 rfl | (apply Pu.kLoad; (first | exact Pu.load_stfd (o := 0) (w := fo) rfl pkA (by omega) hfo rfl | exact Pu.load_cl rfl pkA rfl | exact Pu.load_sli rfl pkA (by first | omega | (simp only [List.length_set, List.length_append, List.length_replicate, List.length_cons, List.length_nil]; omega)))) | (apply Pu.kIdx; (first | exact Pu.idx_st rfl rfl pkA (by omega) | exact Pu.idx_sl rfl rfl pkA (by simp only [List.length_map, List.length_append, List.length_set, List.length_replicate, List.length_cons, List.length_nil]; omega))) | (apply Pu.kBin; (first | (apply Pu.b_sub; exact Pu.sub_i rfl rfl (by omega)))))) ?_ | refine DwF.q rfl rfl (by kernel_rfl) ⟨_, _, rfl, rfl, rfl⟩ (by (first | exact Pu.move rfl | exact Pu.assign rfl | exact Pu.fld rfl | exact Pu.nilCheck rfl | exact Pu.fld0 rfl | (apply Pu.kLoad; (first | exact Pu.load_stfd (o := 0) (w := fo) rfl pkA (by omega) hfo rfl | exact Pu.load_cl rfl pkA rfl | exact Pu.load_sli rfl pkA (by first | omega | (simp only [List.length_set, List.length_append, List.length_replicate, List.length_cons, List.length_nil]; omega)))) | (apply Pu.kIdx; (first | exact Pu.idx_st rfl rfl pkA (by omega) | exact Pu.idx_sl rfl rfl pkA (by simp only [List.length_map, List.length_append, List.length_set, List.length_replicate, List.length_cons, List.length_nil]; omega))) | (apply Pu.kBin; (first | (apply Pu.b_sub; exact Pu.sub_i rfl rfl (by omega)))))) ?_)); ((first | refine DwF.q rfl rfl (by kernel_rfl) trivial (by (first | exact Pu.move rfl | exact Pu.assign rfl | exact Pu.fld rfl | exact Pu.nilCheck rfl | exact Pu.fld0 rfl | (apply Pu.kLoad; (first | exact Pu.load_stfd (o := 0) (w := fo) rfl pkA (by omega) hfo rfl | exact Pu.load_cl rfl pkA rfl | exact Pu.load_sli rfl pkA (by first | omega | (simp only [List.length_set, List.length_append, List.length_replicate, List.length_cons, List.length_nil]; omega)))) | (apply Pu.kIdx; (first | exact Pu.idx_st rfl rfl pkA (by omega) | exact Pu.idx_sl rfl rfl pkA (by simp only [List.length_map, List.length_append, List.length_set, List.length_replicate, List.length_cons, List.length_nil]; omega))) | (apply Pu.kBin; (first | (apply Pu.b_sub; exact Pu.sub_i rfl rfl (by omega)))))) ?_ | refine DwF.q rfl rfl (by kernel_rfl) ⟨_, _, rfl, rfl, rfl⟩ (by (first | exact Pu.move rfl | exact Pu.assign rfl | exact Pu.fld rfl | exact Pu.nilCheck rfl | exact Pu.fld0 rfl | (apply Pu.kLoad; (first | exact Pu.load_stfd (o := 0) (w := fo) rfl pkA (by omega) hfo rfl | exact Pu.load_cl rfl pkA rfl | exact Pu.load_sli rfl pkA (by first | omega | (simp only [List.length_set, List.length_append, List.length_replicate, List.length_cons, List.length_nil]; omega)))) | (apply Pu.kIdx; (first | exact Pu.idx_st rfl rfl pkA (by omega) | exact Pu.idx_sl rfl rfl pkA (by simp only [List.length_map, List.length_append, List.length_set, List.length_replicate, List.length_cons, List.length_nil]; omega))) | (apply Pu.kBin; (first | (apply Pu.b_sub; exact Pu.sub_i rfl rfl (by omega)))))) ?_)); ((first | refine DwF.q rfl rfl (by kernel_rfl) trivial (by (first | exact Pu.move rfl | exact Pu.assign rfl | exact Pu.fld rfl | exact Pu.nilCheck rfl | exact Pu.fld0 rfl | (apply Pu.kLoad; (first | exact Pu.load_stfd (o := 0) (w := fo) rfl pkA (by omega) hfo rfl | exact Pu.load_cl rfl pkA rfl | exact Pu.load_sli rfl pkA (by first | omega | (simp only [List.length_set, List.length_append, List.length_replicate, List.length_cons, List.length_nil]; omega)))) | (apply Pu.kIdx; (first | exact Pu.idx_st rfl rfl pkA (by omega) | exact Pu.idx_sl rfl rfl pkA (by simp only [List.length_map, List.length_append, List.length_set, List.length_replicate, List.length_cons, List.length_nil]; omega))) | (apply Pu.kBin; (first | (apply Pu.b_sub; exact Pu.sub_i rfl rfl (by omega)))))) ?_ | refine DwF.q rfl rfl (by kernel_rfl) ⟨_, _, rfl, rfl, rfl⟩ (by (first | exact Pu.move rfl | exact Pu.assign rfl | exact Pu.fld rfl | exact Pu.nilCheck rfl | exact Pu.fld0 rfl | (apply Pu.kLoad; (first | exact Pu.load_stfd (o := 0) (w := fo) rfl pkA (by omega) hfo rfl | exact Pu.load_cl rfl pkA rfl | exact Pu.load_sli rfl pkA (by first | omega | (simp only [List.length_set, List.length_append, List.length_replicate, List.length_cons, List.length_nil]; omega)))) | (apply Pu.kIdx; (first | exact Pu.idx_st rfl rfl pkA (by omega) | exact Pu.idx_sl rfl rfl pkA (by simp only [List.length_map, List.length_append, List.length_set, List.length_replicate, List.length_cons, List.length_nil]; omega))) | (apply Pu.kBin; (first | (apply Pu.b_sub; exact Pu.sub_i rfl rfl (by omega)))))) ?_)); refine DwF.c rfl (by first | exact trivial | exact ⟨_, _, rfl, rfl, rfl⟩) rfl ?_; refine Ow.as3 ?_; refine Ow.append_sli (l2 := fo.2.1) rfl rfl rfl pkA (rdSl_sli.of_pk pkA) (by omega) (fun sv3 => ?_); refine Ow.nil ?_; refine loudG.go3 pkA pkA pkA ?_; refine DwF.b rfl (by first | exact trivial | exact ⟨_, _, rfl, rfl, rfl⟩) rfl ?_; refine Ow.as3 ?_; refine Ow.store_cl rfl rfl rfl (by (first | rfl | assumption | exact Subtype.property _)) pkA rfl ?_; refine Ow.nil ?_; refine loudF.go ?_; refine DwF.nil ?_)
        (repeat' (first | (refine Ow.is ?_; (first | refine Ow.pu rfl (Pu.fld rfl) ?_ | refine Ow.pu rfl (Pu.fld0 rfl) ?_ | refine Ow.nil ?_ | refine Ow.pu rfl (Pu.move rfl) ?_ | refine Ow.pu rfl (Pu.fld rfl) ?_ | refine Ow.pu rfl (Pu.nilCheck rfl) ?_ | (refine Ow.kLoad ?_; (first | refine Ow.pu rfl (Pu.load_stfd (o := 0) (w := fo) rfl pkA (by omega) hfo rfl) ?_ | refine Ow.pu rfl (Pu.load_cl rfl pkA rfl) ?_ | refine Ow.pu rfl (Pu.load_sli rfl pkA (by first | omega | (simp only [List.length_set, List.length_append, List.length_replicate, List.length_cons, List.length_nil]; omega))) ?_)) | (refine Ow.kBin ?_; (first | (refine Ow.b_sub ?_; refine Ow.pu rfl (Pu.sub_i rfl rfl (by omega)) ?_))) | (refine Ow.kStore ?_; (first | refine Ow.store_cl rfl rfl rfl (by (first | rfl | assumption | exact Subtype.property _)) pkA rfl ?_)) | (refine Ow.kIdx ?_; (first | refine Ow.pu rfl (Pu.idx_st rfl rfl pkA (by omega)) ?_ | refine Ow.pu rfl (Pu.idx_sl rfl rfl pkA (by simp only [List.length_map, List.length_append, List.length_set, List.length_replicate, List.length_cons, List.length_nil]; omega)) ?_)) | (refine Ow.kBuiltin ?_; (first | refine Ow.append_sli rfl rfl rfl pkA ((rdSl_cli (l2 := [_]) rfl).of_pk pkA) (by first | (simp; done) | (simp; omega)) (fun sv => ?_))))) | (refine Cw.is ?_; (first | refine Cw.seq ?_ | refine Cw.region ?_ | refine Cw.cond_t rfl rfl ?_ | refine Cw.cond_f rfl rfl ?_ | refine Cw.block ?_ | refine Cw.ret ?_ | refine Cw.exit ?_ | refine Cw.skip ?_)) | (first | refine thenQ_n ?_ | refine thenQ_e ?_ | refine blockQ_n ?_ | refine blockQ_e ?_)))
        exact ⟨rfl, ⟨upd V zn true, l' ++ fo.2.1, sv3⟩, ⟨hpw, by simp only; omega⟩, by simp only; rw [h0]; exact hmp, by (repeat first | exact trivial | refine ⟨rfl, ?_⟩), by simp only; ((try simp only [star_assoc]); (repeat (apply Ent.pk; focus ((repeat first | exact pk0 | exact pkl | apply pkn); first | done | fail))); first | exact Ent.fin pkA | exact Ent.refl _)⟩
end Go.Sl
namespace Go.Sl
open Go Go.Proofs
set_option linter.unusedVariables false
set_option linter.unusedSimpArgs false
universe u
theorem obs_nil : obs [] = emp := rfl
section
variable {P : Program} {r : Option Nat} {n : Nat} {Q : PostT} {ρ : Env} {ds : List Deferred} {H R : HP} {t : TypeId} {kk bb : Nat} {zc : List Value} {v : Value} {cs : List Value}
end
attribute [local irreducible] star Ow Cw Pk Pu Dw DwF thenQ blockQ retQ loudQ loudF loudG Cr thr tab obs andI bset lU stAt cn gpW
def gs0 (q : Cfg) : GS SV Nat := ⟨[], List.replicate q.globals.toNat 0, [none, none, none, none]⟩
theorem GNew_fn (q : Cfg) (hq8 : QOk q) : Fn Tryd.prog 9 [q.v] emp Nat (fun g => .pointer (some ⟨g, 0, none⟩)) (fun g => gph g q (gs0 q)) := by
  obtain ⟨gl, hgl⟩ : ∃ n : Nat, q.globals = n := ⟨q.globals.toNat, by have := hq8.gl; omega⟩
  have hnew : Fn Tryd.prog 22 [q.v] emp Nat (fun b => .pointer (some ⟨b, 0, none⟩)) (fun b => tab b q.threads q.regs q.stack (List.replicate q.globals.toNat 0) [none, none, none, none]) := by
    have h := RNew_fn q.threads q.regs q.stack ⟨q.engine, q.black, q.pages, q.fields, q.mark, q.log, q.budget⟩ gl (by have := hq8.gl; omega)
    rw [show q.globals.toNat = gl by omega]
    rw [show q.v = .agg (cfgC q.threads q.regs q.stack gl ⟨q.engine, q.black, q.pages, q.fields, q.mark, q.log, q.budget⟩).toArray by rw [← hgl]]
    exact h
  (refine Fn.of Tryd.func9 rfl (by kernel_rfl) Tryd.ntmps9 rfl (fun F => ?_))
  refine Cw.heq (emp_star F) ?_
  (repeat' (first | (refine Ow.is ?_; (first | refine Ow.nil ?_ | refine Ow.pu rfl (Pu.assign rfl) ?_ | refine Ow.box rfl rfl rfl (fun bx => ?_))) | (refine Cw.is ?_; (first | refine Cw.seq ?_ | refine Cw.region ?_ | refine Cw.ret ?_)) | (first | refine thenQ_n ?_)))
  (refine Cw.draw1 (cl bx q.cs) false 0 [(0, false), (1, false), (2, true), (3, false), (4, true), (5, false)] pkA mixed (by kernel_rfl) ?_; (repeat (first | refine Dw.q rfl rfl trivial (by (first | exact Pu.assign rfl | exact Pu.build (ps := [(0, .tmp 3), (2, .tmp 5)]) (vs := [.agg q.cs.toArray, .pointer (some ⟨rb, 0, none⟩)]) (cs := q.cs ++ (.slice none 0 0 :: .pointer (some ⟨rb, 0, none⟩) :: (wkc wk0 ++ (wkc wk0 ++ (wkc wk0 ++ wkc wk0))))) evA (fun w => by kernel_rfl) | (apply Pu.kLoad; (first | exact Pu.loadN_cl rfl pkA rfl rfl)))) ?_ | refine Dw.q rfl rfl ⟨_, _, rfl, rfl, rfl⟩ (by (first | exact Pu.assign rfl | exact Pu.build (ps := [(0, .tmp 3), (2, .tmp 5)]) (vs := [.agg q.cs.toArray, .pointer (some ⟨rb, 0, none⟩)]) (cs := q.cs ++ (.slice none 0 0 :: .pointer (some ⟨rb, 0, none⟩) :: (wkc wk0 ++ (wkc wk0 ++ (wkc wk0 ++ wkc wk0))))) evA (fun w => by kernel_rfl) | (apply Pu.kLoad; (first | exact Pu.loadN_cl rfl pkA rfl rfl)))) ?_)); refine Dw.l rfl (by first | exact trivial | exact ⟨_, _, rfl, rfl, rfl⟩) ?_; refine Ow.callE0 evA rfl hnew (fun rb => ?_); refine Ow.nil ?_; refine loudQ.go pkA ?_; (repeat (first | refine Dw.q rfl rfl trivial (by (first | exact Pu.assign rfl | exact Pu.build (ps := [(0, .tmp 3), (2, .tmp 5)]) (vs := [.agg q.cs.toArray, .pointer (some ⟨rb, 0, none⟩)]) (cs := q.cs ++ (.slice none 0 0 :: .pointer (some ⟨rb, 0, none⟩) :: (wkc wk0 ++ (wkc wk0 ++ (wkc wk0 ++ wkc wk0))))) evA (fun w => by kernel_rfl) | (apply Pu.kLoad; (first | exact Pu.loadN_cl rfl pkA rfl rfl)))) ?_ | refine Dw.q rfl rfl ⟨_, _, rfl, rfl, rfl⟩ (by (first | exact Pu.assign rfl | exact Pu.build (ps := [(0, .tmp 3), (2, .tmp 5)]) (vs := [.agg q.cs.toArray, .pointer (some ⟨rb, 0, none⟩)]) (cs := q.cs ++ (.slice none 0 0 :: .pointer (some ⟨rb, 0, none⟩) :: (wkc wk0 ++ (wkc wk0 ++ (wkc wk0 ++ wkc wk0))))) evA (fun w => by kernel_rfl) | (apply Pu.kLoad; (first | exact Pu.loadN_cl rfl pkA rfl rfl)))) ?_)); refine Dw.l rfl (by first | exact trivial | exact ⟨_, _, rfl, rfl, rfl⟩) ?_; refine Ow.box rfl rfl rfl (fun g => ?_); refine Ow.nil ?_; refine loudQ.go pkA ?_; (repeat (first | refine Dw.q rfl rfl trivial (by (first | exact Pu.assign rfl | exact Pu.build (ps := [(0, .tmp 3), (2, .tmp 5)]) (vs := [.agg q.cs.toArray, .pointer (some ⟨rb, 0, none⟩)]) (cs := q.cs ++ (.slice none 0 0 :: .pointer (some ⟨rb, 0, none⟩) :: (wkc wk0 ++ (wkc wk0 ++ (wkc wk0 ++ wkc wk0))))) evA (fun w => by kernel_rfl) | (apply Pu.kLoad; (first | exact Pu.loadN_cl rfl pkA rfl rfl)))) ?_ | refine Dw.q rfl rfl ⟨_, _, rfl, rfl, rfl⟩ (by (first | exact Pu.assign rfl | exact Pu.build (ps := [(0, .tmp 3), (2, .tmp 5)]) (vs := [.agg q.cs.toArray, .pointer (some ⟨rb, 0, none⟩)]) (cs := q.cs ++ (.slice none 0 0 :: .pointer (some ⟨rb, 0, none⟩) :: (wkc wk0 ++ (wkc wk0 ++ (wkc wk0 ++ wkc wk0))))) evA (fun w => by kernel_rfl) | (apply Pu.kLoad; (first | exact Pu.loadN_cl rfl pkA rfl rfl)))) ?_)); refine Dw.nil ?_ rfl)
  (repeat' (first | (refine Ow.is ?_; (first | refine Ow.nil ?_ | refine Ow.pu rfl (Pu.assign rfl) ?_ | refine Ow.box rfl rfl rfl (fun bx => ?_))) | (refine Cw.is ?_; (first | refine Cw.seq ?_ | refine Cw.region ?_ | refine Cw.ret ?_)) | (first | refine thenQ_n ?_)))
  refine retQ_v g Tryd.results9 rfl rfl ?_
  refine Ent.trans ?_ (Ent.left (Ent.trans (gpW_mk g q rb ([wk0, wk0, wk0, wk0].flatMap wkc) [] (List.replicate q.globals.toNat 0) [none, none, none, none] ⟨none, 0, 0⟩) (gph_mk g q (gs0 q) (rb := rb) (W := [wk0, wk0, wk0, wk0]) rfl rfl rfl rfl (fun j p hj h => by
    rcases (by omega : j = 0 ∨ j = 1 ∨ j = 2 ∨ j = 3) with rfl | rfl | rfl | rfl <;> cases h))))
  refine Ent.addnil 2 ?_
  rw [obs_nil, emp_star]
  ((try simp only [star_assoc]); (repeat (apply Ent.pk; focus ((repeat first | exact pk0 | exact pkl | apply pkn); first | done | fail))); first | exact Ent.fin pkA | exact Ent.refl _)
theorem Born_fn (g : Nat) (q : Cfg) (s : GS SV Nat) : Fn Tryd.prog 12 [.pointer (some ⟨g, 0, none⟩)] (gph g q s) Unit (fun _ => vi s.O.length) (fun _ => gph g q s) := by
  (refine Fn.of Tryd.func12 rfl (by kernel_rfl) Tryd.ntmps12 rfl (fun F => ?_))
  refine Cw.opn (gph_ex g q s) (fun y => ?_)
  refine Cw.heq (star_assoc _ _ _) ?_
  refine Cw.lift (fun hy => ?_)
  obtain ⟨rb, W⟩ := y
  obtain ⟨hWl, hW⟩ := hy
  dsimp only at hWl hW ⊢
  refine Cw.opn (gpW_ex g q rb _ s.O s.G (s.T.map sltO)) (fun tv => ?_)
  (refine Cw.heq (by simp only [star_assoc, emp_star, star_emp]; exact rfl) ?_)
  (repeat' (first | (refine Ow.is ?_; (first | refine Ow.pu rfl (Pu.fld rfl) ?_ | refine Ow.nil ?_ | refine Ow.pu rfl (Pu.move rfl) ?_ | refine Ow.pu rfl (Pu.assign rfl) ?_ | refine Ow.pu rfl (Pu.fld rfl) ?_ | refine Ow.pu rfl (Pu.nilCheck rfl) ?_ | (refine Ow.kLoad ?_; (first | refine Ow.pu rfl (Pu.load_cl rfl pkA rfl) ?_)) | (refine Ow.kBuiltin ?_; (first | refine Ow.pu rfl (Pu.len_st rfl pkA) ?_)))) | (refine Cw.is ?_; (first | refine Cw.seq ?_ | refine Cw.region ?_ | refine Cw.ret ?_)) | (first | refine thenQ_n ?_)))
  refine retQ_v () Tryd.results12 rfl rfl ?_
  refine Ent.trans ?_ (Ent.left (Ent.trans (gpW_mk g q rb (W.flatMap wkc) s.O s.G (s.T.map sltO) tv) (gph_mk g q s (rb := rb) rfl rfl rfl hWl hW)))
  ((try simp only [star_assoc]); (repeat (apply Ent.pk; focus ((repeat first | exact pk0 | exact pkl | apply pkn); first | done | fail))); first | exact Ent.fin pkA | exact Ent.refl _)
def atI (s : GS SV Nat) (t : Int) : It := match thOf s t with
  | some p => if p.2.w.ph = 0 then it0 else p.2.w.it
  | none => it0
def atN (s : GS SV Nat) (t : Int) : Int := match thOf s t with
  | some p => p.2.w.ph
  | none => 0
end Go.Sl
namespace Go.Sl
open Go Go.Proofs
set_option linter.unusedVariables false
set_option linter.unusedSectionVars false
section
variable {α β : Type} [Inhabited α] [Inhabited β]
theorem okR_mono {n m : Nat} (h : n ≤ m) {z : Int} (hz : okR n z) : okR m z := by unfold okR at *; omega
theorem at_ok {n : Nat} {l : List Int} (h : ∀ z ∈ l, okR n z) {i : Nat} (hi : i < l.length) : okR n l[i]! := by
  rw [getElem!_pos l i hi]; exact h _ (List.getElem_mem _)
structure EfOk (q : Cfg) (n0 gl rl : Nat) (f : Ef α) : Prop where
  n : n0 ≤ f.O.length ∧ f.O.length ≤ n0 + 1
  o : ∀ x ∈ f.O, x.2.1.length ≤ 6 ∧ ∀ z ∈ x.2.1, okR f.O.length z
  g : f.G.length = gl ∧ ∀ z ∈ f.G, okR f.O.length z
  r : f.r.length = rl ∧ ∀ z ∈ f.r, okR f.O.length z
  s : (f.s.length : Int) ≤ q.stack ∧ ∀ z ∈ f.s, okR f.O.length z
theorem actR_ok (b : α) {q : Cfg} {O : List (Obj α)} {G r s : List Int} (x : It) (full : Bool) (hq8 : QOk q) (ho : ∀ x ∈ O, x.2.1.length ≤ 6 ∧ ∀ z ∈ x.2.1, okR O.length z) (hg : ∀ z ∈ G, okR O.length z) (hgl : (G.length : Int) = q.globals) (hr : ∀ z ∈ r, okR O.length z) (hs : (s.length : Int) ≤ q.stack ∧ ∀ z ∈ s, okR O.length z) :
    EfOk q O.length G.length r.length (actR b q O G r s x full) := by
  have base : ∀ e v, EfOk q O.length G.length r.length (⟨O, G, r, s, e, v⟩ : Ef α) := fun e v => ⟨⟨by simp, by simp⟩, ho, ⟨rfl, hg⟩, ⟨rfl, hr⟩, hs⟩
  have breg : ∀ i z e v, okR O.length z → EfOk q O.length G.length r.length (⟨O, G, r.set i z, s, e, v⟩ : Ef α) := fun i z e v hz => ⟨⟨by simp, by simp⟩, ho, ⟨rfl, hg⟩, ⟨by simp, fun y hy => (List.mem_or_eq_of_mem_set hy).elim (hr y) (fun e => e ▸ hz)⟩, hs⟩
  have okreg : ∀ i, okR O.length (regR r i) := regR_ok hr
  have fldok : ∀ o i, okR O.length o → fldE O o i = 0 → okR O.length (fldV O o i) := fun o i hoo he => by
    unfold fldE at he
    split at he
    · cases he
    · split at he
      · rename_i h0 hi
        have h1 : (o - 1).toNat < O.length := by unfold okR at hoo; omega
        unfold fldV
        have h2 := (ho O[(o - 1).toNat]! (by rw [getElem!_pos O _ h1]; exact List.getElem_mem _)).2
        exact at_ok h2 (by omega)
      · cases he
  unfold actR
  split
  · exact base _ _
  rename_i hck
  have hck : checkR q x.c x.x x.y x.z = 0 := by simpa using hck
  obtain ⟨hn, hxx, hgy, hfy, hry, hrz⟩ := check0 hck
  have hf6 := hq8.fd
  split
  · unfold getR
    split
    · rename_i hc
      split
      · exact breg _ _ _ _ (by unfold okR; omega)
      · have hm : O.length ≤ (O ++ [(b, List.replicate x.y.toNat 0, 0)]).length := by simp
        refine ⟨⟨by simp, by simp⟩, fun y hy => ?_, ⟨rfl, fun z hz => okR_mono hm (hg z hz)⟩, ⟨by simp, fun z hz => ?_⟩, ⟨hs.1, fun z hz => okR_mono hm (hs.2 z hz)⟩⟩
        · rcases List.mem_append.1 hy with h | h
          · exact ⟨(ho y h).1, fun z hz => okR_mono hm ((ho y h).2 z hz)⟩
          · have : y = (b, List.replicate x.y.toNat 0, 0) := by simpa using h
            subst this
            have := hfy hc
            refine ⟨by simp; omega, fun z hz => ?_⟩
            have : z = 0 := (List.mem_replicate.1 hz).2
            unfold okR; omega
        · rcases List.mem_or_eq_of_mem_set hz with h | h
          · exact okR_mono hm (hr z h)
          · subst h; unfold okR; simp only [List.length_append, List.length_cons, List.length_nil]; omega
    split
    · split
      · rename_i he
        exact breg _ _ _ _ (fldok _ _ (okreg _) he)
      · exact base _ _
    split
    · split
      · exact base _ _
      · rename_i hne
        have hlen : s.length - 1 < s.length := by have := List.length_pos_iff.2 hne; omega
        refine ⟨⟨by simp, by simp⟩, ho, ⟨rfl, hg⟩, ⟨by simp, fun y hy => (List.mem_or_eq_of_mem_set hy).elim (hr y) (fun e => e ▸ at_ok hs.2 hlen)⟩, ⟨by simp only [List.length_take]; omega, fun z hz => hs.2 z (List.mem_of_mem_take hz)⟩⟩
    · rename_i h1 h2 h3 h4
      refine breg _ _ _ _ (at_ok hg ?_)
      have : x.c = 11 := by unfold tellsC at h1; omega
      have := hgy (.inl this); omega
  · unfold plainR
    simp only
    split
    · split
      · rename_i he
        have hao := okreg x.x
        have h1 : (regR r x.x - 1).toNat < O.length := by
          unfold fldE at he
          split at he
          · cases he
          · unfold okR at hao; omega
        refine ⟨⟨by simp [setF], by simp [setF]⟩, fun y hy => ?_, ⟨rfl, fun z hz => by simpa [setF] using hg z hz⟩, ⟨rfl, fun z hz => by simpa [setF] using hr z hz⟩, ⟨hs.1, fun z hz => by simpa [setF] using hs.2 z hz⟩⟩
        simp only [setF, List.length_set] at hy ⊢
        have hob := ho O[(regR r x.x - 1).toNat]! (by rw [getElem!_pos O _ h1]; exact List.getElem_mem _)
        rcases List.mem_or_eq_of_mem_set hy with h | h
        · exact ho y h
        · subst h
          refine ⟨by simpa using hob.1, fun z hz => ?_⟩
          rcases List.mem_or_eq_of_mem_set hz with h | h
          · exact hob.2 z h
          · rw [h]; exact okreg _
      · exact base _ _
    split
    · split
      · exact base _ _
      · exact base _ _
    split
    · split
      · exact base _ _
      · rename_i h0
        have hao := okreg x.x
        have h1 : (regR r x.x - 1).toNat < O.length := by unfold okR at hao; omega
        refine ⟨⟨by simp [setS], by simp [setS]⟩, fun y hy => ?_, ⟨rfl, fun z hz => by simpa [setS] using hg z hz⟩, ⟨rfl, fun z hz => by simpa [setS] using hr z hz⟩, ⟨hs.1, fun z hz => by simpa [setS] using hs.2 z hz⟩⟩
        simp only [setS, List.length_set] at hy ⊢
        have hob := ho O[(regR r x.x - 1).toNat]! (by rw [getElem!_pos O _ h1]; exact List.getElem_mem _)
        rcases List.mem_or_eq_of_mem_set hy with h | h
        · exact ho y h
        · subst h; exact hob
    split
    · exact breg _ _ _ _ (okreg _)
    split
    · exact breg _ _ _ _ (by unfold okR; omega)
    split
    · exact base _ _
    split
    · exact base _ _
    split
    · split
      · exact base _ _
      · refine ⟨⟨by simp, by simp⟩, ho, ⟨rfl, hg⟩, ⟨rfl, hr⟩, ⟨by simp only [List.length_append, List.length_cons, List.length_nil]; omega, fun z hz => ?_⟩⟩
        rcases List.mem_append.1 hz with h | h
        · exact hs.2 z h
        · have : z = regR r x.x := by simpa using h
          rw [this]; exact okreg _
    · refine ⟨⟨by simp, by simp⟩, ho, ⟨by simp, fun y hy => (List.mem_or_eq_of_mem_set hy).elim (hg y) (fun e => e ▸ okreg _)⟩, ⟨rfl, hr⟩, hs⟩
theorem thOf_s {s : GS α β} {t : Int} {p : β × ThS} (h : thOf s t = some p) : (0 ≤ t ∧ t < 4) ∧ s.T[t.toNat]! = some p := by
  unfold thOf at h
  split at h
  · rename_i h1; exact ⟨h1, h⟩
  · cases h
theorem doG_ok (a : α) (b : β) {q : Cfg} {s : GS α β} (x : It) (full : Bool) (hok : GsOk q s) (hq8 : QOk q) : GsOk q (doG a b q s x full).1 ∧ s.O.length ≤ (doG a b q s x full).1.O.length ∧ (doG a b q s x full).1.O.length ≤ s.O.length + 1 := by
  have hT := hok.tl
  have hset : ∀ (i : Nat) (o : Option (β × ThS)), (∀ c th, o = some (c, th) → i < 4 → ThOk q s.O.length th ∧ (i : Int) < q.threads ∧ (th.w.ph ≠ 0 → th.w.it.t = (i : Int))) → GsOk q { s with T := s.T.set i o } := fun i o ho =>
    ⟨by simpa using hT, hok.gl, hok.g, hok.o, fun j c th hj h => by
      simp only at h
      rw [set_get _ _ _ _ (by omega)] at h
      by_cases e : i = j
      · rw [if_pos e] at h; subst e; exact ho c th h hj
      · rw [if_neg e] at h; exact hok.t j c th hj h⟩
  have same : ∀ e v : Int, GsOk q ((s, e, v) : GS α β × Int × Int).1 ∧ s.O.length ≤ ((s, e, v) : GS α β × Int × Int).1.O.length ∧ ((s, e, v) : GS α β × Int × Int).1.O.length ≤ s.O.length + 1 := fun e v => ⟨hok, by simp, by simp⟩
  unfold doG
  split
  · split
    · rename_i h
      refine ⟨hset _ _ (fun c th he hi => ?_), by simp, by simp⟩
      cases he
      have := hq8.rg
      have := hq8.st
      refine ⟨⟨by simp; omega, by simp; omega, .inl rfl, .inl rfl, fun z hz => ?_, fun z hz => by cases hz⟩, by omega, fun h => (h rfl).elim⟩
      have : z = 0 := (List.mem_replicate.1 hz).2
      unfold okR; omega
    · exact same _ _
  split
  · split
    · exact same _ _
    · rename_i c th hth
      obtain ⟨hx4, hst⟩ := thOf_s hth
      obtain ⟨htk, htt, htx⟩ := hok.t x.t.toNat c th (by omega) hst
      split
      · exact same _ _
      split
      · exact ⟨hset _ _ (fun c th he => by cases he), by simp, by simp⟩
      split
      · split
        · rename_i hc
          refine ⟨hset _ _ (fun c' th' he hi => ?_), by simp, by simp⟩
          cases he
          exact ⟨⟨htk.rl, htk.sl, .inr (.inl rfl), .inr hc, htk.r, htk.s⟩, htt, fun _ => by simp only; omega⟩
        · exact same _ _
      split
      · rename_i hph
        have hef := actR_ok a (q := q) (O := s.O) (G := s.G) (r := th.r) (s := th.s) th.w.it full hq8 hok.o hok.g hok.gl htk.r ⟨htk.sl, htk.s⟩
        simp only
        refine ⟨⟨by simpa using hT, ?_, hef.g.2, hef.o, fun j c' th' hj h => ?_⟩, hef.n.1, hef.n.2⟩
        · have := hef.g.1; have := hok.gl; simp only; omega
        · simp only at h
          rw [set_get _ _ _ _ (by omega)] at h
          by_cases e : x.t.toNat = j
          · rw [if_pos e] at h
            cases h
            have hw := htk.wt
            refine ⟨⟨by have := hef.r.1; have := htk.rl; simp only; omega, hef.s.1, .inr (.inr rfl), hw.elim (fun h => by omega) .inr, hef.r.2, hef.s.2⟩, by omega, fun _ => by have := htx (by omega); simp only; omega⟩
          · rw [if_neg e] at h
            obtain ⟨h1, h2, h3⟩ := hok.t j c' th' hj h
            exact ⟨⟨h1.rl, h1.sl, h1.ph, h1.wt, fun z hz => okR_mono hef.n.1 (h1.r z hz), fun z hz => okR_mono hef.n.1 (h1.s z hz)⟩, h2, h3⟩
      · refine ⟨hset _ _ (fun c' th' he hi => ?_), by simp, by simp⟩
        cases he
        exact ⟨⟨htk.rl, htk.sl, .inl rfl, .inl rfl, htk.r, htk.s⟩, htt, fun h => (h rfl).elim⟩
  · exact same _ _
theorem gs0_ok {q : Cfg} (hq8 : QOk q) : GsOk q (gs0 q) where
  tl := rfl
  gl := by have := hq8.gl; simp [gs0]; omega
  g z hz := by
    have : z = 0 := (List.mem_replicate.1 hz).2
    unfold okR; omega
  o x hx := by cases hx
  t j c th hj h := by rcases (by omega : j = 0 ∨ j = 1 ∨ j = 2 ∨ j = 3) with rfl | rfl | rfl | rfl <;> cases h
end
end Go.Sl
namespace Go.Sl
open Go Go.Proofs
set_option linter.unusedVariables false
set_option linter.unusedSimpArgs false
theorem Count_v (b n : Nat) (S : Nat → Bool) (hn : n ≤ 1000000) (hS : Sup n S) {k : Nat} (hk : cn S n = k) : Fn Tryd.prog 20 [.pointer (some ⟨b, 0, none⟩)] (bset b n S) Unit (fun _ => vi k) (fun _ => bset b n S) := hk ▸ BCount_fn b n S hn hS
def ltS (i : Nat) : Nat → Bool := fun x => decide (x < i)
attribute [local irreducible] star Ow Cw Pk Pu Dw thenQ blockQ retQ loudQ Cr andI orI xorI IntKind.wrap bset stAt ltS cn
end Go.Sl
namespace Go.Sl
open Go
set_option linter.unusedVariables false
def fldV' (P : Program) (s f : Nat) : Option (Nat × Option Bool) :=
  match P.underlying s with
  | some (.struct fs) => (fs[f]?).map fun fd => (fd.offset, (P.underlying fd.type).map aggB)
  | _ => none
class FldV (P : Program) (s f : Nat) (off : outParam Nat) : Prop where
  h : fldV' P s f = some (off, some false)
theorem Pu.fieldv {P : Program} {n : Nat} {ρ : Env} {H : HP} {t : TypeId} {x : Operand} {s f off : Nat} {cs : List Value} {v : Value} [T : FldV P s f off] (hx : ev ρ x = some (.agg cs.toArray)) (hv : cs[off]? = some v) : Pu P n ρ H (.field s x f) t v := by
  have h := T.h
  unfold fldV' at h
  split at h
  · rename_i fs hs
    cases hf : fs[f]? with
    | none => rw [hf] at h; cases h
    | some fd =>
      rw [hf] at h
      simp only [Option.map_some, Option.some.injEq, Prod.mk.injEq] at h
      obtain ⟨h1, h2⟩ := h
      cases hu : P.underlying fd.type with
      | none => rw [hu] at h2; cases h2
      | some td =>
        rw [hu] at h2
        simp only [Option.map_some, Option.some.injEq] at h2
        exact Pu.mk (by simp) (fun a' w hr => by
          have hp := run_part1 (P := P) (xs := cs.toArray) (off := off) (v := v) (w := w) hu h2 (by simpa using hv)
          simp [execOp, ev_eval hr hx, Instr.field, underlying, hs, hf, asAgg, h1, hp])
  · cases h
end Go.Sl
namespace Go.Sl
open Go Go.Proofs
set_option linter.unusedVariables false
set_option linter.unusedSimpArgs false
instance : FldV Tryd.prog 31 0 0 := ⟨by kernel_rfl⟩
instance : FldV Tryd.prog 31 1 1 := ⟨by kernel_rfl⟩
def q0 : Cfg := madeR 0 0 0 0 0 0
theorem Made0_fn : Fn Tryd.prog 8 [l6v 0 0 0 0 0 0] emp Unit (fun _ => q0.v) (fun _ => emp) := Made_fn 0 0 0 0 0 0 (by decide) (by decide) (by decide) (by decide) (by decide) (by decide)
theorem q0_ok : QOk q0 := ⟨by decide +kernel, by decide +kernel, by decide +kernel, by decide +kernel, by decide +kernel⟩
def fs (b : Nat) (O : List (Obj SV)) (z ph : Int) : GS SV Nat := ⟨O, [], [some (b, ⟨[z, 0], [], ⟨it0, ph⟩⟩), none, none, none]⟩
theorem fs_sp (p : SV × Nat) : doG p.1 p.2 q0 (gs0 q0) ⟨2, 0, 0, 0, 0, 0⟩ false = (fs p.2 [] 0 0, 0, 0) := by kernel_rfl
theorem fs_do (p : SV × Nat) (b : Nat) (O : List (Obj SV)) (z : Int) : doG p.1 p.2 q0 (fs b O z 0) it0 false = (fs b O z 1, 0, 0) := by kernel_rfl
theorem fs_go (p : SV × Nat) (b : Nat) (O : List (Obj SV)) (z : Int) : doG p.1 p.2 q0 (fs b O z 1) ⟨1, 0, 0, 0, 0, 0⟩ false = (fs b (O ++ [(p.1, [], 0)]) (O.length + 1 : Nat) 2, 0, ((O.length + 1 : Nat) : Int)) := by kernel_rfl
theorem fs_go2 (p : SV × Nat) (b : Nat) (O : List (Obj SV)) (z : Int) : doG p.1 p.2 q0 (fs b O z 2) ⟨1, 0, 0, 0, 0, 0⟩ false = (fs b O z 0, 0, 0) := by kernel_rfl
theorem Do_w {A : HP} {kb ko kc : Nat} (hK : Kinds A kb ko kc) (g : Nat) {q : Cfg} {s : GS SV Nat} {x : It} {full : Bool} (hok : GsOk q s) (hO : s.O.length ≤ 900000) (hq8 : QOk q) {f : SV × Nat → GS SV Nat} {e v : SV × Nat → Int} (h : ∀ p : SV × Nat, doG p.1 p.2 q s x full = (f p, e p, v p)) :
    Fn Tryd.prog 10 [.pointer (some ⟨g, 0, none⟩), .agg x.cs.toArray, .bool full] (gph g q s * A) (SV × Nat) (fun p => ansV (e p) (v p)) (fun p => gph g q (f p) * A) := by
  have h1 := Do_fn hK g q s x full hok hO hq8
  simp only [h] at h1
  exact h1
theorem ok_w {q : Cfg} {s : GS SV Nat} {x : It} {full : Bool} (hok : GsOk q s) (hq8 : QOk q) {f : SV × Nat → GS SV Nat} {e v : SV × Nat → Int} (h : ∀ p : SV × Nat, doG p.1 p.2 q s x full = (f p, e p, v p)) (p : SV × Nat) : GsOk q (f p) := by
  have h1 := (doG_ok p.1 p.2 x full hok hq8).1
  rw [h] at h1; exact h1
def nn20 (k : Nat) : Int := if k = 0 then 0 else if k = 1 then 1 else 12
theorem rch_fs {b : Nat} {O : List (Obj SV)} (hO : O.length = 2) (he : ∀ o ∈ O, o.2.1 = []) (z : Int) : Rch O (rootsG (fs b O O.length 0)) z ↔ z = 2 := by
  have hfl : ∀ z : Int, flds O z = [] := fun z => by
    unfold flds
    by_cases h : (z - 1).toNat < O.length
    · rw [getElem!_pos O _ h]; exact he _ (List.getElem_mem _)
    · rw [getElem!_neg O _ h]; rfl
  have hR : ∀ z, z ∈ rootsG (fs b O O.length 0) → z = 2 ∨ z = 0 := fun z h => by
    rw [hO] at h
    simpa [rootsG, fs, rtsG] using h
  constructor
  · intro h
    cases h with
    | root h1 h2 => exact (hR z h1).resolve_right h2
    | step _ h1 _ => rw [hfl] at h1; cases h1
  · rintro rfl
    exact .root (by rw [hO]; simp [rootsG, fs, rtsG]) (by decide)
attribute [local irreducible] star Ow Cw Pk Pu Dw DwF thenQ blockQ retQ loudQ loudF loudG Cr thr tab obs andI bset lU stAt cn gpW gph fs gs0 q0 nn20
set_option maxHeartbeats 4000000 in
theorem fit20_fn {A : HP} {kb ko kc : Nat} (hK : Kinds A kb ko kc) : Fn Tryd.prog 7 [] A Unit (fun _ => .bool true) (fun _ => A) := by
  have hok0 := gs0_ok q0_ok
  have hd0 := fun g => Do_w hK g (s := gs0 q0) hok0 (by unfold gs0; decide) q0_ok fs_sp
  (refine Fn.of Tryd.func7 rfl (by kernel_rfl) Tryd.ntmps7 rfl (fun F => ?_))
  (repeat' (first | (refine Ow.is ?_; (first | refine Ow.pu rfl (Pu.fieldv rfl rfl) ?_ | refine Ow.pu rfl (Pu.build (ps := [(0, .const (vi 0))]) (vs := [vi 0]) (cs := it0.cs) evA (fun w => by kernel_rfl)) ?_ | refine Ow.pu rfl (Pu.build (ps := [(0, .const (vi 1))]) (vs := [vi 1]) (cs := (It.mk 1 0 0 0 0 0).cs) evA (fun w => by kernel_rfl)) ?_ | refine Ow.pu rfl (Pu.build (ps := [(0, .const (vi 2))]) (vs := [vi 2]) (cs := (It.mk 2 0 0 0 0 0).cs) evA (fun w => by kernel_rfl)) ?_ | (refine Ow.kBuild ?_; refine Ow.pu rfl (Pu.build (ps := []) (vs := []) (cs := [.int .u8 0, .int .u8 0, .int .u8 0, .int .u8 0, .int .u8 0, .int .u8 0]) trivial (fun w => by kernel_rfl)) ?_) | refine Ow.nil ?_ | refine Ow.pu rfl (Pu.move rfl) ?_ | refine Ow.pu rfl (Pu.assign rfl) ?_ | (refine Ow.kGuard ?_; (first | refine Ow.guard_yes rfl rfl rfl ?_)) | (refine Ow.kBin ?_; (first | (refine Ow.b_eql ?_; (first | refine Ow.pu rfl (Pu.eqNil rfl rfl) ?_)) | (refine Ow.b_neq ?_; (first | refine Ow.pu rfl (Pu.ne_f rfl rfl roA) ?_)))) | (refine Ow.kPick ?_; (first | refine Ow.pu rfl (Pu.pick_t rfl rfl) ?_ | refine Ow.pu rfl (Pu.pick_f rfl rfl) ?_)) | (refine Ow.kCall ?_; (first | refine Ow.callE evA (pk2' pkA pkA) rfl (hd3 _) (fun p => Ow.assoc ?_) | refine Ow.callE evA (pk2' pkA pkA) rfl hd2 (fun p => Ow.assoc ?_) | refine Ow.callE evA (pk2' pkA pkA) rfl hd1 (fun p => Ow.assoc ?_) | refine Ow.callE evA (pk2' pkA pkA) rfl (hd0 _) (fun p => Ow.assoc ?_) | refine Ow.callE0 evA rfl (GNew_fn _ q0_ok) (fun g => ?_) | refine Ow.callE0 evA rfl Made0_fn (fun _ => Ow.unemp ?_) | fail)) | (refine Ow.kBuild ?_; (first | fail)))) | (refine Cw.is ?_; (first | refine Cw.seq ?_ | refine Cw.region ?_ | refine Cw.cond_t rfl rfl ?_ | refine Cw.cond_f rfl rfl ?_ | refine Cw.block ?_ | refine Cw.ret ?_ | refine Cw.exit ?_ | refine Cw.skip ?_)) | (first | refine thenQ_n ?_ | refine thenQ_e ?_ | refine blockQ_n ?_ | refine blockQ_e ?_)))
  obtain ⟨a1, b⟩ := p
  dsimp only
  have hok1 := ok_w hok0 q0_ok fs_sp (a1, b)
  dsimp only at hok1
  refine Cw.loopF [2, 15, 16, 17, 18, 19, 20, 21, 22, 23, 24, 25, 26, 27, 28, 29, 30] (by (repeat first | exact er_nil | apply er_drop rfl | apply er_keep rfl)) (fun O : List (Obj SV) => O.length ≤ 2 ∧ (∀ o ∈ O, o.2.1 = []) ∧ GsOk q0 (fs b O O.length 0)) (fun O => [(15, vi O.length), (2, vi (nn20 O.length))]) (fun O => gph g q0 (fs b O O.length 0) * (A * F)) (fun O => 2 - O.length) [] ⟨by simp, by simp, hok1⟩ (by unfold nn20; (repeat first | exact trivial | refine ⟨rfl, ?_⟩)) (by ((try simp only [star_assoc]); (repeat (apply Ent.pk; focus ((repeat first | exact pk0 | exact pkl | apply pkn); first | done | fail))); first | exact Ent.fin pkA | exact Ent.refl _)) (fun O hO => ?_)
  obtain ⟨hO2, hOe, hOk⟩ := hO
  by_cases hk : O.length < 2
  · have hd1 := Do_w hK g (s := fs b O O.length 0) hOk (by unfold fs; simp only; omega) q0_ok (fun p => fs_do p b O O.length)
    have hok2 := ok_w hOk q0_ok (fun p => fs_do p b O O.length) (default, 0)
    have hd2 := Do_w hK g (s := fs b O O.length 1) hok2 (by unfold fs; simp only; omega) q0_ok (fun p => fs_go p b O O.length)
    have hok3 := ok_w hok2 q0_ok (fun p => fs_go p b O O.length)
    have hd3 := fun p : SV × Nat => Do_w hK g (s := fs b (O ++ [(p.1, [], 0)]) (O.length + 1 : Nat) 2) (hok3 p) (by unfold fs; simp; omega) q0_ok (fun p' => fs_go2 p' b (O ++ [(p.1, [], 0)]) (O.length + 1 : Nat))
    have hnn : nn20 O.length = O.length := by unfold nn20; rcases (by omega : O.length = 0 ∨ O.length = 1) with h | h <;> rw [h] <;> rfl
    (repeat' (first | (refine Ow.is ?_; (first | refine Ow.pu rfl (Pu.fieldv rfl rfl) ?_ | refine Ow.pu rfl (Pu.build (ps := [(0, .const (vi 0))]) (vs := [vi 0]) (cs := it0.cs) evA (fun w => by kernel_rfl)) ?_ | refine Ow.pu rfl (Pu.build (ps := [(0, .const (vi 1))]) (vs := [vi 1]) (cs := (It.mk 1 0 0 0 0 0).cs) evA (fun w => by kernel_rfl)) ?_ | refine Ow.pu rfl (Pu.build (ps := [(0, .const (vi 2))]) (vs := [vi 2]) (cs := (It.mk 2 0 0 0 0 0).cs) evA (fun w => by kernel_rfl)) ?_ | (refine Ow.kBuild ?_; refine Ow.pu rfl (Pu.build (ps := []) (vs := []) (cs := [.int .u8 0, .int .u8 0, .int .u8 0, .int .u8 0, .int .u8 0, .int .u8 0]) trivial (fun w => by kernel_rfl)) ?_) | refine Ow.nil ?_ | refine Ow.pu rfl (Pu.move rfl) ?_ | refine Ow.pu rfl (Pu.assign rfl) ?_ | (refine Ow.kBin ?_; (first | (refine Ow.b_lss ?_; first | refine Ow.pu rfl (Pu.lt_t rfl rfl (by omega)) ?_ | refine Ow.pu rfl (Pu.lt_f rfl rfl (by omega)) ?_ | refine Ow.sp rfl (by exact Pu.lt rfl rfl) (fun hc => ?_) (fun hc => ?_)) | (refine Ow.b_add ?_; refine Ow.pu rfl (Pu.add_i rfl rfl (by omega)) ?_) | (refine Ow.b_mul ?_; refine Ow.pu rfl (Pu.mul_i rfl rfl (by omega)) ?_))) | (refine Ow.kCall ?_; (first | refine Ow.callE evA (pk2' pkA pkA) rfl (hd3 _) (fun p => Ow.assoc ?_) | refine Ow.callE evA (pk2' pkA pkA) rfl hd2 (fun p => Ow.assoc ?_) | refine Ow.callE evA (pk2' pkA pkA) rfl hd1 (fun p => Ow.assoc ?_) | refine Ow.callE evA (pk2' pkA pkA) rfl (hd0 _) (fun p => Ow.assoc ?_) | fail)) | (refine Ow.kBuild ?_; (first | fail)))) | (refine Cw.is ?_; (first | refine Cw.seq ?_ | refine Cw.region ?_ | refine Cw.cond_t rfl rfl ?_ | refine Cw.cond_f rfl rfl ?_ | refine Cw.block ?_ | refine Cw.ret ?_ | refine Cw.exit ?_ | refine Cw.skip ?_)) | (first | refine thenQ_n ?_ | refine thenQ_e ?_ | refine blockQ_n ?_ | refine blockQ_e ?_)))
    rename_i p1 p3 p2
    have hok4 := ok_w (hok3 p2) q0_ok (fun p' => fs_go2 p' b (O ++ [(p2.1, [], 0)]) (O.length + 1 : Nat)) (default, 0)
    have hlen : (O ++ [(p2.1, ([] : List Int), (0 : Int))]).length = O.length + 1 := by simp
    refine ⟨rfl, O ++ [(p2.1, [], 0)], ⟨by omega, fun o ho => ?_, by rw [hlen]; exact hok4⟩, by omega, ?_, by rw [hlen]; ((try simp only [star_assoc]); (repeat (apply Ent.pk; focus ((repeat first | exact pk0 | exact pkl | apply pkn); first | done | fail))); first | exact Ent.fin pkA | exact Ent.refl _)⟩
    · rcases List.mem_append.1 ho with h | h
      · exact hOe o h
      · have : o = (p2.1, [], 0) := by simpa using h
        rw [this]
    · refine ⟨congrArg (fun z : Int => some (vi z)) (by rw [hlen]; rfl), congrArg (fun z : Int => some (vi z)) (by rw [hlen, hnn]; unfold nn20; rcases (by omega : O.length = 0 ∨ O.length = 1) with h | h <;> rw [h] <;> rfl), ?_⟩
      (repeat first | exact trivial | refine ⟨rfl, ?_⟩)
  · have hk2 : O.length = 2 := by omega
    have hnn : nn20 O.length = 12 := by rw [hk2]; unfold nn20; rfl
    have hre := Reach_fn g q0 (fs b O O.length 0) hOk q0_ok (by unfold fs; simp only; omega)
    have hrc := rch_fs (b := b) hk2 hOe
    have hrb : rchB O (rootsG (fs b O O.length 0)) = fun z => decide (z = 2) := by
      funext z
      rw [Bool.eq_iff_iff, rchB_t, hrc, decide_eq_true_iff]; omega
    have hsup := rchB_sup (hOk.oko)
    have hO2' : (fs b O O.length 0).O = O := by unfold fs; rfl
    rw [hO2', hrb, hk2] at hre hsup
    have hcn := fun sb => Count_v sb 3 (fun z => decide (z = 2)) (by decide) hsup (k := 1) (by decide +kernel)
    have hbo : ((fs b O 2 0).O.length : Int) = 2 := by unfold fs; simp only; omega
    rw [hk2] at hnn
    rw [hk2]
    (repeat' (first | (refine Ow.is ?_; (first | refine Ow.pu rfl (Pu.fieldv rfl rfl) ?_ | refine Ow.pu rfl (Pu.build (ps := [(0, .const (vi 0))]) (vs := [vi 0]) (cs := it0.cs) evA (fun w => by kernel_rfl)) ?_ | refine Ow.pu rfl (Pu.build (ps := [(0, .const (vi 1))]) (vs := [vi 1]) (cs := (It.mk 1 0 0 0 0 0).cs) evA (fun w => by kernel_rfl)) ?_ | refine Ow.pu rfl (Pu.build (ps := [(0, .const (vi 2))]) (vs := [vi 2]) (cs := (It.mk 2 0 0 0 0 0).cs) evA (fun w => by kernel_rfl)) ?_ | refine Ow.nil ?_ | (refine Ow.kBin ?_; (first | (refine Ow.b_lss ?_; first | refine Ow.pu rfl (Pu.lt_t rfl rfl (by omega)) ?_ | refine Ow.pu rfl (Pu.lt_f rfl rfl (by omega)) ?_ | refine Ow.sp rfl (by exact Pu.lt rfl rfl) (fun hc => ?_) (fun hc => ?_)))))) | (refine Cw.is ?_; (first | refine Cw.seq ?_ | refine Cw.region ?_ | refine Cw.cond_t rfl rfl ?_ | refine Cw.cond_f rfl rfl ?_ | refine Cw.block ?_ | refine Cw.ret ?_ | refine Cw.exit ?_ | refine Cw.skip ?_)) | (first | refine thenQ_n ?_ | refine thenQ_e ?_ | refine blockQ_n ?_ | refine blockQ_e ?_)))
    (repeat' (first | (refine Ow.is ?_; (first | refine Ow.pu rfl (Pu.fieldv rfl rfl) ?_ | refine Ow.pu rfl (Pu.build (ps := [(0, .const (vi 0))]) (vs := [vi 0]) (cs := it0.cs) evA (fun w => by kernel_rfl)) ?_ | refine Ow.pu rfl (Pu.build (ps := [(0, .const (vi 1))]) (vs := [vi 1]) (cs := (It.mk 1 0 0 0 0 0).cs) evA (fun w => by kernel_rfl)) ?_ | refine Ow.pu rfl (Pu.build (ps := [(0, .const (vi 2))]) (vs := [vi 2]) (cs := (It.mk 2 0 0 0 0 0).cs) evA (fun w => by kernel_rfl)) ?_ | refine Ow.nil ?_ | refine Ow.pu rfl (Pu.move rfl) ?_ | refine Ow.pu rfl (Pu.assign rfl) ?_ | (refine Ow.kGuard ?_; (first | refine Ow.guard_yes rfl rfl rfl ?_)) | (refine Ow.kBin ?_; (first | (refine Ow.b_eql ?_; (first | refine Ow.pu rfl (Pu.eq_t rfl rfl roA) ?_)) | (refine Ow.b_neq ?_; (first | refine Ow.pu rfl (Pu.neNil rfl rfl) ?_)))) | (refine Ow.kPick ?_; (first | refine Ow.pu rfl (Pu.pick_t rfl rfl) ?_ | refine Ow.pu rfl (Pu.pick_f rfl rfl) ?_)) | (refine Ow.kCall ?_; (first | refine Ow.callE evA pkA rfl (hcn _) (fun _ => ?_) | refine Ow.callE evA pkA rfl hre (fun sb => Ow.assoc ?_) | refine Ow.callE evA pkA rfl (Born_fn _ _ _) (fun _ => ?_) | fail)))) | (refine Cw.is ?_; (first | refine Cw.seq ?_ | refine Cw.region ?_ | refine Cw.cond_t rfl rfl ?_ | refine Cw.cond_f rfl rfl ?_ | refine Cw.block ?_ | refine Cw.ret ?_ | refine Cw.exit ?_ | refine Cw.skip ?_)) | (first | refine thenQ_n ?_ | refine thenQ_e ?_ | refine blockQ_n ?_ | refine blockQ_e ?_)))
    refine retQ_v () Tryd.results7 rfl rfl ?_
    ((try simp only [star_assoc]); (repeat (apply Ent.pk; focus ((repeat first | exact pk0 | exact pkl | apply pkn); first | done | fail))); first | exact Ent.fin pkA | exact Ent.refl _)
end Go.Sl
namespace Go.Sl
open Go Go.Proofs
set_option linter.unusedVariables false
set_option linter.unusedSimpArgs false
def gf (c : Nat) (O : List (Obj SV)) (G r st : List Int) (w : Wk) : GS SV Nat := ⟨O, G, [some (c, ⟨r, st, w⟩), none, none, none]⟩
theorem gf_do (p : SV × Nat) (q : Cfg) (c : Nat) (O : List (Obj SV)) (G r st : List Int) (i : It) (code xa xb xc : Int) (hc : 0 ≤ code ∧ code < 13) :
    doG p.1 p.2 q (gf c O G r st ⟨i, 0⟩) ⟨0, 0, code, xa, xb, xc⟩ false = (gf c O G r st ⟨⟨0, 0, code, xa, xb, xc⟩, 1⟩, 0, 0) := by
  have h : doG p.1 p.2 q (gf c O G r st ⟨i, 0⟩) ⟨0, 0, code, xa, xb, xc⟩ false = if 0 ≤ code ∧ code < 13 then (gf c O G r st ⟨⟨0, 0, code, xa, xb, xc⟩, 1⟩, 0, 0) else (gf c O G r st ⟨i, 0⟩, 1, 0) := by kernel_rfl
  rw [h, if_pos hc]
theorem gf_go (p : SV × Nat) (q : Cfg) (c : Nat) (O : List (Obj SV)) (G r st : List Int) (i : It) :
    doG p.1 p.2 q (gf c O G r st ⟨i, 1⟩) ⟨1, 0, 0, 0, 0, 0⟩ false = (gf c (actR p.1 q O G r st i false).O (actR p.1 q O G r st i false).G (actR p.1 q O G r st i false).r (actR p.1 q O G r st i false).s ⟨i, 2⟩, (actR p.1 q O G r st i false).e, (actR p.1 q O G r st i false).v) := by kernel_rfl
theorem gf_go2 (p : SV × Nat) (q : Cfg) (c : Nat) (O : List (Obj SV)) (G r st : List Int) (i : It) :
    doG p.1 p.2 q (gf c O G r st ⟨i, 2⟩) ⟨1, 0, 0, 0, 0, 0⟩ false = (gf c O G r st ⟨i, 0⟩, 0, 0) := by kernel_rfl
attribute [local irreducible] star Ow Cw Pk Pu Dw DwF thenQ blockQ retQ loudQ loudF loudG Cr thr tab obs andI bset lU stAt cn gpW gph gf actR
theorem op_ok {q : Cfg} {c : Nat} {O : List (Obj SV)} {G r st : List Int} {i : It} {code xa xb xc : Int} (hq8 : QOk q) (hok : GsOk q (gf c O G r st ⟨i, 0⟩)) (hc : 0 ≤ code ∧ code < 13) {f : SV → Ef SV} (hf : ∀ x, actR x q O G r st ⟨0, 0, code, xa, xb, xc⟩ false = f x) (x : SV) :
    GsOk q (gf c (f x).O (f x).G (f x).r (f x).s ⟨⟨0, 0, code, xa, xb, xc⟩, 0⟩) := by
  have h1 := ok_w hok hq8 (fun p => gf_do p q c O G r st i code xa xb xc hc) (default, 0)
  have h2 := ok_w h1 hq8 (fun p => gf_go p q c O G r st ⟨0, 0, code, xa, xb, xc⟩) (x, 0)
  simp only [hf] at h2
  exact ok_w h2 hq8 (fun p => gf_go2 p q c _ _ _ _ ⟨0, 0, code, xa, xb, xc⟩) (default, 0)
theorem op_fn {A : HP} {kb ko kc : Nat} (hK : Kinds A kb ko kc) (g b8 : Nat) {q : Cfg} {c : Nat} {O : List (Obj SV)} {G r st : List Int} {i : It} {code xa xb xc : Int} (hq8 : QOk q) (hok : GsOk q (gf c O G r st ⟨i, 0⟩)) (hO : O.length ≤ 100) (hc : 0 ≤ code ∧ code < 13) {f : SV → Ef SV} (hf : ∀ x, actR x q O G r st ⟨0, 0, code, xa, xb, xc⟩ false = f x) :
    Fn Tryd.prog 11 [vi code, vi xa, vi xb, vi xc, .pointer (some ⟨b8, 0, none⟩)] (cl b8 [.pointer (some ⟨g, 0, none⟩)] * (gph g q (gf c O G r st ⟨i, 0⟩) * A)) SV (fun x => ansV (f x).e (f x).v) (fun x => cl b8 [.pointer (some ⟨g, 0, none⟩)] * (gph g q (gf c (f x).O (f x).G (f x).r (f x).s ⟨⟨0, 0, code, xa, xb, xc⟩, 0⟩) * A)) := by
  have hlen : ∀ w, (gf c O G r st w).O.length ≤ 100 := fun w => by unfold gf; exact hO
  have hd1 := Do_w hK g hok (by have := hlen ⟨i, 0⟩; omega) hq8 (fun p => gf_do p q c O G r st i code xa xb xc hc)
  have h1 := ok_w hok hq8 (fun p => gf_do p q c O G r st i code xa xb xc hc) (default, 0)
  have hd2 := Do_w hK g h1 (by have := hlen ⟨⟨0, 0, code, xa, xb, xc⟩, 1⟩; omega) hq8 (fun p => gf_go p q c O G r st ⟨0, 0, code, xa, xb, xc⟩)
  have h2 := ok_w h1 hq8 (fun p => gf_go p q c O G r st ⟨0, 0, code, xa, xb, xc⟩)
  have hl2 : ∀ p : SV × Nat, (gf c (actR p.1 q O G r st ⟨0, 0, code, xa, xb, xc⟩ false).O (actR p.1 q O G r st ⟨0, 0, code, xa, xb, xc⟩ false).G (actR p.1 q O G r st ⟨0, 0, code, xa, xb, xc⟩ false).r (actR p.1 q O G r st ⟨0, 0, code, xa, xb, xc⟩ false).s ⟨⟨0, 0, code, xa, xb, xc⟩, 2⟩).O.length ≤ 900000 := fun p => by
    have h3 := (doG_ok p.1 p.2 (q := q) (s := gf c O G r st ⟨⟨0, 0, code, xa, xb, xc⟩, 1⟩) ⟨1, 0, 0, 0, 0, 0⟩ false h1 hq8).2.2
    rw [gf_go] at h3
    dsimp only at h3
    have := hlen ⟨⟨0, 0, code, xa, xb, xc⟩, 1⟩
    omega
  have hd3 := fun p => Do_w hK g (h2 p) (hl2 p) hq8 (fun p' => gf_go2 p' q c _ _ _ _ ⟨0, 0, code, xa, xb, xc⟩)
  simp only [hf] at hd2 hd3
  (refine Fn.of Tryd.func11 rfl (by kernel_rfl) Tryd.ntmps11 rfl (fun F => ?_))
  (refine Cw.heq (by simp only [star_assoc, emp_star, star_emp]; exact rfl) ?_)
  (repeat' (first | (refine Ow.is ?_; (first | refine Ow.pu rfl (Pu.build (ps := [(0, .const (vi 1))]) (vs := [vi 1]) (cs := (It.mk 1 0 0 0 0 0).cs) evA (fun w => by kernel_rfl)) ?_ | refine Ow.pu rfl (Pu.build (ps := [(0, .const (vi 0)), (2, .tmp 12), (3, .tmp 13), (4, .tmp 14), (5, .tmp 15)]) (vs := [vi 0, vi code, vi xa, vi xb, vi xc]) (cs := (It.mk 0 0 code xa xb xc).cs) evA (fun w => by kernel_rfl)) ?_ | refine Ow.nil ?_ | refine Ow.pu rfl (Pu.move rfl) ?_ | (refine Ow.kLoad ?_; (first | refine Ow.pu rfl (Pu.load_cl rfl pkA rfl) ?_ | refine Ow.pu rfl (Pu.loadN_cl rfl pkA rfl rfl) ?_)) | (refine Ow.kStore ?_; (first | refine Ow.storeN rfl rfl rfl rfl rfl pkA rfl ?_)) | (refine Ow.kCall ?_; (first | refine Ow.callE evA (pk2' pkA pkA) rfl (hd3 _) (fun p3 => Ow.assoc ?_) | refine Ow.callE evA (pk2' pkA pkA) rfl hd2 (fun p2 => Ow.assoc ?_) | refine Ow.callE evA (pk2' pkA pkA) rfl hd1 (fun p1 => Ow.assoc ?_) | fail)) | refine Ow.alloc rfl (fun bx => ?_))) | (refine Cw.is ?_; (first | refine Cw.seq ?_ | refine Cw.region ?_ | refine Cw.ret ?_)) | (first | refine thenQ_n ?_)))
  refine retQ_cN p2.1 Tryd.results11 rfl pkA rfl rfl rfl ?_
  ((try simp only [star_assoc]); (repeat (apply Ent.pk; focus ((repeat first | exact pk0 | exact pkl | apply pkn); first | done | fail))); first | exact Ent.fin pkA | exact Ent.refl _)
end Go.Sl
namespace Go.Sl
open Go Go.Proofs
set_option linter.unusedVariables false
set_option linter.unusedSimpArgs false
theorem made_ok (l0 l1 l2 l3 l4 l5 : Int) (h2 : 0 ≤ l2 ∧ l2 ≤ 255) : QOk (madeR l0 l1 l2 l3 l4 l5) := by
  have a1 : 0 ≤ andI .u8 l2 3 ∧ andI .u8 l2 3 ≤ 3 := and_u8 l2 3 (by decide)
  have a2 : 0 ≤ andI .u8 (l2 / 4) 3 ∧ andI .u8 (l2 / 4) 3 ≤ 3 := and_u8 (l2 / 4) 3 (by decide)
  have a3 : 0 ≤ andI .u8 (l2 / 16) 3 ∧ andI .u8 (l2 / 16) 3 ≤ 3 := and_u8 (l2 / 16) 3 (by decide)
  have a4 : 0 ≤ andI .u8 l3 3 ∧ andI .u8 l3 3 ≤ 3 := and_u8 l3 3 (by decide)
  unfold madeR
  exact ⟨by simp only; omega, by simp only; omega, by simp only; omega, by simp only; omega, by simp only; omega⟩
theorem made_r2 (l0 l1 l2 l3 l4 l5 : Int) : 2 ≤ (madeR l0 l1 l2 l3 l4 l5).regs := by
  have a2 : 0 ≤ andI .u8 (l2 / 4) 3 ∧ andI .u8 (l2 / 4) 3 ≤ 3 := and_u8 (l2 / 4) 3 (by decide)
  unfold madeR; simp only; omega
theorem gs_sp (p : SV × Nat) (q : Cfg) (hq : 1 ≤ q.threads) : doG p.1 p.2 q (gs0 q) ⟨2, 0, 0, 0, 0, 0⟩ false = (gf p.2 [] (List.replicate q.globals.toNat 0) (List.replicate q.regs.toNat 0) [] wk0, 0, 0) := by
  have h : doG p.1 p.2 q (gs0 q) ⟨2, 0, 0, 0, 0, 0⟩ false = if ((0 : Int) ≤ 0 ∧ (0 : Int) < q.threads) ∧ (thOf (gs0 q) 0).isNone then (gf p.2 [] (List.replicate q.globals.toNat 0) (List.replicate q.regs.toNat 0) [] wk0, 0, 0) else (gs0 q, 2, 0) := by kernel_rfl
  rw [h, if_pos ⟨⟨by omega, by omega⟩, rfl⟩]
theorem fldE1 (ob : Obj SV) (z : Int) : fldE [ob] 1 z = if 0 ≤ z ∧ z < ob.2.1.length then 0 else 6 := by unfold fldE; rw [if_neg (by decide)]; rfl
section
variable {q : Cfg} {G r st : List Int} (hr : (r.length : Int) = q.regs) (h2 : 2 ≤ q.regs)
include h2
theorem ck_load (z : Int) : checkR q 1 1 0 z = 0 := by
  rw [checkR_ok (by decide) ⟨by omega, fun _ => by omega, fun h => by omega⟩]; rfl
theorem ck_store (z : Int) : checkR q 2 0 z 0 = 0 := by
  rw [checkR_ok (by decide) ⟨by omega, fun h => by omega, fun _ => by omega⟩]; rfl
theorem act_load (h1 : regR r 0 = 1) (x : SV) (ob : Obj SV) (z : Int) : actR x q [ob] G r st ⟨0, 0, 1, 1, 0, z⟩ false = if 0 ≤ z ∧ z < ob.2.1.length then ⟨[ob], G, r.set 1 ob.2.1[z.toNat]!, st, 0, ob.2.1[z.toNat]!⟩ else ⟨[ob], G, r, st, 6, 0⟩ := by
  unfold actR
  rw [if_neg (fun h => h (ck_load h2 z)), if_pos (by unfold tellsC; simp)]
  unfold getR
  simp only
  rw [if_neg (by decide), if_pos trivial, h1]
  rw [fldE1]
  by_cases h : 0 ≤ z ∧ z < ob.2.1.length
  · rw [if_pos h, if_pos h, if_pos rfl]; rfl
  · rw [if_neg h, if_neg h, if_neg (by decide)]
theorem act_store (h1 : regR r 0 = 1) (x : SV) (ob : Obj SV) (z : Int) : actR x q [ob] G r st ⟨0, 0, 2, 0, z, 0⟩ false = if 0 ≤ z ∧ z < ob.2.1.length then ⟨[(ob.1, ob.2.1.set z.toNat 1, ob.2.2)], G, r, st, 0, 0⟩ else ⟨[ob], G, r, st, 6, 0⟩ := by
  unfold actR
  rw [if_neg (fun h => h (ck_store h2 z)), if_neg (by unfold tellsC; simp)]
  unfold plainR
  simp only
  rw [if_pos trivial, h1]
  rw [fldE1]
  by_cases h : 0 ≤ z ∧ z < ob.2.1.length
  · rw [if_pos h, if_pos h, if_pos rfl]; rfl
  · rw [if_neg h, if_neg h, if_neg (by decide)]
theorem act_loads (h1 : regR r 0 = 1) (x : SV) (ob : Obj SV) : actR x q [ob] G r st ⟨0, 0, 3, 0, 0, 0⟩ false = ⟨[ob], G, r, st, 0, ob.2.2⟩ := by
  unfold actR
  have hck : checkR q 3 0 0 0 = 0 := by rw [checkR_ok (by decide) ⟨by omega, fun h => by omega, fun h => by omega⟩]; rfl
  rw [if_neg (fun h => h hck), if_neg (by unfold tellsC; simp)]
  unfold plainR
  simp only
  rw [if_neg (by decide), if_pos trivial, h1, if_neg (by decide)]; rfl
theorem act_alloc (x : SV) (n : Int) (hn : 0 ≤ n ∧ n ≤ q.fields) : actR x q ([] : List (Obj SV)) G r st ⟨0, 0, 0, 0, n, 0⟩ false = ⟨[(x, List.replicate n.toNat 0, 0)], G, r.set 0 1, st, 0, 1⟩ := by
  unfold actR
  have hck : checkR q 0 0 n 0 = 0 := by
    rw [checkR_ok (by decide) ⟨by omega, fun h => by omega, fun h => by omega⟩, if_neg (by decide), if_pos rfl, if_neg (by omega), if_neg (by omega)]
  rw [if_neg (fun h => h hck), if_pos (by unfold tellsC; simp)]
  rfl
end
theorem regR0 {r : List Int} (h : 2 ≤ r.length) (z : Int) : regR (r.set 1 z) 0 = regR r 0 := by
  unfold regR
  rw [List.length_set, if_pos (by omega), if_pos (by omega), getElem!_pos (r.set 1 z) _ (by simp; omega), getElem!_pos r _ (by simp; omega)]
  rw [List.getElem_set_ne (by decide)]
def obM (x : SV) (n m : Nat) : Obj SV := (x, List.replicate m 1 ++ List.replicate (n - m) 0, 0)
theorem obM_len (x : SV) {n m : Nat} (h : m ≤ n) : (obM x n m).2.1.length = n := by simp [obM]; omega
theorem obM_0 (x : SV) {n m : Nat} (h : m < n) : (obM x n m).2.1[m]! = 0 := by
  unfold obM
  rw [getElem!_pos _ _ (by simp; omega), List.getElem_append_right (by simp)]
  simp
theorem obM_1 (x : SV) {n m : Nat} (h : m < n) : (obM x n (m + 1)).2.1[m]! = 1 := by
  unfold obM
  rw [getElem!_pos _ _ (by simp; omega), List.getElem_append_left (by simp)]
  simp
theorem obM_s (x : SV) {n m : Nat} (h : m < n) : ((obM x n m).1, (obM x n m).2.1.set m 1, (obM x n m).2.2) = obM x n (m + 1) := by
  unfold obM
  simp only
  rw [List.set_append_right _ _ (by simp), List.length_replicate, Nat.sub_self, show n - m = (n - (m + 1)) + 1 by omega, List.replicate_succ (n := n - (m + 1)), List.set_cons_zero, List.replicate_succ', List.append_assoc]
  rfl
structure GyS where
  m : Nat
  r : List Int
  i : It
attribute [local irreducible] star Ow Cw Pk Pu Dw DwF thenQ blockQ retQ loudQ loudF loudG Cr thr tab obs andI bset lU stAt cn gpW gph gf gs0 actR madeR obM
set_option maxHeartbeats 8000000 in
theorem GraphFresh_fn {A : HP} {kb ko kc : Nat} (hK : Kinds A kb ko kc) (l0 l1 l2 l3 l4 l5 f1 f2 : Int) (h0 : 0 ≤ l0 ∧ l0 ≤ 255) (h1 : 0 ≤ l1 ∧ l1 ≤ 255) (h2 : 0 ≤ l2 ∧ l2 ≤ 255) (h3 : 0 ≤ l3 ∧ l3 ≤ 255) (h4 : 0 ≤ l4 ∧ l4 ≤ 255) (h5 : 0 ≤ l5 ∧ l5 ≤ 255) (hf1 : 0 ≤ f1 ∧ f1 ≤ 255) (hf2 : 0 ≤ f2 ∧ f2 ≤ 255) :
    Fn Tryd.prog 3 [l6v l0 l1 l2 l3 l4 l5, .int .u8 f1, .int .u8 f2] A Unit (fun _ => .bool true) (fun _ => A) := by
  have hq8 := made_ok l0 l1 l2 l3 l4 l5 h2
  have hr2 := made_r2 l0 l1 l2 l3 l4 l5
  have hmf := Made_fn l0 l1 l2 l3 l4 l5 h0 h1 h2 h3 h4 h5
  obtain ⟨q, hq⟩ : ∃ q, madeR l0 l1 l2 l3 l4 l5 = q := ⟨_, rfl⟩
  rw [hq] at hq8 hr2 hmf
  have hth := hq8.th
  have hrg := hq8.rg
  have hfd := hq8.fd
  have hok0 := gs0_ok hq8
  have hds := fun g => Do_w hK g hok0 (by unfold gs0; simp) hq8 (fun p => gs_sp p q (by omega))
  have hok1 := fun b => ok_w hok0 hq8 (fun p => gs_sp p q (by omega)) (default, b)
  obtain ⟨n, hn⟩ : ∃ n : Nat, f1 % (q.fields + 1) = n := ⟨(f1 % (q.fields + 1)).toNat, by have := Int.emod_nonneg f1 (show q.fields + 1 ≠ 0 by omega); omega⟩
  have hnf : (n : Int) ≤ q.fields := by have := Int.emod_lt_of_pos f1 (show 0 < q.fields + 1 by omega); omega
  have hrem : f1 % (q.fields + 1) = (n : Int) := hn
  obtain ⟨G, hG⟩ : ∃ G, List.replicate q.globals.toNat (0 : Int) = G := ⟨_, rfl⟩
  obtain ⟨r0, hr0⟩ : ∃ r0, List.replicate q.regs.toNat (0 : Int) = r0 := ⟨_, rfl⟩
  have hr0l : (r0.length : Int) = q.regs := by rw [← hr0]; simp; omega
  rw [hG, hr0] at hds hok1
  (refine Fn.of Tryd.func3 rfl (by kernel_rfl) Tryd.ntmps3 rfl (fun F => ?_))
  (repeat' (first | (refine Ow.is ?_; (first | refine Ow.pu rfl (Pu.build (ps := [(0, .const (vi 2))]) (vs := [vi 2]) (cs := (It.mk 2 0 0 0 0 0).cs) evA (fun w => by kernel_rfl)) ?_ | (refine Ow.kBuild ?_; refine Ow.pu rfl (Pu.build (ps := []) (vs := []) (cs := [vi 0, vi 0]) trivial (fun w => by kernel_rfl)) ?_) | refine Ow.nil ?_ | refine Ow.pu rfl (Pu.assign rfl) ?_ | (refine Ow.kLoad ?_; (first | refine Ow.pu rfl (Pu.load_cl rfl pkA rfl) ?_ | refine Ow.pu rfl (Pu.loadN_cl rfl pkA rfl rfl) ?_)) | (refine Ow.kUn ?_; (first | refine Ow.pu rfl (Pu.not rfl) ?_)) | (refine Ow.kStore ?_; (first | refine Ow.store_cl rfl rfl rfl (by (first | rfl | assumption | exact Subtype.property _)) pkA rfl ?_ | refine Ow.storeN rfl rfl rfl rfl rfl pkA rfl ?_)) | (refine Ow.kCall ?_; (first | refine Ow.callvE (vs := [_, _, _, _]) rfl evA rfl (pk3 pkA pkA pkA) rfl ho6 (fun _ => Ow.ass3 ?_) | refine Ow.callvE (vs := [_, _, _, _]) rfl evA rfl (pk3 pkA pkA pkA) rfl ho5 (fun _ => Ow.ass3 ?_) | refine Ow.callvE (vs := [_, _, _, _]) rfl evA rfl (pk3 pkA pkA pkA) rfl ho4 (fun _ => Ow.ass3 ?_) | refine Ow.callvE (vs := [_, _, _, _]) rfl evA rfl (pk3 pkA pkA pkA) rfl ho3 (fun _ => Ow.ass3 ?_) | refine Ow.callvE (vs := [_, _, _, _]) rfl evA rfl (pk3 pkA pkA pkA) rfl ho2 (fun _ => Ow.ass3 ?_) | refine Ow.callvE (vs := [_, _, _, _]) rfl evA rfl (pk3 pkA pkA pkA) rfl ho1 (fun _ => Ow.ass3 ?_) | refine Ow.callvE (vs := [_, _, _, _]) rfl evA rfl (pk3 pkA pkA pkA) rfl (hoS _) (fun _ => Ow.ass3 ?_) | refine Ow.callvE (vs := [_, _, _, _]) rfl evA rfl (pk3 pkA pkA pkA) rfl hoA (fun x => Ow.ass3 ?_) | refine Ow.callE evA (pk2' pkA pkA) rfl (hds _) (fun p => Ow.assoc ?_) | refine Ow.callE0 evA rfl (GNew_fn _ hq8) (fun g => ?_) | refine Ow.callE0 evA rfl hmf (fun _ => Ow.unemp ?_) | refine Ow.callE evA pkA rfl (fit20_fn hK) (fun _ => ?_) | fail)) | (refine Ow.kBuild ?_; (first | refine Ow.pu rfl (Pu.bld1 rfl (fun w => by kernel_rfl)) ?_)) | refine Ow.alloc rfl (fun bx => ?_) | refine Ow.box rfl rfl rfl (fun bx => ?_))) | (refine Cw.is ?_; (first | refine Cw.seq ?_ | refine Cw.region ?_ | refine Cw.cond_t rfl rfl ?_ | refine Cw.cond_f rfl rfl ?_ | refine Cw.block ?_ | refine Cw.ret ?_ | refine Cw.exit ?_ | refine Cw.skip ?_)) | (first | refine thenQ_n ?_ | refine thenQ_e ?_ | refine blockQ_n ?_ | refine blockQ_e ?_)))
  obtain ⟨a1, c⟩ := p
  dsimp only
  have hok1 := hok1 c
  (repeat' (first | (refine Ow.is ?_; (first | refine Ow.pu rfl (Pu.build (ps := [(0, .const (vi 2))]) (vs := [vi 2]) (cs := (It.mk 2 0 0 0 0 0).cs) evA (fun w => by kernel_rfl)) ?_ | refine Ow.nil ?_ | refine Ow.pu rfl (Pu.move rfl) ?_ | refine Ow.pu rfl (Pu.assign rfl) ?_ | refine Ow.pu rfl (Pu.fld rfl) ?_ | (refine Ow.kLoad ?_; (first | refine Ow.pu rfl (Pu.load_cl rfl pkA rfl) ?_)) | (refine Ow.kBin ?_; (first | (refine Ow.b_rem ?_; refine Ow.pu rfl (Pu.rem_pe rfl rfl (by omega) hrem) ?_) | (refine Ow.b_add ?_; refine Ow.pu rfl (Pu.add_i rfl rfl (by omega)) ?_))) | (refine Ow.kConv ?_; (first | refine Ow.pu rfl (Pu.conv_i rfl (by omega)) ?_)) | refine Ow.pu rfl (Pu.makeFunc (by (repeat first | exact Evs.nil | apply Evs.cons rfl))) ?_)) | (refine Cw.is ?_; (first | refine Cw.seq ?_ | refine Cw.region ?_ | refine Cw.cond_t rfl rfl ?_ | refine Cw.cond_f rfl rfl ?_ | refine Cw.block ?_ | refine Cw.ret ?_ | refine Cw.exit ?_ | refine Cw.skip ?_)) | (first | refine thenQ_n ?_ | refine thenQ_e ?_ | refine blockQ_n ?_ | refine blockQ_e ?_)))
  obtain ⟨b8, h8⟩ : ∃ q, q = bx := ⟨_, rfl⟩
  subst h8
  have hfA : ∀ x : SV, actR x q [] G r0 [] ⟨0, 0, 0, 0, n, 0⟩ false = ⟨[obM x n 0], G, r0.set 0 1, [], 0, 1⟩ := fun x => by
    rw [act_alloc hr2 x n ⟨by omega, hnf⟩]; unfold obM; simp
  have hoA := op_fn hK g b8 hq8 hok1 (by simp) (by decide) hfA
  have hokA := op_ok hq8 hok1 (by decide) hfA
  have hr1l : ((r0.set 0 1).length : Int) = q.regs := by rw [List.length_set]; exact hr0l
  have hr10 : regR (r0.set 0 1) 0 = 1 := by
    unfold regR
    rw [if_pos (by omega), getElem!_pos (r0.set 0 1) _ (by simp; omega)]; simp
  obtain ⟨r1, hr1⟩ : ∃ r1, r0.set 0 1 = r1 := ⟨_, rfl⟩
  rw [hr1] at hr1l hr10 hoA hokA
  dsimp only at hoA hokA
  have hfS : ∀ x y : SV, actR y q [obM x n 0] G r1 [] ⟨0, 0, 3, 0, 0, 0⟩ false = ⟨[obM x n 0], G, r1, [], 0, 0⟩ := fun x y => by
    rw [act_loads hr2 hr10]; unfold obM; rfl
  have hoS := fun x => op_fn hK g b8 hq8 (hokA x) (by simp) (by decide) (hfS x)
  have hokS := fun x => op_ok hq8 (hokA x) (by decide) (hfS x) default
  dsimp only at hoS hokS
  (repeat' (first | (refine Ow.is ?_; (first | refine Ow.pu rfl (Pu.build (ps := [(0, .const (vi 2))]) (vs := [vi 2]) (cs := (It.mk 2 0 0 0 0 0).cs) evA (fun w => by kernel_rfl)) ?_ | (refine Ow.kBuild ?_; refine Ow.pu rfl (Pu.build (ps := []) (vs := []) (cs := [vi 0, vi 0]) trivial (fun w => by kernel_rfl)) ?_) | refine Ow.nil ?_ | refine Ow.pu rfl (Pu.move rfl) ?_ | refine Ow.pu rfl (Pu.assign rfl) ?_ | (refine Ow.kGuard ?_; (first | refine Ow.guard_yes rfl rfl rfl ?_)) | (refine Ow.kBin ?_; (first | (refine Ow.b_neq ?_; (first | refine Ow.pu rfl (Pu.neSt (r := true) rfl rfl rfl) ?_)))) | (refine Ow.kPick ?_; (first | refine Ow.pu rfl (Pu.pick_t rfl rfl) ?_ | refine Ow.pu rfl (Pu.pick_f rfl rfl) ?_)) | (refine Ow.kCall ?_; (first | refine Ow.callvE (vs := [_, _, _, _]) rfl evA rfl (pk3 pkA pkA pkA) rfl ho6 (fun _ => Ow.ass3 ?_) | refine Ow.callvE (vs := [_, _, _, _]) rfl evA rfl (pk3 pkA pkA pkA) rfl ho5 (fun _ => Ow.ass3 ?_) | refine Ow.callvE (vs := [_, _, _, _]) rfl evA rfl (pk3 pkA pkA pkA) rfl ho4 (fun _ => Ow.ass3 ?_) | refine Ow.callvE (vs := [_, _, _, _]) rfl evA rfl (pk3 pkA pkA pkA) rfl ho3 (fun _ => Ow.ass3 ?_) | refine Ow.callvE (vs := [_, _, _, _]) rfl evA rfl (pk3 pkA pkA pkA) rfl ho2 (fun _ => Ow.ass3 ?_) | refine Ow.callvE (vs := [_, _, _, _]) rfl evA rfl (pk3 pkA pkA pkA) rfl ho1 (fun _ => Ow.ass3 ?_) | refine Ow.callvE (vs := [_, _, _, _]) rfl evA rfl (pk3 pkA pkA pkA) rfl (hoS _) (fun _ => Ow.ass3 ?_) | refine Ow.callvE (vs := [_, _, _, _]) rfl evA rfl (pk3 pkA pkA pkA) rfl hoA (fun x => Ow.ass3 ?_) | fail)) | (refine Ow.kBuild ?_; (first | refine Ow.pu rfl (Pu.bld1 rfl (fun w => by kernel_rfl)) ?_)))) | (refine Cw.is ?_; (first | refine Cw.seq ?_ | refine Cw.region ?_ | refine Cw.cond_t rfl rfl ?_ | refine Cw.cond_f rfl rfl ?_ | refine Cw.block ?_ | refine Cw.ret ?_ | refine Cw.exit ?_ | refine Cw.skip ?_)) | (first | refine thenQ_n ?_ | refine thenQ_e ?_ | refine blockQ_n ?_ | refine blockQ_e ?_)))
  have hok2 := hokS x
  refine Cw.loopF [6, 11, 41, 42, 43, 44, 45, 46, 47, 48, 49, 50, 51, 52, 53, 54, 55, 56, 57, 58, 59, 60, 61, 62, 63] (by (repeat first | exact er_nil | apply er_drop rfl | apply er_keep rfl)) (fun s : GyS => s.m ≤ n ∧ (s.r.length : Int) = q.regs ∧ regR s.r 0 = 1 ∧ GsOk q (gf c [obM x n s.m] G s.r [] ⟨s.i, 0⟩)) (fun s => [(41, vi s.m)])
    (fun s => cl b8 [.pointer (some ⟨g, 0, none⟩)] * (gph g q (gf c [obM x n s.m] G s.r [] ⟨s.i, 0⟩) * (A * F))) (fun s => n - s.m) ⟨0, r1, ⟨0, 0, 3, 0, 0, 0⟩⟩ ⟨by simp, hr1l, hr10, hok2⟩ (by (repeat first | exact trivial | refine ⟨rfl, ?_⟩)) (by ((try simp only [star_assoc]); (repeat (apply Ent.pk; focus ((repeat first | exact pk0 | exact pkl | apply pkn); first | done | fail))); first | exact Ent.fin pkA | exact Ent.refl _)) (fun s hs => ?_)
  obtain ⟨m, r, i⟩ := s
  obtain ⟨hm, hrl, hrr, hokm⟩ := hs
  simp only at hm hrl hrr hokm ⊢
  by_cases hmn : m < n
  · have hf1 : ∀ y : SV, actR y q [obM x n m] G r [] ⟨0, 0, 1, 1, 0, m⟩ false = ⟨[obM x n m], G, r.set 1 0, [], 0, 0⟩ := fun y => by
      rw [act_load hr2 hrr, if_pos (by rw [obM_len x hm]; omega), Int.toNat_natCast, obM_0 x hmn]
    have ho1 := op_fn hK g b8 hq8 hokm (by simp) (by decide) hf1
    have hok3 := op_ok hq8 hokm (by decide) hf1 default
    have hrr1 : regR (r.set 1 0) 0 = 1 := by rw [regR0 (by omega)]; exact hrr
    have hf2 : ∀ y : SV, actR y q [obM x n m] G (r.set 1 0) [] ⟨0, 0, 2, 0, m, 0⟩ false = ⟨[obM x n (m + 1)], G, r.set 1 0, [], 0, 0⟩ := fun y => by
      rw [act_store hr2 hrr1, if_pos (by rw [obM_len x hm]; omega), Int.toNat_natCast, obM_s x hmn]
    have ho2 := op_fn hK g b8 hq8 hok3 (by simp) (by decide) hf2
    have hok4 := op_ok hq8 hok3 (by decide) hf2 default
    have hf3 : ∀ y : SV, actR y q [obM x n (m + 1)] G (r.set 1 0) [] ⟨0, 0, 1, 1, 0, m⟩ false = ⟨[obM x n (m + 1)], G, (r.set 1 0).set 1 1, [], 0, 1⟩ := fun y => by
      rw [act_load hr2 hrr1, if_pos (by rw [obM_len x hmn]; omega), Int.toNat_natCast, obM_1 x hmn]
    have ho3 := op_fn hK g b8 hq8 hok4 (by simp) (by decide) hf3
    have hok5 := op_ok hq8 hok4 (by decide) hf3 default
    dsimp only at ho1 ho2 ho3 hok5
    (repeat' (first | (refine Ow.is ?_; (first | refine Ow.pu rfl (Pu.build (ps := [(0, .const (vi 2))]) (vs := [vi 2]) (cs := (It.mk 2 0 0 0 0 0).cs) evA (fun w => by kernel_rfl)) ?_ | (refine Ow.kBuild ?_; refine Ow.pu rfl (Pu.build (ps := []) (vs := []) (cs := [vi 0, vi 0]) trivial (fun w => by kernel_rfl)) ?_) | refine Ow.nil ?_ | refine Ow.pu rfl (Pu.move rfl) ?_ | refine Ow.pu rfl (Pu.assign rfl) ?_ | (refine Ow.kGuard ?_; (first | refine Ow.guard_yes rfl rfl rfl ?_)) | (refine Ow.kBin ?_; (first | (refine Ow.b_lss ?_; first | refine Ow.pu rfl (Pu.lt_t rfl rfl (by omega)) ?_ | refine Ow.pu rfl (Pu.lt_f rfl rfl (by omega)) ?_ | refine Ow.sp rfl (by exact Pu.lt rfl rfl) (fun hc => ?_) (fun hc => ?_)) | (refine Ow.b_neq ?_; (first | refine Ow.pu rfl (Pu.neSt (r := true) rfl rfl rfl) ?_)) | (refine Ow.b_add ?_; refine Ow.pu rfl (Pu.add_i rfl rfl (by omega)) ?_))) | (refine Ow.kPick ?_; (first | refine Ow.pu rfl (Pu.pick_t rfl rfl) ?_ | refine Ow.pu rfl (Pu.pick_f rfl rfl) ?_)) | (refine Ow.kCall ?_; (first | refine Ow.callvE (vs := [_, _, _, _]) rfl evA rfl (pk3 pkA pkA pkA) rfl ho6 (fun _ => Ow.ass3 ?_) | refine Ow.callvE (vs := [_, _, _, _]) rfl evA rfl (pk3 pkA pkA pkA) rfl ho5 (fun _ => Ow.ass3 ?_) | refine Ow.callvE (vs := [_, _, _, _]) rfl evA rfl (pk3 pkA pkA pkA) rfl ho4 (fun _ => Ow.ass3 ?_) | refine Ow.callvE (vs := [_, _, _, _]) rfl evA rfl (pk3 pkA pkA pkA) rfl ho3 (fun _ => Ow.ass3 ?_) | refine Ow.callvE (vs := [_, _, _, _]) rfl evA rfl (pk3 pkA pkA pkA) rfl ho2 (fun _ => Ow.ass3 ?_) | refine Ow.callvE (vs := [_, _, _, _]) rfl evA rfl (pk3 pkA pkA pkA) rfl ho1 (fun _ => Ow.ass3 ?_) | refine Ow.callvE (vs := [_, _, _, _]) rfl evA rfl (pk3 pkA pkA pkA) rfl (hoS _) (fun _ => Ow.ass3 ?_) | refine Ow.callvE (vs := [_, _, _, _]) rfl evA rfl (pk3 pkA pkA pkA) rfl hoA (fun x => Ow.ass3 ?_) | fail)) | (refine Ow.kBuild ?_; (first | refine Ow.pu rfl (Pu.bld1 rfl (fun w => by kernel_rfl)) ?_)))) | (refine Cw.is ?_; (first | refine Cw.seq ?_ | refine Cw.region ?_ | refine Cw.cond_t rfl rfl ?_ | refine Cw.cond_f rfl rfl ?_ | refine Cw.block ?_ | refine Cw.ret ?_ | refine Cw.exit ?_ | refine Cw.skip ?_)) | (first | refine thenQ_n ?_ | refine thenQ_e ?_ | refine blockQ_n ?_ | refine blockQ_e ?_)))
    exact ⟨rfl, ⟨m + 1, (r.set 1 0).set 1 1, ⟨0, 0, 1, 1, 0, m⟩⟩, ⟨by simp only; omega, by simp only [List.length_set]; exact hrl, by rw [regR0 (by simp; omega)]; exact hrr1, hok5⟩, by simp only; omega, by (repeat first | exact trivial | refine ⟨rfl, ?_⟩), by ((try simp only [star_assoc]); (repeat (apply Ent.pk; focus ((repeat first | exact pk0 | exact pkl | apply pkn); first | done | fail))); first | exact Ent.fin pkA | exact Ent.refl _)⟩
  · have hmm : m = n := by omega
    have hlm := obM_len x hm
    have hf4 : ∀ y : SV, actR y q [obM x n m] G r [] ⟨0, 0, 1, 1, 0, (n : Int) + f2⟩ false = ⟨[obM x n m], G, r, [], 6, 0⟩ := fun y => by
      rw [act_load hr2 hrr, if_neg (by rw [hlm]; omega)]
    have ho4 := op_fn hK g b8 hq8 hokm (by simp) (by decide) hf4
    have hok3 := op_ok hq8 hokm (by decide) hf4 default
    have hf5 : ∀ y : SV, actR y q [obM x n m] G r [] ⟨0, 0, 2, 0, (n : Int) + f2, 0⟩ false = ⟨[obM x n m], G, r, [], 6, 0⟩ := fun y => by
      rw [act_store hr2 hrr, if_neg (by rw [hlm]; omega)]
    have ho5 := op_fn hK g b8 hq8 hok3 (by simp) (by decide) hf5
    have hok4 := op_ok hq8 hok3 (by decide) hf5 default
    have hf6 : ∀ y : SV, actR y q [obM x n m] G r [] ⟨0, 0, 2, 0, -1, 0⟩ false = ⟨[obM x n m], G, r, [], 6, 0⟩ := fun y => by
      rw [act_store hr2 hrr, if_neg (by omega)]
    have ho6 := op_fn hK g b8 hq8 hok4 (by simp) (by decide) hf6
    have hbo : Fn Tryd.prog 12 [.pointer (some ⟨g, 0, none⟩)] (gph g q (gf c [obM x n m] G r [] ⟨⟨0, 0, 2, 0, -1, 0⟩, 0⟩)) Unit (fun _ => vi 1) (fun _ => gph g q (gf c [obM x n m] G r [] ⟨⟨0, 0, 2, 0, -1, 0⟩, 0⟩)) := by
      have h := Born_fn g q (gf c [obM x n m] G r [] ⟨⟨0, 0, 2, 0, -1, 0⟩, 0⟩)
      rw [show (gf c [obM x n m] G r [] ⟨⟨0, 0, 2, 0, -1, 0⟩, 0⟩).O.length = 1 by unfold gf; rfl] at h
      exact h
    dsimp only at ho4 ho5 ho6
    (repeat' (first | (refine Ow.is ?_; (first | refine Ow.pu rfl (Pu.build (ps := [(0, .const (vi 2))]) (vs := [vi 2]) (cs := (It.mk 2 0 0 0 0 0).cs) evA (fun w => by kernel_rfl)) ?_ | refine Ow.nil ?_ | (refine Ow.kBin ?_; (first | (refine Ow.b_lss ?_; first | refine Ow.pu rfl (Pu.lt_t rfl rfl (by omega)) ?_ | refine Ow.pu rfl (Pu.lt_f rfl rfl (by omega)) ?_ | refine Ow.sp rfl (by exact Pu.lt rfl rfl) (fun hc => ?_) (fun hc => ?_)))))) | (refine Cw.is ?_; (first | refine Cw.seq ?_ | refine Cw.region ?_ | refine Cw.cond_t rfl rfl ?_ | refine Cw.cond_f rfl rfl ?_ | refine Cw.block ?_ | refine Cw.ret ?_ | refine Cw.exit ?_ | refine Cw.skip ?_)) | (first | refine thenQ_n ?_ | refine thenQ_e ?_ | refine blockQ_n ?_ | refine blockQ_e ?_)))
    (repeat' (first | (refine Ow.is ?_; (first | refine Ow.pu rfl (Pu.build (ps := [(0, .const (vi 2))]) (vs := [vi 2]) (cs := (It.mk 2 0 0 0 0 0).cs) evA (fun w => by kernel_rfl)) ?_ | (refine Ow.kBuild ?_; refine Ow.pu rfl (Pu.build (ps := []) (vs := []) (cs := [vi 0, vi 0]) trivial (fun w => by kernel_rfl)) ?_) | refine Ow.nil ?_ | refine Ow.pu rfl (Pu.move rfl) ?_ | refine Ow.pu rfl (Pu.assign rfl) ?_ | (refine Ow.kGuard ?_; (first | refine Ow.guard_yes rfl rfl rfl ?_)) | (refine Ow.kLoad ?_; (first | refine Ow.pu rfl (Pu.load_cl rfl pkA rfl) ?_)) | (refine Ow.kBin ?_; (first | (refine Ow.b_eql ?_; (first | refine Ow.pu rfl (Pu.eqSt (r := true) rfl rfl rfl) ?_ | refine Ow.pu rfl (Pu.eq_t rfl rfl roA) ?_)) | (refine Ow.b_add ?_; refine Ow.pu rfl (Pu.add_i rfl rfl (by omega)) ?_))) | (refine Ow.kPick ?_; (first | refine Ow.pu rfl (Pu.pick_t rfl rfl) ?_ | refine Ow.pu rfl (Pu.pick_f rfl rfl) ?_)) | (refine Ow.kCall ?_; (first | refine Ow.callvE (vs := [_, _, _, _]) rfl evA rfl (pk3 pkA pkA pkA) rfl ho6 (fun _ => Ow.ass3 ?_) | refine Ow.callvE (vs := [_, _, _, _]) rfl evA rfl (pk3 pkA pkA pkA) rfl ho5 (fun _ => Ow.ass3 ?_) | refine Ow.callvE (vs := [_, _, _, _]) rfl evA rfl (pk3 pkA pkA pkA) rfl ho4 (fun _ => Ow.ass3 ?_) | refine Ow.callvE (vs := [_, _, _, _]) rfl evA rfl (pk3 pkA pkA pkA) rfl ho3 (fun _ => Ow.ass3 ?_) | refine Ow.callvE (vs := [_, _, _, _]) rfl evA rfl (pk3 pkA pkA pkA) rfl ho2 (fun _ => Ow.ass3 ?_) | refine Ow.callvE (vs := [_, _, _, _]) rfl evA rfl (pk3 pkA pkA pkA) rfl ho1 (fun _ => Ow.ass3 ?_) | refine Ow.callvE (vs := [_, _, _, _]) rfl evA rfl (pk3 pkA pkA pkA) rfl (hoS _) (fun _ => Ow.ass3 ?_) | refine Ow.callvE (vs := [_, _, _, _]) rfl evA rfl (pk3 pkA pkA pkA) rfl hoA (fun x => Ow.ass3 ?_) | refine Ow.callE evA pkA rfl hbo (fun _ => ?_) | fail)) | (refine Ow.kConv ?_; (first | refine Ow.pu rfl (Pu.conv_i rfl (by omega)) ?_)) | (refine Ow.kBuild ?_; (first | refine Ow.pu rfl (Pu.bld1 rfl (fun w => by kernel_rfl)) ?_)))) | (refine Cw.is ?_; (first | refine Cw.seq ?_ | refine Cw.region ?_ | refine Cw.cond_t rfl rfl ?_ | refine Cw.cond_f rfl rfl ?_ | refine Cw.block ?_ | refine Cw.ret ?_ | refine Cw.exit ?_ | refine Cw.skip ?_)) | (first | refine thenQ_n ?_ | refine thenQ_e ?_ | refine blockQ_n ?_ | refine blockQ_e ?_)))
    refine retQ_v () Tryd.results3 rfl rfl ?_
    ((try simp only [star_assoc]); (repeat (apply Ent.pk; focus ((repeat first | exact pk0 | exact pkl | apply pkn); first | done | fail))); first | exact Ent.fin pkA | exact Ent.refl _)
end Go.Sl
namespace Go.Sl
open Go Go.Proofs Go.ChangeShapes Go.WideShapes Go.ChangeAt Go.RowKit
set_option linter.unusedVariables false
theorem own : ownKnob Tryd.prog.godebug = none := by kernel_rfl
theorem laidOut : laidOutB Tryd.prog = true := by kernel_rfl
set_option maxRecDepth 20000 in
theorem l6_trod {H : Type} {enc : TypeId × Value → H} {W : World} {held : Bool} (n : Nat) (cs : List Value) (y : DataW H × List MemPlace) (h : DataW.trod enc Tryd.prog W 0 (fun _ => true) held n 22 cs = some y) : ∃ (a0 : Int) (a1 : Int) (a2 : Int) (a3 : Int) (a4 : Int) (a5 : Int), cs = [.int .u8 a0, .int .u8 a1, .int .u8 a2, .int .u8 a3, .int .u8 a4, .int .u8 a5] ∧ y.1 = .agg [.lit (.int .u8 a0), .lit (.int .u8 a1), .lit (.int .u8 a2), .lit (.int .u8 a3), .lit (.int .u8 a4), .lit (.int .u8 a5)] ∧ (Lit.int .u8 a0).wf = true ∧ (Lit.int .u8 a1).wf = true ∧ (Lit.int .u8 a2).wf = true ∧ (Lit.int .u8 a3).wf = true ∧ (Lit.int .u8 a4).wf = true ∧ (Lit.int .u8 a5).wf = true := by
  obtain ⟨xs, m, _, hy, hl, hlen, hf⟩ := DataW.trod_array Tryd.underlying22 h
  have hc : Tryd.prog.cellsOf 22 = 6 := by kernel_rfl
  have hx : xs.length = 6 := hlen
  have e5 : Tryd.prog.cellsOf 5 = 1 := by kernel_rfl
  rw [hc] at hl
  match cs, hl, xs, hx with
  | [u0, u1, u2, u3, u4, u5], _, [x0, x1, x2, x3, x4, x5], _ =>
    have h0 : DataW.trod enc Tryd.prog W 0 (fun _ => true) held m 5 (List.take (Tryd.prog.cellsOf 5) (List.drop (0 * Tryd.prog.cellsOf 5) [u0, u1, u2, u3, u4, u5])) = some x0 := hf 0 (by omega)
    have h1 : DataW.trod enc Tryd.prog W 0 (fun _ => true) held m 5 (List.take (Tryd.prog.cellsOf 5) (List.drop (1 * Tryd.prog.cellsOf 5) [u0, u1, u2, u3, u4, u5])) = some x1 := hf 1 (by omega)
    have h2 : DataW.trod enc Tryd.prog W 0 (fun _ => true) held m 5 (List.take (Tryd.prog.cellsOf 5) (List.drop (2 * Tryd.prog.cellsOf 5) [u0, u1, u2, u3, u4, u5])) = some x2 := hf 2 (by omega)
    have h3 : DataW.trod enc Tryd.prog W 0 (fun _ => true) held m 5 (List.take (Tryd.prog.cellsOf 5) (List.drop (3 * Tryd.prog.cellsOf 5) [u0, u1, u2, u3, u4, u5])) = some x3 := hf 3 (by omega)
    have h4 : DataW.trod enc Tryd.prog W 0 (fun _ => true) held m 5 (List.take (Tryd.prog.cellsOf 5) (List.drop (4 * Tryd.prog.cellsOf 5) [u0, u1, u2, u3, u4, u5])) = some x4 := hf 4 (by omega)
    have h5 : DataW.trod enc Tryd.prog W 0 (fun _ => true) held m 5 (List.take (Tryd.prog.cellsOf 5) (List.drop (5 * Tryd.prog.cellsOf 5) [u0, u1, u2, u3, u4, u5])) = some x5 := hf 5 (by omega)
    rw [e5] at h0
    rw [e5] at h1
    rw [e5] at h2
    rw [e5] at h3
    rw [e5] at h4
    rw [e5] at h5
    obtain ⟨a0, c0, d0, w0⟩ := DataW.trod_int Tryd.underlying5 h0
    obtain ⟨a1, c1, d1, w1⟩ := DataW.trod_int Tryd.underlying5 h1
    obtain ⟨a2, c2, d2, w2⟩ := DataW.trod_int Tryd.underlying5 h2
    obtain ⟨a3, c3, d3, w3⟩ := DataW.trod_int Tryd.underlying5 h3
    obtain ⟨a4, c4, d4, w4⟩ := DataW.trod_int Tryd.underlying5 h4
    obtain ⟨a5, c5, d5, w5⟩ := DataW.trod_int Tryd.underlying5 h5
    simp at c0 c1 c2 c3 c4 c5
    refine ⟨a0, a1, a2, a3, a4, a5, by rw [c0, c1, c2, c3, c4, c5], ?_, w0, w1, w2, w3, w4, w5⟩
    rw [hy, d0, d1, d2, d3, d4, d5]; rfl
set_option maxRecDepth 20000 in
theorem kind_trod {H : Type} {enc : TypeId × Value → H} {W : World} {held : Bool} (n : Nat) (cs : List Value) (y : DataW H × List MemPlace) (h : DataW.trod enc Tryd.prog W 0 (fun _ => true) held n 157 cs = some y) : ∃ (a0 : ByteArray) (a1 : Bool) (a2 : Bool) (a3 : Bool), cs = [.string a0, .bool a1, .bool a2, .bool a3] ∧ y.1 = .agg [.lit (.string a0.data.toList), .lit (.bool a1), .lit (.bool a2), .lit (.bool a3)] ∧ a0.size ≤ maxLen ∧ True ∧ True ∧ True := by
  obtain ⟨xs, m, _, hy, hl, hlen, hf⟩ := DataW.trod_struct Tryd.underlying157 h
  have hc : Tryd.prog.cellsOf 157 = 4 := by kernel_rfl
  have hx : xs.length = 4 := hlen
  have e4 : Tryd.prog.cellsOf 4 = 1 := by kernel_rfl
  have e9 : Tryd.prog.cellsOf 9 = 1 := by kernel_rfl
  rw [hc] at hl
  match cs, hl, xs, hx with
  | [u0, u1, u2, u3], _, [x0, x1, x2, x3], _ =>
    have h0 : DataW.trod enc Tryd.prog W 0 (fun _ => true) held m 9 (List.take (Tryd.prog.cellsOf 9) (List.drop (0) [u0, u1, u2, u3])) = some x0 := hf 0 _ rfl
    have h1 : DataW.trod enc Tryd.prog W 0 (fun _ => true) held m 4 (List.take (Tryd.prog.cellsOf 4) (List.drop (1) [u0, u1, u2, u3])) = some x1 := hf 1 _ rfl
    have h2 : DataW.trod enc Tryd.prog W 0 (fun _ => true) held m 4 (List.take (Tryd.prog.cellsOf 4) (List.drop (2) [u0, u1, u2, u3])) = some x2 := hf 2 _ rfl
    have h3 : DataW.trod enc Tryd.prog W 0 (fun _ => true) held m 4 (List.take (Tryd.prog.cellsOf 4) (List.drop (3) [u0, u1, u2, u3])) = some x3 := hf 3 _ rfl
    rw [e9] at h0
    rw [e4] at h1
    rw [e4] at h2
    rw [e4] at h3
    obtain ⟨a0, c0, d0, w0⟩ := DataW.trod_string Tryd.underlying9 h0
    obtain ⟨a1, c1, d1⟩ := DataW.trod_bool Tryd.underlying4 h1
    obtain ⟨a2, c2, d2⟩ := DataW.trod_bool Tryd.underlying4 h2
    obtain ⟨a3, c3, d3⟩ := DataW.trod_bool Tryd.underlying4 h3
    simp at c0 c1 c2 c3
    refine ⟨a0, a1, a2, a3, by rw [c0, c1, c2, c3], ?_, w0, trivial, trivial, trivial⟩
    rw [hy, d0, d1, d2, d3]; rfl
set_option maxRecDepth 20000 in
theorem kinds_of {W : World} (h : laidMetH Tryd.prog Go.Proofs.YteomgcebbjoklaaDoor.Rows.graphFreshRow.laid W) : ∃ b o c, Kinds (all W) b o c := by
  obtain ⟨cs, fuel, p, hd, hc⟩ := laid_head (g := 0) (t := 123) rfl (by kernel_rfl) (by kernel_rfl) h
  rcases DataW.trod_slice Tryd.underlying123 hd with ⟨_, hx⟩ | ⟨a, len, cap, elems, rest, n, _, hcs, hx, _, _, _, hlen, hel, _, _⟩
  · simp [Go.Proofs.YteomgcebbjoklaaDoor.Rows.laid_hawthorn_op_kinds] at hx
  · have hx1 := congrArg Prod.fst hx
    simp only [Go.Proofs.YteomgcebbjoklaaDoor.Rows.laid_hawthorn_op_kinds, DataW.slice.injEq] at hx1
    obtain ⟨hx1, hx2⟩ := hx1
    have h13 : elems.length = 13 := by have := congrArg List.length hx1; simpa using this.symm
    rw [hlen] at h13
    subst h13
    have e60 : Tryd.prog.cellsOf 157 = 4 := by kernel_rfl
    rw [e60] at hel
    have hcell : ∀ i, i < 13 → ∃ s x y z, W.cells? 0 (a.add (i * 4)) 4 = some [.string s, .bool x, .bool y, .bool z] ∧ (elems.map (·.1))[i]? = some (.agg [.lit (.string s.data.toList), .lit (.bool x), .lit (.bool y), .lit (.bool z)]) := fun i hi => by
      have h1 := hel i hi
      rw [List.getElem?_eq_getElem (by omega)] at h1
      obtain ⟨cs, h2, h3⟩ := Option.bind_eq_some_iff.1 h1
      obtain ⟨s, x, y, z, h4, h5, _⟩ := kind_trod _ _ _ h3
      exact ⟨s, x, y, z, by rw [h2, h4], by rw [List.getElem?_map, List.getElem?_eq_getElem (by omega)]; simp [h5]⟩
    have hspot : ∃ b o, a = ⟨b, o, none⟩ := by
      obtain ⟨s, x, y, z, h4, _⟩ := hcell 0 (by omega)
      have := (World.cells?_some h4).2.2 0 (by omega)
      simp at this
      obtain ⟨b, o, sp⟩ := a
      unfold World.cell? at this
      simp only [Addr.add, if_pos] at this
      cases sp with
      | none => exact ⟨b, o, rfl⟩
      | some q =>
        exfalso
        revert this
        cases W.heap[b]? with
        | none => simp
        | some ob => cases ob <;> simp
    obtain ⟨b, o, rfl⟩ := hspot
    refine ⟨b, o, cap, ?_, ?_⟩
    · refine rd_all ?_
      rw [hc 0]
      have : cs = #[.slice (some ⟨b, o, none⟩) 13 cap] := by rw [← Array.toList_inj]; exact hcs
      rw [this]; rfl
    · have key : ∀ i, i < 13 → W.cells? 0 ((⟨b, o, none⟩ : Addr).add (i * 4)) 4 = some ((kindCells.drop (i * 4)).take 4) := fun i hi => by
        obtain ⟨s, x, y, z, h4, h5⟩ := hcell i hi
        rw [← hx1] at h5
        rw [h4]
        obtain ⟨⟨l⟩⟩ := s
        rcases (by omega : i = 0 ∨ i = 1 ∨ i = 2 ∨ i = 3 ∨ i = 4 ∨ i = 5 ∨ i = 6 ∨ i = 7 ∨ i = 8 ∨ i = 9 ∨ i = 10 ∨ i = 11 ∨ i = 12) with rfl | rfl | rfl | rfl | rfl | rfl | rfl | rfl | rfl | rfl | rfl | rfl | rfl
        all_goals (simp at h5; obtain ⟨h6, h7, h8, h9⟩ := h5; subst h6 h7 h8 h9; rfl)
      intro j u hj
      have hlt : j < 52 := (List.getElem?_eq_some_iff.1 hj).1
      refine rd_all ?_
      have h1 := (World.cells?_some (key (j / 4) (by omega))).2.2 (j % 4) (by omega)
      rw [addr_add, addr_add] at h1
      rw [show o + j = o + j / 4 * 4 + j % 4 by omega]
      refine h1.trans ?_
      rw [List.getElem?_take, if_pos (by omega), List.getElem?_drop, show j / 4 * 4 + j % 4 = j by omega]
      exact hj
end Go.Sl
namespace Go.Proofs.YteomgcebbjoklaaDoor
open Go.ChangeShapes Go.WideShapes Go.ChangeAt Go.RowKit Go.Sl
set_option linter.unusedVariables false
def laidHeap (h : Array Obj) : Array Obj := (h.modify 0 (fun | .cells _ t frozen => .cells #[.slice (some ⟨h.size, 0, none⟩) 13 13] t frozen | o => o)).push (Obj.cells kindCells.toArray 157 (0, 0))
noncomputable def laidWorld (os : Os) : World := { World.holding Tryd.prog os ⟨#[], #[], []⟩ with heap := laidHeap (World.holding Tryd.prog os ⟨#[], #[], []⟩).heap }
theorem laid_met (os : Os) (av : Array Value) : laidMet Tryd.prog Rows.graphFreshRow.laid ((laidWorld os).forCall (fun _ _ => 0) ⟨#[], av, []⟩).memory :=
  laidMet_of_run' 8 (by kernel_rfl) (by kernel_rfl)
end Go.Proofs.YteomgcebbjoklaaDoor
namespace Go.Proofs.YteomgcebbjoklaaDoor.graphFresh
open Go.ChangeShapes Go.WideShapes Go.ChangeAt Go.RowKit Go.Sl
set_option linter.unusedVariables false
abbrev w1 : Array Value := #[.agg #[.int .u8 0, .int .u8 0, .int .u8 0, .int .u8 0, .int .u8 0, .int .u8 0], .int .u8 0, .int .u8 0]
theorem reads (os : Os) {H : Type} (enc : TypeId × Value → H) : ∃ ds places, DataW.whole enc Tryd.prog ((laidWorld os).forCall (fun _ _ => 0) ⟨#[], w1, []⟩).memory Tryd.f3.params.toList Rows.graphFreshSpec.vars false w1.toList 8 = some (ds, [], places) :=
  ⟨[.agg [.lit (.int .u8 0), .lit (.int .u8 0), .lit (.int .u8 0), .lit (.int .u8 0), .lit (.int .u8 0), .lit (.int .u8 0)], .lit (.int .u8 0), .lit (.int .u8 0)], [], by kernel_rfl⟩
set_option maxRecDepth 100000 in
theorem lifted (os : Os) (started : os.Started) (H : Type) (enc : TypeId × Value → H) (F : Stop.Interp) :
    ReturnsInHanded {} Tryd.checked os 3 .any ((OpenSpec.ofChange Rows.graphFreshSpec).preRow enc Tryd.prog Tryd.f3 Rows.graphFreshRow.domain false Rows.graphFreshRow.laid) (((OpenSpec.ofChange Rows.graphFreshSpec).at F).post enc Tryd.prog Tryd.f3 false true false false) := by
  obtain ⟨ds, places, hx⟩ := reads os enc
  refine law_laid (C := Tryd.checked) own started (by kernel_rfl) Tryd.func3 laidOut (by kernel_rfl) rfl Tryd.underlying4 rfl (fun ds h => ?_)
    (witness_row_atRef (enc := enc) (C := Tryd.checked) false (laidWorld os) w1 rfl (by kernel_rfl) (by kernel_rfl) (by kernel_rfl)
      (OpenSpec.preRow_of_cond 8 hx (by kernel_rfl) (fun k hk => by cases hk) (by kernel_rfl) (laid_met os _))) (fun W base vs ds p hL hsz hval hA => ?_)
  · rw [Tryd.params3] at h
    match ds, h with
    | [d0, d1, d2], _ => rfl
  · rw [Tryd.params3] at hA hval hsz
    obtain ⟨gb, go, gc, hK⟩ := kinds_of hL
    obtain ⟨v0, vs0, d0, ds0, p0, q0, rfl, rfl, rfl, h0, r0⟩ := trodAll_cons hA
    obtain ⟨v1, vs1, d1, ds1, p1, q1, rfl, rfl, rfl, h1, r1⟩ := trodAll_cons r0
    obtain ⟨v2, vs2, d2, ds2, p2, q2, rfl, rfl, rfl, h2, r2⟩ := trodAll_cons r1
    obtain ⟨rfl, rfl, rfl⟩ := trodAll_nil r2
    obtain ⟨cs0, n0, rfl, t0⟩ := open_agg (.inr ⟨_, _, Tryd.underlying22⟩) (hval 0 _ v0 rfl rfl) h0
    obtain ⟨l0, l1, l2, l3, l4, l5, rfl, _, wl0, wl1, wl2, wl3, wl4, wl5⟩ := l6_trod _ _ _ t0
    obtain ⟨f1, rfl, rfl, rfl, wf1⟩ := open_int Tryd.underlying5 (hval 1 _ v1 rfl rfl) h1
    obtain ⟨f2, rfl, rfl, rfl, wf2⟩ := open_int Tryd.underlying5 (hval 2 _ v2 rfl rfl) h2
    exact ⟨Unit, _, GraphFresh_fn hK l0 l1 l2 l3 l4 l5 f1 f2 (wf_u8 wl0) (wf_u8 wl1) (wf_u8 wl2) (wf_u8 wl3) (wf_u8 wl4) (wf_u8 wl5) (wf_u8 wf1) (wf_u8 wf2), fun _ => Ent.refl _⟩
theorem said : Rows.GraphFreshSaid :=
  OpenClaim.holds_of_cond 3 Tryd.f3 rfl rfl rfl rfl rfl rfl rfl ⟨rfl, rfl, rfl, rfl, rfl⟩ rfl rfl rfl rfl rfl (by kernel_rfl) Tryd.func3 (by kernel_rfl)
    (of_decide_eq_true (by kernel_rfl)) (by unfold Func.isWrapper; first | (rw [if_pos (by decide +kernel)]; kernel_rfl) | (rw [if_neg (by decide +kernel)]; exact ⟨rfl, rfl⟩))
    (fun os started H enc _ F => by rw [OpenClaim.pre_eq_preRow]; exact lifted os started H enc F)
theorem plain (f : FuncId) (fn : Func) (hf : Tryd.pinned.checked.prog.funcNamed "hawthorn/hawthornlaw20.GraphFresh" = some f) (hfn : Tryd.pinned.checked.prog.funcs[f]? = some fn) :
    false = Tryd.pinned.checked.prog.looks [] ∧ ∀ (j : Nat) t, fn.params[j]? = some t → Tryd.pinned.checked.prog.wantsStandIn t = false := by
  obtain rfl : f = 3 := Option.some.inj ((show Tryd.prog.funcNamed "hawthorn/hawthornlaw20.GraphFresh" = some 3 by kernel_rfl).symm.trans hf) |>.symm
  obtain rfl : fn = Tryd.f3 := (Option.some.inj (Tryd.func3.symm.trans hfn)).symm
  refine ⟨by kernel_rfl, fun j t ht => ?_⟩
  rw [Tryd.params3] at ht
  have : t ∈ (#[22, 5, 5] : Array TypeId) := Array.mem_of_getElem? ht
  have hall : ((#[22, 5, 5] : Array TypeId).all fun t => !Tryd.prog.wantsStandIn t) = true := by kernel_rfl
  have h2 := Array.all_eq_true'.1 hall t this
  have h3 : Tryd.prog.wantsStandIn t = false := by simpa using h2
  exact h3
end Go.Proofs.YteomgcebbjoklaaDoor.graphFresh
namespace Go.Proofs.YteomgcebbjoklaaDoor
open Go.Sl
theorem graphFresh_proved : Rows.GraphFreshCardSaid :=
  Claim7.holds_tied_plain_at .later [] _ _ _ _ graphFresh.said (fun _ h => by cases h) (by kernel_rfl) (fun _ h => by cases h) graphFresh_row_tie rfl ⟨rfl, rfl⟩ (by kernel_rfl) rfl graphFresh.plain (by kernel_rfl)
#print axioms graphFresh_proved
end Go.Proofs.YteomgcebbjoklaaDoor
