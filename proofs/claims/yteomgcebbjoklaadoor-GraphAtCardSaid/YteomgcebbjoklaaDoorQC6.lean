/- Part 6. -/
import Derived.WalkKit
import Derived.RangeFuncRecord
import Derived.RangeFuncLeaves
import Derived.OrdersIn
import Derived.TacticsIn
import Derived.KernelRfl
import Derived.Test.YteomgcebbjoklaaDoorChecked
import Derived.ProofKit
import Derived.OpenShut
import Derived.Carry
import Derived.HandedShaped
import Derived.RangeFuncNested
import Derived.LoopNIn
import Derived.Lib.Strings
import Derived.Deep.DeepHandedRow
import Derived.Lib.LaidTab
import Derived.SevenTiedAt
import Derived.Deep.DeepWitnessRowRef
import Derived.Laws.StructEq
import Derived.Laws.BytesString
import Derived.Laws.LoneSync
import Derived.Test.YteomgcebbjoklaaDoorRows
import Derived.Test.YteomgcebbjoklaaDoorCards
import Derived.Test.YteomgcebbjoklaaDoorTie
import Derived.ChangeMaps5
import Derived.Test.YteomgcebbjoklaaDoorQC5
namespace Go.Sl
open Go Go.Proofs
set_option linter.unusedVariables false
set_option linter.unusedSimpArgs false
attribute [local irreducible] star Ow Cw Pk Pu Dw DwF thenQ blockQ retQ loudQ loudF loudG Cr thr tab obs andI checkR
def rthr (c : Nat) (th : ThS) : HP := Sl.ex fun y : SV × SV => cl c (y.1.v :: y.2.v :: vi th.w.ph :: th.w.it.cs) * (slk 1 y.1.v (th.r.map vi) * slk 1 y.2.v (th.s.map vi))
theorem rthr_ex (c : Nat) (th : ThS) : rthr c th = Sl.ex fun y : SV × SV => cl c (y.1.v :: y.2.v :: vi th.w.ph :: th.w.it.cs) * (slk 1 y.1.v (th.r.map vi) * slk 1 y.2.v (th.s.map vi)) := rfl
theorem rthr_mk (c : Nat) (r s : List Int) (x : It) (ph : Int) (rv kv : SV) : Ent (cl c (rv.v :: kv.v :: vi ph :: x.cs) * (slk 1 rv.v (r.map vi) * slk 1 kv.v (s.map vi))) (rthr c ⟨r, s, ⟨x, ph⟩⟩) :=
  Ent.ex (A := fun y : SV × SV => cl c (y.1.v :: y.2.v :: vi ph :: x.cs) * (slk 1 y.1.v (r.map vi) * slk 1 y.2.v (s.map vi))) (rv, kv)
def rth : Option (Nat × ThS) → HP
  | none => emp
  | some p => rthr p.1 p.2
def rths : List (Option (Nat × ThS)) → HP
  | [] => emp
  | o :: L => rth o * rths L
theorem rths_at : ∀ (L : List (Option (Nat × ThS))) (j : Nat) (hj : j < L.length), rths L = rth L[j]! * rths (L.eraseIdx j)
  | o :: L, 0, _ => rfl
  | o :: L, j + 1, h => by
    have hj : j < L.length := by simpa using h
    have e : (o :: L)[j + 1]! = L[j]! := by rw [getElem!_pos (o :: L) (j + 1) h, getElem!_pos L j hj]; rfl
    rw [e, List.eraseIdx_cons_succ]
    show rth o * rths L = _ * (rth o * rths _)
    rw [rths_at L j hj, star_left_comm]
theorem rths_set (L : List (Option (Nat × ThS))) (j : Nat) (hj : j < L.length) (o : Option (Nat × ThS)) : rths (L.set j o) = rth o * rths (L.eraseIdx j) := by
  rw [rths_at (L.set j o) j (by simpa using hj)]
  have e : (L.set j o)[j]! = o := by rw [getElem!_pos (L.set j o) j (by simpa using hj)]; simp
  rw [e]
  have e2 : (L.set j o).eraseIdx j = L.eraseIdx j := by
    apply List.ext_getElem
    · simp [List.length_eraseIdx]
    · intro i h1 h2
      rw [List.getElem_eraseIdx, List.getElem_eraseIdx]
      split
      · rw [List.getElem_set_ne (by omega)]
      · rw [List.getElem_set_ne (by omega)]
  rw [e2]
def rgh (m : Nat) (q : Cfg) (s : GS SV Nat) : HP := Sl.ex fun y : SV × SV => rcl m q y.1 y.2 (s.T.map tpO) * (slk 2 y.1.v (s.O.flatMap obc) * (obs s.O * (slk 1 y.2.v (s.G.map vi) * rths s.T)))
theorem rgh_ex (m : Nat) (q : Cfg) (s : GS SV Nat) : rgh m q s = Sl.ex fun y : SV × SV => rcl m q y.1 y.2 (s.T.map tpO) * (slk 2 y.1.v (s.O.flatMap obc) * (obs s.O * (slk 1 y.2.v (s.G.map vi) * rths s.T))) := rfl
theorem rgh_mk (m : Nat) (q : Cfg) (O : List (Obj SV)) (G : List Int) (T : List (Option (Nat × ThS))) (tv gv : SV) : Ent (rcl m q tv gv (T.map tpO) * (slk 2 tv.v (O.flatMap obc) * (obs O * (slk 1 gv.v (G.map vi) * rths T)))) (rgh m q ⟨O, G, T⟩) :=
  Ent.ex (A := fun y : SV × SV => rcl m q y.1 y.2 (T.map tpO) * (slk 2 y.1.v (O.flatMap obc) * (obs O * (slk 1 y.2.v (G.map vi) * rths T)))) (tv, gv)
theorem rgh_mkt (m : Nat) (q : Cfg) (O : List (Obj SV)) (G : List Int) (T : List (Option (Nat × ThS))) (tv gv : SV) (c j : Nat) (th : ThS) (hj : j < T.length) (hT : T[j]! = some (c, th)) (r s : List Int) (x : It) (ph : Int) (rv kv : SV) :
    Ent (rcl m q tv gv (T.map tpO) * (slk 2 tv.v (O.flatMap obc) * (obs O * (slk 1 gv.v (G.map vi) * (cl c (rv.v :: kv.v :: vi ph :: x.cs) * (slk 1 rv.v (r.map vi) * (slk 1 kv.v (s.map vi) * rths (T.eraseIdx j)))))))) (rgh m q ⟨O, G, T.set j (some (c, ⟨r, s, ⟨x, ph⟩⟩))⟩) := by
  have hp : (T.set j (some (c, ⟨r, s, ⟨x, ph⟩⟩))).map tpO = T.map tpO := by
    rw [List.map_set]
    have h1 : j < (T.map tpO).length := by simpa using hj
    have h2 : (T.map tpO)[j] = tpO (some (c, ⟨r, s, ⟨x, ph⟩⟩)) := by
      rw [List.getElem_map]
      rw [getElem!_pos T j hj] at hT
      rw [hT]; rfl
    rw [← h2, List.set_getElem_self]
  refine Ent.trans ?_ (rgh_mk m q O G (T.set j (some (c, ⟨r, s, ⟨x, ph⟩⟩))) tv gv)
  rw [hp, rths_set T j hj]
  refine Ent.trans (Ent.of_eq ?_) (Ent.right (Ent.right (Ent.right (Ent.right (Ent.left (rthr_mk c r s x ph rv kv))))))
  simp only [star_assoc]
theorem set_self {γ : Type} [Inhabited γ] {T : List γ} {j : Nat} {v : γ} (hj : j < T.length) (h : T[j]! = v) : T.set j v = T := by
  have hg : T[j] = v := by rw [← h]; exact (getElem!_pos T j hj).symm
  rw [← hg, List.set_getElem_self]
theorem lv_fn (m : Nat) (q : Cfg) (s : GS SV Nat) (tv gv : SV) (t : Int) (hT : s.T.length = 4) : Fn Tryd.prog 29 [.pointer (some ⟨m, 0, none⟩), vi t] (rcl m q tv gv (s.T.map tpO)) Unit (fun _ => tpO (thOf s t)) (fun _ => rcl m q tv gv (s.T.map tpO)) := by
  by_cases h : 0 ≤ t ∧ t < 4
  · have e : thOf s t = s.T[t.toNat]! := if_pos h
    rw [e]
    exact live_t m q tv gv _ t h (by rw [List.getElem?_map, List.getElem?_eq_getElem (by omega), getElem!_pos s.T t.toNat (by omega)]; rfl)
  · have e : thOf s t = none := if_neg h
    rw [e]
    exact live_n m q tv gv _ t h
theorem rgh_mks (m : Nat) (q : Cfg) (O : List (Obj SV)) (G : List Int) (T : List (Option (Nat × ThS))) (tv gv : SV) (nb j : Nat) (hj : j < T.length) (hT : T[j]! = none) (r : List Int) (fv : SV) :
    Ent (rcl m q tv gv ((T.map tpO).set j (.pointer (some ⟨nb, 0, none⟩))) * (slk 2 tv.v (O.flatMap obc) * (obs O * (slk 1 gv.v (G.map vi) * (cl nb (fv.v :: .slice none 0 0 :: vi 0 :: it0.cs) * (slk 1 fv.v (r.map vi) * rths T)))))) (rgh m q ⟨O, G, T.set j (some (nb, ⟨r, [], wk0⟩))⟩) := by
  refine Ent.trans ?_ (rgh_mk m q O G (T.set j (some (nb, ⟨r, [], wk0⟩))) tv gv)
  have e : rths T = rths (T.eraseIdx j) := by rw [rths_at T j hj, hT]; exact emp_star _
  rw [e, List.map_set, rths_set T j hj]
  refine Ent.trans ?_ (Ent.right (Ent.right (Ent.right (Ent.right (Ent.left (rthr_mk nb r [] it0 0 fv ⟨none, 0, 0⟩))))))
  refine Ent.addnil 1 ?_
  refine Ent.of_eq ?_
  simp only [List.map_nil]
  show slk 1 (Value.slice none 0 0) [] * _ = _
  simp only [star_assoc]
  ac_rfl
theorem rgh_mkn (m : Nat) (q : Cfg) (O : List (Obj SV)) (G : List Int) (T : List (Option (Nat × ThS))) (tv gv : SV) (j : Nat) (hj : j < T.length) :
    Ent (rcl m q tv gv ((T.map tpO).set j (.pointer none)) * (slk 2 tv.v (O.flatMap obc) * (obs O * (slk 1 gv.v (G.map vi) * rths (T.eraseIdx j))))) (rgh m q ⟨O, G, T.set j none⟩) := by
  refine Ent.trans ?_ (rgh_mk m q O G (T.set j none) tv gv)
  rw [List.map_set, rths_set T j hj]
  exact Ent.of_eq (by rw [show rth none = emp from rfl, emp_star]; rfl)
set_option maxHeartbeats 32000000 in
theorem rDo_fn (m : Nat) (q : Cfg) (s : GS SV Nat) (x : It) (full : Bool) (hok : GsOk q s) (hO : s.O.length ≤ 900000) (hq8 : QOk q) :
    Fn Tryd.prog 15 [.pointer (some ⟨m, 0, none⟩), .agg x.cs.toArray, .bool full] (rgh m q s) (SV × Nat) (fun p => .tuple #[vi (doG p.1 p.2 q s x full).2.1, vi (doG p.1 p.2 q s x full).2.2]) (fun p => rgh m q (doG p.1 p.2 q s x full).1) := by
  have hT := hok.tl
  have hq1 := hq8.th
  have hq2 := hq8.rg
  have hlv0 := fun tv gv => lv_fn m q s tv gv x.t hT
  cases hth : thOf s x.t with
  | none =>
    have hlv1 : ∀ tv gv, Fn Tryd.prog 29 [.pointer (some ⟨m, 0, none⟩), vi x.t] (rcl m q tv gv (s.T.map tpO)) Unit (fun _ => .pointer none) (fun _ => rcl m q tv gv (s.T.map tpO)) := fun tv gv => by
      have h := hlv0 tv gv; rw [hth] at h; exact h
    clear hlv0
    by_cases hk2 : x.k = 2 ∧ 0 ≤ x.t ∧ x.t < q.threads
    · obtain ⟨hk2, hc⟩ := hk2
      have hdo : ∀ p : SV × Nat, doG p.1 p.2 q s x full = ({ s with T := s.T.set x.t.toNat (some (p.2, ⟨List.replicate q.regs.toNat 0, [], wk0⟩)) }, 0, 0) := fun p => by unfold doG; rw [if_pos hk2, if_pos ⟨hc, by rw [hth]; rfl⟩]
      simp only [hdo]
      have hn : s.T[x.t.toNat]! = none := by
        rcases thOf_none hth with h | h
        · omega
        · exact h.2
      obtain ⟨mm, hm⟩ : ∃ mm : Nat, q.regs = mm := ⟨q.regs.toNat, by omega⟩
      have hm2 : q.regs.toNat = mm := by omega
      rw [hm2]
      (refine Fn.of Tryd.func15 rfl (by kernel_rfl) Tryd.ntmps15 rfl (fun F => ?_))
      refine Cw.opn (rgh_ex m q s) (fun y => ?_)
      obtain ⟨tv, gv⟩ := y
      have hlv := hlv1 tv gv
      have hwr := fun u h => rcl_w m q tv gv (s.T.map tpO) (i := x.t.toNat) (u := u) h
      dsimp only
      (refine Cw.heq (by simp only [star_assoc, emp_star, star_emp]; exact rfl) ?_)
      (repeat' (first | (refine Ow.is ?_; (first | refine Ow.pu rfl (Pu.fld rfl) ?_ | refine Ow.nil ?_ | refine Ow.pu rfl (Pu.move rfl) ?_ | refine Ow.pu rfl (Pu.assign rfl) ?_ | refine Ow.pu rfl (Pu.fld rfl) ?_ | refine Ow.pu rfl (Pu.nilCheck rfl) ?_ | refine Ow.pu rfl (Pu.extract rfl rfl) ?_ | (refine Ow.kLoad ?_; (first | refine Ow.pu rfl (Pu.load_cl rfl pkA rfl) ?_ | refine Ow.pu rfl (Pu.loadN_cl rfl pkA rfl rfl) ?_)) | (refine Ow.kBin ?_; (first | (refine Ow.b_eql ?_; (first | refine Ow.pu rfl (Pu.eq_t rfl rfl roA) ?_ | refine Ow.pu rfl (Pu.eq_f rfl rfl odA) ?_ | refine Ow.pu rfl (Pu.eqNil rfl rfl) ?_)) | (refine Ow.b_neq ?_; (first | refine Ow.pu rfl (Pu.ne_t rfl rfl odA) ?_ | refine Ow.pu rfl (Pu.ne_f rfl rfl roA) ?_ | refine Ow.pu rfl (Pu.neNil rfl rfl) ?_)))) | (refine Ow.kUn ?_; (first | refine Ow.pu rfl (Pu.not rfl) ?_)) | (refine Ow.kStore ?_; (first | refine Ow.store_cl rfl rfl rfl (by (first | rfl | assumption | exact Subtype.property _)) pkA rfl ?_ | refine Ow.storeN rfl rfl rfl rfl rfl pkA rfl ?_)) | (refine Ow.kCall ?_; (first | refine Ow.callE evA (pk2' pkA (pk2' pkA (pk2' pkA (pk2' pkA (pk2' pkA (pk2' pkA pkA)))))) rfl hact (fun w => ?_) | refine Ow.callE0 evA rfl (in_t _ _ (by omega)) (fun _ => Ow.unemp ?_) | refine Ow.callE0 evA rfl (in_f _ _ (by omega)) (fun _ => Ow.unemp ?_) | refine Ow.callE evA pkA rfl hlv (fun _ => ?_) | fail)) | refine Ow.box rfl rfl rfl (fun bx => ?_))) | (refine Cw.is ?_; (first | refine Cw.seq ?_ | refine Cw.region ?_ | refine Cw.cond_t rfl rfl ?_ | refine Cw.cond_f rfl rfl ?_ | refine Cw.block ?_ | refine Cw.ret ?_ | refine Cw.skip ?_ | refine Cw.drawL (n := 105) (id := 22) [(0, false), (1, false), (2, false), (3, false), (4, false), (5, false), (6, false), (7, true), (8, false), (9, false), (10, false), (11, false), (12, false)] mixed (by kernel_rfl) ?_)) | (first | refine thenQ_n ?_ | refine thenQ_r ?_ | refine blockQ_n ?_ | refine blockQ_r ?_ | (refine loudQ.is ?_; first | refine loudQ.go pkA ?_ | refine loudQ.goE (by ac_rfl) ?_)) | (refine Dw.is ?_; (first | refine Dw.q rfl rfl trivial (by (first | exact Pu.move rfl | exact Pu.assign rfl | exact Pu.fld rfl | exact Pu.nilCheck rfl | exact Pu.extract rfl rfl | exact Pu.build (ps := [(0, .tmp 84)]) (vs := [fv.v]) (cs := fv.v :: .slice none 0 0 :: vi 0 :: it0.cs) evA (fun w => by kernel_rfl) | (apply Pu.kLoad; (first | exact Pu.load_cl rfl pkA rfl | exact Pu.loadN_cl rfl pkA rfl rfl)) | (apply Pu.kUn; (first | exact Pu.not rfl)) | (apply Pu.kBin; (first | (apply Pu.b_neq; (first | exact Pu.ne_t rfl rfl odA | exact Pu.ne_f rfl rfl roA | exact Pu.neNil rfl rfl)))) | (apply Pu.kPick; (first | exact Pu.pick_t rfl rfl | exact Pu.pick_f rfl rfl)))) ?_ | refine Dw.q rfl rfl ⟨_, _, rfl, rfl, rfl⟩ (by (first | exact Pu.move rfl | exact Pu.assign rfl | exact Pu.fld rfl | exact Pu.nilCheck rfl | exact Pu.extract rfl rfl | exact Pu.build (ps := [(0, .tmp 84)]) (vs := [fv.v]) (cs := fv.v :: .slice none 0 0 :: vi 0 :: it0.cs) evA (fun w => by kernel_rfl) | (apply Pu.kLoad; (first | exact Pu.load_cl rfl pkA rfl | exact Pu.loadN_cl rfl pkA rfl rfl)) | (apply Pu.kUn; (first | exact Pu.not rfl)) | (apply Pu.kBin; (first | (apply Pu.b_neq; (first | exact Pu.ne_t rfl rfl odA | exact Pu.ne_f rfl rfl roA | exact Pu.neNil rfl rfl)))) | (apply Pu.kPick; (first | exact Pu.pick_t rfl rfl | exact Pu.pick_f rfl rfl)))) ?_ | refine Dw.s rfl rfl rfl rfl rfl ?_ | refine Dw.nilE ?_ rfl | refine Dw.lE rfl trivial ?_ | refine Dw.lE rfl ⟨_, _, rfl, rfl, rfl⟩ ?_))))
      (refine Cw.drawF2 (rcl _ _ _ _ _) (cl bx _) 14 [(0, false), (1, false), (2, false), (3, false), (4, false), (5, false), (6, false), (7, false), (11, false), (12, false), (8, true), (9, false), (10, true), (13, false), (14, true)] pkA pkA mixed (by kernel_rfl) ?_; (iterate 10 ((first | refine DwF.q rfl rfl (by kernel_rfl) trivial (by (first | exact Pu.move rfl | exact Pu.assign rfl | exact Pu.fld rfl | exact Pu.nilCheck rfl | exact Pu.extract rfl rfl | exact Pu.idxA_b rfl rfl (by omega) | exact Pu.build (ps := [(0, .tmp 84)]) (vs := [fv.v]) (cs := fv.v :: .slice none 0 0 :: vi 0 :: it0.cs) evA (fun w => by kernel_rfl) | (apply Pu.kLoad; (first | exact Pu.load_cl rfl pkA rfl | exact Pu.loadN_cl rfl pkA rfl rfl)) | (apply Pu.kUn; (first | exact Pu.not rfl)) | (apply Pu.kBin; (first | (apply Pu.b_neq; (first | exact Pu.ne_t rfl rfl odA | exact Pu.ne_f rfl rfl roA | exact Pu.neNil rfl rfl)))) | (apply Pu.kPick; (first | exact Pu.pick_t rfl rfl | exact Pu.pick_f rfl rfl)))) ?_ | refine DwF.q rfl rfl (by kernel_rfl) ⟨_, _, rfl, rfl, rfl⟩ (by (first | exact Pu.move rfl | exact Pu.assign rfl | exact Pu.fld rfl | exact Pu.nilCheck rfl | exact Pu.extract rfl rfl | exact Pu.idxA_b rfl rfl (by omega) | exact Pu.build (ps := [(0, .tmp 84)]) (vs := [fv.v]) (cs := fv.v :: .slice none 0 0 :: vi 0 :: it0.cs) evA (fun w => by kernel_rfl) | (apply Pu.kLoad; (first | exact Pu.load_cl rfl pkA rfl | exact Pu.loadN_cl rfl pkA rfl rfl)) | (apply Pu.kUn; (first | exact Pu.not rfl)) | (apply Pu.kBin; (first | (apply Pu.b_neq; (first | exact Pu.ne_t rfl rfl odA | exact Pu.ne_f rfl rfl roA | exact Pu.neNil rfl rfl)))) | (apply Pu.kPick; (first | exact Pu.pick_t rfl rfl | exact Pu.pick_f rfl rfl)))) ?_))); refine DwF.c rfl (by first | exact trivial | exact ⟨_, _, rfl, rfl, rfl⟩) rfl ?_; refine Ow.heq (star_assoc _ _ _) ?_; refine Ow.makeSlice (m := mm) rfl (by rw [← hm]; rfl) (by rw [← hm]; rfl) (by omega) (by rfl) (fun fv => ?_); refine Ow.nil ?_; refine loudG.go2 pkA pkA ?_; ((first | refine DwF.q rfl rfl (by kernel_rfl) trivial (by (first | exact Pu.move rfl | exact Pu.assign rfl | exact Pu.fld rfl | exact Pu.nilCheck rfl | exact Pu.extract rfl rfl | exact Pu.idxA_b rfl rfl (by omega) | exact Pu.build (ps := [(0, .tmp 84)]) (vs := [fv.v]) (cs := fv.v :: .slice none 0 0 :: vi 0 :: it0.cs) evA (fun w => by kernel_rfl) | (apply Pu.kLoad; (first | exact Pu.load_cl rfl pkA rfl | exact Pu.loadN_cl rfl pkA rfl rfl)) | (apply Pu.kUn; (first | exact Pu.not rfl)) | (apply Pu.kBin; (first | (apply Pu.b_neq; (first | exact Pu.ne_t rfl rfl odA | exact Pu.ne_f rfl rfl roA | exact Pu.neNil rfl rfl)))) | (apply Pu.kPick; (first | exact Pu.pick_t rfl rfl | exact Pu.pick_f rfl rfl)))) ?_ | refine DwF.q rfl rfl (by kernel_rfl) ⟨_, _, rfl, rfl, rfl⟩ (by (first | exact Pu.move rfl | exact Pu.assign rfl | exact Pu.fld rfl | exact Pu.nilCheck rfl | exact Pu.extract rfl rfl | exact Pu.idxA_b rfl rfl (by omega) | exact Pu.build (ps := [(0, .tmp 84)]) (vs := [fv.v]) (cs := fv.v :: .slice none 0 0 :: vi 0 :: it0.cs) evA (fun w => by kernel_rfl) | (apply Pu.kLoad; (first | exact Pu.load_cl rfl pkA rfl | exact Pu.loadN_cl rfl pkA rfl rfl)) | (apply Pu.kUn; (first | exact Pu.not rfl)) | (apply Pu.kBin; (first | (apply Pu.b_neq; (first | exact Pu.ne_t rfl rfl odA | exact Pu.ne_f rfl rfl roA | exact Pu.neNil rfl rfl)))) | (apply Pu.kPick; (first | exact Pu.pick_t rfl rfl | exact Pu.pick_f rfl rfl)))) ?_)); refine DwF.c rfl (by first | exact trivial | exact ⟨_, _, rfl, rfl, rfl⟩) rfl ?_; refine Ow.heq (star_assoc _ _ _) ?_; refine Ow.box rfl rfl rfl (fun nb => ?_); refine Ow.nil ?_; refine loudG.go2 pkA pkA ?_; ((first | refine DwF.q rfl rfl (by kernel_rfl) trivial (by (first | exact Pu.move rfl | exact Pu.assign rfl | exact Pu.fld rfl | exact Pu.nilCheck rfl | exact Pu.extract rfl rfl | exact Pu.idxA_b rfl rfl (by omega) | exact Pu.build (ps := [(0, .tmp 84)]) (vs := [fv.v]) (cs := fv.v :: .slice none 0 0 :: vi 0 :: it0.cs) evA (fun w => by kernel_rfl) | (apply Pu.kLoad; (first | exact Pu.load_cl rfl pkA rfl | exact Pu.loadN_cl rfl pkA rfl rfl)) | (apply Pu.kUn; (first | exact Pu.not rfl)) | (apply Pu.kBin; (first | (apply Pu.b_neq; (first | exact Pu.ne_t rfl rfl odA | exact Pu.ne_f rfl rfl roA | exact Pu.neNil rfl rfl)))) | (apply Pu.kPick; (first | exact Pu.pick_t rfl rfl | exact Pu.pick_f rfl rfl)))) ?_ | refine DwF.q rfl rfl (by kernel_rfl) ⟨_, _, rfl, rfl, rfl⟩ (by (first | exact Pu.move rfl | exact Pu.assign rfl | exact Pu.fld rfl | exact Pu.nilCheck rfl | exact Pu.extract rfl rfl | exact Pu.idxA_b rfl rfl (by omega) | exact Pu.build (ps := [(0, .tmp 84)]) (vs := [fv.v]) (cs := fv.v :: .slice none 0 0 :: vi 0 :: it0.cs) evA (fun w => by kernel_rfl) | (apply Pu.kLoad; (first | exact Pu.load_cl rfl pkA rfl | exact Pu.loadN_cl rfl pkA rfl rfl)) | (apply Pu.kUn; (first | exact Pu.not rfl)) | (apply Pu.kBin; (first | (apply Pu.b_neq; (first | exact Pu.ne_t rfl rfl odA | exact Pu.ne_f rfl rfl roA | exact Pu.neNil rfl rfl)))) | (apply Pu.kPick; (first | exact Pu.pick_t rfl rfl | exact Pu.pick_f rfl rfl)))) ?_)); refine DwF.b rfl (by first | exact trivial | exact ⟨_, _, rfl, rfl, rfl⟩) rfl ?_; refine Ow.heq (star_assoc _ _ _) ?_; refine Ow.store (a := ⟨m, 0 + 12 + x.t.toNat * 1, none⟩) rfl rfl rfl rfl pkA (hwr (.pointer (some ⟨nb, 0, none⟩)) (by simp; omega)) ?_; refine Ow.nil ?_; refine loudF.go ?_; refine DwF.nil ?_)
      (repeat' (first | (refine Ow.is ?_; (first | refine Ow.nil ?_ | refine Ow.pu rfl (Pu.assign rfl) ?_)) | (refine Cw.is ?_; (first | refine Cw.seq ?_ | refine Cw.region ?_ | refine Cw.cond_t rfl rfl ?_ | refine Cw.cond_f rfl rfl ?_ | refine Cw.block ?_ | refine Cw.ret ?_ | refine Cw.skip ?_)) | (first | refine thenQ_n ?_ | refine thenQ_r ?_ | refine blockQ_n ?_ | refine blockQ_r ?_)))
      refine retQ_v2 (default, nb) Tryd.results15 rfl rfl rfl ?_
      refine Ent.trans ?_ (Ent.left (rgh_mks m q s.O s.G s.T tv gv nb x.t.toNat (by omega) hn (List.replicate mm 0) fv))
      rw [rep_one, show List.replicate mm (Value.int .i64 0) = (List.replicate mm (0 : Int)).map vi by rw [List.map_replicate]]
      ((try simp only [star_assoc]); (repeat (apply Ent.pk; focus ((repeat first | exact pk0 | exact pkl | apply pkn); first | done | fail))); first | exact Ent.fin pkA | exact Ent.refl _)
    · have key : ∀ e : Int, (∀ p : SV × Nat, doG p.1 p.2 q s x full = (s, e, 0)) → ((x.k = 2 ∧ ¬ (0 ≤ x.t ∧ x.t < q.threads) ∧ e = 2) ∨ (x.k = 0 ∧ e = 2) ∨ (x.k = 1 ∧ e = 2) ∨ (x.k = 3 ∧ e = 2) ∨ (x.k ≠ 0 ∧ x.k ≠ 1 ∧ x.k ≠ 2 ∧ x.k ≠ 3 ∧ e = 0)) →
          Fn Tryd.prog 15 [.pointer (some ⟨m, 0, none⟩), .agg x.cs.toArray, .bool full] (rgh m q s) (SV × Nat) (fun p => .tuple #[vi (doG p.1 p.2 q s x full).2.1, vi (doG p.1 p.2 q s x full).2.2]) (fun p => rgh m q (doG p.1 p.2 q s x full).1) := fun e hdo hk => by
        simp only [hdo]
        clear hk2 hdo
        rcases hk with ⟨hk, hr, rfl⟩ | ⟨hk, rfl⟩ | ⟨hk, rfl⟩ | ⟨hk, rfl⟩ | ⟨hk, hk1, hk2, hk3, rfl⟩
        all_goals (refine Fn.of Tryd.func15 rfl (by kernel_rfl) Tryd.ntmps15 rfl (fun F => ?_))
        all_goals refine Cw.opn (rgh_ex m q s) (fun y => ?_)
        all_goals obtain ⟨tv, gv⟩ := y
        all_goals have hlv := hlv1 tv gv
        all_goals dsimp only
        all_goals (refine Cw.heq (by simp only [star_assoc, emp_star, star_emp]; exact rfl) ?_)
        all_goals (repeat' (first | (refine Ow.is ?_; (first | refine Ow.pu rfl (Pu.fld rfl) ?_ | refine Ow.nil ?_ | refine Ow.pu rfl (Pu.move rfl) ?_ | refine Ow.pu rfl (Pu.assign rfl) ?_ | refine Ow.pu rfl (Pu.fld rfl) ?_ | refine Ow.pu rfl (Pu.nilCheck rfl) ?_ | refine Ow.pu rfl (Pu.extract rfl rfl) ?_ | (refine Ow.kLoad ?_; (first | refine Ow.pu rfl (Pu.load_cl rfl pkA rfl) ?_ | refine Ow.pu rfl (Pu.loadN_cl rfl pkA rfl rfl) ?_)) | (refine Ow.kBin ?_; (first | (refine Ow.b_eql ?_; (first | refine Ow.pu rfl (Pu.eq_t rfl rfl roA) ?_ | refine Ow.pu rfl (Pu.eq_f rfl rfl odA) ?_ | refine Ow.pu rfl (Pu.eqNil rfl rfl) ?_)) | (refine Ow.b_neq ?_; (first | refine Ow.pu rfl (Pu.ne_t rfl rfl odA) ?_ | refine Ow.pu rfl (Pu.ne_f rfl rfl roA) ?_ | refine Ow.pu rfl (Pu.neNil rfl rfl) ?_)))) | (refine Ow.kUn ?_; (first | refine Ow.pu rfl (Pu.not rfl) ?_)) | (refine Ow.kStore ?_; (first | refine Ow.store_cl rfl rfl rfl (by (first | rfl | assumption | exact Subtype.property _)) pkA rfl ?_ | refine Ow.storeN rfl rfl rfl rfl rfl pkA rfl ?_)) | (refine Ow.kCall ?_; (first | refine Ow.callE evA (pk2' pkA (pk2' pkA (pk2' pkA (pk2' pkA (pk2' pkA (pk2' pkA pkA)))))) rfl hact (fun w => ?_) | refine Ow.callE0 evA rfl (in_t _ _ (by omega)) (fun _ => Ow.unemp ?_) | refine Ow.callE0 evA rfl (in_f _ _ (by omega)) (fun _ => Ow.unemp ?_) | refine Ow.callE evA pkA rfl hlv (fun _ => ?_) | fail)) | refine Ow.box rfl rfl rfl (fun bx => ?_))) | (refine Cw.is ?_; (first | refine Cw.seq ?_ | refine Cw.region ?_ | refine Cw.cond_t rfl rfl ?_ | refine Cw.cond_f rfl rfl ?_ | refine Cw.block ?_ | refine Cw.ret ?_ | refine Cw.skip ?_ | refine Cw.drawL (n := 105) (id := 22) [(0, false), (1, false), (2, false), (3, false), (4, false), (5, false), (6, false), (7, true), (8, false), (9, false), (10, false), (11, false), (12, false)] mixed (by kernel_rfl) ?_)) | (first | refine thenQ_n ?_ | refine thenQ_r ?_ | refine blockQ_n ?_ | refine blockQ_r ?_ | (refine loudQ.is ?_; first | refine loudQ.go pkA ?_ | refine loudQ.goE (by ac_rfl) ?_)) | (refine Dw.is ?_; (first | refine Dw.q rfl rfl trivial (by (first | exact Pu.move rfl | exact Pu.assign rfl | exact Pu.fld rfl | exact Pu.nilCheck rfl | exact Pu.extract rfl rfl | exact Pu.idxA_b rfl rfl (by omega) | exact Pu.build (ps := [(0, .tmp 84)]) (vs := [fv.v]) (cs := fv.v :: .slice none 0 0 :: vi 0 :: it0.cs) evA (fun w => by kernel_rfl) | (apply Pu.kLoad; (first | exact Pu.load_cl rfl pkA rfl | exact Pu.loadN_cl rfl pkA rfl rfl)) | (apply Pu.kUn; (first | exact Pu.not rfl)) | (apply Pu.kBin; (first | (apply Pu.b_neq; (first | exact Pu.ne_t rfl rfl odA | exact Pu.ne_f rfl rfl roA | exact Pu.neNil rfl rfl)))) | (apply Pu.kPick; (first | exact Pu.pick_t rfl rfl | exact Pu.pick_f rfl rfl)))) ?_ | refine Dw.q rfl rfl ⟨_, _, rfl, rfl, rfl⟩ (by (first | exact Pu.move rfl | exact Pu.assign rfl | exact Pu.fld rfl | exact Pu.nilCheck rfl | exact Pu.extract rfl rfl | exact Pu.idxA_b rfl rfl (by omega) | exact Pu.build (ps := [(0, .tmp 84)]) (vs := [fv.v]) (cs := fv.v :: .slice none 0 0 :: vi 0 :: it0.cs) evA (fun w => by kernel_rfl) | (apply Pu.kLoad; (first | exact Pu.load_cl rfl pkA rfl | exact Pu.loadN_cl rfl pkA rfl rfl)) | (apply Pu.kUn; (first | exact Pu.not rfl)) | (apply Pu.kBin; (first | (apply Pu.b_neq; (first | exact Pu.ne_t rfl rfl odA | exact Pu.ne_f rfl rfl roA | exact Pu.neNil rfl rfl)))) | (apply Pu.kPick; (first | exact Pu.pick_t rfl rfl | exact Pu.pick_f rfl rfl)))) ?_ | refine Dw.s rfl rfl rfl rfl rfl ?_ | refine Dw.nilE ?_ rfl | refine Dw.lE rfl trivial ?_ | refine Dw.lE rfl ⟨_, _, rfl, rfl, rfl⟩ ?_))))
        all_goals refine retQ_v2 default Tryd.results15 rfl rfl rfl ?_
        all_goals refine Ent.trans ?_ (Ent.left (rgh_mk m q s.O s.G s.T tv gv))
        all_goals ((try simp only [star_assoc]); (repeat (apply Ent.pk; focus ((repeat first | exact pk0 | exact pkl | apply pkn); first | done | fail))); first | exact Ent.fin pkA | exact Ent.refl _)
      by_cases h2 : x.k = 2
      · exact key 2 (fun p => by unfold doG; rw [if_pos h2, if_neg (fun h => hk2 ⟨h2, h.1⟩)]) (by omega)
      · by_cases hk : x.k = 0 ∨ x.k = 1 ∨ x.k = 3
        · exact key 2 (fun p => by unfold doG; rw [if_neg h2, if_pos hk, hth]) (by omega)
        · exact key 0 (fun p => by unfold doG; rw [if_neg h2, if_neg hk]) (by omega)
  | some pt =>
    obtain ⟨c, r, k, it, ph⟩ := pt
    obtain ⟨hx4, hst⟩ := thOf_some hth
    have hj4 : x.t.toNat < s.T.length := by omega
    have hlv1 : ∀ tv gv, Fn Tryd.prog 29 [.pointer (some ⟨m, 0, none⟩), vi x.t] (rcl m q tv gv (s.T.map tpO)) Unit (fun _ => .pointer (some ⟨c, 0, none⟩)) (fun _ => rcl m q tv gv (s.T.map tpO)) := fun tv gv => by
      have h := hlv0 tv gv; rw [hth] at h; exact h
    clear hlv0
    obtain ⟨htk, htt, htx⟩ := hok.t x.t.toNat c _ (by omega) hst
    have hph3 := htk.ph
    have hwt := htk.wt
    simp only at hph3 htx hwt
    have hself : s.T.set x.t.toNat (some (c, ⟨r, k, ⟨it, ph⟩⟩)) = s.T := set_self hj4 hst
    have hrt : rths s.T = rthr c ⟨r, k, ⟨it, ph⟩⟩ * rths (s.T.eraseIdx x.t.toNat) := by rw [rths_at s.T x.t.toNat hj4, hst]; rfl
    have key : ∀ e : Int, (∀ p : SV × Nat, doG p.1 p.2 q s x full = (s, e, 0)) → ((x.k = 2 ∧ e = 2) ∨ (x.k = 0 ∧ ((ph ≠ 0 ∧ e = 3) ∨ (ph = 0 ∧ ¬ (0 ≤ x.c ∧ x.c < 13) ∧ e = 1))) ∨ (x.k = 1 ∧ ph = 0 ∧ e = 3) ∨ (x.k = 3 ∧ ph ≠ 0 ∧ e = 3) ∨ (x.k ≠ 0 ∧ x.k ≠ 1 ∧ x.k ≠ 2 ∧ x.k ≠ 3 ∧ e = 0)) →
        Fn Tryd.prog 15 [.pointer (some ⟨m, 0, none⟩), .agg x.cs.toArray, .bool full] (rgh m q s) (SV × Nat) (fun p => .tuple #[vi (doG p.1 p.2 q s x full).2.1, vi (doG p.1 p.2 q s x full).2.2]) (fun p => rgh m q (doG p.1 p.2 q s x full).1) := fun e hdo hk => by
      simp only [hdo]
      clear hdo hok
      rcases hk with ⟨hk, rfl⟩ | ⟨hk, ⟨hp, rfl⟩ | ⟨hp, hc, rfl⟩⟩ | ⟨hk, hp, rfl⟩ | ⟨hk, hp, rfl⟩ | ⟨hk, hk1, hk2, hk3, rfl⟩
      · have hc : 0 ≤ x.t ∧ x.t < q.threads := by omega
        all_goals (refine Fn.of Tryd.func15 rfl (by kernel_rfl) Tryd.ntmps15 rfl (fun F => ?_))
        all_goals refine Cw.opn (rgh_ex m q s) (fun y => ?_)
        all_goals obtain ⟨tv, gv⟩ := y
        all_goals have hlv := hlv1 tv gv
        all_goals dsimp only
        all_goals (refine Cw.heq (by simp only [star_assoc, emp_star, star_emp]; exact rfl) ?_)
        all_goals (repeat' (first | (refine Ow.is ?_; (first | refine Ow.pu rfl (Pu.fld rfl) ?_ | refine Ow.nil ?_ | refine Ow.pu rfl (Pu.move rfl) ?_ | refine Ow.pu rfl (Pu.assign rfl) ?_ | refine Ow.pu rfl (Pu.fld rfl) ?_ | refine Ow.pu rfl (Pu.nilCheck rfl) ?_ | refine Ow.pu rfl (Pu.extract rfl rfl) ?_ | (refine Ow.kLoad ?_; (first | refine Ow.pu rfl (Pu.load_cl rfl pkA rfl) ?_ | refine Ow.pu rfl (Pu.loadN_cl rfl pkA rfl rfl) ?_)) | (refine Ow.kBin ?_; (first | (refine Ow.b_eql ?_; (first | refine Ow.pu rfl (Pu.eq_t rfl rfl roA) ?_ | refine Ow.pu rfl (Pu.eq_f rfl rfl odA) ?_ | refine Ow.pu rfl (Pu.eqNil rfl rfl) ?_)) | (refine Ow.b_neq ?_; (first | refine Ow.pu rfl (Pu.ne_t rfl rfl odA) ?_ | refine Ow.pu rfl (Pu.ne_f rfl rfl roA) ?_ | refine Ow.pu rfl (Pu.neNil rfl rfl) ?_)))) | (refine Ow.kUn ?_; (first | refine Ow.pu rfl (Pu.not rfl) ?_)) | (refine Ow.kStore ?_; (first | refine Ow.store_cl rfl rfl rfl (by (first | rfl | assumption | exact Subtype.property _)) pkA rfl ?_ | refine Ow.storeN rfl rfl rfl rfl rfl pkA rfl ?_)) | (refine Ow.kCall ?_; (first | refine Ow.callE evA (pk2' pkA (pk2' pkA (pk2' pkA (pk2' pkA (pk2' pkA (pk2' pkA pkA)))))) rfl hact (fun w => ?_) | refine Ow.callE0 evA rfl (in_t _ _ (by omega)) (fun _ => Ow.unemp ?_) | refine Ow.callE0 evA rfl (in_f _ _ (by omega)) (fun _ => Ow.unemp ?_) | refine Ow.callE evA pkA rfl hlv (fun _ => ?_) | fail)) | refine Ow.box rfl rfl rfl (fun bx => ?_))) | (refine Cw.is ?_; (first | refine Cw.seq ?_ | refine Cw.region ?_ | refine Cw.cond_t rfl rfl ?_ | refine Cw.cond_f rfl rfl ?_ | refine Cw.block ?_ | refine Cw.ret ?_ | refine Cw.skip ?_ | refine Cw.drawL (n := 105) (id := 22) [(0, false), (1, false), (2, false), (3, false), (4, false), (5, false), (6, false), (7, true), (8, false), (9, false), (10, false), (11, false), (12, false)] mixed (by kernel_rfl) ?_)) | (first | refine thenQ_n ?_ | refine thenQ_r ?_ | refine blockQ_n ?_ | refine blockQ_r ?_ | (refine loudQ.is ?_; first | refine loudQ.go pkA ?_ | refine loudQ.goE (by ac_rfl) ?_)) | (refine Dw.is ?_; (first | refine Dw.q rfl rfl trivial (by (first | exact Pu.move rfl | exact Pu.assign rfl | exact Pu.fld rfl | exact Pu.nilCheck rfl | exact Pu.extract rfl rfl | exact Pu.build (ps := [(0, .tmp 84)]) (vs := [fv.v]) (cs := fv.v :: .slice none 0 0 :: vi 0 :: it0.cs) evA (fun w => by kernel_rfl) | (apply Pu.kLoad; (first | exact Pu.load_cl rfl pkA rfl | exact Pu.loadN_cl rfl pkA rfl rfl)) | (apply Pu.kUn; (first | exact Pu.not rfl)) | (apply Pu.kBin; (first | (apply Pu.b_neq; (first | exact Pu.ne_t rfl rfl odA | exact Pu.ne_f rfl rfl roA | exact Pu.neNil rfl rfl)))) | (apply Pu.kPick; (first | exact Pu.pick_t rfl rfl | exact Pu.pick_f rfl rfl)))) ?_ | refine Dw.q rfl rfl ⟨_, _, rfl, rfl, rfl⟩ (by (first | exact Pu.move rfl | exact Pu.assign rfl | exact Pu.fld rfl | exact Pu.nilCheck rfl | exact Pu.extract rfl rfl | exact Pu.build (ps := [(0, .tmp 84)]) (vs := [fv.v]) (cs := fv.v :: .slice none 0 0 :: vi 0 :: it0.cs) evA (fun w => by kernel_rfl) | (apply Pu.kLoad; (first | exact Pu.load_cl rfl pkA rfl | exact Pu.loadN_cl rfl pkA rfl rfl)) | (apply Pu.kUn; (first | exact Pu.not rfl)) | (apply Pu.kBin; (first | (apply Pu.b_neq; (first | exact Pu.ne_t rfl rfl odA | exact Pu.ne_f rfl rfl roA | exact Pu.neNil rfl rfl)))) | (apply Pu.kPick; (first | exact Pu.pick_t rfl rfl | exact Pu.pick_f rfl rfl)))) ?_ | refine Dw.s rfl rfl rfl rfl rfl ?_ | refine Dw.nilE ?_ rfl | refine Dw.lE rfl trivial ?_ | refine Dw.lE rfl ⟨_, _, rfl, rfl, rfl⟩ ?_))))
        all_goals refine retQ_v2 default Tryd.results15 rfl rfl rfl ?_
        all_goals refine Ent.trans ?_ (Ent.left (rgh_mk m q s.O s.G s.T tv gv))
        all_goals ((try simp only [star_assoc]); (repeat (apply Ent.pk; focus ((repeat first | exact pk0 | exact pkl | apply pkn); first | done | fail))); first | exact Ent.fin pkA | exact Ent.refl _)
      all_goals (refine Fn.of Tryd.func15 rfl (by kernel_rfl) Tryd.ntmps15 rfl (fun F => ?_))
      all_goals refine Cw.opn (rgh_ex m q s) (fun y => ?_)
      all_goals obtain ⟨tv, gv⟩ := y
      all_goals have hlv := hlv1 tv gv
      all_goals dsimp only
      all_goals rw [hrt]
      all_goals (refine Cw.heq (by simp only [star_assoc, emp_star, star_emp]; exact rfl) ?_)
      all_goals refine Cw.pkd (A := rthr c ⟨r, k, ⟨it, ph⟩⟩) pkA ?_
      all_goals refine Cw.opn (rthr_ex c ⟨r, k, ⟨it, ph⟩⟩) (fun z => ?_)
      all_goals obtain ⟨rv, kv⟩ := z
      all_goals dsimp only
      all_goals (refine Cw.heq (by simp only [star_assoc, emp_star, star_emp]; exact rfl) ?_)
      all_goals (repeat' (first | (refine Ow.is ?_; (first | refine Ow.pu rfl (Pu.fld rfl) ?_ | refine Ow.nil ?_ | refine Ow.pu rfl (Pu.move rfl) ?_ | refine Ow.pu rfl (Pu.assign rfl) ?_ | refine Ow.pu rfl (Pu.fld rfl) ?_ | refine Ow.pu rfl (Pu.nilCheck rfl) ?_ | refine Ow.pu rfl (Pu.extract rfl rfl) ?_ | (refine Ow.kLoad ?_; (first | refine Ow.pu rfl (Pu.load_cl rfl pkA rfl) ?_ | refine Ow.pu rfl (Pu.loadN_cl rfl pkA rfl rfl) ?_)) | (refine Ow.kBin ?_; (first | (refine Ow.b_eql ?_; (first | refine Ow.pu rfl (Pu.eq_t rfl rfl roA) ?_ | refine Ow.pu rfl (Pu.eq_f rfl rfl odA) ?_ | refine Ow.pu rfl (Pu.eqNil rfl rfl) ?_)) | (refine Ow.b_neq ?_; (first | refine Ow.pu rfl (Pu.ne_t rfl rfl odA) ?_ | refine Ow.pu rfl (Pu.ne_f rfl rfl roA) ?_ | refine Ow.pu rfl (Pu.neNil rfl rfl) ?_)))) | (refine Ow.kUn ?_; (first | refine Ow.pu rfl (Pu.not rfl) ?_)) | (refine Ow.kStore ?_; (first | refine Ow.store_cl rfl rfl rfl (by (first | rfl | assumption | exact Subtype.property _)) pkA rfl ?_ | refine Ow.storeN rfl rfl rfl rfl rfl pkA rfl ?_)) | (refine Ow.kCall ?_; (first | refine Ow.callE evA (pk2' pkA (pk2' pkA (pk2' pkA (pk2' pkA (pk2' pkA (pk2' pkA pkA)))))) rfl hact (fun w => ?_) | refine Ow.callE0 evA rfl (in_t _ _ (by omega)) (fun _ => Ow.unemp ?_) | refine Ow.callE0 evA rfl (in_f _ _ (by omega)) (fun _ => Ow.unemp ?_) | refine Ow.callE evA pkA rfl hlv (fun _ => ?_) | fail)) | refine Ow.box rfl rfl rfl (fun bx => ?_))) | (refine Cw.is ?_; (first | refine Cw.seq ?_ | refine Cw.region ?_ | refine Cw.cond_t rfl rfl ?_ | refine Cw.cond_f rfl rfl ?_ | refine Cw.block ?_ | refine Cw.ret ?_ | refine Cw.skip ?_ | refine Cw.drawL (n := 105) (id := 22) [(0, false), (1, false), (2, false), (3, false), (4, false), (5, false), (6, false), (7, true), (8, false), (9, false), (10, false), (11, false), (12, false)] mixed (by kernel_rfl) ?_)) | (first | refine thenQ_n ?_ | refine thenQ_r ?_ | refine blockQ_n ?_ | refine blockQ_r ?_ | (refine loudQ.is ?_; first | refine loudQ.go pkA ?_ | refine loudQ.goE (by ac_rfl) ?_)) | (refine Dw.is ?_; (first | refine Dw.q rfl rfl trivial (by (first | exact Pu.move rfl | exact Pu.assign rfl | exact Pu.fld rfl | exact Pu.nilCheck rfl | exact Pu.extract rfl rfl | exact Pu.idxA_b rfl rfl (by omega) | exact Pu.build (ps := [(0, .tmp 84)]) (vs := [fv.v]) (cs := fv.v :: .slice none 0 0 :: vi 0 :: it0.cs) evA (fun w => by kernel_rfl) | (apply Pu.kLoad; (first | exact Pu.load_cl rfl pkA rfl | exact Pu.loadN_cl rfl pkA rfl rfl)) | (apply Pu.kUn; (first | exact Pu.not rfl)) | (apply Pu.kBin; (first | (apply Pu.b_neq; (first | exact Pu.ne_t rfl rfl odA | exact Pu.ne_f rfl rfl roA | exact Pu.neNil rfl rfl)))) | (apply Pu.kPick; (first | exact Pu.pick_t rfl rfl | exact Pu.pick_f rfl rfl)))) ?_ | refine Dw.q rfl rfl ⟨_, _, rfl, rfl, rfl⟩ (by (first | exact Pu.move rfl | exact Pu.assign rfl | exact Pu.fld rfl | exact Pu.nilCheck rfl | exact Pu.extract rfl rfl | exact Pu.idxA_b rfl rfl (by omega) | exact Pu.build (ps := [(0, .tmp 84)]) (vs := [fv.v]) (cs := fv.v :: .slice none 0 0 :: vi 0 :: it0.cs) evA (fun w => by kernel_rfl) | (apply Pu.kLoad; (first | exact Pu.load_cl rfl pkA rfl | exact Pu.loadN_cl rfl pkA rfl rfl)) | (apply Pu.kUn; (first | exact Pu.not rfl)) | (apply Pu.kBin; (first | (apply Pu.b_neq; (first | exact Pu.ne_t rfl rfl odA | exact Pu.ne_f rfl rfl roA | exact Pu.neNil rfl rfl)))) | (apply Pu.kPick; (first | exact Pu.pick_t rfl rfl | exact Pu.pick_f rfl rfl)))) ?_ | refine Dw.s rfl rfl rfl rfl rfl ?_ | refine Dw.nilE ?_ rfl | refine Dw.lE rfl trivial ?_ | refine Dw.lE rfl ⟨_, _, rfl, rfl, rfl⟩ ?_))))
      all_goals refine retQ_v2 default Tryd.results15 rfl rfl rfl ?_
      all_goals rw [show rgh m q s = rgh m q ⟨s.O, s.G, s.T.set x.t.toNat (some (c, ⟨r, k, ⟨it, ph⟩⟩))⟩ by rw [hself]]
      all_goals refine Ent.trans ?_ (Ent.left (rgh_mkt m q s.O s.G s.T tv gv c x.t.toNat _ hj4 hst r k it ph rv kv))
      all_goals ((try simp only [star_assoc]); (repeat (apply Ent.pk; focus ((repeat first | exact pk0 | exact pkl | apply pkn); first | done | fail))); first | exact Ent.fin pkA | exact Ent.refl _)
    have hdo0 : ∀ p : SV × Nat, doG p.1 p.2 q s x full = if x.k = 2 then (s, 2, 0) else if x.k = 0 ∨ x.k = 1 ∨ x.k = 3 then (if (x.k = 1 ∧ ph = 0) ∨ (x.k ≠ 1 ∧ ph ≠ 0) then (s, 3, 0)
        else if x.k = 3 then ({ s with T := s.T.set x.t.toNat none }, 0, 0)
        else if x.k = 0 then (if 0 ≤ x.c ∧ x.c < 13 then ({ s with T := s.T.set x.t.toNat (some (c, ⟨r, k, ⟨x, 1⟩⟩)) }, 0, 0) else (s, 1, 0))
        else if ph = 1 then
          (⟨(actR p.1 q s.O s.G r k it full).O, (actR p.1 q s.O s.G r k it full).G, s.T.set x.t.toNat (some (c, ⟨(actR p.1 q s.O s.G r k it full).r, (actR p.1 q s.O s.G r k it full).s, ⟨it, 2⟩⟩))⟩, (actR p.1 q s.O s.G r k it full).e, (actR p.1 q s.O s.G r k it full).v)
        else ({ s with T := s.T.set x.t.toNat (some (c, ⟨r, k, ⟨it, 0⟩⟩)) }, 0, 0)) else (s, 0, 0) := fun p => by
      unfold doG
      by_cases h2 : x.k = 2
      · rw [if_pos h2, if_pos h2, if_neg (fun h => by rw [hth] at h; cases h.2)]
      · rw [if_neg h2, if_neg h2, hth]
    by_cases h2 : x.k = 2
    · exact key 2 (fun p => by rw [hdo0, if_pos h2]) (by omega)
    simp only [if_neg h2] at hdo0
    by_cases hk : x.k = 0 ∨ x.k = 1 ∨ x.k = 3
    · simp only [if_pos hk] at hdo0
      by_cases hb : (x.k = 1 ∧ ph = 0) ∨ (x.k ≠ 1 ∧ ph ≠ 0)
      · exact key 3 (fun p => by rw [hdo0, if_pos hb]) (by omega)
      simp only [if_neg hb] at hdo0
      by_cases hk3 : x.k = 3
      · simp only [if_pos hk3] at hdo0
        simp only [hdo0]
        clear key hdo0
        have hp0 : ph = 0 := by omega
        (refine Fn.of Tryd.func15 rfl (by kernel_rfl) Tryd.ntmps15 rfl (fun F => ?_))
        refine Cw.opn (rgh_ex m q s) (fun y => ?_)
        obtain ⟨tv, gv⟩ := y
        have hlv := hlv1 tv gv
        dsimp only
        rw [hrt]
        (refine Cw.heq (by simp only [star_assoc, emp_star, star_emp]; exact rfl) ?_)
        refine Cw.pkd (A := rthr c ⟨r, k, ⟨it, ph⟩⟩) pkA ?_
        refine Cw.opn (rthr_ex c ⟨r, k, ⟨it, ph⟩⟩) (fun z => ?_)
        obtain ⟨rv, kv⟩ := z
        dsimp only
        (refine Cw.heq (by simp only [star_assoc, emp_star, star_emp]; exact rfl) ?_)
        have hwr := rcl_w m q tv gv (s.T.map tpO) (i := x.t.toNat) (u := .pointer none) (by simpa using hj4)
        (repeat' (first | (refine Ow.is ?_; (first | refine Ow.pu rfl (Pu.fld rfl) ?_ | refine Ow.nil ?_ | refine Ow.pu rfl (Pu.move rfl) ?_ | refine Ow.pu rfl (Pu.assign rfl) ?_ | refine Ow.pu rfl (Pu.fld rfl) ?_ | (refine Ow.kLoad ?_; (first | refine Ow.pu rfl (Pu.load_cl rfl pkA rfl) ?_)) | (refine Ow.kBin ?_; (first | (refine Ow.b_eql ?_; (first | refine Ow.pu rfl (Pu.eq_t rfl rfl roA) ?_ | refine Ow.pu rfl (Pu.eq_f rfl rfl odA) ?_ | refine Ow.pu rfl (Pu.eqNil rfl rfl) ?_)))) | (refine Ow.kCall ?_; (first | refine Ow.callE evA pkA rfl hlv (fun _ => ?_) | fail)) | refine Ow.box rfl rfl rfl (fun bx => ?_))) | (refine Cw.is ?_; (first | refine Cw.seq ?_ | refine Cw.region ?_ | refine Cw.cond_t rfl rfl ?_ | refine Cw.cond_f rfl rfl ?_ | refine Cw.block ?_ | refine Cw.ret ?_ | refine Cw.skip ?_)) | (first | refine thenQ_n ?_ | refine thenQ_r ?_ | refine blockQ_n ?_ | refine blockQ_r ?_)))
        (repeat' (first | (refine Ow.is ?_; (first | refine Ow.nil ?_ | refine Ow.pu rfl (Pu.assign rfl) ?_ | (refine Ow.kBin ?_; (first | (refine Ow.b_eql ?_; (first | refine Ow.pu rfl (Pu.eq_t rfl rfl roA) ?_ | refine Ow.pu rfl (Pu.eq_f rfl rfl odA) ?_)))))) | (refine Cw.is ?_; (first | refine Cw.seq ?_ | refine Cw.region ?_ | refine Cw.cond_t rfl rfl ?_ | refine Cw.cond_f rfl rfl ?_ | refine Cw.block ?_ | refine Cw.ret ?_ | refine Cw.skip ?_)) | (first | refine thenQ_n ?_ | refine thenQ_r ?_ | refine blockQ_n ?_ | refine blockQ_r ?_)))
        (repeat' (first | (refine Ow.is ?_; (first | refine Ow.nil ?_ | refine Ow.pu rfl (Pu.assign rfl) ?_ | (refine Ow.kBin ?_; (first | (refine Ow.b_eql ?_; (first | refine Ow.pu rfl (Pu.eq_t rfl rfl roA) ?_ | refine Ow.pu rfl (Pu.eq_f rfl rfl odA) ?_)))))) | (refine Cw.is ?_; (first | refine Cw.seq ?_ | refine Cw.region ?_ | refine Cw.cond_t rfl rfl ?_ | refine Cw.cond_f rfl rfl ?_ | refine Cw.block ?_ | refine Cw.ret ?_ | refine Cw.skip ?_)) | (first | refine thenQ_n ?_ | refine thenQ_r ?_ | refine blockQ_n ?_ | refine blockQ_r ?_)))
        (repeat' (first | (refine Ow.is ?_; (first | refine Ow.pu rfl (Pu.fld rfl) ?_ | refine Ow.nil ?_ | refine Ow.pu rfl (Pu.move rfl) ?_ | refine Ow.pu rfl (Pu.assign rfl) ?_ | refine Ow.pu rfl (Pu.fld rfl) ?_ | refine Ow.pu rfl (Pu.nilCheck rfl) ?_ | (refine Ow.kLoad ?_; (first | refine Ow.pu rfl (Pu.load_cl rfl pkA rfl) ?_)) | (refine Ow.kBin ?_; (first | (refine Ow.b_eql ?_; (first | refine Ow.pu rfl (Pu.eq_t rfl rfl roA) ?_ | refine Ow.pu rfl (Pu.eq_f rfl rfl odA) ?_ | refine Ow.pu rfl (Pu.eqNil rfl rfl) ?_)) | (refine Ow.b_neq ?_; (first | refine Ow.pu rfl (Pu.ne_t rfl rfl odA) ?_ | refine Ow.pu rfl (Pu.ne_f rfl rfl roA) ?_)))))) | (refine Cw.is ?_; (first | refine Cw.seq ?_ | refine Cw.region ?_ | refine Cw.cond_t rfl rfl ?_ | refine Cw.cond_f rfl rfl ?_ | refine Cw.block ?_ | refine Cw.ret ?_ | refine Cw.skip ?_)) | (first | refine thenQ_n ?_ | refine thenQ_r ?_ | refine blockQ_n ?_ | refine blockQ_r ?_)))
        (refine Cw.drawF2 (rcl _ _ _ _ _) (cl bx _) 6 [(0, false), (1, false), (2, false), (3, false), (4, false), (5, false), (6, true)] pkA pkA mixed (by kernel_rfl) ?_; (iterate 6 ((first | refine DwF.q rfl rfl (by kernel_rfl) trivial (by (first | exact Pu.move rfl | exact Pu.assign rfl | exact Pu.fld rfl | exact Pu.nilCheck rfl | exact Pu.extract rfl rfl | exact Pu.idxA_b rfl rfl (by omega) | exact Pu.build (ps := [(0, .tmp 84)]) (vs := [fv.v]) (cs := fv.v :: .slice none 0 0 :: vi 0 :: it0.cs) evA (fun w => by kernel_rfl) | (apply Pu.kLoad; (first | exact Pu.load_cl rfl pkA rfl | exact Pu.loadN_cl rfl pkA rfl rfl)) | (apply Pu.kUn; (first | exact Pu.not rfl)) | (apply Pu.kBin; (first | (apply Pu.b_neq; (first | exact Pu.ne_t rfl rfl odA | exact Pu.ne_f rfl rfl roA | exact Pu.neNil rfl rfl)))) | (apply Pu.kPick; (first | exact Pu.pick_t rfl rfl | exact Pu.pick_f rfl rfl)))) ?_ | refine DwF.q rfl rfl (by kernel_rfl) ⟨_, _, rfl, rfl, rfl⟩ (by (first | exact Pu.move rfl | exact Pu.assign rfl | exact Pu.fld rfl | exact Pu.nilCheck rfl | exact Pu.extract rfl rfl | exact Pu.idxA_b rfl rfl (by omega) | exact Pu.build (ps := [(0, .tmp 84)]) (vs := [fv.v]) (cs := fv.v :: .slice none 0 0 :: vi 0 :: it0.cs) evA (fun w => by kernel_rfl) | (apply Pu.kLoad; (first | exact Pu.load_cl rfl pkA rfl | exact Pu.loadN_cl rfl pkA rfl rfl)) | (apply Pu.kUn; (first | exact Pu.not rfl)) | (apply Pu.kBin; (first | (apply Pu.b_neq; (first | exact Pu.ne_t rfl rfl odA | exact Pu.ne_f rfl rfl roA | exact Pu.neNil rfl rfl)))) | (apply Pu.kPick; (first | exact Pu.pick_t rfl rfl | exact Pu.pick_f rfl rfl)))) ?_))); refine DwF.b rfl (by first | exact trivial | exact ⟨_, _, rfl, rfl, rfl⟩) rfl ?_; refine Ow.heq (star_assoc _ _ _) ?_; refine Ow.store (a := ⟨m, 0 + 12 + x.t.toNat * 1, none⟩) rfl rfl rfl rfl pkA hwr ?_; refine Ow.nil ?_; refine loudF.go ?_; refine DwF.nil ?_)
        (repeat' (first | (refine Ow.is ?_; (first | refine Ow.nil ?_ | refine Ow.pu rfl (Pu.assign rfl) ?_)) | (refine Cw.is ?_; (first | refine Cw.seq ?_ | refine Cw.region ?_ | refine Cw.cond_t rfl rfl ?_ | refine Cw.cond_f rfl rfl ?_ | refine Cw.block ?_ | refine Cw.ret ?_ | refine Cw.skip ?_)) | (first | refine thenQ_n ?_ | refine thenQ_r ?_ | refine blockQ_n ?_ | refine blockQ_r ?_)))
        refine retQ_v2 default Tryd.results15 rfl rfl rfl ?_
        refine Ent.trans ?_ (Ent.left (rgh_mkn m q s.O s.G s.T tv gv x.t.toNat hj4))
        ((try simp only [star_assoc]); (repeat (apply Ent.pk; focus ((repeat first | exact pk0 | exact pkl | apply pkn); first | done | fail))); first | exact Ent.fin pkA | exact Ent.refl _)
      simp only [if_neg hk3] at hdo0
      by_cases hk0 : x.k = 0
      · simp only [if_pos hk0] at hdo0
        have hp0 : ph = 0 := by omega
        by_cases hc : 0 ≤ x.c ∧ x.c < 13
        · simp only [if_pos hc] at hdo0
          simp only [hdo0]
          clear key hdo0
          (refine Fn.of Tryd.func15 rfl (by kernel_rfl) Tryd.ntmps15 rfl (fun F => ?_))
          refine Cw.opn (rgh_ex m q s) (fun y => ?_)
          obtain ⟨tv, gv⟩ := y
          have hlv := hlv1 tv gv
          dsimp only
          rw [hrt]
          (refine Cw.heq (by simp only [star_assoc, emp_star, star_emp]; exact rfl) ?_)
          refine Cw.pkd (A := rthr c ⟨r, k, ⟨it, ph⟩⟩) pkA ?_
          refine Cw.opn (rthr_ex c ⟨r, k, ⟨it, ph⟩⟩) (fun z => ?_)
          obtain ⟨rv, kv⟩ := z
          dsimp only
          (refine Cw.heq (by simp only [star_assoc, emp_star, star_emp]; exact rfl) ?_)
          (repeat' (first | (refine Ow.is ?_; (first | refine Ow.pu rfl (Pu.fld rfl) ?_ | refine Ow.nil ?_ | refine Ow.pu rfl (Pu.move rfl) ?_ | refine Ow.pu rfl (Pu.assign rfl) ?_ | refine Ow.pu rfl (Pu.fld rfl) ?_ | refine Ow.pu rfl (Pu.nilCheck rfl) ?_ | (refine Ow.kLoad ?_; (first | refine Ow.pu rfl (Pu.load_cl rfl pkA rfl) ?_)) | (refine Ow.kBin ?_; (first | (refine Ow.b_eql ?_; (first | refine Ow.pu rfl (Pu.eq_t rfl rfl roA) ?_ | refine Ow.pu rfl (Pu.eq_f rfl rfl odA) ?_ | refine Ow.pu rfl (Pu.eqNil rfl rfl) ?_)) | (refine Ow.b_neq ?_; (first | refine Ow.pu rfl (Pu.ne_t rfl rfl odA) ?_ | refine Ow.pu rfl (Pu.ne_f rfl rfl roA) ?_)))) | (refine Ow.kUn ?_; (first | refine Ow.pu rfl (Pu.not rfl) ?_)) | (refine Ow.kCall ?_; (first | refine Ow.callE0 evA rfl (in_t _ _ (by omega)) (fun _ => Ow.unemp ?_) | refine Ow.callE0 evA rfl (in_f _ _ (by omega)) (fun _ => Ow.unemp ?_) | refine Ow.callE evA pkA rfl hlv (fun _ => ?_) | fail)) | refine Ow.box rfl rfl rfl (fun bx => ?_))) | (refine Cw.is ?_; (first | refine Cw.seq ?_ | refine Cw.region ?_ | refine Cw.cond_t rfl rfl ?_ | refine Cw.cond_f rfl rfl ?_ | refine Cw.block ?_ | refine Cw.ret ?_ | refine Cw.skip ?_)) | (first | refine thenQ_n ?_ | refine thenQ_r ?_ | refine blockQ_n ?_ | refine blockQ_r ?_)))
          (refine Cw.drawF (cl bx _) 8 [(0, false), (1, false), (2, false), (3, false), (4, false), (5, true), (6, false), (7, false), (8, true)] pkA mixed (by kernel_rfl) ?_; (iterate 5 ((first | refine DwF.q rfl rfl (by kernel_rfl) trivial (by (first | exact Pu.move rfl | exact Pu.assign rfl | exact Pu.fld rfl | exact Pu.nilCheck rfl | exact Pu.extract rfl rfl | exact Pu.idxA_b rfl rfl (by omega) | exact Pu.build (ps := [(0, .tmp 84)]) (vs := [fv.v]) (cs := fv.v :: .slice none 0 0 :: vi 0 :: it0.cs) evA (fun w => by kernel_rfl) | (apply Pu.kLoad; (first | exact Pu.load_cl rfl pkA rfl | exact Pu.loadN_cl rfl pkA rfl rfl)) | (apply Pu.kUn; (first | exact Pu.not rfl)) | (apply Pu.kBin; (first | (apply Pu.b_neq; (first | exact Pu.ne_t rfl rfl odA | exact Pu.ne_f rfl rfl roA | exact Pu.neNil rfl rfl)))) | (apply Pu.kPick; (first | exact Pu.pick_t rfl rfl | exact Pu.pick_f rfl rfl)))) ?_ | refine DwF.q rfl rfl (by kernel_rfl) ⟨_, _, rfl, rfl, rfl⟩ (by (first | exact Pu.move rfl | exact Pu.assign rfl | exact Pu.fld rfl | exact Pu.nilCheck rfl | exact Pu.extract rfl rfl | exact Pu.idxA_b rfl rfl (by omega) | exact Pu.build (ps := [(0, .tmp 84)]) (vs := [fv.v]) (cs := fv.v :: .slice none 0 0 :: vi 0 :: it0.cs) evA (fun w => by kernel_rfl) | (apply Pu.kLoad; (first | exact Pu.load_cl rfl pkA rfl | exact Pu.loadN_cl rfl pkA rfl rfl)) | (apply Pu.kUn; (first | exact Pu.not rfl)) | (apply Pu.kBin; (first | (apply Pu.b_neq; (first | exact Pu.ne_t rfl rfl odA | exact Pu.ne_f rfl rfl roA | exact Pu.neNil rfl rfl)))) | (apply Pu.kPick; (first | exact Pu.pick_t rfl rfl | exact Pu.pick_f rfl rfl)))) ?_))); refine DwF.c rfl (by first | exact trivial | exact ⟨_, _, rfl, rfl, rfl⟩) rfl ?_; refine Ow.store_cl rfl rfl rfl (by (first | rfl | assumption | exact Subtype.property _)) pkA rfl ?_; refine Ow.nil ?_; refine loudG.go pkA ?_; (iterate 2 ((first | refine DwF.q rfl rfl (by kernel_rfl) trivial (by (first | exact Pu.move rfl | exact Pu.assign rfl | exact Pu.fld rfl | exact Pu.nilCheck rfl | exact Pu.extract rfl rfl | exact Pu.idxA_b rfl rfl (by omega) | exact Pu.build (ps := [(0, .tmp 84)]) (vs := [fv.v]) (cs := fv.v :: .slice none 0 0 :: vi 0 :: it0.cs) evA (fun w => by kernel_rfl) | (apply Pu.kLoad; (first | exact Pu.load_cl rfl pkA rfl | exact Pu.loadN_cl rfl pkA rfl rfl)) | (apply Pu.kUn; (first | exact Pu.not rfl)) | (apply Pu.kBin; (first | (apply Pu.b_neq; (first | exact Pu.ne_t rfl rfl odA | exact Pu.ne_f rfl rfl roA | exact Pu.neNil rfl rfl)))) | (apply Pu.kPick; (first | exact Pu.pick_t rfl rfl | exact Pu.pick_f rfl rfl)))) ?_ | refine DwF.q rfl rfl (by kernel_rfl) ⟨_, _, rfl, rfl, rfl⟩ (by (first | exact Pu.move rfl | exact Pu.assign rfl | exact Pu.fld rfl | exact Pu.nilCheck rfl | exact Pu.extract rfl rfl | exact Pu.idxA_b rfl rfl (by omega) | exact Pu.build (ps := [(0, .tmp 84)]) (vs := [fv.v]) (cs := fv.v :: .slice none 0 0 :: vi 0 :: it0.cs) evA (fun w => by kernel_rfl) | (apply Pu.kLoad; (first | exact Pu.load_cl rfl pkA rfl | exact Pu.loadN_cl rfl pkA rfl rfl)) | (apply Pu.kUn; (first | exact Pu.not rfl)) | (apply Pu.kBin; (first | (apply Pu.b_neq; (first | exact Pu.ne_t rfl rfl odA | exact Pu.ne_f rfl rfl roA | exact Pu.neNil rfl rfl)))) | (apply Pu.kPick; (first | exact Pu.pick_t rfl rfl | exact Pu.pick_f rfl rfl)))) ?_))); refine DwF.b rfl (by first | exact trivial | exact ⟨_, _, rfl, rfl, rfl⟩) rfl ?_; refine Ow.storeN rfl rfl rfl rfl rfl pkA rfl ?_; refine Ow.nil ?_; refine loudF.go ?_; refine DwF.nil ?_)
          (repeat' (first | (refine Ow.is ?_; (first | refine Ow.nil ?_ | refine Ow.pu rfl (Pu.assign rfl) ?_)) | (refine Cw.is ?_; (first | refine Cw.seq ?_ | refine Cw.region ?_ | refine Cw.cond_t rfl rfl ?_ | refine Cw.cond_f rfl rfl ?_ | refine Cw.block ?_ | refine Cw.ret ?_ | refine Cw.skip ?_)) | (first | refine thenQ_n ?_ | refine thenQ_r ?_ | refine blockQ_n ?_ | refine blockQ_r ?_)))
          refine retQ_v2 default Tryd.results15 rfl rfl rfl ?_
          refine Ent.trans ?_ (Ent.left (rgh_mkt m q s.O s.G s.T tv gv c x.t.toNat _ hj4 hst r k x 1 rv kv))
          ((try simp only [star_assoc]); (repeat (apply Ent.pk; focus ((repeat first | exact pk0 | exact pkl | apply pkn); first | done | fail))); first | exact Ent.fin pkA | exact Ent.refl _)
        · exact key 1 (fun p => by rw [hdo0, if_neg hc]) (by omega)
      have hk1 : x.k = 1 := by omega
      simp only [if_neg hk0] at hdo0
      by_cases hp1 : ph = 1
      · simp only [if_pos hp1] at hdo0
        simp only [hdo0]
        have hact0 := fun tv gv rv kv => ract_fn m q tv gv (s.T.map tpO) s.O s.G c rv kv 2 it r k full (by omega) hq8 (by simpa using hT) (by omega) htk.rl hok.gl htk.r htk.sl
        clear key hdo0
        (refine Fn.of Tryd.func15 rfl (by kernel_rfl) Tryd.ntmps15 rfl (fun F => ?_))
        refine Cw.opn (rgh_ex m q s) (fun y => ?_)
        obtain ⟨tv, gv⟩ := y
        have hlv := hlv1 tv gv
        dsimp only
        rw [hrt]
        (refine Cw.heq (by simp only [star_assoc, emp_star, star_emp]; exact rfl) ?_)
        refine Cw.pkd (A := rthr c ⟨r, k, ⟨it, ph⟩⟩) pkA ?_
        refine Cw.opn (rthr_ex c ⟨r, k, ⟨it, ph⟩⟩) (fun z => ?_)
        obtain ⟨rv, kv⟩ := z
        dsimp only
        (refine Cw.heq (by simp only [star_assoc, emp_star, star_emp]; exact rfl) ?_)
        have hact := hact0 tv gv rv kv
        (repeat' (first | (refine Ow.is ?_; (first | refine Ow.pu rfl (Pu.fld rfl) ?_ | refine Ow.nil ?_ | refine Ow.pu rfl (Pu.move rfl) ?_ | refine Ow.pu rfl (Pu.assign rfl) ?_ | refine Ow.pu rfl (Pu.fld rfl) ?_ | (refine Ow.kLoad ?_; (first | refine Ow.pu rfl (Pu.load_cl rfl pkA rfl) ?_)) | (refine Ow.kBin ?_; (first | (refine Ow.b_eql ?_; (first | refine Ow.pu rfl (Pu.eq_t rfl rfl roA) ?_ | refine Ow.pu rfl (Pu.eq_f rfl rfl odA) ?_ | refine Ow.pu rfl (Pu.eqNil rfl rfl) ?_)))) | (refine Ow.kCall ?_; (first | refine Ow.callE evA pkA rfl hlv (fun _ => ?_) | fail)) | refine Ow.box rfl rfl rfl (fun bx => ?_))) | (refine Cw.is ?_; (first | refine Cw.seq ?_ | refine Cw.region ?_ | refine Cw.cond_t rfl rfl ?_ | refine Cw.cond_f rfl rfl ?_ | refine Cw.block ?_ | refine Cw.ret ?_ | refine Cw.skip ?_)) | (first | refine thenQ_n ?_ | refine thenQ_r ?_ | refine blockQ_n ?_ | refine blockQ_r ?_)))
        (repeat' (first | (refine Ow.is ?_; (first | refine Ow.pu rfl (Pu.fld rfl) ?_ | refine Ow.nil ?_ | refine Ow.pu rfl (Pu.move rfl) ?_ | refine Ow.pu rfl (Pu.assign rfl) ?_ | refine Ow.pu rfl (Pu.fld rfl) ?_ | refine Ow.pu rfl (Pu.nilCheck rfl) ?_ | refine Ow.pu rfl (Pu.extract rfl rfl) ?_ | (refine Ow.kLoad ?_; (first | refine Ow.pu rfl (Pu.load_cl rfl pkA rfl) ?_)) | (refine Ow.kBin ?_; (first | (refine Ow.b_eql ?_; (first | refine Ow.pu rfl (Pu.eq_t rfl rfl roA) ?_ | refine Ow.pu rfl (Pu.eq_f rfl rfl odA) ?_ | refine Ow.pu rfl (Pu.eqNil rfl rfl) ?_)))) | (refine Ow.kStore ?_; (first | refine Ow.store_cl rfl rfl rfl (by (first | rfl | assumption | exact Subtype.property _)) pkA rfl ?_)) | (refine Ow.kCall ?_; (first | refine Ow.callE evA (pk2' pkA (pk2' pkA (pk2' pkA (pk2' pkA (pk2' pkA (pk2' pkA pkA)))))) rfl hact (fun w => ?_) | fail)))) | (refine Cw.is ?_; (first | refine Cw.seq ?_ | refine Cw.region ?_ | refine Cw.cond_t rfl rfl ?_ | refine Cw.cond_f rfl rfl ?_ | refine Cw.block ?_ | refine Cw.ret ?_ | refine Cw.skip ?_)) | (first | refine thenQ_n ?_ | refine thenQ_r ?_ | refine blockQ_n ?_ | refine blockQ_r ?_)))
        refine retQ_v2 (w.1, 0) Tryd.results15 rfl rfl rfl ?_
        refine Ent.trans ?_ (Ent.left (rgh_mkt m q (actR w.1 q s.O s.G r k it full).O (actR w.1 q s.O s.G r k it full).G s.T w.2.1 gv c x.t.toNat _ hj4 hst (actR w.1 q s.O s.G r k it full).r (actR w.1 q s.O s.G r k it full).s it 2 rv w.2.2))
        ((try simp only [star_assoc]); (repeat (apply Ent.pk; focus ((repeat first | exact pk0 | exact pkl | apply pkn); first | done | fail))); first | exact Ent.fin pkA | exact Ent.refl _)
      · simp only [if_neg hp1] at hdo0
        simp only [hdo0]
        clear key hdo0
        have hp2 : ph = 2 := by omega
        (refine Fn.of Tryd.func15 rfl (by kernel_rfl) Tryd.ntmps15 rfl (fun F => ?_))
        refine Cw.opn (rgh_ex m q s) (fun y => ?_)
        obtain ⟨tv, gv⟩ := y
        have hlv := hlv1 tv gv
        dsimp only
        rw [hrt]
        (refine Cw.heq (by simp only [star_assoc, emp_star, star_emp]; exact rfl) ?_)
        refine Cw.pkd (A := rthr c ⟨r, k, ⟨it, ph⟩⟩) pkA ?_
        refine Cw.opn (rthr_ex c ⟨r, k, ⟨it, ph⟩⟩) (fun z => ?_)
        obtain ⟨rv, kv⟩ := z
        dsimp only
        (refine Cw.heq (by simp only [star_assoc, emp_star, star_emp]; exact rfl) ?_)
        (repeat' (first | (refine Ow.is ?_; (first | refine Ow.pu rfl (Pu.fld rfl) ?_ | refine Ow.nil ?_ | refine Ow.pu rfl (Pu.move rfl) ?_ | refine Ow.pu rfl (Pu.assign rfl) ?_ | refine Ow.pu rfl (Pu.fld rfl) ?_ | (refine Ow.kLoad ?_; (first | refine Ow.pu rfl (Pu.load_cl rfl pkA rfl) ?_)) | (refine Ow.kBin ?_; (first | (refine Ow.b_eql ?_; (first | refine Ow.pu rfl (Pu.eq_t rfl rfl roA) ?_ | refine Ow.pu rfl (Pu.eq_f rfl rfl odA) ?_ | refine Ow.pu rfl (Pu.eqNil rfl rfl) ?_)))) | (refine Ow.kCall ?_; (first | refine Ow.callE evA pkA rfl hlv (fun _ => ?_) | fail)) | refine Ow.box rfl rfl rfl (fun bx => ?_))) | (refine Cw.is ?_; (first | refine Cw.seq ?_ | refine Cw.region ?_ | refine Cw.cond_t rfl rfl ?_ | refine Cw.cond_f rfl rfl ?_ | refine Cw.block ?_ | refine Cw.ret ?_ | refine Cw.skip ?_)) | (first | refine thenQ_n ?_ | refine thenQ_r ?_ | refine blockQ_n ?_ | refine blockQ_r ?_)))
        (repeat' (first | (refine Ow.is ?_; (first | refine Ow.pu rfl (Pu.fld rfl) ?_ | refine Ow.nil ?_ | refine Ow.pu rfl (Pu.move rfl) ?_ | refine Ow.pu rfl (Pu.assign rfl) ?_ | refine Ow.pu rfl (Pu.fld rfl) ?_ | refine Ow.pu rfl (Pu.nilCheck rfl) ?_ | (refine Ow.kLoad ?_; (first | refine Ow.pu rfl (Pu.load_cl rfl pkA rfl) ?_)) | (refine Ow.kBin ?_; (first | (refine Ow.b_eql ?_; (first | refine Ow.pu rfl (Pu.eq_t rfl rfl roA) ?_ | refine Ow.pu rfl (Pu.eq_f rfl rfl odA) ?_ | refine Ow.pu rfl (Pu.eqNil rfl rfl) ?_)))) | (refine Ow.kStore ?_; (first | refine Ow.store_cl rfl rfl rfl (by (first | rfl | assumption | exact Subtype.property _)) pkA rfl ?_)))) | (refine Cw.is ?_; (first | refine Cw.seq ?_ | refine Cw.region ?_ | refine Cw.cond_t rfl rfl ?_ | refine Cw.cond_f rfl rfl ?_ | refine Cw.block ?_ | refine Cw.ret ?_ | refine Cw.skip ?_)) | (first | refine thenQ_n ?_ | refine thenQ_r ?_ | refine blockQ_n ?_ | refine blockQ_r ?_)))
        refine retQ_v2 default Tryd.results15 rfl rfl rfl ?_
        refine Ent.trans ?_ (Ent.left (rgh_mkt m q s.O s.G s.T tv gv c x.t.toNat _ hj4 hst r k it 0 rv kv))
        ((try simp only [star_assoc]); (repeat (apply Ent.pk; focus ((repeat first | exact pk0 | exact pkl | apply pkn); first | done | fail))); first | exact Ent.fin pkA | exact Ent.refl _)
    · exact key 0 (fun p => by rw [hdo0, if_neg hk]) (by omega)
end Go.Sl
namespace Go.Sl
open Go Go.Proofs
set_option linter.unusedVariables false
set_option linter.unusedSimpArgs false
attribute [local irreducible] star Ow Cw Pk Pu Dw DwF thenQ blockQ retQ loudQ loudF loudG Cr thr tab obs andI checkR
theorem rNew_fn (q : Cfg) (hq8 : QOk q) : Fn Tryd.prog 13 [q.v] emp Nat (fun m => .pointer (some ⟨m, 0, none⟩)) (fun m => rgh m q (gs0 q)) := by
  obtain ⟨gl, hgl⟩ : ∃ n : Nat, q.globals = n := ⟨q.globals.toNat, by have := hq8.gl; omega⟩
  have hg4 := hq8.gl
  (refine Fn.of Tryd.func13 rfl (by kernel_rfl) Tryd.ntmps13 rfl (fun F => ?_))
  refine Cw.heq (emp_star F) ?_
  (repeat' (first | (refine Ow.is ?_; (first | refine Ow.nil ?_ | refine Ow.pu rfl (Pu.assign rfl) ?_ | refine Ow.box rfl rfl rfl (fun bx => ?_))) | (refine Cw.is ?_; (first | refine Cw.seq ?_ | refine Cw.region ?_ | refine Cw.ret ?_)) | (first | refine thenQ_n ?_)))
  (refine Cw.draw1 (cl bx q.cs) false 0 [(0, false), (1, false), (2, false), (3, true), (4, false), (5, true), (6, false)] pkA mixed (by kernel_rfl) ?_; (repeat (first | refine Dw.q rfl rfl trivial (by (first | exact Pu.assign rfl | exact Pu.fld rfl | exact Pu.build (ps := [(0, .tmp 3), (3, .tmp 6)]) (vs := [.agg q.cs.toArray, gv.v]) (cs := q.cs ++ (.slice none 0 0 :: ([.pointer none, .pointer none, .pointer none, .pointer none] ++ [gv.v]))) evA (fun w => by kernel_rfl) | (apply Pu.kLoad; (first | exact Pu.load_cl rfl pkA rfl | exact Pu.loadN_cl rfl pkA rfl rfl)))) ?_ | refine Dw.q rfl rfl ⟨_, _, rfl, rfl, rfl⟩ (by (first | exact Pu.assign rfl | exact Pu.fld rfl | exact Pu.build (ps := [(0, .tmp 3), (3, .tmp 6)]) (vs := [.agg q.cs.toArray, gv.v]) (cs := q.cs ++ (.slice none 0 0 :: ([.pointer none, .pointer none, .pointer none, .pointer none] ++ [gv.v]))) evA (fun w => by kernel_rfl) | (apply Pu.kLoad; (first | exact Pu.load_cl rfl pkA rfl | exact Pu.loadN_cl rfl pkA rfl rfl)))) ?_)); refine Dw.l rfl (by first | exact trivial | exact ⟨_, _, rfl, rfl, rfl⟩) ?_; refine Ow.makeSlice (m := gl) rfl (by rw [← hgl]; rfl) (by rw [← hgl]; rfl) (by omega) (by rfl) (fun gv => ?_); refine Ow.nil ?_; refine loudQ.go pkA ?_; (repeat (first | refine Dw.q rfl rfl trivial (by (first | exact Pu.assign rfl | exact Pu.fld rfl | exact Pu.build (ps := [(0, .tmp 3), (3, .tmp 6)]) (vs := [.agg q.cs.toArray, gv.v]) (cs := q.cs ++ (.slice none 0 0 :: ([.pointer none, .pointer none, .pointer none, .pointer none] ++ [gv.v]))) evA (fun w => by kernel_rfl) | (apply Pu.kLoad; (first | exact Pu.load_cl rfl pkA rfl | exact Pu.loadN_cl rfl pkA rfl rfl)))) ?_ | refine Dw.q rfl rfl ⟨_, _, rfl, rfl, rfl⟩ (by (first | exact Pu.assign rfl | exact Pu.fld rfl | exact Pu.build (ps := [(0, .tmp 3), (3, .tmp 6)]) (vs := [.agg q.cs.toArray, gv.v]) (cs := q.cs ++ (.slice none 0 0 :: ([.pointer none, .pointer none, .pointer none, .pointer none] ++ [gv.v]))) evA (fun w => by kernel_rfl) | (apply Pu.kLoad; (first | exact Pu.load_cl rfl pkA rfl | exact Pu.loadN_cl rfl pkA rfl rfl)))) ?_)); refine Dw.l rfl (by first | exact trivial | exact ⟨_, _, rfl, rfl, rfl⟩) ?_; refine Ow.box rfl rfl rfl (fun m => ?_); refine Ow.nil ?_; refine loudQ.go pkA ?_; (repeat (first | refine Dw.q rfl rfl trivial (by (first | exact Pu.assign rfl | exact Pu.fld rfl | exact Pu.build (ps := [(0, .tmp 3), (3, .tmp 6)]) (vs := [.agg q.cs.toArray, gv.v]) (cs := q.cs ++ (.slice none 0 0 :: ([.pointer none, .pointer none, .pointer none, .pointer none] ++ [gv.v]))) evA (fun w => by kernel_rfl) | (apply Pu.kLoad; (first | exact Pu.load_cl rfl pkA rfl | exact Pu.loadN_cl rfl pkA rfl rfl)))) ?_ | refine Dw.q rfl rfl ⟨_, _, rfl, rfl, rfl⟩ (by (first | exact Pu.assign rfl | exact Pu.fld rfl | exact Pu.build (ps := [(0, .tmp 3), (3, .tmp 6)]) (vs := [.agg q.cs.toArray, gv.v]) (cs := q.cs ++ (.slice none 0 0 :: ([.pointer none, .pointer none, .pointer none, .pointer none] ++ [gv.v]))) evA (fun w => by kernel_rfl) | (apply Pu.kLoad; (first | exact Pu.load_cl rfl pkA rfl | exact Pu.loadN_cl rfl pkA rfl rfl)))) ?_)); refine Dw.nil ?_ rfl)
  (repeat' (first | (refine Ow.is ?_; (first | refine Ow.pu rfl (Pu.fld rfl) ?_ | refine Ow.nil ?_ | refine Ow.pu rfl (Pu.assign rfl) ?_ | refine Ow.pu rfl (Pu.fld rfl) ?_ | refine Ow.box rfl rfl rfl (fun bx => ?_))) | (refine Cw.is ?_; (first | refine Cw.seq ?_ | refine Cw.region ?_ | refine Cw.ret ?_)) | (first | refine thenQ_n ?_)))
  refine retQ_v m Tryd.results13 rfl rfl ?_
  refine Ent.trans ?_ (Ent.left (rgh_mk m q [] (List.replicate q.globals.toNat 0) [none, none, none, none] ⟨none, 0, 0⟩ gv))
  refine Ent.addnil 2 ?_
  rw [obs_nil, emp_star, rep_one, show q.globals.toNat = gl by omega, show List.replicate gl (Value.int .i64 0) = (List.replicate gl (0 : Int)).map vi by rw [List.map_replicate]]
  rw [show rths [none, none, none, none] = emp by show emp * (emp * (emp * (emp * emp))) = emp; simp only [emp_star], star_emp]
  ((try simp only [star_assoc]); (repeat (apply Ent.pk; focus ((repeat first | exact pk0 | exact pkl | apply pkn); first | done | fail))); first | exact Ent.fin pkA | exact Ent.refl _)
end Go.Sl
namespace Go.Sl
open Go Go.Proofs
set_option linter.unusedVariables false
set_option linter.unusedSectionVars false
section
variable {α β : Type} [Inhabited α] [Inhabited β]
def absO (O : List (Obj α)) : List (Obj Unit) := O.map fun o => ((), o.2)
def absT : Option (β × ThS) → Option (Unit × ThS)
  | none => none
  | some p => some ((), p.2)
def absG (s : GS α β) : GS Unit Unit := ⟨absO s.O, s.G, s.T.map absT⟩
theorem absO_len (O : List (Obj α)) : (absO O).length = O.length := by simp [absO]
theorem absO_at (O : List (Obj α)) (j : Nat) : ((absO O)[j]!).2 = (O[j]!).2 := by
  by_cases h : j < O.length
  · rw [getElem!_pos (absO O) j (by rw [absO_len]; exact h), getElem!_pos O j h]; simp [absO]
  · rw [getElem!_neg (absO O) j (by rw [absO_len]; exact h), getElem!_neg O j h]; rfl
theorem fldE_abs (O : List (Obj α)) (o i : Int) : fldE (absO O) o i = fldE O o i := by unfold fldE; rw [absO_at]
theorem fldV_abs (O : List (Obj α)) (o i : Int) : fldV (absO O) o i = fldV O o i := by unfold fldV; rw [absO_at]
theorem setF_abs (O : List (Obj α)) (o i v : Int) : setF (absO O) o i v = absO (setF O o i v) := by
  unfold setF absO
  rw [List.map_set]
  simp only
  rw [show (List.map (fun o : Obj α => (((), o.2) : Obj Unit)) O)[(o - 1).toNat]!.2 = O[(o - 1).toNat]!.2 from absO_at O _]
theorem setS_abs (O : List (Obj α)) (o v : Int) : setS (absO O) o v = absO (setS O o v) := by
  unfold setS absO
  rw [List.map_set]
  simp only
  rw [show (List.map (fun o : Obj α => (((), o.2) : Obj Unit)) O)[(o - 1).toNat]!.2 = O[(o - 1).toNat]!.2 from absO_at O _]
def absE (f : Ef α) : Ef Unit := ⟨absO f.O, f.G, f.r, f.s, f.e, f.v⟩
theorem actR_abs (b : α) (q : Cfg) (O : List (Obj α)) (G r s : List Int) (x : It) (full : Bool) : actR () q (absO O) G r s x full = absE (actR b q O G r s x full) := by
  unfold actR
  split
  · rfl
  split
  · unfold getR
    rw [fldE_abs, fldV_abs, absO_len]
    split
    · split
      · rfl
      · simp [absE, absO]
    split
    · split <;> rfl
    split
    · split <;> rfl
    · rfl
  · unfold plainR
    simp only
    rw [fldE_abs, setF_abs, setS_abs, absO_at]
    split
    · split <;> rfl
    split
    · split <;> rfl
    split
    · split <;> rfl
    split
    · rfl
    split
    · rfl
    split
    · rfl
    split
    · rfl
    split
    · split <;> rfl
    · rfl
theorem absT_at (T : List (Option (β × ThS))) (j : Nat) : (T.map absT)[j]! = absT T[j]! := by
  by_cases h : j < T.length
  · rw [getElem!_pos (T.map absT) j (by simpa using h), getElem!_pos T j h, List.getElem_map]
  · rw [getElem!_neg (T.map absT) j (by simpa using h), getElem!_neg T j h]; rfl
theorem thOf_abs (s : GS α β) (t : Int) : thOf (absG s) t = absT (thOf s t) := by
  unfold thOf absG
  simp only
  split
  · exact absT_at _ _
  · rfl
theorem doG_abs (a : α) (b : β) (q : Cfg) (s : GS α β) (x : It) (full : Bool) : doG () () q (absG s) x full = (absG (doG a b q s x full).1, (doG a b q s x full).2) := by
  unfold doG
  rw [thOf_abs]
  split
  · rw [show (absT (thOf s x.t)).isNone = (thOf s x.t).isNone by cases thOf s x.t <;> rfl]
    split
    · simp [absG, List.map_set, absT]
    · rfl
  split
  · cases hth : thOf s x.t with
    | none => rfl
    | some p =>
      obtain ⟨c, th⟩ := p
      simp only [absT]
      split
      · rfl
      split
      · simp [absG, List.map_set, absT]
      split
      · split
        · simp [absG, List.map_set, absT]
        · rfl
      split
      · have h := actR_abs a q s.O s.G th.r th.s th.w.it full
        simp only [absG]
        rw [h]
        simp [absE, List.map_set, absT]
      · simp [absG, List.map_set, absT]
  · rfl
end
end Go.Sl
namespace Go.Sl
open Go
section
variable {P : Program} {n s : Nat} {ρ : Env} {H R : HP} {t t' T e : TypeId} {x y : Operand} {v : Value} {bb : Nat} {zc : List Value} {α : Type}
theorem Pu.loadN_std [Inhabited α] {f : α → List Value} [TA : TyA P t true] [S : TyS P t s bb zc] [F : Fl f s] {L : List α} {j : Nat} {w : α} (hx : ev ρ x = some (.pointer (some ((sbase v).add (j * s))))) (hp : Pk H (slk s v (L.flatMap f)) R) (hj : j < L.length) (hw : L[j]! = w) :
    Pu P n ρ H (.load t x) t' (.agg (f w).toArray) := hw ▸ Pu.loadN_st hx hp hj
end
end Go.Sl
namespace Go.Sl
open Go Go.Proofs
set_option linter.unusedVariables false
set_option linter.unusedSimpArgs false
theorem eqI6 (x : It) : eqL [true, true, true, true, true, true] x.cs x.cs = some true := by simp [eqL, vi]
def atT {β : Type} : Option (β × ThS) → It × Int
  | some p => (if p.2.w.ph = 0 then it0 else p.2.w.it, p.2.w.ph)
  | none => (it0, 0)
theorem at_T (s : GS SV Nat) (t : Int) : atI s t = (atT (thOf s t)).1 ∧ atN s t = (atT (thOf s t)).2 := by
  unfold atI atN atT
  cases thOf s t <;> exact ⟨rfl, rfl⟩
theorem atT_abs {β : Type} (o : Option (β × ThS)) : atT (absT o) = atT o := by cases o <;> rfl
theorem at_abs {sa sb : GS SV Nat} (h : absG sa = absG sb) (t : Int) : atI sa t = (atT (thOf sb t)).1 ∧ atN sa t = (atT (thOf sb t)).2 := by
  have h1 := thOf_abs sa t
  rw [h, thOf_abs] at h1
  have h2 := congrArg atT h1
  rw [atT_abs, atT_abs] at h2
  rw [h2]
  exact at_T sa t
structure AtS where
  k : Nat
  sa : GS SV Nat
  sb : GS SV Nat
attribute [local irreducible] star Ow Cw Pk Pu Dw DwF thenQ blockQ retQ loudQ loudF loudG Cr thr tab obs andI bset lU stAt cn gpW gph gs0 actR madeR doG absG rgh rthr rths
set_option maxHeartbeats 16000000 in
theorem GraphAt_fn {A : HP} {kb ko kc : Nat} (hK : Kinds A kb ko kc) (l0 l1 l2 l3 l4 l5 : Int) (h0 : 0 ≤ l0 ∧ l0 ≤ 255) (h1 : 0 ≤ l1 ∧ l1 ≤ 255) (h2 : 0 ≤ l2 ∧ l2 ≤ 255) (h3 : 0 ≤ l3 ∧ l3 ≤ 255) (h4 : 0 ≤ l4 ∧ l4 ≤ 255) (h5 : 0 ≤ l5 ∧ l5 ≤ 255)
    (a1 : Option Addr) (c1 : Nat) (l : List Stp) (hl : l.length ≤ 1000000000000000) (hro : Ro A a1 l.length 7 (l.flatMap Stp.cs)) (hall : ∀ x ∈ l, StOk x) :
    Fn Tryd.prog 4 [l6v l0 l1 l2 l3 l4 l5, .slice a1 l.length c1] A Unit (fun _ => .bool true) (fun _ => A) := by
  have hq8 := made_ok l0 l1 l2 l3 l4 l5 h2
  have hmf := Made_fn l0 l1 l2 l3 l4 l5 h0 h1 h2 h3 h4 h5
  obtain ⟨q, hq⟩ : ∃ q, madeR l0 l1 l2 l3 l4 l5 = q := ⟨_, rfl⟩
  rw [hq] at hq8 hmf
  have hok0 := gs0_ok hq8
  (refine Fn.of Tryd.func4 rfl (by kernel_rfl) Tryd.ntmps4 rfl (fun F => ?_))
  (repeat' (first | (refine Ow.is ?_; (first | refine Ow.nil ?_ | refine Ow.pu rfl (Pu.move rfl) ?_ | refine Ow.pu rfl (Pu.assign rfl) ?_ | (refine Ow.kBin ?_; (first | (refine Ow.b_gtr ?_; first | refine Ow.pu rfl (Pu.gt_t rfl rfl (by omega)) ?_ | refine Ow.pu rfl (Pu.gt_f rfl rfl (by omega)) ?_ | refine Ow.sp rfl (by exact Pu.gt rfl rfl) (fun hc => ?_) (fun hc => ?_)))) | (refine Ow.kUn ?_; (first | refine Ow.pu rfl (Pu.not rfl) ?_)) | (refine Ow.kBuiltin ?_; (first | refine Ow.pu rfl (Pu.len_st rfl pkA) ?_ | refine Ow.pu rfl (Pu.len rfl) ?_)) | (refine Ow.kCall ?_; (first | refine Ow.callE evA pkA rfl (fit20_fn hK) (fun _ => ?_) | fail)) | refine Ow.box rfl rfl rfl (fun bx => ?_))) | (refine Cw.is ?_; (first | refine Cw.seq ?_ | refine Cw.region ?_ | refine Cw.cond_t rfl rfl ?_ | refine Cw.cond_f rfl rfl ?_ | refine Cw.block ?_ | refine Cw.ret ?_ | refine Cw.exit ?_ | refine Cw.skip ?_)) | (first | refine thenQ_n ?_ | refine thenQ_r ?_ | refine thenQ_e ?_ | refine blockQ_n ?_ | refine blockQ_e ?_)))
  · refine retQ_v () Tryd.results4 rfl rfl ?_; ((try simp only [star_assoc]); (repeat (apply Ent.pk; focus ((repeat first | exact pk0 | exact pkl | apply pkn); first | done | fail))); first | exact Ent.fin pkA | exact Ent.refl _)
  (refine Cw.draw1 (cl bx _) false 0 [(0, false), (3, false), (1, true), (2, true), (4, true), (5, true), (6, false), (7, false)] pkA mixed (by kernel_rfl) ?_; (repeat (first | refine Dw.q rfl rfl trivial (by (first | exact Pu.move rfl | exact Pu.assign rfl | exact Pu.fld rfl | exact Pu.nilCheck rfl | exact Pu.extract rfl rfl | exact Pu.idxA_b rfl rfl (by omega) | (apply Pu.kLoad; (first | exact Pu.load (a := ⟨mb, 0 + 12 + t.toNat * 1, none⟩) rfl pkA hpt | exact Pu.loadN_std rfl pkA (by omega) hx | exact Pu.load_cl rfl pkA rfl | exact Pu.loadN_cl rfl pkA rfl rfl)))) ?_ | refine Dw.q rfl rfl ⟨_, _, rfl, rfl, rfl⟩ (by (first | exact Pu.move rfl | exact Pu.assign rfl | exact Pu.fld rfl | exact Pu.nilCheck rfl | exact Pu.extract rfl rfl | exact Pu.idxA_b rfl rfl (by omega) | (apply Pu.kLoad; (first | exact Pu.load (a := ⟨mb, 0 + 12 + t.toNat * 1, none⟩) rfl pkA hpt | exact Pu.loadN_std rfl pkA (by omega) hx | exact Pu.load_cl rfl pkA rfl | exact Pu.loadN_cl rfl pkA rfl rfl)))) ?_)); refine Dw.l rfl (by first | exact trivial | exact ⟨_, _, rfl, rfl, rfl⟩) ?_; refine Ow.callE0 evA rfl hmf (fun _ => Ow.unemp ?_); refine Ow.nil ?_; refine loudQ.go pkA ?_; refine Dw.l rfl (by first | exact trivial | exact ⟨_, _, rfl, rfl, rfl⟩) ?_; refine Ow.callE0 evA rfl (GNew_fn _ hq8) (fun ga => ?_); refine Ow.nil ?_; refine loudQ.go pkA ?_; refine Dw.l rfl (by first | exact trivial | exact ⟨_, _, rfl, rfl, rfl⟩) ?_; refine Ow.callE0 evA rfl hmf (fun _ => Ow.unemp ?_); refine Ow.nil ?_; refine loudQ.go pkA ?_; refine Dw.l rfl (by first | exact trivial | exact ⟨_, _, rfl, rfl, rfl⟩) ?_; refine Ow.callE0 evA rfl (rNew_fn _ hq8) (fun mb => ?_); refine Ow.nil ?_; refine loudQ.go pkA ?_; (repeat (first | refine Dw.q rfl rfl trivial (by (first | exact Pu.move rfl | exact Pu.assign rfl | exact Pu.fld rfl | exact Pu.nilCheck rfl | exact Pu.extract rfl rfl | exact Pu.idxA_b rfl rfl (by omega) | (apply Pu.kLoad; (first | exact Pu.load (a := ⟨mb, 0 + 12 + t.toNat * 1, none⟩) rfl pkA hpt | exact Pu.loadN_std rfl pkA (by omega) hx | exact Pu.load_cl rfl pkA rfl | exact Pu.loadN_cl rfl pkA rfl rfl)))) ?_ | refine Dw.q rfl rfl ⟨_, _, rfl, rfl, rfl⟩ (by (first | exact Pu.move rfl | exact Pu.assign rfl | exact Pu.fld rfl | exact Pu.nilCheck rfl | exact Pu.extract rfl rfl | exact Pu.idxA_b rfl rfl (by omega) | (apply Pu.kLoad; (first | exact Pu.load (a := ⟨mb, 0 + 12 + t.toNat * 1, none⟩) rfl pkA hpt | exact Pu.loadN_std rfl pkA (by omega) hx | exact Pu.load_cl rfl pkA rfl | exact Pu.loadN_cl rfl pkA rfl rfl)))) ?_)); refine Dw.nil ?_ rfl)
  (repeat' (first | (refine Ow.is ?_; (first | refine Ow.nil ?_ | refine Ow.pu rfl (Pu.move rfl) ?_ | (refine Ow.kBuiltin ?_; (first | refine Ow.pu rfl (Pu.len_st rfl pkA) ?_ | refine Ow.pu rfl (Pu.len rfl) ?_)) | (refine Ow.kCall ?_; (first | refine Ow.callE evA pkA rfl (Items_fn hro (by omega) hall) (fun p => Ow.assoc ?_) | fail)))) | (refine Cw.is ?_; (first | refine Cw.seq ?_ | refine Cw.region ?_ | refine Cw.cond_t rfl rfl ?_ | refine Cw.cond_f rfl rfl ?_ | refine Cw.block ?_ | refine Cw.ret ?_ | refine Cw.exit ?_ | refine Cw.skip ?_)) | (first | refine thenQ_n ?_ | refine thenQ_r ?_ | refine thenQ_e ?_ | refine blockQ_n ?_ | refine blockQ_e ?_)))
  obtain ⟨nv, N, hNl, hNok⟩ := p
  dsimp only
  refine Cw.loopF [4, 8, 9, 10, 11, 12, 13, 28, 29, 30, 31, 32, 33, 34, 35, 36, 37, 38, 39, 40, 41, 42, 43, 44, 45, 46, 47, 48, 49, 50, 51, 52, 53, 54, 55, 56, 57, 58, 59, 60, 61, 62, 63, 64, 65, 66, 67, 68, 69, 70, 71, 72, 73, 74, 75, 76, 77, 78, 79, 80, 81, 82, 83, 84, 85, 86, 87, 88, 89, 90, 91, 92, 93, 94, 95, 96, 97, 98, 99, 100, 101, 102] (by (repeat first | exact er_nil | apply er_drop rfl | apply er_keep rfl)) (fun s : AtS => s.k ≤ N.length ∧ GsOk q s.sa ∧ GsOk q s.sb ∧ absG s.sa = absG s.sb ∧ s.sa.O.length ≤ s.k) (fun s => [(28, vi s.k)])
    (fun s => gph ga q s.sa * (rgh mb q s.sb * (slk 6 nv.v (N.flatMap It.cs) * (A * F)))) (fun s => N.length - s.k) ⟨0, gs0 q, gs0 q⟩ ⟨by simp, hok0, hok0, rfl, by unfold gs0; simp⟩ (by (repeat first | exact trivial | refine ⟨rfl, ?_⟩)) (by ((try simp only [star_assoc]); (repeat (apply Ent.pk; focus ((repeat first | exact pk0 | exact pkl | apply pkn); first | done | fail))); first | exact Ent.fin pkA | exact Ent.refl _)) (fun s hs => ?_)
  obtain ⟨k, sa, sb⟩ := s
  obtain ⟨hk, hoka, hokb, hab, hla⟩ := hs
  simp only at hk hoka hokb hab hla ⊢
  by_cases hkn : k < N.length
  · obtain ⟨x, hx⟩ : ∃ x, N[k]! = x := ⟨_, rfl⟩
    have hlb : sb.O.length ≤ 900000 := by
      have h1 := congrArg (fun s : GS Unit Unit => s.O.length) hab
      unfold absG at h1
      simp only [absO_len] at h1
      omega
    have hdok := fun pa : SV × Nat => doG_ok pa.1 pa.2 x false hoka hq8
    have hdokb := fun pb : SV × Nat => doG_ok pb.1 pb.2 x false hokb hq8
    have h21 : ∀ pa pb : SV × Nat, absG (doG pa.1 pa.2 q sa x false).1 = absG (doG pb.1 pb.2 q sb x false).1 := fun pa pb => by
      have e1 := doG_abs pa.1 pa.2 q sa x false
      have e2 := doG_abs pb.1 pb.2 q sb x false
      rw [hab, e2] at e1
      exact (congrArg Prod.fst e1).symm
    (repeat' (first | (refine Ow.is ?_; (first | refine Ow.nil ?_ | refine Ow.pu rfl (Pu.move rfl) ?_ | refine Ow.pu rfl (Pu.assign rfl) ?_ | (refine Ow.kLoad ?_; (first | refine Ow.pu rfl (Pu.load (a := ⟨mb, 0 + 12 + t.toNat * 1, none⟩) rfl pkA hpt) ?_ | refine Ow.pu rfl (Pu.loadN_std rfl pkA (by omega) hx) ?_ | refine Ow.pu rfl (Pu.loadN_cl rfl pkA rfl rfl) ?_)) | (refine Ow.kBin ?_; (first | (refine Ow.b_lss ?_; first | refine Ow.pu rfl (Pu.lt_t rfl rfl (by omega)) ?_ | refine Ow.pu rfl (Pu.lt_f rfl rfl (by omega)) ?_ | refine Ow.sp rfl (by exact Pu.lt rfl rfl) (fun hc => ?_) (fun hc => ?_)))) | (refine Ow.kStore ?_; (first | refine Ow.storeN rfl rfl rfl rfl rfl pkA rfl ?_)) | (refine Ow.kIdx ?_; (first | refine Ow.pu rfl (Pu.idxA_b rfl rfl (by omega)) ?_ | refine Ow.pu rfl (Pu.idx_stn rfl rfl pkA (by omega)) ?_ | refine Ow.pu rfl (Pu.idxA_b rfl rfl (by omega)) ?_)) | (refine Ow.kCall ?_; (first | refine Ow.callE evA pkA rfl (rDo_fn mb q sb x false hokb hlb hq8) (fun pb => ?_) | refine Ow.callE evA (pk2' pkA pkA) rfl (Do_fn hK ga q sa x false hoka (by omega) hq8) (fun pa => Ow.assoc ?_) | fail)) | refine Ow.alloc rfl (fun bx => ?_))) | (refine Cw.is ?_; (first | refine Cw.seq ?_ | refine Cw.region ?_ | refine Cw.cond_t rfl rfl ?_ | refine Cw.cond_f rfl rfl ?_ | refine Cw.block ?_ | refine Cw.ret ?_ | refine Cw.exit ?_ | refine Cw.skip ?_)) | (first | refine thenQ_n ?_ | refine thenQ_r ?_ | refine thenQ_e ?_ | refine blockQ_n ?_ | refine blockQ_e ?_)))
    have hoka' := (hdok pa).1
    have hokb' := (hdokb pb).1
    have hla' : (doG pa.1 pa.2 q sa x false).1.O.length ≤ k + 1 := by have := (hdok pa).2.2; omega
    have hab' := h21 pa pb
    obtain ⟨sa', hsa⟩ : ∃ s, (doG pa.1 pa.2 q sa x false).1 = s := ⟨_, rfl⟩
    obtain ⟨sb', hsb⟩ : ∃ s, (doG pb.1 pb.2 q sb x false).1 = s := ⟨_, rfl⟩
    rw [hsa] at hoka' hla' hab'
    rw [hsb] at hokb' hab'
    rw [hsa, hsb]
    clear hdok hdokb h21
    refine Cw.loopF [4, 9, 10, 11, 12, 13, 38, 39, 40, 41, 42, 43, 44, 45, 46, 47, 48, 49, 50, 51, 52, 53, 54, 55, 56, 57, 58, 59, 60, 61, 62, 63, 64, 65, 66, 67, 68, 69, 70, 71, 72, 73, 74, 75, 76, 77, 78, 79, 80, 81, 82, 83, 84, 85, 86, 87, 88, 89, 90, 91, 92, 93, 94, 95, 96, 97, 98, 99, 100, 101] (by (repeat first | exact er_nil | apply er_drop rfl | apply er_keep rfl)) (fun t : Int => -1 ≤ t ∧ t ≤ 5) (fun t => [(9, vi t)])
      (fun t => gph ga q sa' * (rgh mb q sb' * (slk 6 nv.v (N.flatMap It.cs) * (A * F)))) (fun t => (5 - t).toNat) (-1) ⟨by omega, by omega⟩ (by (repeat first | exact trivial | refine ⟨rfl, ?_⟩)) (by ((try simp only [star_assoc]); (repeat (apply Ent.pk; focus ((repeat first | exact pk0 | exact pkl | apply pkn); first | done | fail))); first | exact Ent.fin pkA | exact Ent.refl _)) (fun t ht => ?_)
    by_cases ht5 : t < 5
    · have hat := At_fn ga q sa' t hoka'
      obtain ⟨e1, e2⟩ := at_abs hab' t
      rw [e1, e2] at hat
      cases hth : thOf sb' t with
      | none =>
        rw [hth] at hat
        have hat : Fn Tryd.prog 16 [.pointer (some ⟨ga, 0, none⟩), vi t] (gph ga q sa') Unit (fun _ => .tuple #[.agg it0.cs.toArray, vi 0]) (fun _ => gph ga q sa') := hat
        by_cases h4 : 0 ≤ t ∧ t < 4
        · have hn : sb'.T[t.toNat]! = none := by
            rcases thOf_none hth with h | h
            · exact (h h4).elim
            · exact h.2
          have hTl := hokb'.tl
          refine Cw.pkd (A := rgh mb q sb') pkA ?_
          refine Cw.opn (rgh_ex mb q sb') (fun y => ?_)
          obtain ⟨tv, gv⟩ := y
          dsimp only
          (refine Cw.heq (by simp only [star_assoc, emp_star, star_emp]; exact rfl) ?_)
          have hpt := rcl_t mb q tv gv (sb'.T.map tpO) (i := t.toNat) (v := .pointer none) (by rw [List.getElem?_map, List.getElem?_eq_getElem (by omega), ← getElem!_pos sb'.T t.toNat (by omega), hn]; rfl)
          (repeat' (first | (refine Ow.is ?_; (first | refine Ow.nil ?_ | refine Ow.pu rfl (Pu.move rfl) ?_ | refine Ow.pu rfl (Pu.assign rfl) ?_ | (refine Ow.kBin ?_; (first | (refine Ow.b_lss ?_; first | refine Ow.pu rfl (Pu.lt_t rfl rfl (by omega)) ?_ | refine Ow.pu rfl (Pu.lt_f rfl rfl (by omega)) ?_ | refine Ow.sp rfl (by exact Pu.lt rfl rfl) (fun hc => ?_) (fun hc => ?_)) | (refine Ow.b_add ?_; refine Ow.pu rfl (Pu.add_i rfl rfl (by omega)) ?_))))) | (refine Cw.is ?_; (first | refine Cw.seq ?_ | refine Cw.region ?_ | refine Cw.cond_t rfl rfl ?_ | refine Cw.cond_f rfl rfl ?_ | refine Cw.block ?_ | refine Cw.ret ?_ | refine Cw.exit ?_ | refine Cw.skip ?_)) | (first | refine thenQ_n ?_ | refine thenQ_r ?_ | refine thenQ_e ?_ | refine blockQ_n ?_ | refine blockQ_e ?_)))
          (repeat' (first | (refine Ow.is ?_; (first | refine Ow.nil ?_ | refine Ow.pu rfl (Pu.move rfl) ?_ | refine Ow.pu rfl (Pu.assign rfl) ?_ | refine Ow.pu rfl (Pu.extract rfl rfl) ?_ | (refine Ow.kStore ?_; (first | refine Ow.storeN rfl rfl rfl rfl rfl pkA rfl ?_)) | (refine Ow.kCall ?_; (first | refine Ow.callE evA pkA rfl hat (fun _ => ?_) | fail)) | refine Ow.alloc rfl (fun bx => ?_))) | (refine Cw.is ?_; (first | refine Cw.seq ?_ | refine Cw.region ?_ | refine Cw.cond_t rfl rfl ?_ | refine Cw.cond_f rfl rfl ?_ | refine Cw.block ?_ | refine Cw.ret ?_ | refine Cw.exit ?_ | refine Cw.skip ?_)) | (first | refine thenQ_n ?_ | refine thenQ_r ?_ | refine thenQ_e ?_ | refine blockQ_n ?_ | refine blockQ_e ?_)))
          (repeat' (first | (refine Ow.is ?_; (first | (refine Ow.kBuild ?_; refine Ow.pu rfl (Pu.build (ps := []) (vs := []) (cs := it0.cs) trivial (fun w => by kernel_rfl)) ?_) | refine Ow.nil ?_ | refine Ow.pu rfl (Pu.assign rfl) ?_ | (refine Ow.kStore ?_; (first | refine Ow.storeN rfl rfl rfl rfl rfl pkA rfl ?_)) | (refine Ow.kBuild ?_; (first | fail)) | refine Ow.alloc rfl (fun bx => ?_))) | (refine Cw.is ?_; (first | refine Cw.seq ?_ | refine Cw.region ?_ | refine Cw.cond_t rfl rfl ?_ | refine Cw.cond_f rfl rfl ?_ | refine Cw.block ?_ | refine Cw.ret ?_ | refine Cw.exit ?_ | refine Cw.skip ?_)) | (first | refine thenQ_n ?_ | refine thenQ_r ?_ | refine thenQ_e ?_ | refine blockQ_n ?_ | refine blockQ_e ?_)))
          (repeat' (first | (refine Ow.is ?_; (first | refine Ow.pu rfl (Pu.fld rfl) ?_ | refine Ow.nil ?_ | refine Ow.pu rfl (Pu.move rfl) ?_ | refine Ow.pu rfl (Pu.assign rfl) ?_ | refine Ow.pu rfl (Pu.fld rfl) ?_ | refine Ow.pu rfl (Pu.nilCheck rfl) ?_ | (refine Ow.kGuard ?_; (first | refine Ow.guard_yes rfl rfl rfl ?_ | refine Ow.guard_no rfl rfl rfl rfl ?_)) | (refine Ow.kLoad ?_; (first | refine Ow.pu rfl (Pu.load (a := ⟨mb, 0 + 12 + t.toNat * 1, none⟩) rfl pkA hpt) ?_ | refine Ow.pu rfl (Pu.loadN_std rfl pkA (by omega) hx) ?_ | refine Ow.pu rfl (Pu.load_cl rfl pkA rfl) ?_ | refine Ow.pu rfl (Pu.loadN_cl rfl pkA rfl rfl) ?_)) | (refine Ow.kBin ?_; (first | (refine Ow.b_lss ?_; first | refine Ow.pu rfl (Pu.lt_t rfl rfl (by omega)) ?_ | refine Ow.pu rfl (Pu.lt_f rfl rfl (by omega)) ?_ | refine Ow.sp rfl (by exact Pu.lt rfl rfl) (fun hc => ?_) (fun hc => ?_)) | (refine Ow.b_gtr ?_; first | refine Ow.pu rfl (Pu.gt_t rfl rfl (by omega)) ?_ | refine Ow.pu rfl (Pu.gt_f rfl rfl (by omega)) ?_ | refine Ow.sp rfl (by exact Pu.gt rfl rfl) (fun hc => ?_) (fun hc => ?_)) | (refine Ow.b_geq ?_; first | refine Ow.pu rfl (Pu.ge_t rfl rfl (by omega)) ?_ | refine Ow.pu rfl (Pu.ge_f rfl rfl (by omega)) ?_ | refine Ow.sp rfl (by exact Pu.ge rfl rfl) (fun hc => ?_) (fun hc => ?_)) | (refine Ow.b_neq ?_; (first | refine Ow.pu rfl (Pu.neSt (r := true) rfl rfl (eqI6 it)) ?_ | refine Ow.pu rfl (Pu.neSt (r := true) rfl rfl (eqI6 it0)) ?_ | refine Ow.pu rfl (Pu.ne_f rfl rfl roA) ?_ | refine Ow.sp rfl (by exact Pu.neI rfl rfl) (fun hc => ?_) (fun hc => ?_) | refine Ow.pu rfl (Pu.neNil rfl rfl) ?_)))) | (refine Ow.kPick ?_; (first | refine Ow.pu rfl (Pu.pick_t rfl rfl) ?_ | refine Ow.pu rfl (Pu.pick_f rfl rfl) ?_)) | (refine Ow.kStore ?_; (first | refine Ow.storeN rfl rfl rfl rfl rfl pkA rfl ?_)) | (refine Ow.kIdx ?_; (first | refine Ow.pu rfl (Pu.idxA_b rfl rfl (by omega)) ?_ | refine Ow.pu rfl (Pu.idx_stn rfl rfl pkA (by omega)) ?_ | refine Ow.pu rfl (Pu.idxA_b rfl rfl (by omega)) ?_)))) | (refine Cw.is ?_; (first | refine Cw.seq ?_ | refine Cw.region ?_ | refine Cw.cond_t rfl rfl ?_ | refine Cw.cond_f rfl rfl ?_ | refine Cw.block ?_ | refine Cw.ret ?_ | refine Cw.exit ?_ | refine Cw.skip ?_)) | (first | refine thenQ_n ?_ | refine thenQ_r ?_ | refine thenQ_e ?_ | refine blockQ_n ?_ | refine blockQ_e ?_)))
          (repeat' (first | (refine Ow.is ?_; (first | refine Ow.nil ?_ | refine Ow.pu rfl (Pu.move rfl) ?_ | refine Ow.pu rfl (Pu.assign rfl) ?_ | (refine Ow.kBin ?_; (first | (refine Ow.b_add ?_; refine Ow.pu rfl (Pu.add_i rfl rfl (by omega)) ?_))))) | (refine Cw.is ?_; (first | refine Cw.seq ?_ | refine Cw.region ?_ | refine Cw.cond_t rfl rfl ?_ | refine Cw.cond_f rfl rfl ?_ | refine Cw.block ?_ | refine Cw.ret ?_ | refine Cw.exit ?_ | refine Cw.skip ?_)) | (first | refine thenQ_n ?_ | refine thenQ_r ?_ | refine thenQ_e ?_ | refine blockQ_n ?_ | refine blockQ_e ?_)))
          refine ⟨rfl, t + 1, by omega, by omega, by (repeat first | exact trivial | refine ⟨rfl, ?_⟩), ?_⟩
          refine Ent.trans ?_ (Ent.right (Ent.left (rgh_mk mb q sb'.O sb'.G sb'.T tv gv)))
          ((try simp only [star_assoc]); (repeat (apply Ent.pk; focus ((repeat first | exact pk0 | exact pkl | apply pkn); first | done | fail))); first | exact Ent.fin pkA | exact Ent.refl _)
        · (repeat' (first | (refine Ow.is ?_; (first | refine Ow.nil ?_ | refine Ow.pu rfl (Pu.move rfl) ?_ | refine Ow.pu rfl (Pu.assign rfl) ?_ | (refine Ow.kBin ?_; (first | (refine Ow.b_lss ?_; first | refine Ow.pu rfl (Pu.lt_t rfl rfl (by omega)) ?_ | refine Ow.pu rfl (Pu.lt_f rfl rfl (by omega)) ?_ | refine Ow.sp rfl (by exact Pu.lt rfl rfl) (fun hc => ?_) (fun hc => ?_)) | (refine Ow.b_add ?_; refine Ow.pu rfl (Pu.add_i rfl rfl (by omega)) ?_))))) | (refine Cw.is ?_; (first | refine Cw.seq ?_ | refine Cw.region ?_ | refine Cw.cond_t rfl rfl ?_ | refine Cw.cond_f rfl rfl ?_ | refine Cw.block ?_ | refine Cw.ret ?_ | refine Cw.exit ?_ | refine Cw.skip ?_)) | (first | refine thenQ_n ?_ | refine thenQ_r ?_ | refine thenQ_e ?_ | refine blockQ_n ?_ | refine blockQ_e ?_)))
          (repeat' (first | (refine Ow.is ?_; (first | refine Ow.nil ?_ | refine Ow.pu rfl (Pu.move rfl) ?_ | refine Ow.pu rfl (Pu.assign rfl) ?_ | refine Ow.pu rfl (Pu.extract rfl rfl) ?_ | (refine Ow.kStore ?_; (first | refine Ow.storeN rfl rfl rfl rfl rfl pkA rfl ?_)) | (refine Ow.kCall ?_; (first | refine Ow.callE evA pkA rfl hat (fun _ => ?_) | fail)) | refine Ow.alloc rfl (fun bx => ?_))) | (refine Cw.is ?_; (first | refine Cw.seq ?_ | refine Cw.region ?_ | refine Cw.cond_t rfl rfl ?_ | refine Cw.cond_f rfl rfl ?_ | refine Cw.block ?_ | refine Cw.ret ?_ | refine Cw.exit ?_ | refine Cw.skip ?_)) | (first | refine thenQ_n ?_ | refine thenQ_r ?_ | refine thenQ_e ?_ | refine blockQ_n ?_ | refine blockQ_e ?_)))
          (repeat' (first | (refine Ow.is ?_; (first | (refine Ow.kBuild ?_; refine Ow.pu rfl (Pu.build (ps := []) (vs := []) (cs := it0.cs) trivial (fun w => by kernel_rfl)) ?_) | refine Ow.nil ?_ | refine Ow.pu rfl (Pu.assign rfl) ?_ | (refine Ow.kStore ?_; (first | refine Ow.storeN rfl rfl rfl rfl rfl pkA rfl ?_)) | (refine Ow.kBuild ?_; (first | fail)) | refine Ow.alloc rfl (fun bx => ?_))) | (refine Cw.is ?_; (first | refine Cw.seq ?_ | refine Cw.region ?_ | refine Cw.cond_t rfl rfl ?_ | refine Cw.cond_f rfl rfl ?_ | refine Cw.block ?_ | refine Cw.ret ?_ | refine Cw.exit ?_ | refine Cw.skip ?_)) | (first | refine thenQ_n ?_ | refine thenQ_r ?_ | refine thenQ_e ?_ | refine blockQ_n ?_ | refine blockQ_e ?_)))
          (repeat' (first | (refine Ow.is ?_; (first | refine Ow.pu rfl (Pu.fld rfl) ?_ | refine Ow.nil ?_ | refine Ow.pu rfl (Pu.move rfl) ?_ | refine Ow.pu rfl (Pu.assign rfl) ?_ | refine Ow.pu rfl (Pu.fld rfl) ?_ | refine Ow.pu rfl (Pu.nilCheck rfl) ?_ | (refine Ow.kGuard ?_; (first | refine Ow.guard_yes rfl rfl rfl ?_ | refine Ow.guard_no rfl rfl rfl rfl ?_)) | (refine Ow.kLoad ?_; (first | refine Ow.pu rfl (Pu.load (a := ⟨mb, 0 + 12 + t.toNat * 1, none⟩) rfl pkA hpt) ?_ | refine Ow.pu rfl (Pu.loadN_std rfl pkA (by omega) hx) ?_ | refine Ow.pu rfl (Pu.load_cl rfl pkA rfl) ?_ | refine Ow.pu rfl (Pu.loadN_cl rfl pkA rfl rfl) ?_)) | (refine Ow.kBin ?_; (first | (refine Ow.b_lss ?_; first | refine Ow.pu rfl (Pu.lt_t rfl rfl (by omega)) ?_ | refine Ow.pu rfl (Pu.lt_f rfl rfl (by omega)) ?_ | refine Ow.sp rfl (by exact Pu.lt rfl rfl) (fun hc => ?_) (fun hc => ?_)) | (refine Ow.b_gtr ?_; first | refine Ow.pu rfl (Pu.gt_t rfl rfl (by omega)) ?_ | refine Ow.pu rfl (Pu.gt_f rfl rfl (by omega)) ?_ | refine Ow.sp rfl (by exact Pu.gt rfl rfl) (fun hc => ?_) (fun hc => ?_)) | (refine Ow.b_geq ?_; first | refine Ow.pu rfl (Pu.ge_t rfl rfl (by omega)) ?_ | refine Ow.pu rfl (Pu.ge_f rfl rfl (by omega)) ?_ | refine Ow.sp rfl (by exact Pu.ge rfl rfl) (fun hc => ?_) (fun hc => ?_)) | (refine Ow.b_neq ?_; (first | refine Ow.pu rfl (Pu.neSt (r := true) rfl rfl (eqI6 it)) ?_ | refine Ow.pu rfl (Pu.neSt (r := true) rfl rfl (eqI6 it0)) ?_ | refine Ow.pu rfl (Pu.ne_f rfl rfl roA) ?_ | refine Ow.sp rfl (by exact Pu.neI rfl rfl) (fun hc => ?_) (fun hc => ?_) | refine Ow.pu rfl (Pu.neNil rfl rfl) ?_)))) | (refine Ow.kPick ?_; (first | refine Ow.pu rfl (Pu.pick_t rfl rfl) ?_ | refine Ow.pu rfl (Pu.pick_f rfl rfl) ?_)) | (refine Ow.kStore ?_; (first | refine Ow.storeN rfl rfl rfl rfl rfl pkA rfl ?_)) | (refine Ow.kIdx ?_; (first | refine Ow.pu rfl (Pu.idxA_b rfl rfl (by omega)) ?_ | refine Ow.pu rfl (Pu.idx_stn rfl rfl pkA (by omega)) ?_ | refine Ow.pu rfl (Pu.idxA_b rfl rfl (by omega)) ?_)))) | (refine Cw.is ?_; (first | refine Cw.seq ?_ | refine Cw.region ?_ | refine Cw.cond_t rfl rfl ?_ | refine Cw.cond_f rfl rfl ?_ | refine Cw.block ?_ | refine Cw.ret ?_ | refine Cw.exit ?_ | refine Cw.skip ?_)) | (first | refine thenQ_n ?_ | refine thenQ_r ?_ | refine thenQ_e ?_ | refine blockQ_n ?_ | refine blockQ_e ?_)))
          all_goals (repeat' (first | (refine Ow.is ?_; (first | refine Ow.nil ?_ | refine Ow.pu rfl (Pu.move rfl) ?_ | refine Ow.pu rfl (Pu.assign rfl) ?_ | (refine Ow.kBin ?_; (first | (refine Ow.b_add ?_; refine Ow.pu rfl (Pu.add_i rfl rfl (by omega)) ?_))))) | (refine Cw.is ?_; (first | refine Cw.seq ?_ | refine Cw.region ?_ | refine Cw.cond_t rfl rfl ?_ | refine Cw.cond_f rfl rfl ?_ | refine Cw.block ?_ | refine Cw.ret ?_ | refine Cw.exit ?_ | refine Cw.skip ?_)) | (first | refine thenQ_n ?_ | refine thenQ_r ?_ | refine thenQ_e ?_ | refine blockQ_n ?_ | refine blockQ_e ?_)))
          all_goals exact ⟨rfl, t + 1, by omega, by omega, by (repeat first | exact trivial | refine ⟨rfl, ?_⟩), by ((try simp only [star_assoc]); (repeat (apply Ent.pk; focus ((repeat first | exact pk0 | exact pkl | apply pkn); first | done | fail))); first | exact Ent.fin pkA | exact Ent.refl _)⟩
      | some pt =>
        obtain ⟨c, r, k1, it, ph⟩ := pt
        obtain ⟨hx4, hst⟩ := thOf_some hth
        have hTl := hokb'.tl
        have hj4 : t.toNat < sb'.T.length := by omega
        have hph3 := (hokb'.t t.toNat c _ (by omega) hst).1.ph
        simp only at hph3
        have hself : sb'.T.set t.toNat (some (c, ⟨r, k1, ⟨it, ph⟩⟩)) = sb'.T := set_self hj4 hst
        have hrt : rths sb'.T = rthr c ⟨r, k1, ⟨it, ph⟩⟩ * rths (sb'.T.eraseIdx t.toNat) := by rw [rths_at sb'.T t.toNat hj4, hst]; show rth (some _) * _ = _; rfl
        rw [hth] at hat
        refine Cw.pkd (A := rgh mb q sb') pkA ?_
        refine Cw.opn (rgh_ex mb q sb') (fun y => ?_)
        obtain ⟨tv, gv⟩ := y
        dsimp only
        rw [hrt]
        (refine Cw.heq (by simp only [star_assoc, emp_star, star_emp]; exact rfl) ?_)
        refine Cw.pkd (A := rthr c ⟨r, k1, ⟨it, ph⟩⟩) pkA ?_
        refine Cw.opn (rthr_ex c ⟨r, k1, ⟨it, ph⟩⟩) (fun z => ?_)
        obtain ⟨rv, kv⟩ := z
        dsimp only
        (refine Cw.heq (by simp only [star_assoc, emp_star, star_emp]; exact rfl) ?_)
        have hpt := rcl_t mb q tv gv (sb'.T.map tpO) (i := t.toNat) (v := .pointer (some ⟨c, 0, none⟩)) (by rw [List.getElem?_map, List.getElem?_eq_getElem (by omega), ← getElem!_pos sb'.T t.toNat (by omega), hst]; rfl)
        have hend : Ent (rcl mb q tv gv (sb'.T.map tpO) * (slk 2 tv.v (sb'.O.flatMap obc) * (obs sb'.O * (slk 1 gv.v (sb'.G.map vi) * (cl c (rv.v :: kv.v :: vi ph :: it.cs) * (slk 1 rv.v (r.map vi) * (slk 1 kv.v (k1.map vi) * rths (sb'.T.eraseIdx t.toNat)))))))) (rgh mb q sb') := by
          have h := rgh_mkt mb q sb'.O sb'.G sb'.T tv gv c t.toNat _ hj4 hst r k1 it ph rv kv
          rw [hself] at h
          exact h
        by_cases hp : ph = 0
        · have hat : Fn Tryd.prog 16 [.pointer (some ⟨ga, 0, none⟩), vi t] (gph ga q sa') Unit (fun _ => .tuple #[.agg it0.cs.toArray, vi 0]) (fun _ => gph ga q sa') := by
            rw [show atT (some (c, ThS.mk r k1 ⟨it, ph⟩)) = (it0, 0) by unfold atT; simp only [hp, if_true]] at hat; exact hat
          (repeat' (first | (refine Ow.is ?_; (first | refine Ow.nil ?_ | refine Ow.pu rfl (Pu.move rfl) ?_ | refine Ow.pu rfl (Pu.assign rfl) ?_ | (refine Ow.kBin ?_; (first | (refine Ow.b_lss ?_; first | refine Ow.pu rfl (Pu.lt_t rfl rfl (by omega)) ?_ | refine Ow.pu rfl (Pu.lt_f rfl rfl (by omega)) ?_ | refine Ow.sp rfl (by exact Pu.lt rfl rfl) (fun hc => ?_) (fun hc => ?_)) | (refine Ow.b_add ?_; refine Ow.pu rfl (Pu.add_i rfl rfl (by omega)) ?_))))) | (refine Cw.is ?_; (first | refine Cw.seq ?_ | refine Cw.region ?_ | refine Cw.cond_t rfl rfl ?_ | refine Cw.cond_f rfl rfl ?_ | refine Cw.block ?_ | refine Cw.ret ?_ | refine Cw.exit ?_ | refine Cw.skip ?_)) | (first | refine thenQ_n ?_ | refine thenQ_r ?_ | refine thenQ_e ?_ | refine blockQ_n ?_ | refine blockQ_e ?_)))
          (repeat' (first | (refine Ow.is ?_; (first | refine Ow.nil ?_ | refine Ow.pu rfl (Pu.move rfl) ?_ | refine Ow.pu rfl (Pu.assign rfl) ?_ | refine Ow.pu rfl (Pu.extract rfl rfl) ?_ | (refine Ow.kStore ?_; (first | refine Ow.storeN rfl rfl rfl rfl rfl pkA rfl ?_)) | (refine Ow.kCall ?_; (first | refine Ow.callE evA pkA rfl hat (fun _ => ?_) | fail)) | refine Ow.alloc rfl (fun bx => ?_))) | (refine Cw.is ?_; (first | refine Cw.seq ?_ | refine Cw.region ?_ | refine Cw.cond_t rfl rfl ?_ | refine Cw.cond_f rfl rfl ?_ | refine Cw.block ?_ | refine Cw.ret ?_ | refine Cw.exit ?_ | refine Cw.skip ?_)) | (first | refine thenQ_n ?_ | refine thenQ_r ?_ | refine thenQ_e ?_ | refine blockQ_n ?_ | refine blockQ_e ?_)))
          (repeat' (first | (refine Ow.is ?_; (first | (refine Ow.kBuild ?_; refine Ow.pu rfl (Pu.build (ps := []) (vs := []) (cs := it0.cs) trivial (fun w => by kernel_rfl)) ?_) | refine Ow.nil ?_ | refine Ow.pu rfl (Pu.assign rfl) ?_ | (refine Ow.kStore ?_; (first | refine Ow.storeN rfl rfl rfl rfl rfl pkA rfl ?_)) | (refine Ow.kBuild ?_; (first | fail)) | refine Ow.alloc rfl (fun bx => ?_))) | (refine Cw.is ?_; (first | refine Cw.seq ?_ | refine Cw.region ?_ | refine Cw.cond_t rfl rfl ?_ | refine Cw.cond_f rfl rfl ?_ | refine Cw.block ?_ | refine Cw.ret ?_ | refine Cw.exit ?_ | refine Cw.skip ?_)) | (first | refine thenQ_n ?_ | refine thenQ_r ?_ | refine thenQ_e ?_ | refine blockQ_n ?_ | refine blockQ_e ?_)))
          (repeat' (first | (refine Ow.is ?_; (first | refine Ow.pu rfl (Pu.fld rfl) ?_ | refine Ow.nil ?_ | refine Ow.pu rfl (Pu.move rfl) ?_ | refine Ow.pu rfl (Pu.assign rfl) ?_ | refine Ow.pu rfl (Pu.fld rfl) ?_ | refine Ow.pu rfl (Pu.nilCheck rfl) ?_ | (refine Ow.kGuard ?_; (first | refine Ow.guard_yes rfl rfl rfl ?_ | refine Ow.guard_no rfl rfl rfl rfl ?_)) | (refine Ow.kLoad ?_; (first | refine Ow.pu rfl (Pu.load (a := ⟨mb, 0 + 12 + t.toNat * 1, none⟩) rfl pkA hpt) ?_ | refine Ow.pu rfl (Pu.loadN_std rfl pkA (by omega) hx) ?_ | refine Ow.pu rfl (Pu.load_cl rfl pkA rfl) ?_ | refine Ow.pu rfl (Pu.loadN_cl rfl pkA rfl rfl) ?_)) | (refine Ow.kBin ?_; (first | (refine Ow.b_lss ?_; first | refine Ow.pu rfl (Pu.lt_t rfl rfl (by omega)) ?_ | refine Ow.pu rfl (Pu.lt_f rfl rfl (by omega)) ?_ | refine Ow.sp rfl (by exact Pu.lt rfl rfl) (fun hc => ?_) (fun hc => ?_)) | (refine Ow.b_gtr ?_; first | refine Ow.pu rfl (Pu.gt_t rfl rfl (by omega)) ?_ | refine Ow.pu rfl (Pu.gt_f rfl rfl (by omega)) ?_ | refine Ow.sp rfl (by exact Pu.gt rfl rfl) (fun hc => ?_) (fun hc => ?_)) | (refine Ow.b_geq ?_; first | refine Ow.pu rfl (Pu.ge_t rfl rfl (by omega)) ?_ | refine Ow.pu rfl (Pu.ge_f rfl rfl (by omega)) ?_ | refine Ow.sp rfl (by exact Pu.ge rfl rfl) (fun hc => ?_) (fun hc => ?_)) | (refine Ow.b_neq ?_; (first | refine Ow.pu rfl (Pu.neSt (r := true) rfl rfl (eqI6 it)) ?_ | refine Ow.pu rfl (Pu.neSt (r := true) rfl rfl (eqI6 it0)) ?_ | refine Ow.pu rfl (Pu.ne_f rfl rfl roA) ?_ | refine Ow.sp rfl (by exact Pu.neI rfl rfl) (fun hc => ?_) (fun hc => ?_) | refine Ow.pu rfl (Pu.neNil rfl rfl) ?_)))) | (refine Ow.kPick ?_; (first | refine Ow.pu rfl (Pu.pick_t rfl rfl) ?_ | refine Ow.pu rfl (Pu.pick_f rfl rfl) ?_)) | (refine Ow.kStore ?_; (first | refine Ow.storeN rfl rfl rfl rfl rfl pkA rfl ?_)) | (refine Ow.kIdx ?_; (first | refine Ow.pu rfl (Pu.idxA_b rfl rfl (by omega)) ?_ | refine Ow.pu rfl (Pu.idx_stn rfl rfl pkA (by omega)) ?_ | refine Ow.pu rfl (Pu.idxA_b rfl rfl (by omega)) ?_)))) | (refine Cw.is ?_; (first | refine Cw.seq ?_ | refine Cw.region ?_ | refine Cw.cond_t rfl rfl ?_ | refine Cw.cond_f rfl rfl ?_ | refine Cw.block ?_ | refine Cw.ret ?_ | refine Cw.exit ?_ | refine Cw.skip ?_)) | (first | refine thenQ_n ?_ | refine thenQ_r ?_ | refine thenQ_e ?_ | refine blockQ_n ?_ | refine blockQ_e ?_)))
          (repeat' (first | (refine Ow.is ?_; (first | refine Ow.nil ?_ | refine Ow.pu rfl (Pu.move rfl) ?_ | refine Ow.pu rfl (Pu.assign rfl) ?_ | (refine Ow.kBin ?_; (first | (refine Ow.b_add ?_; refine Ow.pu rfl (Pu.add_i rfl rfl (by omega)) ?_))))) | (refine Cw.is ?_; (first | refine Cw.seq ?_ | refine Cw.region ?_ | refine Cw.cond_t rfl rfl ?_ | refine Cw.cond_f rfl rfl ?_ | refine Cw.block ?_ | refine Cw.ret ?_ | refine Cw.exit ?_ | refine Cw.skip ?_)) | (first | refine thenQ_n ?_ | refine thenQ_r ?_ | refine thenQ_e ?_ | refine blockQ_n ?_ | refine blockQ_e ?_)))
          refine ⟨rfl, t + 1, by omega, by omega, by (repeat first | exact trivial | refine ⟨rfl, ?_⟩), ?_⟩
          refine Ent.trans ?_ (Ent.right (Ent.left hend))
          ((try simp only [star_assoc]); (repeat (apply Ent.pk; focus ((repeat first | exact pk0 | exact pkl | apply pkn); first | done | fail))); first | exact Ent.fin pkA | exact Ent.refl _)
        · have hat : Fn Tryd.prog 16 [.pointer (some ⟨ga, 0, none⟩), vi t] (gph ga q sa') Unit (fun _ => .tuple #[.agg it.cs.toArray, vi ph]) (fun _ => gph ga q sa') := by
            rw [show atT (some (c, ThS.mk r k1 ⟨it, ph⟩)) = (it, ph) by unfold atT; simp only [hp, if_false]] at hat; exact hat
          (repeat' (first | (refine Ow.is ?_; (first | refine Ow.nil ?_ | refine Ow.pu rfl (Pu.move rfl) ?_ | refine Ow.pu rfl (Pu.assign rfl) ?_ | (refine Ow.kBin ?_; (first | (refine Ow.b_lss ?_; first | refine Ow.pu rfl (Pu.lt_t rfl rfl (by omega)) ?_ | refine Ow.pu rfl (Pu.lt_f rfl rfl (by omega)) ?_ | refine Ow.sp rfl (by exact Pu.lt rfl rfl) (fun hc => ?_) (fun hc => ?_)) | (refine Ow.b_add ?_; refine Ow.pu rfl (Pu.add_i rfl rfl (by omega)) ?_))))) | (refine Cw.is ?_; (first | refine Cw.seq ?_ | refine Cw.region ?_ | refine Cw.cond_t rfl rfl ?_ | refine Cw.cond_f rfl rfl ?_ | refine Cw.block ?_ | refine Cw.ret ?_ | refine Cw.exit ?_ | refine Cw.skip ?_)) | (first | refine thenQ_n ?_ | refine thenQ_r ?_ | refine thenQ_e ?_ | refine blockQ_n ?_ | refine blockQ_e ?_)))
          (repeat' (first | (refine Ow.is ?_; (first | refine Ow.nil ?_ | refine Ow.pu rfl (Pu.move rfl) ?_ | refine Ow.pu rfl (Pu.assign rfl) ?_ | refine Ow.pu rfl (Pu.extract rfl rfl) ?_ | (refine Ow.kStore ?_; (first | refine Ow.storeN rfl rfl rfl rfl rfl pkA rfl ?_)) | (refine Ow.kCall ?_; (first | refine Ow.callE evA pkA rfl hat (fun _ => ?_) | fail)) | refine Ow.alloc rfl (fun bx => ?_))) | (refine Cw.is ?_; (first | refine Cw.seq ?_ | refine Cw.region ?_ | refine Cw.cond_t rfl rfl ?_ | refine Cw.cond_f rfl rfl ?_ | refine Cw.block ?_ | refine Cw.ret ?_ | refine Cw.exit ?_ | refine Cw.skip ?_)) | (first | refine thenQ_n ?_ | refine thenQ_r ?_ | refine thenQ_e ?_ | refine blockQ_n ?_ | refine blockQ_e ?_)))
          (repeat' (first | (refine Ow.is ?_; (first | (refine Ow.kBuild ?_; refine Ow.pu rfl (Pu.build (ps := []) (vs := []) (cs := it0.cs) trivial (fun w => by kernel_rfl)) ?_) | refine Ow.nil ?_ | refine Ow.pu rfl (Pu.assign rfl) ?_ | (refine Ow.kStore ?_; (first | refine Ow.storeN rfl rfl rfl rfl rfl pkA rfl ?_)) | (refine Ow.kBuild ?_; (first | fail)) | refine Ow.alloc rfl (fun bx => ?_))) | (refine Cw.is ?_; (first | refine Cw.seq ?_ | refine Cw.region ?_ | refine Cw.cond_t rfl rfl ?_ | refine Cw.cond_f rfl rfl ?_ | refine Cw.block ?_ | refine Cw.ret ?_ | refine Cw.exit ?_ | refine Cw.skip ?_)) | (first | refine thenQ_n ?_ | refine thenQ_r ?_ | refine thenQ_e ?_ | refine blockQ_n ?_ | refine blockQ_e ?_)))
          (repeat' (first | (refine Ow.is ?_; (first | refine Ow.pu rfl (Pu.fld rfl) ?_ | refine Ow.nil ?_ | refine Ow.pu rfl (Pu.move rfl) ?_ | refine Ow.pu rfl (Pu.fld rfl) ?_ | refine Ow.pu rfl (Pu.nilCheck rfl) ?_ | (refine Ow.kGuard ?_; (first | refine Ow.guard_yes rfl rfl rfl ?_ | refine Ow.guard_no rfl rfl rfl rfl ?_)) | (refine Ow.kLoad ?_; (first | refine Ow.pu rfl (Pu.load (a := ⟨mb, 0 + 12 + t.toNat * 1, none⟩) rfl pkA hpt) ?_ | refine Ow.pu rfl (Pu.loadN_std rfl pkA (by omega) hx) ?_ | refine Ow.pu rfl (Pu.load_cl rfl pkA rfl) ?_)) | (refine Ow.kBin ?_; (first | (refine Ow.b_lss ?_; first | refine Ow.pu rfl (Pu.lt_t rfl rfl (by omega)) ?_ | refine Ow.pu rfl (Pu.lt_f rfl rfl (by omega)) ?_ | refine Ow.sp rfl (by exact Pu.lt rfl rfl) (fun hc => ?_) (fun hc => ?_)) | (refine Ow.b_gtr ?_; first | refine Ow.pu rfl (Pu.gt_t rfl rfl (by omega)) ?_ | refine Ow.pu rfl (Pu.gt_f rfl rfl (by omega)) ?_ | refine Ow.sp rfl (by exact Pu.gt rfl rfl) (fun hc => ?_) (fun hc => ?_)) | (refine Ow.b_geq ?_; first | refine Ow.pu rfl (Pu.ge_t rfl rfl (by omega)) ?_ | refine Ow.pu rfl (Pu.ge_f rfl rfl (by omega)) ?_ | refine Ow.sp rfl (by exact Pu.ge rfl rfl) (fun hc => ?_) (fun hc => ?_)) | (refine Ow.b_neq ?_; (first | refine Ow.pu rfl (Pu.neSt (r := true) rfl rfl (eqI6 it)) ?_ | refine Ow.pu rfl (Pu.neSt (r := true) rfl rfl (eqI6 it0)) ?_ | refine Ow.pu rfl (Pu.neNil rfl rfl) ?_)))) | (refine Ow.kPick ?_; (first | refine Ow.pu rfl (Pu.pick_t rfl rfl) ?_ | refine Ow.pu rfl (Pu.pick_f rfl rfl) ?_)) | (refine Ow.kIdx ?_; (first | refine Ow.pu rfl (Pu.idxA_b rfl rfl (by omega)) ?_ | refine Ow.pu rfl (Pu.idx_stn rfl rfl pkA (by omega)) ?_ | refine Ow.pu rfl (Pu.idxA_b rfl rfl (by omega)) ?_)))) | (refine Cw.is ?_; (first | refine Cw.seq ?_ | refine Cw.region ?_ | refine Cw.cond_t rfl rfl ?_ | refine Cw.cond_f rfl rfl ?_ | refine Cw.block ?_ | refine Cw.ret ?_ | refine Cw.exit ?_ | refine Cw.skip ?_)) | (first | refine thenQ_n ?_ | refine thenQ_r ?_ | refine thenQ_e ?_ | refine blockQ_n ?_ | refine blockQ_e ?_)))
          (refine Cw.draw2 (rcl _ _ _ _ _) (cl c _) false 0 [(0, false), (1, false), (2, false), (3, false), (4, false), (5, false), (6, false), (7, false), (8, false), (9, false), (10, false), (11, false), (12, false), (13, false), (14, false), (15, false), (16, false), (17, false), (18, true), (19, false)] pkA pkA mixed (by kernel_rfl) ?_; (repeat (first | refine Dw.q rfl rfl trivial (by (first | exact Pu.move rfl | exact Pu.assign rfl | exact Pu.fld rfl | exact Pu.nilCheck rfl | exact Pu.extract rfl rfl | exact Pu.idxA_b rfl rfl (by omega) | (apply Pu.kLoad; (first | exact Pu.load (a := ⟨mb, 0 + 12 + t.toNat * 1, none⟩) rfl pkA hpt | exact Pu.loadN_std rfl pkA (by omega) hx | exact Pu.load_cl rfl pkA rfl | exact Pu.loadN_cl rfl pkA rfl rfl)))) ?_ | refine Dw.q rfl rfl ⟨_, _, rfl, rfl, rfl⟩ (by (first | exact Pu.move rfl | exact Pu.assign rfl | exact Pu.fld rfl | exact Pu.nilCheck rfl | exact Pu.extract rfl rfl | exact Pu.idxA_b rfl rfl (by omega) | (apply Pu.kLoad; (first | exact Pu.load (a := ⟨mb, 0 + 12 + t.toNat * 1, none⟩) rfl pkA hpt | exact Pu.loadN_std rfl pkA (by omega) hx | exact Pu.load_cl rfl pkA rfl | exact Pu.loadN_cl rfl pkA rfl rfl)))) ?_)); refine Dw.l rfl (by first | exact trivial | exact ⟨_, _, rfl, rfl, rfl⟩) ?_; refine Ow.storeN rfl rfl rfl rfl rfl pkA rfl ?_; refine Ow.nil ?_; refine loudQ.go pkA ?_; (repeat (first | refine Dw.q rfl rfl trivial (by (first | exact Pu.move rfl | exact Pu.assign rfl | exact Pu.fld rfl | exact Pu.nilCheck rfl | exact Pu.extract rfl rfl | exact Pu.idxA_b rfl rfl (by omega) | (apply Pu.kLoad; (first | exact Pu.load (a := ⟨mb, 0 + 12 + t.toNat * 1, none⟩) rfl pkA hpt | exact Pu.loadN_std rfl pkA (by omega) hx | exact Pu.load_cl rfl pkA rfl | exact Pu.loadN_cl rfl pkA rfl rfl)))) ?_ | refine Dw.q rfl rfl ⟨_, _, rfl, rfl, rfl⟩ (by (first | exact Pu.move rfl | exact Pu.assign rfl | exact Pu.fld rfl | exact Pu.nilCheck rfl | exact Pu.extract rfl rfl | exact Pu.idxA_b rfl rfl (by omega) | (apply Pu.kLoad; (first | exact Pu.load (a := ⟨mb, 0 + 12 + t.toNat * 1, none⟩) rfl pkA hpt | exact Pu.loadN_std rfl pkA (by omega) hx | exact Pu.load_cl rfl pkA rfl | exact Pu.loadN_cl rfl pkA rfl rfl)))) ?_)); refine Dw.nil2 ?_ rfl)
          (repeat' (first | (refine Ow.is ?_; (first | refine Ow.nil ?_ | refine Ow.pu rfl (Pu.move rfl) ?_ | (refine Ow.kGuard ?_; (first | refine Ow.guard_yes rfl rfl rfl ?_ | refine Ow.guard_no rfl rfl rfl rfl ?_)) | (refine Ow.kLoad ?_; (first | refine Ow.pu rfl (Pu.load (a := ⟨mb, 0 + 12 + t.toNat * 1, none⟩) rfl pkA hpt) ?_ | refine Ow.pu rfl (Pu.loadN_std rfl pkA (by omega) hx) ?_ | refine Ow.pu rfl (Pu.loadN_cl rfl pkA rfl rfl) ?_)) | (refine Ow.kBin ?_; (first | (refine Ow.b_neq ?_; (first | refine Ow.pu rfl (Pu.neSt (r := true) rfl rfl (eqI6 it)) ?_ | refine Ow.pu rfl (Pu.neSt (r := true) rfl rfl (eqI6 it0)) ?_ | refine Ow.pu rfl (Pu.ne_f rfl rfl roA) ?_ | refine Ow.sp rfl (by exact Pu.neI rfl rfl) (fun hc => ?_) (fun hc => ?_))))) | (refine Ow.kPick ?_; (first | refine Ow.pu rfl (Pu.pick_t rfl rfl) ?_ | refine Ow.pu rfl (Pu.pick_f rfl rfl) ?_)))) | (refine Cw.is ?_; (first | refine Cw.seq ?_ | refine Cw.region ?_ | refine Cw.cond_t rfl rfl ?_ | refine Cw.cond_f rfl rfl ?_ | refine Cw.block ?_ | refine Cw.ret ?_ | refine Cw.exit ?_ | refine Cw.skip ?_)) | (first | refine thenQ_n ?_ | refine thenQ_r ?_ | refine thenQ_e ?_ | refine blockQ_n ?_ | refine blockQ_e ?_)))
          (repeat' (first | (refine Ow.is ?_; (first | refine Ow.nil ?_ | refine Ow.pu rfl (Pu.move rfl) ?_ | refine Ow.pu rfl (Pu.assign rfl) ?_ | (refine Ow.kBin ?_; (first | (refine Ow.b_add ?_; refine Ow.pu rfl (Pu.add_i rfl rfl (by omega)) ?_))))) | (refine Cw.is ?_; (first | refine Cw.seq ?_ | refine Cw.region ?_ | refine Cw.cond_t rfl rfl ?_ | refine Cw.cond_f rfl rfl ?_ | refine Cw.block ?_ | refine Cw.ret ?_ | refine Cw.exit ?_ | refine Cw.skip ?_)) | (first | refine thenQ_n ?_ | refine thenQ_r ?_ | refine thenQ_e ?_ | refine blockQ_n ?_ | refine blockQ_e ?_)))
          refine ⟨rfl, t + 1, by omega, by omega, by (repeat first | exact trivial | refine ⟨rfl, ?_⟩), ?_⟩
          refine Ent.trans ?_ (Ent.right (Ent.left hend))
          ((try simp only [star_assoc]); (repeat (apply Ent.pk; focus ((repeat first | exact pk0 | exact pkl | apply pkn); first | done | fail))); first | exact Ent.fin pkA | exact Ent.refl _)
    · (repeat' (first | (refine Ow.is ?_; (first | refine Ow.nil ?_ | refine Ow.pu rfl (Pu.move rfl) ?_ | (refine Ow.kBin ?_; (first | (refine Ow.b_lss ?_; first | refine Ow.pu rfl (Pu.lt_t rfl rfl (by omega)) ?_ | refine Ow.pu rfl (Pu.lt_f rfl rfl (by omega)) ?_ | refine Ow.sp rfl (by exact Pu.lt rfl rfl) (fun hc => ?_) (fun hc => ?_)))))) | (refine Cw.is ?_; (first | refine Cw.seq ?_ | refine Cw.region ?_ | refine Cw.cond_t rfl rfl ?_ | refine Cw.cond_f rfl rfl ?_ | refine Cw.block ?_ | refine Cw.ret ?_ | refine Cw.exit ?_ | refine Cw.skip ?_)) | (first | refine thenQ_n ?_ | refine thenQ_r ?_ | refine thenQ_e ?_ | refine blockQ_n ?_ | refine blockQ_e ?_)))
      (repeat' (first | (refine Ow.is ?_; (first | refine Ow.nil ?_ | refine Ow.pu rfl (Pu.move rfl) ?_ | (refine Ow.kBin ?_; (first | (refine Ow.b_add ?_; refine Ow.pu rfl (Pu.add_i rfl rfl (by omega)) ?_))))) | (refine Cw.is ?_; (first | refine Cw.seq ?_ | refine Cw.region ?_ | refine Cw.cond_t rfl rfl ?_ | refine Cw.cond_f rfl rfl ?_ | refine Cw.block ?_ | refine Cw.ret ?_ | refine Cw.exit ?_ | refine Cw.skip ?_)) | (first | refine thenQ_n ?_ | refine thenQ_r ?_ | refine thenQ_e ?_ | refine blockQ_n ?_ | refine blockQ_e ?_)))
      exact ⟨rfl, ⟨k + 1, sa', sb'⟩, ⟨by simp only; omega, hoka', hokb', hab', hla'⟩, by simp only; omega, by (repeat first | exact trivial | refine ⟨rfl, ?_⟩), by ((try simp only [star_assoc]); (repeat (apply Ent.pk; focus ((repeat first | exact pk0 | exact pkl | apply pkn); first | done | fail))); first | exact Ent.fin pkA | exact Ent.refl _)⟩
  · (repeat' (first | (refine Ow.is ?_; (first | refine Ow.nil ?_ | (refine Ow.kBin ?_; (first | (refine Ow.b_lss ?_; first | refine Ow.pu rfl (Pu.lt_t rfl rfl (by omega)) ?_ | refine Ow.pu rfl (Pu.lt_f rfl rfl (by omega)) ?_ | refine Ow.sp rfl (by exact Pu.lt rfl rfl) (fun hc => ?_) (fun hc => ?_)))))) | (refine Cw.is ?_; (first | refine Cw.seq ?_ | refine Cw.region ?_ | refine Cw.cond_t rfl rfl ?_ | refine Cw.cond_f rfl rfl ?_ | refine Cw.block ?_ | refine Cw.ret ?_ | refine Cw.exit ?_ | refine Cw.skip ?_)) | (first | refine thenQ_n ?_ | refine thenQ_r ?_ | refine thenQ_e ?_ | refine blockQ_n ?_ | refine blockQ_e ?_)))
    (repeat' (first | (refine Ow.is ?_; (first | refine Ow.nil ?_ | refine Ow.pu rfl (Pu.assign rfl) ?_)) | (refine Cw.is ?_; (first | refine Cw.seq ?_ | refine Cw.region ?_ | refine Cw.cond_t rfl rfl ?_ | refine Cw.cond_f rfl rfl ?_ | refine Cw.block ?_ | refine Cw.ret ?_ | refine Cw.exit ?_ | refine Cw.skip ?_)) | (first | refine thenQ_n ?_ | refine thenQ_r ?_ | refine thenQ_e ?_ | refine blockQ_n ?_ | refine blockQ_e ?_)))
    refine retQ_v () Tryd.results4 rfl rfl ?_; ((try simp only [star_assoc]); (repeat (apply Ent.pk; focus ((repeat first | exact pk0 | exact pkl | apply pkn); first | done | fail))); first | exact Ent.fin pkA | exact Ent.refl _)
end Go.Sl
namespace Go.Sl
open Go Go.Proofs Go.ChangeShapes Go.WideShapes Go.ChangeAt Go.RowKit
set_option linter.unusedVariables false
theorem wf64 {n : Int} (h : (Lit.int .i64 n).wf = true) : i64 n := by simpa [i64, Lit.wf, IntKind.min, IntKind.max, IntKind.signed, IntKind.bits] using h
set_option maxRecDepth 10000 in
theorem step_trod {H : Type} {enc : TypeId × Value → H} {W : World} {held : Bool} (n : Nat) (cs : List Value) (y : DataW H × List MemPlace) (h : DataW.trod enc Tryd.prog W 0 (fun _ => true) held n 77 cs = some y) : ∃ (a0 : Int) (a1 : Int) (a2 : Int) (a3 : Int) (a4 : Int) (a5 : Int) (a6 : Int), cs = [.int .u8 a0, .int .u8 a1, .int .u8 a2, .int .u8 a3, .int .u8 a4, .int .u8 a5, .int .i64 a6] ∧ y.1 = .agg [.lit (.int .u8 a0), .lit (.int .u8 a1), .lit (.int .u8 a2), .lit (.int .u8 a3), .lit (.int .u8 a4), .lit (.int .u8 a5), .lit (.int .i64 a6)] ∧ (Lit.int .u8 a0).wf = true ∧ (Lit.int .u8 a1).wf = true ∧ (Lit.int .u8 a2).wf = true ∧ (Lit.int .u8 a3).wf = true ∧ (Lit.int .u8 a4).wf = true ∧ (Lit.int .u8 a5).wf = true ∧ (Lit.int .i64 a6).wf = true := by
  obtain ⟨xs, m, _, hy, hl, hlen, hf⟩ := DataW.trod_struct Tryd.underlying77 h
  have hc : Tryd.prog.cellsOf 77 = 7 := by kernel_rfl
  have hx : xs.length = 7 := hlen
  have e3 : Tryd.prog.cellsOf 3 = 1 := by kernel_rfl
  have e5 : Tryd.prog.cellsOf 5 = 1 := by kernel_rfl
  rw [hc] at hl
  match cs, hl, xs, hx with
  | [u0, u1, u2, u3, u4, u5, u6], _, [x0, x1, x2, x3, x4, x5, x6], _ =>
    have h0 : DataW.trod enc Tryd.prog W 0 (fun _ => true) held m 5 (List.take (Tryd.prog.cellsOf 5) (List.drop (0) [u0, u1, u2, u3, u4, u5, u6])) = some x0 := hf 0 _ rfl
    have h1 : DataW.trod enc Tryd.prog W 0 (fun _ => true) held m 5 (List.take (Tryd.prog.cellsOf 5) (List.drop (1) [u0, u1, u2, u3, u4, u5, u6])) = some x1 := hf 1 _ rfl
    have h2 : DataW.trod enc Tryd.prog W 0 (fun _ => true) held m 5 (List.take (Tryd.prog.cellsOf 5) (List.drop (2) [u0, u1, u2, u3, u4, u5, u6])) = some x2 := hf 2 _ rfl
    have h3 : DataW.trod enc Tryd.prog W 0 (fun _ => true) held m 5 (List.take (Tryd.prog.cellsOf 5) (List.drop (3) [u0, u1, u2, u3, u4, u5, u6])) = some x3 := hf 3 _ rfl
    have h4 : DataW.trod enc Tryd.prog W 0 (fun _ => true) held m 5 (List.take (Tryd.prog.cellsOf 5) (List.drop (4) [u0, u1, u2, u3, u4, u5, u6])) = some x4 := hf 4 _ rfl
    have h5 : DataW.trod enc Tryd.prog W 0 (fun _ => true) held m 5 (List.take (Tryd.prog.cellsOf 5) (List.drop (5) [u0, u1, u2, u3, u4, u5, u6])) = some x5 := hf 5 _ rfl
    have h6 : DataW.trod enc Tryd.prog W 0 (fun _ => true) held m 3 (List.take (Tryd.prog.cellsOf 3) (List.drop (6) [u0, u1, u2, u3, u4, u5, u6])) = some x6 := hf 6 _ rfl
    rw [e5] at h0
    rw [e5] at h1
    rw [e5] at h2
    rw [e5] at h3
    rw [e5] at h4
    rw [e5] at h5
    rw [e3] at h6
    obtain ⟨a0, c0, d0, w0⟩ := DataW.trod_int Tryd.underlying5 h0
    obtain ⟨a1, c1, d1, w1⟩ := DataW.trod_int Tryd.underlying5 h1
    obtain ⟨a2, c2, d2, w2⟩ := DataW.trod_int Tryd.underlying5 h2
    obtain ⟨a3, c3, d3, w3⟩ := DataW.trod_int Tryd.underlying5 h3
    obtain ⟨a4, c4, d4, w4⟩ := DataW.trod_int Tryd.underlying5 h4
    obtain ⟨a5, c5, d5, w5⟩ := DataW.trod_int Tryd.underlying5 h5
    obtain ⟨a6, c6, d6, w6⟩ := DataW.trod_int Tryd.underlying3 h6
    simp at c0 c1 c2 c3 c4 c5 c6
    refine ⟨a0, a1, a2, a3, a4, a5, a6, by rw [c0, c1, c2, c3, c4, c5, c6], ?_, w0, w1, w2, w3, w4, w5, w6⟩
    rw [hy, d0, d1, d2, d3, d4, d5, d6]; rfl
theorem wf8 {n : Int} (h : (Lit.int .u8 n).wf = true) : b8 n := by simpa [b8, Lit.wf, IntKind.min, IntKind.max, IntKind.signed, IntKind.bits] using h
theorem st_trod {H : Type} {enc : TypeId × Value → H} {W : World} {held : Bool} (n : Nat) (cs : List Value) (y : DataW H × List MemPlace) (h : DataW.trod enc Tryd.prog W 0 (fun _ => true) held n 77 cs = some y) : ∃ x : Stp, StOk x ∧ cs = x.cs := by
  obtain ⟨k, t, c, x, y', z, w, rfl, _, w0, w1, w2, w3, w4, w5, w6⟩ := step_trod _ _ _ h
  exact ⟨⟨k, t, c, x, y', z, w⟩, ⟨wf8 w0, wf8 w1, wf8 w2, wf8 w3, wf8 w4, wf8 w5, wf64 w6⟩, rfl⟩
end Go.Sl
namespace Go.Sl
open Go Go.ChangeShapes Go.WideShapes Go.ChangeAt Go.RowKit
set_option linter.unusedVariables false
variable {H : Type} {enc : TypeId × Value → H} {P : Program} {W : World} {t e : TypeId} {v : Value} {d : DataW H} {p : List MemPlace}
end Go.Sl
namespace Go.Proofs.YteomgcebbjoklaaDoor.graphAt
open Go.ChangeShapes Go.WideShapes Go.ChangeAt Go.RowKit Go.Sl
set_option linter.unusedVariables false
abbrev w1 : Array Value := #[.agg #[.int .u8 0, .int .u8 0, .int .u8 0, .int .u8 0, .int .u8 0, .int .u8 0], .slice none 0 0]
theorem reads (os : Os) {H : Type} (enc : TypeId × Value → H) : ∃ ds places, DataW.whole enc Tryd.prog ((laidWorld os).forCall (fun _ _ => 0) ⟨#[], w1, []⟩).memory Tryd.f4.params.toList Rows.graphAtSpec.vars false w1.toList 8 = some (ds, [], places) :=
  ⟨[.agg [.lit (.int .u8 0), .lit (.int .u8 0), .lit (.int .u8 0), .lit (.int .u8 0), .lit (.int .u8 0), .lit (.int .u8 0)], .nil], [], by kernel_rfl⟩
set_option maxRecDepth 100000 in
theorem lifted (os : Os) (started : os.Started) (H : Type) (enc : TypeId × Value → H) (F : Stop.Interp) :
    ReturnsInHanded {} Tryd.checked os 4 .any ((OpenSpec.ofChange Rows.graphAtSpec).preRow enc Tryd.prog Tryd.f4 Rows.graphAtRow.domain false Rows.graphAtRow.laid) (((OpenSpec.ofChange Rows.graphAtSpec).at F).post enc Tryd.prog Tryd.f4 false true false false) := by
  obtain ⟨ds, places, hx⟩ := reads os enc
  refine law_laid (C := Tryd.checked) own started (by kernel_rfl) Tryd.func4 laidOut (by kernel_rfl) rfl Tryd.underlying4 rfl (fun ds h => ?_)
    (witness_row_atRef (enc := enc) (C := Tryd.checked) false (laidWorld os) w1 rfl (by kernel_rfl) (by kernel_rfl) (by kernel_rfl)
      (OpenSpec.preRow_of_cond 8 hx (by kernel_rfl) (fun k hk => by cases hk) (by kernel_rfl) (laid_met os _))) (fun W base vs ds p hL hsz hval hA => ?_)
  · rw [Tryd.params4] at h
    match ds, h with
    | [d0, d1], _ => rfl
  · rw [Tryd.params4] at hA hval hsz
    obtain ⟨gb, go, gc, hK⟩ := kinds_of hL
    obtain ⟨v0, vs0, d0, ds0, p0, q0, rfl, rfl, rfl, h0, r0⟩ := trodAll_cons hA
    obtain ⟨v1, vs1, d1, ds1, p1, q1, rfl, rfl, rfl, h1, r1⟩ := trodAll_cons r0
    obtain ⟨rfl, rfl, rfl⟩ := trodAll_nil r1
    obtain ⟨cs0, n0, rfl, t0⟩ := open_agg (.inr ⟨_, _, Tryd.underlying22⟩) (hval 0 _ v0 rfl rfl) h0
    obtain ⟨l0, l1, l2, l3, l4, l5, rfl, _, wl0, wl1, wl2, wl3, wl4, wl5⟩ := l6_trod _ _ _ t0
    obtain ⟨au, cu, lu, rfl, hlu, hrou, hwu, hnu, hnilu, hcapu⟩ := ro_slice0 (s := 7) (dc := Stp.cs) (I := StOk) Tryd.underlying38 (by kernel_rfl) (fun _ => rfl) (st_trod) (hval 1 _ v1 rfl rfl) h1
    have hbu : Tryd.checked.prog.bytesOf 77 = 16 := by kernel_rfl
    have zu := hnu.sized hsz (j := 1) rfl rfl Tryd.underlying38
    rw [hbu] at zu
    exact ⟨Unit, _, GraphAt_fn hK l0 l1 l2 l3 l4 l5 (wf_u8 wl0) (wf_u8 wl1) (wf_u8 wl2) (wf_u8 wl3) (wf_u8 wl4) (wf_u8 wl5) au cu lu (by omega) hrou hwu, fun _ => Ent.refl _⟩
theorem said : Rows.GraphAtSaid :=
  OpenClaim.holds_of_cond 4 Tryd.f4 rfl rfl rfl rfl rfl rfl rfl ⟨rfl, rfl, rfl, rfl, rfl⟩ rfl rfl rfl rfl rfl (by kernel_rfl) Tryd.func4 (by kernel_rfl)
    (of_decide_eq_true (by kernel_rfl)) (by unfold Func.isWrapper; first | (rw [if_pos (by decide +kernel)]; kernel_rfl) | (rw [if_neg (by decide +kernel)]; exact ⟨rfl, rfl⟩))
    (fun os started H enc _ F => by rw [OpenClaim.pre_eq_preRow]; exact lifted os started H enc F)
theorem plain (f : FuncId) (fn : Func) (hf : Tryd.pinned.checked.prog.funcNamed "hawthorn/hawthornlaw20.GraphAt" = some f) (hfn : Tryd.pinned.checked.prog.funcs[f]? = some fn) :
    false = Tryd.pinned.checked.prog.looks [] ∧ ∀ (j : Nat) t, fn.params[j]? = some t → Tryd.pinned.checked.prog.wantsStandIn t = false := by
  obtain rfl : f = 4 := Option.some.inj ((show Tryd.prog.funcNamed "hawthorn/hawthornlaw20.GraphAt" = some 4 by kernel_rfl).symm.trans hf) |>.symm
  obtain rfl : fn = Tryd.f4 := (Option.some.inj (Tryd.func4.symm.trans hfn)).symm
  refine ⟨by kernel_rfl, fun j t ht => ?_⟩
  rw [Tryd.params4] at ht
  have : t ∈ (#[22, 38] : Array TypeId) := Array.mem_of_getElem? ht
  have hall : ((#[22, 38] : Array TypeId).all fun t => !Tryd.prog.wantsStandIn t) = true := by kernel_rfl
  have h2 := Array.all_eq_true'.1 hall t this
  have h3 : Tryd.prog.wantsStandIn t = false := by simpa using h2
  exact h3
end Go.Proofs.YteomgcebbjoklaaDoor.graphAt
namespace Go.Proofs.YteomgcebbjoklaaDoor
open Go.Sl
theorem graphAt_proved : Rows.GraphAtCardSaid :=
  Claim7.holds_tied_plain_at .later [] _ _ _ _ graphAt.said (fun _ h => by cases h) (by kernel_rfl) (fun _ h => by cases h) graphAt_row_tie rfl ⟨rfl, rfl⟩ (by kernel_rfl) rfl graphAt.plain (by kernel_rfl)
#print axioms graphAt_proved
end Go.Proofs.YteomgcebbjoklaaDoor
