/- Part 6. -/
import Derived.WalkKit
import Derived.RangeFuncRecord
import Derived.RangeFuncLeaves
import Derived.OrdersIn
import Derived.TacticsIn
import Derived.KernelRfl
import Derived.Test.YteomgcebbjoklaaDoorChecked
import Derived.ProofKit
import Derived.OpenShut
import Derived.Carry
import Derived.HandedShaped
import Derived.RangeFuncNested
import Derived.LoopNIn
import Derived.Lib.Strings
import Derived.Deep.DeepHandedRow
import Derived.Lib.LaidTab
import Derived.SevenTiedAt
import Derived.Deep.DeepWitnessRowRef
import Derived.Laws.StructEq
import Derived.Laws.BytesString
import Derived.Laws.LoneSync
import Derived.Test.YteomgcebbjoklaaDoorRows
import Derived.Test.YteomgcebbjoklaaDoorCards
import Derived.Test.YteomgcebbjoklaaDoorTie
import Derived.ChangeMaps5
import Derived.Test.YteomgcebbjoklaaDoorQD5
namespace Go.Sl
open Go Go.Proofs
set_option linter.unusedVariables false
set_option linter.unusedSimpArgs false
attribute [local irreducible] star Ow Cw Pk Pu Dw DwF thenQ blockQ retQ loudQ loudF loudG Cr thr tab obs andI checkR
def rthr (c : Nat) (th : ThS) : HP := Sl.ex fun y : SV × SV => cl c (y.1.v :: y.2.v :: vi th.w.ph :: th.w.it.cs) * (slk 1 y.1.v (th.r.map vi) * slk 1 y.2.v (th.s.map vi))
theorem rthr_ex (c : Nat) (th : ThS) : rthr c th = Sl.ex fun y : SV × SV => cl c (y.1.v :: y.2.v :: vi th.w.ph :: th.w.it.cs) * (slk 1 y.1.v (th.r.map vi) * slk 1 y.2.v (th.s.map vi)) := rfl
theorem rthr_mk (c : Nat) (r s : List Int) (x : It) (ph : Int) (rv kv : SV) : Ent (cl c (rv.v :: kv.v :: vi ph :: x.cs) * (slk 1 rv.v (r.map vi) * slk 1 kv.v (s.map vi))) (rthr c ⟨r, s, ⟨x, ph⟩⟩) :=
  Ent.ex (A := fun y : SV × SV => cl c (y.1.v :: y.2.v :: vi ph :: x.cs) * (slk 1 y.1.v (r.map vi) * slk 1 y.2.v (s.map vi))) (rv, kv)
def rth : Option (Nat × ThS) → HP
  | none => emp
  | some p => rthr p.1 p.2
def rths : List (Option (Nat × ThS)) → HP
  | [] => emp
  | o :: L => rth o * rths L
theorem rths_at : ∀ (L : List (Option (Nat × ThS))) (j : Nat) (hj : j < L.length), rths L = rth L[j]! * rths (L.eraseIdx j)
  | o :: L, 0, _ => rfl
  | o :: L, j + 1, h => by
    have hj : j < L.length := by simpa using h
    have e : (o :: L)[j + 1]! = L[j]! := by rw [getElem!_pos (o :: L) (j + 1) h, getElem!_pos L j hj]; rfl
    rw [e, List.eraseIdx_cons_succ]
    show rth o * rths L = _ * (rth o * rths _)
    rw [rths_at L j hj, star_left_comm]
theorem rths_set (L : List (Option (Nat × ThS))) (j : Nat) (hj : j < L.length) (o : Option (Nat × ThS)) : rths (L.set j o) = rth o * rths (L.eraseIdx j) := by
  rw [rths_at (L.set j o) j (by simpa using hj)]
  have e : (L.set j o)[j]! = o := by rw [getElem!_pos (L.set j o) j (by simpa using hj)]; simp
  rw [e]
  have e2 : (L.set j o).eraseIdx j = L.eraseIdx j := by
    apply List.ext_getElem
    · simp [List.length_eraseIdx]
    · intro i h1 h2
      rw [List.getElem_eraseIdx, List.getElem_eraseIdx]
      split
      · rw [List.getElem_set_ne (by omega)]
      · rw [List.getElem_set_ne (by omega)]
  rw [e2]
def rgh (m : Nat) (q : Cfg) (s : GS SV Nat) : HP := Sl.ex fun y : SV × SV => rcl m q y.1 y.2 (s.T.map tpO) * (slk 2 y.1.v (s.O.flatMap obc) * (obs s.O * (slk 1 y.2.v (s.G.map vi) * rths s.T)))
theorem rgh_ex (m : Nat) (q : Cfg) (s : GS SV Nat) : rgh m q s = Sl.ex fun y : SV × SV => rcl m q y.1 y.2 (s.T.map tpO) * (slk 2 y.1.v (s.O.flatMap obc) * (obs s.O * (slk 1 y.2.v (s.G.map vi) * rths s.T))) := rfl
theorem rgh_mk (m : Nat) (q : Cfg) (O : List (Obj SV)) (G : List Int) (T : List (Option (Nat × ThS))) (tv gv : SV) : Ent (rcl m q tv gv (T.map tpO) * (slk 2 tv.v (O.flatMap obc) * (obs O * (slk 1 gv.v (G.map vi) * rths T)))) (rgh m q ⟨O, G, T⟩) :=
  Ent.ex (A := fun y : SV × SV => rcl m q y.1 y.2 (T.map tpO) * (slk 2 y.1.v (O.flatMap obc) * (obs O * (slk 1 y.2.v (G.map vi) * rths T)))) (tv, gv)
theorem rgh_mkt (m : Nat) (q : Cfg) (O : List (Obj SV)) (G : List Int) (T : List (Option (Nat × ThS))) (tv gv : SV) (c j : Nat) (th : ThS) (hj : j < T.length) (hT : T[j]! = some (c, th)) (r s : List Int) (x : It) (ph : Int) (rv kv : SV) :
    Ent (rcl m q tv gv (T.map tpO) * (slk 2 tv.v (O.flatMap obc) * (obs O * (slk 1 gv.v (G.map vi) * (cl c (rv.v :: kv.v :: vi ph :: x.cs) * (slk 1 rv.v (r.map vi) * (slk 1 kv.v (s.map vi) * rths (T.eraseIdx j)))))))) (rgh m q ⟨O, G, T.set j (some (c, ⟨r, s, ⟨x, ph⟩⟩))⟩) := by
  have hp : (T.set j (some (c, ⟨r, s, ⟨x, ph⟩⟩))).map tpO = T.map tpO := by
    rw [List.map_set]
    have h1 : j < (T.map tpO).length := by simpa using hj
    have h2 : (T.map tpO)[j] = tpO (some (c, ⟨r, s, ⟨x, ph⟩⟩)) := by
      rw [List.getElem_map]
      rw [getElem!_pos T j hj] at hT
      rw [hT]; rfl
    rw [← h2, List.set_getElem_self]
  refine Ent.trans ?_ (rgh_mk m q O G (T.set j (some (c, ⟨r, s, ⟨x, ph⟩⟩))) tv gv)
  rw [hp, rths_set T j hj]
  refine Ent.trans (Ent.of_eq ?_) (Ent.right (Ent.right (Ent.right (Ent.right (Ent.left (rthr_mk c r s x ph rv kv))))))
  simp only [star_assoc]
theorem set_self {γ : Type} [Inhabited γ] {T : List γ} {j : Nat} {v : γ} (hj : j < T.length) (h : T[j]! = v) : T.set j v = T := by
  have hg : T[j] = v := by rw [← h]; exact (getElem!_pos T j hj).symm
  rw [← hg, List.set_getElem_self]
theorem lv_fn (m : Nat) (q : Cfg) (s : GS SV Nat) (tv gv : SV) (t : Int) (hT : s.T.length = 4) : Fn Tryd.prog 29 [.pointer (some ⟨m, 0, none⟩), vi t] (rcl m q tv gv (s.T.map tpO)) Unit (fun _ => tpO (thOf s t)) (fun _ => rcl m q tv gv (s.T.map tpO)) := by
  by_cases h : 0 ≤ t ∧ t < 4
  · have e : thOf s t = s.T[t.toNat]! := if_pos h
    rw [e]
    exact live_t m q tv gv _ t h (by rw [List.getElem?_map, List.getElem?_eq_getElem (by omega), getElem!_pos s.T t.toNat (by omega)]; rfl)
  · have e : thOf s t = none := if_neg h
    rw [e]
    exact live_n m q tv gv _ t h
theorem rgh_mks (m : Nat) (q : Cfg) (O : List (Obj SV)) (G : List Int) (T : List (Option (Nat × ThS))) (tv gv : SV) (nb j : Nat) (hj : j < T.length) (hT : T[j]! = none) (r : List Int) (fv : SV) :
    Ent (rcl m q tv gv ((T.map tpO).set j (.pointer (some ⟨nb, 0, none⟩))) * (slk 2 tv.v (O.flatMap obc) * (obs O * (slk 1 gv.v (G.map vi) * (cl nb (fv.v :: .slice none 0 0 :: vi 0 :: it0.cs) * (slk 1 fv.v (r.map vi) * rths T)))))) (rgh m q ⟨O, G, T.set j (some (nb, ⟨r, [], wk0⟩))⟩) := by
  refine Ent.trans ?_ (rgh_mk m q O G (T.set j (some (nb, ⟨r, [], wk0⟩))) tv gv)
  have e : rths T = rths (T.eraseIdx j) := by rw [rths_at T j hj, hT]; exact emp_star _
  rw [e, List.map_set, rths_set T j hj]
  refine Ent.trans ?_ (Ent.right (Ent.right (Ent.right (Ent.right (Ent.left (rthr_mk nb r [] it0 0 fv ⟨none, 0, 0⟩))))))
  refine Ent.addnil 1 ?_
  refine Ent.of_eq ?_
  simp only [List.map_nil]
  show slk 1 (Value.slice none 0 0) [] * _ = _
  simp only [star_assoc]
  ac_rfl
theorem rgh_mkn (m : Nat) (q : Cfg) (O : List (Obj SV)) (G : List Int) (T : List (Option (Nat × ThS))) (tv gv : SV) (j : Nat) (hj : j < T.length) :
    Ent (rcl m q tv gv ((T.map tpO).set j (.pointer none)) * (slk 2 tv.v (O.flatMap obc) * (obs O * (slk 1 gv.v (G.map vi) * rths (T.eraseIdx j))))) (rgh m q ⟨O, G, T.set j none⟩) := by
  refine Ent.trans ?_ (rgh_mk m q O G (T.set j none) tv gv)
  rw [List.map_set, rths_set T j hj]
  exact Ent.of_eq (by rw [show rth none = emp from rfl, emp_star]; rfl)
set_option maxHeartbeats 32000000 in
theorem rDo_fn (m : Nat) (q : Cfg) (s : GS SV Nat) (x : It) (full : Bool) (hok : GsOk q s) (hO : s.O.length ≤ 900000) (hq8 : QOk q) :
    Fn Tryd.prog 15 [.pointer (some ⟨m, 0, none⟩), .agg x.cs.toArray, .bool full] (rgh m q s) (SV × Nat) (fun p => .tuple #[vi (doG p.1 p.2 q s x full).2.1, vi (doG p.1 p.2 q s x full).2.2]) (fun p => rgh m q (doG p.1 p.2 q s x full).1) := by
  have hT := hok.tl
  have hq1 := hq8.th
  have hq2 := hq8.rg
  have hlv0 := fun tv gv => lv_fn m q s tv gv x.t hT
  cases hth : thOf s x.t with
  | none =>
    have hlv1 : ∀ tv gv, Fn Tryd.prog 29 [.pointer (some ⟨m, 0, none⟩), vi x.t] (rcl m q tv gv (s.T.map tpO)) Unit (fun _ => .pointer none) (fun _ => rcl m q tv gv (s.T.map tpO)) := fun tv gv => by
      have h := hlv0 tv gv; rw [hth] at h; exact h
    clear hlv0
    by_cases hk2 : x.k = 2 ∧ 0 ≤ x.t ∧ x.t < q.threads
    · obtain ⟨hk2, hc⟩ := hk2
      have hdo : ∀ p : SV × Nat, doG p.1 p.2 q s x full = ({ s with T := s.T.set x.t.toNat (some (p.2, ⟨List.replicate q.regs.toNat 0, [], wk0⟩)) }, 0, 0) := fun p => by unfold doG; rw [if_pos hk2, if_pos ⟨hc, by rw [hth]; rfl⟩]
      simp only [hdo]
      have hn : s.T[x.t.toNat]! = none := by
        rcases thOf_none hth with h | h
        · omega
        · exact h.2
      obtain ⟨mm, hm⟩ : ∃ mm : Nat, q.regs = mm := ⟨q.regs.toNat, by omega⟩
      have hm2 : q.regs.toNat = mm := by omega
      rw [hm2]
      (refine Fn.of Tryd.func15 rfl (by kernel_rfl) Tryd.ntmps15 rfl (fun F => ?_))
      refine Cw.opn (rgh_ex m q s) (fun y => ?_)
      obtain ⟨tv, gv⟩ := y
      have hlv := hlv1 tv gv
      have hwr := fun u h => rcl_w m q tv gv (s.T.map tpO) (i := x.t.toNat) (u := u) h
      dsimp only
      (refine Cw.heq (by simp only [star_assoc, emp_star, star_emp]; exact rfl) ?_)
      (repeat' (first | (refine Ow.is ?_; (first | refine Ow.pu rfl (Pu.fld rfl) ?_ | refine Ow.nil ?_ | refine Ow.pu rfl (Pu.move rfl) ?_ | refine Ow.pu rfl (Pu.assign rfl) ?_ | refine Ow.pu rfl (Pu.fld rfl) ?_ | refine Ow.pu rfl (Pu.nilCheck rfl) ?_ | refine Ow.pu rfl (Pu.extract rfl rfl) ?_ | (refine Ow.kLoad ?_; (first | refine Ow.pu rfl (Pu.load_cl rfl pkA rfl) ?_ | refine Ow.pu rfl (Pu.loadN_cl rfl pkA rfl rfl) ?_)) | (refine Ow.kBin ?_; (first | (refine Ow.b_eql ?_; (first | refine Ow.pu rfl (Pu.eq_t rfl rfl roA) ?_ | refine Ow.pu rfl (Pu.eq_f rfl rfl odA) ?_ | refine Ow.pu rfl (Pu.eqNil rfl rfl) ?_)) | (refine Ow.b_neq ?_; (first | refine Ow.pu rfl (Pu.ne_t rfl rfl odA) ?_ | refine Ow.pu rfl (Pu.ne_f rfl rfl roA) ?_ | refine Ow.pu rfl (Pu.neNil rfl rfl) ?_)))) | (refine Ow.kUn ?_; (first | refine Ow.pu rfl (Pu.not rfl) ?_)) | (refine Ow.kStore ?_; (first | refine Ow.store_cl rfl rfl rfl (by (first | rfl | assumption | exact Subtype.property _)) pkA rfl ?_ | refine Ow.storeN rfl rfl rfl rfl rfl pkA rfl ?_)) | (refine Ow.kCall ?_; (first | refine Ow.callE evA (pk2' pkA (pk2' pkA (pk2' pkA (pk2' pkA (pk2' pkA (pk2' pkA pkA)))))) rfl hact (fun w => ?_) | refine Ow.callE0 evA rfl (in_t _ _ (by omega)) (fun _ => Ow.unemp ?_) | refine Ow.callE0 evA rfl (in_f _ _ (by omega)) (fun _ => Ow.unemp ?_) | refine Ow.callE evA pkA rfl hlv (fun _ => ?_) | fail)) | refine Ow.box rfl rfl rfl (fun bx => ?_))) | (refine Cw.is ?_; (first | refine Cw.seq ?_ | refine Cw.region ?_ | refine Cw.cond_t rfl rfl ?_ | refine Cw.cond_f rfl rfl ?_ | refine Cw.block ?_ | refine Cw.ret ?_ | refine Cw.skip ?_ | refine Cw.drawL (n := 105) (id := 22) [(0, false), (1, false), (2, false), (3, false), (4, false), (5, false), (6, false), (7, true), (8, false), (9, false), (10, false), (11, false), (12, false)] mixed (by kernel_rfl) ?_)) | (first | refine thenQ_n ?_ | refine thenQ_r ?_ | refine blockQ_n ?_ | refine blockQ_r ?_ | (refine loudQ.is ?_; first | refine loudQ.go pkA ?_ | refine loudQ.goE (by ac_rfl) ?_)) | (refine Dw.is ?_; (first | refine Dw.q rfl rfl trivial (by (first | exact Pu.move rfl | exact Pu.assign rfl | exact Pu.fld rfl | exact Pu.nilCheck rfl | exact Pu.extract rfl rfl | exact Pu.build (ps := [(0, .tmp 84)]) (vs := [fv.v]) (cs := fv.v :: .slice none 0 0 :: vi 0 :: it0.cs) evA (fun w => by kernel_rfl) | (apply Pu.kLoad; (first | exact Pu.load_cl rfl pkA rfl | exact Pu.loadN_cl rfl pkA rfl rfl)) | (apply Pu.kUn; (first | exact Pu.not rfl)) | (apply Pu.kBin; (first | (apply Pu.b_neq; (first | exact Pu.ne_t rfl rfl odA | exact Pu.ne_f rfl rfl roA | exact Pu.neNil rfl rfl)))) | (apply Pu.kPick; (first | exact Pu.pick_t rfl rfl | exact Pu.pick_f rfl rfl)))) ?_ | refine Dw.q rfl rfl ⟨_, _, rfl, rfl, rfl⟩ (by (first | exact Pu.move rfl | exact Pu.assign rfl | exact Pu.fld rfl | exact Pu.nilCheck rfl | exact Pu.extract rfl rfl | exact Pu.build (ps := [(0, .tmp 84)]) (vs := [fv.v]) (cs := fv.v :: .slice none 0 0 :: vi 0 :: it0.cs) evA (fun w => by kernel_rfl) | (apply Pu.kLoad; (first | exact Pu.load_cl rfl pkA rfl | exact Pu.loadN_cl rfl pkA rfl rfl)) | (apply Pu.kUn; (first | exact Pu.not rfl)) | (apply Pu.kBin; (first | (apply Pu.b_neq; (first | exact Pu.ne_t rfl rfl odA | exact Pu.ne_f rfl rfl roA | exact Pu.neNil rfl rfl)))) | (apply Pu.kPick; (first | exact Pu.pick_t rfl rfl | exact Pu.pick_f rfl rfl)))) ?_ | refine Dw.s rfl rfl rfl rfl rfl ?_ | refine Dw.nilE ?_ rfl | refine Dw.lE rfl trivial ?_ | refine Dw.lE rfl ⟨_, _, rfl, rfl, rfl⟩ ?_))))
      (refine Cw.drawF2 (rcl _ _ _ _ _) (cl bx _) 14 [(0, false), (1, false), (2, false), (3, false), (4, false), (5, false), (6, false), (7, false), (11, false), (12, false), (8, true), (9, false), (10, true), (13, false), (14, true)] pkA pkA mixed (by kernel_rfl) ?_; (iterate 10 ((first | refine DwF.q rfl rfl (by kernel_rfl) trivial (by (first | exact Pu.move rfl | exact Pu.assign rfl | exact Pu.fld rfl | exact Pu.nilCheck rfl | exact Pu.extract rfl rfl | exact Pu.idxA_b rfl rfl (by omega) | exact Pu.build (ps := [(0, .tmp 84)]) (vs := [fv.v]) (cs := fv.v :: .slice none 0 0 :: vi 0 :: it0.cs) evA (fun w => by kernel_rfl) | (apply Pu.kLoad; (first | exact Pu.load_cl rfl pkA rfl | exact Pu.loadN_cl rfl pkA rfl rfl)) | (apply Pu.kUn; (first | exact Pu.not rfl)) | (apply Pu.kBin; (first | (apply Pu.b_neq; (first | exact Pu.ne_t rfl rfl odA | exact Pu.ne_f rfl rfl roA | exact Pu.neNil rfl rfl)))) | (apply Pu.kPick; (first | exact Pu.pick_t rfl rfl | exact Pu.pick_f rfl rfl)))) ?_ | refine DwF.q rfl rfl (by kernel_rfl) ⟨_, _, rfl, rfl, rfl⟩ (by (first | exact Pu.move rfl | exact Pu.assign rfl | exact Pu.fld rfl | exact Pu.nilCheck rfl | exact Pu.extract rfl rfl | exact Pu.idxA_b rfl rfl (by omega) | exact Pu.build (ps := [(0, .tmp 84)]) (vs := [fv.v]) (cs := fv.v :: .slice none 0 0 :: vi 0 :: it0.cs) evA (fun w => by kernel_rfl) | (apply Pu.kLoad; (first | exact Pu.load_cl rfl pkA rfl | exact Pu.loadN_cl rfl pkA rfl rfl)) | (apply Pu.kUn; (first | exact Pu.not rfl)) | (apply Pu.kBin; (first | (apply Pu.b_neq; (first | exact Pu.ne_t rfl rfl odA | exact Pu.ne_f rfl rfl roA | exact Pu.neNil rfl rfl)))) | (apply Pu.kPick; (first | exact Pu.pick_t rfl rfl | exact Pu.pick_f rfl rfl)))) ?_))); refine DwF.c rfl (by first | exact trivial | exact ⟨_, _, rfl, rfl, rfl⟩) rfl ?_; refine Ow.heq (star_assoc _ _ _) ?_; refine Ow.makeSlice (m := mm) rfl (by rw [← hm]; rfl) (by rw [← hm]; rfl) (by omega) (by rfl) (fun fv => ?_); refine Ow.nil ?_; refine loudG.go2 pkA pkA ?_; ((first | refine DwF.q rfl rfl (by kernel_rfl) trivial (by (first | exact Pu.move rfl | exact Pu.assign rfl | exact Pu.fld rfl | exact Pu.nilCheck rfl | exact Pu.extract rfl rfl | exact Pu.idxA_b rfl rfl (by omega) | exact Pu.build (ps := [(0, .tmp 84)]) (vs := [fv.v]) (cs := fv.v :: .slice none 0 0 :: vi 0 :: it0.cs) evA (fun w => by kernel_rfl) | (apply Pu.kLoad; (first | exact Pu.load_cl rfl pkA rfl | exact Pu.loadN_cl rfl pkA rfl rfl)) | (apply Pu.kUn; (first | exact Pu.not rfl)) | (apply Pu.kBin; (first | (apply Pu.b_neq; (first | exact Pu.ne_t rfl rfl odA | exact Pu.ne_f rfl rfl roA | exact Pu.neNil rfl rfl)))) | (apply Pu.kPick; (first | exact Pu.pick_t rfl rfl | exact Pu.pick_f rfl rfl)))) ?_ | refine DwF.q rfl rfl (by kernel_rfl) ⟨_, _, rfl, rfl, rfl⟩ (by (first | exact Pu.move rfl | exact Pu.assign rfl | exact Pu.fld rfl | exact Pu.nilCheck rfl | exact Pu.extract rfl rfl | exact Pu.idxA_b rfl rfl (by omega) | exact Pu.build (ps := [(0, .tmp 84)]) (vs := [fv.v]) (cs := fv.v :: .slice none 0 0 :: vi 0 :: it0.cs) evA (fun w => by kernel_rfl) | (apply Pu.kLoad; (first | exact Pu.load_cl rfl pkA rfl | exact Pu.loadN_cl rfl pkA rfl rfl)) | (apply Pu.kUn; (first | exact Pu.not rfl)) | (apply Pu.kBin; (first | (apply Pu.b_neq; (first | exact Pu.ne_t rfl rfl odA | exact Pu.ne_f rfl rfl roA | exact Pu.neNil rfl rfl)))) | (apply Pu.kPick; (first | exact Pu.pick_t rfl rfl | exact Pu.pick_f rfl rfl)))) ?_)); refine DwF.c rfl (by first | exact trivial | exact ⟨_, _, rfl, rfl, rfl⟩) rfl ?_; refine Ow.heq (star_assoc _ _ _) ?_; refine Ow.box rfl rfl rfl (fun nb => ?_); refine Ow.nil ?_; refine loudG.go2 pkA pkA ?_; ((first | refine DwF.q rfl rfl (by kernel_rfl) trivial (by (first | exact Pu.move rfl | exact Pu.assign rfl | exact Pu.fld rfl | exact Pu.nilCheck rfl | exact Pu.extract rfl rfl | exact Pu.idxA_b rfl rfl (by omega) | exact Pu.build (ps := [(0, .tmp 84)]) (vs := [fv.v]) (cs := fv.v :: .slice none 0 0 :: vi 0 :: it0.cs) evA (fun w => by kernel_rfl) | (apply Pu.kLoad; (first | exact Pu.load_cl rfl pkA rfl | exact Pu.loadN_cl rfl pkA rfl rfl)) | (apply Pu.kUn; (first | exact Pu.not rfl)) | (apply Pu.kBin; (first | (apply Pu.b_neq; (first | exact Pu.ne_t rfl rfl odA | exact Pu.ne_f rfl rfl roA | exact Pu.neNil rfl rfl)))) | (apply Pu.kPick; (first | exact Pu.pick_t rfl rfl | exact Pu.pick_f rfl rfl)))) ?_ | refine DwF.q rfl rfl (by kernel_rfl) ⟨_, _, rfl, rfl, rfl⟩ (by (first | exact Pu.move rfl | exact Pu.assign rfl | exact Pu.fld rfl | exact Pu.nilCheck rfl | exact Pu.extract rfl rfl | exact Pu.idxA_b rfl rfl (by omega) | exact Pu.build (ps := [(0, .tmp 84)]) (vs := [fv.v]) (cs := fv.v :: .slice none 0 0 :: vi 0 :: it0.cs) evA (fun w => by kernel_rfl) | (apply Pu.kLoad; (first | exact Pu.load_cl rfl pkA rfl | exact Pu.loadN_cl rfl pkA rfl rfl)) | (apply Pu.kUn; (first | exact Pu.not rfl)) | (apply Pu.kBin; (first | (apply Pu.b_neq; (first | exact Pu.ne_t rfl rfl odA | exact Pu.ne_f rfl rfl roA | exact Pu.neNil rfl rfl)))) | (apply Pu.kPick; (first | exact Pu.pick_t rfl rfl | exact Pu.pick_f rfl rfl)))) ?_)); refine DwF.b rfl (by first | exact trivial | exact ⟨_, _, rfl, rfl, rfl⟩) rfl ?_; refine Ow.heq (star_assoc _ _ _) ?_; refine Ow.store (a := ⟨m, 0 + 12 + x.t.toNat * 1, none⟩) rfl rfl rfl rfl pkA (hwr (.pointer (some ⟨nb, 0, none⟩)) (by simp; omega)) ?_; refine Ow.nil ?_; refine loudF.go ?_; refine DwF.nil ?_)
      (repeat' (first | (refine Ow.is ?_; (first | refine Ow.nil ?_ | refine Ow.pu rfl (Pu.assign rfl) ?_)) | (refine Cw.is ?_; (first | refine Cw.seq ?_ | refine Cw.region ?_ | refine Cw.cond_t rfl rfl ?_ | refine Cw.cond_f rfl rfl ?_ | refine Cw.block ?_ | refine Cw.ret ?_ | refine Cw.skip ?_)) | (first | refine thenQ_n ?_ | refine thenQ_r ?_ | refine blockQ_n ?_ | refine blockQ_r ?_)))
      refine retQ_v2 (default, nb) Tryd.results15 rfl rfl rfl ?_
      refine Ent.trans ?_ (Ent.left (rgh_mks m q s.O s.G s.T tv gv nb x.t.toNat (by omega) hn (List.replicate mm 0) fv))
      rw [rep_one, show List.replicate mm (Value.int .i64 0) = (List.replicate mm (0 : Int)).map vi by rw [List.map_replicate]]
      ((try simp only [star_assoc]); (repeat (apply Ent.pk; exact pkA)); first | exact Ent.fin pkA | exact Ent.refl _)
    · have key : ∀ e : Int, (∀ p : SV × Nat, doG p.1 p.2 q s x full = (s, e, 0)) → ((x.k = 2 ∧ ¬ (0 ≤ x.t ∧ x.t < q.threads) ∧ e = 2) ∨ (x.k = 0 ∧ e = 2) ∨ (x.k = 1 ∧ e = 2) ∨ (x.k = 3 ∧ e = 2) ∨ (x.k ≠ 0 ∧ x.k ≠ 1 ∧ x.k ≠ 2 ∧ x.k ≠ 3 ∧ e = 0)) →
          Fn Tryd.prog 15 [.pointer (some ⟨m, 0, none⟩), .agg x.cs.toArray, .bool full] (rgh m q s) (SV × Nat) (fun p => .tuple #[vi (doG p.1 p.2 q s x full).2.1, vi (doG p.1 p.2 q s x full).2.2]) (fun p => rgh m q (doG p.1 p.2 q s x full).1) := fun e hdo hk => by
        simp only [hdo]
        clear hk2 hdo
        rcases hk with ⟨hk, hr, rfl⟩ | ⟨hk, rfl⟩ | ⟨hk, rfl⟩ | ⟨hk, rfl⟩ | ⟨hk, hk1, hk2, hk3, rfl⟩
        all_goals (refine Fn.of Tryd.func15 rfl (by kernel_rfl) Tryd.ntmps15 rfl (fun F => ?_))
        all_goals refine Cw.opn (rgh_ex m q s) (fun y => ?_)
        all_goals obtain ⟨tv, gv⟩ := y
        all_goals have hlv := hlv1 tv gv
        all_goals dsimp only
        all_goals (refine Cw.heq (by simp only [star_assoc, emp_star, star_emp]; exact rfl) ?_)
        all_goals (repeat' (first | (refine Ow.is ?_; (first | refine Ow.pu rfl (Pu.fld rfl) ?_ | refine Ow.nil ?_ | refine Ow.pu rfl (Pu.move rfl) ?_ | refine Ow.pu rfl (Pu.assign rfl) ?_ | refine Ow.pu rfl (Pu.fld rfl) ?_ | refine Ow.pu rfl (Pu.nilCheck rfl) ?_ | refine Ow.pu rfl (Pu.extract rfl rfl) ?_ | (refine Ow.kLoad ?_; (first | refine Ow.pu rfl (Pu.load_cl rfl pkA rfl) ?_ | refine Ow.pu rfl (Pu.loadN_cl rfl pkA rfl rfl) ?_)) | (refine Ow.kBin ?_; (first | (refine Ow.b_eql ?_; (first | refine Ow.pu rfl (Pu.eq_t rfl rfl roA) ?_ | refine Ow.pu rfl (Pu.eq_f rfl rfl odA) ?_ | refine Ow.pu rfl (Pu.eqNil rfl rfl) ?_)) | (refine Ow.b_neq ?_; (first | refine Ow.pu rfl (Pu.ne_t rfl rfl odA) ?_ | refine Ow.pu rfl (Pu.ne_f rfl rfl roA) ?_ | refine Ow.pu rfl (Pu.neNil rfl rfl) ?_)))) | (refine Ow.kUn ?_; (first | refine Ow.pu rfl (Pu.not rfl) ?_)) | (refine Ow.kStore ?_; (first | refine Ow.store_cl rfl rfl rfl (by (first | rfl | assumption | exact Subtype.property _)) pkA rfl ?_ | refine Ow.storeN rfl rfl rfl rfl rfl pkA rfl ?_)) | (refine Ow.kCall ?_; (first | refine Ow.callE evA (pk2' pkA (pk2' pkA (pk2' pkA (pk2' pkA (pk2' pkA (pk2' pkA pkA)))))) rfl hact (fun w => ?_) | refine Ow.callE0 evA rfl (in_t _ _ (by omega)) (fun _ => Ow.unemp ?_) | refine Ow.callE0 evA rfl (in_f _ _ (by omega)) (fun _ => Ow.unemp ?_) | refine Ow.callE evA pkA rfl hlv (fun _ => ?_) | fail)) | refine Ow.box rfl rfl rfl (fun bx => ?_))) | (refine Cw.is ?_; (first | refine Cw.seq ?_ | refine Cw.region ?_ | refine Cw.cond_t rfl rfl ?_ | refine Cw.cond_f rfl rfl ?_ | refine Cw.block ?_ | refine Cw.ret ?_ | refine Cw.skip ?_ | refine Cw.drawL (n := 105) (id := 22) [(0, false), (1, false), (2, false), (3, false), (4, false), (5, false), (6, false), (7, true), (8, false), (9, false), (10, false), (11, false), (12, false)] mixed (by kernel_rfl) ?_)) | (first | refine thenQ_n ?_ | refine thenQ_r ?_ | refine blockQ_n ?_ | refine blockQ_r ?_ | (refine loudQ.is ?_; first | refine loudQ.go pkA ?_ | refine loudQ.goE (by ac_rfl) ?_)) | (refine Dw.is ?_; (first | refine Dw.q rfl rfl trivial (by (first | exact Pu.move rfl | exact Pu.assign rfl | exact Pu.fld rfl | exact Pu.nilCheck rfl | exact Pu.extract rfl rfl | exact Pu.idxA_b rfl rfl (by omega) | exact Pu.build (ps := [(0, .tmp 84)]) (vs := [fv.v]) (cs := fv.v :: .slice none 0 0 :: vi 0 :: it0.cs) evA (fun w => by kernel_rfl) | (apply Pu.kLoad; (first | exact Pu.load_cl rfl pkA rfl | exact Pu.loadN_cl rfl pkA rfl rfl)) | (apply Pu.kUn; (first | exact Pu.not rfl)) | (apply Pu.kBin; (first | (apply Pu.b_neq; (first | exact Pu.ne_t rfl rfl odA | exact Pu.ne_f rfl rfl roA | exact Pu.neNil rfl rfl)))) | (apply Pu.kPick; (first | exact Pu.pick_t rfl rfl | exact Pu.pick_f rfl rfl)))) ?_ | refine Dw.q rfl rfl ⟨_, _, rfl, rfl, rfl⟩ (by (first | exact Pu.move rfl | exact Pu.assign rfl | exact Pu.fld rfl | exact Pu.nilCheck rfl | exact Pu.extract rfl rfl | exact Pu.idxA_b rfl rfl (by omega) | exact Pu.build (ps := [(0, .tmp 84)]) (vs := [fv.v]) (cs := fv.v :: .slice none 0 0 :: vi 0 :: it0.cs) evA (fun w => by kernel_rfl) | (apply Pu.kLoad; (first | exact Pu.load_cl rfl pkA rfl | exact Pu.loadN_cl rfl pkA rfl rfl)) | (apply Pu.kUn; (first | exact Pu.not rfl)) | (apply Pu.kBin; (first | (apply Pu.b_neq; (first | exact Pu.ne_t rfl rfl odA | exact Pu.ne_f rfl rfl roA | exact Pu.neNil rfl rfl)))) | (apply Pu.kPick; (first | exact Pu.pick_t rfl rfl | exact Pu.pick_f rfl rfl)))) ?_ | refine Dw.s rfl rfl rfl rfl rfl ?_ | refine Dw.nilE ?_ rfl | refine Dw.lE rfl trivial ?_ | refine Dw.lE rfl ⟨_, _, rfl, rfl, rfl⟩ ?_))))
        all_goals refine retQ_v2 default Tryd.results15 rfl rfl rfl ?_
        all_goals refine Ent.trans ?_ (Ent.left (rgh_mk m q s.O s.G s.T tv gv))
        all_goals ((try simp only [star_assoc]); (repeat (apply Ent.pk; exact pkA)); first | exact Ent.fin pkA | exact Ent.refl _)
      by_cases h2 : x.k = 2
      · exact key 2 (fun p => by unfold doG; rw [if_pos h2, if_neg (fun h => hk2 ⟨h2, h.1⟩)]) (by omega)
      · by_cases hk : x.k = 0 ∨ x.k = 1 ∨ x.k = 3
        · exact key 2 (fun p => by unfold doG; rw [if_neg h2, if_pos hk, hth]) (by omega)
        · exact key 0 (fun p => by unfold doG; rw [if_neg h2, if_neg hk]) (by omega)
  | some pt =>
    obtain ⟨c, r, k, it, ph⟩ := pt
    obtain ⟨hx4, hst⟩ := thOf_some hth
    have hj4 : x.t.toNat < s.T.length := by omega
    have hlv1 : ∀ tv gv, Fn Tryd.prog 29 [.pointer (some ⟨m, 0, none⟩), vi x.t] (rcl m q tv gv (s.T.map tpO)) Unit (fun _ => .pointer (some ⟨c, 0, none⟩)) (fun _ => rcl m q tv gv (s.T.map tpO)) := fun tv gv => by
      have h := hlv0 tv gv; rw [hth] at h; exact h
    clear hlv0
    obtain ⟨htk, htt, htx⟩ := hok.t x.t.toNat c _ (by omega) hst
    have hph3 := htk.ph
    have hwt := htk.wt
    simp only at hph3 htx hwt
    have hself : s.T.set x.t.toNat (some (c, ⟨r, k, ⟨it, ph⟩⟩)) = s.T := set_self hj4 hst
    have hrt : rths s.T = rthr c ⟨r, k, ⟨it, ph⟩⟩ * rths (s.T.eraseIdx x.t.toNat) := by rw [rths_at s.T x.t.toNat hj4, hst]; rfl
    have key : ∀ e : Int, (∀ p : SV × Nat, doG p.1 p.2 q s x full = (s, e, 0)) → ((x.k = 2 ∧ e = 2) ∨ (x.k = 0 ∧ ((ph ≠ 0 ∧ e = 3) ∨ (ph = 0 ∧ ¬ (0 ≤ x.c ∧ x.c < 13) ∧ e = 1))) ∨ (x.k = 1 ∧ ph = 0 ∧ e = 3) ∨ (x.k = 3 ∧ ph ≠ 0 ∧ e = 3) ∨ (x.k ≠ 0 ∧ x.k ≠ 1 ∧ x.k ≠ 2 ∧ x.k ≠ 3 ∧ e = 0)) →
        Fn Tryd.prog 15 [.pointer (some ⟨m, 0, none⟩), .agg x.cs.toArray, .bool full] (rgh m q s) (SV × Nat) (fun p => .tuple #[vi (doG p.1 p.2 q s x full).2.1, vi (doG p.1 p.2 q s x full).2.2]) (fun p => rgh m q (doG p.1 p.2 q s x full).1) := fun e hdo hk => by
      simp only [hdo]
      clear hdo hok
      rcases hk with ⟨hk, rfl⟩ | ⟨hk, ⟨hp, rfl⟩ | ⟨hp, hc, rfl⟩⟩ | ⟨hk, hp, rfl⟩ | ⟨hk, hp, rfl⟩ | ⟨hk, hk1, hk2, hk3, rfl⟩
      · have hc : 0 ≤ x.t ∧ x.t < q.threads := by omega
        all_goals (refine Fn.of Tryd.func15 rfl (by kernel_rfl) Tryd.ntmps15 rfl (fun F => ?_))
        all_goals refine Cw.opn (rgh_ex m q s) (fun y => ?_)
        all_goals obtain ⟨tv, gv⟩ := y
        all_goals have hlv := hlv1 tv gv
        all_goals dsimp only
        all_goals (refine Cw.heq (by simp only [star_assoc, emp_star, star_emp]; exact rfl) ?_)
        all_goals (repeat' (first | (refine Ow.is ?_; (first | refine Ow.pu rfl (Pu.fld rfl) ?_ | refine Ow.nil ?_ | refine Ow.pu rfl (Pu.move rfl) ?_ | refine Ow.pu rfl (Pu.assign rfl) ?_ | refine Ow.pu rfl (Pu.fld rfl) ?_ | refine Ow.pu rfl (Pu.nilCheck rfl) ?_ | refine Ow.pu rfl (Pu.extract rfl rfl) ?_ | (refine Ow.kLoad ?_; (first | refine Ow.pu rfl (Pu.load_cl rfl pkA rfl) ?_ | refine Ow.pu rfl (Pu.loadN_cl rfl pkA rfl rfl) ?_)) | (refine Ow.kBin ?_; (first | (refine Ow.b_eql ?_; (first | refine Ow.pu rfl (Pu.eq_t rfl rfl roA) ?_ | refine Ow.pu rfl (Pu.eq_f rfl rfl odA) ?_ | refine Ow.pu rfl (Pu.eqNil rfl rfl) ?_)) | (refine Ow.b_neq ?_; (first | refine Ow.pu rfl (Pu.ne_t rfl rfl odA) ?_ | refine Ow.pu rfl (Pu.ne_f rfl rfl roA) ?_ | refine Ow.pu rfl (Pu.neNil rfl rfl) ?_)))) | (refine Ow.kUn ?_; (first | refine Ow.pu rfl (Pu.not rfl) ?_)) | (refine Ow.kStore ?_; (first | refine Ow.store_cl rfl rfl rfl (by (first | rfl | assumption | exact Subtype.property _)) pkA rfl ?_ | refine Ow.storeN rfl rfl rfl rfl rfl pkA rfl ?_)) | (refine Ow.kCall ?_; (first | refine Ow.callE evA (pk2' pkA (pk2' pkA (pk2' pkA (pk2' pkA (pk2' pkA (pk2' pkA pkA)))))) rfl hact (fun w => ?_) | refine Ow.callE0 evA rfl (in_t _ _ (by omega)) (fun _ => Ow.unemp ?_) | refine Ow.callE0 evA rfl (in_f _ _ (by omega)) (fun _ => Ow.unemp ?_) | refine Ow.callE evA pkA rfl hlv (fun _ => ?_) | fail)) | refine Ow.box rfl rfl rfl (fun bx => ?_))) | (refine Cw.is ?_; (first | refine Cw.seq ?_ | refine Cw.region ?_ | refine Cw.cond_t rfl rfl ?_ | refine Cw.cond_f rfl rfl ?_ | refine Cw.block ?_ | refine Cw.ret ?_ | refine Cw.skip ?_ | refine Cw.drawL (n := 105) (id := 22) [(0, false), (1, false), (2, false), (3, false), (4, false), (5, false), (6, false), (7, true), (8, false), (9, false), (10, false), (11, false), (12, false)] mixed (by kernel_rfl) ?_)) | (first | refine thenQ_n ?_ | refine thenQ_r ?_ | refine blockQ_n ?_ | refine blockQ_r ?_ | (refine loudQ.is ?_; first | refine loudQ.go pkA ?_ | refine loudQ.goE (by ac_rfl) ?_)) | (refine Dw.is ?_; (first | refine Dw.q rfl rfl trivial (by (first | exact Pu.move rfl | exact Pu.assign rfl | exact Pu.fld rfl | exact Pu.nilCheck rfl | exact Pu.extract rfl rfl | exact Pu.build (ps := [(0, .tmp 84)]) (vs := [fv.v]) (cs := fv.v :: .slice none 0 0 :: vi 0 :: it0.cs) evA (fun w => by kernel_rfl) | (apply Pu.kLoad; (first | exact Pu.load_cl rfl pkA rfl | exact Pu.loadN_cl rfl pkA rfl rfl)) | (apply Pu.kUn; (first | exact Pu.not rfl)) | (apply Pu.kBin; (first | (apply Pu.b_neq; (first | exact Pu.ne_t rfl rfl odA | exact Pu.ne_f rfl rfl roA | exact Pu.neNil rfl rfl)))) | (apply Pu.kPick; (first | exact Pu.pick_t rfl rfl | exact Pu.pick_f rfl rfl)))) ?_ | refine Dw.q rfl rfl ⟨_, _, rfl, rfl, rfl⟩ (by (first | exact Pu.move rfl | exact Pu.assign rfl | exact Pu.fld rfl | exact Pu.nilCheck rfl | exact Pu.extract rfl rfl | exact Pu.build (ps := [(0, .tmp 84)]) (vs := [fv.v]) (cs := fv.v :: .slice none 0 0 :: vi 0 :: it0.cs) evA (fun w => by kernel_rfl) | (apply Pu.kLoad; (first | exact Pu.load_cl rfl pkA rfl | exact Pu.loadN_cl rfl pkA rfl rfl)) | (apply Pu.kUn; (first | exact Pu.not rfl)) | (apply Pu.kBin; (first | (apply Pu.b_neq; (first | exact Pu.ne_t rfl rfl odA | exact Pu.ne_f rfl rfl roA | exact Pu.neNil rfl rfl)))) | (apply Pu.kPick; (first | exact Pu.pick_t rfl rfl | exact Pu.pick_f rfl rfl)))) ?_ | refine Dw.s rfl rfl rfl rfl rfl ?_ | refine Dw.nilE ?_ rfl | refine Dw.lE rfl trivial ?_ | refine Dw.lE rfl ⟨_, _, rfl, rfl, rfl⟩ ?_))))
        all_goals refine retQ_v2 default Tryd.results15 rfl rfl rfl ?_
        all_goals refine Ent.trans ?_ (Ent.left (rgh_mk m q s.O s.G s.T tv gv))
        all_goals ((try simp only [star_assoc]); (repeat (apply Ent.pk; exact pkA)); first | exact Ent.fin pkA | exact Ent.refl _)
      all_goals (refine Fn.of Tryd.func15 rfl (by kernel_rfl) Tryd.ntmps15 rfl (fun F => ?_))
      all_goals refine Cw.opn (rgh_ex m q s) (fun y => ?_)
      all_goals obtain ⟨tv, gv⟩ := y
      all_goals have hlv := hlv1 tv gv
      all_goals dsimp only
      all_goals rw [hrt]
      all_goals (refine Cw.heq (by simp only [star_assoc, emp_star, star_emp]; exact rfl) ?_)
      all_goals refine Cw.pkd (A := rthr c ⟨r, k, ⟨it, ph⟩⟩) pkA ?_
      all_goals refine Cw.opn (rthr_ex c ⟨r, k, ⟨it, ph⟩⟩) (fun z => ?_)
      all_goals obtain ⟨rv, kv⟩ := z
      all_goals dsimp only
      all_goals (refine Cw.heq (by simp only [star_assoc, emp_star, star_emp]; exact rfl) ?_)
      all_goals (repeat' (first | (refine Ow.is ?_; (first | refine Ow.pu rfl (Pu.fld rfl) ?_ | refine Ow.nil ?_ | refine Ow.pu rfl (Pu.move rfl) ?_ | refine Ow.pu rfl (Pu.assign rfl) ?_ | refine Ow.pu rfl (Pu.fld rfl) ?_ | refine Ow.pu rfl (Pu.nilCheck rfl) ?_ | refine Ow.pu rfl (Pu.extract rfl rfl) ?_ | (refine Ow.kLoad ?_; (first | refine Ow.pu rfl (Pu.load_cl rfl pkA rfl) ?_ | refine Ow.pu rfl (Pu.loadN_cl rfl pkA rfl rfl) ?_)) | (refine Ow.kBin ?_; (first | (refine Ow.b_eql ?_; (first | refine Ow.pu rfl (Pu.eq_t rfl rfl roA) ?_ | refine Ow.pu rfl (Pu.eq_f rfl rfl odA) ?_ | refine Ow.pu rfl (Pu.eqNil rfl rfl) ?_)) | (refine Ow.b_neq ?_; (first | refine Ow.pu rfl (Pu.ne_t rfl rfl odA) ?_ | refine Ow.pu rfl (Pu.ne_f rfl rfl roA) ?_ | refine Ow.pu rfl (Pu.neNil rfl rfl) ?_)))) | (refine Ow.kUn ?_; (first | refine Ow.pu rfl (Pu.not rfl) ?_)) | (refine Ow.kStore ?_; (first | refine Ow.store_cl rfl rfl rfl (by (first | rfl | assumption | exact Subtype.property _)) pkA rfl ?_ | refine Ow.storeN rfl rfl rfl rfl rfl pkA rfl ?_)) | (refine Ow.kCall ?_; (first | refine Ow.callE evA (pk2' pkA (pk2' pkA (pk2' pkA (pk2' pkA (pk2' pkA (pk2' pkA pkA)))))) rfl hact (fun w => ?_) | refine Ow.callE0 evA rfl (in_t _ _ (by omega)) (fun _ => Ow.unemp ?_) | refine Ow.callE0 evA rfl (in_f _ _ (by omega)) (fun _ => Ow.unemp ?_) | refine Ow.callE evA pkA rfl hlv (fun _ => ?_) | fail)) | refine Ow.box rfl rfl rfl (fun bx => ?_))) | (refine Cw.is ?_; (first | refine Cw.seq ?_ | refine Cw.region ?_ | refine Cw.cond_t rfl rfl ?_ | refine Cw.cond_f rfl rfl ?_ | refine Cw.block ?_ | refine Cw.ret ?_ | refine Cw.skip ?_ | refine Cw.drawL (n := 105) (id := 22) [(0, false), (1, false), (2, false), (3, false), (4, false), (5, false), (6, false), (7, true), (8, false), (9, false), (10, false), (11, false), (12, false)] mixed (by kernel_rfl) ?_)) | (first | refine thenQ_n ?_ | refine thenQ_r ?_ | refine blockQ_n ?_ | refine blockQ_r ?_ | (refine loudQ.is ?_; first | refine loudQ.go pkA ?_ | refine loudQ.goE (by ac_rfl) ?_)) | (refine Dw.is ?_; (first | refine Dw.q rfl rfl trivial (by (first | exact Pu.move rfl | exact Pu.assign rfl | exact Pu.fld rfl | exact Pu.nilCheck rfl | exact Pu.extract rfl rfl | exact Pu.idxA_b rfl rfl (by omega) | exact Pu.build (ps := [(0, .tmp 84)]) (vs := [fv.v]) (cs := fv.v :: .slice none 0 0 :: vi 0 :: it0.cs) evA (fun w => by kernel_rfl) | (apply Pu.kLoad; (first | exact Pu.load_cl rfl pkA rfl | exact Pu.loadN_cl rfl pkA rfl rfl)) | (apply Pu.kUn; (first | exact Pu.not rfl)) | (apply Pu.kBin; (first | (apply Pu.b_neq; (first | exact Pu.ne_t rfl rfl odA | exact Pu.ne_f rfl rfl roA | exact Pu.neNil rfl rfl)))) | (apply Pu.kPick; (first | exact Pu.pick_t rfl rfl | exact Pu.pick_f rfl rfl)))) ?_ | refine Dw.q rfl rfl ⟨_, _, rfl, rfl, rfl⟩ (by (first | exact Pu.move rfl | exact Pu.assign rfl | exact Pu.fld rfl | exact Pu.nilCheck rfl | exact Pu.extract rfl rfl | exact Pu.idxA_b rfl rfl (by omega) | exact Pu.build (ps := [(0, .tmp 84)]) (vs := [fv.v]) (cs := fv.v :: .slice none 0 0 :: vi 0 :: it0.cs) evA (fun w => by kernel_rfl) | (apply Pu.kLoad; (first | exact Pu.load_cl rfl pkA rfl | exact Pu.loadN_cl rfl pkA rfl rfl)) | (apply Pu.kUn; (first | exact Pu.not rfl)) | (apply Pu.kBin; (first | (apply Pu.b_neq; (first | exact Pu.ne_t rfl rfl odA | exact Pu.ne_f rfl rfl roA | exact Pu.neNil rfl rfl)))) | (apply Pu.kPick; (first | exact Pu.pick_t rfl rfl | exact Pu.pick_f rfl rfl)))) ?_ | refine Dw.s rfl rfl rfl rfl rfl ?_ | refine Dw.nilE ?_ rfl | refine Dw.lE rfl trivial ?_ | refine Dw.lE rfl ⟨_, _, rfl, rfl, rfl⟩ ?_))))
      all_goals refine retQ_v2 default Tryd.results15 rfl rfl rfl ?_
      all_goals rw [show rgh m q s = rgh m q ⟨s.O, s.G, s.T.set x.t.toNat (some (c, ⟨r, k, ⟨it, ph⟩⟩))⟩ by rw [hself]]
      all_goals refine Ent.trans ?_ (Ent.left (rgh_mkt m q s.O s.G s.T tv gv c x.t.toNat _ hj4 hst r k it ph rv kv))
      all_goals ((try simp only [star_assoc]); (repeat (apply Ent.pk; exact pkA)); first | exact Ent.fin pkA | exact Ent.refl _)
    have hdo0 : ∀ p : SV × Nat, doG p.1 p.2 q s x full = if x.k = 2 then (s, 2, 0) else if x.k = 0 ∨ x.k = 1 ∨ x.k = 3 then (if (x.k = 1 ∧ ph = 0) ∨ (x.k ≠ 1 ∧ ph ≠ 0) then (s, 3, 0)
        else if x.k = 3 then ({ s with T := s.T.set x.t.toNat none }, 0, 0)
        else if x.k = 0 then (if 0 ≤ x.c ∧ x.c < 13 then ({ s with T := s.T.set x.t.toNat (some (c, ⟨r, k, ⟨x, 1⟩⟩)) }, 0, 0) else (s, 1, 0))
        else if ph = 1 then
          (⟨(actR p.1 q s.O s.G r k it full).O, (actR p.1 q s.O s.G r k it full).G, s.T.set x.t.toNat (some (c, ⟨(actR p.1 q s.O s.G r k it full).r, (actR p.1 q s.O s.G r k it full).s, ⟨it, 2⟩⟩))⟩, (actR p.1 q s.O s.G r k it full).e, (actR p.1 q s.O s.G r k it full).v)
        else ({ s with T := s.T.set x.t.toNat (some (c, ⟨r, k, ⟨it, 0⟩⟩)) }, 0, 0)) else (s, 0, 0) := fun p => by
      unfold doG
      by_cases h2 : x.k = 2
      · rw [if_pos h2, if_pos h2, if_neg (fun h => by rw [hth] at h; cases h.2)]
      · rw [if_neg h2, if_neg h2, hth]
    by_cases h2 : x.k = 2
    · exact key 2 (fun p => by rw [hdo0, if_pos h2]) (by omega)
    simp only [if_neg h2] at hdo0
    by_cases hk : x.k = 0 ∨ x.k = 1 ∨ x.k = 3
    · simp only [if_pos hk] at hdo0
      by_cases hb : (x.k = 1 ∧ ph = 0) ∨ (x.k ≠ 1 ∧ ph ≠ 0)
      · exact key 3 (fun p => by rw [hdo0, if_pos hb]) (by omega)
      simp only [if_neg hb] at hdo0
      by_cases hk3 : x.k = 3
      · simp only [if_pos hk3] at hdo0
        simp only [hdo0]
        clear key hdo0
        have hp0 : ph = 0 := by omega
        (refine Fn.of Tryd.func15 rfl (by kernel_rfl) Tryd.ntmps15 rfl (fun F => ?_))
        refine Cw.opn (rgh_ex m q s) (fun y => ?_)
        obtain ⟨tv, gv⟩ := y
        have hlv := hlv1 tv gv
        dsimp only
        rw [hrt]
        (refine Cw.heq (by simp only [star_assoc, emp_star, star_emp]; exact rfl) ?_)
        refine Cw.pkd (A := rthr c ⟨r, k, ⟨it, ph⟩⟩) pkA ?_
        refine Cw.opn (rthr_ex c ⟨r, k, ⟨it, ph⟩⟩) (fun z => ?_)
        obtain ⟨rv, kv⟩ := z
        dsimp only
        (refine Cw.heq (by simp only [star_assoc, emp_star, star_emp]; exact rfl) ?_)
        have hwr := rcl_w m q tv gv (s.T.map tpO) (i := x.t.toNat) (u := .pointer none) (by simpa using hj4)
        (repeat' (first | (refine Ow.is ?_; (first | refine Ow.pu rfl (Pu.fld rfl) ?_ | refine Ow.nil ?_ | refine Ow.pu rfl (Pu.move rfl) ?_ | refine Ow.pu rfl (Pu.assign rfl) ?_ | refine Ow.pu rfl (Pu.fld rfl) ?_ | (refine Ow.kLoad ?_; (first | refine Ow.pu rfl (Pu.load_cl rfl pkA rfl) ?_)) | (refine Ow.kBin ?_; (first | (refine Ow.b_eql ?_; (first | refine Ow.pu rfl (Pu.eq_t rfl rfl roA) ?_ | refine Ow.pu rfl (Pu.eq_f rfl rfl odA) ?_ | refine Ow.pu rfl (Pu.eqNil rfl rfl) ?_)))) | (refine Ow.kCall ?_; (first | refine Ow.callE evA pkA rfl hlv (fun _ => ?_) | fail)) | refine Ow.box rfl rfl rfl (fun bx => ?_))) | (refine Cw.is ?_; (first | refine Cw.seq ?_ | refine Cw.region ?_ | refine Cw.cond_t rfl rfl ?_ | refine Cw.cond_f rfl rfl ?_ | refine Cw.block ?_ | refine Cw.ret ?_ | refine Cw.skip ?_)) | (first | refine thenQ_n ?_ | refine thenQ_r ?_ | refine blockQ_n ?_ | refine blockQ_r ?_)))
        (repeat' (first | (refine Ow.is ?_; (first | refine Ow.nil ?_ | refine Ow.pu rfl (Pu.assign rfl) ?_ | (refine Ow.kBin ?_; (first | (refine Ow.b_eql ?_; (first | refine Ow.pu rfl (Pu.eq_t rfl rfl roA) ?_ | refine Ow.pu rfl (Pu.eq_f rfl rfl odA) ?_)))))) | (refine Cw.is ?_; (first | refine Cw.seq ?_ | refine Cw.region ?_ | refine Cw.cond_t rfl rfl ?_ | refine Cw.cond_f rfl rfl ?_ | refine Cw.block ?_ | refine Cw.ret ?_ | refine Cw.skip ?_)) | (first | refine thenQ_n ?_ | refine thenQ_r ?_ | refine blockQ_n ?_ | refine blockQ_r ?_)))
        (repeat' (first | (refine Ow.is ?_; (first | refine Ow.nil ?_ | refine Ow.pu rfl (Pu.assign rfl) ?_ | (refine Ow.kBin ?_; (first | (refine Ow.b_eql ?_; (first | refine Ow.pu rfl (Pu.eq_t rfl rfl roA) ?_ | refine Ow.pu rfl (Pu.eq_f rfl rfl odA) ?_)))))) | (refine Cw.is ?_; (first | refine Cw.seq ?_ | refine Cw.region ?_ | refine Cw.cond_t rfl rfl ?_ | refine Cw.cond_f rfl rfl ?_ | refine Cw.block ?_ | refine Cw.ret ?_ | refine Cw.skip ?_)) | (first | refine thenQ_n ?_ | refine thenQ_r ?_ | refine blockQ_n ?_ | refine blockQ_r ?_)))
        (repeat' (first | (refine Ow.is ?_; (first | refine Ow.pu rfl (Pu.fld rfl) ?_ | refine Ow.nil ?_ | refine Ow.pu rfl (Pu.move rfl) ?_ | refine Ow.pu rfl (Pu.assign rfl) ?_ | refine Ow.pu rfl (Pu.fld rfl) ?_ | refine Ow.pu rfl (Pu.nilCheck rfl) ?_ | (refine Ow.kLoad ?_; (first | refine Ow.pu rfl (Pu.load_cl rfl pkA rfl) ?_)) | (refine Ow.kBin ?_; (first | (refine Ow.b_eql ?_; (first | refine Ow.pu rfl (Pu.eq_t rfl rfl roA) ?_ | refine Ow.pu rfl (Pu.eq_f rfl rfl odA) ?_ | refine Ow.pu rfl (Pu.eqNil rfl rfl) ?_)) | (refine Ow.b_neq ?_; (first | refine Ow.pu rfl (Pu.ne_t rfl rfl odA) ?_ | refine Ow.pu rfl (Pu.ne_f rfl rfl roA) ?_)))))) | (refine Cw.is ?_; (first | refine Cw.seq ?_ | refine Cw.region ?_ | refine Cw.cond_t rfl rfl ?_ | refine Cw.cond_f rfl rfl ?_ | refine Cw.block ?_ | refine Cw.ret ?_ | refine Cw.skip ?_)) | (first | refine thenQ_n ?_ | refine thenQ_r ?_ | refine blockQ_n ?_ | refine blockQ_r ?_)))
        (refine Cw.drawF2 (rcl _ _ _ _ _) (cl bx _) 6 [(0, false), (1, false), (2, false), (3, false), (4, false), (5, false), (6, true)] pkA pkA mixed (by kernel_rfl) ?_; (iterate 6 ((first | refine DwF.q rfl rfl (by kernel_rfl) trivial (by (first | exact Pu.move rfl | exact Pu.assign rfl | exact Pu.fld rfl | exact Pu.nilCheck rfl | exact Pu.extract rfl rfl | exact Pu.idxA_b rfl rfl (by omega) | exact Pu.build (ps := [(0, .tmp 84)]) (vs := [fv.v]) (cs := fv.v :: .slice none 0 0 :: vi 0 :: it0.cs) evA (fun w => by kernel_rfl) | (apply Pu.kLoad; (first | exact Pu.load_cl rfl pkA rfl | exact Pu.loadN_cl rfl pkA rfl rfl)) | (apply Pu.kUn; (first | exact Pu.not rfl)) | (apply Pu.kBin; (first | (apply Pu.b_neq; (first | exact Pu.ne_t rfl rfl odA | exact Pu.ne_f rfl rfl roA | exact Pu.neNil rfl rfl)))) | (apply Pu.kPick; (first | exact Pu.pick_t rfl rfl | exact Pu.pick_f rfl rfl)))) ?_ | refine DwF.q rfl rfl (by kernel_rfl) ⟨_, _, rfl, rfl, rfl⟩ (by (first | exact Pu.move rfl | exact Pu.assign rfl | exact Pu.fld rfl | exact Pu.nilCheck rfl | exact Pu.extract rfl rfl | exact Pu.idxA_b rfl rfl (by omega) | exact Pu.build (ps := [(0, .tmp 84)]) (vs := [fv.v]) (cs := fv.v :: .slice none 0 0 :: vi 0 :: it0.cs) evA (fun w => by kernel_rfl) | (apply Pu.kLoad; (first | exact Pu.load_cl rfl pkA rfl | exact Pu.loadN_cl rfl pkA rfl rfl)) | (apply Pu.kUn; (first | exact Pu.not rfl)) | (apply Pu.kBin; (first | (apply Pu.b_neq; (first | exact Pu.ne_t rfl rfl odA | exact Pu.ne_f rfl rfl roA | exact Pu.neNil rfl rfl)))) | (apply Pu.kPick; (first | exact Pu.pick_t rfl rfl | exact Pu.pick_f rfl rfl)))) ?_))); refine DwF.b rfl (by first | exact trivial | exact ⟨_, _, rfl, rfl, rfl⟩) rfl ?_; refine Ow.heq (star_assoc _ _ _) ?_; refine Ow.store (a := ⟨m, 0 + 12 + x.t.toNat * 1, none⟩) rfl rfl rfl rfl pkA hwr ?_; refine Ow.nil ?_; refine loudF.go ?_; refine DwF.nil ?_)
        (repeat' (first | (refine Ow.is ?_; (first | refine Ow.nil ?_ | refine Ow.pu rfl (Pu.assign rfl) ?_)) | (refine Cw.is ?_; (first | refine Cw.seq ?_ | refine Cw.region ?_ | refine Cw.cond_t rfl rfl ?_ | refine Cw.cond_f rfl rfl ?_ | refine Cw.block ?_ | refine Cw.ret ?_ | refine Cw.skip ?_)) | (first | refine thenQ_n ?_ | refine thenQ_r ?_ | refine blockQ_n ?_ | refine blockQ_r ?_)))
        refine retQ_v2 default Tryd.results15 rfl rfl rfl ?_
        refine Ent.trans ?_ (Ent.left (rgh_mkn m q s.O s.G s.T tv gv x.t.toNat hj4))
        ((try simp only [star_assoc]); (repeat (apply Ent.pk; exact pkA)); first | exact Ent.fin pkA | exact Ent.refl _)
      simp only [if_neg hk3] at hdo0
      by_cases hk0 : x.k = 0
      · simp only [if_pos hk0] at hdo0
        have hp0 : ph = 0 := by omega
        by_cases hc : 0 ≤ x.c ∧ x.c < 13
        · simp only [if_pos hc] at hdo0
          simp only [hdo0]
          clear key hdo0
          (refine Fn.of Tryd.func15 rfl (by kernel_rfl) Tryd.ntmps15 rfl (fun F => ?_))
          refine Cw.opn (rgh_ex m q s) (fun y => ?_)
          obtain ⟨tv, gv⟩ := y
          have hlv := hlv1 tv gv
          dsimp only
          rw [hrt]
          (refine Cw.heq (by simp only [star_assoc, emp_star, star_emp]; exact rfl) ?_)
          refine Cw.pkd (A := rthr c ⟨r, k, ⟨it, ph⟩⟩) pkA ?_
          refine Cw.opn (rthr_ex c ⟨r, k, ⟨it, ph⟩⟩) (fun z => ?_)
          obtain ⟨rv, kv⟩ := z
          dsimp only
          (refine Cw.heq (by simp only [star_assoc, emp_star, star_emp]; exact rfl) ?_)
          (repeat' (first | (refine Ow.is ?_; (first | refine Ow.pu rfl (Pu.fld rfl) ?_ | refine Ow.nil ?_ | refine Ow.pu rfl (Pu.move rfl) ?_ | refine Ow.pu rfl (Pu.assign rfl) ?_ | refine Ow.pu rfl (Pu.fld rfl) ?_ | refine Ow.pu rfl (Pu.nilCheck rfl) ?_ | (refine Ow.kLoad ?_; (first | refine Ow.pu rfl (Pu.load_cl rfl pkA rfl) ?_)) | (refine Ow.kBin ?_; (first | (refine Ow.b_eql ?_; (first | refine Ow.pu rfl (Pu.eq_t rfl rfl roA) ?_ | refine Ow.pu rfl (Pu.eq_f rfl rfl odA) ?_ | refine Ow.pu rfl (Pu.eqNil rfl rfl) ?_)) | (refine Ow.b_neq ?_; (first | refine Ow.pu rfl (Pu.ne_t rfl rfl odA) ?_ | refine Ow.pu rfl (Pu.ne_f rfl rfl roA) ?_)))) | (refine Ow.kUn ?_; (first | refine Ow.pu rfl (Pu.not rfl) ?_)) | (refine Ow.kCall ?_; (first | refine Ow.callE0 evA rfl (in_t _ _ (by omega)) (fun _ => Ow.unemp ?_) | refine Ow.callE0 evA rfl (in_f _ _ (by omega)) (fun _ => Ow.unemp ?_) | refine Ow.callE evA pkA rfl hlv (fun _ => ?_) | fail)) | refine Ow.box rfl rfl rfl (fun bx => ?_))) | (refine Cw.is ?_; (first | refine Cw.seq ?_ | refine Cw.region ?_ | refine Cw.cond_t rfl rfl ?_ | refine Cw.cond_f rfl rfl ?_ | refine Cw.block ?_ | refine Cw.ret ?_ | refine Cw.skip ?_)) | (first | refine thenQ_n ?_ | refine thenQ_r ?_ | refine blockQ_n ?_ | refine blockQ_r ?_)))
          (refine Cw.drawF (cl bx _) 8 [(0, false), (1, false), (2, false), (3, false), (4, false), (5, true), (6, false), (7, false), (8, true)] pkA mixed (by kernel_rfl) ?_; (iterate 5 ((first | refine DwF.q rfl rfl (by kernel_rfl) trivial (by (first | exact Pu.move rfl | exact Pu.assign rfl | exact Pu.fld rfl | exact Pu.nilCheck rfl | exact Pu.extract rfl rfl | exact Pu.idxA_b rfl rfl (by omega) | exact Pu.build (ps := [(0, .tmp 84)]) (vs := [fv.v]) (cs := fv.v :: .slice none 0 0 :: vi 0 :: it0.cs) evA (fun w => by kernel_rfl) | (apply Pu.kLoad; (first | exact Pu.load_cl rfl pkA rfl | exact Pu.loadN_cl rfl pkA rfl rfl)) | (apply Pu.kUn; (first | exact Pu.not rfl)) | (apply Pu.kBin; (first | (apply Pu.b_neq; (first | exact Pu.ne_t rfl rfl odA | exact Pu.ne_f rfl rfl roA | exact Pu.neNil rfl rfl)))) | (apply Pu.kPick; (first | exact Pu.pick_t rfl rfl | exact Pu.pick_f rfl rfl)))) ?_ | refine DwF.q rfl rfl (by kernel_rfl) ⟨_, _, rfl, rfl, rfl⟩ (by (first | exact Pu.move rfl | exact Pu.assign rfl | exact Pu.fld rfl | exact Pu.nilCheck rfl | exact Pu.extract rfl rfl | exact Pu.idxA_b rfl rfl (by omega) | exact Pu.build (ps := [(0, .tmp 84)]) (vs := [fv.v]) (cs := fv.v :: .slice none 0 0 :: vi 0 :: it0.cs) evA (fun w => by kernel_rfl) | (apply Pu.kLoad; (first | exact Pu.load_cl rfl pkA rfl | exact Pu.loadN_cl rfl pkA rfl rfl)) | (apply Pu.kUn; (first | exact Pu.not rfl)) | (apply Pu.kBin; (first | (apply Pu.b_neq; (first | exact Pu.ne_t rfl rfl odA | exact Pu.ne_f rfl rfl roA | exact Pu.neNil rfl rfl)))) | (apply Pu.kPick; (first | exact Pu.pick_t rfl rfl | exact Pu.pick_f rfl rfl)))) ?_))); refine DwF.c rfl (by first | exact trivial | exact ⟨_, _, rfl, rfl, rfl⟩) rfl ?_; refine Ow.store_cl rfl rfl rfl (by (first | rfl | assumption | exact Subtype.property _)) pkA rfl ?_; refine Ow.nil ?_; refine loudG.go pkA ?_; (iterate 2 ((first | refine DwF.q rfl rfl (by kernel_rfl) trivial (by (first | exact Pu.move rfl | exact Pu.assign rfl | exact Pu.fld rfl | exact Pu.nilCheck rfl | exact Pu.extract rfl rfl | exact Pu.idxA_b rfl rfl (by omega) | exact Pu.build (ps := [(0, .tmp 84)]) (vs := [fv.v]) (cs := fv.v :: .slice none 0 0 :: vi 0 :: it0.cs) evA (fun w => by kernel_rfl) | (apply Pu.kLoad; (first | exact Pu.load_cl rfl pkA rfl | exact Pu.loadN_cl rfl pkA rfl rfl)) | (apply Pu.kUn; (first | exact Pu.not rfl)) | (apply Pu.kBin; (first | (apply Pu.b_neq; (first | exact Pu.ne_t rfl rfl odA | exact Pu.ne_f rfl rfl roA | exact Pu.neNil rfl rfl)))) | (apply Pu.kPick; (first | exact Pu.pick_t rfl rfl | exact Pu.pick_f rfl rfl)))) ?_ | refine DwF.q rfl rfl (by kernel_rfl) ⟨_, _, rfl, rfl, rfl⟩ (by (first | exact Pu.move rfl | exact Pu.assign rfl | exact Pu.fld rfl | exact Pu.nilCheck rfl | exact Pu.extract rfl rfl | exact Pu.idxA_b rfl rfl (by omega) | exact Pu.build (ps := [(0, .tmp 84)]) (vs := [fv.v]) (cs := fv.v :: .slice none 0 0 :: vi 0 :: it0.cs) evA (fun w => by kernel_rfl) | (apply Pu.kLoad; (first | exact Pu.load_cl rfl pkA rfl | exact Pu.loadN_cl rfl pkA rfl rfl)) | (apply Pu.kUn; (first | exact Pu.not rfl)) | (apply Pu.kBin; (first | (apply Pu.b_neq; (first | exact Pu.ne_t rfl rfl odA | exact Pu.ne_f rfl rfl roA | exact Pu.neNil rfl rfl)))) | (apply Pu.kPick; (first | exact Pu.pick_t rfl rfl | exact Pu.pick_f rfl rfl)))) ?_))); refine DwF.b rfl (by first | exact trivial | exact ⟨_, _, rfl, rfl, rfl⟩) rfl ?_; refine Ow.storeN rfl rfl rfl rfl rfl pkA rfl ?_; refine Ow.nil ?_; refine loudF.go ?_; refine DwF.nil ?_)
          (repeat' (first | (refine Ow.is ?_; (first | refine Ow.nil ?_ | refine Ow.pu rfl (Pu.assign rfl) ?_)) | (refine Cw.is ?_; (first | refine Cw.seq ?_ | refine Cw.region ?_ | refine Cw.cond_t rfl rfl ?_ | refine Cw.cond_f rfl rfl ?_ | refine Cw.block ?_ | refine Cw.ret ?_ | refine Cw.skip ?_)) | (first | refine thenQ_n ?_ | refine thenQ_r ?_ | refine blockQ_n ?_ | refine blockQ_r ?_)))
          refine retQ_v2 default Tryd.results15 rfl rfl rfl ?_
          refine Ent.trans ?_ (Ent.left (rgh_mkt m q s.O s.G s.T tv gv c x.t.toNat _ hj4 hst r k x 1 rv kv))
          ((try simp only [star_assoc]); (repeat (apply Ent.pk; exact pkA)); first | exact Ent.fin pkA | exact Ent.refl _)
        · exact key 1 (fun p => by rw [hdo0, if_neg hc]) (by omega)
      have hk1 : x.k = 1 := by omega
      simp only [if_neg hk0] at hdo0
      by_cases hp1 : ph = 1
      · simp only [if_pos hp1] at hdo0
        simp only [hdo0]
        have hact0 := fun tv gv rv kv => ract_fn m q tv gv (s.T.map tpO) s.O s.G c rv kv 2 it r k full (by omega) hq8 (by simpa using hT) (by omega) htk.rl hok.gl htk.r htk.sl
        clear key hdo0
        (refine Fn.of Tryd.func15 rfl (by kernel_rfl) Tryd.ntmps15 rfl (fun F => ?_))
        refine Cw.opn (rgh_ex m q s) (fun y => ?_)
        obtain ⟨tv, gv⟩ := y
        have hlv := hlv1 tv gv
        dsimp only
        rw [hrt]
        (refine Cw.heq (by simp only [star_assoc, emp_star, star_emp]; exact rfl) ?_)
        refine Cw.pkd (A := rthr c ⟨r, k, ⟨it, ph⟩⟩) pkA ?_
        refine Cw.opn (rthr_ex c ⟨r, k, ⟨it, ph⟩⟩) (fun z => ?_)
        obtain ⟨rv, kv⟩ := z
        dsimp only
        (refine Cw.heq (by simp only [star_assoc, emp_star, star_emp]; exact rfl) ?_)
        have hact := hact0 tv gv rv kv
        (repeat' (first | (refine Ow.is ?_; (first | refine Ow.pu rfl (Pu.fld rfl) ?_ | refine Ow.nil ?_ | refine Ow.pu rfl (Pu.move rfl) ?_ | refine Ow.pu rfl (Pu.assign rfl) ?_ | refine Ow.pu rfl (Pu.fld rfl) ?_ | (refine Ow.kLoad ?_; (first | refine Ow.pu rfl (Pu.load_cl rfl pkA rfl) ?_)) | (refine Ow.kBin ?_; (first | (refine Ow.b_eql ?_; (first | refine Ow.pu rfl (Pu.eq_t rfl rfl roA) ?_ | refine Ow.pu rfl (Pu.eq_f rfl rfl odA) ?_ | refine Ow.pu rfl (Pu.eqNil rfl rfl) ?_)))) | (refine Ow.kCall ?_; (first | refine Ow.callE evA pkA rfl hlv (fun _ => ?_) | fail)) | refine Ow.box rfl rfl rfl (fun bx => ?_))) | (refine Cw.is ?_; (first | refine Cw.seq ?_ | refine Cw.region ?_ | refine Cw.cond_t rfl rfl ?_ | refine Cw.cond_f rfl rfl ?_ | refine Cw.block ?_ | refine Cw.ret ?_ | refine Cw.skip ?_)) | (first | refine thenQ_n ?_ | refine thenQ_r ?_ | refine blockQ_n ?_ | refine blockQ_r ?_)))
        (repeat' (first | (refine Ow.is ?_; (first | refine Ow.pu rfl (Pu.fld rfl) ?_ | refine Ow.nil ?_ | refine Ow.pu rfl (Pu.move rfl) ?_ | refine Ow.pu rfl (Pu.assign rfl) ?_ | refine Ow.pu rfl (Pu.fld rfl) ?_ | refine Ow.pu rfl (Pu.nilCheck rfl) ?_ | refine Ow.pu rfl (Pu.extract rfl rfl) ?_ | (refine Ow.kLoad ?_; (first | refine Ow.pu rfl (Pu.load_cl rfl pkA rfl) ?_)) | (refine Ow.kBin ?_; (first | (refine Ow.b_eql ?_; (first | refine Ow.pu rfl (Pu.eq_t rfl rfl roA) ?_ | refine Ow.pu rfl (Pu.eq_f rfl rfl odA) ?_ | refine Ow.pu rfl (Pu.eqNil rfl rfl) ?_)))) | (refine Ow.kStore ?_; (first | refine Ow.store_cl rfl rfl rfl (by (first | rfl | assumption | exact Subtype.property _)) pkA rfl ?_)) | (refine Ow.kCall ?_; (first | refine Ow.callE evA (pk2' pkA (pk2' pkA (pk2' pkA (pk2' pkA (pk2' pkA (pk2' pkA pkA)))))) rfl hact (fun w => ?_) | fail)))) | (refine Cw.is ?_; (first | refine Cw.seq ?_ | refine Cw.region ?_ | refine Cw.cond_t rfl rfl ?_ | refine Cw.cond_f rfl rfl ?_ | refine Cw.block ?_ | refine Cw.ret ?_ | refine Cw.skip ?_)) | (first | refine thenQ_n ?_ | refine thenQ_r ?_ | refine blockQ_n ?_ | refine blockQ_r ?_)))
        refine retQ_v2 (w.1, 0) Tryd.results15 rfl rfl rfl ?_
        refine Ent.trans ?_ (Ent.left (rgh_mkt m q (actR w.1 q s.O s.G r k it full).O (actR w.1 q s.O s.G r k it full).G s.T w.2.1 gv c x.t.toNat _ hj4 hst (actR w.1 q s.O s.G r k it full).r (actR w.1 q s.O s.G r k it full).s it 2 rv w.2.2))
        ((try simp only [star_assoc]); (repeat (apply Ent.pk; exact pkA)); first | exact Ent.fin pkA | exact Ent.refl _)
      · simp only [if_neg hp1] at hdo0
        simp only [hdo0]
        clear key hdo0
        have hp2 : ph = 2 := by omega
        (refine Fn.of Tryd.func15 rfl (by kernel_rfl) Tryd.ntmps15 rfl (fun F => ?_))
        refine Cw.opn (rgh_ex m q s) (fun y => ?_)
        obtain ⟨tv, gv⟩ := y
        have hlv := hlv1 tv gv
        dsimp only
        rw [hrt]
        (refine Cw.heq (by simp only [star_assoc, emp_star, star_emp]; exact rfl) ?_)
        refine Cw.pkd (A := rthr c ⟨r, k, ⟨it, ph⟩⟩) pkA ?_
        refine Cw.opn (rthr_ex c ⟨r, k, ⟨it, ph⟩⟩) (fun z => ?_)
        obtain ⟨rv, kv⟩ := z
        dsimp only
        (refine Cw.heq (by simp only [star_assoc, emp_star, star_emp]; exact rfl) ?_)
        (repeat' (first | (refine Ow.is ?_; (first | refine Ow.pu rfl (Pu.fld rfl) ?_ | refine Ow.nil ?_ | refine Ow.pu rfl (Pu.move rfl) ?_ | refine Ow.pu rfl (Pu.assign rfl) ?_ | refine Ow.pu rfl (Pu.fld rfl) ?_ | (refine Ow.kLoad ?_; (first | refine Ow.pu rfl (Pu.load_cl rfl pkA rfl) ?_)) | (refine Ow.kBin ?_; (first | (refine Ow.b_eql ?_; (first | refine Ow.pu rfl (Pu.eq_t rfl rfl roA) ?_ | refine Ow.pu rfl (Pu.eq_f rfl rfl odA) ?_ | refine Ow.pu rfl (Pu.eqNil rfl rfl) ?_)))) | (refine Ow.kCall ?_; (first | refine Ow.callE evA pkA rfl hlv (fun _ => ?_) | fail)) | refine Ow.box rfl rfl rfl (fun bx => ?_))) | (refine Cw.is ?_; (first | refine Cw.seq ?_ | refine Cw.region ?_ | refine Cw.cond_t rfl rfl ?_ | refine Cw.cond_f rfl rfl ?_ | refine Cw.block ?_ | refine Cw.ret ?_ | refine Cw.skip ?_)) | (first | refine thenQ_n ?_ | refine thenQ_r ?_ | refine blockQ_n ?_ | refine blockQ_r ?_)))
        (repeat' (first | (refine Ow.is ?_; (first | refine Ow.pu rfl (Pu.fld rfl) ?_ | refine Ow.nil ?_ | refine Ow.pu rfl (Pu.move rfl) ?_ | refine Ow.pu rfl (Pu.assign rfl) ?_ | refine Ow.pu rfl (Pu.fld rfl) ?_ | refine Ow.pu rfl (Pu.nilCheck rfl) ?_ | (refine Ow.kLoad ?_; (first | refine Ow.pu rfl (Pu.load_cl rfl pkA rfl) ?_)) | (refine Ow.kBin ?_; (first | (refine Ow.b_eql ?_; (first | refine Ow.pu rfl (Pu.eq_t rfl rfl roA) ?_ | refine Ow.pu rfl (Pu.eq_f rfl rfl odA) ?_ | refine Ow.pu rfl (Pu.eqNil rfl rfl) ?_)))) | (refine Ow.kStore ?_; (first | refine Ow.store_cl rfl rfl rfl (by (first | rfl | assumption | exact Subtype.property _)) pkA rfl ?_)))) | (refine Cw.is ?_; (first | refine Cw.seq ?_ | refine Cw.region ?_ | refine Cw.cond_t rfl rfl ?_ | refine Cw.cond_f rfl rfl ?_ | refine Cw.block ?_ | refine Cw.ret ?_ | refine Cw.skip ?_)) | (first | refine thenQ_n ?_ | refine thenQ_r ?_ | refine blockQ_n ?_ | refine blockQ_r ?_)))
        refine retQ_v2 default Tryd.results15 rfl rfl rfl ?_
        refine Ent.trans ?_ (Ent.left (rgh_mkt m q s.O s.G s.T tv gv c x.t.toNat _ hj4 hst r k it 0 rv kv))
        ((try simp only [star_assoc]); (repeat (apply Ent.pk; exact pkA)); first | exact Ent.fin pkA | exact Ent.refl _)
    · exact key 0 (fun p => by rw [hdo0, if_neg hk]) (by omega)
end Go.Sl
namespace Go.Sl
open Go Go.Proofs
set_option linter.unusedVariables false
set_option linter.unusedSimpArgs false
attribute [local irreducible] star Ow Cw Pk Pu Dw DwF thenQ blockQ retQ loudQ loudF loudG Cr thr tab obs andI checkR
theorem rNew_fn (q : Cfg) (hq8 : QOk q) : Fn Tryd.prog 13 [q.v] emp Nat (fun m => .pointer (some ⟨m, 0, none⟩)) (fun m => rgh m q (gs0 q)) := by
  obtain ⟨gl, hgl⟩ : ∃ n : Nat, q.globals = n := ⟨q.globals.toNat, by have := hq8.gl; omega⟩
  have hg4 := hq8.gl
  (refine Fn.of Tryd.func13 rfl (by kernel_rfl) Tryd.ntmps13 rfl (fun F => ?_))
  refine Cw.heq (emp_star F) ?_
  (repeat' (first | (refine Ow.is ?_; (first | refine Ow.nil ?_ | refine Ow.pu rfl (Pu.assign rfl) ?_ | refine Ow.box rfl rfl rfl (fun bx => ?_))) | (refine Cw.is ?_; (first | refine Cw.seq ?_ | refine Cw.region ?_ | refine Cw.ret ?_)) | (first | refine thenQ_n ?_)))
  (refine Cw.draw1 (cl bx q.cs) false 0 [(0, false), (1, false), (2, false), (3, true), (4, false), (5, true), (6, false)] pkA mixed (by kernel_rfl) ?_; (repeat (first | refine Dw.q rfl rfl trivial (by (first | exact Pu.assign rfl | exact Pu.fld rfl | exact Pu.build (ps := [(0, .tmp 3), (3, .tmp 6)]) (vs := [.agg q.cs.toArray, gv.v]) (cs := q.cs ++ (.slice none 0 0 :: ([.pointer none, .pointer none, .pointer none, .pointer none] ++ [gv.v]))) evA (fun w => by kernel_rfl) | (apply Pu.kLoad; (first | exact Pu.load_cl rfl pkA rfl | exact Pu.loadN_cl rfl pkA rfl rfl)))) ?_ | refine Dw.q rfl rfl ⟨_, _, rfl, rfl, rfl⟩ (by (first | exact Pu.assign rfl | exact Pu.fld rfl | exact Pu.build (ps := [(0, .tmp 3), (3, .tmp 6)]) (vs := [.agg q.cs.toArray, gv.v]) (cs := q.cs ++ (.slice none 0 0 :: ([.pointer none, .pointer none, .pointer none, .pointer none] ++ [gv.v]))) evA (fun w => by kernel_rfl) | (apply Pu.kLoad; (first | exact Pu.load_cl rfl pkA rfl | exact Pu.loadN_cl rfl pkA rfl rfl)))) ?_)); refine Dw.l rfl (by first | exact trivial | exact ⟨_, _, rfl, rfl, rfl⟩) ?_; refine Ow.makeSlice (m := gl) rfl (by rw [← hgl]; rfl) (by rw [← hgl]; rfl) (by omega) (by rfl) (fun gv => ?_); refine Ow.nil ?_; refine loudQ.go pkA ?_; (repeat (first | refine Dw.q rfl rfl trivial (by (first | exact Pu.assign rfl | exact Pu.fld rfl | exact Pu.build (ps := [(0, .tmp 3), (3, .tmp 6)]) (vs := [.agg q.cs.toArray, gv.v]) (cs := q.cs ++ (.slice none 0 0 :: ([.pointer none, .pointer none, .pointer none, .pointer none] ++ [gv.v]))) evA (fun w => by kernel_rfl) | (apply Pu.kLoad; (first | exact Pu.load_cl rfl pkA rfl | exact Pu.loadN_cl rfl pkA rfl rfl)))) ?_ | refine Dw.q rfl rfl ⟨_, _, rfl, rfl, rfl⟩ (by (first | exact Pu.assign rfl | exact Pu.fld rfl | exact Pu.build (ps := [(0, .tmp 3), (3, .tmp 6)]) (vs := [.agg q.cs.toArray, gv.v]) (cs := q.cs ++ (.slice none 0 0 :: ([.pointer none, .pointer none, .pointer none, .pointer none] ++ [gv.v]))) evA (fun w => by kernel_rfl) | (apply Pu.kLoad; (first | exact Pu.load_cl rfl pkA rfl | exact Pu.loadN_cl rfl pkA rfl rfl)))) ?_)); refine Dw.l rfl (by first | exact trivial | exact ⟨_, _, rfl, rfl, rfl⟩) ?_; refine Ow.box rfl rfl rfl (fun m => ?_); refine Ow.nil ?_; refine loudQ.go pkA ?_; (repeat (first | refine Dw.q rfl rfl trivial (by (first | exact Pu.assign rfl | exact Pu.fld rfl | exact Pu.build (ps := [(0, .tmp 3), (3, .tmp 6)]) (vs := [.agg q.cs.toArray, gv.v]) (cs := q.cs ++ (.slice none 0 0 :: ([.pointer none, .pointer none, .pointer none, .pointer none] ++ [gv.v]))) evA (fun w => by kernel_rfl) | (apply Pu.kLoad; (first | exact Pu.load_cl rfl pkA rfl | exact Pu.loadN_cl rfl pkA rfl rfl)))) ?_ | refine Dw.q rfl rfl ⟨_, _, rfl, rfl, rfl⟩ (by (first | exact Pu.assign rfl | exact Pu.fld rfl | exact Pu.build (ps := [(0, .tmp 3), (3, .tmp 6)]) (vs := [.agg q.cs.toArray, gv.v]) (cs := q.cs ++ (.slice none 0 0 :: ([.pointer none, .pointer none, .pointer none, .pointer none] ++ [gv.v]))) evA (fun w => by kernel_rfl) | (apply Pu.kLoad; (first | exact Pu.load_cl rfl pkA rfl | exact Pu.loadN_cl rfl pkA rfl rfl)))) ?_)); refine Dw.nil ?_ rfl)
  (repeat' (first | (refine Ow.is ?_; (first | refine Ow.pu rfl (Pu.fld rfl) ?_ | refine Ow.nil ?_ | refine Ow.pu rfl (Pu.assign rfl) ?_ | refine Ow.pu rfl (Pu.fld rfl) ?_ | refine Ow.box rfl rfl rfl (fun bx => ?_))) | (refine Cw.is ?_; (first | refine Cw.seq ?_ | refine Cw.region ?_ | refine Cw.ret ?_)) | (first | refine thenQ_n ?_)))
  refine retQ_v m Tryd.results13 rfl rfl ?_
  refine Ent.trans ?_ (Ent.left (rgh_mk m q [] (List.replicate q.globals.toNat 0) [none, none, none, none] ⟨none, 0, 0⟩ gv))
  refine Ent.addnil 2 ?_
  rw [obs_nil, emp_star, rep_one, show q.globals.toNat = gl by omega, show List.replicate gl (Value.int .i64 0) = (List.replicate gl (0 : Int)).map vi by rw [List.map_replicate]]
  rw [show rths [none, none, none, none] = emp by show emp * (emp * (emp * (emp * emp))) = emp; simp only [emp_star], star_emp]
  ((try simp only [star_assoc]); (repeat (apply Ent.pk; exact pkA)); first | exact Ent.fin pkA | exact Ent.refl _)
end Go.Sl
namespace Go.Sl
open Go Go.Proofs
set_option linter.unusedVariables false
set_option linter.unusedSimpArgs false
def bl (n : Nat) (V : Nat → Bool) : List Value := (List.range n).map fun i => .bool (V i)
theorem bl_len (n : Nat) (V : Nat → Bool) : (bl n V).length = n := by simp [bl]
theorem bl_get {n : Nat} {V : Nat → Bool} {i : Nat} {v : Bool} (h : i < n) (hv : V i = v) : (bl n V)[i]? = some (.bool v) := by
  unfold bl; rw [List.getElem?_map, List.getElem?_range h, ← hv]; rfl
theorem bl_set {n : Nat} {V : Nat → Bool} {i : Nat} (h : i < n) (v : Bool) : (bl n V).set i (.bool v) = bl n (upd V i v) := by
  unfold bl
  apply List.ext_getElem
  · simp
  · intro j h1 h2
    rw [List.getElem_set, List.getElem_map, List.getElem_range, List.getElem_map, List.getElem_range]
    by_cases e : i = j
    · rw [if_pos e, ← e, upd_same]
    · rw [if_neg e, upd_ne _ _ (by omega)]
theorem bl_0 (n : Nat) : rep n [Value.bool false] = bl n S0 := by
  rw [rep_one]
  apply List.ext_getElem
  · simp [bl]
  · intro j h1 h2
    simp [bl, S0]
def pre (s : GS SV Nat) (i : Nat) : List Int := s.G ++ (s.T.take i).flatMap rtsG
theorem pre_step {s : GS SV Nat} {i : Nat} (h : i < s.T.length) : pre s (i + 1) = pre s i ++ rtsG s.T[i]! := by
  unfold pre
  rw [List.take_succ_eq_append_getElem h, List.flatMap_append, getElem!_pos s.T i h]
  simp
theorem pre_all {s : GS SV Nat} {i : Nat} (h : s.T.length = i) : pre s i = rootsG s := by
  unfold pre rootsG; rw [← h, List.take_length]
theorem pre_len (s : GS SV Nat) (i : Nat) : (pre s i).length ≤ (rootsG s).length := by
  unfold pre rootsG
  have e : s.T.flatMap rtsG = (s.T.take i).flatMap rtsG ++ (s.T.drop i).flatMap rtsG := by rw [← List.flatMap_append, List.take_append_drop]
  rw [e]; simp only [List.length_append]; omega
structure RrS where
  i : Nat
  lv : SV
attribute [local irreducible] star Ow Cw Pk Pu Dw DwF thenQ blockQ retQ loudQ loudF loudG Cr thr tab obs andI bset lU stAt cn checkR rgh rthr rths bl pre
set_option maxHeartbeats 16000000 in
theorem rReach_fn (m : Nat) (q : Cfg) (s : GS SV Nat) (hok : GsOk q s) (hq8 : QOk q) (hO : s.O.length ≤ 900000) :
    Fn Tryd.prog 18 [.pointer (some ⟨m, 0, none⟩)] (rgh m q s) SV (fun ov => ov.v) (fun ov => slk 1 ov.v (bl (s.O.length + 1) (rchB s.O (rootsG s))) * rgh m q s) := by
  have hT := hok.tl
  have hoko := hok.oko
  have hrl := rootsG_len hok hq8
  have hG : s.G.length ≤ 4 := by have := hok.gl; have := hq8.gl; omega
  have hpl := pre_len s
  (refine Fn.of Tryd.func18 rfl (by kernel_rfl) Tryd.ntmps18 rfl (fun F => ?_))
  refine Cw.opn (rgh_ex m q s) (fun y => ?_)
  obtain ⟨tv, gv⟩ := y
  dsimp only
  (refine Cw.heq (by simp only [star_assoc, emp_star, star_emp]; exact rfl) ?_)
  obtain ⟨p0, p1, p2, p3, hP⟩ : ∃ p0 p1 p2 p3, s.T.map tpO = [p0, p1, p2, p3] := by
    have h4 : (s.T.map tpO).length = 4 := by simpa using hT
    match s.T.map tpO, h4 with
    | [p0, p1, p2, p3], _ => exact ⟨p0, p1, p2, p3, rfl⟩
  have hgv : (q.cs ++ (tv.v :: (s.T.map tpO ++ [gv.v])))[0 + 16]? = some gv.v := by rw [hP]; rfl
  (repeat' (first | (refine Ow.is ?_; (first | refine Ow.pu rfl (Pu.fld0 rfl) ?_ | refine Ow.nil ?_ | refine Ow.pu rfl (Pu.assign rfl) ?_)) | (refine Cw.is ?_; (first | refine Cw.seq ?_ | refine Cw.region ?_ | refine Cw.cond_t rfl rfl ?_ | refine Cw.cond_f rfl rfl ?_ | refine Cw.block ?_ | refine Cw.ret ?_ | refine Cw.exit ?_ | refine Cw.skip ?_)) | (first | refine thenQ_n ?_ | refine thenQ_e ?_ | refine blockQ_n ?_ | refine blockQ_e ?_)))
  (repeat' (first | (refine Ow.is ?_; (first | refine Ow.pu rfl (Pu.fld rfl) ?_ | refine Ow.pu rfl (Pu.fld0 rfl) ?_ | refine Ow.nil ?_ | refine Ow.pu rfl (Pu.move rfl) ?_ | refine Ow.pu rfl (Pu.assign rfl) ?_ | refine Ow.pu rfl (Pu.fld rfl) ?_ | refine Ow.pu rfl (Pu.nilCheck rfl) ?_ | (refine Ow.kLoad ?_; (first | refine Ow.pu rfl (Pu.load (a := ⟨m, 0 + 12 + i * 1, none⟩) rfl pkA hpt) ?_ | refine Ow.pu rfl (Pu.load_slk (j := zn) rfl pkA hbl) ?_ | refine Ow.pu rfl (Pu.load_cl rfl pkA hgv) ?_ | refine Ow.pu rfl (Pu.load_stfd (o := 0) (w := fo) rfl pkA (by omega) hfo rfl) ?_ | refine Ow.pu rfl (Pu.load_cl rfl pkA rfl) ?_ | refine Ow.pu rfl (Pu.load_sli rfl pkA (by first | omega | (simp only [List.length_set, List.length_append, List.length_replicate, List.length_cons, List.length_nil]; omega))) ?_)) | (refine Ow.kBin ?_; (first | (refine Ow.b_add ?_; refine Ow.pu rfl (Pu.add_i rfl rfl (by omega)) ?_))) | (refine Ow.kBuiltin ?_; (first | refine Ow.pu rfl (Pu.len_st rfl pkA) ?_ | refine Ow.pu rfl (Pu.len_slm rfl pkA) ?_)))) | (refine Cw.is ?_; (first | refine Cw.seq ?_ | refine Cw.region ?_ | refine Cw.cond_t rfl rfl ?_ | refine Cw.cond_f rfl rfl ?_ | refine Cw.block ?_ | refine Cw.ret ?_ | refine Cw.exit ?_ | refine Cw.skip ?_)) | (first | refine thenQ_n ?_ | refine thenQ_e ?_ | refine blockQ_n ?_ | refine blockQ_e ?_)))
  refine Ow.makeSlice (m := s.O.length + 1) rfl rfl rfl (by omega) (by rfl) (fun ov => ?_)
  rw [bl_0]
  (repeat' (first | (refine Ow.is ?_; (first | refine Ow.pu rfl (Pu.fld rfl) ?_ | refine Ow.pu rfl (Pu.fld0 rfl) ?_ | refine Ow.nil ?_ | refine Ow.pu rfl (Pu.move rfl) ?_ | refine Ow.pu rfl (Pu.assign rfl) ?_ | refine Ow.pu rfl (Pu.fld rfl) ?_ | refine Ow.pu rfl (Pu.nilCheck rfl) ?_ | (refine Ow.kLoad ?_; (first | refine Ow.pu rfl (Pu.load (a := ⟨m, 0 + 12 + i * 1, none⟩) rfl pkA hpt) ?_ | refine Ow.pu rfl (Pu.load_slk (j := zn) rfl pkA hbl) ?_ | refine Ow.pu rfl (Pu.load_cl rfl pkA hgv) ?_ | refine Ow.pu rfl (Pu.load_stfd (o := 0) (w := fo) rfl pkA (by omega) hfo rfl) ?_ | refine Ow.pu rfl (Pu.load_cl rfl pkA rfl) ?_ | refine Ow.pu rfl (Pu.load_sli rfl pkA (by first | omega | (simp only [List.length_set, List.length_append, List.length_replicate, List.length_cons, List.length_nil]; omega))) ?_)) | (refine Ow.kBin ?_; (first | (refine Ow.b_add ?_; refine Ow.pu rfl (Pu.add_i rfl rfl (by omega)) ?_))) | (refine Ow.kBuiltin ?_; (first | refine Ow.append_sli (l2 := fo.2.1) rfl rfl rfl pkA (rdSl_sli.of_pk pkA) (by omega) (fun sv3 => ?_) | refine Ow.pu rfl (Pu.len_st rfl pkA) ?_ | refine Ow.pu rfl (Pu.len_slm rfl pkA) ?_)))) | (refine Cw.is ?_; (first | refine Cw.seq ?_ | refine Cw.region ?_ | refine Cw.cond_t rfl rfl ?_ | refine Cw.cond_f rfl rfl ?_ | refine Cw.block ?_ | refine Cw.ret ?_ | refine Cw.exit ?_ | refine Cw.skip ?_)) | (first | refine thenQ_n ?_ | refine thenQ_e ?_ | refine blockQ_n ?_ | refine blockQ_e ?_)))
  refine Ow.ent (Ent.addnil 1 (Ent.refl _)) ?_
  refine Ow.append_sli (l := []) (l2 := s.G) rfl rfl rfl pkA (rdSl_sli.of_pk pkA) (by simp; omega) (fun lv0 => ?_)
  (repeat' (first | (refine Ow.is ?_; (first | refine Ow.pu rfl (Pu.fld rfl) ?_ | refine Ow.pu rfl (Pu.fld0 rfl) ?_ | refine Ow.nil ?_ | refine Ow.pu rfl (Pu.move rfl) ?_ | refine Ow.pu rfl (Pu.assign rfl) ?_ | refine Ow.pu rfl (Pu.fld rfl) ?_ | refine Ow.pu rfl (Pu.nilCheck rfl) ?_ | (refine Ow.kLoad ?_; (first | refine Ow.pu rfl (Pu.load (a := ⟨m, 0 + 12 + i * 1, none⟩) rfl pkA hpt) ?_ | refine Ow.pu rfl (Pu.load_slk (j := zn) rfl pkA hbl) ?_ | refine Ow.pu rfl (Pu.load_cl rfl pkA hgv) ?_ | refine Ow.pu rfl (Pu.load_stfd (o := 0) (w := fo) rfl pkA (by omega) hfo rfl) ?_ | refine Ow.pu rfl (Pu.load_cl rfl pkA rfl) ?_ | refine Ow.pu rfl (Pu.load_sli rfl pkA (by first | omega | (simp only [List.length_set, List.length_append, List.length_replicate, List.length_cons, List.length_nil]; omega))) ?_)) | (refine Ow.kBuiltin ?_; (first | refine Ow.append_sli (l2 := fo.2.1) rfl rfl rfl pkA (rdSl_sli.of_pk pkA) (by omega) (fun sv3 => ?_))))) | (refine Cw.is ?_; (first | refine Cw.seq ?_ | refine Cw.region ?_ | refine Cw.cond_t rfl rfl ?_ | refine Cw.cond_f rfl rfl ?_ | refine Cw.block ?_ | refine Cw.ret ?_ | refine Cw.exit ?_ | refine Cw.skip ?_)) | (first | refine thenQ_n ?_ | refine thenQ_e ?_ | refine blockQ_n ?_ | refine blockQ_e ?_)))
  have hpre0 : ([] : List Int) ++ s.G = pre s 0 := by unfold pre; simp
  rw [hpre0]
  refine Cw.loopF [4, 5, 6, 20, 21, 22, 23, 24, 25, 26, 27, 28, 29, 30, 31, 32, 33, 34, 35, 36, 37, 38, 39, 40, 41, 42] (by (repeat first | exact er_nil | apply er_drop rfl | apply er_keep rfl)) (fun z : RrS => z.i ≤ 4) (fun z => [(5, vi z.i), (4, z.lv.v)])
    (fun z => slk 1 z.lv.v ((pre s z.i).map vi) * (slk 1 ov.v (bl (s.O.length + 1) S0) * (rcl m q tv gv (s.T.map tpO) * (slk 2 tv.v (s.O.flatMap obc) * (obs s.O * (slk 1 gv.v (s.G.map vi) * (rths s.T * F))))))) (fun z => 4 - z.i) ⟨0, lv0⟩ (by simp) (by (repeat first | exact trivial | refine ⟨rfl, ?_⟩)) (by ((try simp only [star_assoc]); (repeat (apply Ent.pk; exact pkA)); first | exact Ent.fin pkA | exact Ent.refl _)) (fun z hz => ?_)
  obtain ⟨i, lv⟩ := z
  simp only at hz ⊢
  by_cases hi4 : i < 4
  · have hps := pre_step (s := s) (i := i) (by omega)
    have hpli := hpl i
    have hpli1 := hpl (i + 1)
    cases hTi : s.T[i]! with
    | none =>
      have hpt := rcl_t m q tv gv (s.T.map tpO) (i := i) (v := .pointer none) (by rw [List.getElem?_map, List.getElem?_eq_getElem (by omega), ← getElem!_pos s.T i (by omega), hTi]; rfl)
      rw [hTi, show rtsG (none : Option (Nat × ThS)) = [] from rfl, List.append_nil] at hps
      (repeat' (first | (refine Ow.is ?_; (first | refine Ow.pu rfl (Pu.fld rfl) ?_ | refine Ow.pu rfl (Pu.fld0 rfl) ?_ | refine Ow.nil ?_ | refine Ow.pu rfl (Pu.move rfl) ?_ | refine Ow.pu rfl (Pu.assign rfl) ?_ | refine Ow.pu rfl (Pu.fld rfl) ?_ | refine Ow.pu rfl (Pu.nilCheck rfl) ?_ | (refine Ow.kLoad ?_; (first | refine Ow.pu rfl (Pu.load (a := ⟨m, 0 + 12 + i * 1, none⟩) rfl pkA hpt) ?_ | refine Ow.pu rfl (Pu.load_slk (j := zn) rfl pkA hbl) ?_ | refine Ow.pu rfl (Pu.load_cl rfl pkA hgv) ?_ | refine Ow.pu rfl (Pu.load_stfd (o := 0) (w := fo) rfl pkA (by omega) hfo rfl) ?_ | refine Ow.pu rfl (Pu.load_cl rfl pkA rfl) ?_ | refine Ow.pu rfl (Pu.load_sli rfl pkA (by first | omega | (simp only [List.length_set, List.length_append, List.length_replicate, List.length_cons, List.length_nil]; omega))) ?_)) | (refine Ow.kBin ?_; (first | (refine Ow.b_lss ?_; first | refine Ow.pu rfl (Pu.lt_t rfl rfl (by omega)) ?_ | refine Ow.pu rfl (Pu.lt_f rfl rfl (by omega)) ?_ | refine Ow.sp rfl (by exact Pu.lt rfl rfl) (fun hc => ?_) (fun hc => ?_)) | (refine Ow.b_neq ?_; (first | refine Ow.pu rfl (Pu.neNil rfl rfl) ?_)) | (refine Ow.b_add ?_; refine Ow.pu rfl (Pu.add_i rfl rfl (by omega)) ?_))) | (refine Ow.kIdx ?_; (first | refine Ow.pu rfl (Pu.idx_sl rfl rfl pkA (by rw [bl_len]; omega)) ?_ | refine Ow.pu rfl (Pu.idx_st rfl rfl pkA (by omega)) ?_ | refine Ow.pu rfl (Pu.idxA_b rfl rfl (by omega)) ?_ | refine Ow.pu rfl (Pu.idxA_b rfl rfl (by omega)) ?_ | refine Ow.pu rfl (Pu.idx_sl rfl rfl pkA (by simp only [List.length_map, List.length_append, List.length_set, List.length_replicate, List.length_cons, List.length_nil]; omega)) ?_)))) | (refine Cw.is ?_; (first | refine Cw.seq ?_ | refine Cw.region ?_ | refine Cw.cond_t rfl rfl ?_ | refine Cw.cond_f rfl rfl ?_ | refine Cw.block ?_ | refine Cw.ret ?_ | refine Cw.exit ?_ | refine Cw.skip ?_)) | (first | refine thenQ_n ?_ | refine thenQ_e ?_ | refine blockQ_n ?_ | refine blockQ_e ?_)))
      (repeat' (first | (refine Ow.is ?_; (first | refine Ow.pu rfl (Pu.fld0 rfl) ?_ | refine Ow.nil ?_ | refine Ow.pu rfl (Pu.move rfl) ?_ | refine Ow.pu rfl (Pu.assign rfl) ?_ | (refine Ow.kBin ?_; (first | (refine Ow.b_add ?_; refine Ow.pu rfl (Pu.add_i rfl rfl (by omega)) ?_))))) | (refine Cw.is ?_; (first | refine Cw.seq ?_ | refine Cw.region ?_ | refine Cw.cond_t rfl rfl ?_ | refine Cw.cond_f rfl rfl ?_ | refine Cw.block ?_ | refine Cw.ret ?_ | refine Cw.exit ?_ | refine Cw.skip ?_)) | (first | refine thenQ_n ?_ | refine thenQ_e ?_ | refine blockQ_n ?_ | refine blockQ_e ?_)))
      exact ⟨rfl, ⟨i + 1, lv⟩, by simp only; omega, by simp only; omega, by (repeat first | exact trivial | refine ⟨rfl, ?_⟩), by simp only [hps]; ((try simp only [star_assoc]); (repeat (apply Ent.pk; exact pkA)); first | exact Ent.fin pkA | exact Ent.refl _)⟩
    | some pt =>
      obtain ⟨c, r, k1, it, ph⟩ := pt
      have hpt := rcl_t m q tv gv (s.T.map tpO) (i := i) (v := .pointer (some ⟨c, 0, none⟩)) (by rw [List.getElem?_map, List.getElem?_eq_getElem (by omega), ← getElem!_pos s.T i (by omega), hTi]; rfl)
      rw [hTi, show rtsG (some (c, ThS.mk r k1 ⟨it, ph⟩)) = r ++ k1 from rfl] at hps
      have hlr : (pre s i).length + (r.length + k1.length) ≤ 68 := by
        have h := congrArg List.length hps
        simp only [List.length_append] at h
        omega
      have hrt : rths s.T = rthr c ⟨r, k1, ⟨it, ph⟩⟩ * rths (s.T.eraseIdx i) := by rw [rths_at s.T i (by omega), hTi]; show rth (some _) * _ = _; rfl
      rw [hrt]
      (refine Cw.heq (by simp only [star_assoc, emp_star, star_emp]; exact rfl) ?_)
      refine Cw.pkd (A := rthr c ⟨r, k1, ⟨it, ph⟩⟩) pkA ?_
      refine Cw.opn (rthr_ex c ⟨r, k1, ⟨it, ph⟩⟩) (fun z => ?_)
      obtain ⟨rv, kv⟩ := z
      dsimp only
      (refine Cw.heq (by simp only [star_assoc, emp_star, star_emp]; exact rfl) ?_)
      (repeat' (first | (refine Ow.is ?_; (first | refine Ow.pu rfl (Pu.fld rfl) ?_ | refine Ow.pu rfl (Pu.fld0 rfl) ?_ | refine Ow.nil ?_ | refine Ow.pu rfl (Pu.move rfl) ?_ | refine Ow.pu rfl (Pu.assign rfl) ?_ | refine Ow.pu rfl (Pu.fld rfl) ?_ | refine Ow.pu rfl (Pu.nilCheck rfl) ?_ | (refine Ow.kLoad ?_; (first | refine Ow.pu rfl (Pu.load (a := ⟨m, 0 + 12 + i * 1, none⟩) rfl pkA hpt) ?_ | refine Ow.pu rfl (Pu.load_slk (j := zn) rfl pkA hbl) ?_ | refine Ow.pu rfl (Pu.load_cl rfl pkA hgv) ?_ | refine Ow.pu rfl (Pu.load_stfd (o := 0) (w := fo) rfl pkA (by omega) hfo rfl) ?_ | refine Ow.pu rfl (Pu.load_cl rfl pkA rfl) ?_ | refine Ow.pu rfl (Pu.load_sli rfl pkA (by first | omega | (simp only [List.length_set, List.length_append, List.length_replicate, List.length_cons, List.length_nil]; omega))) ?_)) | (refine Ow.kBin ?_; (first | (refine Ow.b_lss ?_; first | refine Ow.pu rfl (Pu.lt_t rfl rfl (by omega)) ?_ | refine Ow.pu rfl (Pu.lt_f rfl rfl (by omega)) ?_ | refine Ow.sp rfl (by exact Pu.lt rfl rfl) (fun hc => ?_) (fun hc => ?_)) | (refine Ow.b_neq ?_; (first | refine Ow.pu rfl (Pu.neNil rfl rfl) ?_)) | (refine Ow.b_add ?_; refine Ow.pu rfl (Pu.add_i rfl rfl (by omega)) ?_))) | (refine Ow.kIdx ?_; (first | refine Ow.pu rfl (Pu.idx_sl rfl rfl pkA (by rw [bl_len]; omega)) ?_ | refine Ow.pu rfl (Pu.idx_st rfl rfl pkA (by omega)) ?_ | refine Ow.pu rfl (Pu.idxA_b rfl rfl (by omega)) ?_ | refine Ow.pu rfl (Pu.idxA_b rfl rfl (by omega)) ?_ | refine Ow.pu rfl (Pu.idx_sl rfl rfl pkA (by simp only [List.length_map, List.length_append, List.length_set, List.length_replicate, List.length_cons, List.length_nil]; omega)) ?_)))) | (refine Cw.is ?_; (first | refine Cw.seq ?_ | refine Cw.region ?_ | refine Cw.cond_t rfl rfl ?_ | refine Cw.cond_f rfl rfl ?_ | refine Cw.block ?_ | refine Cw.ret ?_ | refine Cw.exit ?_ | refine Cw.skip ?_)) | (first | refine thenQ_n ?_ | refine thenQ_e ?_ | refine blockQ_n ?_ | refine blockQ_e ?_)))
      (refine Cw.draw1 (cl c _) false 0 [(0, false), (1, false), (2, false), (3, false), (4, false), (6, false), (7, false), (8, false), (9, false), (5, true), (10, true), (11, false)] pkA mixed (by kernel_rfl) ?_; (repeat (first | refine Dw.q rfl rfl trivial (by (first | exact Pu.move rfl | exact Pu.assign rfl | exact Pu.fld rfl | exact Pu.nilCheck rfl | (apply Pu.kLoad; (first | exact Pu.load (a := ⟨m, 0 + 12 + i * 1, none⟩) rfl pkA hpt | exact Pu.load_slk (j := zn) rfl pkA hbl | exact Pu.load_cl rfl pkA hgv | exact Pu.load_stfd (o := 0) (w := fo) rfl pkA (by omega) hfo rfl | exact Pu.load_cl rfl pkA rfl | exact Pu.load_sli rfl pkA (by first | omega | (simp only [List.length_set, List.length_append, List.length_replicate, List.length_cons, List.length_nil]; omega)))))) ?_ | refine Dw.q rfl rfl ⟨_, _, rfl, rfl, rfl⟩ (by (first | exact Pu.move rfl | exact Pu.assign rfl | exact Pu.fld rfl | exact Pu.nilCheck rfl | (apply Pu.kLoad; (first | exact Pu.load (a := ⟨m, 0 + 12 + i * 1, none⟩) rfl pkA hpt | exact Pu.load_slk (j := zn) rfl pkA hbl | exact Pu.load_cl rfl pkA hgv | exact Pu.load_stfd (o := 0) (w := fo) rfl pkA (by omega) hfo rfl | exact Pu.load_cl rfl pkA rfl | exact Pu.load_sli rfl pkA (by first | omega | (simp only [List.length_set, List.length_append, List.length_replicate, List.length_cons, List.length_nil]; omega)))))) ?_)); refine Dw.l rfl (by first | exact trivial | exact ⟨_, _, rfl, rfl, rfl⟩) ?_; refine Ow.append_sli (l2 := r) rfl rfl rfl pkA (rdSl_sli.of_pk pkA) (by omega) (fun l1 => ?_); refine Ow.nil ?_; refine loudQ.go pkA ?_; refine Dw.l rfl (by first | exact trivial | exact ⟨_, _, rfl, rfl, rfl⟩) ?_; refine Ow.append_sli (l2 := k1) rfl rfl rfl pkA (rdSl_sli.of_pk pkA) (by simp only [List.length_append]; omega) (fun l2 => ?_); refine Ow.nil ?_; refine loudQ.go pkA ?_; (repeat (first | refine Dw.q rfl rfl trivial (by (first | exact Pu.move rfl | exact Pu.assign rfl | exact Pu.fld rfl | exact Pu.nilCheck rfl | (apply Pu.kLoad; (first | exact Pu.load (a := ⟨m, 0 + 12 + i * 1, none⟩) rfl pkA hpt | exact Pu.load_slk (j := zn) rfl pkA hbl | exact Pu.load_cl rfl pkA hgv | exact Pu.load_stfd (o := 0) (w := fo) rfl pkA (by omega) hfo rfl | exact Pu.load_cl rfl pkA rfl | exact Pu.load_sli rfl pkA (by first | omega | (simp only [List.length_set, List.length_append, List.length_replicate, List.length_cons, List.length_nil]; omega)))))) ?_ | refine Dw.q rfl rfl ⟨_, _, rfl, rfl, rfl⟩ (by (first | exact Pu.move rfl | exact Pu.assign rfl | exact Pu.fld rfl | exact Pu.nilCheck rfl | (apply Pu.kLoad; (first | exact Pu.load (a := ⟨m, 0 + 12 + i * 1, none⟩) rfl pkA hpt | exact Pu.load_slk (j := zn) rfl pkA hbl | exact Pu.load_cl rfl pkA hgv | exact Pu.load_stfd (o := 0) (w := fo) rfl pkA (by omega) hfo rfl | exact Pu.load_cl rfl pkA rfl | exact Pu.load_sli rfl pkA (by first | omega | (simp only [List.length_set, List.length_append, List.length_replicate, List.length_cons, List.length_nil]; omega)))))) ?_)); refine Dw.nil ?_ rfl)
      (repeat' (first | (refine Ow.is ?_; (first | refine Ow.pu rfl (Pu.fld0 rfl) ?_ | refine Ow.nil ?_ | refine Ow.pu rfl (Pu.move rfl) ?_ | refine Ow.pu rfl (Pu.assign rfl) ?_ | (refine Ow.kBin ?_; (first | (refine Ow.b_add ?_; refine Ow.pu rfl (Pu.add_i rfl rfl (by omega)) ?_))))) | (refine Cw.is ?_; (first | refine Cw.seq ?_ | refine Cw.region ?_ | refine Cw.cond_t rfl rfl ?_ | refine Cw.cond_f rfl rfl ?_ | refine Cw.block ?_ | refine Cw.ret ?_ | refine Cw.exit ?_ | refine Cw.skip ?_)) | (first | refine thenQ_n ?_ | refine thenQ_e ?_ | refine blockQ_n ?_ | refine blockQ_e ?_)))
      refine ⟨rfl, ⟨i + 1, l2⟩, by simp only; omega, by simp only; omega, by (repeat first | exact trivial | refine ⟨rfl, ?_⟩), ?_⟩
      simp only [hps, ← List.append_assoc]
      refine Ent.trans ?_ (Ent.right (Ent.right (Ent.right (Ent.right (Ent.right (Ent.right (Ent.left (Ent.left (rthr_mk c r k1 it ph rv kv)))))))))
      ((try simp only [star_assoc]); (repeat (apply Ent.pk; exact pkA)); first | exact Ent.fin pkA | exact Ent.refl _)
  · obtain rfl : i = 4 := by omega
    rw [pre_all hT]
    obtain ⟨R, hR⟩ : ∃ R, rootsG s = R := ⟨_, rfl⟩
    rw [hR] at hoko hrl ⊢
    obtain ⟨O, hOO⟩ : ∃ O, s.O = O := ⟨_, rfl⟩
    rw [hOO] at hO hoko ⊢
    clear hpl
    have hstart : Wl O R S0 R := Wl.start hoko (fun z h0 => Iff.rfl) hoko.r
    (repeat' (first | (refine Ow.is ?_; (first | refine Ow.pu rfl (Pu.fld0 rfl) ?_ | refine Ow.nil ?_ | refine Ow.pu rfl (Pu.move rfl) ?_ | (refine Ow.kBin ?_; (first | (refine Ow.b_lss ?_; first | refine Ow.pu rfl (Pu.lt_t rfl rfl (by omega)) ?_ | refine Ow.pu rfl (Pu.lt_f rfl rfl (by omega)) ?_ | refine Ow.sp rfl (by exact Pu.lt rfl rfl) (fun hc => ?_) (fun hc => ?_)))))) | (refine Cw.is ?_; (first | refine Cw.seq ?_ | refine Cw.region ?_ | refine Cw.cond_t rfl rfl ?_ | refine Cw.cond_f rfl rfl ?_ | refine Cw.block ?_ | refine Cw.ret ?_ | refine Cw.exit ?_ | refine Cw.skip ?_)) | (first | refine thenQ_n ?_ | refine thenQ_e ?_ | refine blockQ_n ?_ | refine blockQ_e ?_)))
    refine Cw.loopF [4, 7, 43, 44, 45, 46, 47, 48, 49, 50, 51, 52, 53, 54, 55, 56, 57, 58, 59, 60, 61, 62, 63, 64, 65, 66, 67, 68, 69, 70, 71, 72, 73, 74, 75, 76, 77, 78] (by (repeat first | exact er_nil | apply er_drop rfl | apply er_keep rfl)) (fun z : RzS => Wl O R z.V z.l ∧ wlM O.length z.V z.l ≤ 7 * (O.length + 1) + 68) (fun z => [(4, z.sv.v)])
      (fun z => slk 1 z.sv.v (z.l.map vi) * (slk 1 ov.v (bl (O.length + 1) z.V) * (rcl m q tv gv (s.T.map tpO) * (slk 2 tv.v (O.flatMap obc) * (obs O * (slk 1 gv.v (s.G.map vi) * (rths s.T * F)))))))
      (fun z => wlM O.length z.V z.l) ⟨S0, R, lv⟩ ⟨hstart, by show wlM O.length S0 R ≤ _; rw [wlM_0]; omega⟩ (by (repeat first | exact trivial | refine ⟨rfl, ?_⟩)) (by ((try simp only [star_assoc]); (repeat (apply Ent.pk; exact pkA)); first | exact Ent.fin pkA | exact Ent.refl _)) (fun z hz => ?_)
    obtain ⟨V, l, sv⟩ := z
    obtain ⟨hwl, hm⟩ := hz
    simp only at hwl hm ⊢
    have hll := wlM_len (n := O.length) (V := V) (l := l)
    have hlb : l.length ≤ 7 * (O.length + 1) + 68 := by omega
    clear hll
    rcases List.eq_nil_or_concat l with h0 | ⟨l', z, h0⟩
    · have hl0 : l.length = 0 := by rw [h0]; rfl
      have hdone : V = rchB O R := (h0 ▸ hwl : Wl O R V []).done hoko
      (repeat' (first | (refine Ow.is ?_; (first | refine Ow.pu rfl (Pu.fld0 rfl) ?_ | refine Ow.nil ?_ | refine Ow.pu rfl (Pu.move rfl) ?_ | (refine Ow.kBin ?_; (first | (refine Ow.b_gtr ?_; first | refine Ow.pu rfl (Pu.gt_t rfl rfl (by omega)) ?_ | refine Ow.pu rfl (Pu.gt_f rfl rfl (by omega)) ?_ | refine Ow.sp rfl (by exact Pu.gt rfl rfl) (fun hc => ?_) (fun hc => ?_)))) | (refine Ow.kBuiltin ?_; (first | refine Ow.pu rfl (Pu.len_st rfl pkA) ?_ | refine Ow.pu rfl (Pu.len_slm rfl pkA) ?_)))) | (refine Cw.is ?_; (first | refine Cw.seq ?_ | refine Cw.region ?_ | refine Cw.cond_t rfl rfl ?_ | refine Cw.cond_f rfl rfl ?_ | refine Cw.block ?_ | refine Cw.ret ?_ | refine Cw.exit ?_ | refine Cw.skip ?_)) | (first | refine thenQ_n ?_ | refine thenQ_e ?_ | refine blockQ_n ?_ | refine blockQ_e ?_)))
      (repeat' (first | (refine Ow.is ?_; (first | refine Ow.pu rfl (Pu.fld0 rfl) ?_ | refine Ow.nil ?_ | refine Ow.pu rfl (Pu.move rfl) ?_ | refine Ow.pu rfl (Pu.assign rfl) ?_)) | (refine Cw.is ?_; (first | refine Cw.seq ?_ | refine Cw.region ?_ | refine Cw.cond_t rfl rfl ?_ | refine Cw.cond_f rfl rfl ?_ | refine Cw.block ?_ | refine Cw.ret ?_ | refine Cw.exit ?_ | refine Cw.skip ?_)) | (first | refine thenQ_n ?_ | refine thenQ_e ?_ | refine blockQ_n ?_ | refine blockQ_e ?_)))
      rw [hdone]
      refine retQ_v ov Tryd.results18 rfl rfl ?_
      refine Ent.trans ?_ (Ent.left (Ent.right (rgh_mk m q s.O s.G s.T tv gv)))
      rw [hOO]
      ((try simp only [star_assoc]); (repeat (apply Ent.pk; exact pkA)); first | exact Ent.fin pkA | exact Ent.refl _)
    · replace h0 : l = l' ++ [z] := by rw [h0]; simp
      have hzo := (hwl.hl z (by rw [h0]; simp)).1
      have hlen : l.length = l'.length + 1 := by rw [h0]; simp
      have hz : l[((l.length : Int) - 1).toNat]! = z := by
        rw [show ((l.length : Int) - 1).toNat = l'.length by omega, h0, getElem!_pos _ _ (by simp)]; simp
      have htk : l.take ((l.length : Int) - 1).toNat = l' := by
        rw [show ((l.length : Int) - 1).toNat = l'.length by omega, h0]; simp
      rw [h0] at hwl hm
      obtain ⟨zn, rfl⟩ : ∃ zn : Nat, z = zn := ⟨z.toNat, by unfold okR at hzo; omega⟩
      unfold okR at hzo
      (repeat' (first | (refine Ow.is ?_; (first | refine Ow.pu rfl (Pu.fld0 rfl) ?_ | refine Ow.nil ?_ | refine Ow.pu rfl (Pu.move rfl) ?_ | refine Ow.pu rfl (Pu.assign rfl) ?_ | (refine Ow.kLoad ?_; (first | refine Ow.pu rfl (Pu.load (a := ⟨m, 0 + 12 + i * 1, none⟩) rfl pkA hpt) ?_ | refine Ow.pu rfl (Pu.load_slk (j := zn) rfl pkA hbl) ?_ | refine Ow.pu rfl (Pu.load_cl rfl pkA hgv) ?_ | refine Ow.pu rfl (Pu.load_stfd (o := 0) (w := fo) rfl pkA (by omega) hfo rfl) ?_ | refine Ow.pu rfl (Pu.load_cl rfl pkA rfl) ?_ | refine Ow.pu rfl (Pu.load_sli rfl pkA (by first | omega | (simp only [List.length_set, List.length_append, List.length_replicate, List.length_cons, List.length_nil]; omega))) ?_)) | (refine Ow.kBin ?_; (first | (refine Ow.b_gtr ?_; first | refine Ow.pu rfl (Pu.gt_t rfl rfl (by omega)) ?_ | refine Ow.pu rfl (Pu.gt_f rfl rfl (by omega)) ?_ | refine Ow.sp rfl (by exact Pu.gt rfl rfl) (fun hc => ?_) (fun hc => ?_)) | (refine Ow.b_sub ?_; refine Ow.pu rfl (Pu.sub_i rfl rfl (by omega)) ?_))) | (refine Ow.kIdx ?_; (first | refine Ow.pu rfl (Pu.idx_sl rfl rfl pkA (by rw [bl_len]; omega)) ?_ | refine Ow.pu rfl (Pu.idx_st rfl rfl pkA (by omega)) ?_ | refine Ow.pu rfl (Pu.idxA_b rfl rfl (by omega)) ?_ | refine Ow.pu rfl (Pu.idxA_b rfl rfl (by omega)) ?_ | refine Ow.pu rfl (Pu.idx_sl rfl rfl pkA (by simp only [List.length_map, List.length_append, List.length_set, List.length_replicate, List.length_cons, List.length_nil]; omega)) ?_)) | (refine Ow.kBuiltin ?_; (first | refine Ow.pu rfl (Pu.len_st rfl pkA) ?_ | refine Ow.pu rfl (Pu.len_slm rfl pkA) ?_)))) | (refine Cw.is ?_; (first | refine Cw.seq ?_ | refine Cw.region ?_ | refine Cw.cond_t rfl rfl ?_ | refine Cw.cond_f rfl rfl ?_ | refine Cw.block ?_ | refine Cw.ret ?_ | refine Cw.exit ?_ | refine Cw.skip ?_)) | (first | refine thenQ_n ?_ | refine thenQ_e ?_ | refine blockQ_n ?_ | refine blockQ_e ?_)))
      rw [hz]
      (repeat' (first | (refine Ow.is ?_; (first | refine Ow.pu rfl (Pu.fld0 rfl) ?_ | refine Ow.nil ?_ | refine Ow.pu rfl (Pu.move rfl) ?_ | refine Ow.pu rfl (Pu.assign rfl) ?_ | (refine Ow.kBin ?_; (first | (refine Ow.b_sub ?_; refine Ow.pu rfl (Pu.sub_i rfl rfl (by omega)) ?_))) | (refine Ow.kBuiltin ?_; (first | refine Ow.pu rfl (Pu.len_st rfl pkA) ?_ | refine Ow.pu rfl (Pu.len_slm rfl pkA) ?_)) | refine Ow.slice_sli rfl rfl rfl pkA (by omega) (fun sv => ?_))) | (refine Cw.is ?_; (first | refine Cw.seq ?_ | refine Cw.region ?_ | refine Cw.cond_t rfl rfl ?_ | refine Cw.cond_f rfl rfl ?_ | refine Cw.block ?_ | refine Cw.ret ?_ | refine Cw.exit ?_ | refine Cw.skip ?_)) | (first | refine thenQ_n ?_ | refine thenQ_e ?_ | refine blockQ_n ?_ | refine blockQ_e ?_)))
      rw [htk]
      by_cases hzz : zn = 0 ∨ V zn = true
      · have hsk := hwl.skip (z := (zn : Int)) (hzz.imp (fun h => by omega) (fun h => by rw [Int.toNat_natCast]; exact h))
        have hmm := wlM_skip (n := O.length) (V := V) (l := l') (z := (zn : Int))
        by_cases hz0 : zn = 0
        · (repeat' (first | (refine Ow.is ?_; (first | refine Ow.pu rfl (Pu.fld0 rfl) ?_ | refine Ow.nil ?_ | refine Ow.pu rfl (Pu.move rfl) ?_ | (refine Ow.kGuard ?_; (first | refine Ow.guard_yes rfl rfl rfl ?_ | refine Ow.guard_no rfl rfl rfl rfl ?_)) | (refine Ow.kLoad ?_; (first | refine Ow.pu rfl (Pu.load (a := ⟨m, 0 + 12 + i * 1, none⟩) rfl pkA hpt) ?_ | refine Ow.pu rfl (Pu.load_slk (j := zn) rfl pkA hbl) ?_ | refine Ow.pu rfl (Pu.load_cl rfl pkA hgv) ?_ | refine Ow.pu rfl (Pu.load_stfd (o := 0) (w := fo) rfl pkA (by omega) hfo rfl) ?_ | refine Ow.pu rfl (Pu.load_cl rfl pkA rfl) ?_ | refine Ow.pu rfl (Pu.load_sli rfl pkA (by first | omega | (simp only [List.length_set, List.length_append, List.length_replicate, List.length_cons, List.length_nil]; omega))) ?_)) | (refine Ow.kBin ?_; (first | (refine Ow.b_eql ?_; (first | refine Ow.pu rfl (Pu.eq_t rfl rfl roA) ?_ | refine Ow.pu rfl (Pu.eq_f rfl rfl odA) ?_)))) | (refine Ow.kPick ?_; (first | refine Ow.pu rfl (Pu.pick_t rfl rfl) ?_ | refine Ow.pu rfl (Pu.pick_f rfl rfl) ?_)) | (refine Ow.kIdx ?_; (first | refine Ow.pu rfl (Pu.idx_sl rfl rfl pkA (by rw [bl_len]; omega)) ?_ | refine Ow.pu rfl (Pu.idx_st rfl rfl pkA (by omega)) ?_ | refine Ow.pu rfl (Pu.idxA_b rfl rfl (by omega)) ?_ | refine Ow.pu rfl (Pu.idxA_b rfl rfl (by omega)) ?_ | refine Ow.pu rfl (Pu.idx_sl rfl rfl pkA (by simp only [List.length_map, List.length_append, List.length_set, List.length_replicate, List.length_cons, List.length_nil]; omega)) ?_)))) | (refine Cw.is ?_; (first | refine Cw.seq ?_ | refine Cw.region ?_ | refine Cw.cond_t rfl rfl ?_ | refine Cw.cond_f rfl rfl ?_ | refine Cw.block ?_ | refine Cw.ret ?_ | refine Cw.exit ?_ | refine Cw.skip ?_)) | (first | refine thenQ_n ?_ | refine thenQ_e ?_ | refine blockQ_n ?_ | refine blockQ_e ?_)))
          exact ⟨rfl, ⟨V, l', sv⟩, ⟨hsk, by simp only; omega⟩, by simp only; rw [h0]; omega, by (repeat first | exact trivial | refine ⟨rfl, ?_⟩), by ((try simp only [star_assoc]); (repeat (apply Ent.pk; exact pkA)); first | exact Ent.fin pkA | exact Ent.refl _)⟩
        · have hV : V zn = true := hzz.resolve_left hz0
          have hbl := bl_get (n := O.length + 1) (by omega) hV
          (repeat' (first | (refine Ow.is ?_; (first | refine Ow.pu rfl (Pu.fld0 rfl) ?_ | refine Ow.nil ?_ | refine Ow.pu rfl (Pu.move rfl) ?_ | (refine Ow.kGuard ?_; (first | refine Ow.guard_yes rfl rfl rfl ?_ | refine Ow.guard_no rfl rfl rfl rfl ?_)) | (refine Ow.kLoad ?_; (first | refine Ow.pu rfl (Pu.load (a := ⟨m, 0 + 12 + i * 1, none⟩) rfl pkA hpt) ?_ | refine Ow.pu rfl (Pu.load_slk (j := zn) rfl pkA hbl) ?_ | refine Ow.pu rfl (Pu.load_cl rfl pkA hgv) ?_ | refine Ow.pu rfl (Pu.load_stfd (o := 0) (w := fo) rfl pkA (by omega) hfo rfl) ?_ | refine Ow.pu rfl (Pu.load_cl rfl pkA rfl) ?_ | refine Ow.pu rfl (Pu.load_sli rfl pkA (by first | omega | (simp only [List.length_set, List.length_append, List.length_replicate, List.length_cons, List.length_nil]; omega))) ?_)) | (refine Ow.kBin ?_; (first | (refine Ow.b_eql ?_; (first | refine Ow.pu rfl (Pu.eq_t rfl rfl roA) ?_ | refine Ow.pu rfl (Pu.eq_f rfl rfl odA) ?_)))) | (refine Ow.kPick ?_; (first | refine Ow.pu rfl (Pu.pick_t rfl rfl) ?_ | refine Ow.pu rfl (Pu.pick_f rfl rfl) ?_)) | (refine Ow.kIdx ?_; (first | refine Ow.pu rfl (Pu.idx_sl rfl rfl pkA (by rw [bl_len]; omega)) ?_ | refine Ow.pu rfl (Pu.idx_st rfl rfl pkA (by omega)) ?_ | refine Ow.pu rfl (Pu.idxA_b rfl rfl (by omega)) ?_ | refine Ow.pu rfl (Pu.idxA_b rfl rfl (by omega)) ?_ | refine Ow.pu rfl (Pu.idx_sl rfl rfl pkA (by simp only [List.length_map, List.length_append, List.length_set, List.length_replicate, List.length_cons, List.length_nil]; omega)) ?_)))) | (refine Cw.is ?_; (first | refine Cw.seq ?_ | refine Cw.region ?_ | refine Cw.cond_t rfl rfl ?_ | refine Cw.cond_f rfl rfl ?_ | refine Cw.block ?_ | refine Cw.ret ?_ | refine Cw.exit ?_ | refine Cw.skip ?_)) | (first | refine thenQ_n ?_ | refine thenQ_e ?_ | refine blockQ_n ?_ | refine blockQ_e ?_)))
          exact ⟨rfl, ⟨V, l', sv⟩, ⟨hsk, by simp only; omega⟩, by simp only; rw [h0]; omega, by (repeat first | exact trivial | refine ⟨rfl, ?_⟩), by ((try simp only [star_assoc]); (repeat (apply Ent.pk; exact pkA)); first | exact Ent.fin pkA | exact Ent.refl _)⟩
      · have hz0 : zn ≠ 0 := fun h => hzz (.inl h)
        have hV : V zn = false := by
          cases e : V zn with
          | false => rfl
          | true => exact (hzz (.inr e)).elim
        have hbl := bl_get (n := O.length + 1) (by omega) hV
        have hbs := bl_set (n := O.length + 1) (V := V) (i := zn) (by omega) true
        have hjo : ((zn : Int) - 1).toNat < O.length := by omega
        have hob' := obs_at O ((zn : Int) - 1).toNat hjo
        obtain ⟨fo, hfo⟩ : ∃ fo, O[((zn : Int) - 1).toNat]! = fo := ⟨_, rfl⟩
        have hfl : flds O (zn : Int) = fo.2.1 := by unfold flds; rw [hfo]
        have hf6 := (hoko.f (z := (zn : Int)) (by omega)).1
        have hpw := hwl.put hoko (by omega)
        have hmp := wlM_put hwl hoko (by omega) (by rw [Int.toNat_natCast]; exact hV)
        rw [hfl] at hf6 hpw hmp
        rw [Int.toNat_natCast] at hpw hmp
        rw [hfo] at hob'
        (repeat' (first | (refine Ow.is ?_; (first | refine Ow.pu rfl (Pu.fld0 rfl) ?_ | refine Ow.nil ?_ | refine Ow.pu rfl (Pu.move rfl) ?_ | (refine Ow.kGuard ?_; (first | refine Ow.guard_yes rfl rfl rfl ?_ | refine Ow.guard_no rfl rfl rfl rfl ?_)) | (refine Ow.kLoad ?_; (first | refine Ow.pu rfl (Pu.load (a := ⟨m, 0 + 12 + i * 1, none⟩) rfl pkA hpt) ?_ | refine Ow.pu rfl (Pu.load_slk (j := zn) rfl pkA hbl) ?_ | refine Ow.pu rfl (Pu.load_cl rfl pkA hgv) ?_ | refine Ow.pu rfl (Pu.load_stfd (o := 0) (w := fo) rfl pkA (by omega) hfo rfl) ?_ | refine Ow.pu rfl (Pu.load_cl rfl pkA rfl) ?_ | refine Ow.pu rfl (Pu.load_sli rfl pkA (by first | omega | (simp only [List.length_set, List.length_append, List.length_replicate, List.length_cons, List.length_nil]; omega))) ?_)) | (refine Ow.kBin ?_; (first | (refine Ow.b_eql ?_; (first | refine Ow.pu rfl (Pu.eq_t rfl rfl roA) ?_ | refine Ow.pu rfl (Pu.eq_f rfl rfl odA) ?_)))) | (refine Ow.kPick ?_; (first | refine Ow.pu rfl (Pu.pick_t rfl rfl) ?_ | refine Ow.pu rfl (Pu.pick_f rfl rfl) ?_)) | (refine Ow.kStore ?_; (first | refine Ow.store_slk (j := zn) rfl rfl rfl rfl pkA (by rw [bl_len]; omega) ?_)) | (refine Ow.kIdx ?_; (first | refine Ow.pu rfl (Pu.idx_sl rfl rfl pkA (by rw [bl_len]; omega)) ?_ | refine Ow.pu rfl (Pu.idx_st rfl rfl pkA (by omega)) ?_ | refine Ow.pu rfl (Pu.idxA_b rfl rfl (by omega)) ?_ | refine Ow.pu rfl (Pu.idxA_b rfl rfl (by omega)) ?_ | refine Ow.pu rfl (Pu.idx_sl rfl rfl pkA (by simp only [List.length_map, List.length_append, List.length_set, List.length_replicate, List.length_cons, List.length_nil]; omega)) ?_)))) | (refine Cw.is ?_; (first | refine Cw.seq ?_ | refine Cw.region ?_ | refine Cw.cond_t rfl rfl ?_ | refine Cw.cond_f rfl rfl ?_ | refine Cw.block ?_ | refine Cw.ret ?_ | refine Cw.exit ?_ | refine Cw.skip ?_)) | (first | refine thenQ_n ?_ | refine thenQ_e ?_ | refine blockQ_n ?_ | refine blockQ_e ?_)))
        rw [hbs]
        rw [hob']
        (refine Ow.heq (by simp only [star_assoc, emp_star, star_emp]; exact rfl) ?_)
        (repeat' (first | (refine Ow.is ?_; (first | refine Ow.pu rfl (Pu.fld rfl) ?_ | refine Ow.pu rfl (Pu.fld0 rfl) ?_ | refine Ow.nil ?_ | refine Ow.pu rfl (Pu.move rfl) ?_ | refine Ow.pu rfl (Pu.assign rfl) ?_ | refine Ow.pu rfl (Pu.fld rfl) ?_ | refine Ow.pu rfl (Pu.nilCheck rfl) ?_ | (refine Ow.kLoad ?_; (first | refine Ow.pu rfl (Pu.load (a := ⟨m, 0 + 12 + i * 1, none⟩) rfl pkA hpt) ?_ | refine Ow.pu rfl (Pu.load_slk (j := zn) rfl pkA hbl) ?_ | refine Ow.pu rfl (Pu.load_cl rfl pkA hgv) ?_ | refine Ow.pu rfl (Pu.load_stfd (o := 0) (w := fo) rfl pkA (by omega) hfo rfl) ?_ | refine Ow.pu rfl (Pu.load_cl rfl pkA rfl) ?_ | refine Ow.pu rfl (Pu.load_sli rfl pkA (by first | omega | (simp only [List.length_set, List.length_append, List.length_replicate, List.length_cons, List.length_nil]; omega))) ?_)) | (refine Ow.kBin ?_; (first | (refine Ow.b_sub ?_; refine Ow.pu rfl (Pu.sub_i rfl rfl (by omega)) ?_))) | (refine Ow.kIdx ?_; (first | refine Ow.pu rfl (Pu.idx_sl rfl rfl pkA (by rw [bl_len]; omega)) ?_ | refine Ow.pu rfl (Pu.idx_st rfl rfl pkA (by omega)) ?_ | refine Ow.pu rfl (Pu.idxA_b rfl rfl (by omega)) ?_ | refine Ow.pu rfl (Pu.idxA_b rfl rfl (by omega)) ?_ | refine Ow.pu rfl (Pu.idx_sl rfl rfl pkA (by simp only [List.length_map, List.length_append, List.length_set, List.length_replicate, List.length_cons, List.length_nil]; omega)) ?_)) | (refine Ow.kBuiltin ?_; (first | refine Ow.append_sli (l2 := fo.2.1) rfl rfl rfl pkA (rdSl_sli.of_pk pkA) (by omega) (fun sv3 => ?_))))) | (refine Cw.is ?_; (first | refine Cw.seq ?_ | refine Cw.region ?_ | refine Cw.cond_t rfl rfl ?_ | refine Cw.cond_f rfl rfl ?_ | refine Cw.block ?_ | refine Cw.ret ?_ | refine Cw.exit ?_ | refine Cw.skip ?_)) | (first | refine thenQ_n ?_ | refine thenQ_e ?_ | refine blockQ_n ?_ | refine blockQ_e ?_)))
        exact ⟨rfl, ⟨upd V zn true, l' ++ fo.2.1, sv3⟩, ⟨hpw, by simp only; omega⟩, by simp only; rw [h0]; exact hmp, by (repeat first | exact trivial | refine ⟨rfl, ?_⟩), by (try simp only); (try rw [hob']); ((try simp only [star_assoc]); (repeat (apply Ent.pk; exact pkA)); first | exact Ent.fin pkA | exact Ent.refl _)⟩
end Go.Sl
namespace Go.Sl
open Go Go.Proofs
set_option linter.unusedVariables false
set_option linter.unusedSectionVars false
section
variable {α β : Type} [Inhabited α] [Inhabited β]
def absO (O : List (Obj α)) : List (Obj Unit) := O.map fun o => ((), o.2)
def absT : Option (β × ThS) → Option (Unit × ThS)
  | none => none
  | some p => some ((), p.2)
def absG (s : GS α β) : GS Unit Unit := ⟨absO s.O, s.G, s.T.map absT⟩
theorem absO_len (O : List (Obj α)) : (absO O).length = O.length := by simp [absO]
theorem absO_at (O : List (Obj α)) (j : Nat) : ((absO O)[j]!).2 = (O[j]!).2 := by
  by_cases h : j < O.length
  · rw [getElem!_pos (absO O) j (by rw [absO_len]; exact h), getElem!_pos O j h]; simp [absO]
  · rw [getElem!_neg (absO O) j (by rw [absO_len]; exact h), getElem!_neg O j h]; rfl
theorem fldE_abs (O : List (Obj α)) (o i : Int) : fldE (absO O) o i = fldE O o i := by unfold fldE; rw [absO_at]
theorem fldV_abs (O : List (Obj α)) (o i : Int) : fldV (absO O) o i = fldV O o i := by unfold fldV; rw [absO_at]
theorem setF_abs (O : List (Obj α)) (o i v : Int) : setF (absO O) o i v = absO (setF O o i v) := by
  unfold setF absO
  rw [List.map_set]
  simp only
  rw [show (List.map (fun o : Obj α => (((), o.2) : Obj Unit)) O)[(o - 1).toNat]!.2 = O[(o - 1).toNat]!.2 from absO_at O _]
theorem setS_abs (O : List (Obj α)) (o v : Int) : setS (absO O) o v = absO (setS O o v) := by
  unfold setS absO
  rw [List.map_set]
  simp only
  rw [show (List.map (fun o : Obj α => (((), o.2) : Obj Unit)) O)[(o - 1).toNat]!.2 = O[(o - 1).toNat]!.2 from absO_at O _]
def absE (f : Ef α) : Ef Unit := ⟨absO f.O, f.G, f.r, f.s, f.e, f.v⟩
theorem actR_abs (b : α) (q : Cfg) (O : List (Obj α)) (G r s : List Int) (x : It) (full : Bool) : actR () q (absO O) G r s x full = absE (actR b q O G r s x full) := by
  unfold actR
  split
  · rfl
  split
  · unfold getR
    rw [fldE_abs, fldV_abs, absO_len]
    split
    · split
      · rfl
      · simp [absE, absO]
    split
    · split <;> rfl
    split
    · split <;> rfl
    · rfl
  · unfold plainR
    simp only
    rw [fldE_abs, setF_abs, setS_abs, absO_at]
    split
    · split <;> rfl
    split
    · split <;> rfl
    split
    · split <;> rfl
    split
    · rfl
    split
    · rfl
    split
    · rfl
    split
    · rfl
    split
    · split <;> rfl
    · rfl
theorem absT_at (T : List (Option (β × ThS))) (j : Nat) : (T.map absT)[j]! = absT T[j]! := by
  by_cases h : j < T.length
  · rw [getElem!_pos (T.map absT) j (by simpa using h), getElem!_pos T j h, List.getElem_map]
  · rw [getElem!_neg (T.map absT) j (by simpa using h), getElem!_neg T j h]; rfl
theorem thOf_abs (s : GS α β) (t : Int) : thOf (absG s) t = absT (thOf s t) := by
  unfold thOf absG
  simp only
  split
  · exact absT_at _ _
  · rfl
theorem doG_abs (a : α) (b : β) (q : Cfg) (s : GS α β) (x : It) (full : Bool) : doG () () q (absG s) x full = (absG (doG a b q s x full).1, (doG a b q s x full).2) := by
  unfold doG
  rw [thOf_abs]
  split
  · rw [show (absT (thOf s x.t)).isNone = (thOf s x.t).isNone by cases thOf s x.t <;> rfl]
    split
    · simp [absG, List.map_set, absT]
    · rfl
  split
  · cases hth : thOf s x.t with
    | none => rfl
    | some p =>
      obtain ⟨c, th⟩ := p
      simp only [absT]
      split
      · rfl
      split
      · simp [absG, List.map_set, absT]
      split
      · split
        · simp [absG, List.map_set, absT]
        · rfl
      split
      · have h := actR_abs a q s.O s.G th.r th.s th.w.it full
        simp only [absG]
        rw [h]
        simp [absE, List.map_set, absT]
      · simp [absG, List.map_set, absT]
  · rfl
theorem rootsG_abs (s : GS α β) : rootsG (absG s) = rootsG s := by
  unfold rootsG absG
  simp only
  congr 1
  rw [List.flatMap_map]
  congr 1
  funext o
  cases o <;> rfl
theorem flds_abs (O : List (Obj α)) (z : Int) : flds (absO O) z = flds O z := by unfold flds; rw [absO_at]
theorem Rch_abs {O : List (Obj α)} {R : List Int} {z : Int} : Rch (absO O) R z ↔ Rch O R z := by
  constructor
  · intro h
    induction h with
    | root h1 h2 => exact .root h1 h2
    | step _ h1 h2 ih => rw [flds_abs] at h1; exact .step ih h1 h2
  · intro h
    induction h with
    | root h1 h2 => exact .root h1 h2
    | step _ h1 h2 ih => exact .step ih (by rw [flds_abs]; exact h1) h2
theorem rchB_abs (O : List (Obj α)) (R : List Int) : rchB (absO O) R = rchB O R := by
  funext z; rw [Bool.eq_iff_iff, rchB_t, rchB_t, Rch_abs]
end
end Go.Sl
namespace Go.Sl
open Go Go.Proofs
set_option linter.unusedVariables false
set_option linter.unusedSectionVars false
section
variable {α β : Type} [Inhabited α] [Inhabited β]
def phT : Option (β × ThS) → Int
  | some p => p.2.w.ph
  | none => 0
theorem doG_other (a : α) (b : β) (q : Cfg) (s : GS α β) (x : It) (full : Bool) {j : Nat} (hj : j < s.T.length) (h : (j : Int) ≠ x.t) : (doG a b q s x full).1.T[j]! = s.T[j]! := by
  have key : ∀ o, 0 ≤ x.t → (s.T.set x.t.toNat o)[j]! = s.T[j]! := fun o h0 => by
    rw [set_get _ _ _ _ hj, if_neg (by omega)]
  unfold doG
  split
  · split
    · rename_i hc; exact key _ hc.1.1
    · rfl
  split
  · cases hth : thOf s x.t with
    | none => rfl
    | some p =>
      have h0 : 0 ≤ x.t := by
        unfold thOf at hth
        split at hth
        · rename_i h; exact h.1
        · cases hth
      obtain ⟨c, th⟩ := p
      simp only
      split
      · rfl
      split
      · exact key _ h0
      split
      · split
        · exact key _ h0
        · rfl
      split
      · exact key _ h0
      · exact key _ h0
  · rfl
theorem go_ph (a : α) (b : β) {q : Cfg} {s : GS α β} (t : Int) (full : Bool) (hok : GsOk q s) (ht : 0 ≤ t ∧ t < 4) (h : phT (thOf s t) = 1 ∨ phT (thOf s t) = 2) :
    phT (thOf (doG a b q s ⟨1, t, 0, 0, 0, 0⟩ full).1 t) = if phT (thOf s t) = 1 then 2 else 0 := by
  have hT := hok.tl
  have get : ∀ (o : Option (β × ThS)) (O : List (Obj α)) (G : List Int), thOf (⟨O, G, s.T.set t.toNat o⟩ : GS α β) t = o := fun o O G => by
    unfold thOf; rw [if_pos ht]; simp only; rw [set_get _ _ _ _ (by omega), if_pos rfl]
  unfold doG
  cases hth : thOf s t with
  | none => rw [hth] at h; simp [phT] at h
  | some p =>
    obtain ⟨c, th⟩ := p
    rw [hth] at h
    have h : th.w.ph = 1 ∨ th.w.ph = 2 := h
    show _ = if th.w.ph = 1 then (2 : Int) else 0
    simp only
    rw [if_neg (by decide), if_pos (by decide), if_neg (by omega), if_neg (by decide), if_neg (by decide)]
    by_cases h1 : th.w.ph = 1
    · rw [if_pos h1, if_pos h1]
      exact congrArg phT (get _ _ _)
    · rw [if_neg h1, if_neg h1]
      exact congrArg phT (get _ _ _)
theorem ex_none (a : α) (b : β) {q : Cfg} {s : GS α β} (t : Int) (full : Bool) (hok : GsOk q s) (ht : 0 ≤ t ∧ t < 4) (h : phT (thOf s t) = 0) : (doG a b q s ⟨3, t, 0, 0, 0, 0⟩ full).1.T[t.toNat]! = none := by
  have hT := hok.tl
  unfold doG
  cases hth : thOf s t with
  | none =>
    unfold thOf at hth
    rw [if_pos ht] at hth
    simp only
    rw [if_neg (by decide), if_pos (by decide)]
    exact hth
  | some p =>
    obtain ⟨c, th⟩ := p
    rw [hth] at h
    simp only [phT] at h
    simp only
    rw [if_neg (by decide), if_pos (by decide), if_neg (by omega), if_pos trivial]
    simp only
    rw [set_get _ _ _ _ (by omega), if_pos rfl]
theorem none_roots {s : GS α β} (hT : s.T.length = 4) (h : ∀ j : Nat, j < 4 → s.T[j]! = none) : rootsG s = s.G := by
  unfold rootsG
  have : s.T.flatMap rtsG = [] := by
    rw [List.flatMap_eq_nil_iff]
    intro o ho
    obtain ⟨j, hj, rfl⟩ := List.mem_iff_getElem.1 ho
    have h1 := h j (by omega)
    rw [getElem!_pos s.T j hj] at h1
    rw [h1]; rfl
  rw [this, List.append_nil]
theorem rch_any {O : List (Obj α)} {R : List Int} (h : OkO O R) : 0 < cn (rchB O R) (O.length + 1) ↔ ∃ z ∈ R, z ≠ 0 := by
  constructor
  · intro hc
    apply Classical.byContradiction
    intro hn
    have hall : ∀ z, ¬ Rch O R z := fun z hz => by
      induction hz with
      | root h1 h2 => exact hn ⟨_, h1, h2⟩
      | step _ _ _ ih => exact ih
    have e : rchB O R = S0 := by
      funext z
      cases e : rchB O R z with
      | false => rfl
      | true => exact (hall _ (rchB_t.1 e)).elim
    rw [e, cn_zero] at hc
    omega
  · rintro ⟨z, hz, h0⟩
    have hr : Rch O R z := .root hz h0
    have ho := hr.ok h
    have e : rchB O R z.toNat = true := rchB_t.2 (by rw [Int.toNat_of_nonneg (by omega)]; exact hr)
    have := cn_drop (n := O.length + 1) (by omega) e
    omega
theorem reach_abs {sa sb : GS α β} (h : absG sa = absG sb) : sa.O.length = sb.O.length ∧ rootsG sa = rootsG sb ∧ rchB sa.O (rootsG sa) = rchB sb.O (rootsG sb) ∧ sa.G = sb.G := by
  have hO : absO sa.O = absO sb.O := congrArg (fun s : GS Unit Unit => s.O) h
  have hG : sa.G = sb.G := congrArg (fun s : GS Unit Unit => s.G) h
  have hr : rootsG sa = rootsG sb := by rw [← rootsG_abs sa, ← rootsG_abs sb, h]
  refine ⟨by rw [← absO_len sa.O, ← absO_len sb.O, hO], hr, ?_, hG⟩
  rw [← rchB_abs sa.O, ← rchB_abs sb.O, hO, hr]
def anyN (l : List Int) : Bool := l.any fun z => decide (z ≠ 0)
theorem anyN_t {l : List Int} : anyN l = true ↔ ∃ z ∈ l, z ≠ 0 := by simp [anyN]
theorem anyN_step {l : List Int} {j : Nat} (h : j < l.length) : anyN (l.take (j + 1)) = (anyN (l.take j) || decide (l[j]! ≠ 0)) := by
  unfold anyN
  rw [List.take_succ_eq_append_getElem h, List.any_append, getElem!_pos l j h]
  simp
end
end Go.Sl
namespace Go.Sl
open Go
section
variable {P : Program} {n s : Nat} {ρ : Env} {H R : HP} {t t' T e : TypeId} {x y : Operand} {v : Value} {bb : Nat} {zc : List Value} {α : Type}
theorem Pu.loadN_std [Inhabited α] {f : α → List Value} [TA : TyA P t true] [S : TyS P t s bb zc] [F : Fl f s] {L : List α} {j : Nat} {w : α} (hx : ev ρ x = some (.pointer (some ((sbase v).add (j * s))))) (hp : Pk H (slk s v (L.flatMap f)) R) (hj : j < L.length) (hw : L[j]! = w) :
    Pu P n ρ H (.load t x) t' (.agg (f w).toArray) := hw ▸ Pu.loadN_st hx hp hj
end
end Go.Sl
namespace Go.Sl
open Go Go.Proofs
set_option linter.unusedVariables false
set_option linter.unusedSimpArgs false
theorem Pu.len_bl {P : Program} {n : Nat} {ρ : Env} {H R : HP} {x : Operand} {T t e : TypeId} {v : Value} {k : Nat} {V : Nat → Bool} [TT : TyU P T (.slice e)] (hx : ev ρ x = some v) (hp : Pk H (slk 1 v (bl k V)) R) : Pu P n ρ H (.call { callee := .builtin .len, args := #[x], argTypes := #[T] }) t (vi k) := by
  have h := Pu.len_sl (P := P) (n := n) (t := t) (T := T) hx hp
  rwa [bl_len] at h
structure ExS where
  k : Nat
  sa : GS SV Nat
  sb : GS SV Nat
structure ExT where
  t : Int
  sa : GS SV Nat
  sb : GS SV Nat
structure ExJ where
  j : Int
  sa : GS SV Nat
  sb : GS SV Nat
theorem at_ph (s : GS SV Nat) (t : Int) : atN s t = phT (thOf s t) := by
  unfold atN phT
  cases thOf s t <;> rfl
theorem abs_do {q : Cfg} {sa sb : GS SV Nat} (hab : absG sa = absG sb) (x : It) (pa pb : SV × Nat) : absG (doG pa.1 pa.2 q sa x false).1 = absG (doG pb.1 pb.2 q sb x false).1 ∧ (doG pa.1 pa.2 q sa x false).2 = (doG pb.1 pb.2 q sb x false).2 := by
  have e1 := doG_abs pa.1 pa.2 q sa x false
  have e2 := doG_abs pb.1 pb.2 q sb x false
  rw [hab, e2] at e1
  exact ⟨(congrArg Prod.fst e1).symm, (congrArg Prod.snd e1).symm⟩
theorem abs_len {sa sb : GS SV Nat} (hab : absG sa = absG sb) : sb.O.length = sa.O.length := by
  have h1 := congrArg (fun s : GS Unit Unit => s.O.length) hab
  unfold absG at h1
  simp only [absO_len] at h1
  exact h1.symm
attribute [local irreducible] star Ow Cw Pk Pu Dw DwF thenQ blockQ retQ loudQ loudF loudG Cr thr tab obs andI bset lU stAt cn gpW gph gs0 actR madeR doG absG rgh rthr rths bl rchB anyN
set_option maxHeartbeats 32000000 in
theorem GraphExits_fn {A : HP} {kb ko kc : Nat} (hK : Kinds A kb ko kc) (l0 l1 l2 l3 l4 l5 : Int) (h0 : 0 ≤ l0 ∧ l0 ≤ 255) (h1 : 0 ≤ l1 ∧ l1 ≤ 255) (h2 : 0 ≤ l2 ∧ l2 ≤ 255) (h3 : 0 ≤ l3 ∧ l3 ≤ 255) (h4 : 0 ≤ l4 ∧ l4 ≤ 255) (h5 : 0 ≤ l5 ∧ l5 ≤ 255)
    (a1 : Option Addr) (c1 : Nat) (l : List Stp) (hl : l.length ≤ 1000000000000000) (hro : Ro A a1 l.length 7 (l.flatMap Stp.cs)) (hall : ∀ x ∈ l, StOk x) :
    Fn Tryd.prog 5 [l6v l0 l1 l2 l3 l4 l5, .slice a1 l.length c1] A Unit (fun _ => .bool true) (fun _ => A) := by
  have hq8 := made_ok l0 l1 l2 l3 l4 l5 h2
  have hmf := Made_fn l0 l1 l2 l3 l4 l5 h0 h1 h2 h3 h4 h5
  obtain ⟨q, hq⟩ : ∃ q, madeR l0 l1 l2 l3 l4 l5 = q := ⟨_, rfl⟩
  rw [hq] at hq8 hmf
  have hok0 := gs0_ok hq8
  (refine Fn.of Tryd.func5 rfl (by kernel_rfl) Tryd.ntmps5 rfl (fun F => ?_))
  (repeat' (first | (refine Ow.is ?_; (first | refine Ow.pu rfl (Pu.build (ps := [(0, .const (vi 3)), (1, .tmp 74)]) (vs := [vi 3, vi t]) (cs := (It.mk 3 t 0 0 0 0).cs) evA (fun w => by kernel_rfl)) ?_ | refine Ow.pu rfl (Pu.build (ps := [(0, .const (vi 3)), (1, .tmp 69)]) (vs := [vi 3, vi t]) (cs := (It.mk 3 t 0 0 0 0).cs) evA (fun w => by kernel_rfl)) ?_ | refine Ow.pu rfl (Pu.build (ps := [(0, .const (vi 1)), (1, .tmp 64)]) (vs := [vi 1, vi t]) (cs := (It.mk 1 t 0 0 0 0).cs) evA (fun w => by kernel_rfl)) ?_ | refine Ow.pu rfl (Pu.build (ps := [(0, .const (vi 1)), (1, .tmp 60)]) (vs := [vi 1, vi t]) (cs := (It.mk 1 t 0 0 0 0).cs) evA (fun w => by kernel_rfl)) ?_ | refine Ow.pu rfl (Pu.fld0 rfl) ?_ | refine Ow.nil ?_ | refine Ow.pu rfl (Pu.move rfl) ?_ | refine Ow.pu rfl (Pu.assign rfl) ?_ | (refine Ow.kBin ?_; (first | (refine Ow.b_gtr ?_; first | refine Ow.pu rfl (Pu.gt_t rfl rfl (by omega)) ?_ | refine Ow.pu rfl (Pu.gt_f rfl rfl (by omega)) ?_ | refine Ow.sp rfl (by exact Pu.gt rfl rfl) (fun hc => ?_) (fun hc => ?_)))) | (refine Ow.kUn ?_; (first | refine Ow.pu rfl (Pu.not rfl) ?_)) | (refine Ow.kBuiltin ?_; (first | refine Ow.pu rfl (Pu.len_bl rfl pkA) ?_ | refine Ow.pu rfl (Pu.len_st rfl pkA) ?_ | refine Ow.pu rfl (Pu.len_slm rfl pkA) ?_ | refine Ow.pu rfl (Pu.len rfl) ?_)) | (refine Ow.kCall ?_; (first | refine Ow.callE evA pkA rfl (fit20_fn hK) (fun _ => ?_) | fail)) | refine Ow.box rfl rfl rfl (fun bx => ?_))) | (refine Cw.is ?_; (first | refine Cw.seq ?_ | refine Cw.region ?_ | refine Cw.cond_t rfl rfl ?_ | refine Cw.cond_f rfl rfl ?_ | refine Cw.block ?_ | refine Cw.ret ?_ | refine Cw.exit ?_ | refine Cw.skip ?_)) | (first | refine thenQ_n ?_ | refine thenQ_r ?_ | refine thenQ_e ?_ | refine blockQ_n ?_ | refine blockQ_e ?_)))
  · refine retQ_v () Tryd.results5 rfl rfl ?_; ((try simp only [star_assoc]); (repeat (apply Ent.pk; exact pkA)); first | exact Ent.fin pkA | exact Ent.refl _)
  (refine Cw.draw1 (cl bx _) false 0 [(0, false), (3, false), (1, true), (2, true), (4, true), (5, true), (6, false), (7, false)] pkA mixed (by kernel_rfl) ?_; (repeat (first | refine Dw.q rfl rfl trivial (by (first | exact Pu.move rfl | exact Pu.assign rfl | exact Pu.fld rfl | exact Pu.nilCheck rfl | exact Pu.extract rfl rfl | (apply Pu.kLoad; (first | exact Pu.load_cl rfl pkA hgv | exact Pu.load_slk (j := k) rfl pkA hbl | exact Pu.loadN_std rfl pkA (by omega) hx | exact Pu.load_cl rfl pkA rfl | exact Pu.loadN_cl rfl pkA rfl rfl | exact Pu.load_sli rfl pkA (by first | omega | (simp only [List.length_set, List.length_append, List.length_replicate, List.length_cons, List.length_nil]; omega)))))) ?_ | refine Dw.q rfl rfl ⟨_, _, rfl, rfl, rfl⟩ (by (first | exact Pu.move rfl | exact Pu.assign rfl | exact Pu.fld rfl | exact Pu.nilCheck rfl | exact Pu.extract rfl rfl | (apply Pu.kLoad; (first | exact Pu.load_cl rfl pkA hgv | exact Pu.load_slk (j := k) rfl pkA hbl | exact Pu.loadN_std rfl pkA (by omega) hx | exact Pu.load_cl rfl pkA rfl | exact Pu.loadN_cl rfl pkA rfl rfl | exact Pu.load_sli rfl pkA (by first | omega | (simp only [List.length_set, List.length_append, List.length_replicate, List.length_cons, List.length_nil]; omega)))))) ?_)); refine Dw.l rfl (by first | exact trivial | exact ⟨_, _, rfl, rfl, rfl⟩) ?_; refine Ow.callE0 evA rfl hmf (fun _ => Ow.unemp ?_); refine Ow.nil ?_; refine loudQ.go pkA ?_; refine Dw.l rfl (by first | exact trivial | exact ⟨_, _, rfl, rfl, rfl⟩) ?_; refine Ow.callE0 evA rfl (GNew_fn _ hq8) (fun ga => ?_); refine Ow.nil ?_; refine loudQ.go pkA ?_; refine Dw.l rfl (by first | exact trivial | exact ⟨_, _, rfl, rfl, rfl⟩) ?_; refine Ow.callE0 evA rfl hmf (fun _ => Ow.unemp ?_); refine Ow.nil ?_; refine loudQ.go pkA ?_; refine Dw.l rfl (by first | exact trivial | exact ⟨_, _, rfl, rfl, rfl⟩) ?_; refine Ow.callE0 evA rfl (rNew_fn _ hq8) (fun mb => ?_); refine Ow.nil ?_; refine loudQ.go pkA ?_; (repeat (first | refine Dw.q rfl rfl trivial (by (first | exact Pu.move rfl | exact Pu.assign rfl | exact Pu.fld rfl | exact Pu.nilCheck rfl | exact Pu.extract rfl rfl | (apply Pu.kLoad; (first | exact Pu.load_cl rfl pkA hgv | exact Pu.load_slk (j := k) rfl pkA hbl | exact Pu.loadN_std rfl pkA (by omega) hx | exact Pu.load_cl rfl pkA rfl | exact Pu.loadN_cl rfl pkA rfl rfl | exact Pu.load_sli rfl pkA (by first | omega | (simp only [List.length_set, List.length_append, List.length_replicate, List.length_cons, List.length_nil]; omega)))))) ?_ | refine Dw.q rfl rfl ⟨_, _, rfl, rfl, rfl⟩ (by (first | exact Pu.move rfl | exact Pu.assign rfl | exact Pu.fld rfl | exact Pu.nilCheck rfl | exact Pu.extract rfl rfl | (apply Pu.kLoad; (first | exact Pu.load_cl rfl pkA hgv | exact Pu.load_slk (j := k) rfl pkA hbl | exact Pu.loadN_std rfl pkA (by omega) hx | exact Pu.load_cl rfl pkA rfl | exact Pu.loadN_cl rfl pkA rfl rfl | exact Pu.load_sli rfl pkA (by first | omega | (simp only [List.length_set, List.length_append, List.length_replicate, List.length_cons, List.length_nil]; omega)))))) ?_)); refine Dw.nil ?_ rfl)
  (repeat' (first | (refine Ow.is ?_; (first | refine Ow.pu rfl (Pu.build (ps := [(0, .const (vi 3)), (1, .tmp 74)]) (vs := [vi 3, vi t]) (cs := (It.mk 3 t 0 0 0 0).cs) evA (fun w => by kernel_rfl)) ?_ | refine Ow.pu rfl (Pu.build (ps := [(0, .const (vi 3)), (1, .tmp 69)]) (vs := [vi 3, vi t]) (cs := (It.mk 3 t 0 0 0 0).cs) evA (fun w => by kernel_rfl)) ?_ | refine Ow.pu rfl (Pu.build (ps := [(0, .const (vi 1)), (1, .tmp 64)]) (vs := [vi 1, vi t]) (cs := (It.mk 1 t 0 0 0 0).cs) evA (fun w => by kernel_rfl)) ?_ | refine Ow.pu rfl (Pu.build (ps := [(0, .const (vi 1)), (1, .tmp 60)]) (vs := [vi 1, vi t]) (cs := (It.mk 1 t 0 0 0 0).cs) evA (fun w => by kernel_rfl)) ?_ | refine Ow.pu rfl (Pu.fld0 rfl) ?_ | refine Ow.nil ?_ | refine Ow.pu rfl (Pu.move rfl) ?_ | (refine Ow.kBuiltin ?_; (first | refine Ow.pu rfl (Pu.len_bl rfl pkA) ?_ | refine Ow.pu rfl (Pu.len_st rfl pkA) ?_ | refine Ow.pu rfl (Pu.len_slm rfl pkA) ?_ | refine Ow.pu rfl (Pu.len rfl) ?_)) | (refine Ow.kCall ?_; (first | refine Ow.callE evA pkA rfl (Items_fn hro (by omega) hall) (fun p => Ow.assoc ?_) | fail)))) | (refine Cw.is ?_; (first | refine Cw.seq ?_ | refine Cw.region ?_ | refine Cw.cond_t rfl rfl ?_ | refine Cw.cond_f rfl rfl ?_ | refine Cw.block ?_ | refine Cw.ret ?_ | refine Cw.exit ?_ | refine Cw.skip ?_)) | (first | refine thenQ_n ?_ | refine thenQ_r ?_ | refine thenQ_e ?_ | refine blockQ_n ?_ | refine blockQ_e ?_)))
  obtain ⟨nv, N, hNl, hNok⟩ := p
  dsimp only
  refine Cw.loopF [8, 35, 36, 37, 38, 39, 40, 41, 42, 43, 44, 45] (by (repeat first | exact er_nil | apply er_drop rfl | apply er_keep rfl)) (fun s : ExS => s.k ≤ N.length ∧ GsOk q s.sa ∧ GsOk q s.sb ∧ absG s.sa = absG s.sb ∧ s.sa.O.length ≤ s.k) (fun s => [(35, vi s.k)])
    (fun s => gph ga q s.sa * (rgh mb q s.sb * (slk 6 nv.v (N.flatMap It.cs) * (A * F)))) (fun s => N.length - s.k) ⟨0, gs0 q, gs0 q⟩ ⟨by simp, hok0, hok0, rfl, by unfold gs0; simp⟩ (by (repeat first | exact trivial | refine ⟨rfl, ?_⟩)) (by ((try simp only [star_assoc]); (repeat (apply Ent.pk; exact pkA)); first | exact Ent.fin pkA | exact Ent.refl _)) (fun s hs => ?_)
  obtain ⟨k, sa, sb⟩ := s
  obtain ⟨hk, hoka, hokb, hab, hla⟩ := hs
  simp only at hk hoka hokb hab hla ⊢
  have hlb := abs_len hab
  by_cases hkn : k < N.length
  · obtain ⟨x, hx⟩ : ∃ x, N[k]! = x := ⟨_, rfl⟩
    have hgd := Do_fn hK ga q sa x false hoka (by omega) hq8
    have hrd := rDo_fn mb q sb x false hokb (by omega) hq8
    (repeat' (first | (refine Ow.is ?_; (first | refine Ow.pu rfl (Pu.build (ps := [(0, .const (vi 3)), (1, .tmp 74)]) (vs := [vi 3, vi t]) (cs := (It.mk 3 t 0 0 0 0).cs) evA (fun w => by kernel_rfl)) ?_ | refine Ow.pu rfl (Pu.build (ps := [(0, .const (vi 3)), (1, .tmp 69)]) (vs := [vi 3, vi t]) (cs := (It.mk 3 t 0 0 0 0).cs) evA (fun w => by kernel_rfl)) ?_ | refine Ow.pu rfl (Pu.build (ps := [(0, .const (vi 1)), (1, .tmp 64)]) (vs := [vi 1, vi t]) (cs := (It.mk 1 t 0 0 0 0).cs) evA (fun w => by kernel_rfl)) ?_ | refine Ow.pu rfl (Pu.build (ps := [(0, .const (vi 1)), (1, .tmp 60)]) (vs := [vi 1, vi t]) (cs := (It.mk 1 t 0 0 0 0).cs) evA (fun w => by kernel_rfl)) ?_ | refine Ow.pu rfl (Pu.fld0 rfl) ?_ | refine Ow.nil ?_ | refine Ow.pu rfl (Pu.move rfl) ?_ | (refine Ow.kLoad ?_; (first | refine Ow.pu rfl (Pu.loadN_std rfl pkA (by omega) hx) ?_ | refine Ow.pu rfl (Pu.loadN_cl rfl pkA rfl rfl) ?_)) | (refine Ow.kBin ?_; (first | (refine Ow.b_lss ?_; first | refine Ow.pu rfl (Pu.lt_t rfl rfl (by omega)) ?_ | refine Ow.pu rfl (Pu.lt_f rfl rfl (by omega)) ?_ | refine Ow.sp rfl (by exact Pu.lt rfl rfl) (fun hc => ?_) (fun hc => ?_)))) | (refine Ow.kStore ?_; (first | refine Ow.storeN rfl rfl rfl rfl rfl pkA rfl ?_)) | (refine Ow.kIdx ?_; (first | refine Ow.pu rfl (Pu.idx_sl rfl rfl pkA (by rw [bl_len]; omega)) ?_ | refine Ow.pu rfl (Pu.idx_stn rfl rfl pkA (by omega)) ?_ | refine Ow.pu rfl (Pu.idx_sln rfl rfl pkA (by simp only [List.length_map, List.length_append, List.length_set, List.length_replicate, List.length_cons, List.length_nil]; omega)) ?_ | refine Ow.pu rfl (Pu.idx_sl rfl rfl pkA (by simp only [List.length_map, List.length_append, List.length_set, List.length_replicate, List.length_cons, List.length_nil]; omega)) ?_)) | (refine Ow.kCall ?_; (first | refine Ow.callE evA pkA rfl hrd (fun pb => ?_) | refine Ow.callE evA (pk2' pkA pkA) rfl hgd (fun pa => Ow.assoc ?_) | fail)) | refine Ow.alloc rfl (fun bx => ?_))) | (refine Cw.is ?_; (first | refine Cw.seq ?_ | refine Cw.region ?_ | refine Cw.cond_t rfl rfl ?_ | refine Cw.cond_f rfl rfl ?_ | refine Cw.block ?_ | refine Cw.ret ?_ | refine Cw.exit ?_ | refine Cw.skip ?_)) | (first | refine thenQ_n ?_ | refine thenQ_r ?_ | refine thenQ_e ?_ | refine blockQ_n ?_ | refine blockQ_e ?_)))
    have hka := doG_ok pa.1 pa.2 x false hoka hq8
    have hkb := doG_ok pb.1 pb.2 x false hokb hq8
    (repeat' (first | (refine Ow.is ?_; (first | refine Ow.pu rfl (Pu.build (ps := [(0, .const (vi 3)), (1, .tmp 74)]) (vs := [vi 3, vi t]) (cs := (It.mk 3 t 0 0 0 0).cs) evA (fun w => by kernel_rfl)) ?_ | refine Ow.pu rfl (Pu.build (ps := [(0, .const (vi 3)), (1, .tmp 69)]) (vs := [vi 3, vi t]) (cs := (It.mk 3 t 0 0 0 0).cs) evA (fun w => by kernel_rfl)) ?_ | refine Ow.pu rfl (Pu.build (ps := [(0, .const (vi 1)), (1, .tmp 64)]) (vs := [vi 1, vi t]) (cs := (It.mk 1 t 0 0 0 0).cs) evA (fun w => by kernel_rfl)) ?_ | refine Ow.pu rfl (Pu.build (ps := [(0, .const (vi 1)), (1, .tmp 60)]) (vs := [vi 1, vi t]) (cs := (It.mk 1 t 0 0 0 0).cs) evA (fun w => by kernel_rfl)) ?_ | refine Ow.pu rfl (Pu.fld0 rfl) ?_ | refine Ow.nil ?_ | refine Ow.pu rfl (Pu.move rfl) ?_ | (refine Ow.kBin ?_; (first | (refine Ow.b_add ?_; refine Ow.pu rfl (Pu.add_i rfl rfl (by omega)) ?_))))) | (refine Cw.is ?_; (first | refine Cw.seq ?_ | refine Cw.region ?_ | refine Cw.cond_t rfl rfl ?_ | refine Cw.cond_f rfl rfl ?_ | refine Cw.block ?_ | refine Cw.ret ?_ | refine Cw.exit ?_ | refine Cw.skip ?_)) | (first | refine thenQ_n ?_ | refine thenQ_r ?_ | refine thenQ_e ?_ | refine blockQ_n ?_ | refine blockQ_e ?_)))
    exact ⟨rfl, ⟨k + 1, (doG pa.1 pa.2 q sa x false).1, (doG pb.1 pb.2 q sb x false).1⟩, ⟨by simp only; omega, hka.1, hkb.1, (abs_do hab x pa pb).1, by simp only; omega⟩, by simp only; omega, by (repeat first | exact trivial | refine ⟨rfl, ?_⟩), by ((try simp only [star_assoc]); (repeat (apply Ent.pk; exact pkA)); first | exact Ent.fin pkA | exact Ent.refl _)⟩
  · obtain rfl : k = N.length := by omega
    clear hkn hk
    (repeat' (first | (refine Ow.is ?_; (first | refine Ow.pu rfl (Pu.build (ps := [(0, .const (vi 3)), (1, .tmp 74)]) (vs := [vi 3, vi t]) (cs := (It.mk 3 t 0 0 0 0).cs) evA (fun w => by kernel_rfl)) ?_ | refine Ow.pu rfl (Pu.build (ps := [(0, .const (vi 3)), (1, .tmp 69)]) (vs := [vi 3, vi t]) (cs := (It.mk 3 t 0 0 0 0).cs) evA (fun w => by kernel_rfl)) ?_ | refine Ow.pu rfl (Pu.build (ps := [(0, .const (vi 1)), (1, .tmp 64)]) (vs := [vi 1, vi t]) (cs := (It.mk 1 t 0 0 0 0).cs) evA (fun w => by kernel_rfl)) ?_ | refine Ow.pu rfl (Pu.build (ps := [(0, .const (vi 1)), (1, .tmp 60)]) (vs := [vi 1, vi t]) (cs := (It.mk 1 t 0 0 0 0).cs) evA (fun w => by kernel_rfl)) ?_ | refine Ow.pu rfl (Pu.fld0 rfl) ?_ | refine Ow.nil ?_ | (refine Ow.kBin ?_; (first | (refine Ow.b_lss ?_; first | refine Ow.pu rfl (Pu.lt_t rfl rfl (by omega)) ?_ | refine Ow.pu rfl (Pu.lt_f rfl rfl (by omega)) ?_ | refine Ow.sp rfl (by exact Pu.lt rfl rfl) (fun hc => ?_) (fun hc => ?_)))))) | (refine Cw.is ?_; (first | refine Cw.seq ?_ | refine Cw.region ?_ | refine Cw.cond_t rfl rfl ?_ | refine Cw.cond_f rfl rfl ?_ | refine Cw.block ?_ | refine Cw.ret ?_ | refine Cw.exit ?_ | refine Cw.skip ?_)) | (first | refine thenQ_n ?_ | refine thenQ_r ?_ | refine thenQ_e ?_ | refine blockQ_n ?_ | refine blockQ_e ?_)))
    (repeat' (first | (refine Ow.is ?_; (first | refine Ow.pu rfl (Pu.build (ps := [(0, .const (vi 3)), (1, .tmp 74)]) (vs := [vi 3, vi t]) (cs := (It.mk 3 t 0 0 0 0).cs) evA (fun w => by kernel_rfl)) ?_ | refine Ow.pu rfl (Pu.build (ps := [(0, .const (vi 3)), (1, .tmp 69)]) (vs := [vi 3, vi t]) (cs := (It.mk 3 t 0 0 0 0).cs) evA (fun w => by kernel_rfl)) ?_ | refine Ow.pu rfl (Pu.build (ps := [(0, .const (vi 1)), (1, .tmp 64)]) (vs := [vi 1, vi t]) (cs := (It.mk 1 t 0 0 0 0).cs) evA (fun w => by kernel_rfl)) ?_ | refine Ow.pu rfl (Pu.build (ps := [(0, .const (vi 1)), (1, .tmp 60)]) (vs := [vi 1, vi t]) (cs := (It.mk 1 t 0 0 0 0).cs) evA (fun w => by kernel_rfl)) ?_ | refine Ow.pu rfl (Pu.fld0 rfl) ?_ | refine Ow.nil ?_ | refine Ow.pu rfl (Pu.move rfl) ?_)) | (refine Cw.is ?_; (first | refine Cw.seq ?_ | refine Cw.region ?_ | refine Cw.cond_t rfl rfl ?_ | refine Cw.cond_f rfl rfl ?_ | refine Cw.block ?_ | refine Cw.ret ?_ | refine Cw.exit ?_ | refine Cw.skip ?_)) | (first | refine thenQ_n ?_ | refine thenQ_r ?_ | refine thenQ_e ?_ | refine blockQ_n ?_ | refine blockQ_e ?_)))
    refine Cw.loopF [4, 9, 10, 11, 12, 13, 14, 46, 47, 48, 49, 50, 51, 52, 53, 54, 55, 56, 57, 58, 59, 60, 61, 62, 63, 64, 65, 66, 67, 68, 69, 70, 71, 72, 73, 74, 75, 76, 77, 78, 79, 80, 81, 82, 83] (by (repeat first | exact er_nil | apply er_drop rfl | apply er_keep rfl)) (fun s : ExT => (0 ≤ s.t ∧ s.t ≤ 4) ∧ GsOk q s.sa ∧ GsOk q s.sb ∧ absG s.sa = absG s.sb ∧ (s.sa.O.length : Int) ≤ 1000 + 3 * s.t ∧ ∀ j : Nat, (j : Int) < s.t → s.sa.T[j]! = none) (fun s => [(46, vi s.t)])
      (fun s => gph ga q s.sa * (rgh mb q s.sb * (A * F))) (fun s => (4 - s.t).toNat) ⟨0, sa, sb⟩ ⟨by simp, hoka, hokb, hab, by simp only; omega, fun j hj => by simp only at hj; omega⟩ (by (repeat first | exact trivial | refine ⟨rfl, ?_⟩)) (by ((try simp only [star_assoc]); (repeat (apply Ent.pk; exact pkA)); first | exact Ent.fin pkA | exact Ent.refl _)) (fun s hs => ?_)
    clear hoka hokb hab hla hlb sa sb
    obtain ⟨t, sa, sb⟩ := s
    obtain ⟨ht, hoka, hokb, hab, hla, hno⟩ := hs
    simp only at ht hoka hokb hab hla hno ⊢
    by_cases ht4 : t < 4
    · (repeat' (first | (refine Ow.is ?_; (first | refine Ow.pu rfl (Pu.build (ps := [(0, .const (vi 3)), (1, .tmp 74)]) (vs := [vi 3, vi t]) (cs := (It.mk 3 t 0 0 0 0).cs) evA (fun w => by kernel_rfl)) ?_ | refine Ow.pu rfl (Pu.build (ps := [(0, .const (vi 3)), (1, .tmp 69)]) (vs := [vi 3, vi t]) (cs := (It.mk 3 t 0 0 0 0).cs) evA (fun w => by kernel_rfl)) ?_ | refine Ow.pu rfl (Pu.build (ps := [(0, .const (vi 1)), (1, .tmp 64)]) (vs := [vi 1, vi t]) (cs := (It.mk 1 t 0 0 0 0).cs) evA (fun w => by kernel_rfl)) ?_ | refine Ow.pu rfl (Pu.build (ps := [(0, .const (vi 1)), (1, .tmp 60)]) (vs := [vi 1, vi t]) (cs := (It.mk 1 t 0 0 0 0).cs) evA (fun w => by kernel_rfl)) ?_ | refine Ow.pu rfl (Pu.fld0 rfl) ?_ | refine Ow.nil ?_ | refine Ow.pu rfl (Pu.move rfl) ?_ | refine Ow.pu rfl (Pu.assign rfl) ?_ | (refine Ow.kBin ?_; (first | (refine Ow.b_lss ?_; first | refine Ow.pu rfl (Pu.lt_t rfl rfl (by omega)) ?_ | refine Ow.pu rfl (Pu.lt_f rfl rfl (by omega)) ?_ | refine Ow.sp rfl (by exact Pu.lt rfl rfl) (fun hc => ?_) (fun hc => ?_)))))) | (refine Cw.is ?_; (first | refine Cw.seq ?_ | refine Cw.region ?_ | refine Cw.cond_t rfl rfl ?_ | refine Cw.cond_f rfl rfl ?_ | refine Cw.block ?_ | refine Cw.ret ?_ | refine Cw.exit ?_ | refine Cw.skip ?_)) | (first | refine thenQ_n ?_ | refine thenQ_r ?_ | refine thenQ_e ?_ | refine blockQ_n ?_ | refine blockQ_e ?_)))
      refine Cw.loopF [10, 11, 49, 50, 51, 52, 53, 54, 55, 56, 57, 58, 59, 60, 61, 62, 63, 64, 65, 66, 67] (by (repeat first | exact er_nil | apply er_drop rfl | apply er_keep rfl)) (fun s : ExJ => (0 ≤ s.j ∧ s.j ≤ 2) ∧ GsOk q s.sa ∧ GsOk q s.sb ∧ absG s.sa = absG s.sb ∧ (s.sa.O.length : Int) ≤ 1000 + 3 * t + s.j ∧ (phT (thOf s.sa t) = 0 ∨ (phT (thOf s.sa t) = 2 ∧ s.j ≤ 1) ∨ (phT (thOf s.sa t) = 1 ∧ s.j = 0)) ∧ ∀ j : Nat, (j : Int) < t → s.sa.T[j]! = none) (fun s => [(49, vi s.j)])
        (fun s => gph ga q s.sa * (rgh mb q s.sb * (A * F))) (fun s => (2 - s.j).toNat) ⟨0, sa, sb⟩ ⟨by simp, hoka, hokb, hab, by simp only; omega, by
          simp only
          refine ⟨?_, hno⟩
          cases hth : thOf sa t with
          | none => exact .inl rfl
          | some p =>
            have hph := (hoka.t t.toNat p.1 p.2 (by omega) (thOf_some hth).2).1.ph
            rcases hph with h | h | h
            · exact .inl h
            · exact .inr (.inr ⟨h, trivial⟩)
            · exact .inr (.inl ⟨h, by decide⟩)⟩ (by (repeat first | exact trivial | refine ⟨rfl, ?_⟩)) (by ((try simp only [star_assoc]); (repeat (apply Ent.pk; exact pkA)); first | exact Ent.fin pkA | exact Ent.refl _)) (fun s hs => ?_)
      clear hoka hokb hab hla hno sa sb
      obtain ⟨j, sa, sb⟩ := s
      obtain ⟨hj, hoka, hokb, hab, hla, hph, hno⟩ := hs
      simp only at hj hoka hokb hab hla hph hno ⊢
      have hlb := abs_len hab
      have hTa := hoka.tl
      by_cases hj2 : j < 2
      · have hat := At_fn ga q sa t hoka
        rw [at_ph] at hat
        obtain ⟨p, hp⟩ : ∃ p, phT (thOf sa t) = p := ⟨_, rfl⟩
        rw [hp] at hat hph
        by_cases hp0 : p = 0
        · (repeat' (first | (refine Ow.is ?_; (first | refine Ow.pu rfl (Pu.build (ps := [(0, .const (vi 3)), (1, .tmp 74)]) (vs := [vi 3, vi t]) (cs := (It.mk 3 t 0 0 0 0).cs) evA (fun w => by kernel_rfl)) ?_ | refine Ow.pu rfl (Pu.build (ps := [(0, .const (vi 3)), (1, .tmp 69)]) (vs := [vi 3, vi t]) (cs := (It.mk 3 t 0 0 0 0).cs) evA (fun w => by kernel_rfl)) ?_ | refine Ow.pu rfl (Pu.build (ps := [(0, .const (vi 1)), (1, .tmp 64)]) (vs := [vi 1, vi t]) (cs := (It.mk 1 t 0 0 0 0).cs) evA (fun w => by kernel_rfl)) ?_ | refine Ow.pu rfl (Pu.build (ps := [(0, .const (vi 1)), (1, .tmp 60)]) (vs := [vi 1, vi t]) (cs := (It.mk 1 t 0 0 0 0).cs) evA (fun w => by kernel_rfl)) ?_ | refine Ow.pu rfl (Pu.fld0 rfl) ?_ | refine Ow.nil ?_ | (refine Ow.kBin ?_; (first | (refine Ow.b_lss ?_; first | refine Ow.pu rfl (Pu.lt_t rfl rfl (by omega)) ?_ | refine Ow.pu rfl (Pu.lt_f rfl rfl (by omega)) ?_ | refine Ow.sp rfl (by exact Pu.lt rfl rfl) (fun hc => ?_) (fun hc => ?_)))))) | (refine Cw.is ?_; (first | refine Cw.seq ?_ | refine Cw.region ?_ | refine Cw.cond_t rfl rfl ?_ | refine Cw.cond_f rfl rfl ?_ | refine Cw.block ?_ | refine Cw.ret ?_ | refine Cw.exit ?_ | refine Cw.skip ?_)) | (first | refine thenQ_n ?_ | refine thenQ_r ?_ | refine thenQ_e ?_ | refine blockQ_n ?_ | refine blockQ_e ?_)))
          (repeat' (first | (refine Ow.is ?_; (first | refine Ow.pu rfl (Pu.build (ps := [(0, .const (vi 3)), (1, .tmp 74)]) (vs := [vi 3, vi t]) (cs := (It.mk 3 t 0 0 0 0).cs) evA (fun w => by kernel_rfl)) ?_ | refine Ow.pu rfl (Pu.build (ps := [(0, .const (vi 3)), (1, .tmp 69)]) (vs := [vi 3, vi t]) (cs := (It.mk 3 t 0 0 0 0).cs) evA (fun w => by kernel_rfl)) ?_ | refine Ow.pu rfl (Pu.build (ps := [(0, .const (vi 1)), (1, .tmp 64)]) (vs := [vi 1, vi t]) (cs := (It.mk 1 t 0 0 0 0).cs) evA (fun w => by kernel_rfl)) ?_ | refine Ow.pu rfl (Pu.build (ps := [(0, .const (vi 1)), (1, .tmp 60)]) (vs := [vi 1, vi t]) (cs := (It.mk 1 t 0 0 0 0).cs) evA (fun w => by kernel_rfl)) ?_ | refine Ow.pu rfl (Pu.fld0 rfl) ?_ | refine Ow.nil ?_ | refine Ow.pu rfl (Pu.move rfl) ?_ | refine Ow.pu rfl (Pu.assign rfl) ?_ | refine Ow.pu rfl (Pu.extract rfl rfl) ?_ | (refine Ow.kStore ?_; (first | refine Ow.storeN rfl rfl rfl rfl rfl pkA rfl ?_)) | (refine Ow.kCall ?_; (first | refine Ow.callE evA pkA rfl hat (fun _ => ?_) | fail)) | refine Ow.alloc rfl (fun bx => ?_))) | (refine Cw.is ?_; (first | refine Cw.seq ?_ | refine Cw.region ?_ | refine Cw.cond_t rfl rfl ?_ | refine Cw.cond_f rfl rfl ?_ | refine Cw.block ?_ | refine Cw.ret ?_ | refine Cw.exit ?_ | refine Cw.skip ?_)) | (first | refine thenQ_n ?_ | refine thenQ_r ?_ | refine thenQ_e ?_ | refine blockQ_n ?_ | refine blockQ_e ?_)))
          (repeat' (first | (refine Ow.is ?_; (first | refine Ow.pu rfl (Pu.build (ps := [(0, .const (vi 3)), (1, .tmp 74)]) (vs := [vi 3, vi t]) (cs := (It.mk 3 t 0 0 0 0).cs) evA (fun w => by kernel_rfl)) ?_ | refine Ow.pu rfl (Pu.build (ps := [(0, .const (vi 3)), (1, .tmp 69)]) (vs := [vi 3, vi t]) (cs := (It.mk 3 t 0 0 0 0).cs) evA (fun w => by kernel_rfl)) ?_ | refine Ow.pu rfl (Pu.build (ps := [(0, .const (vi 1)), (1, .tmp 64)]) (vs := [vi 1, vi t]) (cs := (It.mk 1 t 0 0 0 0).cs) evA (fun w => by kernel_rfl)) ?_ | refine Ow.pu rfl (Pu.build (ps := [(0, .const (vi 1)), (1, .tmp 60)]) (vs := [vi 1, vi t]) (cs := (It.mk 1 t 0 0 0 0).cs) evA (fun w => by kernel_rfl)) ?_ | refine Ow.pu rfl (Pu.fld0 rfl) ?_ | refine Ow.nil ?_ | refine Ow.pu rfl (Pu.move rfl) ?_ | (refine Ow.kBin ?_; (first | (refine Ow.b_gtr ?_; first | refine Ow.pu rfl (Pu.gt_t rfl rfl (by omega)) ?_ | refine Ow.pu rfl (Pu.gt_f rfl rfl (by omega)) ?_ | refine Ow.sp rfl (by exact Pu.gt rfl rfl) (fun hc => ?_) (fun hc => ?_)))))) | (refine Cw.is ?_; (first | refine Cw.seq ?_ | refine Cw.region ?_ | refine Cw.cond_t rfl rfl ?_ | refine Cw.cond_f rfl rfl ?_ | refine Cw.block ?_ | refine Cw.ret ?_ | refine Cw.exit ?_ | refine Cw.skip ?_)) | (first | refine thenQ_n ?_ | refine thenQ_r ?_ | refine thenQ_e ?_ | refine blockQ_n ?_ | refine blockQ_e ?_)))
          (repeat' (first | (refine Ow.is ?_; (first | refine Ow.pu rfl (Pu.build (ps := [(0, .const (vi 3)), (1, .tmp 74)]) (vs := [vi 3, vi t]) (cs := (It.mk 3 t 0 0 0 0).cs) evA (fun w => by kernel_rfl)) ?_ | refine Ow.pu rfl (Pu.build (ps := [(0, .const (vi 3)), (1, .tmp 69)]) (vs := [vi 3, vi t]) (cs := (It.mk 3 t 0 0 0 0).cs) evA (fun w => by kernel_rfl)) ?_ | refine Ow.pu rfl (Pu.build (ps := [(0, .const (vi 1)), (1, .tmp 64)]) (vs := [vi 1, vi t]) (cs := (It.mk 1 t 0 0 0 0).cs) evA (fun w => by kernel_rfl)) ?_ | refine Ow.pu rfl (Pu.build (ps := [(0, .const (vi 1)), (1, .tmp 60)]) (vs := [vi 1, vi t]) (cs := (It.mk 1 t 0 0 0 0).cs) evA (fun w => by kernel_rfl)) ?_ | refine Ow.pu rfl (Pu.fld0 rfl) ?_ | refine Ow.nil ?_ | refine Ow.pu rfl (Pu.move rfl) ?_ | (refine Ow.kBin ?_; (first | (refine Ow.b_add ?_; refine Ow.pu rfl (Pu.add_i rfl rfl (by omega)) ?_))))) | (refine Cw.is ?_; (first | refine Cw.seq ?_ | refine Cw.region ?_ | refine Cw.cond_t rfl rfl ?_ | refine Cw.cond_f rfl rfl ?_ | refine Cw.block ?_ | refine Cw.ret ?_ | refine Cw.exit ?_ | refine Cw.skip ?_)) | (first | refine thenQ_n ?_ | refine thenQ_r ?_ | refine thenQ_e ?_ | refine blockQ_n ?_ | refine blockQ_e ?_)))
          exact ⟨rfl, ⟨j + 1, sa, sb⟩, ⟨by simp only; omega, hoka, hokb, hab, by simp only; omega, by simp only [hp]; omega, hno⟩, by simp only; omega, by (repeat first | exact trivial | refine ⟨rfl, ?_⟩), by ((try simp only [star_assoc]); (repeat (apply Ent.pk; exact pkA)); first | exact Ent.fin pkA | exact Ent.refl _)⟩
        · have hgd := Do_fn hK ga q sa ⟨1, t, 0, 0, 0, 0⟩ false hoka (by omega) hq8
          have hrd := rDo_fn mb q sb ⟨1, t, 0, 0, 0, 0⟩ false hokb (by omega) hq8
          have hgo := fun pa : SV × Nat => go_ph pa.1 pa.2 t false hoka (by omega) (by rw [hp]; omega)
          rw [hp] at hgo
          (repeat' (first | (refine Ow.is ?_; (first | refine Ow.pu rfl (Pu.build (ps := [(0, .const (vi 3)), (1, .tmp 74)]) (vs := [vi 3, vi t]) (cs := (It.mk 3 t 0 0 0 0).cs) evA (fun w => by kernel_rfl)) ?_ | refine Ow.pu rfl (Pu.build (ps := [(0, .const (vi 3)), (1, .tmp 69)]) (vs := [vi 3, vi t]) (cs := (It.mk 3 t 0 0 0 0).cs) evA (fun w => by kernel_rfl)) ?_ | refine Ow.pu rfl (Pu.build (ps := [(0, .const (vi 1)), (1, .tmp 64)]) (vs := [vi 1, vi t]) (cs := (It.mk 1 t 0 0 0 0).cs) evA (fun w => by kernel_rfl)) ?_ | refine Ow.pu rfl (Pu.build (ps := [(0, .const (vi 1)), (1, .tmp 60)]) (vs := [vi 1, vi t]) (cs := (It.mk 1 t 0 0 0 0).cs) evA (fun w => by kernel_rfl)) ?_ | refine Ow.pu rfl (Pu.fld0 rfl) ?_ | refine Ow.nil ?_ | (refine Ow.kBin ?_; (first | (refine Ow.b_lss ?_; first | refine Ow.pu rfl (Pu.lt_t rfl rfl (by omega)) ?_ | refine Ow.pu rfl (Pu.lt_f rfl rfl (by omega)) ?_ | refine Ow.sp rfl (by exact Pu.lt rfl rfl) (fun hc => ?_) (fun hc => ?_)))))) | (refine Cw.is ?_; (first | refine Cw.seq ?_ | refine Cw.region ?_ | refine Cw.cond_t rfl rfl ?_ | refine Cw.cond_f rfl rfl ?_ | refine Cw.block ?_ | refine Cw.ret ?_ | refine Cw.exit ?_ | refine Cw.skip ?_)) | (first | refine thenQ_n ?_ | refine thenQ_r ?_ | refine thenQ_e ?_ | refine blockQ_n ?_ | refine blockQ_e ?_)))
          (repeat' (first | (refine Ow.is ?_; (first | refine Ow.pu rfl (Pu.build (ps := [(0, .const (vi 3)), (1, .tmp 74)]) (vs := [vi 3, vi t]) (cs := (It.mk 3 t 0 0 0 0).cs) evA (fun w => by kernel_rfl)) ?_ | refine Ow.pu rfl (Pu.build (ps := [(0, .const (vi 3)), (1, .tmp 69)]) (vs := [vi 3, vi t]) (cs := (It.mk 3 t 0 0 0 0).cs) evA (fun w => by kernel_rfl)) ?_ | refine Ow.pu rfl (Pu.build (ps := [(0, .const (vi 1)), (1, .tmp 64)]) (vs := [vi 1, vi t]) (cs := (It.mk 1 t 0 0 0 0).cs) evA (fun w => by kernel_rfl)) ?_ | refine Ow.pu rfl (Pu.build (ps := [(0, .const (vi 1)), (1, .tmp 60)]) (vs := [vi 1, vi t]) (cs := (It.mk 1 t 0 0 0 0).cs) evA (fun w => by kernel_rfl)) ?_ | refine Ow.pu rfl (Pu.fld0 rfl) ?_ | refine Ow.nil ?_ | refine Ow.pu rfl (Pu.move rfl) ?_ | refine Ow.pu rfl (Pu.assign rfl) ?_ | refine Ow.pu rfl (Pu.extract rfl rfl) ?_ | (refine Ow.kStore ?_; (first | refine Ow.storeN rfl rfl rfl rfl rfl pkA rfl ?_)) | (refine Ow.kCall ?_; (first | refine Ow.callE evA pkA rfl hat (fun _ => ?_) | fail)) | refine Ow.alloc rfl (fun bx => ?_))) | (refine Cw.is ?_; (first | refine Cw.seq ?_ | refine Cw.region ?_ | refine Cw.cond_t rfl rfl ?_ | refine Cw.cond_f rfl rfl ?_ | refine Cw.block ?_ | refine Cw.ret ?_ | refine Cw.exit ?_ | refine Cw.skip ?_)) | (first | refine thenQ_n ?_ | refine thenQ_r ?_ | refine thenQ_e ?_ | refine blockQ_n ?_ | refine blockQ_e ?_)))
          (repeat' (first | (refine Ow.is ?_; (first | refine Ow.pu rfl (Pu.build (ps := [(0, .const (vi 3)), (1, .tmp 74)]) (vs := [vi 3, vi t]) (cs := (It.mk 3 t 0 0 0 0).cs) evA (fun w => by kernel_rfl)) ?_ | refine Ow.pu rfl (Pu.build (ps := [(0, .const (vi 3)), (1, .tmp 69)]) (vs := [vi 3, vi t]) (cs := (It.mk 3 t 0 0 0 0).cs) evA (fun w => by kernel_rfl)) ?_ | refine Ow.pu rfl (Pu.build (ps := [(0, .const (vi 1)), (1, .tmp 64)]) (vs := [vi 1, vi t]) (cs := (It.mk 1 t 0 0 0 0).cs) evA (fun w => by kernel_rfl)) ?_ | refine Ow.pu rfl (Pu.build (ps := [(0, .const (vi 1)), (1, .tmp 60)]) (vs := [vi 1, vi t]) (cs := (It.mk 1 t 0 0 0 0).cs) evA (fun w => by kernel_rfl)) ?_ | refine Ow.pu rfl (Pu.fld0 rfl) ?_ | refine Ow.nil ?_ | refine Ow.pu rfl (Pu.move rfl) ?_ | (refine Ow.kBin ?_; (first | (refine Ow.b_gtr ?_; first | refine Ow.pu rfl (Pu.gt_t rfl rfl (by omega)) ?_ | refine Ow.pu rfl (Pu.gt_f rfl rfl (by omega)) ?_ | refine Ow.sp rfl (by exact Pu.gt rfl rfl) (fun hc => ?_) (fun hc => ?_)))) | (refine Ow.kCall ?_; (first | refine Ow.callE evA pkA rfl hrd (fun pb => ?_) | refine Ow.callE evA (pk2' pkA pkA) rfl hgd (fun pa => Ow.assoc ?_) | fail)))) | (refine Cw.is ?_; (first | refine Cw.seq ?_ | refine Cw.region ?_ | refine Cw.cond_t rfl rfl ?_ | refine Cw.cond_f rfl rfl ?_ | refine Cw.block ?_ | refine Cw.ret ?_ | refine Cw.exit ?_ | refine Cw.skip ?_)) | (first | refine thenQ_n ?_ | refine thenQ_r ?_ | refine thenQ_e ?_ | refine blockQ_n ?_ | refine blockQ_e ?_)))
          have hka := doG_ok pa.1 pa.2 ⟨1, t, 0, 0, 0, 0⟩ false hoka hq8
          have hkb := doG_ok pb.1 pb.2 ⟨1, t, 0, 0, 0, 0⟩ false hokb hq8
          have hgp := hgo pa
          (repeat' (first | (refine Ow.is ?_; (first | refine Ow.pu rfl (Pu.build (ps := [(0, .const (vi 3)), (1, .tmp 74)]) (vs := [vi 3, vi t]) (cs := (It.mk 3 t 0 0 0 0).cs) evA (fun w => by kernel_rfl)) ?_ | refine Ow.pu rfl (Pu.build (ps := [(0, .const (vi 3)), (1, .tmp 69)]) (vs := [vi 3, vi t]) (cs := (It.mk 3 t 0 0 0 0).cs) evA (fun w => by kernel_rfl)) ?_ | refine Ow.pu rfl (Pu.build (ps := [(0, .const (vi 1)), (1, .tmp 64)]) (vs := [vi 1, vi t]) (cs := (It.mk 1 t 0 0 0 0).cs) evA (fun w => by kernel_rfl)) ?_ | refine Ow.pu rfl (Pu.build (ps := [(0, .const (vi 1)), (1, .tmp 60)]) (vs := [vi 1, vi t]) (cs := (It.mk 1 t 0 0 0 0).cs) evA (fun w => by kernel_rfl)) ?_ | refine Ow.pu rfl (Pu.fld0 rfl) ?_ | refine Ow.nil ?_ | refine Ow.pu rfl (Pu.move rfl) ?_ | (refine Ow.kBin ?_; (first | (refine Ow.b_add ?_; refine Ow.pu rfl (Pu.add_i rfl rfl (by omega)) ?_))))) | (refine Cw.is ?_; (first | refine Cw.seq ?_ | refine Cw.region ?_ | refine Cw.cond_t rfl rfl ?_ | refine Cw.cond_f rfl rfl ?_ | refine Cw.block ?_ | refine Cw.ret ?_ | refine Cw.exit ?_ | refine Cw.skip ?_)) | (first | refine thenQ_n ?_ | refine thenQ_r ?_ | refine thenQ_e ?_ | refine blockQ_n ?_ | refine blockQ_e ?_)))
          exact ⟨rfl, ⟨j + 1, (doG pa.1 pa.2 q sa ⟨1, t, 0, 0, 0, 0⟩ false).1, (doG pb.1 pb.2 q sb ⟨1, t, 0, 0, 0, 0⟩ false).1⟩, ⟨by simp only; omega, hka.1, hkb.1, (abs_do hab _ pa pb).1, by simp only; omega, by
            simp only [hgp]
            split <;> omega, fun i hi => by
              simp only
              rw [doG_other pa.1 pa.2 q sa ⟨1, t, 0, 0, 0, 0⟩ false (by omega) (by simp only; omega)]
              exact hno i hi⟩, by simp only; omega, by (repeat first | exact trivial | refine ⟨rfl, ?_⟩), by ((try simp only [star_assoc]); (repeat (apply Ent.pk; exact pkA)); first | exact Ent.fin pkA | exact Ent.refl _)⟩
      · have hp0 : phT (thOf sa t) = 0 := by omega
        have hgd := Do_fn hK ga q sa ⟨3, t, 0, 0, 0, 0⟩ false hoka (by omega) hq8
        have hrd := rDo_fn mb q sb ⟨3, t, 0, 0, 0, 0⟩ false hokb (by omega) hq8
        have hex := fun pa : SV × Nat => ex_none pa.1 pa.2 t false hoka (by omega) hp0
        clear hph
        (repeat' (first | (refine Ow.is ?_; (first | refine Ow.pu rfl (Pu.build (ps := [(0, .const (vi 3)), (1, .tmp 74)]) (vs := [vi 3, vi t]) (cs := (It.mk 3 t 0 0 0 0).cs) evA (fun w => by kernel_rfl)) ?_ | refine Ow.pu rfl (Pu.build (ps := [(0, .const (vi 3)), (1, .tmp 69)]) (vs := [vi 3, vi t]) (cs := (It.mk 3 t 0 0 0 0).cs) evA (fun w => by kernel_rfl)) ?_ | refine Ow.pu rfl (Pu.build (ps := [(0, .const (vi 1)), (1, .tmp 64)]) (vs := [vi 1, vi t]) (cs := (It.mk 1 t 0 0 0 0).cs) evA (fun w => by kernel_rfl)) ?_ | refine Ow.pu rfl (Pu.build (ps := [(0, .const (vi 1)), (1, .tmp 60)]) (vs := [vi 1, vi t]) (cs := (It.mk 1 t 0 0 0 0).cs) evA (fun w => by kernel_rfl)) ?_ | refine Ow.pu rfl (Pu.fld0 rfl) ?_ | refine Ow.nil ?_ | (refine Ow.kBin ?_; (first | (refine Ow.b_lss ?_; first | refine Ow.pu rfl (Pu.lt_t rfl rfl (by omega)) ?_ | refine Ow.pu rfl (Pu.lt_f rfl rfl (by omega)) ?_ | refine Ow.sp rfl (by exact Pu.lt rfl rfl) (fun hc => ?_) (fun hc => ?_)))))) | (refine Cw.is ?_; (first | refine Cw.seq ?_ | refine Cw.region ?_ | refine Cw.cond_t rfl rfl ?_ | refine Cw.cond_f rfl rfl ?_ | refine Cw.block ?_ | refine Cw.ret ?_ | refine Cw.exit ?_ | refine Cw.skip ?_)) | (first | refine thenQ_n ?_ | refine thenQ_r ?_ | refine thenQ_e ?_ | refine blockQ_n ?_ | refine blockQ_e ?_)))
        (repeat' (first | (refine Ow.is ?_; (first | refine Ow.pu rfl (Pu.build (ps := [(0, .const (vi 3)), (1, .tmp 74)]) (vs := [vi 3, vi t]) (cs := (It.mk 3 t 0 0 0 0).cs) evA (fun w => by kernel_rfl)) ?_ | refine Ow.pu rfl (Pu.build (ps := [(0, .const (vi 3)), (1, .tmp 69)]) (vs := [vi 3, vi t]) (cs := (It.mk 3 t 0 0 0 0).cs) evA (fun w => by kernel_rfl)) ?_ | refine Ow.pu rfl (Pu.build (ps := [(0, .const (vi 1)), (1, .tmp 64)]) (vs := [vi 1, vi t]) (cs := (It.mk 1 t 0 0 0 0).cs) evA (fun w => by kernel_rfl)) ?_ | refine Ow.pu rfl (Pu.build (ps := [(0, .const (vi 1)), (1, .tmp 60)]) (vs := [vi 1, vi t]) (cs := (It.mk 1 t 0 0 0 0).cs) evA (fun w => by kernel_rfl)) ?_ | refine Ow.pu rfl (Pu.fld0 rfl) ?_ | refine Ow.nil ?_ | refine Ow.pu rfl (Pu.move rfl) ?_ | (refine Ow.kStore ?_; (first | refine Ow.storeN rfl rfl rfl rfl rfl pkA rfl ?_)) | (refine Ow.kCall ?_; (first | refine Ow.callE evA (pk2' pkA pkA) rfl hgd (fun pa => Ow.assoc ?_) | fail)) | refine Ow.alloc rfl (fun bx => ?_))) | (refine Cw.is ?_; (first | refine Cw.seq ?_ | refine Cw.region ?_ | refine Cw.cond_t rfl rfl ?_ | refine Cw.cond_f rfl rfl ?_ | refine Cw.block ?_ | refine Cw.ret ?_ | refine Cw.exit ?_ | refine Cw.skip ?_)) | (first | refine thenQ_n ?_ | refine thenQ_r ?_ | refine thenQ_e ?_ | refine blockQ_n ?_ | refine blockQ_e ?_)))
        (repeat' (first | (refine Ow.is ?_; (first | refine Ow.pu rfl (Pu.build (ps := [(0, .const (vi 3)), (1, .tmp 74)]) (vs := [vi 3, vi t]) (cs := (It.mk 3 t 0 0 0 0).cs) evA (fun w => by kernel_rfl)) ?_ | refine Ow.pu rfl (Pu.build (ps := [(0, .const (vi 3)), (1, .tmp 69)]) (vs := [vi 3, vi t]) (cs := (It.mk 3 t 0 0 0 0).cs) evA (fun w => by kernel_rfl)) ?_ | refine Ow.pu rfl (Pu.build (ps := [(0, .const (vi 1)), (1, .tmp 64)]) (vs := [vi 1, vi t]) (cs := (It.mk 1 t 0 0 0 0).cs) evA (fun w => by kernel_rfl)) ?_ | refine Ow.pu rfl (Pu.build (ps := [(0, .const (vi 1)), (1, .tmp 60)]) (vs := [vi 1, vi t]) (cs := (It.mk 1 t 0 0 0 0).cs) evA (fun w => by kernel_rfl)) ?_ | refine Ow.pu rfl (Pu.fld0 rfl) ?_ | refine Ow.nil ?_ | refine Ow.pu rfl (Pu.move rfl) ?_ | refine Ow.pu rfl (Pu.assign rfl) ?_ | refine Ow.pu rfl (Pu.extract rfl rfl) ?_ | (refine Ow.kCall ?_; (first | refine Ow.callE evA pkA rfl hrd (fun pb => ?_) | fail)))) | (refine Cw.is ?_; (first | refine Cw.seq ?_ | refine Cw.region ?_ | refine Cw.cond_t rfl rfl ?_ | refine Cw.cond_f rfl rfl ?_ | refine Cw.block ?_ | refine Cw.ret ?_ | refine Cw.exit ?_ | refine Cw.skip ?_)) | (first | refine thenQ_n ?_ | refine thenQ_r ?_ | refine thenQ_e ?_ | refine blockQ_n ?_ | refine blockQ_e ?_)))
        have hka := doG_ok pa.1 pa.2 ⟨3, t, 0, 0, 0, 0⟩ false hoka hq8
        have hkb := doG_ok pb.1 pb.2 ⟨3, t, 0, 0, 0, 0⟩ false hokb hq8
        obtain ⟨hab', h22⟩ := abs_do hab ⟨3, t, 0, 0, 0, 0⟩ pa pb
        have hen := hex pa
        have hot := fun (i : Nat) (hi : i < 4) (h : (i : Int) ≠ t) => doG_other pa.1 pa.2 q sa ⟨3, t, 0, 0, 0, 0⟩ false (j := i) (by omega) h
        rw [h22]
        obtain ⟨⟨sb', e, v⟩, hev⟩ : ∃ r, doG pb.1 pb.2 q sb ⟨3, t, 0, 0, 0, 0⟩ false = r := ⟨_, rfl⟩
        rw [hev] at hkb hab' ⊢
        dsimp only at hkb hab' ⊢
        (repeat' (first | (refine Ow.is ?_; (first | refine Ow.pu rfl (Pu.build (ps := [(0, .const (vi 3)), (1, .tmp 74)]) (vs := [vi 3, vi t]) (cs := (It.mk 3 t 0 0 0 0).cs) evA (fun w => by kernel_rfl)) ?_ | refine Ow.pu rfl (Pu.build (ps := [(0, .const (vi 3)), (1, .tmp 69)]) (vs := [vi 3, vi t]) (cs := (It.mk 3 t 0 0 0 0).cs) evA (fun w => by kernel_rfl)) ?_ | refine Ow.pu rfl (Pu.build (ps := [(0, .const (vi 1)), (1, .tmp 64)]) (vs := [vi 1, vi t]) (cs := (It.mk 1 t 0 0 0 0).cs) evA (fun w => by kernel_rfl)) ?_ | refine Ow.pu rfl (Pu.build (ps := [(0, .const (vi 1)), (1, .tmp 60)]) (vs := [vi 1, vi t]) (cs := (It.mk 1 t 0 0 0 0).cs) evA (fun w => by kernel_rfl)) ?_ | refine Ow.pu rfl (Pu.fld rfl) ?_ | refine Ow.pu rfl (Pu.fld0 rfl) ?_ | refine Ow.nil ?_ | refine Ow.pu rfl (Pu.move rfl) ?_ | refine Ow.pu rfl (Pu.fld rfl) ?_ | (refine Ow.kLoad ?_; (first | refine Ow.pu rfl (Pu.load_cl rfl pkA hgv) ?_ | refine Ow.pu rfl (Pu.load_slk (j := k) rfl pkA hbl) ?_ | refine Ow.pu rfl (Pu.loadN_std rfl pkA (by omega) hx) ?_ | refine Ow.pu rfl (Pu.load_cl rfl pkA rfl) ?_ | refine Ow.pu rfl (Pu.load_sli rfl pkA (by first | omega | (simp only [List.length_set, List.length_append, List.length_replicate, List.length_cons, List.length_nil]; omega))) ?_)) | (refine Ow.kBin ?_; (first | (refine Ow.b_neq ?_; (first | refine Ow.pu rfl (Pu.ne_t rfl rfl odA) ?_ | refine Ow.pu rfl (Pu.ne_f rfl rfl roA) ?_ | refine Ow.sp rfl (by exact Pu.neI rfl rfl) (fun hc => ?_) (fun hc => ?_) | refine Ow.pu rfl (Pu.neB_same rfl rfl) ?_)))))) | (refine Cw.is ?_; (first | refine Cw.seq ?_ | refine Cw.region ?_ | refine Cw.cond_t rfl rfl ?_ | refine Cw.cond_f rfl rfl ?_ | refine Cw.block ?_ | refine Cw.ret ?_ | refine Cw.exit ?_ | refine Cw.skip ?_)) | (first | refine thenQ_n ?_ | refine thenQ_r ?_ | refine thenQ_e ?_ | refine blockQ_n ?_ | refine blockQ_e ?_)))
        (repeat' (first | (refine Ow.is ?_; (first | refine Ow.pu rfl (Pu.build (ps := [(0, .const (vi 3)), (1, .tmp 74)]) (vs := [vi 3, vi t]) (cs := (It.mk 3 t 0 0 0 0).cs) evA (fun w => by kernel_rfl)) ?_ | refine Ow.pu rfl (Pu.build (ps := [(0, .const (vi 3)), (1, .tmp 69)]) (vs := [vi 3, vi t]) (cs := (It.mk 3 t 0 0 0 0).cs) evA (fun w => by kernel_rfl)) ?_ | refine Ow.pu rfl (Pu.build (ps := [(0, .const (vi 1)), (1, .tmp 64)]) (vs := [vi 1, vi t]) (cs := (It.mk 1 t 0 0 0 0).cs) evA (fun w => by kernel_rfl)) ?_ | refine Ow.pu rfl (Pu.build (ps := [(0, .const (vi 1)), (1, .tmp 60)]) (vs := [vi 1, vi t]) (cs := (It.mk 1 t 0 0 0 0).cs) evA (fun w => by kernel_rfl)) ?_ | refine Ow.pu rfl (Pu.fld0 rfl) ?_ | refine Ow.nil ?_ | refine Ow.pu rfl (Pu.move rfl) ?_ | (refine Ow.kBin ?_; (first | (refine Ow.b_add ?_; refine Ow.pu rfl (Pu.add_i rfl rfl (by omega)) ?_))))) | (refine Cw.is ?_; (first | refine Cw.seq ?_ | refine Cw.region ?_ | refine Cw.cond_t rfl rfl ?_ | refine Cw.cond_f rfl rfl ?_ | refine Cw.block ?_ | refine Cw.ret ?_ | refine Cw.exit ?_ | refine Cw.skip ?_)) | (first | refine thenQ_n ?_ | refine thenQ_r ?_ | refine thenQ_e ?_ | refine blockQ_n ?_ | refine blockQ_e ?_)))
        exact ⟨rfl, ⟨t + 1, (doG pa.1 pa.2 q sa ⟨3, t, 0, 0, 0, 0⟩ false).1, sb'⟩, ⟨by simp only; omega, hka.1, hkb.1, hab', by simp only; omega, fun i hi => by
          simp only at hi ⊢
          by_cases e1 : (i : Int) = t
          · rw [show i = t.toNat by omega]; exact hen
          · rw [hot i (by omega) e1]; exact hno i (by omega)⟩, by simp only; omega, by (repeat first | exact trivial | refine ⟨rfl, ?_⟩), by ((try simp only [star_assoc]); (repeat (apply Ent.pk; exact pkA)); first | exact Ent.fin pkA | exact Ent.refl _)⟩
    · obtain rfl : t = 4 := by omega
      clear ht ht4
      have hlb := abs_len hab
      have hroot := none_roots hoka.tl (fun j hj => hno j (by omega))
      obtain ⟨hl1, hr1, hb1, hg1⟩ := reach_abs hab
      have hany := rch_any hokb.oko
      have hsup := rchB_sup hokb.oko
      have hgr := Reach_fn ga q sa hoka hq8 (by omega)
      have hrr := rReach_fn mb q sb hokb hq8 (by omega)
      rw [hl1, hb1] at hgr
      have hroot2 : rootsG sb = sb.G := by rw [← hr1, hroot, hg1]
      have hT := hokb.tl
      have hO : sb.O.length ≤ 900000 := by omega
      have hGl : sb.G.length ≤ 1000 := by have := hokb.gl; have := hq8.gl; omega
      obtain ⟨V, hV⟩ : ∃ V, rchB sb.O (rootsG sb) = V := ⟨_, rfl⟩
      obtain ⟨n, hn⟩ : ∃ n, sb.O.length + 1 = n := ⟨_, rfl⟩
      rw [hroot2] at hany
      rw [hroot2] at hV hsup
      rw [hroot2, hV, hn] at hgr hrr
      rw [hV, hn] at hany hsup
      have hn9 : n ≤ 1000000 := by omega
      clear hno hroot hr1 hb1 hla
      (repeat' (first | (refine Ow.is ?_; (first | refine Ow.pu rfl (Pu.build (ps := [(0, .const (vi 3)), (1, .tmp 74)]) (vs := [vi 3, vi t]) (cs := (It.mk 3 t 0 0 0 0).cs) evA (fun w => by kernel_rfl)) ?_ | refine Ow.pu rfl (Pu.build (ps := [(0, .const (vi 3)), (1, .tmp 69)]) (vs := [vi 3, vi t]) (cs := (It.mk 3 t 0 0 0 0).cs) evA (fun w => by kernel_rfl)) ?_ | refine Ow.pu rfl (Pu.build (ps := [(0, .const (vi 1)), (1, .tmp 64)]) (vs := [vi 1, vi t]) (cs := (It.mk 1 t 0 0 0 0).cs) evA (fun w => by kernel_rfl)) ?_ | refine Ow.pu rfl (Pu.build (ps := [(0, .const (vi 1)), (1, .tmp 60)]) (vs := [vi 1, vi t]) (cs := (It.mk 1 t 0 0 0 0).cs) evA (fun w => by kernel_rfl)) ?_ | refine Ow.pu rfl (Pu.fld0 rfl) ?_ | refine Ow.nil ?_ | (refine Ow.kBin ?_; (first | (refine Ow.b_lss ?_; first | refine Ow.pu rfl (Pu.lt_t rfl rfl (by omega)) ?_ | refine Ow.pu rfl (Pu.lt_f rfl rfl (by omega)) ?_ | refine Ow.sp rfl (by exact Pu.lt rfl rfl) (fun hc => ?_) (fun hc => ?_)))))) | (refine Cw.is ?_; (first | refine Cw.seq ?_ | refine Cw.region ?_ | refine Cw.cond_t rfl rfl ?_ | refine Cw.cond_f rfl rfl ?_ | refine Cw.block ?_ | refine Cw.ret ?_ | refine Cw.exit ?_ | refine Cw.skip ?_)) | (first | refine thenQ_n ?_ | refine thenQ_r ?_ | refine thenQ_e ?_ | refine blockQ_n ?_ | refine blockQ_e ?_)))
      (repeat' (first | (refine Ow.is ?_; (first | refine Ow.pu rfl (Pu.build (ps := [(0, .const (vi 3)), (1, .tmp 74)]) (vs := [vi 3, vi t]) (cs := (It.mk 3 t 0 0 0 0).cs) evA (fun w => by kernel_rfl)) ?_ | refine Ow.pu rfl (Pu.build (ps := [(0, .const (vi 3)), (1, .tmp 69)]) (vs := [vi 3, vi t]) (cs := (It.mk 3 t 0 0 0 0).cs) evA (fun w => by kernel_rfl)) ?_ | refine Ow.pu rfl (Pu.build (ps := [(0, .const (vi 1)), (1, .tmp 64)]) (vs := [vi 1, vi t]) (cs := (It.mk 1 t 0 0 0 0).cs) evA (fun w => by kernel_rfl)) ?_ | refine Ow.pu rfl (Pu.build (ps := [(0, .const (vi 1)), (1, .tmp 60)]) (vs := [vi 1, vi t]) (cs := (It.mk 1 t 0 0 0 0).cs) evA (fun w => by kernel_rfl)) ?_ | refine Ow.pu rfl (Pu.fld0 rfl) ?_ | refine Ow.nil ?_ | refine Ow.pu rfl (Pu.move rfl) ?_ | refine Ow.pu rfl (Pu.assign rfl) ?_ | (refine Ow.kBuiltin ?_; (first | refine Ow.pu rfl (Pu.len_bl rfl pkA) ?_ | refine Ow.pu rfl (Pu.len_st rfl pkA) ?_ | refine Ow.pu rfl (Pu.len_slm rfl pkA) ?_ | refine Ow.pu rfl (Pu.len rfl) ?_)) | (refine Ow.kCall ?_; (first | refine Ow.callE evA pkA rfl hrr (fun ov => Ow.assoc ?_) | refine Ow.callE evA pkA rfl hgr (fun wb => Ow.assoc ?_) | fail)))) | (refine Cw.is ?_; (first | refine Cw.seq ?_ | refine Cw.region ?_ | refine Cw.cond_t rfl rfl ?_ | refine Cw.cond_f rfl rfl ?_ | refine Cw.block ?_ | refine Cw.ret ?_ | refine Cw.exit ?_ | refine Cw.skip ?_)) | (first | refine thenQ_n ?_ | refine thenQ_r ?_ | refine thenQ_e ?_ | refine blockQ_n ?_ | refine blockQ_e ?_)))
      refine Cw.loopF [4, 16, 17, 89, 90, 91, 92, 93, 94, 95, 96, 97, 98, 99] (by (repeat first | exact er_nil | apply er_drop rfl | apply er_keep rfl)) (fun k : Nat => k ≤ n) (fun k => [(89, vi k)])
        (fun k => slk 1 ov.v (bl n V) * (rgh mb q sb * (bset wb n V * (gph ga q sa * (A * F))))) (fun k => n - k) 0 (by omega) (by (repeat first | exact trivial | refine ⟨rfl, ?_⟩)) (by ((try simp only [star_assoc]); (repeat (apply Ent.pk; exact pkA)); first | exact Ent.fin pkA | exact Ent.refl _)) (fun k hk => ?_)
      by_cases hkn : k < n
      · cases hVk : V k
        all_goals have hbl := bl_get hkn hVk
        all_goals have hhas := Has_v wb n V hn9 k hkn hVk
        all_goals (repeat' (first | (refine Ow.is ?_; (first | refine Ow.pu rfl (Pu.build (ps := [(0, .const (vi 3)), (1, .tmp 74)]) (vs := [vi 3, vi t]) (cs := (It.mk 3 t 0 0 0 0).cs) evA (fun w => by kernel_rfl)) ?_ | refine Ow.pu rfl (Pu.build (ps := [(0, .const (vi 3)), (1, .tmp 69)]) (vs := [vi 3, vi t]) (cs := (It.mk 3 t 0 0 0 0).cs) evA (fun w => by kernel_rfl)) ?_ | refine Ow.pu rfl (Pu.build (ps := [(0, .const (vi 1)), (1, .tmp 64)]) (vs := [vi 1, vi t]) (cs := (It.mk 1 t 0 0 0 0).cs) evA (fun w => by kernel_rfl)) ?_ | refine Ow.pu rfl (Pu.build (ps := [(0, .const (vi 1)), (1, .tmp 60)]) (vs := [vi 1, vi t]) (cs := (It.mk 1 t 0 0 0 0).cs) evA (fun w => by kernel_rfl)) ?_ | refine Ow.pu rfl (Pu.fld0 rfl) ?_ | refine Ow.nil ?_ | refine Ow.pu rfl (Pu.move rfl) ?_ | refine Ow.pu rfl (Pu.assign rfl) ?_ | (refine Ow.kLoad ?_; (first | refine Ow.pu rfl (Pu.load_cl rfl pkA hgv) ?_ | refine Ow.pu rfl (Pu.load_slk (j := k) rfl pkA hbl) ?_ | refine Ow.pu rfl (Pu.loadN_std rfl pkA (by omega) hx) ?_ | refine Ow.pu rfl (Pu.load_cl rfl pkA rfl) ?_ | refine Ow.pu rfl (Pu.load_sli rfl pkA (by first | omega | (simp only [List.length_set, List.length_append, List.length_replicate, List.length_cons, List.length_nil]; omega))) ?_)) | (refine Ow.kBin ?_; (first | (refine Ow.b_lss ?_; first | refine Ow.pu rfl (Pu.lt_t rfl rfl (by omega)) ?_ | refine Ow.pu rfl (Pu.lt_f rfl rfl (by omega)) ?_ | refine Ow.sp rfl (by exact Pu.lt rfl rfl) (fun hc => ?_) (fun hc => ?_)) | (refine Ow.b_neq ?_; (first | refine Ow.pu rfl (Pu.neB_same rfl rfl) ?_)))) | (refine Ow.kIdx ?_; (first | refine Ow.pu rfl (Pu.idx_sl rfl rfl pkA (by rw [bl_len]; omega)) ?_ | refine Ow.pu rfl (Pu.idx_stn rfl rfl pkA (by omega)) ?_ | refine Ow.pu rfl (Pu.idx_sln rfl rfl pkA (by simp only [List.length_map, List.length_append, List.length_set, List.length_replicate, List.length_cons, List.length_nil]; omega)) ?_ | refine Ow.pu rfl (Pu.idx_sl rfl rfl pkA (by simp only [List.length_map, List.length_append, List.length_set, List.length_replicate, List.length_cons, List.length_nil]; omega)) ?_)) | (refine Ow.kCall ?_; (first | refine Ow.callE evA pkA rfl hhas (fun _ => ?_) | fail)))) | (refine Cw.is ?_; (first | refine Cw.seq ?_ | refine Cw.region ?_ | refine Cw.cond_t rfl rfl ?_ | refine Cw.cond_f rfl rfl ?_ | refine Cw.block ?_ | refine Cw.ret ?_ | refine Cw.exit ?_ | refine Cw.skip ?_)) | (first | refine thenQ_n ?_ | refine thenQ_r ?_ | refine thenQ_e ?_ | refine blockQ_n ?_ | refine blockQ_e ?_)))
        all_goals (repeat' (first | (refine Ow.is ?_; (first | refine Ow.pu rfl (Pu.build (ps := [(0, .const (vi 3)), (1, .tmp 74)]) (vs := [vi 3, vi t]) (cs := (It.mk 3 t 0 0 0 0).cs) evA (fun w => by kernel_rfl)) ?_ | refine Ow.pu rfl (Pu.build (ps := [(0, .const (vi 3)), (1, .tmp 69)]) (vs := [vi 3, vi t]) (cs := (It.mk 3 t 0 0 0 0).cs) evA (fun w => by kernel_rfl)) ?_ | refine Ow.pu rfl (Pu.build (ps := [(0, .const (vi 1)), (1, .tmp 64)]) (vs := [vi 1, vi t]) (cs := (It.mk 1 t 0 0 0 0).cs) evA (fun w => by kernel_rfl)) ?_ | refine Ow.pu rfl (Pu.build (ps := [(0, .const (vi 1)), (1, .tmp 60)]) (vs := [vi 1, vi t]) (cs := (It.mk 1 t 0 0 0 0).cs) evA (fun w => by kernel_rfl)) ?_ | refine Ow.pu rfl (Pu.fld0 rfl) ?_ | refine Ow.nil ?_ | refine Ow.pu rfl (Pu.move rfl) ?_ | (refine Ow.kBin ?_; (first | (refine Ow.b_add ?_; refine Ow.pu rfl (Pu.add_i rfl rfl (by omega)) ?_))))) | (refine Cw.is ?_; (first | refine Cw.seq ?_ | refine Cw.region ?_ | refine Cw.cond_t rfl rfl ?_ | refine Cw.cond_f rfl rfl ?_ | refine Cw.block ?_ | refine Cw.ret ?_ | refine Cw.exit ?_ | refine Cw.skip ?_)) | (first | refine thenQ_n ?_ | refine thenQ_r ?_ | refine thenQ_e ?_ | refine blockQ_n ?_ | refine blockQ_e ?_)))
        all_goals exact ⟨rfl, k + 1, by omega, by omega, by (repeat first | exact trivial | refine ⟨rfl, ?_⟩), by ((try simp only [star_assoc]); (repeat (apply Ent.pk; exact pkA)); first | exact Ent.fin pkA | exact Ent.refl _)⟩
      · (repeat' (first | (refine Ow.is ?_; (first | refine Ow.pu rfl (Pu.build (ps := [(0, .const (vi 3)), (1, .tmp 74)]) (vs := [vi 3, vi t]) (cs := (It.mk 3 t 0 0 0 0).cs) evA (fun w => by kernel_rfl)) ?_ | refine Ow.pu rfl (Pu.build (ps := [(0, .const (vi 3)), (1, .tmp 69)]) (vs := [vi 3, vi t]) (cs := (It.mk 3 t 0 0 0 0).cs) evA (fun w => by kernel_rfl)) ?_ | refine Ow.pu rfl (Pu.build (ps := [(0, .const (vi 1)), (1, .tmp 64)]) (vs := [vi 1, vi t]) (cs := (It.mk 1 t 0 0 0 0).cs) evA (fun w => by kernel_rfl)) ?_ | refine Ow.pu rfl (Pu.build (ps := [(0, .const (vi 1)), (1, .tmp 60)]) (vs := [vi 1, vi t]) (cs := (It.mk 1 t 0 0 0 0).cs) evA (fun w => by kernel_rfl)) ?_ | refine Ow.pu rfl (Pu.fld0 rfl) ?_ | refine Ow.nil ?_ | (refine Ow.kBin ?_; (first | (refine Ow.b_lss ?_; first | refine Ow.pu rfl (Pu.lt_t rfl rfl (by omega)) ?_ | refine Ow.pu rfl (Pu.lt_f rfl rfl (by omega)) ?_ | refine Ow.sp rfl (by exact Pu.lt rfl rfl) (fun hc => ?_) (fun hc => ?_)))))) | (refine Cw.is ?_; (first | refine Cw.seq ?_ | refine Cw.region ?_ | refine Cw.cond_t rfl rfl ?_ | refine Cw.cond_f rfl rfl ?_ | refine Cw.block ?_ | refine Cw.ret ?_ | refine Cw.exit ?_ | refine Cw.skip ?_)) | (first | refine thenQ_n ?_ | refine thenQ_r ?_ | refine thenQ_e ?_ | refine blockQ_n ?_ | refine blockQ_e ?_)))
        (repeat' (first | (refine Ow.is ?_; (first | refine Ow.pu rfl (Pu.build (ps := [(0, .const (vi 3)), (1, .tmp 74)]) (vs := [vi 3, vi t]) (cs := (It.mk 3 t 0 0 0 0).cs) evA (fun w => by kernel_rfl)) ?_ | refine Ow.pu rfl (Pu.build (ps := [(0, .const (vi 3)), (1, .tmp 69)]) (vs := [vi 3, vi t]) (cs := (It.mk 3 t 0 0 0 0).cs) evA (fun w => by kernel_rfl)) ?_ | refine Ow.pu rfl (Pu.build (ps := [(0, .const (vi 1)), (1, .tmp 64)]) (vs := [vi 1, vi t]) (cs := (It.mk 1 t 0 0 0 0).cs) evA (fun w => by kernel_rfl)) ?_ | refine Ow.pu rfl (Pu.build (ps := [(0, .const (vi 1)), (1, .tmp 60)]) (vs := [vi 1, vi t]) (cs := (It.mk 1 t 0 0 0 0).cs) evA (fun w => by kernel_rfl)) ?_ | refine Ow.pu rfl (Pu.fld0 rfl) ?_ | refine Ow.nil ?_ | refine Ow.pu rfl (Pu.assign rfl) ?_)) | (refine Cw.is ?_; (first | refine Cw.seq ?_ | refine Cw.region ?_ | refine Cw.cond_t rfl rfl ?_ | refine Cw.cond_f rfl rfl ?_ | refine Cw.block ?_ | refine Cw.ret ?_ | refine Cw.exit ?_ | refine Cw.skip ?_)) | (first | refine thenQ_n ?_ | refine thenQ_r ?_ | refine thenQ_e ?_ | refine blockQ_n ?_ | refine blockQ_e ?_)))
        refine Ow.pkd (A := rgh mb q sb) pkA ?_
        refine Ow.opn (rgh_ex mb q sb) (fun y => ?_)
        obtain ⟨tv, gv⟩ := y
        dsimp only
        (refine Ow.heq (by simp only [star_assoc, emp_star, star_emp]; exact rfl) ?_)
        have hgv : (q.cs ++ (tv.v :: (sb.T.map tpO ++ [gv.v])))[0 + 16]? = some gv.v := by
          have h4 : (sb.T.map tpO).length = 4 := by simpa using hT
          match sb.T.map tpO, h4 with
          | [p0, p1, p2, p3], _ => rfl
        (repeat' (first | (refine Ow.is ?_; (first | refine Ow.pu rfl (Pu.build (ps := [(0, .const (vi 3)), (1, .tmp 74)]) (vs := [vi 3, vi t]) (cs := (It.mk 3 t 0 0 0 0).cs) evA (fun w => by kernel_rfl)) ?_ | refine Ow.pu rfl (Pu.build (ps := [(0, .const (vi 3)), (1, .tmp 69)]) (vs := [vi 3, vi t]) (cs := (It.mk 3 t 0 0 0 0).cs) evA (fun w => by kernel_rfl)) ?_ | refine Ow.pu rfl (Pu.build (ps := [(0, .const (vi 1)), (1, .tmp 64)]) (vs := [vi 1, vi t]) (cs := (It.mk 1 t 0 0 0 0).cs) evA (fun w => by kernel_rfl)) ?_ | refine Ow.pu rfl (Pu.build (ps := [(0, .const (vi 1)), (1, .tmp 60)]) (vs := [vi 1, vi t]) (cs := (It.mk 1 t 0 0 0 0).cs) evA (fun w => by kernel_rfl)) ?_ | refine Ow.pu rfl (Pu.fld rfl) ?_ | refine Ow.pu rfl (Pu.fld0 rfl) ?_ | refine Ow.nil ?_ | refine Ow.pu rfl (Pu.move rfl) ?_ | refine Ow.pu rfl (Pu.assign rfl) ?_ | refine Ow.pu rfl (Pu.fld rfl) ?_ | refine Ow.pu rfl (Pu.nilCheck rfl) ?_ | (refine Ow.kLoad ?_; (first | refine Ow.pu rfl (Pu.load_cl rfl pkA hgv) ?_ | refine Ow.pu rfl (Pu.load_slk (j := k) rfl pkA hbl) ?_ | refine Ow.pu rfl (Pu.loadN_std rfl pkA (by omega) hx) ?_ | refine Ow.pu rfl (Pu.load_cl rfl pkA rfl) ?_ | refine Ow.pu rfl (Pu.load_sli rfl pkA (by first | omega | (simp only [List.length_set, List.length_append, List.length_replicate, List.length_cons, List.length_nil]; omega))) ?_)) | (refine Ow.kBuiltin ?_; (first | refine Ow.pu rfl (Pu.len_bl rfl pkA) ?_ | refine Ow.pu rfl (Pu.len_st rfl pkA) ?_ | refine Ow.pu rfl (Pu.len_slm rfl pkA) ?_ | refine Ow.pu rfl (Pu.len rfl) ?_)))) | (refine Cw.is ?_; (first | refine Cw.seq ?_ | refine Cw.region ?_ | refine Cw.cond_t rfl rfl ?_ | refine Cw.cond_f rfl rfl ?_ | refine Cw.block ?_ | refine Cw.ret ?_ | refine Cw.exit ?_ | refine Cw.skip ?_)) | (first | refine thenQ_n ?_ | refine thenQ_r ?_ | refine thenQ_e ?_ | refine blockQ_n ?_ | refine blockQ_e ?_)))
        refine Cw.loopF [18, 20, 105, 106, 107, 108, 109, 110, 111, 112, 113, 114] (by (repeat first | exact er_nil | apply er_drop rfl | apply er_keep rfl)) (fun z : Nat × Bool => z.1 ≤ sb.G.length ∧ anyN (sb.G.take z.1) = z.2) (fun z => [(105, vi z.1), (18, .bool z.2)])
          (fun z => slk 1 gv.v (sb.G.map vi) * (bset wb n V * (A * F))) (fun z => sb.G.length - z.1) (0, false) ⟨by simp, by unfold anyN; rfl⟩ (by (repeat first | exact trivial | refine ⟨rfl, ?_⟩)) (by ((try simp only [star_assoc]); (repeat (apply Ent.pk; exact pkA)); first | exact Ent.fin pkA | exact Ent.refl _)) (fun z hz => ?_)
        obtain ⟨j, g⟩ := z
        obtain ⟨hj, hg⟩ := hz
        simp only at hj hg ⊢
        by_cases hjl : j < sb.G.length
        · have hst := anyN_step (l := sb.G) (j := j) hjl
          rw [hg] at hst
          cases g with
          | true =>
            rw [Bool.true_or] at hst
            (repeat' (first | (refine Ow.is ?_; (first | refine Ow.pu rfl (Pu.build (ps := [(0, .const (vi 3)), (1, .tmp 74)]) (vs := [vi 3, vi t]) (cs := (It.mk 3 t 0 0 0 0).cs) evA (fun w => by kernel_rfl)) ?_ | refine Ow.pu rfl (Pu.build (ps := [(0, .const (vi 3)), (1, .tmp 69)]) (vs := [vi 3, vi t]) (cs := (It.mk 3 t 0 0 0 0).cs) evA (fun w => by kernel_rfl)) ?_ | refine Ow.pu rfl (Pu.build (ps := [(0, .const (vi 1)), (1, .tmp 64)]) (vs := [vi 1, vi t]) (cs := (It.mk 1 t 0 0 0 0).cs) evA (fun w => by kernel_rfl)) ?_ | refine Ow.pu rfl (Pu.build (ps := [(0, .const (vi 1)), (1, .tmp 60)]) (vs := [vi 1, vi t]) (cs := (It.mk 1 t 0 0 0 0).cs) evA (fun w => by kernel_rfl)) ?_ | refine Ow.pu rfl (Pu.fld0 rfl) ?_ | refine Ow.nil ?_ | refine Ow.pu rfl (Pu.move rfl) ?_ | refine Ow.pu rfl (Pu.assign rfl) ?_ | (refine Ow.kGuard ?_; (first | refine Ow.guard_yes rfl rfl rfl ?_ | refine Ow.guard_no rfl rfl rfl rfl ?_)) | (refine Ow.kLoad ?_; (first | refine Ow.pu rfl (Pu.load_cl rfl pkA hgv) ?_ | refine Ow.pu rfl (Pu.load_slk (j := k) rfl pkA hbl) ?_ | refine Ow.pu rfl (Pu.loadN_std rfl pkA (by omega) hx) ?_ | refine Ow.pu rfl (Pu.load_cl rfl pkA rfl) ?_ | refine Ow.pu rfl (Pu.load_sli rfl pkA (by first | omega | (simp only [List.length_set, List.length_append, List.length_replicate, List.length_cons, List.length_nil]; omega))) ?_)) | (refine Ow.kBin ?_; (first | (refine Ow.b_lss ?_; first | refine Ow.pu rfl (Pu.lt_t rfl rfl (by omega)) ?_ | refine Ow.pu rfl (Pu.lt_f rfl rfl (by omega)) ?_ | refine Ow.sp rfl (by exact Pu.lt rfl rfl) (fun hc => ?_) (fun hc => ?_)) | (refine Ow.b_neq ?_; (first | refine Ow.pu rfl (Pu.ne_t rfl rfl odA) ?_ | refine Ow.pu rfl (Pu.ne_f rfl rfl roA) ?_ | refine Ow.sp rfl (by exact Pu.neI rfl rfl) (fun hc => ?_) (fun hc => ?_) | refine Ow.pu rfl (Pu.neB_same rfl rfl) ?_)) | (refine Ow.b_add ?_; refine Ow.pu rfl (Pu.add_i rfl rfl (by omega)) ?_))) | (refine Ow.kPick ?_; (first | refine Ow.pu rfl (Pu.pick_t rfl rfl) ?_ | refine Ow.pu rfl (Pu.pick_f rfl rfl) ?_)) | (refine Ow.kIdx ?_; (first | refine Ow.pu rfl (Pu.idx_sl rfl rfl pkA (by rw [bl_len]; omega)) ?_ | refine Ow.pu rfl (Pu.idx_stn rfl rfl pkA (by omega)) ?_ | refine Ow.pu rfl (Pu.idx_sln rfl rfl pkA (by simp only [List.length_map, List.length_append, List.length_set, List.length_replicate, List.length_cons, List.length_nil]; omega)) ?_ | refine Ow.pu rfl (Pu.idx_sl rfl rfl pkA (by simp only [List.length_map, List.length_append, List.length_set, List.length_replicate, List.length_cons, List.length_nil]; omega)) ?_)))) | (refine Cw.is ?_; (first | refine Cw.seq ?_ | refine Cw.region ?_ | refine Cw.cond_t rfl rfl ?_ | refine Cw.cond_f rfl rfl ?_ | refine Cw.block ?_ | refine Cw.ret ?_ | refine Cw.exit ?_ | refine Cw.skip ?_)) | (first | refine thenQ_n ?_ | refine thenQ_r ?_ | refine thenQ_e ?_ | refine blockQ_n ?_ | refine blockQ_e ?_)))
            exact ⟨rfl, (j + 1, true), ⟨by simp only; omega, hst⟩, by simp only; omega, by (repeat first | exact trivial | refine ⟨rfl, ?_⟩), by ((try simp only [star_assoc]); (repeat (apply Ent.pk; exact pkA)); first | exact Ent.fin pkA | exact Ent.refl _)⟩
          | false =>
            rw [Bool.false_or] at hst
            by_cases hz : sb.G[j]! = 0
            · rw [decide_eq_false (fun h => h hz)] at hst
              (repeat' (first | (refine Ow.is ?_; (first | refine Ow.pu rfl (Pu.build (ps := [(0, .const (vi 3)), (1, .tmp 74)]) (vs := [vi 3, vi t]) (cs := (It.mk 3 t 0 0 0 0).cs) evA (fun w => by kernel_rfl)) ?_ | refine Ow.pu rfl (Pu.build (ps := [(0, .const (vi 3)), (1, .tmp 69)]) (vs := [vi 3, vi t]) (cs := (It.mk 3 t 0 0 0 0).cs) evA (fun w => by kernel_rfl)) ?_ | refine Ow.pu rfl (Pu.build (ps := [(0, .const (vi 1)), (1, .tmp 64)]) (vs := [vi 1, vi t]) (cs := (It.mk 1 t 0 0 0 0).cs) evA (fun w => by kernel_rfl)) ?_ | refine Ow.pu rfl (Pu.build (ps := [(0, .const (vi 1)), (1, .tmp 60)]) (vs := [vi 1, vi t]) (cs := (It.mk 1 t 0 0 0 0).cs) evA (fun w => by kernel_rfl)) ?_ | refine Ow.pu rfl (Pu.fld0 rfl) ?_ | refine Ow.nil ?_ | refine Ow.pu rfl (Pu.move rfl) ?_ | refine Ow.pu rfl (Pu.assign rfl) ?_ | (refine Ow.kGuard ?_; (first | refine Ow.guard_yes rfl rfl rfl ?_ | refine Ow.guard_no rfl rfl rfl rfl ?_)) | (refine Ow.kLoad ?_; (first | refine Ow.pu rfl (Pu.load_cl rfl pkA hgv) ?_ | refine Ow.pu rfl (Pu.load_slk (j := k) rfl pkA hbl) ?_ | refine Ow.pu rfl (Pu.loadN_std rfl pkA (by omega) hx) ?_ | refine Ow.pu rfl (Pu.load_cl rfl pkA rfl) ?_ | refine Ow.pu rfl (Pu.load_sli rfl pkA (by first | omega | (simp only [List.length_set, List.length_append, List.length_replicate, List.length_cons, List.length_nil]; omega))) ?_)) | (refine Ow.kBin ?_; (first | (refine Ow.b_lss ?_; first | refine Ow.pu rfl (Pu.lt_t rfl rfl (by omega)) ?_ | refine Ow.pu rfl (Pu.lt_f rfl rfl (by omega)) ?_ | refine Ow.sp rfl (by exact Pu.lt rfl rfl) (fun hc => ?_) (fun hc => ?_)) | (refine Ow.b_neq ?_; (first | refine Ow.pu rfl (Pu.ne_t rfl rfl odA) ?_ | refine Ow.pu rfl (Pu.ne_f rfl rfl roA) ?_ | refine Ow.sp rfl (by exact Pu.neI rfl rfl) (fun hc => ?_) (fun hc => ?_) | refine Ow.pu rfl (Pu.neB_same rfl rfl) ?_)) | (refine Ow.b_add ?_; refine Ow.pu rfl (Pu.add_i rfl rfl (by omega)) ?_))) | (refine Ow.kPick ?_; (first | refine Ow.pu rfl (Pu.pick_t rfl rfl) ?_ | refine Ow.pu rfl (Pu.pick_f rfl rfl) ?_)) | (refine Ow.kIdx ?_; (first | refine Ow.pu rfl (Pu.idx_sl rfl rfl pkA (by rw [bl_len]; omega)) ?_ | refine Ow.pu rfl (Pu.idx_stn rfl rfl pkA (by omega)) ?_ | refine Ow.pu rfl (Pu.idx_sln rfl rfl pkA (by simp only [List.length_map, List.length_append, List.length_set, List.length_replicate, List.length_cons, List.length_nil]; omega)) ?_ | refine Ow.pu rfl (Pu.idx_sl rfl rfl pkA (by simp only [List.length_map, List.length_append, List.length_set, List.length_replicate, List.length_cons, List.length_nil]; omega)) ?_)))) | (refine Cw.is ?_; (first | refine Cw.seq ?_ | refine Cw.region ?_ | refine Cw.cond_t rfl rfl ?_ | refine Cw.cond_f rfl rfl ?_ | refine Cw.block ?_ | refine Cw.ret ?_ | refine Cw.exit ?_ | refine Cw.skip ?_)) | (first | refine thenQ_n ?_ | refine thenQ_r ?_ | refine thenQ_e ?_ | refine blockQ_n ?_ | refine blockQ_e ?_)))
              exact ⟨rfl, (j + 1, false), ⟨by simp only; omega, hst⟩, by simp only; omega, by (repeat first | exact trivial | refine ⟨rfl, ?_⟩), by ((try simp only [star_assoc]); (repeat (apply Ent.pk; exact pkA)); first | exact Ent.fin pkA | exact Ent.refl _)⟩
            · rw [decide_eq_true hz] at hst
              (repeat' (first | (refine Ow.is ?_; (first | refine Ow.pu rfl (Pu.build (ps := [(0, .const (vi 3)), (1, .tmp 74)]) (vs := [vi 3, vi t]) (cs := (It.mk 3 t 0 0 0 0).cs) evA (fun w => by kernel_rfl)) ?_ | refine Ow.pu rfl (Pu.build (ps := [(0, .const (vi 3)), (1, .tmp 69)]) (vs := [vi 3, vi t]) (cs := (It.mk 3 t 0 0 0 0).cs) evA (fun w => by kernel_rfl)) ?_ | refine Ow.pu rfl (Pu.build (ps := [(0, .const (vi 1)), (1, .tmp 64)]) (vs := [vi 1, vi t]) (cs := (It.mk 1 t 0 0 0 0).cs) evA (fun w => by kernel_rfl)) ?_ | refine Ow.pu rfl (Pu.build (ps := [(0, .const (vi 1)), (1, .tmp 60)]) (vs := [vi 1, vi t]) (cs := (It.mk 1 t 0 0 0 0).cs) evA (fun w => by kernel_rfl)) ?_ | refine Ow.pu rfl (Pu.fld0 rfl) ?_ | refine Ow.nil ?_ | refine Ow.pu rfl (Pu.move rfl) ?_ | refine Ow.pu rfl (Pu.assign rfl) ?_ | (refine Ow.kGuard ?_; (first | refine Ow.guard_yes rfl rfl rfl ?_ | refine Ow.guard_no rfl rfl rfl rfl ?_)) | (refine Ow.kLoad ?_; (first | refine Ow.pu rfl (Pu.load_cl rfl pkA hgv) ?_ | refine Ow.pu rfl (Pu.load_slk (j := k) rfl pkA hbl) ?_ | refine Ow.pu rfl (Pu.loadN_std rfl pkA (by omega) hx) ?_ | refine Ow.pu rfl (Pu.load_cl rfl pkA rfl) ?_ | refine Ow.pu rfl (Pu.load_sli rfl pkA (by first | omega | (simp only [List.length_set, List.length_append, List.length_replicate, List.length_cons, List.length_nil]; omega))) ?_)) | (refine Ow.kBin ?_; (first | (refine Ow.b_lss ?_; first | refine Ow.pu rfl (Pu.lt_t rfl rfl (by omega)) ?_ | refine Ow.pu rfl (Pu.lt_f rfl rfl (by omega)) ?_ | refine Ow.sp rfl (by exact Pu.lt rfl rfl) (fun hc => ?_) (fun hc => ?_)) | (refine Ow.b_neq ?_; (first | refine Ow.pu rfl (Pu.ne_t rfl rfl odA) ?_ | refine Ow.pu rfl (Pu.ne_f rfl rfl roA) ?_ | refine Ow.sp rfl (by exact Pu.neI rfl rfl) (fun hc => ?_) (fun hc => ?_) | refine Ow.pu rfl (Pu.neB_same rfl rfl) ?_)) | (refine Ow.b_add ?_; refine Ow.pu rfl (Pu.add_i rfl rfl (by omega)) ?_))) | (refine Ow.kPick ?_; (first | refine Ow.pu rfl (Pu.pick_t rfl rfl) ?_ | refine Ow.pu rfl (Pu.pick_f rfl rfl) ?_)) | (refine Ow.kIdx ?_; (first | refine Ow.pu rfl (Pu.idx_sl rfl rfl pkA (by rw [bl_len]; omega)) ?_ | refine Ow.pu rfl (Pu.idx_stn rfl rfl pkA (by omega)) ?_ | refine Ow.pu rfl (Pu.idx_sln rfl rfl pkA (by simp only [List.length_map, List.length_append, List.length_set, List.length_replicate, List.length_cons, List.length_nil]; omega)) ?_ | refine Ow.pu rfl (Pu.idx_sl rfl rfl pkA (by simp only [List.length_map, List.length_append, List.length_set, List.length_replicate, List.length_cons, List.length_nil]; omega)) ?_)))) | (refine Cw.is ?_; (first | refine Cw.seq ?_ | refine Cw.region ?_ | refine Cw.cond_t rfl rfl ?_ | refine Cw.cond_f rfl rfl ?_ | refine Cw.block ?_ | refine Cw.ret ?_ | refine Cw.exit ?_ | refine Cw.skip ?_)) | (first | refine thenQ_n ?_ | refine thenQ_r ?_ | refine thenQ_e ?_ | refine blockQ_n ?_ | refine blockQ_e ?_)))
              exact ⟨rfl, (j + 1, true), ⟨by simp only; omega, hst⟩, by simp only; omega, by (repeat first | exact trivial | refine ⟨rfl, ?_⟩), by ((try simp only [star_assoc]); (repeat (apply Ent.pk; exact pkA)); first | exact Ent.fin pkA | exact Ent.refl _)⟩
        · have hjG : sb.G.length ≤ j := by omega
          rw [List.take_of_length_le hjG] at hg
          obtain ⟨c, hc⟩ : ∃ c, cn V n = c := ⟨_, rfl⟩
          have hcn := Count_v wb n V hn9 hsup hc
          rw [hc] at hany
          cases g with
          | true =>
            have hc0 : 0 < c := hany.2 (anyN_t.1 hg)
            clear hany
            (repeat' (first | (refine Ow.is ?_; (first | refine Ow.pu rfl (Pu.build (ps := [(0, .const (vi 3)), (1, .tmp 74)]) (vs := [vi 3, vi t]) (cs := (It.mk 3 t 0 0 0 0).cs) evA (fun w => by kernel_rfl)) ?_ | refine Ow.pu rfl (Pu.build (ps := [(0, .const (vi 3)), (1, .tmp 69)]) (vs := [vi 3, vi t]) (cs := (It.mk 3 t 0 0 0 0).cs) evA (fun w => by kernel_rfl)) ?_ | refine Ow.pu rfl (Pu.build (ps := [(0, .const (vi 1)), (1, .tmp 64)]) (vs := [vi 1, vi t]) (cs := (It.mk 1 t 0 0 0 0).cs) evA (fun w => by kernel_rfl)) ?_ | refine Ow.pu rfl (Pu.build (ps := [(0, .const (vi 1)), (1, .tmp 60)]) (vs := [vi 1, vi t]) (cs := (It.mk 1 t 0 0 0 0).cs) evA (fun w => by kernel_rfl)) ?_ | refine Ow.pu rfl (Pu.fld0 rfl) ?_ | refine Ow.nil ?_ | (refine Ow.kBin ?_; (first | (refine Ow.b_lss ?_; first | refine Ow.pu rfl (Pu.lt_t rfl rfl (by omega)) ?_ | refine Ow.pu rfl (Pu.lt_f rfl rfl (by omega)) ?_ | refine Ow.sp rfl (by exact Pu.lt rfl rfl) (fun hc => ?_) (fun hc => ?_)))))) | (refine Cw.is ?_; (first | refine Cw.seq ?_ | refine Cw.region ?_ | refine Cw.cond_t rfl rfl ?_ | refine Cw.cond_f rfl rfl ?_ | refine Cw.block ?_ | refine Cw.ret ?_ | refine Cw.exit ?_ | refine Cw.skip ?_)) | (first | refine thenQ_n ?_ | refine thenQ_r ?_ | refine thenQ_e ?_ | refine blockQ_n ?_ | refine blockQ_e ?_)))
            (repeat' (first | (refine Ow.is ?_; (first | refine Ow.pu rfl (Pu.build (ps := [(0, .const (vi 3)), (1, .tmp 74)]) (vs := [vi 3, vi t]) (cs := (It.mk 3 t 0 0 0 0).cs) evA (fun w => by kernel_rfl)) ?_ | refine Ow.pu rfl (Pu.build (ps := [(0, .const (vi 3)), (1, .tmp 69)]) (vs := [vi 3, vi t]) (cs := (It.mk 3 t 0 0 0 0).cs) evA (fun w => by kernel_rfl)) ?_ | refine Ow.pu rfl (Pu.build (ps := [(0, .const (vi 1)), (1, .tmp 64)]) (vs := [vi 1, vi t]) (cs := (It.mk 1 t 0 0 0 0).cs) evA (fun w => by kernel_rfl)) ?_ | refine Ow.pu rfl (Pu.build (ps := [(0, .const (vi 1)), (1, .tmp 60)]) (vs := [vi 1, vi t]) (cs := (It.mk 1 t 0 0 0 0).cs) evA (fun w => by kernel_rfl)) ?_ | refine Ow.pu rfl (Pu.fld0 rfl) ?_ | refine Ow.nil ?_ | refine Ow.pu rfl (Pu.move rfl) ?_ | refine Ow.pu rfl (Pu.assign rfl) ?_ | (refine Ow.kBin ?_; (first | (refine Ow.b_gtr ?_; first | refine Ow.pu rfl (Pu.gt_t rfl rfl (by omega)) ?_ | refine Ow.pu rfl (Pu.gt_f rfl rfl (by omega)) ?_ | refine Ow.sp rfl (by exact Pu.gt rfl rfl) (fun hc => ?_) (fun hc => ?_)) | (refine Ow.b_eql ?_; (first | refine Ow.pu rfl (Pu.eqB_same rfl rfl) ?_)))) | (refine Ow.kCall ?_; (first | refine Ow.callE evA pkA rfl hcn (fun _ => ?_) | fail)))) | (refine Cw.is ?_; (first | refine Cw.seq ?_ | refine Cw.region ?_ | refine Cw.cond_t rfl rfl ?_ | refine Cw.cond_f rfl rfl ?_ | refine Cw.block ?_ | refine Cw.ret ?_ | refine Cw.exit ?_ | refine Cw.skip ?_)) | (first | refine thenQ_n ?_ | refine thenQ_r ?_ | refine thenQ_e ?_ | refine blockQ_n ?_ | refine blockQ_e ?_)))
            refine retQ_v () Tryd.results5 rfl rfl ?_; ((try simp only [star_assoc]); (repeat (apply Ent.pk; exact pkA)); first | exact Ent.fin pkA | exact Ent.refl _)
          | false =>
            have hc0 : c = 0 := by
              have h : ¬ 0 < c := fun h => by
                rw [anyN_t.2 (hany.1 h)] at hg; cases hg
              omega
            clear hany
            (repeat' (first | (refine Ow.is ?_; (first | refine Ow.pu rfl (Pu.build (ps := [(0, .const (vi 3)), (1, .tmp 74)]) (vs := [vi 3, vi t]) (cs := (It.mk 3 t 0 0 0 0).cs) evA (fun w => by kernel_rfl)) ?_ | refine Ow.pu rfl (Pu.build (ps := [(0, .const (vi 3)), (1, .tmp 69)]) (vs := [vi 3, vi t]) (cs := (It.mk 3 t 0 0 0 0).cs) evA (fun w => by kernel_rfl)) ?_ | refine Ow.pu rfl (Pu.build (ps := [(0, .const (vi 1)), (1, .tmp 64)]) (vs := [vi 1, vi t]) (cs := (It.mk 1 t 0 0 0 0).cs) evA (fun w => by kernel_rfl)) ?_ | refine Ow.pu rfl (Pu.build (ps := [(0, .const (vi 1)), (1, .tmp 60)]) (vs := [vi 1, vi t]) (cs := (It.mk 1 t 0 0 0 0).cs) evA (fun w => by kernel_rfl)) ?_ | refine Ow.pu rfl (Pu.fld0 rfl) ?_ | refine Ow.nil ?_ | (refine Ow.kBin ?_; (first | (refine Ow.b_lss ?_; first | refine Ow.pu rfl (Pu.lt_t rfl rfl (by omega)) ?_ | refine Ow.pu rfl (Pu.lt_f rfl rfl (by omega)) ?_ | refine Ow.sp rfl (by exact Pu.lt rfl rfl) (fun hc => ?_) (fun hc => ?_)))))) | (refine Cw.is ?_; (first | refine Cw.seq ?_ | refine Cw.region ?_ | refine Cw.cond_t rfl rfl ?_ | refine Cw.cond_f rfl rfl ?_ | refine Cw.block ?_ | refine Cw.ret ?_ | refine Cw.exit ?_ | refine Cw.skip ?_)) | (first | refine thenQ_n ?_ | refine thenQ_r ?_ | refine thenQ_e ?_ | refine blockQ_n ?_ | refine blockQ_e ?_)))
            (repeat' (first | (refine Ow.is ?_; (first | refine Ow.pu rfl (Pu.build (ps := [(0, .const (vi 3)), (1, .tmp 74)]) (vs := [vi 3, vi t]) (cs := (It.mk 3 t 0 0 0 0).cs) evA (fun w => by kernel_rfl)) ?_ | refine Ow.pu rfl (Pu.build (ps := [(0, .const (vi 3)), (1, .tmp 69)]) (vs := [vi 3, vi t]) (cs := (It.mk 3 t 0 0 0 0).cs) evA (fun w => by kernel_rfl)) ?_ | refine Ow.pu rfl (Pu.build (ps := [(0, .const (vi 1)), (1, .tmp 64)]) (vs := [vi 1, vi t]) (cs := (It.mk 1 t 0 0 0 0).cs) evA (fun w => by kernel_rfl)) ?_ | refine Ow.pu rfl (Pu.build (ps := [(0, .const (vi 1)), (1, .tmp 60)]) (vs := [vi 1, vi t]) (cs := (It.mk 1 t 0 0 0 0).cs) evA (fun w => by kernel_rfl)) ?_ | refine Ow.pu rfl (Pu.fld0 rfl) ?_ | refine Ow.nil ?_ | refine Ow.pu rfl (Pu.move rfl) ?_ | refine Ow.pu rfl (Pu.assign rfl) ?_ | (refine Ow.kBin ?_; (first | (refine Ow.b_gtr ?_; first | refine Ow.pu rfl (Pu.gt_t rfl rfl (by omega)) ?_ | refine Ow.pu rfl (Pu.gt_f rfl rfl (by omega)) ?_ | refine Ow.sp rfl (by exact Pu.gt rfl rfl) (fun hc => ?_) (fun hc => ?_)) | (refine Ow.b_eql ?_; (first | refine Ow.pu rfl (Pu.eqB_same rfl rfl) ?_)))) | (refine Ow.kCall ?_; (first | refine Ow.callE evA pkA rfl hcn (fun _ => ?_) | fail)))) | (refine Cw.is ?_; (first | refine Cw.seq ?_ | refine Cw.region ?_ | refine Cw.cond_t rfl rfl ?_ | refine Cw.cond_f rfl rfl ?_ | refine Cw.block ?_ | refine Cw.ret ?_ | refine Cw.exit ?_ | refine Cw.skip ?_)) | (first | refine thenQ_n ?_ | refine thenQ_r ?_ | refine thenQ_e ?_ | refine blockQ_n ?_ | refine blockQ_e ?_)))
            refine retQ_v () Tryd.results5 rfl rfl ?_; ((try simp only [star_assoc]); (repeat (apply Ent.pk; exact pkA)); first | exact Ent.fin pkA | exact Ent.refl _)
end Go.Sl
namespace Go.Sl
open Go Go.Proofs Go.ChangeShapes Go.WideShapes Go.ChangeAt Go.RowKit
set_option linter.unusedVariables false
theorem wf64 {n : Int} (h : (Lit.int .i64 n).wf = true) : i64 n := by simpa [i64, Lit.wf, IntKind.min, IntKind.max, IntKind.signed, IntKind.bits] using h
set_option maxRecDepth 10000 in
theorem step_trod {H : Type} {enc : TypeId × Value → H} {W : World} {held : Bool} (n : Nat) (cs : List Value) (y : DataW H × List MemPlace) (h : DataW.trod enc Tryd.prog W 0 (fun _ => true) held n 77 cs = some y) : ∃ (a0 : Int) (a1 : Int) (a2 : Int) (a3 : Int) (a4 : Int) (a5 : Int) (a6 : Int), cs = [.int .u8 a0, .int .u8 a1, .int .u8 a2, .int .u8 a3, .int .u8 a4, .int .u8 a5, .int .i64 a6] ∧ y.1 = .agg [.lit (.int .u8 a0), .lit (.int .u8 a1), .lit (.int .u8 a2), .lit (.int .u8 a3), .lit (.int .u8 a4), .lit (.int .u8 a5), .lit (.int .i64 a6)] ∧ (Lit.int .u8 a0).wf = true ∧ (Lit.int .u8 a1).wf = true ∧ (Lit.int .u8 a2).wf = true ∧ (Lit.int .u8 a3).wf = true ∧ (Lit.int .u8 a4).wf = true ∧ (Lit.int .u8 a5).wf = true ∧ (Lit.int .i64 a6).wf = true := by
  obtain ⟨xs, m, _, hy, hl, hlen, hf⟩ := DataW.trod_struct Tryd.underlying77 h
  have hc : Tryd.prog.cellsOf 77 = 7 := by kernel_rfl
  have hx : xs.length = 7 := hlen
  have e3 : Tryd.prog.cellsOf 3 = 1 := by kernel_rfl
  have e5 : Tryd.prog.cellsOf 5 = 1 := by kernel_rfl
  rw [hc] at hl
  match cs, hl, xs, hx with
  | [u0, u1, u2, u3, u4, u5, u6], _, [x0, x1, x2, x3, x4, x5, x6], _ =>
    have h0 : DataW.trod enc Tryd.prog W 0 (fun _ => true) held m 5 (List.take (Tryd.prog.cellsOf 5) (List.drop (0) [u0, u1, u2, u3, u4, u5, u6])) = some x0 := hf 0 _ rfl
    have h1 : DataW.trod enc Tryd.prog W 0 (fun _ => true) held m 5 (List.take (Tryd.prog.cellsOf 5) (List.drop (1) [u0, u1, u2, u3, u4, u5, u6])) = some x1 := hf 1 _ rfl
    have h2 : DataW.trod enc Tryd.prog W 0 (fun _ => true) held m 5 (List.take (Tryd.prog.cellsOf 5) (List.drop (2) [u0, u1, u2, u3, u4, u5, u6])) = some x2 := hf 2 _ rfl
    have h3 : DataW.trod enc Tryd.prog W 0 (fun _ => true) held m 5 (List.take (Tryd.prog.cellsOf 5) (List.drop (3) [u0, u1, u2, u3, u4, u5, u6])) = some x3 := hf 3 _ rfl
    have h4 : DataW.trod enc Tryd.prog W 0 (fun _ => true) held m 5 (List.take (Tryd.prog.cellsOf 5) (List.drop (4) [u0, u1, u2, u3, u4, u5, u6])) = some x4 := hf 4 _ rfl
    have h5 : DataW.trod enc Tryd.prog W 0 (fun _ => true) held m 5 (List.take (Tryd.prog.cellsOf 5) (List.drop (5) [u0, u1, u2, u3, u4, u5, u6])) = some x5 := hf 5 _ rfl
    have h6 : DataW.trod enc Tryd.prog W 0 (fun _ => true) held m 3 (List.take (Tryd.prog.cellsOf 3) (List.drop (6) [u0, u1, u2, u3, u4, u5, u6])) = some x6 := hf 6 _ rfl
    rw [e5] at h0
    rw [e5] at h1
    rw [e5] at h2
    rw [e5] at h3
    rw [e5] at h4
    rw [e5] at h5
    rw [e3] at h6
    obtain ⟨a0, c0, d0, w0⟩ := DataW.trod_int Tryd.underlying5 h0
    obtain ⟨a1, c1, d1, w1⟩ := DataW.trod_int Tryd.underlying5 h1
    obtain ⟨a2, c2, d2, w2⟩ := DataW.trod_int Tryd.underlying5 h2
    obtain ⟨a3, c3, d3, w3⟩ := DataW.trod_int Tryd.underlying5 h3
    obtain ⟨a4, c4, d4, w4⟩ := DataW.trod_int Tryd.underlying5 h4
    obtain ⟨a5, c5, d5, w5⟩ := DataW.trod_int Tryd.underlying5 h5
    obtain ⟨a6, c6, d6, w6⟩ := DataW.trod_int Tryd.underlying3 h6
    simp at c0 c1 c2 c3 c4 c5 c6
    refine ⟨a0, a1, a2, a3, a4, a5, a6, by rw [c0, c1, c2, c3, c4, c5, c6], ?_, w0, w1, w2, w3, w4, w5, w6⟩
    rw [hy, d0, d1, d2, d3, d4, d5, d6]; rfl
theorem wf8 {n : Int} (h : (Lit.int .u8 n).wf = true) : b8 n := by simpa [b8, Lit.wf, IntKind.min, IntKind.max, IntKind.signed, IntKind.bits] using h
theorem st_trod {H : Type} {enc : TypeId × Value → H} {W : World} {held : Bool} (n : Nat) (cs : List Value) (y : DataW H × List MemPlace) (h : DataW.trod enc Tryd.prog W 0 (fun _ => true) held n 77 cs = some y) : ∃ x : Stp, StOk x ∧ cs = x.cs := by
  obtain ⟨k, t, c, x, y', z, w, rfl, _, w0, w1, w2, w3, w4, w5, w6⟩ := step_trod _ _ _ h
  exact ⟨⟨k, t, c, x, y', z, w⟩, ⟨wf8 w0, wf8 w1, wf8 w2, wf8 w3, wf8 w4, wf8 w5, wf64 w6⟩, rfl⟩
end Go.Sl
namespace Go.Sl
open Go Go.ChangeShapes Go.WideShapes Go.ChangeAt Go.RowKit
set_option linter.unusedVariables false
variable {H : Type} {enc : TypeId × Value → H} {P : Program} {W : World} {t e : TypeId} {v : Value} {d : DataW H} {p : List MemPlace}
end Go.Sl
namespace Go.Proofs.YteomgcebbjoklaaDoor.graphExits
open Go.ChangeShapes Go.WideShapes Go.ChangeAt Go.RowKit Go.Sl
set_option linter.unusedVariables false
abbrev w1 : Array Value := #[.agg #[.int .u8 0, .int .u8 0, .int .u8 0, .int .u8 0, .int .u8 0, .int .u8 0], .slice none 0 0]
theorem reads (os : Os) {H : Type} (enc : TypeId × Value → H) : ∃ ds places, DataW.whole enc Tryd.prog ((laidWorld os).forCall (fun _ _ => 0) ⟨#[], w1, []⟩).memory Tryd.f5.params.toList Rows.graphExitsSpec.vars false w1.toList 8 = some (ds, [], places) :=
  ⟨[.agg [.lit (.int .u8 0), .lit (.int .u8 0), .lit (.int .u8 0), .lit (.int .u8 0), .lit (.int .u8 0), .lit (.int .u8 0)], .nil], [], by kernel_rfl⟩
set_option maxRecDepth 100000 in
theorem lifted (os : Os) (started : os.Started) (H : Type) (enc : TypeId × Value → H) (F : Stop.Interp) :
    ReturnsInHanded {} Tryd.checked os 5 .any ((OpenSpec.ofChange Rows.graphExitsSpec).preRow enc Tryd.prog Tryd.f5 Rows.graphExitsRow.domain false Rows.graphExitsRow.laid) (((OpenSpec.ofChange Rows.graphExitsSpec).at F).post enc Tryd.prog Tryd.f5 false true false false) := by
  obtain ⟨ds, places, hx⟩ := reads os enc
  refine law_laid (C := Tryd.checked) own started (by kernel_rfl) Tryd.func5 laidOut (by kernel_rfl) rfl Tryd.underlying4 rfl (fun ds h => ?_)
    (witness_row_atRef (enc := enc) (C := Tryd.checked) false (laidWorld os) w1 rfl (by kernel_rfl) (by kernel_rfl) (by kernel_rfl)
      (OpenSpec.preRow_of_cond 8 hx (by kernel_rfl) (fun k hk => by cases hk) (by kernel_rfl) (laid_met os _))) (fun W base vs ds p hL hsz hval hA => ?_)
  · rw [Tryd.params5] at h
    match ds, h with
    | [d0, d1], _ => rfl
  · rw [Tryd.params5] at hA hval hsz
    obtain ⟨gb, go, gc, hK⟩ := kinds_of hL
    obtain ⟨v0, vs0, d0, ds0, p0, q0, rfl, rfl, rfl, h0, r0⟩ := trodAll_cons hA
    obtain ⟨v1, vs1, d1, ds1, p1, q1, rfl, rfl, rfl, h1, r1⟩ := trodAll_cons r0
    obtain ⟨rfl, rfl, rfl⟩ := trodAll_nil r1
    obtain ⟨cs0, n0, rfl, t0⟩ := open_agg (.inr ⟨_, _, Tryd.underlying22⟩) (hval 0 _ v0 rfl rfl) h0
    obtain ⟨l0, l1, l2, l3, l4, l5, rfl, _, wl0, wl1, wl2, wl3, wl4, wl5⟩ := l6_trod _ _ _ t0
    obtain ⟨au, cu, lu, rfl, hlu, hrou, hwu, hnu, hnilu, hcapu⟩ := ro_slice0 (s := 7) (dc := Stp.cs) (I := StOk) Tryd.underlying38 (by kernel_rfl) (fun _ => rfl) (st_trod) (hval 1 _ v1 rfl rfl) h1
    have hbu : Tryd.checked.prog.bytesOf 77 = 16 := by kernel_rfl
    have zu := hnu.sized hsz (j := 1) rfl rfl Tryd.underlying38
    rw [hbu] at zu
    exact ⟨Unit, _, GraphExits_fn hK l0 l1 l2 l3 l4 l5 (wf_u8 wl0) (wf_u8 wl1) (wf_u8 wl2) (wf_u8 wl3) (wf_u8 wl4) (wf_u8 wl5) au cu lu (by omega) hrou hwu, fun _ => Ent.refl _⟩
theorem said : Rows.GraphExitsSaid :=
  OpenClaim.holds_of_cond 5 Tryd.f5 rfl rfl rfl rfl rfl rfl rfl ⟨rfl, rfl, rfl, rfl, rfl⟩ rfl rfl rfl rfl rfl (by kernel_rfl) Tryd.func5 (by kernel_rfl)
    (of_decide_eq_true (by kernel_rfl)) (by unfold Func.isWrapper; first | (rw [if_pos (by decide +kernel)]; kernel_rfl) | (rw [if_neg (by decide +kernel)]; exact ⟨rfl, rfl⟩))
    (fun os started H enc _ F => by rw [OpenClaim.pre_eq_preRow]; exact lifted os started H enc F)
theorem plain (f : FuncId) (fn : Func) (hf : Tryd.pinned.checked.prog.funcNamed "hawthorn/hawthornlaw20.GraphExits" = some f) (hfn : Tryd.pinned.checked.prog.funcs[f]? = some fn) :
    false = Tryd.pinned.checked.prog.looks [] ∧ ∀ (j : Nat) t, fn.params[j]? = some t → Tryd.pinned.checked.prog.wantsStandIn t = false := by
  obtain rfl : f = 5 := Option.some.inj ((show Tryd.prog.funcNamed "hawthorn/hawthornlaw20.GraphExits" = some 5 by kernel_rfl).symm.trans hf) |>.symm
  obtain rfl : fn = Tryd.f5 := (Option.some.inj (Tryd.func5.symm.trans hfn)).symm
  refine ⟨by kernel_rfl, fun j t ht => ?_⟩
  rw [Tryd.params5] at ht
  have : t ∈ (#[22, 38] : Array TypeId) := Array.mem_of_getElem? ht
  have hall : ((#[22, 38] : Array TypeId).all fun t => !Tryd.prog.wantsStandIn t) = true := by kernel_rfl
  have h2 := Array.all_eq_true'.1 hall t this
  have h3 : Tryd.prog.wantsStandIn t = false := by simpa using h2
  exact h3
end Go.Proofs.YteomgcebbjoklaaDoor.graphExits
namespace Go.Proofs.YteomgcebbjoklaaDoor
open Go.Sl
theorem graphExits_proved : Rows.GraphExitsCardSaid :=
  Claim7.holds_tied_plain_at .later [] _ _ _ _ graphExits.said (fun _ h => by cases h) (by kernel_rfl) (fun _ h => by cases h) graphExits_row_tie rfl ⟨rfl, rfl⟩ (by kernel_rfl) rfl graphExits.plain (by kernel_rfl)
#print axioms graphExits_proved
end Go.Proofs.YteomgcebbjoklaaDoor
