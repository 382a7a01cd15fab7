/- Ranging over a function that wants to be called with a loop's own yield. -/
import Derived.Test.YteomgcebbjoklaaSlM
namespace Go.Sl
open Go
set_option linter.unusedVariables false
universe u
section
variable {P : Program} {r : Option Nat} {n : Nat} {Q : PostT} {ρ : Env} {ds : List Deferred} {H R A F : HP} {all rest : List Oper} {d : Option Nat} {t : TypeId} {pos : String} {aft : Array Edge} {ts : Array TypeId} {x : Operand}
theorem Cw.rangeY {ι : Type} {g : Operand} {gf : FuncId} {caps : List Value} {ps : List Nat} {assign body : Code} {xs : ι → List Value} {A B : ι → HP} {J : ι → Exit → Prop} {S : ι → Exit → HP} {PS : ι → HP} {Pre Post : HP}
    (hit : ∀ (l : Nat) (L : HP) (X : ι → HP), (∀ i, Yc P (.func (.yield l) #[] #[]) (xs i) (A i * L) (fun c => bif c then B i * L else X i)) → Fn P gf (.func (.yield l) #[] #[] :: caps) (Pre * L) (Option ι) (fun _ => .tuple #[]) (itPost (Post * L) (fun i => PS i * X i)))
    (hg : ev ρ g = some (.func (.func gf) #[] caps.toArray)) (hps : ps.all (fun p => Nat.blt p n) = true) (hxs : ∀ i, (xs i).length = ps.length) (hp : Ent H (Pre * F))
    (hbody : ∀ (i : ι) (F1 G : HP) (l : Nat) (rec : Loop), Cw P (some l) n assign (thenQ (fun ρ' ds' H' => ∃ H2, Ent H' (H2 * F1) ∧
      Cw P (some l) n body (rdQ (B i * (pt l (.loop rec) * G)) (J i) (fun e => S i e * (pt l (.loop rec) * G))) ρ' ds' (H2 * (pt l (.loop rec) * G))) nilQ) (rdE ps (xs i) ρ) [] (A i * F1))
    (hdone : ∀ D, Q .normal ρ (mk D :: ds) (Post * (pt D (.deferred (some [])) * F)))
    (hstop : ∀ D i e, J i e → Q e ρ (mk D :: ds) (PS i * (S i e * (pt D (.deferred (some [])) * F)))) :
    Cw P none n (.rangeFunc g ps.toArray assign body) Q ρ ds H := by
  intro gh w a hrep hds hs
  replace hs := hs.mono hp
  subst hds
  refine wpIn_rangeFunc ?_
  intro fn hfn
  obtain ⟨rec, hrec⟩ : ∃ rec : LoopState → Option Code → Loop, rec = fun st pe => { state := st, pending := pe, fn, tmps := a.tmps, params := ps.toArray, assign, body, defers := w.heap.size } := ⟨_, rfl⟩
  obtain ⟨D, hD⟩ : ∃ D, D = w.heap.size := ⟨_, rfl⟩
  obtain ⟨l, hl⟩ : ∃ l, l = D + 1 := ⟨_, rfl⟩
  obtain ⟨W1, hW1⟩ : ∃ W1, (w.alloc (.deferred (some []))).alloc (.loop (rec .ready none)) = W1 := ⟨_, rfl⟩
  have hs1 : St gh W1 (pt l (.loop (rec .ready none)) * (pt D (.deferred (some [])) * (Pre * F))) := by
    have h2 := (hs.alloc (.deferred (some []))).alloc (.loop (rec .ready none))
    have e : ({ w with heap := w.heap.push (.deferred (some [])) } : World).heap.size = l := by rw [hl, hD]; simp
    rw [e, ← hD] at h2
    rw [← hW1]; exact h2
  let L : HP := pt l (.loop (rec .ready none)) * pt D (.deferred (some []))
  let X : ι → HP := fun i => Sl.ex fun e : Exit => Sl.lift (J i e ∧ (jumpOf e).isSome = true) * (S i e * (pt l (.loop (rec .done (jumpOf e))) * pt D (.deferred (some []))))
  have hyc : ∀ i, Yc P (.func (.yield l) #[] #[]) (xs i) (A i * L) (fun c => bif c then B i * L else X i) := fun i => Yc.of_round (fun g' w' F' hst => by
    have hst1 : St g' w' (pt l (.loop (rec .ready none)) * (A i * (pt D (.deferred (some [])) * F'))) := by
      simp only [L, star_assoc] at hst
      rw [star_left_comm]; exact hst
    have hy := run_yield (P := P) (args := (xs i).toArray) hst1.get (by rw [hrec]; simp [hxs i])
    rw [hrec] at hy
    refine ⟨fn, _, assign, body, hy, roundIn_of_wpIn hfn ?_⟩
    have hrep' : Rep n (rdE ps (xs i) ρ) { tmps := (ps.toArray.zip (xs i).toArray).foldl (fun tmps (t, a) => tmps.setIfInBounds t a) a.tmps, defers := [] } := by
      have := rep_rdE (n := n) (ds := []) ps (xs i) ρ a.tmps hps ⟨hrep.1, hrep.2⟩
      simpa [List.zip_toArray] using this
    have hst2 : St g' w' (A i * (pt l (.loop (rec .ready none)) * (pt D (.deferred (some [])) * F'))) := by rw [star_left_comm]; exact hst1
    have hb := hbody i (pt l (.loop (rec .ready none)) * (pt D (.deferred (some [])) * F')) (pt D (.deferred (some [])) * F') l (rec .busy none)
    refine wpIn_mono (hb g' w' _ hrep' rfl hst2) ?_
    rintro e a1 w1 ⟨ρ1, H1, hr1, hs1, hq1⟩
    cases e with
    | normal =>
      obtain ⟨H2, hent, hcw⟩ := hq1
      have hs2 := hs1.mono hent
      rw [star_left_comm] at hs2
      refine ⟨_, run_beginRound hs2.get (by rw [hrec]), ?_⟩
      have hs3 : St g' (w1.putObj l (.loop { rec .ready none with state := .busy })) (H2 * (pt l (.loop (rec .busy none)) * (pt D (.deferred (some [])) * F'))) := by
        rw [star_left_comm]
        have e : (rec .busy none) = { rec .ready none with state := .busy } := by rw [hrec]
        rw [e]
        refine hs2.put rfl rfl ?_ ?_
        · simp [World.putObj, hs2.lt]
        · intro i hi; simp [World.putObj, Array.getElem?_setIfInBounds_ne (Ne.symm hi)]
      refine wpIn_mono (hcw g' _ a1 hr1 rfl hs3) ?_
      have fin : ∀ (K : HP) (jump : Option Code) (W3 : World), St g' W3 (K * (pt l (.loop (rec .busy none)) * (pt D (.deferred (some [])) * F'))) →
          ∃ W4, (Instr.endRound l jump).run P W3 = .ok (.bool jump.isNone) W4 ∧ St g' W4 (K * (pt l (.loop (rec (if jump.isNone then .ready else .done) jump)) * (pt D (.deferred (some [])) * F'))) := fun K jump W3 hs4 => by
        rw [star_left_comm] at hs4
        have hr := run_endRound (P := P) jump hs4.get
        refine ⟨_, hr, ?_⟩
        rw [star_left_comm]
        have e : (rec (if jump.isNone then .ready else .done) jump) = { rec .busy none with state := if jump.isNone then .ready else .done, pending := jump } := by rw [hrec]
        rw [e]
        refine hs4.put rfl rfl ?_ ?_
        · simp [World.putObj, hs4.lt]
        · intro i hi; simp [World.putObj, Array.getElem?_setIfInBounds_ne (Ne.symm hi)]
      rintro e a3 W3 ⟨ρ3, H3, hr3, hs4, hq⟩
      rcases hq with ⟨rfl, hent3⟩ | ⟨hj, hjs, hent3⟩
      · obtain ⟨W4, h5, h6⟩ := fin (B i) none W3 (hs4.mono hent3)
        refine ⟨_, _, h5, true, rfl, ?_⟩
        simp only [L, cond_true, star_assoc]
        exact h6
      · have done : ∃ W4, (Instr.endRound l (jumpOf e)).run P W3 = .ok (.bool (jumpOf e).isNone) W4 ∧ St g' W4 (X i * F') := by
          obtain ⟨W4, h5, h6⟩ := fin (S i e) (jumpOf e) W3 (hs4.mono hent3)
          refine ⟨W4, h5, h6.mono ?_⟩
          have hn : (jumpOf e).isNone = false := by cases h : jumpOf e <;> simp_all
          rw [hn]
          simp only [X]
          rw [ex_star]
          refine Ent.trans ?_ (Ent.ex (A := fun e => Sl.lift (J i e ∧ (jumpOf e).isSome = true) * (S i e * (pt l (.loop (rec .done (jumpOf e))) * pt D (.deferred (some [])))) * F') e)
          simp only [star_assoc]
          exact Ent.lift ⟨hj, hjs⟩
        obtain ⟨W4, h5, h6⟩ := done
        cases e with
        | normal => simp [jumpOf] at hjs
        | ret => exact ⟨_, _, h5, false, rfl, h6⟩
        | exit id => exact ⟨_, _, h5, false, rfl, h6⟩
        | goto t => exact ⟨_, _, h5, false, rfl, h6⟩
        | panic ch => simp [jumpOf] at hjs
        | outgrown => simp [jumpOf] at hjs
    | ret => exact hq1.elim
    | exit id => exact hq1.elim
    | goto t => exact hq1.elim
    | panic ch => exact hq1.elim
    | outgrown => exact hq1.elim)
  have hfn2 := hit l L X hyc
  refine ⟨l, [mk D], W1, { target := .fn (.func gf) caps.toArray, args := #[.func (.yield l) #[] #[]] }, W1, gf, #[.func (.yield l) #[] #[]] ++ caps.toArray, W1, ?_, ?_, ?_, ?_, fun h => by simp [fen, Fence.wide] at h, ?_⟩
  · have h2 := run_enterLoop_outer (P := P) (w := w) fn a.tmps ps.toArray assign body
    rw [← hW1, hrec, hl, hD]; exact h2
  · simp only [resolve, ev_eval hrep hg]
    simp [go_sem]
  · intro f' hf'; trivial
  · simp [invoke, go_sem, hfn2.enters]
  · have hs2 : St gh W1 (Pre * L * F) := by
      simp only [L, star_assoc]
      have e : Pre * (pt l (.loop (rec .ready none)) * (pt D (.deferred (some [])) * F)) = pt l (.loop (rec .ready none)) * (pt D (.deferred (some [])) * (Pre * F)) := by
        rw [star_left_comm, star_left_comm Pre]
      rw [e]; exact hs1
    have hc := hfn2.calls gh F W1 hs2
    have hc' : CallsIn (fen none) (0 - 1) P gf (#[.func (.yield l) #[] #[]] ++ caps.toArray) W1 (fun e w' => ∃ o : Option ι, e = .returned (.tuple #[]) ∧ St gh w' (itPost (Post * L) (fun i => PS i * X i) o * F)) := by
      have e2 : (#[.func (.yield l) #[] #[]] ++ caps.toArray : Array Value) = (Value.func (.yield l) #[] #[] :: caps).toArray := by simp
      rw [e2]
      exact (callsIn_wide (n := 0 - 1)).2 hc
    refine hc'.mono ?_
    have fin : ∀ (K : HP) (st : LoopState) (jump : Option Code) (W3 : World), st ≠ .busy → St gh W3 (pt l (.loop (rec st jump)) * K) → ∃ W4, (Instr.endLoop l).run P W3 = .ok jump W4 ∧ St gh W4 K := fun K st jump W3 hst hs4 => by
      have hr := run_endLoop (P := P) hs4.get (by rw [hrec]; exact hst)
      obtain ⟨W4, hW4⟩ : ∃ W4, W3.putObj l (.loop { rec st jump with state := .exhausted }) = W4 := ⟨_, rfl⟩
      rw [hW4, show (rec st jump).pending = jump by rw [hrec]] at hr
      refine ⟨W4, hr, ?_⟩
      rw [← hW4]
      have : St gh (W3.putObj l (.loop { rec st jump with state := .exhausted })) (pt l (.loop { rec st jump with state := .exhausted }) * K) := by
        refine hs4.put rfl rfl ?_ ?_
        · simp [World.putObj, hs4.lt]
        · intro i hi; simp [World.putObj, Array.getElem?_setIfInBounds_ne (Ne.symm hi)]
      exact this.right
    rintro e W2 ⟨o, rfl, hst⟩
    cases o with
    | none =>
      have hst' : St gh W2 (pt l (.loop (rec .ready none)) * (Post * (pt D (.deferred (some [])) * F))) := by
        rw [star_left_comm]
        simp only [L, star_assoc, itPost] at hst
        exact hst
      obtain ⟨W4, h5, h6⟩ := fin _ _ _ _ (by simp) hst'
      exact ⟨none, W4, h5, ρ, _, ⟨hrep.1, hrep.2⟩, h6, hdone D⟩
    | some i =>
      simp only [X, itPost] at hst
      rw [star_assoc, star_left_comm, ex_star] at hst
      obtain ⟨e, hst⟩ := St.ex.1 hst
      rw [star_assoc] at hst
      obtain ⟨⟨hj, hjs⟩, hst⟩ := St.lift.1 hst
      have hst' : St gh W2 (pt l (.loop (rec .done (jumpOf e))) * (PS i * (S i e * (pt D (.deferred (some [])) * F)))) := by
        simp only [star_assoc] at hst
        refine hst.mono (Ent.of_eq ?_)
        ac_rfl
      obtain ⟨W4, h5, h6⟩ := fin _ _ _ _ (by simp) hst'
      refine ⟨jumpOf e, W4, h5, ?_⟩
      have hq : toQ n gh Q e { a with defers := mk D :: a.defers } W4 := ⟨ρ, _, ⟨hrep.1, hrep.2⟩, h6, hstop D i e hj⟩
      cases e with
      | normal => simp [jumpOf] at hjs
      | ret => exact wpIn_ret hq
      | exit id => exact wpIn_exit hq
      | goto t => exact wpIn_goto hq
      | panic ch => simp [jumpOf] at hjs
      | outgrown => simp [jumpOf] at hjs
/-- .. and what is left where a round leaves is told by a choice. -/
theorem Cw.rangeX {ι κ : Type} {S' : ι → Exit → κ → HP} {g : Operand} {gf : FuncId} {caps : List Value} {ps : List Nat} {assign body : Code} {xs : ι → List Value} {A B : ι → HP} {J : ι → Exit → Prop} {S : ι → Exit → HP} {PS : ι → HP} {Pre Post : HP}
    (hit : ∀ (y : Value) (L : HP) (X : ι → HP), (∀ i, Yc P y (xs i) (A i * L) (fun c => bif c then B i * L else X i)) → Fn P gf (y :: caps) (Pre * L) (Option ι) (fun _ => .tuple #[]) (itPost (Post * L) (fun i => PS i * X i)))
    (hg : ev ρ g = some (.func (.func gf) #[] caps.toArray)) (hps : ps.all (fun p => Nat.blt p n) = true) (hxs : ∀ i, (xs i).length = ps.length) (hp : Ent H (Pre * F))
    (hbody : ∀ (i : ι) (F1 G : HP) (l : Nat) (rec : Loop), Cw P (some l) n assign (thenQ (fun ρ' ds' H' => ∃ H2, Ent H' (H2 * F1) ∧
      Cw P (some l) n body (rdQ (B i * (pt l (.loop rec) * G)) (J i) (fun e => S i e * (pt l (.loop rec) * G))) ρ' ds' (H2 * (pt l (.loop rec) * G))) nilQ) (rdE ps (xs i) ρ) [] (A i * F1))
    (hdone : ∀ D, Q .normal ρ (mk D :: ds) (Post * (pt D (.deferred (some [])) * F)))
    (hSS : ∀ i e, S i e = Sl.ex (S' i e)) (hstop : ∀ D i e m, J i e → Q e ρ (mk D :: ds) (PS i * (S' i e m * (pt D (.deferred (some [])) * F)))) :
    Cw P none n (.rangeFunc g ps.toArray assign body) Q ρ ds H := by
  intro gh w a hrep hds hs
  replace hs := hs.mono hp
  subst hds
  refine wpIn_rangeFunc ?_
  intro fn hfn
  obtain ⟨rec, hrec⟩ : ∃ rec : LoopState → Option Code → Loop, rec = fun st pe => { state := st, pending := pe, fn, tmps := a.tmps, params := ps.toArray, assign, body, defers := w.heap.size } := ⟨_, rfl⟩
  obtain ⟨D, hD⟩ : ∃ D, D = w.heap.size := ⟨_, rfl⟩
  obtain ⟨l, hl⟩ : ∃ l, l = D + 1 := ⟨_, rfl⟩
  obtain ⟨W1, hW1⟩ : ∃ W1, (w.alloc (.deferred (some []))).alloc (.loop (rec .ready none)) = W1 := ⟨_, rfl⟩
  have hs1 : St gh W1 (pt l (.loop (rec .ready none)) * (pt D (.deferred (some [])) * (Pre * F))) := by
    have h2 := (hs.alloc (.deferred (some []))).alloc (.loop (rec .ready none))
    have e : ({ w with heap := w.heap.push (.deferred (some [])) } : World).heap.size = l := by rw [hl, hD]; simp
    rw [e, ← hD] at h2
    rw [← hW1]; exact h2
  let L : HP := pt l (.loop (rec .ready none)) * pt D (.deferred (some []))
  let X : ι → HP := fun i => Sl.ex fun e : Exit => Sl.lift (J i e ∧ (jumpOf e).isSome = true) * (S i e * (pt l (.loop (rec .done (jumpOf e))) * pt D (.deferred (some []))))
  have hyc : ∀ i, Yc P (.func (.yield l) #[] #[]) (xs i) (A i * L) (fun c => bif c then B i * L else X i) := fun i => Yc.of_round (fun g' w' F' hst => by
    have hst1 : St g' w' (pt l (.loop (rec .ready none)) * (A i * (pt D (.deferred (some [])) * F'))) := by
      simp only [L, star_assoc] at hst
      rw [star_left_comm]; exact hst
    have hy := run_yield (P := P) (args := (xs i).toArray) hst1.get (by rw [hrec]; simp [hxs i])
    rw [hrec] at hy
    refine ⟨fn, _, assign, body, hy, roundIn_of_wpIn hfn ?_⟩
    have hrep' : Rep n (rdE ps (xs i) ρ) { tmps := (ps.toArray.zip (xs i).toArray).foldl (fun tmps (t, a) => tmps.setIfInBounds t a) a.tmps, defers := [] } := by
      have := rep_rdE (n := n) (ds := []) ps (xs i) ρ a.tmps hps ⟨hrep.1, hrep.2⟩
      simpa [List.zip_toArray] using this
    have hst2 : St g' w' (A i * (pt l (.loop (rec .ready none)) * (pt D (.deferred (some [])) * F'))) := by rw [star_left_comm]; exact hst1
    have hb := hbody i (pt l (.loop (rec .ready none)) * (pt D (.deferred (some [])) * F')) (pt D (.deferred (some [])) * F') l (rec .busy none)
    refine wpIn_mono (hb g' w' _ hrep' rfl hst2) ?_
    rintro e a1 w1 ⟨ρ1, H1, hr1, hs1, hq1⟩
    cases e with
    | normal =>
      obtain ⟨H2, hent, hcw⟩ := hq1
      have hs2 := hs1.mono hent
      rw [star_left_comm] at hs2
      refine ⟨_, run_beginRound hs2.get (by rw [hrec]), ?_⟩
      have hs3 : St g' (w1.putObj l (.loop { rec .ready none with state := .busy })) (H2 * (pt l (.loop (rec .busy none)) * (pt D (.deferred (some [])) * F'))) := by
        rw [star_left_comm]
        have e : (rec .busy none) = { rec .ready none with state := .busy } := by rw [hrec]
        rw [e]
        refine hs2.put rfl rfl ?_ ?_
        · simp [World.putObj, hs2.lt]
        · intro i hi; simp [World.putObj, Array.getElem?_setIfInBounds_ne (Ne.symm hi)]
      refine wpIn_mono (hcw g' _ a1 hr1 rfl hs3) ?_
      have fin : ∀ (K : HP) (jump : Option Code) (W3 : World), St g' W3 (K * (pt l (.loop (rec .busy none)) * (pt D (.deferred (some [])) * F'))) →
          ∃ W4, (Instr.endRound l jump).run P W3 = .ok (.bool jump.isNone) W4 ∧ St g' W4 (K * (pt l (.loop (rec (if jump.isNone then .ready else .done) jump)) * (pt D (.deferred (some [])) * F'))) := fun K jump W3 hs4 => by
        rw [star_left_comm] at hs4
        have hr := run_endRound (P := P) jump hs4.get
        refine ⟨_, hr, ?_⟩
        rw [star_left_comm]
        have e : (rec (if jump.isNone then .ready else .done) jump) = { rec .busy none with state := if jump.isNone then .ready else .done, pending := jump } := by rw [hrec]
        rw [e]
        refine hs4.put rfl rfl ?_ ?_
        · simp [World.putObj, hs4.lt]
        · intro i hi; simp [World.putObj, Array.getElem?_setIfInBounds_ne (Ne.symm hi)]
      rintro e a3 W3 ⟨ρ3, H3, hr3, hs4, hq⟩
      rcases hq with ⟨rfl, hent3⟩ | ⟨hj, hjs, hent3⟩
      · obtain ⟨W4, h5, h6⟩ := fin (B i) none W3 (hs4.mono hent3)
        refine ⟨_, _, h5, true, rfl, ?_⟩
        simp only [L, cond_true, star_assoc]
        exact h6
      · have done : ∃ W4, (Instr.endRound l (jumpOf e)).run P W3 = .ok (.bool (jumpOf e).isNone) W4 ∧ St g' W4 (X i * F') := by
          obtain ⟨W4, h5, h6⟩ := fin (S i e) (jumpOf e) W3 (hs4.mono hent3)
          refine ⟨W4, h5, h6.mono ?_⟩
          have hn : (jumpOf e).isNone = false := by cases h : jumpOf e <;> simp_all
          rw [hn]
          simp only [X]
          rw [ex_star]
          refine Ent.trans ?_ (Ent.ex (A := fun e => Sl.lift (J i e ∧ (jumpOf e).isSome = true) * (S i e * (pt l (.loop (rec .done (jumpOf e))) * pt D (.deferred (some [])))) * F') e)
          simp only [star_assoc]
          exact Ent.lift ⟨hj, hjs⟩
        obtain ⟨W4, h5, h6⟩ := done
        cases e with
        | normal => simp [jumpOf] at hjs
        | ret => exact ⟨_, _, h5, false, rfl, h6⟩
        | exit id => exact ⟨_, _, h5, false, rfl, h6⟩
        | goto t => exact ⟨_, _, h5, false, rfl, h6⟩
        | panic ch => simp [jumpOf] at hjs
        | outgrown => simp [jumpOf] at hjs
    | ret => exact hq1.elim
    | exit id => exact hq1.elim
    | goto t => exact hq1.elim
    | panic ch => exact hq1.elim
    | outgrown => exact hq1.elim)
  have hfn2 := hit (.func (.yield l) #[] #[]) L X hyc
  refine ⟨l, [mk D], W1, { target := .fn (.func gf) caps.toArray, args := #[.func (.yield l) #[] #[]] }, W1, gf, #[.func (.yield l) #[] #[]] ++ caps.toArray, W1, ?_, ?_, ?_, ?_, fun h => by simp [fen, Fence.wide] at h, ?_⟩
  · have h2 := run_enterLoop_outer (P := P) (w := w) fn a.tmps ps.toArray assign body
    rw [← hW1, hrec, hl, hD]; exact h2
  · simp only [resolve, ev_eval hrep hg]
    simp [go_sem]
  · intro f' hf'; trivial
  · simp [invoke, go_sem, hfn2.enters]
  · have hs2 : St gh W1 (Pre * L * F) := by
      simp only [L, star_assoc]
      have e : Pre * (pt l (.loop (rec .ready none)) * (pt D (.deferred (some [])) * F)) = pt l (.loop (rec .ready none)) * (pt D (.deferred (some [])) * (Pre * F)) := by
        rw [star_left_comm, star_left_comm Pre]
      rw [e]; exact hs1
    have hc := hfn2.calls gh F W1 hs2
    have hc' : CallsIn (fen none) (0 - 1) P gf (#[.func (.yield l) #[] #[]] ++ caps.toArray) W1 (fun e w' => ∃ o : Option ι, e = .returned (.tuple #[]) ∧ St gh w' (itPost (Post * L) (fun i => PS i * X i) o * F)) := by
      have e2 : (#[.func (.yield l) #[] #[]] ++ caps.toArray : Array Value) = (Value.func (.yield l) #[] #[] :: caps).toArray := by simp
      rw [e2]
      exact (callsIn_wide (n := 0 - 1)).2 hc
    refine hc'.mono ?_
    have fin : ∀ (K : HP) (st : LoopState) (jump : Option Code) (W3 : World), st ≠ .busy → St gh W3 (pt l (.loop (rec st jump)) * K) → ∃ W4, (Instr.endLoop l).run P W3 = .ok jump W4 ∧ St gh W4 K := fun K st jump W3 hst hs4 => by
      have hr := run_endLoop (P := P) hs4.get (by rw [hrec]; exact hst)
      obtain ⟨W4, hW4⟩ : ∃ W4, W3.putObj l (.loop { rec st jump with state := .exhausted }) = W4 := ⟨_, rfl⟩
      rw [hW4, show (rec st jump).pending = jump by rw [hrec]] at hr
      refine ⟨W4, hr, ?_⟩
      rw [← hW4]
      have : St gh (W3.putObj l (.loop { rec st jump with state := .exhausted })) (pt l (.loop { rec st jump with state := .exhausted }) * K) := by
        refine hs4.put rfl rfl ?_ ?_
        · simp [World.putObj, hs4.lt]
        · intro i hi; simp [World.putObj, Array.getElem?_setIfInBounds_ne (Ne.symm hi)]
      exact this.right
    rintro e W2 ⟨o, rfl, hst⟩
    cases o with
    | none =>
      have hst' : St gh W2 (pt l (.loop (rec .ready none)) * (Post * (pt D (.deferred (some [])) * F))) := by
        rw [star_left_comm]
        simp only [L, star_assoc, itPost] at hst
        exact hst
      obtain ⟨W4, h5, h6⟩ := fin _ _ _ _ (by simp) hst'
      exact ⟨none, W4, h5, ρ, _, ⟨hrep.1, hrep.2⟩, h6, hdone D⟩
    | some i =>
      simp only [X, itPost] at hst
      rw [star_assoc, star_left_comm, ex_star] at hst
      obtain ⟨e, hst⟩ := St.ex.1 hst
      rw [star_assoc] at hst
      obtain ⟨⟨hj, hjs⟩, hst⟩ := St.lift.1 hst
      have hst' : St gh W2 (pt l (.loop (rec .done (jumpOf e))) * (PS i * (S i e * (pt D (.deferred (some [])) * F)))) := by
        simp only [star_assoc] at hst
        refine hst.mono (Ent.of_eq ?_)
        ac_rfl
      obtain ⟨W4, h5, h6⟩ := fin _ _ _ _ (by simp) hst'
      rw [hSS, star_left_comm, ex_star] at h6
      obtain ⟨m, h6⟩ := St.ex.1 h6
      rw [star_left_comm] at h6
      refine ⟨jumpOf e, W4, h5, ?_⟩
      have hq : toQ n gh Q e { a with defers := mk D :: a.defers } W4 := ⟨ρ, _, ⟨hrep.1, hrep.2⟩, h6, hstop D i e m hj⟩
      cases e with
      | normal => simp [jumpOf] at hjs
      | ret => exact wpIn_ret hq
      | exit id => exact wpIn_exit hq
      | goto t => exact wpIn_goto hq
      | panic ch => simp [jumpOf] at hjs
      | outgrown => simp [jumpOf] at hjs
end
end Go.Sl
