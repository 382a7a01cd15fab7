/- OpRegs: whatever the input, true; the card ties the listed variable to the program's text. -/
import Derived.Test.YtmlgcldohaiohaaDoorWitOp
import Derived.Test.YtmlgcldohaiohaaDoorOpR
namespace Go.Proofs.YtmlgcldohaiohaaDoor.opRegs
open Go.ChangeShapes Go.WideShapes Go.ChangeAt Go.RowKit Go.Sl
set_option linter.unusedVariables false
abbrev w1 : Array Value := #[.agg #[.int .u8 0, .int .u8 0, .int .u8 0, .int .u8 0, .int .u8 0, .int .u8 0], .agg #[.int .i64 0, .int .i64 0, .int .i64 0, .int .i64 0, .int .i64 0, .int .i64 0], .agg #[.int .u8 0, .int .u8 0, .int .u8 0]]
theorem reads (os : Os) {H : Type} (enc : TypeId × Value → H) : ∃ ds places, DataW.whole enc Tryd.prog ((laidWorld os).forCall (fun _ _ => 0) ⟨#[], w1, []⟩).memory Tryd.f9.params.toList Rows.opRegsSpec.vars false w1.toList 8 = some (ds, [], places) :=
  ⟨[.agg [.lit (.int .u8 0), .lit (.int .u8 0), .lit (.int .u8 0), .lit (.int .u8 0), .lit (.int .u8 0), .lit (.int .u8 0)], .agg [.lit (.int .i64 0), .lit (.int .i64 0), .lit (.int .i64 0), .lit (.int .i64 0), .lit (.int .i64 0), .lit (.int .i64 0)], .agg [.lit (.int .u8 0), .lit (.int .u8 0), .lit (.int .u8 0)]], [], by kernel_rfl⟩
set_option maxRecDepth 100000 in
theorem lifted (os : Os) (started : os.Started) (H : Type) (enc : TypeId × Value → H) (F : Stop.Interp) :
    ReturnsInHanded {} Tryd.checked os 9 .any ((OpenSpec.ofChange Rows.opRegsSpec).preRow enc Tryd.prog Tryd.f9 Rows.opRegsRow.domain false Rows.opRegsRow.laid) (((OpenSpec.ofChange Rows.opRegsSpec).at F).post enc Tryd.prog Tryd.f9 false true false false) := by
  obtain ⟨ds, places, hx⟩ := reads os enc
  refine law_laid (C := Tryd.checked) own started (by kernel_rfl) Tryd.func9 laidOut (by kernel_rfl) rfl Tryd.underlying4 rfl (fun ds h => ?_)
    (witness_row_atRef (enc := enc) (C := Tryd.checked) false (laidWorld os) w1 rfl (by kernel_rfl) (by kernel_rfl) (by kernel_rfl)
      (OpenSpec.preRow_of_cond 8 hx (by kernel_rfl) (fun k hk => by cases hk) (by kernel_rfl) (laid_met os _))) (fun W base vs ds p hL hsz hval hA => ?_)
  · rw [Tryd.params9] at h
    match ds, h with
    | [d0, d1, d2], _ => rfl
  · rw [Tryd.params9] at hA hval hsz
    obtain ⟨gb, go, gc, hK⟩ := kinds_of hL
    obtain ⟨v0, vs0, d0, ds0, p0, q0, rfl, rfl, rfl, h0, r0⟩ := trodAll_cons hA
    obtain ⟨v1, vs1, d1, ds1, p1, q1, rfl, rfl, rfl, h1, r1⟩ := trodAll_cons r0
    obtain ⟨v2, vs2, d2, ds2, p2, q2, rfl, rfl, rfl, h2, r2⟩ := trodAll_cons r1
    obtain ⟨rfl, rfl, rfl⟩ := trodAll_nil r2
    obtain ⟨cs0, n0, rfl, t0⟩ := open_agg (.inr ⟨_, _, Tryd.underlying37⟩) (hval 0 _ v0 rfl rfl) h0
    obtain ⟨l0, l1, l2, l3, l4, l5, rfl, _, wl0, wl1, wl2, wl3, wl4, wl5⟩ := l6_trod _ _ _ t0
    obtain ⟨cs1, n1, rfl, t1⟩ := open_agg (.inl ⟨_, Tryd.underlying23⟩) (hval 1 _ v1 rfl rfl) h1
    obtain ⟨k, t, n, x, y, z, rfl, _, wk, wt, wn, wx, wy, wz⟩ := item_trod _ _ _ t1
    obtain ⟨cs2, n2, rfl, t2⟩ := open_agg (.inr ⟨_, _, Tryd.underlying53⟩) (hval 2 _ v2 rfl rfl) h2
    obtain ⟨i0, i1, i2, rfl, _, wi0, wi1, wi2⟩ := l3_trod _ _ _ t2
    exact ⟨Unit, _, OpRegs_fn hK l0 l1 l2 l3 l4 l5 (wf_u8 wl0) (wf_u8 wl1) (wf_u8 wl2) (wf_u8 wl3) (wf_u8 wl4) (wf_u8 wl5) k t n x y z i0 i1 i2 (wf_u8 wi0) (wf_u8 wi1) (wf_u8 wi2), fun _ => Ent.refl _⟩
theorem said : Rows.OpRegsSaid :=
  OpenClaim.holds_of_cond 9 Tryd.f9 rfl rfl rfl rfl rfl rfl rfl ⟨rfl, rfl, rfl, rfl, rfl⟩ rfl rfl rfl rfl rfl (by kernel_rfl) Tryd.func9 (by kernel_rfl)
    (of_decide_eq_true (by kernel_rfl)) (by unfold Func.isWrapper; first | (rw [if_pos (by decide +kernel)]; kernel_rfl) | (rw [if_neg (by decide +kernel)]; exact ⟨rfl, rfl⟩))
    (fun os started H enc _ F => by rw [OpenClaim.pre_eq_preRow]; exact lifted os started H enc F)
theorem plain (f : FuncId) (fn : Func) (hf : Tryd.pinned.checked.prog.funcNamed "hawthorn/hawthornlaw09.OpRegs" = some f) (hfn : Tryd.pinned.checked.prog.funcs[f]? = some fn) :
    false = Tryd.pinned.checked.prog.looks [] ∧ ∀ (j : Nat) t, fn.params[j]? = some t → Tryd.pinned.checked.prog.wantsStandIn t = false := by
  obtain rfl : f = 9 := Option.some.inj ((show Tryd.prog.funcNamed "hawthorn/hawthornlaw09.OpRegs" = some 9 by kernel_rfl).symm.trans hf) |>.symm
  obtain rfl : fn = Tryd.f9 := (Option.some.inj (Tryd.func9.symm.trans hfn)).symm
  refine ⟨by kernel_rfl, fun j t ht => ?_⟩
  rw [Tryd.params9] at ht
  have : t ∈ (#[37, 23, 53] : Array TypeId) := Array.mem_of_getElem? ht
  have hall : ((#[37, 23, 53] : Array TypeId).all fun t => !Tryd.prog.wantsStandIn t) = true := by kernel_rfl
  have h2 := Array.all_eq_true'.1 hall t this
  have h3 : Tryd.prog.wantsStandIn t = false := by simpa using h2
  exact h3
end Go.Proofs.YtmlgcldohaiohaaDoor.opRegs
namespace Go.Proofs.YtmlgcldohaiohaaDoor
open Go.Sl
theorem opRegs_proved : Rows.OpRegsCardSaid :=
  Claim7.holds_tied_plain_at .later [] _ _ _ _ opRegs.said (fun _ h => by cases h) (by kernel_rfl) (fun _ h => by cases h) opRegs_row_tie rfl ⟨rfl, rfl⟩ (by kernel_rfl) rfl opRegs.plain (by kernel_rfl)
#print axioms opRegs_proved
end Go.Proofs.YtmlgcldohaiohaaDoor
