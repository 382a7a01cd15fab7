/- OpChecks: whatever the input, true; the card ties op.kinds to the program's text. -/
import Derived.Test.YtmlgcldohaiohaaDoorWitOp
import Derived.Test.YtmlgcldohaiohaaDoorOpL
namespace Go.Proofs.YtmlgcldohaiohaaDoor
open Go.ChangeShapes Go.WideShapes Go.ChangeAt Go.RowKit Go.Sl
set_option linter.unusedVariables false
abbrev w1 : Array Value := #[.agg #[.int .u8 0, .int .u8 0, .int .u8 0, .int .u8 0, .int .u8 0, .int .u8 0], .agg #[.int .i64 0, .int .i64 0, .int .i64 0, .int .i64 0, .int .i64 0, .int .i64 0]]
theorem reads (os : Os) {H : Type} (enc : TypeId × Value → H) : ∃ ds places, DataW.whole enc Tryd.prog ((laidWorld os).forCall (fun _ _ => 0) ⟨#[], w1, []⟩).memory Tryd.f8.params.toList Rows.opChecksSpec.vars false w1.toList 8 = some (ds, [], places) :=
  ⟨[.agg [.lit (.int .u8 0), .lit (.int .u8 0), .lit (.int .u8 0), .lit (.int .u8 0), .lit (.int .u8 0), .lit (.int .u8 0)], .agg [.lit (.int .i64 0), .lit (.int .i64 0), .lit (.int .i64 0), .lit (.int .i64 0), .lit (.int .i64 0), .lit (.int .i64 0)]], [], by kernel_rfl⟩
set_option maxRecDepth 100000 in
theorem lifted (os : Os) (started : os.Started) (H : Type) (enc : TypeId × Value → H) (F : Stop.Interp) :
    ReturnsInHanded {} Tryd.checked os 8 .any ((OpenSpec.ofChange Rows.opChecksSpec).preRow enc Tryd.prog Tryd.f8 Rows.opChecksRow.domain false Rows.opChecksRow.laid) (((OpenSpec.ofChange Rows.opChecksSpec).at F).post enc Tryd.prog Tryd.f8 false true false false) := by
  obtain ⟨ds, places, hx⟩ := reads os enc
  refine law_laid (C := Tryd.checked) own started (by kernel_rfl) Tryd.func8 laidOut (by kernel_rfl) rfl Tryd.underlying4 rfl (fun ds h => ?_)
    (witness_row_atRef (enc := enc) (C := Tryd.checked) false (laidWorld os) w1 rfl (by kernel_rfl) (by kernel_rfl) (by kernel_rfl)
      (OpenSpec.preRow_of_cond 8 hx (by kernel_rfl) (fun k hk => by cases hk) (by kernel_rfl) (laid_met os _))) (fun W base vs ds p hL hsz hval hA => ?_)
  · rw [Tryd.params8] at h
    match ds, h with
    | [d1, d2], _ => rfl
  · rw [Tryd.params8] at hA hval hsz
    obtain ⟨b, o, c, hK⟩ := kinds_of hL
    obtain ⟨v0, vs0, d0, ds0, p0, q0, rfl, rfl, rfl, h0, r0⟩ := trodAll_cons hA
    obtain ⟨v1, vs1, d1, ds1, p1, q1, rfl, rfl, rfl, h1, r1⟩ := trodAll_cons r0
    obtain ⟨rfl, rfl, rfl⟩ := trodAll_nil r1
    obtain ⟨cs0, n0, rfl, t0⟩ := open_agg (.inr ⟨_, _, Tryd.underlying37⟩) (hval 0 _ v0 rfl rfl) h0
    obtain ⟨l0, l1, l2, l3, l4, l5, rfl, _, g0, g1, g2, g3, g4, g5⟩ := l6_trod _ _ _ t0
    obtain ⟨cs1, n1, rfl, t1⟩ := open_agg (.inl ⟨_, Tryd.underlying23⟩) (hval 1 _ v1 rfl rfl) h1
    obtain ⟨k, t, n, x, y, z, rfl, _, _⟩ := item_trod _ _ _ t1
    exact ⟨Unit, _, OpChecks_fn hK l0 l1 l2 l3 l4 l5 (wf_u8 g0) (wf_u8 g1) (wf_u8 g2) (wf_u8 g3) (wf_u8 g4) (wf_u8 g5) k t n x y z, fun _ => Ent.refl _⟩
theorem said : Rows.OpChecksSaid :=
  OpenClaim.holds_of_cond 8 Tryd.f8 rfl rfl rfl rfl rfl rfl rfl ⟨rfl, rfl, rfl, rfl, rfl⟩ rfl rfl rfl rfl rfl (by kernel_rfl) Tryd.func8 (by kernel_rfl)
    (of_decide_eq_true (by kernel_rfl)) (by unfold Func.isWrapper; first | (rw [if_pos (by decide +kernel)]; kernel_rfl) | (rw [if_neg (by decide +kernel)]; exact ⟨rfl, rfl⟩))
    (fun os started H enc _ F => by rw [OpenClaim.pre_eq_preRow]; exact lifted os started H enc F)
theorem plain (f : FuncId) (fn : Func) (hf : Tryd.pinned.checked.prog.funcNamed "hawthorn/hawthornlaw09.OpChecks" = some f) (hfn : Tryd.pinned.checked.prog.funcs[f]? = some fn) :
    false = Tryd.pinned.checked.prog.looks [] ∧ ∀ (j : Nat) t, fn.params[j]? = some t → Tryd.pinned.checked.prog.wantsStandIn t = false := by
  obtain rfl : f = 8 := Option.some.inj ((show Tryd.prog.funcNamed "hawthorn/hawthornlaw09.OpChecks" = some 8 by kernel_rfl).symm.trans hf) |>.symm
  obtain rfl : fn = Tryd.f8 := (Option.some.inj (Tryd.func8.symm.trans hfn)).symm
  refine ⟨by kernel_rfl, fun j t ht => ?_⟩
  rw [Tryd.params8] at ht
  have : t ∈ #[37, 23] := Array.mem_of_getElem? ht
  have hall : (#[37, 23].all fun t => !Tryd.prog.wantsStandIn t) = true := by kernel_rfl
  have h2 := Array.all_eq_true'.1 hall t this
  have h3 : Tryd.prog.wantsStandIn t = false := by simpa using h2
  exact h3
theorem opChecks_proved : Rows.OpChecksCardSaid :=
  Claim7.holds_tied_plain_at .later [] _ _ _ _ said (fun _ h => by cases h) (by kernel_rfl) (fun _ h => by cases h) opChecks_row_tie rfl ⟨rfl, rfl⟩ (by kernel_rfl) rfl plain (by kernel_rfl)
#print axioms opChecks_proved
end Go.Proofs.YtmlgcldohaiohaaDoor
