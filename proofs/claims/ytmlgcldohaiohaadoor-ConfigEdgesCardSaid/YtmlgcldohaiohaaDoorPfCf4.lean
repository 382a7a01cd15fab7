/- ConfigEdges: whatever the input, true; the card ties the listed variable to the program's text. -/
import Derived.Test.YtmlgcldohaiohaaDoorWitCfg
import Derived.Test.YtmlgcldohaiohaaDoorCfE
import Derived.ChangeMaps5
namespace Go.Proofs.YtmlgcldohaiohaaDoor.configEdges
open Go.ChangeShapes Go.WideShapes Go.ChangeAt Go.RowKit Go.Sl
set_option linter.unusedVariables false
abbrev w1 : Array Value := #[.agg #[.int .u8 0, .int .u8 0, .int .u8 0, .int .u8 0, .int .u8 0, .int .u8 0], .int .i64 0, .int .i8 0]
theorem reads (os : Os) {H : Type} (enc : TypeId × Value → H) : ∃ ds places, DataW.whole enc Tryd.prog ((laidWorldC os).forCall (fun _ _ => 0) ⟨#[], w1, []⟩).memory Tryd.f6.params.toList Rows.configEdgesSpec.vars false w1.toList 8 = some (ds, [], places) :=
  ⟨[.agg [.lit (.int .u8 0), .lit (.int .u8 0), .lit (.int .u8 0), .lit (.int .u8 0), .lit (.int .u8 0), .lit (.int .u8 0)], .lit (.int .i64 0), .lit (.int .i8 0)], [], by kernel_rfl⟩
set_option maxRecDepth 100000 in
theorem lifted (os : Os) (started : os.Started) (H : Type) (enc : TypeId × Value → H) (F : Stop.Interp) :
    ReturnsInHanded {} Tryd.checked os 6 .any ((OpenSpec.ofChange Rows.configEdgesSpec).preRow enc Tryd.prog Tryd.f6 Rows.configEdgesRow.domain false Rows.configEdgesRow.laid) (((OpenSpec.ofChange Rows.configEdgesSpec).at F).post enc Tryd.prog Tryd.f6 false true false false) := by
  obtain ⟨ds, places, hx⟩ := reads os enc
  refine law_laid (C := Tryd.checked) own started (by kernel_rfl) Tryd.func6 laidOut (by kernel_rfl) rfl Tryd.underlying4 rfl (fun ds h => ?_)
    (witness_row_atRef (enc := enc) (C := Tryd.checked) false (laidWorldC os) w1 rfl (by kernel_rfl) (by kernel_rfl) (by kernel_rfl)
      (OpenSpec.preRow_of_cond 8 hx (by kernel_rfl) (fun k hk => by cases hk) (by kernel_rfl) (laid_metC os _))) (fun W base vs ds p hL hsz hval hA => ?_)
  · rw [Tryd.params6] at h
    match ds, h with
    | [d0, d1, d2], _ => rfl
  · rw [Tryd.params6] at hA hval hsz
    have hK := names_of hL
    obtain ⟨v0, vs0, d0, ds0, p0, q0, rfl, rfl, rfl, h0, r0⟩ := trodAll_cons hA
    obtain ⟨v1, vs1, d1, ds1, p1, q1, rfl, rfl, rfl, h1, r1⟩ := trodAll_cons r0
    obtain ⟨v2, vs2, d2, ds2, p2, q2, rfl, rfl, rfl, h2, r2⟩ := trodAll_cons r1
    obtain ⟨rfl, rfl, rfl⟩ := trodAll_nil r2
    obtain ⟨cs0, n0, rfl, t0⟩ := open_agg (.inr ⟨_, _, Tryd.underlying37⟩) (hval 0 _ v0 rfl rfl) h0
    obtain ⟨l0, l1, l2, l3, l4, l5, rfl, _, wl0, wl1, wl2, wl3, wl4, wl5⟩ := l6_trod _ _ _ t0
    obtain ⟨w, rfl, rfl, rfl, ww⟩ := open_int Tryd.underlying3 (hval 1 _ v1 rfl rfl) h1
    obtain ⟨o, rfl, rfl, rfl, wo⟩ := open_int Tryd.underlying43 (hval 2 _ v2 rfl rfl) h2
    exact ⟨Unit, _, ConfigEdges_fn hK l0 l1 l2 l3 l4 l5 w o (wf_u8 wl0) (wf_u8 wl1) (wf_u8 wl2) (wf_u8 wl3) (wf_u8 wl4) (wf_u8 wl5) (wf_i8 wo), fun _ => Ent.refl _⟩
theorem said : Rows.ConfigEdgesSaid :=
  OpenClaim.holds_of_cond 6 Tryd.f6 rfl rfl rfl rfl rfl rfl rfl ⟨rfl, rfl, rfl, rfl, rfl⟩ rfl rfl rfl rfl rfl (by kernel_rfl) Tryd.func6 (by kernel_rfl)
    (of_decide_eq_true (by kernel_rfl)) (by unfold Func.isWrapper; first | (rw [if_pos (by decide +kernel)]; kernel_rfl) | (rw [if_neg (by decide +kernel)]; exact ⟨rfl, rfl⟩))
    (fun os started H enc _ F => by rw [OpenClaim.pre_eq_preRow]; exact lifted os started H enc F)
theorem plain (f : FuncId) (fn : Func) (hf : Tryd.pinned.checked.prog.funcNamed "hawthorn/hawthornlaw08.ConfigEdges" = some f) (hfn : Tryd.pinned.checked.prog.funcs[f]? = some fn) :
    false = Tryd.pinned.checked.prog.looks [] ∧ ∀ (j : Nat) t, fn.params[j]? = some t → Tryd.pinned.checked.prog.wantsStandIn t = false := by
  obtain rfl : f = 6 := Option.some.inj ((show Tryd.prog.funcNamed "hawthorn/hawthornlaw08.ConfigEdges" = some 6 by kernel_rfl).symm.trans hf) |>.symm
  obtain rfl : fn = Tryd.f6 := (Option.some.inj (Tryd.func6.symm.trans hfn)).symm
  refine ⟨by kernel_rfl, fun j t ht => ?_⟩
  rw [Tryd.params6] at ht
  have : t ∈ (#[37, 3, 43] : Array TypeId) := Array.mem_of_getElem? ht
  have hall : ((#[37, 3, 43] : Array TypeId).all fun t => !Tryd.prog.wantsStandIn t) = true := by kernel_rfl
  have h2 := Array.all_eq_true'.1 hall t this
  have h3 : Tryd.prog.wantsStandIn t = false := by simpa using h2
  exact h3
end Go.Proofs.YtmlgcldohaiohaaDoor.configEdges
namespace Go.Proofs.YtmlgcldohaiohaaDoor
open Go.Sl
theorem configEdges_proved : Rows.ConfigEdgesCardSaid :=
  Claim7.holds_tied_plain_at .later [] _ _ _ _ configEdges.said (fun _ h => by cases h) (by kernel_rfl) (fun _ h => by cases h) configEdges_row_tie rfl ⟨rfl, rfl⟩ (by kernel_rfl) rfl configEdges.plain (by kernel_rfl)
#print axioms configEdges_proved
end Go.Proofs.YtmlgcldohaiohaaDoor
