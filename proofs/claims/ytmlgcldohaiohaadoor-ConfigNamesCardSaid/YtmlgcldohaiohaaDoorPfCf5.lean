/- ConfigNames: whatever the input, true; the card ties the listed variable to the program's text. -/
import Derived.Test.YtmlgcldohaiohaaDoorWitCfg
import Derived.Test.YtmlgcldohaiohaaDoorCf4
import Derived.ChangeMaps5
namespace Go.Proofs.YtmlgcldohaiohaaDoor.configNames
open Go.ChangeShapes Go.WideShapes Go.ChangeAt Go.RowKit Go.Sl
set_option linter.unusedVariables false
abbrev w1 : Array Value := #[.int .i64 0, .string ⟨#[]⟩, .agg #[.int .i64 0, .bool false, .int .i64 0, .int .i64 0, .int .i64 0, .int .i64 0, .int .i64 0, .int .i64 0, .int .i64 0, .int .i64 0, .int .i64 0]]
theorem reads (os : Os) {H : Type} (enc : TypeId × Value → H) : ∃ ds places, DataW.whole enc Tryd.prog ((laidWorldC os).forCall (fun _ _ => 0) ⟨#[], w1, []⟩).memory Tryd.f12.params.toList Rows.configNamesSpec.vars false w1.toList 8 = some (ds, [], places) :=
  ⟨[.lit (.int .i64 0), .lit (.string []), .agg [.lit (.int .i64 0), .lit (.bool false), .lit (.int .i64 0), .lit (.int .i64 0), .lit (.int .i64 0), .lit (.int .i64 0), .lit (.int .i64 0), .lit (.int .i64 0), .lit (.int .i64 0), .lit (.int .i64 0), .lit (.int .i64 0)]], [], by kernel_rfl⟩
set_option maxRecDepth 100000 in
theorem lifted (os : Os) (started : os.Started) (H : Type) (enc : TypeId × Value → H) (F : Stop.Interp) :
    ReturnsInHanded {} Tryd.checked os 12 .any ((OpenSpec.ofChange Rows.configNamesSpec).preRow enc Tryd.prog Tryd.f12 Rows.configNamesRow.domain false Rows.configNamesRow.laid) (((OpenSpec.ofChange Rows.configNamesSpec).at F).post enc Tryd.prog Tryd.f12 false true false false) := by
  obtain ⟨ds, places, hx⟩ := reads os enc
  refine law_laid (C := Tryd.checked) own started (by kernel_rfl) Tryd.func12 laidOut (by kernel_rfl) rfl Tryd.underlying4 rfl (fun ds h => ?_)
    (witness_row_atRef (enc := enc) (C := Tryd.checked) false (laidWorldC os) w1 rfl (by kernel_rfl) (by kernel_rfl) (by kernel_rfl)
      (OpenSpec.preRow_of_cond 8 hx (by kernel_rfl) (fun k hk => by cases hk) (by kernel_rfl) (laid_metC os _))) (fun W base vs ds p hL hsz hval hA => ?_)
  · rw [Tryd.params12] at h
    match ds, h with
    | [d0, d1, d2], _ => rfl
  · rw [Tryd.params12] at hA hval hsz
    have hK := names_of hL
    obtain ⟨v0, vs0, d0, ds0, p0, q0, rfl, rfl, rfl, h0, r0⟩ := trodAll_cons hA
    obtain ⟨v1, vs1, d1, ds1, p1, q1, rfl, rfl, rfl, h1, r1⟩ := trodAll_cons r0
    obtain ⟨v2, vs2, d2, ds2, p2, q2, rfl, rfl, rfl, h2, r2⟩ := trodAll_cons r1
    obtain ⟨rfl, rfl, rfl⟩ := trodAll_nil r2
    obtain ⟨n, rfl, rfl, rfl, wn⟩ := open_int Tryd.underlying3 (hval 0 _ v0 rfl rfl) h0
    obtain ⟨s, rfl, rfl, rfl, ws⟩ := Go.ChangeMaps.open_string Tryd.underlying9 (hval 1 _ v1 rfl rfl) h1
    obtain ⟨cs2, n2, rfl, t2⟩ := open_agg (.inl ⟨_, Tryd.underlying36⟩) (hval 2 _ v2 rfl rfl) h2
    obtain ⟨e, bk, p, th, rg, st, gl, fl, mk, lg, bd, rfl, _, we, wbk, wp, wth, wrg, wst, wgl, wfl, wmk, wlg, wbd⟩ := cfg_trod _ _ _ t2
    exact ⟨Unit, _, ConfigNames_fn hK n s e bk p th rg st gl fl mk lg bd, fun _ => Ent.refl _⟩
theorem said : Rows.ConfigNamesSaid :=
  OpenClaim.holds_of_cond 12 Tryd.f12 rfl rfl rfl rfl rfl rfl rfl ⟨rfl, rfl, rfl, rfl, rfl⟩ rfl rfl rfl rfl rfl (by kernel_rfl) Tryd.func12 (by kernel_rfl)
    (of_decide_eq_true (by kernel_rfl)) (by unfold Func.isWrapper; first | (rw [if_pos (by decide +kernel)]; kernel_rfl) | (rw [if_neg (by decide +kernel)]; exact ⟨rfl, rfl⟩))
    (fun os started H enc _ F => by rw [OpenClaim.pre_eq_preRow]; exact lifted os started H enc F)
theorem plain (f : FuncId) (fn : Func) (hf : Tryd.pinned.checked.prog.funcNamed "hawthorn/hawthornlaw08.ConfigNames" = some f) (hfn : Tryd.pinned.checked.prog.funcs[f]? = some fn) :
    false = Tryd.pinned.checked.prog.looks [] ∧ ∀ (j : Nat) t, fn.params[j]? = some t → Tryd.pinned.checked.prog.wantsStandIn t = false := by
  obtain rfl : f = 12 := Option.some.inj ((show Tryd.prog.funcNamed "hawthorn/hawthornlaw08.ConfigNames" = some 12 by kernel_rfl).symm.trans hf) |>.symm
  obtain rfl : fn = Tryd.f12 := (Option.some.inj (Tryd.func12.symm.trans hfn)).symm
  refine ⟨by kernel_rfl, fun j t ht => ?_⟩
  rw [Tryd.params12] at ht
  have : t ∈ (#[3, 9, 36] : Array TypeId) := Array.mem_of_getElem? ht
  have hall : ((#[3, 9, 36] : Array TypeId).all fun t => !Tryd.prog.wantsStandIn t) = true := by kernel_rfl
  have h2 := Array.all_eq_true'.1 hall t this
  have h3 : Tryd.prog.wantsStandIn t = false := by simpa using h2
  exact h3
end Go.Proofs.YtmlgcldohaiohaaDoor.configNames
namespace Go.Proofs.YtmlgcldohaiohaaDoor
open Go.Sl
theorem configNames_proved : Rows.ConfigNamesCardSaid :=
  Claim7.holds_tied_plain_at .later [] _ _ _ _ configNames.said (fun _ h => by cases h) (by kernel_rfl) (fun _ h => by cases h) configNames_row_tie rfl ⟨rfl, rfl⟩ (by kernel_rfl) rfl configNames.plain (by kernel_rfl)
#print axioms configNames_proved
end Go.Proofs.YtmlgcldohaiohaaDoor
