/- OpSpells: whatever the input, true; the card ties the listed variable to the program's text. -/
import Derived.Test.YtmlgcldohaiohaaDoorWitOp
import Derived.Test.YtmlgcldohaiohaaDoorOpS
namespace Go.Proofs.YtmlgcldohaiohaaDoor.opSpells
open Go.ChangeShapes Go.WideShapes Go.ChangeAt Go.RowKit Go.Sl
set_option linter.unusedVariables false
abbrev w1 : Array Value := #[.int .i64 0, .int .i64 0]
theorem reads (os : Os) {H : Type} (enc : TypeId × Value → H) : ∃ ds places, DataW.whole enc Tryd.prog ((laidWorld os).forCall (fun _ _ => 0) ⟨#[], w1, []⟩).memory Tryd.f4.params.toList Rows.opSpellsSpec.vars false w1.toList 8 = some (ds, [], places) :=
  ⟨[.lit (.int .i64 0), .lit (.int .i64 0)], [], by kernel_rfl⟩
set_option maxRecDepth 100000 in
theorem lifted (os : Os) (started : os.Started) (H : Type) (enc : TypeId × Value → H) (F : Stop.Interp) :
    ReturnsInHanded {} Tryd.checked os 4 .any ((OpenSpec.ofChange Rows.opSpellsSpec).preRow enc Tryd.prog Tryd.f4 Rows.opSpellsRow.domain false Rows.opSpellsRow.laid) (((OpenSpec.ofChange Rows.opSpellsSpec).at F).post enc Tryd.prog Tryd.f4 false true false false) := by
  obtain ⟨ds, places, hx⟩ := reads os enc
  refine law_laid (C := Tryd.checked) own started (by kernel_rfl) Tryd.func4 laidOut (by kernel_rfl) rfl Tryd.underlying4 rfl (fun ds h => ?_)
    (witness_row_atRef (enc := enc) (C := Tryd.checked) false (laidWorld os) w1 rfl (by kernel_rfl) (by kernel_rfl) (by kernel_rfl)
      (OpenSpec.preRow_of_cond 8 hx (by kernel_rfl) (fun k hk => by cases hk) (by kernel_rfl) (laid_met os _))) (fun W base vs ds p hL hsz hval hA => ?_)
  · rw [Tryd.params4] at h
    match ds, h with
    | [d0, d1], _ => rfl
  · rw [Tryd.params4] at hA hval hsz
    obtain ⟨gb, go, gc, hK⟩ := kinds_of hL
    obtain ⟨v0, vs0, d0, ds0, p0, q0, rfl, rfl, rfl, h0, r0⟩ := trodAll_cons hA
    obtain ⟨v1, vs1, d1, ds1, p1, q1, rfl, rfl, rfl, h1, r1⟩ := trodAll_cons r0
    obtain ⟨rfl, rfl, rfl⟩ := trodAll_nil r1
    obtain ⟨n, rfl, rfl, rfl, wn⟩ := open_int Tryd.underlying3 (hval 0 _ v0 rfl rfl) h0
    obtain ⟨m, rfl, rfl, rfl, wm⟩ := open_int Tryd.underlying3 (hval 1 _ v1 rfl rfl) h1
    exact ⟨Unit, _, OpSpells_fn hK n m, fun _ => Ent.refl _⟩
theorem said : Rows.OpSpellsSaid :=
  OpenClaim.holds_of_cond 4 Tryd.f4 rfl rfl rfl rfl rfl rfl rfl ⟨rfl, rfl, rfl, rfl, rfl⟩ rfl rfl rfl rfl rfl (by kernel_rfl) Tryd.func4 (by kernel_rfl)
    (of_decide_eq_true (by kernel_rfl)) (by unfold Func.isWrapper; first | (rw [if_pos (by decide +kernel)]; kernel_rfl) | (rw [if_neg (by decide +kernel)]; exact ⟨rfl, rfl⟩))
    (fun os started H enc _ F => by rw [OpenClaim.pre_eq_preRow]; exact lifted os started H enc F)
theorem plain (f : FuncId) (fn : Func) (hf : Tryd.pinned.checked.prog.funcNamed "hawthorn/hawthornlaw09.OpSpells" = some f) (hfn : Tryd.pinned.checked.prog.funcs[f]? = some fn) :
    false = Tryd.pinned.checked.prog.looks [] ∧ ∀ (j : Nat) t, fn.params[j]? = some t → Tryd.pinned.checked.prog.wantsStandIn t = false := by
  obtain rfl : f = 4 := Option.some.inj ((show Tryd.prog.funcNamed "hawthorn/hawthornlaw09.OpSpells" = some 4 by kernel_rfl).symm.trans hf) |>.symm
  obtain rfl : fn = Tryd.f4 := (Option.some.inj (Tryd.func4.symm.trans hfn)).symm
  refine ⟨by kernel_rfl, fun j t ht => ?_⟩
  rw [Tryd.params4] at ht
  have : t ∈ (#[3, 3] : Array TypeId) := Array.mem_of_getElem? ht
  have hall : ((#[3, 3] : Array TypeId).all fun t => !Tryd.prog.wantsStandIn t) = true := by kernel_rfl
  have h2 := Array.all_eq_true'.1 hall t this
  have h3 : Tryd.prog.wantsStandIn t = false := by simpa using h2
  exact h3
end Go.Proofs.YtmlgcldohaiohaaDoor.opSpells
namespace Go.Proofs.YtmlgcldohaiohaaDoor
open Go.Sl
theorem opSpells_proved : Rows.OpSpellsCardSaid :=
  Claim7.holds_tied_plain_at .later [] _ _ _ _ opSpells.said (fun _ h => by cases h) (by kernel_rfl) (fun _ h => by cases h) opSpells_row_tie rfl ⟨rfl, rfl⟩ (by kernel_rfl) rfl opSpells.plain (by kernel_rfl)
#print axioms opSpells_proved
end Go.Proofs.YtmlgcldohaiohaaDoor
