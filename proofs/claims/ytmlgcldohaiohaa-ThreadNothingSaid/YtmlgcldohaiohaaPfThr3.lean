/- ThreadNothing: whatever the input, true. -/
import Derived.Test.YtmlgcldohaiohaaNoThr
import Derived.Test.YtmlgcldohaiohaaSlL
import Derived.Test.YtmlgcldohaiohaaRows
namespace Go.Proofs.Ytmlgcldohaiohaa
open Go.ChangeShapes Go.WideShapes Go.ChangeAt Go.RowKit Go.Sl
set_option linter.unusedVariables false
theorem own : ownKnob Try.prog.godebug = none := by kernel_rfl
theorem laid : laidOutB Try.prog = true := by kernel_rfl
set_option maxRecDepth 100000 in
theorem threadNothing_lifted (os : Os) (started : os.Started) (H : Type) (enc : TypeId × Value → H) :
    ReturnsInHanded {} Try.checked os 7 .any (Rows.threadNothingSpec.pre6 enc Try.prog Try.f7 Rows.threadNothingRow.domain false) (Rows.threadNothingSpec.post enc Try.prog Try.f7 false true false false) := by
  refine law_lifted (C := Try.checked) own started (by kernel_rfl) Try.func7 laid (by kernel_rfl) rfl Try.underlying4 rfl (fun ds h => ?_)
    (ChangeSpec.witness6 (enc := enc) (C := Try.checked) false ⟨#[], #[.slice none 0 0], []⟩ 8 (by kernel_rfl) (by kernel_rfl) (by kernel_rfl) (by kernel_rfl)) (fun W base vs ds p hsh hsz hval hA => ?_)
  · rw [Try.params7] at h
    match ds, h with
    | [d1], _ => rfl
  · rw [Try.params7] at hA hval
    obtain ⟨v0, vs0, d0, ds0, p0, q0, rfl, rfl, rfl, h0, r0⟩ := trodAll_cons hA
    obtain ⟨rfl, rfl, rfl⟩ := trodAll_nil r0
    obtain ⟨a, c, l, rfl, hl, hro, hn⟩ := ro_bools Try.underlying45 Try.underlying4 (by kernel_rfl) (hval 0 _ v0 rfl rfl) h0
    have z1 := hn.sized hsz (j := 0) rfl rfl Try.underlying45
    rw [show Try.checked.prog.bytesOf 4 = 1 by kernel_rfl] at z1
    exact ⟨Unit, _, ThreadNothing_fn (all W) a c l (by omega) hro, fun _ => Ent.refl _⟩
theorem threadNothing_over : Rows.threadNothingRow.holds Try.pinned (OpenSpec.ofChange Rows.threadNothingSpec) :=
  OpenClaim.holds_of_wide 7 Try.f7 rfl rfl rfl rfl rfl rfl rfl ⟨rfl, rfl, rfl, rfl, rfl⟩ rfl rfl rfl rfl rfl (by kernel_rfl) Try.func7 (by kernel_rfl)
    (of_decide_eq_true (by kernel_rfl)) (by unfold Func.isWrapper; first | (rw [if_pos (by decide +kernel)]; kernel_rfl) | (rw [if_neg (by decide +kernel)]; exact ⟨rfl, rfl⟩))
    (fun os started H enc _ => threadNothing_lifted os started H enc)
theorem threadNothing_proved : Rows.ThreadNothingSaid := threadNothing_over
#print axioms threadNothing_proved
end Go.Proofs.Ytmlgcldohaiohaa
