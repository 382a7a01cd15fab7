/- ThreadTurns: whatever the input, true. -/
import Derived.Test.YtmlgcldohaiohaaLawThr
import Derived.Test.YtmlgcldohaiohaaSlL
import Derived.Test.YtmlgcldohaiohaaRows
namespace Go.Proofs.Ytmlgcldohaiohaa
open Go.ChangeShapes Go.WideShapes Go.ChangeAt Go.RowKit Go.Sl
set_option linter.unusedVariables false
theorem own : ownKnob Try.prog.godebug = none := by kernel_rfl
theorem laid : laidOutB Try.prog = true := by kernel_rfl
set_option maxRecDepth 100000 in
theorem threadTurns_lifted (os : Os) (started : os.Started) (H : Type) (enc : TypeId × Value → H) :
    ReturnsInHanded {} Try.checked os 3 .any (Rows.threadTurnsSpec.pre6 enc Try.prog Try.f3 Rows.threadTurnsRow.domain false) (Rows.threadTurnsSpec.post enc Try.prog Try.f3 false true false false) := by
  refine law_lifted (C := Try.checked) own started (by kernel_rfl) Try.func3 laid (by kernel_rfl) rfl Try.underlying4 rfl (fun ds h => ?_)
    (ChangeSpec.witness6 (enc := enc) (C := Try.checked) false ⟨#[], #[.slice none 0 0, .int .u8 0], []⟩ 8 (by kernel_rfl) (by kernel_rfl) (by kernel_rfl) (by kernel_rfl)) (fun W base vs ds p hsh hsz hval hA => ?_)
  · rw [Try.params3] at h
    match ds, h with
    | [d1, d2], _ => rfl
  · rw [Try.params3] at hA hval
    obtain ⟨v0, vs0, d0, ds0, p0, q0, rfl, rfl, rfl, h0, r0⟩ := trodAll_cons hA
    obtain ⟨v1, vs1, d1, ds1, p1, q1, rfl, rfl, rfl, h1, r1⟩ := trodAll_cons r0
    obtain ⟨rfl, rfl, rfl⟩ := trodAll_nil r1
    obtain ⟨a, c, l, rfl, hl, hro, hw, hn⟩ := ro_ints Try.underlying22 Try.underlying28 (by kernel_rfl) (hval 0 _ v0 rfl rfl) h0
    obtain ⟨st, rfl, rfl, rfl, w1⟩ := open_int Try.underlying5 (hval 1 5 v1 rfl rfl) h1
    have hst : 0 ≤ st ∧ st ≤ 255 := by simpa [Lit.wf, IntKind.min, IntKind.max, IntKind.signed, IntKind.bits] using w1
    exact ⟨Unit, _, ThreadTurns_fn (all W) a c l st hst hro, fun _ => Ent.refl _⟩
theorem threadTurns_over : Rows.threadTurnsRow.holds Try.pinned (OpenSpec.ofChange Rows.threadTurnsSpec) :=
  OpenClaim.holds_of_wide 3 Try.f3 rfl rfl rfl rfl rfl rfl rfl ⟨rfl, rfl, rfl, rfl, rfl⟩ rfl rfl rfl rfl rfl (by kernel_rfl) Try.func3 (by kernel_rfl)
    (of_decide_eq_true (by kernel_rfl)) (by unfold Func.isWrapper; first | (rw [if_pos (by decide +kernel)]; kernel_rfl) | (rw [if_neg (by decide +kernel)]; exact ⟨rfl, rfl⟩))
    (fun os started H enc _ => threadTurns_lifted os started H enc)
theorem threadTurns_proved : Rows.ThreadTurnsSaid := threadTurns_over
#print axioms threadTurns_proved
end Go.Proofs.Ytmlgcldohaiohaa
