/- CodecAny: whatever the input, true. -/
import Derived.Test.YtclmkgnmgednnaaCo10
import Derived.Test.YtclmkgnmgednnaaSlZ
import Derived.Test.YtclmkgnmgednnaaSlL
import Derived.Test.YtclmkgnmgednnaaRows
namespace Go.Proofs.Ytclmkgnmgednnaa
open Go.ChangeShapes Go.WideShapes Go.ChangeAt Go.RowKit Go.Sl
set_option linter.unusedVariables false
theorem own : ownKnob Try.prog.godebug = none := by kernel_rfl
theorem laid : laidOutB Try.prog = true := by kernel_rfl
theorem wf_i64' {n : Int} (h : (Lit.int .i64 n).wf = true) : -9223372036854775808 ≤ n ∧ n ≤ 9223372036854775807 := by simpa [Lit.wf, IntKind.min, IntKind.max, IntKind.signed, IntKind.bits] using h
set_option maxRecDepth 100000 in
theorem codecAny_lifted (os : Os) (started : os.Started) (H : Type) (enc : TypeId × Value → H) :
    ReturnsInHanded {} Try.checked os 4 .any (Rows.codecAnySpec.pre6 enc Try.prog Try.f4 Rows.codecAnyRow.domain false) (Rows.codecAnySpec.post enc Try.prog Try.f4 false true false false) := by
  refine law_lifted (C := Try.checked) own started (by kernel_rfl) Try.func4 laid (by kernel_rfl) rfl Try.underlying4 rfl (fun ds h => ?_)
    (ChangeSpec.witness6 (enc := enc) (C := Try.checked) false ⟨#[], #[.slice none 0 0], []⟩ 8 (by kernel_rfl) (by kernel_rfl) (by kernel_rfl) (by kernel_rfl)) (fun W base vs ds p hsh hsz hval hA => ?_)
  · rw [Try.params4] at h
    match ds, h with
    | [d1], _ => rfl
  · rw [Try.params4] at hA hval hsz
    obtain ⟨v0, vs0, d0, ds0, p0, q0, rfl, rfl, rfl, h0, r0⟩ := trodAll_cons hA
    obtain ⟨rfl, rfl, rfl⟩ := trodAll_nil r0
    obtain ⟨a1, c1, l1, rfl, hv1, hn1⟩ := vw_bytes Try.underlying26 Try.underlying5 (by kernel_rfl) (hval 0 _ v0 rfl rfl) h0
    have hb : Try.checked.prog.bytesOf 5 = 1 := by kernel_rfl
    have z1 := hn1.sized hsz (j := 0) rfl rfl Try.underlying26
    rw [hb] at z1
    exact ⟨Unit, _, CodecAny_fn hv1 (by omega), fun _ => Ent.refl _⟩
theorem codecAny_over : Rows.codecAnyRow.holds Try.pinned (OpenSpec.ofChange Rows.codecAnySpec) :=
  OpenClaim.holds_of_wide 4 Try.f4 rfl rfl rfl rfl rfl rfl rfl ⟨rfl, rfl, rfl, rfl, rfl⟩ rfl rfl rfl rfl rfl (by kernel_rfl) Try.func4 (by kernel_rfl)
    (of_decide_eq_true (by kernel_rfl)) (by unfold Func.isWrapper; first | (rw [if_pos (by decide +kernel)]; kernel_rfl) | (rw [if_neg (by decide +kernel)]; exact ⟨rfl, rfl⟩))
    (fun os started H enc _ => codecAny_lifted os started H enc)
theorem codecAny_proved : Rows.CodecAnySaid := codecAny_over
#print axioms codecAny_proved
end Go.Proofs.Ytclmkgnmgednnaa
