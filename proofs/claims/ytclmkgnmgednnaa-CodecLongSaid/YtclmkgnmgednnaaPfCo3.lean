/- CodecLong: whatever the input, true. -/
import Derived.Test.YtclmkgnmgednnaaCo12
import Derived.Test.YtclmkgnmgednnaaRwI
import Derived.Test.YtclmkgnmgednnaaSlL
import Derived.Test.YtclmkgnmgednnaaRows
namespace Go.Proofs.Ytclmkgnmgednnaa
open Go.ChangeShapes Go.WideShapes Go.ChangeAt Go.RowKit Go.Sl
set_option linter.unusedVariables false
theorem own : ownKnob Try.prog.godebug = none := by kernel_rfl
theorem laid : laidOutB Try.prog = true := by kernel_rfl
theorem wf_i64' {n : Int} (h : (Lit.int .i64 n).wf = true) : -9223372036854775808 ≤ n ∧ n ≤ 9223372036854775807 := by simpa [Lit.wf, IntKind.min, IntKind.max, IntKind.signed, IntKind.bits] using h
theorem wf_u8' {n : Int} (h : (Lit.int .u8 n).wf = true) : 0 ≤ n ∧ n ≤ 255 := by simpa [Lit.wf, IntKind.min, IntKind.max, IntKind.signed, IntKind.bits] using h
set_option maxRecDepth 100000 in
theorem codecLong_lifted (os : Os) (started : os.Started) (H : Type) (enc : TypeId × Value → H) :
    ReturnsInHanded {} Try.checked os 7 .any (Rows.codecLongSpec.pre6 enc Try.prog Try.f7 Rows.codecLongRow.domain false) (Rows.codecLongSpec.post enc Try.prog Try.f7 false true false false) := by
  refine law_lifted (C := Try.checked) own started (by kernel_rfl) Try.func7 laid (by kernel_rfl) rfl Try.underlying4 rfl (fun ds h => ?_)
    (ChangeSpec.witness6 (enc := enc) (C := Try.checked) false ⟨#[], #[.int .u8 0, .agg #[.int .i64 0, .int .i64 0, .int .i64 0, .int .i64 0, .int .i64 0, .int .i64 0]], []⟩ 8 (by kernel_rfl) (by kernel_rfl) (by kernel_rfl) (by kernel_rfl)) (fun W base vs ds p hsh hsz hval hA => ?_)
  · rw [Try.params7] at h
    match ds, h with
    | [d0, d1], _ => rfl
  · rw [Try.params7] at hA hval hsz
    obtain ⟨v0, vs0, d0, ds0, p0, q0, rfl, rfl, rfl, h0, r0⟩ := trodAll_cons hA
    obtain ⟨v1, vs1, d1, ds1, p1, q1, rfl, rfl, rfl, h1, r1⟩ := trodAll_cons r0
    obtain ⟨rfl, rfl, rfl⟩ := trodAll_nil r1
    obtain ⟨n0, rfl, rfl, rfl, w0⟩ := open_int Try.underlying5 (hval 0 _ v0 rfl rfl) h0
    obtain ⟨cs1, nn1, rfl, t1⟩ := open_agg (.inl ⟨_, Try.underlying42⟩) (hval 1 _ v1 rfl rfl) h1
    obtain ⟨x, hx, rfl⟩ := it_trod _ _ _ t1
    exact ⟨Unit, _, CodecLong_fn n0 (wf_u8' w0) x hx (all W), fun _ => Ent.refl _⟩
theorem codecLong_over : Rows.codecLongRow.holds Try.pinned (OpenSpec.ofChange Rows.codecLongSpec) :=
  OpenClaim.holds_of_wide 7 Try.f7 rfl rfl rfl rfl rfl rfl rfl ⟨rfl, rfl, rfl, rfl, rfl⟩ rfl rfl rfl rfl rfl (by kernel_rfl) Try.func7 (by kernel_rfl)
    (of_decide_eq_true (by kernel_rfl)) (by unfold Func.isWrapper; first | (rw [if_pos (by decide +kernel)]; kernel_rfl) | (rw [if_neg (by decide +kernel)]; exact ⟨rfl, rfl⟩))
    (fun os started H enc _ => codecLong_lifted os started H enc)
theorem codecLong_proved : Rows.CodecLongSaid := codecLong_over
#print axioms codecLong_proved
end Go.Proofs.Ytclmkgnmgednnaa
