/- RootRuns: whatever the input, true. -/
import Derived.Test.YtclmkgnmgednnaaRs
import Derived.Test.YtclmkgnmgednnaaRwD
import Derived.Test.YtclmkgnmgednnaaSlL
import Derived.Test.YtclmkgnmgednnaaSlZ
import Derived.Test.YtclmkgnmgednnaaSl2
import Derived.Test.YtclmkgnmgednnaaRows
namespace Go.Proofs.Ytclmkgnmgednnaa
open Go.ChangeShapes Go.WideShapes Go.ChangeAt Go.RowKit Go.Sl
set_option linter.unusedVariables false
theorem own : ownKnob Try.prog.godebug = none := by kernel_rfl
theorem laid : laidOutB Try.prog = true := by kernel_rfl
theorem wf_i64' {n : Int} (h : (Lit.int .i64 n).wf = true) : -9223372036854775808 ≤ n ∧ n ≤ 9223372036854775807 := by simpa [Lit.wf, IntKind.min, IntKind.max, IntKind.signed, IntKind.bits] using h
theorem wf_u8' {n : Int} (h : (Lit.int .u8 n).wf = true) : 0 ≤ n ∧ n ≤ 255 := by simpa [Lit.wf, IntKind.min, IntKind.max, IntKind.signed, IntKind.bits] using h
set_option maxRecDepth 100000 in
theorem rootRuns_lifted (os : Os) (started : os.Started) (H : Type) (enc : TypeId × Value → H) :
    ReturnsInHanded {} Try.checked os 9 .any (Rows.rootRunsSpec.pre6 enc Try.prog Try.f9 Rows.rootRunsRow.domain false) (Rows.rootRunsSpec.post enc Try.prog Try.f9 false true false false) := by
  refine law_lifted (C := Try.checked) own started (by kernel_rfl) Try.func9 laid (by kernel_rfl) rfl Try.underlying4 rfl (fun ds h => ?_)
    (ChangeSpec.witness6 (enc := enc) (C := Try.checked) false ⟨#[], #[.int .i64 0, .int .i64 0, .slice none 0 0], []⟩ 8 (by kernel_rfl) (by kernel_rfl) (by kernel_rfl) (by kernel_rfl)) (fun W base vs ds p hsh hsz hval hA => ?_)
  · rw [Try.params9] at h
    match ds, h with
    | [d0, d1, d2], _ => rfl
  · rw [Try.params9] at hA hval hsz
    obtain ⟨v0, vs0, d0, ds0, p0, q0, rfl, rfl, rfl, h0, r0⟩ := trodAll_cons hA
    obtain ⟨v1, vs1, d1, ds1, p1, q1, rfl, rfl, rfl, h1, r1⟩ := trodAll_cons r0
    obtain ⟨v2, vs2, d2, ds2, p2, q2, rfl, rfl, rfl, h2, r2⟩ := trodAll_cons r1
    obtain ⟨rfl, rfl, rfl⟩ := trodAll_nil r2
    obtain ⟨n0, rfl, rfl, rfl, w0⟩ := open_int Try.underlying3 (hval 0 _ v0 rfl rfl) h0
    obtain ⟨n1, rfl, rfl, rfl, w1⟩ := open_int Try.underlying3 (hval 1 _ v1 rfl rfl) h1
    obtain ⟨a2, c2, l2, rfl, hl2, hro2, hw2, hn2, hnil2, hcap2⟩ := ro_slice0 (s := 4) (dc := D7.cs) (I := (fun _ => True)) Try.underlying48 (by kernel_rfl) (fun _ => rfl) (d7_trod) (hval 2 _ v2 rfl rfl) h2
    have hb2 : Try.checked.prog.bytesOf 58 = 32 := by kernel_rfl
    have z2 := hn2.sized hsz (j := 2) rfl rfl Try.underlying48
    rw [hb2] at z2
    exact ⟨Unit, _, RootRuns_fn (all W) n0 n1 a2 c2 l2 (by omega) hro2, fun _ => Ent.refl _⟩
theorem rootRuns_over : Rows.rootRunsRow.holds Try.pinned (OpenSpec.ofChange Rows.rootRunsSpec) :=
  OpenClaim.holds_of_wide 9 Try.f9 rfl rfl rfl rfl rfl rfl rfl ⟨rfl, rfl, rfl, rfl, rfl⟩ rfl rfl rfl rfl rfl (by kernel_rfl) Try.func9 (by kernel_rfl)
    (of_decide_eq_true (by kernel_rfl)) (by unfold Func.isWrapper; first | (rw [if_pos (by decide +kernel)]; kernel_rfl) | (rw [if_neg (by decide +kernel)]; exact ⟨rfl, rfl⟩))
    (fun os started H enc _ => rootRuns_lifted os started H enc)
theorem rootRuns_proved : Rows.RootRunsSaid := rootRuns_over
#print axioms rootRuns_proved
end Go.Proofs.Ytclmkgnmgednnaa
