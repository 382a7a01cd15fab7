/- BitsRuns: whatever the input, true. -/
import Derived.Test.YteomgcebbjoklaaBq
import Derived.Test.YteomgcebbjoklaaSlL
import Derived.Test.YteomgcebbjoklaaSlZ
import Derived.Test.YteomgcebbjoklaaSl2
import Derived.Test.YteomgcebbjoklaaRows
namespace Go.Proofs.Yteomgcebbjoklaa
open Go.ChangeShapes Go.WideShapes Go.ChangeAt Go.RowKit Go.Sl
set_option linter.unusedVariables false
theorem own : ownKnob Try.prog.godebug = none := by kernel_rfl
theorem laid : laidOutB Try.prog = true := by kernel_rfl
theorem wf_i64' {n : Int} (h : (Lit.int .i64 n).wf = true) : -9223372036854775808 ≤ n ∧ n ≤ 9223372036854775807 := by simpa [Lit.wf, IntKind.min, IntKind.max, IntKind.signed, IntKind.bits] using h
theorem wf_u8' {n : Int} (h : (Lit.int .u8 n).wf = true) : 0 ≤ n ∧ n ≤ 255 := by simpa [Lit.wf, IntKind.min, IntKind.max, IntKind.signed, IntKind.bits] using h
set_option maxRecDepth 100000 in
theorem bitsRuns_lifted (os : Os) (started : os.Started) (H : Type) (enc : TypeId × Value → H) :
    ReturnsInHanded {} Try.checked os 7 .any (Rows.bitsRunsSpec.pre6 enc Try.prog Try.f7 Rows.bitsRunsRow.domain false) (Rows.bitsRunsSpec.post enc Try.prog Try.f7 false true false false) := by
  refine law_lifted (C := Try.checked) own started (by kernel_rfl) Try.func7 laid (by kernel_rfl) rfl Try.underlying4 rfl (fun ds h => ?_)
    (ChangeSpec.witness6 (enc := enc) (C := Try.checked) false ⟨#[], #[.int .i64 0, .slice none 0 0, .slice none 0 0], []⟩ 8 (by kernel_rfl) (by kernel_rfl) (by kernel_rfl) (by kernel_rfl)) (fun W base vs ds p hsh hsz hval hA => ?_)
  · rw [Try.params7] at h
    match ds, h with
    | [d0, d1, d2], _ => rfl
  · rw [Try.params7] at hA hval hsz
    obtain ⟨v0, vs0, d0, ds0, p0, q0, rfl, rfl, rfl, h0, r0⟩ := trodAll_cons hA
    obtain ⟨v1, vs1, d1, ds1, p1, q1, rfl, rfl, rfl, h1, r1⟩ := trodAll_cons r0
    obtain ⟨v2, vs2, d2, ds2, p2, q2, rfl, rfl, rfl, h2, r2⟩ := trodAll_cons r1
    obtain ⟨rfl, rfl, rfl⟩ := trodAll_nil r2
    obtain ⟨n0, rfl, rfl, rfl, w0⟩ := open_int Try.underlying3 (hval 0 _ v0 rfl rfl) h0
    obtain ⟨a1, c1, l1, rfl, hl1, hro1, hw1, hn1⟩ := ro_ints Try.underlying35 Try.underlying3 (by kernel_rfl) (hval 1 _ v1 rfl rfl) h1
    have hb1 : Try.checked.prog.bytesOf 3 = 8 := by kernel_rfl
    have z1 := hn1.sized hsz (j := 1) rfl rfl Try.underlying35
    rw [hb1] at z1
    obtain ⟨a2, c2, l2, rfl, hv2, hn2⟩ := vw_bytes Try.underlying29 Try.underlying5 (by kernel_rfl) (hval 2 _ v2 rfl rfl) h2
    have hb2 : Try.checked.prog.bytesOf 5 = 1 := by kernel_rfl
    have z2 := hn2.sized hsz (j := 2) rfl rfl Try.underlying29
    rw [hb2] at z2
    exact ⟨Unit, _, (BitsRuns_fn (all W) n0 a1 c1 l1 hro1 (by omega) a2 l2.length c2 l2 hv2 (by omega)), fun _ => Ent.refl _⟩
theorem bitsRuns_over : Rows.bitsRunsRow.holds Try.pinned (OpenSpec.ofChange Rows.bitsRunsSpec) :=
  OpenClaim.holds_of_wide 7 Try.f7 rfl rfl rfl rfl rfl rfl rfl ⟨rfl, rfl, rfl, rfl, rfl⟩ rfl rfl rfl rfl rfl (by kernel_rfl) Try.func7 (by kernel_rfl)
    (of_decide_eq_true (by kernel_rfl)) (by unfold Func.isWrapper; first | (rw [if_pos (by decide +kernel)]; kernel_rfl) | (rw [if_neg (by decide +kernel)]; exact ⟨rfl, rfl⟩))
    (fun os started H enc _ => bitsRuns_lifted os started H enc)
theorem bitsRuns_proved : Rows.BitsRunsSaid := bitsRuns_over
#print axioms bitsRuns_proved
end Go.Proofs.Yteomgcebbjoklaa
