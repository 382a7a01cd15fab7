/- CardRuns: whatever the input, true. -/
import Derived.Test.YteomgcebbjoklaaCa3
import Derived.Test.YteomgcebbjoklaaSlL
import Derived.Test.YteomgcebbjoklaaSlZ
import Derived.Test.YteomgcebbjoklaaSl2
import Derived.Test.YteomgcebbjoklaaRows
namespace Go.Proofs.Yteomgcebbjoklaa
open Go.ChangeShapes Go.WideShapes Go.ChangeAt Go.RowKit Go.Sl
set_option linter.unusedVariables false
theorem own : ownKnob Try.prog.godebug = none := by kernel_rfl
theorem laid : laidOutB Try.prog = true := by kernel_rfl
theorem wf_i64' {n : Int} (h : (Lit.int .i64 n).wf = true) : -9223372036854775808 ≤ n ∧ n ≤ 9223372036854775807 := by simpa [Lit.wf, IntKind.min, IntKind.max, IntKind.signed, IntKind.bits] using h
theorem wf_u8' {n : Int} (h : (Lit.int .u8 n).wf = true) : 0 ≤ n ∧ n ≤ 255 := by simpa [Lit.wf, IntKind.min, IntKind.max, IntKind.signed, IntKind.bits] using h
set_option maxRecDepth 100000 in
theorem cardRuns_lifted (os : Os) (started : os.Started) (H : Type) (enc : TypeId × Value → H) :
    ReturnsInHanded {} Try.checked os 9 .any (Rows.cardRunsSpec.pre6 enc Try.prog Try.f9 Rows.cardRunsRow.domain false) (Rows.cardRunsSpec.post enc Try.prog Try.f9 false true false false) := by
  refine law_lifted (C := Try.checked) own started (by kernel_rfl) Try.func9 laid (by kernel_rfl) rfl Try.underlying4 rfl (fun ds h => ?_)
    (ChangeSpec.witness6 (enc := enc) (C := Try.checked) false ⟨#[], #[.int .i64 0, .slice none 0 0], []⟩ 8 (by kernel_rfl) (by kernel_rfl) (by kernel_rfl) (by kernel_rfl)) (fun W base vs ds p hsh hsz hval hA => ?_)
  · rw [Try.params9] at h
    match ds, h with
    | [d0, d1], _ => rfl
  · rw [Try.params9] at hA hval hsz
    obtain ⟨v0, vs0, d0, ds0, p0, q0, rfl, rfl, rfl, h0, r0⟩ := trodAll_cons hA
    obtain ⟨v1, vs1, d1, ds1, p1, q1, rfl, rfl, rfl, h1, r1⟩ := trodAll_cons r0
    obtain ⟨rfl, rfl, rfl⟩ := trodAll_nil r1
    obtain ⟨n0, rfl, rfl, rfl, w0⟩ := open_int Try.underlying3 (hval 0 _ v0 rfl rfl) h0
    obtain ⟨a1, c1, l1, rfl, hl1, hro1, hw1, hn1⟩ := ro_ints Try.underlying35 Try.underlying3 (by kernel_rfl) (hval 1 _ v1 rfl rfl) h1
    have hb1 : Try.checked.prog.bytesOf 3 = 8 := by kernel_rfl
    have z1 := hn1.sized hsz (j := 1) rfl rfl Try.underlying35
    rw [hb1] at z1
    exact ⟨Unit, _, (CardRuns_fn (all W) n0 a1 c1 l1 hro1 (by omega)), fun _ => Ent.refl _⟩
theorem cardRuns_over : Rows.cardRunsRow.holds Try.pinned (OpenSpec.ofChange Rows.cardRunsSpec) :=
  OpenClaim.holds_of_wide 9 Try.f9 rfl rfl rfl rfl rfl rfl rfl ⟨rfl, rfl, rfl, rfl, rfl⟩ rfl rfl rfl rfl rfl (by kernel_rfl) Try.func9 (by kernel_rfl)
    (of_decide_eq_true (by kernel_rfl)) (by unfold Func.isWrapper; first | (rw [if_pos (by decide +kernel)]; kernel_rfl) | (rw [if_neg (by decide +kernel)]; exact ⟨rfl, rfl⟩))
    (fun os started H enc _ => cardRuns_lifted os started H enc)
theorem cardRuns_proved : Rows.CardRunsSaid := cardRuns_over
#print axioms cardRuns_proved
end Go.Proofs.Yteomgcebbjoklaa
