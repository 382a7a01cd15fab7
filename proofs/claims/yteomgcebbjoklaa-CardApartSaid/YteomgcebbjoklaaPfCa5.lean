/- CardApart: whatever the input, true. -/
import Derived.Test.YteomgcebbjoklaaCa7
import Derived.Test.YteomgcebbjoklaaSlL
import Derived.Test.YteomgcebbjoklaaSlZ
import Derived.Test.YteomgcebbjoklaaSl2
import Derived.Test.YteomgcebbjoklaaRows
namespace Go.Proofs.Yteomgcebbjoklaa
open Go.ChangeShapes Go.WideShapes Go.ChangeAt Go.RowKit Go.Sl
set_option linter.unusedVariables false
theorem own : ownKnob Try.prog.godebug = none := by kernel_rfl
theorem laid : laidOutB Try.prog = true := by kernel_rfl
theorem wf_i64' {n : Int} (h : (Lit.int .i64 n).wf = true) : -9223372036854775808 ≤ n ∧ n ≤ 9223372036854775807 := by simpa [Lit.wf, IntKind.min, IntKind.max, IntKind.signed, IntKind.bits] using h
theorem wf_u8' {n : Int} (h : (Lit.int .u8 n).wf = true) : 0 ≤ n ∧ n ≤ 255 := by simpa [Lit.wf, IntKind.min, IntKind.max, IntKind.signed, IntKind.bits] using h
set_option maxRecDepth 100000 in
theorem cardApart_lifted (os : Os) (started : os.Started) (H : Type) (enc : TypeId × Value → H) :
    ReturnsInHanded {} Try.checked os 13 .any (Rows.cardApartSpec.pre6 enc Try.prog Try.f13 Rows.cardApartRow.domain false) (Rows.cardApartSpec.post enc Try.prog Try.f13 false true false false) := by
  refine law_lifted (C := Try.checked) own started (by kernel_rfl) Try.func13 laid (by kernel_rfl) rfl Try.underlying4 rfl (fun ds h => ?_)
    (ChangeSpec.witness6 (enc := enc) (C := Try.checked) false ⟨#[], #[.slice none 0 0, .slice none 0 0], []⟩ 8 (by kernel_rfl) (by kernel_rfl) (by kernel_rfl) (by kernel_rfl)) (fun W base vs ds p hsh hsz hval hA => ?_)
  · rw [Try.params13] at h
    match ds, h with
    | [d0, d1], _ => rfl
  · rw [Try.params13] at hA hval hsz
    obtain ⟨v0, vs0, d0, ds0, p0, q0, rfl, rfl, rfl, h0, r0⟩ := trodAll_cons hA
    obtain ⟨v1, vs1, d1, ds1, p1, q1, rfl, rfl, rfl, h1, r1⟩ := trodAll_cons r0
    obtain ⟨rfl, rfl, rfl⟩ := trodAll_nil r1
    obtain ⟨a0, c0, l0, rfl, hv0, hn0⟩ := vw_bytes Try.underlying29 Try.underlying5 (by kernel_rfl) (hval 0 _ v0 rfl rfl) h0
    have hb0 : Try.checked.prog.bytesOf 5 = 1 := by kernel_rfl
    have z0 := hn0.sized hsz (j := 0) rfl rfl Try.underlying29
    rw [hb0] at z0
    obtain ⟨a1, c1, l1, rfl, hv1, hn1⟩ := vw_bytes Try.underlying29 Try.underlying5 (by kernel_rfl) (hval 1 _ v1 rfl rfl) h1
    have hb1 : Try.checked.prog.bytesOf 5 = 1 := by kernel_rfl
    have z1 := hn1.sized hsz (j := 1) rfl rfl Try.underlying29
    rw [hb1] at z1
    exact ⟨Unit, _, (CardApart_fn (all W) a0 l0.length c0 l0 hv0 (by omega) a1 l1.length c1 l1 hv1 (by omega)), fun _ => Ent.refl _⟩
theorem cardApart_over : Rows.cardApartRow.holds Try.pinned (OpenSpec.ofChange Rows.cardApartSpec) :=
  OpenClaim.holds_of_wide 13 Try.f13 rfl rfl rfl rfl rfl rfl rfl ⟨rfl, rfl, rfl, rfl, rfl⟩ rfl rfl rfl rfl rfl (by kernel_rfl) Try.func13 (by kernel_rfl)
    (of_decide_eq_true (by kernel_rfl)) (by unfold Func.isWrapper; first | (rw [if_pos (by decide +kernel)]; kernel_rfl) | (rw [if_neg (by decide +kernel)]; exact ⟨rfl, rfl⟩))
    (fun os started H enc _ => cardApart_lifted os started H enc)
theorem cardApart_proved : Rows.CardApartSaid := cardApart_over
#print axioms cardApart_proved
end Go.Proofs.Yteomgcebbjoklaa
