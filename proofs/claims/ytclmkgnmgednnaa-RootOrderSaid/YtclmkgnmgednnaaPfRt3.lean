/- RootOrder: whatever the input, true. -/
import Derived.Test.YtclmkgnmgednnaaRo7
import Derived.Test.YtclmkgnmgednnaaRwD
import Derived.Test.YtclmkgnmgednnaaSlL
import Derived.Test.YtclmkgnmgednnaaSlZ
import Derived.Test.YtclmkgnmgednnaaSl2
import Derived.Test.YtclmkgnmgednnaaRows
namespace Go.Proofs.Ytclmkgnmgednnaa
open Go.ChangeShapes Go.WideShapes Go.ChangeAt Go.RowKit Go.Sl
set_option linter.unusedVariables false
theorem own : ownKnob Try.prog.godebug = none := by kernel_rfl
theorem laid : laidOutB Try.prog = true := by kernel_rfl
theorem wf_i64' {n : Int} (h : (Lit.int .i64 n).wf = true) : -9223372036854775808 ≤ n ∧ n ≤ 9223372036854775807 := by simpa [Lit.wf, IntKind.min, IntKind.max, IntKind.signed, IntKind.bits] using h
theorem wf_u8' {n : Int} (h : (Lit.int .u8 n).wf = true) : 0 ≤ n ∧ n ≤ 255 := by simpa [Lit.wf, IntKind.min, IntKind.max, IntKind.signed, IntKind.bits] using h
set_option maxRecDepth 100000 in
theorem rootOrder_lifted (os : Os) (started : os.Started) (H : Type) (enc : TypeId × Value → H) :
    ReturnsInHanded {} Try.checked os 11 .any (Rows.rootOrderSpec.pre6 enc Try.prog Try.f11 Rows.rootOrderRow.domain false) (Rows.rootOrderSpec.post enc Try.prog Try.f11 false true false false) := by
  refine law_lifted (C := Try.checked) own started (by kernel_rfl) Try.func11 laid (by kernel_rfl) rfl Try.underlying4 rfl (fun ds h => ?_)
    (ChangeSpec.witness6 (enc := enc) (C := Try.checked) false ⟨#[], #[.slice none 0 0], []⟩ 8 (by kernel_rfl) (by kernel_rfl) (by kernel_rfl) (by kernel_rfl)) (fun W base vs ds p hsh hsz hval hA => ?_)
  · rw [Try.params11] at h
    match ds, h with
    | [d0], _ => rfl
  · rw [Try.params11] at hA hval hsz
    obtain ⟨v0, vs0, d0, ds0, p0, q0, rfl, rfl, rfl, h0, r0⟩ := trodAll_cons hA
    obtain ⟨rfl, rfl, rfl⟩ := trodAll_nil r0
    obtain ⟨a0, c0, l0, rfl, hl0, hro0, hw0, hn0, hnil0, hcap0⟩ := ro_slice0 (s := 4) (dc := D7.cs) (I := (fun _ => True)) Try.underlying48 (by kernel_rfl) (fun _ => rfl) (d7_trod) (hval 0 _ v0 rfl rfl) h0
    have hb0 : Try.checked.prog.bytesOf 58 = 32 := by kernel_rfl
    have z0 := hn0.sized hsz (j := 0) rfl rfl Try.underlying48
    rw [hb0] at z0
    exact ⟨Unit, _, RootOrder_fn (all W) a0 c0 l0 (by omega) hro0, fun _ => Ent.refl _⟩
theorem rootOrder_over : Rows.rootOrderRow.holds Try.pinned (OpenSpec.ofChange Rows.rootOrderSpec) :=
  OpenClaim.holds_of_wide 11 Try.f11 rfl rfl rfl rfl rfl rfl rfl ⟨rfl, rfl, rfl, rfl, rfl⟩ rfl rfl rfl rfl rfl (by kernel_rfl) Try.func11 (by kernel_rfl)
    (of_decide_eq_true (by kernel_rfl)) (by unfold Func.isWrapper; first | (rw [if_pos (by decide +kernel)]; kernel_rfl) | (rw [if_neg (by decide +kernel)]; exact ⟨rfl, rfl⟩))
    (fun os started H enc _ => rootOrder_lifted os started H enc)
theorem rootOrder_proved : Rows.RootOrderSaid := rootOrder_over
#print axioms rootOrder_proved
end Go.Proofs.Ytclmkgnmgednnaa
