/- CodecBack: whatever the input, true. -/
import Derived.Test.YtclmkgnmgednnaaCo15
import Derived.Test.YtclmkgnmgednnaaRwI
import Derived.Test.YtclmkgnmgednnaaSlL
import Derived.Test.YtclmkgnmgednnaaSlZ
import Derived.Test.YtclmkgnmgednnaaSl2
import Derived.Test.YtclmkgnmgednnaaRows
namespace Go.Proofs.Ytclmkgnmgednnaa
open Go.ChangeShapes Go.WideShapes Go.ChangeAt Go.RowKit Go.Sl
set_option linter.unusedVariables false
theorem own : ownKnob Try.prog.godebug = none := by kernel_rfl
theorem laid : laidOutB Try.prog = true := by kernel_rfl
theorem wf_i64' {n : Int} (h : (Lit.int .i64 n).wf = true) : -9223372036854775808 ≤ n ∧ n ≤ 9223372036854775807 := by simpa [Lit.wf, IntKind.min, IntKind.max, IntKind.signed, IntKind.bits] using h
theorem wf_u8' {n : Int} (h : (Lit.int .u8 n).wf = true) : 0 ≤ n ∧ n ≤ 255 := by simpa [Lit.wf, IntKind.min, IntKind.max, IntKind.signed, IntKind.bits] using h
set_option maxRecDepth 100000 in
theorem codecBack_lifted (os : Os) (started : os.Started) (H : Type) (enc : TypeId × Value → H) :
    ReturnsInHanded {} Try.checked os 3 .any (Rows.codecBackSpec.pre6 enc Try.prog Try.f3 Rows.codecBackRow.domain false) (Rows.codecBackSpec.post enc Try.prog Try.f3 false true false false) := by
  refine law_lifted (C := Try.checked) own started (by kernel_rfl) Try.func3 laid (by kernel_rfl) rfl Try.underlying4 rfl (fun ds h => ?_)
    (ChangeSpec.witness6 (enc := enc) (C := Try.checked) false ⟨#[], #[.slice none 0 0, .slice none 0 0], []⟩ 8 (by kernel_rfl) (by kernel_rfl) (by kernel_rfl) (by kernel_rfl)) (fun W base vs ds p hsh hsz hval hA => ?_)
  · rw [Try.params3] at h
    match ds, h with
    | [d0, d1], _ => rfl
  · rw [Try.params3] at hA hval hsz
    obtain ⟨v0, vs0, d0, ds0, p0, q0, rfl, rfl, rfl, h0, r0⟩ := trodAll_cons hA
    obtain ⟨v1, vs1, d1, ds1, p1, q1, rfl, rfl, rfl, h1, r1⟩ := trodAll_cons r0
    obtain ⟨rfl, rfl, rfl⟩ := trodAll_nil r1
    obtain ⟨a0, c0, l0, rfl, hl0, hro0, hw0, hn0, hnil0, hcap0⟩ := ro_slice0 (s := 6) (dc := It.cs) (I := ItOk) Try.underlying22 (by kernel_rfl) (fun _ => rfl) (it_trod) (hval 0 _ v0 rfl rfl) h0
    have hb0 : Try.checked.prog.bytesOf 42 = 48 := by kernel_rfl
    have z0 := hn0.sized hsz (j := 0) rfl rfl Try.underlying22
    rw [hb0] at z0
    obtain ⟨a1, c1, l1, rfl, hl1, hro1, hw1, hn1, hnil1, hcap1⟩ := ro_slice0 (s := 7) (dc := Stp.cs) (I := StOk) Try.underlying23 (by kernel_rfl) (fun _ => rfl) (st_trod) (hval 1 _ v1 rfl rfl) h1
    have hb1 : Try.checked.prog.bytesOf 83 = 16 := by kernel_rfl
    have z1 := hn1.sized hsz (j := 1) rfl rfl Try.underlying23
    rw [hb1] at z1
    exact ⟨Unit, _, CodecBack_fn hro0 hro1 hw0 hw1 hnil0 hcap0 (by omega) (by omega), fun _ => Ent.refl _⟩
theorem codecBack_over : Rows.codecBackRow.holds Try.pinned (OpenSpec.ofChange Rows.codecBackSpec) :=
  OpenClaim.holds_of_wide 3 Try.f3 rfl rfl rfl rfl rfl rfl rfl ⟨rfl, rfl, rfl, rfl, rfl⟩ rfl rfl rfl rfl rfl (by kernel_rfl) Try.func3 (by kernel_rfl)
    (of_decide_eq_true (by kernel_rfl)) (by unfold Func.isWrapper; first | (rw [if_pos (by decide +kernel)]; kernel_rfl) | (rw [if_neg (by decide +kernel)]; exact ⟨rfl, rfl⟩))
    (fun os started H enc _ => codecBack_lifted os started H enc)
theorem codecBack_proved : Rows.CodecBackSaid := codecBack_over
#print axioms codecBack_proved
end Go.Proofs.Ytclmkgnmgednnaa
