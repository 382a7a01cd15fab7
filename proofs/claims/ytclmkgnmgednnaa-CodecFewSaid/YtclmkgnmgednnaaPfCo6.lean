/- CodecFew: whatever the input, true. -/
import Derived.Test.YtclmkgnmgednnaaCo17
import Derived.Test.YtclmkgnmgednnaaRwI
import Derived.Test.YtclmkgnmgednnaaSlL
import Derived.Test.YtclmkgnmgednnaaSlZ
import Derived.Test.YtclmkgnmgednnaaSl2
import Derived.Test.YtclmkgnmgednnaaRows
namespace Go.Proofs.Ytclmkgnmgednnaa
open Go.ChangeShapes Go.WideShapes Go.ChangeAt Go.RowKit Go.Sl
set_option linter.unusedVariables false
theorem own : ownKnob Try.prog.godebug = none := by kernel_rfl
theorem laid : laidOutB Try.prog = true := by kernel_rfl
theorem wf_i64' {n : Int} (h : (Lit.int .i64 n).wf = true) : -9223372036854775808 ≤ n ∧ n ≤ 9223372036854775807 := by simpa [Lit.wf, IntKind.min, IntKind.max, IntKind.signed, IntKind.bits] using h
theorem wf_u8' {n : Int} (h : (Lit.int .u8 n).wf = true) : 0 ≤ n ∧ n ≤ 255 := by simpa [Lit.wf, IntKind.min, IntKind.max, IntKind.signed, IntKind.bits] using h
set_option maxRecDepth 100000 in
theorem codecFew_lifted (os : Os) (started : os.Started) (H : Type) (enc : TypeId × Value → H) :
    ReturnsInHanded {} Try.checked os 8 .any (Rows.codecFewSpec.pre6 enc Try.prog Try.f8 Rows.codecFewRow.domain false) (Rows.codecFewSpec.post enc Try.prog Try.f8 false true false false) := by
  refine law_lifted (C := Try.checked) own started (by kernel_rfl) Try.func8 laid (by kernel_rfl) rfl Try.underlying4 rfl (fun ds h => ?_)
    (ChangeSpec.witness6 (enc := enc) (C := Try.checked) false ⟨#[], #[.slice none 0 0, .int .i64 0, .int .i64 0], []⟩ 8 (by kernel_rfl) (by kernel_rfl) (by kernel_rfl) (by kernel_rfl)) (fun W base vs ds p hsh hsz hval hA => ?_)
  · rw [Try.params8] at h
    match ds, h with
    | [d0, d1, d2], _ => rfl
  · rw [Try.params8] at hA hval hsz
    obtain ⟨v0, vs0, d0, ds0, p0, q0, rfl, rfl, rfl, h0, r0⟩ := trodAll_cons hA
    obtain ⟨v1, vs1, d1, ds1, p1, q1, rfl, rfl, rfl, h1, r1⟩ := trodAll_cons r0
    obtain ⟨v2, vs2, d2, ds2, p2, q2, rfl, rfl, rfl, h2, r2⟩ := trodAll_cons r1
    obtain ⟨rfl, rfl, rfl⟩ := trodAll_nil r2
    obtain ⟨a0, c0, l0, rfl, hl0, hro0, hw0, hn0, hnil0, hcap0⟩ := ro_slice0 (s := 6) (dc := It.cs) (I := ItOk) Try.underlying22 (by kernel_rfl) (fun _ => rfl) (it_trod) (hval 0 _ v0 rfl rfl) h0
    have hb0 : Try.checked.prog.bytesOf 42 = 48 := by kernel_rfl
    have z0 := hn0.sized hsz (j := 0) rfl rfl Try.underlying22
    rw [hb0] at z0
    obtain ⟨n1, rfl, rfl, rfl, w1⟩ := open_int Try.underlying3 (hval 1 _ v1 rfl rfl) h1
    obtain ⟨n2, rfl, rfl, rfl, w2⟩ := open_int Try.underlying3 (hval 2 _ v2 rfl rfl) h2
    exact ⟨Unit, _, CodecFew_fn n1 n2 (wf64 w2) hro0 hw0 hnil0 hcap0 (by omega), fun _ => Ent.refl _⟩
theorem codecFew_over : Rows.codecFewRow.holds Try.pinned (OpenSpec.ofChange Rows.codecFewSpec) :=
  OpenClaim.holds_of_wide 8 Try.f8 rfl rfl rfl rfl rfl rfl rfl ⟨rfl, rfl, rfl, rfl, rfl⟩ rfl rfl rfl rfl rfl (by kernel_rfl) Try.func8 (by kernel_rfl)
    (of_decide_eq_true (by kernel_rfl)) (by unfold Func.isWrapper; first | (rw [if_pos (by decide +kernel)]; kernel_rfl) | (rw [if_neg (by decide +kernel)]; exact ⟨rfl, rfl⟩))
    (fun os started H enc _ => codecFew_lifted os started H enc)
theorem codecFew_proved : Rows.CodecFewSaid := codecFew_over
#print axioms codecFew_proved
end Go.Proofs.Ytclmkgnmgednnaa
