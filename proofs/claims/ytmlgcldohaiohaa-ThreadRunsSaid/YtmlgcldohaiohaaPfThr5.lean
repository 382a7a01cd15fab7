/- ThreadRuns: whatever the input, true. -/
import Derived.Test.YtmlgcldohaiohaaRn
import Derived.Test.YtmlgcldohaiohaaSlL
import Derived.Test.YtmlgcldohaiohaaRows
namespace Go.Proofs.Ytmlgcldohaiohaa
open Go.ChangeShapes Go.WideShapes Go.ChangeAt Go.RowKit Go.Sl
set_option linter.unusedVariables false
theorem own : ownKnob Try.prog.godebug = none := by kernel_rfl
theorem laid : laidOutB Try.prog = true := by kernel_rfl
theorem deed_trod {H : Type} {enc : TypeId × Value → H} {W : World} (n : Nat) (cs : List Value) (y : DataW H × List MemPlace) (h : DataW.trod enc Try.prog W 0 (fun _ => true) true n 36 cs = some y) : ∃ x : Dd, True ∧ cs = x.cs := by
  obtain ⟨xs, m, _, _, hl, hlen, hf⟩ := DataW.trod_struct Try.underlying36 h
  have h0 := hf 0 _ rfl
  have h1 := hf 1 _ rfl
  have h2 := hf 2 _ rfl
  have hc : Try.prog.cellsOf 36 = 3 := by kernel_rfl
  have hx : xs.length = 3 := hlen
  rw [List.getElem?_eq_getElem (by omega)] at h0 h1 h2
  obtain ⟨a, ha, _⟩ := DataW.trod_int Try.underlying3 h0
  obtain ⟨b, hb, _⟩ := DataW.trod_int Try.underlying3 h1
  obtain ⟨c, hc', _⟩ := DataW.trod_int Try.underlying28 h2
  rw [show Try.prog.cellsOf _ = 1 by kernel_rfl] at ha hb hc'
  rw [hc] at hl
  match cs, hl with
  | [u0, u1, u2], _ =>
    simp at ha hb hc'
    exact ⟨⟨a, b, c⟩, trivial, by rw [ha, hb, hc']⟩
set_option maxRecDepth 100000 in
theorem threadRuns_lifted (os : Os) (started : os.Started) (H : Type) (enc : TypeId × Value → H) :
    ReturnsInHanded {} Try.checked os 5 .any (Rows.threadRunsSpec.pre6 enc Try.prog Try.f5 Rows.threadRunsRow.domain false) (Rows.threadRunsSpec.post enc Try.prog Try.f5 false true false false) := by
  refine law_lifted (C := Try.checked) own started (by kernel_rfl) Try.func5 laid (by kernel_rfl) rfl Try.underlying4 rfl (fun ds h => ?_)
    (ChangeSpec.witness6 (enc := enc) (C := Try.checked) false ⟨#[], #[.int .i64 0, .int .i64 0, .slice none 0 0], []⟩ 8 (by kernel_rfl) (by kernel_rfl) (by kernel_rfl) (by kernel_rfl)) (fun W base vs ds p hsh hsz hval hA => ?_)
  · rw [Try.params5] at h
    match ds, h with
    | [d1, d2, d3], _ => rfl
  · rw [Try.params5] at hA hval hsz
    obtain ⟨v0, vs0, d0, ds0, p0, q0, rfl, rfl, rfl, h0, r0⟩ := trodAll_cons hA
    obtain ⟨v1, vs1, d1, ds1, p1, q1, rfl, rfl, rfl, h1, r1⟩ := trodAll_cons r0
    obtain ⟨v2, vs2, d2, ds2, p2, q2, rfl, rfl, rfl, h2, r2⟩ := trodAll_cons r1
    obtain ⟨rfl, rfl, rfl⟩ := trodAll_nil r2
    have hb : Try.checked.prog.bytesOf 36 = 24 := by kernel_rfl
    obtain ⟨rr, rfl, rfl, rfl, w0⟩ := open_int Try.underlying3 (hval 0 3 v0 rfl rfl) h0
    obtain ⟨ss, rfl, rfl, rfl, w1⟩ := open_int Try.underlying3 (hval 1 3 v1 rfl rfl) h1
    obtain ⟨a1, c1, l, rfl, hl, hro, hw, hn⟩ := ro_slice (s := 3) (dc := Dd.cs) (I := fun _ => True) Try.underlying34 (by kernel_rfl) (fun _ => rfl) deed_trod (hval 2 _ v2 rfl rfl) h2
    have z1 := hn.sized hsz (j := 2) rfl rfl Try.underlying34
    rw [hb] at z1
    exact ⟨Unit, _, ThreadRuns_fn (all W) a1 c1 l rr ss (by omega) hro, fun _ => Ent.refl _⟩
theorem threadRuns_over : Rows.threadRunsRow.holds Try.pinned (OpenSpec.ofChange Rows.threadRunsSpec) :=
  OpenClaim.holds_of_wide 5 Try.f5 rfl rfl rfl rfl rfl rfl rfl ⟨rfl, rfl, rfl, rfl, rfl⟩ rfl rfl rfl rfl rfl (by kernel_rfl) Try.func5 (by kernel_rfl)
    (of_decide_eq_true (by kernel_rfl)) (by unfold Func.isWrapper; first | (rw [if_pos (by decide +kernel)]; kernel_rfl) | (rw [if_neg (by decide +kernel)]; exact ⟨rfl, rfl⟩))
    (fun os started H enc _ => threadRuns_lifted os started H enc)
theorem threadRuns_proved : Rows.ThreadRunsSaid := threadRuns_over
#print axioms threadRuns_proved
end Go.Proofs.Ytmlgcldohaiohaa
