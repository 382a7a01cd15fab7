/- An argument of deeds, opened. -/
import Derived.Test.YtclmkgnmgednnaaRg
import Derived.Test.YtclmkgnmgednnaaSlL
import Derived.Test.YtclmkgnmgednnaaSlP
namespace Go.Sl
open Go Go.Proofs Go.ChangeShapes Go.WideShapes Go.ChangeAt Go.RowKit
set_option linter.unusedVariables false
set_option maxRecDepth 10000 in
theorem deed7_trod {H : Type} {enc : TypeId × Value → H} {W : World} {held : Bool} (n : Nat) (cs : List Value) (y : DataW H × List MemPlace) (h : DataW.trod enc Try.prog W 0 (fun _ => true) held n 58 cs = some y) : ∃ (a0 : Int) (a1 : Int) (a2 : Int) (a3 : Int), cs = [.int .i64 a0, .int .i64 a1, .int .i64 a2, .int .i64 a3] ∧ y.1 = .agg [.lit (.int .i64 a0), .lit (.int .i64 a1), .lit (.int .i64 a2), .lit (.int .i64 a3)] ∧ (Lit.int .i64 a0).wf = true ∧ (Lit.int .i64 a1).wf = true ∧ (Lit.int .i64 a2).wf = true ∧ (Lit.int .i64 a3).wf = true := by
  obtain ⟨xs, m, _, hy, hl, hlen, hf⟩ := DataW.trod_struct Try.underlying58 h
  have hc : Try.prog.cellsOf 58 = 4 := by kernel_rfl
  have hx : xs.length = 4 := hlen
  have e3 : Try.prog.cellsOf 3 = 1 := by kernel_rfl
  have e56 : Try.prog.cellsOf 56 = 1 := by kernel_rfl
  rw [hc] at hl
  match cs, hl, xs, hx with
  | [u0, u1, u2, u3], _, [x0, x1, x2, x3], _ =>
    have h0 : DataW.trod enc Try.prog W 0 (fun _ => true) held m 3 (List.take (Try.prog.cellsOf 3) (List.drop (0) [u0, u1, u2, u3])) = some x0 := hf 0 _ rfl
    have h1 : DataW.trod enc Try.prog W 0 (fun _ => true) held m 3 (List.take (Try.prog.cellsOf 3) (List.drop (1) [u0, u1, u2, u3])) = some x1 := hf 1 _ rfl
    have h2 : DataW.trod enc Try.prog W 0 (fun _ => true) held m 3 (List.take (Try.prog.cellsOf 3) (List.drop (2) [u0, u1, u2, u3])) = some x2 := hf 2 _ rfl
    have h3 : DataW.trod enc Try.prog W 0 (fun _ => true) held m 56 (List.take (Try.prog.cellsOf 56) (List.drop (3) [u0, u1, u2, u3])) = some x3 := hf 3 _ rfl
    rw [e3] at h0
    rw [e3] at h1
    rw [e3] at h2
    rw [e56] at h3
    obtain ⟨a0, c0, d0, w0⟩ := DataW.trod_int Try.underlying3 h0
    obtain ⟨a1, c1, d1, w1⟩ := DataW.trod_int Try.underlying3 h1
    obtain ⟨a2, c2, d2, w2⟩ := DataW.trod_int Try.underlying3 h2
    obtain ⟨a3, c3, d3, w3⟩ := DataW.trod_int Try.underlying56 h3
    simp at c0 c1 c2 c3
    refine ⟨a0, a1, a2, a3, by rw [c0, c1, c2, c3], ?_, w0, w1, w2, w3⟩
    rw [hy, d0, d1, d2, d3]; rfl
theorem d7_trod {H : Type} {enc : TypeId × Value → H} {W : World} {held : Bool} (n : Nat) (cs : List Value) (y : DataW H × List MemPlace) (h : DataW.trod enc Try.prog W 0 (fun _ => true) held n 58 cs = some y) : ∃ x : D7, True ∧ cs = x.cs := by
  obtain ⟨k, i, j, r, rfl, _⟩ := deed7_trod _ _ _ h
  exact ⟨⟨k, i, j, r⟩, trivial, rfl⟩
end Go.Sl
