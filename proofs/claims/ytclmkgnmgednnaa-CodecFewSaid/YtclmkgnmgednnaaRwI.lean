/- An argument of items, opened. -/
import Derived.Test.YtclmkgnmgednnaaCo13
import Derived.Test.YtclmkgnmgednnaaSlL
import Derived.Test.YtclmkgnmgednnaaSlP
namespace Go.Sl
open Go Go.Proofs Go.ChangeShapes Go.WideShapes Go.ChangeAt Go.RowKit
set_option linter.unusedVariables false
set_option maxRecDepth 10000 in
theorem item_trod {H : Type} {enc : TypeId × Value → H} {W : World} {held : Bool} (n : Nat) (cs : List Value) (y : DataW H × List MemPlace) (h : DataW.trod enc Try.prog W 0 (fun _ => true) held n 42 cs = some y) : ∃ (a0 : Int) (a1 : Int) (a2 : Int) (a3 : Int) (a4 : Int) (a5 : Int), cs = [.int .i64 a0, .int .i64 a1, .int .i64 a2, .int .i64 a3, .int .i64 a4, .int .i64 a5] ∧ y.1 = .agg [.lit (.int .i64 a0), .lit (.int .i64 a1), .lit (.int .i64 a2), .lit (.int .i64 a3), .lit (.int .i64 a4), .lit (.int .i64 a5)] ∧ (Lit.int .i64 a0).wf = true ∧ (Lit.int .i64 a1).wf = true ∧ (Lit.int .i64 a2).wf = true ∧ (Lit.int .i64 a3).wf = true ∧ (Lit.int .i64 a4).wf = true ∧ (Lit.int .i64 a5).wf = true := by
  obtain ⟨xs, m, _, hy, hl, hlen, hf⟩ := DataW.trod_struct Try.underlying42 h
  have hc : Try.prog.cellsOf 42 = 6 := by kernel_rfl
  have hx : xs.length = 6 := hlen
  have e3 : Try.prog.cellsOf 3 = 1 := by kernel_rfl
  rw [hc] at hl
  match cs, hl, xs, hx with
  | [u0, u1, u2, u3, u4, u5], _, [x0, x1, x2, x3, x4, x5], _ =>
    have h0 : DataW.trod enc Try.prog W 0 (fun _ => true) held m 3 (List.take (Try.prog.cellsOf 3) (List.drop (0) [u0, u1, u2, u3, u4, u5])) = some x0 := hf 0 _ rfl
    have h1 : DataW.trod enc Try.prog W 0 (fun _ => true) held m 3 (List.take (Try.prog.cellsOf 3) (List.drop (1) [u0, u1, u2, u3, u4, u5])) = some x1 := hf 1 _ rfl
    have h2 : DataW.trod enc Try.prog W 0 (fun _ => true) held m 3 (List.take (Try.prog.cellsOf 3) (List.drop (2) [u0, u1, u2, u3, u4, u5])) = some x2 := hf 2 _ rfl
    have h3 : DataW.trod enc Try.prog W 0 (fun _ => true) held m 3 (List.take (Try.prog.cellsOf 3) (List.drop (3) [u0, u1, u2, u3, u4, u5])) = some x3 := hf 3 _ rfl
    have h4 : DataW.trod enc Try.prog W 0 (fun _ => true) held m 3 (List.take (Try.prog.cellsOf 3) (List.drop (4) [u0, u1, u2, u3, u4, u5])) = some x4 := hf 4 _ rfl
    have h5 : DataW.trod enc Try.prog W 0 (fun _ => true) held m 3 (List.take (Try.prog.cellsOf 3) (List.drop (5) [u0, u1, u2, u3, u4, u5])) = some x5 := hf 5 _ rfl
    rw [e3] at h0
    rw [e3] at h1
    rw [e3] at h2
    rw [e3] at h3
    rw [e3] at h4
    rw [e3] at h5
    obtain ⟨a0, c0, d0, w0⟩ := DataW.trod_int Try.underlying3 h0
    obtain ⟨a1, c1, d1, w1⟩ := DataW.trod_int Try.underlying3 h1
    obtain ⟨a2, c2, d2, w2⟩ := DataW.trod_int Try.underlying3 h2
    obtain ⟨a3, c3, d3, w3⟩ := DataW.trod_int Try.underlying3 h3
    obtain ⟨a4, c4, d4, w4⟩ := DataW.trod_int Try.underlying3 h4
    obtain ⟨a5, c5, d5, w5⟩ := DataW.trod_int Try.underlying3 h5
    simp at c0 c1 c2 c3 c4 c5
    refine ⟨a0, a1, a2, a3, a4, a5, by rw [c0, c1, c2, c3, c4, c5], ?_, w0, w1, w2, w3, w4, w5⟩
    rw [hy, d0, d1, d2, d3, d4, d5]; rfl
theorem wf64 {n : Int} (h : (Lit.int .i64 n).wf = true) : i64 n := by simpa [i64, Lit.wf, IntKind.min, IntKind.max, IntKind.signed, IntKind.bits] using h
theorem it_trod {H : Type} {enc : TypeId × Value → H} {W : World} {held : Bool} (n : Nat) (cs : List Value) (y : DataW H × List MemPlace) (h : DataW.trod enc Try.prog W 0 (fun _ => true) held n 42 cs = some y) : ∃ x : It, ItOk x ∧ cs = x.cs := by
  obtain ⟨k, t, c, x, y', z, rfl, _, w0, w1, w2, w3, w4, w5⟩ := item_trod _ _ _ h
  have hk : ItOk ⟨k, t, c, x, y', z⟩ := fun q hq => by
    have hq' : q = k ∨ q = t ∨ q = c ∨ q = x ∨ q = y' ∨ q = z := by simpa only [pl, List.mem_cons, List.not_mem_nil, or_false] using hq
    clear h hq
    rcases hq' with e | e | e | e | e | e
    · rw [e]; exact wf64 w0
    · rw [e]; exact wf64 w1
    · rw [e]; exact wf64 w2
    · rw [e]; exact wf64 w3
    · rw [e]; exact wf64 w4
    · rw [e]; exact wf64 w5
  exact ⟨_, hk, rfl⟩
set_option maxRecDepth 10000 in
theorem step_trod {H : Type} {enc : TypeId × Value → H} {W : World} {held : Bool} (n : Nat) (cs : List Value) (y : DataW H × List MemPlace) (h : DataW.trod enc Try.prog W 0 (fun _ => true) held n 83 cs = some y) : ∃ (a0 : Int) (a1 : Int) (a2 : Int) (a3 : Int) (a4 : Int) (a5 : Int) (a6 : Int), cs = [.int .u8 a0, .int .u8 a1, .int .u8 a2, .int .u8 a3, .int .u8 a4, .int .u8 a5, .int .i64 a6] ∧ y.1 = .agg [.lit (.int .u8 a0), .lit (.int .u8 a1), .lit (.int .u8 a2), .lit (.int .u8 a3), .lit (.int .u8 a4), .lit (.int .u8 a5), .lit (.int .i64 a6)] ∧ (Lit.int .u8 a0).wf = true ∧ (Lit.int .u8 a1).wf = true ∧ (Lit.int .u8 a2).wf = true ∧ (Lit.int .u8 a3).wf = true ∧ (Lit.int .u8 a4).wf = true ∧ (Lit.int .u8 a5).wf = true ∧ (Lit.int .i64 a6).wf = true := by
  obtain ⟨xs, m, _, hy, hl, hlen, hf⟩ := DataW.trod_struct Try.underlying83 h
  have hc : Try.prog.cellsOf 83 = 7 := by kernel_rfl
  have hx : xs.length = 7 := hlen
  have e3 : Try.prog.cellsOf 3 = 1 := by kernel_rfl
  have e5 : Try.prog.cellsOf 5 = 1 := by kernel_rfl
  rw [hc] at hl
  match cs, hl, xs, hx with
  | [u0, u1, u2, u3, u4, u5, u6], _, [x0, x1, x2, x3, x4, x5, x6], _ =>
    have h0 : DataW.trod enc Try.prog W 0 (fun _ => true) held m 5 (List.take (Try.prog.cellsOf 5) (List.drop (0) [u0, u1, u2, u3, u4, u5, u6])) = some x0 := hf 0 _ rfl
    have h1 : DataW.trod enc Try.prog W 0 (fun _ => true) held m 5 (List.take (Try.prog.cellsOf 5) (List.drop (1) [u0, u1, u2, u3, u4, u5, u6])) = some x1 := hf 1 _ rfl
    have h2 : DataW.trod enc Try.prog W 0 (fun _ => true) held m 5 (List.take (Try.prog.cellsOf 5) (List.drop (2) [u0, u1, u2, u3, u4, u5, u6])) = some x2 := hf 2 _ rfl
    have h3 : DataW.trod enc Try.prog W 0 (fun _ => true) held m 5 (List.take (Try.prog.cellsOf 5) (List.drop (3) [u0, u1, u2, u3, u4, u5, u6])) = some x3 := hf 3 _ rfl
    have h4 : DataW.trod enc Try.prog W 0 (fun _ => true) held m 5 (List.take (Try.prog.cellsOf 5) (List.drop (4) [u0, u1, u2, u3, u4, u5, u6])) = some x4 := hf 4 _ rfl
    have h5 : DataW.trod enc Try.prog W 0 (fun _ => true) held m 5 (List.take (Try.prog.cellsOf 5) (List.drop (5) [u0, u1, u2, u3, u4, u5, u6])) = some x5 := hf 5 _ rfl
    have h6 : DataW.trod enc Try.prog W 0 (fun _ => true) held m 3 (List.take (Try.prog.cellsOf 3) (List.drop (6) [u0, u1, u2, u3, u4, u5, u6])) = some x6 := hf 6 _ rfl
    rw [e5] at h0
    rw [e5] at h1
    rw [e5] at h2
    rw [e5] at h3
    rw [e5] at h4
    rw [e5] at h5
    rw [e3] at h6
    obtain ⟨a0, c0, d0, w0⟩ := DataW.trod_int Try.underlying5 h0
    obtain ⟨a1, c1, d1, w1⟩ := DataW.trod_int Try.underlying5 h1
    obtain ⟨a2, c2, d2, w2⟩ := DataW.trod_int Try.underlying5 h2
    obtain ⟨a3, c3, d3, w3⟩ := DataW.trod_int Try.underlying5 h3
    obtain ⟨a4, c4, d4, w4⟩ := DataW.trod_int Try.underlying5 h4
    obtain ⟨a5, c5, d5, w5⟩ := DataW.trod_int Try.underlying5 h5
    obtain ⟨a6, c6, d6, w6⟩ := DataW.trod_int Try.underlying3 h6
    simp at c0 c1 c2 c3 c4 c5 c6
    refine ⟨a0, a1, a2, a3, a4, a5, a6, by rw [c0, c1, c2, c3, c4, c5, c6], ?_, w0, w1, w2, w3, w4, w5, w6⟩
    rw [hy, d0, d1, d2, d3, d4, d5, d6]; rfl
theorem wf8 {n : Int} (h : (Lit.int .u8 n).wf = true) : b8 n := by simpa [b8, Lit.wf, IntKind.min, IntKind.max, IntKind.signed, IntKind.bits] using h
theorem st_trod {H : Type} {enc : TypeId × Value → H} {W : World} {held : Bool} (n : Nat) (cs : List Value) (y : DataW H × List MemPlace) (h : DataW.trod enc Try.prog W 0 (fun _ => true) held n 83 cs = some y) : ∃ x : Stp, StOk x ∧ cs = x.cs := by
  obtain ⟨k, t, c, x, y', z, w, rfl, _, w0, w1, w2, w3, w4, w5, w6⟩ := step_trod _ _ _ h
  exact ⟨⟨k, t, c, x, y', z, w⟩, ⟨wf8 w0, wf8 w1, wf8 w2, wf8 w3, wf8 w4, wf8 w5, wf64 w6⟩, rfl⟩
end Go.Sl
