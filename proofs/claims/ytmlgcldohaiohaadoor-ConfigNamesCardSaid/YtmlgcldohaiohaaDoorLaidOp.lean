/- The program's own: the listed variable op.kinds; arguments opened. -/
import Derived.Test.YtmlgcldohaiohaaDoorSlP
import Derived.Test.YtmlgcldohaiohaaDoorSlT
import Derived.Test.YtmlgcldohaiohaaDoorOp
import Derived.Test.YtmlgcldohaiohaaDoorRows
namespace Go.Sl
open Go Go.Proofs Go.ChangeShapes Go.WideShapes Go.ChangeAt Go.RowKit
set_option linter.unusedVariables false
theorem own : ownKnob Tryd.prog.godebug = none := by kernel_rfl
theorem laidOut : laidOutB Tryd.prog = true := by kernel_rfl
theorem item_trod {H : Type} {enc : TypeId × Value → H} {W : World} {held : Bool} (n : Nat) (cs : List Value) (y : DataW H × List MemPlace) (h : DataW.trod enc Tryd.prog W 0 (fun _ => true) held n 23 cs = some y) : ∃ (a0 : Int) (a1 : Int) (a2 : Int) (a3 : Int) (a4 : Int) (a5 : Int), cs = [.int .i64 a0, .int .i64 a1, .int .i64 a2, .int .i64 a3, .int .i64 a4, .int .i64 a5] ∧ y.1 = .agg [.lit (.int .i64 a0), .lit (.int .i64 a1), .lit (.int .i64 a2), .lit (.int .i64 a3), .lit (.int .i64 a4), .lit (.int .i64 a5)] ∧ (Lit.int .i64 a0).wf = true ∧ (Lit.int .i64 a1).wf = true ∧ (Lit.int .i64 a2).wf = true ∧ (Lit.int .i64 a3).wf = true ∧ (Lit.int .i64 a4).wf = true ∧ (Lit.int .i64 a5).wf = true := by
  obtain ⟨xs, m, _, hy, hl, hlen, hf⟩ := DataW.trod_struct Tryd.underlying23 h
  have hc : Tryd.prog.cellsOf 23 = 6 := by kernel_rfl
  have hx : xs.length = 6 := hlen
  have e3 : Tryd.prog.cellsOf 3 = 1 := by kernel_rfl
  rw [hc] at hl
  match cs, hl, xs, hx with
  | [u0, u1, u2, u3, u4, u5], _, [x0, x1, x2, x3, x4, x5], _ =>
    have h0 : DataW.trod enc Tryd.prog W 0 (fun _ => true) held m 3 (List.take (Tryd.prog.cellsOf 3) (List.drop (0) [u0, u1, u2, u3, u4, u5])) = some x0 := hf 0 _ rfl
    have h1 : DataW.trod enc Tryd.prog W 0 (fun _ => true) held m 3 (List.take (Tryd.prog.cellsOf 3) (List.drop (1) [u0, u1, u2, u3, u4, u5])) = some x1 := hf 1 _ rfl
    have h2 : DataW.trod enc Tryd.prog W 0 (fun _ => true) held m 3 (List.take (Tryd.prog.cellsOf 3) (List.drop (2) [u0, u1, u2, u3, u4, u5])) = some x2 := hf 2 _ rfl
    have h3 : DataW.trod enc Tryd.prog W 0 (fun _ => true) held m 3 (List.take (Tryd.prog.cellsOf 3) (List.drop (3) [u0, u1, u2, u3, u4, u5])) = some x3 := hf 3 _ rfl
    have h4 : DataW.trod enc Tryd.prog W 0 (fun _ => true) held m 3 (List.take (Tryd.prog.cellsOf 3) (List.drop (4) [u0, u1, u2, u3, u4, u5])) = some x4 := hf 4 _ rfl
    have h5 : DataW.trod enc Tryd.prog W 0 (fun _ => true) held m 3 (List.take (Tryd.prog.cellsOf 3) (List.drop (5) [u0, u1, u2, u3, u4, u5])) = some x5 := hf 5 _ rfl
    rw [e3] at h0
    rw [e3] at h1
    rw [e3] at h2
    rw [e3] at h3
    rw [e3] at h4
    rw [e3] at h5
    obtain ⟨a0, c0, d0, w0⟩ := DataW.trod_int Tryd.underlying3 h0
    obtain ⟨a1, c1, d1, w1⟩ := DataW.trod_int Tryd.underlying3 h1
    obtain ⟨a2, c2, d2, w2⟩ := DataW.trod_int Tryd.underlying3 h2
    obtain ⟨a3, c3, d3, w3⟩ := DataW.trod_int Tryd.underlying3 h3
    obtain ⟨a4, c4, d4, w4⟩ := DataW.trod_int Tryd.underlying3 h4
    obtain ⟨a5, c5, d5, w5⟩ := DataW.trod_int Tryd.underlying3 h5
    simp at c0 c1 c2 c3 c4 c5
    refine ⟨a0, a1, a2, a3, a4, a5, by rw [c0, c1, c2, c3, c4, c5], ?_, w0, w1, w2, w3, w4, w5⟩
    rw [hy, d0, d1, d2, d3, d4, d5]; rfl
theorem cfg_trod {H : Type} {enc : TypeId × Value → H} {W : World} {held : Bool} (n : Nat) (cs : List Value) (y : DataW H × List MemPlace) (h : DataW.trod enc Tryd.prog W 0 (fun _ => true) held n 36 cs = some y) : ∃ (a0 : Int) (a1 : Bool) (a2 : Int) (a3 : Int) (a4 : Int) (a5 : Int) (a6 : Int) (a7 : Int) (a8 : Int) (a9 : Int) (a10 : Int), cs = [.int .i64 a0, .bool a1, .int .i64 a2, .int .i64 a3, .int .i64 a4, .int .i64 a5, .int .i64 a6, .int .i64 a7, .int .i64 a8, .int .i64 a9, .int .i64 a10] ∧ y.1 = .agg [.lit (.int .i64 a0), .lit (.bool a1), .lit (.int .i64 a2), .lit (.int .i64 a3), .lit (.int .i64 a4), .lit (.int .i64 a5), .lit (.int .i64 a6), .lit (.int .i64 a7), .lit (.int .i64 a8), .lit (.int .i64 a9), .lit (.int .i64 a10)] ∧ (Lit.int .i64 a0).wf = true ∧ True ∧ (Lit.int .i64 a2).wf = true ∧ (Lit.int .i64 a3).wf = true ∧ (Lit.int .i64 a4).wf = true ∧ (Lit.int .i64 a5).wf = true ∧ (Lit.int .i64 a6).wf = true ∧ (Lit.int .i64 a7).wf = true ∧ (Lit.int .i64 a8).wf = true ∧ (Lit.int .i64 a9).wf = true ∧ (Lit.int .i64 a10).wf = true := by
  obtain ⟨xs, m, _, hy, hl, hlen, hf⟩ := DataW.trod_struct Tryd.underlying36 h
  have hc : Tryd.prog.cellsOf 36 = 11 := by kernel_rfl
  have hx : xs.length = 11 := hlen
  have e3 : Tryd.prog.cellsOf 3 = 1 := by kernel_rfl
  have e4 : Tryd.prog.cellsOf 4 = 1 := by kernel_rfl
  rw [hc] at hl
  match cs, hl, xs, hx with
  | [u0, u1, u2, u3, u4, u5, u6, u7, u8, u9, u10], _, [x0, x1, x2, x3, x4, x5, x6, x7, x8, x9, x10], _ =>
    have h0 : DataW.trod enc Tryd.prog W 0 (fun _ => true) held m 3 (List.take (Tryd.prog.cellsOf 3) (List.drop (0) [u0, u1, u2, u3, u4, u5, u6, u7, u8, u9, u10])) = some x0 := hf 0 _ rfl
    have h1 : DataW.trod enc Tryd.prog W 0 (fun _ => true) held m 4 (List.take (Tryd.prog.cellsOf 4) (List.drop (1) [u0, u1, u2, u3, u4, u5, u6, u7, u8, u9, u10])) = some x1 := hf 1 _ rfl
    have h2 : DataW.trod enc Tryd.prog W 0 (fun _ => true) held m 3 (List.take (Tryd.prog.cellsOf 3) (List.drop (2) [u0, u1, u2, u3, u4, u5, u6, u7, u8, u9, u10])) = some x2 := hf 2 _ rfl
    have h3 : DataW.trod enc Tryd.prog W 0 (fun _ => true) held m 3 (List.take (Tryd.prog.cellsOf 3) (List.drop (3) [u0, u1, u2, u3, u4, u5, u6, u7, u8, u9, u10])) = some x3 := hf 3 _ rfl
    have h4 : DataW.trod enc Tryd.prog W 0 (fun _ => true) held m 3 (List.take (Tryd.prog.cellsOf 3) (List.drop (4) [u0, u1, u2, u3, u4, u5, u6, u7, u8, u9, u10])) = some x4 := hf 4 _ rfl
    have h5 : DataW.trod enc Tryd.prog W 0 (fun _ => true) held m 3 (List.take (Tryd.prog.cellsOf 3) (List.drop (5) [u0, u1, u2, u3, u4, u5, u6, u7, u8, u9, u10])) = some x5 := hf 5 _ rfl
    have h6 : DataW.trod enc Tryd.prog W 0 (fun _ => true) held m 3 (List.take (Tryd.prog.cellsOf 3) (List.drop (6) [u0, u1, u2, u3, u4, u5, u6, u7, u8, u9, u10])) = some x6 := hf 6 _ rfl
    have h7 : DataW.trod enc Tryd.prog W 0 (fun _ => true) held m 3 (List.take (Tryd.prog.cellsOf 3) (List.drop (7) [u0, u1, u2, u3, u4, u5, u6, u7, u8, u9, u10])) = some x7 := hf 7 _ rfl
    have h8 : DataW.trod enc Tryd.prog W 0 (fun _ => true) held m 3 (List.take (Tryd.prog.cellsOf 3) (List.drop (8) [u0, u1, u2, u3, u4, u5, u6, u7, u8, u9, u10])) = some x8 := hf 8 _ rfl
    have h9 : DataW.trod enc Tryd.prog W 0 (fun _ => true) held m 3 (List.take (Tryd.prog.cellsOf 3) (List.drop (9) [u0, u1, u2, u3, u4, u5, u6, u7, u8, u9, u10])) = some x9 := hf 9 _ rfl
    have h10 : DataW.trod enc Tryd.prog W 0 (fun _ => true) held m 3 (List.take (Tryd.prog.cellsOf 3) (List.drop (10) [u0, u1, u2, u3, u4, u5, u6, u7, u8, u9, u10])) = some x10 := hf 10 _ rfl
    rw [e3] at h0
    rw [e4] at h1
    rw [e3] at h2
    rw [e3] at h3
    rw [e3] at h4
    rw [e3] at h5
    rw [e3] at h6
    rw [e3] at h7
    rw [e3] at h8
    rw [e3] at h9
    rw [e3] at h10
    obtain ⟨a0, c0, d0, w0⟩ := DataW.trod_int Tryd.underlying3 h0
    obtain ⟨a1, c1, d1⟩ := DataW.trod_bool Tryd.underlying4 h1
    obtain ⟨a2, c2, d2, w2⟩ := DataW.trod_int Tryd.underlying3 h2
    obtain ⟨a3, c3, d3, w3⟩ := DataW.trod_int Tryd.underlying3 h3
    obtain ⟨a4, c4, d4, w4⟩ := DataW.trod_int Tryd.underlying3 h4
    obtain ⟨a5, c5, d5, w5⟩ := DataW.trod_int Tryd.underlying3 h5
    obtain ⟨a6, c6, d6, w6⟩ := DataW.trod_int Tryd.underlying3 h6
    obtain ⟨a7, c7, d7, w7⟩ := DataW.trod_int Tryd.underlying3 h7
    obtain ⟨a8, c8, d8, w8⟩ := DataW.trod_int Tryd.underlying3 h8
    obtain ⟨a9, c9, d9, w9⟩ := DataW.trod_int Tryd.underlying3 h9
    obtain ⟨a10, c10, d10, w10⟩ := DataW.trod_int Tryd.underlying3 h10
    simp at c0 c1 c2 c3 c4 c5 c6 c7 c8 c9 c10
    refine ⟨a0, a1, a2, a3, a4, a5, a6, a7, a8, a9, a10, by rw [c0, c1, c2, c3, c4, c5, c6, c7, c8, c9, c10], ?_, w0, trivial, w2, w3, w4, w5, w6, w7, w8, w9, w10⟩
    rw [hy, d0, d1, d2, d3, d4, d5, d6, d7, d8, d9, d10]; rfl
theorem l6_trod {H : Type} {enc : TypeId × Value → H} {W : World} {held : Bool} (n : Nat) (cs : List Value) (y : DataW H × List MemPlace) (h : DataW.trod enc Tryd.prog W 0 (fun _ => true) held n 37 cs = some y) : ∃ (a0 : Int) (a1 : Int) (a2 : Int) (a3 : Int) (a4 : Int) (a5 : Int), cs = [.int .u8 a0, .int .u8 a1, .int .u8 a2, .int .u8 a3, .int .u8 a4, .int .u8 a5] ∧ y.1 = .agg [.lit (.int .u8 a0), .lit (.int .u8 a1), .lit (.int .u8 a2), .lit (.int .u8 a3), .lit (.int .u8 a4), .lit (.int .u8 a5)] ∧ (Lit.int .u8 a0).wf = true ∧ (Lit.int .u8 a1).wf = true ∧ (Lit.int .u8 a2).wf = true ∧ (Lit.int .u8 a3).wf = true ∧ (Lit.int .u8 a4).wf = true ∧ (Lit.int .u8 a5).wf = true := by
  obtain ⟨xs, m, _, hy, hl, hlen, hf⟩ := DataW.trod_array Tryd.underlying37 h
  have hc : Tryd.prog.cellsOf 37 = 6 := by kernel_rfl
  have hx : xs.length = 6 := hlen
  have e5 : Tryd.prog.cellsOf 5 = 1 := by kernel_rfl
  rw [hc] at hl
  match cs, hl, xs, hx with
  | [u0, u1, u2, u3, u4, u5], _, [x0, x1, x2, x3, x4, x5], _ =>
    have h0 : DataW.trod enc Tryd.prog W 0 (fun _ => true) held m 5 (List.take (Tryd.prog.cellsOf 5) (List.drop (0 * Tryd.prog.cellsOf 5) [u0, u1, u2, u3, u4, u5])) = some x0 := hf 0 (by omega)
    have h1 : DataW.trod enc Tryd.prog W 0 (fun _ => true) held m 5 (List.take (Tryd.prog.cellsOf 5) (List.drop (1 * Tryd.prog.cellsOf 5) [u0, u1, u2, u3, u4, u5])) = some x1 := hf 1 (by omega)
    have h2 : DataW.trod enc Tryd.prog W 0 (fun _ => true) held m 5 (List.take (Tryd.prog.cellsOf 5) (List.drop (2 * Tryd.prog.cellsOf 5) [u0, u1, u2, u3, u4, u5])) = some x2 := hf 2 (by omega)
    have h3 : DataW.trod enc Tryd.prog W 0 (fun _ => true) held m 5 (List.take (Tryd.prog.cellsOf 5) (List.drop (3 * Tryd.prog.cellsOf 5) [u0, u1, u2, u3, u4, u5])) = some x3 := hf 3 (by omega)
    have h4 : DataW.trod enc Tryd.prog W 0 (fun _ => true) held m 5 (List.take (Tryd.prog.cellsOf 5) (List.drop (4 * Tryd.prog.cellsOf 5) [u0, u1, u2, u3, u4, u5])) = some x4 := hf 4 (by omega)
    have h5 : DataW.trod enc Tryd.prog W 0 (fun _ => true) held m 5 (List.take (Tryd.prog.cellsOf 5) (List.drop (5 * Tryd.prog.cellsOf 5) [u0, u1, u2, u3, u4, u5])) = some x5 := hf 5 (by omega)
    rw [e5] at h0
    rw [e5] at h1
    rw [e5] at h2
    rw [e5] at h3
    rw [e5] at h4
    rw [e5] at h5
    obtain ⟨a0, c0, d0, w0⟩ := DataW.trod_int Tryd.underlying5 h0
    obtain ⟨a1, c1, d1, w1⟩ := DataW.trod_int Tryd.underlying5 h1
    obtain ⟨a2, c2, d2, w2⟩ := DataW.trod_int Tryd.underlying5 h2
    obtain ⟨a3, c3, d3, w3⟩ := DataW.trod_int Tryd.underlying5 h3
    obtain ⟨a4, c4, d4, w4⟩ := DataW.trod_int Tryd.underlying5 h4
    obtain ⟨a5, c5, d5, w5⟩ := DataW.trod_int Tryd.underlying5 h5
    simp at c0 c1 c2 c3 c4 c5
    refine ⟨a0, a1, a2, a3, a4, a5, by rw [c0, c1, c2, c3, c4, c5], ?_, w0, w1, w2, w3, w4, w5⟩
    rw [hy, d0, d1, d2, d3, d4, d5]; rfl
theorem l3_trod {H : Type} {enc : TypeId × Value → H} {W : World} {held : Bool} (n : Nat) (cs : List Value) (y : DataW H × List MemPlace) (h : DataW.trod enc Tryd.prog W 0 (fun _ => true) held n 53 cs = some y) : ∃ (a0 : Int) (a1 : Int) (a2 : Int), cs = [.int .u8 a0, .int .u8 a1, .int .u8 a2] ∧ y.1 = .agg [.lit (.int .u8 a0), .lit (.int .u8 a1), .lit (.int .u8 a2)] ∧ (Lit.int .u8 a0).wf = true ∧ (Lit.int .u8 a1).wf = true ∧ (Lit.int .u8 a2).wf = true := by
  obtain ⟨xs, m, _, hy, hl, hlen, hf⟩ := DataW.trod_array Tryd.underlying53 h
  have hc : Tryd.prog.cellsOf 53 = 3 := by kernel_rfl
  have hx : xs.length = 3 := hlen
  have e5 : Tryd.prog.cellsOf 5 = 1 := by kernel_rfl
  rw [hc] at hl
  match cs, hl, xs, hx with
  | [u0, u1, u2], _, [x0, x1, x2], _ =>
    have h0 : DataW.trod enc Tryd.prog W 0 (fun _ => true) held m 5 (List.take (Tryd.prog.cellsOf 5) (List.drop (0 * Tryd.prog.cellsOf 5) [u0, u1, u2])) = some x0 := hf 0 (by omega)
    have h1 : DataW.trod enc Tryd.prog W 0 (fun _ => true) held m 5 (List.take (Tryd.prog.cellsOf 5) (List.drop (1 * Tryd.prog.cellsOf 5) [u0, u1, u2])) = some x1 := hf 1 (by omega)
    have h2 : DataW.trod enc Tryd.prog W 0 (fun _ => true) held m 5 (List.take (Tryd.prog.cellsOf 5) (List.drop (2 * Tryd.prog.cellsOf 5) [u0, u1, u2])) = some x2 := hf 2 (by omega)
    rw [e5] at h0
    rw [e5] at h1
    rw [e5] at h2
    obtain ⟨a0, c0, d0, w0⟩ := DataW.trod_int Tryd.underlying5 h0
    obtain ⟨a1, c1, d1, w1⟩ := DataW.trod_int Tryd.underlying5 h1
    obtain ⟨a2, c2, d2, w2⟩ := DataW.trod_int Tryd.underlying5 h2
    simp at c0 c1 c2
    refine ⟨a0, a1, a2, by rw [c0, c1, c2], ?_, w0, w1, w2⟩
    rw [hy, d0, d1, d2]; rfl
theorem kind_trod {H : Type} {enc : TypeId × Value → H} {W : World} {held : Bool} (n : Nat) (cs : List Value) (y : DataW H × List MemPlace) (h : DataW.trod enc Tryd.prog W 0 (fun _ => true) held n 60 cs = some y) : ∃ (a0 : ByteArray) (a1 : Bool) (a2 : Bool) (a3 : Bool), cs = [.string a0, .bool a1, .bool a2, .bool a3] ∧ y.1 = .agg [.lit (.string a0.data.toList), .lit (.bool a1), .lit (.bool a2), .lit (.bool a3)] ∧ a0.size ≤ maxLen ∧ True ∧ True ∧ True := by
  obtain ⟨xs, m, _, hy, hl, hlen, hf⟩ := DataW.trod_struct Tryd.underlying60 h
  have hc : Tryd.prog.cellsOf 60 = 4 := by kernel_rfl
  have hx : xs.length = 4 := hlen
  have e4 : Tryd.prog.cellsOf 4 = 1 := by kernel_rfl
  have e9 : Tryd.prog.cellsOf 9 = 1 := by kernel_rfl
  rw [hc] at hl
  match cs, hl, xs, hx with
  | [u0, u1, u2, u3], _, [x0, x1, x2, x3], _ =>
    have h0 : DataW.trod enc Tryd.prog W 0 (fun _ => true) held m 9 (List.take (Tryd.prog.cellsOf 9) (List.drop (0) [u0, u1, u2, u3])) = some x0 := hf 0 _ rfl
    have h1 : DataW.trod enc Tryd.prog W 0 (fun _ => true) held m 4 (List.take (Tryd.prog.cellsOf 4) (List.drop (1) [u0, u1, u2, u3])) = some x1 := hf 1 _ rfl
    have h2 : DataW.trod enc Tryd.prog W 0 (fun _ => true) held m 4 (List.take (Tryd.prog.cellsOf 4) (List.drop (2) [u0, u1, u2, u3])) = some x2 := hf 2 _ rfl
    have h3 : DataW.trod enc Tryd.prog W 0 (fun _ => true) held m 4 (List.take (Tryd.prog.cellsOf 4) (List.drop (3) [u0, u1, u2, u3])) = some x3 := hf 3 _ rfl
    rw [e9] at h0
    rw [e4] at h1
    rw [e4] at h2
    rw [e4] at h3
    obtain ⟨a0, c0, d0, w0⟩ := DataW.trod_string Tryd.underlying9 h0
    obtain ⟨a1, c1, d1⟩ := DataW.trod_bool Tryd.underlying4 h1
    obtain ⟨a2, c2, d2⟩ := DataW.trod_bool Tryd.underlying4 h2
    obtain ⟨a3, c3, d3⟩ := DataW.trod_bool Tryd.underlying4 h3
    simp at c0 c1 c2 c3
    refine ⟨a0, a1, a2, a3, by rw [c0, c1, c2, c3], ?_, w0, trivial, trivial, trivial⟩
    rw [hy, d0, d1, d2, d3]; rfl
theorem kinds_of {W : World} (h : laidMetH Tryd.prog Go.Proofs.YtmlgcldohaiohaaDoor.Rows.opNamesRow.laid W) : ∃ b o c, Kinds (all W) b o c := by
  obtain ⟨cs, fuel, p, hd, hc⟩ := laid_head (g := 0) (t := 58) rfl (by kernel_rfl) (by kernel_rfl) h
  rcases DataW.trod_slice Tryd.underlying58 hd with ⟨_, hx⟩ | ⟨a, len, cap, elems, rest, n, _, hcs, hx, _, _, _, hlen, hel, _, _⟩
  · simp [Go.Proofs.YtmlgcldohaiohaaDoor.Rows.laid_hawthorn_op_kinds] at hx
  · have hx1 := congrArg Prod.fst hx
    simp only [Go.Proofs.YtmlgcldohaiohaaDoor.Rows.laid_hawthorn_op_kinds, DataW.slice.injEq] at hx1
    obtain ⟨hx1, hx2⟩ := hx1
    have h13 : elems.length = 13 := by have := congrArg List.length hx1; simpa using this.symm
    rw [hlen] at h13
    subst h13
    have e60 : Tryd.prog.cellsOf 60 = 4 := by kernel_rfl
    rw [e60] at hel
    have hcell : ∀ i, i < 13 → ∃ s x y z, W.cells? 0 (a.add (i * 4)) 4 = some [.string s, .bool x, .bool y, .bool z] ∧ (elems.map (·.1))[i]? = some (.agg [.lit (.string s.data.toList), .lit (.bool x), .lit (.bool y), .lit (.bool z)]) := fun i hi => by
      have h1 := hel i hi
      rw [List.getElem?_eq_getElem (by omega)] at h1
      obtain ⟨cs, h2, h3⟩ := Option.bind_eq_some_iff.1 h1
      obtain ⟨s, x, y, z, h4, h5, _⟩ := kind_trod _ _ _ h3
      exact ⟨s, x, y, z, by rw [h2, h4], by rw [List.getElem?_map, List.getElem?_eq_getElem (by omega)]; simp [h5]⟩
    have hspot : ∃ b o, a = ⟨b, o, none⟩ := by
      obtain ⟨s, x, y, z, h4, _⟩ := hcell 0 (by omega)
      have := (World.cells?_some h4).2.2 0 (by omega)
      simp at this
      obtain ⟨b, o, sp⟩ := a
      unfold World.cell? at this
      simp only [Addr.add, if_pos] at this
      cases sp with
      | none => exact ⟨b, o, rfl⟩
      | some q =>
        exfalso
        revert this
        cases W.heap[b]? with
        | none => simp
        | some ob => cases ob <;> simp
    obtain ⟨b, o, rfl⟩ := hspot
    refine ⟨b, o, cap, ?_, ?_⟩
    · refine rd_all ?_
      rw [hc 0]
      have : cs = #[.slice (some ⟨b, o, none⟩) 13 cap] := by rw [← Array.toList_inj]; exact hcs
      rw [this]; rfl
    · have key : ∀ i, i < 13 → W.cells? 0 ((⟨b, o, none⟩ : Addr).add (i * 4)) 4 = some ((kindCells.drop (i * 4)).take 4) := fun i hi => by
        obtain ⟨s, x, y, z, h4, h5⟩ := hcell i hi
        rw [← hx1] at h5
        rw [h4]
        obtain ⟨⟨l⟩⟩ := s
        rcases (by omega : i = 0 ∨ i = 1 ∨ i = 2 ∨ i = 3 ∨ i = 4 ∨ i = 5 ∨ i = 6 ∨ i = 7 ∨ i = 8 ∨ i = 9 ∨ i = 10 ∨ i = 11 ∨ i = 12) with rfl | rfl | rfl | rfl | rfl | rfl | rfl | rfl | rfl | rfl | rfl | rfl | rfl
        all_goals (simp at h5; obtain ⟨h6, h7, h8, h9⟩ := h5; subst h6 h7 h8 h9; rfl)
      intro j u hj
      have hlt : j < 52 := (List.getElem?_eq_some_iff.1 hj).1
      refine rd_all ?_
      have h1 := (World.cells?_some (key (j / 4) (by omega))).2.2 (j % 4) (by omega)
      rw [addr_add, addr_add] at h1
      rw [show o + j = o + j / 4 * 4 + j % 4 by omega]
      refine h1.trans ?_
      rw [List.getElem?_take, if_pos (by omega), List.getElem?_drop, show j / 4 * 4 + j % 4 = j by omega]
      exact hj
end Go.Sl
