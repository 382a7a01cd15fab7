/- The listed variable config.names; arguments opened. -/
import Derived.Test.YtmlgcldohaiohaaDoorLaidOp
import Derived.Test.YtmlgcldohaiohaaDoorCfN
namespace Go.Sl
open Go Go.Proofs Go.ChangeShapes Go.WideShapes Go.ChangeAt Go.RowKit
set_option linter.unusedVariables false
theorem names_trod {H : Type} {enc : TypeId × Value → H} {W : World} {held : Bool} (n : Nat) (cs : List Value) (y : DataW H × List MemPlace) (h : DataW.trod enc Tryd.prog W 0 (fun _ => true) held n 70 cs = some y) : ∃ (a0 : ByteArray) (a1 : ByteArray) (a2 : ByteArray) (a3 : ByteArray), cs = [.string a0, .string a1, .string a2, .string a3] ∧ y.1 = .agg [.lit (.string a0.data.toList), .lit (.string a1.data.toList), .lit (.string a2.data.toList), .lit (.string a3.data.toList)] ∧ a0.size ≤ maxLen ∧ a1.size ≤ maxLen ∧ a2.size ≤ maxLen ∧ a3.size ≤ maxLen := by
  obtain ⟨xs, m, _, hy, hl, hlen, hf⟩ := DataW.trod_array Tryd.underlying70 h
  have hc : Tryd.prog.cellsOf 70 = 4 := by kernel_rfl
  have hx : xs.length = 4 := hlen
  have e9 : Tryd.prog.cellsOf 9 = 1 := by kernel_rfl
  rw [hc] at hl
  match cs, hl, xs, hx with
  | [u0, u1, u2, u3], _, [x0, x1, x2, x3], _ =>
    have h0 : DataW.trod enc Tryd.prog W 0 (fun _ => true) held m 9 (List.take (Tryd.prog.cellsOf 9) (List.drop (0 * Tryd.prog.cellsOf 9) [u0, u1, u2, u3])) = some x0 := hf 0 (by omega)
    have h1 : DataW.trod enc Tryd.prog W 0 (fun _ => true) held m 9 (List.take (Tryd.prog.cellsOf 9) (List.drop (1 * Tryd.prog.cellsOf 9) [u0, u1, u2, u3])) = some x1 := hf 1 (by omega)
    have h2 : DataW.trod enc Tryd.prog W 0 (fun _ => true) held m 9 (List.take (Tryd.prog.cellsOf 9) (List.drop (2 * Tryd.prog.cellsOf 9) [u0, u1, u2, u3])) = some x2 := hf 2 (by omega)
    have h3 : DataW.trod enc Tryd.prog W 0 (fun _ => true) held m 9 (List.take (Tryd.prog.cellsOf 9) (List.drop (3 * Tryd.prog.cellsOf 9) [u0, u1, u2, u3])) = some x3 := hf 3 (by omega)
    rw [e9] at h0
    rw [e9] at h1
    rw [e9] at h2
    rw [e9] at h3
    obtain ⟨a0, c0, d0, w0⟩ := DataW.trod_string Tryd.underlying9 h0
    obtain ⟨a1, c1, d1, w1⟩ := DataW.trod_string Tryd.underlying9 h1
    obtain ⟨a2, c2, d2, w2⟩ := DataW.trod_string Tryd.underlying9 h2
    obtain ⟨a3, c3, d3, w3⟩ := DataW.trod_string Tryd.underlying9 h3
    simp at c0 c1 c2 c3
    refine ⟨a0, a1, a2, a3, by rw [c0, c1, c2, c3], ?_, w0, w1, w2, w3⟩
    rw [hy, d0, d1, d2, d3]; rfl
theorem names_of {W : World} (h : laidMetH Tryd.prog Go.Proofs.YtmlgcldohaiohaaDoor.Rows.configChecksRow.laid W) : Names (all W) := by
  obtain ⟨cs, fuel, p, hd, hc⟩ := laid_head (g := 1) (t := 70) rfl (by kernel_rfl) (by kernel_rfl) h
  obtain ⟨a, b, c, d, h1, h2, _⟩ := names_trod _ _ _ hd
  simp only [Go.Proofs.YtmlgcldohaiohaaDoor.Rows.laid_hawthorn_config_names, DataW.agg.injEq, List.cons.injEq, DataW.lit.injEq, Lit.string.injEq, and_true] at h2
  obtain ⟨ha, hb, hcc, hd'⟩ := h2
  obtain ⟨⟨a⟩⟩ := a; obtain ⟨⟨b⟩⟩ := b; obtain ⟨⟨c⟩⟩ := c; obtain ⟨⟨d⟩⟩ := d
  simp only at ha hb hcc hd'
  subst ha hb hcc hd'
  intro j u hj
  refine rd_all ?_
  rw [Nat.zero_add, hc j, ← Array.getElem?_toList, h1]
  exact hj
end Go.Sl
