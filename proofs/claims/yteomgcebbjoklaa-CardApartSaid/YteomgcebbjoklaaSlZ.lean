/- An argument of bytes, as bytes that can be read. -/
import Derived.Test.YteomgcebbjoklaaSlL
import Derived.Test.YteomgcebbjoklaaSlW
namespace Go.Sl
open Go Go.ChangeShapes Go.WideShapes Go.ChangeAt Go.RowKit
set_option linter.unusedVariables false
variable {H : Type} {enc : TypeId × Value → H} {P : Program} {W : World} {t e : TypeId} {v : Value} {d : DataW H} {p : List MemPlace}
theorem vw_bytes (ht : P.underlying t = some (.slice e)) (he : P.underlying e = some (.int .u8)) (hc : P.cellsOf e = 1) {base : Nat} (hv : Value.okWide P W .any base t v) (h : DataW.Trod enc P W 0 (fun _ => true) true t v d p) :
    ∃ (a : Option Addr) (c : Nat) (l : List Int), v = .slice a l.length c ∧ Vw (Sl.all W) a l.length c l ∧ Len d l.length := by
  obtain ⟨a0, len, cap, rfl⟩ := okWide_slice ht hv
  obtain ⟨fuel, hf⟩ := h
  have wf : ∀ n : Int, (Lit.int .u8 n).wf = true → 0 ≤ n ∧ n ≤ 255 := fun n h => by simpa [Lit.wf, IntKind.min, IntKind.max, IntKind.signed, IntKind.bits] using h
  rcases open_ints ht he hc hf with ⟨hcs, hx⟩ | ⟨a, len', cap', zs, hcs, _, hl, hm, hz, hx, hcell, hwz⟩
  · simp [Value.cells] at hcs
    obtain ⟨rfl, rfl, rfl⟩ := hcs
    exact ⟨none, 0, [], rfl, ⟨⟨by simp, fun j u hj => by simp at hj⟩, by simp, fun _ => rfl, fun c hc => by cases hc⟩, .inl rfl⟩
  · simp [Value.cells] at hcs
    obtain ⟨rfl, rfl, rfl⟩ := hcs
    simp at hz
    have hlen : (zs.take len).length = len := by simp; omega
    refine ⟨some a, cap, zs.take len, by rw [hlen], ⟨⟨by simp, fun j u hj => ⟨rfl, ?_⟩⟩, by rw [hlen]; omega, (fun h => by cases h), fun n hn => wf n (hwz n (List.mem_of_mem_take hn))⟩, .inr ⟨_, _, congrArg Prod.fst hx, by simp [lits]⟩⟩
    rw [List.getElem?_map] at hj
    have hj2 : ∃ q, (zs.take len)[j]? = some q ∧ vb q = u := by simpa using hj
    obtain ⟨q, hq, rfl⟩ := hj2
    have hjlt : j < len := by rw [← hlen]; exact (List.getElem?_eq_some_iff.1 hq).1
    rw [List.getElem?_take, if_pos hjlt] at hq
    have := hcell j (by omega)
    rw [List.getD_eq_getElem?_getD, hq] at this
    exact rd_all this
end Go.Sl
