/- ConfigEdges: the parts joined. -/
import Derived.Test.YtmlgcldohaiohaaDoorCfE1
import Derived.Test.YtmlgcldohaiohaaDoorCfE2
namespace Go.Sl
open Go Go.Proofs
variable {A : HP}
theorem ConfigEdges_fn (hN : Names A) (l0 l1 l2 l3 l4 l5 w o : Int) (h0 : 0 ≤ l0 ∧ l0 ≤ 255) (h1 : 0 ≤ l1 ∧ l1 ≤ 255) (h2 : 0 ≤ l2 ∧ l2 ≤ 255) (h3 : 0 ≤ l3 ∧ l3 ≤ 255) (h4 : 0 ≤ l4 ∧ l4 ≤ 255) (h5 : 0 ≤ l5 ∧ l5 ≤ 255) (ho : -128 ≤ o ∧ o ≤ 127) :
    Fn Tryd.prog 6 [l6v l0 l1 l2 l3 l4 l5, vi w, .int .i8 o] A Unit (fun _ => .bool true) (fun _ => A) := by
  obtain ⟨q, hq⟩ : ∃ q, madeR l0 l1 l2 l3 l4 l5 = q := ⟨_, rfl⟩
  have ok := madeR_ok l0 l1 l2 l3 l4 l5 h0 h1 h2 h3 h4 h5 q hq
  have hM := Made_fn l0 l1 l2 l3 l4 l5 h0 h1 h2 h3 h4 h5
  rw [hq] at hM
  have ha : 0 ≤ andI .i64 w 255 ∧ andI .i64 w 255 ≤ 255 := and_i64 w 255 (by decide)
  rcases (by omega : (andI .i64 w 255 % 10 = 0 ∨ andI .i64 w 255 % 10 = 1 ∨ andI .i64 w 255 % 10 = 2 ∨ andI .i64 w 255 % 10 = 3 ∨ andI .i64 w 255 % 10 = 4) ∨ (andI .i64 w 255 % 10 = 5 ∨ andI .i64 w 255 % 10 = 6 ∨ andI .i64 w 255 % 10 = 7 ∨ andI .i64 w 255 % 10 = 8 ∨ andI .i64 w 255 % 10 = 9)) with hk | hk
  · exact ConfigEdges_1 hN l0 l1 l2 l3 l4 l5 w o q ok hM ho ha hk
  · exact ConfigEdges_2 hN l0 l1 l2 l3 l4 l5 w o q ok hM ho ha hk
theorem wf_i8 {n : Int} (h : (Lit.int .i8 n).wf = true) : -128 ≤ n ∧ n ≤ 127 := by simpa [Lit.wf, IntKind.min, IntKind.max, IntKind.signed, IntKind.bits] using h
end Go.Sl
