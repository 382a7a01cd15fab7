/- OpNames: the walk, put together. -/
import Derived.Test.YtmlgcldohaiohaaDoorOpN0
import Derived.Test.YtmlgcldohaiohaaDoorOpN1
import Derived.Test.YtmlgcldohaiohaaDoorOpN2
namespace Go.Sl
open Go Go.Proofs
variable {A : HP} {b o c : Nat}
theorem OpNames_fn (hK : Kinds A b o c) (n : Int) (s : ByteArray) (kk t q x y z : Int) : Fn Tryd.prog 3 [vi n, .string s, itv kk t q x y z] A Unit (fun _ => .bool true) (fun _ => A) := by
  rcases (by omega : (0 ≤ n ∧ n < 13) ∨ n < 0 ∨ 13 ≤ n) with hn | hn | hn
  · exact OpNames_0 hK n s kk t q x y z hn
  · exact OpNames_1 hK n s kk t q x y z hn
  · exact OpNames_2 hK n s kk t q x y z hn
end Go.Sl
