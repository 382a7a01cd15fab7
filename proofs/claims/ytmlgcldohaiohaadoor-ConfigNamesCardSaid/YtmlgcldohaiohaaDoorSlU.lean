/- Structs that == compares: written by typegen.py. -/
import Derived.Test.YtmlgcldohaiohaaDoorSlQ
import Derived.Test.YtmlgcldohaiohaaDoorSlT
namespace Go.Sl
open Go Go.Proofs
instance : TyE Tryd.prog 36 [true, false, true, true, true, true, true, true, true, true, true] := ⟨by kernel_rfl⟩
end Go.Sl
