/- Structs that == compares: written by typegen.py. -/
import Derived.Test.YtclmkgnmgednnaaSlQ
import Derived.Test.YtclmkgnmgednnaaSlT
namespace Go.Sl
open Go Go.Proofs
instance : TyE Try.prog 42 [true, true, true, true, true, true] := ⟨by kernel_rfl⟩
end Go.Sl
