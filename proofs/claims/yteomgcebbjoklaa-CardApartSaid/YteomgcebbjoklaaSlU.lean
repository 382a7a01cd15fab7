/- Structs that == compares: written by typegen.py. -/
import Derived.Test.YteomgcebbjoklaaSlQ
import Derived.Test.YteomgcebbjoklaaSlT
namespace Go.Sl
open Go Go.Proofs
end Go.Sl
