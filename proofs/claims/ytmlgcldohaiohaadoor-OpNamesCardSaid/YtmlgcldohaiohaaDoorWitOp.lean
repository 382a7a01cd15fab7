/- A world for the witness: op.kinds holding what its initialiser lays. -/
import Derived.Test.YtmlgcldohaiohaaDoorLaidOp
import Derived.Test.YtmlgcldohaiohaaDoorCards
import Derived.Test.YtmlgcldohaiohaaDoorTie
namespace Go.Proofs.YtmlgcldohaiohaaDoor
open Go.ChangeShapes Go.WideShapes Go.ChangeAt Go.RowKit Go.Sl
set_option linter.unusedVariables false
def laidHeap (h : Array Obj) : Array Obj := (h.modify 0 (fun | .cells _ t frozen => .cells #[.slice (some ⟨h.size, 0, none⟩) 13 13] t frozen | o => o)).push (Obj.cells kindCells.toArray 60 (0, 0))
noncomputable def laidWorld (os : Os) : World := { World.holding Tryd.prog os ⟨#[], #[], []⟩ with heap := laidHeap (World.holding Tryd.prog os ⟨#[], #[], []⟩).heap }
theorem laid_met (os : Os) (av : Array Value) : laidMet Tryd.prog Rows.opNamesRow.laid ((laidWorld os).forCall (fun _ _ => 0) ⟨#[], av, []⟩).memory :=
  laidMet_of_run' 8 (by kernel_rfl) (by kernel_rfl)
end Go.Proofs.YtmlgcldohaiohaaDoor
