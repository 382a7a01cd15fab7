/- A world for the witness: config.names holding what its initialiser lays. -/
import Derived.Test.YtmlgcldohaiohaaDoorLaidCfg
import Derived.Test.YtmlgcldohaiohaaDoorCards
import Derived.Test.YtmlgcldohaiohaaDoorTie
namespace Go.Proofs.YtmlgcldohaiohaaDoor
open Go.ChangeShapes Go.WideShapes Go.ChangeAt Go.RowKit Go.Sl
set_option linter.unusedVariables false
def laidHeapC (h : Array Obj) : Array Obj := h.modify 1 (fun | .cells _ t frozen => .cells engCells.toArray t frozen | o => o)
noncomputable def laidWorldC (os : Os) : World := { World.holding Tryd.prog os ⟨#[], #[], []⟩ with heap := laidHeapC (World.holding Tryd.prog os ⟨#[], #[], []⟩).heap }
theorem laid_metC (os : Os) (av : Array Value) : laidMet Tryd.prog Rows.configChecksRow.laid ((laidWorldC os).forCall (fun _ _ => 0) ⟨#[], av, []⟩).memory :=
  laidMet_of_run' 8 (by kernel_rfl) (by kernel_rfl)
end Go.Proofs.YtmlgcldohaiohaaDoor
