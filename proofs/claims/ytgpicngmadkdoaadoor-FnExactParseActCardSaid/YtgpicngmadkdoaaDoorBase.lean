/- What all texts over this program use. -/
import Derived.Test.YtgpicngmadkdoaaDoorRGen
import Derived.Test.YtgpicngmadkdoaaDoorProg
set_option linter.unusedVariables false
set_option linter.unusedSimpArgs false
namespace Go.Proofs.YtgpicngmadkdoaaDoor
open Go Go.R Go.Proofs Go.RowKit
def byref : FuncId → Bool := fun f => [17].contains f
theorem mixed : Tryd.prog.follows .mixedOrders = true := by kernel_rfl
end Go.Proofs.YtgpicngmadkdoaaDoor
