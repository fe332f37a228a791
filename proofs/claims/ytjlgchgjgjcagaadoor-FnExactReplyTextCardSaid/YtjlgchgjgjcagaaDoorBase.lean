/- What all texts over this program use. -/
import Derived.Test.YtjlgchgjgjcagaaDoorRGen
import Derived.Test.YtjlgchgjgjcagaaDoorProg
set_option linter.unusedVariables false
set_option linter.unusedSimpArgs false
namespace Go.Proofs.YtjlgchgjgjcagaaDoor
open Go Go.R Go.Proofs Go.RowKit
def byref : FuncId → Bool := fun _ => false
theorem mixed : Tryd.prog.follows .mixedOrders = true := by kernel_rfl
end Go.Proofs.YtjlgchgjgjcagaaDoor
