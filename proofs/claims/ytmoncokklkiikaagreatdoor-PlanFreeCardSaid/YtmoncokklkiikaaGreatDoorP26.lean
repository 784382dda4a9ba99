/- PlanFree: whether the program goes on beside itself; its tests. -/
import Derived.Test.YtmoncokklkiikaaGreatDoorP22
set_option linter.unusedSimpArgs false
set_option linter.unusedVariables false
set_option linter.unnecessarySimpa false
namespace Go.Proofs.YtmoncokklkiikaaGreatDoor
open Rg Go Go.RowKit Go.WideShapes Go.ChangeShapes
theorem planFree_goes : false = Rows.planFreeRow.goesBy Tryz.prog := by kernel_rfl
end Go.Proofs.YtmoncokklkiikaaGreatDoor
