/- PlanMore: whether the program goes on beside itself; its tests. -/
import Derived.Test.YtmoncokklkiikaaGreatDoorP28
set_option linter.unusedSimpArgs false
set_option linter.unusedVariables false
set_option linter.unnecessarySimpa false
namespace Go.Proofs.YtmoncokklkiikaaGreatDoor
open Rg Go Go.RowKit Go.WideShapes Go.ChangeShapes
theorem planMore_goes : false = Rows.planMoreRow.goesBy Tryz.prog := by kernel_rfl
end Go.Proofs.YtmoncokklkiikaaGreatDoor
