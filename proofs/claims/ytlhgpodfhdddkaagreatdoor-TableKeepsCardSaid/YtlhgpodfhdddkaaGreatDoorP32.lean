/- TableKeeps: whether the program goes on beside itself; its tests. -/
import Derived.Test.YtlhgpodfhdddkaaGreatDoorP28
set_option linter.unusedSimpArgs false
set_option linter.unusedVariables false
set_option linter.unnecessarySimpa false
namespace Go.Proofs.YtlhgpodfhdddkaaGreatDoor
open Rg Go Go.RowKit Go.WideShapes Go.ChangeShapes
theorem tableKeeps_goes : false = Rows.tableKeepsRow.goesBy Tryz.prog := by kernel_rfl
end Go.Proofs.YtlhgpodfhdddkaaGreatDoor
