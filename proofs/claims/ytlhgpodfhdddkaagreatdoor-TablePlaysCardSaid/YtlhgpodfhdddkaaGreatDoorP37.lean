/- TablePlays: whether the program goes on beside itself; its tests. -/
import Derived.Test.YtlhgpodfhdddkaaGreatDoorP33
set_option linter.unusedSimpArgs false
set_option linter.unusedVariables false
set_option linter.unnecessarySimpa false
namespace Go.Proofs.YtlhgpodfhdddkaaGreatDoor
open Rg Go Go.RowKit Go.WideShapes Go.ChangeShapes
theorem tablePlays_goes : false = Rows.tablePlaysRow.goesBy Tryz.prog := by kernel_rfl
end Go.Proofs.YtlhgpodfhdddkaaGreatDoor
