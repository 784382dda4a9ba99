/- ImagePuts: whether the program goes on beside itself; its tests. -/
import Derived.Test.YtghlkjkdejebnaaGreatDoorP29
set_option linter.unusedSimpArgs false
set_option linter.unusedVariables false
set_option linter.unnecessarySimpa false
namespace Go.Proofs.YtghlkjkdejebnaaGreatDoor
open Rg Go Go.RowKit Go.WideShapes Go.ChangeShapes
theorem imagePuts_goes : false = Rows.imagePutsRow.goesBy Tryz.prog := by kernel_rfl
end Go.Proofs.YtghlkjkdejebnaaGreatDoor
