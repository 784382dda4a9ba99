/- AuditLines: whether the program goes on beside itself; its tests. -/
import Derived.Test.YtghlkjkdejebnaaDoorP19
set_option linter.unusedSimpArgs false
set_option linter.unusedVariables false
set_option linter.unnecessarySimpa false
namespace Go.Proofs.YtghlkjkdejebnaaDoor
open Rg Go Go.RowKit Go.WideShapes Go.ChangeShapes
theorem auditLines_goes : false = Rows.auditLinesRow.goesBy Tryd.prog := by kernel_rfl
end Go.Proofs.YtghlkjkdejebnaaDoor
