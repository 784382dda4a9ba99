/- AuditLines: facts on the whole program, each by itself. -/
import Derived.Test.YtghlkjkdejebnaaDoorP19
set_option linter.unusedSimpArgs false
set_option linter.unusedVariables false
set_option linter.unnecessarySimpa false
namespace Go.Proofs.YtghlkjkdejebnaaDoor
open Rg Go Go.RowKit Go.WideShapes Go.ChangeShapes
theorem auditLines_j0 : (laidOutB Tryd.prog) = true := by kernel_rfl
theorem auditLines_j1 : (mapsRowed Tryd.prog) = true := by kernel_rfl
theorem auditLines_j2 : ((Rows.auditLinesRow.inPlace == Tryd.prog.inPlace 3)) = true := by kernel_rfl
theorem auditLines_j3 : ((Rows.auditLinesRow.unfollowed == Tryd.prog.unfollowed 3)) = true := by kernel_rfl
theorem auditLines_j4 : ((Rows.auditLinesRow.recurses == Tryd.prog.recurses 3)) = true := by kernel_rfl
theorem auditLines_j5 : ((Rows.auditLinesRow.named == Tryd.prog.varsNamed 3)) = true := by kernel_rfl
theorem auditLines_joined : joinedFacts Tryd.prog 3 Tryd.f3 Rows.auditLinesSpec Rows.auditLinesRow = true := by
  unfold joinedFacts
  rw [auditLines_j0, auditLines_j1, auditLines_j2, auditLines_j3, auditLines_j4, auditLines_j5]
  kernel_rfl
end Go.Proofs.YtghlkjkdejebnaaDoor
