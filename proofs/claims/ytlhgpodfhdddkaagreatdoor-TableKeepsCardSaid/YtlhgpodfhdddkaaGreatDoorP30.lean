/- TableKeeps: facts on the whole program, each by itself. -/
import Derived.Test.YtlhgpodfhdddkaaGreatDoorP28
set_option linter.unusedSimpArgs false
set_option linter.unusedVariables false
set_option linter.unnecessarySimpa false
namespace Go.Proofs.YtlhgpodfhdddkaaGreatDoor
open Rg Go Go.RowKit Go.WideShapes Go.ChangeShapes
theorem tableKeeps_j0 : (laidOutB Tryz.prog) = true := by kernel_rfl
theorem tableKeeps_j1 : (mapsRowed Tryz.prog) = true := by kernel_rfl
theorem tableKeeps_j2 : ((Rows.tableKeepsRow.inPlace == Tryz.prog.inPlace 4)) = true := by kernel_rfl
theorem tableKeeps_j3 : ((Rows.tableKeepsRow.unfollowed == Tryz.prog.unfollowed 4)) = true := by kernel_rfl
theorem tableKeeps_j4 : ((Rows.tableKeepsRow.recurses == Tryz.prog.recurses 4)) = true := by kernel_rfl
theorem tableKeeps_j5 : ((Rows.tableKeepsRow.named == Tryz.prog.varsNamed 4)) = true := by kernel_rfl
theorem tableKeeps_joined : joinedFacts Tryz.prog 4 Tryz.f4 Rows.tableKeepsSpec Rows.tableKeepsRow = true := by
  unfold joinedFacts
  rw [tableKeeps_j0, tableKeeps_j1, tableKeeps_j2, tableKeeps_j3, tableKeeps_j4, tableKeeps_j5]
  kernel_rfl
end Go.Proofs.YtlhgpodfhdddkaaGreatDoor
