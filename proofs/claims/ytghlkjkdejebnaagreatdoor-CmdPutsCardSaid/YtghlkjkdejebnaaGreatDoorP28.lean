/- CmdPuts: facts on the whole program, each by itself. -/
import Derived.Test.YtghlkjkdejebnaaGreatDoorP26
set_option linter.unusedSimpArgs false
set_option linter.unusedVariables false
set_option linter.unnecessarySimpa false
namespace Go.Proofs.YtghlkjkdejebnaaGreatDoor
open Rg Go Go.RowKit Go.WideShapes Go.ChangeShapes
theorem cmdPuts_j0 : (laidOutB Tryz.prog) = true := by kernel_rfl
theorem cmdPuts_j1 : (mapsRowed Tryz.prog) = true := by kernel_rfl
theorem cmdPuts_j2 : ((Rows.cmdPutsRow.inPlace == Tryz.prog.inPlace 3)) = true := by kernel_rfl
theorem cmdPuts_j3 : ((Rows.cmdPutsRow.unfollowed == Tryz.prog.unfollowed 3)) = true := by kernel_rfl
theorem cmdPuts_j4 : ((Rows.cmdPutsRow.recurses == Tryz.prog.recurses 3)) = true := by kernel_rfl
theorem cmdPuts_j5 : ((Rows.cmdPutsRow.named == Tryz.prog.varsNamed 3)) = true := by kernel_rfl
theorem cmdPuts_joined : joinedFacts Tryz.prog 3 Tryz.f3 Rows.cmdPutsSpec Rows.cmdPutsRow = true := by
  unfold joinedFacts
  rw [cmdPuts_j0, cmdPuts_j1, cmdPuts_j2, cmdPuts_j3, cmdPuts_j4, cmdPuts_j5]
  kernel_rfl
end Go.Proofs.YtghlkjkdejebnaaGreatDoor
