/- CmdBack: facts on the whole program, each by itself. -/
import Derived.Test.YtghlkjkdejebnaaGreatDoorP20
set_option linter.unusedSimpArgs false
set_option linter.unusedVariables false
set_option linter.unnecessarySimpa false
namespace Go.Proofs.YtghlkjkdejebnaaGreatDoor
open Rg Go Go.RowKit Go.WideShapes Go.ChangeShapes
theorem cmdBack_j0 : (laidOutB Tryz.prog) = true := by kernel_rfl
theorem cmdBack_j1 : (mapsRowed Tryz.prog) = true := by kernel_rfl
theorem cmdBack_j2 : ((Rows.cmdBackRow.inPlace == Tryz.prog.inPlace 4)) = true := by kernel_rfl
theorem cmdBack_j3 : ((Rows.cmdBackRow.unfollowed == Tryz.prog.unfollowed 4)) = true := by kernel_rfl
theorem cmdBack_j4 : ((Rows.cmdBackRow.recurses == Tryz.prog.recurses 4)) = true := by kernel_rfl
theorem cmdBack_j5 : ((Rows.cmdBackRow.named == Tryz.prog.varsNamed 4)) = true := by kernel_rfl
theorem cmdBack_joined : joinedFacts Tryz.prog 4 Tryz.f4 Rows.cmdBackSpec Rows.cmdBackRow = true := by
  unfold joinedFacts
  rw [cmdBack_j0, cmdBack_j1, cmdBack_j2, cmdBack_j3, cmdBack_j4, cmdBack_j5]
  kernel_rfl
end Go.Proofs.YtghlkjkdejebnaaGreatDoor
