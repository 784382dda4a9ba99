/- PlanMore: facts on the whole program, each by itself. -/
import Derived.Test.YtmoncokklkiikaaGreatDoorP28
set_option linter.unusedSimpArgs false
set_option linter.unusedVariables false
set_option linter.unnecessarySimpa false
namespace Go.Proofs.YtmoncokklkiikaaGreatDoor
open Rg Go Go.RowKit Go.WideShapes Go.ChangeShapes
theorem planMore_j0 : (laidOutB Tryz.prog) = true := by kernel_rfl
theorem planMore_j1 : (mapsRowed Tryz.prog) = true := by kernel_rfl
theorem planMore_j2 : ((Rows.planMoreRow.inPlace == Tryz.prog.inPlace 12)) = true := by kernel_rfl
theorem planMore_j3 : ((Rows.planMoreRow.unfollowed == Tryz.prog.unfollowed 12)) = true := by kernel_rfl
theorem planMore_j4 : ((Rows.planMoreRow.recurses == Tryz.prog.recurses 12)) = true := by kernel_rfl
theorem planMore_j5 : ((Rows.planMoreRow.named == Tryz.prog.varsNamed 12)) = true := by kernel_rfl
theorem planMore_joined : joinedFacts Tryz.prog 12 Tryz.f12 Rows.planMoreSpec Rows.planMoreRow = true := by
  unfold joinedFacts
  rw [planMore_j0, planMore_j1, planMore_j2, planMore_j3, planMore_j4, planMore_j5]
  kernel_rfl
end Go.Proofs.YtmoncokklkiikaaGreatDoor
