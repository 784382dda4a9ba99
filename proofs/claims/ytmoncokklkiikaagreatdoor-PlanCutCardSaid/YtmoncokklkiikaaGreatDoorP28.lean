/- PlanCut: facts on the whole program, each by itself. -/
import Derived.Test.YtmoncokklkiikaaGreatDoorP26
set_option linter.unusedSimpArgs false
set_option linter.unusedVariables false
set_option linter.unnecessarySimpa false
namespace Go.Proofs.YtmoncokklkiikaaGreatDoor
open Rg Go Go.RowKit Go.WideShapes Go.ChangeShapes
theorem planCut_j0 : (laidOutB Tryz.prog) = true := by kernel_rfl
theorem planCut_j1 : (mapsRowed Tryz.prog) = true := by kernel_rfl
theorem planCut_j2 : ((Rows.planCutRow.inPlace == Tryz.prog.inPlace 13)) = true := by kernel_rfl
theorem planCut_j3 : ((Rows.planCutRow.unfollowed == Tryz.prog.unfollowed 13)) = true := by kernel_rfl
theorem planCut_j4 : ((Rows.planCutRow.recurses == Tryz.prog.recurses 13)) = true := by kernel_rfl
theorem planCut_j5 : ((Rows.planCutRow.named == Tryz.prog.varsNamed 13)) = true := by kernel_rfl
theorem planCut_joined : joinedFacts Tryz.prog 13 Tryz.f13 Rows.planCutSpec Rows.planCutRow = true := by
  unfold joinedFacts
  rw [planCut_j0, planCut_j1, planCut_j2, planCut_j3, planCut_j4, planCut_j5]
  kernel_rfl
end Go.Proofs.YtmoncokklkiikaaGreatDoor
