/- PlanFree: facts on the whole program, each by itself. -/
import Derived.Test.YtmoncokklkiikaaGreatDoorP22
set_option linter.unusedSimpArgs false
set_option linter.unusedVariables false
set_option linter.unnecessarySimpa false
namespace Go.Proofs.YtmoncokklkiikaaGreatDoor
open Rg Go Go.RowKit Go.WideShapes Go.ChangeShapes
theorem planFree_j0 : (laidOutB Tryz.prog) = true := by kernel_rfl
theorem planFree_j1 : (mapsRowed Tryz.prog) = true := by kernel_rfl
theorem planFree_j2 : ((Rows.planFreeRow.inPlace == Tryz.prog.inPlace 11)) = true := by kernel_rfl
theorem planFree_j3 : ((Rows.planFreeRow.unfollowed == Tryz.prog.unfollowed 11)) = true := by kernel_rfl
theorem planFree_j4 : ((Rows.planFreeRow.recurses == Tryz.prog.recurses 11)) = true := by kernel_rfl
theorem planFree_j5 : ((Rows.planFreeRow.named == Tryz.prog.varsNamed 11)) = true := by kernel_rfl
theorem planFree_joined : joinedFacts Tryz.prog 11 Tryz.f11 Rows.planFreeSpec Rows.planFreeRow = true := by
  unfold joinedFacts
  rw [planFree_j0, planFree_j1, planFree_j2, planFree_j3, planFree_j4, planFree_j5]
  kernel_rfl
end Go.Proofs.YtmoncokklkiikaaGreatDoor
