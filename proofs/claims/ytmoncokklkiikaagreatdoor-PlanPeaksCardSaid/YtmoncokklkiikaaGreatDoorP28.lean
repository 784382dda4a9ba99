/- PlanPeaks: facts on the whole program, each by itself. -/
import Derived.Test.YtmoncokklkiikaaGreatDoorP26
set_option linter.unusedSimpArgs false
set_option linter.unusedVariables false
set_option linter.unnecessarySimpa false
namespace Go.Proofs.YtmoncokklkiikaaGreatDoor
open Rg Go Go.RowKit Go.WideShapes Go.ChangeShapes
theorem planPeaks_j0 : (laidOutB Tryz.prog) = true := by kernel_rfl
theorem planPeaks_j1 : (mapsRowed Tryz.prog) = true := by kernel_rfl
theorem planPeaks_j2 : ((Rows.planPeaksRow.inPlace == Tryz.prog.inPlace 9)) = true := by kernel_rfl
theorem planPeaks_j3 : ((Rows.planPeaksRow.unfollowed == Tryz.prog.unfollowed 9)) = true := by kernel_rfl
theorem planPeaks_j4 : ((Rows.planPeaksRow.recurses == Tryz.prog.recurses 9)) = true := by kernel_rfl
theorem planPeaks_j5 : ((Rows.planPeaksRow.named == Tryz.prog.varsNamed 9)) = true := by kernel_rfl
theorem planPeaks_joined : joinedFacts Tryz.prog 9 Tryz.f9 Rows.planPeaksSpec Rows.planPeaksRow = true := by
  unfold joinedFacts
  rw [planPeaks_j0, planPeaks_j1, planPeaks_j2, planPeaks_j3, planPeaks_j4, planPeaks_j5]
  kernel_rfl
end Go.Proofs.YtmoncokklkiikaaGreatDoor
