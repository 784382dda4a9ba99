/- PlanGoes: facts on the whole program, each by itself. -/
import Derived.Test.YtmoncokklkiikaaGreatDoorP26
set_option linter.unusedSimpArgs false
set_option linter.unusedVariables false
set_option linter.unnecessarySimpa false
namespace Go.Proofs.YtmoncokklkiikaaGreatDoor
open Rg Go Go.RowKit Go.WideShapes Go.ChangeShapes
theorem planGoes_j0 : (laidOutB Tryz.prog) = true := by kernel_rfl
theorem planGoes_j1 : (mapsRowed Tryz.prog) = true := by kernel_rfl
theorem planGoes_j2 : ((Rows.planGoesRow.inPlace == Tryz.prog.inPlace 10)) = true := by kernel_rfl
theorem planGoes_j3 : ((Rows.planGoesRow.unfollowed == Tryz.prog.unfollowed 10)) = true := by kernel_rfl
theorem planGoes_j4 : ((Rows.planGoesRow.recurses == Tryz.prog.recurses 10)) = true := by kernel_rfl
theorem planGoes_j5 : ((Rows.planGoesRow.named == Tryz.prog.varsNamed 10)) = true := by kernel_rfl
theorem planGoes_joined : joinedFacts Tryz.prog 10 Tryz.f10 Rows.planGoesSpec Rows.planGoesRow = true := by
  unfold joinedFacts
  rw [planGoes_j0, planGoes_j1, planGoes_j2, planGoes_j3, planGoes_j4, planGoes_j5]
  kernel_rfl
end Go.Proofs.YtmoncokklkiikaaGreatDoor
