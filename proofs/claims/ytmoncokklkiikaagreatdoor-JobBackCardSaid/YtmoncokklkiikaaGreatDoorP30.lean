/- JobBack: facts on the whole program, each by itself. -/
import Derived.Test.YtmoncokklkiikaaGreatDoorP28
set_option linter.unusedSimpArgs false
set_option linter.unusedVariables false
set_option linter.unnecessarySimpa false
namespace Go.Proofs.YtmoncokklkiikaaGreatDoor
open Rg Go Go.RowKit Go.WideShapes Go.ChangeShapes
theorem jobBack_j0 : (laidOutB Tryz.prog) = true := by kernel_rfl
theorem jobBack_j1 : (mapsRowed Tryz.prog) = true := by kernel_rfl
theorem jobBack_j2 : ((Rows.jobBackRow.inPlace == Tryz.prog.inPlace 3)) = true := by kernel_rfl
theorem jobBack_j3 : ((Rows.jobBackRow.unfollowed == Tryz.prog.unfollowed 3)) = true := by kernel_rfl
theorem jobBack_j4 : ((Rows.jobBackRow.recurses == Tryz.prog.recurses 3)) = true := by kernel_rfl
theorem jobBack_j5 : ((Rows.jobBackRow.named == Tryz.prog.varsNamed 3)) = true := by kernel_rfl
theorem jobBack_joined : joinedFacts Tryz.prog 3 Tryz.f3 Rows.jobBackSpec Rows.jobBackRow = true := by
  unfold joinedFacts
  rw [jobBack_j0, jobBack_j1, jobBack_j2, jobBack_j3, jobBack_j4, jobBack_j5]
  kernel_rfl
end Go.Proofs.YtmoncokklkiikaaGreatDoor
