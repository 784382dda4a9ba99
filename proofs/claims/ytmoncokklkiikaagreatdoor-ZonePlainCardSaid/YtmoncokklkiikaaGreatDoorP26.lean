/- ZonePlain: facts on the whole program, each by itself. -/
import Derived.Test.YtmoncokklkiikaaGreatDoorP24
set_option linter.unusedSimpArgs false
set_option linter.unusedVariables false
set_option linter.unnecessarySimpa false
namespace Go.Proofs.YtmoncokklkiikaaGreatDoor
open Rg Go Go.RowKit Go.WideShapes Go.ChangeShapes
theorem zonePlain_j0 : (laidOutB Tryz.prog) = true := by kernel_rfl
theorem zonePlain_j1 : (mapsRowed Tryz.prog) = true := by kernel_rfl
theorem zonePlain_j2 : ((Rows.zonePlainRow.inPlace == Tryz.prog.inPlace 5)) = true := by kernel_rfl
theorem zonePlain_j3 : ((Rows.zonePlainRow.unfollowed == Tryz.prog.unfollowed 5)) = true := by kernel_rfl
theorem zonePlain_j4 : ((Rows.zonePlainRow.recurses == Tryz.prog.recurses 5)) = true := by kernel_rfl
theorem zonePlain_j5 : ((Rows.zonePlainRow.named == Tryz.prog.varsNamed 5)) = true := by kernel_rfl
theorem zonePlain_joined : joinedFacts Tryz.prog 5 Tryz.f5 Rows.zonePlainSpec Rows.zonePlainRow = true := by
  unfold joinedFacts
  rw [zonePlain_j0, zonePlain_j1, zonePlain_j2, zonePlain_j3, zonePlain_j4, zonePlain_j5]
  kernel_rfl
end Go.Proofs.YtmoncokklkiikaaGreatDoor
