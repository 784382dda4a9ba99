/- ZoneTells: facts on the whole program, each by itself. -/
import Derived.Test.YtmoncokklkiikaaGreatDoorP23
set_option linter.unusedSimpArgs false
set_option linter.unusedVariables false
set_option linter.unnecessarySimpa false
namespace Go.Proofs.YtmoncokklkiikaaGreatDoor
open Rg Go Go.RowKit Go.WideShapes Go.ChangeShapes
theorem zoneTells_j0 : (laidOutB Tryz.prog) = true := by kernel_rfl
theorem zoneTells_j1 : (mapsRowed Tryz.prog) = true := by kernel_rfl
theorem zoneTells_j2 : ((Rows.zoneTellsRow.inPlace == Tryz.prog.inPlace 6)) = true := by kernel_rfl
theorem zoneTells_j3 : ((Rows.zoneTellsRow.unfollowed == Tryz.prog.unfollowed 6)) = true := by kernel_rfl
theorem zoneTells_j4 : ((Rows.zoneTellsRow.recurses == Tryz.prog.recurses 6)) = true := by kernel_rfl
theorem zoneTells_j5 : ((Rows.zoneTellsRow.named == Tryz.prog.varsNamed 6)) = true := by kernel_rfl
theorem zoneTells_joined : joinedFacts Tryz.prog 6 Tryz.f6 Rows.zoneTellsSpec Rows.zoneTellsRow = true := by
  unfold joinedFacts
  rw [zoneTells_j0, zoneTells_j1, zoneTells_j2, zoneTells_j3, zoneTells_j4, zoneTells_j5]
  kernel_rfl
end Go.Proofs.YtmoncokklkiikaaGreatDoor
