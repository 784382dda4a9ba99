/- ImagePuts: facts on the whole program, each by itself. -/
import Derived.Test.YtghlkjkdejebnaaGreatDoorP29
set_option linter.unusedSimpArgs false
set_option linter.unusedVariables false
set_option linter.unnecessarySimpa false
namespace Go.Proofs.YtghlkjkdejebnaaGreatDoor
open Rg Go Go.RowKit Go.WideShapes Go.ChangeShapes
theorem imagePuts_j0 : (laidOutB Tryz.prog) = true := by kernel_rfl
theorem imagePuts_j1 : (mapsRowed Tryz.prog) = true := by kernel_rfl
theorem imagePuts_j2 : ((Rows.imagePutsRow.inPlace == Tryz.prog.inPlace 5)) = true := by kernel_rfl
theorem imagePuts_j3 : ((Rows.imagePutsRow.unfollowed == Tryz.prog.unfollowed 5)) = true := by kernel_rfl
theorem imagePuts_j4 : ((Rows.imagePutsRow.recurses == Tryz.prog.recurses 5)) = true := by kernel_rfl
theorem imagePuts_j5 : ((Rows.imagePutsRow.named == Tryz.prog.varsNamed 5)) = true := by kernel_rfl
theorem imagePuts_joined : joinedFacts Tryz.prog 5 Tryz.f5 Rows.imagePutsSpec Rows.imagePutsRow = true := by
  unfold joinedFacts
  rw [imagePuts_j0, imagePuts_j1, imagePuts_j2, imagePuts_j3, imagePuts_j4, imagePuts_j5]
  kernel_rfl
end Go.Proofs.YtghlkjkdejebnaaGreatDoor
