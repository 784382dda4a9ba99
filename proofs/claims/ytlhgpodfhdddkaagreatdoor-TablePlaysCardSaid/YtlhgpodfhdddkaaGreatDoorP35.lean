/- TablePlays: facts on the whole program, each by itself. -/
import Derived.Test.YtlhgpodfhdddkaaGreatDoorP33
set_option linter.unusedSimpArgs false
set_option linter.unusedVariables false
set_option linter.unnecessarySimpa false
namespace Go.Proofs.YtlhgpodfhdddkaaGreatDoor
open Rg Go Go.RowKit Go.WideShapes Go.ChangeShapes
theorem tablePlays_j0 : (laidOutB Tryz.prog) = true := by kernel_rfl
theorem tablePlays_j1 : (mapsRowed Tryz.prog) = true := by kernel_rfl
theorem tablePlays_j2 : ((Rows.tablePlaysRow.inPlace == Tryz.prog.inPlace 3)) = true := by kernel_rfl
theorem tablePlays_j3 : ((Rows.tablePlaysRow.unfollowed == Tryz.prog.unfollowed 3)) = true := by kernel_rfl
theorem tablePlays_j4 : ((Rows.tablePlaysRow.recurses == Tryz.prog.recurses 3)) = true := by kernel_rfl
theorem tablePlays_j5 : ((Rows.tablePlaysRow.named == Tryz.prog.varsNamed 3)) = true := by kernel_rfl
theorem tablePlays_joined : joinedFacts Tryz.prog 3 Tryz.f3 Rows.tablePlaysSpec Rows.tablePlaysRow = true := by
  unfold joinedFacts
  rw [tablePlays_j0, tablePlays_j1, tablePlays_j2, tablePlays_j3, tablePlays_j4, tablePlays_j5]
  kernel_rfl
end Go.Proofs.YtlhgpodfhdddkaaGreatDoor
