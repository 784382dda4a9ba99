/- ZoneOnce: facts on the whole program, each by itself. -/
import Derived.Test.YtmoncokklkiikaaGreatDoorP27
set_option linter.unusedSimpArgs false
set_option linter.unusedVariables false
set_option linter.unnecessarySimpa false
namespace Go.Proofs.YtmoncokklkiikaaGreatDoor
open Rg Go Go.RowKit Go.WideShapes Go.ChangeShapes
theorem zoneOnce_j0 : (laidOutB Tryz.prog) = true := by kernel_rfl
theorem zoneOnce_j1 : (mapsRowed Tryz.prog) = true := by kernel_rfl
theorem zoneOnce_j2 : ((Rows.zoneOnceRow.inPlace == Tryz.prog.inPlace 7)) = true := by kernel_rfl
theorem zoneOnce_j3 : ((Rows.zoneOnceRow.unfollowed == Tryz.prog.unfollowed 7)) = true := by kernel_rfl
theorem zoneOnce_j4 : ((Rows.zoneOnceRow.recurses == Tryz.prog.recurses 7)) = true := by kernel_rfl
theorem zoneOnce_j5 : ((Rows.zoneOnceRow.named == Tryz.prog.varsNamed 7)) = true := by kernel_rfl
theorem zoneOnce_joined : joinedFacts Tryz.prog 7 Tryz.f7 Rows.zoneOnceSpec Rows.zoneOnceRow = true := by
  unfold joinedFacts
  rw [zoneOnce_j0, zoneOnce_j1, zoneOnce_j2, zoneOnce_j3, zoneOnce_j4, zoneOnce_j5]
  kernel_rfl
end Go.Proofs.YtmoncokklkiikaaGreatDoor
