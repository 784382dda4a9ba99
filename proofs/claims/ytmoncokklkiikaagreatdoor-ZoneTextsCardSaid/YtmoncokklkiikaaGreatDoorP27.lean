/- ZoneTexts: facts on the whole program, each by itself. -/
import Derived.Test.YtmoncokklkiikaaGreatDoorP25
set_option linter.unusedSimpArgs false
set_option linter.unusedVariables false
set_option linter.unnecessarySimpa false
namespace Go.Proofs.YtmoncokklkiikaaGreatDoor
open Rg Go Go.RowKit Go.WideShapes Go.ChangeShapes
theorem zoneTexts_j0 : (laidOutB Tryz.prog) = true := by kernel_rfl
theorem zoneTexts_j1 : (mapsRowed Tryz.prog) = true := by kernel_rfl
theorem zoneTexts_j2 : ((Rows.zoneTextsRow.inPlace == Tryz.prog.inPlace 8)) = true := by kernel_rfl
theorem zoneTexts_j3 : ((Rows.zoneTextsRow.unfollowed == Tryz.prog.unfollowed 8)) = true := by kernel_rfl
theorem zoneTexts_j4 : ((Rows.zoneTextsRow.recurses == Tryz.prog.recurses 8)) = true := by kernel_rfl
theorem zoneTexts_j5 : ((Rows.zoneTextsRow.named == Tryz.prog.varsNamed 8)) = true := by kernel_rfl
theorem zoneTexts_joined : joinedFacts Tryz.prog 8 Tryz.f8 Rows.zoneTextsSpec Rows.zoneTextsRow = true := by
  unfold joinedFacts
  rw [zoneTexts_j0, zoneTexts_j1, zoneTexts_j2, zoneTexts_j3, zoneTexts_j4, zoneTexts_j5]
  kernel_rfl
end Go.Proofs.YtmoncokklkiikaaGreatDoor
