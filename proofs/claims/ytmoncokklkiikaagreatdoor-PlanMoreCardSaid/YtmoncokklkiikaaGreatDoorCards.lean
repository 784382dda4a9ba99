/-
  DERIVED. GIVEN WITH THE SEED: THE CARDS: each row of YtmoncokklkiikaaGreatDoorRows.lean that lists a variable, with what it lists TIED to the program's text (the seventh form; the later family's looks); each row that meets fmt, with fmt's text TOLD by the authors' own Lean function (tested against real Go, not proved from fmt's source: count such statements apart). THE CARD IS WHAT COUNTS. Prove the row's statement (the work); the ties are given (YtmoncokklkiikaaGreatDoorTie.lean); close each card by the builder's one call (the guide's Derived/Test/ToyasCard.lean, 'card_holds'). Laid BY PROGRAM, IN A SANDBOX (cutbox-door.mjs). By AI agents, Wed Nov 11 2026. No macro, syntax, notation, axiom, sorry.
-/
import Derived.Test.YtmoncokklkiikaaGreatDoorRows
import GoSem.ClaimSeven
namespace Go.Proofs.YtmoncokklkiikaaGreatDoor
namespace Rows

/-- THE TIED CARD OF 'ringerlaw14.JobBack'. -/
def jobBackCard : Claim7 := { stood := { row := jobBackRow, standIns := [], harness := (true, "87438cd347e820d663ba37b69afc297be849d621f89abd7b018d8ee2edf7c7f5"), looks := true }, kinds := [], alts := [], laidByText := true, laidKinds := [.data, .data, .data, .data, .sentinel, .sentinel, .pinned], laidTests := true, laidLooks := .later }
def JobBackCardSaid : Prop := Claim7.holds Tryz.pinned (.plain (OpenSpec.ofChange jobBackSpec)) jobBackCard

/-- THE TIED CARD OF 'ringerlaw36.ZoneFires'. -/
def zoneFiresCard : Claim7 := { stood := { row := zoneFiresRow, standIns := [], harness := (true, "87438cd347e820d663ba37b69afc297be849d621f89abd7b018d8ee2edf7c7f5"), looks := true }, kinds := [], alts := [], laidByText := true, laidKinds := [.data, .data, .data], laidTests := true, laidLooks := .later }
def ZoneFiresCardSaid : Prop := Claim7.holds Tryz.pinned (.plain (OpenSpec.ofChange zoneFiresSpec)) zoneFiresCard

/-- THE TIED CARD OF 'ringerlaw36.ZonePlain'. -/
def zonePlainCard : Claim7 := { stood := { row := zonePlainRow, standIns := [], harness := (true, "87438cd347e820d663ba37b69afc297be849d621f89abd7b018d8ee2edf7c7f5"), looks := true }, kinds := [], alts := [], laidByText := true, laidKinds := [.data, .data, .data], laidTests := true, laidLooks := .later }
def ZonePlainCardSaid : Prop := Claim7.holds Tryz.pinned (.plain (OpenSpec.ofChange zonePlainSpec)) zonePlainCard

/-- THE TIED CARD OF 'ringerlaw36.ZoneTells'. -/
def zoneTellsCard : Claim7 := { stood := { row := zoneTellsRow, standIns := [], harness := (true, "87438cd347e820d663ba37b69afc297be849d621f89abd7b018d8ee2edf7c7f5"), looks := true }, kinds := [], alts := [], laidByText := true, laidKinds := [.data, .data, .data], laidTests := true, laidLooks := .later }
def ZoneTellsCardSaid : Prop := Claim7.holds Tryz.pinned (.plain (OpenSpec.ofChange zoneTellsSpec)) zoneTellsCard

/-- THE TIED CARD OF 'ringerlaw36.ZoneOnce'. -/
def zoneOnceCard : Claim7 := { stood := { row := zoneOnceRow, standIns := [], harness := (true, "87438cd347e820d663ba37b69afc297be849d621f89abd7b018d8ee2edf7c7f5"), looks := true }, kinds := [], alts := [], laidByText := true, laidKinds := [.data, .data, .data], laidTests := true, laidLooks := .later }
def ZoneOnceCardSaid : Prop := Claim7.holds Tryz.pinned (.plain (OpenSpec.ofChange zoneOnceSpec)) zoneOnceCard

/-- THE TIED CARD OF 'ringerlaw36.ZoneTexts'. -/
def zoneTextsCard : Claim7 := { stood := { row := zoneTextsRow, standIns := [], harness := (true, "87438cd347e820d663ba37b69afc297be849d621f89abd7b018d8ee2edf7c7f5"), looks := true }, kinds := [], alts := [], laidByText := true, laidKinds := [.data, .data, .data, .data, .sentinel, .sentinel, .pinned], laidTests := true, laidLooks := .later }
def ZoneTextsCardSaid : Prop := Claim7.holds Tryz.pinned (.plain (OpenSpec.ofChange zoneTextsSpec)) zoneTextsCard

/-- THE TIED CARD OF 'ringerlaw37.PlanPeaks'. -/
def planPeaksCard : Claim7 := { stood := { row := planPeaksRow, standIns := [], harness := (true, "87438cd347e820d663ba37b69afc297be849d621f89abd7b018d8ee2edf7c7f5"), looks := true }, kinds := [], alts := [], laidByText := true, laidKinds := [.data, .data, .data, .data, .sentinel, .sentinel, .pinned], laidTests := true, laidLooks := .later }
def PlanPeaksCardSaid : Prop := Claim7.holds Tryz.pinned (.plain (OpenSpec.ofChange planPeaksSpec)) planPeaksCard

/-- THE TIED CARD OF 'ringerlaw37.PlanGoes'. -/
def planGoesCard : Claim7 := { stood := { row := planGoesRow, standIns := [], harness := (true, "87438cd347e820d663ba37b69afc297be849d621f89abd7b018d8ee2edf7c7f5"), looks := true }, kinds := [], alts := [], laidByText := true, laidKinds := [.data, .data, .data, .data, .sentinel, .sentinel, .pinned], laidTests := true, laidLooks := .later }
def PlanGoesCardSaid : Prop := Claim7.holds Tryz.pinned (.plain (OpenSpec.ofChange planGoesSpec)) planGoesCard

/-- THE TIED CARD OF 'ringerlaw37.PlanFree'. -/
def planFreeCard : Claim7 := { stood := { row := planFreeRow, standIns := [], harness := (true, "87438cd347e820d663ba37b69afc297be849d621f89abd7b018d8ee2edf7c7f5"), looks := true }, kinds := [], alts := [], laidByText := true, laidKinds := [.data, .data, .data, .data, .sentinel, .sentinel, .pinned], laidTests := true, laidLooks := .later }
def PlanFreeCardSaid : Prop := Claim7.holds Tryz.pinned (.plain (OpenSpec.ofChange planFreeSpec)) planFreeCard

/-- THE TIED CARD OF 'ringerlaw37.PlanMore'. -/
def planMoreCard : Claim7 := { stood := { row := planMoreRow, standIns := [], harness := (true, "87438cd347e820d663ba37b69afc297be849d621f89abd7b018d8ee2edf7c7f5"), looks := true }, kinds := [], alts := [], laidByText := true, laidKinds := [.data, .data, .data, .data, .sentinel, .sentinel, .pinned], laidTests := true, laidLooks := .later }
def PlanMoreCardSaid : Prop := Claim7.holds Tryz.pinned (.plain (OpenSpec.ofChange planMoreSpec)) planMoreCard

/-- THE TIED CARD OF 'ringerlaw37.PlanCut'. -/
def planCutCard : Claim7 := { stood := { row := planCutRow, standIns := [], harness := (true, "87438cd347e820d663ba37b69afc297be849d621f89abd7b018d8ee2edf7c7f5"), looks := true }, kinds := [], alts := [], laidByText := true, laidKinds := [.data, .data, .data, .data, .sentinel, .sentinel, .pinned], laidTests := true, laidLooks := .later }
def PlanCutCardSaid : Prop := Claim7.holds Tryz.pinned (.plain (OpenSpec.ofChange planCutSpec)) planCutCard

/-- THE SECOND FORM's CARD OF 'ringerlaw14.JobBack'. -/
def jobBackUptoCard : Claim7 := { stood := { row := jobBackUptoRow, standIns := [], harness := (true, "87438cd347e820d663ba37b69afc297be849d621f89abd7b018d8ee2edf7c7f5"), looks := true }, kinds := [], alts := [], laidByText := true, laidKinds := [.data, .data, .data, .data, .sentinel, .sentinel, .pinned], laidTests := true, laidLooks := .later }
def JobBackUptoCardSaid : Prop := Claim7.holds Tryz.pinned (.plain (OpenSpec.upto jobBackSpec)) jobBackUptoCard

/-- THE SECOND FORM's CARD OF 'ringerlaw36.ZoneFires'. -/
def zoneFiresUptoCard : Claim7 := { stood := { row := zoneFiresUptoRow, standIns := [], harness := (true, "87438cd347e820d663ba37b69afc297be849d621f89abd7b018d8ee2edf7c7f5"), looks := true }, kinds := [], alts := [], laidByText := true, laidKinds := [.data, .data, .data], laidTests := true, laidLooks := .later }
def ZoneFiresUptoCardSaid : Prop := Claim7.holds Tryz.pinned (.plain (OpenSpec.upto zoneFiresSpec)) zoneFiresUptoCard

/-- THE SECOND FORM's CARD OF 'ringerlaw36.ZonePlain'. -/
def zonePlainUptoCard : Claim7 := { stood := { row := zonePlainUptoRow, standIns := [], harness := (true, "87438cd347e820d663ba37b69afc297be849d621f89abd7b018d8ee2edf7c7f5"), looks := true }, kinds := [], alts := [], laidByText := true, laidKinds := [.data, .data, .data], laidTests := true, laidLooks := .later }
def ZonePlainUptoCardSaid : Prop := Claim7.holds Tryz.pinned (.plain (OpenSpec.upto zonePlainSpec)) zonePlainUptoCard

/-- THE SECOND FORM's CARD OF 'ringerlaw36.ZoneTells'. -/
def zoneTellsUptoCard : Claim7 := { stood := { row := zoneTellsUptoRow, standIns := [], harness := (true, "87438cd347e820d663ba37b69afc297be849d621f89abd7b018d8ee2edf7c7f5"), looks := true }, kinds := [], alts := [], laidByText := true, laidKinds := [.data, .data, .data], laidTests := true, laidLooks := .later }
def ZoneTellsUptoCardSaid : Prop := Claim7.holds Tryz.pinned (.plain (OpenSpec.upto zoneTellsSpec)) zoneTellsUptoCard

/-- THE SECOND FORM's CARD OF 'ringerlaw36.ZoneOnce'. -/
def zoneOnceUptoCard : Claim7 := { stood := { row := zoneOnceUptoRow, standIns := [], harness := (true, "87438cd347e820d663ba37b69afc297be849d621f89abd7b018d8ee2edf7c7f5"), looks := true }, kinds := [], alts := [], laidByText := true, laidKinds := [.data, .data, .data], laidTests := true, laidLooks := .later }
def ZoneOnceUptoCardSaid : Prop := Claim7.holds Tryz.pinned (.plain (OpenSpec.upto zoneOnceSpec)) zoneOnceUptoCard

/-- THE SECOND FORM's CARD OF 'ringerlaw36.ZoneTexts'. -/
def zoneTextsUptoCard : Claim7 := { stood := { row := zoneTextsUptoRow, standIns := [], harness := (true, "87438cd347e820d663ba37b69afc297be849d621f89abd7b018d8ee2edf7c7f5"), looks := true }, kinds := [], alts := [], laidByText := true, laidKinds := [.data, .data, .data, .data, .sentinel, .sentinel, .pinned], laidTests := true, laidLooks := .later }
def ZoneTextsUptoCardSaid : Prop := Claim7.holds Tryz.pinned (.plain (OpenSpec.upto zoneTextsSpec)) zoneTextsUptoCard

/-- THE SECOND FORM's CARD OF 'ringerlaw37.PlanPeaks'. -/
def planPeaksUptoCard : Claim7 := { stood := { row := planPeaksUptoRow, standIns := [], harness := (true, "87438cd347e820d663ba37b69afc297be849d621f89abd7b018d8ee2edf7c7f5"), looks := true }, kinds := [], alts := [], laidByText := true, laidKinds := [.data, .data, .data, .data, .sentinel, .sentinel, .pinned], laidTests := true, laidLooks := .later }
def PlanPeaksUptoCardSaid : Prop := Claim7.holds Tryz.pinned (.plain (OpenSpec.upto planPeaksSpec)) planPeaksUptoCard

/-- THE SECOND FORM's CARD OF 'ringerlaw37.PlanGoes'. -/
def planGoesUptoCard : Claim7 := { stood := { row := planGoesUptoRow, standIns := [], harness := (true, "87438cd347e820d663ba37b69afc297be849d621f89abd7b018d8ee2edf7c7f5"), looks := true }, kinds := [], alts := [], laidByText := true, laidKinds := [.data, .data, .data, .data, .sentinel, .sentinel, .pinned], laidTests := true, laidLooks := .later }
def PlanGoesUptoCardSaid : Prop := Claim7.holds Tryz.pinned (.plain (OpenSpec.upto planGoesSpec)) planGoesUptoCard

/-- THE SECOND FORM's CARD OF 'ringerlaw37.PlanFree'. -/
def planFreeUptoCard : Claim7 := { stood := { row := planFreeUptoRow, standIns := [], harness := (true, "87438cd347e820d663ba37b69afc297be849d621f89abd7b018d8ee2edf7c7f5"), looks := true }, kinds := [], alts := [], laidByText := true, laidKinds := [.data, .data, .data, .data, .sentinel, .sentinel, .pinned], laidTests := true, laidLooks := .later }
def PlanFreeUptoCardSaid : Prop := Claim7.holds Tryz.pinned (.plain (OpenSpec.upto planFreeSpec)) planFreeUptoCard

/-- THE SECOND FORM's CARD OF 'ringerlaw37.PlanMore'. -/
def planMoreUptoCard : Claim7 := { stood := { row := planMoreUptoRow, standIns := [], harness := (true, "87438cd347e820d663ba37b69afc297be849d621f89abd7b018d8ee2edf7c7f5"), looks := true }, kinds := [], alts := [], laidByText := true, laidKinds := [.data, .data, .data, .data, .sentinel, .sentinel, .pinned], laidTests := true, laidLooks := .later }
def PlanMoreUptoCardSaid : Prop := Claim7.holds Tryz.pinned (.plain (OpenSpec.upto planMoreSpec)) planMoreUptoCard

/-- THE SECOND FORM's CARD OF 'ringerlaw37.PlanCut'. -/
def planCutUptoCard : Claim7 := { stood := { row := planCutUptoRow, standIns := [], harness := (true, "87438cd347e820d663ba37b69afc297be849d621f89abd7b018d8ee2edf7c7f5"), looks := true }, kinds := [], alts := [], laidByText := true, laidKinds := [.data, .data, .data, .data, .sentinel, .sentinel, .pinned], laidTests := true, laidLooks := .later }
def PlanCutUptoCardSaid : Prop := Claim7.holds Tryz.pinned (.plain (OpenSpec.upto planCutSpec)) planCutUptoCard
end Rows
end Go.Proofs.YtmoncokklkiikaaGreatDoor
