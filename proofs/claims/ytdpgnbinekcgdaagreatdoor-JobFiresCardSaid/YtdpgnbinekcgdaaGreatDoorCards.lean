/-
  DERIVED. GIVEN WITH THE SEED: THE CARDS: each row of YtdpgnbinekcgdaaGreatDoorRows.lean that lists a variable, with what it lists TIED to the program's text (the seventh form; the later family's looks); each row that meets fmt, with fmt's text TOLD by the authors' own Lean function (tested against real Go, not proved from fmt's source: count such statements apart). THE CARD IS WHAT COUNTS. Prove the row's statement (the work); the ties are given (YtdpgnbinekcgdaaGreatDoorTie.lean); close each card by the builder's one call (the guide's Derived/Test/ToyasCard.lean, 'card_holds'). Laid BY PROGRAM, IN A SANDBOX (cutbox-door.mjs). By AI agents, Wed Nov 11 2026. No macro, syntax, notation, axiom, sorry.
-/
import Derived.Test.YtdpgnbinekcgdaaGreatDoorRows
import GoSem.ClaimSeven
namespace Go.Proofs.YtdpgnbinekcgdaaGreatDoor
namespace Rows

/-- THE TIED CARD OF 'ringerlaw06.FieldParses'. -/
def fieldParsesCard : Claim7 := { stood := { row := fieldParsesRow, standIns := [], harness := (true, "5d7b25fa0ab0343649225d864c0c1fb54e1a5f2175f23413653d40583ae5c9b9"), looks := true }, kinds := [], alts := [], laidByText := true, laidKinds := [.data, .data, .data, .data, .sentinel, .sentinel, .pinned], laidTests := true, laidLooks := .later }
def FieldParsesCardSaid : Prop := Claim7.holds Tryz.pinned (.plain (OpenSpec.ofChange fieldParsesSpec)) fieldParsesCard

/-- THE TIED CARD OF 'ringerlaw06.FieldAsks'. -/
def fieldAsksCard : Claim7 := { stood := { row := fieldAsksRow, standIns := [], harness := (true, "5d7b25fa0ab0343649225d864c0c1fb54e1a5f2175f23413653d40583ae5c9b9"), looks := true }, kinds := [], alts := [], laidByText := true, laidKinds := [.data, .data, .data, .data, .sentinel, .sentinel, .pinned], laidTests := true, laidLooks := .later }
def FieldAsksCardSaid : Prop := Claim7.holds Tryz.pinned (.plain (OpenSpec.ofChange fieldAsksSpec)) fieldAsksCard

/-- THE TIED CARD OF 'ringerlaw07.CronParses'. -/
def cronParsesCard : Claim7 := { stood := { row := cronParsesRow, standIns := [], harness := (true, "5d7b25fa0ab0343649225d864c0c1fb54e1a5f2175f23413653d40583ae5c9b9"), looks := true }, kinds := [], alts := [], laidByText := true, laidKinds := [.data, .data, .data, .data, .sentinel, .sentinel, .pinned], laidTests := true, laidLooks := .later }
def CronParsesCardSaid : Prop := Claim7.holds Tryz.pinned (.plain (OpenSpec.ofChange cronParsesSpec)) cronParsesCard

/-- THE TIED CARD OF 'ringerlaw07.CronFits'. -/
def cronFitsCard : Claim7 := { stood := { row := cronFitsRow, standIns := [], harness := (true, "5d7b25fa0ab0343649225d864c0c1fb54e1a5f2175f23413653d40583ae5c9b9"), looks := true }, kinds := [], alts := [], laidByText := true, laidKinds := [.data, .data, .data, .data, .sentinel, .sentinel, .pinned], laidTests := true, laidLooks := .later }
def CronFitsCardSaid : Prop := Claim7.holds Tryz.pinned (.plain (OpenSpec.ofChange cronFitsSpec)) cronFitsCard

/-- THE TIED CARD OF 'ringerlaw07.CronMore'. -/
def cronMoreCard : Claim7 := { stood := { row := cronMoreRow, standIns := [], harness := (true, "5d7b25fa0ab0343649225d864c0c1fb54e1a5f2175f23413653d40583ae5c9b9"), looks := true }, kinds := [], alts := [], laidByText := true, laidKinds := [.data, .data, .data, .data, .sentinel, .sentinel, .pinned], laidTests := true, laidLooks := .later }
def CronMoreCardSaid : Prop := Claim7.holds Tryz.pinned (.plain (OpenSpec.ofChange cronMoreSpec)) cronMoreCard

/-- THE TIED CARD OF 'ringerlaw14.JobFires'. -/
def jobFiresCard : Claim7 := { stood := { row := jobFiresRow, standIns := [], harness := (true, "5d7b25fa0ab0343649225d864c0c1fb54e1a5f2175f23413653d40583ae5c9b9"), looks := true }, kinds := [], alts := [], laidByText := true, laidKinds := [.data, .data, .data, .data, .sentinel, .sentinel, .pinned], laidTests := true, laidLooks := .later }
def JobFiresCardSaid : Prop := Claim7.holds Tryz.pinned (.plain (OpenSpec.ofChange jobFiresSpec)) jobFiresCard

/-- THE TIED CARD OF 'ringerlaw14.JobBack'. -/
def jobBackCard : Claim7 := { stood := { row := jobBackRow, standIns := [], harness := (true, "5d7b25fa0ab0343649225d864c0c1fb54e1a5f2175f23413653d40583ae5c9b9"), looks := true }, kinds := [], alts := [], laidByText := true, laidKinds := [.data, .data, .data, .data, .sentinel, .sentinel, .pinned], laidTests := true, laidLooks := .later }
def JobBackCardSaid : Prop := Claim7.holds Tryz.pinned (.plain (OpenSpec.ofChange jobBackSpec)) jobBackCard

/-- THE SECOND FORM's CARD OF 'ringerlaw06.FieldParses'. -/
def fieldParsesUptoCard : Claim7 := { stood := { row := fieldParsesUptoRow, standIns := [], harness := (true, "5d7b25fa0ab0343649225d864c0c1fb54e1a5f2175f23413653d40583ae5c9b9"), looks := true }, kinds := [], alts := [], laidByText := true, laidKinds := [.data, .data, .data, .data, .sentinel, .sentinel, .pinned], laidTests := true, laidLooks := .later }
def FieldParsesUptoCardSaid : Prop := Claim7.holds Tryz.pinned (.plain (OpenSpec.upto fieldParsesSpec)) fieldParsesUptoCard

/-- THE SECOND FORM's CARD OF 'ringerlaw06.FieldAsks'. -/
def fieldAsksUptoCard : Claim7 := { stood := { row := fieldAsksUptoRow, standIns := [], harness := (true, "5d7b25fa0ab0343649225d864c0c1fb54e1a5f2175f23413653d40583ae5c9b9"), looks := true }, kinds := [], alts := [], laidByText := true, laidKinds := [.data, .data, .data, .data, .sentinel, .sentinel, .pinned], laidTests := true, laidLooks := .later }
def FieldAsksUptoCardSaid : Prop := Claim7.holds Tryz.pinned (.plain (OpenSpec.upto fieldAsksSpec)) fieldAsksUptoCard

/-- THE SECOND FORM's CARD OF 'ringerlaw07.CronParses'. -/
def cronParsesUptoCard : Claim7 := { stood := { row := cronParsesUptoRow, standIns := [], harness := (true, "5d7b25fa0ab0343649225d864c0c1fb54e1a5f2175f23413653d40583ae5c9b9"), looks := true }, kinds := [], alts := [], laidByText := true, laidKinds := [.data, .data, .data, .data, .sentinel, .sentinel, .pinned], laidTests := true, laidLooks := .later }
def CronParsesUptoCardSaid : Prop := Claim7.holds Tryz.pinned (.plain (OpenSpec.upto cronParsesSpec)) cronParsesUptoCard

/-- THE SECOND FORM's CARD OF 'ringerlaw07.CronFits'. -/
def cronFitsUptoCard : Claim7 := { stood := { row := cronFitsUptoRow, standIns := [], harness := (true, "5d7b25fa0ab0343649225d864c0c1fb54e1a5f2175f23413653d40583ae5c9b9"), looks := true }, kinds := [], alts := [], laidByText := true, laidKinds := [.data, .data, .data, .data, .sentinel, .sentinel, .pinned], laidTests := true, laidLooks := .later }
def CronFitsUptoCardSaid : Prop := Claim7.holds Tryz.pinned (.plain (OpenSpec.upto cronFitsSpec)) cronFitsUptoCard

/-- THE SECOND FORM's CARD OF 'ringerlaw07.CronMore'. -/
def cronMoreUptoCard : Claim7 := { stood := { row := cronMoreUptoRow, standIns := [], harness := (true, "5d7b25fa0ab0343649225d864c0c1fb54e1a5f2175f23413653d40583ae5c9b9"), looks := true }, kinds := [], alts := [], laidByText := true, laidKinds := [.data, .data, .data, .data, .sentinel, .sentinel, .pinned], laidTests := true, laidLooks := .later }
def CronMoreUptoCardSaid : Prop := Claim7.holds Tryz.pinned (.plain (OpenSpec.upto cronMoreSpec)) cronMoreUptoCard

/-- THE SECOND FORM's CARD OF 'ringerlaw14.JobFires'. -/
def jobFiresUptoCard : Claim7 := { stood := { row := jobFiresUptoRow, standIns := [], harness := (true, "5d7b25fa0ab0343649225d864c0c1fb54e1a5f2175f23413653d40583ae5c9b9"), looks := true }, kinds := [], alts := [], laidByText := true, laidKinds := [.data, .data, .data, .data, .sentinel, .sentinel, .pinned], laidTests := true, laidLooks := .later }
def JobFiresUptoCardSaid : Prop := Claim7.holds Tryz.pinned (.plain (OpenSpec.upto jobFiresSpec)) jobFiresUptoCard

/-- THE SECOND FORM's CARD OF 'ringerlaw14.JobBack'. -/
def jobBackUptoCard : Claim7 := { stood := { row := jobBackUptoRow, standIns := [], harness := (true, "5d7b25fa0ab0343649225d864c0c1fb54e1a5f2175f23413653d40583ae5c9b9"), looks := true }, kinds := [], alts := [], laidByText := true, laidKinds := [.data, .data, .data, .data, .sentinel, .sentinel, .pinned], laidTests := true, laidLooks := .later }
def JobBackUptoCardSaid : Prop := Claim7.holds Tryz.pinned (.plain (OpenSpec.upto jobBackSpec)) jobBackUptoCard
end Rows
end Go.Proofs.YtdpgnbinekcgdaaGreatDoor
