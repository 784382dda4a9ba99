/-
  DERIVED. GIVEN WITH THE SEED: THE CARDS: each row of YtdpgnbinekcgdaaDoorRows.lean that lists a variable, with what it lists TIED to the program's text (the seventh form; the later family's looks); each row that meets fmt, with fmt's text TOLD by the authors' own Lean function (tested against real Go, not proved from fmt's source: count such statements apart). THE CARD IS WHAT COUNTS. Prove the row's statement (the work); the ties are given (YtdpgnbinekcgdaaDoorTie.lean); close each card by the builder's one call (the guide's Derived/Test/ToyasCard.lean, 'card_holds'). Laid BY PROGRAM, IN A SANDBOX (cutbox-door.mjs). By AI agents, Wed Nov 11 2026. No macro, syntax, notation, axiom, sorry.
-/
import Derived.Test.YtdpgnbinekcgdaaDoorRows
import GoSem.ClaimSeven
namespace Go.Proofs.YtdpgnbinekcgdaaDoor
namespace Rows

/-- THE TIED CARD OF 'ringerlaw08.NextFires'. -/
def nextFiresCard : Claim7 := { stood := { row := nextFiresRow, standIns := [], harness := (true, "65fda33be4f87129d38b0ddead579c9308c02c7871950667589f64fb9d78a3e3"), looks := true }, kinds := [], alts := [], laidByText := true, laidKinds := [.data], laidTests := true, laidLooks := .later }
def NextFiresCardSaid : Prop := Claim7.holds Tryd.pinned (.plain (OpenSpec.ofChange nextFiresSpec)) nextFiresCard

/-- THE TIED CARD OF 'ringerlaw08.NextGap'. -/
def nextGapCard : Claim7 := { stood := { row := nextGapRow, standIns := [], harness := (true, "65fda33be4f87129d38b0ddead579c9308c02c7871950667589f64fb9d78a3e3"), looks := true }, kinds := [], alts := [], laidByText := true, laidKinds := [.data], laidTests := true, laidLooks := .later }
def NextGapCardSaid : Prop := Claim7.holds Tryd.pinned (.plain (OpenSpec.ofChange nextGapSpec)) nextGapCard

/-- THE TIED CARD OF 'ringerlaw06.FieldBack'. -/
def fieldBackCard : Claim7 := { stood := { row := fieldBackRow, standIns := [], harness := (true, "65fda33be4f87129d38b0ddead579c9308c02c7871950667589f64fb9d78a3e3"), looks := true }, kinds := [], alts := [], laidByText := true, laidKinds := [.data, .data, .data, .data, .sentinel, .sentinel, .pinned], laidTests := true, laidLooks := .later }
def FieldBackCardSaid : Prop := Claim7.holds Tryd.pinned (.plain (OpenSpec.ofChange fieldBackSpec)) fieldBackCard

/-- THE TIED CARD OF 'ringerlaw06.FieldAll'. -/
def fieldAllCard : Claim7 := { stood := { row := fieldAllRow, standIns := [], harness := (true, "65fda33be4f87129d38b0ddead579c9308c02c7871950667589f64fb9d78a3e3"), looks := true }, kinds := [], alts := [], laidByText := true, laidKinds := [.data, .data, .data, .data, .sentinel, .sentinel, .pinned], laidTests := true, laidLooks := .later }
def FieldAllCardSaid : Prop := Claim7.holds Tryd.pinned (.plain (OpenSpec.ofChange fieldAllSpec)) fieldAllCard

/-- THE SECOND FORM's CARD OF 'ringerlaw08.NextFires'. -/
def nextFiresUptoCard : Claim7 := { stood := { row := nextFiresUptoRow, standIns := [], harness := (true, "65fda33be4f87129d38b0ddead579c9308c02c7871950667589f64fb9d78a3e3"), looks := true }, kinds := [], alts := [], laidByText := true, laidKinds := [.data], laidTests := true, laidLooks := .later }
def NextFiresUptoCardSaid : Prop := Claim7.holds Tryd.pinned (.plain (OpenSpec.upto nextFiresSpec)) nextFiresUptoCard

/-- THE SECOND FORM's CARD OF 'ringerlaw08.NextGap'. -/
def nextGapUptoCard : Claim7 := { stood := { row := nextGapUptoRow, standIns := [], harness := (true, "65fda33be4f87129d38b0ddead579c9308c02c7871950667589f64fb9d78a3e3"), looks := true }, kinds := [], alts := [], laidByText := true, laidKinds := [.data], laidTests := true, laidLooks := .later }
def NextGapUptoCardSaid : Prop := Claim7.holds Tryd.pinned (.plain (OpenSpec.upto nextGapSpec)) nextGapUptoCard

/-- THE SECOND FORM's CARD OF 'ringerlaw06.FieldBack'. -/
def fieldBackUptoCard : Claim7 := { stood := { row := fieldBackUptoRow, standIns := [], harness := (true, "65fda33be4f87129d38b0ddead579c9308c02c7871950667589f64fb9d78a3e3"), looks := true }, kinds := [], alts := [], laidByText := true, laidKinds := [.data, .data, .data, .data, .sentinel, .sentinel, .pinned], laidTests := true, laidLooks := .later }
def FieldBackUptoCardSaid : Prop := Claim7.holds Tryd.pinned (.plain (OpenSpec.upto fieldBackSpec)) fieldBackUptoCard

/-- THE SECOND FORM's CARD OF 'ringerlaw06.FieldAll'. -/
def fieldAllUptoCard : Claim7 := { stood := { row := fieldAllUptoRow, standIns := [], harness := (true, "65fda33be4f87129d38b0ddead579c9308c02c7871950667589f64fb9d78a3e3"), looks := true }, kinds := [], alts := [], laidByText := true, laidKinds := [.data, .data, .data, .data, .sentinel, .sentinel, .pinned], laidTests := true, laidLooks := .later }
def FieldAllUptoCardSaid : Prop := Claim7.holds Tryd.pinned (.plain (OpenSpec.upto fieldAllSpec)) fieldAllUptoCard
end Rows
end Go.Proofs.YtdpgnbinekcgdaaDoor
