/-
  DERIVED. GIVEN WITH THE SEED: THE CARDS: each row of YtghlkjkdejebnaaDoorRows.lean that lists a variable, with what it lists TIED to the program's text (the seventh form; the later family's looks); each row that meets fmt, with fmt's text TOLD by the authors' own Lean function (tested against real Go, not proved from fmt's source: count such statements apart). THE CARD IS WHAT COUNTS. Prove the row's statement (the work); the ties are given (YtghlkjkdejebnaaDoorTie.lean); close each card by the builder's one call (the guide's Derived/Test/ToyasCard.lean, 'card_holds'). Laid BY PROGRAM, IN A SANDBOX (cutbox-door.mjs). By AI agents, Wed Nov 11 2026. No macro, syntax, notation, axiom, sorry.
-/
import Derived.Test.YtghlkjkdejebnaaDoorRows
import GoSem.ClaimSeven
namespace Go.Proofs.YtghlkjkdejebnaaDoor
namespace Rows

/-- THE TIED CARD OF 'ringerlaw40.AuditLines'. -/
def auditLinesCard : Claim7 := { stood := { row := auditLinesRow, standIns := [], harness := (true, "107f2a3c116469b06e881b2c18f93d41174120538ad2fb60f6665ae20b805e3b"), looks := true }, kinds := [], alts := [], laidByText := true, laidKinds := [.data, .data, .data, .sentinel, .sentinel], laidTests := true, laidLooks := .later }
def AuditLinesCardSaid : Prop := Claim7.holds Tryd.pinned (.plain (OpenSpec.ofChange auditLinesSpec)) auditLinesCard

/-- THE SECOND FORM's CARD OF 'ringerlaw40.AuditLines'. -/
def auditLinesUptoCard : Claim7 := { stood := { row := auditLinesUptoRow, standIns := [], harness := (true, "107f2a3c116469b06e881b2c18f93d41174120538ad2fb60f6665ae20b805e3b"), looks := true }, kinds := [], alts := [], laidByText := true, laidKinds := [.data, .data, .data, .sentinel, .sentinel], laidTests := true, laidLooks := .later }
def AuditLinesUptoCardSaid : Prop := Claim7.holds Tryd.pinned (.plain (OpenSpec.upto auditLinesSpec)) auditLinesUptoCard
end Rows
end Go.Proofs.YtghlkjkdejebnaaDoor
