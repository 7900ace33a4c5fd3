/-
  DERIVED. GIVEN WITH THE SEED: THE CARDS: each row of YtjomiadmminhfaaGreatDoorRows.lean that lists a variable, with what it lists TIED to the program's text (the seventh form; the later family's looks); each row that meets fmt, with fmt's text TOLD by the authors' own Lean function (tested against real Go, not proved from fmt's source: count such statements apart). THE CARD IS WHAT COUNTS. Prove the row's statement (the work); the ties are given (YtjomiadmminhfaaGreatDoorTie.lean); close each card by the builder's one call (the guide's Derived/Test/ToyasCard.lean, 'card_holds'). Laid BY PROGRAM, IN A SANDBOX (cutbox-door.mjs). By AI agents, Wed Nov 11 2026. No macro, syntax, notation, axiom, sorry.
-/
import Derived.Test.YtjomiadmminhfaaGreatDoorRows
import GoSem.ClaimSeven
namespace Go.Proofs.YtjomiadmminhfaaGreatDoor
namespace Rows

/-- THE TIED CARD OF 'bluebelllaw26.ShellSplits'. -/
def shellSplitsCard : Claim7 := { stood := { row := shellSplitsRow, standIns := [], harness := (true, "24021d01acfed233885e4c80aeb4e65be08bcc81ec9a93fec04251ba17c209bd"), looks := true }, kinds := [], alts := [], laidByText := true, laidKinds := [.data, .data, .data, .data, .sentinel, .sentinel, .pinned, .pinned], laidTests := true, laidLooks := .later }
def ShellSplitsCardSaid : Prop := Claim7.holds Tryz.pinned (.plain (OpenSpec.ofChange shellSplitsSpec)) shellSplitsCard

/-- THE TIED CARD OF 'bluebelllaw26.ShellFills'. -/
def shellFillsCard : Claim7 := { stood := { row := shellFillsRow, standIns := [], harness := (true, "24021d01acfed233885e4c80aeb4e65be08bcc81ec9a93fec04251ba17c209bd"), looks := true }, kinds := [], alts := [], laidByText := true, laidKinds := [.data, .data, .data, .data, .sentinel, .sentinel, .pinned, .pinned], laidTests := true, laidLooks := .later }
def ShellFillsCardSaid : Prop := Claim7.holds Tryz.pinned (.plain (OpenSpec.ofChange shellFillsSpec)) shellFillsCard

/-- THE SECOND FORM's CARD OF 'bluebelllaw26.ShellSplits'. -/
def shellSplitsUptoCard : Claim7 := { stood := { row := shellSplitsUptoRow, standIns := [], harness := (true, "24021d01acfed233885e4c80aeb4e65be08bcc81ec9a93fec04251ba17c209bd"), looks := true }, kinds := [], alts := [], laidByText := true, laidKinds := [.data, .data, .data, .data, .sentinel, .sentinel, .pinned, .pinned], laidTests := true, laidLooks := .later }
def ShellSplitsUptoCardSaid : Prop := Claim7.holds Tryz.pinned (.plain (OpenSpec.upto shellSplitsSpec)) shellSplitsUptoCard

/-- THE SECOND FORM's CARD OF 'bluebelllaw26.ShellFills'. -/
def shellFillsUptoCard : Claim7 := { stood := { row := shellFillsUptoRow, standIns := [], harness := (true, "24021d01acfed233885e4c80aeb4e65be08bcc81ec9a93fec04251ba17c209bd"), looks := true }, kinds := [], alts := [], laidByText := true, laidKinds := [.data, .data, .data, .data, .sentinel, .sentinel, .pinned, .pinned], laidTests := true, laidLooks := .later }
def ShellFillsUptoCardSaid : Prop := Claim7.holds Tryz.pinned (.plain (OpenSpec.upto shellFillsSpec)) shellFillsUptoCard
end Rows
end Go.Proofs.YtjomiadmminhfaaGreatDoor
