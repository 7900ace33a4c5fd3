/-
  DERIVED. GIVEN WITH THE SEED: THE CARDS: each row of YtdmemibnphcedaaGreatDoorRows.lean that lists a variable, with what it lists TIED to the program's text (the seventh form; the later family's looks); each row that meets fmt, with fmt's text TOLD by the authors' own Lean function (tested against real Go, not proved from fmt's source: count such statements apart). THE CARD IS WHAT COUNTS. Prove the row's statement (the work); the ties are given (YtdmemibnphcedaaGreatDoorTie.lean); close each card by the builder's one call (the guide's Derived/Test/ToyasCard.lean, 'card_holds'). Laid BY PROGRAM, IN A SANDBOX (cutbox-door.mjs). By AI agents, Wed Nov 11 2026. No macro, syntax, notation, axiom, sorry.
-/
import Derived.Test.YtdmemibnphcedaaGreatDoorRows
import GoSem.ClaimSeven
namespace Go.Proofs.YtdmemibnphcedaaGreatDoor
namespace Rows

/-- THE TIED CARD OF 'bluebelllaw25.ArgsFits'. -/
def argsFitsCard : Claim7 := { stood := { row := argsFitsRow, standIns := [], harness := (true, "140772d9ac788bbd2882337090c5d1a5975fc1234c38a118c5686a494e8c7388"), looks := true }, kinds := [], alts := [], laidByText := true, laidKinds := [.data, .data, .data, .data, .sentinel, .sentinel, .pinned, .pinned], laidTests := true, laidLooks := .later }
def ArgsFitsCardSaid : Prop := Claim7.holds Tryz.pinned (.plain (OpenSpec.ofChange argsFitsSpec)) argsFitsCard

/-- THE TIED CARD OF 'bluebelllaw25.ArgsTemplates'. -/
def argsTemplatesCard : Claim7 := { stood := { row := argsTemplatesRow, standIns := [], harness := (true, "140772d9ac788bbd2882337090c5d1a5975fc1234c38a118c5686a494e8c7388"), looks := true }, kinds := [], alts := [], laidByText := true, laidKinds := [.data, .data, .data, .data, .sentinel, .sentinel, .pinned, .pinned], laidTests := true, laidLooks := .later }
def ArgsTemplatesCardSaid : Prop := Claim7.holds Tryz.pinned (.plain (OpenSpec.ofChange argsTemplatesSpec)) argsTemplatesCard

/-- THE TIED CARD OF 'bluebelllaw25.ArgsWords'. -/
def argsWordsCard : Claim7 := { stood := { row := argsWordsRow, standIns := [], harness := (true, "140772d9ac788bbd2882337090c5d1a5975fc1234c38a118c5686a494e8c7388"), looks := true }, kinds := [], alts := [], laidByText := true, laidKinds := [.data, .data, .data, .data, .sentinel, .sentinel, .pinned, .pinned], laidTests := true, laidLooks := .later }
def ArgsWordsCardSaid : Prop := Claim7.holds Tryz.pinned (.plain (OpenSpec.ofChange argsWordsSpec)) argsWordsCard

/-- THE TIED CARD OF 'bluebelllaw25.ArgsQuotes'. -/
def argsQuotesCard : Claim7 := { stood := { row := argsQuotesRow, standIns := [], harness := (true, "140772d9ac788bbd2882337090c5d1a5975fc1234c38a118c5686a494e8c7388"), looks := true }, kinds := [], alts := [], laidByText := true, laidKinds := [.data, .data, .data, .data, .sentinel, .sentinel, .pinned, .pinned], laidTests := true, laidLooks := .later }
def ArgsQuotesCardSaid : Prop := Claim7.holds Tryz.pinned (.plain (OpenSpec.ofChange argsQuotesSpec)) argsQuotesCard

/-- THE TIED CARD OF 'bluebelllaw25.ArgsFormats'. -/
def argsFormatsCard : Claim7 := { stood := { row := argsFormatsRow, standIns := [], harness := (true, "140772d9ac788bbd2882337090c5d1a5975fc1234c38a118c5686a494e8c7388"), looks := true }, kinds := [], alts := [], laidByText := true, laidKinds := [.data, .data, .data, .data, .sentinel, .sentinel, .pinned, .pinned], laidTests := true, laidLooks := .later }
def ArgsFormatsCardSaid : Prop := Claim7.holds Tryz.pinned (.plain (OpenSpec.ofChange argsFormatsSpec)) argsFormatsCard

/-- THE TIED CARD OF 'bluebelllaw25.ArgsBack'. -/
def argsBackCard : Claim7 := { stood := { row := argsBackRow, standIns := [], harness := (true, "140772d9ac788bbd2882337090c5d1a5975fc1234c38a118c5686a494e8c7388"), looks := true }, kinds := [], alts := [], laidByText := true, laidKinds := [.data, .data, .data, .data, .sentinel, .sentinel, .pinned, .pinned], laidTests := true, laidLooks := .later }
def ArgsBackCardSaid : Prop := Claim7.holds Tryz.pinned (.plain (OpenSpec.ofChange argsBackSpec)) argsBackCard

/-- THE SECOND FORM's CARD OF 'bluebelllaw25.ArgsFits'. -/
def argsFitsUptoCard : Claim7 := { stood := { row := argsFitsUptoRow, standIns := [], harness := (true, "140772d9ac788bbd2882337090c5d1a5975fc1234c38a118c5686a494e8c7388"), looks := true }, kinds := [], alts := [], laidByText := true, laidKinds := [.data, .data, .data, .data, .sentinel, .sentinel, .pinned, .pinned], laidTests := true, laidLooks := .later }
def ArgsFitsUptoCardSaid : Prop := Claim7.holds Tryz.pinned (.plain (OpenSpec.upto argsFitsSpec)) argsFitsUptoCard

/-- THE SECOND FORM's CARD OF 'bluebelllaw25.ArgsTemplates'. -/
def argsTemplatesUptoCard : Claim7 := { stood := { row := argsTemplatesUptoRow, standIns := [], harness := (true, "140772d9ac788bbd2882337090c5d1a5975fc1234c38a118c5686a494e8c7388"), looks := true }, kinds := [], alts := [], laidByText := true, laidKinds := [.data, .data, .data, .data, .sentinel, .sentinel, .pinned, .pinned], laidTests := true, laidLooks := .later }
def ArgsTemplatesUptoCardSaid : Prop := Claim7.holds Tryz.pinned (.plain (OpenSpec.upto argsTemplatesSpec)) argsTemplatesUptoCard

/-- THE SECOND FORM's CARD OF 'bluebelllaw25.ArgsWords'. -/
def argsWordsUptoCard : Claim7 := { stood := { row := argsWordsUptoRow, standIns := [], harness := (true, "140772d9ac788bbd2882337090c5d1a5975fc1234c38a118c5686a494e8c7388"), looks := true }, kinds := [], alts := [], laidByText := true, laidKinds := [.data, .data, .data, .data, .sentinel, .sentinel, .pinned, .pinned], laidTests := true, laidLooks := .later }
def ArgsWordsUptoCardSaid : Prop := Claim7.holds Tryz.pinned (.plain (OpenSpec.upto argsWordsSpec)) argsWordsUptoCard

/-- THE SECOND FORM's CARD OF 'bluebelllaw25.ArgsQuotes'. -/
def argsQuotesUptoCard : Claim7 := { stood := { row := argsQuotesUptoRow, standIns := [], harness := (true, "140772d9ac788bbd2882337090c5d1a5975fc1234c38a118c5686a494e8c7388"), looks := true }, kinds := [], alts := [], laidByText := true, laidKinds := [.data, .data, .data, .data, .sentinel, .sentinel, .pinned, .pinned], laidTests := true, laidLooks := .later }
def ArgsQuotesUptoCardSaid : Prop := Claim7.holds Tryz.pinned (.plain (OpenSpec.upto argsQuotesSpec)) argsQuotesUptoCard

/-- THE SECOND FORM's CARD OF 'bluebelllaw25.ArgsFormats'. -/
def argsFormatsUptoCard : Claim7 := { stood := { row := argsFormatsUptoRow, standIns := [], harness := (true, "140772d9ac788bbd2882337090c5d1a5975fc1234c38a118c5686a494e8c7388"), looks := true }, kinds := [], alts := [], laidByText := true, laidKinds := [.data, .data, .data, .data, .sentinel, .sentinel, .pinned, .pinned], laidTests := true, laidLooks := .later }
def ArgsFormatsUptoCardSaid : Prop := Claim7.holds Tryz.pinned (.plain (OpenSpec.upto argsFormatsSpec)) argsFormatsUptoCard

/-- THE SECOND FORM's CARD OF 'bluebelllaw25.ArgsBack'. -/
def argsBackUptoCard : Claim7 := { stood := { row := argsBackUptoRow, standIns := [], harness := (true, "140772d9ac788bbd2882337090c5d1a5975fc1234c38a118c5686a494e8c7388"), looks := true }, kinds := [], alts := [], laidByText := true, laidKinds := [.data, .data, .data, .data, .sentinel, .sentinel, .pinned, .pinned], laidTests := true, laidLooks := .later }
def ArgsBackUptoCardSaid : Prop := Claim7.holds Tryz.pinned (.plain (OpenSpec.upto argsBackSpec)) argsBackUptoCard
end Rows
end Go.Proofs.YtdmemibnphcedaaGreatDoor
