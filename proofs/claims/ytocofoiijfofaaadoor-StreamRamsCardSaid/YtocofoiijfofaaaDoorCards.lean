/-
  DERIVED. GIVEN WITH THE SEED: THE CARDS: each row of YtocofoiijfofaaaDoorRows.lean that lists a variable, with what it lists TIED to the program's text (the seventh form; the later family's looks); each row that meets fmt, with fmt's text TOLD by the authors' own Lean function (tested against real Go, not proved from fmt's source: count such statements apart). THE CARD IS WHAT COUNTS. Prove the row's statement (the work); the ties are given (YtocofoiijfofaaaDoorTie.lean); close each card by the builder's one call (the guide's Derived/Test/ToyasCard.lean, 'card_holds'). Laid BY PROGRAM, IN A SANDBOX (cutbox-door.mjs). By AI agents, Wed Nov 11 2026. No macro, syntax, notation, axiom, sorry.
-/
import Derived.Test.YtocofoiijfofaaaDoorRows
import GoSem.ClaimSeven
namespace Go.Proofs.YtocofoiijfofaaaDoor
namespace Rows

/-- THE TIED CARD OF 'bluebelllaw24.StreamNames'. -/
def streamNamesCard : Claim7 := { stood := { row := streamNamesRow, standIns := [], harness := (true, "9296618e83d1e8ebe50a5dfe476a2b9ad7835fa395787431242cb43e6c81b812"), looks := true }, kinds := [], alts := [], laidByText := true, laidKinds := [.data, .pinned], laidTests := true, laidLooks := .later }
def StreamNamesCardSaid : Prop := Claim7.holds Tryd.pinned (.plain (OpenSpec.ofChange streamNamesSpec)) streamNamesCard

/-- THE TIED CARD OF 'bluebelllaw24.StreamPipes'. -/
def streamPipesCard : Claim7 := { stood := { row := streamPipesRow, standIns := [], harness := (true, "9296618e83d1e8ebe50a5dfe476a2b9ad7835fa395787431242cb43e6c81b812"), looks := true }, kinds := [], alts := [], laidByText := true, laidKinds := [.data, .pinned], laidTests := true, laidLooks := .later }
def StreamPipesCardSaid : Prop := Claim7.holds Tryd.pinned (.plain (OpenSpec.ofChange streamPipesSpec)) streamPipesCard

/-- THE TIED CARD OF 'bluebelllaw24.StreamRams'. -/
def streamRamsCard : Claim7 := { stood := { row := streamRamsRow, standIns := [], harness := (true, "9296618e83d1e8ebe50a5dfe476a2b9ad7835fa395787431242cb43e6c81b812"), looks := true }, kinds := [], alts := [], laidByText := true, laidKinds := [.data, .pinned], laidTests := true, laidLooks := .later }
def StreamRamsCardSaid : Prop := Claim7.holds Tryd.pinned (.plain (OpenSpec.ofChange streamRamsSpec)) streamRamsCard

/-- THE SECOND FORM's CARD OF 'bluebelllaw24.StreamNames'. -/
def streamNamesUptoCard : Claim7 := { stood := { row := streamNamesUptoRow, standIns := [], harness := (true, "9296618e83d1e8ebe50a5dfe476a2b9ad7835fa395787431242cb43e6c81b812"), looks := true }, kinds := [], alts := [], laidByText := true, laidKinds := [.data, .pinned], laidTests := true, laidLooks := .later }
def StreamNamesUptoCardSaid : Prop := Claim7.holds Tryd.pinned (.plain (OpenSpec.upto streamNamesSpec)) streamNamesUptoCard

/-- THE SECOND FORM's CARD OF 'bluebelllaw24.StreamPipes'. -/
def streamPipesUptoCard : Claim7 := { stood := { row := streamPipesUptoRow, standIns := [], harness := (true, "9296618e83d1e8ebe50a5dfe476a2b9ad7835fa395787431242cb43e6c81b812"), looks := true }, kinds := [], alts := [], laidByText := true, laidKinds := [.data, .pinned], laidTests := true, laidLooks := .later }
def StreamPipesUptoCardSaid : Prop := Claim7.holds Tryd.pinned (.plain (OpenSpec.upto streamPipesSpec)) streamPipesUptoCard

/-- THE SECOND FORM's CARD OF 'bluebelllaw24.StreamRams'. -/
def streamRamsUptoCard : Claim7 := { stood := { row := streamRamsUptoRow, standIns := [], harness := (true, "9296618e83d1e8ebe50a5dfe476a2b9ad7835fa395787431242cb43e6c81b812"), looks := true }, kinds := [], alts := [], laidByText := true, laidKinds := [.data, .pinned], laidTests := true, laidLooks := .later }
def StreamRamsUptoCardSaid : Prop := Claim7.holds Tryd.pinned (.plain (OpenSpec.upto streamRamsSpec)) streamRamsUptoCard
end Rows
end Go.Proofs.YtocofoiijfofaaaDoor
