/-
  DERIVED. GIVEN WITH THE SEED: THE CARDS: each row of YtocofoiijfofaaaGreatDoorRows.lean that lists a variable, with what it lists TIED to the program's text (the seventh form; the later family's looks); each row that meets fmt, with fmt's text TOLD by the authors' own Lean function (tested against real Go, not proved from fmt's source: count such statements apart). THE CARD IS WHAT COUNTS. Prove the row's statement (the work); the ties are given (YtocofoiijfofaaaGreatDoorTie.lean); close each card by the builder's one call (the guide's Derived/Test/ToyasCard.lean, 'card_holds'). Laid BY PROGRAM, IN A SANDBOX (cutbox-door.mjs). By AI agents, Wed Nov 11 2026. No macro, syntax, notation, axiom, sorry.
-/
import Derived.Test.YtocofoiijfofaaaGreatDoorRows
import GoSem.ClaimSeven
namespace Go.Proofs.YtocofoiijfofaaaGreatDoor
namespace Rows

/-- THE TIED CARD OF 'bluebelllaw24.StreamCopies'. -/
def streamCopiesCard : Claim7 := { stood := { row := streamCopiesRow, standIns := [], harness := (true, "f862c8529b8813ccb132b51e310f8240b6054fc4a56cf2d59e97f9c0deeeb091"), looks := true }, kinds := [], alts := [], laidByText := true, laidKinds := [.data, .pinned], laidTests := true, laidLooks := .later }
def StreamCopiesCardSaid : Prop := Claim7.holds Tryz.pinned (.plain (OpenSpec.ofChange streamCopiesSpec)) streamCopiesCard

/-- THE TIED CARD OF 'bluebelllaw24.StreamDoes'. -/
def streamDoesCard : Claim7 := { stood := { row := streamDoesRow, standIns := [], harness := (true, "f862c8529b8813ccb132b51e310f8240b6054fc4a56cf2d59e97f9c0deeeb091"), looks := true }, kinds := [], alts := [], laidByText := true, laidKinds := [.data, .pinned], laidTests := true, laidLooks := .later }
def StreamDoesCardSaid : Prop := Claim7.holds Tryz.pinned (.plain (OpenSpec.ofChange streamDoesSpec)) streamDoesCard

/-- THE TIED CARD OF 'bluebelllaw24.StreamNil'. -/
def streamNilCard : Claim7 := { stood := { row := streamNilRow, standIns := [], harness := (true, "f862c8529b8813ccb132b51e310f8240b6054fc4a56cf2d59e97f9c0deeeb091"), looks := true }, kinds := [], alts := [], laidByText := true, laidKinds := [.data, .pinned], laidTests := true, laidLooks := .later }
def StreamNilCardSaid : Prop := Claim7.holds Tryz.pinned (.plain (OpenSpec.ofChange streamNilSpec)) streamNilCard

/-- THE SECOND FORM's CARD OF 'bluebelllaw24.StreamCopies'. -/
def streamCopiesUptoCard : Claim7 := { stood := { row := streamCopiesUptoRow, standIns := [], harness := (true, "f862c8529b8813ccb132b51e310f8240b6054fc4a56cf2d59e97f9c0deeeb091"), looks := true }, kinds := [], alts := [], laidByText := true, laidKinds := [.data, .pinned], laidTests := true, laidLooks := .later }
def StreamCopiesUptoCardSaid : Prop := Claim7.holds Tryz.pinned (.plain (OpenSpec.upto streamCopiesSpec)) streamCopiesUptoCard

/-- THE SECOND FORM's CARD OF 'bluebelllaw24.StreamDoes'. -/
def streamDoesUptoCard : Claim7 := { stood := { row := streamDoesUptoRow, standIns := [], harness := (true, "f862c8529b8813ccb132b51e310f8240b6054fc4a56cf2d59e97f9c0deeeb091"), looks := true }, kinds := [], alts := [], laidByText := true, laidKinds := [.data, .pinned], laidTests := true, laidLooks := .later }
def StreamDoesUptoCardSaid : Prop := Claim7.holds Tryz.pinned (.plain (OpenSpec.upto streamDoesSpec)) streamDoesUptoCard

/-- THE SECOND FORM's CARD OF 'bluebelllaw24.StreamNil'. -/
def streamNilUptoCard : Claim7 := { stood := { row := streamNilUptoRow, standIns := [], harness := (true, "f862c8529b8813ccb132b51e310f8240b6054fc4a56cf2d59e97f9c0deeeb091"), looks := true }, kinds := [], alts := [], laidByText := true, laidKinds := [.data, .pinned], laidTests := true, laidLooks := .later }
def StreamNilUptoCardSaid : Prop := Claim7.holds Tryz.pinned (.plain (OpenSpec.upto streamNilSpec)) streamNilUptoCard
end Rows
end Go.Proofs.YtocofoiijfofaaaGreatDoor
