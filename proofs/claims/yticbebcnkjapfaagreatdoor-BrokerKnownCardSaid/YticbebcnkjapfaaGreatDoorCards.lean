/-
  DERIVED. GIVEN WITH THE SEED: THE CARDS: each row of YticbebcnkjapfaaGreatDoorRows.lean that lists a variable, with what it lists TIED to the program's text (the seventh form; the later family's looks); each row that meets fmt, with fmt's text TOLD by the authors' own Lean function (tested against real Go, not proved from fmt's source: count such statements apart). THE CARD IS WHAT COUNTS. Prove the row's statement (the work); the ties are given (YticbebcnkjapfaaGreatDoorTie.lean); close each card by the builder's one call (the guide's Derived/Test/ToyasCard.lean, 'card_holds'). Laid BY PROGRAM, IN A SANDBOX (cutbox-door.mjs). By AI agents, Wed Nov 11 2026. No macro, syntax, notation, axiom, sorry.
-/
import Derived.Test.YticbebcnkjapfaaGreatDoorRows
import GoSem.ClaimSeven
namespace Go.Proofs.YticbebcnkjapfaaGreatDoor
namespace Rows

/-- THE TIED CARD OF 'relayhouselaw23.BrokerKnown'. -/
def brokerKnownCard : Claim7 := { stood := { row := brokerKnownRow, standIns := [], harness := (true, "c656a3fdc6bad7f1bf254d05798fc693390f4ca04c0475bb9280eb738828aada"), looks := false }, kinds := [], alts := [], laidByText := true, laidKinds := [.data, .data, .pinned], laidTests := true, laidLooks := .later }
def BrokerKnownCardSaid : Prop := Claim7.holds Tryz.pinned (.plain (OpenSpec.ofChange brokerKnownSpec)) brokerKnownCard

/-- THE SECOND FORM's CARD OF 'relayhouselaw23.BrokerKnown'. -/
def brokerKnownUptoCard : Claim7 := { stood := { row := brokerKnownUptoRow, standIns := [], harness := (true, "c656a3fdc6bad7f1bf254d05798fc693390f4ca04c0475bb9280eb738828aada"), looks := false }, kinds := [], alts := [], laidByText := true, laidKinds := [.data, .data, .pinned], laidTests := true, laidLooks := .later }
def BrokerKnownUptoCardSaid : Prop := Claim7.holds Tryz.pinned (.plain (OpenSpec.upto brokerKnownSpec)) brokerKnownUptoCard
end Rows
end Go.Proofs.YticbebcnkjapfaaGreatDoor
