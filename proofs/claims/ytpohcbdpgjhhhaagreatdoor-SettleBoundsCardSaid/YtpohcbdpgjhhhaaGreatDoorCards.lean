/-
  DERIVED. GIVEN WITH THE SEED: THE CARDS: each row of YtpohcbdpgjhhhaaGreatDoorRows.lean that lists a variable, with what it lists TIED to the program's text (the seventh form; the later family's looks); each row that meets fmt, with fmt's text TOLD by the authors' own Lean function (tested against real Go, not proved from fmt's source: count such statements apart). THE CARD IS WHAT COUNTS. Prove the row's statement (the work); the ties are given (YtpohcbdpgjhhhaaGreatDoorTie.lean); close each card by the builder's one call (the guide's Derived/Test/ToyasCard.lean, 'card_holds'). Laid BY PROGRAM, IN A SANDBOX (cutbox-door.mjs). By AI agents, Wed Nov 11 2026. No macro, syntax, notation, axiom, sorry.
-/
import Derived.Test.YtpohcbdpgjhhhaaGreatDoorRows
import GoSem.ClaimSeven
namespace Go.Proofs.YtpohcbdpgjhhhaaGreatDoor
namespace Rows

/-- THE TIED CARD OF 'relayhouselaw29.SettleBounds'. -/
def settleBoundsCard : Claim7 := { stood := { row := settleBoundsRow, standIns := [], harness := (true, "2fe779591076cf77d8aff5632736f9f73167d4b60c0e8a68cea2234bb924321b"), looks := false }, kinds := [], alts := [], laidByText := true, laidKinds := [.data, .data, .pinned], laidTests := true, laidLooks := .later }
def SettleBoundsCardSaid : Prop := Claim7.holds Tryz.pinned (.plain (OpenSpec.ofChange settleBoundsSpec)) settleBoundsCard

/-- THE SECOND FORM's CARD OF 'relayhouselaw29.SettleBounds'. -/
def settleBoundsUptoCard : Claim7 := { stood := { row := settleBoundsUptoRow, standIns := [], harness := (true, "2fe779591076cf77d8aff5632736f9f73167d4b60c0e8a68cea2234bb924321b"), looks := false }, kinds := [], alts := [], laidByText := true, laidKinds := [.data, .data, .pinned], laidTests := true, laidLooks := .later }
def SettleBoundsUptoCardSaid : Prop := Claim7.holds Tryz.pinned (.plain (OpenSpec.upto settleBoundsSpec)) settleBoundsUptoCard
end Rows
end Go.Proofs.YtpohcbdpgjhhhaaGreatDoor
