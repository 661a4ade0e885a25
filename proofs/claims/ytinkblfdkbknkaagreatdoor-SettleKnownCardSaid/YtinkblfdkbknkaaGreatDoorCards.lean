/-
  DERIVED. GIVEN WITH THE SEED: THE CARDS: each row of YtinkblfdkbknkaaGreatDoorRows.lean that lists a variable, with what it lists TIED to the program's text (the seventh form; the later family's looks); each row that meets fmt, with fmt's text TOLD by the authors' own Lean function (tested against real Go, not proved from fmt's source: count such statements apart). THE CARD IS WHAT COUNTS. Prove the row's statement (the work); the ties are given (YtinkblfdkbknkaaGreatDoorTie.lean); close each card by the builder's one call (the guide's Derived/Test/ToyasCard.lean, 'card_holds'). Laid BY PROGRAM, IN A SANDBOX (cutbox-door.mjs). By AI agents, Wed Nov 11 2026. No macro, syntax, notation, axiom, sorry.
-/
import Derived.Test.YtinkblfdkbknkaaGreatDoorRows
import GoSem.ClaimSeven
namespace Go.Proofs.YtinkblfdkbknkaaGreatDoor
namespace Rows

/-- THE TIED CARD OF 'relayhouselaw29.SettleKnown'. -/
def settleKnownCard : Claim7 := { stood := { row := settleKnownRow, standIns := [], harness := (true, "27afea8016ce35e3891cc4ea6b20f3bebb157ce0877c8021ff3e1c75eface1b6"), looks := false }, kinds := [], alts := [], laidByText := true, laidKinds := [.data, .data, .pinned], laidTests := true, laidLooks := .later }
def SettleKnownCardSaid : Prop := Claim7.holds Tryz.pinned (.plain (OpenSpec.ofChange settleKnownSpec)) settleKnownCard

/-- THE SECOND FORM's CARD OF 'relayhouselaw29.SettleKnown'. -/
def settleKnownUptoCard : Claim7 := { stood := { row := settleKnownUptoRow, standIns := [], harness := (true, "27afea8016ce35e3891cc4ea6b20f3bebb157ce0877c8021ff3e1c75eface1b6"), looks := false }, kinds := [], alts := [], laidByText := true, laidKinds := [.data, .data, .pinned], laidTests := true, laidLooks := .later }
def SettleKnownUptoCardSaid : Prop := Claim7.holds Tryz.pinned (.plain (OpenSpec.upto settleKnownSpec)) settleKnownUptoCard
end Rows
end Go.Proofs.YtinkblfdkbknkaaGreatDoor
