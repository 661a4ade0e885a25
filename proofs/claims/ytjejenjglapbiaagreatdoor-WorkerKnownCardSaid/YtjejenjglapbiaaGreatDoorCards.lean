/-
  DERIVED. GIVEN WITH THE SEED: THE CARDS: each row of YtjejenjglapbiaaGreatDoorRows.lean that lists a variable, with what it lists TIED to the program's text (the seventh form; the later family's looks); each row that meets fmt, with fmt's text TOLD by the authors' own Lean function (tested against real Go, not proved from fmt's source: count such statements apart). THE CARD IS WHAT COUNTS. Prove the row's statement (the work); the ties are given (YtjejenjglapbiaaGreatDoorTie.lean); close each card by the builder's one call (the guide's Derived/Test/ToyasCard.lean, 'card_holds'). Laid BY PROGRAM, IN A SANDBOX (cutbox-door.mjs). By AI agents, Wed Nov 11 2026. No macro, syntax, notation, axiom, sorry.
-/
import Derived.Test.YtjejenjglapbiaaGreatDoorRows
import GoSem.ClaimSeven
namespace Go.Proofs.YtjejenjglapbiaaGreatDoor
namespace Rows

/-- THE TIED CARD OF 'relayhouselaw22.WorkerKnown'. -/
def workerKnownCard : Claim7 := { stood := { row := workerKnownRow, standIns := [], harness := (true, "ef54641d6a53cb11609d44f43560eedfd41228fa75adf33f5ab7d22592439d10"), looks := false }, kinds := [], alts := [], laidByText := true, laidKinds := [.data, .data, .pinned], laidTests := true, laidLooks := .later }
def WorkerKnownCardSaid : Prop := Claim7.holds Tryz.pinned (.plain (OpenSpec.ofChange workerKnownSpec)) workerKnownCard

/-- THE SECOND FORM's CARD OF 'relayhouselaw22.WorkerKnown'. -/
def workerKnownUptoCard : Claim7 := { stood := { row := workerKnownUptoRow, standIns := [], harness := (true, "ef54641d6a53cb11609d44f43560eedfd41228fa75adf33f5ab7d22592439d10"), looks := false }, kinds := [], alts := [], laidByText := true, laidKinds := [.data, .data, .pinned], laidTests := true, laidLooks := .later }
def WorkerKnownUptoCardSaid : Prop := Claim7.holds Tryz.pinned (.plain (OpenSpec.upto workerKnownSpec)) workerKnownUptoCard
end Rows
end Go.Proofs.YtjejenjglapbiaaGreatDoor
