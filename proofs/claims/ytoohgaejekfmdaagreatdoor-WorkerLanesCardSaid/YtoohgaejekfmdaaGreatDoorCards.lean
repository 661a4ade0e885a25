/-
  DERIVED. GIVEN WITH THE SEED: THE CARDS: each row of YtoohgaejekfmdaaGreatDoorRows.lean that lists a variable, with what it lists TIED to the program's text (the seventh form; the later family's looks); each row that meets fmt, with fmt's text TOLD by the authors' own Lean function (tested against real Go, not proved from fmt's source: count such statements apart). THE CARD IS WHAT COUNTS. Prove the row's statement (the work); the ties are given (YtoohgaejekfmdaaGreatDoorTie.lean); close each card by the builder's one call (the guide's Derived/Test/ToyasCard.lean, 'card_holds'). Laid BY PROGRAM, IN A SANDBOX (cutbox-door.mjs). By AI agents, Wed Nov 11 2026. No macro, syntax, notation, axiom, sorry.
-/
import Derived.Test.YtoohgaejekfmdaaGreatDoorRows
import GoSem.ClaimSeven
namespace Go.Proofs.YtoohgaejekfmdaaGreatDoor
namespace Rows

/-- THE TIED CARD OF 'relayhouselaw22.WorkerLanes'. -/
def workerLanesCard : Claim7 := { stood := { row := workerLanesRow, standIns := [], harness := (true, "8c5d93264737c4c6baea17b9f4d5d9c1d729579a3786bac71ce8397ea73855e5"), looks := false }, kinds := [], alts := [], laidByText := true, laidKinds := [.data, .data, .pinned], laidTests := true, laidLooks := .later }
def WorkerLanesCardSaid : Prop := Claim7.holds Tryz.pinned (.plain (OpenSpec.ofChange workerLanesSpec)) workerLanesCard

/-- THE SECOND FORM's CARD OF 'relayhouselaw22.WorkerLanes'. -/
def workerLanesUptoCard : Claim7 := { stood := { row := workerLanesUptoRow, standIns := [], harness := (true, "8c5d93264737c4c6baea17b9f4d5d9c1d729579a3786bac71ce8397ea73855e5"), looks := false }, kinds := [], alts := [], laidByText := true, laidKinds := [.data, .data, .pinned], laidTests := true, laidLooks := .later }
def WorkerLanesUptoCardSaid : Prop := Claim7.holds Tryz.pinned (.plain (OpenSpec.upto workerLanesSpec)) workerLanesUptoCard
end Rows
end Go.Proofs.YtoohgaejekfmdaaGreatDoor
