/-
  DERIVED. GIVEN WITH THE SEED: THE CARDS: each row of YtohapjojkjjflaaGreatDoorRows.lean that lists a variable, with what it lists TIED to the program's text (the seventh form; the later family's looks); each row that meets fmt, with fmt's text TOLD by the authors' own Lean function (tested against real Go, not proved from fmt's source: count such statements apart). THE CARD IS WHAT COUNTS. Prove the row's statement (the work); the ties are given (YtohapjojkjjflaaGreatDoorTie.lean); close each card by the builder's one call (the guide's Derived/Test/ToyasCard.lean, 'card_holds'). Laid BY PROGRAM, IN A SANDBOX (cutbox-door.mjs). By AI agents, Wed Nov 11 2026. No macro, syntax, notation, axiom, sorry.
-/
import Derived.Test.YtohapjojkjjflaaGreatDoorRows
import GoSem.ClaimSeven
namespace Go.Proofs.YtohapjojkjjflaaGreatDoor
namespace Rows

/-- THE TIED CARD OF 'relayhouselaw28.WiresChecks'. -/
def wiresChecksCard : Claim7 := { stood := { row := wiresChecksRow, standIns := [], harness := (true, "1ea739f5b532869283715be923fb04a1fc04828934d511b2ff87cf507af32d06"), looks := false }, kinds := [], alts := [], laidByText := true, laidKinds := [.data, .pinned], laidTests := true, laidLooks := .later }
def WiresChecksCardSaid : Prop := Claim7.holds Tryz.pinned (.plain (OpenSpec.ofChange wiresChecksSpec)) wiresChecksCard

/-- THE SECOND FORM's CARD OF 'relayhouselaw28.WiresChecks'. -/
def wiresChecksUptoCard : Claim7 := { stood := { row := wiresChecksUptoRow, standIns := [], harness := (true, "1ea739f5b532869283715be923fb04a1fc04828934d511b2ff87cf507af32d06"), looks := false }, kinds := [], alts := [], laidByText := true, laidKinds := [.data, .pinned], laidTests := true, laidLooks := .later }
def WiresChecksUptoCardSaid : Prop := Claim7.holds Tryz.pinned (.plain (OpenSpec.upto wiresChecksSpec)) wiresChecksUptoCard
end Rows
end Go.Proofs.YtohapjojkjjflaaGreatDoor
