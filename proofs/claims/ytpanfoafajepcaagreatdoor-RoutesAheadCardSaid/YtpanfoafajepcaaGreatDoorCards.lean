/-
  DERIVED. GIVEN WITH THE SEED: THE CARDS: each row of YtpanfoafajepcaaGreatDoorRows.lean that lists a variable, with what it lists TIED to the program's text (the seventh form; the later family's looks); each row that meets fmt, with fmt's text TOLD by the authors' own Lean function (tested against real Go, not proved from fmt's source: count such statements apart). THE CARD IS WHAT COUNTS. Prove the row's statement (the work); the ties are given (YtpanfoafajepcaaGreatDoorTie.lean); close each card by the builder's one call (the guide's Derived/Test/ToyasCard.lean, 'card_holds'). Laid BY PROGRAM, IN A SANDBOX (cutbox-door.mjs). By AI agents, Wed Nov 11 2026. No macro, syntax, notation, axiom, sorry.
-/
import Derived.Test.YtpanfoafajepcaaGreatDoorRows
import GoSem.ClaimSeven
namespace Go.Proofs.YtpanfoafajepcaaGreatDoor
namespace Rows

/-- THE TIED CARD OF 'relayhouselaw27.RoutesAhead'. -/
def routesAheadCard : Claim7 := { stood := { row := routesAheadRow, standIns := [], harness := (true, "50649b7733240acac92424189ad86c070baaf51415da4f8779403bfdb290ecc8"), looks := false }, kinds := [], alts := [], laidByText := true, laidKinds := [.data, .pinned], laidTests := true, laidLooks := .later }
def RoutesAheadCardSaid : Prop := Claim7.holds Tryz.pinned (.plain (OpenSpec.ofChange routesAheadSpec)) routesAheadCard

/-- THE SECOND FORM's CARD OF 'relayhouselaw27.RoutesAhead'. -/
def routesAheadUptoCard : Claim7 := { stood := { row := routesAheadUptoRow, standIns := [], harness := (true, "50649b7733240acac92424189ad86c070baaf51415da4f8779403bfdb290ecc8"), looks := false }, kinds := [], alts := [], laidByText := true, laidKinds := [.data, .pinned], laidTests := true, laidLooks := .later }
def RoutesAheadUptoCardSaid : Prop := Claim7.holds Tryz.pinned (.plain (OpenSpec.upto routesAheadSpec)) routesAheadUptoCard
end Rows
end Go.Proofs.YtpanfoafajepcaaGreatDoor
