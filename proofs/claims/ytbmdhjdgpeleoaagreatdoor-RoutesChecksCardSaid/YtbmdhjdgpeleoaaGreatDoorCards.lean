/-
  DERIVED. GIVEN WITH THE SEED: THE CARDS: each row of YtbmdhjdgpeleoaaGreatDoorRows.lean that lists a variable, with what it lists TIED to the program's text (the seventh form; the later family's looks); each row that meets fmt, with fmt's text TOLD by the authors' own Lean function (tested against real Go, not proved from fmt's source: count such statements apart). THE CARD IS WHAT COUNTS. Prove the row's statement (the work); the ties are given (YtbmdhjdgpeleoaaGreatDoorTie.lean); close each card by the builder's one call (the guide's Derived/Test/ToyasCard.lean, 'card_holds'). Laid BY PROGRAM, IN A SANDBOX (cutbox-door.mjs). By AI agents, Wed Nov 11 2026. No macro, syntax, notation, axiom, sorry.
-/
import Derived.Test.YtbmdhjdgpeleoaaGreatDoorRows
import GoSem.ClaimSeven
namespace Go.Proofs.YtbmdhjdgpeleoaaGreatDoor
namespace Rows

/-- THE TIED CARD OF 'relayhouselaw27.RoutesChecks'. -/
def routesChecksCard : Claim7 := { stood := { row := routesChecksRow, standIns := [], harness := (true, "73205d44af345b395e1d49d9e436fdfd681f8cf5f8f121c3f06fab813dea007f"), looks := false }, kinds := [], alts := [], laidByText := true, laidKinds := [.data, .pinned], laidTests := true, laidLooks := .later }
def RoutesChecksCardSaid : Prop := Claim7.holds Tryz.pinned (.plain (OpenSpec.ofChange routesChecksSpec)) routesChecksCard

/-- THE SECOND FORM's CARD OF 'relayhouselaw27.RoutesChecks'. -/
def routesChecksUptoCard : Claim7 := { stood := { row := routesChecksUptoRow, standIns := [], harness := (true, "73205d44af345b395e1d49d9e436fdfd681f8cf5f8f121c3f06fab813dea007f"), looks := false }, kinds := [], alts := [], laidByText := true, laidKinds := [.data, .pinned], laidTests := true, laidLooks := .later }
def RoutesChecksUptoCardSaid : Prop := Claim7.holds Tryz.pinned (.plain (OpenSpec.upto routesChecksSpec)) routesChecksUptoCard
end Rows
end Go.Proofs.YtbmdhjdgpeleoaaGreatDoor
