/-
  DERIVED. GIVEN WITH THE SEED: THE CARDS: each row of YtliipdfegpdkpaaGreatDoorRows.lean that lists a variable, with what it lists TIED to the program's text (the seventh form; the later family's looks); each row that meets fmt, with fmt's text TOLD by the authors' own Lean function (tested against real Go, not proved from fmt's source: count such statements apart). THE CARD IS WHAT COUNTS. Prove the row's statement (the work); the ties are given (YtliipdfegpdkpaaGreatDoorTie.lean); close each card by the builder's one call (the guide's Derived/Test/ToyasCard.lean, 'card_holds'). Laid BY PROGRAM, IN A SANDBOX (cutbox-door.mjs). By AI agents, Wed Nov 11 2026. No macro, syntax, notation, axiom, sorry.
-/
import Derived.Test.YtliipdfegpdkpaaGreatDoorRows
import GoSem.ClaimSeven
namespace Go.Proofs.YtliipdfegpdkpaaGreatDoor
namespace Rows

/-- THE TIED CARD OF 'relayhouselaw27.RoutesKnown'. -/
def routesKnownCard : Claim7 := { stood := { row := routesKnownRow, standIns := [], harness := (true, "5cbef88abc24b2c8d9bf0a33c3b2b6dd17c3d79870599527ae71821ed96bad7e"), looks := false }, kinds := [], alts := [], laidByText := true, laidKinds := [.data, .pinned], laidTests := true, laidLooks := .later }
def RoutesKnownCardSaid : Prop := Claim7.holds Tryz.pinned (.plain (OpenSpec.ofChange routesKnownSpec)) routesKnownCard

/-- THE SECOND FORM's CARD OF 'relayhouselaw27.RoutesKnown'. -/
def routesKnownUptoCard : Claim7 := { stood := { row := routesKnownUptoRow, standIns := [], harness := (true, "5cbef88abc24b2c8d9bf0a33c3b2b6dd17c3d79870599527ae71821ed96bad7e"), looks := false }, kinds := [], alts := [], laidByText := true, laidKinds := [.data, .pinned], laidTests := true, laidLooks := .later }
def RoutesKnownUptoCardSaid : Prop := Claim7.holds Tryz.pinned (.plain (OpenSpec.upto routesKnownSpec)) routesKnownUptoCard
end Rows
end Go.Proofs.YtliipdfegpdkpaaGreatDoor
