/-
  DERIVED. GIVEN WITH THE SEED: THE CARDS: each row of YtohapjojkjjflaaDoorRows.lean that lists a variable, with what it lists TIED to the program's text (the seventh form; the later family's looks); each row that meets fmt, with fmt's text TOLD by the authors' own Lean function (tested against real Go, not proved from fmt's source: count such statements apart). THE CARD IS WHAT COUNTS. Prove the row's statement (the work); the ties are given (YtohapjojkjjflaaDoorTie.lean); close each card by the builder's one call (the guide's Derived/Test/ToyasCard.lean, 'card_holds'). Laid BY PROGRAM, IN A SANDBOX (cutbox-door.mjs). By AI agents, Wed Nov 11 2026. No macro, syntax, notation, axiom, sorry.
-/
import Derived.Test.YtohapjojkjjflaaDoorRows
import GoSem.ClaimSeven
namespace Go.Proofs.YtohapjojkjjflaaDoor
namespace Rows

/-- THE TIED CARD OF 'relayhouselaw28.WiresCut'. -/
def wiresCutCard : Claim7 := { stood := { row := wiresCutRow, standIns := [], harness := (true, "997fff0cb683d336a5bf94dc558ff0d3cfdf70c9bcb6b59d1d17f8b5875d40d3"), looks := false }, kinds := [], alts := [], laidByText := true, laidKinds := [.data, .pinned], laidTests := true, laidLooks := .later }
def WiresCutCardSaid : Prop := Claim7.holds Tryd.pinned (.plain (OpenSpec.ofChange wiresCutSpec)) wiresCutCard

/-- THE SECOND FORM's CARD OF 'relayhouselaw28.WiresCut'. -/
def wiresCutUptoCard : Claim7 := { stood := { row := wiresCutUptoRow, standIns := [], harness := (true, "997fff0cb683d336a5bf94dc558ff0d3cfdf70c9bcb6b59d1d17f8b5875d40d3"), looks := false }, kinds := [], alts := [], laidByText := true, laidKinds := [.data, .pinned], laidTests := true, laidLooks := .later }
def WiresCutUptoCardSaid : Prop := Claim7.holds Tryd.pinned (.plain (OpenSpec.upto wiresCutSpec)) wiresCutUptoCard
end Rows
end Go.Proofs.YtohapjojkjjflaaDoor
