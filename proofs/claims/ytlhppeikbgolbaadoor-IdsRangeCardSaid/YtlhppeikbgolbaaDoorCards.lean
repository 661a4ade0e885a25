/-
  DERIVED. GIVEN WITH THE SEED: THE CARDS: each row of YtlhppeikbgolbaaDoorRows.lean that lists a variable, with what it lists TIED to the program's text (the seventh form; the later family's looks); each row that meets fmt, with fmt's text TOLD by the authors' own Lean function (tested against real Go, not proved from fmt's source: count such statements apart). THE CARD IS WHAT COUNTS. Prove the row's statement (the work); the ties are given (YtlhppeikbgolbaaDoorTie.lean); close each card by the builder's one call (the guide's Derived/Test/ToyasCard.lean, 'card_holds'). Laid BY PROGRAM, IN A SANDBOX (cutbox-door.mjs). By AI agents, Wed Nov 11 2026. No macro, syntax, notation, axiom, sorry.
-/
import Derived.Test.YtlhppeikbgolbaaDoorRows
import GoSem.ClaimSeven
namespace Go.Proofs.YtlhppeikbgolbaaDoor
namespace Rows

/-- THE TIED CARD OF 'relayhouselaw11.IdsKnown'. -/
def idsKnownCard : Claim7 := { stood := { row := idsKnownRow, standIns := [], harness := (true, "e6c4b60ea1377617ae4d0b327a6edf081ad88dec0c123ae62cd92bad27ae6918"), looks := false }, kinds := [], alts := [], laidByText := true, laidKinds := [.data], laidTests := true, laidLooks := .later }
def IdsKnownCardSaid : Prop := Claim7.holds Tryd.pinned (.plain (OpenSpec.ofChange idsKnownSpec)) idsKnownCard

/-- THE TIED CARD OF 'relayhouselaw11.IdsPlays'. -/
def idsPlaysCard : Claim7 := { stood := { row := idsPlaysRow, standIns := [], harness := (true, "e6c4b60ea1377617ae4d0b327a6edf081ad88dec0c123ae62cd92bad27ae6918"), looks := false }, kinds := [], alts := [], laidByText := true, laidKinds := [.data], laidTests := true, laidLooks := .later }
def IdsPlaysCardSaid : Prop := Claim7.holds Tryd.pinned (.plain (OpenSpec.ofChange idsPlaysSpec)) idsPlaysCard

/-- THE TIED CARD OF 'relayhouselaw11.IdsLeast'. -/
def idsLeastCard : Claim7 := { stood := { row := idsLeastRow, standIns := [], harness := (true, "e6c4b60ea1377617ae4d0b327a6edf081ad88dec0c123ae62cd92bad27ae6918"), looks := false }, kinds := [], alts := [], laidByText := true, laidKinds := [.data], laidTests := true, laidLooks := .later }
def IdsLeastCardSaid : Prop := Claim7.holds Tryd.pinned (.plain (OpenSpec.ofChange idsLeastSpec)) idsLeastCard

/-- THE TIED CARD OF 'relayhouselaw11.IdsRange'. -/
def idsRangeCard : Claim7 := { stood := { row := idsRangeRow, standIns := [], harness := (true, "e6c4b60ea1377617ae4d0b327a6edf081ad88dec0c123ae62cd92bad27ae6918"), looks := false }, kinds := [], alts := [], laidByText := true, laidKinds := [.data], laidTests := true, laidLooks := .later }
def IdsRangeCardSaid : Prop := Claim7.holds Tryd.pinned (.plain (OpenSpec.ofChange idsRangeSpec)) idsRangeCard

/-- THE TIED CARD OF 'relayhouselaw11.IdsAgain'. -/
def idsAgainCard : Claim7 := { stood := { row := idsAgainRow, standIns := [], harness := (true, "e6c4b60ea1377617ae4d0b327a6edf081ad88dec0c123ae62cd92bad27ae6918"), looks := false }, kinds := [], alts := [], laidByText := true, laidKinds := [.data], laidTests := true, laidLooks := .later }
def IdsAgainCardSaid : Prop := Claim7.holds Tryd.pinned (.plain (OpenSpec.ofChange idsAgainSpec)) idsAgainCard

/-- THE SECOND FORM's CARD OF 'relayhouselaw11.IdsKnown'. -/
def idsKnownUptoCard : Claim7 := { stood := { row := idsKnownUptoRow, standIns := [], harness := (true, "e6c4b60ea1377617ae4d0b327a6edf081ad88dec0c123ae62cd92bad27ae6918"), looks := false }, kinds := [], alts := [], laidByText := true, laidKinds := [.data], laidTests := true, laidLooks := .later }
def IdsKnownUptoCardSaid : Prop := Claim7.holds Tryd.pinned (.plain (OpenSpec.upto idsKnownSpec)) idsKnownUptoCard

/-- THE SECOND FORM's CARD OF 'relayhouselaw11.IdsPlays'. -/
def idsPlaysUptoCard : Claim7 := { stood := { row := idsPlaysUptoRow, standIns := [], harness := (true, "e6c4b60ea1377617ae4d0b327a6edf081ad88dec0c123ae62cd92bad27ae6918"), looks := false }, kinds := [], alts := [], laidByText := true, laidKinds := [.data], laidTests := true, laidLooks := .later }
def IdsPlaysUptoCardSaid : Prop := Claim7.holds Tryd.pinned (.plain (OpenSpec.upto idsPlaysSpec)) idsPlaysUptoCard

/-- THE SECOND FORM's CARD OF 'relayhouselaw11.IdsLeast'. -/
def idsLeastUptoCard : Claim7 := { stood := { row := idsLeastUptoRow, standIns := [], harness := (true, "e6c4b60ea1377617ae4d0b327a6edf081ad88dec0c123ae62cd92bad27ae6918"), looks := false }, kinds := [], alts := [], laidByText := true, laidKinds := [.data], laidTests := true, laidLooks := .later }
def IdsLeastUptoCardSaid : Prop := Claim7.holds Tryd.pinned (.plain (OpenSpec.upto idsLeastSpec)) idsLeastUptoCard

/-- THE SECOND FORM's CARD OF 'relayhouselaw11.IdsRange'. -/
def idsRangeUptoCard : Claim7 := { stood := { row := idsRangeUptoRow, standIns := [], harness := (true, "e6c4b60ea1377617ae4d0b327a6edf081ad88dec0c123ae62cd92bad27ae6918"), looks := false }, kinds := [], alts := [], laidByText := true, laidKinds := [.data], laidTests := true, laidLooks := .later }
def IdsRangeUptoCardSaid : Prop := Claim7.holds Tryd.pinned (.plain (OpenSpec.upto idsRangeSpec)) idsRangeUptoCard

/-- THE SECOND FORM's CARD OF 'relayhouselaw11.IdsAgain'. -/
def idsAgainUptoCard : Claim7 := { stood := { row := idsAgainUptoRow, standIns := [], harness := (true, "e6c4b60ea1377617ae4d0b327a6edf081ad88dec0c123ae62cd92bad27ae6918"), looks := false }, kinds := [], alts := [], laidByText := true, laidKinds := [.data], laidTests := true, laidLooks := .later }
def IdsAgainUptoCardSaid : Prop := Claim7.holds Tryd.pinned (.plain (OpenSpec.upto idsAgainSpec)) idsAgainUptoCard
end Rows
end Go.Proofs.YtlhppeikbgolbaaDoor
