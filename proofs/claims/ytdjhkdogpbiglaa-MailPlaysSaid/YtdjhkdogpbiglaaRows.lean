/-
  No cell of these rows narrows 'for every input' (looked for: loops, veiled, ifaces, maps, wideKeys, modest, calm, conditions, laid).
  DERIVED. THE GIVEN ROWS OF THIS SEAT. 5 by the template 'for every input the law returns true; each argument reads behind the call as it read before'; 0 by the template 'total and deterministic' (their statements: YtdjhkdogpbiglaaTotals.lean).
  GIVEN WITH THE SEED: the statements are not yours to turn. If you find one false, say at which input.
  Laid BY PROGRAM, IN A SANDBOX (cutbox-rows.mjs): the forced cells as the released guide's own fill.sh prints them over the translation 5e7c41dc5dc6e41d… (all of the seat's roots in one cut). By AI agents, Wed Nov 11 2026. No macro, syntax, notation, axiom, sorry.
-/
import Derived.Test.YtdjhkdogpbiglaaChecked
import GoSem.Claim
import GoSem.ClaimJoined
import GoSem.ClaimMapViews
import Derived.JoinedTies
import Derived.KernelRfl
namespace Go.Proofs.Ytdjhkdogpbiglaa
/- THE CELL 'sum', in the pinned program and in every row, IS THE sha256 OF THE DUMP (.gsa) THAT YtdjhkdogpbiglaaProg.lean LOADS. Nothing in Lean hashes anything: it is a label: what it is worth is what the hold of that sum in a sandbox is worth. -/
noncomputable def Try.pinned : Pinned := { name := "ytdjhkdogpbiglaa", sum := "5e7c41dc5dc6e41df89bc486ddbab38b310d80a50c3bdc57d6a2f497ed2914d2", checked := Try.checked }
namespace Rows
def none {H : Type} : Left H := { results := [], args := [] }

/-- 'relayhouselaw16.MailPlays': WHATEVER THE INPUT: true; the input reads as it did. -/
def mailPlaysSpec : ChangeSpec := { name := "mailPlays", fn := fun _ => fun
  | [d1, d2, d3, d4, d5] => { results := [.lit (.bool true)], args := [d1, d2, d3, d4, d5] }
  | _ => none }
def mailPlaysRow : OpenClaim := { program := "ytdjhkdogpbiglaa", sum := "5e7c41dc5dc6e41df89bc486ddbab38b310d80a50c3bdc57d6a2f497ed2914d2", func := "relayhouse/relayhouselaw16.MailPlays", spec := "mailPlays", apart := false }
def MailPlaysSaid : Prop := mailPlaysRow.holds Try.pinned (OpenSpec.ofChange mailPlaysSpec)

/-- ITS FALSE NEIGHBOUR: 'it returns false'. Refute it at one input. -/
def mailPlaysWrong : ChangeSpec := { name := "mailPlays", fn := fun _ => fun
  | [d1, d2, d3, d4, d5] => { results := [.lit (.bool false)], args := [d1, d2, d3, d4, d5] }
  | _ => none }
def MailPlaysWrongFalsely : Prop := mailPlaysRow.holds Try.pinned (OpenSpec.ofChange mailPlaysWrong)

/-- 'relayhouselaw16.MailRow': WHATEVER THE INPUT: true; the input reads as it did. -/
def mailRowSpec : ChangeSpec := { name := "mailRow", fn := fun _ => fun
  | [d1, d2, d3] => { results := [.lit (.bool true)], args := [d1, d2, d3] }
  | _ => none }
def mailRowRow : OpenClaim := { program := "ytdjhkdogpbiglaa", sum := "5e7c41dc5dc6e41df89bc486ddbab38b310d80a50c3bdc57d6a2f497ed2914d2", func := "relayhouse/relayhouselaw16.MailRow", spec := "mailRow", apart := false }
def MailRowSaid : Prop := mailRowRow.holds Try.pinned (OpenSpec.ofChange mailRowSpec)

/-- ITS FALSE NEIGHBOUR: 'it returns false'. Refute it at one input. -/
def mailRowWrong : ChangeSpec := { name := "mailRow", fn := fun _ => fun
  | [d1, d2, d3] => { results := [.lit (.bool false)], args := [d1, d2, d3] }
  | _ => none }
def MailRowWrongFalsely : Prop := mailRowRow.holds Try.pinned (OpenSpec.ofChange mailRowWrong)

/-- 'relayhouselaw16.MailRoom': WHATEVER THE INPUT: true; the input reads as it did. -/
def mailRoomSpec : ChangeSpec := { name := "mailRoom", fn := fun _ => fun
  | [d1, d2, d3, d4, d5] => { results := [.lit (.bool true)], args := [d1, d2, d3, d4, d5] }
  | _ => none }
def mailRoomRow : OpenClaim := { program := "ytdjhkdogpbiglaa", sum := "5e7c41dc5dc6e41df89bc486ddbab38b310d80a50c3bdc57d6a2f497ed2914d2", func := "relayhouse/relayhouselaw16.MailRoom", spec := "mailRoom", apart := false }
def MailRoomSaid : Prop := mailRoomRow.holds Try.pinned (OpenSpec.ofChange mailRoomSpec)

/-- ITS FALSE NEIGHBOUR: 'it returns false'. Refute it at one input. -/
def mailRoomWrong : ChangeSpec := { name := "mailRoom", fn := fun _ => fun
  | [d1, d2, d3, d4, d5] => { results := [.lit (.bool false)], args := [d1, d2, d3, d4, d5] }
  | _ => none }
def MailRoomWrongFalsely : Prop := mailRoomRow.holds Try.pinned (OpenSpec.ofChange mailRoomWrong)

/-- 'relayhouselaw16.MailKnown': WHATEVER THE INPUT: true; the input reads as it did. -/
def mailKnownSpec : ChangeSpec := { name := "mailKnown", fn := fun _ => fun
  | [] => { results := [.lit (.bool true)], args := [] }
  | _ => none }
def mailKnownRow : OpenClaim := { program := "ytdjhkdogpbiglaa", sum := "5e7c41dc5dc6e41df89bc486ddbab38b310d80a50c3bdc57d6a2f497ed2914d2", func := "relayhouse/relayhouselaw16.MailKnown", spec := "mailKnown", unfollowed := true, recurses := true, apart := false }
def MailKnownSaid : Prop := mailKnownRow.holds Try.pinned (OpenSpec.ofChange mailKnownSpec)

/-- ITS FALSE NEIGHBOUR: 'it returns false'. Refute it at one input. -/
def mailKnownWrong : ChangeSpec := { name := "mailKnown", fn := fun _ => fun
  | [] => { results := [.lit (.bool false)], args := [] }
  | _ => none }
def MailKnownWrongFalsely : Prop := mailKnownRow.holds Try.pinned (OpenSpec.ofChange mailKnownWrong)

/-- 'relayhouselaw16.MailSame': WHATEVER THE INPUT: true; the input reads as it did. -/
def mailSameSpec : ChangeSpec := { name := "mailSame", fn := fun _ => fun
  | [d1, d2, d3] => { results := [.lit (.bool true)], args := [d1, d2, d3] }
  | _ => none }
def mailSameRow : OpenClaim := { program := "ytdjhkdogpbiglaa", sum := "5e7c41dc5dc6e41df89bc486ddbab38b310d80a50c3bdc57d6a2f497ed2914d2", func := "relayhouse/relayhouselaw16.MailSame", spec := "mailSame", unfollowed := true, recurses := true, apart := false }
def MailSameSaid : Prop := mailSameRow.holds Try.pinned (OpenSpec.ofChange mailSameSpec)

/-- ITS FALSE NEIGHBOUR: 'it returns false'. Refute it at one input. -/
def mailSameWrong : ChangeSpec := { name := "mailSame", fn := fun _ => fun
  | [d1, d2, d3] => { results := [.lit (.bool false)], args := [d1, d2, d3] }
  | _ => none }
def MailSameWrongFalsely : Prop := mailSameRow.holds Try.pinned (OpenSpec.ofChange mailSameWrong)

/- THE SECOND FORM. 'bulk': how many values and letters a reading holds, each counted each time it is reached (what is shared counts as often as it is met; a slice's spare places count too). A statement '..UptoSaid' is the law's where the arguments, and the package variables that the reading takes, are together of bulk at most 1048576: NARROWER than '..Said'. Prove '..Said' where nothing that the law and all that it calls make is longer than what came in: it says more and counts as full. Else prove '..UptoSaid'. A law counts once. -/
mutual
def uptoBulk {H : Type} : DataW H → Nat
  | .lit (.string bytes) => bytes.length + 1
  | .lit _ => 1
  | .nil => 1
  | .ptr d => uptoBulk d + 1
  | .slice elems spare => uptoBulkAll elems + uptoBulkAll spare + 1
  | .agg parts => uptoBulkAll parts + 1
  | .iface _ d => uptoBulk d + 1
  | .map entries => uptoBulkEntries entries + 1
  | .held _ => 1
def uptoBulkAll {H : Type} : List (DataW H) → Nat
  | [] => 0
  | d :: r => uptoBulk d + uptoBulkAll r
def uptoBulkEntries {H : Type} : List (Lit × DataW H) → Nat
  | [] => 0
  | x :: r => uptoBulkEntry x + uptoBulkEntries r
def uptoBulkEntry {H : Type} : Lit × DataW H → Nat
  | (.string bytes, d) => bytes.length + uptoBulk d + 1
  | (_, d) => uptoBulk d + 1
 end
def uptoSmall : (H : Type) → List (DataW H) → Bool := fun _ ds => decide (uptoBulkAll ds ≤ 1048576)
def OpenSpec.upto (s : _root_.Go.ChangeSpec) : _root_.Go.OpenSpec := { _root_.Go.OpenSpec.ofChange s with cond := some uptoSmall }

/-- 'relayhouselaw16.MailPlays', WHERE WHAT IT READS IS OF BULK AT MOST 1048576: true; the input reads as it did. -/
def mailPlaysUptoRow : OpenClaim := { program := "ytdjhkdogpbiglaa", sum := "5e7c41dc5dc6e41df89bc486ddbab38b310d80a50c3bdc57d6a2f497ed2914d2", func := "relayhouse/relayhouselaw16.MailPlays", spec := "mailPlays", apart := false, narrowed := true }
def MailPlaysUptoSaid : Prop := mailPlaysUptoRow.holds Try.pinned (OpenSpec.upto mailPlaysSpec)

/-- 'relayhouselaw16.MailRow', WHERE WHAT IT READS IS OF BULK AT MOST 1048576: true; the input reads as it did. -/
def mailRowUptoRow : OpenClaim := { program := "ytdjhkdogpbiglaa", sum := "5e7c41dc5dc6e41df89bc486ddbab38b310d80a50c3bdc57d6a2f497ed2914d2", func := "relayhouse/relayhouselaw16.MailRow", spec := "mailRow", apart := false, narrowed := true }
def MailRowUptoSaid : Prop := mailRowUptoRow.holds Try.pinned (OpenSpec.upto mailRowSpec)

/-- 'relayhouselaw16.MailRoom', WHERE WHAT IT READS IS OF BULK AT MOST 1048576: true; the input reads as it did. -/
def mailRoomUptoRow : OpenClaim := { program := "ytdjhkdogpbiglaa", sum := "5e7c41dc5dc6e41df89bc486ddbab38b310d80a50c3bdc57d6a2f497ed2914d2", func := "relayhouse/relayhouselaw16.MailRoom", spec := "mailRoom", apart := false, narrowed := true }
def MailRoomUptoSaid : Prop := mailRoomUptoRow.holds Try.pinned (OpenSpec.upto mailRoomSpec)

/-- 'relayhouselaw16.MailKnown', WHERE WHAT IT READS IS OF BULK AT MOST 1048576: true; the input reads as it did. -/
def mailKnownUptoRow : OpenClaim := { program := "ytdjhkdogpbiglaa", sum := "5e7c41dc5dc6e41df89bc486ddbab38b310d80a50c3bdc57d6a2f497ed2914d2", func := "relayhouse/relayhouselaw16.MailKnown", spec := "mailKnown", unfollowed := true, recurses := true, apart := false, narrowed := true }
def MailKnownUptoSaid : Prop := mailKnownUptoRow.holds Try.pinned (OpenSpec.upto mailKnownSpec)

/-- 'relayhouselaw16.MailSame', WHERE WHAT IT READS IS OF BULK AT MOST 1048576: true; the input reads as it did. -/
def mailSameUptoRow : OpenClaim := { program := "ytdjhkdogpbiglaa", sum := "5e7c41dc5dc6e41df89bc486ddbab38b310d80a50c3bdc57d6a2f497ed2914d2", func := "relayhouse/relayhouselaw16.MailSame", spec := "mailSame", unfollowed := true, recurses := true, apart := false, narrowed := true }
def MailSameUptoSaid : Prop := mailSameUptoRow.holds Try.pinned (OpenSpec.upto mailSameSpec)

end Rows
end Go.Proofs.Ytdjhkdogpbiglaa
