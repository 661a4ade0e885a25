import Derived.Test.YtbmdhjdgpeleoaaGreatDoorGw
import Derived.Test.YtbmdhjdgpeleoaaGreatDoorGq
set_option linter.defProp false
set_option maxRecDepth 100000
set_option maxHeartbeats 4000000
namespace Go.Proofs.YtbmdhjdgpeleoaaGreatDoor.Ra
open Tryz (prog)
open Go Go.AM
def bUs:okE prog 300 (140,[str PM],.tuple ⟨[.agg ⟨asciiPM⟩,.bool true]⟩)=true:=by kernel_rfl
def ok5:okE prog 3000 (5,[],.bool true)=true:=by kernel_rfl
end Go.Proofs.YtbmdhjdgpeleoaaGreatDoor.Ra
