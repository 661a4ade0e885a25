import Derived.Test.YtpanfoafajepcaaGreatDoorGw
import Derived.Test.YtpanfoafajepcaaGreatDoorGq
set_option maxRecDepth 100000
set_option maxHeartbeats 4000000
namespace Go.Proofs.YtpanfoafajepcaaGreatDoor.Ra
open Tryz (prog)
open Go Go.AM
theorem aXv:okE prog 300 (104,[str PM],.tuple ⟨[.agg ⟨asciiPM⟩,.bool true]⟩)=true:=by kernel_rfl
theorem ok5:okE prog 3000 (5,[],.bool true)=true:=by kernel_rfl
end Go.Proofs.YtpanfoafajepcaaGreatDoor.Ra
