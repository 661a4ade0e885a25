import Derived.Test.YtpanfoafajepcaaGreatDoorGv
namespace Go.Proofs.YtpanfoafajepcaaGreatDoor.RaZ
open Go Go.AM
def isR (f:FuncId):Bool:=[30,18,19,21,23,24,20,15,6].any (Nat.beq f)
end Go.Proofs.YtpanfoafajepcaaGreatDoor.RaZ
