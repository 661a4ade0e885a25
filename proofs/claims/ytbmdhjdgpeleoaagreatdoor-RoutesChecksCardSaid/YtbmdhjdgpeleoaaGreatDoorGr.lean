import Derived.Test.YtbmdhjdgpeleoaaGreatDoorGq
import Derived.MakeChecks
import Derived.ChangeBears2
namespace Go.AM
open Go Go.RowKit Go.ChangeShapes Go.WideShapes Go.ChangeAt
def gR (x:kC Nat):kC kA:=x.map fun(n:Nat)=>Value.int .u8 (n:Int)
end Go.AM
