import Derived.Test.YtohapjojkjjflaaGreatDoorRx
namespace Go.Proofs.YtohapjojkjjflaaGreatDoor.Wz
open Go Go.AM
def t1:Tab:=(List.range 256).map fun c:Nat=>(25,[.int .u8 (c:Int)],.bool (bG c))
def t2:Tab:=(List.range 256).map fun c:Nat=>(37,[.int .u8 (c:Int)],.bool (bG c))
def t3:Tab:=(List.range 256).map fun c:Nat=>(95,[.int .u8 (c:Int)],.int .i64 (dA c:Int))
def t4:Tab:=((List.range 5).map fun n:Nat=>(96,[.int .i64 (n:Int)],.int .i64 (dC n:Int)))++((List.range 4).map fun n:Nat=>(52,[.int .i64 (n:Int)],.int .i64 ((128^n:Nat):Int)))
def t5:Tab:=(List.range 256).map fun n:Nat=>(56,[.int .u8 (n:Int)],str (aN n))
def t6:Tab:=(List.range 256).map fun n:Nat=>(65,[.int .i64 (n:Int)],str [UInt8.ofNat n])
def t7:Tab:=[(100,[str PM],.tuple ⟨[.agg ⟨asciiPM⟩,.bool true]⟩)]
def tab:Tab:=[(5,[],.bool true)]++t1++t2++t3++t4++t5++t6++t7
end Go.Proofs.YtohapjojkjjflaaGreatDoor.Wz
