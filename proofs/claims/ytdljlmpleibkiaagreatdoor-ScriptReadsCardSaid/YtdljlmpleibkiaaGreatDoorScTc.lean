import Derived.Test.YtdljlmpleibkiaaGreatDoorRi
import Derived.Test.YtdljlmpleibkiaaGreatDoorRo
set_option maxRecDepth 1000000
namespace Go.Proofs.YtdljlmpleibkiaaGreatDoor.Sc
open Tryz (prog)
open Go Go.AM
noncomputable def tfs : List Nat := [4,5,7,8,9,10,11,14,15,16,17,18,22,23,24,25,26,27,31,32,33,34,35,38,41,45,46,47,48,49,50,53,54,55,56,57,62,63,66,67,68,69,70,71,72,73,74,75,76,77,81,82,83,84,85,86,87,88,89,90,91,92,94,97,98,99,105,106,111,112,113,114,115,116,118,120,121,122,123,124,125,126,127,128,140,141,142,143,144,145,146,147,148,149,150,151,152,153,174,175,176,177,178,179,180,181,182,183,186,231,232,233,235,236,237,268,269,273,274,275,293,299,313]
theorem tdr : F.drsAll prog tfs = true := by kernel_rfl
theorem zeros : zerosPlain prog = true := by kernel_rfl
theorem mixed : prog.follows .mixedOrders = true := by kernel_rfl
theorem names0 : namesOK prog = true := by kernel_rfl
theorem ok0 : okE prog tfs 300 (4,[],.bool true) = true := by kernel_rfl
theorem ok1 : t1.all (okE prog tfs 100) = true := by kernel_rfl
theorem ok2 : t2.all (okE prog tfs 100) = true := by kernel_rfl
theorem ok3 : t3.all (okE prog tfs 100) = true := by kernel_rfl
theorem ok4 : t4.all (okE prog tfs 100) = true := by kernel_rfl
theorem ok5 : t5.all (okE prog tfs 100) = true := by kernel_rfl
theorem ok6 : t6.all (okE prog tfs 100) = true := by kernel_rfl
theorem ok7 : t7.all (okE prog tfs 100) = true := by kernel_rfl
theorem ok8 : t8.all (okE prog tfs 100) = true := by kernel_rfl
theorem closed_all {t : Tab} {n : Nat} (h : t.all (okE prog tfs n) = true) : ∀ e ∈ t,ClosedRet prog e.1 e.2.1 e.2.2 := fun e he => okE_closed zeros mixed names0 tdr (List.all_eq_true.1 h e he)
theorem tab_closed : ∀ f args v,tab.orc f args = some v → ClosedRet prog f args v := by
 refine Tab.closed fun e he => ?_
 unfold tab at he
 simp only [List.mem_append,List.mem_singleton] at he
 rcases he with (((((((rfl | he) | he) | he) | he) | he) | he) | he) | he
 · exact okE_closed zeros mixed names0 tdr ok0
 · exact closed_all ok1 e he
 · exact closed_all ok2 e he
 · exact closed_all ok3 e he
 · exact closed_all ok4 e he
 · exact closed_all ok5 e he
 · exact closed_all ok6 e he
 · exact closed_all ok7 e he
 · exact closed_all ok8 e he
end Go.Proofs.YtdljlmpleibkiaaGreatDoor.Sc
