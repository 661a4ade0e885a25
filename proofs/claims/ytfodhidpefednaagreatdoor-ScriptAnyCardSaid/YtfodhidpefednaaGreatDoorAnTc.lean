import Derived.Test.YtfodhidpefednaaGreatDoorAnTb
import Derived.Test.YtfodhidpefednaaGreatDoorRo
set_option maxRecDepth 1000000
namespace Go.Proofs.YtfodhidpefednaaGreatDoor.An
open Tryz (prog)
open Go Go.AM
noncomputable def tfs : List Nat := [4,5,6,7,8,9,10,11,12,13,14,15,16,17,18,19,20,24,25,26,27,28,29,30,31,32,33,36,37,38,41,42,43,44,45,46,47,48,51,53,54,55,60,61,62,63,64,65,69,70,71,72,73,74,75,76,77,78,79,80,81,83,86,87,88,94,95,96,97,98,99,100,101,102,103,105,107,108,109,110,111,112,113,114,126,127,128,129,130,132,133,134,135,136,157,158,160,161,162,165,166,167,168,213,219,220,221,251]
theorem tdr : F.drsAll prog tfs = true := by kernel_rfl
theorem zeros : zerosPlain prog = true := by kernel_rfl
theorem mixed : prog.follows .mixedOrders = true := by kernel_rfl
theorem names0 : namesOK prog = true := by kernel_rfl
theorem ok0 : okE prog tfs 300 (4,[],.bool true) = true := by kernel_rfl
theorem ok1 : t1.all (okE prog tfs 100) = true := by kernel_rfl
theorem ok2 : t2.all (okE prog tfs 100) = true := by kernel_rfl
theorem ok3 : t3.all (okE prog tfs 100) = true := by kernel_rfl
theorem ok4 : t4.all (okE prog tfs 100) = true := by kernel_rfl
theorem ok5 : t5.all (okE prog tfs 100) = true := by kernel_rfl
theorem ok6 : t6.all (okE prog tfs 100) = true := by kernel_rfl
theorem ok7 : t7.all (okE prog tfs 100) = true := by kernel_rfl
theorem closed_all {t : Tab} {n : Nat} (h : t.all (okE prog tfs n) = true) : ∀ e ∈ t,ClosedRet prog e.1 e.2.1 e.2.2 := fun e he => okE_closed zeros mixed names0 tdr (List.all_eq_true.1 h e he)
theorem tab_closed : ∀ f args v,tab.orc f args = some v → ClosedRet prog f args v := by
 refine Tab.closed fun e he => ?_
 unfold tab at he
 simp only [List.mem_append,List.mem_singleton] at he
 rcases he with ((((((he | he) | rfl) | he) | he) | he) | he) | he
 · exact closed_all ok7 e he
 · exact closed_all ok6 e he
 · exact okE_closed zeros mixed names0 tdr ok0
 · exact closed_all ok1 e he
 · exact closed_all ok2 e he
 · exact closed_all ok3 e he
 · exact closed_all ok4 e he
 · exact closed_all ok5 e he
end Go.Proofs.YtfodhidpefednaaGreatDoor.An
