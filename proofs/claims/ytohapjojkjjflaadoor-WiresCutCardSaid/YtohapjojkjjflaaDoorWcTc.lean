import Derived.Test.YtohapjojkjjflaaDoorWcTb
import Derived.Test.YtohapjojkjjflaaDoorRo
set_option maxRecDepth 1000000
namespace Go.Proofs.YtohapjojkjjflaaDoor.Wc
open Go Go.AM
noncomputable def tfs : List Nat := [4,5,6,7,8,9,10,11,12,13,14,15,16,17,18,19,20,21,22,23,24,25,26,27,28,29,30,31,32,33,34,35,36,37,38,39,40,41,42,43,44,45,46,47,48,49,50,51,52,53,54,55,56,57,58,59,60,61,62,63,64,65,66,67,68,69,70,71,72,73,74,75,78,80,81]
theorem tdr : F.drsAll Tryd.prog tfs = true := by kernel_rfl
theorem zeros : zerosPlain Tryd.prog = true := by kernel_rfl
theorem mixed : Tryd.prog.follows .mixedOrders = true := by kernel_rfl
theorem names0 : namesOK Tryd.prog = true := by kernel_rfl
theorem ok0 : okE Tryd.prog tfs 300 (4,[],.bool true) = true := by kernel_rfl
theorem ok4 : t4.all (okE Tryd.prog tfs 100) = true := by kernel_rfl
theorem ok5 : t5.all (okE Tryd.prog tfs 100) = true := by kernel_rfl
theorem closed_all {t : Tab} {n : Nat} (h : t.all (okE Tryd.prog tfs n) = true) : ∀ e ∈ t,ClosedRet Tryd.prog e.1 e.2.1 e.2.2 := fun e he => okE_closed zeros mixed names0 tdr (List.all_eq_true.1 h e he)
theorem tab_closed : ∀ f args v,tab.orc f args = some v → ClosedRet Tryd.prog f args v := by
 refine Tab.closed fun e he => ?_
 unfold tab at he
 simp only [List.mem_append,List.mem_singleton] at he
 rcases he with (rfl | he) | he
 · exact okE_closed zeros mixed names0 tdr ok0
 · exact closed_all ok4 e he
 · exact closed_all ok5 e he
end Go.Proofs.YtohapjojkjjflaaDoor.Wc
