import Derived.Test.YtohapjojkjjflaaGreatDoorWzTb
set_option maxRecDepth 1000000
namespace Go.Proofs.YtohapjojkjjflaaGreatDoor.Wz
open Tryz (prog)
open Go Go.AM
theorem zeros:bM prog=true:=by kernel_rfl
theorem mixed:prog.follows .mixedOrders=true:=by kernel_rfl
theorem aJe:fL prog=true:=by kernel_rfl
theorem ok0:okE prog 300 (5,[],.bool true)=true:=by kernel_rfl
theorem ok1:t1.all (okE prog 100)=true:=by kernel_rfl
theorem ok2:t2.all (okE prog 100)=true:=by kernel_rfl
theorem ok3:t3.all (okE prog 100)=true:=by kernel_rfl
theorem ok4:t4.all (okE prog 100)=true:=by kernel_rfl
theorem ok5:t5.all (okE prog 100)=true:=by kernel_rfl
theorem ok6:t6.all (okE prog 100)=true:=by kernel_rfl
theorem ok7:t7.all (okE prog 100)=true:=by kernel_rfl
theorem dY {t:Tab}{n:Nat}(h:t.all (okE prog n)=true):∀e∈t,eJ prog e.1 e.2.1 e.2.2:=fun e he=>qE zeros mixed aJe (List.all_eq_true.1 h e he)
theorem tab_closed:∀f args v,tab.orc f args=some v→eJ prog f args v:=by
 refine Tab.closed fun e he=>?_;unfold tab at he;simp only[List.mem_append,List.mem_singleton]at he;rcases he with((((((rfl|he)|he)|he)|he)|he)|he)|he
 ·exact qE zeros mixed aJe ok0
 ·exact dY ok1 e he
 ·exact dY ok2 e he
 ·exact dY ok3 e he
 ·exact dY ok4 e he
 ·exact dY ok5 e he
 ·exact dY ok6 e he
 ·exact dY ok7 e he
end Go.Proofs.YtohapjojkjjflaaGreatDoor.Wz
