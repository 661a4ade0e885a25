import Derived.Test.YtohapjojkjjflaaGreatDoorWzTb
set_option maxRecDepth 1000000
namespace Go.Proofs.YtohapjojkjjflaaGreatDoor.Wz
open Go Go.AM
def mI (o:Option Value)(v:Value):Bool:=match o with|some x=>AM.same x v|none=>false
theorem eQ {o:Option Value}{v:Value}(h:mI o v=true):o=some v:=by
 unfold mI at h;split at h
 ·rw[AM.same_eq _ _ h]
 ·cases h
noncomputable def Qt:Orc:=tab.orc
theorem bBk:(frL.all fun f=>tab.all fun e=>!Nat.beq e.1 f)=true:=by kernel_rfl
theorem cFq:((List.range 256).all fun c:Nat=>mI (Qt 25 [.int .u8 (c:Int)]) (.bool (bG c)))=true:=by kernel_rfl
theorem cFy:((List.range 256).all fun c:Nat=>mI (Qt 37 [.int .u8 (c:Int)]) (.bool (bG c)))=true:=by kernel_rfl
theorem cFu:((List.range 256).all fun c:Nat=>mI (Qt 95 [.int .u8 (c:Int)]) (.int .i64 (dA c:Int)))=true:=by kernel_rfl
theorem cFt:((List.range 5).all fun n:Nat=>mI (Qt 96 [.int .i64 (n:Int)]) (.int .i64 (dC n:Int)))=true:=by kernel_rfl
theorem cFx:((List.range 4).all fun n:Nat=>mI (Qt 52 [.int .i64 (n:Int)]) (.int .i64 ((128^n:Nat):Int)))=true:=by kernel_rfl
theorem cFw:((List.range 256).all fun n:Nat=>mI (Qt 56 [.int .u8 (n:Int)]) (str (aN n)))=true:=by kernel_rfl
theorem cFv:((List.range 256).all fun n:Nat=>mI (Qt 65 [.int .i64 (n:Int)]) (str [UInt8.ofNat n]))=true:=by kernel_rfl
theorem cFs:mI (Qt 100 [str PM]) (.tuple ⟨[.agg ⟨asciiPM⟩,.bool true]⟩)=true:=by kernel_rfl
theorem cFr:mI (Qt 5 []) (.bool true)=true:=by kernel_rfl
theorem bCo:tab.orc 5 []=some (.bool true):=eQ cFr
theorem aOg:KnB tab.orc where
 fr:=fun f args hf=>Tab.none (List.all_eq_true.1 bBk f hf) args
 fq:=fun c hc=>eQ (List.all_eq_true.1 cFq c (List.mem_range.2 hc))
 qa:=eQ cFs
 f37:=fun c hc=>eQ (List.all_eq_true.1 cFy c (List.mem_range.2 hc))
 f95:=fun c hc=>eQ (List.all_eq_true.1 cFu c (List.mem_range.2 hc))
 f96:=fun c hc=>eQ (List.all_eq_true.1 cFt c (List.mem_range.2 hc))
 f52:=fun c hc=>eQ (List.all_eq_true.1 cFx c (List.mem_range.2 hc))
 f56:=fun c hc=>eQ (List.all_eq_true.1 cFw c (List.mem_range.2 hc))
 f65:=fun c hc=>eQ (List.all_eq_true.1 cFv c (List.mem_range.2 hc))
end Go.Proofs.YtohapjojkjjflaaGreatDoor.Wz
