import Derived.Test.YtpanfoafajepcaaGreatDoorGh
import Derived.Test.YtpanfoafajepcaaGreatDoorRcL
set_option maxRecDepth 100000
namespace Go.Proofs.YtpanfoafajepcaaGreatDoor.Ra
open Tryz (prog)
open Go Go.AM
open _root_.Ra
def qTab:Tab:=[(104,[str PM],.tuple ⟨[.agg ⟨asciiPM⟩,.bool true]⟩),(5,[],.bool true)]
theorem yU:∀f args v,qTab.orc f args=some v→eR prog f args v:=by
 refine Tab.closed fun e he=>?_;simp only[qTab,pV,List.mem_nil_iff,or_false]at he;rcases he with rfl|rfl
 ·exact rF (by kernel_rfl) (by kernel_rfl) (by kernel_rfl) aXv
 ·exact rF (by kernel_rfl) (by kernel_rfl) (by kernel_rfl) ok5
theorem aKr:KnA qTab.orc:=by
 refine⟨fun f args hf=>?_,?_⟩
 ·have all:(frL.all fun f=>qTab.all fun e=>!Nat.beq e.1 f)=true:=by rfl
  exact Tab.none (List.all_eq_true.1 all f hf) args
 ·rfl
theorem bFz:aM prog 3 D5:=by
 have hc:=jN (P:=prog) (NG:=3) (by kernel_rfl) (by kernel_rfl) (by kernel_rfl) yU 1;intro f args h v h' hr;refine hc f args h v h' ?_;unfold D5 at hr;obtain⟨h1,hr⟩:=aA hr;have:=beq_iff.1 h1;subst this
 cases args with
 |nil=>
  simp only[kE,kK]at hr;obtain⟨rfl,rfl⟩:=hr;exact qB (show qTab.orc 5 []=some (.bool true)from rfl) 0 h
 |cons a r=>cases hr
end Go.Proofs.YtpanfoafajepcaaGreatDoor.Ra
