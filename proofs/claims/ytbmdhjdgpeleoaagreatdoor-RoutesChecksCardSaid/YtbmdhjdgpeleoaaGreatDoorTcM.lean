import Derived.Test.YtbmdhjdgpeleoaaGreatDoorGg
import Derived.Test.YtbmdhjdgpeleoaaGreatDoorTcL
set_option linter.defProp false
set_option maxRecDepth 100000
namespace Go.Proofs.YtbmdhjdgpeleoaaGreatDoor.Ra
open Tryz (prog)
open Go Go.AM _root_.Ra
def qTab:Tab:=[(140,[str PM],.tuple ⟨[.agg ⟨asciiPM⟩,.bool true]⟩),(5,[],.bool true)]
def aIq:∀f a v,qTab.orc f a=some v→iP prog f a v:=by
 refine Tab.closed fun e h=>?_;simp only[qTab,sI,List.mem_nil_iff,or_false]at h;rcases h with rfl|rfl
 ·exact aAp (by kernel_rfl) (by kernel_rfl) (by kernel_rfl) bUs
 ·exact aAp (by kernel_rfl) (by kernel_rfl) (by kernel_rfl) ok5
def aOf:KnA qTab.orc:=by
 refine⟨fun f a h=>?_,?_⟩
 ·have l:(frL.all fun f=>qTab.all fun e=>!Nat.beq e.1 f)=true:=by rfl
  exact Tab.none (mB.1 l f h) a
 ·rfl
def cEa:aO prog 3 D5:=by
 have g:=rA (P:=prog) (NG:=3) (by kernel_rfl) (by kernel_rfl) (by kernel_rfl) aIq 1;intro f b h v d c;refine g f b h v d ?_;unfold D5 at c;obtain⟨e,c⟩:=aB c;have:=beq_iff.1 e;subst this
 cases b with
 |nil=>
  simp only[kP]at c;obtain⟨rfl,rfl⟩:=c;exact qB (show qTab.orc 5 []=some (.bool true)from rfl) 0 h
 |cons a r=>cases c
end Go.Proofs.YtbmdhjdgpeleoaaGreatDoor.Ra
