import Derived.Test.YtpanfoafajepcaaGreatDoorGn
import Derived.MakeChecks
import Derived.ChangeBears2
namespace Go.AM
open Go Go.RowKit Go.ChangeShapes Go.WideShapes Go.ChangeAt
def cV (xs:List Nat):List Value:=xs.map fun(n:Nat)=>Value.int .u8 (n:Int)
def muT (n:Nat):Mu:=fun id=>if id=0 then some ⟨0,0,0,n⟩else none
def hT (xs:List Nat):H:=(⟨.nil,0⟩:H).push (.cells (cV xs) none)
theorem vS (xs:List Nat)(id:Nat):(hT xs).get id=if id=0 then some (.cells (cV xs) none)else none:=by
 unfold hT;rw[H.get_push];rfl
theorem RO.table {W:World}{xs:List Nat}{ccs:Array Value}{ty:TypeId}{fz:Nat×Nat}(hh:W.heap[0]?=some (.cells ccs ty fz))(hs:ccs.size=xs.length)
 (hc:∀(i x:Nat),xs[i]?=some x→ccs[i]?=some (.int .u8 (x:Int))):RO 1 (muT xs.length) (hT xs) W:=by
 have hmu:∀id l,muT xs.length id=some l→id=0∧l=⟨0,0,0,xs.length⟩:=fun id l h=>by
  unfold muT at h;split at h
  ·exact⟨by assumption,(kP h).symm⟩
  ·cases h
 refine⟨⟨kF _,fun id b h=>?_,fun id b l h hl=>?_,fun id b l id' b' l' h ho=>?_,fun id l h=>?_,fun g hg=>?_⟩,fun id b h=>?_,fun id hid=>?_⟩
 ·rw[vS]at h;split at h
  ·subst_vars;exact Nat.lt_succ_self 0
  ·cases h
 ·obtain⟨rfl,rfl⟩:=hmu id l hl;rw[vS,kB rfl]at h;obtain rfl:=kP h;refine⟨ccs,ty,fz,hh,hs,by simp[cV],fun i v hv=>?_,⟨fun h=>by(cases h),fun _ h=>by(cases h)⟩⟩;simp only[cV,kX,Option.map_eq_some_iff]at hv;obtain⟨x,hx,rfl⟩:=hv;exact⟨_,by rw[Nat.zero_add];exact hc i x hx,.int _ _,rfl⟩
 ·rw[vS]at h;split at h
  ·obtain rfl:=kP h;cases ho
  ·cases h
 ·obtain⟨rfl,rfl⟩:=hmu id l h;exact(Array.getElem?_eq_some_iff.1 hh).1
 ·obtain rfl:g=0:=by omega
  exact⟨⟨0,0,0,xs.length⟩,rfl,rfl,rfl⟩
 ·rw[vS]at h;split at h
  ·obtain rfl:=kP h;rfl
  ·cases h
 ·have:(hT xs).next=1:=rfl;unfold muT;rw[kA (by omega)]
end Go.AM
