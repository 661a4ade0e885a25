import Derived.Test.YtpanfoafajepcaaGreatDoorGk
import Derived.Test.YtpanfoafajepcaaGreatDoorGe
import Derived.HandedShaped
import Derived.ChangeShapes
namespace Go.AM
open Go Go.RowKit Go.ChangeShapes
inductive TyV (P:Program) (h:H):TypeId→Value→Prop
 |agg {t:TypeId} {fs:Array Field} {as:List Value} (hu:P.underlying t=some (.struct fs)) (ty:Ty P h t as):TyV P h t (.agg ⟨as⟩)
 |one {t:TypeId} {a:Value} (hu:∀fs,P.underlying t≠some (.struct fs)) (ty:Ty P h t [a]):TyV P h t a
theorem TyV.mono {P:Program}{h h':H}(hx:∀id b,h.get id=some b→h'.get id=some b)(hn:h.next≤h'.next){t:TypeId}{a:Value}(ty:TyV P h t a):TyV P h' t a:=by
 cases ty with
 |agg hu ty=>exact .agg hu (ty.mono hx hn)
 |one hu ty=>exact .one hu (ty.mono hx hn)
def aOi (P:Program)(h:H):List TypeId→List Value→Prop
 |[],[]=>True
 |t::ts,a::as=>TyV P h t a∧aOi P h ts as
 |_,_=>False
variable {P:Program}{NG:Nat}{Hn:Type}{enc:TypeId×Value→Hn}{base:Nat}
theorem aGt {W:World}(hpos:0<W.heap.size){n b0:Nat}{t:TypeId}{v:Value}{d:DataW Hn}{p:List MemPlace}(hok:okT P n t=true)(hw:Value.okWide P W .any b0 t v)
 (ht:DataW.Trod enc P W base (fun _=>true) true t v d p) {μ:Mu} {h:H} (r:RO NG μ h W):
 ∃μ' h' a,RO NG μ' h' W∧Exh μ h μ' h'∧VR μ' a v∧TyV P h' t a:=by
 obtain⟨fuel,ht⟩:=ht;obtain⟨μ',h',as,r',e,l,ty⟩:=aDp (NG:=NG) hpos fuel n t _ _ hok ht μ h r;by_cases hs:∃fs,P.underlying t=some (.struct fs)
 ·obtain⟨fs,hu⟩:=hs;simp only[Value.okWide,hu]at hw;obtain⟨⟨cs⟩,rfl,_,_⟩:=hw;exact⟨μ',h',.agg ⟨as⟩,r',e,.agg as cs l.1 l.2 ty.cellish,.agg hu ty⟩
 ·have hs':∀fs,P.underlying t≠some (.struct fs):=fun fs hfs=>hs ⟨fs,hfs⟩;have one:∀a,as=[a]→v.cells.toList=[v]→∃μ' h' a,RO NG μ' h' W∧Exh μ h μ' h'∧VR μ' a v∧TyV P h' t a:=by
   intro a ha hv;subst ha;refine⟨μ',h',a,r',e,?_,.one hs' ty⟩;exact l.2 0 a v rfl (by rw[hv];rfl)
  have notAgg:(∀cs,v≠.agg cs)→v.cells.toList=[v]:=by
   intro hn;cases v<;>first|rfl|exact absurd rfl (hn _)
  have len1:v.cells.toList=[v]→∃a,as=[a]:=fun hv=>by
   have:=l.1;rw[hv]at this
   match as,this with
   |[a],_=>exact⟨a,rfl⟩
  have fin:(∀cs,v≠.agg cs)→∃μ' h' a,RO NG μ' h' W∧Exh μ h μ' h'∧VR μ' a v∧TyV P h' t a:=fun hn=>by
   obtain⟨a,ha⟩:=len1 (notAgg hn);exact one a ha (notAgg hn)
  cases n with
  |zero=>simp[okT]at hok
  |succ n=>
  simp only[okT]at hok;split at hok
  ·rename_i hu;refine fin fun cs hc=>?_;subst hc;simp[Value.okWide,Cell.okWide,Cell.ok,hu]at hw
  ·rename_i k hu;refine fin fun cs hc=>?_;subst hc;simp[Value.okWide,Cell.okWide,Cell.ok,hu]at hw
  ·rename_i hu;refine fin fun cs hc=>?_;subst hc;simp[Value.okWide,Cell.okWide,Cell.ok,hu]at hw
  ·rename_i e hu;refine fin fun cs hc=>?_;subst hc;simp[Value.okWide,Cell.okWide,Cell.ok,hu]at hw
  ·rename_i fs hu;exact absurd hu (hs' fs)
  ·simp at hok
theorem uD {W:World}(hpos:0<W.heap.size){n b0:Nat}:∀(ts:List TypeId) (vs:List Value) (ds:List (DataW Hn)) (ps:List MemPlace),(∀t∈ts,okT P n t=true)→
 (∀(j:Nat) t v,ts[j]?=some t→vs[j]?=some v→Value.okWide P W .any b0 t v)→DataW.TrodAll enc P W base (fun _=>true) true ts vs ds ps→∀(μ:Mu) (h:H),RO NG μ h W→
 ∃μ' h' as,RO NG μ' h' W∧Exh μ h μ' h'∧LR μ' as vs∧aOi P h' ts as
 |[],vs,ds,ps,_,_,ht,μ,h,r=>by
  obtain⟨rfl,_,_⟩:=trodAll_nil ht;exact⟨μ,h,[],r,Exh.refl _ _,.nil,trivial⟩
 |t::ts,vs,ds,ps,hok,hw,ht,μ,h,r=>by
  obtain⟨v,vs',d,ds',p,q,rfl,rfl,rfl,h1,h2⟩:=trodAll_cons ht;obtain⟨μ1,h1',a,r1,e1,l1,t1⟩:=aGt hpos (hok t (by simp)) (hw 0 t v rfl rfl) h1 r;obtain⟨μ2,h2',as,r2,e2,l2,t2⟩:=uD hpos ts vs' ds' q (fun t ht=>hok t (by simp[ht])) (fun j t v ha hb=>hw (j+1) t v (by simpa using ha) (by simpa using hb)) h2 μ1 h1' r1;exact⟨μ2,h2',a::as,r2,e1.trans e2,.cons (l1.mono e2.1) l2,t1.mono e2.2.1 e2.2.2,t2⟩
theorem RO.nothing (w:World):RO 0 (fun _=>none) ⟨.nil,0⟩ w:=⟨RH.nothing w,fun id b hb=>by simp[H.get]at hb,fun _ _=>rfl⟩
end Go.AM
