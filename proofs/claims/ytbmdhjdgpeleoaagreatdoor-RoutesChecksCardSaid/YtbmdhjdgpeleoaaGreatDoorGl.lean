import Derived.Test.YtbmdhjdgpeleoaaGreatDoorGk
import Derived.Test.YtbmdhjdgpeleoaaGreatDoorGc
import Derived.HandedShaped
import Derived.ChangeShapes
set_option linter.defProp false
namespace Go.AM
open Go Go.RowKit Go.ChangeShapes
section
inductive TyV (P:kD) (h:H):kF→kA→Prop
 |agg {t:kF} {fs:kH Field} {as:kC kA} (hu:P.underlying t=some (.struct fs)) (ty:Ty P h t as):TyV P h t (.agg ⟨as⟩)
 |one {t:kF} {a:kA} (hu:∀fs,P.underlying t≠some (.struct fs)) (ty:Ty P h t [a]):TyV P h t a
def TyV.mono {P:kD}{h j:H}(x:∀id b,h.get id=some b→j.get id=some b)(n:h.next≤j.next){t:kF}{v:kA}(y:TyV P h t v):TyV P j t v:=by
 cases y with
 |agg u y=>exact .agg u (y.mono x n)
 |one u y=>exact .one u (y.mono x n)
def bEu (P:kD)(h:H):kC kF→kC kA→Prop
 |[],[]=>True
 |t::ts,a::as=>TyV P h t a∧bEu P h ts as
 |_,_=>False
variable {P:kD}{NG:Nat}{Z:Type}{enc:kF×kA→Z}{base:Nat}
def aTo {w:kE}(y:0<w.heap.size){n i:Nat}{t:kF}{v:kA}{d:DataW Z}{p:kC MemPlace}(f:okT P n t=true)(m:Value.okWide P w .any i t v)
 (G:DataW.Trod enc P w base (fun _=>true) true t v d p) {M:Mu} {h:H} (r:RO NG M h w):
 ∃b c a,RO NG b c w∧Exh M h b c∧VR b a v∧TyV P c t a:=by
 obtain⟨x,G⟩:=G;obtain⟨b,c,q,L,e,l,J⟩:=aOp (NG:=NG) y x n t _ _ f G M h r;by_cases K:∃fs,P.underlying t=some (.struct fs)
 ·obtain⟨fs,u⟩:=K;simp only[Value.okWide,u]at m;obtain⟨⟨s⟩,rfl,_,_⟩:=m;exact⟨b,c,.agg ⟨q⟩,L,e,.agg q s l.1 l.2 J.cellish,.agg u J⟩
 ·have z:∀fs,P.underlying t≠some (.struct fs):=fun fs E=>K ⟨fs,E⟩;have one:∀a,q=[a]→v.cells.toList=[v]→∃b c a,RO NG b c w∧Exh M h b c∧VR b a v∧TyV P c t a:=by
   intro a D I;subst D;refine⟨b,c,a,L,e,?_,.one z J⟩;exact l.2 0 a v rfl (by rw[I];rfl)
  have o:(∀s,v≠.agg s)→v.cells.toList=[v]:=by
   intro C;cases v<;>first|rfl|exact dC rfl (C _)
  have B:v.cells.toList=[v]→∃a,q=[a]:=fun I=>by
   have:=l.1;rw[I]at this
   match q,this with
   |[a],_=>exact⟨a,rfl⟩
  have g:(∀s,v≠.agg s)→∃b c a,RO NG b c w∧Exh M h b c∧VR b a v∧TyV P c t a:=fun C=>by
   obtain⟨a,D⟩:=B (o C);exact one a D (o C)
  cases n with
  |zero=>simp[okT]at f
  |succ n=>
  simp only[okT]at f;split at f
  ·rename_i u;refine g fun s j=>?_;subst j;simp[Value.okWide,Cell.okWide,Cell.ok,u]at m
  ·rename_i k u;refine g fun s j=>?_;subst j;simp[Value.okWide,Cell.okWide,Cell.ok,u]at m
  ·rename_i u;refine g fun s j=>?_;subst j;simp[Value.okWide,Cell.okWide,Cell.ok,u]at m
  ·rename_i e u;refine g fun s j=>?_;subst j;simp[Value.okWide,Cell.okWide,Cell.ok,u]at m
  ·rename_i fs u;exact dC u (z fs)
  ·simp at f
def aEf {w:kE}(b:0<w.heap.size){n i:Nat}:∀(ts:kC kF) (vs:kC kA) (ds:kC (DataW Z)) (ps:kC MemPlace),(∀t∈ts,okT P n t=true)→
 (∀(j:Nat) t v,ts[j]?=some t→vs[j]?=some v→Value.okWide P w .any i t v)→DataW.TrodAll enc P w base (fun _=>true) true ts vs ds ps→∀(f:Mu) (h:H),RO NG f h w→
 ∃c l s,RO NG c l w∧Exh f h c l∧LR c s vs∧bEu P l ts s
 |[],vs,ds,ps,_,_,e,f,h,r=>by
  obtain⟨rfl,_,_⟩:=trodAll_nil e;exact⟨f,h,[],r,Exh.refl _ _,.nil,trivial⟩
 |t::ts,vs,ds,ps,hok,hw,e,f,h,r=>by
  obtain⟨v,u,d,k,p,q,rfl,rfl,rfl,B,C⟩:=trodAll_cons e;obtain⟨x,m,a,r1,z,G,J⟩:=aTo b (hok t (by simp)) (hw 0 t v rfl rfl) B r;obtain⟨y,o,s,r2,g,I,K⟩:=aEf b ts u k q (fun t e=>hok t (by simp[e])) (fun j t v D E=>hw (j+1) t v (by simpa using D) (by simpa using E)) C x m r1;exact⟨y,o,a::s,r2,z.trans g,.cons (G.mono g.1) I,J.mono g.2.1 g.2.2,K⟩
end
end Go.AM
