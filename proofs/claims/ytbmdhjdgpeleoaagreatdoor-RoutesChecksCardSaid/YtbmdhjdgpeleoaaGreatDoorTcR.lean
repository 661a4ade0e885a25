import Derived.Test.YtbmdhjdgpeleoaaGreatDoorTcO
import Derived.Test.YtbmdhjdgpeleoaaGreatDoorTcQ
import Derived.Test.YtbmdhjdgpeleoaaGreatDoorTcM
set_option linter.defProp false
set_option maxRecDepth 100000
namespace Go.Proofs.YtbmdhjdgpeleoaaGreatDoor.Ra
open Tryz (prog)
open Go Go.AM Go.RowKit _root_.Ra
variable {h:H}{r:kA×H}{a:kC kA}
def Good65 (a:kC kA)(h:H)(r:kA×H):Prop:=∃(m box:Nat) (l:kC (Bs×kA)),a=[.func (.func 120) ⟨[]⟩ ⟨[aA box]⟩]∧h.get box=some (.cells [aV m] (some 0))∧MapR h m cC l∧l.length≤2^40∧(∀y∈l,y.1.length≤maxLen)∧r=oL h (uZ (l.map (·.1)))
def Good43 (a:kC kA)(h:H)(r:kA×H):Prop:=∃(v:kA) (es:kC (Bs×Bs)),a=[v,.func (.func 69) ⟨[]⟩ ⟨[]⟩]∧Vec 2 h v (bR es)∧es.length≤2^41∧r=(.tuple ⟨[]⟩,aBx h v es)
def bKs:kA→Bs
 | .string s=>s.data.toList
 |_=>[]
def Good65.one {s:kA×H}(G:Good65 a h r)(b:Good65 a h s):r=s:=by
 obtain⟨m,box,l,t,v,D,_,_,rfl⟩:=G;obtain⟨C,o,n,p,q,E,_,_,rfl⟩:=b;have w:box=o:=by rw[t]at p;simpa using p
 subst w;have B:m=C:=by rw[v]at q;simpa using q
 subst B;obtain⟨u,c,z,y,_⟩:=D.at_;obtain⟨e,I,g,d,_⟩:=E.at_;have f:u=e:=by rw[z]at g;injection pB g
 subst f;have i:l.map (fun x=>(cC x.1,x.2))=n.map (fun x=>(cC x.1,x.2)):=y.symm.trans d;have k:l.map (fun x=>cC x.1)=n.map (fun x=>cC x.1):=by have:=sX (List.map Prod.fst) i;rw[List.map_map,List.map_map]at this;exact this
 have j:l.map (·.1)=n.map (·.1):=by
  have:=sX (List.map bKs) k;rw[List.map_map,List.map_map]at this;exact this
 rw[j]
def Good43.one {i:kA×H}(t:Good43 a h r)(b:Good43 a h i):r=i:=by
 obtain⟨v,k,j,x,_,rfl⟩:=t;obtain⟨o,s,g,p,_,rfl⟩:=b;have m:v=o:=by rw[j]at g;simpa using g
 subst m;have:k=s:=by
  refine aJg ?_;obtain⟨_,⟨d,f⟩|⟨q,d,_,f⟩⟩:=x<;>obtain⟨_,⟨c,e⟩|⟨n,c,_,e⟩⟩:=p
  ·rw[f,e]
  ·rw[d]at c;cases c
  ·rw[d]at c;cases c
  ·have l:q=n:=by rw[d]at c;simp only[Value.slice.injEq,kP,Addr.mk.injEq]at c;exact c.1.1
   subst l;rw[f]at e;simpa using e
 rw[this]
open Classical in
noncomputable def Dx:CF:=fun f a h=>
 if hx:f=99∧∃r,Good65 a h r then some hx.2.choose else if hy:f=68∧∃r,Good43 a h r then some hy.2.choose else none
def cDx (g:Good65 a h r):Dx 99 a h=some r:=by
 have x:(99:kI)=99∧∃r,Good65 a h r:=⟨rfl,r,g⟩;unfold Dx;rw[dif_pos x];exact sX some (x.2.choose_spec.one g)
def cDy (g:Good43 a h r):Dx 68 a h=some r:=by
 have x:(68:kI)=68∧∃r,Good43 a h r:=⟨rfl,r,g⟩;unfold Dx;rw[dif_neg fun e=>dC e.1 (by decide),dif_pos x];exact sX some (x.2.choose_spec.one g)
def bFa (f:kI)(a:kC kA)(h:H)(b:f≠99)(c:f≠68):Dx f a h=none:=by
 unfold Dx;rw[dif_neg fun e=>b e.1,dif_neg fun e=>c e.1]
def cDw:aO prog 3 Dx:=by
 intro f k h v n r;unfold Dx at r;split at r
 ·rename_i a;obtain⟨rfl,a⟩:=a;have s:=a.choose_spec;have r:=pB r;rw[r]at s;obtain⟨m,box,l,rfl,g,x,d,q,b⟩:=s;obtain⟨rfl,rfl⟩:v=(oL h (uZ (l.map (·.1)))).1∧n=(oL h (uZ (l.map (·.1)))).2:=by rw[←b];exact⟨rfl,rfl⟩
  exact⟨aKn _ _,fun _=>⟨_,Tryz.func99,(nL (by kernel_rfl) Tryz.func99).1,.inl ⟨⟨_,rfl⟩,fun u w c j o i=>bAe j o g x d q rfl i⟩⟩,fun _ _ e=>dC e (by decide)⟩
 ·split at r
  ·rename_i a;obtain⟨rfl,a⟩:=a;have s:=a.choose_spec;have r:=pB r;rw[r]at s;obtain⟨t,p,rfl,x,d,b⟩:=s;obtain⟨rfl,rfl⟩:v=.tuple ⟨[]⟩∧n=aBx h t p:=by rw[kW]at b;exact b
   exact⟨Nat.le_of_eq (aKo _ _ _).symm,fun _=>⟨_,Tryz.func68,(nL (by kernel_rfl) Tryz.func68).1,.inl ⟨⟨_,rfl⟩,fun u w c j o i=>bAf j x d i⟩⟩,fun _ _ e=>dC e (by decide)⟩
  ·cases r
def cDu:∀h m (l:kC (Bs×kA)) box,h.get box=some (.cells [aV m] (some 0))→box<h.next→m<h.next→MapR h m cC l→l.length≤2^40→(∀x∈l,x.1.length≤maxLen)→∃a v,Dx 99 [.func (.func 120) ⟨[]⟩ ⟨[aA box]⟩] h=some (v,a)∧SliceE 1 a v ((uZ (l.map (·.1))).map fun k=>[str k])∧Ext h a∧∀i,sid v=some i→h.next≤i:=
 fun h m l box g _ _ x b c=>⟨_,_,cDx ⟨m,box,l,rfl,g,x,b,c,rfl⟩,aGm⟩
def cDv:∀h v (e:kC (Bs×Bs)),Vec 2 h v (bR e)→e.length≤2^41→∃a u,Dx 68 [v,.func (.func 69) ⟨[]⟩ ⟨[]⟩] h=some (u,a)∧SliceE 2 a v (bR (e.mergeSort hle))∧ExtBut (fun i=>sid v=some i) h a:=
 fun h v e x b=>⟨_,_,cDy ⟨v,e,rfl,x,b,rfl⟩,aTv x⟩
noncomputable abbrev D0 (a:H):CF:=DD (D1 qTab.orc a) Dx a
def bVe {a:kC Nat}(b:aMh h a)(t:aKj 3 h):K4 (D0 h) h (bEf (D1 qTab.orc h) h) (bEd (D1 qTab.orc h) h) (bAn (D1 qTab.orc h) h):=
 cLs (cJn aOf b t) bFa cDu cDv
def cEc (t:aKj 3 h):aO prog 3 (D0 h):=cDz cEa (cEb aIq t) cDw t
end Go.Proofs.YtbmdhjdgpeleoaaGreatDoor.Ra
