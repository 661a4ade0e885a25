import Derived.Test.YtbmdhjdgpeleoaaGreatDoorGw
import Derived.Test.YtbmdhjdgpeleoaaGreatDoorTaI
import Derived.Test.YtbmdhjdgpeleoaaGreatDoorGq
import Derived.Test.YtbmdhjdgpeleoaaGreatDoorGo
import Derived.Test.YtbmdhjdgpeleoaaGreatDoorTaW
set_option linter.defProp false
set_option maxRecDepth 100000
namespace Go.Proofs.YtbmdhjdgpeleoaaGreatDoor.Ra
open Tryz (prog)
open Go Go.AM TaA TaI _root_.Ra
variable {B c u:Bs}{y:Bs×Nat}{g h j:H}{I J:Int}{K L a b3 i m n n0 q t:Nat}{R r:Row}{p s:St}{v w x:kA}{l:kC (Bs×kA)}{E:kC (kC kA)}{cs d z:kC kA}
structure K1 (D:CF)(T0:H)(val:kC kG→Bool):Prop where
 va:∀h s,HasT T0 h→D 82 [str s] h=some (.bool (val s),h)
 co:∀h s,HasT T0 h→s.length≤1000300→D 103 [str s,str PM] h=some (.bool (xT s),h)
 sp:∀h s,s.length≤1000300→∃h' v,D 102 [str s,str SL] h=some (v,h')∧SliceE 1 h' v ((bH s).map fun x=>[str x])∧Ext h h'
 vl:∀s,val s=true→s.length≤65535
 no:∀f args h,f∈[65,72,83,84,91,92,115,116,130]→D f args h=none
 tab:aKj 3 T0
section
variable {D:CF}{T0:H}{val:kC kG→Bool}(k:K1 D T0 val)
include k
noncomputable abbrev CI (D:CF):CF:=iD prog 3 D
def fB (val:kC kG→Bool)(s:kC kG):Bool:=decide (s≠[])&&(val s&&!xT s)
def N61 (t:HasT T0 h)(s:kC kG):CI D 91 [str s] h=some (.bool (fB val s),h):=by
 refine cBo 0 _ h (k.no 91 _ _ (by decide)) ?_;have n:A.z prog .neq 9 (str s) (.string ⟨⟨[]⟩⟩)=_:=gZ s [];have v:=iC (P:=prog) (NG:=3) (k.va h s t);have b:fB val s=(!decide (s=[])&&(val s&&!xT s)):=by unfold fB;by_cases d:s=[]<;>simp[d]
 rw[b];generalize decide (s=[])=bz at n
 cases bz with
 |true=>rw[show(!true)=false from rfl]at n;simp only[F91,bDs,n,qS,mG]
 |false=>
  rw[show(!false)=true from rfl]at n
  cases a:val s with
  |false=>rw[a]at v;simp only[F91,bDs,n,qS,v,mG,tJ]
  |true=>
   rw[a]at v;have c:CI D 103 [str s,.string ⟨⟨[43,35]⟩⟩] h=_:=iC (k.co h s t (by have:=k.vl s a;omega));simp only[F91,bDs,n,qS,v,c,mF]
def lvB (x:kC kG)(l:Bool):Bool:=if x=[43]then true else if x=[35]∧l=true then true else !xT x
def N54 (t:HasT T0 h)(s:kC kG)(g:s.length≤1000300)(l:Bool):CI D 84 [str s,.bool l] h=some (.bool (lvB s l),h):=by
 have q:=fun b=>cBr 0 (str s) (.bool l) h (r:=(.bool b,h)) (k.no 84 _ _ (by decide));have e:A.z prog .eql 9 (str s) (.string ⟨⟨[43]⟩⟩)=_:=bX s [43];have a:A.z prog .eql 9 (str s) (.string ⟨⟨[35]⟩⟩)=_:=bX s [35];have c:CI D 103 [str s,.string ⟨⟨[43,35]⟩⟩] h=_:=iC (k.co h s t g);unfold lvB;by_cases d:s=[43]
 ·rw[kN d]at e;simp only[F84,aXr,e,a,qS,c]at q;rw[kM d];exact q true rfl
 rw[kO d]at e;rw[kL d];by_cases f:s=[35]
 ·rw[kN f]at a
  cases l with
  |true=>
   simp only[F84,aXr,e,a,qS,c]at q;rw[kM ⟨f,rfl⟩];exact q true rfl
  |false=>
   simp only[F84,aXr,e,a,qS,c]at q;rw[kL fun h=>by cases h.2];exact q _ rfl
 ·rw[kO f]at a;simp only[F84,aXr,e,a,qS,c]at q;rw[kL fun h=>f h.1];exact q _ rfl
def N53 (s:kC kG)(l:s.length≤1000300):∃a v,CI D 83 [str s] h=some (v,a)∧SliceE 1 a v ((bH s).map fun x=>[str x])∧Ext h a:=by
 obtain⟨a,v,e,b,x⟩:=k.sp h s l;have e:CI D 102 [str s,.string ⟨⟨[47]⟩⟩] h=_:=iC e;refine⟨a,v,cBs 0 _ h (k.no 83 _ _ (by decide)) ?_,b,x⟩;simp only[F83,bTj,e,qS]
omit k in
def aNz (n:Nat)(s:kC kG):oR n s≠[]:=by
 cases n with
 |zero=>simp[oR]
 |succ n=>simp only[oR];split<;>simp
omit k in
def aZg (b:Nat):∀s:kC kG,s.length≤n→∀x∈oR b s,x.length≤n:=by
 induction b with
 |zero=>intro s h x a;simp only[oR,mC]at a;subst a;exact h
 |succ b i=>
  intro s h x a;simp only[oR]at a;split at a
  ·simp only[mC]at a;subst a;exact h
  ·rcases sI.1 a with rfl|a
   ·rw[pH];omega
   ·exact i _ (by rw[pI];omega) x a
omit k in
def aIi (n:Nat):∀s:kC kG,(oR n s).length≤n+1:=by
 induction n with
 |zero=>intro s;simp[oR]
 |succ n i=>
  intro s;simp only[oR];split
  ·simp
  ·have:=i (s.drop ((Lib.indexByte s 47).toNat+1));simp only[kY];omega
omit k in
def iF (s:kC kG):(bH s).length≤s.length+1:=by
 have c:Lib.countByte s 47≤s.length:=List.count_le_length;unfold bH;split
 ·exact aIi _ s
 ·exact kR (aIi _ s) (by omega)
def aHz (n:Nat):Nat→kC (kC kG)→Bool
 |_,[]=>true
 |i,x::r=>lvB x (decide (i+1=n))&&aHz n (i+1) r
def fZ (val:kC kG→Bool)(s:kC kG):Bool:=if s=[]then false else if val s=true then aHz (bH s).length 0 (bH s)else false
def cMf {p:kC (kC kG)}(I:p.length≤1000400)(s:∀x∈p,x.length≤1000300)(J:HasT T0 h)(B:SliceE 1 h v (p.map fun x=>[str x]))(t:kA→H→kB (kA×H))(u:H→kB (kA×H)):
 ∀(d i m:Nat),i+d=p.length→d<m→aQm (CI D) L t u m (iN (p.length:Int)) (iN (i:Int)) v v h=bif aHz p.length i (p.drop i)then u h else t (.bool false) h:=by
 intro d
 induction d with
 |zero=>
  intro i m E G;obtain⟨m,rfl⟩:=pS m (by omega);have f:decide ((i:Int)<(p.length:Int))=false:=by rw[kU];omega
  rw[pZ (by omega)];simp only[aQm,bBa,zZ,f,qS,aHz]
 |succ d K=>
  intro i m E G;obtain⟨m,rfl⟩:=pS m (by omega);have f:decide ((i:Int)<(p.length:Int))=true:=by rw[kV];omega
  obtain⟨x,j⟩:∃x,p[i]?=some x:=⟨_,kZ (by omega)⟩;have l:p.drop i=x::p.drop (i+1):=by
   have c:i<p.length:=by omega
   rw[List.drop_eq_getElem_cons c];rw[kZ c]at j;rw[pB j]
  have n:(p.map fun x=>[str x])[i]?=some [str x]:=by rw[pL,j];rfl
  obtain⟨id,o,cells,own,q,_,g,_,_,C⟩:=B.at n .i64;have w:A.load false 1 (.pointer (some ⟨id,o,none⟩)) h=some (str x):=by
   rw[qK,g];have:=C 0 (by omega);simpa using this
  have y:A.zE v=some (iN (p.length:Int)):=by have:=B.len.1;rwa [pO]at this
  have w1:A.z prog .sub 3 (iN (p.length:Int)) (iN 1)=some (iN ((p.length-1:Nat):Int)):=by
   rw[lC,gX (by omega) (by omega)];congr 2;omega
  have w2:A.z prog .add 3 (iN (i:Int)) (iN 1)=some (iN ((i+1:Nat):Int)):=by rw[bC,aQ (by omega)]
  have a:=N54 k J x (s x (sY j)) (decide ((i:Int)=((p.length-1:Nat):Int)));have b:decide ((i:Int)=((p.length-1:Nat):Int))=decide (i+1=p.length):=mK.2 (by omega);rw[l];simp only[aHz];have e:=K (i+1) m (by omega) (by omega);rw[b]at a
  cases r:lvB x (decide (i+1=p.length))with
  |true=>
   rw[r]at a;rw[mF,←e];simp only[aQm,bBa,zZ,f,qS,q,w,y,w1,zQ,b,a,w2]
  |false=>
   rw[r]at a;rw[mG,sW];simp only[aQm,bBa,zZ,f,qS,q,w,y,w1,zQ,b,a]
def N40 (t:HasT T0 h)(n:3≤h.next)(s:kC kG):∃i,CI D 65 [str s] h=some (.bool (fZ val s),i)∧Ext h i:=by
 have a:A.z prog .eql 9 (str s) (.string ⟨⟨[]⟩⟩)=_:=bX s [];have c:=iC (P:=prog) (NG:=3) (k.va h s t);unfold fZ;by_cases b:s=[]
 ·rw[kN b]at a;rw[kM b];refine⟨h,aYw 0 _ h (k.no 65 _ _ (by decide)) ?_,Ext.refl h⟩;simp only[F65,aXt,bFk,a,qS]
 rw[kO b]at a;rw[kL b]
 cases g:val s with
 |false=>
  rw[g]at c;refine⟨h,aYw 0 _ h (k.no 65 _ _ (by decide)) ?_,Ext.refl h⟩;simp only[F65,aXt,bFk,a,c,qS,pP,mD]
 |true=>
  rw[g]at c;have q:=k.vl s g;obtain⟨d,v,m,j,x⟩:=N53 k (h:=h) s (by omega);have p:A.zE v=some (iN ((bH s).length:Int)):=by have:=j.len.1;rwa [pO]at this
  have f:∀y∈bH s,y.length≤1000300:=fun y o=>aZg _ s (by omega) y o;have l:=iF s;have e:=cMf k (h:=d) (L:=(bH s).length+1) (by omega) f (t.ext k.tab n x) j (fun v h=>some (v,h)) (fun h=>bOi h (fun v h=>some (v,h))) (bH s).length 0 ((bH s).length+1) (by omega) (by omega);have e:aQm (CI D) _ _ (fun h=>bOi h (fun v h=>some (v,h))) _ (iN ((bH s).length:Int)) (iN 0) v v d=_:=e;rw[mI]at e;refine⟨d,aYw ((bH s).length+1) _ h (k.no 65 _ _ (by decide)) ?_,x⟩;simp only[F65,aXt,bFk,a,c,qS,cEx,m,bSc,cEw,p,e,mE];cases aHz (bH s).length 0 (bH s)<;>rfl
def lev {p:kC (kC kG)}(s:SliceE 1 h v (p.map fun x=>[str x]))(c:i<p.length):∃a x,A.zB 1 v (iN (i:Int))=some a∧A.load false 1 a h=some (str x)∧p.drop i=x::p.drop (i+1):=by
 have _:=k;have f:p[i]?=some p[i]:=kZ c;have b:(p.map fun x=>[str x])[i]?=some [str p[i]]:=by rw[pL,f];rfl
 obtain⟨id,o,cells,own,e,_,g,_,_,d⟩:=s.at b .i64;exact⟨_,p[i],e,by rw[qK,g];have:=d 0 (by omega);simpa using this,List.drop_eq_getElem_cons c⟩
def oX (s:kC kG):Bool:=match bH s with|x::_=>decide (x=[43]∨x=[35])|[]=>false
def N81 (s:kC kG)(o:s.length≤1000300):∃l,CI D 115 [str s] h=some (.bool (oX s),l)∧Ext h l:=by
 obtain⟨f,v,g,p,x⟩:=N53 k (h:=h) s o;obtain⟨a,y,d,n,m⟩:=lev k p (i:=0) (List.length_pos_iff.2 (aNz _ s));have d:A.zB 1 v (iN 0)=_:=d;have e:A.z prog .eql 9 (str y) (.string ⟨⟨[43]⟩⟩)=_:=bX y [43];have j:A.z prog .eql 9 (str y) (.string ⟨⟨[35]⟩⟩)=_:=bX y [35];have q:=fun b=>bNj 0 (str s) h (r:=(.bool b,f)) (k.no 115 _ _ (by decide));rw[mI]at m;have w:oX s=decide (y=[43]∨y=[35]):=by unfold oX;rw[m]
 by_cases c:y=[43]
 ·rw[kN c]at e;simp only[bUi,aRg,g,qS,d,n,e,j]at q;exact⟨f,by rw[w,kN (.inl c)];exact q true rfl,x⟩
 ·rw[kO c]at e;simp only[bUi,aRg,g,qS,d,n,e,j]at q;refine⟨f,by rw[w];refine(q _ rfl).trans ?_;simp[c],x⟩
def oK:kC (kC kG)→kC (kC kG)→Bool
 |[],b=>b.isEmpty
 |x::a,b=>if x=[35]then true else match b with
  |[]=>false
  |y::b=>if y=[35]then false else decide (x=[43]∨x=y)&&oK a b
def N95 {e p:kC (kC kG)}(O:SliceE 1 h v (e.map fun d3=>[str d3]))(sb:SliceE 1 h x (p.map fun d3=>[str d3])){l:Nat}(R:h.get n=some (.cells [v] (some 0)))(S:h.get i=some (.cells [x] (some 0)))(U:h.get l=some (.cells [.func (.func 130) ⟨[]⟩ ⟨[aA n,aA i,aA l]⟩] (some 0)))(N:e.length≤1000400)(Y:p.length≤1000400):∀(d a:Nat),a+d=e.length→a≤p.length→CI D 130 [iN (a:Int),aA n,aA i,aA l] h=some (.bool (oK (e.drop a) (p.drop a)),h):=by
 have t:A.load false 1 (aA n) h=some v:=by rw[qK,R];rfl
 have J:A.load false 1 (aA i) h=some x:=by rw[qK,S];rfl
 have lf:A.load false 1 (aA l) h=some (.func (.func 130) ⟨[]⟩ ⟨[aA n,aA i,aA l]⟩):=by rw[qK,U];rfl
 have u:A.zE v=some (iN (e.length:Int)):=by have:=O.len.1;rwa [pO]at this
 have K:A.zE x=some (iN (p.length:Int)):=by have:=sb.len.1;rwa [pO]at this
 intro d
 induction d with
 |zero=>
  intro a W V;have o:decide ((a:Int)=(e.length:Int))=true:=kN (by omega);have q:=fun r=>aVn 0 (iN (a:Int)) (aA n) (aA i) (aA l) h (r:=(.bool r,h)) (k.no 130 _ _ (by decide));simp only[aRd,wE,aQh,aQy,aQg,t,u,qS,zQ,o,cIs,J,K]at q;rw[pZ (show e.length≤a by omega),show oK [] (p.drop a)=decide ((a:Int)=(p.length:Int)) by
   simp only[oK];rw[mR,List.isEmpty_iff,pW,List.drop_eq_nil_iff];omega]
  exact q _ rfl
 |succ d Z=>
  intro a W V;have o:decide ((a:Int)=(e.length:Int))=false:=kO (by omega);obtain⟨a3,c,G,I,P⟩:=lev k O (i:=a) (by omega);rw[P];have s:A.z prog .eql 9 (str c) (.string ⟨⟨[35]⟩⟩)=_:=bX c [35];have y:A.z prog .eql 9 (str c) (.string ⟨⟨[43]⟩⟩)=_:=bX c [43];have q:=fun r=>aVn 0 (iN (a:Int)) (aA n) (aA i) (aA l) h (r:=(.bool r,h)) (k.no 130 _ _ (by decide));by_cases f:c=[35]
  ·rw[kN f]at s;simp only[aRd,wE,aQh,aQy,aQg,t,u,qS,zQ,o,aSg,G,I,s,cIt]at q;rw[show oK (c::e.drop (a+1)) (p.drop a)=true by simp only[oK,kM f]];exact q _ rfl
  rw[kO f]at s;by_cases X:a=p.length
  ·have w:decide ((a:Int)=(p.length:Int))=true:=kN (by omega);simp only[aRd,wE,aQh,aQy,aQg,t,u,qS,zQ,o,aSg,G,I,s,aXc,J,K,w]at q;rw[pZ (show p.length≤a by omega),show oK (c::e.drop (a+1)) []=false by simp only[oK,kL f]];exact q _ rfl
  have w:decide ((a:Int)=(p.length:Int))=false:=kO (by omega);obtain⟨b3,m,L,M,Q⟩:=lev k sb (i:=a) (by omega);rw[Q];have B:A.z prog .eql 9 (str m) (.string ⟨⟨[35]⟩⟩)=_:=bX m [35];have C:A.z prog .eql 9 (str c) (str m)=_:=bX c m;have E:=Z (a+1) (by omega) (by omega);have w2:A.z prog .add 3 (iN (a:Int)) (iN 1)=some (iN ((a+1:Nat):Int)):=by rw[bC,aQ (by omega)]
  have E:callM prog (CI D) (.func (.func 130) ⟨[]⟩ ⟨[aA n,aA i,aA l]⟩) [iN ((a+1:Nat):Int)] h=some (.bool (oK (e.drop (a+1)) (p.drop (a+1))),h):=E;rw[show oK (c::e.drop (a+1)) (m::p.drop (a+1))=if m=[35]then false else decide (c=[43]∨c=m)&&oK (e.drop (a+1)) (p.drop (a+1)) by simp only[oK,kL f]]
  by_cases b:m=[35]
  ·rw[kN b]at B;simp only[aRd,wE,aQh,aQy,aQg,t,u,qS,zQ,o,aSg,G,I,s,aXc,J,K,w,L,M,B,bCu,y,C,lf,w2,E,bCt]at q;rw[kM b];exact q _ rfl
  rw[kO b]at B;rw[kL b];by_cases g:c=[43]
  ·rw[kN g]at y;simp only[aRd,wE,aQh,aQy,aQg,t,u,qS,zQ,o,aSg,G,I,s,aXc,J,K,w,L,M,B,bCu,y,C,lf,w2,E,bCt]at q;rw[kN (.inl g),mF];exact q _ rfl
  rw[kO g]at y;by_cases j:c=m
  ·rw[kN j]at C;simp only[aRd,wE,aQh,aQy,aQg,t,u,qS,zQ,o,aSg,G,I,s,aXc,J,K,w,L,M,B,bCu,y,C,lf,w2,E,bCt]at q;rw[kN (.inr j),mF];exact q _ rfl
  ·rw[kO j]at C;simp only[aRd,wE,aQh,aQy,aQg,t,u,qS,zQ,o,aSg,G,I,s,aXc,J,K,w,L,M,B,bCu,y,C,lf,w2,E,bCt]at q;rw[kO (fun h=>h.elim g j),mG];exact q _ rfl
def N82 {p m:kC (kC kG)}(t:SliceE 1 h v (p.map fun I=>[str I]))(sb:SliceE 1 h x (m.map fun I=>[str I]))(l:p.length≤1000400)(o:m.length≤1000400):
 ∃s,CI D 116 [v,x] h=some (.bool (oK p m),s)∧Ext h s:=by
 obtain⟨i,g⟩:=eX (h.push (.cells [v] (some 0)));obtain⟨a,b⟩:=eX (i.push (.cells [x] (some 0)));obtain⟨h3,c⟩:=eX (a.push (.cells [.nilFunc] (some 0)));have E:i.next=h.next+1:=by rw[g];rfl
 have J:a.next=h.next+2:=by rw[b,aKu,E]
 have u:A.box 1 v h=some (aA h.next,i):=by rw[aNn,t.cells,g];rfl
 have w:A.box 1 x i=some (aA i.next,a):=by rw[aNn,sb.cells,b];rfl
 have y:A.box 1 TaI.Z176 a=some (aA a.next,h3):=by rw[c];rfl
 obtain⟨j,f⟩:=eX (Value.func (.func 130) ⟨[]⟩ ⟨[aA h.next,aA i.next,aA a.next]⟩);obtain⟨e,d⟩:=eX (h3.put a.next (.cells [j] (some 0)));have z:h3.get a.next=some (.cells [.nilFunc] (some 0)):=by rw[c,H.get_push,kM rfl]
 have G:A.store 1 (aA a.next) j h3=some e:=by
  rw[qU,z,f];simp only[aHj];rw[d,f];rfl
 have q:Ext h e:=by
  rw[d];refine Ext.put ?_ _ _ (by omega);rw[c];refine Ext.pushed ?_ _;rw[b];refine Ext.pushed ?_ _;rw[g];exact Ext.push h _
 have B:e.get h.next=some (.cells [v] (some 0)):=by
  rw[d,H.get_put,kL (by omega),c,H.get_push,kL (by omega),b,H.get_push,kL (by omega),g,H.get_push,kM rfl]
 have C:e.get i.next=some (.cells [x] (some 0)):=by
  rw[d,H.get_put,kL (by omega),c,H.get_push,kL (by omega),b,H.get_push,kM rfl]
 have n:e.get a.next=some (.cells [j] (some 0)):=by rw[d,H.get_put,kM rfl]
 have lf:A.load false 1 (aA a.next) e=some j:=by rw[qK,n];rfl
 rw[f]at n;have r:=N95 k (t.ext q) (sb.ext q) B C n l o p.length 0 (by omega) (by omega);rw[mI,mI]at r;have r:callM prog (CI D) j [iN 0] e=some (.bool (oK p m),e):=by rw[f];exact r
 refine⟨e,bNi 0 _ _ h (k.no 116 _ _ (by decide)) ?_,q⟩;simp only[cKo,aYm,u,qS,w,y,←f,G,lf,r]
omit k in
def aBu {s:kC kG}(h:fZ val s=true):s≠[]∧val s=true:=by
 unfold fZ at h;split at h
 ·cases h
 ·rename_i z;split at h
  ·rename_i v;exact⟨z,v⟩
  ·cases h
def aMe (val:kC kG→Bool)(f n:kC kG):Bool:=fZ val f&&(fZ val n&&(!(oX f&&decide (n.head?=some 36))&&oK (bH f) (bH n)))
def N62 (w:HasT T0 h)(s:3≤h.next)(f n:kC kG):∃m,CI D 92 [str f,str n] h=some (.bool (aMe val f n),m)∧Ext h m:=by
 obtain⟨S,d,p⟩:=N40 k w s f;obtain⟨I,g,N⟩:=N40 k (w.ext k.tab s p) (kR s p.next) n;have x:=p.trans N;have q:=fun r m=>cBn 0 (str f) (str n) h (r:=(.bool r,m)) (k.no 92 _ _ (by decide));unfold aMe
 cases b:fZ val f with
 |false=>
  rw[b]at d;simp only[F92,aTf,bAr,bDf,aVp,d,qS,bAq]at q;exact⟨_,q _ _ rfl,p⟩
 |true=>
  rw[b]at d
  cases a:fZ val n with
  |false=>
   rw[a]at g;simp only[F92,aTf,bAr,bDf,aVp,d,g,qS,bAq]at q;exact⟨_,q _ _ rfl,x⟩
  |true=>
   rw[a]at g;have R:=aBu b;have B:=aBu a;have lf:=k.vl f R.2;have Y:=k.vl n B.2;obtain⟨h3,l,O⟩:=N81 k (h:=I) f (by omega);have j:=x.trans O;obtain⟨c,v⟩:∃c,n[0]?=some c:=⟨_,kZ (List.length_pos_iff.2 B.1)⟩;have L:A.zD (str n) (iN 0)=some (u8 c):=ixS (i:=0) v;have K:decide (n.head?=some 36)=decide ((c.toNat:Int)=36):=by
    rw[List.head?_eq_getElem?,v];refine mK.2 ⟨fun e=>by rw[pB e];rfl,fun e=>?_⟩;rw[show c=36 from UInt8.toNat_inj.1 (by show c.toNat=36;omega)]
   have o:aVp (CI D) h (str f) (str n)=fun t:kA→kA→kA→H→kB (kA×H)=>t (.bool (oX f&&decide (n.head?=some 36))) (str f) (str n) h3:=by
    rw[K]
    cases y:oX f with
    |false=>rw[y]at l;exact funext fun t=>by simp only[aVp,d,g,l,qS,mG]
    |true=>rw[y]at l;exact funext fun t=>by simp only[aVp,d,g,l,qS,L,zQ,mF]
   cases u:oX f&&decide (n.head?=some 36)with
   |true=>
    rw[u]at o;simp only[F92,aTf,bAr,bDf,o,qS,bAq]at q;exact⟨_,q _ _ rfl,j⟩
   |false=>
    rw[u]at o;obtain⟨J,Z,C,M,P⟩:=N53 k (h:=h3) f (by omega);obtain⟨U,vb,E,sb,z⟩:=N53 k (h:=J) n (by omega);have W:=iF f;have X:=iF n;obtain⟨V,G,Q⟩:=N82 k (M.ext z) sb (by omega) (by omega);simp only[F92,aTf,bAr,bDf,o,qS,bAq,cEp,C,E,G]at q;exact⟨_,q _ _ rfl,((j.trans P).trans z).trans Q⟩
def xP (val:kC kG→Bool)(f n:kC kG):Bool:=fB val n&&aMe val f n
def N47 (t:HasT T0 h)(d:3≤h.next)(f n:kC kG):∃a,CI D 72 [str f,str n] h=some (.bool (xP val f n),a)∧Ext h a:=by
 have e:=N61 k t n;have q:=fun r a=>cCc 0 (str f) (str n) h (r:=(.bool r,a)) (k.no 72 _ _ (by decide));unfold xP
 cases b:fB val n with
 |false=>
  rw[b]at e;simp only[F72,bJo,e,qS]at q;exact⟨_,q _ _ rfl,Ext.refl h⟩
 |true=>
  rw[b]at e;obtain⟨g,c,x⟩:=N62 k t d f n;simp only[F72,bJo,e,c,qS]at q;exact⟨_,q _ _ rfl,x⟩
end
structure K2 (D:CF)(T0:H)(fil nam:Bs→Bool)(tak:Bs→Bs→Bool):Prop where
 fi:∀h s,HasT T0 h→D 65 [str s] h=some (.bool (fil s),h)
 na:∀h s,HasT T0 h→D 91 [str s] h=some (.bool (nam s),h)
 ta:∀h f n,HasT T0 h→D 72 [str f,str n] h=some (.bool (tak f n),h)
 no:∀f args h,f∈[4,6,8,15,16,23,24,25,26,27,28,29,30,31,43,44,45,46,47,48,49,50,51,52,60,61,62,63,64,66,67,69,70,71,73,79,80,81,85,86,87,90,97,98,100,104,124]→D f args h=none
 tab:aKj 3 T0
def aW (r:Row):kC (kC kA):=r.map fun x=>[str x.1,iU (x.2:Int)]
def rH (r:Row):∀e∈aW r,e.length=2:=fun e h=>by
 obtain⟨x,_,rfl⟩:=mW.1 h;rfl
def eY (r:Row):(aW r).flatten.length=r.length*2:=by rw[cF (rH r)];simp[aW]
def RowV (h:H)(v:kA)(r:Row):Prop:=
 (v=eJ∧r=[])∨∃q c e,v=.slice (some ⟨q,0,none⟩) r.length c∧r.length≤c / 2∧q<h.next∧h.get q=some (.cells ((aW r).flatten++e) (some 2))
def RowV.slice {h:H}{v:kA}{r:Row}(x:RowV h v r):SliceE 2 h v (aW r):=by
 refine⟨rH r,?_⟩;rcases x with⟨rfl,rfl⟩|⟨q,c,extra,rfl,h1,h2,h3⟩
 ·exact .inl ⟨rfl,rfl⟩
 ·have f:=eY r;have l:(aW r).length=r.length:=by simp[aW]
  refine .inr ⟨q,0,c,by rw[l],by omega,h2,fun _=>⟨_,_,h3,by rw[kX,f,l];omega,?_⟩⟩;rw[mI,l,List.take_append_of_le_length (by omega),sA (by omega)]
def RowV.of_vec (x:Vec 2 h v (aW r)):RowV h v r:=by
 rcases x.2 with⟨rfl,e⟩|⟨q,hv,h1,h2⟩
 ·exact .inl ⟨rfl,by simpa[aW]using e⟩
 ·have l:(aW r).length=r.length:=by simp[aW]
  rw[l]at hv;exact .inr ⟨q,_,[],hv,by omega,h1,by simpa using h2⟩
def RowV.but {S:Nat→Prop}(x:RowV h v r)(e:ExtBut S h j)(s:∀i,sid v=some i→¬S i):RowV j v r:=by
 rcases x with x|⟨q,c,a,rfl,d,b,h3⟩
 ·exact .inl x
 ·exact .inr ⟨q,c,a,rfl,d,kT b e.next,by rw[e.get q b (s q rfl)];exact h3⟩
def RowV.lt (x:RowV h v r):∀i,sid v=some i→i<h.next:=x.slice.sid_lt
def RowV.len {h:H}{v:kA}{r:Row}(x:RowV h v r):A.zE v=some (iN (r.length:Int)):=by have:=x.slice.len.1;rwa [aW,pO]at this
structure ListR (h:H)(l:Nat)(v:kA)(r:Row):Prop where
 get:h.get l=some (.cells [v] (some 0))
 lt:l<h.next
 row:RowV h v r
 ne:sid v≠some l
def ListR.but {S:Nat→Prop}{h j:H}{l:Nat}{v:kA}{r:Row}(x:ListR h l v r)(e:ExtBut S h j)(a:¬S l)(s:∀i,sid v=some i→¬S i):ListR j l v r:=
 ⟨by rw[e.get l x.lt a];exact x.get,kT x.lt e.next,x.row.but e s,x.ne⟩
def ListR.load {h:H}{n:Nat}{v:kA}{r:Row}(x:ListR h n v r):A.load false 1 (aA n) h=some v:=by rw[qK,x.get];rfl
section
variable {D:CF}{T0:H}{fil nam:Bs→Bool}{tak:Bs→Bs→Bool}(k:K2 D T0 fil nam tak)
include k
def T28:∃a,CI D 46 [] h=some (aA h.next,a)∧ListR a h.next eJ []∧Ext h a:=by
 refine⟨h.push (.cells [eJ] (some 0)),cCw 0 h (k.no 46 _ _ (by decide)) rfl,⟨by rw[H.get_push,kM rfl],by simp,.inl ⟨rfl,rfl⟩,by simp[sid]⟩,Ext.push h _⟩
def T89 (a b:Bs):CI D 124 [str a,str b] h=some (iN (lT a b),h):=by
 have d:((prog.funcs[124]?).map fun f=>(f.body.isNone,xS f))=some (true,4):=by kernel_rfl
 obtain⟨f,e,c⟩:∃f,prog.funcs[124]?=some f∧(f.body.isNone,xS f)=(true,4):=by
  cases e:prog.funcs[124]? with
  |none=>rw[e]at d;cases d
  |some f=>rw[e]at d;exact⟨f,rfl,pB d⟩
 refine aPr (k.no 124 _ _ (by decide)) e (Option.isNone_iff_eq_none.1 (sX Prod.fst c)) ?_;rw[show xS f=4 from sX Prod.snd c];rfl
def T70 (a b:Bs):CI D 104 [str a,str b] h=some (iN (lT a b),h):=by
 refine bNk 0 _ _ h (k.no 104 _ _ (by decide)) ?_;simp only[cKp,aYn,T89 k,qS]
def T57 (a b:Bs):CI D 87 [str a,str b] h=some (iN (lT a b),h):=by
 refine cBp 0 _ _ h (k.no 87 _ _ (by decide)) ?_;simp only[F87,bTh,T70 k,qS]
def T56 (a b:Bs)(q:Nat):∃e,CI D 86 [.agg ⟨[str a,iU (q:Int)]⟩,str b] h=some (iN (lT a b),e)∧Ext h e:=by
 obtain⟨c,d⟩:=eX (h.push (.cells [str a,iU (q:Int)] (some 0)));have f:A.box 2 (.agg ⟨[str a,iU (q:Int)]⟩) h=some (aA h.next,c):=by rw[d];rfl
 have l:A.load false 1 (.pointer (some ⟨h.next,0,none⟩)) c=some (str a):=by rw[qK,d,H.get_push,kM rfl];rfl
 refine⟨c,cBq 0 _ _ h (k.no 86 _ _ (by decide)) ?_,by rw[d];exact Ext.push h _⟩;simp only[F86,bTi,f,qS,sR,l,T57 k]
omit k in
def cMs (d:n<2^62):∃a b,A.conv prog 3 148 (iN (n:Int))=some a∧A.z prog .shr 148 a (.int .u64 1)=some b∧A.conv prog 148 3 b=some (iN ((n / 2:Nat):Int)):=by
 have c:prog.underlying 3=some (.int .i64):=Tryz.underlying3;have u:prog.underlying 148=some (.int .u64):=by kernel_rfl
 have w1:IntKind.u64.wrap (n:Int)=(n:Int):=by simp[IntKind.wrap,IntKind.bits,IntKind.signed];omega
 have w2:(n:Int).fdiv 2=((n / 2:Nat):Int):=by rw[Int.fdiv_eq_ediv_of_nonneg _ (by omega)];omega
 refine⟨.int .u64 (n:Int),.int .u64 ((n / 2:Nat):Int),?_,?_,?_⟩
 ·simp only[A.conv,c,u,w1]
 ·rw[←w2];rfl
 ·simp only[A.conv,c,u];rw[gX (by omega) (by omega)]
def aVl (x:RowV h v R)(i:R[n]?=some y):∃a o q,A.zB 2 v (iN (n:Int))=some (.pointer (some ⟨q,o,none⟩))∧A.load true 2 (.pointer (some ⟨q,o,none⟩)) h=some (.agg ⟨[str y.1,iU (y.2:Int)]⟩)∧A.load false 1 (.pointer (some ⟨q,o,none⟩)) h=some (str y.1)∧a=o:=by
 have _:=k;have f:(aW R)[n]?=some [str y.1,iU (y.2:Int)]:=by rw[aW,pL,i];rfl
 obtain⟨id,o,cells,own,e,_,g,b,c,d⟩:=x.slice.at f .i64;refine⟨o,o,id,e,?_,?_,rfl⟩
 ·rw[aI,g];simp only[ble_iff.2 b,sV,c]
 ·rw[qK,g];have:=d 0 (by omega);simpa using this
def cMc {f:Bs}(M:R.length<2^60)(E:kA→kA→kA→kA→kA→H→kB (kA×H)):∀(n i j:Nat) (h:H),i≤j→j≤R.length→j-i<n→RowV h v R→
 ∃d,aMm (CI D) L E n (iN (j:Int)) (iN (R.length:Int)) (.func (.func 86) ⟨[]⟩ ⟨[]⟩) v (iN (i:Int)) (str f) h=E (iN (R.length:Int)) (.func (.func 86) ⟨[]⟩ ⟨[]⟩) v (iN (bsG R f n i j:Int)) (str f) d∧Ext h d:=by
 intro n
 induction n with
 |zero=>intro i j h _ _ h3 _;omega
 |succ n C=>
  intro i j h K I h3 x;by_cases l:i<j
  ·have g:decide ((i:Int)<(j:Int))=true:=kN (by omega);have w1:A.z prog .add 3 (iN (i:Int)) (iN (j:Int))=some (iN ((i+j:Nat):Int)):=by rw[bC,gX (by omega) (by omega)];rfl
   obtain⟨a,b,c1,c2,c3⟩:=cMs (n:=i+j) (by omega);obtain⟨m,w⟩:=eX ((i+j) / 2);rw[←w]at c3;obtain⟨y,B⟩:∃y,R[m]?=some y:=⟨_,kZ (by omega)⟩;obtain⟨_,J,q,u,G,_,_⟩:=aVl k x B;obtain⟨d,e,r⟩:=T56 k (h:=h) y.1 f y.2;have e:callM prog (CI D) (.func (.func 86) ⟨[]⟩ ⟨[]⟩) [.agg ⟨[str y.1,iU (y.2:Int)]⟩,str f] h=_:=e;have o:bsG R f (n+1) i j=if lT y.1 f<0 then bsG R f n (m+1) j else bsG R f n i m:=by
    simp only[bsG,kM l,←w,B,pQ]
   by_cases p:lT y.1 f<0
   ·rw[o,kM p];have w2:A.z prog .add 3 (iN (m:Int)) (iN 1)=some (iN ((m+1:Nat):Int)):=by rw[bC,aQ (by omega)]
    obtain⟨c,s,t⟩:=C (m+1) j d (by omega) I (by omega) (x.but r.but (S:=fun _=>False) (fun _ _=>id));refine⟨c,?_,r.trans t⟩;simp only[aMm,bAt,zZ,g,qS,w1,c1,c2,c3,u,G,e,kN p,w2,s]
   ·rw[o,kL p];obtain⟨c,s,t⟩:=C i m d (by omega) (by omega) (by omega) (x.but r.but (S:=fun _=>False) (fun _ _=>id));refine⟨c,?_,r.trans t⟩;simp only[aMm,bAt,zZ,g,qS,w1,c1,c2,c3,u,G,e,kO p,s]
  ·have g:decide ((i:Int)<(j:Int))=false:=kO (by omega);refine⟨h,?_,Ext.refl h⟩;have o:bsG R f (n+1) i j=i:=by simp only[bsG,kL l]
   rw[o];simp only[aMm,bAt,zZ,g,qS]
def T55 {f:Bs}(z:R.length<2^60)(x:RowV h v R):∃p,CI D 85 [v,str f,.func (.func 86) ⟨[]⟩ ⟨[]⟩] h=some (.tuple ⟨[iN (bQ R f:Int),.bool (cW R f)]⟩,p)∧Ext h p:=by
 obtain⟨g,b,a⟩:=cMc k (f:=f) z (fun n d j o a h=>aVq (CI D) h j a d n o fun l m h=>some (Value.tuple ⟨[l,m]⟩,h)) (L:=R.length+1) (R.length+1) 0 R.length h (by omega) (by omega) (by omega) x;have b:aMm (CI D) _ (fun n d j o a h=>aVq (CI D) h j a d n o fun l m h=>some (Value.tuple ⟨[l,m]⟩,h)) _ (iN (R.length:Int)) (iN (R.length:Int)) _ v (iN 0) (str f) h=_:=b;have E:=x.but a.but (S:=fun _=>False) (fun _ _=>id);have G:=rV R f;change _=aVq (CI D) g v (str f) _ _ (iN (bQ R f:Int)) _ at b
 cases c:R[bQ R f]? with
 |none=>
  have u:=mS.1 c;have i:decide ((bQ R f:Int)<(R.length:Int))=false:=kO (by omega);have t:cW R f=false:=by unfold cW;rw[c]
  rw[t];refine⟨g,bEx (R.length+1) _ _ _ h (k.no 85 _ _ (by decide)) ?_,a⟩;simp only[F85,bDt,bNy,x.len,qS,b];simp only[qS,aVq,zZ,i]
 |some y=>
  have w:=(pX.1 c).1;have i:decide ((bQ R f:Int)<(R.length:Int))=true:=kN (by omega);obtain⟨_,C,q,r,B,_,_⟩:=aVl k E c;obtain⟨s,e,d⟩:=T56 k (h:=g) y.1 f y.2;have e:callM prog (CI D) (.func (.func 86) ⟨[]⟩ ⟨[]⟩) [.agg ⟨[str y.1,iU (y.2:Int)]⟩,str f] g=_:=e;have t:cW R f=decide (lT y.1 f=0):=by unfold cW;rw[c]
  rw[t];refine⟨s,bEx (R.length+1) _ _ _ h (k.no 85 _ _ (by decide)) ?_,a.trans d⟩;simp only[F85,bDt,bNy,x.len,qS,b];simp only[qS,aVq,zZ,i,r,B,e,zQ]
def T41 {f:Bs}(r:R.length<2^60)(x:ListR h n v R):∃a,CI D 66 [aA n,str f] h=some (.tuple ⟨[iN (bQ R f:Int),.bool (cW R f)]⟩,a)∧Ext h a:=by
 obtain⟨b,e,d⟩:=T55 k (f:=f) r x.row;have t:A.u 0 (.tuple ⟨[iN (bQ R f:Int),.bool (cW R f)]⟩)=some (iN (bQ R f:Int)):=rfl;have c:A.u 1 (.tuple ⟨[iN (bQ R f:Int),.bool (cW R f)]⟩)=some (.bool (cW R f)):=rfl;refine⟨b,cCe 0 _ _ h (k.no 66 _ _ (by decide)) ?_,d⟩;simp only[F66,bTn,qS,sR,x.load,e,t,c]
end
def eG {o:kB kA}(h:o=some v)(s:AM.same v v=true):AM.chk o v=true:=by subst h;simp only[AM.chk,s]
def aYr (l:Nat):A.z prog .eql 98 (aA l) (.pointer none)=some (.bool false):=by
 have u:(prog.underlying 98).map (fun d=>match d with| .pointer _=>true|_=>false)=some true:=by kernel_rfl
 obtain⟨d,a,h⟩:=sZ.1 u;cases d<;>simp at h
 exact xN a _
def CutV (h:H)(w:kA)(s:Row):Prop:=
 (w=eJ∧s=[])∨∃q c,w=.slice (some ⟨q,0,none⟩) s.length (2*s.length+1)∧q<h.next∧h.get q=some (.cells ((aW s).flatten++c) (some 2))
def CutV.row {s:Row}(x:CutV h w s):RowV h w s:=by
 rcases x with x|⟨q,c,rfl,a,b⟩
 ·exact .inl x
 ·exact .inr ⟨q,_,c,rfl,by omega,a,b⟩
def aDe (r:Row)(a:Nat):(aW r).flatten=(aW (r.take a)).flatten++(aW (r.drop a)).flatten:=by
 rw[←List.flatten_append,aW,aW,aW,←rJ,sM]
def gF {y:Nat}(h:a≤y):A.zQ y (some (iN (a:Int)))=some (some a):=by
 show(bif Nat.ble a y then some (some a)else none)=_
 rw[ble_iff.2 h];rfl
def oJ (y:Nat):A.zQ y none=some none:=rfl
def aOk (x:RowV h v R)(b:a≤R.length):∃w,A.zK 2 v none (some (iN (a:Int))) (some (iN (a:Int))) h=some w∧CutV h w (R.take a)∧(∀i,sid w=some i→sid v=some i):=by
 rcases x with⟨rfl,rfl⟩|⟨q,c,extra,rfl,h1,h2,h3⟩
 ·simp at b;subst b;exact⟨eJ,rfl,.inl ⟨rfl,rfl⟩,fun i d=>by simp[sid]at d⟩
 ·refine⟨.slice (some ⟨q,0,none⟩) a (2*a+1),?_,.inr ⟨q,(aW (R.drop a)).flatten++extra,by rw[pH,dU b],h2,by rw[h3,aDe R a,sH]⟩,fun i d=>d⟩;have e:=gF (kR b h1);have f:=gF (kQ a);simp only[A.zK,dW,Option.isNone_some,tJ,sW,e,pQ,f,oJ,tH,dA,tL,sV];rfl
def aBm (x:RowV h v R)(b:a≤R.length):∃w,A.zK 2 v (some (iN (a:Int))) none none h=some w∧SliceE 2 h w (aW (R.drop a))∧AM.same w w=true:=by
 rcases x with⟨rfl,rfl⟩|⟨q,c,extra,rfl,h1,h2,h3⟩
 ·simp at b;subst b;exact⟨eJ,rfl,⟨by simp[aW],.inl ⟨rfl,rfl⟩⟩,rfl⟩
 ·have l:(aW (R.drop a)).length=R.length-a:=by simp[aW]
  have g:=eY R;have f:=eY (R.drop a);refine⟨.slice (some ⟨q,0+a*2,none⟩) (R.length-a) (c-2*a),?_,⟨rH _,.inr ⟨q,0+a*2,c-2*a,by rw[l],by rw[l];omega,h2,fun _=>⟨_,_,h3,?_,?_⟩⟩⟩,by simp[AM.same]⟩
  ·have d:=gF b;have s:A.yH 2 q h=true:=by unfold A.yH;rw[h3];rfl
   simp only[A.zK,dX,mG,sW,oJ,tH,pQ,d,s,dA,sV]
  ·rw[kX,g,l];omega
  ·rw[l,aDe R a,sH,List.drop_append,pZ (by rw[eY,pH];omega),dF];have e:0+a*2-(aW (R.take a)).flatten.length=0:=by rw[eY,pH];omega
   rw[e,mI,List.take_append_of_le_length (by rw[f,pI];omega),sA (by rw[f,pI];omega)]
def aBf (m:CutV h v R)(s:SliceE 2 h x E)(n:E≠[])(f:(R.length+E.length)*24≤2^47):
 ∃d,A.zF 2 24 v x h=some (.slice (some ⟨h.next,0,none⟩) (R.length+E.length) (2*(R.length+E.length)),d)∧
  Vec 2 d (.slice (some ⟨h.next,0,none⟩) (R.length+E.length) (2*(R.length+E.length))) (aW R++E)∧Ext h d∧d.next=h.next+1:=by
 obtain⟨_,l⟩:=s.len;have c:=s.elems;have p:0<E.length:=List.length_pos_iff.2 n;have i:Nat.beq E.length 0=false:=by rw[T.beq_dec];simp;omega
 have a:∀e∈aW R++E,e.length=2:=fun e b=>by
  rcases mP.1 b with b|b
  ·exact rH R e b
  ·exact s.1 e b
 have B:(aW R).length=R.length:=by simp[aW]
 rcases m with⟨rfl,rfl⟩|⟨q,cs,rfl,hq,hg⟩
 ·refine⟨h.push (.cells E.flatten (some 2)),?_,⟨a,.inr ⟨h.next,by simp[aW],by simp,by simp[H.get_push,aW]⟩⟩,Ext.push _ _,rfl⟩;simp only[sN,sR]at f⊢;have j:E.length*24≤140737488355328:=f;have k:E.length≤140737488355328:=by omega
  simp only[A.zF,c,l,i];simp[j,k]
 ·have z:=eY R;refine⟨h.push (.cells ((aW R).flatten++E.flatten) (some 2)),?_,⟨a,.inr ⟨h.next,by rw[kX,B],by simp,by rw[H.get_push,kM rfl,List.flatten_append]⟩⟩,Ext.push _ _,rfl⟩;simp only[A.zF,c,l,i,hg];have r:Nat.ble (R.length+E.length) ((2*R.length+1) / 2)=false:=by
   cases g:Nat.ble (R.length+E.length) ((2*R.length+1) / 2)with
   |false=>rfl
   |true=>have:=ble_iff.1 g;omega
  have t:Nat.ble ((R.length+E.length)*24) (2^47)=true:=ble_iff.2 f;have u:Nat.ble (R.length+E.length) (2^47)=true:=ble_iff.2 (by omega);have w:Nat.ble (0+R.length*2) ((aW R).flatten++cs).length=true:=ble_iff.2 (by rw[kX,z];omega);have y:Nat.beq ((2*R.length+1)%2) 1=true:=beq_iff.2 (by omega);have o:(((aW R).flatten++cs).drop 0).take (R.length*2)=(aW R).flatten:=by rw[mI,List.take_append_of_le_length (by omega),sA (by omega)]
  rw[r,t,u,w,y,o];rfl
def rD {bs:Nat}(b:v=eJ∨∃q o l c,v=.slice (some ⟨q,o,none⟩) l c)(s:SliceE n h x []):A.zF n bs v x h=some (v,h):=by
 obtain⟨_,a⟩:=s.len;have e:=s.elems;rcases b with rfl|⟨q,o,l,c,rfl⟩<;>simp only[A.zF,e,a]<;>rfl
def aOb (q:Nat):∀(r:Row) (i:Nat) (e:kC kA),i<r.length→((aW r).flatten++e).set (i*2+1) (iU (q:Int))=(aW (r.set i (((r[i]?).getD ([],0)).1,q))).flatten++e
 |[],i,_,h=>by simp at h
 |x::r,0,e,_=>rfl
 |x::r,i+1,e,h=>by
  have a:=aOb q r i e (by simpa using h);show(str x.1::iU (x.2:Int)::((aW r).flatten++e)).set ((i+1)*2+1) _=str x.1::iU (x.2:Int)::((aW (r.set i (((r[i]?).getD ([],0)).1,q))).flatten++e);rw[show(i+1)*2+1=(i*2+1)+1+1 by omega,List.set_cons_succ,List.set_cons_succ,a]
def ListTo (h:H)(l:Nat)(v:kA)(a:H)(r:Row):Prop:=
 ∃b,ListR a l b r∧(∀i,sid b=some i→sid v=some i∨h.next≤i)∧ExtBut (fun i=>i=l∨sid v=some i) h a
def ListTo.same (x:ListR h n v r)(e:Ext h j):ListTo h n v j r:=
 ⟨v,x.but e.but (S:=fun _=>False) id (fun _ _=>id),fun _ i=>.inl i,e.but⟩
section
variable {D:CF}{Z:H}{fil nam:Bs→Bool}{tak:Bs→Bs→Bool}(k:K2 D Z fil nam tak)
include k
omit k in
def aEo (x:ListR h n v R)(d:i<R.length):∃b o f,A.zB 2 v (iN (i:Int))=some (.pointer (some ⟨b,o,none⟩))∧A.store 1 (.pointer (some ⟨b,o+1,none⟩)) (iU (q:Int)) h=some f∧ListTo h n v f (R.set i (((R[i]?).getD ([],0)).1,q)):=by
 rcases x.row with⟨rfl,rfl⟩|⟨b,c,extra,rfl,h1,h2,h3⟩
 ·simp at d
 have g:=eY R;have m:i*2+1<((aW R).flatten++extra).length:=by rw[kX,g];omega
 have a:b≠n:=fun e=>x.ne (by rw[e];rfl);refine⟨b,0+i*2,h.put b (.cells ((aW (R.set i (((R[i]?).getD ([],0)).1,q))).flatten++extra) (some 2)),lW 2 b 0 _ c i .i64 d,?_,.slice (some ⟨b,0,none⟩) R.length c,⟨?_,x.lt,.inr ⟨b,c,extra,by rw[rB],by rw[rB];exact h1,h2,by rw[H.get_put,kM rfl]⟩,x.ne⟩,fun j l=>.inl l,?_⟩
 ·rw[qU,h3];simp only[aLq,kY,sN,sR];rw[show Nat.beq 1 1=true from rfl,ble_iff.2 (show i*2+1+1≤_ by omega),nZ m,aOb q R i extra d];rfl
 ·rw[H.get_put,kL (mV a)];exact x.get
 ·exact ExtBut.put ⟨kQ _,fun _ _ _=>rfl⟩ b _ (.inr rfl)
def T29 (ht:HasT Z h)(hn:3≤h.next)(hr:r.length≤16)(x:ListR h n v r)(j3:3≤n)(f:Bs)(hq:q<256):
 ∃J,CI D 47 [aA n,str f,iU (q:Int)] h=some (iU ((iZ fil r f q).1:Int),J)∧ListTo h n v J (iZ fil r f q).2:=by
 have N:CI D 65 [str f] h=_:=iC (k.fi h f ht);have qq:=fun c J=>cCv 0 (aA n) (str f) (iU (q:Int)) h (r:=(iU (c:Int),J)) (k.no 47 _ _ (by decide));have s:=aYr n;unfold iZ;by_cases G:2<q∨fil f=false
 ·rw[kM G];refine⟨h,qq 128 h ?_,ListTo.same x (Ext.refl h)⟩
  cases d:decide ((2:Int)<(q:Int))with
  |true=>simp only[F47,aQz,aWe,aXp,aWd,aWc,s,qS,zY,d]
  |false=>
   have V:fil f=false:=by
    rcases G with G|G
    ·simp at d;omega
    ·exact G
   rw[V]at N;simp only[F47,aQz,aWe,aXp,aWd,aWc,s,qS,zY,d,N]
 rw[kL G];rw[not_or]at G;have d:decide ((2:Int)<(q:Int))=false:=kO (by omega);have V:fil f=true:=by cases V:fil f;exact dC V G.2;rfl
 rw[V]at N;obtain⟨l,g,C⟩:=T41 k (f:=f) (by omega) x;have O:A.u 0 (.tuple ⟨[iN (bQ r f:Int),.bool (cW r f)]⟩)=some (iN (bQ r f:Int)):=rfl;have P:A.u 1 (.tuple ⟨[iN (bQ r f:Int),.bool (cW r f)]⟩)=some (.bool (cW r f)):=rfl;have t:=x.but C.but (S:=fun _=>False) id (fun _ _=>id);have up:∀{J:H} {r':Row},ListTo l n v J r'→ListTo h n v J r':=fun⟨v',a,b,c⟩=>⟨v',a,fun i j=>(b i j).imp_right (kR C.next),C.but.trans c⟩
 cases L:cW r f with
 |true=>
  rw[kM rfl];rw[L]at g O P;obtain⟨b,k3,m,ei,es,lt⟩:=aEo t (q:=q) (aCx L);refine⟨m,qq q m ?_,up lt⟩;simp only[F47,aQz,aWe,aXp,aWd,aWc,s,qS,zY,d,N,bFw,g,O,P,bIf,bFv,cFi,sR,t.load,ei,es,bOt]
 |false=>
  rw[kL (by simp)];rw[L]at g O P;have ln:=t.row.len;by_cases U:r.length=16
  ·rw[kM U];have I:decide ((r.length:Int)=16)=true:=kN (by omega);refine⟨l,qq 128 l ?_,ListTo.same x C⟩;simp only[F47,aQz,aWe,aXp,aWd,aWc,s,qS,zY,d,N,bFw,g,O,P,bIf,bFv,bOu,sR,t.load,ln,zQ,I,cFj]
  rw[kL U];have I:decide ((r.length:Int)=16)=false:=kO (by omega);have hp:=rV r f;obtain⟨p,g3⟩:=eX (bQ r f);rw[←g3]at g O P hp⊢;obtain⟨w,ew,cw,sw⟩:=aOk t.row hp;obtain⟨m,K⟩:=eX (l.push (.cells [str f,iU (q:Int)] (some 2)));have eb:A.zI TaI.Z57L [(0,1,str f),(1,1,iU (q:Int))]=some (.agg ⟨[str f,iU (q:Int)]⟩):=rfl;have d3:A.zC 2 1 TaI.Z57L [(0,2,.agg ⟨[str f,iU (q:Int)]⟩)] l=some (.slice (some ⟨l.next,0,none⟩) 1 3,m):=by rw[K];exact aX l rfl rfl rfl
  have so:SliceE 2 m (.slice (some ⟨l.next,0,none⟩) 1 3) [[str f,iU (q:Int)]]:=by rw[K];exact fQ rfl
  have Q:Ext l m:=by rw[K];exact Ext.push l _
  have b3:CutV m w (r.take p):=by
   rcases cw with cw|⟨b,cs,e1,e2,e3⟩
   ·exact .inl cw
   ·exact .inr ⟨b,cs,e1,kT e2 Q.next,by rw[Q.get b e2];exact e3⟩
  have i3:(r.take p).length=p:=by rw[pH];omega
  obtain⟨h3,e3,v3,x3,n3⟩:=aBf b3 so (by simp) (by rw[i3];simp;omega);have B:=Q.trans x3;have X:=t.but B.but (S:=fun _=>False) id (fun _ _=>id);have M:=t.but Q.but (S:=fun _=>False) id (fun _ _=>id);obtain⟨z,ez,sz,sm⟩:=aBm X.row hp;obtain⟨z',R,_,_⟩:=aBm M.row hp;have f3:z'=z:=by
   have:A.zK 2 v (some (iN (p:Int))) none none m=A.zK 2 v (some (iN (p:Int))) none none h3:=by
    rcases M.row with⟨rfl,_⟩|⟨b,c,ex,rfl,_,hb,hg⟩
    ·rfl
    ·simp only[A.zK,A.yH,x3.get b hb]
   rw[R,ez]at this;exact pB this
  subst f3;obtain⟨u,hu⟩:=eX (Value.slice (some ⟨m.next,0,none⟩) ((r.take p).length+[[str f,iU (q:Int)]].length) (2*((r.take p).length+[[str f,iU (q:Int)]].length)));rw[←hu]at e3 v3;have vs:AM.same v v=true:=t.row.slice.same;have c1:AM.chk (bnd (A.load false 1 (aA n) m) fun v=>some v) v=true:=eG (by rw[M.load];rfl) vs;have c2:AM.chk (bnd (A.zK 2 v (some (iN (p:Int))) none none m) fun v=>some v) z'=true:=eG (by rw[R];rfl) sm;obtain⟨E,y,e4,v4,W,x4⟩:∃E y,A.zF 2 24 u z' h3=some (y,E)∧Vec 2 E y (aW (r.take p++(f,q)::r.drop p))∧(∀i,sid y=some i→l.next≤i)∧Ext l E:=by
   have er:aW (r.take p++(f,q)::r.drop p)=aW (r.take p)++[[str f,iU (q:Int)]]++aW (r.drop p):=by simp[aW]
   by_cases hz:r.drop p=[]
   ·refine⟨h3,u,rD (.inr ⟨_,_,_,_,hu⟩) (by rw[hz]at sz;exact sz),by rw[er,hz];simpa[aW]using v3,fun i j=>by rw[hu]at j;simp[sid]at j;have:=Q.next;omega,B⟩
   ·obtain⟨E,e4,v4,n4,x4⟩:=iH (bs:=24) v3 sz (fun e=>hz (List.map_eq_nil_iff.1 e)) (by omega) (by simp[aW];omega) (by simp[aW];omega);refine⟨E,_,e4,by rw[er];exact v4,fun i j=>by simp[sid]at j;have:=B.next;omega,?_⟩;exact Ext.grow B x4 (fun i j=>by rw[hu]at j;simp[sid]at j;have:=Q.next;omega)
  have Y:=t.but x4.but (S:=fun _=>False) id (fun _ _=>id);have a3:aN y=some [y]:=v4.slice.cells;obtain⟨h5,o⟩:=eX (E.put n (.cells [y] (some 0)));have e5:A.store 1 (aA n) y E=some h5:=by rw[qU,Y.get,a3,o];rfl
  have nl:sid y≠some n:=fun e=>by have:=W n e;have:=t.lt;omega
  refine⟨h5,qq q h5 ?_,up ⟨y,⟨by rw[o,H.get_put,kM rfl],by rw[o];exact Y.lt,?_,nl⟩,fun i j=>.inr (W i j),?_⟩⟩
  ·simp only[F47,aQz,aWe,aXp,aWd,aWc,s,qS,zY,d,N,bFw,g,O,P,bIf,bFv,bOu,sR,t.load,ln,zQ,I,cFk,ew,eb,d3,e3,X.load,c1,dB,ez,c2,e4,e5,bOt]
  ·exact(RowV.of_vec v4).but (S:=fun i=>i=n) (by rw[o];exact ExtBut.put ⟨kQ _,fun _ _ _=>rfl⟩ n _ rfl) (fun i j e=>nl (by rw[j,e]))
  ·rw[o];exact ExtBut.put x4.but n _ (.inl rfl)
def T39 (hn:3≤h.next)(hr:r.length≤16)(x:ListR h n v r)(f:Bs):
 ∃o b,CI D 64 [aA n,str f] h=some (.bool b,o)∧ListTo h n v o (nF r f):=by
 have Q:=fun c o=>cCf 0 (aA n) (str f) h (r:=(.bool c,o)) (k.no 64 _ _ (by decide));have C:=aYr n;unfold nF;obtain⟨l,d,j⟩:=T41 k (f:=f) (by omega) x;have E:A.u 0 (.tuple ⟨[iN (bQ r f:Int),.bool (cW r f)]⟩)=some (iN (bQ r f:Int)):=rfl;have G:A.u 1 (.tuple ⟨[iN (bQ r f:Int),.bool (cW r f)]⟩)=some (.bool (cW r f)):=rfl;have B:=x.but j.but (S:=fun _=>False) id (fun _ _=>id);have up:∀{o:H} {r':Row},ListTo l n v o r'→ListTo h n v o r':=fun⟨v',a,b,c⟩=>⟨v',a,fun i s=>(b i s).imp_right (kR j.next),j.but.trans c⟩
 cases y:cW r f with
 |false=>
  rw[kL (by simp)];rw[y]at d E G;refine⟨l,false,Q false l ?_,ListTo.same x j⟩;simp only[F64,bDv,bOl,C,qS,d,E,G,bOk,bOj]
 |true=>
  rw[kM rfl];rw[y]at d E G;have t:=aCx y;obtain⟨p,M⟩:=eX (bQ r f);rw[←M]at d E G t⊢;obtain⟨w,ew,J,sw⟩:=aOk B.row (sC t);have wp:A.z prog .add 3 (iN (p:Int)) (iN 1)=some (iN ((p+1:Nat):Int)):=by rw[bC,aQ (by omega)]
  obtain⟨z,ez,P,sm⟩:=aBm B.row (a:=p+1) t;have Y:aW (r.take p++r.drop (p+1))=aW (r.take p)++aW (r.drop (p+1)):=by simp[aW]
  have N:(r.take p).length=p:=by rw[pH];omega
  obtain⟨m,u,K,R,U,V⟩:∃m u,A.zF 2 24 w z l=some (u,m)∧RowV m u (r.take p++r.drop (p+1))∧(∀i,sid u=some i→sid v=some i∨l.next≤i)∧Ext l m:=by
   by_cases O:r.drop (p+1)=[]
   ·refine⟨l,w,rD ?_ (by rw[O]at P;exact P),by rw[O,dD];exact J.row,fun i s=>.inl (sw i s),Ext.refl l⟩;rcases J with⟨e,_⟩|⟨q,cs,e,_⟩
    ·exact .inl e
    ·exact .inr ⟨_,_,_,_,e⟩
   ·obtain⟨m,K,v2,xx,n2⟩:=aBf J P (fun e=>O (List.map_eq_nil_iff.1 e)) (by rw[N];simp[aW];omega);exact⟨m,_,K,RowV.of_vec (by rw[Y];exact v2),fun i s=>by simp[sid]at s;exact .inr (by omega),xx⟩
  have I:=B.but V.but (S:=fun _=>False) id (fun _ _=>id);have W:aN u=some [u]:=R.slice.cells;obtain⟨L,g⟩:=eX (m.put n (.cells [u] (some 0)));have X:A.store 1 (aA n) u m=some L:=by rw[qU,I.get,W,g];rfl
  have nl:sid u≠some n:=fun e=>by
   rcases U n e with h|h
   ·exact B.ne h
   ·have:=B.lt;omega
  refine⟨L,true,Q true L ?_,up ⟨u,⟨by rw[g,H.get_put,kM rfl],by rw[g];exact I.lt,?_,nl⟩,U,?_⟩⟩
  ·simp only[F64,bDv,bOl,C,qS,d,E,G,bOk,sR,B.load,ew,wp,ez,K,X,bOj]
  ·exact R.but (S:=fun i=>i=n) (by rw[g];exact ExtBut.put ⟨kQ _,fun _ _ _=>rfl⟩ n _ rfl) (fun i s e=>nl (by rw[s,e]))
  ·rw[g];exact ExtBut.put V.but n _ (.inl rfl)
end
def bLg (a b:Int):A.zS prog .max ⟨[5,5]⟩ 5 [iU a,iU b]=some (iU (if a<b then b else a)):=by
 have e:A.zS prog .max ⟨[5,5]⟩ 5 [iU a,iU b]=(match ev prog (Builtin.max2 (Value.int IntKind.u8 a) (Value.int IntKind.u8 b))with
  |some v=>bif aJ v then some v else none
  |none=>none):=by simp[A.zS,Builtin.max_,eU,aJ];rfl
 rw[e];rfl
def bLe (a b:Int):A.zS prog .min ⟨[5,5]⟩ 5 [iU a,iU b]=some (iU (if b<a then b else a)):=by
 have e:A.zS prog .min ⟨[5,5]⟩ 5 [iU a,iU b]=(match ev prog (Builtin.min2 (Value.int IntKind.u8 a) (Value.int IntKind.u8 b))with
  |some v=>bif aJ v then some v else none
  |none=>none):=by simp[A.zS,Builtin.min_,eU,aJ];rfl
 rw[e];rfl
def aZs (a b:Nat):(if(a:Int)<(b:Int)then(b:Int)else(a:Int))=((max a b:Nat):Int):=by split<;>omega
def aZr (a b:Nat):(if(b:Int)<(a:Int)then(b:Int)else(a:Int))=((min a b:Nat):Int):=by split<;>omega
def wJ (z:kC kA):∀n,(A.zeros z n).length=n*z.length
 |0=>by simp[A.zeros]
 |n+1=>by simp only[A.zeros,kX,wJ z n,Nat.succ_mul];omega
section
variable {D:CF}{Z:H}{fil nam:Bs→Bool}{tak:Bs→Bs→Bool}(k:K2 D Z fil nam tak)
include k
def cJx (M:r.length≤16)(x:ListR h n v r):∃c w,CI D 67 [aA n] h=some (w,c)∧SliceE 2 c w (aW r)∧Ext h c∧∀i,sid w=some i→h.next≤i:=by
 have e:=aYr n;have s:=x.row.len;have t:=fun w c=>cCd 0 (aA n) h (r:=(w,c)) (k.no 67 _ _ (by decide));by_cases z:r=[]
 ·have g:decide ((r.length:Int)=0)=true:=by rw[z];rfl
  refine⟨h,eJ,t eJ h ?_,by rw[z];exact⟨by simp[aW],.inl ⟨rfl,rfl⟩⟩,Ext.refl h,fun i m=>by simp[sid]at m⟩;simp only[F67,bJp,e,qS,sR,x.load,s,zQ,g]
 have q:=List.length_pos_iff.2 z;have g:decide ((r.length:Int)=0)=false:=kO (by omega);obtain⟨d,a⟩:=eX (h.push (.cells (A.zeros TaI.Z57L r.length) (some 2)));have y:A.zP 2 24 TaI.Z57L (iN (r.length:Int)) (iN (r.length:Int)) h=some (.slice (some ⟨h.next,0,none⟩) r.length (2*r.length+1),d):=by
  show(bif Nat.ble r.length r.length&&Nat.ble (24*r.length) (2^47)&&Nat.ble r.length (2^47)then _ else none)=_
  rw[ble_iff.2 (kQ _),ble_iff.2 (show 24*r.length≤2^47 by omega),ble_iff.2 (show r.length≤2^47 by omega),a];rfl
 have u:Ext h d:=by rw[a];exact Ext.push h _
 have p:=x.but u.but (S:=fun _=>False) id (fun _ _=>id);have l:(aW r).length=r.length:=by simp[aW]
 obtain⟨f,b⟩:=eX (d.put h.next (.cells (aW r).flatten (some 2)));have B:A.yP 2 (.slice (some ⟨h.next,0,none⟩) r.length (2*r.length+1)) v d=some (iN (r.length:Int),f):=by
  have j:=p.row.slice.elems;have o:=p.row.slice.len.2;have C:d.get h.next=some (.cells (A.zeros TaI.Z57L r.length) (some 2)):=by rw[a,H.get_push,kM rfl]
  have E:Nat.min (aW r).length r.length=r.length:=by rw[l];exact Nat.min_self _
  have I:Nat.beq r.length 0=false:=by rw[T.beq_dec];simp;exact z
  have K:(A.zeros TaI.Z57L r.length).length=r.length*2:=by rw[wJ];rfl
  have J:Nat.ble (0+r.length*2) (A.zeros TaI.Z57L r.length).length=true:=ble_iff.2 (by rw[K];omega);have L:=eY r;simp only[A.yP,j,o,E,I,sW,C,J,sV];rw[sA (by omega),show splice (A.zeros TaI.Z57L r.length) 0 (aW r).flatten=(aW r).flatten from ?_,b];simp only[splice,rG,dF,sR];rw[pZ (by omega),dD]
 have G:Ext h f:=by rw[b];exact u.put _ _ (kQ _)
 refine⟨f,.slice (some ⟨h.next,0,none⟩) r.length (2*r.length+1),t _ f ?_,⟨rH r,.inr ⟨h.next,0,_,by rw[l],by omega,by rw[b,a];simp,fun _=>⟨_,_,by rw[b,H.get_put,kM rfl],by rw[eY,l];omega,?_⟩⟩⟩,G,fun i m=>by simp[sid]at m;omega⟩
 ·simp only[F67,bJp,e,qS,sR,x.load,s,zQ,g,y,p.load,B]
 ·rw[mI,sA (by rw[eY,l];omega)]
def T42 (e:r.length≤16)(x:ListR h n v r):∃d w,CI D 67 [aA n] h=some (w,d)∧SliceE 2 d w (aW r)∧Ext h d:=
 let⟨d,w,a,b,c,_⟩:=cJx k e x
 ⟨d,w,a,b,c⟩
def wC (x:SliceE 2 h v (aW r))(d:r[i]?=some y):∃o q,A.zB 2 v (iN (i:Int))=some (.pointer (some ⟨q,o,none⟩))∧A.load true 2 (.pointer (some ⟨q,o,none⟩)) h=some (.agg ⟨[str y.1,iU (y.2:Int)]⟩):=by
 have _:=k;have c:(aW r)[i]?=some [str y.1,iU (y.2:Int)]:=by rw[aW,pL,d];rfl
 obtain⟨id,o,cells,own,e,_,g,a,b,f⟩:=x.at c .i64;refine⟨o,id,e,?_⟩;rw[aI,g];simp only[ble_iff.2 a,sV,b]
def rQ (y:Bs×Nat):∃d c,A.box 2 TaI.Z57 h=some (aA h.next,d)∧A.store 2 (aA h.next) (.agg ⟨[str y.1,iU (y.2:Int)]⟩) d=some c∧A.load false 1 (.pointer (some ⟨h.next,0,none⟩)) c=some (str y.1)∧A.load false 1 (.pointer (some ⟨h.next,1,none⟩)) c=some (iU (y.2:Int))∧Ext h c∧h.next<c.next:=by
 have _:=k;obtain⟨d,a⟩:=eX (h.push (.cells TaI.Z57L (some 0)));have e:d.get h.next=some (.cells TaI.Z57L (some 0)):=by rw[a,H.get_push,kM rfl]
 obtain⟨c,b⟩:=eX (d.put h.next (.cells [str y.1,iU (y.2:Int)] (some 0)));have g:c.get h.next=some (.cells [str y.1,iU (y.2:Int)] (some 0)):=by rw[b,H.get_put,kM rfl]
 refine⟨d,c,by rw[a];rfl,by rw[qU,e,b];rfl,by rw[qK,g];rfl,by rw[qK,g];rfl,?_,by rw[b,a];simp⟩;rw[b,a];exact(Ext.push h _).put _ _ (kQ _)
def cMi {n:Bs}(R:r.length≤2^40)(G:kA→kA→H→kB (kA×H)):∀(d i m:Nat) (b:Nat×Bool) (h:H),i+d=r.length→d<m→HasT Z h→3≤h.next→SliceE 2 h v (aW r)→
 ∃c,aQp (CI D) L G m (iN (r.length:Int)) (iN (i:Int)) (str n) v (iU (b.1:Int)) (.bool b.2) h=G (iU ((oN tak n b (r.drop i)).1:Int)) (.bool (oN tak n b (r.drop i)).2) c∧Ext h c:=by
 intro d
 induction d with
 |zero=>
  intro i m b h M N B l x;obtain⟨m,rfl⟩:=pS m (by omega);have j:decide ((i:Int)<(r.length:Int))=false:=by rw[kU];omega
  refine⟨h,?_,Ext.refl h⟩;rw[pZ (by omega)];simp only[aQp,bBg,zZ,j,qS,oN]
 |succ d E=>
  intro i m b h M N B l x;obtain⟨m,rfl⟩:=pS m (by omega);have j:decide ((i:Int)<(r.length:Int))=true:=by rw[kV];omega
  obtain⟨y,C⟩:∃y,r[i]?=some y:=⟨_,kZ (by omega)⟩;obtain⟨P,q,u,J⟩:=wC k x C;obtain⟨Q,g,p,s,I,O,a,S⟩:=rQ k (h:=h) y;have t:=B.ext k.tab l a;have f:CI D 72 [str y.1,str n] g=_:=iC (k.ta g y.1 n t);have w2:A.z prog .add 3 (iN (i:Int)) (iN 1)=some (iN ((i+1:Nat):Int)):=by rw[bC,aQ (by omega)]
  rw[show r.drop i=y::r.drop (i+1)from aU C];simp only[oN]
  cases w:tak y.1 n with
  |true=>
   rw[w]at f;have K:=bLg (b.1:Int) (y.2:Int);rw[aZs]at K;obtain⟨c,e,o⟩:=E (i+1) m (max b.1 y.2,true) g (by omega) (by omega) t (kR l a.next) (x.ext a);refine⟨c,?_,a.trans o⟩;simp only[aQp,bBg,zZ,j,qS,u,J,p,s,sR,I,f,O,K,w2,e,mE]
  |false=>
   rw[w]at f;obtain⟨c,e,o⟩:=E (i+1) m b g (by omega) (by omega) t (kR l a.next) (x.ext a);refine⟨c,?_,a.trans o⟩;simp only[aQp,bBg,zZ,j,qS,u,J,p,s,sR,I,f,w2,e,pP,mD]
def T32 (t:HasT Z h)(m:3≤h.next)(p:r.length≤16)(x:ListR h i v r)(n:Bs):
 ∃g,CI D 50 [aA i,str n] h=some (.tuple ⟨[iU ((cN tak r n).1:Int),.bool (cN tak r n).2]⟩,g)∧Ext h g:=by
 obtain⟨j,w,o,s,a⟩:=T42 k p x;have q:A.zE w=some (iN (r.length:Int)):=by have:=s.len.1;rwa [aW,pO]at this
 obtain⟨l,e,u⟩:=cMi k (n:=n) (r:=r) (by omega) (fun d f h=>bBf h d f fun b c h=>some (Value.tuple ⟨[b,c]⟩,h)) (v:=w) (L:=r.length+1) r.length 0 (r.length+1) (0,false) j (by omega) (by omega) (t.ext k.tab m a) (kR m a.next) s;have e:aQp (CI D) _ (fun d f h=>bBf h d f fun b c h=>some (Value.tuple ⟨[b,c]⟩,h)) _ (iN (r.length:Int)) (iN 0) (str n) w (iU 0) (.bool false) j=bBf l (iU ((cN tak r n).1:Int)) (.bool (cN tak r n).2) _:=e;refine⟨l,cCt (r.length+1) _ _ h (k.no 50 _ _ (by decide)) ?_,a.trans u⟩;simp only[F50,bJv,cFf,bSf,cFe,o,q,qS,e];simp only[bBf,qS]
end
abbrev aV (p:Nat):kA:=.map (some p)
def aG (m:Msg):kC kA:=[str m.topic,str m.payload,iU (m.qos:Int),.bool m.retain]
abbrev fU:kA:=.agg ⟨[]⟩
def gJ (l:kC Bs):kC (Bs×kA):=l.map fun c=>(c,fU)
def GrowV (n:Nat)(h:H)(v:kA)(s:kC (kC kA)):Prop:=
 (∀e∈s,e.length=n)∧∃q c,v=.slice (some ⟨q,0,none⟩) s.length c∧(c=2*s.length∨c=2*s.length+1)∧q<h.next∧h.get q=some (.cells s.flatten (some n))
def GrowV.slice {n:Nat}{h:H}{v:kA}{es:kC (kC kA)}(x:GrowV n h v es):SliceE n h v es:=by
 obtain⟨a,q,c,rfl,d,h3,b⟩:=x;exact⟨a,.inr ⟨q,0,c,rfl,by omega,h3,fun _=>⟨_,_,b,by rw[cF a];omega,by rw[mI,sA (by rw[cF a];omega)]⟩⟩⟩
def GrowV.but {S:Nat→Prop}(x:GrowV n h v E)(e:h.next≤j.next)(s:∀i,sid v=some i→j.get i=h.get i):GrowV n j v E:=by
 obtain⟨a,q,c,rfl,b,h3,d⟩:=x;exact⟨a,q,c,rfl,b,kT h3 e,by rw[s q rfl];exact d⟩
inductive Col where
 |chk|mdl|seats|seat (c:Bs)|lst (c:Bs)|row (c:Bs)|keep|kept|pubs|pub (o:Int)|holds (o:Int)|serve (o:Int)
 |subs|sb (o:Int)|flst (o:Int)|frow (o:Int)|past (o:Int)|still (o:Int)|got (o:Int)|msgs (o:Int) (t:Bs)
 deriving DecidableEq
variable {N Z:Col→Nat}
def live (s:St)(n:Col→Nat):Col→Prop
 | .seat c| .lst c=>∃x,aE s.seats c=some x
 | .row c=>(∃x,aE s.seats c=some x)∧n (.row c)≠n (.lst c)
 | .pub o| .holds o| .serve o=>∃x,aE s.pubs o=some x
 | .sb o| .past o| .still o| .got o=>∃x,aE s.subs o=some x
 | .flst o=>∃x,aE s.subs o=some x∧x.done=true
 | .frow o=>(∃x,aE s.subs o=some x∧x.done=true)∧n (.frow o)≠n (.flst o)
 | .msgs o t=>∃x m,aE s.subs o=some x∧aE x.past t=some m
 |_=>True
def LstR (h:H)(l r:Nat)(row:Row):Prop:=row.length≤16∧∃v,ListR h l v row∧∀i,sid v=some i→i=r
def bEw (h:H)(n:Col→Nat)(o:Int)(past:kC (Bs×kC Msg)):Prop:=
 ∃m:Bs→kA,MapR h (n (.past o)) cC (past.map fun x=>(x.1,m x.1))∧∀t s,aE past t=some s→GrowV 4 h (m t) (s.map aG)∧sid (m t)=some (n (.msgs o t))
def aPz (n:Col→Nat)(o:Int)(p:Pub):kC kA:=[str p.client,str p.msg.topic,str p.msg.payload,iU (p.msg.qos:Int),.bool p.msg.retain,iN (p.place:Int),.bool p.open_,aV (n (.holds o)),aV (n (.serve o))]
def vG (n:Col→Nat)(o:Int)(b:Sb):kC kA:=[str b.client,.bool b.done,.bool b.open_,if b.done then aA (n (.flst o))else .pointer none,aV (n (.past o)),aV (n (.still o)),aV (n (.got o)),str b.last,.bool b.some_]
def Ok (h:H)(n:Col→Nat)(s:St)(a:Nat):Col→Prop
 | .chk=>h.get (n .chk)=some (.cells [aA (n .mdl),aV (n .pubs),aV (n .subs),iN (a:Int)] (some 0))
 | .mdl=>h.get (n .mdl)=some (.cells [aV (n .seats),aA (n .keep)] (some 0))
 | .seats=>MapR h (n .seats) cC (s.seats.map fun x=>(x.1,aA (n (.seat x.1))))
 | .seat c=>∀x,aE s.seats c=some x→h.get (n (.seat c))=some (.cells [aA (n (.lst c)),iN x.conn,.bool x.clean] (some 0))
 | .lst c=>∀x,aE s.seats c=some x→LstR h (n (.lst c)) (n (.row c)) x.row
 | .keep=>h.get (n .keep)=some (.cells [aV (n .kept)] (some 0))
 | .kept=>MapR h (n .kept) cC (s.kept.map fun x=>(x.1,.agg ⟨aG x.2⟩))
 | .pubs=>MapR h (n .pubs) rF (s.pubs.map fun x=>(x.1,aA (n (.pub x.1))))
 | .pub o=>∀p,aE s.pubs o=some p→h.get (n (.pub o))=some (.cells (aPz n o p) (some 0))
 | .holds o=>∀p,aE s.pubs o=some p→MapR h (n (.holds o)) cC (gJ p.holds)
 | .serve o=>∀p,aE s.pubs o=some p→MapR h (n (.serve o)) cC (gJ p.serve)
 | .subs=>MapR h (n .subs) rF (s.subs.map fun x=>(x.1,aA (n (.sb x.1))))
 | .sb o=>∀b,aE s.subs o=some b→h.get (n (.sb o))=some (.cells (vG n o b) (some 0))
 | .flst o=>∀b,aE s.subs o=some b→b.done=true→LstR h (n (.flst o)) (n (.frow o)) b.filters
 | .past o=>∀b,aE s.subs o=some b→bEw h n o b.past
 | .still o=>∀b,aE s.subs o=some b→MapR h (n (.still o)) cC (gJ b.still)
 | .got o=>∀b,aE s.subs o=some b→MapR h (n (.got o)) cC (gJ b.got)
 |_=>True
def eR (s a:St):Col→Prop
 | .seats=>a.seats.map (·.1)=s.seats.map (·.1)
 | .seat c=>(aE a.seats c).map (fun x=>(x.conn,x.clean))=(aE s.seats c).map fun x=>(x.conn,x.clean)
 | .lst c=>(aE a.seats c).map (·.row)=(aE s.seats c).map (·.row)
 | .kept=>a.kept=s.kept
 | .pubs=>a.pubs.map (·.1)=s.pubs.map (·.1)
 | .pub o=>(aE a.pubs o).map (fun p=>(p.client,p.msg,p.place,p.open_))=(aE s.pubs o).map fun p=>(p.client,p.msg,p.place,p.open_)
 | .holds o=>(aE a.pubs o).map (·.holds)=(aE s.pubs o).map (·.holds)
 | .serve o=>(aE a.pubs o).map (·.serve)=(aE s.pubs o).map (·.serve)
 | .subs=>a.subs.map (·.1)=s.subs.map (·.1)
 | .sb o=>(aE a.subs o).map (fun b=>(b.client,b.done,b.open_,b.last,b.some_))=(aE s.subs o).map fun b=>(b.client,b.done,b.open_,b.last,b.some_)
 | .flst o=>(aE a.subs o).map (fun b=>(b.done,b.filters))=(aE s.subs o).map fun b=>(b.done,b.filters)
 | .past o=>(aE a.subs o).map (·.past)=(aE s.subs o).map (·.past)
 | .still o=>(aE a.subs o).map (·.still)=(aE s.subs o).map (·.still)
 | .got o=>(aE a.subs o).map (·.got)=(aE s.subs o).map (·.got)
 |_=>True
structure Rep (B h:H)(nm:Col→Nat)(s:St)(a:Nat):Prop where
 ok:∀C,Ok h nm s a C
 inj:∀C C',live s nm C→live s nm C'→nm C=nm C'→C=C'
 lt:∀C,live s nm C→B.next≤nm C∧nm C<h.next
def jD {Y X:Type}{f:Y→X}{x y:kB Y}(h:x.map f=y.map f){a:Y}(c:x=some a):∃b,y=some b∧f a=f b:=by
 subst c
 cases y with
 |none=>cases h
 |some b=>exact⟨b,rfl,pB h⟩
def oW (m n:Col→Nat)(s:St):Col→Prop
 | .chk=>n .chk=m .chk∧n .mdl=m .mdl∧n .pubs=m .pubs∧n .subs=m .subs
 | .mdl=>n .mdl=m .mdl∧n .seats=m .seats∧n .keep=m .keep
 | .seats=>n .seats=m .seats∧∀c,(∃x,aE s.seats c=some x)→n (.seat c)=m (.seat c)
 | .seat c=>n (.seat c)=m (.seat c)∧n (.lst c)=m (.lst c)
 | .lst c=>n (.lst c)=m (.lst c)∧n (.row c)=m (.row c)
 | .keep=>n .keep=m .keep∧n .kept=m .kept
 | .kept=>n .kept=m .kept
 | .pubs=>n .pubs=m .pubs∧∀o,(∃x,aE s.pubs o=some x)→n (.pub o)=m (.pub o)
 | .pub o=>n (.pub o)=m (.pub o)∧n (.holds o)=m (.holds o)∧n (.serve o)=m (.serve o)
 | .holds o=>n (.holds o)=m (.holds o)
 | .serve o=>n (.serve o)=m (.serve o)
 | .subs=>n .subs=m .subs∧∀o,(∃x,aE s.subs o=some x)→n (.sb o)=m (.sb o)
 | .sb o=>n (.sb o)=m (.sb o)∧n (.flst o)=m (.flst o)∧n (.past o)=m (.past o)∧n (.still o)=m (.still o)∧n (.got o)=m (.got o)
 | .flst o=>n (.flst o)=m (.flst o)∧n (.frow o)=m (.frow o)
 | .past o=>n (.past o)=m (.past o)∧∀t,n (.msgs o t)=m (.msgs o t)
 | .still o=>n (.still o)=m (.still o)
 | .got o=>n (.got o)=m (.got o)
 |_=>True
def rI {Y X:Type}[DecidableEq Y]:∀{l:kC (Y×X)} {x:Y×X},x∈l→∃y,aE l x.1=some y
 |[],_,h=>by simp at h
 |(k,a)::r,x,h=>by
  simp only[aE];split
  ·exact⟨_,rfl⟩
  ·rename_i n;rcases sI.1 h with rfl|h
   ·exact dC rfl n
   ·exact rI h
def LstR.but {l r:Nat}{row:Row}(x:LstR h l r row)(d:h.next≤j.next)(o:j.get l=h.get l)(s:r≠l→j.get r=h.get r):LstR j l r row:=by
 obtain⟨k,v,b,h3⟩:=x;refine⟨k,v,⟨by rw[o];exact b.get,kT b.lt d,?_,b.ne⟩,h3⟩;rcases b.row with m|⟨q,c,a,rfl,g,f,i⟩
 ·exact .inl m
 ·have p:=h3 q rfl;subst p;have n:q≠l:=fun e=>b.ne (by rw[e];rfl);exact .inr ⟨q,c,a,rfl,g,kT f d,by rw[s n];exact i⟩
def Ok.keep {h j:H}{N m:Col→Nat}{p s:St}{n:Nat}{C:Col}(k:Ok h N p n C)(z:h.next≤j.next)(g:oW N m s C)(l:eR p s C)
 (q:live p N C→j.get (N C)=h.get (N C)) (O:∀c,C=.lst c→live p N (.row c)→j.get (N (.row c))=h.get (N (.row c))) (L:∀o,C=.flst o→live p N (.frow o)→j.get (N (.frow o))=h.get (N (.frow o)))
 (M:∀o t,C=.past o→live p N (.msgs o t)→j.get (N (.msgs o t))=h.get (N (.msgs o t))):Ok j m s n C:=by
 cases C with
 |chk=>obtain⟨d,f,r,w⟩:=g;simp only[Ok]at k⊢;rw[d,f,r,w,q trivial];exact k
 |mdl=>obtain⟨d,f,r⟩:=g;simp only[Ok]at k⊢;rw[d,f,r,q trivial];exact k
 |keep=>obtain⟨d,f⟩:=g;simp only[Ok]at k⊢;rw[d,f,q trivial];exact k
 |kept=>simp only[Ok,oW,eR]at k g l⊢;rw[g,l];exact k.congr (q trivial)
 |seats=>
  obtain⟨d,f⟩:=g;simp only[Ok,eR]at k l⊢;have:(s.seats.map fun x=>(x.1,aA (m (.seat x.1))))=p.seats.map fun x=>(x.1,aA (N (.seat x.1))):=by
   rw[show(s.seats.map fun x=>(x.1,aA (m (.seat x.1))))=(s.seats.map (·.1)).map fun c=>(c,aA (N (.seat c))) by
    rw[List.map_map];exact List.map_congr_left fun x b=>by simp only[Function.comp];rw[f _ (rI b)],l,List.map_map];rfl
  rw[this,d];exact k.congr (q trivial)
 |pubs=>
  obtain⟨d,f⟩:=g;simp only[Ok,eR]at k l⊢;have:(s.pubs.map fun x=>(x.1,aA (m (.pub x.1))))=p.pubs.map fun x=>(x.1,aA (N (.pub x.1))):=by
   rw[show(s.pubs.map fun x=>(x.1,aA (m (.pub x.1))))=(s.pubs.map (·.1)).map fun c=>(c,aA (N (.pub c))) by
    rw[List.map_map];exact List.map_congr_left fun x b=>by simp only[Function.comp];rw[f _ (rI b)],l,List.map_map];rfl
  rw[this,d];exact k.congr (q trivial)
 |subs=>
  obtain⟨d,f⟩:=g;simp only[Ok,eR]at k l⊢;have:(s.subs.map fun x=>(x.1,aA (m (.sb x.1))))=p.subs.map fun x=>(x.1,aA (N (.sb x.1))):=by
   rw[show(s.subs.map fun x=>(x.1,aA (m (.sb x.1))))=(s.subs.map (·.1)).map fun c=>(c,aA (N (.sb c))) by
    rw[List.map_map];exact List.map_congr_left fun x b=>by simp only[Function.comp];rw[f _ (rI b)],l,List.map_map];rfl
  rw[this,d];exact k.congr (q trivial)
 |seat c=>
  obtain⟨d,f⟩:=g;intro x b;obtain⟨y,a,e⟩:=jD l b;simp only[kW]at e;rw[d,f,q ⟨y,a⟩,e.1,e.2];exact k y a
 |lst c=>
  obtain⟨d,f⟩:=g;intro x b;obtain⟨y,a,e⟩:=jD l b;rw[d,f,e];exact(k y a).but z (q ⟨y,a⟩) fun u=>O c rfl ⟨⟨y,a⟩,u⟩
 |pub o=>
  obtain⟨d,f,r⟩:=g;intro x b;obtain⟨y,a,e⟩:=jD l b;simp only[kW]at e;rw[d,q ⟨y,a⟩,k y a];simp only[aPz,e.1,e.2.1,e.2.2.1,e.2.2.2,f,r]
 |holds o=>
  intro x b;obtain⟨y,a,e⟩:=jD l b;rw[show m (.holds o)=_ from g,e];exact(k y a).congr (q ⟨y,a⟩)
 |serve o=>
  intro x b;obtain⟨y,a,e⟩:=jD l b;rw[show m (.serve o)=_ from g,e];exact(k y a).congr (q ⟨y,a⟩)
 |sb o=>
  obtain⟨d,f,r,w,I⟩:=g;intro x b;obtain⟨y,a,e⟩:=jD l b;simp only[kW]at e;rw[d,q ⟨y,a⟩,k y a];simp only[vG,e.1,e.2.1,e.2.2.1,e.2.2.2.1,e.2.2.2.2,f,r,w,I]
 |flst o=>
  obtain⟨d,f⟩:=g;intro x b v;obtain⟨y,a,e⟩:=jD l b;simp only[kW]at e;rw[d,f,e.2];have v:y.done=true:=e.1▸v;exact(k y a v).but z (q ⟨y,a,v⟩) fun u=>L o rfl ⟨⟨y,a,v⟩,u⟩
 |past o=>
  obtain⟨d,f⟩:=g;intro x b;obtain⟨y,a,e⟩:=jD l b;rw[e];obtain⟨P,J,K⟩:=k y a;refine⟨P,by rw[d];exact J.congr (q ⟨y,a⟩),fun t G E=>?_⟩;obtain⟨h3,B⟩:=K t G E;refine⟨h3.but (S:=fun _=>False) z fun i D=>?_,by rw[f];exact B⟩;rw[B]at D;have:=pB D;subst this;exact M o t rfl ⟨y,G,a,E⟩
 |still o=>
  intro x b;obtain⟨y,a,e⟩:=jD l b;rw[show m (.still o)=_ from g,e];exact(k y a).congr (q ⟨y,a⟩)
 |got o=>
  intro x b;obtain⟨y,a,e⟩:=jD l b;rw[show m (.got o)=_ from g,e];exact(k y a).congr (q ⟨y,a⟩)
 |row c=>trivial
 |frow o=>trivial
 |msgs o t=>trivial
def Rep.upd {m:Col→Nat}(r:Rep h j N p n)(T:Col→Prop)(E:j.next≤g.next)(I:h.next≤j.next)(y:∀C,live s m C→¬T C→live p N C∧m C=N C)(w:∀C,live s m C→T C→(live p N C∧m C=N C)∨(j.next≤m C∧m C<g.next))(u:∀C C',live s m C→live s m C'→T C→T C'→j.next≤m C→m C=m C'→C=C')(get:∀C,live p N C→¬T C→g.get (N C)=j.get (N C))(same:∀C,¬T C→eR p s C∧oW N m s C)(q:∀c o t,(T (.row c)→T (.lst c))∧(T (.frow o)→T (.flst o))∧(T (.msgs o t)→T (.past o))∧(i≠n→T .chk))(G:∀C,T C→Ok g m s i C):Rep h g m s i:=by
 have z:∀C,live s m C→h.next≤m C∧m C<g.next:=fun C l=>by
  by_cases d:T C
  ·rcases w C l d with⟨a,k⟩|⟨a,k⟩
   ·rw[k];have:=r.lt C a;omega
   ·omega
  ·obtain⟨a,k⟩:=y C l d;rw[k];have:=r.lt C a;omega
 have b:∀C,live s m C→(live p N C∧m C=N C)∨(T C∧j.next≤m C):=fun C l=>by
  by_cases d:T C
  ·rcases w C l d with a|⟨a,_⟩
   ·exact .inl a
   ·exact .inr ⟨d,a⟩
  ·exact .inl (y C l d)
 refine⟨fun C=>?_,fun C C' l v B=>?_,z⟩
 ·by_cases d:T C
  ·exact G C d
  ·obtain⟨a,k⟩:=same C d;have D:Ok j N p n C→Ok j N p i C:=fun x=>by
    by_cases e:i=n
    ·rw[e];exact x
    ·have:=(q [] 0 []).2.2.2 e;cases C<;>first|exact x|exact dC this d
   refine(D (r.ok C)).keep E k a (fun l=>get C l d) (fun c e l=>?_) (fun o e l=>?_) (fun o t e l=>?_)
   ·subst e;exact get _ l fun f=>d ((q c 0 []).1 f)
   ·subst e;exact get _ l fun f=>d ((q [] o []).2.1 f)
   ·subst e;exact get _ l fun f=>d ((q [] o t).2.2.1 f)
 ·rcases b C l with⟨a,k⟩|⟨a,k⟩<;>rcases b C' v with⟨g1,g2⟩|⟨g1,g2⟩
  ·exact r.inj C C' a g1 (by rw[←k,←g2];exact B)
  ·have:=(r.lt C a).2;omega
  ·have:=(r.lt C' g1).2;omega
  ·exact u C C' l v a g1 k B
def aEk {id:Nat}(m:MapR h id cC l)(z:kA)(c:Bool)(x:Bs):A.zJ true z c (str x) (aV id) h=some (match aE l x with|some v=>A.yQ c v true|none=>A.yQ c z false):=
 (show A.zJ true z c (str x) (aV id) h=A.yA z c (cC x) (.map (some id)) h from rfl).trans (m.look keyS z c x)
def bEq {id:Nat}{l:kC (Int×kA)}(m:MapR h id rF l)(z:kA)(c:Bool)(x:Int):A.zJ false z c (iN x) (aV id) h=some (match aE l x with|some v=>A.yQ c v true|none=>A.yQ c z false):=
 (show A.zJ false z c (iN x) (aV id) h=A.yA z c (rF x) (.map (some id)) h from rfl).trans (m.look cJp z c x)
def At (id:Nat)(h a:H):Prop:=a.next=h.next∧∀j,j≠id→a.get j=h.get j
def At.put (h:H)(id:Nat)(b:Blk):At id h (h.put id b):=⟨rfl,fun j a=>by rw[H.get_put,kL a]⟩
def At.ext {a:H}{id:Nat}(x:At id h j)(e:Ext a h)(s:a.next≤id):Ext a j:=
 ⟨by rw[x.1];exact e.next,fun c b=>by rw[x.2 c (by omega)];exact e.get c b⟩
def aPy {id:Nat}(m:MapR h id cC l)(x:Bs)(v:kA):∃a,A.zM true (str x) v (aV id) h=some a∧MapR a id cC (aM l x v)∧At id h a:=by
 obtain⟨e,c,b,d⟩:=m.put keyS x v;exact⟨_,(show A.zM true (str x) v (aV id) h=A.zU (cC x) v (.map (some id)) h from rfl).trans b,d,At.put h id _⟩
def cEi {id:Nat}{l:kC (Int×kA)}(m:MapR h id rF l)(x:Int)(v:kA):∃a,A.zM false (iN x) v (aV id) h=some a∧MapR a id rF (aM l x v)∧At id h a:=by
 obtain⟨e,c,b,d⟩:=m.put cJp x v;exact⟨_,(show A.zM false (iN x) v (aV id) h=A.zU (rF x) v (.map (some id)) h from rfl).trans b,d,At.put h id _⟩
def bKk {id:Nat}(m:MapR h id cC l)(x:Bs):∃a,A.zY true (str x) (aV id) h=some a∧MapR a id cC (jA l x)∧At id h a:=by
 obtain⟨a,b,c,h3,d⟩:=m.del keyS x;exact⟨a,(show A.zY true (str x) (aV id) h=A.yJ (cC x) (.map (some id)) h from rfl).trans b,d,c,h3⟩
section
variable {Z α:Type}[DecidableEq Z]
def lE {Y:Type}(f:Z→α→Y)(k:Z):∀l:kC (Z×α),aE (l.map fun x=>(x.1,f x.1 x.2)) k=(aE l k).map (f k)
 |[]=>rfl
 |(j,a)::r=>by
  simp only[mH,aE];split
  ·rename_i e;subst e;rfl
  ·exact lE f k r
def aC (k j:Z)(a:α):∀l:kC (Z×α),aE (aM l k a) j=if k=j then some a else aE l j
 |[]=>by simp only[aM,aE]
 |(i,b)::r=>by
  simp only[aM];split
  ·rename_i e;subst e;simp only[aE];split<;>rfl
  ·rename_i e;simp only[aE,aC k j a r];split
   ·rename_i c;subst c;rw[kL (mV e)]
   ·rfl
def eS {l:kC (Z×α)}{k:Z}{a b:α}(h:aE l k=some b):(aM l k a).map (·.1)=l.map (·.1):=by
 rw[wO,kL];intro e;rw[rZ,e]at h;cases h
def wN {Y:Type}(f:Z→α→Y)(k:Z)(a:α):∀l:kC (Z×α),aM (l.map fun x=>(x.1,f x.1 x.2)) k (f k a)=(aM l k a).map fun x=>(x.1,f x.1 x.2)
 |[]=>rfl
 |(j,b)::r=>by
  simp only[mH,aM];split
  ·rename_i e;subst e;rfl
  ·rw[mH,wN f k a r]
def wS {Y:Type}(f:Z→α→Y)(k:Z):∀l:kC (Z×α),jA (l.map fun x=>(x.1,f x.1 x.2)) k=(jA l k).map fun x=>(x.1,f x.1 x.2)
 |[]=>rfl
 |(j,b)::r=>by
  simp only[mH,jA];split
  ·rfl
  ·rw[mH,wS f k r]
def cZ {k j:Z}:∀{l:kC (Z×α)},(l.map (·.1)).Nodup→aE (jA l k) j=if k=j then none else aE l j
 |[],_=>by simp[jA,aE]
 |(i,b)::r,h=>by
  simp only[mH,tW]at h;simp only[jA];split
  ·rename_i e;subst e;simp only[aE];split
   ·rename_i a;subst a
    cases g:aE r i with
    |none=>rfl
    |some y=>
     exfalso;apply h.1;rw[rZ]at g;obtain⟨p,c,_⟩:=sZ.1 g;exact Classical.byContradiction fun n=>by rw[(wQ r i).2 n]at c;cases c
   ·rfl
  ·rename_i e;simp only[aE,cZ h.2];split
   ·rename_i a;subst a;rw[kL (mV e)]
   ·rfl
end
def rY (c:Bs):∀l:kC Bs,aE (gJ l) c=if c∈l then some fU else none
 |[]=>rfl
 |x::r=>by
  simp only[gJ,mH,aE];split
  ·rename_i e;subst e;simp
  ·rename_i e;have i:=rY c r;simp only[gJ]at i;rw[i];simp only[sI,mV e,false_or]
def aOv (x:Bs)(r:kC Bs)(c:Bs):lH (x::r) c=if x=c then x::r else x::lH r c:=by
 unfold lH;by_cases e:x=c
 ·subst e;simp
 ·simp only[sI,mV e,false_or,e,mD];split<;>simp
def nA (c:Bs):∀l:kC Bs,aM (gJ l) c fU=gJ (lH l c)
 |[]=>rfl
 |x::r=>by
  rw[aOv];simp only[gJ,mH,aM];split
  ·rename_i e;rfl
  ·have i:=nA c r;simp only[gJ]at i;rw[i];rfl
def wR (c:Bs):∀l:kC Bs,jA (gJ l) c=gJ (l.erase c)
 |[]=>rfl
 |x::r=>by
  simp only[gJ,mH,jA,List.erase_cons];by_cases e:x=c
  ·subst e;simp
  ·have i:=wR c r;simp only[gJ]at i;simp only[e,mD,beq_iff_eq,i,mH]
def aCt (b:(prog.underlying t).map (fun d=>match d with| .pointer _=>true|_=>false)=some true)(l:Nat):A.z prog .eql t (aA l) (.pointer none)=some (.bool false):=by
 obtain⟨d,a,h⟩:=sZ.1 b;cases d<;>simp at h
 exact xN a _
def bKi (b:(prog.underlying t).map (fun d=>match d with| .pointer _=>true|_=>false)=some true)(l:Nat):A.z prog .neq t (aA l) (.pointer none)=some (.bool true):=by
 obtain⟨d,a,h⟩:=sZ.1 b;cases d<;>simp at h
 simp[A.z,A.yO,aJ,A.yI,a]
def jJ (o:kB Nat):kA:=match o with|some p=>aA p|none=>.pointer none
section
variable {D:CF}{W:H}{fil nam:Bs→Bool}{tak:Bs→Bs→Bool}(Y:K2 D W fil nam tak){B:H}{X:Col→Nat}
include Y
def ld {p:Nat}{o:kB Nat}(g:h.get p=some (.cells cs o))(i:Nat)(b:cs[i]?=some v):A.load false 1 (.pointer (some ⟨p,i,none⟩)) h=some v:=by
 have _:=Y;rw[qK,g];exact b
def T38 (r:Rep B h X s a)(c:Bs):CI D 63 [aA (X .mdl),str c] h=some (match aE s.seats c with|some _=>aA (X (.seat c))|none=>.pointer none,h):=by
 have n:=aCt (t:=42) (by kernel_rfl) (X .mdl);have d:=ld Y (r.ok .mdl) 0 rfl;have l:=aEk (r.ok .seats) TaI.Z125 false c;rw[lE (fun c (_:aCd)=>aA (X (.seat c)))]at l;refine cCg 0 _ _ h (Y.no 63 _ _ (by decide)) ?_
 cases b:aE s.seats c with
 |none=>
  rw[b]at l;simp only[F63,bJq,n,qS,sR,d,l];rfl
 |some x=>
  rw[b]at l;simp only[F63,bJq,n,qS,sR,d,l];rfl
def T27 (k:HasT W B)(b:3≤B.next)(i:Ext B h)(r:Rep B h X s a)(c n:Bs):
 ∃d,CI D 45 [aA (X .mdl),str c,str n] h=some (.tuple ⟨[iU ((cB tak s c n).1:Int),.bool (cB tak s c n).2]⟩,d)∧Ext h d:=by
 have e:=T38 Y r c;have m:=k.ext Y.tab b i;have l:=kR b i.next;unfold cB
 cases f:aE s.seats c with
 |none=>
  rw[f]at e;have n0:A.z prog .neq 125 (.pointer none) (.pointer none)=some (.bool false):=by kernel_rfl
  refine⟨h,bEz 0 _ _ _ h (Y.no 45 _ _ (by decide)) ?_,Ext.refl h⟩;simp only[F45,bJx,e,qS,n0];rfl
 |some x=>
  rw[f]at e;have n0:=bKi (t:=125) (by kernel_rfl) (X (.seat c));have o:=ld Y (r.ok (.seat c) x f) 0 rfl;obtain⟨g,v,p,_⟩:=r.ok (.lst c) x f;obtain⟨d,j,y⟩:=T32 Y m l g p n;have q:A.u 0 (.tuple ⟨[iU ((cN tak x.row n).1:Int),.bool (cN tak x.row n).2]⟩)=some (iU ((cN tak x.row n).1:Int)):=rfl;have w:A.u 1 (.tuple ⟨[iU ((cN tak x.row n).1:Int),.bool (cN tak x.row n).2]⟩)=some (.bool (cN tak x.row n).2):=rfl;refine⟨d,bEz 0 _ _ _ h (Y.no 45 _ _ (by decide)) ?_,y⟩;simp only[F45,bJx,e,qS,n0,sR,o,j,q,w]
def T31 (m:Msg)(q:Nat)(b:Bool):∃p,CI D 49 [.agg ⟨aG m⟩,iU (q:Int),.bool b] h=some (.agg ⟨aG (cK m q b)⟩,p)∧Ext h p:=by
 obtain⟨c,d⟩:=eX (h.push (.cells (aG m) (some 0)));obtain⟨k,e⟩:=eX (c.push (.cells TaI.Z30L (some 0)));have J:c.next=h.next+1:=by rw[d];rfl
 have t:A.box 4 (.agg ⟨aG m⟩) h=some (aA h.next,c):=by rw[d];rfl
 have u:A.box 4 TaI.Z30 c=some (aA c.next,k):=by rw[e];rfl
 have o:k.get h.next=some (.cells (aG m) (some 0)):=by rw[e,H.get_push,kL (by omega),d,H.get_push,kM rfl]
 have E:A.load false 1 (.pointer (some ⟨h.next,2,none⟩)) k=some (iU (m.qos:Int)):=ld Y o 2 rfl;have r:=bLe (m.qos:Int) (q:Int);rw[aZr]at r;obtain⟨h3,f⟩:=eX (k.put h.next (.cells [str m.topic,str m.payload,iU ((min m.qos q:Nat):Int),.bool m.retain] (some 0)));have v:A.store 1 (.pointer (some ⟨h.next,2,none⟩)) (iU ((min m.qos q:Nat):Int)) k=some h3:=by rw[qU,o,f];rfl
 have y:h3.get h.next=some (.cells [str m.topic,str m.payload,iU ((min m.qos q:Nat):Int),.bool m.retain] (some 0)):=by rw[f,H.get_put,kM rfl]
 obtain⟨j,g⟩:=eX (h3.put h.next (.cells (aG (cK m q b)) (some 0)));have w:A.store 1 (.pointer (some ⟨h.next,3,none⟩)) (.bool b) h3=some j:=by rw[qU,y,g];rfl
 have z:j.get h.next=some (.cells (aG (cK m q b)) (some 0)):=by rw[g,H.get_put,kM rfl]
 have G:A.load true 4 (.pointer (some ⟨h.next,0,none⟩)) j=some (.agg ⟨aG (cK m q b)⟩):=by rw[aI,z];rfl
 have n:j.get c.next=some (.cells TaI.Z30L (some 0)):=by rw[g,H.get_put,kL (by omega),f,H.get_put,kL (by omega),e,H.get_push,kM rfl]
 obtain⟨l,i⟩:=eX (j.put c.next (.cells (aG (cK m q b)) (some 0)));have x:A.store 4 (aA c.next) (.agg ⟨aG (cK m q b)⟩) j=some l:=by rw[qU,n,i];rfl
 have C:l.get c.next=some (.cells (aG (cK m q b)) (some 0)):=by rw[i,H.get_put,kM rfl]
 have I:A.load true 4 (aA c.next) l=some (.agg ⟨aG (cK m q b)⟩):=by rw[aI,C];rfl
 refine⟨l,cCu 0 _ _ _ h (Y.no 49 _ _ (by decide)) ?_,?_⟩
 ·simp only[F49,bTs,t,qS,u,sR,E,r,v,w,G,x,I];rfl
 ·rw[i,g,f];refine Ext.put (Ext.put (Ext.put ?_ _ _ (kQ _)) _ _ (kQ _)) _ _ (by omega);rw[e,d];exact(Ext.push h _).pushed _
end
def bornIn_iff {l:kC Nat}{e:Ent}:A.zW l e=true↔e.born∈l:=by
 unfold A.zW;rw[rP];exact⟨fun⟨x,a,h⟩=>by rw[beq_iff.1 h];exact a,fun h=>⟨_,h,beq_iff.2 rfl⟩⟩
def aJh:∀{es:kC Ent} {e:Ent},e∈es→(es.map (·.born)).Nodup→A.findB e.born es=some e
 |[],_,h,_=>by simp at h
 |x::r,e,h,hn=>by
  simp only[mH,tW]at hn;simp only[A.findB];rcases sI.1 h with rfl|h
  ·rw[beq_iff.2 rfl];rfl
  ·have n:¬x.born=e.born:=fun a=>hn.1 (by rw[a];exact mN h);rw[show Nat.beq x.born e.born=false by cases b:Nat.beq x.born e.born with|false=>rfl|true=>exact dC (beq_iff.1 b) n];exact aJh h hn.2
def aAt (a:Nat):∀l:kC Nat,A.lastL (l++[a])=some a
 |[]=>rfl
 |[x]=>rfl
 |x::y::r=>by simpa[A.lastL]using aAt a (y::r)
section
variable {Z:Type}[DecidableEq Z]
def ItK (h:H)(t m:Nat)(k:Z→kA)(l:kC (Z×kA))(d:kC Z):Prop:=
 ∃a c s,h.get m=some (.map a c)∧h.get t=some (.miter (some m) c s c)∧Ents k a l∧(a.map (·.born)).Nodup∧(∀b∈a.map (·.born),b<c)∧(l.map (·.1)).Nodup∧
  ∀(i:Nat) (e:Ent) (x:Z×kA),a[i]?=some e→l[i]?=some x→(e.born∈s↔x.1∈d)
variable {ek:Z→kA}{Y:H}{it:Nat}{l:kC (Z×kA)}{sk:kC Z}
omit [DecidableEq Z] in
def ItK.congr (x:ItK h it m ek l sk)(e:Y.get it=h.get it)(a:Y.get m=h.get m):ItK Y it m ek l sk:=by
 obtain⟨b,c,s,d,f,h3⟩:=x;exact⟨b,c,s,by rw[a];exact d,by rw[e];exact f,h3⟩
omit [DecidableEq Z] in
def nK (x:MapR h m ek l)(g:m<h.next):∃b,A.zX (aV m) h=some (aA h.next,h.push b)∧ItK (h.push b) h.next m ek l []:=by
 obtain⟨s,c,a,d,h3,f⟩:=x.at_;refine⟨.miter (some m) c [] c,?_,s,c,[],?_,?_,d,h3,f,x.nodup,fun i e y _ _=>?_⟩
 ·show A.yF (.map (some m)) h=_;simp only[A.yF,a]
 ·rw[H.get_push,kL (by omega)];exact a
 ·rw[H.get_push,kM rfl]
 ·exact⟨fun q=>(List.not_mem_nil q).elim,fun q=>(List.not_mem_nil q).elim⟩
def aBg:∀(b a:kC Z),b.Nodup→(∀k∈b,k∈a)→b.length≤a.length
 |[],_,_,_=>sE _
 |x::r,a,hn,hs=>by
  simp only[tW]at hn;have d:=hs x (by simp);have:=aBg r (a.erase x) hn.2 fun k c=>(List.mem_erase_of_ne (show k≠x from fun e=>hn.1 (by rw[←e];exact c))).2 (hs k (mL _ c));have f:=List.length_erase_of_mem d;have:=List.length_pos_of_mem d;simp only[kY];omega
omit [DecidableEq Z] in
def ItK.step (x:ItK h it m ek l sk)(X:it≠m){f:kA→H→kB Unit}
 (one:∀y∈l,y.1∉sk→∀p,At it h p→ItK p it m ek l (sk++[y.1])→A.zT (aA it) p=some (.tuple ⟨[ek y.1,y.2]⟩)→f (.tuple ⟨[.bool true,ek y.1,y.2]⟩) p=some ())
 (none:(∀y∈l,y.1∈sk)→f (.tuple ⟨[.bool false]⟩) h=some ()):aKi (A.b (aA it) h) f=some ():=by
 obtain⟨d,c,s,P,t,S,v,R,L,hs⟩:=x;have e3:d.length=l.length:=by have:=sX List.length S;simpa using this
 have w:(!s.isEmpty&&!d.isEmpty&&d.all (fun e=>Nat.ble c e.born))=false:=by
  cases d with
  |nil=>simp
  |cons e r=>
   have:Nat.ble c e.born=false:=by
    have:=R e.born (by simp)
    cases k:Nat.ble c e.born with
    |false=>rfl
    |true=>have:=ble_iff.1 k;omega
   rw[dQ,this];simp
 have at_:∀e∈d,A.zW s e=false→∃y∈l,y.1∉sk∧e.key=ek y.1∧e.val=y.2∧∀(i:Nat) (E:Ent) (x:Z×kA),d[i]?=some E→l[i]?=some x→(E.born∈s++[e.born]↔x.1∈sk++[y.1]):=by
  intro e n u;obtain⟨i,o⟩:=mM.1 n;have g:i<l.length:=by have:=(pX.1 o).1;omega
  have B:=kZ g;have M:(e.key,e.val)=(ek l[i].1,l[i].2):=by
   have:=sX (fun z=>z[i]?) S;simp only[pL,o,B,mA,kP]at this;exact this
  have b3:¬e.born∈s:=fun k=>by rw[bornIn_iff.2 k]at u;cases u
  refine⟨l[i],List.getElem_mem g,fun O=>b3 ((hs i e _ o B).2 O),(Prod.mk.inj M).1,(Prod.mk.inj M).2,fun j E x K N=>?_⟩;simp only[mP,mC];rw[hs j E x K N];have:E.born=e.born↔x.1=l[i].1:=by
   have V:=(pX.1 K).1;have J:=(pX.1 o).1;constructor
   ·intro k;have:j=i:=(List.getElem_inj (h₀:=by simpa using V) (h₁:=by simpa using J) v).1 (by
     simp only[List.getElem_map];rw[(pX.1 K).2,(pX.1 o).2];exact k)
    subst this;rw[B]at N;rw[←pB N]
   ·intro k;have W:=(pX.1 N).1;have:j=i:=(List.getElem_inj (h₀:=by simpa using W) (h₁:=by simpa using g) L).1 (by
     simp only[List.getElem_map];rw[(pX.1 N).2];exact k)
    subst this;rw[o]at K;rw[←pB K]
  rw[this]
 refine okU_iff.2 ?_
 cases C:d.filter (fun e=>!A.zW s e)with
 |nil=>
  refine⟨[(.tuple ⟨[.bool false]⟩,h)],?_,fun z D=>?_⟩
  ·have p:A.a (aA it) h=Option.none:=by simp only[A.a,t,P,w,sW,C]
   have h2:A.yK (aA it) h=some (.tuple ⟨[.bool false]⟩,h):=by simp only[A.yK,t,P,w,sW,C]
   simp only[A.b,p,h2,mA]
  ·rw[mC.1 D];refine none fun y B=>?_;obtain⟨i,o⟩:=mM.1 B;have g:i<d.length:=by have:=(pX.1 o).1;omega
   have U:=kZ g;refine(hs i _ _ U o).1 (Classical.byContradiction fun k=>?_);have:d[i]∈d.filter (fun e=>!A.zW s e):=by
    rw[dS];refine⟨List.getElem_mem g,?_⟩
    cases Q:A.zW s d[i]with
    |false=>rfl
    |true=>exact dC (bornIn_iff.1 Q) k
   rw[C]at this;simp at this
 |cons e r=>
  have G:(e::r).all (fun e=>Nat.blt e.born c)=true:=by
   rw[mB];intro z D;rw[←C]at D;exact ble_iff.2 (R z.born (mN (dS.1 D).1))
  refine⟨(e::r).map fun e=>(.tuple ⟨[.bool true,e.key,e.val]⟩,h.put it (.miter (some m) c (s++[e.born]) c)),?_,fun z D=>?_⟩
  ·have p:A.a (aA it) h=some ((e::r).map fun e=>(.tuple ⟨[.bool true,e.key,e.val]⟩,h.put it (.miter (some m) c (s++[e.born]) c))):=by
    simp only[A.a,t,P,w,sW,C,G,sV]
   simp only[A.b,p]
  ·obtain⟨q,I,rfl⟩:=mW.1 D;rw[←C]at I;obtain⟨n,u⟩:=dS.1 I;obtain⟨y,B,d3,O,hv,a3⟩:=at_ q n (by simpa using u);have gm:(h.put it (.miter (some m) c (s++[q.born]) c)).get m=some (.map d c):=by rw[H.get_put,kL (fun e=>X e.symm)];exact P
   have gi:(h.put it (.miter (some m) c (s++[q.born]) c)).get it=some (.miter (some m) c (s++[q.born]) c):=by rw[H.get_put,kM rfl]
   show f (.tuple ⟨[.bool true,q.key,q.val]⟩) _=_;rw[O,hv];refine one y B d3 _ (At.put h it _) ⟨d,c,s++[q.born],gm,gi,S,v,R,L,a3⟩ ?_;simp only[A.zT,gi,gm,aAt,beq_iff.2 rfl,sV,aJh n v,O,hv]
def nM {σ:Type}{W:Nat→σ→H→kB Unit}{F:Nat→σ→H→kA→H→kB Unit}{I:kC Z→σ→H→Prop}(v:it≠m)
 (B:∀n s h,aKi (A.b (aA it) h) (F n s h)=some ()→W (n+1) s h=some ())
 (one:∀n sk s h,I sk s h→ItK h it m ek l sk→∀y∈l,y.1∉sk→∀p,At it h p→ItK p it m ek l (sk++[y.1])→A.zT (aA it) p=some (.tuple ⟨[ek y.1,y.2]⟩)→
  (∀w u,I (sk++[y.1]) w u→ItK u it m ek l (sk++[y.1])→W n w u=some ())→F n s h (.tuple ⟨[.bool true,ek y.1,y.2]⟩) p=some ())
 (r:∀n sk s h,I sk s h→(∀y∈l,y.1∈sk)→(∀k∈sk,k∈l.map (·.1))→sk.Nodup→F n s h (.tuple ⟨[.bool false]⟩) h=some ()):
 ∀(d:Nat) (sk:kC Z) (s:σ) (h:H) (n:Nat),sk.Nodup→(∀k∈sk,k∈l.map (·.1))→l.length=sk.length+d→d<n→ItK h it m ek l sk→I sk s h→W n s h=some ():=by
 intro d
 induction d with
 |zero=>
  intro sk s h n f c J x t i;obtain⟨n,rfl⟩:=pS n (by omega);refine B _ _ _ ?_;have g:∀y∈l,y.1∈sk:=by
   intro y q;refine Classical.byContradiction fun x=>?_;have:=aBg (y.1::sk) (l.map (·.1)) (tW.2 ⟨x,f⟩) fun k j=>by
    rcases sI.1 j with rfl|j
    ·exact mN q
    ·exact c k j
   simp at this;omega
  exact t.step v (fun y q o=>dC (g y q) o) fun _=>r n sk s h i g c f
 |succ d M=>
  intro sk s h n f c J x t i;obtain⟨n,rfl⟩:=pS n (by omega);refine B _ _ _ ?_;refine t.step v (fun y q o p C K D=>?_) fun g=>r n sk s h i g c f;refine one n sk s h i t y q o p C K D fun w u L z=>?_;refine M (sk++[y.1]) w u n ?_ ?_ (by simp;omega) (by omega) z L
  ·rw[List.nodup_append];exact⟨f,by simp,fun a E b G=>by rw[mC.1 G];exact fun e=>o (e▸E)⟩
  ·intro k j;rcases mP.1 j with j|j
   ·exact c k j
   ·rw[mC.1 j];exact mN q
end
def Rep.ext {Y:H}(r:Rep j h N s a)(B:j.next≤h.next)(e:Ext h Y):Rep j Y N s a:=
 r.upd (fun _=>False) e.next B (fun _ h _=>⟨h,rfl⟩) (fun _ _ h=>h.elim) (fun _ _ _ _ h=>h.elim) (fun C b _=>e.get _ (r.lt C b).2)
  (fun C _=>⟨by cases C<;>simp[eR],by cases C<;>simp[oW]⟩) (fun _ _ _=>⟨id,id,id,fun h=>h rfl⟩) fun _ h=>h.elim
def iE (B:H)(p a:Nat)(h:H)(o:Bool×St)(v:kA)(Y:H):Prop:=v=.bool o.1∧(∃n,n .chk=p∧Rep B Y n o.2 a)∧Ext B Y∧h.next≤Y.next
def aIm (l:kC Bs):(gJ l).length=l.length:=by simp[gJ]
def aIl {l:kC Bs}{y:Bs×kA}(h:y∈gJ l):y.2=fU∧y.1∈l:=by
 simp only[gJ,mW]at h;obtain⟨c,a,rfl⟩:=h;exact⟨rfl,a⟩
open TaW
def oT {Y X:Type}[DecidableEq Y]{l:kC (Y×X)}{o j:Y}{p a:X}(h:aE l o=some p):(∃x,aE (aM l o a) j=some x)↔∃x,aE l j=some x:=by
 rw[aC];split
 ·rename_i e;subst e;simp[h]
 ·rfl
def Rep.pub {j h g:H}{N:Col→Nat}{p:St}{n:Nat}(r:Rep j h N p n)(B:j.next≤h.next){I:Int}{k a:Pub}(f:aE p.pubs I=some k)(y:h.next≤g.next)(T:Col→Prop)(i:∀C,T C→C=.pub I∨C=.holds I∨C=.serve I)
 (get:∀C,live p N C→¬T C→g.get (N C)=h.get (N C))
 (K:¬T (.pub I)→a.client=k.client∧a.msg=k.msg∧a.place=k.place∧a.open_=k.open_) (L:¬T (.holds I)→a.holds=k.holds) (M:¬T (.serve I)→a.serve=k.serve)
 (E:T (.pub I)→g.get (N (.pub I))=some (.cells (aPz N I a) (some 0))) (G:T (.holds I)→MapR g (N (.holds I)) cC (gJ a.holds)) (J:T (.serve I)→MapR g (N (.serve I)) cC (gJ a.serve)):
 Rep j g N {p with pubs:=aM p.pubs I a} n:=by
 have l:∀C,live {p with pubs:=aM p.pubs I a} N C↔live p N C:=fun C=>by
  cases C<;>simp only[live]<;>first|exact Iff.rfl|exact oT f
 refine r.upd T y B (fun C h _=>⟨(l C).1 h,rfl⟩) (fun C h _=>.inl ⟨(l C).1 h,rfl⟩) (fun C C' z D _ _ w v=>r.inj C C' ((l C).1 z) ((l C').1 D) v) get (fun C b=>⟨?_,by cases C<;>simp[oW]⟩) (fun c o t=>⟨fun h=>?_,fun h=>?_,fun h=>?_,fun h=>dC rfl h⟩) (fun C b=>?_)
 ·cases C with
  |pubs=>exact eS f
  |pub o=>
   simp only[eR,aC];split
   ·rename_i e;subst e;obtain⟨m,q,s,u⟩:=K b;simp only[f,mA,m,q,s,u]
   ·rfl
  |holds o=>
   simp only[eR,aC];split
   ·rename_i e;subst e;simp only[f,mA,L b]
   ·rfl
  |serve o=>
   simp only[eR,aC];split
   ·rename_i e;subst e;simp only[f,mA,M b]
   ·rfl
  |_=>simp[eR]
 ·rcases i _ h with e|e|e<;>cases e
 ·rcases i _ h with e|e|e<;>cases e
 ·rcases i _ h with e|e|e<;>cases e
 ·rcases i _ b with rfl|rfl|rfl
  ·intro x d;simp only[aC,mE,kP]at d;subst d;exact E b
  ·intro x d;simp only[aC,mE,kP]at d;subst d;exact G b
  ·intro x d;simp only[aC,mE,kP]at d;subst d;exact J b
def Rep.sub (r:Rep j h N p n)(O:j.next≤h.next){b a:Sb}(d:aE p.subs I=some b)(U:h.next≤g.next)(T:Col→Prop)(l:∀C,T C→C=.sb I∨C=.got I)(get:∀C,live p N C→¬T C→g.get (N C)=h.get (N C))(s0:a.done=b.done∧a.filters=b.filters∧a.past=b.past∧a.still=b.still)(Z:¬T (.sb I)→a.client=b.client∧a.open_=b.open_∧a.last=b.last∧a.some_=b.some_)(s2:¬T (.got I)→a.got=b.got)(X:T (.sb I)→g.get (N (.sb I))=some (.cells (vG N I a) (some 0)))(Y:T (.got I)→MapR g (N (.got I)) cC (gJ a.got)):
 Rep j g N {p with subs:=aM p.subs I a} n:=by
 obtain⟨k,L,D,M⟩:=s0;have q:∀(o:Int) (P:Sb→Prop),(P a↔P b)→((∃x,aE (aM p.subs I a) o=some x∧P x)↔∃x,aE p.subs o=some x∧P x):=fun o P Q=>by
  rw[aC];split
  ·rename_i e;subst e;simp only[d,kP,exists_eq_left',Q]
  ·rfl
 have v:∀C,live {p with subs:=aM p.subs I a} N C↔live p N C:=fun C=>by
  cases C with
  |sb|past|still|got=>exact oT d
  |flst o=>exact q o (fun x=>x.done=true) (by rw[k])
  |frow o=>simp only[live];rw[q o (fun x=>x.done=true) (by rw[k])]
  |msgs o t=>
   have:=q o (fun x=>∃s,aE x.past t=some s) (by rw[D]);simp only[live];constructor
   ·rintro⟨x,s,z,B⟩;obtain⟨y,u,m,w⟩:=this.1 ⟨x,z,s,B⟩;exact⟨y,m,u,w⟩
   ·rintro⟨x,s,z,B⟩;obtain⟨y,u,m,w⟩:=this.2 ⟨x,z,s,B⟩;exact⟨y,m,u,w⟩
  |_=>exact Iff.rfl
 refine r.upd T U O (fun C h _=>⟨(v C).1 h,rfl⟩) (fun C h _=>.inl ⟨(v C).1 h,rfl⟩) (fun C C' V W _ _ S R=>r.inj C C' ((v C).1 V) ((v C').1 W) R) get (fun C f=>⟨?_,by cases C<;>simp[oW]⟩) (fun c o t=>⟨fun h=>?_,fun h=>?_,fun h=>?_,fun h=>dC rfl h⟩) (fun C f=>?_)
 ·cases C with
  |subs=>exact eS d
  |sb o=>
   simp only[eR,aC];split
   ·rename_i e;subst e;obtain⟨E,G,J,K⟩:=Z f;simp only[d,mA,E,G,J,K,k]
   ·rfl
  |flst o=>
   simp only[eR,aC];split
   ·rename_i e;subst e;simp only[d,mA,k,L]
   ·rfl
  |past o=>
   simp only[eR,aC];split
   ·rename_i e;subst e;simp only[d,mA,D]
   ·rfl
  |still o=>
   simp only[eR,aC];split
   ·rename_i e;subst e;simp only[d,mA,M]
   ·rfl
  |got o=>
   simp only[eR,aC];split
   ·rename_i e;subst e;simp only[d,mA,s2 f]
   ·rfl
  |_=>simp[eR]
 ·rcases l _ h with e|e<;>cases e
 ·rcases l _ h with e|e<;>cases e
 ·rcases l _ h with e|e<;>cases e
 ·rcases l _ f with rfl|rfl
  ·intro x i;simp only[aC,mE,kP]at i;subst i;exact X f
  ·intro x i;simp only[aC,mE,kP]at i;subst i;exact Y f
def aNc (a b:kA):A.u 0 (.tuple ⟨[.bool true,a,b]⟩)=some (.bool true):=rfl
def aYa:A.u 0 (.tuple ⟨[.bool false]⟩)=some (.bool false):=rfl
def aCc (a b:kA):A.u 0 (.tuple ⟨[a,b]⟩)=some a:=rfl
def aAb (a b:kA):A.u 1 (.tuple ⟨[a,b]⟩)=some b:=rfl
section
variable {D:CF}{X:H}{fil nam:Bs→Bool}{tak:Bs→Bs→Bool}(k:K2 D X fil nam tak){B:H}{dm:Pw.Dm}{rl:Pw.Rl}(Y:RelOK prog 3 TaZ.isR dm rl)
include k Y
omit Y in
def cMk {l:Nat}{holds serve:kC Bs}(g:j.get n=some (.cells d (some 0)))(G:d[8]?=some (aV m))(P:MapR j m cC (gJ serve))(hp:n<j.next)(z:m<j.next)(O:j.next≤i)(Q:i≠l)(o:l<j.next)(R:Pk.K1 Unit)(S:Pk.K0 Unit)(k0:∀q,Ext j q→(holds.all fun c=>decide (c∈serve))=false→R (.bool false) q=some ())(k1:∀q,Ext j q→(holds.all fun c=>decide (c∈serve))=true→S q=some ()){q:H}(hn:holds.length<K)(i0:ItK q i l cC (gJ holds) [])(x0:Ext j q)(N:i<q.next):aXi (CI D) L dm rl R S K (aA n) (aA i) q=some ():=by
 have _:=k;refine nM (W:=fun K (_:Unit) h=>aXi (CI D) L dm rl R S K (aA n) (aA i) h) (I:=fun U _ q=>(∀c∈U,c∈serve)∧Ext j q∧i<q.next) Q (fun K s h hh=>by simp only[aXi,bPk];exact hh) ?_ ?_ holds.length [] () q K List.nodup_nil (by simp) (by rw[aIm];simp) hn i0 ⟨by simp,x0,N⟩
 ·intro K U _ q t g3 y hy f3 h3 V i3 u next
  obtain⟨hv,w⟩:=aIl hy;have J:Ext j h3:=V.ext t.2.1 O;have n3:i<h3.next:=by rw[V.1];exact t.2.2
  rw[hv]at u;have u:A.zT (aA i) h3=some (.tuple ⟨[str y.1,fU]⟩):=u;have G:=ld k (by rw[J.get _ hp];exact g) 8 G;have p:=aEk (P.congr (J.get _ z)) TaW.Z103 true y.1;rw[rY]at p;obtain⟨C,b⟩:=eX (h3.push (.cells [] (some 0)));have b0:A.box 0 TaW.Z103 h3=some (aA h3.next,C):=by rw[b];rfl
  have g4:C.get h3.next=some (.cells [] (some 0)):=by rw[b,H.get_push,kM rfl]
  obtain⟨E,v⟩:=eX (C.put h3.next (.cells [] (some 0)));have s0:A.store 0 (aA h3.next) fU C=some E:=by rw[qU,g4,v];rfl
  have x:Ext h3 E:=by rw[v,b];exact Ext.put (Ext.push h3 _) _ _ (kQ _)
  have x5:=J.trans x;by_cases r:y.1∈serve
  ·have p:A.zJ true TaW.Z103 true (str y.1) (aV m) h3=some (.tuple ⟨[fU,.bool true]⟩):=by rw[p,kM r];rfl
   simp only[aNc,aAb,aCc,qS,u,G,p,b0,s0,sR];refine next () E ⟨fun c o=>?_,x5,kT n3 x.next⟩ (i3.congr (x.get _ n3) (x.get _ (kT o J.next)))
   rcases mP.1 o with o|o
   ·exact t.1 c o
   ·rw[mC.1 o];exact r
  ·have p:A.zJ true TaW.Z103 true (str y.1) (aV m) h3=some (.tuple ⟨[fU,.bool false]⟩):=by rw[p,kL r];rfl
   simp only[aNc,aAb,aCc,qS,u,G,p,b0,s0,sR];refine k0 E x5 ?_;rw[Bool.eq_false_iff];intro e;exact r (tE (mB.1 e y.1 w))
 ·intro K U _ q t M b3 d3;simp only[aYa,qS];refine k1 q t.2.1 ?_;rw[mB];intro c r;exact kN (t.1 c (M (c,fU) (by simp only[gJ];exact mN (f:=fun c=>(c,fU)) r)))
omit k Y in
def KeepN (h b:H):Prop:=∀j c,j<h.next→c.length=35→h.get j=some (.cells c (some 0))→b.get j=some (.cells c (some 0))
omit k Y in
def KeepN.refl (h:H):KeepN h h:=fun _ _ _ _ e=>e
def W23 (r:Rep B h Z s a)(m:Ext B h)(o:Int):∃L,fK prog (CI D) TaZ.isR dm rl L 3 30 [aA (Z .chk),jJ ((aE s.pubs o).map fun _=>Z (.pub o))] h (fun v Q=>iE B (Z .chk) a h (eA s o) v Q∧KeepN h Q):=by
 cases g:aE s.pubs o with
 |none=>
  have n0:A.z prog .eql 65 (.pointer none) (.pointer none)=some (.bool true):=by kernel_rfl
  refine⟨0,bUc Y _ _ h ?_⟩;simp only[F30,aXw,bHw,dV,jJ,n0,qS];refine okU_iff.2 ⟨⟨?_,⟨Z,rfl,?_⟩,m,kQ _⟩,KeepN.refl h⟩
  ·simp only[eA,g]
  ·simp only[eA,g];exact r
 |some p=>
  have n0:=aCt (t:=65) (by kernel_rfl) (Z (.pub o));have J:=r.ok (.pub o) p g;have G:=ld k J 6 rfl
  cases E:p.open_ with
  |false=>
   rw[E]at G;have y:eA s o=(true,s):=by simp only[eA,g,E];rfl
   refine⟨0,bUc Y _ _ h ?_⟩;simp only[F30,aXw,bHw,mA,jJ,n0,qS,sR,G];exact okU_iff.2 ⟨⟨by rw[y],⟨Z,rfl,by rw[y];exact r⟩,m,kQ _⟩,KeepN.refl h⟩
  |true=>
   rw[E]at G;obtain⟨w,l⟩:∃w:St,w={s with pubs:=aM s.pubs o {p with open_:=false}}:=⟨_,rfl⟩;have y:eA s o=(p.holds.all fun c=>decide (c∈p.serve),w):=by simp only[eA,g,E,l];rfl
   rw[y];obtain⟨d,b⟩:∃d,d=h.put (Z (.pub o)) (.cells (aPz Z o {p with open_:=false}) (some 0)):=⟨_,rfl⟩;have lp:=r.lt (.pub o) ⟨p,g⟩;have W:A.store 1 (.pointer (some ⟨Z (.pub o),6,none⟩)) (.bool false) h=some d:=by rw[qU,J,b];rfl
   have I:d.get (Z (.pub o))=some (.cells (aPz Z o {p with open_:=false}) (some 0)):=by rw[b,H.get_put,kM rfl]
   have r1:Rep B d Z w a:=by
    rw[l];refine r.pub m.next g (by rw[b];exact kQ _) (fun C=>C=.pub o) (fun C h=>.inl h) (fun C hl N=>?_) (fun h=>dC rfl h) (fun _=>rfl) (fun _=>rfl) (fun _=>I) (fun e=>by cases e) (fun e=>by cases e);rw[b,H.get_put,kL (fun e=>N (r.inj _ _ hl ⟨p,g⟩ e))]
   have q:Ext B d:=by rw[b];exact Ext.put m _ _ lp.1
   have n:d.next=h.next:=by rw[b];rfl
   have f:aE w.pubs o=some {p with open_:=false}:=by rw[l,aC,kM rfl]
   have mh:=r1.ok (.holds o) _ f;have ms:=r1.ok (.serve o) _ f;have U:=r1.lt (.holds o) ⟨_,f⟩;obtain⟨V,P,O⟩:=nK mh U.2;obtain⟨it,u⟩:=eX (d.next);rw[←u]at P O;have l7:=ld k I 7 rfl;have S:∀i,Ext d i→KeepN h i:=fun i x j cs hj R M=>by
    rw[x.get j (by rw[n];exact hj),b,H.get_put,kL fun e=>?_]
    ·exact M
    ·rw[e,J]at M;have:=pB M;simp only[Blk.cells.injEq]at this;rw[←this.1]at R;simp[aPz]at R
   refine⟨p.holds.length+1,bUc Y _ _ h ?_⟩;simp only[F30,aXw,bHw,cJe,bId,cGh,mA,jJ,n0,qS,sR,G,W,l7,P];refine cMk k I rfl ms (by rw[n];exact lp.2) (r1.lt (.serve o) ⟨_,f⟩).2 (by omega) (by omega) U.2 _ _ (fun i x K=>okU_iff.2 ⟨⟨by rw[K],⟨Z,rfl,r1.ext (by rw[n];exact m.next) x⟩,q.trans x,?_⟩,S i x⟩) (fun i x K=>okU_iff.2 ⟨⟨by rw[K],⟨Z,rfl,r1.ext (by rw[n];exact m.next) x⟩,q.trans x,?_⟩,S i x⟩) (mQ _) O (Ext.push d V) (by rw[u];exact mQ _)
   ·rw[←n];exact x.next
   ·rw[←n];exact x.next
def Inv (s:St):Prop:=∀o b,aE s.subs o=some b→b.open_=true→b.done=true
omit Y in
def cMj (hT:HasT X B)(K:3≤B.next)(hB:Ext B j){l q3 rr:Nat}{still got:kC Bs}{row:Row}(g:j.get n=some (.cells d (some 0)))(l3:d[3]?=some (aA q3))(l6:d[6]?=some (aV m))(hl:LstR j q3 rr row)(s3:q3<j.next)(k3:MapR j m cC (gJ got))(hp:n<j.next)(O:m<j.next)(j3:j.next≤i)(m3:i≠l)(w:l<j.next)(Q:Pk.K1 Unit)(kx:Pk.K0 Unit)(k0:∀q,Ext j q→(still.all fun t=>!((cN tak row t).2&&!decide (t∈got)))=false→Q (.bool false) q=some ())(k1:∀q,Ext j q→(still.all fun t=>!((cN tak row t).2&&!decide (t∈got)))=true→kx q=some ()){q:H}(hn:still.length<b3)(i0:ItK q i l cC (gJ still) [])(x0:Ext j q)(g3:i<q.next):aSl (CI D) L dm rl Q kx b3 (aA n) (aA i) q=some ():=by
 refine nM (W:=fun b3 (_:Unit) h=>aSl (CI D) L dm rl Q kx b3 (aA n) (aA i) h) (I:=fun sk _ q=>(∀t∈sk,(!((cN tak row t).2&&!decide (t∈got)))=true)∧Ext j q∧i<q.next) m3 (fun b3 s h hh=>by simp only[aSl,bPj];exact hh) ?_ ?_ still.length [] () q b3 List.nodup_nil (by simp) (by rw[aIm];simp) hn i0 ⟨by simp,x0,g3⟩
 ·intro b3 sk _ q E y3 y P v3 h3 a3 i3 V next
  obtain⟨hv,N⟩:=aIl P;have G:Ext j h3:=a3.ext E.2.1 j3;have n3:i<h3.next:=by rw[a3.1];exact E.2.2
  rw[hv]at V;have V:A.zT (aA i) h3=some (.tuple ⟨[str y.1,fU]⟩):=V;have l3:=ld k (by rw[G.get _ hp];exact g) 3 l3;have o:Ext B h3:=hB.trans G;obtain⟨f3,v,lr,u3⟩:=hl;have o3:ListR h3 q3 v row:=lr.but G.but (S:=fun _=>False) id (fun _ _=>id);obtain⟨b,J,R⟩:=T32 k (hT.ext k.tab K o) (kR K o.next) f3 o3 y.1;have x4:=G.trans R;have l6:=ld k (by rw[x4.get _ hp];exact g) 6 l6;have lk:=aEk (k3.congr (x4.get _ O)) TaW.Z103 true y.1;rw[rY]at lk;obtain⟨h5,u⟩:=eX (b.push (.cells [] (some 0)));have b0:A.box 0 TaW.Z103 b=some (aA b.next,h5):=by rw[u];rfl
  have g5:h5.get b.next=some (.cells [] (some 0)):=by rw[u,H.get_push,kM rfl]
  obtain⟨z,M⟩:=eX (h5.put b.next (.cells [] (some 0)));have s0:A.store 0 (aA b.next) fU h5=some z:=by rw[qU,g5,M];rfl
  have x:Ext h3 z:=R.trans (by rw[M,u];exact Ext.put (Ext.push b _) _ _ (kQ _));have x6:=G.trans x;obtain⟨U,r⟩:=eX (decide (y.1∈got));have lk:A.zJ true TaW.Z103 true (str y.1) (aV m) b=some (.tuple ⟨[fU,.bool U]⟩):=by
   rw[lk,r];by_cases C:y.1∈got
   ·rw[kM C,kN C];rfl
   ·rw[kL C,kO C];rfl
  obtain⟨bb,p⟩:=eX ((cN tak row y.1).2);rw[←p]at J;have nx:(!(bb&&!U))=true→aSl (CI D) L dm rl Q kx b3 (aA n) (aA i) z=some ():=fun P=>next () z ⟨fun c w=>by
   rcases mP.1 w with w|w
   ·exact E.1 c w
   ·rw[mC.1 w,←p,←r];exact P,x6,kT n3 x.next⟩ (i3.congr (x.get _ n3) (x.get _ (kT w G.next)))
  have ny:(!(bb&&!U))=false→Q (.bool false) z=some ():=fun P=>k0 z x6 (by
   rw[Bool.eq_false_iff];intro e;have:=mB.1 e y.1 N;rw[←p,←r,P]at this;cases this)
  simp only[aNc,aAb,aCc,qS,bPi,V,l3,J,l6,lk,b0,s0,sR]
  cases bb with
  |true=>
   cases U with
   |true=>simp only[qS];exact nx rfl
   |false=>simp only[qS];exact ny rfl
  |false=>simp only[qS];exact nx rfl
 ·intro b3 sk _ q E d3 p3 t3;simp only[aYa,qS];refine k1 q E.2.1 ?_;rw[mB];intro c C;exact E.1 c (d3 (c,fU) (by simp only[gJ];exact mN (f:=fun c=>(c,fU)) C))
def W24 (U:HasT X B)(y:3≤B.next)(r:Rep B h Z s a)(l:Ext B h)(J:Inv s)(o:Int):∃L,fK prog (CI D) TaZ.isR dm rl L 3 31 [aA (Z .chk),jJ ((aE s.subs o).map fun _=>Z (.sb o))] h (iE B (Z .chk) a h (eW tak s o)):=by
 cases g:aE s.subs o with
 |none=>
  have n0:A.z prog .eql 63 (.pointer none) (.pointer none)=some (.bool true):=by kernel_rfl
  refine⟨0,bUb Y _ _ h ?_⟩;simp only[F31,aXv,bHv,dV,jJ,n0,qS];refine okU_iff.2 ⟨?_,⟨Z,rfl,?_⟩,l,kQ _⟩
  ·simp only[eW,g]
  ·simp only[eW,g];exact r
 |some b=>
  have n0:=aCt (t:=63) (by kernel_rfl) (Z (.sb o));have N:=r.ok (.sb o) b g;have v:=ld k N 2 rfl
  cases n:b.open_ with
  |false=>
   rw[n]at v;have u:eW tak s o=(true,s):=by simp only[eW,g,n];rfl
   refine⟨0,bUb Y _ _ h ?_⟩;simp only[F31,aXv,bHv,mA,jJ,n0,qS,sR,v];exact okU_iff.2 ⟨by rw[u],⟨Z,rfl,by rw[u];exact r⟩,l,kQ _⟩
  |true=>
   rw[n]at v;have E:=J o b g n;obtain⟨q,j⟩:∃q:St,q={s with subs:=aM s.subs o {b with open_:=false}}:=⟨_,rfl⟩;have u:eW tak s o=(b.still.all fun t=>!((cN tak b.filters t).2&&!decide (t∈b.got)),q):=by simp only[eW,g,n,j];rfl
   rw[u];obtain⟨f,d⟩:∃f,f=h.put (Z (.sb o)) (.cells (vG Z o {b with open_:=false}) (some 0)):=⟨_,rfl⟩;have lp:=r.lt (.sb o) ⟨b,g⟩;have Q:A.store 1 (.pointer (some ⟨Z (.sb o),2,none⟩)) (.bool false) h=some f:=by rw[qU,N,d];rfl
   have w:f.get (Z (.sb o))=some (.cells (vG Z o {b with open_:=false}) (some 0)):=by rw[d,H.get_put,kM rfl]
   have r1:Rep B f Z q a:=by
    rw[j];refine r.sub l.next g (by rw[d];exact kQ _) (fun C=>C=.sb o) (fun C h=>.inl h) (fun C V I=>?_) ⟨rfl,rfl,rfl,rfl⟩ (fun h=>dC rfl h) (fun _=>rfl) (fun _=>w) (fun e=>by cases e);rw[d,H.get_put,kL (fun e=>I (r.inj _ _ V ⟨b,g⟩ e))]
   have i:Ext B f:=by rw[d];exact Ext.put l _ _ lp.1
   have p:f.next=h.next:=by rw[d];rfl
   have c:aE q.subs o=some {b with open_:=false}:=by rw[j,aC,kM rfl]
   have mh:=r1.ok (.still o) _ c;have ms:=r1.ok (.got o) _ c;have O:=r1.lt (.still o) ⟨_,c⟩;have R:=r1.ok (.flst o) _ c E;have W:(vG Z o {b with open_:=false})[3]?=some (aA (Z (.flst o))):=by simp[vG,E]
   obtain⟨P,M,K⟩:=nK mh O.2;obtain⟨it,m⟩:=eX (f.next);rw[←m]at M K;have l5:=ld k w 5 rfl;refine⟨b.still.length+1,bUb Y _ _ h ?_⟩;simp only[F31,aXv,bHv,cGg,bIi,cGf,mA,jJ,n0,qS,sR,v,Q,l5,M];refine cMj k U y i w W rfl R (r1.lt (.flst o) ⟨_,c,E⟩).2 ms (by rw[p];exact lp.2) (r1.lt (.got o) ⟨_,c⟩).2 (by omega) (by omega) O.2 _ _ (fun S x G=>okU_iff.2 ⟨by rw[G],⟨Z,rfl,r1.ext (by rw[p];exact l.next) x⟩,i.trans x,?_⟩) (fun S x G=>okU_iff.2 ⟨by rw[G],⟨Z,rfl,r1.ext (by rw[p];exact l.next) x⟩,i.trans x,?_⟩) (mQ _) K (Ext.push f P) (by rw[m];exact mQ _)
   ·rw[←p];exact x.next
   ·rw[←p];exact x.next
end
def bU (e:Nat→kA)(v:kA)(n:cD):kC kA:=
  [iU (n.kind:Int),iN n.op,iN n.conn,str n.client,iU (n.ptype:Int),e 5,e 6,e 7,e 8,e 9,e 10,e 11,.bool n.clean,e 13,e 14,e 15,e 16,e 17,e 18,e 19,e 20,e 21,e 22,e 23,e 24,e 25,v,e 27,
   str n.msg.topic,str n.msg.payload,iU (n.msg.qos:Int),.bool n.msg.retain,e 32,e 33,iU (n.qos:Int)]
abbrev eF (e:Nat→kA)(v:kA)(n:cD):kA:=.agg ⟨bU e v n⟩
structure wI (B:H)(v:kA)(n:cD):Prop where
  subs:SliceE 2 B v (aW n.subs)
  small:∀y∈n.subs,y.2<256
  top:n.msg.topic.length≤maxLen
structure NoteOk (B:H)(v:kA)(n:cD):Prop extends wI B v n where
  len:n.subs.length≤2^40
def eqB {s S:kC kG}:(s==S)=decide (s=S):=by
  by_cases h:s=S
  ·subst h;simp
  ·simp[h]
def bEp (m k:Msg):A.z prog .neq 30 (.agg ⟨aG m⟩) (.agg ⟨aG k⟩)=some (.bool (!decide (m=k))):=by
  obtain⟨a,b,c,d⟩:=m;obtain⟨i,j,f,g⟩:=k;have e:A.z prog .neq 30 (.agg ⟨[.string ⟨⟨a⟩⟩,.string ⟨⟨b⟩⟩,iU (c:Int),.bool d]⟩) (.agg ⟨[.string ⟨⟨i⟩⟩,.string ⟨⟨j⟩⟩,iU (f:Int),.bool g]⟩)=
      (match(bif (a==i)then bif (b==j)then bif ((c:Int)==(f:Int))then bif (d==g)then some true else some false else some false else some false else some false)with|some r=>some (.bool (!r))|none=>none):=by kernel_rfl
  refine e.trans ?_;rw[eqB,eqB];have s:decide ((⟨a,b,c,d⟩:Msg)=⟨i,j,f,g⟩)=(decide (a=i)&&(decide (b=j)&&(decide (c=f)&&decide (d=g)))):=by
    by_cases l:a=i<;>by_cases n:b=j<;>by_cases h3:c=f<;>by_cases o:d=g<;>simp[l,n,h3,o]
  have p:((c:Int)==(f:Int))=decide (c=f):=by
    by_cases h:c=f
    ·subst h;simp
    ·rw[kO h,mY];omega
  have q:(d==g)=decide (d=g):=by cases d<;>cases g<;>rfl
  rw[s,p,q];cases decide (a=i)<;>cases decide (b=j)<;>cases decide (c=f)<;>cases decide (d=g)<;>rfl
def dZ {Y X:Type}[DecidableEq Y]:∀{l:kC (Y×X)} {o:Y} {x:X},(l.map (·.1)).Nodup→(o,x)∈l→aE l o=some x
 |[],_,_,_,h=>by simp at h
 |(k,y)::r,o,x,hn,h=>by
  simp only[mH,tW]at hn;simp only[aE];rcases sI.1 h with e|h
  ·cases e;rw[kM rfl]
  ·rw[kL]
   ·exact dZ hn.2 h
   ·rintro rfl;exact hn.1 (mN (f:=(·.1)) h)
def aBq {Y X:Type}[DecidableEq Y]:∀{l:kC (Y×X)} {o:Y} {x:X},aE l o=some x→(o,x)∈l
 |[],_,_,h=>by simp[aE]at h
 |(k,y)::r,o,x,h=>by
  simp only[aE]at h;split at h
  ·rename_i e;subst e;cases h;exact mO
  ·exact mL _ (aBq h)
def aIn (m:Msg):AM.same (.agg ⟨aG m⟩) (.agg ⟨aG m⟩)=true:=by
 simp[aG,AM.same,AM.sameA,AM.sameL]
section
variable {D:CF}{X:H}{fil nam:Bs→Bool}{tak:Bs→Bs→Bool}(Y:K2 D X fil nam tak){B:H}{dm:Pw.Dm}{rl:Pw.Rl}
def Rep.keysP (r:Rep B h Z s a):(s.pubs.map (·.1)).Nodup:=by
 have:=(r.ok .pubs).nodup
 rwa [List.map_map]at this
def Rep.keysU (r:Rep B h Z s a):(s.subs.map (·.1)).Nodup:=by
 have:=(r.ok .subs).nodup
 rwa [List.map_map]at this
def aYt (r:Rep B h Z s a)(p:Int):A.zJ false (.pointer none) false (iN p) (aV (Z .pubs)) h=some (jJ ((aE s.pubs p).map fun _=>Z (.pub p))):=by
 have l:=bEq (r.ok .pubs) (.pointer none) false p;rw[lE (fun o (_:Pub)=>aA (Z (.pub o)))]at l;rw[l];cases aE s.pubs p<;>rfl
def aRh (r:Rep B h Z s a)(p:Int):A.zJ false (.pointer none) false (iN p) (aV (Z .subs)) h=some (jJ ((aE s.subs p).map fun _=>Z (.sb p))):=by
 have l:=bEq (r.ok .subs) (.pointer none) false p;rw[lE (fun o (_:Sb)=>aA (Z (.sb o)))]at l;rw[l];cases aE s.subs p<;>rfl
def bEr {id:Nat}{l:kC Bs}(m:MapR h id cC (gJ l))(x:Bs):∃b d,A.zJ true (.agg ⟨[]⟩) true (str x) (aV id) h=some (.tuple ⟨[fU,.bool (decide (x∈l))]⟩)∧A.box 0 (.agg ⟨[]⟩) h=some (aA h.next,b)∧A.store 0 (aA h.next) fU b=some d∧Ext h d:=by
 have k:=aEk m (.agg ⟨[]⟩) true x;rw[rY]at k;refine⟨h.push (.cells [] (some 0)),(h.push (.cells [] (some 0))).put h.next (.cells [] (some 0)),?_,rfl,?_,Ext.put (Ext.push h _) _ _ (kQ _)⟩
 ·rw[k];by_cases c:x∈l
  ·rw[kM c,kN c];rfl
  ·rw[kL c,kO c];rfl
 ·rw[qU,H.get_push,kM rfl];rfl
include Y
def cMl (r:Rep B j Z s a)(hB:Ext B j){p:Pub}(hp:aE s.pubs J=some p){e:Nat→kA}{t:cD}(g3:j.next≤i)(o3:j.next≤n)(j3:n<i)(P:Pk.K1 Unit)(U:Pk.K2 Unit)(k0:∀g,Ext j g→(s.pubs.any fun x=>tQ t.client p x.2)=true→P (.bool false) g=some ())(k1:∀g,Ext j g→g.get n=some (.cells (bU e v t) (some 0))→(s.pubs.any fun x=>tQ t.client p x.2)=false→U (aA (Z (.pub J))) (aA n) g=some ()){l:Nat}{k:Nat}(hm:s.pubs.length<k)(i0:ItK g i (Z .pubs) rF (s.pubs.map fun x=>(x.1,aA (Z (.pub x.1)))) [])(x0:Ext j g)(g0:g.get n=some (.cells (bU e v t) (some 0)))(f3:i<g.next):aSm (CI D) l dm rl P U k (aA i) (aA (Z (.pub J))) (aA n) g=some ():=by
 have E:=(r.lt .pubs trivial);refine nM (W:=fun t (_:Unit) h=>aSm (CI D) l dm rl P U t (aA i) (aA (Z (.pub J))) (aA n) h) (I:=fun sk _ g=>(∀o∈sk,∀q,aE s.pubs o=some q→tQ t.client p q=false)∧Ext j g∧i<g.next∧g.get n=some (.cells (bU e v t) (some 0))) (by omega) (fun t s h hh=>by simp only[aSm,bPr];exact hh) ?_ ?_ s.pubs.length [] () g k List.nodup_nil (by simp) (by simp) hm i0 ⟨by simp,x0,f3,g0⟩
 ·intro s3 sk _ g d q3 y hy p3 h3 V i3 e3 next
  simp only[mW]at hy;obtain⟨⟨o,q⟩,m,rfl⟩:=hy;have S:=dZ r.keysP m;have c:Ext j h3:=V.ext d.2.1 g3;have n3:i<h3.next:=by rw[V.1];exact d.2.2.1
  have gn:h3.get n=some (.cells (bU e v t) (some 0)):=by rw[V.2 n (by omega)];exact d.2.2.2
  have e3:A.zT (aA i) h3=some (.tuple ⟨[iN o,aA (Z (.pub o))]⟩):=e3;have r3:=r.ext hB.next c;have gq:=r3.ok (.pub o) q S;have l8:=ld Y gq 8 rfl;have l3:=ld Y gn 3 rfl;obtain⟨h4,R,lk,b0,s0,b⟩:=bEr (r3.ok (.serve o) q S) t.client;have r5:=r3.ext (kR hB.next c.next) b;have x5:=c.trans b;have w:=r5.ok (.pub o) q S;have u:=r5.ok (.pub J) p hp;have q5:=ld Y w 5 rfl;have p5:=ld Y u 5 rfl;have q0:=ld Y w 0 rfl;have p0:=ld Y u 0 rfl;have q1:=ld Y w 1 rfl;have p1:=ld Y u 1 rfl;have c1:A.z prog .eql 9 (str q.client) (str p.client)=_:=bX q.client p.client;have c2:A.z prog .eql 9 (str q.msg.topic) (str p.msg.topic)=_:=bX q.msg.topic p.msg.topic;have hl:tQ t.client p q=(decide (t.client∈q.serve)&&(decide ((p.place:Int)<(q.place:Int))&&(decide (q.client=p.client)&&decide (q.msg.topic=p.msg.topic)))):=by
   unfold tQ;have:((p.place:Int)<(q.place:Int))=(p.place<q.place):=by simp
   simp only[Bool.decide_and,this]
  obtain⟨b1,K⟩:=eX (decide (t.client∈q.serve));obtain⟨b2,L⟩:=eX (decide ((p.place:Int)<(q.place:Int)));obtain⟨b3,M⟩:=eX (decide (q.client=p.client));obtain⟨b4,N⟩:=eX (decide (q.msg.topic=p.msg.topic));rw[←K,←L,←M,←N]at hl;rw[←K]at lk;rw[←M]at c1;rw[←N]at c2;have Q:tQ t.client p q=false→aSm (CI D) l dm rl P U s3 (aA i) (aA (Z (.pub J))) (aA n) R=some ():=fun hf=>next () R ⟨fun o' O q' C=>by
   rcases mP.1 O with O|O
   ·exact d.1 o' O q' C
   ·rw[mC.1 O,S]at C;cases C;exact hf,x5,kT n3 b.next,by rw[b.get _ (by omega)];exact gn⟩ (i3.congr (b.get _ n3) (b.get _ (kT E.2 c.next)))
  have ny:tQ t.client p q=true→P (.bool false) R=some ():=fun G=>k0 R x5 (rP.2 ⟨_,m,G⟩);rw[hl]at Q ny;simp only[aNc,aAb,aCc,qS,bPq,bPp,bPo,e3,l8,l3,show TaW.Z103=.agg ⟨[]⟩from rfl,lk,b0,s0,sR,sS,q5,p5,q0,p0,q1,p1,zY,c1,c2,←L]
  cases b1 with
  |false=>simp only[qS];exact Q rfl
  |true=>
   cases b2 with
   |false=>simp only[qS];exact Q rfl
   |true=>
    cases b3 with
    |false=>simp only[qS];exact Q rfl
    |true=>
     cases b4 with
     |false=>simp only[qS];exact Q rfl
     |true=>simp only[qS];exact ny rfl
 ·intro s3 sk _ g d d3 k3 m3;simp only[aYa,qS];refine k1 g d.2.1 d.2.2.2 ?_;rw[Bool.eq_false_iff];intro G;obtain⟨⟨o,q⟩,m,G⟩:=rP.1 G;have:=d.1 o (d3 (o,aA (Z (.pub o))) (mN (f:=fun x=>(x.1,aA (Z (.pub x.1)))) m)) q (dZ r.keysP m);rw[this]at G;cases G
def W21 (Q:RelOK prog 3 TaZ.isR dm rl)(hT:HasT X B)(o3:3≤B.next)(r:Rep B h Z s a)(m:Ext B h)(e:Nat→kA)(v:kA)(n:cD):∃L,fK prog (CI D) TaZ.isR dm rl L 3 28 [aA (Z .chk),eF e v n] h (iE B (Z .chk) a h (gV tak s n)):=by
 obtain⟨S,y⟩:=eX (h.push (.cells (bU e v n) (some 0)));have I:A.box 35 (eF e v n) h=some (aA h.next,S):=by rw[y];rfl
 have x1:Ext h S:=by rw[y];exact Ext.push h _
 have n1:S.next=h.next+1:=by rw[y];rfl
 have g1:S.get h.next=some (.cells (bU e v n) (some 0)):=by rw[y,H.get_push,kM rfl]
 have r1:=r.ext m.next x1;have c1:=ld Y (r1.ok .chk) 1 rfl;have f:=ld Y g1 1 rfl;have l:=aYt r1 n.op;have o:∀(b:Bool) (w:H),Ext h w→gV tak s n=(b,s)→okU (iE B (Z .chk) a h (gV tak s n) (.bool b) w)=some ():=fun b w x he=>okU_iff.2 ⟨by rw[he],⟨Z,rfl,by rw[he];exact r.ext m.next x⟩,m.trans x,x.next⟩
 cases c:aE s.pubs n.op with
 |none=>
  rw[c]at l;have n0:A.z prog .eql 65 (.pointer none) (.pointer none)=some (.bool true):=by kernel_rfl
  refine⟨0,aTm Q _ _ h ?_⟩;simp only[F28,aKh,aQe,aQd,I,qS,sR,c1,f,show TaW.Z65=.pointer none from rfl,l,dV,jJ,n0];exact o false S x1 (by simp only[gV,c])
 |some p=>
  rw[c]at l;have n0:=aCt (t:=65) (by kernel_rfl) (Z (.pub n.op));have gp:=r1.ok (.pub n.op) p c;have G:=ld Y gp 6 rfl
  cases ho:p.open_ with
  |false=>
   rw[ho]at G;refine⟨0,aTm Q _ _ h ?_⟩;simp only[F28,aKh,aQe,aQd,I,qS,sR,c1,f,show TaW.Z65=.pointer none from rfl,l,mA,jJ,n0,G];exact o false S x1 (by simp only[gV,c,ho,true_or,mE])
  |true=>
   rw[ho]at G;have N:=ld Y gp 8 rfl;have g:=ld Y g1 3 rfl;obtain⟨w,h3,O,V,s0,k⟩:=bEr (r1.ok (.serve n.op) p c) n.client;have x3:=x1.trans k;by_cases hc:n.client∈p.serve
   ·rw[kN hc]at O;refine⟨0,aTm Q _ _ h ?_⟩;simp only[F28,aKh,aQe,aQd,aWn,I,qS,sR,c1,f,show TaW.Z65=.pointer none from rfl,l,mA,jJ,n0,G,N,g,show TaW.Z103=.agg ⟨[]⟩from rfl,O,aCc,aAb,V,s0];exact o false h3 x3 (by simp only[gV,c,hc,or_true,mE])
   ·rw[kO hc]at O;have q:¬(p.open_=false∨n.client∈p.serve):=by rw[ho];simp[hc]
    have r3:=r.ext m.next x3;have b3:=m.trans x3;have c0:=ld Y (r3.ok .chk) 0 rfl;have g3:h3.get h.next=some (.cells (bU e v n) (some 0)):=by rw[k.get _ (by omega)];exact g1
    have i:=ld Y g3 3 rfl;have l3:=r3.ok (.pub n.op) p c;have p1:=ld Y l3 1 rfl;obtain⟨W,j,u⟩:=T27 Y hT o3 b3 r3 n.client p.msg.topic;have x4:=x3.trans u;have t3:=fun b w x he=>o b w x he
    cases d:(cB tak s n.client p.msg.topic).2 with
    |false=>
     rw[d]at j;refine⟨0,aTm Q _ _ h ?_⟩;simp only[F28,aKh,aQe,aQd,aWn,bBx,aSv,bBw,bBv,I,qS,sR,c1,f,show TaW.Z65=.pointer none from rfl,l,mA,jJ,n0,G,N,g,show TaW.Z103=.agg ⟨[]⟩from rfl,O,aCc,aAb,V,s0,c0,i,p1,sS,j];exact o false W x4 (by simp only[gV,c,kL q,d,mE])
    |true=>
     rw[d]at j;have g4:W.get h.next=some (.cells (bU e v n) (some 0)):=by rw[u.get _ (by have:=k.next;omega)];exact g3
     have r4:=r.ext m.next x4;have n3:=r4.ok (.pub n.op) p c;have P:A.load true 4 (.pointer (some ⟨h.next,28,none⟩)) W=some (.agg ⟨aG n.msg⟩):=by rw[aI,g4];rfl
     have R:A.load true 4 (.pointer (some ⟨Z (.pub n.op),1,none⟩)) W=some (.agg ⟨aG p.msg⟩):=by rw[aI,n3];rfl
     obtain⟨K,J,E⟩:=T31 Y (h:=W) p.msg (cB tak s n.client p.msg.topic).1 false;have x5:=x4.trans E;have g5:K.get h.next=some (.cells (bU e v n) (some 0)):=by rw[E.get _ (by have:=k.next;have:=u.next;omega)];exact g4
     have s3:A.load true 4 (.pointer (some ⟨h.next,28,none⟩)) K=some (.agg ⟨aG n.msg⟩):=by rw[aI,g5];rfl
     have ck:AM.chk (bnd (A.load true 4 (.pointer (some ⟨h.next,28,none⟩)) K) fun v=>some v) (.agg ⟨aG n.msg⟩)=true:=eG (by rw[s3];rfl) (aIn n.msg);have ne:=bEp n.msg (cK p.msg (cB tak s n.client p.msg.topic).1 false);have f3:=ld Y g5 34 rfl;have e3:=ld Y g5 30 rfl;have ht:¬((cB tak s n.client p.msg.topic).2=false):=by rw[d];simp
     by_cases hm:n.msg=cK p.msg (cB tak s n.client p.msg.topic).1 false
     ·rw[kN hm]at ne;by_cases hq:n.qos=n.msg.qos
      ·-- the loop
       have M:decide ((n.qos:Int)=(n.msg.qos:Int))=true:=kN (by omega);have d3:¬(n.msg≠cK p.msg (cB tak s n.client p.msg.topic).1 false∨n.qos≠n.msg.qos):=by simp[←hm,hq]
       have r5:=r.ext m.next x5;have j3:=ld Y (r5.ok .chk) 1 rfl;obtain⟨bi,er,ei⟩:=nK (r5.ok .pubs) (r5.lt .pubs trivial).2;refine⟨s.pubs.length+1,aTm Q _ _ h ?_⟩;simp only[F28,aKh,aQe,aQd,aWn,bBx,aSv,bBw,bBv,bIo,cGj,I,qS,sR,c1,f,show TaW.Z65=.pointer none from rfl,l,mA,jJ,n0,G,N,g,show TaW.Z103=.agg ⟨[]⟩from rfl,O,aCc,aAb,V,s0,c0,i,p1,sS,j,P,R,J,ck,dB,ne,f3,e3,bA,M,j3,er];have p3:¬(s.pubs.any fun x=>tQ n.client p x.2)=true→gV tak s n=(true,{s with pubs:=aM s.pubs n.op {p with serve:=lH p.serve n.client}}):=fun ha=>by
        simp only[gV,c,kL q,kL ht,kL d3,ha];rfl
       refine cMl Y r m c (by have:=x5.next;omega) (kQ _) (by have:=k.next;have:=u.next;have:=E.next;omega) _ _ (fun w U ha=>o false w U ?_) (fun w U g2 ha=>?_) (mQ _) ei (x5.trans (Ext.push K bi)) (by rw[(Ext.push K bi).get _ (by have:=k.next;have:=u.next;have:=E.next;omega)];exact g5) (mQ _)
       ·simp only[gV,c,kL q,kL ht,kL d3,ha,mE]
       ·have r2:=r.ext m.next U;have k3:=r2.ok (.pub n.op) p c;have N:=ld Y k3 8 rfl;have g:=ld Y g2 3 rfl;have i3:A.zI TaW.Z103L []=some fU:=rfl;obtain⟨h3,u3,m3,a3⟩:=aPy (r2.ok (.serve n.op) p c) n.client fU;rw[nA]at m3;simp only[cGi,qS,sR,N,g,i3,u3];have lv:=r2.lt (.serve n.op) ⟨p,c⟩;rw[p3 (by rw[ha];simp)];refine okU_iff.2 ⟨rfl,⟨Z,rfl,r2.pub (kR m.next U.next) c (by rw[a3.1];exact kQ _) (fun C=>C=.serve n.op) (fun C h=>.inr (.inr h)) (fun C hl q3=>a3.2 _ fun e=>q3 (r2.inj _ _ hl ⟨p,c⟩ e)) (fun _=>⟨rfl,rfl,rfl,rfl⟩) (fun _=>rfl) (fun h=>dC rfl h) (fun e=>by cases e) (fun e=>by cases e) (fun _=>m3)⟩,a3.ext (m.trans U) lv.1,by rw[a3.1];exact U.next⟩
      ·have M:decide ((n.qos:Int)=(n.msg.qos:Int))=false:=kO (by omega);refine⟨0,aTm Q _ _ h ?_⟩;simp only[F28,aKh,aQe,aQd,aWn,bBx,aSv,bBw,bBv,I,qS,sR,c1,f,show TaW.Z65=.pointer none from rfl,l,mA,jJ,n0,G,N,g,show TaW.Z103=.agg ⟨[]⟩from rfl,O,aCc,aAb,V,s0,c0,i,p1,sS,j,P,R,J,ck,dB,ne,f3,e3,bA,M];exact o false K x5 (by simp only[gV,c,kL q,kL ht,kM (show n.msg≠cK p.msg (cB tak s n.client p.msg.topic).1 false∨n.qos≠n.msg.qos from .inr hq)])
     ·rw[kO hm]at ne;refine⟨0,aTm Q _ _ h ?_⟩;simp only[F28,aKh,aQe,aQd,aWn,bBx,aSv,bBw,bBv,I,qS,sR,c1,f,show TaW.Z65=.pointer none from rfl,l,mA,jJ,n0,G,N,g,show TaW.Z103=.agg ⟨[]⟩from rfl,O,aCc,aAb,V,s0,c0,i,p1,sS,j,P,R,J,ck,dB,ne];exact o false K x5 (by simp only[gV,c,kL q,kL ht,kM (show n.msg≠cK p.msg (cB tak s n.client p.msg.topic).1 false∨n.qos≠n.msg.qos from .inl hm)])
end
def atC (c:Bs):Col→Prop
 | .seat d| .lst d| .row d=>d=c
 |_=>False
def atO (o:Int):Col→Prop
 | .sb p| .flst p| .frow p| .past p| .still p| .got p=>p=o
 | .msgs p _=>p=o
 |_=>False
def atP (o:Int):Col→Prop
 | .pub p| .holds p| .serve p=>p=o
 |_=>False
section
variable {B Y:H}{n:Col→Nat}
def Rep.seat (r:Rep B h Z s a)(K:B.next≤h.next){c:Bs}{l:kC (Bs×aCd)}(M:h.next≤Y.next)(j:∀d,d≠c→aE l d=aE s.seats d)(b:∀C,¬atC c C→n C=Z C)(u:Prop)
 (get:∀C,live s Z C→¬atC c C→(u→C≠.seats)→Y.get (Z C)=h.get (Z C))
 (q:¬u→l.map (·.1)=s.seats.map (·.1)∧n (.seat c)=Z (.seat c))
 (map:u→MapR Y (Z .seats) cC (l.map fun x=>(x.1,aA (n (.seat x.1)))))
 (G:∀x,aE l c=some x→Y.get (n (.seat c))=some (.cells [aA (n (.lst c)),iN x.conn,.bool x.clean] (some 0))∧LstR Y (n (.lst c)) (n (.row c)) x.row)
 (w:∀C,atC c C→live {s with seats:=l} n C→(live s Z C∧n C=Z C)∨(h.next≤n C∧n C<Y.next))
 (m:∀C C',atC c C→atC c C'→live {s with seats:=l} n C→live {s with seats:=l} n C'→h.next≤n C→n C=n C'→C=C'):Rep B Y n {s with seats:=l} a:=by
 have P:∀C,¬atC c C→(live {s with seats:=l} n C↔live s Z C):=fun C i=>by
  cases C with
  |seat d=>simp only[live,j d i]
  |lst d=>simp only[live,j d i]
  |row d=>simp only[live,j d i,b (.row d) i,b (.lst d) i]
  |frow o=>simp only[live,b (.frow o) id,b (.flst o) id]
  |_=>exact Iff.rfl
 refine r.upd (fun C=>atC c C∨(u∧C=.seats)) M K (fun C h g=>?_) (fun C h g=>?_) (fun C C' N O y z k E=>?_) (fun C L g=>?_) (fun C g=>?_) (fun d o t=>⟨fun h=>?_,fun h=>?_,fun h=>?_,fun h=>dC rfl h⟩) (fun C g=>?_)
 ·have i:¬atC c C:=fun e=>g (.inl e);exact⟨(P C i).1 h,b C i⟩
 ·rcases g with g|⟨_,rfl⟩
  ·exact w C g h
  ·exact .inl ⟨trivial,b _ id⟩
 ·have f:∀C,C=.seats→¬h.next≤n C:=fun C e=>by
   subst e;have:=(r.lt .seats trivial).2;rw[b .seats id];omega
  rcases y with y|⟨_,I⟩
  ·rcases z with z|⟨_,J⟩
   ·exact m C C' y z N O k E
   ·exact dC (E▸k) (f C' J)
  ·exact dC k (f C I)
 ·exact get C L (fun e=>g (.inl e)) fun t e=>g (.inr ⟨t,e⟩)
 ·have i:¬atC c C:=fun e=>g (.inl e);have e:=b C i
  cases C with
  |seats=>
   have p:¬u:=fun t=>g (.inr ⟨t,rfl⟩);refine⟨(q p).1,e,fun d _=>?_⟩;by_cases D:d=c
   ·rw[D];exact(q p).2
   ·exact b (.seat d) D
  |seat d=>exact⟨by simp only[eR,j d i],e,b (.lst d) i⟩
  |lst d=>exact⟨by simp only[eR,j d i],e,b (.row d) i⟩
  |row d=>exact⟨trivial,trivial⟩
  |chk=>exact⟨trivial,b _ id,b _ id,b _ id,b _ id⟩
  |mdl=>exact⟨trivial,b _ id,b _ id,b _ id⟩
  |keep=>exact⟨trivial,b _ id,b _ id⟩
  |kept=>exact⟨rfl,b _ id⟩
  |pubs=>exact⟨rfl,b _ id,fun o _=>b _ id⟩
  |pub o=>exact⟨rfl,b _ id,b _ id,b _ id⟩
  |holds o=>exact⟨rfl,b _ id⟩
  |serve o=>exact⟨rfl,b _ id⟩
  |subs=>exact⟨rfl,b _ id,fun o _=>b _ id⟩
  |sb o=>exact⟨rfl,b _ id,b _ id,b _ id,b _ id,b _ id⟩
  |flst o=>exact⟨rfl,b _ id,b _ id⟩
  |frow o=>exact⟨trivial,trivial⟩
  |past o=>exact⟨rfl,b _ id,fun t=>b _ id⟩
  |still o=>exact⟨rfl,b _ id⟩
  |got o=>exact⟨rfl,b _ id⟩
  |msgs o t=>exact⟨trivial,trivial⟩
 ·rcases h with h|⟨_,h⟩
  ·exact .inl h
  ·cases h
 ·rcases h with h|⟨_,h⟩
  ·exact h.elim
  ·cases h
 ·rcases h with h|⟨_,h⟩
  ·exact h.elim
  ·cases h
 ·rcases g with g|⟨t,rfl⟩
  ·cases C with
   |seat d=>cases g;exact fun x v=>(G x v).1
   |lst d=>cases g;exact fun x v=>(G x v).2
   |row d=>trivial
   |_=>exact g.elim
  ·show MapR Y (n .seats) cC _;rw[b .seats id];exact map t
def Rep.sub1 (r:Rep B h Z s a)(K:B.next≤h.next){l:kC (Int×Sb)}(M:h.next≤Y.next)(f:∀d,d≠I→aE l d=aE s.subs d)(o:∀C,¬atO I C→n C=Z C)(v:Prop)(get:∀C,live s Z C→¬atO I C→(v→C≠.subs)→Y.get (Z C)=h.get (Z C))(q:¬v→l.map (·.1)=s.subs.map (·.1)∧n (.sb I)=Z (.sb I))(map:v→MapR Y (Z .subs) rF (l.map fun x=>(x.1,aA (n (.sb x.1)))))(u:∀b,aE l I=some b→Y.get (n (.sb I))=some (.cells (vG n I b) (some 0))∧(b.done=true→LstR Y (n (.flst I)) (n (.frow I)) b.filters)∧bEw Y n I b.past∧MapR Y (n (.still I)) cC (gJ b.still)∧MapR Y (n (.got I)) cC (gJ b.got))(w:∀C,atO I C→live {s with subs:=l} n C→(live s Z C∧n C=Z C)∨(h.next≤n C∧n C<Y.next))(m:∀C C',atO I C→atO I C'→live {s with subs:=l} n C→live {s with subs:=l} n C'→h.next≤n C→n C=n C'→C=C'):Rep B Y n {s with subs:=l} a:=by
 have P:∀C,¬atO I C→(live {s with subs:=l} n C↔live s Z C):=fun C c=>by
  cases C with
  |sb d=>simp only[live,f d c]
  |flst d=>simp only[live,f d c]
  |past d=>simp only[live,f d c]
  |still d=>simp only[live,f d c]
  |got d=>simp only[live,f d c]
  |msgs d t=>simp only[live,f d c]
  |frow d=>simp only[live,f d c,o (.frow d) c,o (.flst d) c]
  |row d=>simp only[live,o (.row d) id,o (.lst d) id]
  |_=>exact Iff.rfl
 refine r.upd (fun C=>atO I C∨(v∧C=.subs)) M K (fun C h g=>?_) (fun C h g=>?_) (fun C C' N O y z k E=>?_) (fun C L g=>?_) (fun C g=>?_) (fun d Q t=>⟨fun h=>?_,fun h=>?_,fun h=>?_,fun h=>dC rfl h⟩) (fun C g=>?_)
 ·have c:¬atO I C:=fun e=>g (.inl e);exact⟨(P C c).1 h,o C c⟩
 ·rcases g with g|⟨_,rfl⟩
  ·exact w C g h
  ·exact .inl ⟨trivial,o _ id⟩
 ·have i:∀C,C=.subs→¬h.next≤n C:=fun C e=>by
   subst e;have:=(r.lt .subs trivial).2;rw[o .subs id];omega
  rcases y with y|⟨_,G⟩
  ·rcases z with z|⟨_,J⟩
   ·exact m C C' y z N O k E
   ·exact dC (E▸k) (i C' J)
  ·exact dC k (i C G)
 ·exact get C L (fun e=>g (.inl e)) fun t e=>g (.inr ⟨t,e⟩)
 ·have c:¬atO I C:=fun e=>g (.inl e);have e:=o C c
  cases C with
  |subs=>
   have p:¬v:=fun t=>g (.inr ⟨t,rfl⟩);refine⟨(q p).1,e,fun d _=>?_⟩;by_cases D:d=I
   ·rw[D];exact(q p).2
   ·exact o (.sb d) D
  |sb d=>exact⟨by simp only[eR,f d c],e,o (.flst d) c,o (.past d) c,o (.still d) c,o (.got d) c⟩
  |flst d=>exact⟨by simp only[eR,f d c],e,o (.frow d) c⟩
  |frow d=>exact⟨trivial,trivial⟩
  |past d=>exact⟨by simp only[eR,f d c],e,fun t=>o (.msgs d t) c⟩
  |still d=>exact⟨by simp only[eR,f d c],e⟩
  |got d=>exact⟨by simp only[eR,f d c],e⟩
  |msgs d t=>exact⟨trivial,trivial⟩
  |chk=>exact⟨trivial,o _ id,o _ id,o _ id,o _ id⟩
  |mdl=>exact⟨trivial,o _ id,o _ id,o _ id⟩
  |keep=>exact⟨trivial,o _ id,o _ id⟩
  |kept=>exact⟨rfl,o _ id⟩
  |pubs=>exact⟨rfl,o _ id,fun I _=>o _ id⟩
  |pub I=>exact⟨rfl,o _ id,o _ id,o _ id⟩
  |holds I=>exact⟨rfl,o _ id⟩
  |serve I=>exact⟨rfl,o _ id⟩
  |seats=>exact⟨rfl,o _ id,fun I _=>o _ id⟩
  |seat I=>exact⟨rfl,o _ id,o _ id⟩
  |lst I=>exact⟨rfl,o _ id,o _ id⟩
  |row I=>exact⟨trivial,trivial⟩
 ·rcases h with h|⟨_,h⟩
  ·exact h.elim
  ·cases h
 ·rcases h with h|⟨_,h⟩
  ·exact .inl h
  ·cases h
 ·rcases h with h|⟨_,h⟩
  ·exact .inl h
  ·cases h
 ·rcases g with g|⟨t,rfl⟩
  ·cases C with
   |sb d=>cases g;exact fun x j=>(u x j).1
   |flst d=>cases g;exact fun x j=>(u x j).2.1
   |past d=>cases g;exact fun x j=>(u x j).2.2.1
   |still d=>cases g;exact fun x j=>(u x j).2.2.2.1
   |got d=>cases g;exact fun x j=>(u x j).2.2.2.2
   |frow d=>trivial
   |msgs d t=>trivial
   |_=>exact g.elim
  ·show MapR Y (n .subs) rF _;rw[o .subs id];exact map t
def Rep.pub1 (r:Rep B h Z s a)(D:B.next≤h.next){l:kC (Int×Pub)}(G:h.next≤Y.next)(g:∀d,d≠I→aE l d=aE s.pubs d)(o:∀C,¬atP I C→n C=Z C)(get:∀C,live s Z C→¬atP I C→C≠.pubs→Y.get (Z C)=h.get (Z C))(map:MapR Y (Z .pubs) rF (l.map fun x=>(x.1,aA (n (.pub x.1)))))(q:∀p,aE l I=some p→Y.get (n (.pub I))=some (.cells (aPz n I p) (some 0))∧MapR Y (n (.holds I)) cC (gJ p.holds)∧MapR Y (n (.serve I)) cC (gJ p.serve))(m:∀C,atP I C→live {s with pubs:=l} n C→(live s Z C∧n C=Z C)∨(h.next≤n C∧n C<Y.next))(j:∀C C',atP I C→atP I C'→live {s with pubs:=l} n C→live {s with pubs:=l} n C'→h.next≤n C→n C=n C'→C=C'):Rep B Y n {s with pubs:=l} a:=by
 have L:∀C,¬atP I C→(live {s with pubs:=l} n C↔live s Z C):=fun C f=>by
  cases C with
  |pub d=>simp only[live,g d f]
  |holds d=>simp only[live,g d f]
  |serve d=>simp only[live,g d f]
  |frow d=>simp only[live,o (.frow d) id,o (.flst d) id]
  |row d=>simp only[live,o (.row d) id,o (.lst d) id]
  |_=>exact Iff.rfl
 refine r.upd (fun C=>atP I C∨C=.pubs) G D (fun C h c=>?_) (fun C h c=>?_) (fun C C' J K u v i w=>?_) (fun C E c=>?_) (fun C c=>?_) (fun d M t=>⟨fun h=>?_,fun h=>?_,fun h=>?_,fun h=>dC rfl h⟩) (fun C c=>?_)
 ·have f:¬atP I C:=fun e=>c (.inl e);exact⟨(L C f).1 h,o C f⟩
 ·rcases c with c|rfl
  ·exact m C c h
  ·exact .inl ⟨trivial,o _ id⟩
 ·have b:∀C,C=.pubs→¬h.next≤n C:=fun C e=>by
   subst e;have:=(r.lt .pubs trivial).2;rw[o .pubs id];omega
  rcases u with u|y
  ·rcases v with v|z
   ·exact j C C' u v J K i w
   ·exact dC (w▸i) (b C' z)
  ·exact dC i (b C y)
 ·exact get C E (fun e=>c (.inl e)) fun e=>c (.inr e)
 ·have f:¬atP I C:=fun e=>c (.inl e);have e:=o C f
  cases C with
  |pubs=>exact dC (.inr rfl) c
  |pub d=>exact⟨by simp only[eR,g d f],e,o (.holds d) f,o (.serve d) f⟩
  |holds d=>exact⟨by simp only[eR,g d f],e⟩
  |serve d=>exact⟨by simp only[eR,g d f],e⟩
  |chk=>exact⟨trivial,o _ id,o _ id,o _ id,o _ id⟩
  |mdl=>exact⟨trivial,o _ id,o _ id,o _ id⟩
  |keep=>exact⟨trivial,o _ id,o _ id⟩
  |kept=>exact⟨rfl,o _ id⟩
  |subs=>exact⟨rfl,o _ id,fun I _=>o _ id⟩
  |sb I=>exact⟨rfl,o _ id,o _ id,o _ id,o _ id,o _ id⟩
  |flst I=>exact⟨rfl,o _ id,o _ id⟩
  |frow I=>exact⟨trivial,trivial⟩
  |past I=>exact⟨rfl,o _ id,fun t=>o _ id⟩
  |still I=>exact⟨rfl,o _ id⟩
  |got I=>exact⟨rfl,o _ id⟩
  |msgs I t=>exact⟨trivial,trivial⟩
  |seats=>exact⟨rfl,o _ id,fun I _=>o _ id⟩
  |seat I=>exact⟨rfl,o _ id,o _ id⟩
  |lst I=>exact⟨rfl,o _ id,o _ id⟩
  |row I=>exact⟨trivial,trivial⟩
 ·rcases h with h|h
  ·exact h.elim
  ·cases h
 ·rcases h with h|h
  ·exact h.elim
  ·cases h
 ·rcases h with h|h
  ·exact h.elim
  ·cases h
 ·rcases c with c|rfl
  ·cases C with
   |pub d=>cases c;exact fun x k=>(q x k).1
   |holds d=>cases c;exact fun x k=>(q x k).2.1
   |serve d=>cases c;exact fun x k=>(q x k).2.2
   |_=>exact c.elim
  ·show MapR Y (n .pubs) rF _;rw[o .pubs id];exact map
end
def FrameR (h:H)(Z:Col→Nat)(s:St)(Y:H)(n:Col→Nat)(b:St):Prop:=
 (∀j,j<h.next→(∀C,live s Z C→Z C≠j)→Y.get j=h.get j)∧(∀C,live b n C→(∃C0,live s Z C0∧Z C0=n C)∨h.next≤n C)∧h.next≤Y.next
def FrameR.trans {q:H}{m:Col→Nat}{d:St}(x:FrameR h Z s j N p)(y:FrameR j N p q m d):FrameR h Z s q m d:=by
 obtain⟨l,i,u⟩:=x;obtain⟨o,r,v⟩:=y;refine⟨fun t k c=>?_,fun C b=>?_,by omega⟩
 ·rw[o t (by omega) fun C b e=>?_]
  ·exact l t k c
  ·rcases i C b with⟨C0,g1,g2⟩|g
   ·exact c C0 g1 (by rw[g2,e])
   ·omega
 ·rcases r C b with⟨C0,g1,g2⟩|g
  ·rcases i C0 g1 with⟨C1,f1,f2⟩|f
   ·exact .inl ⟨C1,f1,by rw[f2,g2]⟩
   ·exact .inr (by omega)
  ·exact .inr (by omega)
def FrameR.at {h3:H}(x:Ext h j)(y:At i j h3)(b:(∃C,live s Z C∧Z C=i)∨h.next≤i)(l:∀C,live p Z C→live s Z C):FrameR h Z s h3 Z p:=
 ⟨fun g d f=>by
  rw[y.2 g fun e=>?_]
  ·exact x.get g d
  ·rcases b with⟨C,h1,j⟩|b
   ·exact f C h1 (by rw[j,e])
   ·omega,fun C c=>.inl ⟨C,l C c,rfl⟩,by rw[y.1];exact x.next⟩
def FrameR.ext {Y:H}(x:Ext h Y):FrameR h Z s Y Z s:=⟨fun j c _=>x.get j c,fun C b=>.inl ⟨C,b,rfl⟩,x.next⟩
def oA {n:Col→Nat}{l:kC (Bs×aCd)}(t:∀d,d≠c→aE l d=aE s.seats d)(b:∀C,¬atC c C→n C=Z C)(g:∀C,atC c C→live {s with seats:=l} n C→(live s Z C∧n C=Z C)∨n0≤n C):∀C,live {s with seats:=l} n C→(∃C0,live s Z C0∧Z C0=n C)∨n0≤n C:=fun C f=>by
 by_cases e:atC c C
 ·exact(g C e f).imp_left fun h=>⟨C,h.1,h.2.symm⟩
 ·left;refine⟨C,?_,(b C e).symm⟩
  cases C with
  |seat d=>simpa only[live,t d e]using f
  |lst d=>simpa only[live,t d e]using f
  |row d=>simpa only[live,t d e,b (.row d) e,b (.lst d) e]using f
  |frow o=>simpa only[live,b (.frow o) id,b (.flst o) id]using f
  |_=>exact f
def wK {n:Col→Nat}{l:kC (Int×Sb)}(o:∀d,d≠I→aE l d=aE s.subs d)(c:∀C,¬atO I C→n C=Z C)(f:∀C,atO I C→live {s with subs:=l} n C→(live s Z C∧n C=Z C)∨n0≤n C):∀C,live {s with subs:=l} n C→(∃C0,live s Z C0∧Z C0=n C)∨n0≤n C:=fun C e=>by
 by_cases b:atO I C
 ·exact(f C b e).imp_left fun h=>⟨C,h.1,h.2.symm⟩
 ·left;refine⟨C,?_,(c C b).symm⟩
  cases C with
  |sb d=>simpa only[live,o d b]using e
  |flst d=>simpa only[live,o d b]using e
  |past d=>simpa only[live,o d b]using e
  |still d=>simpa only[live,o d b]using e
  |got d=>simpa only[live,o d b]using e
  |msgs d t=>simpa only[live,o d b]using e
  |frow d=>simpa only[live,o d b,c (.frow d) b,c (.flst d) b]using e
  |row d=>simpa only[live,c (.row d) id,c (.lst d) id]using e
  |_=>exact e
def Rep.keptM (r:Rep h j N p n)(B:h.next≤j.next){k:kC (Bs×Msg)}(x:At (N .kept) j g)(m:MapR g (N .kept) cC (k.map fun x=>(x.1,.agg ⟨aG x.2⟩))):Rep h g N {p with kept:=k} n:=by
 have l:∀C,live {p with kept:=k} N C↔live p N C:=fun C=>by cases C<;>exact Iff.rfl
 refine r.upd (fun C=>C=.kept) (by rw[x.1];exact kQ _) B (fun C j _=>⟨(l C).1 j,rfl⟩) (fun C j _=>.inl ⟨(l C).1 j,rfl⟩) (fun C C' _ _ c f _ _=>by rw[c,f]) (fun C b a=>x.2 _ fun e=>a (r.inj _ _ b trivial e)) (fun C a=>⟨?_,by cases C<;>simp[oW]⟩) (fun d o t=>⟨fun j=>?_,fun j=>?_,fun j=>?_,fun j=>dC rfl j⟩) (fun C a=>?_)
 ·cases C<;>simp[eR]
  exact dC rfl a
 ·cases j
 ·cases j
 ·cases j
 ·subst a;exact m
def nmS (Z:Col→Nat)(c:Bs)(q p r:Nat):Col→Nat
 | .seat d=>if d=c then q else Z (.seat d)
 | .lst d=>if d=c then p else Z (.lst d)
 | .row d=>if d=c then r else Z (.row d)
 |C=>Z C
def tS (C:Col)(h:¬atC c C):nmS N c q n i C=N C:=by
 cases C<;>first|rfl|exact kL h
def aVf (Z:Col→Nat)(c:Bs)(q p r:Nat):nmS Z c q p r (.seat c)=q∧nmS Z c q p r (.lst c)=p∧nmS Z c q p r (.row c)=r:=⟨kM rfl,kM rfl,kM rfl⟩
def cI {C:Col}(h:atC B C):C=.seat B∨C=.lst B∨C=.row B:=by
 cases C<;>simp only[atC]at h<;>subst h<;>simp
def aAq {Y X:Type}[DecidableEq Y]{f g:Y→kA}{c:Y}{v:kA}(a:∀d,d≠c→f d=g d):∀{l:kC (Y×X)},(l.map (·.1)).Nodup→aM (l.map fun x=>(x.1,f x.1)) c v=aM (l.map fun x=>(x.1,g x.1)) c v
 |[],_=>rfl
 |(k,b)::r,h=>by
  simp only[mH,tW]at h;simp only[mH,aM];split
  ·rename_i e;subst e;congr 1;refine List.map_congr_left fun x i=>?_;rw[a x.1 fun e=>h.1 (by rw[←e];exact mN i)]
  ·rename_i e;rw[a k e,aAq a h.2]
def jZ {Y X:Type}[DecidableEq Y]{f g:Y→kA}{c:Y}{a:X}(b:∀d,d≠c→f d=g d){l:kC (Y×X)}(h:(l.map (·.1)).Nodup):aM (l.map fun x=>(x.1,f x.1)) c (g c)=(aM l c a).map fun x=>(x.1,g x.1):=by
 rw[aAq b h,wN (fun c (_:X)=>g c) c a]
def Rep.keysS (r:Rep h j N p n):(p.seats.map (·.1)).Nodup:=by
 have:=(r.ok .seats).nodup
 rwa [List.map_map]at this
section
variable {D:CF}{X:H}{fil nam:Bs→Bool}{tak:Bs→Bs→Bool}(Y:K2 D X fil nam tak){B:H}
include Y
def T51 (t:HasT X h)(j:3≤h.next)(m:Msg):∃f,CI D 81 [.agg ⟨aG m⟩] h=some (.bool (nam m.topic&&decide (m.qos≤2)),f)∧Ext h f:=by
 obtain⟨c,b⟩:=eX (h.push (.cells (aG m) (some 0)));have e:A.box 4 (.agg ⟨aG m⟩) h=some (aA h.next,c):=by rw[b];rfl
 have x:Ext h c:=by rw[b];exact Ext.push h _
 have g:c.get h.next=some (.cells (aG m) (some 0)):=by rw[b,H.get_push,kM rfl]
 have l:=ld Y g 0 rfl;have i:=ld Y g 2 rfl;have d:CI D 91 [str m.topic] c=_:=iC (Y.na c m.topic (t.ext Y.tab j x));have q:decide ((m.qos:Int)≤2)=decide (m.qos≤2):=by rw[mK];omega
 refine⟨c,cBu 0 _ h (Y.no 81 _ _ (by decide)) ?_,x⟩
 cases n:nam m.topic with
 |true=>rw[n]at d;simp only[F81,bJk,e,qS,sR,l,i,d,cG,q,mF]
 |false=>rw[n]at d;simp only[F81,bJk,e,qS,sR,l,i,d,mG]
def T36 (hT:HasT X B)(n:3≤B.next)(r:Rep B h Z s a)(d:Ext B h)(m:Msg):∃c,CI D 61 [aA (Z .keep),.agg ⟨aG m⟩] h=some (.bool (fH nam s m).1,c)∧Rep B c Z (fH nam s m).2 a∧Ext B c∧h.next≤c.next∧FrameR h Z s c Z (fH nam s m).2:=by
 obtain⟨j,b⟩:=eX (h.push (.cells (aG m) (some 0)));have G:A.box 4 (.agg ⟨aG m⟩) h=some (aA h.next,j):=by rw[b];rfl
 have V:Ext h j:=by rw[b];exact Ext.push h _
 have O:j.get h.next=some (.cells (aG m) (some 0)):=by rw[b,H.get_push,kM rfl]
 have n1:j.next=h.next+1:=by rw[b];rfl
 have M:A.load true 4 (aA h.next) j=some (.agg ⟨aG m⟩):=by rw[aI,O];rfl
 have k:=d.trans V;obtain⟨y,i,W⟩:=T51 Y (hT.ext Y.tab n k) (kR n k.next) m;have n0:=aCt (t:=59) (by kernel_rfl) (Z .keep);have x:=V.trans W;have r2:=r.ext d.next x;have l:=d.trans x;have I:y.get h.next=some (.cells (aG m) (some 0)):=by rw[W.get _ (by omega)];exact O
 have q:=fun v c=>cCi 0 (aA (Z .keep)) (.agg ⟨aG m⟩) h (r:=(v,c)) (Y.no 61 _ _ (by decide));unfold fH
 cases f:(nam m.topic&&decide (m.qos≤2))with
 |false=>
  have K:¬(nam m.topic=true∧m.qos≤2):=by
   intro e;rw[e.1,kN e.2]at f;cases f
  rw[f]at i;rw[kL K];refine⟨y,q _ _ ?_,r2,l,x.next,FrameR.ext x⟩;simp only[F61,aXu,bFn,G,qS,n0,M,i]
 |true=>
  have K:nam m.topic=true∧m.qos≤2:=by
   rw[pA]at f;exact⟨f.1,tE f.2⟩
  rw[f]at i;rw[kM K];have Q:=ld Y I 1 rfl;have l0:=ld Y I 0 rfl;have R:=(r2.lt .kept trivial);have w:A.z prog .eql 9 (str m.payload) (.string ⟨⟨[]⟩⟩)=_:=bX m.payload [];by_cases E:m.payload=[]
  ·rw[kN E]at w;have L:=ld Y (r2.ok .keep) 0 rfl;obtain⟨h3,u3,S,p⟩:=bKk (r2.ok .kept) m.topic;rw[wS (fun(_:Bs) (m:Msg)=>Value.agg ⟨aG m⟩)]at S;refine⟨h3,q _ _ ?_,?_,p.ext l R.1,by rw[p.1];exact x.next,FrameR.at x p (.inl ⟨.kept,trivial,rfl⟩) fun C J=>by cases C<;>exact J⟩
   ·simp only[F61,aXu,bFn,bOm,G,qS,n0,M,i,sR,Q,w,L,l0,u3]
   ·simp only[E,mE];exact r2.keptM (kR d.next x.next) p S
  ·rw[kO E]at w;obtain⟨h3,g⟩:∃h3,h3=y.put h.next (.cells (aG {m with retain:=true}) (some 0)):=⟨_,rfl⟩;have e3:A.store 1 (.pointer (some ⟨h.next,3,none⟩)) (.bool true) y=some h3:=by rw[qU,I,g];rfl
   have o:Ext h h3:=by rw[g];exact Ext.put x _ _ (kQ _)
   have P:h3.get h.next=some (.cells (aG {m with retain:=true}) (some 0)):=by rw[g,H.get_put,kM rfl]
   have r3:=r.ext d.next o;have L:=ld Y (r3.ok .keep) 0 rfl;have t0:=ld Y P 0 rfl;have N:A.load true 4 (aA h.next) h3=some (.agg ⟨aG {m with retain:=true}⟩):=by rw[aI,P];rfl
   obtain⟨h4,u4,U,u⟩:=aPy (r3.ok .kept) m.topic (.agg ⟨aG {m with retain:=true}⟩);rw[wN (fun(_:Bs) (m:Msg)=>Value.agg ⟨aG m⟩)]at U;refine⟨h4,q _ _ ?_,?_,u.ext (d.trans o) R.1,by rw[u.1];exact o.next,FrameR.at o u (.inl ⟨.kept,trivial,rfl⟩) fun C J=>by cases C<;>exact J⟩
   ·simp only[F61,aXu,bFn,bOm,cEy,G,qS,n0,M,i,sR,Q,w,e3,L,t0,N,u4]
   ·simp only[E,mD];exact r3.keptM (kR d.next o.next) u U
def T37 (r:Rep B h Z s a)(hB:Ext B h)(e:Nat→kA)(v:kA)(n:cD):∃i m b,CI D 62 [aA (Z .mdl),eF e v n] h=some (.tuple ⟨[.bool b,.bool (aS s n).isSome]⟩,i)∧m .chk=Z .chk∧Rep B i m ((aS s n).getD s) a∧Ext B i∧h.next≤i.next∧FrameR h Z s i m ((aS s n).getD s):=by
 obtain⟨w,f3⟩:=eX (h.push (.cells (bU e v n) (some 0)));have e1:A.box 35 (eF e v n) h=some (aA h.next,w):=by rw[f3];rfl
 have x1:Ext h w:=by rw[f3];exact Ext.push h _
 have n1:w.next=h.next+1:=by rw[f3];rfl
 have g1:w.get h.next=some (.cells (bU e v n) (some 0)):=by rw[f3,H.get_push,kM rfl]
 have r1:=r.ext hB.next x1;have d3:=hB.trans x1;have N:=ld Y g1 3 rfl;have M:=ld Y g1 2 rfl;have k3:=ld Y g1 12 rfl;have E:=T38 Y r1 n.client;have q:=fun v' i=>cCh 0 (aA (Z .mdl)) (eF e v n) h (r:=(v',i)) (Y.no 62 _ _ (by decide));have U:aS s n=none→∃i m b,some ((.tuple ⟨[.bool false,.bool false]⟩:kA),w)=some (.tuple ⟨[.bool b,.bool (aS s n).isSome]⟩,i)∧m .chk=Z .chk∧Rep B i m ((aS s n).getD s) a∧Ext B i∧h.next≤i.next∧FrameR h Z s i m ((aS s n).getD s):=fun o=>⟨w,Z,false,by rw[o];rfl,rfl,by rw[o];exact r1,d3,x1.next,by rw[o];exact FrameR.ext x1⟩;have J:aS s n=some {s with seats:=aM s.seats n.client ⟨[],n.conn,n.clean⟩}→∃i m,(∀(x6:kA) (kn:Pk.K2 (kA×H)),bFm (CI D) w (aA (Z .mdl)) (aA h.next) (.bool false) x6 (fun x6 x3 x4 h=>bFl h x3 x4 x6 kn)=kn (.bool false) (.bool true) i)∧
  m .chk=Z .chk∧Rep B i m ((aS s n).getD s) a∧Ext B i∧h.next≤i.next∧FrameR h Z s i m ((aS s n).getD s):=by
  intro o;rw[o];obtain⟨K,u3,lr,x2⟩:=T28 Y (h:=w);obtain⟨q,hq⟩:=eX (K.next);obtain⟨p,hp⟩:=eX (w.next);rw[←hp]at u3 lr;have l4:p<q:=by rw[hq];exact lr.lt
  obtain⟨h3,l⟩:=eX (K.push (.cells [aA p,iN 0,.bool false] (some 0)));have b3:A.zI TaI.Z128L [(0,1,aA p)]=some (.agg ⟨[aA p,iN 0,.bool false]⟩):=rfl;have e3:A.box 3 (.agg ⟨[aA p,iN 0,.bool false]⟩) K=some (aA q,h3):=by rw[l,hq];rfl
  have x3:Ext h h3:=x1.trans (x2.trans (by rw[l];exact Ext.push K _));have r3:=r.ext hB.next x3;have m0:=ld Y (r3.ok .mdl) 0 rfl;have g3:h3.get h.next=some (.cells (bU e v n) (some 0)):=by rw[l,H.get_push,kL (by have:=x2.next;omega),x2.get _ (by omega)];exact g1
  have d4:=ld Y g3 3 rfl;obtain⟨h4,u4,m4,a4⟩:=aPy (r3.ok .seats) n.client (aA q);have n4:=r.lt .seats trivial;have q3:q≠Z .seats:=by have:=x2.next;omega
  have j4:p≠Z .seats:=by omega
  have g4:h4.get q=some (.cells [aA p,iN 0,.bool false] (some 0)):=by rw[a4.2 _ q3,l,hq,H.get_push,kM rfl]
  have v3:h4.get h.next=some (.cells (bU e v n) (some 0)):=by rw[a4.2 _ (by omega)];exact g3
  have b4:=ld Y v3 2 rfl;obtain⟨h5,L⟩:=eX (h4.put q (.cells [aA p,iN n.conn,.bool false] (some 0)));have e5:A.store 1 (.pointer (some ⟨q,1,none⟩)) (iN n.conn) h4=some h5:=by rw[qU,g4,L];rfl
  have g5:h5.get q=some (.cells [aA p,iN n.conn,.bool false] (some 0)):=by rw[L,H.get_put,kM rfl]
  have f4:h5.get h.next=some (.cells (bU e v n) (some 0)):=by rw[L,H.get_put,kL (by have:=x2.next;omega)];exact v3
  have t3:=ld Y f4 12 rfl;obtain⟨h6,R⟩:=eX (h5.put q (.cells [aA p,iN n.conn,.bool n.clean] (some 0)));have e6:A.store 1 (.pointer (some ⟨q,2,none⟩)) (.bool n.clean) h5=some h6:=by rw[qU,g5,R];rfl
  have g6:h6.get q=some (.cells [aA p,iN n.conn,.bool n.clean] (some 0)):=by rw[R,H.get_put,kM rfl]
  have n6:h6.next=K.next+1:=by rw[R,L,H.next_put,H.next_put,a4.1,l];rfl
  have l3:∀j,j≠q→j≠Z .seats→h6.get j=h3.get j:=fun j w K=>by rw[R,H.get_put,kL w,L,H.get_put,kL w,a4.2 _ K]
  have V:∀j,j<h.next→j≠Z .seats→h6.get j=h.get j:=fun j w K=>by rw[l3 j (by have:=x2.next;omega) K];exact x3.get j w
  have s3:h.next≤h6.next:=by have:=x2.next;omega
  obtain⟨a1,O,a3⟩:=aVf Z n.client q p p;refine⟨h6,nmS Z n.client q p p,fun x6 kn=>?_,rfl,r.seat hB.next s3 (fun d hd=>by rw[aC,kL (mV hd)]) tS True (fun C u I ht=>V _ (r.lt C u).2 fun e=>ht trivial (r.inj _ _ u trivial e)) (fun h=>dC trivial h) (fun _=>?_) (fun x hx=>?_) (fun C I u=>?_) (fun C C' I y3 u p3 _ he=>?_),⟨by have:=hB.next;omega,fun j W=>by rw[V j (by have:=hB.next;omega) (by omega)];exact hB.get j W⟩,s3,fun j W hn=>V j W fun e=>hn .seats trivial e.symm,oA (fun d hd=>by rw[aC,kL (mV hd)]) tS (fun C I u=>?_),s3⟩
  ·simp only[bFm,bFl,qS,u3,b3,e3,m0,d4,u4,b4,e5,t3,e6,sR,sS]
  ·have:=jZ (a:=(⟨[],n.conn,n.clean⟩:aCd)) (f:=fun d=>aA (Z (.seat d))) (g:=fun d=>aA (nmS Z n.client q p p (.seat d))) (c:=n.client) (fun d hd=>by simp only[nmS,kL hd]) r.keysS;rw[a1]at this;rw[←this];exact m4.congr (by rw[R,H.get_put,kL (mV q3),L,H.get_put,kL (mV q3)])
  ·rw[aC,kM rfl]at hx;cases hx;rw[a1,O,a3];refine⟨g6,by simp,eJ,⟨?_,by omega,.inl ⟨rfl,rfl⟩,by simp[sid]⟩,by simp[sid]⟩;rw[l3 p (by omega) j4,l,H.get_push,kL (by omega)];exact lr.get
  ·rcases cI I with rfl|rfl|rfl
   ·rw[a1];exact .inr ⟨by have:=x2.next;omega,by omega⟩
   ·rw[O];exact .inr ⟨by omega,by omega⟩
   ·exact dC (a3.trans O.symm) u.2
  ·rcases cI I with rfl|rfl|rfl<;>rcases cI y3 with rfl|rfl|rfl
   ·rfl
   ·rw[a1,O]at he;omega
   ·exact dC (a3.trans O.symm) p3.2
   ·rw[a1,O]at he;omega
   ·rfl
   ·exact dC (a3.trans O.symm) p3.2
   ·exact dC (a3.trans O.symm) u.2
   ·exact dC (a3.trans O.symm) u.2
   ·rfl
  ·rcases cI I with rfl|rfl|rfl
   ·rw[a1];exact .inr (by have:=x2.next;omega)
   ·rw[O];exact .inr (by omega)
   ·exact dC (a3.trans O.symm) u.2
 by_cases G:n.conn<1
 ·have o:aS s n=none:=by unfold aS;rw[kM G]
  obtain⟨i,m,b,w1,w2⟩:=U o;refine⟨i,m,b,q _ _ ?_,w2⟩;rw[←w1];simp only[F62,aMz,aRp,aTa,aRo,aRn,e1,qS,sR,N,E,M,zZ,kN G]
 have P:=kO G
 cases k:aE s.seats n.client with
 |none=>
  rw[k]at E;have n0:A.z prog .neq 125 (.pointer none) (.pointer none)=some (.bool false):=by kernel_rfl
  obtain⟨i,m,w1,w2,w3,w4⟩:=J (by unfold aS;rw[kL G,k]);have o:aS s n=some {s with seats:=aM s.seats n.client ⟨[],n.conn,n.clean⟩}:=by unfold aS;rw[kL G,k]
  refine⟨i,m,false,q _ _ ?_,w2,w3,w4⟩;simp only[F62,aMz,aRp,aTa,aRo,aRn,bBb,e1,qS,sR,N,E,M,zZ,P,n0];rw[o];exact w1 _ _
 |some x=>
  rw[k]at E;have n0:=bKi (t:=125) (by kernel_rfl) (Z (.seat n.client));have gs:=r1.ok (.seat n.client) x k;have s1:=ld Y gs 1 rfl;have s2:=ld Y gs 2 rfl;by_cases hx:0<x.conn
  ·have o:aS s n=none:=by unfold aS;simp only[kL G,k,kM hx]
   obtain⟨i,m,b,w1,w2⟩:=U o;refine⟨i,m,b,q _ _ ?_,w2⟩;rw[←w1];simp only[F62,aMz,aRp,aTa,aRo,aRn,e1,qS,sR,N,E,M,zZ,P,n0,s1,zY,kN hx]
  have m3:=kO hx;have fr:¬(x.clean=false∧n.clean=false)→aS s n=some {s with seats:=aM s.seats n.client ⟨[],n.conn,n.clean⟩}:=fun hn=>by
   unfold aS;simp only[kL G,k,kL hx,kL hn]
  cases j3:x.clean with
  |true=>
   rw[j3]at s2;have o:=fr (by rw[j3];simp);obtain⟨i,m,w1,w2,w3,w4⟩:=J o;refine⟨i,m,false,q _ _ ?_,w2,w3,w4⟩;simp only[F62,aMz,aRp,aTa,aRo,aRn,bBb,e1,qS,sR,N,E,M,zZ,P,n0,s1,zY,m3,s2];rw[o];exact w1 _ _
  |false=>
   rw[j3]at s2
   cases i3:n.clean with
   |true=>
    have S:=k3;rw[i3]at S;have o:=fr (by rw[i3];simp);obtain⟨i,m,w1,w2,w3,w4⟩:=J o;refine⟨i,m,false,q _ _ ?_,w2,w3,w4⟩;simp only[F62,aMz,aRp,aTa,aRo,aRn,bBb,e1,qS,sR,N,E,M,zZ,P,n0,s1,zY,m3,s2,S];rw[o];exact w1 _ _
   |false=>
    have S:=k3;rw[i3]at S;have o:aS s n=some {s with seats:=aM s.seats n.client {x with conn:=n.conn,clean:=n.clean}}:=by
     unfold aS;simp only[kL G,k,kL hx,kM (show x.clean=false∧n.clean=false from⟨j3,i3⟩)]
    have lq:=r.lt (.seat n.client) ⟨x,k⟩;obtain⟨K,Q⟩:=eX (w.put (Z (.seat n.client)) (.cells [aA (Z (.lst n.client)),iN n.conn,.bool x.clean] (some 0)));have w2:A.store 1 (.pointer (some ⟨Z (.seat n.client),1,none⟩)) (iN n.conn) w=some K:=by rw[qU,gs,Q];rfl
    have g2:K.get (Z (.seat n.client))=some (.cells [aA (Z (.lst n.client)),iN n.conn,.bool x.clean] (some 0)):=by rw[Q,H.get_put,kM rfl]
    have e4:K.get h.next=some (.cells (bU e v n) (some 0)):=by rw[Q,H.get_put,kL (by omega)];exact g1
    have z3:=ld Y e4 12 rfl;obtain⟨h3,l⟩:=eX (K.put (Z (.seat n.client)) (.cells [aA (Z (.lst n.client)),iN n.conn,.bool n.clean] (some 0)));have w3:A.store 1 (.pointer (some ⟨Z (.seat n.client),2,none⟩)) (.bool n.clean) K=some h3:=by rw[qU,g2,l];rfl
    have g3:h3.get (Z (.seat n.client))=some (.cells [aA (Z (.lst n.client)),iN n.conn,.bool n.clean] (some 0)):=by rw[l,H.get_put,kM rfl]
    have o3:∀j,j≠Z (.seat n.client)→h3.get j=w.get j:=fun j W=>by rw[l,H.get_put,kL W,Q,H.get_put,kL W]
    have n3:h3.next=w.next:=by rw[l,Q];rfl
    refine⟨h3,Z,true,q _ _ ?_,rfl,?_,⟨by rw[n3];exact d3.next,fun j W=>by rw[o3 j (by omega)];exact d3.get j W⟩,by rw[n3];exact x1.next,?_⟩
    ·rw[o];simp only[F62,aMz,aRp,aTa,aRo,aRn,bBb,bFm,bFl,e1,qS,sR,sS,N,E,M,zZ,P,n0,s1,zY,m3,s2,S,w2,z3,w3];rfl
    ·rw[o];refine r1.seat d3.next (by rw[n3];exact kQ _) (fun d hd=>by rw[aC,kL (mV hd)]) (fun _ _=>rfl) False (fun C u I _=>o3 _ fun e=>I (by have:=r1.inj C (.seat n.client) u ⟨x,k⟩ e;rw[this];exact rfl)) (fun _=>⟨eS k,rfl⟩) (fun h=>h.elim) (fun y hy=>?_) (fun C I u=>.inl ⟨?_,rfl⟩) (fun C C' I y3 u p3 k4 he=>?_)
     ·rw[aC,kM rfl]at hy;cases hy;refine⟨g3,?_⟩;have ls:=r1.ok (.lst n.client) x k;exact ls.but (by rw[n3];exact kQ _) (o3 _ fun e=>by have:=r1.inj (.lst n.client) (.seat n.client) ⟨x,k⟩ ⟨x,k⟩ e;cases this) fun i4=>o3 _ fun e=>by have:=r1.inj (.row n.client) (.seat n.client) ⟨⟨x,k⟩,i4⟩ ⟨x,k⟩ e;cases this
     ·rcases cI I with rfl|rfl|rfl
      ·exact⟨x,k⟩
      ·exact⟨x,k⟩
      ·exact⟨⟨x,k⟩,u.2⟩
     ·have:live s Z C:=by
       rcases cI I with rfl|rfl|rfl
       ·exact⟨x,k⟩
       ·exact⟨x,k⟩
       ·exact⟨⟨x,k⟩,u.2⟩
      have:=(r1.lt C this).2;omega
    ·rw[o];have lv:∀C,atC n.client C→live {s with seats:=aM s.seats n.client {x with conn:=n.conn,clean:=n.clean}} Z C→live s Z C:=fun C I u=>by
      rcases cI I with rfl|rfl|rfl
      ·exact⟨x,k⟩
      ·exact⟨x,k⟩
      ·exact⟨⟨x,k⟩,u.2⟩
     exact⟨fun j W hn=>by rw[o3 j fun e=>hn (.seat n.client) ⟨x,k⟩ e.symm];exact x1.get j W,oA (fun d hd=>by rw[aC,kL (mV hd)]) (fun _ _=>rfl) (fun C I u=>.inl ⟨lv C I u,rfl⟩),by rw[n3];exact x1.next⟩
end
def uK:∀l:kC kG,A.zV (l.map u8)=some l
 |[]=>rfl
 |b::l=>by
  show(A.zV (l.map u8)).map (fun r=>UInt8.ofNat ((b.toNat:Int).toNat)::r)=_;rw[uK l];simp
structure Buf (h:H)(v:kA)(q cap:Nat)(es:kC kG):Prop where
 eq:v=.slice (some ⟨q,0,none⟩) es.length (2*cap+1)
 lt:q<h.next
 le:es.length≤cap
 get:∃cs,h.get q=some (.cells cs (some 1))∧cs.length=cap∧cs.take es.length=es.map u8
def Buf.keep {s:kC kG}(b:Buf h v q n s)(d:h.next≤j.next)(a:j.get q=h.get q):Buf j v q n s:=by
 obtain⟨c,g,r⟩:=b.get;exact⟨b.eq,kT b.lt d,b.le,c,by rw[a];exact g,r⟩
def Buf.make (h:H)(f:z.length=1)(c:Nat)(g:c≤1100000000000):∃a,A.zP 1 1 z (iN 0) (iN (c:Int)) h=some (.slice (some ⟨h.next,0,none⟩) 0 (2*c+1),a)∧Buf a (.slice (some ⟨h.next,0,none⟩) 0 (2*c+1)) h.next c []∧Ext h a∧a.next=h.next+1:=by
 obtain⟨a,b⟩:∃a,a=h.push (.cells (A.zeros z c) (some 1)):=⟨_,rfl⟩;have l:∀n,(A.zeros z n).length=n:=fun n=>by rw[wJ,f,tA]
 refine⟨a,?_,⟨rfl,by rw[b];exact mQ _,sE _,_,by rw[b,H.get_push,kM rfl],l c,by simp⟩,by rw[b];exact Ext.push h _,by rw[b];rfl⟩;have e:Nat.ble (1*c) (2^47)=true:=ble_iff.2 (by omega);have d:Nat.ble c (2^47)=true:=ble_iff.2 (by omega);show(bif Nat.ble 0 c&&Nat.ble (1*c) (2^47)&&Nat.ble c (2^47)then some (Value.slice (some ⟨h.next,0,none⟩) 0 (2*c+1),h.push (.cells (A.zeros z c) (some 1)))else none)=_
 rw[e,d,←b,show Nat.ble 0 c=true from ble_iff.2 (sE _)];rfl
def Buf.app1 {s:kC kG}{c:kG}(b:Buf h v q n s)(l:A.elems 1 x h=some [u8 c])(p:A.zG x=1)(k:s.length+1≤n):
 ∃f a,A.zF 1 1 v x h=some (f,a)∧Buf a f q n (s++[c])∧At q h a:=by
 obtain⟨e,m,o,t⟩:=b.get;rw[b.eq];have g:Nat.beq 1 0=false:=rfl;have i:Nat.ble (s.length+1) ((2*n+1) / 2)=true:=ble_iff.2 (by omega);have j:Nat.ble (0+(s.length+1)*1) e.length=true:=ble_iff.2 (by omega);obtain⟨a,d⟩:∃a,a=h.put q (.cells (splice e (0+s.length*1) [u8 c]) (some 1)):=⟨_,rfl⟩;refine⟨.slice (some ⟨q,0,none⟩) (s++[c]).length (2*n+1),a,?_,⟨rfl,by rw[d];exact b.lt,by rw[kX];exact k,_,by rw[d,H.get_put,kM rfl],?_,?_⟩,by rw[d];exact At.put h q _⟩
 ·simp only[A.zF,l,p,g,sW,m,i,sV,j,kX,List.length_singleton];rw[←d]
 ·rw[aZ];exact o;simp only[List.length_singleton];omega
 ·have hle:s.length≤e.length:=by omega
  simp only[splice,sR,tA];rw[List.take_append_of_le_length (by simp only[kX,pH,List.length_singleton];omega),rJ,t];rw[sA (by simp)];rfl
def Buf.b2s {h:H}{v:kA}{q n:Nat}{s:kC kG}(b:Buf h v q n s):A.b2s v h=some (str s):=by
 obtain⟨c,g,l,t⟩:=b.get;have hle:=b.le;have e:A.elems 1 v h=some (s.map u8):=by
  rw[b.eq];simp only[A.elems];by_cases a:s.length=0
  ·have:s=[]:=pY.1 a;subst this;rfl
  ·rw[show Nat.beq s.length 0=false by rw[T.beq_dec,kU];exact a];simp only[sW,g];rw[show Nat.ble (0+s.length*1) c.length=true from ble_iff.2 (by omega)];simp only[sV,mI,tA,t]
 rw[b.eq]at e⊢;simp only[A.b2s,e,uK];rfl
def cJo (h:H)(f:z.length=1)(a:Int)(b:kG)(e:a=(b.toNat:Int)):∃c,A.zC 1 1 z [(0,1,iU a)] h=some (.slice (some ⟨h.next,0,none⟩) 1 3,c)∧A.elems 1 (.slice (some ⟨h.next,0,none⟩) 1 3) c=some [u8 b]∧Ext h c∧c.next=h.next+1:=by
 subst e;obtain⟨c,d⟩:∃c,c=h.push (.cells [u8 b] (some 1)):=⟨_,rfl⟩;refine⟨c,by rw[d];exact aX h f rfl rfl,?_,by rw[d];exact Ext.push h _,by rw[d];rfl⟩;have g:c.get h.next=some (.cells [u8 b] (some 1)):=by rw[d,H.get_push,kM rfl]
 simp only[A.elems,g];rfl
section
variable (fil:Bs→Bool)
def aIk (f:Bs)(q:Nat)(h:r.length≤16):(iZ fil r f q).2.length≤16:=by
 unfold iZ;split
 ·exact h
 ·split
  ·simpa using h
  ·split
   ·exact h
   ·rename_i a;have:=rV r f;simp only[kX,pH,kY,pI];omega
def aAl (f:Bs)(h:q<256):(iZ fil r f q).1<256:=by
 unfold iZ;split
 ·show 128<256;omega
 ·split
  ·exact h
  ·split
   ·show 128<256;omega
   ·exact h
def aPp (f:Bs)(h:R.length≤16):(nF R f).length≤16:=by
 unfold nF;split
 ·simp only[kX,pH,pI];omega
 ·exact h
end
def rX {Y X:Type}[DecidableEq Y](c:Y)(a b:X):∀l:kC (Y×X),aM (aM l c a) c b=aM l c b
 |[]=>by simp[aM]
 |(k,x)::r=>by
  simp only[aM];split
  ·rename_i e;subst e;simp[aM]
  ·rename_i e;simp only[aM,e,mD,rX c a b r]
def iL {Y X:Type}[DecidableEq Y]{c:Y}{a:X}:∀{l:kC (Y×X)},aE l c=some a→aM l c a=l
 |[],h=>by simp[aE]at h
 |(k,x)::r,h=>by
  simp only[aE]at h;simp only[aM];split
  ·rename_i e;rw[kM e]at h;cases h;rw[e]
  ·rename_i e;rw[kL e]at h;rw[iL h]
def Rep.frame (r:Rep h j N p n)(B:h.next≤j.next)(b:j.next≤g.next)(a:∀C,live p N C→g.get (N C)=j.get (N C)):Rep h g N p n:=
 r.upd (fun _=>False) b B (fun _ j _=>⟨j,rfl⟩) (fun _ _ j=>j.elim) (fun _ _ _ _ j=>j.elim) (fun C l _=>a C l)
  (fun C _=>⟨by cases C<;>simp[eR],by cases C<;>simp[oW]⟩) (fun _ _ _=>⟨id,id,id,fun j=>j rfl⟩) fun _ j=>j.elim
def Rep.row {B h j:H}{N:Col→Nat}{s:St}{a:Nat}(r:Rep B h N s a)(Q:Ext B h){c:Bs}{x:aCd}(k:aE s.seats c=some x){v:kA}(lr:ListR h (N (.lst c)) v x.row)(p:∀i,sid v=some i→i=N (.row c)){R:Row}(lt:ListTo h (N (.lst c)) v j R)(W:R.length≤16):
 ∃n,n .chk=N .chk∧n (.seat c)=N (.seat c)∧Rep B j n {s with seats:=aM s.seats c {x with row:=R}} a∧Ext B j∧h.next≤j.next∧(∀C,live {s with seats:=aM s.seats c {x with row:=R}} n C→(live s N C∧n C=N C)∨h.next≤n C)∧
  ∀w,w<h.next→(∀C,live s N C→N C≠w)→j.get w=h.get w:=by
 obtain⟨v',M,L,E⟩:=lt;obtain⟨m,b⟩:=eX ((sid v').getD (N (.lst c)));obtain⟨J,P,V⟩:=aVf N c (N (.seat c)) (N (.lst c)) m;have lv:∀i,sid v=some i→live s N (.row c):=fun i S=>⟨⟨x,k⟩,fun e=>lr.ne (by rw[S,p i S,e])⟩;have t:∀w,(w=N (.lst c)∨sid v=some w)→∃C,live s N C∧atC c C∧N C=w:=fun w o=>by
  rcases o with rfl|o
  ·exact⟨.lst c,⟨x,k⟩,rfl,rfl⟩
  ·exact⟨.row c,lv w o,rfl,(p w o).symm⟩
 have q:∀{l:kC (Bs×aCd)},live {s with seats:=l} (nmS N c (N (.seat c)) (N (.lst c)) m) (.row c)→(live s N (.row c)∧m=N (.row c))∨(h.next≤m∧m<j.next):=fun{l} g=>by
  have Z:m≠N (.lst c):=fun e=>g.2 (by rw[V,P,e])
  cases U:sid v' with
  |none=>rw[U]at b;exact dC b Z
  |some i=>
   rw[U]at b;have b:m=i:=b;rcases L i U with I|I
   ·exact .inl ⟨lv i I,b.trans (p i I)⟩
   ·exact .inr ⟨by rw[b];exact I,by rw[b];exact M.row.lt i U⟩
 have u:∀C,atC c C→live {s with seats:=aM s.seats c {x with row:=R}} (nmS N c (N (.seat c)) (N (.lst c)) m) C→(live s N C∧nmS N c (N (.seat c)) (N (.lst c)) m C=N C)∨(h.next≤nmS N c (N (.seat c)) (N (.lst c)) m C∧nmS N c (N (.seat c)) (N (.lst c)) m C<j.next):=fun C f g=>by
  rcases cI f with rfl|rfl|rfl
  ·exact .inl ⟨⟨x,k⟩,J⟩
  ·exact .inl ⟨⟨x,k⟩,P⟩
  ·rw[V];exact q g
 refine⟨nmS N c (N (.seat c)) (N (.lst c)) m,rfl,J,?_,⟨kR Q.next E.next,fun w o=>?_⟩,E.next,fun C g=>?_,fun w o f=>E.get w o fun e=>?_⟩
 ·refine r.seat Q.next E.next (fun d Y=>by rw[aC,kL (mV Y)]) tS False (fun C g f _=>E.get _ (r.lt C g).2 fun e=>?_) (fun _=>⟨eS k,J⟩) (fun h=>h.elim) (fun y hy=>?_) u (fun C C' f X g d3 b3 he=>?_)
  ·obtain⟨C',z,g2,G⟩:=t _ e;exact f (by rw[←r.inj C' C z g G];exact g2)
  ·rw[aC,kM rfl]at hy;cases hy;rw[J,P,V];refine⟨?_,W,v',M,fun i S=>by rw[b,S];rfl⟩;rw[E.get _ (r.lt (.seat c) ⟨x,k⟩).2 fun e=>?_]
   ·exact r.ok (.seat c) x k
   ·obtain⟨C',z,g2,G⟩:=t _ e;have:=r.inj C' (.seat c) z ⟨x,k⟩ G;subst this;rcases e with e|e
    ·have:=r.inj (.seat c) (.lst c) ⟨x,k⟩ ⟨x,k⟩ e;cases this
    ·have:=r.inj (.seat c) (.row c) ⟨x,k⟩ (lv _ e) (p _ e);cases this
  ·have O:∀C,atC c C→C≠.row c→nmS N c (N (.seat c)) (N (.lst c)) m C<h.next:=fun C f K=>by
    rcases cI f with rfl|rfl|rfl
    ·rw[J];exact(r.lt (.seat c) ⟨x,k⟩).2
    ·rw[P];exact(r.lt (.lst c) ⟨x,k⟩).2
    ·exact dC rfl K
   have I:C=.row c:=Classical.byContradiction fun K=>by have:=O C f K;omega
   have h2:C'=.row c:=Classical.byContradiction fun K=>by have:=O C' X K;omega
   rw[I,h2]
 ·rw[E.get w (kT o Q.next) fun e=>?_]
  ·exact Q.get w o
  ·obtain⟨C',z,_,G⟩:=t _ e;have:=(r.lt C' z).1;omega
 ·by_cases f:atC c C
  ·exact(u C f g).imp_right (·.1)
  ·left;refine⟨?_,tS C f⟩;have D:∀d,d≠c→aE (aM s.seats c {x with row:=R}) d=aE s.seats d:=fun d Y=>by rw[aC,kL (mV Y)]
   cases C with
   |seat d=>simpa only[live,D d f]using g
   |lst d=>simpa only[live,D d f]using g
   |row d=>simpa only[live,D d f,tS (.row d) f,tS (.lst d) f]using g
   |_=>exact g
 ·obtain⟨C',z,_,G⟩:=t _ e;exact f C' z G
def FrameN (n0:Nat)(h:H)(m:Col→Nat)(s:St)(a:H)(n:Col→Nat)(b:St):Prop:=
 (∀j,j<n0→(∀C,live s m C→m C≠j)→a.get j=h.get j)∧∀C,live b n C→(∃C0,live s m C0∧m C0=n C)∨n0≤n C
def FrameN.trans {q:H}{n m:Col→Nat}{d:St}(x:FrameN n0 h N p j n s)(y:FrameN n0 j n s q m d):FrameN n0 h N p q m d:=by
 obtain⟨k,i⟩:=x;obtain⟨l,o⟩:=y;refine⟨fun r b c=>?_,fun C a=>?_⟩
 ·rw[l r b fun C a e=>?_]
  ·exact k r b c
  ·rcases i C a with⟨C0,g1,g2⟩|g
   ·exact c C0 g1 (by rw[g2,e])
   ·omega
 ·rcases o C a with⟨C0,g1,g2⟩|g
  ·rcases i C0 g1 with⟨C1,f1,f2⟩|f
   ·exact .inl ⟨C1,f1,by rw[f2,g2]⟩
   ·exact .inr (by omega)
  ·exact .inr g
def FrameN.refl :FrameN n0 h N s h N s:=⟨fun _ _ _=>rfl,fun C a=>.inl ⟨C,a,rfl⟩⟩
def FrameN.same (g:∀a,a<n0→j.get a=h.get a):FrameN n0 h N p j N p:=⟨fun a c _=>g a c,fun C b=>.inl ⟨C,b,rfl⟩⟩
def FrameN.toR {n:Col→Nat}(x:FrameN h.next h N p j n s)(a:h.next≤j.next):FrameR h N p j n s:=⟨x.1,x.2,a⟩
def FrameR.toN {n:Col→Nat}(x:FrameR h N p j n s)(d:n0≤h.next):FrameN n0 h N p j n s:=
 ⟨fun e c a=>x.1 e (by omega) a,fun C b=>(x.2.1 C b).imp_right fun h=>by omega⟩
section
variable {D:CF}{Z:H}{fil nam:Bs→Bool}{tak:Bs→Bs→Bool}(k:K2 D Z fil nam tak){B:H}
include k
def bUw (hT:HasT Z B)(R:3≤B.next){K:cD}(no:NoteOk B v K)(kx:Pk.K1 (kA×H)):
 ∀(d w m:Nat) (h:H) (f:Col→Nat) (s:St) (x:aCd) (J:kC kG) (x8:kA),w+d=K.subs.length→d<m→Rep B h f s a→Ext B h→aE s.seats u=some x→f (.seat u)=n→f .chk=i→Buf h x8 q K.subs.length J→J.length=w→(∀C,live s f C→f C≠q)→B.next≤q→
  ∃o g l,aSi (CI D) L kx m (iN (K.subs.length:Int)) (iN (w:Int)) (aA n) v x8 h=kx l o∧g .chk=i∧
   Rep B o g {s with seats:=aM s.seats u {x with row:=(jE fil x.row (K.subs.drop w)).2}} a∧Ext B o∧h.next≤o.next∧Buf o l q K.subs.length (J++(jE fil x.row (K.subs.drop w)).1.map UInt8.ofNat)∧FrameN q h f s o g {s with seats:=aM s.seats u {x with row:=(jE fil x.row (K.subs.drop w)).2}}:=by
 intro d
 induction d with
 |zero=>
  intro w m h f s x J x8 hi hm r Q I hp G b S _ _;obtain⟨m,rfl⟩:=pS m (by omega);have hd:decide ((w:Int)<(K.subs.length:Int))=false:=kO (by omega);refine⟨h,f,x8,?_,G,?_,Q,kQ _,?_,?_⟩
  ·simp only[aSi,bFy,zZ,hd,qS]
  ·rw[pZ (by omega)];show Rep B h f {s with seats:=aM s.seats u x} a;rw[iL I];exact r
  ·rw[pZ (by omega)];simpa[jE]using b
  ·rw[pZ (by omega)];show FrameN q h f s h f {s with seats:=aM s.seats u x};rw[iL I];exact FrameN.refl
 |succ d ih=>
  intro w m h f s x J x8 hi hm r Q I hp G b S hq X;obtain⟨m,rfl⟩:=pS m (by omega);have hd:decide ((w:Int)<(K.subs.length:Int))=true:=kN (by omega);obtain⟨y,hy⟩:∃y,K.subs[w]?=some y:=⟨_,kZ (by omega)⟩;have Y:=no.small y (sY hy);obtain⟨o3,qq,ei,l2⟩:=wC k (no.subs.ext Q) hy;obtain⟨h1,h2,e1,e2,l0,l1,M,lt⟩:=rQ k (h:=h) y;have E:=Q.trans M;have r2:=r.ext Q.next M;have sl:=ld k (r2.ok (.seat u) x I) 0 rfl;rw[hp]at sl;obtain⟨O,vv,lr,l3⟩:=r2.ok (.lst u) x I;obtain⟨h3,e3,m3⟩:=T29 k (hT.ext k.tab R E) (kR R E.next) O lr (by have:=(r2.lt (.lst u) ⟨x,I⟩).1;omega) y.1 Y;obtain⟨c,k1,k3,r3,p,a3,V,U⟩:=r2.row E I lr l3 m3 (aIk fil y.1 y.2 O);have b2:=b.keep M.next (M.get q b.lt);have b3:=b2.keep a3 (U q b2.lt fun C t=>hq C t);obtain⟨h4,e4,i3,N,n4⟩:=cJo h3 (z:=TaI.Z5L) rfl ((iZ fil x.row y.1 y.2).1:Int) (UInt8.ofNat (iZ fil x.row y.1 y.2).1) (by
   have:=aAl fil (r:=x.row) y.1 Y;rw[UInt8.toNat_ofNat',Nat.mod_eq_of_lt this])
  have b4:=b3.keep N.next (N.get q b3.lt);obtain⟨l,P,e5,b5,a5⟩:=b4.app1 i3 rfl (by omega);have W:∀C,live {s with seats:=aM s.seats u {x with row:=(iZ fil x.row y.1 y.2).2}} c C→c C≠q:=fun C t=>by
   rcases V C t with⟨g1,g2⟩|g1
   ·rw[g2];exact hq C g1
   ·have:=b2.lt;omega
  have n5:h3.next≤P.next:=by rw[a5.1];exact N.next
  have r5:Rep B P c {s with seats:=aM s.seats u {x with row:=(iZ fil x.row y.1 y.2).2}} a:=r3.frame p.next n5 fun C t=>by
   rw[a5.2 _ (W C t),N.get _ (r3.lt C t).2]
  have j3:Ext B P:=a5.ext (p.trans N) X;have w2:A.z prog .add 3 (iN (w:Int)) (iN 1)=some (iN ((w+1:Nat):Int)):=by rw[bC,aQ (by have:=no.len;omega)]
  obtain⟨o,g,d3,e,g1,g2,g3,g4,g5,g6⟩:=ih (w+1) m P c _ {x with row:=(iZ fil x.row y.1 y.2).2} (J++[UInt8.ofNat (iZ fil x.row y.1 y.2).1]) l (by omega) (by omega) r5 j3 (by rw[aC,kM rfl]) (k3.trans hp) (k1.trans G) b5 (by simp[S]) W X;simp only[rX]at g2 g6;rw[show K.subs.drop w=y::K.subs.drop (w+1)from aU hy];refine⟨o,g,d3,?_,g1,g2,g3,?_,?_,?_⟩
  ·simp only[aSi,bFy,zZ,hd,qS,ei,l2,e1,e2,sl,sR,l0,l1,e3,e4,e5,w2,e]
  ·have:=M.next;omega
  ·simpa[jE,sH]using g5
  ·have n3:=b2.lt;have f1:FrameN q h f s h2 f s:=FrameN.same fun j hj=>M.get j (by have:=b.lt;omega);have f2:FrameN q h2 f s h3 c {s with seats:=aM s.seats u {x with row:=(iZ fil x.row y.1 y.2).2}}:=(show FrameR h2 f s h3 c {s with seats:=aM s.seats u {x with row:=(iZ fil x.row y.1 y.2).2}}from⟨U,fun C t=>(V C t).imp_left fun h=>⟨C,h.1,h.2.symm⟩,a3⟩).toN (by omega);have f3:FrameN q h3 c {s with seats:=aM s.seats u {x with row:=(iZ fil x.row y.1 y.2).2}} P c {s with seats:=aM s.seats u {x with row:=(iZ fil x.row y.1 y.2).2}}:=FrameN.same fun j hj=>by rw[a5.2 j (by omega),N.get j (by have:=b3.lt;omega)]
   exact((f1.trans f2).trans f3).trans g6
def bUv (J:3≤B.next){E:cD}(Y:NoteOk B v E)(W:Pk.K0 (kA×H)):
 ∀(d g m:Nat) (h:H) (b:Col→Nat) (s:St) (x:aCd),g+d=E.subs.length→d<m→Rep B h b s a→Ext B h→aE s.seats u=some x→b (.seat u)=n→b .chk=i→
  ∃f c,aSj (CI D) L W m (iN (E.subs.length:Int)) (iN (g:Int)) (aA n) v h=W f∧c .chk=i∧
   Rep B f c {s with seats:=aM s.seats u {x with row:=(E.subs.drop g).foldl (fun r y=>nF r y.1) x.row}} a∧Ext B f∧h.next≤f.next∧FrameR h b s f c {s with seats:=aM s.seats u {x with row:=(E.subs.drop g).foldl (fun r y=>nF r y.1) x.row}}:=by
 intro d
 induction d with
 |zero=>
  intro g m h b s x hi hm r o j O p;obtain⟨m,rfl⟩:=pS m (by omega);have K:decide ((g:Int)<(E.subs.length:Int))=false:=kO (by omega);refine⟨h,b,?_,p,?_,o,kQ _,?_⟩
  ·simp only[aSj,bFz,zZ,K,qS]
  ·rw[pZ (by omega)];show Rep B h b {s with seats:=aM s.seats u x} a;rw[iL j];exact r
  ·rw[pZ (by omega)];show FrameR h b s h b {s with seats:=aM s.seats u x};rw[iL j];exact FrameR.ext (Ext.refl h)
 |succ d ih=>
  intro g m h b s x hi hm r o j O p;obtain⟨m,rfl⟩:=pS m (by omega);have K:decide ((g:Int)<(E.subs.length:Int))=true:=kN (by omega);obtain⟨y,V⟩:∃y,E.subs[g]?=some y:=⟨_,kZ (by omega)⟩;obtain⟨a3,qq,ei,l2⟩:=wC k (Y.subs.ext o) V;obtain⟨h1,h2,e1,e2,l0,l1,G,lt⟩:=rQ k (h:=h) y;have q:=o.trans G;have r2:=r.ext o.next G;have sl:=ld k (r2.ok (.seat u) x j) 0 rfl;rw[O]at sl;obtain⟨l,vv,X,P⟩:=r2.ok (.lst u) x j;obtain⟨h3,bb,I,Q⟩:=T39 k (kR J q.next) l X y.1;obtain⟨w,k1,k3,r3,t,R,N,M⟩:=r2.row q j X P Q (aPp y.1 l);have w2:A.z prog .add 3 (iN (g:Int)) (iN 1)=some (iN ((g+1:Nat):Int)):=by rw[bC,aQ (by have:=Y.len;omega)]
  obtain⟨f,c,e,g1,S,g3,g4,U⟩:=ih (g+1) m h3 w _ {x with row:=nF x.row y.1} (by omega) (by omega) r3 t (by rw[aC,kM rfl]) (k3.trans O) (k1.trans p);simp only[rX]at S U;rw[show E.subs.drop g=y::E.subs.drop (g+1)from aU V];refine⟨f,c,?_,g1,S,g3,by have:=G.next;omega,((FrameR.ext G).trans (show FrameR h2 b s h3 w _ from⟨M,fun C hC=>(N C hC).imp_left fun h=>⟨C,h.1,h.2.symm⟩,R⟩)).trans U⟩;simp only[aSj,bFz,zZ,K,qS,ei,l2,e1,e2,sl,sR,l0,I,w2,e]
omit k in
def cLr (c:(prog.underlying t).map (fun d=>match d with| .map _ _=>true|_=>false)=some true)(l:Nat):A.z prog .eql t (aV l) (.map none)=some (.bool false):=by
 obtain⟨d,b,h⟩:=sZ.1 c;cases d<;>simp at h
 simp[A.z,A.yO,aJ,A.yI,b]
def T26 (hT:HasT Z B)(b4:3≤B.next)(r:Rep B h N p a)(hB:Ext B h)(e:Nat→kA)(v:kA)(n:cD)(no:NoteOk B v n):
 ∃h' O b,CI D 44 [aA (N .mdl),eF e v n] h=some (.tuple ⟨[str (((bT fil nam p n).1.getD []).map UInt8.ofNat),.bool b,.bool (bT fil nam p n).1.isSome]⟩,h')∧O .chk=N .chk∧Rep B h' O (bT fil nam p n).2 a∧Ext B h'∧FrameR h N p h' O (bT fil nam p n).2:=by
 obtain⟨h1,p3⟩:=eX (h.push (.cells (bU e v n) (some 0)));have U:A.box 35 (eF e v n) h=some (aA h.next,h1):=by rw[p3];rfl
 have x1:Ext h h1:=by rw[p3];exact Ext.push h _
 have n1:h1.next=h.next+1:=by rw[p3];rfl
 have g1:h1.get h.next=some (.cells (bU e v n) (some 0)):=by rw[p3,H.get_push,kM rfl]
 have r1:=r.ext hB.next x1;have f:=hB.trans x1;have g:=ld k g1 0 rfl;have M:=ld k g1 2 rfl;have I:=ld k g1 3 rfl;have w:=ld k g1 4 rfl;have y3:=ld k g1 26 rfl;have i4:A.load true 35 (aA h.next) h1=some (eF e v n):=by rw[aI,g1];rfl
 have l4:A.load true 4 (.pointer (some ⟨h.next,28,none⟩)) h1=some (.agg ⟨aG n.msg⟩):=by rw[aI,g1];rfl
 have V:=ld k (r1.ok .mdl) 0 rfl;have m1:=ld k (r1.ok .mdl) 1 rfl;have i:=aCt (t:=42) (by kernel_rfl) (N .mdl);have l:=cLr (t:=58) (by kernel_rfl) (N .seats);have q:=fun L v' h'=>cCx L (aA (N .mdl)) (eF e v n) h (r:=(v',h')) (k.no 44 _ _ (by decide));have ex:∀{o:kB (kC Nat)×St} {Q:H} {nm2:Col→Nat},bT fil nam p n=o→nm2 .chk=N .chk→Rep B Q nm2 o.2 a→Ext B Q→FrameR h N p Q nm2 o.2→∀b,CI D 44 [aA (N .mdl),eF e v n] h=some (.tuple ⟨[str ((o.1.getD []).map UInt8.ofNat),.bool b,.bool o.1.isSome]⟩,Q)→
  ∃h' O b,CI D 44 [aA (N .mdl),eF e v n] h=some (.tuple ⟨[str (((bT fil nam p n).1.getD []).map UInt8.ofNat),.bool b,.bool (bT fil nam p n).1.isSome]⟩,h')∧O .chk=N .chk∧Rep B h' O (bT fil nam p n).2 a∧Ext B h'∧FrameR h N p h' O (bT fil nam p n).2:=fun ho a1 a2 a3 a4 b hb=>⟨_,_,b,by rw[ho];exact hb,a1,by rw[ho];exact a2,a3,by rw[ho];exact a4⟩
 by_cases h5:n.kind=5
 ·have R:decide ((n.kind:Int)=5)=true:=kN (by omega);obtain⟨Q,i3,r2,l3,n2,f2⟩:=T36 k hT b4 r1 f n.msg;refine ex (o:=(if(fH nam p n.msg).1 then some []else none,(fH nam p n.msg).2)) (by unfold bT;rw[kM h5]) rfl r2 l3 ((FrameR.ext x1).trans f2) false (q 0 _ _ ?_)
  cases hk:(fH nam p n.msg).1 with
  |true=>
   rw[hk]at i3;simp only[F44,wA,yY,yZ,yX,bOv,U,qS,i,sR,V,m1,l,g,zQ,R,l4,i3];rfl
  |false=>
   rw[hk]at i3;simp only[F44,wA,yY,yZ,yX,bOv,U,qS,i,sR,V,m1,l,g,zQ,R,l4,i3];rfl
 have R:decide ((n.kind:Int)=5)=false:=kO (by omega);by_cases Q:n.kind=2
 case neg=>
  have X:decide ((n.kind:Int)=2)=false:=kO (by omega);refine ex (o:=(some [],p)) (by unfold bT;rw[kL h5,kM Q]) rfl r1 f (FrameR.ext x1) false (q 0 _ _ ?_);simp only[F44,wA,yY,yZ,yX,aCa,U,qS,i,sR,V,l,g,zQ,R,bA,X];rfl
 have X:decide ((n.kind:Int)=2)=true:=kN (by omega);have e4:¬n.kind≠2:=fun e=>e Q;by_cases f4:n.ptype=1
 ·have p1:decide ((n.ptype:Int)=1)=true:=kN (by omega);obtain⟨h3,u4,b,j3,k3,r3,d3,n3,f3⟩:=T37 k r1 f e v n;have t0:A.u 0 (.tuple ⟨[.bool b,.bool (aS p n).isSome]⟩)=some (.bool b):=rfl;have t1:A.u 1 (.tuple ⟨[.bool b,.bool (aS p n).isSome]⟩)=some (.bool (aS p n).isSome):=rfl;refine ex (o:=(if(aS p n).isSome then some []else none,(aS p n).getD p)) (by unfold bT;rw[kL h5,kL e4,kM f4];cases aS p n<;>rfl) k3 r3 d3 ((FrameR.ext x1).trans f3) b (q 0 _ _ ?_)
  cases hz:(aS p n).isSome with
  |true=>
   rw[hz]at j3 t0 t1;simp only[F44,wA,yY,yZ,yX,aCa,U,qS,i,sR,sS,V,l,g,zQ,R,bA,X,w,p1,i4,j3,t0,t1];rfl
  |false=>
   rw[hz]at j3 t0 t1;simp only[F44,wA,yY,yZ,yX,aCa,U,qS,i,sR,sS,V,l,g,zQ,R,bA,X,w,p1,i4,j3,t0,t1];rfl
 have p1:decide ((n.ptype:Int)=1)=false:=kO (by omega);have m:=T38 k r1 n.client;have J:bT fil nam p n=(match aE p.seats n.client with
  |none=>(none,p)
  |some x=>
   if n.conn<1∨x.conn≠n.conn then(none,p)
   else if n.ptype=8 then(some (jE fil x.row n.subs).1,{p with seats:=aM p.seats n.client {x with row:=(jE fil x.row n.subs).2}})
   else if n.ptype=10 then(some [],{p with seats:=aM p.seats n.client {x with row:=n.subs.foldl (fun r y=>nF r y.1) x.row}})
   else if n.ptype=14∨n.ptype=0 then(some [],{p with seats:=if x.clean then jA p.seats n.client else aM p.seats n.client {x with conn:=0}})
   else(none,p)):=by unfold bT;rw[kL h5,kL e4,kL f4];rfl
 cases s:aE p.seats n.client with
 |none=>
  rw[s]at m J;have E:A.z prog .eql 125 (.pointer none) (.pointer none)=some (.bool true):=by kernel_rfl
  refine ex (o:=(none,p)) J rfl r1 f (FrameR.ext x1) false (q 0 _ _ ?_);simp only[F44,wA,yY,yZ,yX,aCa,aHu,aHx,aHt,aHs,U,qS,i,sR,sS,V,l,g,zQ,R,bA,X,w,p1,I,m,E];rfl
 |some x=>
  rw[s]at m J;have E:=aCt (t:=125) (by kernel_rfl) (N (.seat n.client));have gs:=r1.ok (.seat n.client) x s;have s1:=ld k gs 1 rfl;by_cases o3:n.conn<1
  ·refine ex (o:=(none,p)) (by rw[J];simp only[kM (show n.conn<1∨x.conn≠n.conn from .inl o3)]) rfl r1 f (FrameR.ext x1) false (q 0 _ _ ?_);simp only[F44,wA,yY,yZ,yX,aCa,aHu,aHx,aHt,aHs,U,qS,i,sR,sS,V,l,g,zQ,R,bA,X,w,p1,I,m,E,M,zZ,kN o3];rfl
  have dc:=kO o3;by_cases s3:x.conn=n.conn
  case neg=>
   refine ex (o:=(none,p)) (by rw[J];simp only[kM (show n.conn<1∨x.conn≠n.conn from .inr s3)]) rfl r1 f (FrameR.ext x1) false (q 0 _ _ ?_);simp only[F44,wA,yY,yZ,yX,aCa,aHu,aHx,aHt,aHs,U,qS,i,sR,sS,V,l,g,zQ,R,bA,X,w,p1,I,m,E,M,zZ,dc,s1,kO s3];rfl
  have S:=kN s3;have n4:¬(n.conn<1∨x.conn≠n.conn):=fun h=>h.elim o3 fun h=>h s3;simp only[kL n4]at J;have s4:=no.subs.ext f;have ln:A.zE v=some (iN (n.subs.length:Int)):=by have:=s4.len.1;rwa [aW,pO]at this
  by_cases g4:n.ptype=8
  ·rw[kM g4]at J;have p8:decide ((n.ptype:Int)=8)=true:=kN (by omega);obtain⟨h3,e3,b3,x3,n3⟩:=Buf.make h1 (z:=TaI.Z5L) rfl n.subs.length (by have:=no.len;omega);have r3:=r1.ext f.next x3;have d3:=f.trans x3;have g3:h3.get h.next=some (.cells (bU e v n) (some 0)):=by rw[x3.get _ (by omega)];exact g1
   have d4:=ld k g3 26 rfl;obtain⟨h',O,t4,el,k',r',z3,n',b',f'⟩:=bUw k hT b4 no (fun x8 h=>bFx h x8 fun x4 x5 x6 h=>some (Value.tuple ⟨[x4,x5,x6]⟩,h)) (q:=h1.next) (L:=n.subs.length+1) n.subs.length 0 (n.subs.length+1) h3 N p x [] _ (by omega) (by omega) r3 d3 s rfl rfl b3 rfl (fun C K=>by have:=(r1.lt C K).2;omega) f.next;rw[mI]at r' b' f';refine ex J k' r' z3 (FrameN.toR (((FrameN.same fun j hj=>(x1.trans x3).get j hj).trans ⟨fun j hj hn=>f'.1 j (by omega) hn,fun C K=>(f'.2 C K).imp_right fun h=>by omega⟩)) (by omega)) false (q (n.subs.length+1) _ _ ?_);have el:aSi (CI D) _ (fun x8 h=>bFx h x8 fun x4 x5 x6 h=>some (Value.tuple ⟨[x4,x5,x6]⟩,h)) (n.subs.length+1) (iN (n.subs.length:Int)) (iN 0) (aA (N (.seat n.client))) v _ h3=_:=el;have bb:A.b2s t4 h'=_:=b'.b2s;simp only[F44,wA,yY,yZ,yX,aCa,aHu,aHx,aHt,aHs,aMy,aQc,aQb,cFm,bSa,cFl,U,qS,i,sR,sS,V,l,g,zQ,R,bA,X,w,p1,I,m,E,M,zZ,dc,s1,S,p8,y3,ln,e3,d4,el];simp only[bFx,bb,qS];rfl
  rw[kL g4]at J;have p8:decide ((n.ptype:Int)=8)=false:=kO (by omega);by_cases v3:n.ptype=10
  ·rw[kM v3]at J;have W:decide ((n.ptype:Int)=10)=true:=kN (by omega);obtain⟨h',O,el,k',r',z3,n',f'⟩:=bUv k b4 no (fun h=>aRq h fun x4 x5 x6 h=>some (Value.tuple ⟨[x4,x5,x6]⟩,h)) (L:=n.subs.length+1) n.subs.length 0 (n.subs.length+1) h1 N p x (by omega) (by omega) r1 f s rfl rfl;rw[mI]at r' f';refine ex J k' r' z3 ((FrameR.ext x1).trans f') false (q (n.subs.length+1) _ _ ?_);have el:aSj (CI D) _ (fun h=>aRq h fun x4 x5 x6 h=>some (Value.tuple ⟨[x4,x5,x6]⟩,h)) (n.subs.length+1) (iN (n.subs.length:Int)) (iN 0) (aA (N (.seat n.client))) v h1=_:=el;simp only[F44,wA,yY,yZ,yX,aCa,aHu,aHx,aHt,aHs,aMy,aQc,aQb,aRr,cFn,U,qS,i,sR,sS,V,l,g,zQ,R,bA,X,w,p1,I,m,E,M,zZ,dc,s1,S,p8,W,y3,ln,el];rfl
  rw[kL v3]at J;have W:decide ((n.ptype:Int)=10)=false:=kO (by omega);have lq:=r1.lt (.seat n.client) ⟨x,s⟩;by_cases h4:n.ptype=14∨n.ptype=0
  case neg=>
   rw[kL h4]at J;have P:decide ((n.ptype:Int)=14)=false:=kO (by omega);have p0:decide ((n.ptype:Int)=0)=false:=kO (by omega);refine ex J rfl r1 f (FrameR.ext x1) false (q 0 _ _ ?_);simp only[F44,wA,yY,yZ,yX,aCa,aHu,aHx,aHt,aHs,aMy,aQc,aQb,aRr,aWg,aWf,U,qS,i,sR,sS,V,l,g,zQ,R,bA,X,w,p1,I,m,E,M,zZ,dc,s1,S,p8,W,P,p0];rfl
  rw[kM h4]at J;obtain⟨Q,q3⟩:=eX (h1.put (N (.seat n.client)) (.cells [aA (N (.lst n.client)),iN 0,.bool x.clean] (some 0)));have w2:A.store 1 (.pointer (some ⟨N (.seat n.client),1,none⟩)) (iN 0) h1=some Q:=by rw[qU,gs,q3];rfl
  have g2:Q.get (N (.seat n.client))=some (.cells [aA (N (.lst n.client)),iN 0,.bool x.clean] (some 0)):=by rw[q3,H.get_put,kM rfl]
  have s2:=ld k g2 2 rfl;have o2:∀j,j≠N (.seat n.client)→Q.get j=h1.get j:=fun j hj=>by rw[q3,H.get_put,kL hj]
  have n2:Q.next=h1.next:=by rw[q3];rfl
  have l3:Ext B Q:=⟨by rw[n2];exact f.next,fun j hj=>by rw[o2 j (by omega)];exact f.get j hj⟩;have ns:N .seats≠N (.seat n.client):=fun e=>by have:=r1.inj .seats (.seat n.client) trivial ⟨x,s⟩ e;cases this
  have nd:N .mdl≠N (.seat n.client):=fun e=>by have:=r1.inj .mdl (.seat n.client) trivial ⟨x,s⟩ e;cases this
  have nv:h.next≠N (.seat n.client):=fun e=>by have:=(r.lt (.seat n.client) ⟨x,s⟩).2;omega
  cases t3:x.clean with
  |false=>
   rw[t3]at s2;have r2:Rep B Q N {p with seats:=aM p.seats n.client {x with conn:=0}} a:=by
    refine r1.seat f.next (by rw[n2];exact kQ _) (fun d hd=>by rw[aC,kL (mV hd)]) (fun _ _=>rfl) False (fun C G K _=>o2 _ fun e=>K (by have:=r1.inj C (.seat n.client) G ⟨x,s⟩ e;rw[this];exact rfl)) (fun _=>⟨eS s,rfl⟩) (fun h=>h.elim) (fun y hy=>?_) (fun C K G=>.inl ⟨?_,rfl⟩) (fun C C' K m4 G p4 o4 he=>?_)
    ·rw[aC,kM rfl]at hy;cases hy;refine⟨g2,?_⟩;have ls:=r1.ok (.lst n.client) x s;exact ls.but (by rw[n2];exact kQ _) (o2 _ fun e=>by have:=r1.inj (.lst n.client) (.seat n.client) ⟨x,s⟩ ⟨x,s⟩ e;cases this) fun q4=>o2 _ fun e=>by have:=r1.inj (.row n.client) (.seat n.client) ⟨⟨x,s⟩,q4⟩ ⟨x,s⟩ e;cases this
    ·rcases cI K with rfl|rfl|rfl
     ·exact⟨x,s⟩
     ·exact⟨x,s⟩
     ·exact⟨⟨x,s⟩,G.2⟩
    ·have:live p N C:=by
      rcases cI K with rfl|rfl|rfl
      ·exact⟨x,s⟩
      ·exact⟨x,s⟩
      ·exact⟨⟨x,s⟩,G.2⟩
     have:=(r1.lt C this).2;omega
   rw[kL (show¬x.clean=true by rw[t3];simp)]at J;refine ex J rfl r2 l3 ⟨fun j hj hn=>by rw[o2 j fun e=>hn (.seat n.client) ⟨x,s⟩ e.symm];exact x1.get j hj,oA (fun d hd=>by rw[aC,kL (mV hd)]) (fun _ _=>rfl) (fun C K G=>.inl ⟨by
    rcases cI K with rfl|rfl|rfl
    ·exact⟨x,s⟩
    ·exact⟨x,s⟩
    ·exact⟨⟨x,s⟩,G.2⟩,rfl⟩),by omega⟩ false (q 0 _ _ ?_)
   by_cases k4:n.ptype=14
   ·have P:decide ((n.ptype:Int)=14)=true:=kN (by omega);simp only[F44,wA,yY,yZ,yX,aCa,aHu,aHx,aHt,aHs,aMy,aQc,aQb,aRr,aWg,aWf,aRq,U,qS,i,sR,sS,V,l,g,zQ,R,bA,X,w,p1,I,m,E,M,zZ,dc,s1,S,p8,W,P,w2,s2];rfl
   ·have P:decide ((n.ptype:Int)=14)=false:=kO (by omega);have p0:decide ((n.ptype:Int)=0)=true:=kN (by omega);simp only[F44,wA,yY,yZ,yX,aCa,aHu,aHx,aHt,aHs,aMy,aQc,aQb,aRr,aWg,aWf,aRq,U,qS,i,sR,sS,V,l,g,zQ,R,bA,X,w,p1,I,m,E,M,zZ,dc,s1,S,p8,W,P,p0,w2,s2];rfl
  |true=>
   rw[t3]at s2;have m2:MapR Q (N .seats) cC (p.seats.map fun x=>(x.1,aA (N (.seat x.1)))):=(r1.ok .seats).congr (o2 _ ns);obtain⟨h3,u3,m3,a3⟩:=bKk m2 n.client;rw[wS (fun c (_:aCd)=>aA (N (.seat c)))]at m3;have d0:A.load false 1 (.pointer (some ⟨N .mdl,0,none⟩)) Q=some (aV (N .seats)):=ld k (by rw[o2 _ nd];exact r1.ok .mdl) 0 rfl;have j4:A.load false 1 (.pointer (some ⟨h.next,3,none⟩)) Q=some (str n.client):=ld k (by rw[o2 _ nv];exact g1) 3 rfl;have Y:aE (jA p.seats n.client) n.client=none:=by rw[cZ r.keysS,kM rfl]
   have r3:Rep B h3 N {p with seats:=jA p.seats n.client} a:=by
    refine r1.seat f.next (by rw[a3.1,n2];exact kQ _) (fun d hd=>by rw[cZ r.keysS,kL (mV hd)]) (fun _ _=>rfl) True (fun C G K ht=>?_) (fun h=>dC trivial h) (fun _=>m3) (fun y hy=>by rw[Y]at hy;cases hy) (fun C K G=>?_) (fun C C' K m4 G p4 o4 he=>?_)
    ·rw[a3.2 _ fun e=>ht trivial (r1.inj _ _ G trivial e),o2 _ fun e=>K (by have:=r1.inj C (.seat n.client) G ⟨x,s⟩ e;rw[this];exact rfl)]
    ·have:∃y,aE (jA p.seats n.client) n.client=some y:=by
      rcases cI K with rfl|rfl|rfl
      ·exact G
      ·exact G
      ·exact G.1
     rw[Y]at this;obtain⟨_,h⟩:=this;cases h
    ·have:∃y,aE (jA p.seats n.client) n.client=some y:=by
      rcases cI K with rfl|rfl|rfl
      ·exact G
      ·exact G
      ·exact G.1
     rw[Y]at this;obtain⟨_,h⟩:=this;cases h
   rw[kM t3]at J;refine ex J rfl r3 (a3.ext l3 (r1.lt .seats trivial).1) ⟨fun j hj hn=>by rw[a3.2 j fun e=>hn .seats trivial e.symm,o2 j fun e=>hn (.seat n.client) ⟨x,s⟩ e.symm];exact x1.get j hj,oA (fun d hd=>by rw[cZ r.keysS,kL (mV hd)]) (fun _ _=>rfl) (fun C K G=>by
    have:∃y,aE (jA p.seats n.client) n.client=some y:=by
     rcases cI K with rfl|rfl|rfl
     ·exact G
     ·exact G
     ·exact G.1
    rw[Y]at this;obtain⟨_,h⟩:=this;cases h),by rw[a3.1];omega⟩ false (q 0 _ _ ?_)
   by_cases k4:n.ptype=14
   ·have P:decide ((n.ptype:Int)=14)=true:=kN (by omega);simp only[F44,wA,yY,yZ,yX,aCa,aHu,aHx,aHt,aHs,aMy,aQc,aQb,aRr,aWg,aWf,aRq,U,qS,i,sR,sS,V,l,g,zQ,R,bA,X,w,p1,I,m,E,M,zZ,dc,s1,S,p8,W,P,w2,s2,d0,j4,u3];rfl
   ·have P:decide ((n.ptype:Int)=14)=false:=kO (by omega);have p0:decide ((n.ptype:Int)=0)=true:=kN (by omega);simp only[F44,wA,yY,yZ,yX,aCa,aHu,aHx,aHt,aHs,aMy,aQc,aQb,aRr,aWg,aWf,aRq,U,qS,i,sR,sS,V,l,g,zQ,R,bA,X,w,p1,I,m,E,M,zZ,dc,s1,S,p8,W,P,p0,w2,s2,d0,j4,u3];rfl
end
end Go.Proofs.YtbmdhjdgpeleoaaGreatDoor.Ra
namespace Ra
open Go.Proofs.YtbmdhjdgpeleoaaGreatDoor.Ra (aC cZ)
open Go Go.AM
variable {B c:Bs}{op:Int}{n:Nat}{p:St}
section
def aZx {r:Row}(s:SrR r)(f:Bs):nF r f=eI r f∧(nF r f).length≤r.length∧SrR (nF r f):=by
 have d:SrR (eI r f):=List.Pairwise.filter _ s;have ld:(eI r f).length≤r.length:=List.length_filter_le _ _
 suffices h:nF r f=eI r f by rw[h];exact⟨rfl,ld,d⟩
 unfold nF;rcases aIp s f with⟨a,b,x,e,hx,hl,ht,hh,hd,ha,hb⟩|⟨a,b,e,hl,ht,hh,hd,ha,hb⟩
 ·rw[ht,kM rfl,hd,←hl]
  conv=>lhs;rw[e]
  rw[List.take_left,show a.length+1=(a++[x]).length by simp,show a++x::b=(a++[x])++b by simp,List.drop_left]
 ·rw[ht,hd];simp
def aOa (f:Bs→Bool):∀(l:Row) {r:Row},SrR r→r.length≤16→jE f r l=nD f r l∧(jE f r l).2.length≤16∧SrR (jE f r l).2
 |[],r,s,h=>⟨rfl,h,s⟩
 |x::l,r,s,h=>by
  obtain⟨a,b,h3⟩:=aVc f s h x.1 x.2;obtain⟨i,c,d⟩:=aOa f l h3 b;simp only[jE,nD];rw[←a,←i];exact⟨rfl,c,d⟩
def uJ (r:Row)(l:Row):Row:=l.foldl (fun r y=>eI r y.1) r
def aJl:∀(l:Row) {r:Row},SrR r→r.length≤16→l.foldl (fun r y=>nF r y.1) r=uJ r l∧(uJ r l).length≤16∧SrR (uJ r l)
 |[],r,s,h=>⟨rfl,h,s⟩
 |x::l,r,s,h=>by
  obtain⟨a,b,h3⟩:=aZx s x.1;have i:=aJl l (r:=eI r x.1) (a▸h3) (by rw[←a];omega);refine⟨?_,i.2⟩;simp only[dN,uJ];rw[a];exact i.1
structure cO where
 client:Bs
 conn:Int
 clean:Bool
 row:Row
structure MD where
 L:kC cO:=[]
 kept:kC Msg:=[]
def bO (L:kC cO)(c:Bs):kB cO:=L.find? fun x=>decide (x.client=c)
def lO:kC cO→Bs→kC cO
 |[],_=>[]
 |x::r,c=>if x.client=c then r else x::lO r c
def tZ:kC cO→Bs→(cO→cO)→kC cO
 |[],_,_=>[]
 |x::r,c,f=>if x.client=c then f x::r else x::tZ r c f
def fW (m:Msg):Bool→kC Msg→kC Msg
 |done,[]=>if done then[]else[m]
 |done,x::r=>(if !done&&decide (m.topic<x.topic)then[m]else[])++(if x.topic=m.topic then[]else[x])++fW m (done||decide (m.topic<x.topic)) r
def xY (l:kC Msg)(m:Msg):kC Msg:=fW {m with retain:=true} (decide (m.payload=[])) l
def fY (l:kC Msg)(t:Bs):kB Msg:=l.find? fun m=>decide (m.topic=t)
variable (fil nam:Bs→Bool)(tak:Bs→Bs→Bool)
def cP (m:MD)(n:cD):kB MD:=
 if n.conn<1 then none else
 match bO m.L n.client with
 |some x=>if x.conn≠0 then none else some {m with L:=lO m.L n.client++[⟨n.client,n.conn,n.clean,if x.clean=false∧n.clean=false then x.row else[]⟩]}
 |none=>some {m with L:=m.L++[⟨n.client,n.conn,n.clean,[]⟩]}
def cY (m:MD)(n:cD):kB (kC Nat×MD):=
 if n.kind=5 then(if nam n.msg.topic=true∧n.msg.qos≤2 then some ([],{m with kept:=xY m.kept n.msg})else none)
 else if n.kind≠2 then some ([],m)
 else if n.ptype=1 then(cP m n).map fun m=>([],m)
 else match bO m.L n.client with
  |none=>none
  |some x=>
   if n.conn<1∨x.conn≠n.conn then none
   else if n.ptype=8 then some ((nD fil x.row n.subs).1,{m with L:=tZ m.L n.client fun x=>{x with row:=(nD fil x.row n.subs).2}})
   else if n.ptype=10 then some ([],{m with L:=tZ m.L n.client fun x=>{x with row:=uJ x.row n.subs}})
   else if n.ptype=14∨n.ptype=0 then some ([],{m with L:=if x.clean then lO m.L n.client else tZ m.L n.client fun x=>{x with conn:=0}})
   else none
def bD (m:MD)(c t:Bs):Nat×Bool:=match bO m.L c with|some x=>cN tak x.row t|none=>(0,false)
def gL (x:cO)(r:kC cO)(c:Bs):bO (x::r) c=if x.client=c then some x else bO r c:=by
 unfold bO;rw[dR];by_cases h:x.client=c<;>simp[h]
def aLi {L:kC cO}(h:B∉L.map (·.client)):bO L B=none:=by
 unfold bO;rw[List.find?_eq_none];intro x a;simp only[pW];exact fun e=>h (e▸mN a)
def vT {L:kC cO}{x:cO}(h:bO L c=some x):x∈L∧x.client=c:=by
 unfold bO at h;exact⟨List.mem_of_find?_eq_some h,by simpa using List.find?_some h⟩
def qI:∀{L:kC cO} {x:cO},(L.map (·.client)).Nodup→x∈L→bO L x.client=some x
 |[],x,_,h=>by cases h
 |y::r,x,nd,h=>by
  rw[gL];rw[mH,tW]at nd;rcases sI.1 h with rfl|h
  ·rw[kM rfl]
  ·have n:¬y.client=x.client:=fun e=>nd.1 (e▸mN (f:=(·.client)) h);rw[kL n,qI nd.2 h]
def rL:∀(L:kC cO) (c:Bs),(lO L c).Sublist L
 |[],_=>.slnil
 |x::r,c=>by
  simp only[lO];split
  ·exact List.sublist_cons_self _ _
  ·exact(rL r c).cons_cons _
def sB:∀{L:kC cO} {c:Bs},(L.map (·.client)).Nodup→∀d,bO (lO L c) d=if c=d then none else bO L d
 |[],c,_,d=>by simp[lO,bO]
 |x::r,c,nd,d=>by
  rw[mH,tW]at nd;simp only[lO];split
  ·rename_i e;rw[gL];by_cases h:c=d
   ·subst h;rw[kM rfl,←e,aLi nd.1]
   ·rw[kL h,kL (e▸h)]
  ·rename_i e;rw[gL,gL,sB nd.2];by_cases h:c=d
   ·subst h;simp[e]
   ·simp[h]
def oZ:∀(L:kC cO) (c:Bs) (f:cO→cO),(∀x,(f x).client=x.client)→(tZ L c f).map (·.client)=L.map (·.client)
 |[],_,_,_=>rfl
 |x::r,c,f,h=>by
  simp only[tZ];split
  ·simp[h]
  ·simp[oZ r c f h]
def vS:∀(L:kC cO) (c:Bs) (f:cO→cO),(∀x,(f x).client=x.client)→∀d,bO (tZ L c f) d=if c=d then(bO L d).map f else bO L d
 |[],c,f,_,d=>by simp[tZ,bO]
 |x::r,c,f,h,d=>by
  simp only[tZ];split
  ·rename_i e;rw[gL,gL,h];by_cases a:c=d
   ·subst a;simp[e]
   ·rw[kL a,kL (e▸a),kL (e▸a)]
  ·rename_i e;rw[gL,gL,vS r c f h];by_cases a:c=d
   ·subst a;simp[e]
   ·simp[a]
def aBt (L:kC cO)(x:cO)(d:Bs):bO (L++[x]) d=match bO L d with|some y=>some y|none=>if x.client=d then some x else none:=by
 unfold bO;rw[List.find?_append]
 cases List.find? _ L with
 |some y=>rfl
 |none=>
  simp only[Option.none_or,dR,List.find?_nil];by_cases h:x.client=d<;>simp[h]
def jS (x:Msg)(r:kC Msg)(t:Bs):fY (x::r) t=if x.topic=t then some x else fY r t:=by
 unfold fY;rw[dR];by_cases h:x.topic=t<;>simp[h]
def aJe (a b:kC Msg)(t:Bs):fY (a++b) t=match fY a t with|some x=>some x|none=>fY b t:=by
 unfold fY;rw[List.find?_append];cases List.find? _ a<;>rfl
def aDk (m:Msg)(t:Bs):∀(l:kC Msg) (done:Bool),fY (fW m done l) t=if m.topic=t then(if done then none else some m)else fY l t
 |[],done=>by
  simp only[fW]
  cases done with
  |true=>simp[fY]
  |false=>
   simp only[pP,mD];rw[jS]
 |x::r,done=>by
  simp only[fW];rw[sH,aJe,aJe,aDk m t r,jS x r];by_cases d:m.topic=t
  ·subst d;have c:fY (if x.topic=m.topic then[]else[x]) m.topic=none:=by
    split
    ·rfl
    ·rename_i h;rw[jS,kL h];rfl
   rw[c]
   cases done with
   |true=>simp[fY]
   |false=>
    by_cases b:m.topic<x.topic
    ·simp[b,jS]
    ·simp[b,fY]
  ·have e:fY (if !done&&decide (m.topic<x.topic)then[m]else[]) t=none:=by
    split
    ·rw[jS,kL d];rfl
    ·rfl
   rw[e];simp only[d,mD];by_cases c:x.topic=m.topic
   ·rw[kM c,kL (c▸d)];rfl
   ·rw[kL c,jS];by_cases a:x.topic=t
    ·rw[kM a,kM a]
    ·rw[kL a,kL a];rfl
def aDl (l:kC Msg)(m:Msg)(t:Bs):fY (xY l m) t=if m.topic=t then(if m.payload=[]then none else some {m with retain:=true})else fY l t:=by
 unfold xY;rw[aDk];simp only[pW]
structure RelM (s:St)(m:MD):Prop where
 seats:∀c,aE s.seats c=(bO m.L c).map fun x=>⟨x.row,x.conn,x.clean⟩
 kept:∀t,aE s.kept t=fY m.kept t
 ndL:(m.L.map (·.client)).Nodup
 rows:∀x∈m.L,SrR x.row∧x.row.length≤16∧0≤x.conn
 ndS:(s.seats.map (·.1)).Nodup
 ndK:(s.kept.map (·.1)).Nodup
def RelM.best {m:MD}(r:RelM p m)(c t:Bs):cB tak p c t=bD tak m c t:=by
 unfold cB bD;rw[r.seats c];cases bO m.L c<;>rfl
def RelM.congr {s:St}{m:MD}(r:RelM s m)(h:p.seats=s.seats)(a:p.kept=s.kept):RelM p m:=
 ⟨by rw[h];exact r.seats,by rw[a];exact r.kept,r.ndL,r.rows,by rw[h];exact r.ndS,by rw[a];exact r.ndK⟩
end
variable {m:MD}{x:cO}
section
variable (fil nam:Bs→Bool)(tak:Bs→Bs→Bool)
def aAr {Y X:Type}[DecidableEq Y]{l:kC (Y×X)}(h:(l.map (·.1)).Nodup)(k:Y):((jA l k).map (·.1)).Nodup:=List.Nodup.sublist ((vQ l k).map _) h
def uC (x:cO):aCd:=⟨x.row,x.conn,x.clean⟩
def RelM.seat (r:RelM p m)(c:Bs):aE p.seats c=(bO m.L c).map uC:=r.seats c
def RelM.upd (r:RelM p m)(e:bO m.L B=some x)(f:cO→cO)(c:∀x,(f x).client=x.client)(o:SrR (f x).row∧(f x).row.length≤16∧0≤(f x).conn):
 RelM {p with seats:=aM p.seats B (uC (f x))} {m with L:=tZ m.L B f} where
 seats d:=by
  show aE (aM p.seats B (uC (f x))) d=(bO (tZ m.L B f) d).map _;rw[aC,vS _ _ _ c];by_cases h:B=d
  ·subst h;rw[kM rfl,kM rfl,e];rfl
  ·rw[kL h,kL h];exact r.seats d
 kept:=r.kept
 ndL:=by
  show((tZ m.L B f).map _).Nodup;rw[oZ _ _ _ c];exact r.ndL
 rows y hy:=by
  have b:y∈tZ m.L B f:=hy;have a:bO (tZ m.L B f) y.client=some y:=qI (by rw[oZ _ _ _ c];exact r.ndL) b;rw[vS _ _ _ c]at a;by_cases h:B=y.client
  ·rw[kM h,←h,e]at a;obtain rfl:=pB a;exact o
  ·rw[kL h]at a;exact r.rows y (vT a).1
 ndS:=fE r.ndS _ _
 ndK:=r.ndK
def RelM.gone (r:RelM p m)(c:Bs):RelM {p with seats:=jA p.seats c} {m with L:=lO m.L c} where
 seats d:=by
  show aE (jA p.seats c) d=(bO (lO m.L c) d).map _;rw[cZ r.ndS,sB r.ndL];by_cases h:c=d
  ·rw[kM h,kM h];rfl
  ·rw[kL h,kL h];exact r.seats d
 kept:=r.kept
 ndL:=List.Nodup.sublist ((rL m.L c).map _) r.ndL
 rows y hy:=r.rows y ((rL m.L c).subset hy)
 ndS:=aAr r.ndS c
 ndK:=r.ndK
def RelM.put (r:RelM p m){L:kC cO}(g:∀d,bO L d=if x.client=d then none else bO m.L d)(s:L.Sublist m.L)(o:SrR x.row∧x.row.length≤16∧0≤x.conn):
 RelM {p with seats:=aM p.seats x.client (uC x)} {m with L:=L++[x]} where
 seats d:=by
  show aE (aM p.seats x.client (uC x)) d=(bO (L++[x]) d).map _;rw[aC,aBt,g];by_cases h:x.client=d
  ·rw[kM h,kM h];simp[h,uC]
  ·rw[kL h,kL h,r.seats d]
   cases bO m.L d with
   |none=>simp[h]
   |some y=>rfl
 kept:=r.kept
 ndL:=by
  show((L++[x]).map _).Nodup;rw[rJ,List.nodup_append];refine⟨List.Nodup.sublist (s.map _) r.ndL,by simp,fun a j b f e=>?_⟩;obtain⟨y,c,rfl⟩:=mW.1 j;have f:b=x.client:=by simpa using f
  have i:=qI (List.Nodup.sublist (s.map _) r.ndL) c;rw[g,kM (by rw[←f];exact e.symm)]at i;cases i
 rows y c:=by
  rcases mP.1 c with c|c
  ·exact r.rows y (s.subset c)
  ·rw[mC.1 c];exact o
 ndS:=fE r.ndS _ _
 ndK:=r.ndK
def aGn (r:RelM p m)(n:cD):(cP m n=none→aS p n=none)∧∀a,cP m n=some a→∃s,aS p n=some s∧RelM s a∧a.kept=m.kept∧s.pubs=p.pubs∧s.subs=p.subs∧s.kept=p.kept∧∀d,d≠n.client→bO a.L d=bO m.L d:=by
 unfold cP aS;by_cases i:n.conn<1
 ·rw[kM i,kM i];exact⟨fun _=>rfl,fun a h=>by cases h⟩
 rw[kL i,kL i,r.seat];have c1:0≤n.conn:=by omega
 cases l:bO m.L n.client with
 |none=>
  have g:∀d,bO m.L d=if n.client=d then none else bO m.L d:=fun d=>by
   by_cases h:n.client=d
   ·rw[kM h,←h,l]
   ·rw[kL h]
  refine⟨fun h=>(by cases h),fun a h=>?_⟩;obtain rfl:=pB h;refine⟨_,rfl,r.put (x:=⟨n.client,n.conn,n.clean,[]⟩) g (List.Sublist.refl _) ⟨.nil,sE _,c1⟩,rfl,rfl,rfl,rfl,fun d j=>?_⟩;show bO (m.L++[_]) d=_;rw[aBt]
  cases bO m.L d with
  |none=>simp only;rw[kL (mV j)]
  |some y=>rfl
 |some x=>
  obtain⟨q,t⟩:=vT l;obtain⟨v,w,z⟩:=r.rows x q;simp only[mA,uC];by_cases k:x.conn=0
  ·have o:¬0<x.conn:=by omega
   rw[kL (by omega:¬0<x.conn)];rw[kL (fun h:x.conn≠0=>h k)];refine⟨fun h=>(by cases h),fun a h=>?_⟩;obtain rfl:=pB h;have g:=sB r.ndL (c:=n.client);have f:∀(y:cO),y.client=n.client→∀d,d≠n.client→bO (lO m.L n.client++[y]) d=bO m.L d:=fun y u d j=>by
    rw[aBt,g,kL (mV j)]
    cases bO m.L d with
    |none=>simp only;rw[kL fun e=>j (e.symm.trans u)]
    |some y=>rfl
   by_cases b:x.clean=false∧n.clean=false
   ·rw[kM b];refine⟨_,rfl,r.put (x:=⟨n.client,n.conn,n.clean,if x.clean=false∧n.clean=false then x.row else[]⟩) g (rL _ _) (by rw[kM b];exact⟨v,w,c1⟩)|>fun h=>?_,rfl,rfl,rfl,rfl,f _ rfl⟩
    rw[kM b]at h⊢;exact h
   ·rw[kL b];refine⟨_,rfl,r.put (x:=⟨n.client,n.conn,n.clean,if x.clean=false∧n.clean=false then x.row else[]⟩) g (rL _ _) (by rw[kL b];exact⟨.nil,sE _,c1⟩)|>fun h=>?_,rfl,rfl,rfl,rfl,f _ rfl⟩
    rw[kL b]at h⊢;exact h
  ·rw[kM (by omega:0<x.conn),kM k];exact⟨fun _=>rfl,fun a h=>by cases h⟩
structure cKa (n:cD)(m m':MD):Prop where
 other:∀d,d≠n.client∨n.kind≠2→bO m'.L d=bO m.L d
 kept:n.kind≠5→m'.kept=m.kept
def wL (r:RelM p m)(n:cD):(cY fil nam m n=none→(bT fil nam p n).1=none)∧∀c a,cY fil nam m n=some (c,a)→∃y,bT fil nam p n=(some c,y)∧RelM y a∧y.pubs=p.pubs∧y.subs=p.subs∧cKa n m a:=by
 unfold cY bT;by_cases w:n.kind=5
 ·rw[kM w,kM w];unfold fH;by_cases q:nam n.msg.topic=true∧n.msg.qos≤2
  ·rw[kM q,kM q];refine⟨fun h=>(by cases h),fun c a h=>?_⟩;simp only[kP,kW]at h;obtain⟨rfl,rfl⟩:=h;refine⟨_,rfl,⟨r.seats,fun t=>?_,r.ndL,r.rows,r.ndS,?_⟩,rfl,rfl,fun _ _=>rfl,fun h=>dC w h⟩
   ·show aE (if n.msg.payload=[]then jA p.kept n.msg.topic else aM p.kept n.msg.topic _) t=fY (xY m.kept n.msg) t
    rw[aDl];by_cases B:n.msg.payload=[]
    ·rw[kM B,cZ r.ndK];by_cases b:n.msg.topic=t
     ·rw[kM b,kM b,kM B]
     ·rw[kL b,kL b];exact r.kept t
    ·rw[kL B,aC];by_cases b:n.msg.topic=t
     ·rw[kM b,kM b,kL B]
     ·rw[kL b,kL b];exact r.kept t
   ·show((if n.msg.payload=[]then jA p.kept n.msg.topic else aM p.kept n.msg.topic _).map (·.1)).Nodup
    split
    ·exact aAr r.ndK _
    ·exact fE r.ndK _ _
  ·rw[kL q,kL q];exact⟨fun _=>rfl,fun c a h=>by cases h⟩
 rw[kL w,kL w];by_cases s:n.kind=2
 case neg=>
  rw[kM s,kM s];refine⟨fun h=>(by cases h),fun c a h=>?_⟩;simp only[kP,kW]at h;obtain⟨rfl,rfl⟩:=h;exact⟨_,rfl,r,rfl,rfl,fun _ _=>rfl,fun _=>rfl⟩
 have v:¬n.kind≠2:=fun h=>h s;rw[kL v,kL v];by_cases D:n.ptype=1
 ·rw[kM D,kM D];obtain⟨c1,c2⟩:=aGn r n
  cases j:cP m n with
  |none=>rw[c1 j];exact⟨fun _=>rfl,fun c a h=>by cases h⟩
  |some R=>
   obtain⟨y,i,k,l,M,N,S,O⟩:=c2 R j;rw[i];refine⟨fun h=>(by cases h),fun c a h=>?_⟩;simp only[mA,kP,kW]at h;obtain⟨rfl,rfl⟩:=h;exact⟨_,rfl,k,M,N,fun d u=>O d (u.elim id fun h=>dC s h),fun _=>l⟩
 rw[kL D,kL D,r.seat]
 cases C:bO m.L n.client with
 |none=>exact⟨fun _=>rfl,fun c a h=>by cases h⟩
 |some x=>
  obtain⟨q,Q⟩:=vT C;obtain⟨G,I,K⟩:=r.rows x q;simp only[mA,uC];by_cases z:n.conn<1∨x.conn≠n.conn
  ·rw[kM z,kM z];exact⟨fun _=>rfl,fun c a h=>by cases h⟩
  rw[kL z,kL z];have o:∀(f:cO→cO),(∀x,(f x).client=x.client)→∀d,d≠n.client∨n.kind≠2→bO (tZ m.L n.client f) d=bO m.L d:=fun f P d u=>by
   rw[vS _ _ _ P,kL (u.elim mV fun h=>dC s h)]
  by_cases E:n.ptype=8
  ·rw[kM E,kM E];obtain⟨i,k,l⟩:=aOa fil n.subs G I;refine⟨fun h=>(by cases h),fun c a h=>?_⟩;simp only[kP,kW]at h;obtain⟨rfl,rfl⟩:=h;rw[←i];have J:=r.upd C (fun x=>{x with row:=(nD fil x.row n.subs).2}) (fun _=>rfl) (by rw[i]at k l;exact⟨l,k,K⟩);refine⟨_,rfl,?_,rfl,rfl,o _ fun _=>rfl,fun _=>rfl⟩;rw[i];exact J
  rw[kL E,kL E];by_cases e:n.ptype=10
  ·rw[kM e,kM e];obtain⟨i,k,l⟩:=aJl n.subs G I;refine⟨fun h=>(by cases h),fun c a h=>?_⟩;simp only[kP,kW]at h;obtain⟨rfl,rfl⟩:=h;have J:=r.upd C (fun x=>{x with row:=uJ x.row n.subs}) (fun _=>rfl) ⟨l,k,K⟩;refine⟨_,rfl,?_,rfl,rfl,o _ fun _=>rfl,fun _=>rfl⟩;rw[i];exact J
  rw[kL e,kL e];by_cases g:n.ptype=14∨n.ptype=0
  ·rw[kM g,kM g];refine⟨fun h=>(by cases h),fun c a h=>?_⟩;simp only[kP,kW]at h;obtain⟨rfl,rfl⟩:=h;by_cases j:x.clean=true
   ·rw[kM j,kM j];refine⟨_,rfl,r.gone _,rfl,rfl,fun d u=>?_,fun _=>rfl⟩;show bO (lO m.L n.client) d=_;rw[sB r.ndL,kL (u.elim mV fun h=>dC s h)]
   ·rw[kL j,kL j];exact⟨_,rfl,r.upd C (fun x=>{x with conn:=0}) (fun _=>rfl) ⟨G,I,Int.le_refl 0⟩,rfl,rfl,o _ fun _=>rfl,fun _=>rfl⟩
  rw[kL g,kL g];exact⟨fun _=>rfl,fun c a h=>by cases h⟩
end
def nn:cD:=⟨0,0,0,[],0,false,[],⟨[],[],0,false⟩,0⟩
section
variable (l:kC cD)
def nt (i:Nat):cD:=l.getD i nn
def isD (kind:Nat)(op:Int)(packet:Nat)(j:Nat):Prop:=(nt l j).kind=kind∧(nt l j).op=op∧(packet=0∨(nt l j).ptype=packet)
instance (kind:Nat) (op:Int) (packet j:Nat):Decidable (isD l kind op packet j):=by unfold isD;exact inferInstance
def aCu (kind:Nat)(op:Int)(packet:Nat):Nat→Nat→kB Nat
 |_,0=>none
 |i,n+1=>if isD l kind op packet i then some i else aCu kind op packet (i+1) n
def bK (a b:Nat)(kind:Nat)(op:Int)(packet:Nat):kB Nat:=aCu l kind op packet a (b-a)
def aDn {kind:Nat}{op:Int}{packet k:Nat}:∀{n i:Nat},aCu l kind op packet i n=some k↔i≤k∧k<i+n∧isD l kind op packet k∧∀j,i≤j→j<k→¬isD l kind op packet j
 |0,i=>by
  simp only[aCu];exact⟨fun h=>(by cases h),fun h=>by omega⟩
 |n+1,i=>by
  simp only[aCu];split
  ·rename_i h;constructor
   ·intro e;obtain rfl:=pB e;exact⟨kQ _,by omega,h,fun j c d=>by omega⟩
   ·rintro⟨c,d,h3,b⟩;rcases mJ i k with a|g
    ·exact dC h (b i (kQ _) a)
    ·rw[show i=k by omega]
  ·rename_i h;rw[aDn (n:=n)];constructor
   ·rintro⟨c,d,h3,b⟩;refine⟨by omega,by omega,h3,fun j f r=>?_⟩;rcases mJ i j with a|g
    ·exact b j a r
    ·rw[show j=i by omega];exact h
   ·rintro⟨c,d,h3,b⟩;have:i≠k:=fun e=>h (e▸h3);exact⟨by omega,by omega,h3,fun j f r=>b j (by omega) r⟩
variable {l}{kind packet a b r:Nat}
def fst_some:bK l a b kind op packet=some r↔a≤r∧r<b∧isD l kind op packet r∧∀j,a≤j→j<r→¬isD l kind op packet j:=by
 unfold bK;rw[aDn];constructor
 ·rintro⟨h,d,h3,c⟩;exact⟨h,by omega,h3,c⟩
 ·rintro⟨h,d,h3,c⟩;exact⟨h,by omega,h3,c⟩
def bLl:∀(n:Nat),(∃j,a≤j∧j<a+n∧isD l kind op packet j)→∃r,aCu l kind op packet a n=some r
 |n,⟨j,c,d,h3⟩=>by
  cases e:aCu l kind op packet a n with
  |some r=>exact⟨r,rfl⟩
  |none=>
   exfalso;have:∀(n a:Nat),aCu l kind op packet a n=none→∀j,a≤j→j<a+n→¬isD l kind op packet j:=by
    intro n
    induction n with
    |zero=>intro a _ j c d;omega
    |succ n k=>
     intro a h j c d;simp only[aCu]at h;split at h
     ·cases h
     ·rename_i i;rcases mJ a j with f|g
      ·exact k (a+1) h j f (by omega)
      ·rw[show j=a by omega];exact i
   exact this n a e j c d h3
def fst_none:bK l a b kind op packet=none↔∀j,a≤j→j<b→¬isD l kind op packet j:=by
 constructor
 ·intro h j c d h3;obtain⟨r,f⟩:=bLl (l:=l) (kind:=kind) (packet:=packet) (op:=op) (a:=a) (b-a) ⟨j,c,by omega,h3⟩;unfold bK at h;rw[h]at f;cases f
 ·intro h
  cases e:bK l a b kind op packet with
  |none=>rfl
  |some r=>obtain⟨c,d,h3,_⟩:=fst_some.1 e;exact dC h3 (h r c d)
def eZ (d:a≤b):bK l a (b+1) kind op packet=match bK l a b kind op packet with|some r=>some r|none=>if isD l kind op packet b then some b else none:=by
 cases e:bK l a b kind op packet with
 |some r=>
  obtain⟨c,g,h3,i⟩:=fst_some.1 e;exact fst_some.2 ⟨c,by omega,h3,i⟩
 |none=>
  have n:=fst_none.1 e;simp only;split
  ·rename_i h;exact fst_some.2 ⟨d,by omega,h,n⟩
  ·rename_i h;refine fst_none.2 fun j c g=>?_;rcases mJ j b with f|k
   ·exact n j c f
   ·rw[show j=b by omega];exact h
def iO (c:a≤b)(h:¬isD l kind op packet b):bK l a (b+1) kind op packet=bK l a b kind op packet:=by
 rw[eZ c]
 cases bK l a b kind op packet with
 |some r=>rfl
 |none=>simp only[kL h]
end
section
variable (l:kC cD)(S:Nat→MD)(fil:Bs→Bool)(nam:Bs→Bool)(tak:Bs→Bs→Bool)
def bS (r i:Nat)(c:Bs):Bool:=(List.range' r (i-r)).any fun j=>decide (((nt l j).kind=6∨(nt l j).kind=7)∧(nt l j).op=(nt l r).op∧(nt l j).client=c)
def aBy (i:Nat):Bool:=
 match bK l 0 i 4 (nt l i).op 0 with
 |none=>false
 |some r=>
  if(bK l r i 3 (nt l i).op 0).isSome=true∨bS l r i (nt l i).client=true then false
  else if(bD tak (S i) (nt l i).client (nt l r).msg.topic).2=false∨(nt l i).msg≠cK (nt l r).msg (bD tak (S i) (nt l i).client (nt l r).msg.topic).1 false∨(nt l i).qos≠(nt l i).msg.qos then false
  else !(List.range' (r+1) (i-(r+1))).any fun k=>decide ((nt l k).kind=4∧(nt l k).client=(nt l r).client∧(nt l k).msg.topic=(nt l r).msg.topic∧bS l k i (nt l i).client=true)
def gT (i:Nat)(op:Int):kB (Nat×Nat):=(bK l 0 i 2 op 8).map fun d=>((bK l 0 d 1 op 8).getD d,d)
def cH (d:Nat):Row:=((nt l d).subs.zip (match cY fil nam (S d) (nt l d)with|some a=>a.1|none=>[])).foldl (fun r x=>if x.2<128 then(lX fil r x.1.1 x.1.2).2 else r) []
def gW (j:Nat)(op:Int):Bool:=decide ((nt l j).kind=8∨(nt l j).kind=7∧bK l 0 j 4 op 0=none)
def fI (i:Nat)(op:Int)(t:Bs)(exact:Bool):Bool:=(List.range' 0 i).any fun j=>gW l j op&&decide ((nt l j).op=op∧((nt l j).msg.topic=t∨exact=false∧t<(nt l j).msg.topic))
def uG (x:kB Msg)(n:Msg)(q:Nat):Bool:=match x with|some m=>decide (n=cK m q true)|none=>false
def uD (i:Nat):Bool:=
 match gT l i (nt l i).op with
 |none=>false
 |some (a,d)=>
  if(bK l d i 3 (nt l i).op 0).isSome=true∨(nt l i).client≠(nt l d).client∨fI l i (nt l i).op (nt l i).msg.topic false=true∨(nt l i).qos≠(nt l i).msg.qos then false
  else if(cN tak (cH l S fil nam d) (nt l i).msg.topic).2=false then false
  else(List.range' a (d+1-a)).any fun k=>uG (fY (S k).kept (nt l i).msg.topic) (nt l i).msg (cN tak (cH l S fil nam d) (nt l i).msg.topic).1
def aGg (i:Nat):Bool:=
 match bK l 0 i 4 (nt l i).op 0 with
 |none=>true
 |some r=>if(bK l r i 3 (nt l i).op 0).isSome=true then true else
  (S r).L.all fun x=>!((List.range' r (i+1-r)).all fun j=>(bD tak (S j) x.client (nt l r).msg.topic).2)||bS l r i x.client
def aCm (i:Nat):Bool:=
 match gT l i (nt l i).op with
 |none=>true
 |some (a,d)=>if(bK l d i 3 (nt l i).op 0).isSome=true then true else
  (S a).kept.all fun m=>!((cN tak (cH l S fil nam d) m.topic).2&&(List.range' a (d-a)).all (fun j=>!decide ((nt l j).kind=5∧(nt l j).msg.topic=m.topic))&&!fI l i (nt l i).op m.topic true)
def okD (i:Nat):Bool:=
 if(nt l i).kind=4 then decide (1≤(nt l i).op)&&(bK l 0 i 4 (nt l i).op 0).isNone
 else if(nt l i).kind=6∨(nt l i).kind=7∧(bK l 0 i 4 (nt l i).op 0).isSome=true then aBy l S tak i
 else if(nt l i).kind=8∨(nt l i).kind=7 then uD l S fil nam tak i
 else if(nt l i).kind=3 then aGg l S tak i&&aCm l S fil nam tak i
 else true
def aNe (e:Nat):Nat→Nat→Nat×Bool
 |_,0=>(e,decide (e=l.length))
 |i,n+1=>if okD l S fil nam tak i then aNe e (i+1) n else(i,false)
def bTy (e:Nat):Nat×Bool:=aNe l S fil nam tak e 0 e
def tK (i:Nat):kB MD:=if(nt l i).kind=2∨(nt l i).kind=5 then(cY fil nam (S i) (nt l i)).map (·.2)else some (S i)
structure aRc (e:Nat):Prop where
 zero:S 0={}
 le:e≤l.length
 step:∀i,i<e→tK l S fil nam i=some (S (i+1))
 stop:e<l.length→tK l S fil nam e=none
end
section
variable {l:kC cD}
def jW {r:Nat}:bS l r n B=true↔∃j,r≤j∧j<n∧((nt l j).kind=6∨(nt l j).kind=7)∧(nt l j).op=(nt l r).op∧(nt l j).client=B:=by
 unfold bS;rw[rP];constructor
 ·rintro⟨j,c,h⟩;have c:=List.mem_range'_1.1 c;exact⟨j,c.1,by omega,tE h⟩
 ·rintro⟨j,d,e,h⟩;exact⟨j,List.mem_range'_1.2 ⟨d,by omega⟩,kN h⟩
def vD {r:Nat}(k:r≤n)(h:(nt l n).op=(nt l r).op→(nt l n).kind≠6∧(nt l n).kind≠7):bS l r (n+1) B=bS l r n B:=by
 rw[mR,jW,jW];constructor
 ·rintro⟨j,c,f,h3,e,g⟩;refine⟨j,c,?_,h3,e,g⟩;rcases mJ j n with d|i
  ·exact d
  ·obtain rfl:j=n:=by omega
   have:=h e;rcases h3 with h3|h3
   ·exact dC h3 this.1
   ·exact dC h3 this.2
 ·rintro⟨j,c,f,h⟩;exact⟨j,c,by omega,h⟩
def its_iff :gW l n op=true↔(nt l n).kind=8∨(nt l n).kind=7∧bK l 0 n 4 op 0=none:=by simp[gW]
def told_iff {J:Bool}:fI l n op B J=true↔∃j,j<n∧gW l j op=true∧(nt l j).op=op∧((nt l j).msg.topic=B∨J=false∧B<(nt l j).msg.topic):=by
 unfold fI;rw[rP];constructor
 ·rintro⟨j,c,h⟩;have c:=List.mem_range'_1.1 c;rw[pA,pW]at h;exact⟨j,by omega,h.1,h.2⟩
 ·rintro⟨j,e,d,h3⟩;exact⟨j,List.mem_range'_1.2 ⟨sE _,by omega⟩,by rw[pA,pW];exact⟨d,h3⟩⟩
def nY (h:(nt l n).op=op→gW l n op=false)(t:Bs)(x:Bool):fI l (n+1) op t x=fI l n op t x:=by
 rw[mR,told_iff,told_iff];constructor
 ·rintro⟨j,e,c,h3,f⟩;refine⟨j,?_,c,h3,f⟩;rcases mJ j n with d|g
  ·exact d
  ·obtain rfl:j=n:=by omega
   rw[h h3]at c;cases c
 ·rintro⟨j,e,h⟩;exact⟨j,by omega,h⟩
end
end Ra
