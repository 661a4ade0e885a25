import Derived.Test.YtpanfoafajepcaaGreatDoorGw
import Derived.Test.YtpanfoafajepcaaGreatDoorRaI
import Derived.Test.YtpanfoafajepcaaGreatDoorGu
import Derived.Test.YtpanfoafajepcaaGreatDoorGo
set_option maxRecDepth 100000
namespace Go.Proofs.YtpanfoafajepcaaGreatDoor.Ra
open Tryz (prog)
open Tryz (prog)
open Go Go.AM RaA RaI
structure K1 (D:CF)(T0:H)(val:List UInt8→Bool):Prop where
 va:∀h s,HasT T0 h→D 52 [str s] h=some (.bool (val s),h)
 co:∀h s,HasT T0 h→s.length≤1000300→D 69 [str s,str PM] h=some (.bool (aJn s),h)
 sp:∀h s,s.length≤1000300→∃h' v,D 68 [str s,str SL] h=some (v,h')∧SliceE 1 h' v ((cF s).map fun x=>[str x])∧Ext h h'
 vl:∀s,val s=true→s.length≤65535
 no:∀f args h,f∈[40,47,53,54,61,62,81,82,95]→D f args h=none
 tab:aBa 3 T0
section
variable {D:CF}{T0:H}{val:List UInt8→Bool}(k1:K1 D T0 val){h:H}
include k1
noncomputable abbrev CI (D:CF):CF:=aH prog 3 D
def aFg (val:List UInt8→Bool)(s:List UInt8):Bool:=decide (s≠[])&&(val s&&!aJn s)
theorem N61 (ht:HasT T0 h)(s:List UInt8):CI D 61 [str s] h=some (.bool (aFg val s),h):=by
 refine bEp 0 _ h (k1.no 61 _ _ (by decide)) ?_;have ne:A.zA prog .neq 9 (str s) (.string ⟨⟨[]⟩⟩)=_:=rS s [];have va:=eK (P:=prog) (NG:=3) (k1.va h s ht);have hn:aFg val s=(!decide (s=[])&&(val s&&!aJn s)):=by unfold aFg;by_cases hz:s=[]<;>simp[hz]
 rw[hn];generalize decide (s=[])=bz at ne
 cases bz with
 |true=>rw[show(!true)=false from rfl]at ne;simp only[F61,aNn,ne,RaK.S,Bool.false_and]
 |false=>
  rw[show(!false)=true from rfl]at ne
  cases hv:val s with
  |false=>rw[hv]at va;simp only[F61,aNn,ne,RaK.S,va,Bool.false_and,Bool.and_false]
  |true=>
   rw[hv]at va;have co:CI D 69 [str s,.string ⟨⟨[43,35]⟩⟩] h=_:=eK (k1.co h s ht (by have:=k1.vl s hv;omega));simp only[F61,aNn,ne,RaK.S,va,co,Bool.true_and]
theorem N54 (ht:HasT T0 h)(s:List UInt8)(hl:s.length≤1000300)(last:Bool):∃b,CI D 54 [str s,.bool last] h=some (.bool b,h):=by
 have q:=fun b=>bEs 0 (str s) (.bool last) h (r:=(.bool b,h)) (k1.no 54 _ _ (by decide));have e1:A.zA prog .eql 9 (str s) (.string ⟨⟨[43]⟩⟩)=_:=dK s [43];have e2:A.zA prog .eql 9 (str s) (.string ⟨⟨[35]⟩⟩)=_:=dK s [35];have co:CI D 69 [str s,.string ⟨⟨[43,35]⟩⟩] h=_:=eK (k1.co h s ht hl);generalize decide (s=[43])=b1 at e1;generalize decide (s=[35])=b2 at e2;simp only[F54,aWi,e1,e2,RaK.S,co]at q
 cases b1 with
 |true=>exact⟨_,q true rfl⟩
 |false=>
  cases b2 with
  |false=>exact⟨_,q _ rfl⟩
  |true=>
   cases last with
   |true=>exact⟨_,q true rfl⟩
   |false=>exact⟨_,q _ rfl⟩
theorem N53 (s:List UInt8)(hl:s.length≤1000300):∃h' v,CI D 53 [str s] h=some (v,h')∧SliceE 1 h' v ((cF s).map fun x=>[str x])∧Ext h h':=by
 obtain⟨h',v,e,sl,x⟩:=k1.sp h s hl;have e:CI D 68 [str s,.string ⟨⟨[47]⟩⟩] h=_:=eK e;refine⟨h',v,bEt 0 _ h (k1.no 53 _ _ (by decide)) ?_,sl,x⟩;simp only[F53,aWj,e,RaK.S]
omit k1 in
theorem aKl (n:Nat)(s:List UInt8):pW n s≠[]:=by
 cases n with
 |zero=>simp[pW]
 |succ n=>simp only[pW];split<;>simp
omit k1 in
theorem aKk {B:Nat}(n:Nat):∀s:List UInt8,s.length≤B→∀x∈pW n s,x.length≤B:=by
 induction n with
 |zero=>intro s h x hx;simp only[pW,List.mem_singleton]at hx;subst hx;exact h
 |succ n ih=>
  intro s h x hx;simp only[pW]at hx;split at hx
  ·simp only[List.mem_singleton]at hx;subst hx;exact h
  ·rcases List.mem_cons.1 hx with rfl|hx
   ·rw[kT];omega
   ·exact ih _ (by rw[kU];omega) x hx
omit k1 in
theorem xY (n:Nat):∀s:List UInt8,(pW n s).length≤n+1:=by
 induction n with
 |zero=>intro s;simp[pW]
 |succ n ih=>
  intro s;simp only[pW];split
  ·simp
  ·have:=ih (s.drop ((Lib.indexByte s 47).toNat+1));simp only[kM];omega
omit k1 in
theorem lY (s:List UInt8):(cF s).length≤s.length+1:=by
 have hc:Lib.countByte s 47≤s.length:=List.count_le_length;unfold cF;split
 ·exact xY _ s
 ·exact kG (xY _ s) (by omega)
theorem bLt {v:Value}{ps:List (List UInt8)}(hps:ps.length≤1000400)(hsm:∀x∈ps,x.length≤1000300)(ht:HasT T0 h)(sl:SliceE 1 h v (ps.map fun x=>[str x]))(kr:Value→H→Option (Value×H))(kx:H→Option (Value×H)){L:Nat}:
 ∀(d i m:Nat),i+d=ps.length→d<m→vG (CI D) L kr kx m (.int .i64 (ps.length:Int)) (.int .i64 (i:Int)) v v h=kx h∨vG (CI D) L kr kx m (.int .i64 (ps.length:Int)) (.int .i64 (i:Int)) v v h=kr (.bool false) h:=by
 intro d
 induction d with
 |zero=>
  intro i m hi hm;obtain⟨m,rfl⟩:∃r,m=r+1:=⟨m-1,by omega⟩;have hd:decide ((i:Int)<(ps.length:Int))=false:=by rw[kI];omega
  left;simp only[vG,aFn,zZ,hd,RaK.S]
 |succ d ih=>
  intro i m hi hm;obtain⟨m,rfl⟩:∃r,m=r+1:=⟨m-1,by omega⟩;have hd:decide ((i:Int)<(ps.length:Int))=true:=by rw[kJ];omega
  obtain⟨x,hx⟩:∃x,ps[i]?=some x:=⟨_,kN (by omega)⟩;have hx':(ps.map fun x=>[str x])[i]?=some [str x]:=by rw[kX,hx];rfl
  obtain⟨id,off,cells,own,ei,_,g,_,_,hc⟩:=sl.at hx' .i64;have l0:A.load false 1 (.pointer (some ⟨id,off,none⟩)) h=some (str x):=by
   rw[qK,g];have:=hc 0 (by omega);simpa using this
  have ln:A.zH v=some (.int .i64 (ps.length:Int)):=by have:=sl.len.1;rwa [pA]at this
  have w1:A.zA prog .sub 3 (.int .i64 (ps.length:Int)) (.int .i64 1)=some (.int .i64 ((ps.length-1:Nat):Int)):=by
   rw[nG,lT (by omega) (by omega)];congr 2;omega
  have w2:A.zA prog .add 3 (.int .i64 (i:Int)) (.int .i64 1)=some (.int .i64 ((i+1:Nat):Int)):=by rw[bG,aS (by omega)]
  obtain⟨b,e54⟩:=N54 k1 ht x (hsm x (List.mem_of_getElem? hx)) (decide ((i:Int)=((ps.length-1:Nat):Int)));rcases ih (i+1) m (by omega) (by omega)with e|e
  ·cases b with
   |true=>left;simp only[vG,aFn,zZ,hd,RaK.S,ei,l0,ln,w1,zQ,e54,w2,e]
   |false=>right;simp only[vG,aFn,zZ,hd,RaK.S,ei,l0,ln,w1,zQ,e54]
  ·right
   cases b with
   |true=>simp only[vG,aFn,zZ,hd,RaK.S,ei,l0,ln,w1,zQ,e54,w2,e]
   |false=>simp only[vG,aFn,zZ,hd,RaK.S,ei,l0,ln,w1,zQ,e54]
theorem N40 (ht:HasT T0 h)(hn:3≤h.next)(s:List UInt8):∃b h',CI D 40 [str s] h=some (.bool b,h')∧Ext h h'∧(b=true→s≠[]∧val s=true):=by
 have e1:A.zA prog .eql 9 (str s) (.string ⟨⟨[]⟩⟩)=_:=dK s [];have va:=eK (P:=prog) (NG:=3) (k1.va h s ht);by_cases hz:s=[]
 ·rw[kC hz]at e1;refine⟨false,h,aFj 0 _ h (k1.no 40 _ _ (by decide)) ?_,Ext.refl h,fun e=>by cases e⟩;simp only[F40,aGq,aMg,e1,RaK.S]
 rw[kD hz]at e1
 cases hv:val s with
 |false=>
  rw[hv]at va;refine⟨false,h,aFj 0 _ h (k1.no 40 _ _ (by decide)) ?_,Ext.refl h,fun e=>by cases e⟩;simp only[F40,aGq,aMg,e1,va,RaK.S]
 |true=>
  rw[hv]at va;have hl:=k1.vl s hv;obtain⟨h1,v,e2,sl,x⟩:=N53 k1 (h:=h) s (by omega);have ln:A.zH v=some (.int .i64 ((cF s).length:Int)):=by have:=sl.len.1;rwa [pA]at this
  have hsm:∀y∈cF s,y.length≤1000300:=fun y hy=>aKk _ s (by omega) y hy;have hlen:=lY s;rcases bLt k1 (h:=h1) (L:=(cF s).length+1) (by omega) hsm (ht.ext k1.tab hn x) sl (fun v h=>some (v,h)) (fun h=>some (.bool true,h)) (cF s).length 0 ((cF s).length+1) (by omega) (by omega)with e|e
  ·refine⟨true,h1,aFj ((cF s).length+1) _ h (k1.no 40 _ _ (by decide)) ?_,x,fun _=>⟨hz,rfl⟩⟩;have e:vG (CI D) _ _ (fun h=>aUb h (fun v h=>some (v,h))) _ (.int .i64 ((cF s).length:Int)) (.int .i64 0) v v h1=_:=e;simp only[F40,aGq,aMg,e1,va,RaK.S,aUd,e2,aNe,aUc,ln,e]
  ·refine⟨false,h1,aFj ((cF s).length+1) _ h (k1.no 40 _ _ (by decide)) ?_,x,fun e=>by cases e⟩;have e:vG (CI D) _ _ (fun h=>aUb h (fun v h=>some (v,h))) _ (.int .i64 ((cF s).length:Int)) (.int .i64 0) v v h1=_:=e;simp only[F40,aGq,aMg,e1,va,RaK.S,aUd,e2,aNe,aUc,ln,e]
theorem lev {v:Value}{ps:List (List UInt8)}(sl:SliceE 1 h v (ps.map fun x=>[str x])){i:Nat}(hi:i<ps.length):∃a x,A.zL 1 v (.int .i64 (i:Int))=some a∧A.load false 1 a h=some (str x):=by
 have _:=k1;obtain⟨x,hx⟩:∃x,ps[i]?=some x:=⟨_,kN hi⟩;have hx':(ps.map fun x=>[str x])[i]?=some [str x]:=by rw[kX,hx];rfl
 obtain⟨id,off,cells,own,ei,_,g,_,_,hc⟩:=sl.at hx' .i64;exact⟨_,x,ei,by rw[qK,g];have:=hc 0 (by omega);simpa using this⟩
theorem N81 (s:List UInt8)(hl:s.length≤1000300):∃b h',CI D 81 [str s] h=some (.bool b,h')∧Ext h h':=by
 obtain⟨h1,v,e2,sl,x⟩:=N53 k1 (h:=h) s hl;obtain⟨a,y,ei,l0⟩:=lev k1 sl (i:=0) (List.length_pos_iff.2 (aKl _ s));have ei:A.zL 1 v (.int .i64 0)=_:=ei;have e3:A.zA prog .eql 9 (str y) (.string ⟨⟨[43]⟩⟩)=_:=dK y [43];have e4:A.zA prog .eql 9 (str y) (.string ⟨⟨[35]⟩⟩)=_:=dK y [35];have q:=fun b=>bEg 0 (str s) h (r:=(.bool b,h1)) (k1.no 81 _ _ (by decide));generalize decide (y=[43])=b1 at e3;simp only[F81,aWb,e2,RaK.S,ei,l0,e3,e4]at q
 cases b1 with
 |true=>exact⟨true,h1,q true rfl,x⟩
 |false=>exact⟨_,h1,q _ rfl,x⟩
theorem N95 {va vb:Value}{pa pb:List (List UInt8)}(sa:SliceE 1 h va (pa.map fun x=>[str x]))(sb:SliceE 1 h vb (pb.map fun x=>[str x])){a b f:Nat}(ga:h.get a=some (.cells [va] (some 0)))(gb:h.get b=some (.cells [vb] (some 0)))
 (gf:h.get f=some (.cells [.func (.func 95) ⟨[]⟩ ⟨[aB a,aB b,aB f]⟩] (some 0))) (hlen:pa.length≤1000400) (hlb:pb.length≤1000400):∀(d i:Nat),i+d=pa.length→i≤pb.length→∃r,CI D 95 [.int .i64 (i:Int),aB a,aB b,aB f] h=some (.bool r,h):=by
 have la:A.load false 1 (aB a) h=some va:=by rw[qK,ga];rfl
 have lb:A.load false 1 (aB b) h=some vb:=by rw[qK,gb];rfl
 have lf:A.load false 1 (aB f) h=some (.func (.func 95) ⟨[]⟩ ⟨[aB a,aB b,aB f]⟩):=by rw[qK,gf];rfl
 have na:A.zH va=some (.int .i64 (pa.length:Int)):=by have:=sa.len.1;rwa [pA]at this
 have nb:A.zH vb=some (.int .i64 (pb.length:Int)):=by have:=sb.len.1;rwa [pA]at this
 intro d
 induction d with
 |zero=>
  intro i hi hb;have d1:decide ((i:Int)=(pa.length:Int))=true:=kC (by omega);have q:=fun r=>aOk 0 (.int .i64 (i:Int)) (aB a) (aB b) (aB f) h (r:=(.bool r,h)) (k1.no 95 _ _ (by decide));simp only[F95,aGo,aLs,aGk,aLr,la,na,RaK.S,zQ,d1,bGm,lb,nb]at q;exact⟨_,q _ rfl⟩
 |succ d ih=>
  intro i hi hb;have d1:decide ((i:Int)=(pa.length:Int))=false:=kD (by omega);obtain⟨pa',xa,ia,l1⟩:=lev k1 sa (i:=i) (by omega);have e1:A.zA prog .eql 9 (str xa) (.string ⟨⟨[35]⟩⟩)=_:=dK xa [35];have e2:A.zA prog .eql 9 (str xa) (.string ⟨⟨[43]⟩⟩)=_:=dK xa [43];have q:=fun r=>aOk 0 (.int .i64 (i:Int)) (aB a) (aB b) (aB f) h (r:=(.bool r,h)) (k1.no 95 _ _ (by decide));generalize decide (xa=[35])=b1 at e1;generalize decide (xa=[43])=b2 at e2
  cases b1 with
  |true=>
   simp only[F95,aGo,aLs,aGk,aLr,la,na,RaK.S,zQ,d1,aOr,ia,l1,e1,bGn]at q;exact⟨_,q _ rfl⟩
  |false=>
   by_cases hib:i=pb.length
   ·have d2:decide ((i:Int)=(pb.length:Int))=true:=kC (by omega);simp only[F95,aGo,aLs,aGk,aLr,la,na,RaK.S,zQ,d1,aOr,ia,l1,e1,aTq,lb,nb,d2]at q;exact⟨_,q _ rfl⟩
   have d2:decide ((i:Int)=(pb.length:Int))=false:=kD (by omega);obtain⟨pb',xb,ib,l2⟩:=lev k1 sb (i:=i) (by omega);have e3:A.zA prog .eql 9 (str xb) (.string ⟨⟨[35]⟩⟩)=_:=dK xb [35];have e4:A.zA prog .eql 9 (str xa) (str xb)=_:=dK xa xb;generalize decide (xb=[35])=b3 at e3;generalize decide (xa=xb)=b4 at e4;obtain⟨r,er⟩:=ih (i+1) (by omega) (by omega);have w2:A.zA prog .add 3 (.int .i64 (i:Int)) (.int .i64 1)=some (.int .i64 ((i+1:Nat):Int)):=by rw[bG,aS (by omega)]
   have er:callM prog (CI D) (.func (.func 95) ⟨[]⟩ ⟨[aB a,aB b,aB f]⟩) [.int .i64 ((i+1:Nat):Int)] h=some (.bool r,h):=er;simp only[F95,aGo,aLs,aGk,aLr,la,na,RaK.S,zQ,d1,aOr,ia,l1,e1,aTq,lb,nb,d2,ib,l2,e3,bGl,e2,e4,lf,w2,er,bGk]at q
   cases b3 with
   |true=>exact⟨_,q _ rfl⟩
   |false=>
    cases b2 with
    |true=>exact⟨_,q _ rfl⟩
    |false=>
     cases b4 with
     |true=>exact⟨_,q _ rfl⟩
     |false=>exact⟨_,q _ rfl⟩
theorem N82 {va vb:Value}{pa pb:List (List UInt8)}(sa:SliceE 1 h va (pa.map fun x=>[str x]))(sb:SliceE 1 h vb (pb.map fun x=>[str x]))(hlen:pa.length≤1000400)(hlb:pb.length≤1000400):
 ∃b h',CI D 82 [va,vb] h=some (.bool b,h')∧Ext h h':=by
 obtain⟨h1,hh1⟩:∃h1,h1=h.push (.cells [va] (some 0)):=⟨_,rfl⟩;obtain⟨h2,hh2⟩:∃h2,h2=h1.push (.cells [vb] (some 0)):=⟨_,rfl⟩;obtain⟨h3,hh3⟩:∃h3,h3=h2.push (.cells [.nilFunc] (some 0)):=⟨_,rfl⟩;have n1:h1.next=h.next+1:=by rw[hh1];rfl
 have n2:h2.next=h.next+2:=by rw[hh2,rG,n1]
 have n3:h3.next=h.next+3:=by rw[hh3,rG,n2]
 have b1:A.box 1 va h=some (aB h.next,h1):=by rw[aIg,sa.cells,hh1];rfl
 have b2:A.box 1 vb h1=some (aB h1.next,h2):=by rw[aIg,sb.cells,hh2];rfl
 have b3:A.box 1 RaI.Z149 h2=some (aB h2.next,h3):=by rw[hh3];rfl
 obtain⟨fv,hfv⟩:∃fv,fv=Value.func (.func 95) ⟨[]⟩ ⟨[aB h.next,aB h1.next,aB h2.next]⟩:=⟨_,rfl⟩;obtain⟨h4,hh4⟩:∃h4,h4=h3.put h2.next (.cells [fv] (some 0)):=⟨_,rfl⟩;have g3:h3.get h2.next=some (.cells [.nilFunc] (some 0)):=by rw[hh3,H.get_push,kB rfl]
 have s1:A.store 1 (aB h2.next) fv h3=some h4:=by
  rw[qU,g3,hfv];simp only[xF];rw[hh4,hfv];rfl
 have x4:Ext h h4:=by
  rw[hh4];refine Ext.put ?_ _ _ (by omega);rw[hh3];refine Ext.pushed ?_ _;rw[hh2];refine Ext.pushed ?_ _;rw[hh1];exact Ext.push h _
 have ga:h4.get h.next=some (.cells [va] (some 0)):=by
  rw[hh4,H.get_put,kA (by omega),hh3,H.get_push,kA (by omega),hh2,H.get_push,kA (by omega),hh1,H.get_push,kB rfl]
 have gb:h4.get h1.next=some (.cells [vb] (some 0)):=by
  rw[hh4,H.get_put,kA (by omega),hh3,H.get_push,kA (by omega),hh2,H.get_push,kB rfl]
 have gf:h4.get h2.next=some (.cells [fv] (some 0)):=by rw[hh4,H.get_put,kB rfl]
 have lf:A.load false 1 (aB h2.next) h4=some fv:=by rw[qK,gf];rfl
 rw[hfv]at gf;obtain⟨r,er⟩:=N95 k1 (sa.ext x4) (sb.ext x4) ga gb gf hlen hlb pa.length 0 (by omega) (by omega);have er:callM prog (CI D) fv [.int .i64 0] h4=some (.bool r,h4):=by rw[hfv];exact er
 refine⟨r,h4,bEf 0 _ _ h (k1.no 82 _ _ (by decide)) ?_,x4⟩;simp only[F82,aWa,b1,RaK.S,b2,b3,←hfv,s1,lf,er]
theorem N62 (ht:HasT T0 h)(hn:3≤h.next)(f n:List UInt8):∃b h',CI D 62 [str f,str n] h=some (.bool b,h')∧Ext h h':=by
 obtain⟨b1,h1,e1,x1,y1⟩:=N40 k1 ht hn f;obtain⟨b2,h2,e2,x2,y2⟩:=N40 k1 (ht.ext k1.tab hn x1) (kG hn x1.next) n;have x12:=x1.trans x2;have q:=fun r h'=>bEo 0 (str f) (str n) h (r:=(.bool r,h')) (k1.no 62 _ _ (by decide))
 cases b1 with
 |false=>
  simp only[F62,aGp,aMb,aGi,aIm,e1,RaK.S,aMa]at q;exact⟨_,_,q _ _ rfl,x1⟩
 |true=>
  cases b2 with
  |false=>
   simp only[F62,aGp,aMb,aGi,aIm,e1,e2,RaK.S,aMa]at q;exact⟨_,_,q _ _ rfl,x12⟩
  |true=>
   have lf:=k1.vl f (y1 rfl).2;have ln:=k1.vl n (y2 rfl).2;obtain⟨b3,h3,e3,x3⟩:=N81 k1 (h:=h2) f (by omega);have x13:=x12.trans x3;obtain⟨c,hc⟩:∃c,n[0]?=some c:=⟨_,kN (List.length_pos_iff.2 (y2 rfl).1)⟩;have ic:A.zC (str n) (.int .i64 0)=some (u8 c):=ixS (i:=0) hc;have go:∃b,aIm (CI D) h (str f) (str n)=fun kn:Value→Value→Value→H→Option (Value×H)=>kn (.bool b) (str f) (str n) h3:=by
    cases b3 with
    |false=>exact⟨false,funext fun kn=>by simp only[aIm,e1,e2,e3,RaK.S]⟩
    |true=>exact⟨decide ((c.toNat:Int)=36),funext fun kn=>by simp only[aIm,e1,e2,e3,RaK.S,ic,zQ]⟩
   obtain⟨b,go⟩:=go
   cases b with
   |true=>
    simp only[F62,aGp,aMb,aGi,go,RaK.S,aMa]at q;exact⟨_,_,q _ _ rfl,x13⟩
   |false=>
    obtain⟨h4,va,e4,sa,x4⟩:=N53 k1 (h:=h3) f (by omega);obtain⟨h5,vb,e5,sb,x5⟩:=N53 k1 (h:=h4) n (by omega);have l1:=lY f;have l2:=lY n;obtain⟨r,h6,e6,x6⟩:=N82 k1 (sa.ext x5) sb (by omega) (by omega);simp only[F62,aGp,aMb,aGi,go,RaK.S,aMa,bGx,e4,e5,e6]at q;exact⟨_,_,q _ _ rfl,((x13.trans x4).trans x5).trans x6⟩
theorem N47 (ht:HasT T0 h)(hn:3≤h.next)(f n:List UInt8):∃b h',CI D 47 [str f,str n] h=some (.bool b,h')∧Ext h h':=by
 have e1:=N61 k1 ht n;have q:=fun r h'=>bEy 0 (str f) (str n) h (r:=(.bool r,h')) (k1.no 47 _ _ (by decide))
 cases hb:aFg val n with
 |false=>
  rw[hb]at e1;simp only[F47,aRf,e1,RaK.S]at q;exact⟨_,_,q _ _ rfl,Ext.refl h⟩
 |true=>
  rw[hb]at e1;obtain⟨b,h1,e2,x⟩:=N62 k1 ht hn f n;simp only[F47,aRf,e1,e2,RaK.S]at q;exact⟨_,_,q _ _ rfl,x⟩
end
end Go.Proofs.YtpanfoafajepcaaGreatDoor.Ra

set_option maxRecDepth 100000
namespace Go.Proofs.YtpanfoafajepcaaGreatDoor.Ra
open Tryz (prog)
open Tryz (prog)
open Go Go.AM RaA RaI
open _root_.Ra
structure K2 (D:CF)(T0:H)(fil nam:Bs→Bool)(tak:Bs→Bs→Bool):Prop where
 fi:∀h s,HasT T0 h→D 40 [str s] h=some (.bool (fil s),h)
 na:∀h s,HasT T0 h→D 61 [str s] h=some (.bool (nam s),h)
 ta:∀h f n,HasT T0 h→D 47 [str f,str n] h=some (.bool (tak f n),h)
 no:∀f args h,f∈[4,6,7,14,15,16,17,18,19,20,21,22,23,24,25,26,27,28,29,30,31,32,33,34,35,36,37,38,39,41,42,44,45,46,48,49,50,51,55,56,57,60,63,64,66,70,89]→D f args h=none
 tab:aBa 3 T0
def bM (r:Row):List (List Value):=r.map fun x=>[str x.1,.int .u8 (x.2:Int)]
theorem jS (r:Row):∀e∈bM r,e.length=2:=fun e he=>by
 obtain⟨x,_,rfl⟩:=List.mem_map.1 he;rfl
theorem cT (r:Row):(bM r).flatten.length=r.length*2:=by rw[bW (jS r)];simp[bM]
def RowV (h:H)(v:Value)(r:Row):Prop:=
 (v=gF∧r=[])∨∃q c extra,v=.slice (some ⟨q,0,none⟩) r.length c∧r.length≤c / 2∧q<h.next∧h.get q=some (.cells ((bM r).flatten++extra) (some 2))
theorem RowV.slice {h:H}{v:Value}{r:Row}(x:RowV h v r):SliceE 2 h v (bM r):=by
 refine⟨jS r,?_⟩;rcases x with⟨rfl,rfl⟩|⟨q,c,extra,rfl,h1,h2,h3⟩
 ·exact .inl ⟨rfl,rfl⟩
 ·have hf:=cT r;have hl:(bM r).length=r.length:=by simp[bM]
  refine .inr ⟨q,0,c,by rw[hl],by omega,h2,fun _=>⟨_,_,h3,by rw[kL,hf,hl];omega,?_⟩⟩;rw[List.drop_zero,hl,List.take_append_of_le_length (by omega),pN (by omega)]
theorem RowV.of_vec {h:H}{v:Value}{r:Row}(x:Vec 2 h v (bM r)):RowV h v r:=by
 rcases x.2 with⟨rfl,e⟩|⟨q,hv,h1,h2⟩
 ·exact .inl ⟨rfl,by simpa[bM]using e⟩
 ·have hl:(bM r).length=r.length:=by simp[bM]
  rw[hl]at hv;exact .inr ⟨q,_,[],hv,by omega,h1,by simpa using h2⟩
theorem RowV.but {S:Nat→Prop}{h h':H}{v:Value}{r:Row}(x:RowV h v r)(e:ExtBut S h h')(hs:∀i,sid v=some i→¬S i):RowV h' v r:=by
 rcases x with x|⟨q,c,extra,rfl,h1,h2,h3⟩
 ·exact .inl x
 ·exact .inr ⟨q,c,extra,rfl,h1,kH h2 e.next,by rw[e.get q h2 (hs q rfl)];exact h3⟩
theorem RowV.lt {h:H}{v:Value}{r:Row}(x:RowV h v r):∀i,sid v=some i→i<h.next:=x.slice.sid_lt
theorem RowV.len {h:H}{v:Value}{r:Row}(x:RowV h v r):A.zH v=some (.int .i64 (r.length:Int)):=by have:=x.slice.len.1;rwa [bM,pA]at this
structure ListR (h:H)(l:Nat)(v:Value)(r:Row):Prop where
 get:h.get l=some (.cells [v] (some 0))
 lt:l<h.next
 row:RowV h v r
 ne:sid v≠some l
theorem ListR.but {S:Nat→Prop}{h h':H}{l:Nat}{v:Value}{r:Row}(x:ListR h l v r)(e:ExtBut S h h')(hl:¬S l)(hs:∀i,sid v=some i→¬S i):ListR h' l v r:=
 ⟨by rw[e.get l x.lt hl];exact x.get,kH x.lt e.next,x.row.but e hs,x.ne⟩
theorem ListR.load {h:H}{l:Nat}{v:Value}{r:Row}(x:ListR h l v r):A.load false 1 (aB l) h=some v:=by rw[qK,x.get];rfl
section
variable {D:CF}{T0:H}{fil nam:Bs→Bool}{tak:Bs→Bs→Bool}(k2:K2 D T0 fil nam tak){h:H}
include k2
theorem T28:∃h',CI D 28 [] h=some (aB h.next,h')∧ListR h' h.next gF []∧Ext h h':=by
 refine⟨h.push (.cells [gF] (some 0)),bFl 0 h (k2.no 28 _ _ (by decide)) rfl,⟨by rw[H.get_push,kB rfl],by simp,.inl ⟨rfl,rfl⟩,by simp[sid]⟩,Ext.push h _⟩
theorem T89 (a b:Bs):CI D 89 [str a,str b] h=some (.int .i64 (jR a b),h):=by
 have hb:((prog.funcs[89]?).map fun fn=>(fn.body.isNone,oS fn))=some (true,4):=by kernel_rfl
 obtain⟨fn,hf,hfb⟩:∃fn,prog.funcs[89]?=some fn∧(fn.body.isNone,oS fn)=(true,4):=by
  cases hf:prog.funcs[89]? with
  |none=>rw[hf]at hb;cases hb
  |some fn=>rw[hf]at hb;exact⟨fn,rfl,kP hb⟩
 refine aEh (k2.no 89 _ _ (by decide)) hf (Option.isNone_iff_eq_none.1 (congrArg Prod.fst hfb)) ?_;rw[show oS fn=4 from congrArg Prod.snd hfb];rfl
theorem T70 (a b:Bs):CI D 70 [str a,str b] h=some (.int .i64 (jR a b),h):=by
 refine bEh 0 _ _ h (k2.no 70 _ _ (by decide)) ?_;simp only[F70,aWc,T89 k2,RaK.S]
theorem T57 (a b:Bs):CI D 57 [str a,str b] h=some (.int .i64 (jR a b),h):=by
 refine bEq 0 _ _ h (k2.no 57 _ _ (by decide)) ?_;simp only[F57,aWg,T70 k2,RaK.S]
theorem T56 (a b:Bs)(q:Nat):∃h',CI D 56 [.agg ⟨[str a,.int .u8 (q:Int)]⟩,str b] h=some (.int .i64 (jR a b),h')∧Ext h h':=by
 obtain⟨h1,hh⟩:∃h1,h1=h.push (.cells [str a,.int .u8 (q:Int)] (some 0)):=⟨_,rfl⟩;have e1:A.box 2 (.agg ⟨[str a,.int .u8 (q:Int)]⟩) h=some (aB h.next,h1):=by rw[hh];rfl
 have l1:A.load false 1 (.pointer (some ⟨h.next,0,none⟩)) h1=some (str a):=by rw[qK,hh,H.get_push,kB rfl];rfl
 refine⟨h1,bEr 0 _ _ h (k2.no 56 _ _ (by decide)) ?_,by rw[hh];exact Ext.push h _⟩;simp only[F56,aWh,e1,RaK.S,Nat.zero_add,l1,T57 k2]
omit k2 in
theorem bMe {n:Nat}(hn:n<2^62):∃a b,A.conv prog 3 120 (.int .i64 (n:Int))=some a∧A.zA prog .shr 120 a (.int .u64 1)=some b∧A.conv prog 120 3 b=some (.int .i64 ((n / 2:Nat):Int)):=by
 have u3:prog.underlying 3=some (.int .i64):=Tryz.underlying3;have u120:prog.underlying 120=some (.int .u64):=by kernel_rfl
 have w1:IntKind.u64.wrap (n:Int)=(n:Int):=by simp[IntKind.wrap,IntKind.bits,IntKind.signed];omega
 have w2:(n:Int).fdiv 2=((n / 2:Nat):Int):=by rw[Int.fdiv_eq_ediv_of_nonneg _ (by omega)];omega
 refine⟨.int .u64 (n:Int),.int .u64 ((n / 2:Nat):Int),?_,?_,?_⟩
 ·simp only[A.conv,u3,u120,w1]
 ·rw[←w2];rfl
 ·simp only[A.conv,u3,u120];rw[lT (by omega) (by omega)]
theorem aIi {v:Value}{r:Row}(x:RowV h v r){i:Nat}{y:Bs×Nat}(hy:r[i]?=some y):∃a off q,A.zL 2 v (.int .i64 (i:Int))=some (.pointer (some ⟨q,off,none⟩))∧A.load true 2 (.pointer (some ⟨q,off,none⟩)) h=some (.agg ⟨[str y.1,.int .u8 (y.2:Int)]⟩)∧A.load false 1 (.pointer (some ⟨q,off,none⟩)) h=some (str y.1)∧a=off:=by
 have _:=k2;have hx:(bM r)[i]?=some [str y.1,.int .u8 (y.2:Int)]:=by rw[bM,kX,hy];rfl
 obtain⟨id,off,cells,own,ei,_,g,h1,h2,hc⟩:=x.slice.at hx .i64;refine⟨off,off,id,ei,?_,?_,rfl⟩
 ·rw[aV,g];simp only[ble_iff.2 h1,cond_true,h2]
 ·rw[qK,g];have:=hc 0 (by omega);simpa using this
theorem bLr {v:Value}{r:Row}{f:Bs}(hr:r.length<2^60)(kx:Value→Value→Value→Value→Value→H→Option (Value×H)){L:Nat}:∀(n i j:Nat) (h:H),i≤j→j≤r.length→j-i<n→RowV h v r→
 ∃h',aCn (CI D) L kx n (.int .i64 (j:Int)) (.int .i64 (r.length:Int)) (.func (.func 56) ⟨[]⟩ ⟨[]⟩) v (.int .i64 (i:Int)) (str f) h=kx (.int .i64 (r.length:Int)) (.func (.func 56) ⟨[]⟩ ⟨[]⟩) v (.int .i64 (bsG r f n i j:Int)) (str f) h'∧Ext h h':=by
 intro n
 induction n with
 |zero=>intro i j h _ _ h3 _;omega
 |succ n ih=>
  intro i j h h1 h2 h3 x;by_cases hlt:i<j
  ·have d1:decide ((i:Int)<(j:Int))=true:=kC (by omega);have w1:A.zA prog .add 3 (.int .i64 (i:Int)) (.int .i64 (j:Int))=some (.int .i64 ((i+j:Nat):Int)):=by rw[bG,lT (by omega) (by omega)];rfl
   obtain⟨a,b,c1,c2,c3⟩:=bMe (n:=i+j) (by omega);obtain⟨m,hm⟩:∃m,m=(i+j) / 2:=⟨_,rfl⟩;rw[←hm]at c3;obtain⟨y,hy⟩:∃y,r[m]?=some y:=⟨_,kN (by omega)⟩;obtain⟨_,off,q,ei,l2,_,_⟩:=aIi k2 x hy;obtain⟨h',e,x'⟩:=T56 k2 (h:=h) y.1 f y.2;have e:callM prog (CI D) (.func (.func 56) ⟨[]⟩ ⟨[]⟩) [.agg ⟨[str y.1,.int .u8 (y.2:Int)]⟩,str f] h=_:=e;have hb:bsG r f (n+1) i j=if jR y.1 f<0 then bsG r f n (m+1) j else bsG r f n i m:=by
    simp only[bsG,kB hlt,←hm,hy,pC]
   by_cases hc:jR y.1 f<0
   ·rw[hb,kB hc];have w2:A.zA prog .add 3 (.int .i64 (m:Int)) (.int .i64 1)=some (.int .i64 ((m+1:Nat):Int)):=by rw[bG,aS (by omega)]
    obtain⟨h2',e2,x2⟩:=ih (m+1) j h' (by omega) h2 (by omega) (x.but x'.but (S:=fun _=>False) (fun _ _=>id));refine⟨h2',?_,x'.trans x2⟩;simp only[aCn,aMc,zZ,d1,RaK.S,w1,c1,c2,c3,ei,l2,e,kC hc,w2,e2]
   ·rw[hb,kA hc];obtain⟨h2',e2,x2⟩:=ih i m h' (by omega) (by omega) (by omega) (x.but x'.but (S:=fun _=>False) (fun _ _=>id));refine⟨h2',?_,x'.trans x2⟩;simp only[aCn,aMc,zZ,d1,RaK.S,w1,c1,c2,c3,ei,l2,e,kD hc,e2]
  ·have d1:decide ((i:Int)<(j:Int))=false:=kD (by omega);refine⟨h,?_,Ext.refl h⟩;have hb:bsG r f (n+1) i j=i:=by simp only[bsG,kA hlt]
   rw[hb];simp only[aCn,aMc,zZ,d1,RaK.S]
theorem T55 {v:Value}{r:Row}{f:Bs}(hr:r.length<2^60)(x:RowV h v r):∃h',CI D 55 [v,str f,.func (.func 56) ⟨[]⟩ ⟨[]⟩] h=some (.tuple ⟨[.int .i64 (bX r f:Int),.bool (cN r f)]⟩,h')∧Ext h h':=by
 obtain⟨h1,e1,x1⟩:=bLr k2 (f:=f) hr (fun x8 x2 x0 x9 x1 h=>aIn (CI D) h x0 x1 x2 x8 x9 fun x6 x7 h=>some (Value.tuple ⟨[x6,x7]⟩,h)) (L:=r.length+1) (r.length+1) 0 r.length h (by omega) (by omega) (by omega) x;have e1:aCn (CI D) _ (fun x8 x2 x0 x9 x1 h=>aIn (CI D) h x0 x1 x2 x8 x9 fun x6 x7 h=>some (Value.tuple ⟨[x6,x7]⟩,h)) _ (.int .i64 (r.length:Int)) (.int .i64 (r.length:Int)) _ v (.int .i64 0) (str f) h=_:=e1;have xv:=x.but x1.but (S:=fun _=>False) (fun _ _=>id);have hq:=nP r f;change _=aIn (CI D) h1 v (str f) _ _ (.int .i64 (bX r f:Int)) _ at e1
 cases hy:r[bX r f]? with
 |none=>
  have hge:=List.getElem?_eq_none_iff.1 hy;have d1:decide ((bX r f:Int)<(r.length:Int))=false:=kD (by omega);have ht:cN r f=false:=by unfold cN;rw[hy]
  rw[ht];refine⟨h1,aOl (r.length+1) _ _ _ h (k2.no 55 _ _ (by decide)) ?_,x1⟩;simp only[F55,aNo,aTw,x.len,RaK.S,e1];simp only[RaK.S,aIn,zZ,d1]
 |some y=>
  have hlt:=(List.getElem?_eq_some_iff.1 hy).1;have d1:decide ((bX r f:Int)<(r.length:Int))=true:=kC (by omega);obtain⟨_,off,q,ei,l2,_,_⟩:=aIi k2 xv hy;obtain⟨h2,e,x2⟩:=T56 k2 (h:=h1) y.1 f y.2;have e:callM prog (CI D) (.func (.func 56) ⟨[]⟩ ⟨[]⟩) [.agg ⟨[str y.1,.int .u8 (y.2:Int)]⟩,str f] h1=_:=e;have ht:cN r f=decide (jR y.1 f=0):=by unfold cN;rw[hy]
  rw[ht];refine⟨h2,aOl (r.length+1) _ _ _ h (k2.no 55 _ _ (by decide)) ?_,x1.trans x2⟩;simp only[F55,aNo,aTw,x.len,RaK.S,e1];simp only[RaK.S,aIn,zZ,d1,ei,l2,e,zQ]
theorem T41 {l:Nat}{v:Value}{r:Row}{f:Bs}(hr:r.length<2^60)(x:ListR h l v r):∃h',CI D 41 [aB l,str f] h=some (.tuple ⟨[.int .i64 (bX r f:Int),.bool (cN r f)]⟩,h')∧Ext h h':=by
 obtain⟨h1,e1,x1⟩:=T55 k2 (f:=f) hr x.row;have t0:A.zB 0 (.tuple ⟨[.int .i64 (bX r f:Int),.bool (cN r f)]⟩)=some (.int .i64 (bX r f:Int)):=rfl;have t1:A.zB 1 (.tuple ⟨[.int .i64 (bX r f:Int),.bool (cN r f)]⟩)=some (.bool (cN r f)):=rfl;refine⟨h1,bFa 0 _ _ h (k2.no 41 _ _ (by decide)) ?_,x1⟩;simp only[F41,aWn,RaK.S,Nat.zero_add,x.load,e1,t0,t1]
end
end Go.Proofs.YtpanfoafajepcaaGreatDoor.Ra

set_option maxRecDepth 100000
namespace Go.Proofs.YtpanfoafajepcaaGreatDoor.Ra
open Tryz (prog)
open Go Go.AM RaA RaI
open _root_.Ra
theorem gU {o:Option Value}{v:Value}(h:o=some v)(hs:AM.same v v=true):AM.chk o v=true:=by subst h;simp only[AM.chk,hs]
theorem aJw (l:Nat):A.zA prog .eql 68 (aB l) (.pointer none)=some (.bool false):=by
 have hu:(prog.underlying 68).map (fun d=>match d with| .pointer _=>true|_=>false)=some true:=by kernel_rfl
 obtain⟨d,hd,h1⟩:=Option.map_eq_some_iff.1 hu;cases d<;>simp at h1
 exact oQ hd _
def CutV (h:H)(w:Value)(s:Row):Prop:=
 (w=gF∧s=[])∨∃q cs,w=.slice (some ⟨q,0,none⟩) s.length (2*s.length+1)∧q<h.next∧h.get q=some (.cells ((bM s).flatten++cs) (some 2))
theorem CutV.row {h:H}{w:Value}{s:Row}(x:CutV h w s):RowV h w s:=by
 rcases x with x|⟨q,cs,rfl,h1,h2⟩
 ·exact .inl x
 ·exact .inr ⟨q,_,cs,rfl,by omega,h1,h2⟩
theorem tK (r:Row)(a:Nat):(bM r).flatten=(bM (r.take a)).flatten++(bM (r.drop a)).flatten:=by
 rw[←List.flatten_append,bM,bM,bM,←List.map_append,pZ]
theorem iO {y a:Nat}(h:a≤y):A.zR y (some (.int .i64 (a:Int)))=some (some a):=by
 show(bif Nat.ble a y then some (some a)else none)=_
 rw[ble_iff.2 h];rfl
theorem mI (y:Nat):A.zR y none=some none:=rfl
theorem aDk {h:H}{v:Value}{r:Row}(x:RowV h v r){a:Nat}(ha:a≤r.length):∃w,A.zM 2 v none (some (.int .i64 (a:Int))) (some (.int .i64 (a:Int))) h=some w∧CutV h w (r.take a)∧(∀i,sid w=some i→sid v=some i):=by
 rcases x with⟨rfl,rfl⟩|⟨q,c,extra,rfl,h1,h2,h3⟩
 ·simp at ha;subst ha;exact⟨gF,rfl,.inl ⟨rfl,rfl⟩,fun i hi=>by simp[sid]at hi⟩
 ·refine⟨.slice (some ⟨q,0,none⟩) a (2*a+1),?_,.inr ⟨q,(bM (r.drop a)).flatten++extra,by rw[kT,Nat.min_eq_left ha],h2,by rw[h3,tK r a,pU]⟩,fun i hi=>hi⟩;have b1:=iO (kG ha h1);have b2:=iO (kF a);simp only[A.zM,Option.isSome_some,Option.isNone_some,Bool.and_false,cond_false,b1,pC,b2,mI,Option.getD_none,Bool.or_true,Bool.true_or,cond_true];rfl
theorem rY {h:H}{v:Value}{r:Row}(x:RowV h v r){a:Nat}(ha:a≤r.length):∃w,A.zM 2 v (some (.int .i64 (a:Int))) none none h=some w∧SliceE 2 h w (bM (r.drop a))∧AM.same w w=true:=by
 rcases x with⟨rfl,rfl⟩|⟨q,c,extra,rfl,h1,h2,h3⟩
 ·simp at ha;subst ha;exact⟨gF,rfl,⟨by simp[bM],.inl ⟨rfl,rfl⟩⟩,rfl⟩
 ·have hl:(bM (r.drop a)).length=r.length-a:=by simp[bM]
  have hf:=cT r;have hf2:=cT (r.drop a);refine⟨.slice (some ⟨q,0+a*2,none⟩) (r.length-a) (c-2*a),?_,⟨jS _,.inr ⟨q,0+a*2,c-2*a,by rw[hl],by rw[hl];omega,h2,fun _=>⟨_,_,h3,?_,?_⟩⟩⟩,by simp[AM.same]⟩
  ·have b1:=iO ha;have es:A.yK 2 q h=true:=by unfold A.yK;rw[h3];rfl
   simp only[A.zM,Option.isSome_none,Bool.false_and,cond_false,mI,Option.getD_none,pC,b1,es,Bool.or_true,cond_true]
  ·rw[kL,hf,hl];omega
  ·rw[hl,tK r a,pU,List.drop_append,pM (by rw[cT,kT];omega),List.nil_append];have e0:0+a*2-(bM (r.take a)).flatten.length=0:=by rw[cT,kT];omega
   rw[e0,List.drop_zero,List.take_append_of_le_length (by rw[hf2,kU];omega),pN (by rw[hf2,kU];omega)]
theorem rQ {h:H}{w x:Value}{s:Row}{new:List (List Value)}(cv:CutV h w s)(sx:SliceE 2 h x new)(hne:new≠[])(hb:(s.length+new.length)*24≤2^47):
 ∃h',A.zI 2 24 w x h=some (.slice (some ⟨h.next,0,none⟩) (s.length+new.length) (2*(s.length+new.length)),h')∧
  Vec 2 h' (.slice (some ⟨h.next,0,none⟩) (s.length+new.length) (2*(s.length+new.length))) (bM s++new)∧Ext h h'∧h'.next=h.next+1:=by
 obtain⟨_,hlen⟩:=sx.len;have hel:=sx.elems;have hpos:0<new.length:=List.length_pos_iff.2 hne;have e0:Nat.beq new.length 0=false:=by rw[T.beq_dec];simp;omega
 have hall:∀e∈bM s++new,e.length=2:=fun e he=>by
  rcases List.mem_append.1 he with he|he
  ·exact jS s e he
  ·exact sx.1 e he
 have hl:(bM s).length=s.length:=by simp[bM]
 rcases cv with⟨rfl,rfl⟩|⟨q,cs,rfl,hq,hg⟩
 ·refine⟨h.push (.cells new.flatten (some 2)),?_,⟨hall,.inr ⟨h.next,by simp[bM],by simp,by simp[H.get_push,bM]⟩⟩,Ext.push _ _,rfl⟩;simp only[sA,Nat.zero_add]at hb⊢;have b1:new.length*24≤140737488355328:=hb;have b2:new.length≤140737488355328:=by omega
  simp only[A.zI,hel,hlen,e0];simp[b1,b2]
 ·have hf:=cT s;refine⟨h.push (.cells ((bM s).flatten++new.flatten) (some 2)),?_,⟨hall,.inr ⟨h.next,by rw[kL,hl],by simp,by rw[H.get_push,kB rfl,List.flatten_append]⟩⟩,Ext.push _ _,rfl⟩;simp only[A.zI,hel,hlen,e0,hg];have f1:Nat.ble (s.length+new.length) ((2*s.length+1) / 2)=false:=by
   cases hb1:Nat.ble (s.length+new.length) ((2*s.length+1) / 2)with
   |false=>rfl
   |true=>have:=ble_iff.1 hb1;omega
  have f2:Nat.ble ((s.length+new.length)*24) (2^47)=true:=ble_iff.2 hb;have f3:Nat.ble (s.length+new.length) (2^47)=true:=ble_iff.2 (by omega);have f4:Nat.ble (0+s.length*2) ((bM s).flatten++cs).length=true:=ble_iff.2 (by rw[kL,hf];omega);have f5:Nat.beq ((2*s.length+1)%2) 1=true:=beq_iff.2 (by omega);have e4:(((bM s).flatten++cs).drop 0).take (s.length*2)=(bM s).flatten:=by rw[List.drop_zero,List.take_append_of_le_length (by omega),pN (by omega)]
  rw[f1,f2,f3,f4,f5,e4];rfl
theorem jP {n bs:Nat}{h:H}{v x:Value}(hv:v=gF∨∃q off l c,v=.slice (some ⟨q,off,none⟩) l c)(sx:SliceE n h x []):A.zI n bs v x h=some (v,h):=by
 obtain⟨_,hlen⟩:=sx.len;have hel:=sx.elems;rcases hv with rfl|⟨q,off,l,c,rfl⟩<;>simp only[A.zI,hel,hlen]<;>rfl
theorem aDf (q:Nat):∀(r:Row) (i:Nat) (extra:List Value),i<r.length→((bM r).flatten++extra).set (i*2+1) (.int .u8 (q:Int))=(bM (r.set i (((r[i]?).getD ([],0)).1,q))).flatten++extra
 |[],i,_,h=>by simp at h
 |x::r,0,extra,_=>rfl
 |x::r,i+1,extra,h=>by
  have ih:=aDf q r i extra (by simpa using h);show(str x.1::.int .u8 (x.2:Int)::((bM r).flatten++extra)).set ((i+1)*2+1) _=str x.1::.int .u8 (x.2:Int)::((bM (r.set i (((r[i]?).getD ([],0)).1,q))).flatten++extra);rw[show(i+1)*2+1=(i*2+1)+1+1 by omega,List.set_cons_succ,List.set_cons_succ,ih]
def ListTo (h:H)(l:Nat)(v:Value)(h':H)(r':Row):Prop:=
 ∃v',ListR h' l v' r'∧(∀i,sid v'=some i→sid v=some i∨h.next≤i)∧ExtBut (fun i=>i=l∨sid v=some i) h h'
theorem ListTo.same {h h':H}{l:Nat}{v:Value}{r:Row}(x:ListR h l v r)(e:Ext h h'):ListTo h l v h' r:=
 ⟨v,x.but e.but (S:=fun _=>False) id (fun _ _=>id),fun _ hi=>.inl hi,e.but⟩
section
variable {D:CF}{T0:H}{fil nam:Bs→Bool}{tak:Bs→Bs→Bool}(k2:K2 D T0 fil nam tak){h:H}
include k2
omit k2 in
theorem uL {l:Nat}{v:Value}{r:Row}(x:ListR h l v r){i q:Nat}(hi:i<r.length):∃b off h',A.zL 2 v (.int .i64 (i:Int))=some (.pointer (some ⟨b,off,none⟩))∧A.store 1 (.pointer (some ⟨b,off+1,none⟩)) (.int .u8 (q:Int)) h=some h'∧ListTo h l v h' (r.set i (((r[i]?).getD ([],0)).1,q)):=by
 rcases x.row with⟨rfl,rfl⟩|⟨b,c,extra,rfl,h1,h2,h3⟩
 ·simp at hi
 have hf:=cT r;have hl:i*2+1<((bM r).flatten++extra).length:=by rw[kL,hf];omega
 have hbl:b≠l:=fun e=>x.ne (by rw[e];rfl);refine⟨b,0+i*2,h.put b (.cells ((bM (r.set i (((r[i]?).getD ([],0)).1,q))).flatten++extra) (some 2)),rU 2 b 0 _ c i .i64 hi,?_,.slice (some ⟨b,0,none⟩) r.length c,⟨?_,x.lt,.inr ⟨b,c,extra,by rw[List.length_set],by rw[List.length_set];exact h1,h2,by rw[H.get_put,kB rfl]⟩,x.ne⟩,fun j hj=>.inl hj,?_⟩
 ·rw[qU,h3];simp only[aBw,kM,sA,Nat.zero_add];rw[show Nat.beq 1 1=true from rfl,ble_iff.2 (show i*2+1+1≤_ by omega),lZ hl,aDf q r i extra hi];rfl
 ·rw[H.get_put,kA (Ne.symm hbl)];exact x.get
 ·exact ExtBut.put ⟨kF _,fun _ _ _=>rfl⟩ b _ (.inr rfl)
theorem T29 (ht:HasT T0 h)(hn:3≤h.next){l:Nat}{v:Value}{r:Row}(hr:r.length≤16)(x:ListR h l v r)(hl3:3≤l)(f:Bs){q:Nat}(hq:q<256):
 ∃h',CI D 29 [aB l,str f,.int .u8 (q:Int)] h=some (.int .u8 ((gE fil r f q).1:Int),h')∧ListTo h l v h' (gE fil r f q).2:=by
 have fi:CI D 40 [str f] h=_:=eK (k2.fi h f ht);have qq:=fun c h'=>bFk 0 (aB l) (str f) (.int .u8 (q:Int)) h (r:=(.int .u8 (c:Int),h')) (k2.no 29 _ _ (by decide));have n68:=aJw l;unfold gE;by_cases hc:2<q∨fil f=false
 ·rw[kB hc];refine⟨h,qq 128 h ?_,ListTo.same x (Ext.refl h)⟩
  cases hq2:decide ((2:Int)<(q:Int))with
  |true=>simp only[F29,aFc,aIr,aFa,aIq,aIp,n68,RaK.S,zY,hq2]
  |false=>
   have hf:fil f=false:=by
    rcases hc with hc|hc
    ·simp at hq2;omega
    ·exact hc
   rw[hf]at fi;simp only[F29,aFc,aIr,aFa,aIq,aIp,n68,RaK.S,zY,hq2,fi]
 rw[kA hc];rw[not_or]at hc;have hq2:decide ((2:Int)<(q:Int))=false:=kD (by omega);have hf:fil f=true:=by cases hf:fil f;exact absurd hf hc.2;rfl
 rw[hf]at fi;obtain⟨h1,e41,x41⟩:=T41 k2 (f:=f) (by omega) x;have t0:A.zB 0 (.tuple ⟨[.int .i64 (bX r f:Int),.bool (cN r f)]⟩)=some (.int .i64 (bX r f:Int)):=rfl;have t1:A.zB 1 (.tuple ⟨[.int .i64 (bX r f:Int),.bool (cN r f)]⟩)=some (.bool (cN r f)):=rfl;have x1:=x.but x41.but (S:=fun _=>False) id (fun _ _=>id);have up:∀{h':H} {r':Row},ListTo h1 l v h' r'→ListTo h l v h' r':=fun⟨v',a,b,c⟩=>⟨v',a,fun i hi=>(b i hi).imp_right (kG x41.next),x41.but.trans c⟩
 cases hth:cN r f with
 |true=>
  rw[kB rfl];rw[hth]at e41 t0 t1;obtain⟨b,off,h2,ei,es,lt⟩:=uL x1 (q:=q) (tH hth);refine⟨h2,qq q h2 ?_,up lt⟩;simp only[F29,aFc,aIr,aFa,aIq,aIp,n68,RaK.S,zY,hq2,fi,aPe,e41,t0,t1,aJe,aPd,bHf,Nat.zero_add,x1.load,ei,es,aUk]
 |false=>
  rw[kA (by simp)];rw[hth]at e41 t0 t1;have ln:=x1.row.len;by_cases h16:r.length=16
  ·rw[kB h16];have d16:decide ((r.length:Int)=16)=true:=kC (by omega);refine⟨h1,qq 128 h1 ?_,ListTo.same x x41⟩;simp only[F29,aFc,aIr,aFa,aIq,aIp,n68,RaK.S,zY,hq2,fi,aPe,e41,t0,t1,aJe,aPd,aUl,Nat.zero_add,x1.load,ln,zQ,d16,bHg]
  rw[kA h16];have d16:decide ((r.length:Int)=16)=false:=kD (by omega);have hp:=nP r f;obtain⟨p,hpp⟩:∃p,p=bX r f:=⟨_,rfl⟩;rw[←hpp]at e41 t0 t1 hp⊢;obtain⟨w,ew,cw,sw⟩:=aDk x1.row hp;obtain⟨h2,hh2⟩:∃h2,h2=h1.push (.cells [str f,.int .u8 (q:Int)] (some 2)):=⟨_,rfl⟩;have eb:A.zN RaI.Z52L [(0,1,str f),(1,1,.int .u8 (q:Int))]=some (.agg ⟨[str f,.int .u8 (q:Int)]⟩):=rfl;have eb2:A.zF 2 1 RaI.Z52L [(0,2,.agg ⟨[str f,.int .u8 (q:Int)]⟩)] h1=some (.slice (some ⟨h1.next,0,none⟩) 1 3,h2):=by rw[hh2];exact bY h1 rfl rfl rfl
  have so:SliceE 2 h2 (.slice (some ⟨h1.next,0,none⟩) 1 3) [[str f,.int .u8 (q:Int)]]:=by rw[hh2];exact gG rfl
  have x2:Ext h1 h2:=by rw[hh2];exact Ext.push h1 _
  have cw2:CutV h2 w (r.take p):=by
   rcases cw with cw|⟨b,cs,e1,e2,e3⟩
   ·exact .inl cw
   ·exact .inr ⟨b,cs,e1,kH e2 x2.next,by rw[x2.get b e2];exact e3⟩
  have htl:(r.take p).length=p:=by rw[kT];omega
  obtain⟨h3,e3,v3,x3,n3⟩:=rQ cw2 so (by simp) (by rw[htl];simp;omega);have x13:=x2.trans x3;have x3l:=x1.but x13.but (S:=fun _=>False) id (fun _ _=>id);have x2l:=x1.but x2.but (S:=fun _=>False) id (fun _ _=>id);obtain⟨z,ez,sz,sm⟩:=rY x3l.row hp;obtain⟨z',ez',_,_⟩:=rY x2l.row hp;have ezz:z'=z:=by
   have:A.zM 2 v (some (.int .i64 (p:Int))) none none h2=A.zM 2 v (some (.int .i64 (p:Int))) none none h3:=by
    rcases x2l.row with⟨rfl,_⟩|⟨b,c,ex,rfl,_,hb,hg⟩
    ·rfl
    ·simp only[A.zM,A.yK,x3.get b hb]
   rw[ez',ez]at this;exact kP this
  subst ezz;obtain⟨u,hu⟩:∃u,u=Value.slice (some ⟨h2.next,0,none⟩) ((r.take p).length+[[str f,Value.int .u8 (q:Int)]].length) (2*((r.take p).length+[[str f,Value.int .u8 (q:Int)]].length)):=⟨_,rfl⟩;rw[←hu]at e3 v3;have vs:AM.same v v=true:=x1.row.slice.same;have c1:AM.chk (bnd (A.load false 1 (aB l) h2) fun v=>some v) v=true:=gU (by rw[x2l.load];rfl) vs;have c2:AM.chk (bnd (A.zM 2 v (some (.int .i64 (p:Int))) none none h2) fun v=>some v) z'=true:=gU (by rw[ez'];rfl) sm;obtain⟨h4,u4,e4,v4,su4,x4⟩:∃h4 u4,A.zI 2 24 u z' h3=some (u4,h4)∧Vec 2 h4 u4 (bM (r.take p++(f,q)::r.drop p))∧(∀i,sid u4=some i→h1.next≤i)∧Ext h1 h4:=by
   have er:bM (r.take p++(f,q)::r.drop p)=bM (r.take p)++[[str f,.int .u8 (q:Int)]]++bM (r.drop p):=by simp[bM]
   by_cases hz:r.drop p=[]
   ·refine⟨h3,u,jP (.inr ⟨_,_,_,_,hu⟩) (by rw[hz]at sz;exact sz),by rw[er,hz];simpa[bM]using v3,fun i hi=>by rw[hu]at hi;simp[sid]at hi;have:=x2.next;omega,x13⟩
   ·obtain⟨h4,e4,v4,n4,x4⟩:=dT (bs:=24) v3 sz (fun e=>hz (List.map_eq_nil_iff.1 e)) (by omega) (by simp[bM];omega) (by simp[bM];omega);refine⟨h4,_,e4,by rw[er];exact v4,fun i hi=>by simp[sid]at hi;have:=x13.next;omega,?_⟩;exact Ext.grow x13 x4 (fun i hi=>by rw[hu]at hi;simp[sid]at hi;have:=x2.next;omega)
  have x4l:=x1.but x4.but (S:=fun _=>False) id (fun _ _=>id);have cu4:aN u4=some [u4]:=v4.slice.cells;obtain⟨h5,hh5⟩:∃h5,h5=h4.put l (.cells [u4] (some 0)):=⟨_,rfl⟩;have e5:A.store 1 (aB l) u4 h4=some h5:=by rw[qU,x4l.get,cu4,hh5];rfl
  have nl:sid u4≠some l:=fun e=>by have:=su4 l e;have:=x1.lt;omega
  refine⟨h5,qq q h5 ?_,up ⟨u4,⟨by rw[hh5,H.get_put,kB rfl],by rw[hh5];exact x4l.lt,?_,nl⟩,fun i hi=>.inr (su4 i hi),?_⟩⟩
  ·simp only[F29,aFc,aIr,aFa,aIq,aIp,n68,RaK.S,zY,hq2,fi,aPe,e41,t0,t1,aJe,aPd,aUl,Nat.zero_add,x1.load,ln,zQ,d16,bHh,ew,eb,eb2,e3,x3l.load,c1,Bool.and_true,ez,c2,e4,e5,aUk]
  ·exact(RowV.of_vec v4).but (S:=fun i=>i=l) (by rw[hh5];exact ExtBut.put ⟨kF _,fun _ _ _=>rfl⟩ l _ rfl) (fun i hi e=>nl (by rw[hi,e]))
  ·rw[hh5];exact ExtBut.put x4.but l _ (.inl rfl)
theorem T39 (hn:3≤h.next){l:Nat}{v:Value}{r:Row}(hr:r.length≤16)(x:ListR h l v r)(f:Bs):
 ∃h' b,CI D 39 [aB l,str f] h=some (.bool b,h')∧ListTo h l v h' (oZ r f):=by
 have qq:=fun c h'=>bFb 0 (aB l) (str f) h (r:=(.bool c,h')) (k2.no 39 _ _ (by decide));have n68:=aJw l;unfold oZ;obtain⟨h1,e41,x41⟩:=T41 k2 (f:=f) (by omega) x;have t0:A.zB 0 (.tuple ⟨[.int .i64 (bX r f:Int),.bool (cN r f)]⟩)=some (.int .i64 (bX r f:Int)):=rfl;have t1:A.zB 1 (.tuple ⟨[.int .i64 (bX r f:Int),.bool (cN r f)]⟩)=some (.bool (cN r f)):=rfl;have x1:=x.but x41.but (S:=fun _=>False) id (fun _ _=>id);have up:∀{h':H} {r':Row},ListTo h1 l v h' r'→ListTo h l v h' r':=fun⟨v',a,b,c⟩=>⟨v',a,fun i hi=>(b i hi).imp_right (kG x41.next),x41.but.trans c⟩
 cases hth:cN r f with
 |false=>
  rw[kA (by simp)];rw[hth]at e41 t0 t1;refine⟨h1,false,qq false h1 ?_,ListTo.same x x41⟩;simp only[F39,aNq,aUg,n68,RaK.S,e41,t0,t1,aUf,aUe]
 |true=>
  rw[kB rfl];rw[hth]at e41 t0 t1;have hlt:=tH hth;obtain⟨p,hpp⟩:∃p,p=bX r f:=⟨_,rfl⟩;rw[←hpp]at e41 t0 t1 hlt⊢;obtain⟨w,ew,cw,sw⟩:=aDk x1.row (pP hlt);have wp:A.zA prog .add 3 (.int .i64 (p:Int)) (.int .i64 1)=some (.int .i64 ((p+1:Nat):Int)):=by rw[bG,aS (by omega)]
  obtain⟨z,ez,sz,sm⟩:=rY x1.row (a:=p+1) hlt;have er:bM (r.take p++r.drop (p+1))=bM (r.take p)++bM (r.drop (p+1)):=by simp[bM]
  have htl:(r.take p).length=p:=by rw[kT];omega
  obtain⟨h2,u,e2,ru,su,x2⟩:∃h2 u,A.zI 2 24 w z h1=some (u,h2)∧RowV h2 u (r.take p++r.drop (p+1))∧(∀i,sid u=some i→sid v=some i∨h1.next≤i)∧Ext h1 h2:=by
   by_cases hz:r.drop (p+1)=[]
   ·refine⟨h1,w,jP ?_ (by rw[hz]at sz;exact sz),by rw[hz,List.append_nil];exact cw.row,fun i hi=>.inl (sw i hi),Ext.refl h1⟩;rcases cw with⟨e,_⟩|⟨q,cs,e,_⟩
    ·exact .inl e
    ·exact .inr ⟨_,_,_,_,e⟩
   ·obtain⟨h2,e2,v2,xx,n2⟩:=rQ cw sz (fun e=>hz (List.map_eq_nil_iff.1 e)) (by rw[htl];simp[bM];omega);exact⟨h2,_,e2,RowV.of_vec (by rw[er];exact v2),fun i hi=>by simp[sid]at hi;exact .inr (by omega),xx⟩
  have x2l:=x1.but x2.but (S:=fun _=>False) id (fun _ _=>id);have cu:aN u=some [u]:=ru.slice.cells;obtain⟨h5,hh5⟩:∃h5,h5=h2.put l (.cells [u] (some 0)):=⟨_,rfl⟩;have e5:A.store 1 (aB l) u h2=some h5:=by rw[qU,x2l.get,cu,hh5];rfl
  have nl:sid u≠some l:=fun e=>by
   rcases su l e with h|h
   ·exact x1.ne h
   ·have:=x1.lt;omega
  refine⟨h5,true,qq true h5 ?_,up ⟨u,⟨by rw[hh5,H.get_put,kB rfl],by rw[hh5];exact x2l.lt,?_,nl⟩,su,?_⟩⟩
  ·simp only[F39,aNq,aUg,n68,RaK.S,e41,t0,t1,aUf,Nat.zero_add,x1.load,ew,wp,ez,e2,e5,aUe]
  ·exact ru.but (S:=fun i=>i=l) (by rw[hh5];exact ExtBut.put ⟨kF _,fun _ _ _=>rfl⟩ l _ rfl) (fun i hi e=>nl (by rw[hi,e]))
  ·rw[hh5];exact ExtBut.put x2.but l _ (.inl rfl)
end
end Go.Proofs.YtpanfoafajepcaaGreatDoor.Ra

set_option maxRecDepth 100000
namespace Go.Proofs.YtpanfoafajepcaaGreatDoor.Ra
open Tryz (prog)
open Tryz (prog)
open Go Go.AM RaA RaI
open _root_.Ra
theorem aSi (a b:Int):A.zS prog .max ⟨[5,5]⟩ 5 [.int .u8 a,.int .u8 b]=some (.int .u8 (if a<b then b else a)):=by
 have e:A.zS prog .max ⟨[5,5]⟩ 5 [.int .u8 a,.int .u8 b]=(match ev prog (Builtin.max2 (Value.int IntKind.u8 a) (Value.int IntKind.u8 b))with
  |some v=>bif aJ v then some v else none
  |none=>none):=by simp[A.zS,Builtin.max_,cS,aJ];rfl
 rw[e];rfl
theorem aSg (a b:Int):A.zS prog .min ⟨[5,5]⟩ 5 [.int .u8 a,.int .u8 b]=some (.int .u8 (if b<a then b else a)):=by
 have e:A.zS prog .min ⟨[5,5]⟩ 5 [.int .u8 a,.int .u8 b]=(match ev prog (Builtin.min2 (Value.int IntKind.u8 a) (Value.int IntKind.u8 b))with
  |some v=>bif aJ v then some v else none
  |none=>none):=by simp[A.zS,Builtin.min_,cS,aJ];rfl
 rw[e];rfl
theorem aKw (a b:Nat):(if(a:Int)<(b:Int)then(b:Int)else(a:Int))=((max a b:Nat):Int):=by split<;>omega
theorem aKv (a b:Nat):(if(b:Int)<(a:Int)then(b:Int)else(a:Int))=((min a b:Nat):Int):=by split<;>omega
theorem nM (zs:List Value):∀n,(A.zeros zs n).length=n*zs.length
 |0=>by simp[A.zeros]
 |n+1=>by simp only[A.zeros,kL,nM zs n,Nat.succ_mul];omega
section
variable {D:CF}{T0:H}{fil nam:Bs→Bool}{tak:Bs→Bs→Bool}(k2:K2 D T0 fil nam tak){h:H}
include k2
theorem bKc {l:Nat}{v:Value}{r:Row}(hr:r.length≤16)(x:ListR h l v r):∃h' w,CI D 42 [aB l] h=some (w,h')∧SliceE 2 h' w (bM r)∧Ext h h'∧∀i,sid w=some i→h.next≤i:=by
 have n68:=aJw l;have ln:=x.row.len;have qq:=fun w h'=>bEz 0 (aB l) h (r:=(w,h')) (k2.no 42 _ _ (by decide));by_cases hz:r=[]
 ·have d0:decide ((r.length:Int)=0)=true:=by rw[hz];rfl
  refine⟨h,gF,qq gF h ?_,by rw[hz];exact⟨by simp[bM],.inl ⟨rfl,rfl⟩⟩,Ext.refl h,fun i hi=>by simp[sid]at hi⟩;simp only[F42,aRg,n68,RaK.S,Nat.zero_add,x.load,ln,zQ,d0]
 have hpos:=List.length_pos_iff.2 hz;have d0:decide ((r.length:Int)=0)=false:=kD (by omega);obtain⟨h1,hh1⟩:∃h1,h1=h.push (.cells (A.zeros RaI.Z52L r.length) (some 2)):=⟨_,rfl⟩;have e1:A.zP 2 24 RaI.Z52L (.int .i64 (r.length:Int)) (.int .i64 (r.length:Int)) h=some (.slice (some ⟨h.next,0,none⟩) r.length (2*r.length+1),h1):=by
  show(bif Nat.ble r.length r.length&&Nat.ble (24*r.length) (2^47)&&Nat.ble r.length (2^47)then _ else none)=_
  rw[ble_iff.2 (kF _),ble_iff.2 (show 24*r.length≤2^47 by omega),ble_iff.2 (show r.length≤2^47 by omega),hh1];rfl
 have x1:Ext h h1:=by rw[hh1];exact Ext.push h _
 have xl:=x.but x1.but (S:=fun _=>False) id (fun _ _=>id);have hl:(bM r).length=r.length:=by simp[bM]
 obtain⟨h2,hh2⟩:∃h2,h2=h1.put h.next (.cells (bM r).flatten (some 2)):=⟨_,rfl⟩;have e2:A.yQ 2 (.slice (some ⟨h.next,0,none⟩) r.length (2*r.length+1)) v h1=some (.int .i64 (r.length:Int),h2):=by
  have hel:=xl.row.slice.elems;have hln:=xl.row.slice.len.2;have g1:h1.get h.next=some (.cells (A.zeros RaI.Z52L r.length) (some 2)):=by rw[hh1,H.get_push,kB rfl]
  have hm:Nat.min (bM r).length r.length=r.length:=by rw[hl];exact Nat.min_self _
  have z0:Nat.beq r.length 0=false:=by rw[T.beq_dec];simp;exact hz
  have zl:(A.zeros RaI.Z52L r.length).length=r.length*2:=by rw[nM];rfl
  have z1:Nat.ble (0+r.length*2) (A.zeros RaI.Z52L r.length).length=true:=ble_iff.2 (by rw[zl];omega);have hf:=cT r;simp only[A.yQ,hel,hln,hm,z0,cond_false,g1,z1,cond_true];rw[pN (by omega),show splice (A.zeros RaI.Z52L r.length) 0 (bM r).flatten=(bM r).flatten from ?_,hh2];simp only[splice,List.take_zero,List.nil_append,Nat.zero_add];rw[pM (by omega),List.append_nil]
 have x2:Ext h h2:=by rw[hh2];exact x1.put _ _ (kF _)
 refine⟨h2,.slice (some ⟨h.next,0,none⟩) r.length (2*r.length+1),qq _ h2 ?_,⟨jS r,.inr ⟨h.next,0,_,by rw[hl],by omega,by rw[hh2,hh1];simp,fun _=>⟨_,_,by rw[hh2,H.get_put,kB rfl],by rw[cT,hl];omega,?_⟩⟩⟩,x2,fun i hi=>by simp[sid]at hi;omega⟩
 ·simp only[F42,aRg,n68,RaK.S,Nat.zero_add,x.load,ln,zQ,d0,e1,xl.load,e2]
 ·rw[List.drop_zero,pN (by rw[cT,hl];omega)]
theorem T42 {l:Nat}{v:Value}{r:Row}(hr:r.length≤16)(x:ListR h l v r):∃h' w,CI D 42 [aB l] h=some (w,h')∧SliceE 2 h' w (bM r)∧Ext h h':=
 let⟨h',w,a,b,c,_⟩:=bKc k2 hr x
 ⟨h',w,a,b,c⟩
theorem nH {v:Value}{r:Row}(x:SliceE 2 h v (bM r)){i:Nat}{y:Bs×Nat}(hy:r[i]?=some y):∃off q,A.zL 2 v (.int .i64 (i:Int))=some (.pointer (some ⟨q,off,none⟩))∧A.load true 2 (.pointer (some ⟨q,off,none⟩)) h=some (.agg ⟨[str y.1,.int .u8 (y.2:Int)]⟩):=by
 have _:=k2;have hx:(bM r)[i]?=some [str y.1,.int .u8 (y.2:Int)]:=by rw[bM,kX,hy];rfl
 obtain⟨id,off,cells,own,ei,_,g,h1,h2,hc⟩:=x.at hx .i64;refine⟨off,id,ei,?_⟩;rw[aV,g];simp only[ble_iff.2 h1,cond_true,h2]
theorem jW (y:Bs×Nat):∃h1 h2,A.box 2 RaI.Z52 h=some (aB h.next,h1)∧A.store 2 (aB h.next) (.agg ⟨[str y.1,.int .u8 (y.2:Int)]⟩) h1=some h2∧A.load false 1 (.pointer (some ⟨h.next,0,none⟩)) h2=some (str y.1)∧A.load false 1 (.pointer (some ⟨h.next,1,none⟩)) h2=some (.int .u8 (y.2:Int))∧Ext h h2∧h.next<h2.next:=by
 have _:=k2;obtain⟨h1,hh1⟩:∃h1,h1=h.push (.cells RaI.Z52L (some 0)):=⟨_,rfl⟩;have g1:h1.get h.next=some (.cells RaI.Z52L (some 0)):=by rw[hh1,H.get_push,kB rfl]
 obtain⟨h2,hh2⟩:∃h2,h2=h1.put h.next (.cells [str y.1,.int .u8 (y.2:Int)] (some 0)):=⟨_,rfl⟩;have g2:h2.get h.next=some (.cells [str y.1,.int .u8 (y.2:Int)] (some 0)):=by rw[hh2,H.get_put,kB rfl]
 refine⟨h1,h2,by rw[hh1];rfl,by rw[qU,g1,hh2];rfl,by rw[qK,g2];rfl,by rw[qK,g2];rfl,?_,by rw[hh2,hh1];simp⟩;rw[hh2,hh1];exact(Ext.push h _).put _ _ (kF _)
theorem bLu {n:Bs}{r:Row}(hr:r.length≤2^40)(kx:Value→Value→H→Option (Value×H)){v:Value}{L:Nat}:∀(d i m:Nat) (b:Nat×Bool) (h:H),i+d=r.length→d<m→HasT T0 h→3≤h.next→SliceE 2 h v (bM r)→
 ∃h',aEu (CI D) L kx m (.int .i64 (r.length:Int)) (.int .i64 (i:Int)) (str n) v (.int .u8 (b.1:Int)) (.bool b.2) h=kx (.int .u8 ((wD tak n b (r.drop i)).1:Int)) (.bool (wD tak n b (r.drop i)).2) h'∧Ext h h':=by
 intro d
 induction d with
 |zero=>
  intro i m b h hi hm ht hn x;obtain⟨m,rfl⟩:∃r,m=r+1:=⟨m-1,by omega⟩;have hd:decide ((i:Int)<(r.length:Int))=false:=by rw[kI];omega
  refine⟨h,?_,Ext.refl h⟩;rw[pM (by omega)];simp only[aEu,aMj,zZ,hd,RaK.S,wD]
 |succ d ih=>
  intro i m b h hi hm ht hn x;obtain⟨m,rfl⟩:∃r,m=r+1:=⟨m-1,by omega⟩;have hd:decide ((i:Int)<(r.length:Int))=true:=by rw[kJ];omega
  obtain⟨y,hy⟩:∃y,r[i]?=some y:=⟨_,kN (by omega)⟩;obtain⟨off,q,ei,l2⟩:=nH k2 x hy;obtain⟨h1,h2,e1,e2,l0,l1,x2,lt⟩:=jW k2 (h:=h) y;have ht2:=ht.ext k2.tab hn x2;have et:CI D 47 [str y.1,str n] h2=_:=eK (k2.ta h2 y.1 n ht2);have w2:A.zA prog .add 3 (.int .i64 (i:Int)) (.int .i64 1)=some (.int .i64 ((i+1:Nat):Int)):=by rw[bG,aS (by omega)]
  rw[show r.drop i=y::r.drop (i+1)from bT hy];simp only[wD]
  cases hb:tak y.1 n with
  |true=>
   rw[hb]at et;have mx:=aSi (b.1:Int) (y.2:Int);rw[aKw]at mx;obtain⟨h',e,x'⟩:=ih (i+1) m (max b.1 y.2,true) h2 (by omega) (by omega) ht2 (kG hn x2.next) (x.ext x2);refine⟨h',?_,x2.trans x'⟩;simp only[aEu,aMj,zZ,hd,RaK.S,ei,l2,e1,e2,Nat.zero_add,l0,et,l1,mx,w2,e,if_true]
  |false=>
   rw[hb]at et;obtain⟨h',e,x'⟩:=ih (i+1) m b h2 (by omega) (by omega) ht2 (kG hn x2.next) (x.ext x2);refine⟨h',?_,x2.trans x'⟩;simp only[aEu,aMj,zZ,hd,RaK.S,ei,l2,e1,e2,Nat.zero_add,l0,et,w2,e,pB,if_false]
theorem T32 (ht:HasT T0 h)(hn:3≤h.next){l:Nat}{v:Value}{r:Row}(hr:r.length≤16)(x:ListR h l v r)(n:Bs):
 ∃h',CI D 32 [aB l,str n] h=some (.tuple ⟨[.int .u8 ((eV tak r n).1:Int),.bool (eV tak r n).2]⟩,h')∧Ext h h':=by
 obtain⟨h1,w,e1,s1,x1⟩:=T42 k2 hr x;have ln:A.zH w=some (.int .i64 (r.length:Int)):=by have:=s1.len.1;rwa [bM,pA]at this
 obtain⟨h2,e2,x2⟩:=bLu k2 (n:=n) (r:=r) (by omega) (fun x6 x7 h=>aMi h x6 x7 fun x4 x5 h=>some (Value.tuple ⟨[x4,x5]⟩,h)) (v:=w) (L:=r.length+1) r.length 0 (r.length+1) (0,false) h1 (by omega) (by omega) (ht.ext k2.tab hn x1) (kG hn x1.next) s1;have e2:aEu (CI D) _ (fun x6 x7 h=>aMi h x6 x7 fun x4 x5 h=>some (Value.tuple ⟨[x4,x5]⟩,h)) _ (.int .i64 (r.length:Int)) (.int .i64 0) (str n) w (.int .u8 0) (.bool false) h1=aMi h2 (.int .u8 ((eV tak r n).1:Int)) (.bool (eV tak r n).2) _:=e2;refine⟨h2,bFi (r.length+1) _ _ h (k2.no 32 _ _ (by decide)) ?_,x1.trans x2⟩;simp only[F32,aRj,bHc,aQm,bHb,e1,ln,RaK.S,e2];simp only[aMi,RaK.S]
end
end Go.Proofs.YtpanfoafajepcaaGreatDoor.Ra

set_option maxRecDepth 100000
namespace Go.Proofs.YtpanfoafajepcaaGreatDoor.Ra
open Tryz (prog)
open Go Go.AM
open _root_.Ra
abbrev aP (p:Nat):Value:=.map (some p)
def aR (m:Msg):List Value:=[str m.topic,str m.payload,.int .u8 (m.qos:Int),.bool m.retain]
abbrev dI:Value:=.agg ⟨[]⟩
def dZ (l:List Bs):List (Bs×Value):=l.map fun c=>(c,dI)
def GrowV (n:Nat)(h:H)(v:Value)(es:List (List Value)):Prop:=
 (∀e∈es,e.length=n)∧∃q c,v=.slice (some ⟨q,0,none⟩) es.length c∧(c=2*es.length∨c=2*es.length+1)∧q<h.next∧h.get q=some (.cells es.flatten (some n))
theorem GrowV.slice {n:Nat}{h:H}{v:Value}{es:List (List Value)}(x:GrowV n h v es):SliceE n h v es:=by
 obtain⟨h1,q,c,rfl,h2,h3,h4⟩:=x;exact⟨h1,.inr ⟨q,0,c,rfl,by omega,h3,fun _=>⟨_,_,h4,by rw[bW h1];omega,by rw[List.drop_zero,pN (by rw[bW h1];omega)]⟩⟩⟩
theorem GrowV.but {S:Nat→Prop}{n:Nat}{h h':H}{v:Value}{es:List (List Value)}(x:GrowV n h v es)(e:h.next≤h'.next)(hs:∀i,sid v=some i→h'.get i=h.get i):GrowV n h' v es:=by
 obtain⟨h1,q,c,rfl,h2,h3,h4⟩:=x;exact⟨h1,q,c,rfl,h2,kH h3 e,by rw[hs q rfl];exact h4⟩
inductive Col where
 |chk|mdl|seats|seat (c:Bs)|lst (c:Bs)|row (c:Bs)|keep|kept|pubs|pub (o:Int)|holds (o:Int)|serve (o:Int)
 |subs|sb (o:Int)|flst (o:Int)|frow (o:Int)|past (o:Int)|still (o:Int)|got (o:Int)|msgs (o:Int) (t:Bs)
 deriving DecidableEq
def live (s:St)(nm:Col→Nat):Col→Prop
 | .seat c| .lst c=>∃x,aE s.seats c=some x
 | .row c=>(∃x,aE s.seats c=some x)∧nm (.row c)≠nm (.lst c)
 | .pub o| .holds o| .serve o=>∃x,aE s.pubs o=some x
 | .sb o| .past o| .still o| .got o=>∃x,aE s.subs o=some x
 | .flst o=>∃x,aE s.subs o=some x∧x.done=true
 | .frow o=>(∃x,aE s.subs o=some x∧x.done=true)∧nm (.frow o)≠nm (.flst o)
 | .msgs o t=>∃x ms,aE s.subs o=some x∧aE x.past t=some ms
 |_=>True
def LstR (h:H)(l r:Nat)(row:Row):Prop:=row.length≤16∧∃v,ListR h l v row∧∀i,sid v=some i→i=r
def aOj (h:H)(nm:Col→Nat)(o:Int)(past:List (Bs×List Msg)):Prop:=
 ∃mv:Bs→Value,MapR h (nm (.past o)) bO (past.map fun x=>(x.1,mv x.1))∧∀t ms,aE past t=some ms→GrowV 4 h (mv t) (ms.map aR)∧sid (mv t)=some (nm (.msgs o t))
def aEn (nm:Col→Nat)(o:Int)(p:Pub):List Value:=[str p.client,str p.msg.topic,str p.msg.payload,.int .u8 (p.msg.qos:Int),.bool p.msg.retain,.int .i64 (p.place:Int),.bool p.open_,aP (nm (.holds o)),aP (nm (.serve o))]
def mR (nm:Col→Nat)(o:Int)(b:Sb):List Value:=[str b.client,.bool b.done,.bool b.open_,if b.done then aB (nm (.flst o))else .pointer none,aP (nm (.past o)),aP (nm (.still o)),aP (nm (.got o)),str b.last,.bool b.some_]
def Ok (h:H)(nm:Col→Nat)(s:St)(a:Nat):Col→Prop
 | .chk=>h.get (nm .chk)=some (.cells [aB (nm .mdl),aP (nm .pubs),aP (nm .subs),.int .i64 (a:Int)] (some 0))
 | .mdl=>h.get (nm .mdl)=some (.cells [aP (nm .seats),aB (nm .keep)] (some 0))
 | .seats=>MapR h (nm .seats) bO (s.seats.map fun x=>(x.1,aB (nm (.seat x.1))))
 | .seat c=>∀x,aE s.seats c=some x→h.get (nm (.seat c))=some (.cells [aB (nm (.lst c)),.int .i64 x.conn,.bool x.clean] (some 0))
 | .lst c=>∀x,aE s.seats c=some x→LstR h (nm (.lst c)) (nm (.row c)) x.row
 | .keep=>h.get (nm .keep)=some (.cells [aP (nm .kept)] (some 0))
 | .kept=>MapR h (nm .kept) bO (s.kept.map fun x=>(x.1,.agg ⟨aR x.2⟩))
 | .pubs=>MapR h (nm .pubs) jQ (s.pubs.map fun x=>(x.1,aB (nm (.pub x.1))))
 | .pub o=>∀p,aE s.pubs o=some p→h.get (nm (.pub o))=some (.cells (aEn nm o p) (some 0))
 | .holds o=>∀p,aE s.pubs o=some p→MapR h (nm (.holds o)) bO (dZ p.holds)
 | .serve o=>∀p,aE s.pubs o=some p→MapR h (nm (.serve o)) bO (dZ p.serve)
 | .subs=>MapR h (nm .subs) jQ (s.subs.map fun x=>(x.1,aB (nm (.sb x.1))))
 | .sb o=>∀b,aE s.subs o=some b→h.get (nm (.sb o))=some (.cells (mR nm o b) (some 0))
 | .flst o=>∀b,aE s.subs o=some b→b.done=true→LstR h (nm (.flst o)) (nm (.frow o)) b.filters
 | .past o=>∀b,aE s.subs o=some b→aOj h nm o b.past
 | .still o=>∀b,aE s.subs o=some b→MapR h (nm (.still o)) bO (dZ b.still)
 | .got o=>∀b,aE s.subs o=some b→MapR h (nm (.got o)) bO (dZ b.got)
 |_=>True
def cO (s s':St):Col→Prop
 | .seats=>s'.seats.map (·.1)=s.seats.map (·.1)
 | .seat c=>(aE s'.seats c).map (fun x=>(x.conn,x.clean))=(aE s.seats c).map fun x=>(x.conn,x.clean)
 | .lst c=>(aE s'.seats c).map (·.row)=(aE s.seats c).map (·.row)
 | .kept=>s'.kept=s.kept
 | .pubs=>s'.pubs.map (·.1)=s.pubs.map (·.1)
 | .pub o=>(aE s'.pubs o).map (fun p=>(p.client,p.msg,p.place,p.open_))=(aE s.pubs o).map fun p=>(p.client,p.msg,p.place,p.open_)
 | .holds o=>(aE s'.pubs o).map (·.holds)=(aE s.pubs o).map (·.holds)
 | .serve o=>(aE s'.pubs o).map (·.serve)=(aE s.pubs o).map (·.serve)
 | .subs=>s'.subs.map (·.1)=s.subs.map (·.1)
 | .sb o=>(aE s'.subs o).map (fun b=>(b.client,b.done,b.open_,b.last,b.some_))=(aE s.subs o).map fun b=>(b.client,b.done,b.open_,b.last,b.some_)
 | .flst o=>(aE s'.subs o).map (fun b=>(b.done,b.filters))=(aE s.subs o).map fun b=>(b.done,b.filters)
 | .past o=>(aE s'.subs o).map (·.past)=(aE s.subs o).map (·.past)
 | .still o=>(aE s'.subs o).map (·.still)=(aE s.subs o).map (·.still)
 | .got o=>(aE s'.subs o).map (·.got)=(aE s.subs o).map (·.got)
 |_=>True
structure Rep (B h:H)(nm:Col→Nat)(s:St)(a:Nat):Prop where
 ok:∀C,Ok h nm s a C
 inj:∀C C',live s nm C→live s nm C'→nm C=nm C'→C=C'
 lt:∀C,live s nm C→B.next≤nm C∧nm C<h.next
theorem eZ {α β:Type}{f:α→β}{x y:Option α}(h:x.map f=y.map f){a:α}(hx:x=some a):∃b,y=some b∧f a=f b:=by
 subst hx
 cases y with
 |none=>cases h
 |some b=>exact⟨b,rfl,kP h⟩
def iY (nm nm':Col→Nat)(s':St):Col→Prop
 | .chk=>nm' .chk=nm .chk∧nm' .mdl=nm .mdl∧nm' .pubs=nm .pubs∧nm' .subs=nm .subs
 | .mdl=>nm' .mdl=nm .mdl∧nm' .seats=nm .seats∧nm' .keep=nm .keep
 | .seats=>nm' .seats=nm .seats∧∀c,(∃x,aE s'.seats c=some x)→nm' (.seat c)=nm (.seat c)
 | .seat c=>nm' (.seat c)=nm (.seat c)∧nm' (.lst c)=nm (.lst c)
 | .lst c=>nm' (.lst c)=nm (.lst c)∧nm' (.row c)=nm (.row c)
 | .keep=>nm' .keep=nm .keep∧nm' .kept=nm .kept
 | .kept=>nm' .kept=nm .kept
 | .pubs=>nm' .pubs=nm .pubs∧∀o,(∃x,aE s'.pubs o=some x)→nm' (.pub o)=nm (.pub o)
 | .pub o=>nm' (.pub o)=nm (.pub o)∧nm' (.holds o)=nm (.holds o)∧nm' (.serve o)=nm (.serve o)
 | .holds o=>nm' (.holds o)=nm (.holds o)
 | .serve o=>nm' (.serve o)=nm (.serve o)
 | .subs=>nm' .subs=nm .subs∧∀o,(∃x,aE s'.subs o=some x)→nm' (.sb o)=nm (.sb o)
 | .sb o=>nm' (.sb o)=nm (.sb o)∧nm' (.flst o)=nm (.flst o)∧nm' (.past o)=nm (.past o)∧nm' (.still o)=nm (.still o)∧nm' (.got o)=nm (.got o)
 | .flst o=>nm' (.flst o)=nm (.flst o)∧nm' (.frow o)=nm (.frow o)
 | .past o=>nm' (.past o)=nm (.past o)∧∀t,nm' (.msgs o t)=nm (.msgs o t)
 | .still o=>nm' (.still o)=nm (.still o)
 | .got o=>nm' (.got o)=nm (.got o)
 |_=>True
theorem jT {κ α:Type}[DecidableEq κ]:∀{l:List (κ×α)} {x:κ×α},x∈l→∃y,aE l x.1=some y
 |[],_,h=>by simp at h
 |(k,a)::r,x,h=>by
  simp only[aE];split
  ·exact⟨_,rfl⟩
  ·rename_i hne;rcases List.mem_cons.1 h with rfl|h
   ·exact absurd rfl hne
   ·exact jT h
theorem LstR.but {h h':H}{l r:Nat}{row:Row}(x:LstR h l r row)(hn:h.next≤h'.next)(hl:h'.get l=h.get l)(hr:r≠l→h'.get r=h.get r):LstR h' l r row:=by
 obtain⟨h1,v,h2,h3⟩:=x;refine⟨h1,v,⟨by rw[hl];exact h2.get,kH h2.lt hn,?_,h2.ne⟩,h3⟩;rcases h2.row with h4|⟨q,c,extra,rfl,g1,g2,g3⟩
 ·exact .inl h4
 ·have hq:=h3 q rfl;subst hq;have hne:q≠l:=fun e=>h2.ne (by rw[e];rfl);exact .inr ⟨q,c,extra,rfl,g1,kH g2 hn,by rw[hr hne];exact g3⟩
theorem Ok.keep {h h':H}{nm nm':Col→Nat}{s s':St}{a:Nat}{C:Col}(ok:Ok h nm s a C)(hn:h.next≤h'.next)(hN:iY nm nm' s' C)(hS:cO s s' C)
 (hg:live s nm C→h'.get (nm C)=h.get (nm C)) (hr:∀c,C=.lst c→live s nm (.row c)→h'.get (nm (.row c))=h.get (nm (.row c))) (hf:∀o,C=.flst o→live s nm (.frow o)→h'.get (nm (.frow o))=h.get (nm (.frow o)))
 (hm:∀o t,C=.past o→live s nm (.msgs o t)→h'.get (nm (.msgs o t))=h.get (nm (.msgs o t))):Ok h' nm' s' a C:=by
 cases C with
 |chk=>obtain⟨e1,e2,e3,e4⟩:=hN;simp only[Ok]at ok⊢;rw[e1,e2,e3,e4,hg trivial];exact ok
 |mdl=>obtain⟨e1,e2,e3⟩:=hN;simp only[Ok]at ok⊢;rw[e1,e2,e3,hg trivial];exact ok
 |keep=>obtain⟨e1,e2⟩:=hN;simp only[Ok]at ok⊢;rw[e1,e2,hg trivial];exact ok
 |kept=>simp only[Ok,iY,cO]at ok hN hS⊢;rw[hN,hS];exact ok.congr (hg trivial)
 |seats=>
  obtain⟨e1,e2⟩:=hN;simp only[Ok,cO]at ok hS⊢;have:(s'.seats.map fun x=>(x.1,aB (nm' (.seat x.1))))=s.seats.map fun x=>(x.1,aB (nm (.seat x.1))):=by
   rw[show(s'.seats.map fun x=>(x.1,aB (nm' (.seat x.1))))=(s'.seats.map (·.1)).map fun c=>(c,aB (nm (.seat c))) by
    rw[List.map_map];exact List.map_congr_left fun x hx=>by simp only[Function.comp];rw[e2 _ (jT hx)],hS,List.map_map];rfl
  rw[this,e1];exact ok.congr (hg trivial)
 |pubs=>
  obtain⟨e1,e2⟩:=hN;simp only[Ok,cO]at ok hS⊢;have:(s'.pubs.map fun x=>(x.1,aB (nm' (.pub x.1))))=s.pubs.map fun x=>(x.1,aB (nm (.pub x.1))):=by
   rw[show(s'.pubs.map fun x=>(x.1,aB (nm' (.pub x.1))))=(s'.pubs.map (·.1)).map fun c=>(c,aB (nm (.pub c))) by
    rw[List.map_map];exact List.map_congr_left fun x hx=>by simp only[Function.comp];rw[e2 _ (jT hx)],hS,List.map_map];rfl
  rw[this,e1];exact ok.congr (hg trivial)
 |subs=>
  obtain⟨e1,e2⟩:=hN;simp only[Ok,cO]at ok hS⊢;have:(s'.subs.map fun x=>(x.1,aB (nm' (.sb x.1))))=s.subs.map fun x=>(x.1,aB (nm (.sb x.1))):=by
   rw[show(s'.subs.map fun x=>(x.1,aB (nm' (.sb x.1))))=(s'.subs.map (·.1)).map fun c=>(c,aB (nm (.sb c))) by
    rw[List.map_map];exact List.map_congr_left fun x hx=>by simp only[Function.comp];rw[e2 _ (jT hx)],hS,List.map_map];rfl
  rw[this,e1];exact ok.congr (hg trivial)
 |seat c=>
  obtain⟨e1,e2⟩:=hN;intro x hx;obtain⟨y,hy,he⟩:=eZ hS hx;simp only[kK]at he;rw[e1,e2,hg ⟨y,hy⟩,he.1,he.2];exact ok y hy
 |lst c=>
  obtain⟨e1,e2⟩:=hN;intro x hx;obtain⟨y,hy,he⟩:=eZ hS hx;rw[e1,e2,he];exact(ok y hy).but hn (hg ⟨y,hy⟩) fun hne=>hr c rfl ⟨⟨y,hy⟩,hne⟩
 |pub o=>
  obtain⟨e1,e2,e3⟩:=hN;intro x hx;obtain⟨y,hy,he⟩:=eZ hS hx;simp only[kK]at he;rw[e1,hg ⟨y,hy⟩,ok y hy];simp only[aEn,he.1,he.2.1,he.2.2.1,he.2.2.2,e2,e3]
 |holds o=>
  intro x hx;obtain⟨y,hy,he⟩:=eZ hS hx;rw[show nm' (.holds o)=_ from hN,he];exact(ok y hy).congr (hg ⟨y,hy⟩)
 |serve o=>
  intro x hx;obtain⟨y,hy,he⟩:=eZ hS hx;rw[show nm' (.serve o)=_ from hN,he];exact(ok y hy).congr (hg ⟨y,hy⟩)
 |sb o=>
  obtain⟨e1,e2,e3,e4,e5⟩:=hN;intro x hx;obtain⟨y,hy,he⟩:=eZ hS hx;simp only[kK]at he;rw[e1,hg ⟨y,hy⟩,ok y hy];simp only[mR,he.1,he.2.1,he.2.2.1,he.2.2.2.1,he.2.2.2.2,e2,e3,e4,e5]
 |flst o=>
  obtain⟨e1,e2⟩:=hN;intro x hx hd;obtain⟨y,hy,he⟩:=eZ hS hx;simp only[kK]at he;rw[e1,e2,he.2];have hd:y.done=true:=he.1▸hd;exact(ok y hy hd).but hn (hg ⟨y,hy,hd⟩) fun hne=>hf o rfl ⟨⟨y,hy,hd⟩,hne⟩
 |past o=>
  obtain⟨e1,e2⟩:=hN;intro x hx;obtain⟨y,hy,he⟩:=eZ hS hx;rw[he];obtain⟨mv,h1,h2⟩:=ok y hy;refine⟨mv,by rw[e1];exact h1.congr (hg ⟨y,hy⟩),fun t ms ht=>?_⟩;obtain⟨h3,h4⟩:=h2 t ms ht;refine⟨h3.but (S:=fun _=>False) hn fun i hi=>?_,by rw[e2];exact h4⟩;rw[h4]at hi;have:=kP hi;subst this;exact hm o t rfl ⟨y,ms,hy,ht⟩
 |still o=>
  intro x hx;obtain⟨y,hy,he⟩:=eZ hS hx;rw[show nm' (.still o)=_ from hN,he];exact(ok y hy).congr (hg ⟨y,hy⟩)
 |got o=>
  intro x hx;obtain⟨y,hy,he⟩:=eZ hS hx;rw[show nm' (.got o)=_ from hN,he];exact(ok y hy).congr (hg ⟨y,hy⟩)
 |row c=>trivial
 |frow o=>trivial
 |msgs o t=>trivial
theorem Rep.upd {B h h':H}{nm nm':Col→Nat}{s s':St}{a a':Nat}(r:Rep B h nm s a)(T:Col→Prop)(hn:h.next≤h'.next)(hB:B.next≤h.next)
 (old:∀C,live s' nm' C→¬T C→live s nm C∧nm' C=nm C)
 (new:∀C,live s' nm' C→T C→(live s nm C∧nm' C=nm C)∨(h.next≤nm' C∧nm' C<h'.next))
 (dist:∀C C',live s' nm' C→live s' nm' C'→T C→T C'→h.next≤nm' C→nm' C=nm' C'→C=C')
 (get:∀C,live s nm C→¬T C→h'.get (nm C)=h.get (nm C))
 (same:∀C,¬T C→cO s s' C∧iY nm nm' s' C)
 (clo:∀c o t,(T (.row c)→T (.lst c))∧(T (.frow o)→T (.flst o))∧(T (.msgs o t)→T (.past o))∧(a'≠a→T .chk))
 (ok:∀C,T C→Ok h' nm' s' a' C):Rep B h' nm' s' a':=by
 have lt':∀C,live s' nm' C→B.next≤nm' C∧nm' C<h'.next:=fun C hl=>by
  by_cases hT:T C
  ·rcases new C hl hT with⟨h1,h2⟩|⟨h1,h2⟩
   ·rw[h2];have:=r.lt C h1;omega
   ·omega
  ·obtain⟨h1,h2⟩:=old C hl hT;rw[h2];have:=r.lt C h1;omega
 have cases':∀C,live s' nm' C→(live s nm C∧nm' C=nm C)∨(T C∧h.next≤nm' C):=fun C hl=>by
  by_cases hT:T C
  ·rcases new C hl hT with h1|⟨h1,_⟩
   ·exact .inl h1
   ·exact .inr ⟨hT,h1⟩
  ·exact .inl (old C hl hT)
 refine⟨fun C=>?_,fun C C' hl hl' he=>?_,lt'⟩
 ·by_cases hT:T C
  ·exact ok C hT
  ·obtain⟨h1,h2⟩:=same C hT;have ha:Ok h nm s a C→Ok h nm s a' C:=fun x=>by
    by_cases e:a'=a
    ·rw[e];exact x
    ·have:=(clo [] 0 []).2.2.2 e;cases C<;>first|exact x|exact absurd this hT
   refine(ha (r.ok C)).keep hn h2 h1 (fun hl=>get C hl hT) (fun c e hl=>?_) (fun o e hl=>?_) (fun o t e hl=>?_)
   ·subst e;exact get _ hl fun hT'=>hT ((clo c 0 []).1 hT')
   ·subst e;exact get _ hl fun hT'=>hT ((clo [] o []).2.1 hT')
   ·subst e;exact get _ hl fun hT'=>hT ((clo [] o t).2.2.1 hT')
 ·rcases cases' C hl with⟨h1,h2⟩|⟨h1,h2⟩<;>rcases cases' C' hl' with⟨g1,g2⟩|⟨g1,g2⟩
  ·exact r.inj C C' h1 g1 (by rw[←h2,←g2];exact he)
  ·have:=(r.lt C h1).2;omega
  ·have:=(r.lt C' g1).2;omega
  ·exact dist C C' hl hl' h1 g1 h2 he
end Go.Proofs.YtpanfoafajepcaaGreatDoor.Ra

set_option maxRecDepth 100000
namespace Go.Proofs.YtpanfoafajepcaaGreatDoor.Ra
open Tryz (prog)
open Go Go.AM RaA RaI
open _root_.Ra
theorem uI {h:H}{id:Nat}{l:List (Bs×Value)}(m:MapR h id bO l)(z:Value)(co:Bool)(x:Bs):A.zE true z co (str x) (aP id) h=some (match aE l x with|some v=>A.yR co v true|none=>A.yR co z false):=
 (show A.zE true z co (str x) (aP id) h=A.yA z co (bO x) (.map (some id)) h from rfl).trans (m.look keyS z co x)
theorem aOd {h:H}{id:Nat}{l:List (Int×Value)}(m:MapR h id jQ l)(z:Value)(co:Bool)(x:Int):A.zE false z co (.int .i64 x) (aP id) h=some (match aE l x with|some v=>A.yR co v true|none=>A.yR co z false):=
 (show A.zE false z co (.int .i64 x) (aP id) h=A.yA z co (jQ x) (.map (some id)) h from rfl).trans (m.look bJq z co x)
def At (id:Nat)(h h':H):Prop:=h'.next=h.next∧∀j,j≠id→h'.get j=h.get j
theorem At.put (h:H)(id:Nat)(b:Blk):At id h (h.put id b):=⟨rfl,fun j hj=>by rw[H.get_put,kA hj]⟩
theorem At.but {S:Nat→Prop}{a h h':H}{id:Nat}(x:At id h h')(e:ExtBut S a h)(hs:S id):ExtBut S a h':=
 ⟨by rw[x.1];exact e.next,fun j hj hn=>by rw[x.2 j (fun e=>hn (by rw[e];exact hs))];exact e.get j hj hn⟩
theorem At.ext {a h h':H}{id:Nat}(x:At id h h')(e:Ext a h)(hs:a.next≤id):Ext a h':=
 ⟨by rw[x.1];exact e.next,fun j hj=>by rw[x.2 j (by omega)];exact e.get j hj⟩
theorem aEm {h:H}{id:Nat}{l:List (Bs×Value)}(m:MapR h id bO l)(x:Bs)(v:Value):∃h',A.zK true (str x) v (aP id) h=some h'∧MapR h' id bO (aL l x v)∧At id h h':=by
 obtain⟨es,c,h1,h2⟩:=m.put keyS x v;exact⟨_,(show A.zK true (str x) v (aP id) h=A.zU (bO x) v (.map (some id)) h from rfl).trans h1,h2,At.put h id _⟩
theorem bGj {h:H}{id:Nat}{l:List (Int×Value)}(m:MapR h id jQ l)(x:Int)(v:Value):∃h',A.zK false (.int .i64 x) v (aP id) h=some h'∧MapR h' id jQ (aL l x v)∧At id h h':=by
 obtain⟨es,c,h1,h2⟩:=m.put bJq x v;exact⟨_,(show A.zK false (.int .i64 x) v (aP id) h=A.zU (jQ x) v (.map (some id)) h from rfl).trans h1,h2,At.put h id _⟩
theorem aRo {h:H}{id:Nat}{l:List (Bs×Value)}(m:MapR h id bO l)(x:Bs):∃h',A.zY true (str x) (aP id) h=some h'∧MapR h' id bO (fL l x)∧At id h h':=by
 obtain⟨h',h1,h2,h3,h4⟩:=m.del keyS x;exact⟨h',(show A.zY true (str x) (aP id) h=A.yI (bO x) (.map (some id)) h from rfl).trans h1,h4,h2,h3⟩
section
variable {κ α:Type}[DecidableEq κ]
theorem fR {β:Type}(f:κ→α→β)(k:κ):∀l:List (κ×α),aE (l.map fun x=>(x.1,f x.1 x.2)) k=(aE l k).map (f k)
 |[]=>rfl
 |(j,a)::r=>by
  simp only[List.map_cons,aE];split
  ·rename_i e;subst e;rfl
  ·exact fR f k r
theorem aD (k j:κ)(a:α):∀l:List (κ×α),aE (aL l k a) j=if k=j then some a else aE l j
 |[]=>by simp only[aL,aE]
 |(i,b)::r=>by
  simp only[aL];split
  ·rename_i e;subst e;simp only[aE];split<;>rfl
  ·rename_i e;simp only[aE,aD k j a r];split
   ·rename_i e2;subst e2;rw[kA (Ne.symm e)]
   ·rfl
theorem cP {l:List (κ×α)}{k:κ}{a b:α}(h:aE l k=some b):(aL l k a).map (·.1)=l.map (·.1):=by
 rw[nS,kA];intro e;rw[lF,e]at h;cases h
theorem nR {β:Type}(f:κ→α→β)(k:κ)(a:α):∀l:List (κ×α),aL (l.map fun x=>(x.1,f x.1 x.2)) k (f k a)=(aL l k a).map fun x=>(x.1,f x.1 x.2)
 |[]=>rfl
 |(j,b)::r=>by
  simp only[List.map_cons,aL];split
  ·rename_i e;subst e;rfl
  ·rw[List.map_cons,nR f k a r]
theorem nW {β:Type}(f:κ→α→β)(k:κ):∀l:List (κ×α),fL (l.map fun x=>(x.1,f x.1 x.2)) k=(fL l k).map fun x=>(x.1,f x.1 x.2)
 |[]=>rfl
 |(j,b)::r=>by
  simp only[List.map_cons,fL];split
  ·rfl
  ·rw[List.map_cons,nW f k r]
theorem lE {k j:κ}:∀{l:List (κ×α)},(l.map (·.1)).Nodup→aE (fL l k) j=if k=j then none else aE l j
 |[],_=>by simp[fL,aE]
 |(i,b)::r,h=>by
  simp only[List.map_cons,List.nodup_cons]at h;simp only[fL];split
  ·rename_i e;subst e;simp only[aE];split
   ·rename_i e2;subst e2
    cases hg:aE r i with
    |none=>rfl
    |some y=>
     exfalso;apply h.1;rw[lF]at hg;obtain⟨p,hp,_⟩:=Option.map_eq_some_iff.1 hg;exact Classical.byContradiction fun hn=>by rw[(nU r i).2 hn]at hp;cases hp
   ·rfl
  ·rename_i e;simp only[aE,lE h.2];split
   ·rename_i e2;subst e2;rw[kA (Ne.symm e)]
   ·rfl
end
theorem lD (c:Bs):∀l:List Bs,aE (dZ l) c=if c∈l then some dI else none
 |[]=>rfl
 |x::r=>by
  simp only[dZ,List.map_cons,aE];split
  ·rename_i e;subst e;simp
  ·rename_i e;have ih:=lD c r;simp only[dZ]at ih;rw[ih];simp only[pV,Ne.symm e,false_or]
theorem aDr (x:Bs)(r:List Bs)(c:Bs):lR (x::r) c=if x=c then x::r else x::lR r c:=by
 unfold lR;by_cases e:x=c
 ·subst e;simp
 ·simp only[pV,Ne.symm e,false_or,e,if_false];split<;>simp
theorem gH (c:Bs):∀l:List Bs,aL (dZ l) c dI=dZ (lR l c)
 |[]=>rfl
 |x::r=>by
  rw[aDr];simp only[dZ,List.map_cons,aL];split
  ·rename_i e;rfl
  ·have ih:=gH c r;simp only[dZ]at ih;rw[ih];rfl
theorem nV (c:Bs):∀l:List Bs,fL (dZ l) c=dZ (l.erase c)
 |[]=>rfl
 |x::r=>by
  simp only[dZ,List.map_cons,fL,List.erase_cons];by_cases e:x=c
  ·subst e;simp
  ·have ih:=nV c r;simp only[dZ]at ih;simp only[e,if_false,beq_iff_eq,ih,List.map_cons]
theorem tE {t:Nat}(ht:(prog.underlying t).map (fun d=>match d with| .pointer _=>true|_=>false)=some true)(l:Nat):A.zA prog .eql t (aB l) (.pointer none)=some (.bool false):=by
 obtain⟨d,hd,h1⟩:=Option.map_eq_some_iff.1 ht;cases d<;>simp at h1
 exact oQ hd _
theorem aRn {t:Nat}(ht:(prog.underlying t).map (fun d=>match d with| .pointer _=>true|_=>false)=some true)(l:Nat):A.zA prog .neq t (aB l) (.pointer none)=some (.bool true):=by
 obtain⟨d,hd,h1⟩:=Option.map_eq_some_iff.1 ht;cases d<;>simp at h1
 simp[A.zA,A.yP,aJ,A.yG,hd]
def fD (o:Option Nat):Value:=match o with|some p=>aB p|none=>.pointer none
section
variable {D:CF}{T0:H}{fil nam:Bs→Bool}{tak:Bs→Bs→Bool}(k2:K2 D T0 fil nam tak){B h:H}{nm:Col→Nat}{s:St}{a:Nat}
include k2
theorem ld {h:H}{p:Nat}{cs:List Value}{o:Option Nat}{v:Value}(hg:h.get p=some (.cells cs o))(i:Nat)(hv:cs[i]?=some v):A.load false 1 (.pointer (some ⟨p,i,none⟩)) h=some v:=by
 have _:=k2;rw[qK,hg];exact hv
theorem T38 (r:Rep B h nm s a)(c:Bs):CI D 38 [aB (nm .mdl),str c] h=some (match aE s.seats c with|some _=>aB (nm (.seat c))|none=>.pointer none,h):=by
 have n:=tE (t:=43) (by kernel_rfl) (nm .mdl);have l0:=ld k2 (r.ok .mdl) 0 rfl;have lk:=uI (r.ok .seats) RaI.Z94 false c;rw[fR (fun c (_:tG)=>aB (nm (.seat c)))]at lk;refine bFc 0 _ _ h (k2.no 38 _ _ (by decide)) ?_
 cases hs:aE s.seats c with
 |none=>
  rw[hs]at lk;simp only[F38,aRh,n,RaK.S,Nat.zero_add,l0,lk];rfl
 |some x=>
  rw[hs]at lk;simp only[F38,aRh,n,RaK.S,Nat.zero_add,l0,lk];rfl
theorem T27 (hT:HasT T0 B)(hB3:3≤B.next)(hB:Ext B h)(r:Rep B h nm s a)(c n:Bs):
 ∃h',CI D 27 [aB (nm .mdl),str c,str n] h=some (.tuple ⟨[.int .u8 ((cG tak s c n).1:Int),.bool (cG tak s c n).2]⟩,h')∧Ext h h':=by
 have e1:=T38 k2 r c;have ht:=hT.ext k2.tab hB3 hB;have hn:=kG hB3 hB.next;unfold cG
 cases hs:aE s.seats c with
 |none=>
  rw[hs]at e1;have n0:A.zA prog .neq 94 (.pointer none) (.pointer none)=some (.bool false):=by kernel_rfl
  refine⟨h,aOn 0 _ _ _ h (k2.no 27 _ _ (by decide)) ?_,Ext.refl h⟩;simp only[F27,aRl,e1,RaK.S,n0];rfl
 |some x=>
  rw[hs]at e1;have n0:=aRn (t:=94) (by kernel_rfl) (nm (.seat c));have l0:=ld k2 (r.ok (.seat c) x hs) 0 rfl;obtain⟨h16,v,lr,_⟩:=r.ok (.lst c) x hs;obtain⟨h',e2,x'⟩:=T32 k2 ht hn h16 lr n;have t0:A.zB 0 (.tuple ⟨[.int .u8 ((eV tak x.row n).1:Int),.bool (eV tak x.row n).2]⟩)=some (.int .u8 ((eV tak x.row n).1:Int)):=rfl;have t1:A.zB 1 (.tuple ⟨[.int .u8 ((eV tak x.row n).1:Int),.bool (eV tak x.row n).2]⟩)=some (.bool (eV tak x.row n).2):=rfl;refine⟨h',aOn 0 _ _ _ h (k2.no 27 _ _ (by decide)) ?_,x'⟩;simp only[F27,aRl,e1,RaK.S,n0,Nat.zero_add,l0,e2,t0,t1]
theorem T31 (m:Msg)(q:Nat)(b:Bool):∃h',CI D 31 [.agg ⟨aR m⟩,.int .u8 (q:Int),.bool b] h=some (.agg ⟨aR (eG m q b)⟩,h')∧Ext h h':=by
 obtain⟨h1,hh1⟩:∃h1,h1=h.push (.cells (aR m) (some 0)):=⟨_,rfl⟩;obtain⟨h2,hh2⟩:∃h2,h2=h1.push (.cells RaI.Z31L (some 0)):=⟨_,rfl⟩;have n1:h1.next=h.next+1:=by rw[hh1];rfl
 have e1:A.box 4 (.agg ⟨aR m⟩) h=some (aB h.next,h1):=by rw[hh1];rfl
 have e2:A.box 4 RaI.Z31 h1=some (aB h1.next,h2):=by rw[hh2];rfl
 have g2:h2.get h.next=some (.cells (aR m) (some 0)):=by rw[hh2,H.get_push,kA (by omega),hh1,H.get_push,kB rfl]
 have l2:A.load false 1 (.pointer (some ⟨h.next,2,none⟩)) h2=some (.int .u8 (m.qos:Int)):=ld k2 g2 2 rfl;have mn:=aSg (m.qos:Int) (q:Int);rw[aKv]at mn;obtain⟨h3,hh3⟩:∃h3,h3=h2.put h.next (.cells [str m.topic,str m.payload,.int .u8 ((min m.qos q:Nat):Int),.bool m.retain] (some 0)):=⟨_,rfl⟩;have e3:A.store 1 (.pointer (some ⟨h.next,2,none⟩)) (.int .u8 ((min m.qos q:Nat):Int)) h2=some h3:=by rw[qU,g2,hh3];rfl
 have g3:h3.get h.next=some (.cells [str m.topic,str m.payload,.int .u8 ((min m.qos q:Nat):Int),.bool m.retain] (some 0)):=by rw[hh3,H.get_put,kB rfl]
 obtain⟨h4,hh4⟩:∃h4,h4=h3.put h.next (.cells (aR (eG m q b)) (some 0)):=⟨_,rfl⟩;have e4:A.store 1 (.pointer (some ⟨h.next,3,none⟩)) (.bool b) h3=some h4:=by rw[qU,g3,hh4];rfl
 have g4:h4.get h.next=some (.cells (aR (eG m q b)) (some 0)):=by rw[hh4,H.get_put,kB rfl]
 have l4:A.load true 4 (.pointer (some ⟨h.next,0,none⟩)) h4=some (.agg ⟨aR (eG m q b)⟩):=by rw[aV,g4];rfl
 have g4b:h4.get h1.next=some (.cells RaI.Z31L (some 0)):=by rw[hh4,H.get_put,kA (by omega),hh3,H.get_put,kA (by omega),hh2,H.get_push,kB rfl]
 obtain⟨h5,hh5⟩:∃h5,h5=h4.put h1.next (.cells (aR (eG m q b)) (some 0)):=⟨_,rfl⟩;have e5:A.store 4 (aB h1.next) (.agg ⟨aR (eG m q b)⟩) h4=some h5:=by rw[qU,g4b,hh5];rfl
 have g5:h5.get h1.next=some (.cells (aR (eG m q b)) (some 0)):=by rw[hh5,H.get_put,kB rfl]
 have l5:A.load true 4 (aB h1.next) h5=some (.agg ⟨aR (eG m q b)⟩):=by rw[aV,g5];rfl
 refine⟨h5,bFj 0 _ _ _ h (k2.no 31 _ _ (by decide)) ?_,?_⟩
 ·simp only[F31,aWq,e1,RaK.S,e2,Nat.zero_add,l2,mn,e3,e4,l4,e5,l5];rfl
 ·rw[hh5,hh4,hh3];refine Ext.put (Ext.put (Ext.put ?_ _ _ (kF _)) _ _ (kF _)) _ _ (by omega);rw[hh2,hh1];exact(Ext.push h _).pushed _
end
end Go.Proofs.YtpanfoafajepcaaGreatDoor.Ra

set_option maxRecDepth 100000
namespace Go.Proofs.YtpanfoafajepcaaGreatDoor.Ra
open Tryz (prog)
open Go Go.AM
open _root_.Ra
theorem bornIn_iff {l:List Nat}{e:Ent}:A.zW l e=true↔e.born∈l:=by
 unfold A.zW;rw[List.any_eq_true];exact⟨fun⟨x,hx,h⟩=>by rw[beq_iff.1 h];exact hx,fun h=>⟨_,h,beq_iff.2 rfl⟩⟩
theorem aAg:∀{es:List Ent} {e:Ent},e∈es→(es.map (·.born)).Nodup→A.findB e.born es=some e
 |[],_,h,_=>by simp at h
 |x::r,e,h,hn=>by
  simp only[List.map_cons,List.nodup_cons]at hn;simp only[A.findB];rcases List.mem_cons.1 h with rfl|h
  ·rw[beq_iff.2 rfl];rfl
  ·have hne:¬x.born=e.born:=fun he=>hn.1 (by rw[he];exact List.mem_map_of_mem h);rw[show Nat.beq x.born e.born=false by cases hb:Nat.beq x.born e.born with|false=>rfl|true=>exact absurd (beq_iff.1 hb) hne];exact aAg h hn.2
theorem rJ (a:Nat):∀l:List Nat,A.lastL (l++[a])=some a
 |[]=>rfl
 |[x]=>rfl
 |x::y::r=>by simpa[A.lastL]using rJ a (y::r)
section
variable {κ:Type}[DecidableEq κ]
def ItK (h:H)(it m:Nat)(ek:κ→Value)(l:List (κ×Value))(sk:List κ):Prop:=
 ∃es c seen,h.get m=some (.map es c)∧h.get it=some (.miter (some m) c seen c)∧Ents ek es l∧(es.map (·.born)).Nodup∧(∀b∈es.map (·.born),b<c)∧(l.map (·.1)).Nodup∧
  ∀(i:Nat) (e:Ent) (x:κ×Value),es[i]?=some e→l[i]?=some x→(e.born∈seen↔x.1∈sk)
variable {ek:κ→Value}{h h':H}{it m:Nat}{l:List (κ×Value)}{sk:List κ}
omit [DecidableEq κ] in
theorem ItK.congr (x:ItK h it m ek l sk)(e1:h'.get it=h.get it)(e2:h'.get m=h.get m):ItK h' it m ek l sk:=by
 obtain⟨es,c,seen,h1,h2,h3⟩:=x;exact⟨es,c,seen,by rw[e2];exact h1,by rw[e1];exact h2,h3⟩
omit [DecidableEq κ] in
theorem gP (x:MapR h m ek l)(hm:m<h.next):∃b,A.zX (aP m) h=some (aB h.next,h.push b)∧ItK (h.push b) h.next m ek l []:=by
 obtain⟨es,c,h1,h2,h3,h4⟩:=x.at_;refine⟨.miter (some m) c [] c,?_,es,c,[],?_,?_,h2,h3,h4,x.nodup,fun i e y _ _=>?_⟩
 ·show A.yF (.map (some m)) h=_;simp only[A.yF,h1]
 ·rw[H.get_push,kA (by omega)];exact h1
 ·rw[H.get_push,kB rfl]
 ·exact⟨fun q=>(List.not_mem_nil q).elim,fun q=>(List.not_mem_nil q).elim⟩
omit [DecidableEq κ] in
theorem ItK.lt {a:H}(x:ItK h it m ek l sk)(wf:∀id b,h.get id=some b→a.get id=some b):∃b,a.get it=some b:=by
 obtain⟨es,c,seen,h1,h2,h3⟩:=x;exact⟨_,wf _ _ h2⟩
theorem rR:∀(b a:List κ),b.Nodup→(∀k∈b,k∈a)→b.length≤a.length
 |[],_,_,_=>pR _
 |x::r,a,hn,hs=>by
  simp only[List.nodup_cons]at hn;have hx:=hs x (by simp);have:=rR r (a.erase x) hn.2 fun k hk=>(List.mem_erase_of_ne (show k≠x from fun e=>hn.1 (by rw[←e];exact hk))).2 (hs k (List.mem_cons_of_mem _ hk));have h1:=List.length_erase_of_mem hx;have:=List.length_pos_of_mem hx;simp only[kM];omega
omit [DecidableEq κ] in
theorem ItK.step (x:ItK h it m ek l sk)(hne:it≠m){f:Value→H→Option Unit}
 (one:∀y∈l,y.1∉sk→∀h1,At it h h1→ItK h1 it m ek l (sk++[y.1])→A.zT (aB it) h1=some (.tuple ⟨[ek y.1,y.2]⟩)→f (.tuple ⟨[.bool true,ek y.1,y.2]⟩) h1=some ())
 (none:(∀y∈l,y.1∈sk)→f (.tuple ⟨[.bool false]⟩) h=some ()):aAz (A.b (aB it) h) f=some ():=by
 obtain⟨es,c,seen,hm,hit,he,hnd,hc,hkn,hs⟩:=x;have hlen:es.length=l.length:=by have:=congrArg List.length he;simpa using this
 have hno:(!seen.isEmpty&&!es.isEmpty&&es.all (fun e=>Nat.ble c e.born))=false:=by
  cases es with
  |nil=>simp
  |cons e r=>
   have:Nat.ble c e.born=false:=by
    have:=hc e.born (by simp)
    cases hb:Nat.ble c e.born with
    |false=>rfl
    |true=>have:=ble_iff.1 hb;omega
   rw[List.all_cons,this];simp
 have at_:∀e∈es,A.zW seen e=false→∃y∈l,y.1∉sk∧e.key=ek y.1∧e.val=y.2∧∀(i:Nat) (e':Ent) (x:κ×Value),es[i]?=some e'→l[i]?=some x→(e'.born∈seen++[e.born]↔x.1∈sk++[y.1]):=by
  intro e hem hun;obtain⟨i,hi⟩:=List.mem_iff_getElem?.1 hem;have hil:i<l.length:=by have:=(List.getElem?_eq_some_iff.1 hi).1;omega
  have hy:=kN hil;have hkv:(e.key,e.val)=(ek l[i].1,l[i].2):=by
   have:=congrArg (fun z=>z[i]?) he;simp only[kX,hi,hy,Option.map_some,kE]at this;exact this
  have hus:¬e.born∈seen:=fun hb=>by rw[bornIn_iff.2 hb]at hun;cases hun
  refine⟨l[i],List.getElem_mem hil,fun hk=>hus ((hs i e _ hi hy).2 hk),(Prod.mk.inj hkv).1,(Prod.mk.inj hkv).2,fun j e' x hj hx=>?_⟩;simp only[List.mem_append,List.mem_singleton];rw[hs j e' x hj hx];have:e'.born=e.born↔x.1=l[i].1:=by
   have hjl:=(List.getElem?_eq_some_iff.1 hj).1;have hil2:=(List.getElem?_eq_some_iff.1 hi).1;constructor
   ·intro hb;have:j=i:=(List.getElem_inj (h₀:=by simpa using hjl) (h₁:=by simpa using hil2) hnd).1 (by
     simp only[List.getElem_map];rw[(List.getElem?_eq_some_iff.1 hj).2,(List.getElem?_eq_some_iff.1 hi).2];exact hb)
    subst this;rw[hy]at hx;rw[←kP hx]
   ·intro hb;have hjx:=(List.getElem?_eq_some_iff.1 hx).1;have:j=i:=(List.getElem_inj (h₀:=by simpa using hjx) (h₁:=by simpa using hil) hkn).1 (by
     simp only[List.getElem_map];rw[(List.getElem?_eq_some_iff.1 hx).2];exact hb)
    subst this;rw[hi]at hj;rw[←kP hj]
  rw[this]
 refine okU_iff.2 ?_
 cases hf:es.filter (fun e=>!A.zW seen e)with
 |nil=>
  refine⟨[(.tuple ⟨[.bool false]⟩,h)],?_,fun z hz=>?_⟩
  ·have h1:A.a (aB it) h=Option.none:=by simp only[A.a,hit,hm,hno,cond_false,hf]
   have h2:A.yJ (aB it) h=some (.tuple ⟨[.bool false]⟩,h):=by simp only[A.yJ,hit,hm,hno,cond_false,hf]
   simp only[A.b,h1,h2,Option.map_some]
  ·rw[List.mem_singleton.1 hz];refine none fun y hy=>?_;obtain⟨i,hi⟩:=List.mem_iff_getElem?.1 hy;have hil:i<es.length:=by have:=(List.getElem?_eq_some_iff.1 hi).1;omega
   have hei:=kN hil;refine(hs i _ _ hei hi).1 (Classical.byContradiction fun hb=>?_);have:es[i]∈es.filter (fun e=>!A.zW seen e):=by
    rw[List.mem_filter];refine⟨List.getElem_mem hil,?_⟩
    cases hbi:A.zW seen es[i]with
    |false=>rfl
    |true=>exact absurd (bornIn_iff.1 hbi) hb
   rw[hf]at this;simp at this
 |cons e r=>
  have hall:(e::r).all (fun e=>Nat.blt e.born c)=true:=by
   rw[List.all_eq_true];intro z hz;rw[←hf]at hz;exact ble_iff.2 (hc z.born (List.mem_map_of_mem (List.mem_filter.1 hz).1))
  refine⟨(e::r).map fun e=>(.tuple ⟨[.bool true,e.key,e.val]⟩,h.put it (.miter (some m) c (seen++[e.born]) c)),?_,fun z hz=>?_⟩
  ·have h1:A.a (aB it) h=some ((e::r).map fun e=>(.tuple ⟨[.bool true,e.key,e.val]⟩,h.put it (.miter (some m) c (seen++[e.born]) c))):=by
    simp only[A.a,hit,hm,hno,cond_false,hf,hall,cond_true]
   simp only[A.b,h1]
  ·obtain⟨e0,he0,rfl⟩:=List.mem_map.1 hz;rw[←hf]at he0;obtain⟨hem,hun⟩:=List.mem_filter.1 he0;obtain⟨y,hy,hys,hk,hv,hs'⟩:=at_ e0 hem (by simpa using hun);have gm:(h.put it (.miter (some m) c (seen++[e0.born]) c)).get m=some (.map es c):=by rw[H.get_put,kA (fun e=>hne e.symm)];exact hm
   have gi:(h.put it (.miter (some m) c (seen++[e0.born]) c)).get it=some (.miter (some m) c (seen++[e0.born]) c):=by rw[H.get_put,kB rfl]
   show f (.tuple ⟨[.bool true,e0.key,e0.val]⟩) _=_;rw[hk,hv];refine one y hy hys _ (At.put h it _) ⟨es,c,seen++[e0.born],gm,gi,he,hnd,hc,hkn,hs'⟩ ?_;simp only[A.zT,gi,gm,rJ,beq_iff.2 rfl,cond_true,aAg hem hnd,hk,hv]
theorem gR {σ:Type}{W:Nat→σ→H→Option Unit}{F:Nat→σ→H→Value→H→Option Unit}{I:List κ→σ→H→Prop}(hne:it≠m)
 (hW:∀n s h,aAz (A.b (aB it) h) (F n s h)=some ()→W (n+1) s h=some ())
 (one:∀n sk s h,I sk s h→ItK h it m ek l sk→∀y∈l,y.1∉sk→∀h1,At it h h1→ItK h1 it m ek l (sk++[y.1])→A.zT (aB it) h1=some (.tuple ⟨[ek y.1,y.2]⟩)→
  (∀s2 h2,I (sk++[y.1]) s2 h2→ItK h2 it m ek l (sk++[y.1])→W n s2 h2=some ())→F n s h (.tuple ⟨[.bool true,ek y.1,y.2]⟩) h1=some ())
 (fin:∀n sk s h,I sk s h→(∀y∈l,y.1∈sk)→(∀k∈sk,k∈l.map (·.1))→sk.Nodup→F n s h (.tuple ⟨[.bool false]⟩) h=some ()):
 ∀(d:Nat) (sk:List κ) (s:σ) (h:H) (n:Nat),sk.Nodup→(∀k∈sk,k∈l.map (·.1))→l.length=sk.length+d→d<n→ItK h it m ek l sk→I sk s h→W n s h=some ():=by
 intro d
 induction d with
 |zero=>
  intro sk s h n hnd hsub hl hn it_ i;obtain⟨n,rfl⟩:∃r,n=r+1:=⟨n-1,by omega⟩;refine hW _ _ _ ?_;have all:∀y∈l,y.1∈sk:=by
   intro y hy;refine Classical.byContradiction fun hn=>?_;have:=rR (y.1::sk) (l.map (·.1)) (List.nodup_cons.2 ⟨hn,hnd⟩) fun k hk=>by
    rcases List.mem_cons.1 hk with rfl|hk
    ·exact List.mem_map_of_mem hy
    ·exact hsub k hk
   simp at this;omega
  exact it_.step hne (fun y hy hys=>absurd (all y hy) hys) fun _=>fin n sk s h i all hsub hnd
 |succ d ih=>
  intro sk s h n hnd hsub hl hn it_ i;obtain⟨n,rfl⟩:∃r,n=r+1:=⟨n-1,by omega⟩;refine hW _ _ _ ?_;refine it_.step hne (fun y hy hys h1 a1 i1 e1=>?_) fun all=>fin n sk s h i all hsub hnd;refine one n sk s h i it_ y hy hys h1 a1 i1 e1 fun s2 h2 i2 it2=>?_;refine ih (sk++[y.1]) s2 h2 n ?_ ?_ (by simp;omega) (by omega) it2 i2
  ·rw[List.nodup_append];exact⟨hnd,by simp,fun a ha b hb=>by rw[List.mem_singleton.1 hb];exact fun e=>hys (e▸ha)⟩
  ·intro k hk;rcases List.mem_append.1 hk with hk|hk
   ·exact hsub k hk
   ·rw[List.mem_singleton.1 hk];exact List.mem_map_of_mem hy
end
theorem Rep.ext {B h h':H}{nm:Col→Nat}{s:St}{a:Nat}(r:Rep B h nm s a)(hB:B.next≤h.next)(e:Ext h h'):Rep B h' nm s a:=
 r.upd (fun _=>False) e.next hB (fun _ h _=>⟨h,rfl⟩) (fun _ _ h=>h.elim) (fun _ _ _ _ h=>h.elim) (fun C hl _=>e.get _ (r.lt C hl).2)
  (fun C _=>⟨by cases C<;>simp[cO],by cases C<;>simp[iY]⟩) (fun _ _ _=>⟨id,id,id,fun h=>h rfl⟩) fun _ h=>h.elim
def eL (B:H)(p a:Nat)(h:H)(o:Bool×St)(v:Value)(h':H):Prop:=v=.bool o.1∧(∃nm,nm .chk=p∧Rep B h' nm o.2 a)∧Ext B h'∧h.next≤h'.next
theorem yS (l:List Bs):(dZ l).length=l.length:=by simp[dZ]
theorem yH {l:List Bs}{y:Bs×Value}(h:y∈dZ l):y.2=dI∧y.1∈l:=by
 simp only[dZ,List.mem_map]at h;obtain⟨c,hc,rfl⟩:=h;exact⟨rfl,hc⟩
end Go.Proofs.YtpanfoafajepcaaGreatDoor.Ra
