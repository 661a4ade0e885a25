import Derived.Test.YtohapjojkjjflaaGreatDoorRp
import Derived.Test.YtohapjojkjjflaaGreatDoorRj
set_option maxRecDepth 100000
namespace Go.Proofs.YtohapjojkjjflaaGreatDoor.Wz
open Tryz (prog)
open Go Go.AM WzA WzB WzD
open Go.AM.Pk (K0 K1 K2 K3 K4 K5 K6 K7 K8 K10 K11)
theorem bBo (p q:Pq)(w w2:Value):A.zA prog .neq 105 (.agg ⟨cG (p.F w)⟩) (.agg ⟨cG (q.F w2)⟩)=some (.bool (!decide (p=q))):=by
 have h:pe (p.F w) (q.F w2)=pe (p.F aF) (q.F aF):=rfl;rw[←aJc,←h];exact gL rfl rfl (by kernel_rfl) (aCd _ _)
section
variable {Q:Orc}(ka:KnA Q)
include ka
theorem cGm (C:CF)(L:Nat){p:Pq}{w1 w2:Value}{es es2:List Sb}{t:Nat}(hl:es.length≤1001000)(he:es.length=es2.length):
 ∀(d i m:Nat) (h:H),i+d=es.length→d<m→SliceE 2 h w1 (es.map sbC)→SliceE 2 h w2 (es2.map sbC)→BQ h t p w2→
  ∃h',Ext h h'∧∀(β:Type) (kr:K1 β) (kx:K0 β),aGc C L kr kx m (.int .i64 (es.length:Int)) (.int .i64 (i:Int)) (aB t) w1 h=if es.drop i=es2.drop i then kx h' else kr (.bool false) h':=by
 have _:=ka;intro d
 induction d with
 |zero=>
  intro i m h hi hm s1 s2 b;obtain⟨m,rfl⟩:∃r,m=r+1:=⟨m-1,by omega⟩;have hd:decide ((i:Int)<(es.length:Int))=false:=by rw[kI];omega
  refine⟨h,Ext.refl h,fun β kr kx=>?_⟩;rw[pL (by omega),pL (by omega),kB rfl];simp only[aGc,aQg,zZ,hd,WzO.S]
 |succ d ih=>
  intro i m h hi hm s1 s2 b;obtain⟨m,rfl⟩:∃r,m=r+1:=⟨m-1,by omega⟩;have hd:decide ((i:Int)<(es.length:Int))=true:=by rw[kJ];omega
  obtain⟨s,hs⟩:∃s,es[i]?=some s:=⟨_,kN (by omega)⟩;obtain⟨r,hr⟩:∃r,es2[i]?=some r:=⟨_,kN (by omega)⟩;obtain⟨id,off,ix,lds⟩:=mR s1 hs;obtain⟨_,_,ld⟩:=lds h (Ext.refl h);obtain⟨h1,hh1⟩:∃h1,h1=h.push (.cells WzA.Z56L (some 0)):=⟨_,rfl⟩;have e1:A.zJ 2 WzA.Z56 h=some (aB h.next,h1):=by rw[hh1];rfl
  obtain⟨h2,hh2⟩:∃h2,h2=h1.put h.next (.cells (sbC s) (some 0)):=⟨_,rfl⟩;have g1:h1.get h.next=some (.cells WzA.Z56L (some 0)):=by rw[hh1,H.get_push,kB rfl]
  have hcl:aJ (.agg ⟨sbC s⟩)=some (sbC s):=rfl;have e2:A.store 2 (aB h.next) (.agg ⟨sbC s⟩) h1=some h2:=by rw[qU,g1,hcl,hh2];rfl
  have x2:Ext h h2:=by rw[hh2];exact(hh1▸Ext.push h _:Ext h h1).put _ _ (kF _)
  have g2:h2.get h.next=some (.cells (sbC s) (some 0)):=by rw[hh2,H.get_put,kB rfl]
  have l2:A.load true 2 (aB h.next) h2=some (.agg ⟨sbC s⟩):=by rw[bJ,g2];rfl
  have b2:=b.ext x2;have lw:=b2.ld (i:=22) rfl;obtain⟨id',off',ix',lds'⟩:=mR (s2.ext x2) hr;obtain⟨_,_,ld'⟩:=lds' h2 (Ext.refl h2);have sn:=uD s r;have wr:A.zA prog .add 3 (.int .i64 (i:Int)) (.int .i64 1)=some (.int .i64 ((i+1:Nat):Int)):=by rw[aG,aI (by omega)]
  rw[aQ hs,aQ hr];by_cases c:s=r
  ·rw[kC c]at sn;obtain⟨h',x',e⟩:=ih (i+1) m h2 (by omega) (by omega) (s1.ext x2) (s2.ext x2) b2;have ee:(s::es.drop (i+1)=r::es2.drop (i+1))=(es.drop (i+1)=es2.drop (i+1)):=by rw[c];simp
   refine⟨h',x2.trans x',fun β kr kx=>?_⟩;simp only[aGc,aQg,zZ,hd,WzO.S,ix,ld,e1,e2,l2,WzO.n0,lw,ix',ld',sn,wr,ee];exact e β kr kx
  ·rw[kD c]at sn;refine⟨h2,x2,fun β kr kx=>?_⟩;rw[kA (fun h=>c (List.cons.inj h).1)];simp only[aGc,aQg,zZ,hd,WzO.S,ix,ld,e1,e2,l2,WzO.n0,lw,ix',ld',sn]
theorem T51 {h:H}{n:Nat}{p q:Pq}{w1 w2:Value}{es es2:List Sb}(hn:1001400≤n)(hl:es.length≤1001000)(s1:SliceE 2 h w1 (es.map sbC))(s2:SliceE 2 h w2 (es2.map sbC)):
 ∃h',aA prog 2 Q n 51 [.agg ⟨p.cells w1⟩,.agg ⟨q.cells w2⟩] h=some (.bool (decide (p=q∧es=es2)),h')∧Ext h h':=by
 obtain⟨n,rfl⟩:∃m,n=m+1:=⟨n-1,by omega⟩;rw[bVt Q n _ _ h (ka.fr 51 _ (by decide))];obtain⟨N,hN⟩:∃N,n=N+1:=⟨n-1,by omega⟩;obtain⟨ha,ea,ba,xa,na⟩:=cB p s1.cells h;obtain⟨hb,eb,bb,xb,nb⟩:=cB q s2.cells ha;have ba2:=ba.ext xb;obtain⟨hc,ec,xc⟩:=aFk ka N hb (p.F w1);have ec:aA prog 2 Q n 76 [.agg ⟨p.cells w1⟩] hb=some (.agg ⟨cG (p.F w1)⟩,hc):=by rw[hN];exact ec
 have bb3:=bb.ext xc;have ck:=aIz q s2.same;obtain⟨hd,ed,xd⟩:=aFk ka N hc (q.F w2);have ed:aA prog 2 Q n 76 [.agg ⟨q.cells w2⟩] hc=some (.agg ⟨cG (q.F w2)⟩,hd):=by rw[hN];exact ed
 have ne:=bBo p q w1 w2;have xbd:=xc.trans xd;have ba4:=ba2.ext xbd;have bb4:=bb.ext xbd;have l1:=ba4.ld (i:=22) rfl;have l2:=bb4.ld (i:=22) rfl;have x4:Ext h hd:=(xa.trans xb).trans xbd;have n1:A.zG w1=some (.int .i64 (es.length:Int)):=by have:=s1.len.1;rwa [pA]at this
 have n2:A.zG w2=some (.int .i64 (es2.length:Int)):=by have:=s2.len.1;rwa [pA]at this
 have dn:=deN es.length es2.length;by_cases c1:p=q
 ·rw[kC c1]at ne;by_cases c2:es.length=es2.length
  ·rw[kC c2]at dn;obtain⟨h',x',e⟩:=cGm ka (aA prog 2 Q n) n hl c2 es.length 0 n hd (by omega) (by omega) (s1.ext x4) (s2.ext x4) bb4;have e:=e _ (fun x4 h=>some (x4,h)) (fun h=>some (.bool true,h));refine⟨h',?_,x4.trans x'⟩;simp only[F51,aMa,aWe,ea,WzO.S,eb,aWd,ba2.all,ec,bb.all,bb3.all,ck,Bool.and_true,ed,ne,WzO.n0,l1,l2,n1,n2,aK,dn,aYo,bYc,bYb];refine e.trans ?_;rw[List.drop_zero,List.drop_zero];by_cases c3:es=es2
   ·rw[kB c3,kC ⟨c1,c3⟩]
   ·rw[kA c3,kD (fun h=>c3 h.2)]
  ·rw[kD c2]at dn;refine⟨hd,?_,x4⟩;rw[kD (show¬(p=q∧es=es2)from fun h=>c2 (by rw[h.2]))];simp only[F51,aMa,aWe,ea,WzO.S,eb,aWd,ba2.all,ec,bb.all,bb3.all,ck,Bool.and_true,ed,ne,WzO.n0,l1,l2,n1,n2,aK,dn]
 ·rw[kD c1]at ne;refine⟨hd,?_,x4⟩;rw[kD (show¬(p=q∧es=es2)from fun h=>c1 h.1)];simp only[F51,aMa,aWe,ea,WzO.S,eb,aWd,ba2.all,ec,bb.all,bb3.all,ck,Bool.and_true,ed,ne]
end
def eT (k:Nat):Bool:=decide (k=2∨k=9∨k=11∨k=4∨k=5)
def okA (asked:Bool)(ans:List Pq)(s:PS)(p:Pq)(es:List Sb):Bool:=
 if asked=true then decide (ans[s.told]?=some p∧es=[])else decide (s.packets=0∧p.kind=2∧(p.code=1∨p.code=2))
def stA (s:PS)(p:Pq):PS:=if p.kind=2∧s.begun=false then{s with told:=s.told+1,begun:=true,first:=p,again:=p.present}else{s with told:=s.told+1,again:=false}
def gN (asked:Bool)(ans:List Pq)(ms:List Ms)(s:PS)(p:Pq)(es:List Sb):Option PS:=
 if eT p.kind=true then(if okA asked ans s p es=true then some (stA s p)else none)
 else if s.begun=false∨0<s.first.code then none
 else if p.kind=3 then
  if p.dup=false then(if dB ms (bF p) s.ends=[]then none else some {s with again:=false,ends:=dB ms (bF p) s.ends})
  else if s.again=true∧bF p∈ms then some s else none
 else if p.kind=6 then some s
 else if p.kind=7∨p.kind=13 then some {s with again:=false}
 else none
theorem WS.put {B h h':H}{wp c1 c3:Nat}{va vm:Value}{asked:Bool}{ans:List Pq}{ms:List Ms}{s s':PS}(ws:WS B h wp c1 c3 va vm asked ans ms s)(x:ExtBut (fun j=>j=wp) h h')(he:s'.ends=s.ends)
 (g:∃fw,h'.get wp=some (.cells (wC asked va vm s'.packets s'.told s'.first fw s'.begun s'.again (iF c1 c3)) (some 0))):WS B h' wp c1 c3 va vm asked ans ms s':=by
 obtain⟨v3,ga,gb,gc⟩:=ws.fit.a3;refine⟨aT ws.x x ws.nw,g,kH ws.wl x.next,ws.sla.extBut x (fun i hi e=>(ws.sa i hi).1 e),ws.slm.extBut x (fun i hi e=>(ws.sm i hi).1 e),?_,ws.nw,ws.n1,ws.n3,ws.ne1,ws.ne3,ws.sa,ws.sm⟩;rw[he];exact⟨⟨by rw[x.get _ ws.fit.a1.2 (fun e=>ws.ne1 e.symm)];exact ws.fit.a1.1,kH ws.fit.a1.2 x.next⟩,⟨v3,by rw[x.get _ ws.fit.lt (fun e=>ws.ne3 e.symm)];exact ga,gb.extBut x (fun i hi e=>(gc i hi).2.2 e),gc⟩,kH ws.fit.lt x.next,ws.fit.ne⟩
theorem WS.ext {B h h':H}{wp c1 c3:Nat}{va vm:Value}{asked:Bool}{ans:List Pq}{ms:List Ms}{s:PS}(ws:WS B h wp c1 c3 va vm asked ans ms s)(x:Ext h h'):WS B h' wp c1 c3 va vm asked ans ms s:=by
 obtain⟨fw,g⟩:=ws.w;exact ws.put ⟨x.next,fun i hi _=>x.get i hi⟩ rfl ⟨fw,by rw[x.get _ ws.wl];exact g⟩
theorem WS.atc {B h h':H}{wp c1 c3:Nat}{va vm:Value}{asked:Bool}{ans:List Pq}{ms:List Ms}{s:PS}{e:List Nat}(ws:WS B h wp c1 c3 va vm asked ans ms s)(x:ExtBut (fun j=>j=c3) h h')(f:aUb h' c1 c3 wp vm e):WS B h' wp c1 c3 va vm asked ans ms {s with ends:=e}:=by
 obtain⟨fw,g⟩:=ws.w;exact⟨aT ws.x x ws.n3,⟨fw,by rw[x.get _ ws.wl ws.ne3];exact g⟩,kH ws.wl x.next,ws.sla.extBut x (fun i hi e=>(ws.sa i hi).2 e),ws.slm.extBut x (fun i hi e=>(ws.sm i hi).2 e),f,ws.nw,ws.n1,ws.n3,ws.ne1,ws.ne3,ws.sa,ws.sm⟩
section
variable {Q:Orc}(ka:KnA Q){B h:H}{wp c1 c3 n:Nat}{va vm:Value}{asked:Bool}{ans:List Pq}{ms:List Ms}{s:PS}(ws:WS B h wp c1 c3 va vm asked ans ms s)(hn:1001500≤n)
include ka ws hn
theorem T29 {p:Pq}{w:Value}{es:List Sb}(sl:SliceE 2 h w (es.map sbC))(ht:s.told≤1000000):
 ∃h',aA prog 2 Q n 29 [aB wp,.agg ⟨p.cells w⟩] h=some (.bool (okA asked ans s p es),h')∧Ext B h'∧(okA asked ans s p es=true→WS B h' wp c1 c3 va vm asked ans ms (stA s p)):=by
 obtain⟨n,rfl⟩:∃m,n=m+1:=⟨n-1,by omega⟩;rw[bWo Q n _ _ h (ka.fr 29 _ (by decide))];obtain⟨h0,e0,b0,x0,_⟩:=cB p sl.cells h;have ws0:=ws.ext x0;obtain⟨fw,g0⟩:=ws0.w;obtain⟨⟨l0,_⟩,_,_,_,_,_,l20,l21,_⟩:=b0.lds;have w0:A.load false 1 (.pointer (some ⟨wp,0,none⟩)) h0=some (.bool asked):=by rw[qK,g0];rfl
 have w1:A.load false 1 (.pointer (some ⟨wp,1,none⟩)) h0=some va:=by rw[qK,g0];rfl
 have w3:A.load false 1 (.pointer (some ⟨wp,3,none⟩)) h0=some (.int .i64 (s.packets:Int)):=by rw[qK,g0];rfl
 have w4:A.load false 1 (.pointer (some ⟨wp,4,none⟩)) h0=some (.int .i64 (s.told:Int)):=by rw[qK,g0];rfl
 have d2:decide ((p.kind:Int)=2)=decide (p.kind=2):=deN _ 2;have q1:decide ((p.code:Int)=1)=decide (p.code=1):=deN _ 1;have q2:decide ((p.code:Int)=2)=decide (p.code=2):=deN _ 2;have dp:decide ((0:Int)<(s.packets:Int))=decide (0<s.packets):=dlN 0 _;have lna:A.zG va=some (.int .i64 (ans.length:Int)):=by have:=ws.sla.len.1;rw[pA]at this;exact this
 have nwp:h.next≠wp:=by have:=ws.wl;omega
 obtain⟨h1,x1,st1⟩:∃h1,Ext h0 h1∧∀(β:Type) (kr:K1 β) (kn:K2 β),aGy (aA prog 2 Q n) h0 (aB wp) (aB h.next) kr kn=if okA asked ans s p es=true then kn (aB h.next) (aB wp) h1 else kr (.bool false) h1:=by
  cases ha:asked with
  |false=>
   rw[ha]at w0;refine⟨h0,Ext.refl h0,fun β kr kn=>?_⟩;have hok:okA false ans s p es=decide (s.packets=0∧p.kind=2∧(p.code=1∨p.code=2)):=rfl;rw[hok];simp only[aGy,aXf,WzO.S,WzO.n0,Nat.add_zero,w0,cAl,w3,zY,dp,l0,aK,d2,l21,q1,q2,cAk,pI];by_cases k1:0<s.packets
   ·rw[kC k1,kA (fun h=>by omega)];rfl
   ·rw[kD k1];by_cases k2:p.kind=2
    ·rw[kC k2];by_cases k3:p.code=1
     ·rw[kC k3,kB ⟨by omega,k2,Or.inl k3⟩];rfl
     ·rw[kD k3];by_cases k4:p.code=2
      ·rw[kC k4,kB ⟨by omega,k2,Or.inr k4⟩];rfl
      ·rw[kD k4,kA (fun h=>h.2.2.elim k3 k4)];rfl
    ·rw[kD k2,kA (fun h=>k2 h.2.1)];rfl
  |true=>
   rw[ha]at w0;have hok:okA true ans s p es=decide (ans[s.told]?=some p∧es=[]):=rfl;rw[hok];have dg:decide ((ans.length:Int)≤(s.told:Int))=decide (ans.length≤s.told):=aMh _ _;by_cases k1:ans.length≤s.told
   ·rw[kC k1]at dg;refine⟨h0,Ext.refl h0,fun β kr kn=>?_⟩;rw[kD (show¬(ans[s.told]?=some p∧es=[])from fun h=>by rw[List.getElem?_eq_none k1]at h;cases h.1),kA (by decide)];simp only[aGy,aXf,WzO.S,WzO.n0,Nat.add_zero,w0,bFv,w4,w1,lna,bA,dg,bFu]
   ·rw[kD k1]at dg;obtain⟨a,hka⟩:∃a,ans[s.told]?=some a:=⟨_,kN (by omega)⟩;obtain⟨id,off,ix,hid,_,ld⟩:=nN ws0.sla (i:=s.told) (e:=a.cells aF) (by rw[kX,hka];rfl) .i64;obtain⟨_,lb⟩:=ld h0 rfl;have lb:A.load true 24 (.pointer (some ⟨id,off,none⟩)) h0=some (.agg ⟨a.cells aF⟩):=lb 0 24 (by omega);obtain⟨h1,e1,x1⟩:=T51 ka (h:=h0) (n:=n) (p:=a) (q:=p) (w1:=aF) (es:=[]) (by omega) (by simp) ((Vec.nil 2 h0).slice) (sl.ext x0);have la:=b0.all;refine⟨h1,x1,fun β kr kn=>?_⟩;have he:decide (ans[s.told]?=some p∧es=[])=decide (a=p∧[]=es):=decide_eq_decide.2 (by rw[hka];exact⟨fun h=>⟨kP h.1,h.2.symm⟩,fun h=>⟨by rw[h.1],h.2.symm⟩⟩);rw[he];simp only[aGy,aXf,WzO.S,WzO.n0,Nat.add_zero,w0,bFv,w4,w1,lna,bA,dg,ix,lb,la,e1,bFu];cases decide (a=p∧[]=es)<;>rfl
 have ws1:=ws0.ext x1;have b1:=b0.ext x1;by_cases hk:okA asked ans s p es=true
 ·rw[hk];obtain⟨fw1,g1⟩:=ws1.w;obtain⟨h2,e2,g2,x2,n2⟩:=dN (i:=4) (v:=.int .i64 ((s.told+1:Nat):Int)) (cs':=wC asked va vm s.packets (s.told+1) s.first fw1 s.begun s.again (iF c1 c3)) g1 rfl (by rw[show(wC asked va vm s.packets s.told s.first fw1 s.begun s.again (iF c1 c3)).length=32 from rfl];omega) rfl;obtain⟨h3,e3,g3,x3,n3⟩:=dN (i:=30) (v:=.bool false) (cs':=wC asked va vm s.packets (s.told+1) s.first fw1 s.begun false (iF c1 c3)) g2 rfl (by rw[show(wC asked va vm s.packets (s.told+1) s.first fw1 s.begun s.again (iF c1 c3)).length=32 from rfl];omega) rfl;have w41:A.load false 1 (.pointer (some ⟨wp,4,none⟩)) h1=some (.int .i64 (s.told:Int)):=by rw[qK,g1];rfl
  have wr:A.zA prog .add 3 (.int .i64 (s.told:Int)) (.int .i64 1)=some (.int .i64 ((s.told+1:Nat):Int)):=by rw[aG,aI (by omega)]
  have x13:=x2.trans x3;have b3:=b1.but x13 nwp;obtain⟨⟨m0,_⟩,_⟩:=b3.lds;have w29:A.load false 1 (.pointer (some ⟨wp,29,none⟩)) h3=some (.bool s.begun):=by rw[qK,g3];rfl
  by_cases kb:p.kind=2∧s.begun=false
  ·have hst:stA s p={s with told:=s.told+1,begun:=true,first:=p,again:=p.present}:=kB kb
   rw[kC kb.1]at d2;rw[kb.2]at w29;obtain⟨h4,e4,g4,x4,n4⟩:=dN (i:=29) (v:=.bool true) (cs':=wC asked va vm s.packets (s.told+1) s.first fw1 true false (iF c1 c3)) g3 rfl (by rw[show(wC asked va vm s.packets (s.told+1) s.first fw1 s.begun false (iF c1 c3)).length=32 from rfl];omega) rfl;have b4:=b3.but x4 nwp;have la4:=b4.all;obtain⟨h5,hh5⟩:∃h5,h5=h4.put wp (.cells (wC asked va vm s.packets (s.told+1) p w true false (iF c1 c3)) (some 0)):=⟨_,rfl⟩;have hcl:aJ (.agg ⟨p.cells w⟩)=some (p.cells w):=rfl;have e5:A.store 24 (.pointer (some ⟨wp,5,none⟩)) (.agg ⟨p.cells w⟩) h4=some h5:=by rw[qU,g4,hcl,hh5];rfl
   have g5:h5.get wp=some (.cells (wC asked va vm s.packets (s.told+1) p w true false (iF c1 c3)) (some 0)):=by rw[hh5,H.get_put,kB rfl]
   have x5:ExtBut (fun j=>j=wp) h4 h5:=by rw[hh5];exact ExtBut.put ⟨kF _,fun _ _ _=>rfl⟩ wp _ rfl
   have b5:=b4.but x5 nwp;obtain⟨_,_,_,_,_,_,m20,_⟩:=b5.lds;obtain⟨h6,e6,g6,x6,n6⟩:=dN (i:=30) (v:=.bool p.present) (cs':=wC asked va vm s.packets (s.told+1) p w true p.present (iF c1 c3)) g5 rfl (by rw[show(wC asked va vm s.packets (s.told+1) p w true false (iF c1 c3)).length=32 from rfl];omega) rfl;have x16:=(((x13.trans x4).trans x5).trans x6);refine⟨h6,?_,aT ws1.x x16 ws.nw,fun _=>by rw[hst];exact ws1.put x16 rfl ⟨w,g6⟩⟩;simp only[F29,aMg,aXg,e0,WzO.S,st1,kB hk,bFt,WzO.n0,w41,wr,e2,e3,m0,zQ,d2,w29,e4,la4,e5,m20,e6]
  ·have hst:stA s p={s with told:=s.told+1,again:=false}:=kA kb;refine⟨h3,?_,aT ws1.x x13 ws.nw,fun _=>by rw[hst];exact ws1.put x13 rfl ⟨fw1,g3⟩⟩;simp only[F29,aMg,aXg,e0,WzO.S,st1,kB hk,bFt,WzO.n0,w41,wr,e2,e3,m0,zQ,d2];by_cases k2:p.kind=2
   ·have hb:s.begun=true:=by cases h:s.begun with|true=>rfl|false=>exact absurd ⟨k2,h⟩ kb
    rw[hb]at w29;simp only[kC k2,WzO.S,w29]
   ·simp only[kD k2,cond_false]
 ·have hk':okA asked ans s p es=false:=by cases h:okA asked ans s p es with|false=>rfl|true=>exact absurd h hk
  rw[hk'];refine⟨h1,?_,ws1.x,fun h=>by cases h⟩;simp only[F29,aMg,aXg,e0,WzO.S,st1,kA hk]
theorem cGp {m0:Ms}{t:Nat}(C:CF)(L:Nat):∀(d i m:Nat) (h':H),i+d=ms.length→d<m→Ext h h'→(h'.get t=some (.cells (msC m0) (some 0))∧t<h'.next)→ms.length≤200→
 ∃h2,Ext h' h2∧∀(β:Type) (kr:K1 β) (kx:K0 β),aBd C L kr kx m (.int .i64 (ms.length:Int)) (.int .i64 (i:Int)) (aB t) vm h'=if m0∈ms.drop i then kr (.bool true) h2 else kx h2:=by
 have _:=ka;have _:=hn;intro d
 induction d with
 |zero=>
  intro i m h' hi hm x g hl;obtain⟨m,rfl⟩:∃r,m=r+1:=⟨m-1,by omega⟩;have dl:decide ((i:Int)<(ms.length:Int))=false:=by rw[kI];omega
  refine⟨h',Ext.refl h',fun β kr kx=>?_⟩;rw[pL (by omega),kA (by simp)];simp only[aBd,aRi,zZ,dl,WzO.S]
 |succ d ih=>
  intro i m h' hi hm x g hl;obtain⟨m,rfl⟩:∃r,m=r+1:=⟨m-1,by omega⟩;have dl:decide ((i:Int)<(ms.length:Int))=true:=by rw[kJ];omega
  obtain⟨y,hy⟩:∃y,ms[i]?=some y:=⟨_,kN (by omega)⟩;obtain⟨id,off,ix,hid,_,ld⟩:=nN ws.slm (i:=i) (e:=msC y) (by rw[kX,hy];rfl) .i64;obtain⟨_,lb⟩:=ld h' (x.get _ hid);have lb:A.load true 4 (.pointer (some ⟨id,off,none⟩)) h'=some (.agg ⟨msC y⟩):=lb 0 4 (by omega);obtain⟨h1,hh1⟩:∃h1,h1=h'.push (.cells WzD.Z35L (some 0)):=⟨_,rfl⟩;have e1:A.zJ 4 WzD.Z35 h'=some (aB h'.next,h1):=by rw[hh1];rfl
  have g1:h1.get h'.next=some (.cells WzD.Z35L (some 0)):=by rw[hh1,H.get_push,kB rfl]
  obtain⟨h2,hh2⟩:∃h2,h2=h1.put h'.next (.cells (msC y) (some 0)):=⟨_,rfl⟩;have hcl:aJ (.agg ⟨msC y⟩)=some (msC y):=rfl;have e2:A.store 4 (aB h'.next) (.agg ⟨msC y⟩) h1=some h2:=by rw[qU,g1,hcl,hh2];rfl
  have x2:Ext h' h2:=by rw[hh2];exact(hh1▸Ext.push h' _:Ext h' h1).put _ _ (kF _)
  have la:A.load true 4 (aB h'.next) h2=some (.agg ⟨msC y⟩):=by rw[bJ,hh2,H.get_put,kB rfl];rfl
  have lm:A.load true 4 (aB t) h2=some (.agg ⟨msC m0⟩):=by rw[bJ,x2.get _ g.2,g.1];rfl
  have eq:=uP y m0;have wr:A.zA prog .add 3 (.int .i64 (i:Int)) (.int .i64 1)=some (.int .i64 ((i+1:Nat):Int)):=by rw[aG,aI (by omega)]
  have hd:ms.drop i=y::ms.drop (i+1):=aQ hy;rw[hd];by_cases c:y=m0
  ·rw[kC c]at eq;refine⟨h2,x2,fun β kr kx=>?_⟩;rw[kB (by rw[c];exact List.mem_cons_self)];simp only[aBd,aRi,zZ,dl,WzO.S,ix,lb,e1,e2,la,lm,eq]
  ·rw[kD c]at eq;obtain⟨h3,x3,f⟩:=ih (i+1) m h2 (by omega) (by omega) (x.trans x2) ⟨by rw[x2.get _ g.2];exact g.1,kH g.2 x2.next⟩ hl;have hmm:(m0∈y::ms.drop (i+1))=(m0∈ms.drop (i+1)):=by
    rw[List.mem_cons];exact propext ⟨fun h=>h.resolve_left (fun e=>c e.symm),Or.inr⟩
   refine⟨h3,x2.trans x3,fun β kr kx=>?_⟩;simp only[aBd,aRi,zZ,dl,WzO.S,ix,lb,e1,e2,la,lm,eq,wr,f,hmm]
def aMu (ms:List Ms)(s:PS)(p:Pq):Option PS:=
 if p.dup=false then(if dB ms (bF p) s.ends=[]then none else some {s with again:=false,ends:=dB ms (bF p) s.ends})
 else if s.again=true∧bF p∈ms then some s else none
theorem cJx {p:Pq}{w:Value}(hw:aJ w=some [w])(hl:ms.length≤200)(he:s.ends.length≤200)(hb:∀i∈s.ends,i≤1000):
 ∃h',aA prog 2 Q n 30 [aB wp,.agg ⟨p.cells w⟩] h=some (.bool (aMu ms s p).isSome,h')∧Ext B h'∧(∀s',aMu ms s p=some s'→WS B h' wp c1 c3 va vm asked ans ms s'):=by
 obtain⟨n,rfl⟩:∃m,n=m+1:=⟨n-1,by omega⟩;rw[bWn Q n _ _ h (ka.fr 30 _ (by decide))];obtain⟨h0,e0,b0,x0,_⟩:=cB p hw h;obtain⟨⟨l0,l1,l2,l3,l4,l5,l6,_⟩,_⟩:=b0.lds;have bz:A.zF WzD.Z35L [(0,1,str p.topic),(1,1,str p.payload),(2,1,.int .u8 (p.qos:Int)),(3,1,.bool p.retain)]=some (.agg ⟨msC (bF p)⟩):=by kernel_rfl
 obtain⟨h1,hh1⟩:∃h1,h1=h0.push (.cells WzD.Z35L (some 0)):=⟨_,rfl⟩;have e1:A.zJ 4 WzD.Z35 h0=some (aB h0.next,h1):=by rw[hh1];rfl
 have g1:h1.get h0.next=some (.cells WzD.Z35L (some 0)):=by rw[hh1,H.get_push,kB rfl]
 obtain⟨h2,hh2⟩:∃h2,h2=h1.put h0.next (.cells (msC (bF p)) (some 0)):=⟨_,rfl⟩;have hcl:aJ (.agg ⟨msC (bF p)⟩)=some (msC (bF p)):=rfl;have e2:A.store 4 (aB h0.next) (.agg ⟨msC (bF p)⟩) h1=some h2:=by rw[qU,g1,hcl,hh2];rfl
 have x2:Ext h0 h2:=by rw[hh2];exact(hh1▸Ext.push h0 _:Ext h0 h1).put _ _ (kF _)
 have g2:h2.get h0.next=some (.cells (msC (bF p)) (some 0)):=by rw[hh2,H.get_put,kB rfl]
 have t2:h0.next<h2.next:=by rw[hh2,hh1];exact Nat.lt_succ_self _
 have x02:=x0.trans x2;have ws2:=ws.ext x02;obtain⟨fw,gw⟩:=ws2.w;have b2:=b0.ext x2;obtain⟨⟨_,m1,_⟩,_⟩:=b2.lds;have w30:A.load false 1 (.pointer (some ⟨wp,30,none⟩)) h2=some (.bool s.again):=by rw[qK,gw];rfl
 have w2:A.load false 1 (.pointer (some ⟨wp,2,none⟩)) h2=some vm:=by rw[qK,gw];rfl
 have lnm:A.zG vm=some (.int .i64 (ms.length:Int)):=by have:=ws.slm.len.1;rw[pA]at this;exact this
 have nwp:h0.next≠wp:=by have:=ws.wl;have:=x0.next;omega
 unfold aMu
 cases hd:p.dup with
 |false=>
  rw[hd]at m1;obtain⟨h3,e3,g3,x3,n3⟩:=dN (i:=30) (v:=.bool false) (cs':=wC asked va vm s.packets s.told s.first fw s.begun false (iF c1 c3)) gw rfl (by rw[show(wC asked va vm s.packets s.told s.first fw s.begun s.again (iF c1 c3)).length=32 from rfl];omega) rfl;have ws3:WS B h3 wp c1 c3 va vm asked ans ms {s with again:=false}:=ws2.put x3 rfl ⟨fw,g3⟩;have w31:A.load false 1 (.pointer (some ⟨wp,31,none⟩)) h3=some (iF c1 c3):=by rw[qK,g3];rfl
  have lm:A.load true 4 (aB h0.next) h3=some (.agg ⟨msC (bF p)⟩):=by rw[bJ,x3.get _ t2 nwp,g2];rfl
  obtain⟨h4,e4,f4,x4⟩:=T43 ka (h:=h3) (n:=n) (by omega) ws3.wl ws3.fit ws3.slm he hb (bF p);have ws4:=ws3.atc x4 f4;refine⟨h4,?_,ws4.x,fun s' hs=>?_⟩
  ·have hr:((if false=false then if dB ms (bF p) s.ends=[]then none else some {s with again:=false,ends:=dB ms (bF p) s.ends}else if s.again=true∧bF p∈ms then some s else none):Option PS).isSome=decide (dB ms (bF p) s.ends≠[]):=by
    rw[kB rfl];by_cases c:dB ms (bF p) s.ends=[]
    ·rw[kB c,kD (not_not_intro c)];rfl
    ·rw[kA c,kC c];rfl
   rw[hr];simp only[F30,aMf,aXe,e0,WzO.S,WzO.n0,l5,l6,l2,l3,bz,e1,e2,aXd,m1,e3,w31,lm,e4]
  ·rw[kB rfl]at hs;split at hs
   ·cases hs
   ·cases hs;exact ws4
 |true=>
  rw[hd]at m1
  cases ha:s.again with
  |false=>
   rw[ha]at w30;refine⟨h2,?_,ws2.x,fun s' hs=>?_⟩
   ·rw[kA (show¬true=false by decide),kA (fun h=>by cases h.1)];simp only[F30,aMf,aXe,e0,WzO.S,WzO.n0,l5,l6,l2,l3,bz,e1,e2,aXd,m1,bFs,w30];rfl
   ·rw[kA (show¬true=false by decide),kA (fun h=>by cases h.1)]at hs;cases hs
  |true=>
   rw[ha]at w30;obtain⟨h3,x3,f⟩:=cGp ka ws2 hn (m0:=bF p) (t:=h0.next) (aA prog 2 Q n) n ms.length 0 n h2 (by omega) (by omega) (Ext.refl h2) ⟨g2,t2⟩ hl;have f:=f (Value×H) (fun x4 h=>some (x4,h)) (fun h=>some (.bool false,h));have f:aBd (aA prog 2 Q n) n (fun x4 h=>some (x4,h)) (fun h=>some (.bool false,h)) n (.int .i64 (ms.length:Int)) (.int .i64 0) (aB h0.next) vm h2=_:=f;rw[List.drop_zero]at f;have hr:∀s':PS,((if true=false then if dB ms (bF p) s.ends=[]then none else some {s with again:=false,ends:=dB ms (bF p) s.ends}else if true=true∧bF p∈ms then some s else none):Option PS)=if bF p∈ms then some s else none:=fun _=>by
    rw[kA (by decide)];by_cases c:bF p∈ms
    ·rw[kB c,kB ⟨rfl,c⟩]
    ·rw[kA c,kA (fun h=>c h.2)]
   rw[hr s];have pre:F30 (aA prog 2 Q n) n (aB wp) (.agg ⟨p.cells w⟩) h=aBd (aA prog 2 Q n) n (fun x4 h=>some (x4,h)) (fun h=>some (.bool false,h)) n (.int .i64 (ms.length:Int)) (.int .i64 0) (aB h0.next) vm h2:=by
    simp only[F30,aMf,aXe,e0,WzO.S,WzO.n0,l5,l6,l2,l3,bz,e1,e2,aXd,m1,bFs,w30,aYu,cAj,w2,lnm,cAi]
   rw[pre,f];by_cases c:bF p∈ms
   ·simp only[kB c];exact⟨h3,rfl,(ws2.ext x3).x,fun s' hs=>by cases hs;exact ws2.ext x3⟩
   ·simp only[kA c];exact⟨h3,rfl,(ws2.ext x3).x,fun s' hs=>by cases hs⟩
theorem cKe {p:Pq}{w:Value}{es:List Sb}(sl:SliceE 2 h w (es.map sbC))(ht:s.told≤1000000)(hl:ms.length≤200)(he:s.ends.length≤200)(hb:∀i∈s.ends,i≤1000):
 ∃h',aA prog 2 Q (n+1) 16 [aB wp,.agg ⟨p.cells w⟩] h=some (.bool (gN asked ans ms s p es).isSome,h')∧Ext B h'∧(∀s',gN asked ans ms s p es=some s'→WS B h' wp c1 c3 va vm asked ans ms s'):=by
 rw[bWy Q n _ _ h (ka.fr 16 _ (by decide))];obtain⟨h0,e0,b0,x0,_⟩:=cB p sl.cells h;have ws0:=ws.ext x0;obtain⟨fw,g0⟩:=ws0.w;obtain⟨⟨l0,_⟩,_⟩:=b0.lds;have la:=b0.all;have w29:A.load false 1 (.pointer (some ⟨wp,29,none⟩)) h0=some (.bool s.begun):=by rw[qK,g0];rfl
 have w26:A.load false 1 (.pointer (some ⟨wp,26,none⟩)) h0=some (.int .u8 (s.first.code:Int)):=by rw[qK,g0];rfl
 have d2:decide ((p.kind:Int)=2)=decide (p.kind=2):=deN _ 2;have d9:decide ((p.kind:Int)=9)=decide (p.kind=9):=deN _ 9;have d11:decide ((p.kind:Int)=11)=decide (p.kind=11):=deN _ 11;have d4:decide ((p.kind:Int)=4)=decide (p.kind=4):=deN _ 4;have d5:decide ((p.kind:Int)=5)=decide (p.kind=5):=deN _ 5;have d3:decide ((p.kind:Int)=3)=decide (p.kind=3):=deN _ 3;have d6:decide ((p.kind:Int)=6)=decide (p.kind=6):=deN _ 6;have d7:decide ((p.kind:Int)=7)=decide (p.kind=7):=deN _ 7;have d13:decide ((p.kind:Int)=13)=decide (p.kind=13):=deN _ 13;have dc:decide ((0:Int)<(s.first.code:Int))=decide (0<s.first.code):=dlN 0 _;have st:∀(β:Type) (kr:K1 β) (kn:K2 β),aSw (aA prog 2 Q n) h0 (aB wp) (aB h.next) kr kn=bif eT p.kind then(aE (aA prog 2 Q n 29 [aB wp,.agg ⟨p.cells w⟩] h0) fun c d=>aP c fun e=>kr (.bool e) d)else kn (aB h.next) (aB wp) h0:=by
  intro β kr kn;unfold eT;simp only[aSw,cBv,WzO.S,WzO.n0,l0,aYh,cBu,zQ,d2,cBs,cBt,d9,d11,d4,d5,cBr,la];by_cases k2:p.kind=2
  ·rw[kC k2,kC (show p.kind=2∨p.kind=9∨p.kind=11∨p.kind=4∨p.kind=5 from Or.inl k2)];rfl
  ·rw[kD k2];by_cases k9:p.kind=9
   ·rw[kC k9,kC (show p.kind=2∨p.kind=9∨p.kind=11∨p.kind=4∨p.kind=5 from Or.inr (Or.inl k9))];rfl
   ·rw[kD k9];by_cases k11:p.kind=11
    ·rw[kC k11,kC (show p.kind=2∨p.kind=9∨p.kind=11∨p.kind=4∨p.kind=5 from Or.inr (Or.inr (Or.inl k11)))];rfl
    ·rw[kD k11];by_cases k4:p.kind=4
     ·rw[kC k4,kC (show p.kind=2∨p.kind=9∨p.kind=11∨p.kind=4∨p.kind=5 from Or.inr (Or.inr (Or.inr (Or.inl k4))))];rfl
     ·rw[kD k4,show decide (p.kind=2∨p.kind=9∨p.kind=11∨p.kind=4∨p.kind=5)=decide (p.kind=5)from decide_eq_decide.2 (by omega)];cases decide (p.kind=5)<;>rfl
 unfold gN;by_cases ha:eT p.kind=true
 ·rw[kB ha];rw[ha]at st;obtain⟨h1,e1,x1,f1⟩:=T29 ka ws0 hn (p:=p) (sl.ext x0) ht
  cases hk:okA asked ans s p es with
  |true=>
   rw[hk]at e1;rw[kB rfl];refine⟨h1,?_,x1,fun s' hs=>by cases hs;exact f1 hk⟩;simp only[F16,vW,aAv,e0,WzO.S,st,e1];rfl
  |false=>
   rw[hk]at e1;rw[kA (by decide)];refine⟨h1,?_,x1,fun s' hs=>by cases hs⟩;simp only[F16,vW,aAv,e0,WzO.S,st,e1];rfl
 ·rw[kA ha];have ha':eT p.kind=false:=by cases h:eT p.kind with|false=>rfl|true=>exact absurd h ha
  rw[ha']at st;by_cases hb1:s.begun=false∨0<s.first.code
  ·rw[kB hb1];refine⟨h0,?_,ws0.x,fun s' hs=>by cases hs⟩;simp only[F16,vW,aAv,e0,WzO.S,st,aFv,WzO.n0,Nat.reduceAdd,w29,w26,zY,dc]
   cases hbg:s.begun with
   |false=>rfl
   |true=>
    rw[kC (hb1.resolve_left (fun h=>by rw[hbg]at h;cases h))];rfl
  ·rw[kA hb1];have hbg:s.begun=true:=by cases h:s.begun with|true=>rfl|false=>exact absurd (Or.inl h) hb1
   rw[hbg]at w29;rw[kD (show¬0<s.first.code from fun h=>hb1 (Or.inr h))]at dc;by_cases k3:p.kind=3
   ·rw[kC k3]at d3;rw[kB k3];obtain⟨h1,e1,x1,f1⟩:=cJx ka ws0 hn (p:=p) sl.cells hl he hb;refine⟨h1,?_,x1,fun s' hs=>f1 s' hs⟩;simp only[F16,vW,aAv,e0,WzO.S,st,aFv,WzO.n0,Nat.reduceAdd,w29,w26,zY,dc,aEy,aKr,l0,aKq,zQ,d3,cBp,la,e1];rfl
   ·rw[kD k3]at d3;rw[kA k3];obtain⟨h1,e1,g1,x1,n1⟩:=dN (i:=30) (v:=.bool false) (cs':=wC asked va vm s.packets s.told s.first fw s.begun false (iF c1 c3)) g0 rfl (by rw[show(wC asked va vm s.packets s.told s.first fw s.begun s.again (iF c1 c3)).length=32 from rfl];omega) rfl;have ws1:WS B h1 wp c1 c3 va vm asked ans ms {s with again:=false}:=ws0.put x1 rfl ⟨fw,g1⟩;by_cases k6:p.kind=6
    ·rw[kC k6]at d6;rw[kB k6];refine⟨h0,?_,ws0.x,fun s' hs=>by cases hs;exact ws0⟩;simp only[F16,vW,aAv,e0,WzO.S,st,aFv,WzO.n0,Nat.reduceAdd,w29,w26,zY,dc,aEy,aKr,l0,aKq,zQ,d3,aRx,d6,cBq];rfl
    ·rw[kD k6]at d6;rw[kA k6];by_cases k7:p.kind=7
     ·rw[kC k7]at d7;rw[kB (Or.inl k7)];refine⟨h1,?_,ws1.x,fun s' hs=>by cases hs;exact ws1⟩;simp only[F16,vW,aAv,e0,WzO.S,st,aFv,WzO.n0,Nat.reduceAdd,w29,w26,zY,dc,aEy,aKr,l0,aKq,zQ,d3,aRx,d6,aXs,d7,e1];rfl
     ·rw[kD k7]at d7;by_cases k13:p.kind=13
      ·rw[kC k13]at d13;rw[kB (Or.inr k13)];refine⟨h1,?_,ws1.x,fun s' hs=>by cases hs;exact ws1⟩;simp only[F16,vW,aAv,e0,WzO.S,st,aFv,WzO.n0,Nat.reduceAdd,w29,w26,zY,dc,aEy,aKr,l0,aKq,zQ,d3,aRx,d6,aXs,d7,d13,e1];rfl
      ·rw[kD k13]at d13;rw[kA (fun h=>h.elim k7 k13)];refine⟨h0,?_,ws0.x,fun s' hs=>by cases hs⟩;simp only[F16,vW,aAv,e0,WzO.S,st,aFv,WzO.n0,Nat.reduceAdd,w29,w26,zY,dc,aEy,aKr,l0,aKq,zQ,d3,aRx,d6,aXs,d7,d13,cBo];rfl
end
end Go.Proofs.YtohapjojkjjflaaGreatDoor.Wz

set_option maxRecDepth 100000
namespace Go.Proofs.YtohapjojkjjflaaGreatDoor.Wz
open Tryz (prog)
open Go Go.AM WzA WzB WzD
open Go.AM.Pk (K0 K1 K2 K3 K4 K5 K6 K7 K8 K10 K11)
def cF (f:Nt→Bool):List Nt→Nat→Option Nat
 |[],_=>none
 |n::r,i=>if f n then some i else cF f r (i+1)
def typ (ts:List UInt8)(k:Nat):Bool:=ts.any fun t=>decide (t.toNat=k)
def cJ (kind:Nat)(conn:Int)(ts client:List UInt8)(whose:Bool)(n:Nt):Bool:=(if n.kind=kind∧n.conn=conn∧(whose=true→n.client=client)then typ ts n.pk.1.kind else false)
def gH (client:List UInt8):List Nt→Nat→Nat→Nat
 |[],_,f=>f
 |n::r,i,f=>gH client r (i+1) (if n.kind=2∧n.client=client∧n.pk.1.kind=1∧n.present=false then i else f)
def aFd (conn:Int)(l:List Nt):List Ms:=
 match cF (cJ 1 conn [1] [] false) l 0 with
 |none=>[]
 |some a=>
  match cF (cJ 2 conn [1] ((l[a]?.map (·.client)).getD []) true) l 0 with
  |none=>[]
  |some b=>cN ((l[a]?.map (·.client)).getD []) ((l.drop (gH ((l[a]?.map (·.client)).getD []) (l.take (b+1)) 0 0)).take (((cF (cJ 2 conn [14,0] ((l[a]?.map (·.client)).getD []) true) (l.drop (b+1)) (b+1)).getD l.length)-gH ((l[a]?.map (·.client)).getD []) (l.take (b+1)) 0 0))
def jD (l row:List Ms):Bool:=(List.range (row.length+1)).any fun s=>decide (s+l.length≤row.length)&&decide ((row.drop s).take l.length=l)
theorem fK (f:Nt→Bool):∀(l:List Nt) (i j:Nat),cF f l i=some j→i≤j∧j<i+l.length
 |[],i,j,h=>by cases h
 |n::r,i,j,h=>by
  unfold cF at h;split at h
  ·cases h;simp only[kM];omega
  ·have:=fK f r (i+1) j h;simp only[kM];omega
theorem rL (client:List UInt8):∀(l:List Nt) (i f:Nat),f≤i→gH client l i f≤i+l.length-1∨gH client l i f=f
 |[],i,f,h=>Or.inr rfl
 |n::r,i,f,h=>by
  unfold gH;by_cases c:n.kind=2∧n.client=client∧n.pk.1.kind=1∧n.present=false
  ·rw[kB c];have:=rL client r (i+1) i (by omega);simp only[kM];omega
  ·rw[kA c];have:=rL client r (i+1) f (by omega);simp only[kM];omega
section
variable {Q:Orc}(ka:KnA Q){h:H}
include ka
theorem U31 {n:Nat}(hn:300≤n){x0:Value}{l:List Nt}(r:NIn h x0 l){i:Nat}(hi:i≤l.length)(kind:Nat)(conn:Int){ts:List UInt8}(hts:ts.length≤10)(client:List UInt8)(whose:Bool):
 aA prog 2 Q n 31 [x0,.int .i64 (i:Int),.int .u8 (kind:Int),.int .i64 conn,str ts,str client,.bool whose] h=some (.int .i64 (bI (cF (cJ kind conn ts client whose) (l.drop i) i)),h):=by
 obtain⟨n,rfl⟩:∃m,n=m+1:=⟨n-1,by omega⟩;rw[bWm Q n _ _ _ _ _ _ _ h (ka.fr 31 _ (by decide))];have hlen:=r.len;have hl:=r.le;have lp:∀(C:CF) (L d i m:Nat) (β:Type) (kr:K1 β) (kx:K0 β),i+d=l.length→d<m→30≤L→
  aKz C L kr kx m (.int .i64 (i:Int)) (str ts) x0 (str client) (.bool whose) (.int .i64 conn) (.int .u8 (kind:Int)) h=match cF (cJ kind conn ts client whose) (l.drop i) i with|some j=>kr (.int .i64 (j:Int)) h|none=>kx h:=by
  intro C L d
  induction d with
  |zero=>
   intro i m β kr kx hi hm _;obtain⟨m,rfl⟩:∃r,m=r+1:=⟨m-1,by omega⟩;have dl:decide ((i:Int)<(l.length:Int))=false:=by rw[kI];omega
   rw[pL (by omega)];simp only[aKz,aXc,hlen,WzO.S,zZ,dl,cF]
  |succ d ih=>
   intro i m β kr kx hi hm hL;obtain⟨m,rfl⟩:∃r,m=r+1:=⟨m-1,by omega⟩;have dl:decide ((i:Int)<(l.length:Int))=true:=by rw[kJ];omega
   obtain⟨nt,hni⟩:∃n,l[i]?=some n:=⟨_,kN (by omega)⟩;obtain⟨id,off,ix,ld⟩:=nK r hni;obtain⟨lf,_,_,_⟩:=ld h (Ext.refl h);have l0:A.load false 1 (.pointer (some ⟨id,off+0,none⟩)) h=some (.int .u8 (nt.kind:Int)):=lf 0 _ rfl;have l2:A.load false 1 (.pointer (some ⟨id,off+2,none⟩)) h=some (.int .i64 nt.conn):=lf 2 _ rfl;have l3:A.load false 1 (.pointer (some ⟨id,off+3,none⟩)) h=some (str nt.client):=lf 3 _ rfl;have l4:A.load false 1 (.pointer (some ⟨id,off+4,none⟩)) h=some (.int .u8 (nt.pk.1.kind:Int)):=lf 4 _ rfl;rw[Nat.add_zero]at l0;have d0:decide ((nt.kind:Int)=(kind:Int))=decide (nt.kind=kind):=deN _ _;have sn:=dS nt.client client;have wr:A.zA prog .add 3 (.int .i64 (i:Int)) (.int .i64 1)=some (.int .i64 ((i+1:Nat):Int)):=by rw[aG,aI (by omega)]
   have hd:l.drop i=nt::l.drop (i+1):=aQ hni;have nx:=ih (i+1) m β kr kx (by omega) (by omega) hL;have ty:∀(us:List UInt8) (j k:Nat) (kr:K1 β) (kx2:K7 β),ts.drop j=us→j≤ts.length→us.length<k→aEj C L kr kx2 k (.int .i64 (j:Int)) (.int .i64 (i:Int)) (str ts) x0 (str client) (.bool whose) (.int .i64 conn) (.int .u8 (kind:Int)) h=if typ us nt.pk.1.kind=true then kr (.int .i64 (i:Int)) h else kx2 (.int .i64 (i:Int)) (str ts) x0 (str client) (.bool whose) (.int .i64 conn) (.int .u8 (kind:Int)) h:=by
    intro us
    induction us with
    |nil=>
     intro j k kr kx2 e hj hk;have:=oU e;obtain⟨k,rfl⟩:∃r,k=r+1:=⟨k-1,by omega⟩;have dt:decide ((j:Int)<(ts.length:Int))=false:=by rw[kI];omega
     simp only[aEj,aRh,qJ,WzO.S,zZ,dt];rfl
    |cons t us ihu=>
     intro j k kr kx2 e hj hk;obtain⟨g1,g2,g3⟩:=tF e;obtain⟨k,rfl⟩:∃r,k=r+1:=⟨k-1,by omega⟩;have dt:decide ((j:Int)<(ts.length:Int))=true:=by rw[kJ];omega
     have ixs:=ixS g1;have de:decide ((t.toNat:Int)=(nt.pk.1.kind:Int))=decide (t.toNat=nt.pk.1.kind):=deN _ _;have wj:A.zA prog .add 3 (.int .i64 (j:Int)) (.int .i64 1)=some (.int .i64 ((j+1:Nat):Int)):=by rw[aG,aI (by omega)]
     have ht:typ (t::us) nt.pk.1.kind=(decide (t.toNat=nt.pk.1.kind)||typ us nt.pk.1.kind):=rfl;rw[ht];by_cases c:t.toNat=nt.pk.1.kind
     ·rw[kC c]at de⊢;simp only[aEj,aRh,qJ,WzO.S,zZ,dt,ixs,ix,Nat.add_zero,l4,zQ,de,Bool.true_or,if_true]
     ·rw[kD c]at de⊢;simp only[aEj,aRh,qJ,WzO.S,zZ,dt,ixs,ix,Nat.add_zero,l4,zQ,de,wj,Bool.false_or];exact ihu (j+1) k kr kx2 g2 (by omega) (by simp only[kM]at hk;omega)
   have ty0:=fun kr kx2=>ty ts 0 L kr kx2 rfl (pQ _) (by omega);have ty0:∀kr kx2,aEj C L kr kx2 L (.int .i64 0) (.int .i64 (i:Int)) (str ts) x0 (str client) (.bool whose) (.int .i64 conn) (.int .u8 (kind:Int)) h=_:=ty0;have ask:∀(kx1 kn:K7 β),aSk h x0 (.int .u8 (kind:Int)) (.int .i64 conn) (str ts) (str client) (.bool whose) (.int .i64 (i:Int)) kx1 kn=if nt.kind=kind∧nt.conn=conn∧(whose=true→nt.client=client)then kn (.int .i64 (i:Int)) (str ts) x0 (str client) (.bool whose) (.int .i64 conn) (.int .u8 (kind:Int)) h else kx1 (.int .i64 (i:Int)) (str ts) x0 (str client) (.bool whose) (.int .i64 conn) (.int .u8 (kind:Int)) h:=by
    intro kx1 kn;simp only[aSk,cAf,ix,WzO.S,Nat.add_zero,l0,aK,d0,l2,l3,sn,cAe];by_cases c1:nt.kind=kind
    ·rw[kC c1];by_cases c2:nt.conn=conn
     ·rw[kC c2]
      cases whose with
      |false=>rw[kB ⟨c1,c2,fun h=>by cases h⟩];rfl
      |true=>
       by_cases c3:nt.client=client
       ·rw[kC c3,kB ⟨c1,c2,fun _=>c3⟩];rfl
       ·rw[kD c3,kA (fun h=>c3 (h.2.2 rfl))];rfl
     ·rw[kD c2,kA (fun h=>c2 h.2.1)];rfl
    ·rw[kD c1,kA (fun h=>c1 h.1)];rfl
   have fi:cF (cJ kind conn ts client whose) (l.drop i) i=if cJ kind conn ts client whose nt=true then some i else cF (cJ kind conn ts client whose) (l.drop (i+1)) (i+1):=by rw[hd];rfl
   rw[fi];simp only[aKz,aXc,hlen,WzO.S,zZ,dl,aTa,ask,cAd,ty0,bFr,wr];unfold cJ;by_cases c1:nt.kind=kind∧nt.conn=conn∧(whose=true→nt.client=client)
   ·rw[kB c1,kB c1];by_cases c2:typ ts nt.pk.1.kind=true
    ·rw[kB c2,kB c2]
    ·rw[kA c2,kA c2];exact nx
   ·rw[kA c1,kA c1,kA (by decide)];exact nx
 simp only[F31,bAk,cAh,aZk,cAg,cAc,WzO.S];refine(lp (aA prog 2 Q n) n (l.length-i) i n _ _ _ (by omega) (by omega) (by omega)).trans ?_;cases cF (cJ kind conn ts client whose) (l.drop i) i<;>rfl
theorem U32 {n:Nat}(hn:1≤n){p:Pq}{w:Value}(hw:aJ w=some [w]):∃h',aA prog 2 Q n 32 [.agg ⟨p.cells w⟩] h=some (.bool (eT p.kind),h')∧Ext h h':=by
 obtain⟨n,rfl⟩:∃m,n=m+1:=⟨n-1,by omega⟩;rw[bWl Q n _ h (ka.fr 32 _ (by decide))];obtain⟨h0,e0,b0,x0,_⟩:=cB p hw h;obtain⟨⟨l0,_⟩,_⟩:=b0.lds;refine⟨h0,?_,x0⟩;have d2:decide ((p.kind:Int)=2)=decide (p.kind=2):=deN _ 2;have d9:decide ((p.kind:Int)=9)=decide (p.kind=9):=deN _ 9;have d11:decide ((p.kind:Int)=11)=decide (p.kind=11):=deN _ 11;have d4:decide ((p.kind:Int)=4)=decide (p.kind=4):=deN _ 4;have d5:decide ((p.kind:Int)=5)=decide (p.kind=5):=deN _ 5;unfold eT;simp only[F32,bHt,e0,WzO.S,WzO.n0,l0,zQ,d2,d9,d11,d4,d5];by_cases k2:p.kind=2
 ·rw[kC k2,kC (show p.kind=2∨p.kind=9∨p.kind=11∨p.kind=4∨p.kind=5 from Or.inl k2)];rfl
 ·rw[kD k2];by_cases k9:p.kind=9
  ·rw[kC k9,kC (show p.kind=2∨p.kind=9∨p.kind=11∨p.kind=4∨p.kind=5 from Or.inr (Or.inl k9))];rfl
  ·rw[kD k9];by_cases k11:p.kind=11
   ·rw[kC k11,kC (show p.kind=2∨p.kind=9∨p.kind=11∨p.kind=4∨p.kind=5 from Or.inr (Or.inr (Or.inl k11)))];rfl
   ·rw[kD k11];by_cases k4:p.kind=4
    ·rw[kC k4,kC (show p.kind=2∨p.kind=9∨p.kind=11∨p.kind=4∨p.kind=5 from Or.inr (Or.inr (Or.inr (Or.inl k4))))];rfl
    ·rw[kD k4,show decide (p.kind=2∨p.kind=9∨p.kind=11∨p.kind=4∨p.kind=5)=decide (p.kind=5)from decide_eq_decide.2 (by omega)];rfl
theorem U35 {n:Nat}(hn:1≤n){p:Pq}{w:Value}(hw:aJ w=some [w]):∃h',aA prog 2 Q n 35 [.agg ⟨p.cells w⟩] h=some (.agg ⟨msC (bF p)⟩,h')∧Ext h h':=by
 obtain⟨n,rfl⟩:∃m,n=m+1:=⟨n-1,by omega⟩;rw[bWi Q n _ h (ka.fr 35 _ (by decide))];obtain⟨h0,e0,b0,x0,_⟩:=cB p hw h;obtain⟨h1,hh1⟩:∃h1,h1=h0.push (.cells WzD.Z35L (some 0)):=⟨_,rfl⟩;have e1:A.zJ 4 WzD.Z35 h0=some (aB h0.next,h1):=by rw[hh1];rfl
 have x1:Ext h0 h1:=by rw[hh1];exact Ext.push h0 _
 have g1:h1.get h0.next=some (.cells WzD.Z35L (some 0)):=by rw[hh1,H.get_push,kB rfl]
 obtain⟨h2,hh2⟩:∃h2,h2=h1.put h0.next (.cells (msC (bF p)) (some 0)):=⟨_,rfl⟩;have hcl:aJ (.agg ⟨msC (bF p)⟩)=some (msC (bF p)):=rfl;have e2:A.store 4 (aB h0.next) (.agg ⟨msC (bF p)⟩) h1=some h2:=by rw[qU,g1,hcl,hh2];rfl
 have x2:Ext h0 h2:=by rw[hh2];exact x1.put _ _ (kF _)
 have la:A.load true 4 (aB h0.next) h2=some (.agg ⟨msC (bF p)⟩):=by rw[bJ,hh2,H.get_put,kB rfl];rfl
 obtain⟨⟨_,_,l2,l3,_,l5,l6,_⟩,_⟩:=(b0.ext x1).lds;have bz:A.zF WzD.Z35L [(0,1,str p.topic),(1,1,str p.payload),(2,1,.int .u8 (p.qos:Int)),(3,1,.bool p.retain)]=some (.agg ⟨msC (bF p)⟩):=by kernel_rfl
 refine⟨h2,?_,x0.trans x2⟩;simp only[F35,bHs,e0,WzO.S,e1,WzO.n0,l5,l6,l2,l3,bz,e2,la];rfl
theorem aCv {l row:List Ms}{s:Nat}:∀(d:Nat),s+d=row.length+1→(((List.range (row.length+1)).drop s).any fun s=>decide (s+l.length≤row.length)&&decide ((row.drop s).take l.length=l))=if s+l.length≤row.length then(decide ((row.drop s).take l.length=l)||((List.range (row.length+1)).drop (s+1)).any fun s=>decide (s+l.length≤row.length)&&decide ((row.drop s).take l.length=l))else false:=by
 have _:=ka;intro d hd;by_cases c:s+l.length≤row.length
 ·rw[kB c,List.drop_eq_getElem_cons (by rw[List.length_range];omega),List.any_cons,List.getElem_range,kC c,Bool.true_and]
 ·rw[kA c,List.any_eq_false];intro x hx;obtain⟨i,hi⟩:=List.mem_iff_getElem?.1 hx;rw[pX]at hi;have hlt:=(List.getElem?_eq_some_iff.1 hi).1;rw[List.length_range]at hlt;rw[List.getElem?_range hlt]at hi;cases hi;rw[kD (by omega)];simp
theorem U36 {n:Nat}(hn:5000≤n){v1 v2:Value}{l row:List Ms}(s1:SliceE 4 h v1 (l.map msC))(s2:SliceE 4 h v2 (row.map msC))(h1:l.length≤4000)(h2:row.length≤400):aA prog 2 Q n 36 [v1,v2] h=some (.bool (jD l row),h):=by
 obtain⟨n,rfl⟩:∃m,n=m+1:=⟨n-1,by omega⟩;rw[bWh Q n _ _ h (ka.fr 36 _ (by decide))];have ln1:A.zG v1=some (.int .i64 (l.length:Int)):=by have:=s1.len.1;rw[pA]at this;exact this
 have ln2:A.zG v2=some (.int .i64 (row.length:Int)):=by have:=s2.len.1;rw[pA]at this;exact this
 have inn:∀(C:CF) (L s:Nat) (β:Type) (kx2:K4 β),s+l.length≤row.length→∀(d k m:Nat) (b:Bool),k+d=l.length→d<m→aEi C L kx2 m (.int .i64 (k:Int)) (.bool b) (.int .i64 (s:Int)) v1 v2 h=kx2 (.bool (b&&decide ((row.drop (s+k)).take d=l.drop k))) (.int .i64 (s:Int)) v1 v2 h:=by
  intro C L s β kx2 hs d
  induction d with
  |zero=>
   intro k m b hk hm;obtain⟨m,rfl⟩:∃r,m=r+1:=⟨m-1,by omega⟩;have dl:decide ((k:Int)<(l.length:Int))=false:=by rw[kI];omega
   rw[pL (show l.length≤k by omega),List.take_zero,kC rfl,Bool.and_true];simp only[aEi,aQz,ln1,WzO.S,zZ,dl]
  |succ d ih=>
   intro k m b hk hm;obtain⟨m,rfl⟩:∃r,m=r+1:=⟨m-1,by omega⟩;have dl:decide ((k:Int)<(l.length:Int))=true:=by rw[kJ];omega
   have wk:A.zA prog .add 3 (.int .i64 (k:Int)) (.int .i64 1)=some (.int .i64 ((k+1:Nat):Int)):=by rw[aG,aI (by omega)]
   obtain⟨a,ha⟩:∃a,l[k]?=some a:=⟨_,kN (by omega)⟩;obtain⟨c,hc⟩:∃c,row[s+k]?=some c:=⟨_,kN (by omega)⟩;have hda:l.drop k=a::l.drop (k+1):=aQ ha;have hdc:row.drop (s+k)=c::row.drop (s+(k+1)):=aQ hc;rw[hda,hdc,List.take_succ_cons]
   cases b with
   |false=>
    have:=ih (k+1) m false (by omega) (by omega);simp only[aEi,aQz,ln1,WzO.S,zZ,dl,aWv,wk,this,Bool.false_and]
   |true=>
    obtain⟨id1,off1,ix1,_,_,ld1⟩:=nN s1 (i:=k) (e:=msC a) (by rw[kX,ha];rfl) .i64;obtain⟨_,la⟩:=ld1 h rfl;have la:A.load true 4 (.pointer (some ⟨id1,off1,none⟩)) h=some (.agg ⟨msC a⟩):=la 0 4 (by omega);obtain⟨id2,off2,ix2,_,_,ld2⟩:=nN s2 (i:=s+k) (e:=msC c) (by rw[kX,hc];rfl) .i64;obtain⟨_,lb⟩:=ld2 h rfl;have lb:A.load true 4 (.pointer (some ⟨id2,off2,none⟩)) h=some (.agg ⟨msC c⟩):=lb 0 4 (by omega);have wsk:A.zA prog .add 3 (.int .i64 (s:Int)) (.int .i64 (k:Int))=some (.int .i64 ((s+k:Nat):Int)):=iZ (by omega);have eq:=uP a c;have:=ih (k+1) m (decide (a=c)) (by omega) (by omega);have hh:(true&&decide (c::(row.drop (s+(k+1))).take d=a::l.drop (k+1)))=(decide (a=c)&&decide ((row.drop (s+(k+1))).take d=l.drop (k+1))):=by
     rw[Bool.true_and,Bool.eq_iff_iff];simp only[pI,kO,List.cons.injEq];exact⟨fun h=>⟨h.1.symm,h.2⟩,fun h=>⟨h.1.symm,h.2⟩⟩
    rw[hh];simp only[aEi,aQz,ln1,WzO.S,zZ,dl,aWv,ix1,la,wsk,ix2,lb,eq,wk,this]
 have out:∀(C:CF) (L d s m:Nat) (β:Type) (kr:K1 β) (kx:K0 β),s+d=row.length+1→d<m→l.length<L→aGe C L kr kx m (.int .i64 (s:Int)) v1 v2 h=if(((List.range (row.length+1)).drop s).any fun s=>decide (s+l.length≤row.length)&&decide ((row.drop s).take l.length=l))=true then kr (.bool true) h else kx h:=by
  intro C L d
  induction d with
  |zero=>
   intro s m β kr kx hs hm hL;obtain⟨m,rfl⟩:∃r,m=r+1:=⟨m-1,by omega⟩;have wsl:A.zA prog .add 3 (.int .i64 (s:Int)) (.int .i64 (l.length:Int))=some (.int .i64 ((s+l.length:Nat):Int)):=iZ (by omega);have dl:decide (((s+l.length:Nat):Int)≤(row.length:Int))=false:=by rw[kI];omega
   rw[pL (by rw[List.length_range];omega)];simp only[aGe,aRa,ln1,WzO.S,wsl,ln2,bK,dl];rfl
  |succ d ih=>
   intro s m β kr kx hs hm hL;obtain⟨m,rfl⟩:∃r,m=r+1:=⟨m-1,by omega⟩;have wsl:A.zA prog .add 3 (.int .i64 (s:Int)) (.int .i64 (l.length:Int))=some (.int .i64 ((s+l.length:Nat):Int)):=iZ (by omega);have dl:decide (((s+l.length:Nat):Int)≤(row.length:Int))=decide (s+l.length≤row.length):=aMh _ _;rw[aCv ka (d+1) hs];by_cases c:s+l.length≤row.length
   ·rw[kC c]at dl;rw[kB c];have ws:A.zA prog .add 3 (.int .i64 (s:Int)) (.int .i64 1)=some (.int .i64 ((s+1:Nat):Int)):=by rw[aG,aI (by omega)]
    have nx:=ih (s+1) m β kr kx (by omega) (by omega) hL;have i0:=fun kx2=>inn C L s β kx2 c l.length 0 L true (by omega) hL;have i0:∀kx2,aEi C L kx2 L (.int .i64 0) (.bool true) (.int .i64 (s:Int)) v1 v2 h=_:=i0;simp only[Nat.add_zero,List.drop_zero,Bool.true_and]at i0;simp only[aGe,aRa,ln1,WzO.S,wsl,ln2,bK,dl,aTb,bZl,aYw,bZk,i0,bZj,bFh,ws,nx];cases decide ((row.drop s).take l.length=l)<;>rfl
   ·rw[kD c]at dl;rw[kA c];simp only[aGe,aRa,ln1,WzO.S,wsl,ln2,bK,dl];rfl
 have o:=out (aA prog 2 Q n) n (row.length+1) 0 n _ (fun x4 h=>some (x4,h)) (fun h=>some (.bool false,h)) (by omega) (by omega) (by omega);rw[List.drop_zero]at o;simp only[F36,bAi,bZn,aZm,bZm,bZi,WzO.S];refine Eq.trans o ?_;show(if jD l row=true then _ else _)=_
 cases jD l row<;>rfl
end
end Go.Proofs.YtohapjojkjjflaaGreatDoor.Wz

set_option maxRecDepth 100000
namespace Go.Proofs.YtohapjojkjjflaaGreatDoor.Wz
open Tryz (prog)
open Go Go.AM WzA WzB WzD
open Go.AM.Pk (K0 K1 K2 K3 K4 K5 K6 K7 K8 K10 K11)
section
variable {Q:Orc}(ka:KnA Q){h:H}
include ka
theorem bJg {x0:Value}{l:List Nt}(r:NIn h x0 l)(client:List UInt8)(C:CF)(L:Nat){b:Nat}(hb:b<l.length)(x9 x5:Value):∀(d i f m:Nat) (β:Type) (kx:K5 β),i+d=b+1→d<m→
 aGg C L kx m (.int .i64 (b:Int)) (.int .i64 (i:Int)) (.int .i64 (f:Int)) x9 x0 (str client) x5 h=kx (.int .i64 (gH client ((l.take (b+1)).drop i) i f:Int)) x9 x0 (str client) x5 h:=by
 have _:=ka;have hl:=r.le;intro d
 induction d with
 |zero=>
  intro i f m β kx hi hm;obtain⟨m,rfl⟩:∃r,m=r+1:=⟨m-1,by omega⟩;have dl:decide ((i:Int)≤(b:Int))=false:=by rw[kI];omega
  rw[pL (by rw[kT];omega)];simp only[aGg,aWx,bK,dl,WzO.S,gH]
 |succ d ih=>
  intro i f m β kx hi hm;obtain⟨m,rfl⟩:∃r,m=r+1:=⟨m-1,by omega⟩;have dl:decide ((i:Int)≤(b:Int))=true:=by rw[kJ];omega
  obtain⟨nt,hni⟩:∃n,l[i]?=some n:=⟨_,kN (by omega)⟩;obtain⟨id,off,ix,ld⟩:=nK r hni;obtain⟨lf,_,_,_⟩:=ld h (Ext.refl h);have l0:A.load false 1 (.pointer (some ⟨id,off+0,none⟩)) h=some (.int .u8 (nt.kind:Int)):=lf 0 _ rfl;have l3:A.load false 1 (.pointer (some ⟨id,off+3,none⟩)) h=some (str nt.client):=lf 3 _ rfl;have l4:A.load false 1 (.pointer (some ⟨id,off+4,none⟩)) h=some (.int .u8 (nt.pk.1.kind:Int)):=lf 4 _ rfl;have l33:A.load false 1 (.pointer (some ⟨id,off+33,none⟩)) h=some (.bool nt.present):=lf 33 _ rfl;rw[Nat.add_zero]at l0;have d2:decide ((nt.kind:Int)=2)=decide (nt.kind=2):=deN _ 2;have d1:decide ((nt.pk.1.kind:Int)=1)=decide (nt.pk.1.kind=1):=deN _ 1;have se:=cV nt.client client;have wr:A.zA prog .add 3 (.int .i64 (i:Int)) (.int .i64 1)=some (.int .i64 ((i+1:Nat):Int)):=by rw[aG,aI (by omega)]
  have hd:(l.take (b+1)).drop i=nt::(l.take (b+1)).drop (i+1):=aQ (by rw[pW,kB (by omega)];exact hni);have ask:∀kn:K8 β,bFl h x0 x5 (str client) (.int .i64 (b:Int)) x9 (.int .i64 (f:Int)) (.int .i64 (i:Int)) kn=kn (.bool (decide (nt.kind=2∧nt.client=client∧nt.pk.1.kind=1∧nt.present=false))) (.int .i64 (i:Int)) (.int .i64 (b:Int)) (.int .i64 (f:Int)) x9 x0 (str client) x5 h:=by
   intro kn;simp only[bFl,ix,WzO.S,Nat.add_zero,l0,zQ,d2,l3,se,l4,d1,l33];by_cases c1:nt.kind=2
   ·rw[kC c1];by_cases c2:nt.client=client
    ·rw[kC c2];by_cases c3:nt.pk.1.kind=1
     ·rw[kC c3]
      cases c4:nt.present with
      |false=>rw[kC (show nt.kind=2∧nt.client=client∧nt.pk.1.kind=1∧false=false from⟨c1,c2,c3,rfl⟩)];rfl
      |true=>rw[kD (show¬(nt.kind=2∧nt.client=client∧nt.pk.1.kind=1∧true=false)from fun h=>by cases h.2.2.2)];rfl
     ·rw[kD c3,kD (show¬(nt.kind=2∧nt.client=client∧nt.pk.1.kind=1∧nt.present=false)from fun h=>c3 h.2.2.1)];rfl
    ·rw[kD c2,kD (show¬(nt.kind=2∧nt.client=client∧nt.pk.1.kind=1∧nt.present=false)from fun h=>c2 h.2.1)];rfl
   ·rw[kD c1,kD (show¬(nt.kind=2∧nt.client=client∧nt.pk.1.kind=1∧nt.present=false)from fun h=>c1 h.1)];rfl
  rw[hd];have hf:gH client (nt::(l.take (b+1)).drop (i+1)) i f=gH client ((l.take (b+1)).drop (i+1)) (i+1) (if nt.kind=2∧nt.client=client∧nt.pk.1.kind=1∧nt.present=false then i else f):=rfl
  rw[hf];simp only[aGg,aWx,bK,dl,WzO.S,aSp,ask,bZq,bFk,wr];by_cases c:nt.kind=2∧nt.client=client∧nt.pk.1.kind=1∧nt.present=false
  ·rw[kC c,kB c,cond_true];exact ih (i+1) i m β kx (by omega) (by omega)
  ·rw[kD c,kA c,cond_false];exact ih (i+1) f m β kx (by omega) (by omega)
theorem bJf {B:H}{x0:Value}{l:List Nt}(r:NIn B x0 l)(client:List UInt8)(C:CF)(L:Nat){e:Nat}(he:e≤l.length):∀(d i m:Nat) (h:H) (v:Value) (acc:List Ms),i+d=e→d<m→acc.length+d≤1000→Ext B h→Vec 4 h v (acc.map msC)→(∀j,sid v=some j→B.next≤j)→
 ∃h' v',(∀(β:Type) (kx:K1 β),aGf C L kx m (.int .i64 (e:Int)) (.int .i64 (i:Int)) x0 (str client) v h=kx v' h')∧Ext B h'∧Vec 4 h' v' ((acc++cN client ((l.drop i).take d)).map msC)∧(∀j,sid v'=some j→B.next≤j):=by
 have _:=ka;have hl:=r.le;intro d
 induction d with
 |zero=>
  intro i m h v acc hi hm ha x vv sv;obtain⟨m,rfl⟩:∃r,m=r+1:=⟨m-1,by omega⟩;have dl:decide ((i:Int)<(e:Int))=false:=by rw[kI];omega
  refine⟨h,v,fun β kx=>?_,x,?_,sv⟩
  ·simp only[aGf,aRb,zZ,dl,WzO.S]
  ·rw[List.take_zero,show cN client []=[]from rfl,List.append_nil];exact vv
 |succ d ih=>
  intro i m h v acc hi hm ha x vv sv;obtain⟨m,rfl⟩:∃r,m=r+1:=⟨m-1,by omega⟩;have dl:decide ((i:Int)<(e:Int))=true:=by rw[kJ];omega
  obtain⟨n,hni⟩:∃n,l[i]?=some n:=⟨_,kN (by omega)⟩;obtain⟨id,off,ix,ld⟩:=nK r hni;obtain⟨lf,_,_,lm⟩:=ld h x;have l0:A.load false 1 (.pointer (some ⟨id,off+0,none⟩)) h=some (.int .u8 (n.kind:Int)):=lf 0 _ rfl;have l3:A.load false 1 (.pointer (some ⟨id,off+3,none⟩)) h=some (str n.client):=lf 3 _ rfl;rw[Nat.add_zero]at l0;have se:=cV n.client client;have d6:decide ((n.kind:Int)=6)=decide (n.kind=6):=deN _ 6;have d8:decide ((n.kind:Int)=8)=decide (n.kind=8):=deN _ 8;have wr:A.zA prog .add 3 (.int .i64 (i:Int)) (.int .i64 1)=some (.int .i64 ((i+1:Nat):Int)):=by rw[aG,aI (by omega)]
  have hd:(l.drop i).take (d+1)=n::(l.drop (i+1)).take d:=by rw[aQ hni,List.take_succ_cons]
  have q:∀(β:Type) (kn:K6 β),bFj h x0 v (str client) (.int .i64 (e:Int)) (.int .i64 (i:Int)) kn=kn (.bool (decide (n.client=client∧(n.kind=6∨n.kind=8)))) (.int .i64 (i:Int)) (.int .i64 (e:Int)) x0 (str client) v h:=by
   intro β kn;simp only[bFj,ix,WzO.S,Nat.add_zero,l3,se,l0,zQ,d6,d8];by_cases c1:n.client=client
   ·rw[kC c1];by_cases c2:n.kind=6
    ·rw[kC c2,kC (show n.client=client∧(n.kind=6∨n.kind=8)from⟨c1,Or.inl c2⟩)];rfl
    ·rw[kD c2,show decide (n.client=client∧(n.kind=6∨n.kind=8))=decide (n.kind=8)from decide_eq_decide.2 ⟨fun h=>h.2.resolve_left c2,fun h=>⟨c1,Or.inr h⟩⟩];rfl
   ·rw[kD c1,kD (show¬(n.client=client∧(n.kind=6∨n.kind=8))from fun h=>c1 h.1)];rfl
  rw[hd];by_cases c:n.client=client∧(n.kind=6∨n.kind=8)
  ·rw[kC c]at q;obtain⟨h3,h4,w1,w2,e3,e4,x4,v4,s4,_⟩:=lN (bs:=40) (z:=WzD.Z35L) (y:=.agg ⟨msC n.msg⟩) (e:=msC n.msg) x vv sv rfl rfl rfl (by omega) (by rw[pA];omega) (by rw[pA];omega);have hm2:cN client (n::(l.drop (i+1)).take d)=n.msg::cN client ((l.drop (i+1)).take d):=by
    unfold cN;rw[List.filter_cons_of_pos (by rw[kC c]),List.map_cons]
   obtain⟨h',v',f1,f2,f3,f4⟩:=ih (i+1) m h4 w2 (acc++[n.msg]) (by omega) (by omega) (by simp;omega) x4 (by rw[List.map_append];exact v4) (fun j hj=>by rw[s4]at hj;have:=x.next;simp only[kE]at hj;omega);refine⟨h',v',fun β kx=>?_,f2,by rw[hm2,List.append_cons];exact f3,f4⟩;simp only[aGf,aRb,zZ,dl,WzO.S,aLg,q,bFi,ix,lm,e3,e4,aWw,wr,f1]
  ·rw[kD c]at q;have hm2:cN client (n::(l.drop (i+1)).take d)=cN client ((l.drop (i+1)).take d):=by
    unfold cN;rw[List.filter_cons_of_neg (by rw[kD c];decide)]
   obtain⟨h',v',f1,f2,f3,f4⟩:=ih (i+1) m h v acc (by omega) (by omega) (by omega) x vv sv;refine⟨h',v',fun β kx=>?_,f2,by rw[hm2];exact f3,f4⟩;simp only[aGf,aRb,zZ,dl,WzO.S,aLg,q,bFi,aWw,wr,f1]
theorem U34 {n:Nat}(hn:400≤n){x0:Value}{l:List Nt}(r:NIn h x0 l)(conn:Int):∃v h',aA prog 2 Q n 34 [x0,.int .i64 conn] h=some (v,h')∧SliceE 4 h' v ((aFd conn l).map msC)∧Ext h h':=by
 obtain⟨n,rfl⟩:∃m,n=m+1:=⟨n-1,by omega⟩;rw[bWj Q n _ _ h (ka.fr 34 _ (by decide))];have hl:=r.le;have ln:=r.len;have a1:=U31 ka (n:=n) (by omega) r (i:=0) (pQ _) 1 conn (ts:=[1]) (by decide) [] false;have a1:aA prog 2 Q n 31 [x0,.int .i64 0,.int .u8 1,.int .i64 conn,.string ⟨⟨[1]⟩⟩,.string ⟨⟨[]⟩⟩,.bool false] h=_:=a1;rw[List.drop_zero]at a1;unfold aFd
 cases ha:cF (cJ 1 conn [1] [] false) l 0 with
 |none=>
  rw[ha]at a1;have d:decide (bI none<0)=true:=rfl;refine⟨aF,h,?_,(Vec.nil 4 h).slice,Ext.refl h⟩;simp only[F34,aMe,aWy,a1,WzO.S,zZ,d]
 |some a=>
  rw[ha]at a1;have hal:=fK _ _ _ _ ha;have d:decide (bI (some a)<0)=false:=by rw[mT];rfl
  obtain⟨na,hna⟩:∃n,l[a]?=some n:=⟨_,kN (by omega)⟩;obtain⟨id,off,ix,ld⟩:=nK r hna;obtain⟨lf,_,_,_⟩:=ld h (Ext.refl h);have l3:A.load false 1 (.pointer (some ⟨id,off+3,none⟩)) h=some (str na.client):=lf 3 _ rfl;have ix:A.zH 35 x0 (.int .i64 (bI (some a)))=_:=ix;have hcl:(l[a]?.map (·.client)).getD []=na.client:=by rw[hna];rfl
  simp only[hcl];have a2:=U31 ka (n:=n) (by omega) r (i:=0) (pQ _) 2 conn (ts:=[1]) (by decide) na.client true;have a2:aA prog 2 Q n 31 [x0,.int .i64 0,.int .u8 2,.int .i64 conn,.string ⟨⟨[1]⟩⟩,str na.client,.bool true] h=_:=a2;rw[List.drop_zero]at a2
  cases hb:cF (cJ 2 conn [1] na.client true) l 0 with
  |none=>
   rw[hb]at a2;have d2:decide (bI none<0)=true:=rfl;refine⟨aF,h,?_,(Vec.nil 4 h).slice,Ext.refl h⟩;simp only[F34,aMe,aWy,a1,WzO.S,zZ,d,ix,l3,a2,d2]
  |some b=>
   rw[hb]at a2;have hbl:=fK _ _ _ _ hb;have d2:decide (bI (some b)<0)=false:=by rw[mT];rfl
   have wb:A.zA prog .add 3 (.int .i64 (bI (some b))) (.int .i64 1)=some (.int .i64 ((b+1:Nat):Int)):=by show A.zA prog .add 3 (.int .i64 (b:Int)) (.int .i64 1)=_;rw[aG,aI (by omega)]
   have a3:=U31 ka (n:=n) (by omega) r (i:=b+1) (by omega) 2 conn (ts:=[14,0]) (by decide) na.client true;have a3:aA prog 2 Q n 31 [x0,.int .i64 ((b+1:Nat):Int),.int .u8 2,.int .i64 conn,.string ⟨⟨[14,0]⟩⟩,str na.client,.bool true] h=_:=a3;obtain⟨E,hE⟩:∃E,E=cF (cJ 2 conn [14,0] na.client true) (l.drop (b+1)) (b+1):=⟨_,rfl⟩;rw[←hE]at a3;have he:E.getD l.length≤l.length∧b+1≤E.getD l.length:=by
    cases hE2:E with
    |none=>exact⟨kF _,by show b+1≤l.length;omega⟩
    |some e=>
     have:=fK _ _ _ _ (hE.symm.trans hE2);rw[kU]at this;exact⟨by show e≤_;omega,by show _≤e;omega⟩
   have st3:∀(kn:K5 (Value×H)),bFm h x0 aF (str na.client) (.int .i64 (bI (some b))) (.int .i64 (bI E)) kn=kn (.int .i64 (bI (some b))) (.int .i64 ((E.getD l.length:Nat):Int)) x0 (str na.client) aF h:=by
    intro kn;simp only[bFm,zZ,mT,WzO.S,ln];cases E<;>rfl
   have fl:=rL na.client (l.take (b+1)) 0 0 (kF _);rw[kT]at fl;have lpa:=fun(β:Type) (kx:K5 β)=>bJg ka r na.client (aA prog 2 Q n) n (b:=b) (by omega) (.int .i64 ((E.getD l.length:Nat):Int)) aF (b+1) 0 0 n β kx (by omega) (by omega);rw[List.drop_zero]at lpa;obtain⟨F,hF⟩:∃F,F=gH na.client (l.take (b+1)) 0 0:=⟨_,rfl⟩;rw[←hF]at lpa fl;have lpa:∀(β:Type) (kx:K5 β),aGg (aA prog 2 Q n) n kx n (.int .i64 (bI (some b))) (.int .i64 0) (.int .i64 0) (.int .i64 ((E.getD l.length:Nat):Int)) x0 (str na.client) aF h=_:=lpa;obtain⟨h',v',f1,f2,f3,f4⟩:=bJf ka r na.client (aA prog 2 Q n) n (e:=E.getD l.length) he.1 (E.getD l.length-F) F n h aF [] (by omega) (by omega) (by simp;omega) (Ext.refl h) (Vec.nil 4 h) (fun j hj=>by cases hj);refine⟨v',h',?_,?_,f2⟩
   ·simp only[F34,aMe,aWy,a1,WzO.S,zZ,d,ix,l3,a2,d2,wb,a3,st3,bZs,aZa,bZr,lpa,aZc,bZp,f1,bZo]
   ·simp only[←hE,←hF];exact f3.slice
theorem cGo {B:H}{x0:Value}{l:List Nt}(r:NIn B x0 l)(conn:Int)(C:CF)(L:Nat)(hL:300≤L):∀(d i m:Nat) (h:H) (v:Value) (acc:List Pq),i+d=l.length→d<m→acc.length≤i→Ext B h→Vec 24 h v (acc.map fun q=>q.cells aF)→(∀j,sid v=some j→B.next≤j)→
 ∃h' v',(∀(β:Type) (kx:K1 β),aGh C L kx m (.int .i64 (i:Int)) (.int .i64 conn) x0 v h=kx v' h')∧Ext B h'∧Vec 24 h' v' ((acc++jS conn (l.take i) (l.drop i)).map fun q=>q.cells aF)∧(∀j,sid v'=some j→B.next≤j):=by
 have _:=ka;have hl:=r.le;have hlen:=r.len;intro d
 induction d with
 |zero=>
  intro i m h v acc hi hm ha x vv sv;obtain⟨m,rfl⟩:∃r,m=r+1:=⟨m-1,by omega⟩;have dl:decide ((i:Int)<(l.length:Int))=false:=by rw[kI];omega
  refine⟨h,v,fun β kx=>?_,x,?_,sv⟩
  ·simp only[aGh,aRg,hlen,WzO.S,zZ,dl]
  ·rw[pL (by omega),show∀p,jS conn p []=[]from fun _=>rfl,List.append_nil];exact vv
 |succ d ih=>
  intro i m h v acc hi hm ha x vv sv;obtain⟨m,rfl⟩:∃r,m=r+1:=⟨m-1,by omega⟩;have dl:decide ((i:Int)<(l.length:Int))=true:=by rw[kJ];omega
  obtain⟨nt,hni⟩:∃n,l[i]?=some n:=⟨_,kN (by omega)⟩;obtain⟨id,off,ix,ld⟩:=nK r hni;obtain⟨_,la,_,_⟩:=ld h x;obtain⟨h1,h2,e1,e2,b2,x2⟩:=uO h nt;have htk:l.take (i+1)=l.take i++[nt]:=by rw[List.take_add_one,hni];rfl
  have hdr:l.drop i=nt::l.drop (i+1):=aQ hni;have hag:jS conn (l.take i) (l.drop i)=(if nt.kind=3∧nt.conn=conn then oH ((cA (l.take i) conn nt.op).getD (zq 0)) nt else[])++jS conn (l.take (i+1)) (l.drop (i+1)):=by rw[hdr,htk];rfl
  have wr:A.zA prog .add 3 (.int .i64 (i:Int)) (.int .i64 1)=some (.int .i64 ((i+1:Nat):Int)):=by rw[aG,aI (by omega)]
  have l0:A.load false 1 (.pointer (some ⟨h.next,0,none⟩)) h2=some (.int .u8 (nt.kind:Int)):=b2.ld rfl;have l2:A.load false 1 (.pointer (some ⟨h.next,2,none⟩)) h2=some (.int .i64 nt.conn):=b2.ld rfl;have d3:decide ((nt.kind:Int)=3)=decide (nt.kind=3):=deN _ 3;have x02:=x.trans x2;have vv2:=vv.ext x2;by_cases c1:nt.kind=3∧nt.conn=conn
  ·rw[kB c1]at hag;have dc:decide (nt.conn=conn)=true:=kC c1.2;obtain⟨h3,hh3⟩:∃h3,h3=h2.push (.cells WzD.Z38L (some 0)):=⟨_,rfl⟩;have e3:A.zJ 24 WzD.Z38 h2=some (aB h2.next,h3):=by rw[hh3];rfl
   have x3:Ext h2 h3:=by rw[hh3];exact Ext.push h2 _
   have b3:BQ h3 h2.next (zq 0) aF:=⟨by rw[hh3,H.get_push,kB rfl];rfl,by rw[hh3];exact Nat.lt_succ_self _⟩;have inn:∀(j m:Nat) (h':H) (q:Pq) (w:Value),j≤i→j<m→Ext h2 h'→BQ h' h2.next q w→q=(cA ((l.take i).drop j) conn nt.op).getD (zq 0)→
    ∃h'' w',(∀(β:Type) (kx:K6 β),aGi C L kx m (.int .i64 ((j:Int)-1)) (aB h.next) (aB h2.next) (.int .i64 (i:Int)) (.int .i64 conn) x0 v h'=kx (aB h.next) (aB h2.next) (.int .i64 (i:Int)) (.int .i64 conn) x0 v h'')∧Ext h2 h''∧BQ h'' h2.next ((cA (l.take i) conn nt.op).getD (zq 0)) w':=by
    intro j
    induction j with
    |zero=>
     intro m h' q w hj hm x' b hq;obtain⟨m,rfl⟩:∃r,m=r+1:=⟨m-1,by omega⟩;have dg:decide ((0:Int)≤((0:Nat):Int)-1)=false:=rfl;rw[List.drop_zero]at hq;refine⟨h',w,fun β kx=>?_,x',by rw[←hq];exact b⟩;simp only[aGi,aRf,bA,dg,WzO.S]
    |succ j ihj=>
     intro m h' q w hj hm x' b hq;obtain⟨m,rfl⟩:∃r,m=r+1:=⟨m-1,by omega⟩;have hje:((j+1:Nat):Int)-1=(j:Int):=by omega
     rw[hje];have dg:decide ((0:Int)≤(j:Int))=true:=by rw[kJ];omega
     obtain⟨nj,hnj⟩:∃n,l[j]?=some n:=⟨_,kN (by omega)⟩;have hdj:(l.take i).drop j=nj::(l.take i).drop (j+1):=aQ (by rw[pW,kB (by omega)];exact hnj);obtain⟨id2,off2,ix2,ld2⟩:=nK r hnj;obtain⟨lf,_,lpk,_⟩:=ld2 h' (x02.trans x');have k0:A.load false 1 (.pointer (some ⟨id2,off2+0,none⟩)) h'=some (.int .u8 (nj.kind:Int)):=lf 0 _ rfl;have k1:A.load false 1 (.pointer (some ⟨id2,off2+1,none⟩)) h'=some (.int .i64 nj.op):=lf 1 _ rfl;have k2:A.load false 1 (.pointer (some ⟨id2,off2+2,none⟩)) h'=some (.int .i64 nj.conn):=lf 2 _ rfl;rw[Nat.add_zero]at k0;have lo:A.load false 1 (.pointer (some ⟨h.next,1,none⟩)) h'=some (.int .i64 nt.op):=(b2.ext x').ld rfl;have dk1:decide ((nj.kind:Int)=1)=decide (nj.kind=1):=deN _ 1;have ws:A.zA prog .sub 3 (.int .i64 (j:Int)) (.int .i64 1)=some (.int .i64 ((j:Int)-1)):=by rw[bP,aS (by omega) (by omega)]
     have ask:∀(β:Type) (kn:K8 β),bFp h' x0 (.int .i64 conn) v (.int .i64 (i:Int)) (aB h.next) (aB h2.next) (.int .i64 (j:Int)) kn=kn (.bool (oM conn nt.op nj)) (.int .i64 (j:Int)) (aB h.next) (aB h2.next) (.int .i64 (i:Int)) (.int .i64 conn) x0 v h':=by
      intro β kn;unfold oM;simp only[bFp,ix2,WzO.S,Nat.add_zero,k0,zQ,dk1,k2,k1,WzO.n0,lo];by_cases q1:nj.kind=1
      ·rw[kC q1];by_cases q2:nj.conn=conn
       ·rw[kC q2,show decide (nj.kind=1∧nj.conn=conn∧nj.op=nt.op)=decide (nj.op=nt.op)from decide_eq_decide.2 ⟨fun h=>h.2.2,fun h=>⟨q1,q2,h⟩⟩];rfl
       ·rw[kD q2,kD (show¬(nj.kind=1∧nj.conn=conn∧nj.op=nt.op)from fun h=>q2 h.2.1)];rfl
      ·rw[kD q1,kD (show¬(nj.kind=1∧nj.conn=conn∧nj.op=nt.op)from fun h=>q1 h.1)];rfl
     have hfa:cA ((l.take i).drop j) conn nt.op=if oM conn nt.op nj=true then some nj.pk.1 else cA ((l.take i).drop (j+1)) conn nt.op:=by
      rw[hdj];unfold cA
      cases hk:oM conn nt.op nj with
      |true=>rw[List.find?_cons_of_pos hk];rfl
      |false=>rw[List.find?_cons_of_neg (by rw[hk];decide)];rfl
     cases hk:oM conn nt.op nj with
     |true=>
      rw[hk]at ask hfa;obtain⟨h5,hh5⟩:∃h5,h5=h'.put h2.next (.cells (nj.pk.1.cells nj.pk.2.2) (some 0)):=⟨_,rfl⟩;have hcl:aJ (.agg ⟨nj.pk.c⟩)=some nj.pk.c:=rfl;have e5:A.store 24 (aB h2.next) (.agg ⟨nj.pk.c⟩) h'=some h5:=by rw[qU,b.1,hcl,hh5];rfl
      have x5:Ext h2 h5:=by rw[hh5];exact x'.put _ _ (kF _)
      have b5:BQ h5 h2.next nj.pk.1 nj.pk.2.2:=⟨by rw[hh5,H.get_put,kB rfl],by rw[hh5];exact b.2⟩;obtain⟨h'',w',f1,f2,f3⟩:=ihj m h5 nj.pk.1 nj.pk.2.2 (by omega) (by omega) x5 b5 (by rw[hfa];rfl);refine⟨h'',w',fun β kx=>?_,f2,f3⟩;simp only[aGi,aRf,bA,dg,WzO.S,aLh,ask,bFo,ix2,lpk,e5,aXb,ws,f1]
     |false=>
      rw[hk]at ask hfa;obtain⟨h'',w',f1,f2,f3⟩:=ihj m h' q w (by omega) (by omega) x' b (by rw[hq,hfa];rfl);refine⟨h'',w',fun β kx=>?_,f2,f3⟩;simp only[aGi,aRf,bA,dg,WzO.S,aLh,ask,bFo,aXb,ws,f1]
   obtain⟨h4,w4,st4,x4,b4⟩:=inn i L h3 (zq 0) aF (kF _) (by omega) x3 b3 (by rw[pL (by rw[kT];omega)];rfl);have ws:A.zA prog .sub 3 (.int .i64 (i:Int)) (.int .i64 1)=some (.int .i64 ((i:Int)-1)):=by rw[bP,aS (by omega) (by omega)]
   obtain⟨p,hp⟩:∃p,p=(cA (l.take i) conn nt.op).getD (zq 0):=⟨_,rfl⟩;rw[←hp]at b4 hag;obtain⟨⟨m0,_,m2,_,m4,_⟩,_⟩:=b4.lds;have b24:=b2.ext x4;have lc:A.load false 1 (.pointer (some ⟨h.next,32,none⟩)) h4=some (str nt.codes):=b24.ld rfl;have lp:A.load false 1 (.pointer (some ⟨h.next,33,none⟩)) h4=some (.bool nt.present):=b24.ld rfl;have k1:decide ((p.kind:Int)=1)=decide (p.kind=1):=deN _ 1;have k8:decide ((p.kind:Int)=8)=decide (p.kind=8):=deN _ 8;have k10:decide ((p.kind:Int)=10)=decide (p.kind=10):=deN _ 10;have k3:decide ((p.kind:Int)=3)=decide (p.kind=3):=deN _ 3;have q1:decide ((p.qos:Int)=1)=decide (p.qos=1):=deN _ 1;have q2:decide ((p.qos:Int)=2)=decide (p.qos=2):=deN _ 2;have z1:A.zF WzD.Z38L [(0,1,.int .u8 2),(20,1,.bool nt.present)]=some (.agg ⟨({zq 2 with present:=nt.present}:Pq).cells aF⟩):=by kernel_rfl
   have z8:A.zF WzD.Z38L [(0,1,.int .u8 9),(4,1,.int .u16 (p.id:Int)),(23,1,str nt.codes)]=some (.agg ⟨({zq 9 with id:=p.id,codes:=nt.codes}:Pq).cells aF⟩):=by kernel_rfl
   have z10:A.zF WzD.Z38L [(0,1,.int .u8 11),(4,1,.int .u16 (p.id:Int))]=some (.agg ⟨({zq 11 with id:=p.id}:Pq).cells aF⟩):=by kernel_rfl
   have z4:A.zF WzD.Z38L [(0,1,.int .u8 4),(4,1,.int .u16 (p.id:Int))]=some (.agg ⟨({zq 4 with id:=p.id}:Pq).cells aF⟩):=by kernel_rfl
   have z5:A.zF WzD.Z38L [(0,1,.int .u8 5),(4,1,.int .u16 (p.id:Int))]=some (.agg ⟨({zq 5 with id:=p.id}:Pq).cells aF⟩):=by kernel_rfl
   have vv4:=vv2.ext x4;have x04:=x02.trans x4;have lma:(acc.map fun q:Pq=>q.cells aF).length=acc.length:=pA ..;have one:∀q:Pq,∃h5 h6 w1 w2,A.zD 24 1 WzD.Z38L [(0,24,.agg ⟨q.cells aF⟩)] h4=some (w1,h5)∧A.zK 24 200 v w1 h5=some (w2,h6)∧Ext B h6∧Vec 24 h6 w2 ((acc++[q]).map fun q=>q.cells aF)∧(∀j,sid w2=some j→B.next≤j):=by
    intro q;obtain⟨h5,h6,w1,w2,g1,g2,g3,g4,g5,_⟩:=lN (bs:=200) (z:=WzD.Z38L) (y:=.agg ⟨q.cells aF⟩) (e:=q.cells aF) x04 vv4 sv rfl rfl rfl (by omega) (by rw[lma];omega) (by rw[lma];omega);exact⟨h5,h6,w1,w2,g1,g2,g3,by rw[List.map_append];exact g4,fun j hj=>by rw[g5]at hj;have:=x04.next;simp only[kE]at hj;omega⟩
   obtain⟨h6,v6,st6,x6,vv6,sv6,len6⟩:∃h6 v6,(∀(β:Type) (kn:K4 β),aBi h4 x0 (.int .i64 conn) v (.int .i64 (i:Int)) (aB h.next) (aB h2.next) kn=kn (.int .i64 (i:Int)) (.int .i64 conn) x0 v6 h6)∧Ext B h6∧Vec 24 h6 v6 ((acc++oH p nt).map fun q=>q.cells aF)∧(∀j,sid v6=some j→B.next≤j)∧(oH p nt).length≤1:=by
    have len1:(oH p nt).length≤1:=by unfold oH;(repeat' split)<;>simp
    unfold oH at len1⊢;by_cases c_1:p.kind=1
    ·rw[kC c_1]at k1;rw[kB c_1]at len1⊢;obtain⟨h5,h6,w1,w2,g1,g2,g3,g4,g5⟩:=one {zq 2 with present:=nt.present};refine⟨h6,w2,fun β kn=>?_,g3,g4,g5,len1⟩;simp only[aBi,aRe,WzO.S,WzO.n0,m0,zQ,k1,bZu,lp,z1,g1,g2]
    rw[kD c_1]at k1;rw[kA c_1]at len1⊢;by_cases c_8:p.kind=8
    ·rw[kC c_8]at k8;rw[kB c_8]at len1⊢;obtain⟨h5,h6,w1,w2,g1,g2,g3,g4,g5⟩:=one {zq 9 with id:=p.id,codes:=nt.codes};refine⟨h6,w2,fun β kn=>?_,g3,g4,g5,len1⟩;simp only[aBi,aRe,WzO.S,WzO.n0,m0,zQ,k1,aXa,k8,bZv,m4,lc,z8,g1,g2]
    rw[kD c_8]at k8;rw[kA c_8]at len1⊢;by_cases c_10:p.kind=10
    ·rw[kC c_10]at k10;rw[kB c_10]at len1⊢;obtain⟨h5,h6,w1,w2,g1,g2,g3,g4,g5⟩:=one {zq 11 with id:=p.id};refine⟨h6,w2,fun β kn=>?_,g3,g4,g5,len1⟩;simp only[aBi,aRe,WzO.S,WzO.n0,m0,zQ,k1,aXa,k8,bFn,k10,bZw,m4,z10,g1,g2]
    rw[kD c_10]at k10;rw[kA c_10]at len1⊢;have pre:∀(β:Type) (kn:K4 β),aBi h4 x0 (.int .i64 conn) v (.int .i64 (i:Int)) (aB h.next) (aB h2.next) kn=aEv h4 x0 (.int .i64 conn) v (.int .i64 (i:Int)) (aB h2.next) kn:=by
     intro β kn;simp only[aBi,aRe,WzO.S,WzO.n0,m0,zQ,k1,aXa,k8,bFn,k10]
    by_cases c_3:p.kind=3
    ·rw[kC c_3]at k3;by_cases c_1:p.qos=1
     ·rw[kC c_1]at q1;rw[kB ⟨c_3,c_1⟩]at len1⊢;obtain⟨h5,h6,w1,w2,g1,g2,g3,g4,g5⟩:=one {zq 4 with id:=p.id};refine⟨h6,w2,fun β kn=>?_,g3,g4,g5,len1⟩;rw[pre];simp only[aEv,aRd,WzO.S,WzO.n0,m0,zQ,k3,m2,q1,bZx,m4,z4,g1,g2]
     ·rw[kD c_1]at q1;rw[kA (fun h=>c_1 h.2)]at len1⊢;by_cases c_2:p.qos=2
      ·rw[kC c_2]at q2;rw[kB ⟨c_3,c_2⟩]at len1⊢;obtain⟨h5,h6,w1,w2,g1,g2,g3,g4,g5⟩:=one {zq 5 with id:=p.id};refine⟨h6,w2,fun β kn=>?_,g3,g4,g5,len1⟩;rw[pre];simp only[aEv,aRd,WzO.S,WzO.n0,m0,zQ,k3,m2,q1,aWz,q2,m4,z5,g1,g2]
      ·rw[kD c_2]at q2;rw[kA (fun h=>c_2 h.2)]at len1⊢;refine⟨h4,v,fun β kn=>?_,x04,by rw[List.append_nil];exact vv4,sv,len1⟩;rw[pre];simp only[aEv,aRd,WzO.S,WzO.n0,m0,zQ,k3,m2,q1,aWz,q2]
    ·rw[kD c_3]at k3;rw[kA (fun h=>c_3 h.1),kA (fun h=>c_3 h.1)]at len1⊢;refine⟨h4,v,fun β kn=>?_,x04,by rw[List.append_nil];exact vv4,sv,len1⟩;rw[pre];simp only[aEv,aRd,WzO.S,WzO.n0,m0,zQ,k3,aWz]
   obtain⟨h',v',f1,f2,f3,f4⟩:=ih (i+1) m h6 v6 (acc++oH p nt) (by omega) (by omega) (by rw[kL];omega) x6 vv6 sv6;refine⟨h',v',fun β kx=>?_,f2,by rw[hag,←pT];exact f3,f4⟩;simp only[aGh,aRg,hlen,WzO.S,zZ,dl,aLr,bFq,ix,la,e1,e2,WzO.n0,l0,aK,d3,kC c1.1,l2,dc,bZz,e3,aZd,bZy,ws,st4,st6,aRc,wr,f1]
  ·rw[kA c1,List.nil_append]at hag;obtain⟨h',v',f1,f2,f3,f4⟩:=ih (i+1) m h2 v acc (by omega) (by omega) (by omega) x02 vv2 sv;refine⟨h',v',fun β kx=>?_,f2,by rw[hag];exact f3,f4⟩;simp only[aGh,aRg,hlen,WzO.S,zZ,dl,aLr,bFq,ix,la,e1,e2,WzO.n0,l0,aK,d3];by_cases c2:nt.kind=3
   ·have dc:decide (nt.conn=conn)=false:=kD (fun h=>c1 ⟨c2,h⟩);simp only[kC c2,WzO.S,l2,aK,dc,aRc,wr,f1]
   ·simp only[kD c2,WzO.S,aRc,wr,f1]
theorem U33 {n:Nat}(hn:400≤n){x0:Value}{l:List Nt}(r:NIn h x0 l)(conn:Int):∃v h',aA prog 2 Q n 33 [x0,.int .i64 conn] h=some (v,h')∧SliceE 24 h' v ((jS conn [] l).map fun q=>q.cells aF)∧Ext h h':=by
 obtain⟨n,rfl⟩:∃m,n=m+1:=⟨n-1,by omega⟩;rw[bWk Q n _ _ h (ka.fr 33 _ (by decide))];have hl:=r.le;obtain⟨h',v',f1,f2,f3,f4⟩:=cGo ka r conn (aA prog 2 Q n) n (by omega) l.length 0 n h aF [] (by omega) (by omega) (kF _) (Ext.refl h) (Vec.nil 24 h) (fun j hj=>by cases hj);refine⟨v',h',?_,f3.slice,f2⟩;simp only[F33,bAj,cAb,aZr,cAa,bZt,WzO.S];exact f1 _ _
end
end Go.Proofs.YtohapjojkjjflaaGreatDoor.Wz

set_option maxRecDepth 100000
namespace Go.Proofs.YtohapjojkjjflaaGreatDoor.Wz
open Tryz (prog)
open Go Go.AM WzA WzB WzD
open Go.AM.Pk (K0 K1 K2 K3 K4 K5 K6 K7 K8 K10 K11)
abbrev Pd:=Pq×List Sb
def eH (want:List Pq):List Pd→Nat→Bool
 |[],_=>true
 |x::r,k=>if eT x.1.kind=true then(if want[k]?=some x.1∧x.2=[]then eH want r (k+1)else false)else eH want r k
def jZ:List Pd→Nat→Option Nat
 |[],_=>none
 |x::r,i=>if x.1.kind=2 then some i else jZ r (i+1)
def gT (ps:List Pd):List Ms:=(ps.filter fun x=>decide (x.1.kind=3∧x.1.dup=false)).map fun x=>bF x.1
def iD (x:Pd):Bool:=decide (x.1.kind=6∨x.1.kind=3∧x.1.dup=true)
def jB (conn:Int)(l:List Nt)(ps:List Pd)(p:Pq):Bool:=
 if eT p.kind=true then
  if(cF (cJ 1 conn [1] [] false) l 0).isSome=false then decide (ps.length=1∧p.kind=2∧(p.code=1∨p.code=2))
  else eH (jS conn [] l) ps 0
 else match jZ ps 0 with
  |none=>false
  |some f=>
   if 0<((ps[f]?.map fun x=>x.1).getD (zq 0)).code then false
   else if p.kind≠3 then decide (p.kind=6∨p.kind=7∨p.kind=13)
   else if p.dup=false then jD (gT ps) (aFd conn l)
   else if(ps.drop (f+1)).all iD=true then(if((ps[f]?.map fun x=>x.1).getD (zq 0)).present=true then jD [bF p] (aFd conn l)else false)else false
theorem uK:∀(l:List Pd) (i j:Nat),jZ l i=some j→i≤j∧j<i+l.length
 |[],i,j,h=>by cases h
 |n::r,i,j,h=>by
  unfold jZ at h;split at h
  ·cases h;simp only[kM];omega
  ·have:=uK r (i+1) j h;simp only[kM];omega
theorem rM {h:H}{x:Value}{ps:List Pe}(r:InR h x ps){i:Nat}{p:Pe}(hi:ps[i]?=some p):∃id off,A.zH 24 x (.int .i64 (i:Int))=some (.pointer (some ⟨id,off,none⟩))∧∀h',Ext h h'→
 (∀j y,p.c[j]?=some y→A.load false 1 (.pointer (some ⟨id,off+j,none⟩)) h'=some y)∧A.load true 24 (.pointer (some ⟨id,off,none⟩)) h'=some (.agg ⟨p.c⟩):=by
 obtain⟨id,off,e1,e2,_,e3⟩:=nN r.row (i:=i) (e:=p.c) (by rw[kX,hi];rfl) .i64;refine⟨id,off,e1,fun h' x=>?_⟩;obtain⟨a,b⟩:=e3 h' (x.get id e2);exact⟨a,b 0 24 (by omega)⟩
theorem InR.ln {h:H}{x:Value}{ps:List Pe}(r:InR h x ps):A.zG x=some (.int .i64 (ps.length:Int)):=by have:=r.row.len.1;rw[pA]at this;exact this
theorem aFi {ps:List Pe}{i:Nat}{p:Pe}(hi:ps[i]?=some p):(ps.map Pe.d)[i]?=some p.d:=by rw[kX,hi];rfl
theorem nI {ps:List Pe}{i:Nat}{p:Pe}(hi:ps[i]?=some p):(ps.map Pe.d).drop i=p.d::(ps.map Pe.d).drop (i+1):=aQ (aFi hi)
section
variable {Q:Orc}(ka:KnA Q)(kd:KnB Q)
include ka kd
theorem bJj {B:H}{x2 x9:Value}{ps:List Pe}{want:List Pq}(r:InR B x2 ps)(sw:SliceE 24 B x9 (want.map fun q=>q.cells aF)){n:Nat}(hn:1001500≤n)(hl:ps.length≤4000)(L:Nat):
 ∀(d i k m:Nat) (h:H),i+d=ps.length→d<m→k≤i→Ext B h→∃h',Ext B h'∧∀(β:Type) (kr:K1 β) (kx:K0 β),xN (aA prog 2 Q n) L kr kx m (.int .i64 (i:Int)) (.int .i64 (k:Int)) x2 x9 h=if eH want ((ps.map Pe.d).drop i) k=true then kx h' else kr (.bool false) h':=by
 have ln2:=r.ln;have lnw:A.zG x9=some (.int .i64 (want.length:Int)):=by have:=sw.len.1;rw[pA]at this;exact this
 intro d
 induction d with
 |zero=>
  intro i k m h hi hm hk x;obtain⟨m,rfl⟩:∃r,m=r+1:=⟨m-1,by omega⟩;have dl:decide ((i:Int)<(ps.length:Int))=false:=by rw[kI];omega
  refine⟨h,x,fun β kr kx=>?_⟩;rw[pL (by rw[pA];omega)];simp only[xN,aFu,ln2,WzO.S,zZ,dl];rfl
 |succ d ih=>
  intro i k m h hi hm hk x;obtain⟨m,rfl⟩:∃r,m=r+1:=⟨m-1,by omega⟩;have dl:decide ((i:Int)<(ps.length:Int))=true:=by rw[kJ];omega
  obtain⟨p,hp⟩:∃p,ps[i]?=some p:=⟨_,kN (by omega)⟩;have hmem:=List.mem_of_getElem? hp;obtain⟨id,off,ix,ld⟩:=rM r hp;obtain⟨_,la⟩:=ld h x;have slp:=r.sub p hmem;obtain⟨h1,e1,x1⟩:=U32 ka (h:=h) (n:=n) (by omega) (p:=p.1) slp.cells;have e1:aA prog 2 Q n 32 [.agg ⟨p.c⟩] h=_:=e1;have x01:=x.trans x1;obtain⟨_,la1⟩:=ld h1 x01;have wi:A.zA prog .add 3 (.int .i64 (i:Int)) (.int .i64 1)=some (.int .i64 ((i+1:Nat):Int)):=by rw[aG,aI (by omega)]
  have wk:A.zA prog .add 3 (.int .i64 (k:Int)) (.int .i64 1)=some (.int .i64 ((k+1:Nat):Int)):=by rw[aG,aI (by omega)]
  rw[nI hp];have hma:eH want (p.d::(ps.map Pe.d).drop (i+1)) k=if eT p.1.kind=true then(if want[k]?=some p.1∧p.2.1=[]then eH want ((ps.map Pe.d).drop (i+1)) (k+1)else false)else eH want ((ps.map Pe.d).drop (i+1)) k:=rfl
  rw[hma];by_cases ha:eT p.1.kind=true
  ·rw[kB ha];rw[ha]at e1;by_cases hk2:want.length≤k
   ·have dg:decide ((want.length:Int)≤(k:Int))=true:=kC (by omega);rw[kA (fun h=>by rw[List.getElem?_eq_none hk2]at h;cases h.1)];refine⟨h1,x01,fun β kr kx=>?_⟩;simp only[xN,aFu,ln2,WzO.S,zZ,dl,aEq,aRw,ix,la,e1,aXr,lnw,bA,dg];rfl
   ·have dg:decide ((want.length:Int)≤(k:Int))=false:=kD (by omega);obtain⟨a,hka⟩:∃a,want[k]?=some a:=⟨_,kN (by omega)⟩;obtain⟨id2,off2,ix2,hid2,_,ld2⟩:=nN sw (i:=k) (e:=a.cells aF) (by rw[kX,hka];rfl) .i64;obtain⟨_,lb⟩:=ld2 h1 (x01.get _ hid2);have lb:A.load true 24 (.pointer (some ⟨id2,off2,none⟩)) h1=some (.agg ⟨a.cells aF⟩):=lb 0 24 (by omega);obtain⟨h2,e2,x2⟩:=U19 kd (h:=h1) (n:=n) (p:=a) (q:=p.1) (w:=aF) (w2:=p.2.2) (es:=[]) (es2:=p.2.1) (by omega) (pQ _) rfl slp.cells ((Vec.nil 2 h1).slice) (slp.ext x01);have e2:aA prog 2 Q n 19 [.agg ⟨a.cells aF⟩,.agg ⟨p.c⟩] h1=_:=e2;have hde:decide (want[k]?=some p.1∧p.2.1=[])=decide (a=p.1∧[]=p.2.1):=decide_eq_decide.2 (by rw[hka];exact⟨fun h=>⟨kP h.1,h.2.symm⟩,fun h=>⟨by rw[h.1],h.2.symm⟩⟩);by_cases hm2:want[k]?=some p.1∧p.2.1=[]
    ·rw[kC hm2]at hde;rw[←hde]at e2;rw[kB hm2];obtain⟨h3,x3,f⟩:=ih (i+1) (k+1) m h2 (by omega) (by omega) (by omega) (x01.trans x2);refine⟨h3,x3,fun β kr kx=>?_⟩;simp only[xN,aFu,ln2,WzO.S,zZ,dl,aEq,aRw,ix,la,e1,aXr,lnw,bA,dg,ix2,lb,la1,e2,wk,aXq,wi,f]
    ·rw[kD hm2]at hde;rw[←hde]at e2;rw[kA hm2];refine⟨h2,x01.trans x2,fun β kr kx=>?_⟩;simp only[xN,aFu,ln2,WzO.S,zZ,dl,aEq,aRw,ix,la,e1,aXr,lnw,bA,dg,ix2,lb,la1,e2];rfl
  ·rw[kA ha];have ha':eT p.1.kind=false:=by cases h:eT p.1.kind with|false=>rfl|true=>exact absurd h ha
   rw[ha']at e1;obtain⟨h3,x3,f⟩:=ih (i+1) k m h1 (by omega) (by omega) (by omega) x01;refine⟨h3,x3,fun β kr kx=>?_⟩;simp only[xN,aFu,ln2,WzO.S,zZ,dl,aEq,aRw,ix,la,e1,aXq,wi,f]
theorem bJk {B h:H}{x0 x1 x2 x7:Value}{ps:List Pe}(r:InR B x2 ps)(x:Ext B h)(hl:ps.length≤4000)(C:CF)(L:Nat):
 ∀(j m:Nat) (β:Type) (kx:K5 β),j≤ps.length→j<m→aEl C L kx m (.int .i64 ((j:Int)-1)) x0 x1 x2 (.int .i64 (bI (jZ ((ps.map Pe.d).drop j) j))) x7 h=kx x0 x1 x2 (.int .i64 (bI (jZ (ps.map Pe.d) 0))) x7 h:=by
 have _:=ka;have _:=kd;intro j
 induction j with
 |zero=>
  intro m β kx hj hm;obtain⟨m,rfl⟩:∃r,m=r+1:=⟨m-1,by omega⟩;have dg:decide ((0:Int)≤((0:Nat):Int)-1)=false:=rfl;rw[List.drop_zero];simp only[aEl,aRv,bA,dg,WzO.S]
 |succ j ih=>
  intro m β kx hj hm;obtain⟨m,rfl⟩:∃r,m=r+1:=⟨m-1,by omega⟩;rw[show((j+1:Nat):Int)-1=(j:Int) by omega];have dg:decide ((0:Int)≤(j:Int))=true:=by rw[kJ];omega
  obtain⟨p,hp⟩:∃p,ps[j]?=some p:=⟨_,kN (by omega)⟩;obtain⟨id,off,ix,ld⟩:=rM r hp;obtain⟨lf,_⟩:=ld h x;have l0:A.load false 1 (.pointer (some ⟨id,off+0,none⟩)) h=some (.int .u8 (p.1.kind:Int)):=lf 0 _ rfl;rw[Nat.add_zero]at l0;have d2:decide ((p.1.kind:Int)=2)=decide (p.1.kind=2):=deN _ 2;have ws:A.zA prog .sub 3 (.int .i64 (j:Int)) (.int .i64 1)=some (.int .i64 ((j:Int)-1)):=by rw[bP,aS (by omega) (by omega)]
  have nx:=ih m β kx (by omega) (by omega);have hf:jZ ((ps.map Pe.d).drop j) j=if p.1.kind=2 then some j else jZ ((ps.map Pe.d).drop (j+1)) (j+1):=by rw[nI hp];rfl
  rw[hf]at nx;by_cases c:p.1.kind=2
  ·rw[kC c]at d2;rw[kB c]at nx;simp only[aEl,aRv,bA,dg,WzO.S,ix,Nat.add_zero,l0,zQ,d2,ws];exact nx
  ·rw[kD c]at d2;rw[kA c]at nx;simp only[aEl,aRv,bA,dg,WzO.S,ix,Nat.add_zero,l0,zQ,d2,ws];exact nx
theorem bJi {B:H}{x2 x14:Value}{ps:List Pe}(r:InR B x2 ps){n:Nat}(hn:1≤n)(hl:ps.length≤4000)(L:Nat):
 ∀(d i m:Nat) (h:H) (v:Value) (acc:List Ms),i+d=ps.length→d<m→acc.length≤i→Ext B h→Vec 4 h v (acc.map msC)→(∀j,sid v=some j→B.next≤j)→∃h' v',(∀(β:Type) (kx:K2 β),aEk (aA prog 2 Q n) L kx m (.int .i64 (i:Int)) x2 v x14 h=kx v' x14 h')∧Ext B h'∧Vec 4 h' v' ((acc++gT ((ps.map Pe.d).drop i)).map msC):=by
 have _:=kd;have ln2:=r.ln;intro d
 induction d with
 |zero=>
  intro i m h v acc hi hm ha x vv sv;obtain⟨m,rfl⟩:∃r,m=r+1:=⟨m-1,by omega⟩;have dl:decide ((i:Int)<(ps.length:Int))=false:=by rw[kI];omega
  refine⟨h,v,fun β kx=>?_,x,?_⟩
  ·simp only[aEk,aRt,ln2,WzO.S,zZ,dl]
  ·rw[pL (by rw[pA];omega),show gT []=[]from rfl,List.append_nil];exact vv
 |succ d ih=>
  intro i m h v acc hi hm ha x vv sv;obtain⟨m,rfl⟩:∃r,m=r+1:=⟨m-1,by omega⟩;have dl:decide ((i:Int)<(ps.length:Int))=true:=by rw[kJ];omega
  obtain⟨p,hp⟩:∃p,ps[i]?=some p:=⟨_,kN (by omega)⟩;obtain⟨id,off,ix,ld⟩:=rM r hp;obtain⟨lf,la⟩:=ld h x;have l0:A.load false 1 (.pointer (some ⟨id,off+0,none⟩)) h=some (.int .u8 (p.1.kind:Int)):=lf 0 _ rfl;have l1:A.load false 1 (.pointer (some ⟨id,off+1,none⟩)) h=some (.bool p.1.dup):=lf 1 _ rfl;rw[Nat.add_zero]at l0;have d3:decide ((p.1.kind:Int)=3)=decide (p.1.kind=3):=deN _ 3;have wi:A.zA prog .add 3 (.int .i64 (i:Int)) (.int .i64 1)=some (.int .i64 ((i+1:Nat):Int)):=by rw[aG,aI (by omega)]
  rw[nI hp];by_cases c:p.1.kind=3∧p.1.dup=false
  ·obtain⟨h1,e1,x1⟩:=U35 ka (h:=h) (n:=n) hn (p:=p.1) (r.sub p (List.mem_of_getElem? hp)).cells;have e1:aA prog 2 Q n 35 [.agg ⟨p.c⟩] h=_:=e1;obtain⟨h3,h4,w1,w2,e3,e4,x4,v4,s4,_⟩:=lN (bs:=40) (z:=WzD.Z35L) (y:=.agg ⟨msC (bF p.1)⟩) (e:=msC (bF p.1)) (x.trans x1) (vv.ext x1) sv rfl rfl rfl (by omega) (by rw[pA];omega) (by rw[pA];omega);have ho:gT (p.d::(ps.map Pe.d).drop (i+1))=bF p.1::gT ((ps.map Pe.d).drop (i+1)):=by
    unfold gT;rw[List.filter_cons_of_pos (by exact kC (show p.d.1.kind=3∧p.d.1.dup=false from c)),List.map_cons];rfl
   obtain⟨h',v',f1,f2,f3⟩:=ih (i+1) m h4 w2 (acc++[bF p.1]) (by omega) (by omega) (by simp;omega) x4 (by rw[List.map_append];exact v4) (fun j hj=>by rw[s4]at hj;have:=(x.trans x1).next;simp only[kE]at hj;omega);rw[kC c.1]at d3;rw[c.2]at l1;refine⟨h',v',fun β kx=>?_,f2,by rw[ho,List.append_cons];exact f3⟩;simp only[aEk,aRt,ln2,WzO.S,zZ,dl,aXo,ix,Nat.add_zero,l0,zQ,d3,l1,la,e1,e3,e4,wi,f1]
  ·have ho:gT (p.d::(ps.map Pe.d).drop (i+1))=gT ((ps.map Pe.d).drop (i+1)):=by
    unfold gT;rw[List.filter_cons_of_neg (by rw[kD (show¬(p.d.1.kind=3∧p.d.1.dup=false)from c)];decide)]
   obtain⟨h',v',f1,f2,f3⟩:=ih (i+1) m h v acc (by omega) (by omega) (by omega) x vv sv;refine⟨h',v',fun β kx=>?_,f2,by rw[ho];exact f3⟩;simp only[aEk,aRt,ln2,WzO.S,zZ,dl,aXo,ix,Nat.add_zero,l0,zQ,d3];by_cases c3:p.1.kind=3
   ·have hdup:p.1.dup=true:=by cases h:p.1.dup with|true=>rfl|false=>exact absurd ⟨c3,h⟩ c
    rw[hdup]at l1;simp only[kC c3,WzO.S,l1,wi,f1]
   ·simp only[kD c3,WzO.S,wi,f1]
theorem bJh {B h:H}{x2 x12 x7 x14:Value}{ps:List Pe}(r:InR B x2 ps)(x:Ext B h)(hl:ps.length≤4000)(C:CF)(L:Nat):
 ∀(d i m:Nat) (β:Type) (kr:K1 β) (kx:K4 β),i+d=ps.length→d<m→aLa C L kr kx m (.int .i64 (i:Int)) x2 x12 x7 x14 h=if((ps.map Pe.d).drop i).all iD=true then kx x2 x12 x7 x14 h else kr (.bool false) h:=by
 have _:=ka;have _:=kd;have ln2:=r.ln;intro d
 induction d with
 |zero=>
  intro i m β kr kx hi hm;obtain⟨m,rfl⟩:∃r,m=r+1:=⟨m-1,by omega⟩;have dl:decide ((i:Int)<(ps.length:Int))=false:=by rw[kI];omega
  rw[pL (by rw[pA];omega)];simp only[aLa,aXm,ln2,WzO.S,zZ,dl];rfl
 |succ d ih=>
  intro i m β kr kx hi hm;obtain⟨m,rfl⟩:∃r,m=r+1:=⟨m-1,by omega⟩;have dl:decide ((i:Int)<(ps.length:Int))=true:=by rw[kJ];omega
  obtain⟨p,hp⟩:∃p,ps[i]?=some p:=⟨_,kN (by omega)⟩;obtain⟨id,off,ix,ld⟩:=rM r hp;obtain⟨lf,_⟩:=ld h x;have l0:A.load false 1 (.pointer (some ⟨id,off+0,none⟩)) h=some (.int .u8 (p.1.kind:Int)):=lf 0 _ rfl;have l1:A.load false 1 (.pointer (some ⟨id,off+1,none⟩)) h=some (.bool p.1.dup):=lf 1 _ rfl;rw[Nat.add_zero]at l0;have d3:decide ((p.1.kind:Int)=3)=decide (p.1.kind=3):=deN _ 3;have d6:decide ((p.1.kind:Int)=6)=decide (p.1.kind=6):=deN _ 6;have wi:A.zA prog .add 3 (.int .i64 (i:Int)) (.int .i64 1)=some (.int .i64 ((i+1:Nat):Int)):=by rw[aG,aI (by omega)]
  have nx:=ih (i+1) m β kr kx (by omega) (by omega);rw[nI hp,List.all_cons];have ask:∀kn:K6 β,bGk h x2 x7 x12 x14 (.int .i64 (i:Int)) kn=kn (.bool (!iD p.d)) (.int .i64 (i:Int)) x2 x12 x7 x14 h:=by
   intro kn;have hs:iD p.d=decide (p.1.kind=6∨p.1.kind=3∧p.1.dup=true):=rfl;rw[hs];simp only[bGk,ix,WzO.S,Nat.add_zero,l0,aK,d6,zQ,d3,l1];by_cases c6:p.1.kind=6
   ·rw[kC c6,kC (show p.1.kind=6∨p.1.kind=3∧p.1.dup=true from Or.inl c6)];rfl
   ·rw[kD c6];by_cases c3:p.1.kind=3
    ·rw[kC c3,show decide (p.1.kind=6∨p.1.kind=3∧p.1.dup=true)=p.1.dup from by
      cases hd:p.1.dup with
      |true=>exact kC (Or.inr ⟨c3,rfl⟩)
      |false=>exact kD (fun h=>h.elim c6 (fun h=>by cases h.2))];rfl
    ·rw[kD c3,kD (show¬(p.1.kind=6∨p.1.kind=3∧p.1.dup=true)from fun h=>h.elim c6 (fun h=>c3 h.1))];rfl
  simp only[aLa,aXm,ln2,WzO.S,zZ,dl,aSq,ask,cBf,bGj,wi]
  cases hs:iD p.d with
  |true=>simp only[sA,cond_false,Bool.true_and];exact nx
  |false=>simp only[sB,cond_true,Bool.false_and];rfl
theorem U17 {h:H}{n:Nat}(hn:1001600≤n){x0 x2:Value}{l:List Nt}(r:NIn h x0 l)(conn:Int){ps:List Pe}(rp:InR h x2 ps)(hl:ps.length≤3900){p:Pe}(hp:ps[ps.length-1]?=some p):
 ∃h',aA prog 2 Q n 17 [x0,.int .i64 conn,x2] h=some (.bool (jB conn l (ps.map Pe.d) p.1),h')∧Ext h h':=by
 obtain⟨n,rfl⟩:∃m,n=m+1:=⟨n-1,by omega⟩;rw[bWx Q n _ _ _ h (ka.fr 17 _ (by decide))];have ln2:=rp.ln;have hpl:=(List.getElem?_eq_some_iff.1 hp).1;have w1:A.zA prog .sub 3 (.int .i64 (ps.length:Int)) (.int .i64 1)=some (.int .i64 ((ps.length-1:Nat):Int)):=by rw[bP,aS (by omega) (by omega)];congr 2;omega
 obtain⟨id,off,ix,ld⟩:=rM rp hp;obtain⟨_,la⟩:=ld h (Ext.refl h);have slp:=rp.sub p (List.mem_of_getElem? hp);obtain⟨h1,h2,e1,e2,b2,x2'⟩:=oR h p.1 p.2.2;have e2:A.store 24 (aB h.next) (.agg ⟨p.c⟩) h1=some h2:=e2;have r2:=r.ext x2';have a1:=U31 ka (n:=n) (by omega) r2 (i:=0) (pQ _) 1 conn (ts:=[1]) (by decide) [] false;have a1:aA prog 2 Q n 31 [x0,.int .i64 0,.int .u8 1,.int .i64 conn,.string ⟨⟨[1]⟩⟩,.string ⟨⟨[]⟩⟩,.bool false] h2=_:=a1;rw[List.drop_zero]at a1;have la2:=b2.all;obtain⟨h3,e3,x3⟩:=U32 ka (h:=h2) (n:=n) (by omega) (p:=p.1) slp.cells;have x03:=x2'.trans x3;have b3:=b2.ext x3;obtain⟨⟨l0,l1,_⟩,_,_,_,_,_,_,l21,_⟩:=b3.lds;have la3:=b3.all;obtain⟨F,hF⟩:∃F,F=cF (cJ 1 conn [1] [] false) l 0:=⟨_,rfl⟩;rw[←hF]at a1;have dF:=aBv F;have hFs:(!decide (F=none))=F.isSome:=by cases F<;>rfl
 have pre:∀(kr:K1 (Value×H)),aTu (aA prog 2 Q n) n h x0 (.int .i64 conn) x2 kr=bif eT p.1.kind then aLq (aA prog 2 Q n) n h3 x0 (.int .i64 conn) x2 (aB h.next) (.bool F.isSome) kr else bGl h3 x0 (.int .i64 conn) x2 (aB h.next) (fun x0 x1 x2 x12 x7 h=>aSv (aA prog 2 Q n) n h x0 x1 x2 x7 x12 (fun x0 x1 x2 x12 x7 h=>aAu h x0 x1 x2 x7 x12 kr (fun x0 x1 x2 x12 x7 h=>aFt h x0 x1 x2 x7 x12 kr (fun x0 x1 x2 x12 x7 h=>aKp (aA prog 2 Q n) h x0 x1 x2 x7 x12 (fun x2 x12 x7 x14 h=>aFb (aA prog 2 Q n) n h x2 x7 x12 x14 kr (fun x2 x12 x7 x14 h=>aGz (aA prog 2 Q n) n h x2 x7 x12 x14 kr (fun x2 x12 x7 x14 h=>aXl (aA prog 2 Q n) h x2 x7 x12 x14 kr))))))):=by
  intro kr;simp only[aTu,cBn,ln2,WzO.S,w1,ix,la,e1,e2,a1,bA,dF,hFs,aZo,cBm,la2,e3,cBl]
 unfold jB;rw[←hF];unfold F17;rw[pre];by_cases ha:eT p.1.kind=true
 ·rw[kB ha,ha,cond_true];have d2:decide ((p.1.kind:Int)=2)=decide (p.1.kind=2):=deN _ 2;have q1:decide ((p.1.code:Int)=1)=decide (p.1.code=1):=deN _ 1;have q2:decide ((p.1.code:Int)=2)=decide (p.1.code=2):=deN _ 2;have dl1:decide ((ps.length:Int)=1)=decide (ps.length=1):=deN _ 1
  cases hs:F.isSome with
  |false=>
   rw[kB rfl,pA];refine⟨h3,?_,x03⟩;simp only[aLq,bGn,WzO.S,ln2,zQ,dl1,WzO.n0,l0,d2,l21,q1,q2];by_cases k1:ps.length=1
   ·rw[kC k1];by_cases k2:p.1.kind=2
    ·rw[kC k2];by_cases k3:p.1.code=1
     ·rw[kC k3,kC (show ps.length=1∧p.1.kind=2∧(p.1.code=1∨p.1.code=2)from⟨k1,k2,Or.inl k3⟩)];rfl
     ·rw[kD k3,show decide (ps.length=1∧p.1.kind=2∧(p.1.code=1∨p.1.code=2))=decide (p.1.code=2)from decide_eq_decide.2 ⟨fun h=>h.2.2.resolve_left k3,fun h=>⟨k1,k2,Or.inr h⟩⟩];rfl
    ·rw[kD k2,kD (show¬(ps.length=1∧p.1.kind=2∧(p.1.code=1∨p.1.code=2))from fun h=>k2 h.2.1)];rfl
   ·rw[kD k1,kD (show¬(ps.length=1∧p.1.kind=2∧(p.1.code=1∨p.1.code=2))from fun h=>k1 h.1)];rfl
  |true=>
   rw[kA (by decide)];obtain⟨v9,h4,e4,s4,x4⟩:=U33 ka (h:=h3) (n:=n) (by omega) (r.ext x03) conn;obtain⟨h5,x5,f⟩:=bJj ka kd (rp.ext (x03.trans x4)) s4 (n:=n) (by omega) (by omega) n ps.length 0 0 n h4 (by omega) (by omega) (kF _) (Ext.refl h4);have f:=f _ (fun x6 h=>some (x6,h)) (fun h=>bGm h (fun x6 h=>some (x6,h)));have f:xN (aA prog 2 Q n) n (fun x6 h=>some (x6,h)) (fun h=>bGm h (fun x6 h=>some (x6,h))) n (.int .i64 0) (.int .i64 0) x2 v9 h4=_:=f;rw[List.drop_zero]at f;refine⟨h5,?_,(x03.trans x4).trans x5⟩;simp only[aLq,bGn,WzO.S,e4,aZg,cBk];refine f.trans ?_;cases eH (jS conn [] l) (ps.map Pe.d) 0<;>rfl
 ·rw[kA ha];have ha':eT p.1.kind=false:=by cases h:eT p.1.kind with|false=>rfl|true=>exact absurd h ha
  rw[ha',cond_false];have lf:=fun kx=>bJk ka kd (x0:=x0) (x1:=.int .i64 conn) (x7:=aB h.next) rp x03 (by omega) (aA prog 2 Q n) n ps.length n (Value×H) kx (kF _) (by omega);rw[pL (by rw[pA];exact kF _)]at lf;have lf:∀kx:K5 (Value×H),aEl (aA prog 2 Q n) n kx n (.int .i64 ((ps.length:Int)-1)) x0 (.int .i64 conn) x2 (.int .i64 (-1)) (aB h.next) h3=_:=lf;have w1':A.zA prog .sub 3 (.int .i64 (ps.length:Int)) (.int .i64 1)=some (.int .i64 ((ps.length:Int)-1)):=by rw[bP,aS (by omega) (by omega)]
  simp only[bGl,aSv,cBj,ln2,WzO.S,w1',lf]
  cases hf:jZ (ps.map Pe.d) 0 with
  |none=>
   refine⟨h3,?_,x03⟩;simp only[aAu,zZ,mT,WzO.S];rfl
  |some f=>
   have hfl:=uK _ _ _ hf;rw[pA]at hfl;obtain⟨q,hq⟩:∃q,ps[f]?=some q:=⟨_,kN (by omega)⟩;have hqd:((ps.map Pe.d)[f]?.map fun x=>x.1).getD (zq 0)=q.1:=by rw[aFi hq];rfl
   simp only[hqd];obtain⟨idf,offf,ixf,ldf⟩:=rM rp hq;have ixf:A.zH 24 x2 (.int .i64 (bI (some f)))=_:=ixf;obtain⟨lff,_⟩:=ldf h3 x03;have lc:A.load false 1 (.pointer (some ⟨idf,offf+21,none⟩)) h3=some (.int .u8 (q.1.code:Int)):=lff 21 _ rfl;have dc:decide ((0:Int)<(q.1.code:Int))=decide (0<q.1.code):=dlN 0 _;have dn:decide (bI (some f)<0)=false:=by rw[mT];rfl
   have d3:decide ((p.1.kind:Int)=3)=decide (p.1.kind=3):=deN _ 3;by_cases hc:0<q.1.code
   ·rw[kC hc]at dc;rw[kB hc];refine⟨h3,?_,x03⟩;simp only[aAu,zZ,dn,WzO.S,ixf,lc,zY,dc]
   ·rw[kD hc]at dc;rw[kA hc];by_cases k3:p.1.kind=3
    ·rw[kC k3]at d3;rw[kA (not_not_intro k3)];obtain⟨v14,h4,e4,s4,x4⟩:=U34 ka (h:=h3) (n:=n) (by omega) (r.ext x03) conn;have x04:=x03.trans x4;have hml:(aFd conn l).length≤200:=by
      have hl:=r.le;unfold aFd;split
      ·exact pQ _
      ·split
       ·exact pQ _
       ·refine kG (wQ _ _) ?_;rw[kT,kU];omega
     have b4:=b3.ext x4;obtain⟨⟨_,m1,_⟩,_⟩:=b4.lds
     cases hd:p.1.dup with
     |false=>
      rw[hd]at m1;rw[kB rfl];obtain⟨h5,v5,f5,x5,vv5⟩:=bJi ka kd (x14:=v14) (rp.ext x04) (n:=n) (by omega) (by omega) n ps.length 0 n h4 aF [] (by omega) (by omega) (kF _) (Ext.refl h4) (Vec.nil 4 h4) (fun j hj=>by cases hj);have f5:∀(β:Type) (kx:K2 β),aEk (aA prog 2 Q n) n kx n (.int .i64 0) x2 (.slice none 0 0) v14 h4=kx v5 v14 h5:=f5;rw[List.drop_zero,List.nil_append]at vv5;have hol:(gT (ps.map Pe.d)).length≤4000:=by
       unfold gT;rw[pA];exact kG (List.length_filter_le _ _) (by rw[pA];omega)
      have e6:=U36 ka (h:=h5) (n:=n) (by omega) vv5.slice (s4.ext x5) hol (by omega);refine⟨h5,?_,x04.trans x5⟩;simp only[aAu,zZ,dn,WzO.S,ixf,WzO.n0,lc,zY,dc,aFt,l0,aK,d3,aKp,e4,aFb,aRu,m1,cBi,aYx,cBh,f5,cBg,e6]
     |true=>
      rw[hd]at m1;rw[kA (by decide)];have wf:A.zA prog .add 3 (.int .i64 (bI (some f))) (.int .i64 1)=some (.int .i64 ((f+1:Nat):Int)):=by show A.zA prog .add 3 (.int .i64 (f:Int)) (.int .i64 1)=_;rw[aG,aI (by omega)]
      have ls:=fun(kr:K1 (Value×H)) kx=>bJh ka kd (x12:=.int .i64 (bI (some f))) (x7:=aB h.next) (x14:=v14) (rp.ext x04) (Ext.refl h4) (by omega) (aA prog 2 Q n) n (ps.length-(f+1)) (f+1) n (Value×H) kr kx (by omega) (by omega);obtain⟨lfg,_⟩:=ldf h4 x04;have lpr:A.load false 1 (.pointer (some ⟨idf,offf+20,none⟩)) h4=some (.bool q.1.present):=lfg 20 _ rfl;by_cases hst:((ps.map Pe.d).drop (f+1)).all iD=true
      ·rw[kB hst]
       cases hpr:q.1.present with
       |false=>
        rw[hpr]at lpr;rw[kA (by decide)];refine⟨h4,?_,x04⟩;simp only[aAu,zZ,dn,WzO.S,ixf,WzO.n0,lc,zY,dc,aFt,l0,aK,d3,aKp,e4,aFb,aRu,m1,aXp,aGz,aXn,wf,ls,kB hst,aXl,lpr]
       |true=>
        rw[hpr]at lpr;rw[kB rfl];have la4:=b4.all;obtain⟨h5,e5,x5⟩:=U35 ka (h:=h4) (n:=n) (by omega) (p:=p.1) slp.cells;obtain⟨h6,v6,e6,s6,_,x6⟩:=wI h5 (n:=4) (z:=WzD.Z35L) (y:=.agg ⟨msC (bF p.1)⟩) (e:=msC (bF p.1)) rfl rfl rfl;have e7:=U36 ka (h:=h6) (n:=n) (by omega) (l:=[bF p.1]) s6 (s4.ext (x5.trans x6)) (by show 1≤4000;omega) (by omega);refine⟨h6,?_,x04.trans (x5.trans x6)⟩;simp only[aAu,zZ,dn,WzO.S,ixf,WzO.n0,lc,zY,dc,aFt,l0,aK,d3,aKp,e4,aFb,aRu,m1,aXp,aGz,aXn,wf,ls,kB hst,aXl,lpr,la4,e5,e6,e7]
      ·rw[kA hst];refine⟨h4,?_,x04⟩;simp only[aAu,zZ,dn,WzO.S,ixf,WzO.n0,lc,zY,dc,aFt,l0,aK,d3,aKp,e4,aFb,aRu,m1,aXp,aGz,aXn,wf,ls,kA hst]
    ·rw[kD k3]at d3;rw[kB k3];refine⟨h3,?_,x03⟩;have d6:decide ((p.1.kind:Int)=6)=decide (p.1.kind=6):=deN _ 6;have d7:decide ((p.1.kind:Int)=7)=decide (p.1.kind=7):=deN _ 7;have d13:decide ((p.1.kind:Int)=13)=decide (p.1.kind=13):=deN _ 13;simp only[aAu,zZ,dn,WzO.S,ixf,WzO.n0,lc,zY,dc,aFt,l0,aK,d3,zQ,d6,d7,d13];by_cases k6:p.1.kind=6
     ·rw[kC k6,kC (show p.1.kind=6∨p.1.kind=7∨p.1.kind=13 from Or.inl k6)];rfl
     ·rw[kD k6];by_cases k7:p.1.kind=7
      ·rw[kC k7,kC (show p.1.kind=6∨p.1.kind=7∨p.1.kind=13 from Or.inr (Or.inl k7))];rfl
      ·rw[kD k7,show decide (p.1.kind=6∨p.1.kind=7∨p.1.kind=13)=decide (p.1.kind=13)from decide_eq_decide.2 (by omega)];rfl
end
end Go.Proofs.YtohapjojkjjflaaGreatDoor.Wz

set_option maxRecDepth 100000
namespace Go.Proofs.YtohapjojkjjflaaGreatDoor.Wz
open Go Go.AM
theorem qH (f:Nt→Bool):∀(l:List Nt) (i:Nat),l.find? f=(cF f l i).bind fun j=>l[j-i]?
 |[],i=>rfl
 |n::r,i=>by
  unfold cF;by_cases c:f n=true
  ·rw[kB c,List.find?_cons_of_pos c];show some n=(n::r)[i-i]?;rw[Nat.sub_self];rfl
  ·rw[kA c,List.find?_cons_of_neg c,qH f r (i+1)]
   cases hf:cF f r (i+1)with
   |none=>rfl
   |some j=>
    have:=fK f r (i+1) j hf;show r[j-(i+1)]?=(n::r)[j-i]?;rw[show j-i=(j-(i+1))+1 by omega];rfl
theorem bXf (k:Nat):typ [1] k=decide (k=1):=by
 show((decide ((1:UInt8).toNat=k))||false)=_;rw[Bool.or_false];exact decide_eq_decide.2 ⟨fun h=>h.symm,fun h=>h.symm⟩
theorem cFn (k:Nat):typ [14,0] k=decide (k=14∨k=0):=by
 show(decide ((14:UInt8).toNat=k)||(decide ((0:UInt8).toNat=k)||false))=_;rw[Bool.or_false,←Bool.decide_or];exact decide_eq_decide.2 ⟨fun h=>h.imp (fun h=>h.symm) (fun h=>h.symm),fun h=>h.imp (fun h=>h.symm) (fun h=>h.symm)⟩
theorem bCl (conn:Int)(n:Nt):cJ 1 conn [1] [] false n=decide (n.kind=1∧n.conn=conn∧n.pk.1.kind=1):=by
 unfold cJ;rw[bXf];by_cases h:n.kind=1∧n.conn=conn
 ·rw[kB ⟨h.1,h.2,fun h=>by cases h⟩];exact decide_eq_decide.2 ⟨fun g=>⟨h.1,h.2,g⟩,fun g=>g.2.2⟩
 ·rw[kA fun g=>h ⟨g.1,g.2.1⟩,kD fun g=>h ⟨g.1,g.2.1⟩]
theorem qS (conn:Int)(l:List Nt):aV conn l=(cF (cJ 1 conn [1] [] false) l 0).bind fun a=>l[a]?.map (·.client):=by
 unfold aV;rw[show(fun n:Nt=>decide (n.kind=1∧n.conn=conn∧n.pk.1.kind=1))=cJ 1 conn [1] [] false from funext fun n=>(bCl conn n).symm,qH _ l 0];cases cF (cJ 1 conn [1] [] false) l 0<;>rfl
theorem aAf (conn:Int)(l:List Nt):(cF (cJ 1 conn [1] [] false) l 0).isSome=(aV conn l).isSome:=by
 rw[qS]
 cases h:cF (cJ 1 conn [1] [] false) l 0 with
 |none=>rfl
 |some a=>
  have:=fK _ _ _ _ h;show true=(l[a]?.map (·.client)).isSome;rw[kN (by omega)];rfl
theorem aJl (kind:Nat)(conn:Int)(ts c:List UInt8)(n:Nt):cJ kind conn ts c true n=decide (n.kind=kind∧n.conn=conn∧n.client=c∧typ ts n.pk.1.kind=true):=by
 unfold cJ;by_cases h:n.kind=kind∧n.conn=conn∧n.client=c
 ·rw[kB ⟨h.1,h.2.1,fun _=>h.2.2⟩]
  cases ht:typ ts n.pk.1.kind with
  |true=>exact(kC ⟨h.1,h.2.1,h.2.2,rfl⟩).symm
  |false=>exact(kD fun g=>by cases g.2.2.2).symm
 ·rw[kA fun g=>h ⟨g.1,g.2.1,g.2.2 rfl⟩,kD fun g=>h ⟨g.1,g.2.1,g.2.2.1⟩]
theorem iP (f:Nt→Bool)(n:Nt)(r:List Nt)(i:Nat):cF f (n::r) i=if f n then some i else cF f r (i+1):=rfl
theorem lD {conn:Int}{cl:Option (List UInt8)}{n:Nt}{r:List Nt}{i f:Nat}{b:Option Nat}(h:cl.isSome=false∨n.kind≠2∨n.client≠cl.getD []):fH conn cl (n::r) i b f=fH conn cl r (i+1) b f:=kB h
theorem nP {conn:Int}{cl:Option (List UInt8)}{n:Nt}{r:List Nt}{i f f':Nat}{b b':Option Nat}(h:¬(cl.isSome=false∨n.kind≠2∨n.client≠cl.getD []))(hb:(if b=none∧n.pk.1.kind=1∧n.conn=conn then some i else b)=b')(hf:(if n.pk.1.kind=1∧n.present=false∧(b'=none∨b'=some i)then i else f)=f'):
 fH conn cl (n::r) i b f=if b'≠none∧b'≠some i∧n.conn=conn∧(n.pk.1.kind=14∨n.pk.1.kind=0)then(b',f',i)else fH conn cl r (i+1) b' f':=by
 subst hb;subst hf;exact kA h
theorem sH (conn:Int):∀(l:List Nt) (i f:Nat),(fH conn none l i none f).1=none
 |[],i,f=>rfl
 |n::r,i,f=>by
  rw[lD (Or.inl rfl)];exact sH conn r (i+1) f
theorem wJ (conn:Int)(c:List UInt8)(b f:Nat):∀(l:List Nt) (i:Nat),b<i→fH conn (some c) l i (some b) f=(some b,f,(cF (cJ 2 conn [14,0] c true) l i).getD (i+l.length))
 |[],i,h=>rfl
 |n::r,i,h=>by
  have ih:=wJ conn c b f r (i+1) (by omega);have hb:¬(some b=some i):=fun e=>by cases e;omega
  rw[iP,aJl,cFn,show(n::r).length=r.length+1 from rfl];by_cases k:(some c).isSome=false∨n.kind≠2∨n.client≠(some c).getD []
  ·rw[lD k,ih,kA,show i+1+r.length=i+(r.length+1) by omega];intro e;have e:=of_decide_eq_true e;rcases k with k|k|k
   ·cases k
   ·exact k e.1
   ·exact k e.2.2.1
  ·have k2:n.kind=2:=Decidable.byContradiction fun e=>k (Or.inr (Or.inl e));have k3:n.client=c:=Decidable.byContradiction fun e=>k (Or.inr (Or.inr e));have e1:¬(some b=none∧n.pk.1.kind=1∧n.conn=conn):=fun e=>nomatch e.1
   have e2:¬(n.pk.1.kind=1∧n.present=false∧(some b=none∨some b=some i)):=fun e=>e.2.2.elim (fun e=>nomatch e) hb
   rw[nP k (kA e1) (kA e2)];by_cases e3:n.conn=conn∧(n.pk.1.kind=14∨n.pk.1.kind=0)
   ·have e4:some b≠none∧some b≠some i∧n.conn=conn∧(n.pk.1.kind=14∨n.pk.1.kind=0):=⟨Option.some_ne_none b,hb,e3⟩;rw[kB e4,kB (kC ⟨k2,e3.1,k3,kC e3.2⟩)];rfl
   ·rw[kA fun e=>e3 ⟨e.2.2.1,e.2.2.2⟩,kA (fun e=>by have e:=of_decide_eq_true e;exact e3 ⟨e.2.1,of_decide_eq_true e.2.2.2⟩),ih,show i+1+r.length=i+(r.length+1) by omega]
theorem qC (conn:Int)(c:List UInt8):∀(l:List Nt) (i f:Nat),(match cF (cJ 2 conn [1] c true) l i with
 |none=>(fH conn (some c) l i none f).1=none
 |some b=>fH conn (some c) l i none f=(some b,gH c (l.take (b+1-i)) i f,(cF (cJ 2 conn [14,0] c true) (l.drop (b+1-i)) (b+1)).getD (i+l.length)))
 |[],i,f=>rfl
 |n::r,i,f=>by
  have cb:=aJl 2 conn [1] c n;rw[bXf]at cb;have stp:∀f',(∀t,gH c (n::t) i f=gH c t (i+1) f')→fH conn (some c) (n::r) i none f=fH conn (some c) r (i+1) none f'→
   match cF (cJ 2 conn [1] c true) r (i+1)with
   |none=>(fH conn (some c) (n::r) i none f).1=none
   |some b=>fH conn (some c) (n::r) i none f=(some b,gH c ((n::r).take (b+1-i)) i f,(cF (cJ 2 conn [14,0] c true) ((n::r).drop (b+1-i)) (b+1)).getD (i+(n::r).length)):=by
   intro f' hf hs;have ih:=qC conn c r (i+1) f';rw[hs]
   cases hb:cF (cJ 2 conn [1] c true) r (i+1)with
   |none=>rw[hb]at ih;exact ih
   |some b=>
    rw[hb]at ih;have:=fK _ _ _ _ hb;show fH conn (some c) r (i+1) none f'=_;have ih:fH conn (some c) r (i+1) none f'=_:=ih;rw[ih,show b+1-i=(b+1-(i+1))+1 by omega,List.take_succ_cons,List.drop_succ_cons,hf,kM,show i+1+r.length=i+(r.length+1) by omega]
  by_cases k:n.kind=2∧n.client=c
  ·have kk:¬((some c).isSome=false∨n.kind≠2∨n.client≠(some c).getD []):=fun e=>e.elim (fun e=>by cases e) fun e=>e.elim (fun e=>e k.1) fun e=>e k.2;by_cases g:n.pk.1.kind=1∧n.conn=conn
   ·rw[iP,cb,kB (kC ⟨k.1,g.2,k.2,kC g.1⟩)];show fH conn (some c) (n::r) i none f=_;have e1:(none:Option Nat)=none∧n.pk.1.kind=1∧n.conn=conn:=⟨rfl,g⟩;rw[nP kk (kB e1) rfl,kA (fun e=>e.2.1 rfl),wJ conn c i _ r (i+1) (by omega),show i+1-i=1 by omega,kM,show i+1+r.length=i+(r.length+1) by omega];show(some i,_,_)=(some i,gH c [n] i f,(cF _ r (i+1)).getD _);congr 2;show _=(if n.kind=2∧n.client=c∧n.pk.1.kind=1∧n.present=false then i else f)
    by_cases p:n.present=false
    ·rw[kB ⟨g.1,p,Or.inr rfl⟩,kB ⟨k.1,k.2,g.1,p⟩]
    ·rw[kA fun e=>p e.2.1,kA fun e=>p e.2.2.2]
   ·rw[iP,cb,kA (fun e=>by have e:=of_decide_eq_true e;exact g ⟨of_decide_eq_true e.2.2.2,e.2.1⟩)];refine stp (if n.kind=2∧n.client=c∧n.pk.1.kind=1∧n.present=false then i else f) (fun t=>rfl) ?_
    have e1:¬((none:Option Nat)=none∧n.pk.1.kind=1∧n.conn=conn):=fun e=>g e.2;rw[nP kk (kA e1) rfl,kA fun e=>e.1 rfl];by_cases p:n.pk.1.kind=1∧n.present=false
    ·rw[kB ⟨p.1,p.2,Or.inl rfl⟩,kB ⟨k.1,k.2,p.1,p.2⟩]
    ·rw[kA fun e=>p ⟨e.1,e.2.1⟩,kA fun e=>p ⟨e.2.2.1,e.2.2.2⟩]
  ·rw[iP,cb,kA (fun e=>by have e:=of_decide_eq_true e;exact k ⟨e.1,e.2.2.1⟩)];refine stp (if n.kind=2∧n.client=c∧n.pk.1.kind=1∧n.present=false then i else f) (fun t=>rfl) ?_
   rw[kA fun e=>k ⟨e.1,e.2.1⟩];by_cases k2:n.kind=2
   ·rw[lD (Or.inr (Or.inr fun e=>k ⟨k2,e⟩))]
   ·rw[lD (Or.inr (Or.inl k2))]
theorem aHx (conn:Int)(l:List Nt):eV conn l=aFd conn l:=by
 unfold eV aFd;have ha:=qS conn l
 cases hf:cF (cJ 1 conn [1] [] false) l 0 with
 |none=>
  rw[hf]at ha;have ha:aV conn l=none:=ha;rw[ha,sH]
 |some a=>
  rw[hf]at ha;have hl:=fK _ _ _ _ hf;obtain⟨c,hc⟩:∃c,l[a]?.map (·.client)=some c:=by rw[kN (by omega)];exact⟨_,rfl⟩
  have ha:aV conn l=l[a]?.map (·.client):=ha;rw[hc]at ha;rw[ha];have e:(l[a]?.map (·.client)).getD []=c:=by rw[hc];rfl
  simp only[e];have sb:=qC conn c l 0 0
  cases hb:cF (cJ 2 conn [1] c true) l 0 with
  |none=>
   rw[hb]at sb;have sb:(fH conn (some c) l 0 none 0).1=none:=sb;rw[sb]
  |some b=>
   rw[hb]at sb;have sb:fH conn (some c) l 0 none 0=(some b,gH c (l.take (b+1-0)) 0 0,(cF (cJ 2 conn [14,0] c true) (l.drop (b+1-0)) (b+1)).getD (0+l.length)):=sb;rw[sb,Nat.sub_zero,Nat.zero_add];rfl
end Go.Proofs.YtohapjojkjjflaaGreatDoor.Wz

set_option maxRecDepth 100000
namespace Go.Proofs.YtohapjojkjjflaaGreatDoor.Wz
open Tryz (prog)
open Go Go.AM WzA WzB WzD
open Go.AM.Pk (K0 K1 K2 K3 K4 K5 K6 K7 K8 K10 K11)
def vX (dec:List UInt8→Option (Pq×List Sb×Nat))(asked:Bool)(ans:List Pq)(ms:List Ms):Nat→PS→List UInt8→Nat→Nat×Bool
 |0,_,_,a=>(a,true)
 |f+1,s,l,a=>if l=[]then(a,true)else
  match dec l with
  |none=>(a,false)
  |some x=>match gN asked ans ms s x.1 x.2.1 with
   |none=>(a,false)
   |some s'=>vX dec asked ans ms f {s' with packets:=s'.packets+1} (l.drop x.2.2) (a+x.2.2)
structure PI (ms:List Ms)(s:PS)(a:Nat):Prop where
 told:s.told≤a
 packets:s.packets≤a
 len:s.ends.length≤200
 ends:∀i∈s.ends,i≤1000
theorem aCf {ms:List Ms}(hl:ms.length≤200)(m:Ms){e:List Nat}(h:e.length≤200):(dB ms m e).length≤200∧∀i∈dB ms m e,i≤1000:=by
 unfold dB;refine⟨by rw[pA];exact kG (List.length_filter_le _ _) h,fun i hi=>?_⟩;obtain⟨j,hj,rfl⟩:=List.mem_map.1 hi;have:=of_decide_eq_true (List.mem_filter.1 hj).2;have:=(List.getElem?_eq_some_iff.1 this).1;omega
theorem aHo {asked:Bool}{ans:List Pq}{ms:List Ms}{s s':PS}{p:Pq}{es:List Sb}{a n:Nat}(hl:ms.length≤200)(i:PI ms s a)(h0:0<n)(h:gN asked ans ms s p es=some s'):PI ms {s' with packets:=s'.packets+1} (a+n):=by
 have h1:=i.told;have h2:=i.packets;unfold gN at h;split at h
 ·split at h
  ·cases h;unfold stA;split
   ·exact⟨by show s.told+1≤_;omega,by show s.packets+1≤_;omega,i.len,i.ends⟩
   ·exact⟨by show s.told+1≤_;omega,by show s.packets+1≤_;omega,i.len,i.ends⟩
  ·cases h
 ·split at h
  ·cases h
  ·split at h
   ·split at h
    ·split at h
     ·cases h
     ·cases h;exact⟨by show s.told≤_;omega,by show s.packets+1≤_;omega,(aCf hl _ i.len).1,(aCf hl _ i.len).2⟩
    ·split at h
     ·cases h;exact⟨by show s.told≤_;omega,by show s.packets+1≤_;omega,i.len,i.ends⟩
     ·cases h
   ·split at h
    ·cases h;exact⟨by show s.told≤_;omega,by show s.packets+1≤_;omega,i.len,i.ends⟩
    ·split at h
     ·cases h;exact⟨by show s.told≤_;omega,by show s.packets+1≤_;omega,i.len,i.ends⟩
     ·cases h
theorem T6m {Q:Orc}(ka:KnA Q){B0 h:H}{n:Nat}{dec:List UInt8→Option (Pq×List Sb×Nat)}(pos:∀l p es n,dec l=some (p,es,n)→0<n∧n≤l.length)(hn:1001600≤n)
 (hD:∀(h:H) (l:List UInt8),l.length≤1000300→Ext B0 h→D7 (aA prog 2 Q n 15 [str l] h) h (dec l)) {x0:Value} {l:List Nt} (r:NIn h x0 l) (hB0:Ext B0 h) (conn:Int) {sent:List UInt8} (hs:sent.length≤3000):
 ∃h',aA prog 2 Q (n+1) 6 [x0,.int .i64 conn,str sent] h=some (.tuple ⟨[.int .i64 ((vX dec (aV conn l).isSome (jS conn [] l) (eV conn l) (sent.length+1) ⟨0,0,zq 0,false,false,List.range (eV conn l).length⟩ sent 0).1:Int),.bool (vX dec (aV conn l).isSome (jS conn [] l) (eV conn l) (sent.length+1) ⟨0,0,zq 0,false,false,List.range (eV conn l).length⟩ sent 0).2]⟩,h')∧Ext h h':=by
 rw[cKq Q n _ _ _ h (ka.fr 6 _ (by decide))];obtain⟨h1,wp,c1,c3,va,vm,e1,ws1⟩:=T14 ka (h:=h) (n:=n) (by omega) r conn;have hml:(eV conn l).length≤200:=kG (sL conn l) r.le;obtain⟨ms,hms⟩:∃ms,ms=eV conn l:=⟨_,rfl⟩;obtain⟨ans,hans⟩:∃ans,ans=jS conn [] l:=⟨_,rfl⟩;obtain⟨asked,hask⟩:∃asked,asked=(aV conn l).isSome:=⟨_,rfl⟩;rw[←hms]at hml;rw[←hms,←hans,←hask]at ws1⊢;obtain⟨N,hN⟩:∃N,n=N+1:=⟨n-1,by omega⟩;have lp:∀(f m a:Nat) (s:PS) (h':H) (L:Nat),a≤sent.length→sent.length-a<f→f≤m→WS h h' wp c1 c3 va vm asked ans ms s→PI ms s a→∃h2,Ext h h2∧∀(kr:K2 (Value×H)) (kx:K1 (Value×H)),(∀v h,kx v h=kr v (.bool true) h)→xO (aA prog 2 Q n) L kr kx m (aB wp) (str sent) (.int .i64 (a:Int)) h'=kr (.int .i64 ((vX dec asked ans ms f s (sent.drop a) a).1:Int)) (.bool (vX dec asked ans ms f s (sent.drop a) a).2) h2:=by
  intro f
  induction f with
  |zero=>intro m a s h' L ha hf;omega
  |succ f ih=>
   intro m a s h' L ha hf hm ws pi;obtain⟨m,rfl⟩:∃r,m=r+1:=⟨m-1,by omega⟩;unfold vX;by_cases hz:sent.drop a=[]
   ·rw[kB hz];have:=oU hz;have dl:decide ((a:Int)<(sent.length:Int))=false:=by rw[kI];omega
    refine⟨h',ws.x,fun kr kx hk=>?_⟩;simp only[xO,aLb,qJ,WzO.S,zZ,dl,hk]
   ·rw[kA hz];have hlt:a<sent.length:=by
     rcases Nat.lt_or_ge a sent.length with h|h
     ·exact h
     ·exact absurd (pL h) hz
    have dl:decide ((a:Int)<(sent.length:Int))=true:=by rw[kJ];omega
    have sl:=slS ha;have d7:=hD h' (sent.drop a) (by rw[kU];omega) (hB0.trans ws.x);have t0:∀a b c:Value,A.z 0 (.tuple ⟨[a,b,c]⟩)=some a:=fun _ _ _=>rfl;have t1:∀a b c:Value,A.z 1 (.tuple ⟨[a,b,c]⟩)=some b:=fun _ _ _=>rfl;have t2:∀a b c:Value,A.z 2 (.tuple ⟨[a,b,c]⟩)=some c:=fun _ _ _=>rfl
    cases hd:dec (sent.drop a)with
    |none=>
     rw[hd]at d7;obtain⟨h1,e,e15,he,x1⟩:=d7;obtain⟨h2,h3,e2,e3,_,x3⟩:=oR h1 (zq 0) aF;have dn:A.zA prog .neq 45 (.int .i64 (e:Int)) (.int .i64 0)=some (.bool true):=by rw[aK,kD (by omega)];rfl
     refine⟨h3,ws.x.trans (x1.trans x3),fun kr kx hk=>?_⟩;simp only[xO,aLb,qJ,WzO.S,zZ,dl,aSh,sl,e15,pJ,t0,t1,t2,e2,e3,dn]
    |some x=>
     obtain⟨p,es,u⟩:=x;rw[hd]at d7;obtain⟨h1,w,e15,slw,_,x1⟩:=d7;obtain⟨hn0,hn1⟩:=pos _ _ _ _ hd;rw[kU]at hn1;have e15:aA prog 2 Q n 15 [str (sent.drop a)] h'=some (.tuple ⟨[.agg ⟨p.cells w⟩,.int .i64 (u:Int),.int .i64 0]⟩,h1):=e15;obtain⟨h2,h3,e2,e3,b3,x3⟩:=oR h1 p w;have la:=b3.all;have ws3:=ws.ext (x1.trans x3);obtain⟨h4,e4,x4,f4⟩:=cKe ka ws3 (n:=N) (by omega) (p:=p) (slw.ext x3) (by have:=pi.told;omega) hml pi.len pi.ends;have e4:aA prog 2 Q n 16 [aB wp,.agg ⟨p.cells w⟩] h3=_:=(congrArg (fun n=>aA prog 2 Q n 16 [aB wp,.agg ⟨p.cells w⟩] h3) hN).trans e4;have dn:A.zA prog .neq 45 (.int .i64 0) (.int .i64 0)=some (.bool false):=by rw[aK];rfl
     cases hst:gN asked ans ms s p es with
     |none=>
      rw[hst]at e4;refine⟨h4,x4,fun kr kx hk=>?_⟩;have e4:aA prog 2 Q n 16 [aB wp,.agg ⟨p.cells w⟩] h3=some (.bool false,h4):=e4;simp only[xO,aLb,qJ,WzO.S,zZ,dl,aSh,sl,e15,t0,t1,t2,e2,e3,dn,la,e4,hst]
     |some s'=>
      rw[hst]at e4;have ws4:=f4 s' hst;obtain⟨fw,g4⟩:=ws4.w;have pi':=aHo hml pi hn0 hst;obtain⟨h5,e5,g5,x5,n5⟩:=dN (i:=3) (v:=.int .i64 ((s'.packets+1:Nat):Int)) (cs':=wC asked va vm (s'.packets+1) s'.told s'.first fw s'.begun s'.again (iF c1 c3)) g4 rfl (by rw[show(wC asked va vm s'.packets s'.told s'.first fw s'.begun s'.again (iF c1 c3)).length=32 from rfl];omega) rfl;have w3:A.load false 1 (.pointer (some ⟨wp,3,none⟩)) h4=some (.int .i64 (s'.packets:Int)):=by rw[qK,g4];rfl
      have hp:=pi'.packets;have hp:s'.packets+1≤a+u:=hp;have wr:A.zA prog .add 3 (.int .i64 (s'.packets:Int)) (.int .i64 1)=some (.int .i64 ((s'.packets+1:Nat):Int)):=by rw[aG,aI (by omega)]
      have wa:A.zA prog .add 3 (.int .i64 (a:Int)) (.int .i64 (u:Int))=some (.int .i64 ((a+u:Nat):Int)):=iZ (by omega);have ws5:WS h h5 wp c1 c3 va vm asked ans ms {s' with packets:=s'.packets+1}:=ws4.put x5 rfl ⟨fw,g5⟩;obtain⟨h6,x6,f6⟩:=ih m (a+u) _ h5 L (by omega) (by omega) (by omega) ws5 pi';refine⟨h6,x6,fun kr kx hk=>?_⟩;have e4:aA prog 2 Q n 16 [aB wp,.agg ⟨p.cells w⟩] h3=some (.bool true,h4):=e4;simp only[xO,aLb,qJ,WzO.S,zZ,dl,aSh,sl,e15,t0,t1,t2,e2,e3,dn,la,e4,WzO.n0,w3,wr,e5,wa,hst,f6 kr kx hk,pS]
 obtain⟨h2,x2,f2⟩:=lp (sent.length+1) n 0 _ h1 n (pQ _) (by omega) (by omega) ws1 ⟨kF _,kF _,by show(List.range _).length≤200;rw[List.length_range];exact hml,fun i hi=>by have:=List.mem_range.1 hi;omega⟩;rw[List.drop_zero]at f2;refine⟨h2,?_,x2⟩;have f2:=f2 (fun x6 x7 h=>some (.tuple ⟨[x6,x7]⟩,h)) (fun x6 h=>bHf h x6 (fun x6 x7 h=>some (.tuple ⟨[x6,x7]⟩,h))) (fun v h=>rfl);have f2:xO (aA prog 2 Q n) n (fun x6 x7 h=>some (Value.tuple ⟨[x6,x7]⟩,h)) (fun x6 h=>bHf h x6 (fun x6 x7 h=>some (Value.tuple ⟨[x6,x7]⟩,h))) n (aB wp) (str sent) (.int .i64 0) h1=_:=f2;simp only[F6,p6a,cDf,e1,WzO.S];exact f2
end Go.Proofs.YtohapjojkjjflaaGreatDoor.Wz

set_option maxRecDepth 100000
namespace Go.Proofs.YtohapjojkjjflaaGreatDoor.Wz
open Go Go.AM
def eG (asked:Bool)(ans:List Pq)(ms:List Ms)(ps:List Pd)(p:Pq):Bool:=
 if eT p.kind=true then
  if asked=false then decide (ps.length=1∧p.kind=2∧(p.code=1∨p.code=2))else eH ans ps 0
 else match jZ ps 0 with
  |none=>false
  |some f=>
   if 0<((ps[f]?.map fun x=>x.1).getD (zq 0)).code then false
   else if p.kind≠3 then decide (p.kind=6∨p.kind=7∨p.kind=13)
   else if p.dup=false then jD (gT ps) ms
   else if(ps.drop (f+1)).all iD=true then(if((ps[f]?.map fun x=>x.1).getD (zq 0)).present=true then jD [bF p] ms else false)else false
theorem aNu (conn:Int)(l:List Nt)(ps:List Pd)(p:Pq):jB conn l ps p=eG (aV conn l).isSome (jS conn [] l) (eV conn l) ps p:=by
 unfold jB eG;rw[aAf,aHx]<;>rfl
theorem mA (want:List Pq)(x:Pd):∀(ps:List Pd) (k:Nat),eH want (ps++[x]) k=(eH want ps k&&(if eT x.1.kind=true then decide (want[k+(ps.filter fun x=>eT x.1.kind).length]?=some x.1∧x.2=[])else true))
 |[],k=>by
  show(if eT x.1.kind=true then _ else _)=_
  by_cases h:eT x.1.kind=true
  ·rw[kB h,kB h];show _=decide (want[k]?=some x.1∧x.2=[]);by_cases g:want[k]?=some x.1∧x.2=[]
   ·rw[kB g,kC g];rfl
   ·rw[kA g,kD g]
  ·rw[kA h,kA h];rfl
 |y::r,k=>by
  have ih:=mA want x r;show(if eT y.1.kind=true then(if want[k]?=some y.1∧y.2=[]then eH want (r++[x]) (k+1)else false)else eH want (r++[x]) k)=((if eT y.1.kind=true then(if want[k]?=some y.1∧y.2=[]then eH want r (k+1)else false)else eH want r k)&&_)
  by_cases h:eT y.1.kind=true
  ·rw[kB h,kB h];by_cases g:want[k]?=some y.1∧y.2=[]
   ·rw[kB g,kB g,ih,List.filter_cons_of_pos (p:=fun x:Pd=>eT x.1.kind) h,kM,show k+1+(r.filter fun x=>eT x.1.kind).length=k+((r.filter fun x=>eT x.1.kind).length+1) by omega]
   ·rw[kA g,kA g,Bool.false_and]
  ·rw[kA h,kA h,ih,List.filter_cons_of_neg (p:=fun x:Pd=>eT x.1.kind) h]
theorem rK (x:Pd):∀(ps:List Pd) (i:Nat),jZ (ps++[x]) i=match jZ ps i with|some f=>some f|none=>if x.1.kind=2 then some (i+ps.length)else none
 |[],i=>rfl
 |y::r,i=>by
  show(if y.1.kind=2 then some i else jZ (r++[x]) (i+1))=match(if y.1.kind=2 then some i else jZ r (i+1))with|some f=>some f|none=>if x.1.kind=2 then some (i+(r.length+1))else none
  by_cases h:y.1.kind=2
  ·rw[kB h,kB h]
  ·rw[kA h,kA h,rK x r (i+1),show i+1+r.length=i+(r.length+1) by omega]
theorem mY (x:Pd)(ps:List Pd):gT (ps++[x])=gT ps++(if x.1.kind=3∧x.1.dup=false then[bF x.1]else[]):=by
 unfold gT;rw[List.filter_append,List.map_append];congr 1;by_cases h:x.1.kind=3∧x.1.dup=false
 ·rw[kB h,List.filter_cons_of_pos (p:=fun x:Pd=>decide (x.1.kind=3∧x.1.dup=false)) (kC h)];rfl
 ·rw[kA h,List.filter_cons_of_neg (by simpa using h)];rfl
def aFg (own ms:List Ms)(j:Nat):Prop:=∃t,j=t+own.length∧j≤ms.length∧(ms.drop t).take own.length=own
theorem sK (own ms:List Ms):jD own ms=true↔∃j,aFg own ms j:=by
 unfold jD;rw[List.any_eq_true];constructor
 ·rintro⟨t,_,h⟩;rw[kO]at h;exact⟨t+own.length,t,rfl,of_decide_eq_true h.1,of_decide_eq_true h.2⟩
 ·rintro⟨_,t,rfl,h1,h2⟩;exact⟨t,List.mem_range.2 (by omega),by rw[kC h1,kC h2];rfl⟩
theorem lI (own ms:List Ms)(m:Ms)(j:Nat):aFg (own++[m]) ms (j+1)↔aFg own ms j∧ms[j]?=some m:=by
 have tk:∀t,(ms.drop t).take (own.length+1)=(ms.drop t).take own.length++(ms[t+own.length]?).toList:=fun t=>by rw[List.take_add_one,pX]
 constructor
 ·rintro⟨t,h1,h2,h3⟩;rw[kL,List.length_singleton]at h1 h3;have hj:j=t+own.length:=by omega
  rw[tk,←hj]at h3;have hlt:j<ms.length:=by omega
  rw[kN hlt]at h3⊢;have:=List.append_inj' h3 rfl;refine⟨⟨t,hj,by omega,this.1⟩,?_⟩;have:=this.2;simp only[Option.toList_some,List.cons.injEq,and_true]at this;rw[this]
 ·rintro⟨⟨t,h1,h2,h3⟩,h4⟩;have hlt:=(List.getElem?_eq_some_iff.1 h4).1;refine⟨t,by rw[kL,List.length_singleton];omega,by omega,?_⟩;rw[kL,List.length_singleton,tk,←h1,h3,h4];rfl
theorem wY {own ms:List Ms}{m:Ms}{j:Nat}(h:aFg (own++[m]) ms j):∃i,j=i+1:=by
 obtain⟨t,h1,_⟩:=h;rw[kL,List.length_singleton]at h1;exact⟨t+own.length,by omega⟩
structure Rel (asked:Bool)(ans:List Pq)(ms:List Ms)(ps:List Pd)(s:PS):Prop where
 packets:s.packets=ps.length
 told:s.told=(ps.filter fun x=>eT x.1.kind).length
 mat:asked=true→eH ans ps 0=true
 na:asked=false→ps≠[]→s.begun=true∧0<s.first.code
 begun:match jZ ps 0 with
  |none=>s.begun=false∧s.again=false
  |some f=>s.begun=true∧(ps[f]?.map fun x=>x.1).getD (zq 0)=s.first∧s.again=(s.first.present&&(ps.drop (f+1)).all iD)
 ends:∀j,j<ms.length→(j∈s.ends↔aFg (gT ps) ms j)
theorem aNv (asked:Bool)(ans:List Pq)(ms:List Ms):Rel asked ans ms [] ⟨0,0,zq 0,false,false,List.range ms.length⟩:=by
 refine⟨rfl,rfl,fun _=>rfl,fun _ h=>absurd rfl h,⟨rfl,rfl⟩,fun j hj=>⟨fun _=>⟨j,rfl,Nat.le_of_lt hj,rfl⟩,fun _=>List.mem_range.2 hj⟩⟩
section
variable {asked:Bool}{ans:List Pq}{ms:List Ms}{ps:List Pd}{s:PS}(r:Rel asked ans ms ps s)(x:Pd)
include r
theorem xD {f:Nat}(hf:jZ ps 0=some f):((ps++[x]).drop (f+1)).all iD=((ps.drop (f+1)).all iD&&iD x)∧(ps++[x])[f]?=ps[f]?:=by
 have _:=r;have:=uK _ _ _ hf;rw[List.drop_append_of_le_length (by omega),List.all_append,kV (by omega)];exact⟨by simp,rfl⟩
theorem aHp (hk:eT x.1.kind=true):eG asked ans ms (ps++[x]) x.1=okA asked ans s x.1 x.2∧(okA asked ans s x.1 x.2=true→Rel asked ans ms (ps++[x]) {stA s x.1 with packets:=(stA s x.1).packets+1}):=by
 have hst:iD x=false:=by
  unfold iD;refine kD fun h=>?_;have:=of_decide_eq_true hk;omega
 have k3:¬(x.1.kind=3∧x.1.dup=false):=fun h=>by
  have:=of_decide_eq_true hk;omega
 have hown:gT (ps++[x])=gT ps:=by rw[mY,kA k3,List.append_nil]
 have eq1:eG asked ans ms (ps++[x]) x.1=okA asked ans s x.1 x.2:=by
  unfold eG okA;rw[kB hk]
  cases asked with
  |false=>
   rw[kB rfl,kA (by decide),r.packets,kL,List.length_singleton];exact decide_eq_decide.2 ⟨fun h=>⟨by omega,h.2⟩,fun h=>⟨by omega,h.2⟩⟩
  |true=>rw[kA (by decide),kB rfl,mA,r.mat rfl,kB hk,Nat.zero_add,r.told,Bool.true_and]
 refine⟨eq1,fun ok=>?_⟩;have tol:(stA s x.1).told=s.told+1:=by unfold stA;split<;>rfl
 have pac:(stA s x.1).packets=s.packets:=by unfold stA;split<;>rfl
 have end':(stA s x.1).ends=s.ends:=by unfold stA;split<;>rfl
 have fs:=rK x ps 0;rw[Nat.zero_add]at fs;have beg:match jZ (ps++[x]) 0 with
  |none=>(stA s x.1).begun=false∧(stA s x.1).again=false
  |some f=>(stA s x.1).begun=true∧((ps++[x])[f]?.map fun x=>x.1).getD (zq 0)=(stA s x.1).first∧(stA s x.1).again=((stA s x.1).first.present&&((ps++[x]).drop (f+1)).all iD):=by
  have b:=r.begun;rw[fs]
  cases hf:jZ ps 0 with
  |none=>
   rw[hf]at b;by_cases k2:x.1.kind=2
   ·rw[kB k2];unfold stA;rw[kB ⟨k2,b.1⟩];show true=true∧((ps++[x])[ps.length]?.map fun x=>x.1).getD (zq 0)=x.1∧x.1.present=(x.1.present&&((ps++[x]).drop (ps.length+1)).all iD);rw[kW (kF _),Nat.sub_self,pL (by rw[kL,List.length_singleton];omega)];exact⟨rfl,rfl,by simp⟩
   ·rw[kA k2];unfold stA;rw[kA fun h=>k2 h.1];exact⟨b.1,rfl⟩
  |some f=>
   rw[hf]at b;obtain⟨a1,a2⟩:=xD r x hf;unfold stA;have nb:¬(x.1.kind=2∧s.begun=false):=fun h=>by have:=h.2;rw[b.1]at this;cases this
   rw[kA nb];show s.begun=true∧((ps++[x])[f]?.map fun x=>x.1).getD (zq 0)=s.first∧false=(s.first.present&&((ps++[x]).drop (f+1)).all iD);rw[a1,a2,hst,Bool.and_false,Bool.and_false];exact⟨b.1,b.2.1,rfl⟩
 refine⟨?_,?_,?_,?_,beg,?_⟩
 ·show(stA s x.1).packets+1=_;rw[pac,r.packets,kL];rfl
 ·show(stA s x.1).told=_;rw[tol,r.told,List.filter_append,List.filter_cons_of_pos (p:=fun x:Pd=>eT x.1.kind) hk,kL];rfl
 ·intro ha;subst ha;rw[←ok,←eq1];unfold eG;rw[kB hk,kA (by decide)]
 ·intro ha _;subst ha;unfold okA at ok;rw[kA (by decide)]at ok;have ok:=of_decide_eq_true ok;have hp:ps=[]:=List.length_eq_zero_iff.1 (by rw[←r.packets];exact ok.1);have b:=r.begun;rw[hp]at b;have b:s.begun=false∧s.again=false:=b;show(stA s x.1).begun=true∧0<(stA s x.1).first.code;unfold stA;rw[kB ⟨ok.2.1,b.1⟩];refine⟨rfl,?_⟩;show 0<x.1.code;have:=ok.2.2;omega
 ·intro j hj;show j∈(stA s x.1).ends↔_;rw[end',hown];exact r.ends j hj
theorem aHn (hk:eT x.1.kind=false):eG asked ans ms (ps++[x]) x.1=(gN asked ans ms s x.1 x.2).isSome∧∀s',gN asked ans ms s x.1 x.2=some s'→Rel asked ans ms (ps++[x]) {s' with packets:=s'.packets+1}:=by
 have k2:x.1.kind≠2:=fun h=>by
  have:=of_decide_eq_false hk;exact this (Or.inl h)
 have fs:=rK x ps 0;rw[kA k2]at fs;have fs:jZ (ps++[x]) 0=jZ ps 0:=by rw[fs];cases jZ ps 0<;>rfl
 have b:=r.begun;have hk':¬(eT x.1.kind=true):=by rw[hk];decide
 unfold eG gN;rw[kA hk',kA hk',fs]
 cases hf:jZ ps 0 with
 |none=>
  rw[hf]at b;rw[kB (Or.inl b.1)];exact⟨rfl,fun s' h=>by cases h⟩
 |some f=>
  rw[hf]at b;obtain⟨a1,a2⟩:=xD r x hf;simp only[a2,b.2.1];by_cases hc:0<s.first.code
  ·rw[kB hc,kB (Or.inr hc)];exact⟨rfl,fun s' h=>by cases h⟩
  have nc:¬(s.begun=false∨0<s.first.code):=fun h=>h.elim (fun h=>by rw[b.1]at h;cases h) hc;rw[kA hc,kA nc];have rl:∀s':PS,s'.packets=s.packets→s'.told=s.told→s'.begun=s.begun→s'.first=s.first→s'.again=(s.again&&iD x)→(∀j,j<ms.length→(j∈s'.ends↔aFg (gT (ps++[x])) ms j))→Rel asked ans ms (ps++[x]) {s' with packets:=s'.packets+1}:=by
   intro s' e1 e2 e3 e4 e5 e6;refine⟨?_,?_,?_,?_,?_,e6⟩
   ·show s'.packets+1=_;rw[e1,r.packets,kL];rfl
   ·show s'.told=_;rw[e2,r.told,List.filter_append,List.filter_cons_of_neg (p:=fun x:Pd=>eT x.1.kind) hk',List.filter_nil,List.append_nil]
   ·intro ha;rw[mA,r.mat ha,kA hk'];rfl
   ·intro ha hne;exfalso;have hne:ps≠[]:=fun e=>by rw[e]at hf;cases hf
    exact hc (r.na ha hne).2
   ·rw[fs,hf];show s'.begun=true∧((ps++[x])[f]?.map fun x=>x.1).getD (zq 0)=s'.first∧s'.again=(s'.first.present&&((ps++[x]).drop (f+1)).all iD);rw[e3,e4,e5,a1,a2,b.2.2,Bool.and_assoc];exact⟨b.1,b.2.1,rfl⟩
  by_cases k3:x.1.kind=3
  ·rw[kA (not_not_intro k3),kB k3]
   cases hd:x.1.dup with
   |false=>
    rw[kB rfl,kB rfl];have hown:gT (ps++[x])=gT ps++[bF x.1]:=by rw[mY,kB ⟨k3,hd⟩]
    have hst:iD x=false:=by
     unfold iD;refine kD fun h=>?_;rcases h with h|h
     ·omega
     ·rw[hd]at h;cases h.2
    have en:∀j,j∈dB ms (bF x.1) s.ends↔aFg (gT (ps++[x])) ms j:=by
     intro j;rw[hown];unfold dB;rw[List.mem_map];constructor
     ·rintro⟨i,hi,rfl⟩;obtain⟨h1,h2⟩:=List.mem_filter.1 hi;have h2:=of_decide_eq_true h2;exact(lI _ _ _ _).2 ⟨(r.ends i (List.getElem?_eq_some_iff.1 h2).1).1 h1,h2⟩
     ·intro h;obtain⟨i,rfl⟩:=wY h;obtain⟨h1,h2⟩:=(lI _ _ _ _).1 h;exact⟨i,List.mem_filter.2 ⟨(r.ends i (List.getElem?_eq_some_iff.1 h2).1).2 h1,kC h2⟩,rfl⟩
    have pt:jD (gT (ps++[x])) ms=true↔dB ms (bF x.1) s.ends≠[]:=by
     rw[sK];constructor
     ·rintro⟨j,hj⟩ e;have:=(en j).2 hj;rw[e]at this;cases this
     ·intro e;obtain⟨j,hj⟩:=List.exists_mem_of_ne_nil _ e;exact⟨j,(en j).1 hj⟩
    by_cases hn:dB ms (bF x.1) s.ends=[]
    ·rw[kB hn];refine⟨?_,fun s' h=>by cases h⟩
     cases hp:jD (gT (ps++[x])) ms with
     |false=>rfl
     |true=>exact absurd hn (pt.1 hp)
    ·rw[kA hn];refine⟨pt.2 hn,fun s' h=>?_⟩;cases h;exact rl _ rfl rfl rfl rfl (by rw[hst,Bool.and_false]) fun j _=>en j
   |true=>
    have tf:¬((true:Bool)=false):=by decide
    simp only[kA tf,a1];have hst:iD x=true:=kC (Or.inr ⟨k3,hd⟩);have hown:gT (ps++[x])=gT ps:=by rw[mY,kA (fun h=>by rw[hd]at h;cases h.2),List.append_nil]
    have pm:jD [bF x.1] ms=true↔bF x.1∈ms:=by
     rw[sK];constructor
     ·rintro⟨j,hj⟩;have hj:aFg ([]++[bF x.1]) ms j:=hj;obtain⟨i,rfl⟩:=wY hj;exact List.mem_of_getElem? ((lI _ _ _ _).1 hj).2
     ·intro h;obtain⟨i,hi⟩:=List.mem_iff_getElem?.1 h;have hlt:=(List.getElem?_eq_some_iff.1 hi).1;exact⟨i+1,(lI [] _ _ _).2 ⟨⟨i,rfl,Nat.le_of_lt hlt,rfl⟩,hi⟩⟩
    rw[hst,Bool.and_true];have ag:=b.2.2;by_cases hs:(ps.drop (f+1)).all iD=true
    ·rw[kB hs];rw[hs,Bool.and_true]at ag
     cases hpr:s.first.present with
     |false=>
      rw[hpr]at ag;rw[kA (by decide),kA fun h=>by rw[ag]at h;cases h.1];exact⟨rfl,fun s' h=>by cases h⟩
     |true=>
      rw[hpr]at ag;rw[kB rfl];by_cases hm:bF x.1∈ms
      ·rw[kB ⟨ag,hm⟩];refine⟨pm.2 hm,fun s' h=>?_⟩;cases h;exact rl _ rfl rfl rfl rfl (by rw[hst,Bool.and_true]) fun j hj=>by rw[hown];exact r.ends j hj
      ·rw[kA fun h=>hm h.2];refine⟨?_,fun s' h=>by cases h⟩
       cases hp:jD [bF x.1] ms with
       |false=>rfl
       |true=>exact absurd (pm.1 hp) hm
    ·rw[kA hs];have hs:(ps.drop (f+1)).all iD=false:=by cases h:(ps.drop (f+1)).all iD with|false=>rfl|true=>exact absurd h hs
     rw[hs,Bool.and_false]at ag;rw[kA fun h=>by rw[ag]at h;cases h.1];exact⟨rfl,fun s' h=>by cases h⟩
  ·rw[kB k3,kA k3];have hown:gT (ps++[x])=gT ps:=by rw[mY,kA (fun h=>k3 h.1),List.append_nil]
   by_cases k6:x.1.kind=6
   ·rw[kB k6,kC (Or.inl k6)];refine⟨rfl,fun s' h=>?_⟩;cases h;exact rl _ rfl rfl rfl rfl (by rw[show iD x=true from kC (Or.inl k6),Bool.and_true]) fun j hj=>by rw[hown];exact r.ends j hj
   ·rw[kA k6];have hst:iD x=false:=kD fun h=>h.elim k6 fun h=>k3 h.1;by_cases k7:x.1.kind=7∨x.1.kind=13
    ·rw[kB k7,kC (Or.inr k7)];refine⟨rfl,fun s' h=>?_⟩;cases h;exact rl _ rfl rfl rfl rfl (by rw[hst,Bool.and_false]) fun j hj=>by rw[hown];exact r.ends j hj
    ·rw[kA k7,kD fun h=>h.elim k6 k7];exact⟨rfl,fun s' h=>by cases h⟩
theorem aHq:eG asked ans ms (ps++[x]) x.1=(gN asked ans ms s x.1 x.2).isSome∧∀s',gN asked ans ms s x.1 x.2=some s'→Rel asked ans ms (ps++[x]) {s' with packets:=s'.packets+1}:=by
 cases hk:eT x.1.kind with
 |false=>exact aHn r x hk
 |true=>
  obtain⟨e,f⟩:=aHp r x hk;unfold gN;rw[kB hk,e]
  cases ho:okA asked ans s x.1 x.2 with
  |false=>exact⟨rfl,fun s' h=>by cases h⟩
  |true=>exact⟨rfl,fun s' h=>by cases h;exact f ho⟩
end
def tZ (R:List Pd→Pq→Bool)(dec:List UInt8→Option (Pq×List Sb×Nat)):List Pd→List Pd→List UInt8→Nat→Option Nat
 |_,[],_,_=>none
 |pre,x::r,l,a=>if R (pre++[x]) x.1=true then tZ R dec (pre++[x]) r (l.drop (((dec l).map fun x=>x.2.2).getD 0)) (a+(((dec l).map fun x=>x.2.2).getD 0))else some a
theorem xC {asked:Bool}{ans:List Pq}{ms:List Ms}{dec:List UInt8→Option (Pq×List Sb×Nat)}(pos:∀l p es n,dec l=some (p,es,n)→0<n∧n≤l.length):∀(f:Nat) (s:PS) (pre:List Pd) (l:List UInt8) (a:Nat),l.length<f→Rel asked ans ms pre s→
 vX dec asked ans ms f s l a=match tZ (eG asked ans ms) dec pre (dM dec f l).1 l a with
  |some a'=>(a',false)
  |none=>(a+(dM dec f l).2,decide ((dM dec f l).2=l.length))
 |0,_,_,_,_,h,_=>by omega
 |f+1,s,pre,l,a,h,r=>by
  unfold vX dM
  cases hd:dec l with
  |none=>
   by_cases hl:l=[]
   ·rw[kB hl,hl];rfl
   ·rw[kA hl];show(a,false)=(a+0,decide (0=l.length));rw[kD fun e=>hl (List.length_eq_zero_iff.1 e.symm)];rfl
  |some y=>
   obtain⟨p,es,n⟩:=y;obtain⟨h0,h1⟩:=pos _ _ _ _ hd;have hl:l≠[]:=fun e=>by rw[e]at h1;simp at h1;omega
   rw[kA hl];obtain⟨e1,e2⟩:=aHq r (p,es);have e1:eG asked ans ms (pre++[(p,es)]) p=(gN asked ans ms s p es).isSome:=e1;show(match gN asked ans ms s p es with|none=>(a,false)|some s'=>vX dec asked ans ms f {s' with packets:=s'.packets+1} (l.drop n) (a+n))=match(tZ (eG asked ans ms) dec pre ((p,es)::(dM dec f (l.drop n)).1) l a)with|some a'=>(a',false)|none=>(a+(n+(dM dec f (l.drop n)).2),decide (n+(dM dec f (l.drop n)).2=l.length))
   unfold tZ;rw[e1,hd]
   cases hs:gN asked ans ms s p es with
   |none=>rfl
   |some s'=>
    have ih:=xC pos f _ (pre++[(p,es)]) (l.drop n) (a+n) (by rw[kU];omega) (e2 s' hs);rw[kB (show(some s').isSome=true from rfl)];show vX dec asked ans ms f {s' with packets:=s'.packets+1} (l.drop n) (a+n)=match tZ (eG asked ans ms) dec (pre++[(p,es)]) (dM dec f (l.drop n)).1 (l.drop n) (a+n)with|some a'=>(a',false)|none=>(a+(n+(dM dec f (l.drop n)).2),decide (n+(dM dec f (l.drop n)).2=l.length))
    rw[ih]
    cases tZ (eG asked ans ms) dec (pre++[(p,es)]) (dM dec f (l.drop n)).1 (l.drop n) (a+n)with
    |some a'=>rfl
    |none=>
     show(a+n+_,decide (_=(l.drop n).length))=_;rw[kU,Nat.add_assoc,show decide ((dM dec f (l.drop n)).2=l.length-n)=decide (n+(dM dec f (l.drop n)).2=l.length)from decide_eq_decide.2 (by omega)]
end Go.Proofs.YtohapjojkjjflaaGreatDoor.Wz

set_option maxRecDepth 100000
namespace Go.Proofs.YtohapjojkjjflaaGreatDoor.Wz
open Tryz (prog)
open Go Go.AM WzA WzB WzD
open Go.AM.Pk (K0 K1 K2 K3 K4 K5 K6 K7 K8 K10 K11)
theorem uL {dec:List UInt8→Option (Pq×List Sb×Nat)}(pos:∀l p es n,dec l=some (p,es,n)→0<n∧n≤l.length):∀(f:Nat) (l:List UInt8),(dM dec f l).1.length≤l.length
 |0,_=>pQ _
 |f+1,l=>by
  unfold dM
  cases h:dec l with
  |none=>exact pQ _
  |some x=>
   obtain⟨p,es,n⟩:=x;have:=pos l p es n h;have ih:=uL pos f (l.drop n);rw[kU]at ih;show(dM dec f (l.drop n)).1.length+1≤_;omega
theorem aOq {dec:List UInt8→Option (Pq×List Sb×Nat)}{f:Nat}{l:List UInt8}(h:(dM dec f l).1≠[]):∃f' x,f=f'+1∧dec l=some x∧(dM dec f l).1=(x.1,x.2.1)::(dM dec f' (l.drop x.2.2)).1:=by
 cases f with
 |zero=>exact absurd rfl h
 |succ f=>
  cases hd:dec l with
  |none=>
   unfold dM at h;rw[hd]at h;exact absurd rfl h
  |some x=>
   refine⟨f,x,rfl,rfl,?_⟩
   conv=>lhs;unfold dM
   rw[hd]
section
variable {Q:Orc}(ka:KnA Q)(kd:KnB Q)
include ka kd
theorem lp7 {B B0:H}{x0 x8 x9:Value}{l:List Nt}(r:NIn B x0 l)(hB0:Ext B0 B)(conn:Int){ps:List Pe}(rp:InR B x8 ps)(hl:ps.length≤3900){dec:List UInt8→Option (Pq×List Sb×Nat)}(pos:∀l p es n,dec l=some (p,es,n)→0<n∧n≤l.length){n:Nat}(hn:1003000≤n)
 (hD:∀(h:H) (l:List UInt8),l.length≤1000300→Ext B0 h→D7 (aA prog 2 Q n 18 [str l] h) h (dec l)) {s:List UInt8} (hs:s.length≤3000) (L:Nat):
 ∀(d i m a f:Nat) (h:H),i+d=ps.length→d<m→a≤s.length→Ext B h→(ps.map Pe.d).drop i=(dM dec f (s.drop a)).1→
  ∃h',Ext h h'∧∀(kr kx:K2 (Value×H)),aEn (aA prog 2 Q n) L kr kx m (.int .i64 (i:Int)) (.int .i64 (a:Int)) x8 (.int .i64 conn) x0 x9 (str s) h=
   match tZ (jB conn l) dec ((ps.map Pe.d).take i) ((ps.map Pe.d).drop i) (s.drop a) a with
   |some a'=>kr (.int .i64 (a':Int)) (.bool false) h'
   |none=>kx x9 (str s) h':=by
 intro d
 induction d with
 |zero=>
  intro i m a f h hi hm ha x hc;obtain⟨m,rfl⟩:∃r,m=r+1:=⟨m-1,by omega⟩;have ln:=(rp.ext x).ln;have dl:decide ((i:Int)<(ps.length:Int))=false:=by rw[kI];omega
  refine⟨h,Ext.refl h,fun kr kx=>?_⟩;rw[pL (by rw[pA];omega)];simp only[aEn,aSg,ln,WzO.S,zZ,dl,tZ]
 |succ d ih=>
  intro i m a f h hi hm ha x hc;obtain⟨m,rfl⟩:∃r,m=r+1:=⟨m-1,by omega⟩;have ln:=(rp.ext x).ln;have dl:decide ((i:Int)<(ps.length:Int))=true:=by rw[kJ];omega
  obtain⟨p,hp⟩:∃p,ps[i]?=some p:=⟨_,kN (by omega)⟩;have dr:=nI hp;obtain⟨f',y,rfl,hd,hcc⟩:=aOq (dec:=dec) (f:=f) (l:=s.drop a) (by rw[←hc,dr];exact List.cons_ne_nil _ _);obtain⟨q,es,k⟩:=y;have hcc:(dM dec (f'+1) (s.drop a)).1=(q,es)::(dM dec f' ((s.drop a).drop k)).1:=hcc;rw[hcc,dr]at hc;obtain⟨hpd,hrest⟩:=List.cons.inj hc;obtain⟨h0,h1⟩:=pos _ _ _ _ hd;rw[kU]at h1;have wi:A.zA prog .add 3 (.int .i64 (i:Int)) (.int .i64 1)=some (.int .i64 ((i+1:Nat):Int)):=by rw[aG,aI (by omega)]
  have rx:=rp.ext x;obtain⟨v',sv,sl,_,_⟩:=aIx rx.row (lo:=0) (hi:=i+1) (pQ _) (by rw[pA];omega) (fun e=>by rw[List.map_eq_nil_iff]at e;rw[e]at hp;cases hp) (Or.inr rfl);have sv:=sv none (Or.inr ⟨rfl,rfl⟩);rw[List.drop_zero,Nat.sub_zero,←List.map_take]at sl;have rt:InR h v' (ps.take (i+1)):=⟨sl,fun r hr=>rx.sub r (List.mem_of_mem_take hr)⟩;have tl:(ps.take (i+1)).length=i+1:=by rw[kT];omega
  obtain⟨h2,e2,x2⟩:=U17 ka kd (h:=h) (n:=n) (by omega) (r.ext x) conn rt (by omega) (p:=p) (by rw[tl,Nat.add_sub_cancel,pW,kB (by omega)];exact hp);have tk:(ps.take (i+1)).map Pe.d=(ps.map Pe.d).take i++[p.d]:=by rw[List.map_take,List.take_add_one,aFi hp];rfl
  rw[tk]at e2;rw[dr];have hpe:p.d.1=p.1:=rfl;unfold tZ;rw[hpe]
  cases hR:jB conn l ((ps.map Pe.d).take i++[p.d]) p.1 with
  |false=>
   rw[hR]at e2;refine⟨h2,x2,fun kr kx=>?_⟩;rw[kA (by decide)];simp only[aEn,aSg,ln,WzO.S,zZ,dl,wi,sv,e2]
  |true=>
   rw[hR]at e2;have d7:=hD h2 (s.drop a) (by rw[kU];omega) (hB0.trans (x.trans x2));rw[hd]at d7;obtain⟨h3,w,e3,slw,sw,x3⟩:=d7;have t0:A.z 0 (pJ q w (k,0))=some (.agg ⟨q.cells w⟩):=rfl;have t1:A.z 1 (pJ q w (k,0))=some (.int .i64 (k:Int)):=rfl;have t2:A.z 2 (pJ q w (k,0))=some (.int .i64 0):=rfl;obtain⟨h4,h5,e4,e5,_,x5⟩:=oR h3 q w;have wa:A.zA prog .add 3 (.int .i64 (a:Int)) (.int .i64 (k:Int))=some (.int .i64 ((a+k:Nat):Int)):=by rw[aG,aS (by omega) (by omega)];congr 2
   have xx:=(x2.trans x3).trans x5;rw[pS]at hrest;obtain⟨h',x',e⟩:=ih (i+1) m (a+k) f' h5 (by omega) (by omega) (by omega) (x.trans xx) hrest;refine⟨h',xx.trans x',fun kr kx=>?_⟩;rw[kB rfl,hd];have e:=e kr kx;rw[show(ps.map Pe.d).take (i+1)=(ps.map Pe.d).take i++[p.d]from by rw[List.take_add_one,aFi hp];rfl]at e;have sl1:=slS ha;simp only[aEn,aSg,ln,WzO.S,zZ,dl,wi,sv,e2,sl1,e3,t0,t1,t2,e4,e5,wa,e,pS];rfl
def aMk (conn:Int)(l:List Nt)(dec:List UInt8→Option (Pq×List Sb×Nat))(s:List UInt8):Nat×Bool:=
 match tZ (jB conn l) dec [] (dM dec (s.length+1) s).1 s 0 with
 |some a=>(a,false)
 |none=>((dM dec (s.length+1) s).2,decide ((dM dec (s.length+1) s).2=s.length))
theorem U7 {B0 h:H}{n:Nat}{dec:List UInt8→Option (Pq×List Sb×Nat)}(pos:∀l p es n,dec l=some (p,es,n)→0<n∧n≤l.length)(hn:1003010≤n)
 (hD:∀(n:Nat) (h:H) (l:List UInt8),1003000≤n→l.length≤1000300→Ext B0 h→D7 (aA prog 2 Q n 18 [str l] h) h (dec l)) {x0:Value} {l:List Nt} (r:NIn h x0 l) (hB0:Ext B0 h) (conn:Int) {s:List UInt8} (hs:s.length≤3000):
 ∃h',aA prog 2 Q n 7 [x0,.int .i64 conn,str s] h=some (.tuple ⟨[.int .i64 ((aMk conn l dec s).1:Int),.bool (aMk conn l dec s).2]⟩,h')∧Ext h h':=by
 obtain⟨n,rfl⟩:∃m,n=m+2:=⟨n-2,by omega⟩;rw[cKp Q (n+1) _ _ _ h (ka.fr 7 _ (by decide))];obtain⟨h1,v,ps,e1,em,hr,x1,_,_⟩:=U9 ka pos (n:=n) (B:=B0) (by omega) (fun h l h1 h2=>hD n h l (by omega) h1 h2) h (s:=s) (by omega) hB0;have hlen:ps.length≤3000:=by
  have:=uL pos (s.length+1) s;rw[←em,pA]at this;omega
 obtain⟨h',x',e⟩:=lp7 ka kd (x9:=.int .i64 ((dM dec (s.length+1) s).2:Int)) (r.ext x1) (hB0.trans x1) conn hr (by omega) pos (n:=n+1) (by omega) (fun h l h1 h2=>hD (n+1) h l (by omega) h1 h2) hs (n+1) ps.length 0 (n+1) 0 (s.length+1) h1 (by omega) (by omega) (pQ _) (Ext.refl h1) (by rw[List.drop_zero,List.drop_zero];exact em);have e:=e (fun x6 x7 h=>some (.tuple ⟨[x6,x7]⟩,h)) (fun x9 x2 h=>aZs h x2 x9 (fun x6 x7 h=>some (.tuple ⟨[x6,x7]⟩,h)));rw[List.drop_zero,List.take_zero,List.drop_zero,em]at e;have e:aEn (aA prog 2 Q (n+1)) (n+1) (fun x6 x7 h=>some (Value.tuple ⟨[x6,x7]⟩,h)) (fun x9 x2 h=>aZs h x2 x9 (fun x6 x7 h=>some (Value.tuple ⟨[x6,x7]⟩,h))) (n+1) (.int .i64 0) (.int .i64 0) v (.int .i64 conn) x0 (.int .i64 ((dM dec (s.length+1) s).2:Int)) (str s) h1=_:=e;have t0:A.z 0 (.tuple ⟨[v,.int .i64 ((dM dec (s.length+1) s).2:Int)]⟩)=some v:=rfl;have t1:A.z 1 (.tuple ⟨[v,.int .i64 ((dM dec (s.length+1) s).2:Int)]⟩)=some (.int .i64 ((dM dec (s.length+1) s).2:Int)):=rfl;refine⟨h',?_,x1.trans x'⟩;simp only[F7,p7a,cDh,e1,WzO.S,t0,t1,aZq,cDc];refine e.trans ?_;unfold aMk
 cases tZ (jB conn l) dec [] (dM dec (s.length+1) s).1 s 0 with
 |some a=>rfl
 |none=>
  have dd:decide (((dM dec (s.length+1) s).2:Int)=(s.length:Int))=decide ((dM dec (s.length+1) s).2=s.length):=decide_eq_decide.2 (by omega);simp only[aZs,qJ,WzO.S,zQ,dd]
end
theorem aIo {conn:Int}{l:List Nt}{dec:List UInt8→Option (Pq×List Sb×Nat)}(pos:∀l p es n,dec l=some (p,es,n)→0<n∧n≤l.length)(s:List UInt8):
 vX dec (aV conn l).isSome (jS conn [] l) (eV conn l) (s.length+1) ⟨0,0,zq 0,false,false,List.range (eV conn l).length⟩ s 0=aMk conn l dec s:=by
 rw[xC pos (s.length+1) _ [] s 0 (by omega) (aNv _ _ _)];unfold aMk;rw[show jB conn l=eG (aV conn l).isSome (jS conn [] l) (eV conn l)from by funext ps p;exact aNu conn l ps p]
 cases tZ (eG (aV conn l).isSome (jS conn [] l) (eV conn l)) dec [] (dM dec (s.length+1) s).1 s 0 with
 |some a=>rfl
 |none=>show(0+_,_)=_;rw[Nat.zero_add]
end Go.Proofs.YtohapjojkjjflaaGreatDoor.Wz
