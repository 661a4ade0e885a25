import Derived.Test.YtohapjojkjjflaaGreatDoorRs
import Derived.Test.YtohapjojkjjflaaGreatDoorRt
import Derived.Test.YtohapjojkjjflaaGreatDoorRu
import Derived.Test.YtohapjojkjjflaaGreatDoorRw
import Derived.Test.YtohapjojkjjflaaGreatDoorRk
set_option maxRecDepth 100000
namespace Go.Proofs.YtohapjojkjjflaaGreatDoor.Wz
open Tryz (prog)
open Go Go.AM WzA WzB WzD
open Go.AM.Pk (K0 K1 K2 K3 K4 K5 K6 K7 K8 K10 K11)
theorem aIh {l:List UInt8}(hl:l.length≤1000300){p:Pq}{es:List Sb}{n:Nat}(e:pN dI nmR fiR l=some (p,es,n)):es.length≤1001000:=by
 match l with
 |[]=>cases e
 |c::t=>
  unfold pN at e;simp only at e;split at e
  case isFalse=>cases e
  split at e
  case isFalse=>cases e
  split at e
  ·cases e
  split at e
  ·cases e;exact pQ _
  ·split at e
   ·have b:=aJg (c:=c.toNat) c.toNat_lt (rest:=((c::t).drop ((rlF t 4 1 0 0).2.1+1)).take (rlF t 4 1 0 0).1) (by rw[kT,kU];omega);cases e;have:=b.len;omega
   ·cases e
def grN (n:Nt):Bool:=grB n.pk.1 n.pk.2.1||(decide (300<n.client.length)||decide ((300:Int)<IntKind.i64.wrap ((n.msg.1.length:Int)+(n.msg.2.1.length:Int))))
section
variable {Q:Orc}(ka:KnA Q)(kd:KnB Q)
include ka kd
theorem lp4 {B:H}{x0:Value}{l:List Nt}(r:NIn B x0 l)(k L:Nat):
 ∀(d i m:Nat) (h:H),i+d=l.length→d<m→Ext B h→
  ∃h',Ext h h'∧∀(kr:K1 (Value×H)) (kx:K0 (Value×H)),aEo (aA prog 2 Q (k+2002)) L kr kx m (.int .i64 (i:Int)) x0 h=if(l.drop i).any grN then kr (.bool true) h' else kx h':=by
 have _:=kd;intro d
 induction d with
 |zero=>
  intro i m h hi hm x;obtain⟨m,rfl⟩:∃r,m=r+1:=⟨m-1,by omega⟩;have dl:decide ((i:Int)<(l.length:Int))=false:=by rw[kI];omega
  refine⟨h,Ext.refl h,fun kr kx=>?_⟩;rw[pL (by omega)];simp only[aEo,aQn,r.len,WzO.S,zZ,dl,List.any_nil,pB,if_false]
 |succ d ih=>
  intro i m h hi hm x;obtain⟨m,rfl⟩:∃r,m=r+1:=⟨m-1,by omega⟩;have dl:decide ((i:Int)<(l.length:Int))=true:=by rw[kJ];omega
  obtain⟨n,hn⟩:∃n,l[i]?=some n:=⟨_,kN (by omega)⟩;have hmem:=List.mem_of_getElem? hn;obtain⟨id,off,ix,ld⟩:=nK r hn;obtain⟨_,_,lp,_⟩:=ld h x;have lp:A.load true 24 (.pointer (some ⟨id,off+4,none⟩)) h=some (.agg ⟨n.pk.1.cells n.pk.2.2⟩):=lp;obtain⟨h1,e1,x1⟩:=T5 ka k (h:=h) (p:=n.pk.1) ((r.sub n hmem).ext x);obtain⟨ll,_⟩:=ld h1 (x.trans x1);have l3:A.load false 1 (.pointer (some ⟨id,off+3,none⟩)) h1=some (str n.client):=ll 3 _ rfl;have l28:A.load false 1 (.pointer (some ⟨id,off+28,none⟩)) h1=some (str n.msg.1):=ll 28 _ rfl;have l29:A.load false 1 (.pointer (some ⟨id,off+28+1,none⟩)) h1=some (str n.msg.2.1):=ll 29 _ rfl;have d1:decide ((300:Int)<(n.client.length:Int))=decide (300<n.client.length):=decide_eq_decide.2 (by omega);have wi:A.zA prog .add 3 (.int .i64 (i:Int)) (.int .i64 1)=some (.int .i64 ((i+1:Nat):Int)):=by rw[aG,aI (by have:=r.le;omega)]
  rw[aQ hn,List.any_cons];have head:∀(kn:K3 (Value×H)),bEq (aA prog 2 Q (k+2002)) h x0 (.int .i64 (i:Int)) kn=kn (.bool (grN n)) (.int .i64 (i:Int)) x0 h1:=by
   intro kn;simp only[bEq,ix,WzO.S,lp,e1,l3,qJ,zY,d1,Nat.add_zero,l28,l29,aG];unfold grN
   cases grB n.pk.1 n.pk.2.1 with
   |true=>rfl
   |false=>
    cases decide (300<n.client.length)with
    |true=>rfl
    |false=>rfl
  cases hg:grN n with
  |true=>
   rw[hg]at head;refine⟨h1,x1,fun kr kx=>?_⟩;simp only[aEo,aQn,r.len,WzO.S,zZ,dl,aLe,head,bEp,Bool.true_or,if_true]
  |false=>
   rw[hg]at head;obtain⟨h',x',e⟩:=ih (i+1) m h1 (by omega) (by omega) (x.trans x1);refine⟨h',x1.trans x',fun kr kx=>?_⟩;simp only[aEo,aQn,r.len,WzO.S,zZ,dl,aLe,head,bEp,bEo,wi,Bool.false_or];exact e kr kx
theorem U4 {n:Nat}(hn:3000≤n){h:H}{x0:Value}{l:List Nt}(row:SliceE 35 h x0 (l.map Nt.cells))(sub:∀n∈l,SliceE 2 h n.pk.2.2 (n.pk.2.1.map sbC))(rg:∀n∈l,Rg n.pk.1 n.pk.2.1∧n.kind<256∧n.msg.2.2.1<256)(odd:∀a k c,x0=.slice (some a) k c→c%2=1):
 ∃h',aA prog 2 Q n 4 [x0] h=some (.bool (decide (200<l.length)||l.any grN),h')∧Ext h h':=by
 obtain⟨n,rfl⟩:∃m,n=m+2002+1:=⟨n-2003,by omega⟩;rw[cKr Q (n+2002) _ h (ka.fr 4 _ (by decide))];have ln:A.zG x0=some (.int .i64 (l.length:Int)):=by have:=row.len.1;rwa [pA]at this
 have d1:decide ((200:Int)<(l.length:Int))=decide (200<l.length):=decide_eq_decide.2 (by omega);by_cases c:200<l.length
 ·rw[kC c]at d1⊢;refine⟨h,?_,Ext.refl h⟩;simp only[F4,p4a,bHe,ln,WzO.S,zY,d1,Bool.true_or]
 ·rw[kD c]at d1⊢;obtain⟨h',x',e⟩:=lp4 ka kd ⟨row,sub,rg,by omega,odd⟩ n (n+2002) l.length 0 (n+2002) h (by omega) (by omega) (Ext.refl h);obtain⟨M,hM⟩:∃M,M=n+2002:=⟨_,rfl⟩;rw[←hM]at e⊢;have e:∀(kr:K1 (Value×H)) (kx:K0 (Value×H)),aEo (aA prog 2 Q M) M kr kx M (.int .i64 0) x0 h=if(l.drop 0).any grN then kr (.bool true) h' else kx h':=e
  rw[List.drop_zero]at e;refine⟨h',?_,x'⟩;simp only[F4,p4a,bHe,ln,WzO.S,zY,d1,aZl,cDb,e,cDj,Bool.false_or];cases l.any grN<;>rfl
theorem cGt {x0 x1:Value}{a b:List Pe}(hab:a.map Pe.d=b.map Pe.d)(hs:∀r∈a,r.2.1.length≤1001000)(hl:a.length≤4000){n:Nat}(hn:1001400≤n)(L:Nat):
 ∀(d i m:Nat) (h:H),i+d=a.length→d<m→InR h x0 a→InR h x1 b→
  ∃h',Ext h h'∧∀(kr:K1 (Value×H)) (kx:K0 (Value×H)),aGo (aA prog 2 Q n) L kr kx m (.int .i64 (i:Int)) x1 x0 h=kx h':=by
 have _:=ka;intro d
 induction d with
 |zero=>
  intro i m h hi hm ra rb;obtain⟨m,rfl⟩:∃r,m=r+1:=⟨m-1,by omega⟩;have dl:decide ((i:Int)<(a.length:Int))=false:=by rw[kI];omega
  refine⟨h,Ext.refl h,fun kr kx=>?_⟩;simp only[aGo,aYb,ra.ln,WzO.S,zZ,dl]
 |succ d ih=>
  intro i m h hi hm ra rb;obtain⟨m,rfl⟩:∃r,m=r+1:=⟨m-1,by omega⟩;have dl:decide ((i:Int)<(a.length:Int))=true:=by rw[kJ];omega
  have hlen:a.length=b.length:=by have:=congrArg List.length hab;simpa using this
  obtain⟨p,hp⟩:∃p,a[i]?=some p:=⟨_,kN (by omega)⟩;obtain⟨q,hq⟩:∃q,b[i]?=some q:=⟨_,kN (by omega)⟩;have hpq:p.d=q.d:=by
   have e:=congrArg (fun l=>l[i]?) hab;simp only[kX,hp,hq,Option.map_some,kE]at e;exact e
  have h1:p.1=q.1:=congrArg (fun x:Pd=>x.1) hpq;have h2:p.2.1=q.2.1:=congrArg (fun x:Pd=>x.2) hpq;have pm:=List.mem_of_getElem? hp;have sp:=ra.sub p pm;have sq:=rb.sub q (List.mem_of_getElem? hq);obtain⟨id,off,ix,ld⟩:=rM ra hp;obtain⟨id',off',ix',ld'⟩:=rM rb hq;obtain⟨_,la⟩:=ld h (Ext.refl h);obtain⟨_,la'⟩:=ld' h (Ext.refl h);obtain⟨hh,e,x⟩:=U19 kd (h:=h) (p:=p.1) (q:=q.1) hn (hs p pm) sp.cells sq.cells sp sq;rw[kC ⟨h1,h2⟩]at e;have e:aA prog 2 Q n 19 [.agg ⟨p.c⟩,.agg ⟨q.c⟩] h=some (.bool true,hh):=e;have wi:A.zA prog .add 3 (.int .i64 (i:Int)) (.int .i64 1)=some (.int .i64 ((i+1:Nat):Int)):=by rw[aG,aI (by omega)]
  obtain⟨h',x',f⟩:=ih (i+1) m hh (by omega) (by omega) (ra.ext x) (rb.ext x);refine⟨h',x.trans x',fun kr kx=>?_⟩;simp only[aGo,aYb,ra.ln,WzO.S,zZ,dl,ix,la,ix',la',e,wi];exact f kr kx
theorem U10 {x0 x1:Value}{a b:List Pe}(hab:a.map Pe.d=b.map Pe.d)(hs:∀r∈a,r.2.1.length≤1001000)(hl:a.length≤4000){n:Nat}(hn:1001500≤n){h:H}(ra:InR h x0 a)(rb:InR h x1 b):
 ∃h',aA prog 2 Q n 10 [x0,x1] h=some (.bool true,h')∧Ext h h':=by
 obtain⟨n,rfl⟩:∃m,n=m+1:=⟨n-1,by omega⟩;rw[bXc Q n _ _ h (ka.fr 10 _ (by decide))];have hlen:a.length=b.length:=by have:=congrArg List.length hab;simpa using this
 have dn:(!decide ((a.length:Int)=(b.length:Int)))=false:=by rw[hlen];simp
 obtain⟨h',x',e⟩:=cGt ka kd hab hs hl (n:=n) (by omega) n a.length 0 n h (by omega) (by omega) ra rb;have e:∀(kr:K1 (Value×H)) (kx:K0 (Value×H)),aGo (aA prog 2 Q n) n kr kx n (.int .i64 0) x1 x0 h=kx h':=e;refine⟨h',?_,x'⟩;simp only[F10,bAq,cCx,ra.ln,rb.ln,WzO.S,aK,dn,aYm,cCw,e,cCv]
end
theorem aCm {dec:List UInt8→Option (Pq×List Sb×Nat)}{P:Pq×List Sb→Prop}{N:Nat}(hd:∀l p es n,l.length≤N→dec l=some (p,es,n)→P (p,es)):∀(f:Nat) (l:List UInt8),l.length≤N→∀x∈(dM dec f l).1,P x
 |0,_,_=>fun x hx=>by cases hx
 |f+1,l,hl=>fun x hx=>by
  unfold dM at hx
  cases h:dec l with
  |none=>rw[h]at hx;cases hx
  |some y=>
   obtain⟨p,es,n⟩:=y;rw[h]at hx;rcases List.mem_cons.1 hx with rfl|hx
   ·exact hd l p es n hl h
   ·exact aCm hd f (l.drop n) (by rw[kU];omega) x hx
theorem cGw {Q:Orc}(kd:KnB Q){B:H}(bt:aNi B RA)(aw:Q 5 []=some (.bool true)){n:Nat}(hn:1003100≤n){h:H}(hB:Ext B h){x0:Value}{l:List Nt}(row:SliceE 35 h x0 (l.map Nt.cells))(sub:∀n∈l,SliceE 2 h n.pk.2.2 (n.pk.2.1.map sbC))(rg:∀n∈l,Rg n.pk.1 n.pk.2.1∧n.kind<256∧n.msg.2.2.1<256)(odd:∀a k c,x0=.slice (some a) k c→c%2=1)(conn:Int)(s:List UInt8):
 ∃h',aA prog 2 Q n 3 [x0,.int .i64 conn,str s] h=some (.bool true,h'):=by
 have ka:=kd.toKnA;obtain⟨n,rfl⟩:∃m,n=m+2:=⟨n-2,by omega⟩;rw[cKs Q (n+1) _ _ _ h (ka.fr 3 _ (by decide))];obtain⟨h1,e1,x1⟩:=U4 ka kd (n:=n+1) (by omega) row sub rg odd;have awk:∀h,aA prog 2 Q (n+1) 5 [] h=some (.bool true,h):=fun h=>qB aw n h;have ds:decide ((3000:Int)<(s.length:Int))=decide (3000<s.length):=decide_eq_decide.2 (by omega)
 cases hg:(decide (200<l.length)||l.any grN)with
 |true=>
  rw[hg]at e1;refine⟨h1,?_⟩;simp only[F3,p3a,aYp,e1,WzO.S,awk]
 |false=>
  rw[hg]at e1;by_cases hs:3000<s.length
  ·rw[kC hs]at ds;refine⟨h1,?_⟩;simp only[F3,p3a,aYp,e1,WzO.S,qJ,zY,ds,awk]
  ·rw[kD hs]at ds;have hl:l.length≤200:=by
    rw[Bool.or_eq_false_iff]at hg;have:=of_decide_eq_false hg.1;omega
   have r:NIn h1 x0 l:=(NIn.mk row sub rg hl odd).ext x1;have hB1:=hB.trans x1;obtain⟨dec,hdec⟩:∃dec,dec=pO (iX RA) (nmB (iX RA)) (fiB (iX RA)):=⟨_,rfl⟩;have hv:iX RA=dI:=funext aBo;have hnm:nmB (iX RA)=nmR:=funext bJa;have hfi:fiB (iX RA)=fiR:=funext bJq;have hdr:∀l,pN dI nmR fiR l=dec l:=fun l=>by
    have:=aIf (bIp ka bt) (by rw[hv];rfl) l;rw[hdec,←this,hfi,hnm,hv]
   have pos:∀l p es n,dec l=some (p,es,n)→0<n∧n≤l.length:=fun l p es n e=>aIi (hdec▸e);have hD:∀(n:Nat) (h:H) (l:List UInt8),1001001≤n→l.length≤1000300→Ext B h→D7 (aA prog 2 Q n 15 [str l] h) h (dec l):=fun n h l hn hl hB=>by
    have:=bUa ka bt (n-1001001) hl hB;rw[show n-1001001+1001001=n by omega]at this;exact hdec▸this
   have hE:∀(n:Nat) (h:H) (l:List UInt8),1003000≤n→l.length≤1000300→Ext B h→D7 (aA prog 2 Q n 18 [str l] h) h (dec l):=fun n h l hn hl hB=>hdr l▸U18 kd hn hl;obtain⟨h2,e2,x2⟩:=T6m ka (n:=n) pos (by omega) (fun h l h1 h2=>hD n h l (by omega) h1 h2) r hB1 conn (sent:=s) (by omega);rw[aIo pos s]at e2;have hB2:=hB1.trans x2;obtain⟨h3,e3,x3⟩:=U7 ka kd (n:=n+1) pos (by omega) hE (r.ext x2) hB2 conn (s:=s) (by omega);have hB3:=hB2.trans x3;obtain⟨h4,va,a,e4,ema,ra,x4,_,_⟩:=T7c ka pos (n:=n) (by omega) (fun h l h1 h2=>hD n h l (by omega) h1 h2) h3 (s:=s) (by omega) hB3;have hB4:=hB3.trans x4;obtain⟨h5,vb,b,e5,emb,rb,x5,_,_⟩:=U9 ka pos (n:=n) (by omega) (fun h l h1 h2=>hE n h l (by omega) h1 h2) h4 (s:=s) (by omega) hB4;have hal:a.length≤4000:=by
    have:=uL pos (s.length+1) s;rw[←ema,pA]at this;omega
   have has:∀r∈a,r.2.1.length≤1001000:=fun r hr=>by
    have hm:r.d∈(dM dec (s.length+1) s).1:=by rw[←ema];exact List.mem_map_of_mem hr
    exact aCm (P:=fun x=>x.2.length≤1001000) (N:=3000) (fun l p es n hl e=>aIh (by omega) ((hdr l).trans e)) _ s (by omega) _ hm
   obtain⟨h6,e6,x6⟩:=U10 ka kd (ema.trans emb.symm) has hal (n:=n+1) (by omega) (ra.ext x5) rb;obtain⟨P,hP⟩:∃P,P=aMk conn l dec s:=⟨_,rfl⟩;rw[←hP]at e2 e3;obtain⟨E,hE'⟩:∃E,E=(dM dec (s.length+1) s).2:=⟨_,rfl⟩;rw[←hE']at e4 e5;have g0:∀(v w:Value),A.z 0 (.tuple ⟨[v,w]⟩)=some v:=fun _ _=>rfl;have g1:∀(v w:Value),A.z 1 (.tuple ⟨[v,w]⟩)=some w:=fun _ _=>rfl;have q2:A.zA prog .eql 4 (.bool P.2) (.bool P.2)=some (.bool true):=by cases P.2<;>rfl
   refine⟨h6,?_⟩;simp only[F3,p3a,aYp,e1,WzO.S,qJ,zY,ds,cDi,e2,g0,g1,e3,e4,cDd,e5,zQ,decide_true,q2,e6,awk]
end Go.Proofs.YtohapjojkjjflaaGreatDoor.Wz

namespace Go.Proofs.YtohapjojkjjflaaGreatDoor.Wz
open Tryz (prog)
open Go Go.AM
theorem oL {h:H}{x:List Value}(ty:Ty prog h 5 x):∃n:Nat,x=[.int .u8 (n:Int)]∧n<256:=by
 obtain⟨n,h3,h4⟩:=ty.int_inv Tryz.underlying5;have hq:IntKind.u8.min≤n∧n≤IntKind.u8.max:=by simpa[Lit.wf]using h4
 have e1:IntKind.u8.min=0:=rfl;have e2:IntKind.u8.max=255:=rfl;exact⟨n.toNat,by rw[h3,Int.toNat_of_nonneg (by omega)],by omega⟩
theorem aIw {h:H}{x:List Value}(ty:Ty prog h 33 x):∃n:Nat,x=[.int .u16 (n:Int)]∧n<65536:=by
 obtain⟨n,h3,h4⟩:=ty.int_inv Tryz.underlying33;have hq:IntKind.u16.min≤n∧n≤IntKind.u16.max:=by simpa[Lit.wf]using h4
 have e1:IntKind.u16.min=0:=rfl;have e2:IntKind.u16.max=65535:=rfl;exact⟨n.toNat,by rw[h3,Int.toNat_of_nonneg (by omega)],by omega⟩
theorem i64_in {h:H}{x:List Value}(ty:Ty prog h 3 x):∃n:Int,x=[.int .i64 n]:=by
 obtain⟨n,h3,_⟩:=ty.int_inv Tryz.underlying3;exact⟨n,h3⟩
theorem fC {h:H}{x:List Value}(ty:Ty prog h 9 x):∃s:List UInt8,x=[str s]∧s.length≤maxLen:=by
 obtain⟨s,h1,h2⟩:=ty.str_inv Tryz.underlying9;exact⟨s.data.toList,h1,by simpa using h2⟩
theorem aBx {h:H}:∀els:List (List Value),(∀x∈els,Ty prog h 56 x)→∃l:List Sb,els=l.map sbC∧∀s∈l,s.2<256
 |[],_=>⟨[],rfl,fun s hs=>by cases hs⟩
 |x::els,hx=>by
  obtain⟨l,h1,h2⟩:=aBx els fun y hy=>hx y (by simp[hy]);have xl:=(hx x (by simp)).fields Tryz.underlying56;simp only[aFf]at xl;obtain⟨_,_,rfl,x0,⟨_,_,rfl,x1,rfl⟩⟩:=xl;obtain⟨b0,rfl,_⟩:=fC x0;obtain⟨b1,rfl,hb⟩:=oL x1;refine⟨(b0,b1)::l,by rw[h1];rfl,fun s hs=>?_⟩;rcases List.mem_cons.1 hs with rfl|hs
  ·exact hb
  ·exact h2 s hs
theorem aCw {h:H}{cs:List Value}(ty:Ty prog h 38 cs):∃r:Pe,cs=r.c∧Rg r.1 r.2.1∧SliceE 2 h r.2.2 (r.2.1.map sbC):=by
 have pl:=ty.fields Tryz.underlying38;simp only[aFf]at pl;obtain⟨_,_,rfl,p0,⟨_,_,rfl,p1,⟨_,_,rfl,p2,⟨_,_,rfl,p3,⟨_,_,rfl,p4,⟨_,_,rfl,p5,⟨_,_,rfl,p6,⟨_,_,rfl,p7,⟨_,_,rfl,p8,⟨_,_,rfl,p9,⟨_,_,rfl,p10,⟨_,_,rfl,p11,⟨_,_,rfl,p12,⟨_,_,rfl,p13,⟨_,_,rfl,p14,⟨_,_,rfl,p15,⟨_,_,rfl,p16,⟨_,_,rfl,p17,⟨_,_,rfl,p18,⟨_,_,rfl,p19,⟨_,_,rfl,p20,rfl⟩⟩⟩⟩⟩⟩⟩⟩⟩⟩⟩⟩⟩⟩⟩⟩⟩⟩⟩⟩⟩:=pl;obtain⟨a0,rfl,k0⟩:=oL p0;obtain⟨a1,rfl⟩:=p1.bool_inv Tryz.underlying4;obtain⟨a2,rfl,k2⟩:=oL p2;obtain⟨a3,rfl⟩:=p3.bool_inv Tryz.underlying4;obtain⟨a4,rfl,k4⟩:=aIw p4;obtain⟨a5,rfl,_⟩:=fC p5;obtain⟨a6,rfl,_⟩:=fC p6;obtain⟨a7,rfl,k7⟩:=oL p7;obtain⟨a8,rfl⟩:=p8.bool_inv Tryz.underlying4;obtain⟨a9,rfl,k9⟩:=aIw p9;obtain⟨a10,rfl,_⟩:=fC p10;obtain⟨a11,rfl⟩:=p11.bool_inv Tryz.underlying4;obtain⟨a13,rfl⟩:=p13.bool_inv Tryz.underlying4;obtain⟨a14,rfl⟩:=p14.bool_inv Tryz.underlying4;obtain⟨a15,rfl,_⟩:=fC p15;obtain⟨a16,rfl,_⟩:=fC p16;obtain⟨a17,rfl⟩:=p17.bool_inv Tryz.underlying4;obtain⟨a18,rfl,k18⟩:=oL p18;obtain⟨a20,rfl,_⟩:=fC p20;obtain⟨w,els,rfl,hs,hm,he⟩:=p19.slice_inv Tryz.underlying36;have c2:prog.cellsOf 56=2:=by kernel_rfl
 rw[c2]at hs;obtain⟨l,rfl,hl⟩:=aBx els he;have wl:=p12.fields Tryz.underlying35;simp only[aFf]at wl;obtain⟨_,_,rfl,q0,⟨_,_,rfl,q1,⟨_,_,rfl,q2,⟨_,_,rfl,q3,rfl⟩⟩⟩⟩:=wl;obtain⟨b0,rfl,_⟩:=fC q0;obtain⟨b1,rfl,_⟩:=fC q1;obtain⟨b2,rfl,kb⟩:=oL q2;obtain⟨b3,rfl⟩:=q3.bool_inv Tryz.underlying4;exact⟨(⟨a0,a1,a2,a3,a4,a5,a6,a7,a8,a9,a10,a11,b0,b1,b2,b3,a13,a14,a15,a16,a17,a18,a20⟩,l,w),rfl,⟨k0,k2,k4,k7,k9,kb,k18,hl⟩,hs⟩
theorem aOe {h:H}{cs:List Value}(ty:Ty prog h 40 cs):∃n:Nt,cs=n.cells∧(Rg n.pk.1 n.pk.2.1∧n.kind<256∧n.msg.2.2.1<256)∧SliceE 2 h n.pk.2.2 (n.pk.2.1.map sbC):=by
 have pl:=ty.fields Tryz.underlying40;simp only[aFf]at pl;obtain⟨_,_,rfl,p0,⟨_,_,rfl,p1,⟨_,_,rfl,p2,⟨_,_,rfl,p3,⟨_,_,rfl,p4,⟨_,_,rfl,p5,⟨_,_,rfl,p6,⟨_,_,rfl,p7,⟨_,_,rfl,p8,rfl⟩⟩⟩⟩⟩⟩⟩⟩⟩:=pl;obtain⟨a0,rfl,k0⟩:=oL p0;obtain⟨a1,rfl⟩:=i64_in p1;obtain⟨a2,rfl⟩:=i64_in p2;obtain⟨a3,rfl,_⟩:=fC p3;obtain⟨r,rfl,rg,sl⟩:=aCw p4;have wl:=p5.fields Tryz.underlying35;simp only[aFf]at wl;obtain⟨_,_,rfl,q0,⟨_,_,rfl,q1,⟨_,_,rfl,q2,⟨_,_,rfl,q3,rfl⟩⟩⟩⟩:=wl;obtain⟨b0,rfl,_⟩:=fC q0;obtain⟨b1,rfl,_⟩:=fC q1;obtain⟨b2,rfl,kb⟩:=oL q2;obtain⟨b3,rfl⟩:=q3.bool_inv Tryz.underlying4;obtain⟨a6,rfl,_⟩:=fC p6;obtain⟨a7,rfl⟩:=p7.bool_inv Tryz.underlying4;obtain⟨a8,rfl,k8⟩:=oL p8;exact⟨⟨a0,a1,a2,a3,r,(b0,b1,b2,b3),a6,a7,a8⟩,rfl,⟨rg,k0,kb⟩,sl⟩
theorem wP {h:H}:∀els:List (List Value),(∀x∈els,Ty prog h 40 x)→∃l:List Nt,els=l.map Nt.cells∧(∀n∈l,Rg n.pk.1 n.pk.2.1∧n.kind<256∧n.msg.2.2.1<256)∧∀n∈l,SliceE 2 h n.pk.2.2 (n.pk.2.1.map sbC)
 |[],_=>by
  refine⟨[],rfl,?_,?_⟩
  ·intro r hr;cases hr
  ·intro r hr;cases hr
 |x::els,hx=>by
  obtain⟨ps,h1,h2,h3⟩:=wP els fun y hy=>hx y (by simp[hy]);obtain⟨r,rfl,rg,sl⟩:=aOe (hx x (by simp));refine⟨r::ps,by rw[h1];rfl,fun s hs=>?_,fun s hs=>?_⟩
  ·rcases List.mem_cons.1 hs with rfl|hs
   ·exact rg
   ·exact h2 s hs
  ·rcases List.mem_cons.1 hs with rfl|hs
   ·exact sl
   ·exact h3 s hs
theorem aCt {h:H}{t e:TypeId}{xs:List Value}(ty:Ty prog h t xs)(hu:prog.underlying t=some (.slice e)):∀v a k c,xs=[v]→v=.slice (some a) k c→c%2=1:=by
 intro v a k c ha hv
 cases ty with
 |int k' n hu' hw=>simp at ha;subst ha;cases hv
 |bool b hu'=>simp at ha;subst ha;cases hv
 |str s hu' hs=>simp at ha;subst ha;cases hv
 |sliceNil hu'=>simp at ha;subst ha;cases hv
 |slice id len els hu' hl hm hi hb hs he=>
  simp only[List.cons.injEq,and_true]at ha;subst ha;simp only[Value.slice.injEq,kE]at hv;omega
 |struct parts hu' hp hs hf=>rw[hu]at hu';simp at hu'
theorem row_in {h:H}{v:Value}(ty:TyV prog h 22 v):∃l:List Nt,SliceE 35 h v (l.map Nt.cells)∧(∀n∈l,Rg n.pk.1 n.pk.2.1∧n.kind<256∧n.msg.2.2.1<256)∧(∀n∈l,SliceE 2 h n.pk.2.2 (n.pk.2.1.map sbC))∧∀a k c,v=.slice (some a) k c→c%2=1:=by
 cases ty with
 |agg hu _=>rw[Tryz.underlying22]at hu;simp at hu
 |one hu ty=>
  have od:=aCt ty Tryz.underlying22;obtain⟨v',els,hv,hs,hm,he⟩:=ty.slice_inv Tryz.underlying22;simp only[List.cons.injEq,and_true]at hv;subst hv;have c2:prog.cellsOf 40=35:=by kernel_rfl
  rw[c2]at hs;obtain⟨l,rfl,rg,sl⟩:=wP els he;exact⟨l,hs,rg,sl,fun a k c hv=>od _ a k c rfl hv⟩
theorem text_in {h:H}{v:Value}(ty:TyV prog h 9 v):∃b:List UInt8,v=str b:=by
 cases ty with
 |agg hu _=>rw[Tryz.underlying9]at hu;simp at hu
 |one hu ty=>
  obtain⟨s,hv,hl⟩:=fC ty;simp only[List.cons.injEq,and_true]at hv;exact⟨s,hv⟩
theorem conn_in {h:H}{v:Value}(ty:TyV prog h 3 v):∃n:Int,v=.int .i64 n:=by
 cases ty with
 |agg hu _=>rw[Tryz.underlying3]at hu;simp at hu
 |one hu ty=>
  obtain⟨n,hv⟩:=i64_in ty;simp only[List.cons.injEq,and_true]at hv;exact⟨n,hv⟩
end Go.Proofs.YtohapjojkjjflaaGreatDoor.Wz
