import Derived.Test.YtohapjojkjjflaaGreatDoorRh
import Derived.Test.YtohapjojkjjflaaGreatDoorRi
import Derived.Test.YtohapjojkjjflaaGreatDoorWzD
set_option maxRecDepth 100000
namespace Go.Proofs.YtohapjojkjjflaaGreatDoor.Wz
open Tryz (prog)
open Go Go.AM WzA WzB
open Go.AM.Pk (K0 K1 K2 K3 K4 K5)
theorem BQ.lds {h:H}{t:Nat}{p:Pq}{w:Value}(b:BQ h t p w):
 (A.load false 1 (.pointer (some ⟨t,0,none⟩)) h=some (.int .u8 (p.kind:Int))∧A.load false 1 (.pointer (some ⟨t,1,none⟩)) h=some (.bool p.dup)∧A.load false 1 (.pointer (some ⟨t,2,none⟩)) h=some (.int .u8 (p.qos:Int))∧A.load false 1 (.pointer (some ⟨t,3,none⟩)) h=some (.bool p.retain)∧A.load false 1 (.pointer (some ⟨t,4,none⟩)) h=some (.int .u16 (p.id:Int))∧A.load false 1 (.pointer (some ⟨t,5,none⟩)) h=some (str p.topic)∧A.load false 1 (.pointer (some ⟨t,6,none⟩)) h=some (str p.payload)∧A.load false 1 (.pointer (some ⟨t,7,none⟩)) h=some (.int .u8 (p.level:Int)))∧
 (A.load false 1 (.pointer (some ⟨t,8,none⟩)) h=some (.bool p.clean)∧A.load false 1 (.pointer (some ⟨t,9,none⟩)) h=some (.int .u16 (p.keep:Int))∧A.load false 1 (.pointer (some ⟨t,10,none⟩)) h=some (str p.client)∧A.load false 1 (.pointer (some ⟨t,11,none⟩)) h=some (.bool p.will)∧A.load false 1 (.pointer (some ⟨t,12,none⟩)) h=some (str p.wt)∧A.load false 1 (.pointer (some ⟨t,13,none⟩)) h=some (str p.wp)∧A.load false 1 (.pointer (some ⟨t,14,none⟩)) h=some (.int .u8 (p.wq:Int))∧A.load false 1 (.pointer (some ⟨t,15,none⟩)) h=some (.bool p.wr))∧
 (A.load false 1 (.pointer (some ⟨t,16,none⟩)) h=some (.bool p.hu)∧A.load false 1 (.pointer (some ⟨t,17,none⟩)) h=some (.bool p.hp)∧A.load false 1 (.pointer (some ⟨t,18,none⟩)) h=some (str p.user)∧A.load false 1 (.pointer (some ⟨t,19,none⟩)) h=some (str p.pass)∧A.load false 1 (.pointer (some ⟨t,20,none⟩)) h=some (.bool p.present)∧A.load false 1 (.pointer (some ⟨t,21,none⟩)) h=some (.int .u8 (p.code:Int))∧A.load false 1 (.pointer (some ⟨t,22,none⟩)) h=some w∧A.load false 1 (.pointer (some ⟨t,23,none⟩)) h=some (str p.codes)):=
 ⟨⟨b.ld rfl,b.ld rfl,b.ld rfl,b.ld rfl,b.ld rfl,b.ld rfl,b.ld rfl,b.ld rfl⟩,⟨b.ld rfl,b.ld rfl,b.ld rfl,b.ld rfl,b.ld rfl,b.ld rfl,b.ld rfl,b.ld rfl⟩,⟨b.ld rfl,b.ld rfl,b.ld rfl,b.ld rfl,b.ld rfl,b.ld rfl,b.ld rfl,b.ld rfl⟩⟩
theorem deN (a b:Nat):decide ((a:Int)=(b:Int))=decide (a=b):=decide_eq_decide.2 (by omega)
theorem dlN (a b:Nat):decide ((a:Int)<(b:Int))=decide (a<b):=decide_eq_decide.2 (by omega)
theorem aMh (a b:Nat):decide ((a:Int)≤(b:Int))=decide (a≤b):=decide_eq_decide.2 (by omega)
section
variable {Q:Orc}(kd:KnB Q){h:H}{t n:Nat}{p:Pq}{w:Value}{es:List Sb}(hn:65560≤n)(bd:Bd p es)(b:BQ h t p w)
include kd hn bd b
theorem aMm:∃h1,Ext h h1∧∀(β:Type) (kr kn:K1 β),aVw (aA prog 2 Q n) h (aB t) kr kn=if p.level≠4∨dI p.client=false then kr (.bool false) h1 else kn (aB t) h1:=by
 obtain⟨⟨l0,l1,l2,l3,l4,l5,l6,l7⟩,⟨l8,l9,l10,l11,l12,l13,l14,l15⟩,l16,l17,l18,l19,l20,l21,l22,l23⟩:=b.lds;have d:decide ((p.level:Int)=4)=decide (p.level=4):=deN _ 4;by_cases c1:p.level=4
 ·rw[kC c1]at d;obtain⟨h1,e1,x1⟩:=U80 kd (h:=h) (n:=n) p.client (by omega) (kG bd.client (by omega));refine⟨h1,x1,fun β kr kn=>?_⟩;simp only[aVw,WzO.S,WzO.n0,l7,l10,aK,d,e1]
  cases hv:dI p.client with
  |true=>rw[kA (fun h=>h.elim (fun h=>h c1) (fun h=>by cases h))];rfl
  |false=>rw[kB (Or.inr rfl)];rfl
 ·rw[kD c1]at d;refine⟨h,Ext.refl h,fun β kr kn=>?_⟩;simp only[aVw,WzO.S,WzO.n0,l7,l10,aK,d];rw[kB (Or.inl c1)]
theorem cIf:∃h1,Ext h h1∧∀(β:Type) (kr kn:K1 β),aGp (aA prog 2 Q n) h (aB t) kr kn=if p.will=true∧(nmR p.wt=false∨65535<p.wp.length∨2<p.wq)then kr (.bool false) h1 else kn (aB t) h1:=by
 obtain⟨⟨l0,l1,l2,l3,l4,l5,l6,l7⟩,⟨l8,l9,l10,l11,l12,l13,l14,l15⟩,l16,l17,l18,l19,l20,l21,l22,l23⟩:=b.lds;have d1:decide ((65535:Int)<(p.wp.length:Int))=decide (65535<p.wp.length):=dlN 65535 _;have d2:decide ((2:Int)<(p.wq:Int))=decide (2<p.wq):=dlN 2 _
 cases hw:p.will with
 |false=>
  rw[hw]at l11;refine⟨h,Ext.refl h,fun β kr kn=>?_⟩;simp only[aGp,aVv,aVu,WzO.S,WzO.n0,l11];rw[kA (fun h=>by cases h.1)]
 |true=>
  rw[hw]at l11;obtain⟨h1,e1,x1⟩:=U60 kd (h:=h) (n:=n) p.wt (by omega) (kG bd.wt (by omega));obtain⟨_,⟨_,_,_,_,_,m13,m14,_⟩,_⟩:=(b.ext x1).lds;refine⟨h1,x1,fun β kr kn=>?_⟩
  cases hv:nmR p.wt with
  |false=>
   rw[hv]at e1;simp only[aGp,aVv,aVu,WzO.S,WzO.n0,Nat.reduceAdd,l11,l12,e1];rw[kB (by simp)]
  |true=>
   rw[hv]at e1;simp only[aGp,aVv,aVu,WzO.S,WzO.n0,Nat.reduceAdd,l11,l12,e1,m13,m14,qJ,zY,d1,d2];by_cases c1:65535<p.wp.length
   ·rw[kC c1,kB ⟨trivial,Or.inr (Or.inl c1)⟩];rfl
   ·rw[kD c1];by_cases c2:2<p.wq
    ·rw[kC c2,kB ⟨trivial,Or.inr (Or.inr c2)⟩];rfl
    ·rw[kD c2,kA (fun h=>h.2.elim (fun h=>by cases h) (fun h=>h.elim c1 c2))];rfl
theorem cIe (β:Type)(kr kn:K1 β):aSj h (aB t) kr kn=if p.will=false∧(p.wt≠[]∨p.wp≠[]∨p.wq≠0∨p.wr=true)then kr (.bool false) h else kn (aB t) h:=by
 have _:=kd;have _:=hn;have _:=bd;obtain⟨⟨l0,l1,l2,l3,l4,l5,l6,l7⟩,⟨l8,l9,l10,l11,l12,l13,l14,l15⟩,l16,l17,l18,l19,l20,l21,l22,l23⟩:=b.lds;have s1:A.zA prog .neq 9 (str p.wt) (.string ⟨⟨[]⟩⟩)=_:=dS p.wt [];have s2:A.zA prog .neq 9 (str p.wp) (.string ⟨⟨[]⟩⟩)=_:=dS p.wp [];have d2:decide ((p.wq:Int)=0)=decide (p.wq=0):=deN _ 0;simp only[aSj,bXv,bXu,WzO.S,WzO.n0,Nat.reduceAdd,l11,l12,l13,l14,l15,s1,s2,aK,d2]
 cases p.will with
 |true=>rw[kA (fun h=>by cases h.1)];rfl
 |false=>
  by_cases c1:p.wt=[]
  ·by_cases c2:p.wp=[]
   ·by_cases c3:p.wq=0
    ·rw[kC c1,kC c2,kC c3]
     cases p.wr with
     |true=>rw[kB ⟨rfl,Or.inr (Or.inr (Or.inr rfl))⟩];rfl
     |false=>rw[kA (fun h=>h.2.elim (fun h=>h c1) (fun h=>h.elim (fun h=>h c2) (fun h=>h.elim (fun h=>h c3) (fun h=>by cases h))))];rfl
    ·rw[kC c1,kC c2,kD c3,kB ⟨rfl,Or.inr (Or.inr (Or.inl c3))⟩];rfl
   ·rw[kC c1,kD c2,kB ⟨rfl,Or.inr (Or.inl c2)⟩];rfl
  ·rw[kD c1,kB ⟨rfl,Or.inl c1⟩];rfl
theorem cId:∃h1,Ext h h1∧∀(β:Type) (kr kn:K1 β),aLc (aA prog 2 Q n) h (aB t) kr kn=if p.hu=true∧dI p.user=false∨p.hu=false∧(p.user≠[]∨p.hp=true)then kr (.bool false) h1 else kn (aB t) h1:=by
 obtain⟨⟨l0,l1,l2,l3,l4,l5,l6,l7⟩,⟨l8,l9,l10,l11,l12,l13,l14,l15⟩,l16,l17,l18,l19,l20,l21,l22,l23⟩:=b.lds;have s1:A.zA prog .neq 9 (str p.user) (.string ⟨⟨[]⟩⟩)=_:=dS p.user []
 cases hu:p.hu with
 |false=>
  rw[hu]at l16;refine⟨h,Ext.refl h,fun β kr kn=>?_⟩;simp only[aLc,bEd,bEc,WzO.S,WzO.n0,l16,l17,l18,s1];by_cases c1:p.user=[]
  ·rw[kC c1]
   cases p.hp with
   |true=>rw[kB (Or.inr ⟨trivial,Or.inr rfl⟩)];rfl
   |false=>rw[kA (fun h=>h.elim (fun h=>by cases h.1) (fun h=>h.2.elim (fun h=>h c1) (fun h=>by cases h)))];rfl
  ·rw[kD c1,kB (Or.inr ⟨trivial,Or.inl c1⟩)];rfl
 |true=>
  rw[hu]at l16;obtain⟨h1,e1,x1⟩:=U80 kd (h:=h) (n:=n) p.user (by omega) (kG bd.user (by omega));obtain⟨_,_,m16,_⟩:=(b.ext x1).lds;rw[hu]at m16;refine⟨h1,x1,fun β kr kn=>?_⟩;simp only[aLc,bEd,bEc,WzO.S,WzO.n0,l16,l18,m16,e1]
  cases hv:dI p.user with
  |false=>rw[kB (Or.inl ⟨trivial,rfl⟩)];rfl
  |true=>rw[kA (fun h=>h.elim (fun h=>by cases h.2) (fun h=>by cases h.1))];rfl
theorem cIc (β:Type)(kr:K1 β):bEb h (aB t) kr=kr (.bool (decide (p.hp=true∧p.pass.length≤65535∨p.hp=false∧p.pass=[]))) h:=by
 have _:=kd;have _:=hn;have _:=bd;obtain⟨⟨l0,l1,l2,l3,l4,l5,l6,l7⟩,⟨l8,l9,l10,l11,l12,l13,l14,l15⟩,l16,l17,l18,l19,l20,l21,l22,l23⟩:=b.lds;have s1:A.zA prog .eql 9 (str p.pass) (.string ⟨⟨[]⟩⟩)=_:=cV p.pass [];have d1:decide ((p.pass.length:Int)≤65535)=decide (p.pass.length≤65535):=aMh _ 65535;simp only[bEb,WzO.S,WzO.n0,l17,l19,s1,qJ,bK,d1]
 cases p.hp with
 |true=>
  have:decide ((true=true∧p.pass.length≤65535)∨true=false∧p.pass=[])=decide (p.pass.length≤65535):=decide_eq_decide.2 ⟨fun h=>h.elim (fun h=>h.2) (fun h=>by cases h.1),fun h=>Or.inl ⟨rfl,h⟩⟩;rw[this];cases decide (p.pass.length≤65535)<;>rfl
 |false=>
  have:decide ((false=true∧p.pass.length≤65535)∨false=false∧p.pass=[])=decide (p.pass=[]):=decide_eq_decide.2 ⟨fun h=>h.elim (fun h=>by cases h.1) (fun h=>h.2),fun h=>Or.inr ⟨rfl,h⟩⟩;rw[this];rfl
end
section
variable {Q:Orc}(kd:KnB Q){h:H}{t n:Nat}{p:Pq}{w:Value}{es:List Sb}(hn:65561≤n)(bd:Bd p es)
include kd hn bd
theorem U59 (hw:aJ w=some [w]):∃h',aA prog 2 Q n 59 [.agg ⟨p.cells w⟩] h=some (.bool (jF dI nmR p),h')∧Ext h h':=by
 obtain⟨n,rfl⟩:∃m,n=m+1:=⟨n-1,by omega⟩;rw[bVn Q n _ h (kd.fr 59 _ (by decide))];obtain⟨h0,e0,b0,x0,_⟩:=cB p hw h;obtain⟨h1,x1,e1⟩:=aMm kd (n:=n) (by omega) bd b0;obtain⟨h2,x2,e2⟩:=cIf kd (n:=n) (by omega) bd (b0.ext x1);have e3:=cIe kd (n:=n) (by omega) bd ((b0.ext x1).ext x2);obtain⟨h4,x4,e4⟩:=cId kd (n:=n) (by omega) bd ((b0.ext x1).ext x2);have e5:=cIc kd (n:=n) (by omega) bd (((b0.ext x1).ext x2).ext x4);simp only[F59,aZx,bXw,e0,WzO.S,e1,e2,e3,e4,e5];unfold jF;by_cases c1:p.level≠4∨dI p.client=false
 ·rw[kB c1,kB c1];exact⟨h1,rfl,x0.trans x1⟩
 rw[kA c1,kA c1];by_cases c2:p.will=true∧(nmR p.wt=false∨65535<p.wp.length∨2<p.wq)
 ·rw[kB c2,kB c2];exact⟨h2,rfl,x0.trans (x1.trans x2)⟩
 rw[kA c2,kA c2];by_cases c3:p.will=false∧(p.wt≠[]∨p.wp≠[]∨p.wq≠0∨p.wr=true)
 ·rw[kB c3,kB c3];exact⟨h2,rfl,x0.trans (x1.trans x2)⟩
 rw[kA c3,kA c3];by_cases c4:p.hu=true∧dI p.user=false∨p.hu=false∧(p.user≠[]∨p.hp=true)
 ·rw[kB c4,kB c4];exact⟨h4,rfl,x0.trans (x1.trans (x2.trans x4))⟩
 rw[kA c4,kA c4];exact⟨h4,rfl,x0.trans (x1.trans (x2.trans x4))⟩
end
end Go.Proofs.YtohapjojkjjflaaGreatDoor.Wz

set_option maxRecDepth 100000
namespace Go.Proofs.YtohapjojkjjflaaGreatDoor.Wz
open Tryz (prog)
open Go Go.AM WzA WzB
open Go.AM.Pk (K0 K1 K2 K3 K4 K5)
theorem mR {h:H}{v:Value}{es:List Sb}(s:SliceE 2 h v (es.map sbC)){i:Nat}{e:Sb}(hi:es[i]?=some e):
 ∃id off,A.zH 2 v (.int .i64 (i:Int))=some (.pointer (some ⟨id,off,none⟩))∧∀h',Ext h h'→A.load false 1 (.pointer (some ⟨id,off,none⟩)) h'=some (str e.1)∧A.load false 1 (.pointer (some ⟨id,off+1,none⟩)) h'=some (.int .u8 (e.2:Int))∧A.load true 2 (.pointer (some ⟨id,off,none⟩)) h'=some (.agg ⟨sbC e⟩):=by
 obtain⟨id,off,cells,own,e1,e2,e3,e4,e5,e6⟩:=s.at (i:=i) (e:=sbC e) (by rw[kX,hi];rfl) .i64;refine⟨id,off,e1,fun h' x=>?_⟩;have g:=(x.get id e2).trans e3;refine⟨?_,?_,uH g e4 e5⟩
 ·rw[qK,g];exact e6 0 (by omega)
 ·rw[qK,g];exact e6 1 (by omega)
def okS (kind:Nat)(s:Sb):Bool:=fiR s.1&&decide (s.2≤2)&&decide (kind=10→s.2=0)
section
variable {Q:Orc}(kd:KnB Q){t n:Nat}{p:Pq}{w:Value}{es:List Sb}(hn:65560≤n)(bd:Bd p es)
include kd hn bd
theorem bJe (L:Nat):∀(d i m:Nat) (h:H),i+d=es.length→d<m→BQ h t p w→SliceE 2 h w (es.map sbC)→∃h',Ext h h'∧∀(β:Type) (kr kx:K1 β),
 aGb (aA prog 2 Q n) L kr kx m (.int .i64 (i:Int)) (aB t) h=if(es.drop i).all (okS p.kind)then kx (aB t) h' else kr (.bool false) h':=by
 intro d
 induction d with
 |zero=>
  intro i m h hi hm b sl;obtain⟨m,rfl⟩:∃r,m=r+1:=⟨m-1,by omega⟩;obtain⟨_,_,_,_,_,_,_,_,l22,_⟩:=b.lds;have hlen:A.zG w=some (.int .i64 (es.length:Int)):=by have:=sl.len.1;rw[pA]at this;exact this
  have d:decide ((i:Int)<(es.length:Int))=false:=by rw[kI];omega
  refine⟨h,Ext.refl h,fun β kr kx=>?_⟩;rw[pL (by omega)];simp only[aGb,aQf,WzO.S,WzO.n0,l22,hlen,zZ,d,List.all_nil,if_true]
 |succ d ih=>
  intro i m h hi hm b sl;obtain⟨m,rfl⟩:∃r,m=r+1:=⟨m-1,by omega⟩;obtain⟨⟨l0,_⟩,_,_,_,_,_,_,_,l22,_⟩:=b.lds;have hlen:A.zG w=some (.int .i64 (es.length:Int)):=by have:=sl.len.1;rw[pA]at this;exact this
  have dl:decide ((i:Int)<(es.length:Int))=true:=by rw[kJ];omega
  obtain⟨s,hs⟩:∃s,es[i]?=some s:=⟨_,kN (by omega)⟩;have hle:=bd.es s (List.mem_of_getElem? hs);have hbl:=bd.len;obtain⟨id,off,ix,lds⟩:=mR sl hs;obtain⟨h1,e1,x1⟩:=U79 kd (h:=h) (n:=n) s.1 (by omega) (by omega);obtain⟨f0,f1,_⟩:=lds h (Ext.refl h);obtain⟨g0,g1,_⟩:=lds h1 x1;obtain⟨⟨m0,_⟩,_,_,_,_,_,_,_,m22,_⟩:=(b.ext x1).lds;obtain⟨h2,x2,e2⟩:=ih (i+1) m h1 (by omega) (by omega) (b.ext x1) (sl.ext x1);have wr:=aI (n:=i) (by omega);have d2:decide ((2:Int)<(s.2:Int))=decide (2<s.2):=dlN 2 _;have d0:decide ((0:Int)<(s.2:Int))=decide (0<s.2):=dlN 0 _;have d10:decide ((p.kind:Int)=10)=decide (p.kind=10):=deN _ 10;rw[aQ hs,List.all_cons];have st:∀(β:Type) (kn:K3 β),bEg (aA prog 2 Q n) h (aB t) (.int .i64 (i:Int)) kn=kn (.bool (!okS p.kind s)) (.int .i64 (i:Int)) (aB t) h1:=by
   intro β kn;unfold okS;simp only[bEg,WzO.S,WzO.n0,Nat.add_zero,l22,ix,f0,e1,m22,g1,zY,d2,m0,zQ,d10,d0]
   cases fiR s.1 with
   |false=>rfl
   |true=>
    by_cases c1:2<s.2
    ·rw[kC c1,kD (Nat.not_le.2 c1)];rfl
    ·rw[kD c1,kC (Nat.le_of_not_lt c1)];by_cases c2:p.kind=10
     ·have:decide (p.kind=10→s.2=0)=!decide (0<s.2):=by
       by_cases c3:0<s.2
       ·rw[kC c3,kD (fun h=>by have:=h c2;omega)];rfl
       ·rw[kD c3,kC (fun _=>by omega)];rfl
      rw[kC c2,this];cases decide (0<s.2)<;>rfl
     ·rw[kD c2,kC (fun h=>absurd h c2)];rfl
  cases ho:okS p.kind s with
  |false=>
   rw[ho]at st;refine⟨h1,x1,fun β kr kx=>?_⟩;simp only[aGb,aQf,WzO.S,WzO.n0,l22,hlen,zZ,dl,aLd,st,bEf,Bool.false_and];rfl
  |true=>
   rw[ho]at st;refine⟨h2,x1.trans x2,fun β kr kx=>?_⟩;simp only[aGb,aQf,WzO.S,WzO.n0,l22,hlen,zZ,dl,aLd,st,bEf,Bool.true_and,bEe,aG,wr,e2]
theorem bJd (L:Nat){h:H}(b:BQ h t p w):∀(cs:List UInt8) (i m:Nat) (β:Type) (kr kx:K1 β),p.codes.drop i=cs→i≤p.codes.length→cs.length<m→
 aEh (aA prog 2 Q n) L kr kx m (.int .i64 (i:Int)) (aB t) h=if cs.all okc then kx (aB t) h else kr (.bool false) h:=by
 have _:=kd;have _:=hn;obtain⟨_,_,_,_,_,_,_,_,_,l23⟩:=b.lds;have hcl:=bd.codes;intro cs
 induction cs with
 |nil=>
  intro i m β kr kx e hi hm;have:=oU e;obtain⟨m,rfl⟩:∃r,m=r+1:=⟨m-1,by omega⟩;have d:decide ((i:Int)<(p.codes.length:Int))=false:=by rw[kI];omega
  simp only[aEh,aKg,WzO.S,WzO.n0,l23,qJ,zZ,d,List.all_nil,if_true]
 |cons c cs ih=>
  intro i m β kr kx e hi hm;obtain⟨g1,g2,g3⟩:=tF e;obtain⟨m,rfl⟩:∃r,m=r+1:=⟨m-1,by omega⟩;have d:decide ((i:Int)<(p.codes.length:Int))=true:=by rw[kJ];omega
  have ix:=ixS g1;have wr:=aI (n:=i) (by omega);have d2:decide ((2:Int)<(c.toNat:Int))=decide (2<c.toNat):=dlN 2 _;have d3:decide ((c.toNat:Int)=128)=decide (c.toNat=128):=deN _ 128;have nx:=ih (i+1) m β kr kx g2 (by omega) (by simp only[kM]at hm;omega);rw[List.all_cons];by_cases c1:2<c.toNat
  ·by_cases c2:c.toNat=128
   ·have ho:okc c=true:=kC (Or.inr c2);rw[kC c1]at d2;rw[kC c2]at d3;simp only[aEh,aKg,WzO.S,WzO.n0,l23,qJ,zZ,d,aQe,ix,zY,d2,aK,d3,aVx,aG,wr,ho,Bool.true_and];exact nx
   ·have ho:okc c=false:=kD (fun h=>h.elim (by omega) c2);rw[kC c1]at d2;rw[kD c2]at d3;simp only[aEh,aKg,WzO.S,WzO.n0,l23,qJ,zZ,d,aQe,ix,zY,d2,aK,d3,ho,Bool.false_and];rfl
  ·have ho:okc c=true:=kC (Or.inl (by omega));rw[kD c1]at d2;simp only[aEh,aKg,WzO.S,WzO.n0,l23,qJ,zZ,d,aQe,ix,zY,d2,aVx,aG,wr,ho,Bool.true_and];exact nx
theorem cIg {h:H}(b:BQ h t p w)(sl:SliceE 2 h w (es.map sbC))(β:Type)(kr:K1 β):aQd h (aB t) kr=kr (.bool (decide ((p.kind=8∨p.kind=10)↔es≠[])&&decide (p.kind=9↔p.codes≠[]))) h:=by
 have _:=kd;have _:=hn;have _:=bd;obtain⟨⟨l0,_⟩,_,_,_,_,_,_,_,l22,l23⟩:=b.lds;have hlen:A.zG w=some (.int .i64 (es.length:Int)):=by have:=sl.len.1;rw[pA]at this;exact this
 have d8:decide ((p.kind:Int)=8)=decide (p.kind=8):=deN _ 8;have d9:decide ((p.kind:Int)=9)=decide (p.kind=9):=deN _ 9;have d10:decide ((p.kind:Int)=10)=decide (p.kind=10):=deN _ 10;have de:decide ((0:Int)<(es.length:Int))=decide (es≠[]):=decide_eq_decide.2 ⟨fun h e=>by rw[e]at h;simp at h,fun h=>by have:=List.length_pos_iff.2 h;omega⟩;have dc:decide ((0:Int)<(p.codes.length:Int))=decide (p.codes≠[]):=decide_eq_decide.2 ⟨fun h e=>by rw[e]at h;simp at h,fun h=>by have:=List.length_pos_iff.2 h;omega⟩;have be:=fun a b=>tR (P:=prog) (t:=4) Tryz.underlying4 a b;have c9:decide (decide (p.kind=9)=decide (p.codes≠[]))=decide (p.kind=9↔p.codes≠[]):=decide_eq_decide.2 decide_eq_decide;simp only[aQd,WzO.S,WzO.n0,l0,l22,l23,zQ,d8,d9,d10,hlen,zY,de,be,qJ,dc,c9];by_cases k8:p.kind=8
 ·rw[kC k8,cond_true];have:decide (true=decide (es≠[]))=decide ((p.kind=8∨p.kind=10)↔es≠[]):=decide_eq_decide.2 ⟨fun h=>⟨fun _=>of_decide_eq_true h.symm,fun _=>Or.inl k8⟩,fun h=>(kC (h.1 (Or.inl k8))).symm⟩;rw[this];cases decide ((p.kind=8∨p.kind=10)↔es≠[])<;>rfl
 ·rw[kD k8,cond_false];have:decide (decide (p.kind=10)=decide (es≠[]))=decide ((p.kind=8∨p.kind=10)↔es≠[]):=decide_eq_decide.2 (decide_eq_decide.trans ⟨fun h=>⟨fun h1=>h.1 (h1.resolve_left k8),fun h1=>Or.inr (h.2 h1)⟩,fun h=>⟨fun h1=>h.1 (Or.inr h1),fun h1=>(h.2 h1).resolve_left k8⟩⟩);rw[this];cases decide ((p.kind=8∨p.kind=10)↔es≠[])<;>rfl
end
theorem U58 {Q:Orc}(kd:KnB Q){h:H}{n:Nat}{p:Pq}{w:Value}{es:List Sb}(hn:1000400≤n)(bd:Bd p es)(hw:aJ w=some [w])(sl:SliceE 2 h w (es.map sbC)):
 ∃h',aA prog 2 Q n 58 [.agg ⟨p.cells w⟩] h=some (.bool (cO fiR p es),h')∧Ext h h':=by
 obtain⟨n,rfl⟩:∃m,n=m+1:=⟨n-1,by omega⟩;rw[bVo Q n _ h (kd.fr 58 _ (by decide))];obtain⟨h0,e0,b0,x0,_⟩:=cB p hw h;have hlen:=bd.len;have hcl:=bd.codes;obtain⟨h1,x1,e1⟩:=bJe kd (n:=n) (by omega) bd n es.length 0 n h0 (by omega) (by omega) b0 (sl.ext x0);have e2:=bJd kd (n:=n) (by omega) bd n (b0.ext x1) p.codes 0 n;have e3:=cIg kd (n:=n) (by omega) bd (b0.ext x1) ((sl.ext x0).ext x1);simp only[F58,aZy,bXz,e0,WzO.S,aZb,bXy];have e1:=e1 _ (fun x2 h=>some (x2,h)) (fun x1 h=>aSy (aA prog 2 Q n) n h x1 (fun x2 h=>some (x2,h)) (fun x1 h=>aQd h x1 (fun x2 h=>some (x2,h))));refine⟨h1,e1.trans ?_,x0.trans x1⟩;have hl:cO fiR p es=(es.all (okS p.kind)&&p.codes.all okc&&decide ((p.kind=8∨p.kind=10)↔es≠[])&&decide (p.kind=9↔p.codes≠[])):=rfl;rw[hl,List.drop_zero]
 cases es.all (okS p.kind)with
 |false=>rfl
 |true=>
  rw[kB rfl];simp only[aSy,bXx,WzO.S];refine(e2 _ (fun x2 h=>some (x2,h)) (fun x1 h=>aQd h x1 (fun x2 h=>some (x2,h))) rfl (pQ _) (by omega)).trans ?_
  cases p.codes.all okc with
  |false=>rfl
  |true=>
   rw[kB rfl,e3,Bool.true_and,Bool.true_and]
end Go.Proofs.YtohapjojkjjflaaGreatDoor.Wz

set_option maxRecDepth 100000
namespace Go.Proofs.YtohapjojkjjflaaGreatDoor.Wz
open Tryz (prog)
open Go Go.AM WzA WzB
open Go.AM.Pk (K0 K1 K2 K3 K4 K5)
theorem pV (k:Nat)(s:Sb)(l:List Sb):fM k (s::l)=2+s.1.length+(if k=8 then 1 else 0)+fM k l:=rfl
theorem wF (k:Nat):∀l:List Sb,(∀s∈l,s.1.length≤1000300)→fM k l≤l.length*1000303
 |[],_=>pQ _
 |s::l,h=>by
  have h1:=wF k l (fun x hx=>h x (List.mem_cons_of_mem _ hx));have h2:=h s List.mem_cons_self;rw[pV,kM];split<;>omega
theorem iZ {a b:Nat}(h:a+b<2^62):A.zA prog .add 3 (.int .i64 (a:Int)) (.int .i64 (b:Int))=some (.int .i64 ((a+b:Nat):Int)):=by
 rw[aG,aS (by omega) (by omega)];congr 2
section
variable {Q:Orc}(kd:KnB Q){h:H}{t n:Nat}{p:Pq}{w:Value}{es:List Sb}(bd:Bd p es)(b:BQ h t p w)
include kd bd b
theorem cGk (L:Nat)(sl:SliceE 2 h w (es.map sbC)):∀(d i m a:Nat) (β:Type) (kx:K2 β),i+d=es.length→d<m→a+fM p.kind (es.drop i)<2^60→
 aFz (aA prog 2 Q n) L kx m (.int .i64 (i:Int)) (aB t) (.int .i64 (a:Int)) h=kx (aB t) (.int .i64 ((a+fM p.kind (es.drop i):Nat):Int)) h:=by
 have _:=kd;obtain⟨⟨l0,_⟩,_,_,_,_,_,_,_,l22,_⟩:=b.lds;have hlen:A.zG w=some (.int .i64 (es.length:Int)):=by have:=sl.len.1;rw[pA]at this;exact this
 have hbl:=bd.len;intro d
 induction d with
 |zero=>
  intro i m a β kx hi hm ha;obtain⟨m,rfl⟩:∃r,m=r+1:=⟨m-1,by omega⟩;have d:decide ((i:Int)<(es.length:Int))=false:=by rw[kI];omega
  rw[pL (by omega)];simp only[aFz,aQb,WzO.S,WzO.n0,l22,hlen,zZ,d];rfl
 |succ d ih=>
  intro i m a β kx hi hm ha;obtain⟨m,rfl⟩:∃r,m=r+1:=⟨m-1,by omega⟩;have dl:decide ((i:Int)<(es.length:Int))=true:=by rw[kJ];omega
  obtain⟨s,hs⟩:∃s,es[i]?=some s:=⟨_,kN (by omega)⟩;obtain⟨id,off,ix,lds⟩:=mR sl hs;obtain⟨f0,_,_⟩:=lds h (Ext.refl h);have wr:=aI (n:=i) (by omega);have d8:decide ((p.kind:Int)=8)=decide (p.kind=8):=deN _ 8;rw[aQ hs,pV]at ha⊢;have a1:A.zA prog .add 3 (.int .i64 (a:Int)) (.int .i64 2)=some (.int .i64 ((a+2:Nat):Int)):=iZ (b:=2) (by omega);have a2:A.zA prog .add 3 (.int .i64 ((a+2:Nat):Int)) (.int .i64 (s.1.length:Int))=some (.int .i64 ((a+2+s.1.length:Nat):Int)):=iZ (by omega);have a3:A.zA prog .add 3 (.int .i64 ((a+2+s.1.length:Nat):Int)) (.int .i64 1)=some (.int .i64 ((a+2+s.1.length+1:Nat):Int)):=iZ (b:=1) (by omega);have a4:A.zA prog .add 3 (.int .i64 (i:Int)) (.int .i64 1)=some (.int .i64 ((i+1:Nat):Int)):=by rw[aG,wr]
  by_cases k8:p.kind=8
  ·rw[kB k8]at ha⊢;rw[kC k8]at d8;have nx:=ih (i+1) m (a+2+s.1.length+1) β kx (by omega) (by omega) (by omega);simp only[aFz,aQb,WzO.S,WzO.n0,Nat.add_zero,l22,hlen,zZ,dl,a1,ix,f0,qJ,a2,l0,zQ,d8,a3,a4];refine nx.trans ?_;congr 3;omega
  ·rw[kA k8]at ha⊢;rw[kD k8]at d8;have nx:=ih (i+1) m (a+2+s.1.length) β kx (by omega) (by omega) (by omega);simp only[aFz,aQb,WzO.S,WzO.n0,Nat.add_zero,l22,hlen,zZ,dl,a1,ix,f0,qJ,a2,l0,zQ,d8,a4];refine nx.trans ?_;congr 3;omega
def aFh (p:Pq):Nat:=(if p.kind=1 then 12+p.client.length+(if p.will then 4+p.wt.length+p.wp.length else 0)+(if p.hu then 2+p.user.length else 0)+(if p.hp then 2+p.pass.length else 0)else if p.kind=2 then 2 else if p.kind=3 then 2+p.topic.length else 0)
theorem cIa (a:Nat)(ha:a≤2000000000000)(β:Type)(kn:K1 β):xR h (aB t) (.int .i64 (a:Int)) kn=kn (.int .i64 ((a+aFh p:Nat):Int)) h:=by
 have _:=kd;obtain⟨⟨l0,l1,l2,l3,l4,l5,l6,l7⟩,⟨l8,l9,l10,l11,l12,l13,l14,l15⟩,l16,l17,l18,l19,l20,l21,l22,l23⟩:=b.lds;have d1:decide ((p.kind:Int)=1)=decide (p.kind=1):=deN _ 1;have d2:decide ((p.kind:Int)=2)=decide (p.kind=2):=deN _ 2;have d3:decide ((p.kind:Int)=3)=decide (p.kind=3):=deN _ 3;have b1:=bd.client;have b2:=bd.wt;have b3:=bd.wp;have b4:=bd.user;have b5:=bd.pass;have b6:=bd.topic;have ad:∀{x y:Nat},x≤3000000000000→y≤1000300→A.zA prog .add 3 (.int .i64 (x:Int)) (.int .i64 (y:Int))=some (.int .i64 ((x+y:Nat):Int)):=fun h1 h2=>iZ (by omega);have a2:∀{x:Nat},x≤3000000000000→A.zA prog .add 3 (.int .i64 (x:Int)) (.int .i64 2)=some (.int .i64 ((x+2:Nat):Int)):=fun h1=>iZ (b:=2) (by omega);have a4:∀{x:Nat},x≤3000000000000→A.zA prog .add 3 (.int .i64 (x:Int)) (.int .i64 4)=some (.int .i64 ((x+4:Nat):Int)):=fun h1=>iZ (b:=4) (by omega);have a12:A.zA prog .add 3 (.int .i64 (a:Int)) (.int .i64 12)=some (.int .i64 ((a+12:Nat):Int)):=iZ (b:=12) (by omega);unfold aFh;by_cases k1:p.kind=1
 ·rw[kB k1];rw[kC k1]at d1;have A1:∀(kn:K2 β),bDz h (aB t) (.int .i64 (a:Int)) kn=kn (aB t) (.int .i64 ((a+12+p.client.length:Nat):Int)) h:=by
   intro kn;simp only[bDz,a12,WzO.S,WzO.n0,l10,qJ,ad (x:=a+12) (y:=p.client.length) (by omega) b1]
  have A2:∀(c:Nat) (kn:K2 β),c≤2000002000000→aVs h (aB t) (.int .i64 (c:Int)) kn=kn (aB t) (.int .i64 ((c+(if p.will then 4+p.wt.length+p.wp.length else 0):Nat):Int)) h:=by
   intro c kn hc
   cases hw:p.will with
   |false=>
    rw[hw]at l11;simp only[aVs,WzO.S,WzO.n0,l11];rfl
   |true=>
    rw[hw]at l11;simp only[aVs,WzO.S,WzO.n0,Nat.reduceAdd,l11,l12,l13,a4 (x:=c) (by omega),qJ,ad (x:=c+4) (by omega) b2,ad (x:=c+4+p.wt.length) (by omega) b3,if_true];congr 3;omega
  have A3:∀(c:Nat) (kn:K1 β),c≤2000012000000→aKf h (aB t) (.int .i64 (c:Int)) kn=kn (.int .i64 ((c+(if p.hu then 2+p.user.length else 0)+(if p.hp then 2+p.pass.length else 0):Nat):Int)) h:=by
   intro c kn hc
   cases hu:p.hu with
   |false=>
    rw[hu]at l16
    cases hp:p.hp with
    |false=>
     rw[hp]at l17;simp only[aKf,WzO.S,WzO.n0,l16,l17];rfl
    |true=>
     rw[hp]at l17;simp only[aKf,WzO.S,WzO.n0,l16,l17,l19,a2 (x:=c) (by omega),qJ,ad (x:=c+2) (by omega) b5,if_true];simp[Nat.add_assoc]
   |true=>
    rw[hu]at l16
    cases hp:p.hp with
    |false=>
     rw[hp]at l17;simp only[aKf,WzO.S,WzO.n0,l16,l17,l18,a2 (x:=c) (by omega),qJ,ad (x:=c+2) (by omega) b4,if_true];simp[Nat.add_assoc]
    |true=>
     rw[hp]at l17;simp only[aKf,WzO.S,WzO.n0,l16,l17,l18,l19,a2 (x:=c) (by omega),qJ,ad (x:=c+2) (by omega) b4,a2 (x:=c+2+p.user.length) (by omega),ad (x:=c+2+p.user.length+2) (by omega) b5,if_true];congr 3;omega
  have hw2:(if p.will=true then 4+p.wt.length+p.wp.length else 0)≤2000700:=by split<;>omega
  simp only[xR,aQa,aPz,WzO.S,WzO.n0,l0,zQ,d1,A1,A2 _ _ (show a+12+p.client.length≤2000002000000 by omega),A3 _ _ (show a+12+p.client.length+(if p.will=true then 4+p.wt.length+p.wp.length else 0)≤2000012000000 by omega)]
  congr 3;omega
 ·rw[kA k1];rw[kD k1]at d1;by_cases k2:p.kind=2
  ·rw[kB k2];rw[kC k2]at d2;simp only[xR,aQa,aPz,aVt,WzO.S,WzO.n0,l0,zQ,d1,d2,a2 (x:=a) (by omega)]
  ·rw[kA k2];rw[kD k2]at d2;by_cases k3:p.kind=3
   ·rw[kB k3];rw[kC k3]at d3;simp only[xR,aQa,aPz,aVt,WzO.S,WzO.n0,l0,l5,zQ,d1,d2,d3,a2 (x:=a) (by omega),qJ,ad (x:=a+2) (by omega) b6];congr 3;omega
   ·rw[kA k3];rw[kD k3]at d3;simp only[xR,aQa,aPz,aVt,WzO.S,WzO.n0,l0,l5,zQ,d1,d2,d3];rfl
end
theorem U62 {Q:Orc}(kd:KnB Q){h:H}{n:Nat}{p:Pq}{w:Value}{es:List Sb}(hn:1000400≤n)(bd:Bd p es)(hw:aJ w=some [w])(sl:SliceE 2 h w (es.map sbC)):
 ∃h',aA prog 2 Q n 62 [.agg ⟨p.cells w⟩] h=some (.int .i64 (oF p es:Int),h')∧Ext h h':=by
 obtain⟨n,rfl⟩:∃m,n=m+1:=⟨n-1,by omega⟩;rw[bVk Q n _ h (kd.fr 62 _ (by decide))];obtain⟨h0,e0,b0,x0,_⟩:=cB p hw h;obtain⟨⟨l0,l1,l2,l3,l4,l5,l6,l7⟩,⟨l8,l9,l10,l11,l12,l13,l14,l15⟩,l16,l17,l18,l19,l20,l21,l22,l23⟩:=b0.lds;have hlen:=bd.len;have b1:=bd.payload;have b2:=bd.codes;have hs:=wF p.kind es (fun s h=>(bd.es s h).1);have hs2:es.length*1000303≤1000301*1000303:=Nat.mul_le_mul_right _ hlen;have a1:A.zA prog .add 3 (.int .i64 (p.payload.length:Int)) (.int .i64 (p.codes.length:Int))=_:=iZ (by omega);have a2:A.zA prog .add 3 (.int .i64 ((p.payload.length+p.codes.length:Nat):Int)) (.int .i64 2)=some (.int .i64 ((p.payload.length+p.codes.length+2:Nat):Int)):=iZ (b:=2) (by omega);have di:decide ((0:Int)<(p.id:Int))=decide (0<p.id):=dlN 0 _;refine⟨h0,?_,x0⟩;have hl:oF p es=p.payload.length+p.codes.length+(if 0<p.id then 2 else 0)+fM p.kind es+aFh p:=rfl
 have go:∀(a:Nat) (k:K1 (Value×H)),a≤3000000→aSs (aA prog 2 Q n) n h0 (aB h.next) (.int .i64 (a:Int)) (fun x1 x3 h=>xR h x1 x3 (fun x3 h=>bDy h x3 k))=k (.int .i64 ((a+fM p.kind es+aFh p:Nat):Int)) h0:=by
  intro a k ha;simp only[aSs,bXq,WzO.S];have:=cGk kd bd b0 (n:=n) n (sl.ext x0) es.length 0 n a _ (fun x1 x3 h=>xR h x1 x3 (fun x3 h=>bDy h x3 k)) (by omega) (by omega) (by rw[List.drop_zero];omega);rw[List.drop_zero]at this;refine this.trans ?_;rw[cIa kd bd b0 _ (by omega)];rfl
 rw[hl];by_cases c:0<p.id
 ·rw[kC c]at di;simp only[F62,aTq,bEa,e0,WzO.S,WzO.n0,l6,l23,l4,qJ,a1,zY,di,a2,kB c];exact go _ _ (by omega)
 ·rw[kD c]at di;simp only[F62,aTq,bEa,e0,WzO.S,WzO.n0,l6,l23,l4,qJ,a1,zY,di,kA c];exact go _ _ (by omega)
end Go.Proofs.YtohapjojkjjflaaGreatDoor.Wz

set_option maxRecDepth 100000
namespace Go.Proofs.YtohapjojkjjflaaGreatDoor.Wz
open Tryz (prog)
open Go Go.AM WzA WzB WzD
open Go.AM.Pk (K0 K1 K2 K3 K4 K5)
theorem aNm (a b a' b':List UInt8)(c c':Nat)(d d':Bool):A.zA prog .neq 35 (.agg ⟨[str a,str b,.int .u8 (c:Int),.bool d]⟩) (.agg ⟨[str a',str b',.int .u8 (c':Int),.bool d']⟩)=some (.bool (!(decide (a=a')&&(decide (b=b')&&(decide (c=c')&&decide (d=d')))))):=by
 have e:A.yF prog 20 35 (.agg ⟨[str a,str b,.int .u8 (c:Int),.bool d]⟩) (.agg ⟨[str a',str b',.int .u8 (c':Int),.bool d']⟩)=(bif a==a' then(bif b==b' then(bif (c:Int)==(c':Int)then(bif d==d' then some true else some false)else some false)else some false)else some false):=by kernel_rfl
 refine gL rfl rfl (by kernel_rfl) (e.trans ?_);have hc:((c:Int)==(c':Int))=decide (c=c'):=by rw[Bool.eq_iff_iff,beq_iff_eq,pI];omega
 have hd:(d==d')=decide (d=d'):=by cases d<;>cases d'<;>rfl
 have ha:(a==a')=decide (a=a'):=by rw[Bool.eq_iff_iff,beq_iff_eq,pI]
 have hb:(b==b')=decide (b=b'):=by rw[Bool.eq_iff_iff,beq_iff_eq,pI]
 rw[ha,hb,hc,hd];cases decide (a=a')<;>cases decide (b=b')<;>cases decide (c=c')<;>cases decide (d=d')<;>rfl
theorem uD (s r:Sb):A.zA prog .neq 56 (.agg ⟨sbC s⟩) (.agg ⟨sbC r⟩)=some (.bool (!decide (s=r))):=by
 have e:A.yF prog 20 56 (.agg ⟨sbC s⟩) (.agg ⟨sbC r⟩)=(bif s.1==r.1 then(bif (s.2:Int)==(r.2:Int)then some true else some false)else some false):=by kernel_rfl
 refine gL rfl rfl (by kernel_rfl) (e.trans ?_);by_cases h1:s.1=r.1
 ·by_cases h2:s.2=r.2
  ·rw[h1,h2,kC (Prod.ext h1 h2)];simp
  ·have:((s.2:Int)==(r.2:Int))=false:=by rw[beq_eq_false_iff_ne];omega
   rw[h1,this,kD (fun h=>h2 (by rw[h]))];simp
 ·have:(s.1==r.1)=false:=by rw[beq_eq_false_iff_ne];exact h1
  rw[this,kD (fun h=>h1 (by rw[h]))];rfl
section
variable {Q:Orc}(kd:KnB Q){h:H}{t u n:Nat}{p q:Pq}{w w2:Value}{es es2:List Sb}(b:BQ h t p w)(b2:BQ h u q w2)
include kd b b2
theorem aHj (β:Type)(kn:K3 β):bGg h (aB t) (aB u) kn=kn (.bool (!(decide (p.kind=q.kind)&&(decide (p.dup=q.dup)&&(decide (p.qos=q.qos)&&(decide (p.retain=q.retain)&&(decide (p.id=q.id)&&(decide (p.topic=q.topic)&&(decide (p.payload=q.payload)&&(decide (p.level=q.level)&&(decide (p.clean=q.clean)&&(decide (p.keep=q.keep)&&decide (p.client=q.client))))))))))))) (aB u) (aB t) h:=by
 have _:=kd;obtain⟨⟨l0,l1,l2,l3,l4,l5,l6,l7⟩,⟨l8,l9,l10,l11,l12,l13,l14,l15⟩,l16,l17,l18,l19,l20,l21,l22,l23⟩:=b.lds;obtain⟨⟨m0,m1,m2,m3,m4,m5,m6,m7⟩,⟨m8,m9,m10,m11,m12,m13,m14,m15⟩,m16,m17,m18,m19,m20,m21,m22,m23⟩:=b2.lds;have be:=fun a b=>mN (P:=prog) (t:=4) Tryz.underlying4 a b;have ch:∀a r:Bool,(bif !a then kn (.bool true) (aB u) (aB t) h else kn (.bool (!r)) (aB u) (aB t) h)=kn (.bool (!(a&&r))) (aB u) (aB t) h:=fun a r=>by cases a<;>rfl
 have sn:=fun a b=>dS a b;simp only[bGg,WzO.S,WzO.n0,l0,l1,l2,l3,l4,l5,l6,l7,l8,l9,l10,m0,m1,m2,m3,m4,m5,m6,m7,m8,m9,m10,aK,deN,be,sn,ch]
theorem cJn (s1:SliceE 2 h w (es.map sbC))(s2:SliceE 2 h w2 (es2.map sbC))(β:Type)(kn:K3 β):bGf h (aB t) (aB u) kn=kn (.bool (!(decide (p.will=q.will)&&((decide (p.wt=q.wt)&&(decide (p.wp=q.wp)&&(decide (p.wq=q.wq)&&decide (p.wr=q.wr))))&&(decide (p.hu=q.hu)&&(decide (p.hp=q.hp)&&(decide (p.user=q.user)&&(decide (p.pass=q.pass)&&(decide (p.present=q.present)&&(decide (p.code=q.code)&&(decide (p.codes=q.codes)&&decide (es.length=es2.length)))))))))))) (aB u) (aB t) h:=by
 have _:=kd;obtain⟨⟨l0,l1,l2,l3,l4,l5,l6,l7⟩,⟨l8,l9,l10,l11,l12,l13,l14,l15⟩,l16,l17,l18,l19,l20,l21,l22,l23⟩:=b.lds;obtain⟨⟨m0,m1,m2,m3,m4,m5,m6,m7⟩,⟨m8,m9,m10,m11,m12,m13,m14,m15⟩,m16,m17,m18,m19,m20,m21,m22,m23⟩:=b2.lds;have be:=fun a b=>mN (P:=prog) (t:=4) Tryz.underlying4 a b;have ch:∀a r:Bool,(bif !a then kn (.bool true) (aB u) (aB t) h else kn (.bool (!r)) (aB u) (aB t) h)=kn (.bool (!(a&&r))) (aB u) (aB t) h:=fun a r=>by cases a<;>rfl
 have sn:=fun a b=>dS a b;have wl:A.load true 4 (.pointer (some ⟨t,12,none⟩)) h=some (.agg ⟨[str p.wt,str p.wp,.int .u8 (p.wq:Int),.bool p.wr]⟩):=by rw[bJ,b.1];rfl
 have wm:A.load true 4 (.pointer (some ⟨u,12,none⟩)) h=some (.agg ⟨[str q.wt,str q.wp,.int .u8 (q.wq:Int),.bool q.wr]⟩):=by rw[bJ,b2.1];rfl
 have n1:A.zG w=some (.int .i64 (es.length:Int)):=by have:=s1.len.1;rw[pA]at this;exact this
 have n2:A.zG w2=some (.int .i64 (es2.length:Int)):=by have:=s2.len.1;rw[pA]at this;exact this
 simp only[bGf,WzO.S,WzO.n0,l11,l16,l17,l18,l19,l20,l21,l22,l23,m11,m16,m17,m18,m19,m20,m21,m22,m23,wl,wm,aNm,aK,deN,be,sn,n1,n2,ch]
theorem cGr (hl:es.length≤1001000)(C:CF)(L:Nat)(s1:SliceE 2 h w (es.map sbC))(s2:SliceE 2 h w2 (es2.map sbC))(he:es.length=es2.length):∀(d i m:Nat) (β:Type) (kr:K1 β) (kx:K0 β),i+d=es.length→d<m→
 aGl C L kr kx m (.int .i64 (i:Int)) (aB u) (aB t) h=if es.drop i=es2.drop i then kx h else kr (.bool false) h:=by
 have _:=kd;obtain⟨_,_,_,_,_,_,_,_,l22,_⟩:=b.lds;obtain⟨_,_,_,_,_,_,_,_,m22,_⟩:=b2.lds;have n1:A.zG w=some (.int .i64 (es.length:Int)):=by have:=s1.len.1;rw[pA]at this;exact this
 intro d
 induction d with
 |zero=>
  intro i m β kr kx hi hm;obtain⟨m,rfl⟩:∃r,m=r+1:=⟨m-1,by omega⟩;have d:decide ((i:Int)<(es.length:Int))=false:=by rw[kI];omega
  rw[pL (by omega),pL (by omega),kB rfl];simp only[aGl,aRq,WzO.S,WzO.n0,l22,n1,zZ,d]
 |succ d ih=>
  intro i m β kr kx hi hm;obtain⟨m,rfl⟩:∃r,m=r+1:=⟨m-1,by omega⟩;have dl:decide ((i:Int)<(es.length:Int))=true:=by rw[kJ];omega
  obtain⟨s,hs⟩:∃s,es[i]?=some s:=⟨_,kN (by omega)⟩;obtain⟨r,hr⟩:∃r,es2[i]?=some r:=⟨_,kN (by omega)⟩;obtain⟨id,off,ix,lds⟩:=mR s1 hs;obtain⟨_,_,f2⟩:=lds h (Ext.refl h);obtain⟨id',off',ix',lds'⟩:=mR s2 hr;obtain⟨_,_,g2⟩:=lds' h (Ext.refl h);have wr:=aI (n:=i) (by omega);have nx:=ih (i+1) m β kr kx (by omega) (by omega);rw[aQ hs,aQ hr];by_cases c:s=r
  ·have sn:=uD s r;rw[kC c]at sn;have e:(s::es.drop (i+1)=r::es2.drop (i+1))=(es.drop (i+1)=es2.drop (i+1)):=by rw[c];simp
   simp only[aGl,aRq,WzO.S,WzO.n0,l22,m22,n1,zZ,dl,ix,ix',f2,g2,sn,aG,wr,e];exact nx
  ·have sn:=uD s r;rw[kD c]at sn;rw[kA (fun h=>c (List.cons.inj h).1)];simp only[aGl,aRq,WzO.S,WzO.n0,l22,m22,n1,zZ,dl,ix,ix',f2,g2,sn]
end
theorem U19 {Q:Orc}(kd:KnB Q){h:H}{n:Nat}{p q:Pq}{w w2:Value}{es es2:List Sb}(hn:1001400≤n)(hl:es.length≤1001000)(hw:aJ w=some [w])(hw2:aJ w2=some [w2])(s1:SliceE 2 h w (es.map sbC))(s2:SliceE 2 h w2 (es2.map sbC)):
 ∃h',aA prog 2 Q n 19 [.agg ⟨p.cells w⟩,.agg ⟨q.cells w2⟩] h=some (.bool (decide (p=q∧es=es2)),h')∧Ext h h':=by
 obtain⟨n,rfl⟩:∃m,n=m+1:=⟨n-1,by omega⟩;rw[bWv Q n _ _ h (kd.fr 19 _ (by decide))];obtain⟨h0,e0,b0,x0,_⟩:=cB p hw h;obtain⟨h1,e1,b1,x1,_⟩:=cB q hw2 h0;have b0:=b0.ext x1;have x:=x0.trans x1;have e2:=aHj kd b0 b1;have e3:=cJn kd b0 b1 (s1.ext x) (s2.ext x);refine⟨h1,?_,x⟩;simp only[F19,bAp,cBd,e0,e1,WzO.S,aYg,e2,cBc,aYf,e3,cBb,aYq,cBa,cAz];obtain⟨A,hA⟩:∃A,A=(decide (p.kind=q.kind)&&(decide (p.dup=q.dup)&&(decide (p.qos=q.qos)&&(decide (p.retain=q.retain)&&(decide (p.id=q.id)&&(decide (p.topic=q.topic)&&(decide (p.payload=q.payload)&&(decide (p.level=q.level)&&(decide (p.clean=q.clean)&&(decide (p.keep=q.keep)&&decide (p.client=q.client))))))))))):=⟨_,rfl⟩;obtain⟨B,hB⟩:∃B,B=(decide (p.will=q.will)&&((decide (p.wt=q.wt)&&(decide (p.wp=q.wp)&&(decide (p.wq=q.wq)&&decide (p.wr=q.wr))))&&(decide (p.hu=q.hu)&&(decide (p.hp=q.hp)&&(decide (p.user=q.user)&&(decide (p.pass=q.pass)&&(decide (p.present=q.present)&&(decide (p.code=q.code)&&(decide (p.codes=q.codes)&&decide (es.length=es2.length)))))))))):=⟨_,rfl⟩;rw[←hA,←hB];have hpq:(p=q∧es.length=es2.length)↔A=true∧B=true:=by
  rw[hA,hB];obtain⟨a0,a1,a2,a3,a4,a5,a6,a7,a8,a9,a10,a11,a12,a13,a14,a15,a16,a17,a18,a19,a20,a21,a22⟩:=p;obtain⟨c0,c1,c2,c3,c4,c5,c6,c7,c8,c9,c10,c11,c12,c13,c14,c15,c16,c17,c18,c19,c20,c21,c22⟩:=q;simp only[kO,pI,Pq.mk.injEq];constructor
  ·intro h;simp[h]
  ·intro h;simp[h]
 cases A with
 |false=>
  rw[kD (fun h=>by have:=(hpq.1 ⟨h.1,by rw[h.2]⟩).1;cases this)];rfl
 |true=>
  cases B with
  |false=>
   rw[kD (fun h=>by have:=(hpq.1 ⟨h.1,by rw[h.2]⟩).2;cases this)];rfl
  |true=>
   obtain⟨h3,h4⟩:=hpq.2 ⟨rfl,rfl⟩;have lp:=cGr kd b0 b1 hl (aA prog 2 Q n) n (s1.ext x) (s2.ext x) h4 es.length 0 n _ (fun x4 h=>some (x4,h)) (fun h=>some (.bool true,h)) (by omega) (by omega);simp only[sA,cond_false];refine lp.trans ?_;rw[List.drop_zero,List.drop_zero];by_cases c:es=es2
   ·rw[kB c,kC ⟨h3,c⟩]
   ·rw[kA c,kD (fun h=>c h.2)]
end Go.Proofs.YtohapjojkjjflaaGreatDoor.Wz

set_option maxRecDepth 100000
namespace Go.Proofs.YtohapjojkjjflaaGreatDoor.Wz
open Tryz (prog)
open Go Go.AM WzA WzB WzD
open Go.AM.Pk (K0 K1 K2 K3 K4 K5)
theorem BQ.set {h:H}{u:Nat}{q q':Pq}{w w' v:Value}{i:Nat}(b:BQ h u q w)(hi:i<24)(hv:aJ v=some [v])(hp:q'.cells w'=(q.cells w).set i v):∃h',A.store 1 (.pointer (some ⟨u,i,none⟩)) v h=some h'∧BQ h' u q' w'∧ExtBut (fun j=>j=u) h h':=by
 obtain⟨h',hh⟩:∃h',h'=h.put u (.cells (q'.cells w') (some 0)):=⟨_,rfl⟩;refine⟨h',?_,⟨by rw[hh,H.get_put,kB rfl],by rw[hh];exact b.2⟩,by rw[hh];exact ExtBut.put ⟨kF _,fun _ _ _=>rfl⟩ u _ rfl⟩;have hl:(q.cells w).length=24:=rfl;have e1:Nat.ble (i+1) (q.cells w).length=true:=ble_iff.2 (by omega);have e0:Nat.beq [v].length 1=true:=rfl;rw[qU,b.1,hv];simp only[e0,e1,Bool.and_self,cond_true,fZ (by omega:i<(q.cells w).length)];rw[hh,hp]
theorem nZ (k:Nat):(aN k).length≤7:=by
 unfold aN;by_cases h:k<15
 ·have:∀k:Fin 15,((([[45],[108,99,107,110,119,117,115],[101,111],[100,113,114,105,116,112],[105],[105],[105],[105],[105,98],[105,109],[105,98],[105],[],[],[]]:List (List UInt8))[k.1]?.getD [45]):List UInt8).length≤7:=by decide
  exact this ⟨k,h⟩
 ·rw[List.getElem?_eq_none (by simp;omega)];decide
section
variable {C:CF}{h:H}{t u:Nat}{p q:Pq}{w w2 x2:Value}{F:List UInt8}(hc:∀(c:UInt8) (h:H),C 61 [str F,u8 c] h=some (.bool (aW F c),h))(b:BQ h u q w2)
include hc b
section
variable (a:BQ h t p w)(β:Type)
include a
theorem cIp:∃h',(∀kn:K4 β,bEl C h (aB t) x2 (str F) (aB u) kn=kn (aB t) (str F) (aB u) x2 h')∧BQ h' u {q with dup:=p.dup&&aW F 100} w2∧ExtBut (fun j=>j=u) h h':=by
 obtain⟨⟨l0,l1,l2,l3,l4,l5,l6,l7⟩,⟨l8,l9,l10,l11,l12,l13,l14,l15⟩,l16,l17,l18,l19,l20,l21,l22,l23⟩:=a.lds;have e:C 61 [str F,.int .u8 100] h=_:=hc 100 h;obtain⟨h',st,b',x⟩:=b.set (i:=1) (v:=.bool (p.dup&&aW F 100)) (q':={q with dup:=p.dup&&aW F 100}) (w':=w2) (by omega) rfl rfl;refine⟨h',fun kn=>?_,b',x⟩;cases hd:p.dup<;>rw[hd]at l1 st<;>simp only[Bool.false_and,Bool.true_and]at st<;>simp only[bEl,WzO.S,WzO.n0,l1,e,st]
theorem cIj:∃h',(∀kn:K4 β,bEk C h (aB t) x2 (str F) (aB u) kn=kn (aB t) (str F) (aB u) x2 h')∧BQ h' u {q with retain:=p.retain&&aW F 114} w2∧ExtBut (fun j=>j=u) h h':=by
 obtain⟨⟨l0,l1,l2,l3,l4,l5,l6,l7⟩,⟨l8,l9,l10,l11,l12,l13,l14,l15⟩,l16,l17,l18,l19,l20,l21,l22,l23⟩:=a.lds;have e:C 61 [str F,.int .u8 114] h=_:=hc 114 h;obtain⟨h',st,b',x⟩:=b.set (i:=3) (v:=.bool (p.retain&&aW F 114)) (q':={q with retain:=p.retain&&aW F 114}) (w':=w2) (by omega) rfl rfl;refine⟨h',fun kn=>?_,b',x⟩;cases hd:p.retain<;>rw[hd]at l3 st<;>simp only[Bool.false_and,Bool.true_and]at st<;>simp only[bEk,WzO.S,WzO.n0,l3,e,st]
theorem cIq:∃h',(∀kn:K4 β,bEj C h (aB t) x2 (str F) (aB u) kn=kn (aB t) (str F) (aB u) x2 h')∧BQ h' u {q with clean:=p.clean&&aW F 99} w2∧ExtBut (fun j=>j=u) h h':=by
 obtain⟨⟨l0,l1,l2,l3,l4,l5,l6,l7⟩,⟨l8,l9,l10,l11,l12,l13,l14,l15⟩,l16,l17,l18,l19,l20,l21,l22,l23⟩:=a.lds;have e:C 61 [str F,.int .u8 99] h=_:=hc 99 h;obtain⟨h',st,b',x⟩:=b.set (i:=8) (v:=.bool (p.clean&&aW F 99)) (q':={q with clean:=p.clean&&aW F 99}) (w':=w2) (by omega) rfl rfl;refine⟨h',fun kn=>?_,b',x⟩;cases hd:p.clean<;>rw[hd]at l8 st<;>simp only[Bool.false_and,Bool.true_and]at st<;>simp only[bEj,WzO.S,WzO.n0,l8,e,st]
theorem cIo:∃h',(∀kn:K3 β,bEi C h (aB t) x2 (str F) (aB u) kn=kn (str F) (aB u) x2 h')∧BQ h' u {q with present:=p.present&&aW F 101} w2∧ExtBut (fun j=>j=u) h h':=by
 obtain⟨⟨l0,l1,l2,l3,l4,l5,l6,l7⟩,⟨l8,l9,l10,l11,l12,l13,l14,l15⟩,l16,l17,l18,l19,l20,l21,l22,l23⟩:=a.lds;have e:C 61 [str F,.int .u8 101] h=_:=hc 101 h;obtain⟨h',st,b',x⟩:=b.set (i:=20) (v:=.bool (p.present&&aW F 101)) (q':={q with present:=p.present&&aW F 101}) (w':=w2) (by omega) rfl rfl;refine⟨h',fun kn=>?_,b',x⟩;cases hd:p.present<;>rw[hd]at l20 st<;>simp only[Bool.false_and,Bool.true_and]at st<;>simp only[bEi,WzO.S,WzO.n0,l20,e,st]
end
section
variable (β:Type)
theorem cIk:∃h',(∀kn:K3 β,aWc C h x2 (str F) (aB u) kn=kn (str F) (aB u) x2 h')∧BQ h' u {q with qos:=if aW F 113 then q.qos else 0} w2∧ExtBut (fun j=>j=u) h h':=by
 have e:C 61 [str F,.int .u8 113] h=_:=hc 113 h
 cases hb:aW F 113 with
 |true=>
  rw[hb]at e;refine⟨h,fun kn=>?_,b,⟨kF _,fun _ _ _=>rfl⟩⟩;simp only[aWc,e,WzO.S]
 |false=>
  rw[hb]at e;obtain⟨h',st,b',x⟩:=b.set (i:=2) (v:=.int .u8 0) (q':={q with qos:=0}) (w':=w2) (by omega) rfl rfl;refine⟨h',fun kn=>?_,b',x⟩;simp only[aWc,e,WzO.S,WzO.n0,st]
theorem cIn:∃h',(∀kn:K3 β,aWb C h x2 (str F) (aB u) kn=kn (str F) (aB u) x2 h')∧BQ h' u {q with id:=if aW F 105 then q.id else 0} w2∧ExtBut (fun j=>j=u) h h':=by
 have e:C 61 [str F,.int .u8 105] h=_:=hc 105 h
 cases hb:aW F 105 with
 |true=>
  rw[hb]at e;refine⟨h,fun kn=>?_,b,⟨kF _,fun _ _ _=>rfl⟩⟩;simp only[aWb,e,WzO.S]
 |false=>
  rw[hb]at e;obtain⟨h',st,b',x⟩:=b.set (i:=4) (v:=.int .u16 0) (q':={q with id:=0}) (w':=w2) (by omega) rfl rfl;refine⟨h',fun kn=>?_,b',x⟩;simp only[aWb,e,WzO.S,WzO.n0,st]
theorem cIi:∃h',(∀kn:K3 β,aWa C h x2 (str F) (aB u) kn=kn (str F) (aB u) x2 h')∧BQ h' u {q with topic:=if aW F 116 then q.topic else[]} w2∧ExtBut (fun j=>j=u) h h':=by
 have e:C 61 [str F,.int .u8 116] h=_:=hc 116 h
 cases hb:aW F 116 with
 |true=>
  rw[hb]at e;refine⟨h,fun kn=>?_,b,⟨kF _,fun _ _ _=>rfl⟩⟩;simp only[aWa,e,WzO.S]
 |false=>
  rw[hb]at e;obtain⟨h',st,b',x⟩:=b.set (i:=5) (v:=str []) (q':={q with topic:=[]}) (w':=w2) (by omega) rfl rfl;refine⟨h',fun kn=>?_,b',x⟩;simp only[aWa,e,WzO.S,WzO.n0,st]
theorem cIl:∃h',(∀kn:K3 β,aVz C h x2 (str F) (aB u) kn=kn (str F) (aB u) x2 h')∧BQ h' u {q with payload:=if aW F 112 then q.payload else[]} w2∧ExtBut (fun j=>j=u) h h':=by
 have e:C 61 [str F,.int .u8 112] h=_:=hc 112 h
 cases hb:aW F 112 with
 |true=>
  rw[hb]at e;refine⟨h,fun kn=>?_,b,⟨kF _,fun _ _ _=>rfl⟩⟩;simp only[aVz,e,WzO.S]
 |false=>
  rw[hb]at e;obtain⟨h',st,b',x⟩:=b.set (i:=6) (v:=str []) (q':={q with payload:=[]}) (w':=w2) (by omega) rfl rfl;refine⟨h',fun kn=>?_,b',x⟩;simp only[aVz,e,WzO.S,WzO.n0,st]
def aNb (q:Pq):Pq:={q with level:=0,keep:=0,client:=[],will:=false,wt:=[],wp:=[],wq:=0,wr:=false,hu:=false,hp:=false,user:=[],pass:=[]}
theorem cIm:∃h',(∀kn:K3 β,aVy C h x2 (str F) (aB u) kn=kn (str F) (aB u) x2 h')∧BQ h' u (if aW F 108 then q else aNb q) w2∧ExtBut (fun j=>j=u) h h':=by
 have e:C 61 [str F,.int .u8 108] h=_:=hc 108 h
 cases hb:aW F 108 with
 |true=>
  rw[hb]at e;refine⟨h,fun kn=>?_,b,⟨kF _,fun _ _ _=>rfl⟩⟩;simp only[aVy,e,WzO.S]
 |false=>
  rw[hb]at e;obtain⟨h1,s1,b1,x1⟩:=b.set (i:=7) (v:=.int .u8 0) (q':={q with level:=0}) (w':=w2) (by omega) rfl rfl;obtain⟨h2,s2,b2,x2⟩:=b1.set (i:=9) (v:=.int .u16 0) (q':={q with level:=0,keep:=0}) (w':=w2) (by omega) rfl rfl;obtain⟨h3,s3,b3,x3⟩:=b2.set (i:=10) (v:=str []) (q':={q with level:=0,keep:=0,client:=[]}) (w':=w2) (by omega) rfl rfl;obtain⟨h4,s4,b4,x4⟩:=b3.set (i:=11) (v:=.bool false) (q':={q with level:=0,keep:=0,client:=[],will:=false}) (w':=w2) (by omega) rfl rfl;obtain⟨h5,hh5⟩:∃h5,h5=h4.put u (.cells (({q with level:=0,keep:=0,client:=[],will:=false,wt:=[],wp:=[],wq:=0,wr:=false}:Pq).cells w2) (some 0)):=⟨_,rfl⟩;have s5:A.store 4 (.pointer (some ⟨u,12,none⟩)) (.agg ⟨WzB.Z35L⟩) h4=some h5:=by
   have hz:aJ (.agg ⟨WzB.Z35L⟩)=some WzB.Z35L:=rfl;rw[qU,b4.1,hz,hh5];rfl
  have b5:BQ h5 u {q with level:=0,keep:=0,client:=[],will:=false,wt:=[],wp:=[],wq:=0,wr:=false} w2:=⟨by rw[hh5,H.get_put,kB rfl],by rw[hh5];exact b4.2⟩;have x5:ExtBut (fun j=>j=u) h4 h5:=by rw[hh5];exact ExtBut.put ⟨kF _,fun _ _ _=>rfl⟩ u _ rfl
  obtain⟨h6,s6,b6,x6⟩:=b5.set (i:=16) (v:=.bool false) (q':={q with level:=0,keep:=0,client:=[],will:=false,wt:=[],wp:=[],wq:=0,wr:=false,hu:=false}) (w':=w2) (by omega) rfl rfl;obtain⟨h7,s7,b7,x7⟩:=b6.set (i:=18) (v:=str []) (q':={q with level:=0,keep:=0,client:=[],will:=false,wt:=[],wp:=[],wq:=0,wr:=false,hu:=false,user:=[]}) (w':=w2) (by omega) rfl rfl;obtain⟨h8,s8,b8,x8⟩:=b7.set (i:=17) (v:=.bool false) (q':={q with level:=0,keep:=0,client:=[],will:=false,wt:=[],wp:=[],wq:=0,wr:=false,hu:=false,user:=[],hp:=false}) (w':=w2) (by omega) rfl rfl;obtain⟨h9,s9,b9,x9⟩:=b8.set (i:=19) (v:=str []) (q':=aNb q) (w':=w2) (by omega) rfl rfl;have bz:A.zF WzB.Z35L []=some (.agg ⟨WzB.Z35L⟩):=rfl;refine⟨h9,fun kn=>?_,b9,(((((((x1.trans x2).trans x3).trans x4).trans x5).trans x6).trans x7).trans x8).trans x9⟩;simp only[aVy,e,WzO.S,WzO.n0,s1,s2,s3,s4,bz,s5,s6,s7,s8,s9]
theorem cIh {v:Nat}{zs:List Value}(hz:zs.length=24)(g:h.get v=some (.cells zs (some 0)))(ne:v≠u)(hv:v<h.next):∃h' w',(∀kr:K1 β,bEh C h (aB v) (str F) (aB u) kr=kr (aB v) h')∧w'=(if aW F 98 then w2 else aF)∧
 A.load true 24 (aB v) h'=some (.agg ⟨({q with code:=if aW F 111 then q.code else 0,codes:=if aW F 109 then q.codes else[]}:Pq).cells w'⟩)∧ExtBut (fun j=>j=u∨j=v) h h':=by
 obtain⟨h1,b1,x1,s1⟩:∃h1,BQ h1 u {q with code:=if aW F 111 then q.code else 0} w2∧ExtBut (fun j=>j=u) h h1∧(bif aW F 111 then h1=h else A.store 1 (.pointer (some ⟨u,21,none⟩)) (.int .u8 0) h=some h1):=by
  cases aW F 111 with
  |true=>exact⟨h,b,⟨kF _,fun _ _ _=>rfl⟩,rfl⟩
  |false=>
   obtain⟨h',st,b',x⟩:=b.set (i:=21) (v:=.int .u8 0) (q':={q with code:=0}) (w':=w2) (by omega) rfl rfl;exact⟨h',b',x,st⟩
 obtain⟨h2,w',b2,x2,s2,hw'⟩:∃h2 w',BQ h2 u {q with code:=if aW F 111 then q.code else 0} w'∧ExtBut (fun j=>j=u) h1 h2∧(bif aW F 98 then h2=h1 else A.store 1 (.pointer (some ⟨u,22,none⟩)) (.slice none 0 0) h1=some h2)∧w'=(if aW F 98 then w2 else aF):=by
  cases aW F 98 with
  |true=>exact⟨h1,w2,b1,⟨kF _,fun _ _ _=>rfl⟩,rfl,rfl⟩
  |false=>
   obtain⟨h',st,b',x⟩:=b1.set (i:=22) (v:=aF) (q':={q with code:=if aW F 111 then q.code else 0}) (w':=aF) (by omega) rfl rfl
   exact⟨h',aF,b',x,st,rfl⟩
 obtain⟨h3,b3,x3,s3⟩:∃h3,BQ h3 u {q with code:=if aW F 111 then q.code else 0,codes:=if aW F 109 then q.codes else[]} w'∧ExtBut (fun j=>j=u) h2 h3∧(bif aW F 109 then h3=h2 else A.store 1 (.pointer (some ⟨u,23,none⟩)) (str []) h2=some h3):=by
  cases aW F 109 with
  |true=>exact⟨h2,b2,⟨kF _,fun _ _ _=>rfl⟩,rfl⟩
  |false=>
   obtain⟨h',st,b',x⟩:=b2.set (i:=23) (v:=str []) (q':={q with code:=if aW F 111 then q.code else 0,codes:=[]}) (w':=w') (by omega) rfl rfl
   exact⟨h',b',x,st⟩
 have xx:=(x1.trans x2).trans x3;obtain⟨h4,s4,ld,x4⟩:=bHv hz (g:=(xx.get v hv ne).trans g) ({q with code:=if aW F 111 then q.code else 0,codes:=if aW F 109 then q.codes else[]}:Pq) w'
 have la:=b3.all;obtain⟨X,hX⟩:∃X:Value,X=.agg ⟨({q with code:=if aW F 111 then q.code else 0,codes:=if aW F 109 then q.codes else[]}:Pq).cells w'⟩:=⟨_,rfl⟩
 rw[←hX]at la s4;refine⟨h4,w',fun kr=>?_,hw',ld,ExtBut.trans ⟨xx.next,fun i hi hn=>xx.get i hi (fun e=>hn (Or.inl e))⟩ ⟨x4.next,fun i hi hn=>x4.get i hi (fun e=>hn (Or.inr e))⟩⟩;have e111:∀h,C 61 [str F,.int .u8 111] h=_:=fun h=>hc 111 h;have e98:∀h,C 61 [str F,.int .u8 98] h=_:=fun h=>hc 98 h;have e109:∀h,C 61 [str F,.int .u8 109] h=_:=fun h=>hc 109 h;have s3':(bif aW F 109 then h3=h2 else A.store 1 (.pointer (some ⟨u,23,none⟩)) (.string ⟨⟨[]⟩⟩) h2=some h3):=s3
 clear s3 b1 b2 b3 x1 x2 x3 x4 xx hX ld hw' hc;cases k1:aW F 111<;>cases k2:aW F 98<;>cases k3:aW F 109<;>rw[k1]at s1<;>rw[k2]at s2<;>rw[k3]at s3'<;>simp only[cond_true,cond_false]at s1 s2 s3'<;>(try subst s1)<;>(try subst s2)<;>(try subst s3')<;>
  simp only[k1,k2,k3]at e111 e98 e109<;>
  simp only[bEh,e111,e98,e109,WzO.S,WzO.n0, *]
end
end
theorem U57 {Q:Orc}(kd:KnB Q){h:H}{n:Nat}{p:Pq}{w:Value}{es:List Sb}(hn:100≤n)(hk:p.kind<256)(hw:aJ w=some [w])(sl:SliceE 2 h w (es.map sbC)):
 ∃h' w',aA prog 2 Q n 57 [.agg ⟨p.cells w⟩] h=some (.agg ⟨(iA (aN p.kind) p).cells w'⟩,h')∧Ext h h'∧SliceE 2 h' w' ((mJ (aN p.kind) es).map sbC)∧aJ w'=some [w']:=by
 obtain⟨n,rfl⟩:∃m,n=m+1:=⟨n-1,by omega⟩;rw[bVp Q n _ h (kd.fr 57 _ (by decide))];obtain⟨F,hF⟩:∃F,F=aN p.kind:=⟨_,rfl⟩;have hFl:F.length≤7:=by rw[hF];exact nZ _
 have hc:∀(c:UInt8) (h:H),aA prog 2 Q n 61 [str F,u8 c] h=some (.bool (aW F c),h):=fun c h=>U61 kd (by omega) (by omega) c;obtain⟨N,hN⟩:∃N,n=N+1:=⟨n-1,by omega⟩;have e56:=fun h=>(congrArg (fun n=>aA prog 2 Q n 56 [.int .u8 (p.kind:Int)] h) hN).trans (qB (kd.f56 p.kind hk) N h);rw[←hF]at e56⊢;obtain⟨h0,e0,b0,x0,n0⟩:=cB p hw h;obtain⟨h1,hh1⟩:∃h1,h1=h0.push (.cells WzB.Z38L (some 0)):=⟨_,rfl⟩;have e1:A.zJ 24 WzB.Z38 h0=some (aB h0.next,h1):=by rw[hh1];rfl
 have x1:Ext h0 h1:=by rw[hh1];exact Ext.push h0 _
 have g1:h1.get h0.next=some (.cells WzB.Z38L (some 0)):=by rw[hh1,H.get_push,kB rfl]
 have n1:h1.next=h0.next+1:=by rw[hh1];rfl
 have b1:=b0.ext x1;obtain⟨h2,hh2⟩:∃h2,h2=h1.push (.cells WzB.Z38L (some 0)):=⟨_,rfl⟩;have e2:A.zJ 24 WzB.Z38 h1=some (aB h1.next,h2):=by rw[hh2];rfl
 have x2:Ext h1 h2:=by rw[hh2];exact Ext.push h1 _
 have g2:h2.get h1.next=some (.cells WzB.Z38L (some 0)):=by rw[hh2,H.get_push,kB rfl]
 have n2:h2.next=h1.next+1:=by rw[hh2];rfl
 have b2:=b1.ext x2;obtain⟨h3,hh3⟩:∃h3,h3=h2.put h1.next (.cells (p.cells w) (some 0)):=⟨_,rfl⟩;have hcl:aJ (.agg ⟨p.cells w⟩)=some (p.cells w):=rfl;have e3:A.store 24 (aB h1.next) (.agg ⟨p.cells w⟩) h2=some h3:=by rw[qU,g2,hcl,hh3];rfl
 have x3:ExtBut (fun j=>j=h1.next) h2 h3:=by rw[hh3];exact ExtBut.put ⟨kF _,fun _ _ _=>rfl⟩ _ _ rfl
 have a3:=b2.but x3 (by omega);have q3:BQ h3 h1.next p w:=⟨by rw[hh3,H.get_put,kB rfl],kH (by omega) x3.next⟩;have ne:¬h.next=h1.next:=by omega
 obtain⟨h4,s4,q4,x4⟩:=cIp hc q3 (t:=h.next) (p:=p) (w:=w) (x2:=aB h0.next) a3 (Value×H);have a4:=a3.but x4 ne;obtain⟨h5,s5,q5,x5⟩:=cIj hc q4 (x2:=aB h0.next) a4 (Value×H);have a5:=a4.but x5 ne;obtain⟨h6,s6,q6,x6⟩:=cIq hc q5 (x2:=aB h0.next) a5 (Value×H);have a6:=a5.but x6 ne;obtain⟨h7,s7,q7,x7⟩:=cIo hc q6 (x2:=aB h0.next) a6 (Value×H);obtain⟨h8,s8,q8,x8⟩:=cIk hc q7 (x2:=aB h0.next) (Value×H);obtain⟨h9,s9,q9,x9⟩:=cIn hc q8 (x2:=aB h0.next) (Value×H);obtain⟨h10,s10,q10,x10⟩:=cIi hc q9 (x2:=aB h0.next) (Value×H);obtain⟨h11,s11,q11,x11⟩:=cIl hc q10 (x2:=aB h0.next) (Value×H);obtain⟨h12,s12,q12,x12⟩:=cIm hc q11 (x2:=aB h0.next) (Value×H);have xx:ExtBut (fun j=>j=h1.next) h2 h12:=(((((((((x3.trans x4).trans x5).trans x6).trans x7).trans x8).trans x9).trans x10).trans x11).trans x12);have gz:h12.get h0.next=some (.cells WzB.Z38L (some 0)):=by
  rw[xx.get _ (by omega) (by omega),x2.get _ (by omega)];exact g1
 obtain⟨h13,w',s13,hw',ld,x13⟩:=cIh hc q12 (Value×H) (v:=h0.next) (zs:=WzB.Z38L) rfl gz (by omega) (kH (by omega) xx.next);have x03:Ext h h13:=by
  have a:ExtBut (fun j=>j=h1.next∨j=h0.next) h2 h13:=ExtBut.trans ⟨xx.next,fun i hi hn=>xx.get i hi (fun e=>hn (Or.inl e))⟩ x13;have b:Ext h h2:=(x0.trans x1).trans x2;refine⟨kG b.next a.next,fun i hi=>?_⟩;rw[a.get i (kH hi b.next) (by omega),b.get i hi]
 refine⟨h13,w',?_,x03,?_,?_⟩
 ·obtain⟨l0,_⟩:=b1.lds;have l0:=l0.1;have la:A.load true 24 (aB h.next) h1=some (.agg ⟨p.cells w⟩):=b1.all;simp only[F57,aZz,bYa,e0,WzO.S,e1,WzO.n0,l0,e56,la,e2,e3,s4,s5,s6,s7,s8,s9,s10,s11,s12,s13,ld];have hq:({(if aW F 108 then({{{{{{{{p with dup:=p.dup&&aW F 100}with retain:=p.retain&&aW F 114}with clean:=p.clean&&aW F 99}with present:=p.present&&aW F 101}with qos:=if aW F 113 then p.qos else 0}with id:=if aW F 105 then p.id else 0}with topic:=if aW F 116 then p.topic else[]}with payload:=if aW F 112 then p.payload else[]}:Pq)else aNb ({{{{{{{{p with dup:=p.dup&&aW F 100}with retain:=p.retain&&aW F 114}with clean:=p.clean&&aW F 99}with present:=p.present&&aW F 101}with qos:=if aW F 113 then p.qos else 0}with id:=if aW F 105 then p.id else 0}with topic:=if aW F 116 then p.topic else[]}with payload:=if aW F 112 then p.payload else[]}:Pq))with code:=if aW F 111 then p.code else 0,codes:=if aW F 109 then p.codes else[]}:Pq)=iA F p:=by
   unfold iA;cases aW F 108<;>rfl
  rw[←hq];cases aW F 108<;>rfl
 ·rw[hw'];unfold mJ
  cases aW F 98 with
  |true=>exact sl.ext x03
  |false=>exact⟨fun e he=>(by cases he),Or.inl ⟨rfl,rfl⟩⟩
 ·rw[hw']
  cases aW F 98 with
  |true=>exact hw
  |false=>rfl
end Go.Proofs.YtohapjojkjjflaaGreatDoor.Wz

set_option maxRecDepth 100000
namespace Go.Proofs.YtohapjojkjjflaaGreatDoor.Wz
open Tryz (prog)
open Go Go.AM WzA WzB WzD
open Go.AM.Pk (K0 K1 K2 K3 K4 K5)
theorem aIz (p:Pq){w:Value}(hw:AM.same w w=true):chk (some (.agg ⟨p.cells w⟩)) (.agg ⟨p.cells w⟩)=true:=by
 refine aHg ?_;unfold Pq.cells;simp[AM.same,AM.sameA,AM.sameL,hw]
section
variable {Q:Orc}(kd:KnB Q){h:H}{t n:Nat}{p:Pq}{w:Value}{es:List Sb}(hn:1002000≤n)(bd:Bd p es)(b:BQ h t p w)(sl:SliceE 2 h w (es.map sbC))
include kd hn bd b sl
theorem aMo:∃h1,Ext h h1∧∀(β:Type) (kr:K1 β) (kn:K2 β),aEt (aA prog 2 Q n) h (aB t) (str (aN p.kind)) kr kn=
 if aN p.kind=[45]∨¬(p=iA (aN p.kind) p∧es=mJ (aN p.kind) es)∨cO fiR p es=false∨2<p.qos then kr (.bool false) h1 else kn (str (aN p.kind)) (aB t) h1:=by
 have se:A.zA prog .eql 9 (str (aN p.kind)) (.string ⟨⟨[45]⟩⟩)=_:=cV (aN p.kind) [45];by_cases c1:aN p.kind=[45]
 ·rw[kC c1]at se;refine⟨h,Ext.refl h,fun β kr kn=>?_⟩;rw[kB (Or.inl c1)];simp only[aEt,aQv,se,WzO.S,aQu]
 rw[kD c1]at se;obtain⟨h1,w',e1,x1,sl',hw'⟩:=U57 kd (h:=h) (n:=n) (p:=p) (by omega) bd.kind sl.cells sl;have la:=b.all;have b1:=b.ext x1;have la1:=b1.all;have ck:=aIz p sl.same;obtain⟨h2,e2,x2⟩:=U19 kd (h:=h1) (n:=n) (p:=p) (q:=iA (aN p.kind) p) (by omega) (kG bd.len (by omega)) sl.cells hw' (sl.ext x1) sl';have b2:=b1.ext x2;by_cases c2:p=iA (aN p.kind) p∧es=mJ (aN p.kind) es
 ·rw[kC c2]at e2;have la2:=b2.all;obtain⟨h3,e3,x3⟩:=U58 kd (h:=h2) (n:=n) (by omega) bd sl.cells ((sl.ext x1).ext x2);have b3:=b2.ext x3;obtain⟨⟨_,_,l2,_⟩,_⟩:=b3.lds;have d2:decide ((2:Int)<(p.qos:Int))=decide (2<p.qos):=dlN 2 _;refine⟨h3,x1.trans (x2.trans x3),fun β kr kn=>?_⟩
  cases c3:cO fiR p es with
  |false=>
   rw[c3]at e3;rw[kB (Or.inr (Or.inr (Or.inl rfl)))];simp only[aEt,aQv,se,WzO.S,la,e1,la1,ck,Bool.and_true,e2,la2,e3,aQu]
  |true=>
   rw[c3]at e3;simp only[aEt,aQv,se,WzO.S,la,e1,la1,ck,Bool.and_true,e2,la2,e3,WzO.n0,l2,zY,d2,aQu];by_cases c4:2<p.qos
   ·rw[kC c4,kB (Or.inr (Or.inr (Or.inr c4)))];rfl
   ·rw[kD c4,kA (fun h=>h.elim c1 (fun h=>h.elim (fun h=>h c2) (fun h=>h.elim (fun h=>by cases h) c4)))];rfl
 ·rw[kD c2]at e2;refine⟨h2,x1.trans x2,fun β kr kn=>?_⟩;rw[kB (Or.inr (Or.inl c2))];simp only[aEt,aQv,se,WzO.S,la,e1,la1,ck,Bool.and_true,e2,aQu]
theorem cJg (F:List UInt8):∃h1,Ext h h1∧∀(β:Type) (kr:K1 β) (kn:K2 β),aLf (aA prog 2 Q n) h (aB t) (str F) kr kn=
 if p.kind=1∧jF dI nmR p=false∨p.kind=2∧(5<p.code∨p.present=true∧0<p.code)then kr (.bool false) h1 else kn (str F) (aB t) h1:=by
 obtain⟨⟨l0,l1,l2,l3,l4,l5,l6,l7⟩,⟨l8,l9,l10,l11,l12,l13,l14,l15⟩,l16,l17,l18,l19,l20,l21,l22,l23⟩:=b.lds;have d1:decide ((p.kind:Int)=1)=decide (p.kind=1):=deN _ 1;have d2:decide ((p.kind:Int)=2)=decide (p.kind=2):=deN _ 2;have d5:decide ((5:Int)<(p.code:Int))=decide (5<p.code):=dlN 5 _;have d0:decide ((0:Int)<(p.code:Int))=decide (0<p.code):=dlN 0 _;by_cases k1:p.kind=1
 ·have k2:¬p.kind=2:=by omega
  rw[kC k1]at d1;rw[kD k2]at d2;have la:=b.all;obtain⟨h1,e1,x1⟩:=U59 kd (h:=h) (n:=n) (by omega) bd sl.cells;obtain⟨⟨m0,_⟩,_⟩:=(b.ext x1).lds;refine⟨h1,x1,fun β kr kn=>?_⟩;simp only[aLf,bFe,bFd,WzO.S,WzO.n0,l0,zQ,d1,la,e1,m0,d2]
  cases hc:jF dI nmR p with
  |false=>rw[kB (Or.inl ⟨k1,rfl⟩)];rfl
  |true=>rw[kA (fun h=>h.elim (fun h=>by cases h.2) (fun h=>k2 h.1))];rfl
 ·rw[kD k1]at d1;refine⟨h,Ext.refl h,fun β kr kn=>?_⟩;simp only[aLf,bFe,bFd,WzO.S,WzO.n0,l0,l20,l21,zQ,d1,d2,zY,d5,d0];by_cases k2:p.kind=2
  ·rw[kC k2];by_cases c5:5<p.code
   ·rw[kC c5,kB (Or.inr ⟨k2,Or.inl c5⟩)];rfl
   ·rw[kD c5]
    cases hp:p.present with
    |false=>rw[kA (fun h=>h.elim (fun h=>k1 h.1) (fun h=>h.2.elim c5 (fun h=>by cases h.1)))];rfl
    |true=>
     by_cases c0:0<p.code
     ·rw[kC c0,kB (Or.inr ⟨k2,Or.inr ⟨rfl,c0⟩⟩)];rfl
     ·rw[kD c0,kA (fun h=>h.elim (fun h=>k1 h.1) (fun h=>h.2.elim c5 (fun h=>c0 h.2)))];rfl
  ·rw[kD k2,kA (fun h=>h.elim (fun h=>k1 h.1) (fun h=>k2 h.1))];rfl
theorem cJf {F:List UInt8}(hF:F.length≤7):∃h1,Ext h h1∧∀(β:Type) (kr kn:K1 β),aLm (aA prog 2 Q n) h (aB t) (str F) kr kn=
 if p.kind=3∧(nmR p.topic=false∨p.qos=0∧(p.dup=true∨p.id≠0)∨0<p.qos∧p.id=0)∨p.kind≠3∧aW F 105=true∧p.id=0 then kr (.bool false) h1 else kn (aB t) h1:=by
 have _:=sl;obtain⟨⟨l0,l1,l2,l3,l4,l5,l6,l7⟩,⟨l8,l9,l10,l11,l12,l13,l14,l15⟩,l16,l17,l18,l19,l20,l21,l22,l23⟩:=b.lds;have d3:decide ((p.kind:Int)=3)=decide (p.kind=3):=deN _ 3;have dq:decide ((p.qos:Int)=0)=decide (p.qos=0):=deN _ 0;have di:decide ((p.id:Int)=0)=decide (p.id=0):=deN _ 0;have dg:decide ((0:Int)<(p.qos:Int))=decide (0<p.qos):=dlN 0 _;by_cases k3:p.kind=3
 ·rw[kC k3]at d3;obtain⟨h1,e1,x1⟩:=U60 kd (h:=h) (n:=n) p.topic (by omega) (kG bd.topic (by omega));obtain⟨⟨m0,m1,m2,m3,m4,m5,m6,m7⟩,_⟩:=(b.ext x1).lds;refine⟨h1,x1,fun β kr kn=>?_⟩;simp only[aLm,bFc,bYx,bYw,WzO.S,WzO.n0,l0,l5,zQ,d3,e1,m2,m1,m4,aK,zY,dq,di,dg];have e:(p.kind=3∧(nmR p.topic=false∨p.qos=0∧(p.dup=true∨p.id≠0)∨0<p.qos∧p.id=0)∨p.kind≠3∧aW F 105=true∧p.id=0)=(nmR p.topic=false∨p.qos=0∧(p.dup=true∨p.id≠0)∨0<p.qos∧p.id=0):=propext ⟨fun h=>h.elim (fun h=>h.2) (fun h=>absurd k3 h.1),fun h=>Or.inl ⟨k3,h⟩⟩;simp only[e]
  cases hv:nmR p.topic with
  |false=>rw[kB (Or.inl rfl)];rfl
  |true=>
   by_cases q0:p.qos=0
   ·rw[kC q0,kD (show¬0<p.qos by omega)]
    cases hd:p.dup with
    |true=>rw[kB (Or.inr (Or.inl ⟨q0,Or.inl rfl⟩))];rfl
    |false=>
     by_cases i0:p.id=0
     ·rw[kC i0,kA (fun h=>h.elim (fun h=>by cases h) (fun h=>h.elim (fun h=>h.2.elim (fun h=>by cases h) (fun h=>h i0)) (fun h=>by omega)))];rfl
     ·rw[kD i0,kB (Or.inr (Or.inl ⟨q0,Or.inr i0⟩))];rfl
   ·rw[kD q0,kC (show 0<p.qos by omega)];by_cases i0:p.id=0
    ·rw[kC i0,kB (Or.inr (Or.inr ⟨by omega,i0⟩))];rfl
    ·rw[kD i0,kA (fun h=>h.elim (fun h=>by cases h) (fun h=>h.elim (fun h=>q0 h.1) (fun h=>i0 h.2)))];rfl
 ·rw[kD k3]at d3;have e105:aA prog 2 Q n 61 [str F,.int .u8 105] h=_:=U61 kd (h:=h) (n:=n) (l:=F) (by omega) (by omega) 105;refine⟨h,Ext.refl h,fun β kr kn=>?_⟩;simp only[aLm,bFc,bYy,WzO.S,WzO.n0,l0,l4,zQ,d3,e105,di]
  cases hb:aW F 105 with
  |false=>rw[kA (fun h=>h.elim (fun h=>k3 h.1) (fun h=>by cases h.2.1))];rfl
  |true=>
   by_cases i0:p.id=0
   ·rw[kC i0,kB (Or.inr ⟨k3,rfl,i0⟩)];rfl
   ·rw[kD i0,kA (fun h=>h.elim (fun h=>k3 h.1) (fun h=>i0 h.2.2))];rfl
end
theorem U40 {Q:Orc}(kd:KnB Q){h:H}{n:Nat}{p:Pq}{w:Value}{es:List Sb}(hn:1002001≤n)(bd:Bd p es)(sl:SliceE 2 h w (es.map sbC)):
 ∃h',aA prog 2 Q n 40 [.agg ⟨p.cells w⟩] h=some (.bool (eF dI nmR fiR p es),h')∧Ext h h':=by
 obtain⟨n,rfl⟩:∃m,n=m+1:=⟨n-1,by omega⟩;rw[bWe Q n _ h (kd.fr 40 _ (by decide))];obtain⟨h0,e0,b0,x0,_⟩:=cB p sl.cells h;obtain⟨N,hN⟩:∃N,n=N+1:=⟨n-1,by omega⟩;have e56:=(congrArg (fun n=>aA prog 2 Q n 56 [.int .u8 (p.kind:Int)] h0) hN).trans (qB (kd.f56 p.kind bd.kind) N h0);obtain⟨⟨l0,_⟩,_⟩:=b0.lds;have sl0:=sl.ext x0;obtain⟨h1,x1,e1⟩:=aMo kd (n:=n) (by omega) bd b0 sl0;obtain⟨h2,x2,e2⟩:=cJg kd (n:=n) (by omega) bd (b0.ext x1) (sl0.ext x1) (aN p.kind);obtain⟨h3,x3,e3⟩:=cJf kd (n:=n) (by omega) bd ((b0.ext x1).ext x2) ((sl0.ext x1).ext x2) (F:=aN p.kind) (nZ _);have b3:=((b0.ext x1).ext x2).ext x3;have sl3:=((sl0.ext x1).ext x2).ext x3;have la:=b3.all;obtain⟨h4,e4,x4⟩:=U62 kd (h:=h3) (n:=n) (by omega) bd sl.cells sl3;have dl:decide ((oF p es:Int)≤268435455)=decide (oF p es≤268435455):=aMh _ 268435455;simp only[F40,bAg,bYz,e0,WzO.S,WzO.n0,l0,e56,e1,e2,e3];have xa:=x0.trans x1;have xb:=xa.trans x2;have xc:=xb.trans x3;unfold eF;by_cases c1:aN p.kind=[45]
 ·rw[kB c1,kB (Or.inl c1)];exact⟨h1,rfl,xa⟩
 by_cases c2:p=iA (aN p.kind) p∧es=mJ (aN p.kind) es
 ·by_cases c3:cO fiR p es=false∨2<p.qos
  ·rw[kA c1,kA (not_not_intro c2),kB c3,kB (Or.inr (Or.inr c3))];exact⟨h1,rfl,xa⟩
  rw[kA c1,kA (not_not_intro c2),kA c3,kA (fun h=>h.elim c1 (fun h=>h.elim (fun h=>h c2) c3))];by_cases c4:p.kind=1∧jF dI nmR p=false∨p.kind=2∧(5<p.code∨p.present=true∧0<p.code)
  ·rw[kB c4,kB c4];exact⟨h2,rfl,xb⟩
  rw[kA c4,kA c4];by_cases c5:p.kind=3∧(nmR p.topic=false∨p.qos=0∧(p.dup=true∨p.id≠0)∨0<p.qos∧p.id=0)
  ·rw[kB c5,kB (Or.inl c5)];exact⟨h3,rfl,xc⟩
  by_cases c6:p.kind≠3∧aW (aN p.kind) 105=true∧p.id=0
  ·rw[kA c5,kB c6,kB (Or.inr c6)];exact⟨h3,rfl,xc⟩
  rw[kA c5,kA c6,kA (fun h=>h.elim c5 c6)];refine⟨h4,?_,xc.trans x4⟩;simp only[bYv,la,WzO.S,e4,bK,dl]
 ·rw[kA c1,kB c2,kB (Or.inr (Or.inl c2))];exact⟨h1,rfl,xa⟩
end Go.Proofs.YtohapjojkjjflaaGreatDoor.Wz
