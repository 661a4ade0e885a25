import Derived.Test.YtbmdhjdgpeleoaaGreatDoorGe
import Derived.Test.YtbmdhjdgpeleoaaGreatDoorGf
set_option linter.defProp false
set_option maxRecDepth 100000
namespace Go.Proofs.YtbmdhjdgpeleoaaGreatDoor.Ra
open Tryz (prog)
open Go Go.AM TaA TaI TaW TaX TaY TaV _root_.Ra
variable {Dx:CF}{Y h j:H}{M:MD}{z:NZ}{b i k n q:Nat}{S:Nat→MD}{Q:Orc}{v x:kA}{E L ls s:kC NZ}{p ps:kC Nat}{d3 l:kC cD}{a:kC kA}{f:kI}
abbrev iI:Bs→Bool:=fZ cA
abbrev jM:Bs→Bool:=fB cA
abbrev iV:Bs→Bs→Bool:=xP cA
structure LsD (B:H)(x:kA)(ls:kC NZ):Prop where
 row:SliceE 35 B x (ls.map nzC)
 nb:∀z∈ls,wI B z.2.1 z.2.2
 sml:∀z∈ls,Sml z.2.2
 len:ls.length≤200
 es:∀z∈ls,∀k,AM.same (z.1 k) (z.1 k)=true
def LsD.ext {j h:H}{v:kA}{L:kC NZ}(y:LsD j v L)(e:Ext j h):LsD h v L:=
 ⟨y.row.ext e,fun z a=>⟨(y.nb z a).subs.ext e,(y.nb z a).small,(y.nb z a).top⟩,y.sml,y.len,y.es⟩
def LsD.ln (y:LsD h v L):A.zE v=some (iN (L.length:Int)):=by have:=y.row.len.1;rwa [pO]at this
abbrev lsN (l:kC NZ):kC cD:=l.map (·.2.2)
def lG (h:L[i]?=some z):nt (lsN L) i=z.2.2:=by
 unfold nt;rw[List.getD_eq_getElem?_getD,pL,h];rfl
def LsD.same {h:H}{v:kA}{L:kC NZ}(y:LsD h v L){z:NZ}(a:z∈L):AM.same (.agg ⟨nzC z⟩) (.agg ⟨nzC z⟩)=true:=by
 have e:=y.es z a;have s:=(y.nb z a).subs.same;simp[bU,AM.same,AM.sameA,AM.sameL,e,s]
def LsD.at {h:H}{x:kA}{ls:kC NZ}(y:LsD h x ls){i:Nat}{z:NZ}(r:ls[i]?=some z):∃o q,A.zB 35 x (iN (i:Int))=some (.pointer (some ⟨q,o,none⟩))∧(∀a,Ext h a→A.load true 35 (.pointer (some ⟨q,o,none⟩)) a=some (.agg ⟨nzC z⟩))∧
 (∀a,Ext h a→∀k v,(nzC z)[k]?=some v→k<35→A.load false 1 (.pointer (some ⟨q,o+k,none⟩)) a=some v)∧∀a,Ext h a→A.load true 4 (.pointer (some ⟨q,o+28,none⟩)) a=some (.agg ⟨aG z.2.2.msg⟩):=by
 have p:(ls.map nzC)[i]?=some (nzC z):=by rw[pL,r];rfl
 obtain⟨id,o,cells,own,c,l,g,d,b,f⟩:=y.row.at p .i64;refine⟨o,id,c,fun a e=>?_,fun a e k v n j=>?_,fun a e=>?_⟩
 ·rw[aI,e.get id l,g];simp only[ble_iff.2 d,sV,b]
 ·rw[qK,e.get id l,g];rw[←n];exact f k j
 ·rw[aI,e.get id l,g];have m:Nat.ble (o+28+4) cells.length=true:=ble_iff.2 (by omega);simp only[m,sV];congr 3;show _=((nzC z).drop 28).take 4;rw[←b,List.drop_take,List.take_take,sG];rfl
def lY (l:kC cD):Nat→MD
 |0=>{}
 |i+1=>if(nt l i).kind=2∨(nt l i).kind=5 then((cY iI jM (lY l i) (nt l i)).map (·.2)).getD (lY l i)else lY l i
def FzD (F:Nat→Prop)(h:H)(q:Nat)(M:MD):Prop:=∃k Z,ModR F h q k Z M.kept∧Z.map (·.1)=M.L∧Z.length≤2^20∧M.kept.length≤2^20∧lB Z
def FzD.same {F c:Nat→Prop}{h j:H}{q:Nat}{M:MD}(x:FzD F h q M)(n:h.next≤j.next)(g:∀i,F i→i<h.next→j.get i=h.get i)(d:∀i,F i→i<h.next→c i):FzD c j q M:=
 let⟨k,Z,a,b⟩:=x
 ⟨k,Z,a.same n g d,b⟩
abbrev StD (h:H)(q:Nat)(M:MD):Prop:=FzD (fun _=>True) h q M
abbrev aMi (s:kC Nat):kC (kC kA):=s.map fun p=>[aA p]
structure aNp (h0:H)(l:kC cD)(o:kA)(e:Nat)(h':H):Prop where
 ext:Ext h0 h'
 runs:aRc l (lY l) iI jM e
 sts:∃ps:kC Nat,SliceE 1 h' o (aMi ps)∧ps.length=e+1∧∀j q,ps[j]?=some q→StD h' q (lY l j)
structure OfI (h0 h:H)(R F:Nat→Prop)(l:kC cD)(i p:Nat)(o:kA)(ps:kC Nat)(k:Nat)(Z:kC SP)(kept:kC Msg):Prop where
 ext:Ext h0 h
 rr:∀j,R j→h0.next≤j∧j<h.next
 ff:∀j,F j→h0.next≤j∧j<h.next∧¬R j
 md:ModR R h p k Z kept
 out:GN 1 h o (aMi ps)
 oo:∀j,sid o=some j→h0.next≤j∧¬R j∧¬F j
 fz:∀j q,ps[j]?=some q→FzD F h q (lY l j)
 ok:lB Z
section
variable {D:CF}(Y:KD D)
include Y
def bLd {R F:Nat→Prop}{l:Nat}{Z:kC SP}{kept:kC Msg}(I:OfI j h R F d3 i l x p k Z kept)(hZ:Z.length≤2^20)(hk:kept.length≤2^20)(b3:p.length≤2^20)(W:lY d3 p.length=iW Z kept):
 ∃c f s h3 y r F',CI D 33 [aA l] h=some (c,f)∧A.zC 1 1 TaV.Z68L [(0,1,c)] f=some (s,h3)∧A.zF 1 8 x s h3=some (y,r)∧∃g,OfI j r R F' d3 i l y (p++[g]) k Z kept:=by
 obtain⟨f,g,k',Z',S,y1,J,P⟩:=V33 Y I.md (by omega) I.ok (by omega);have n1:=P.next;have u:=aX (n:=1) (zs:=TaV.Z68L) (v:=aA g) (vs:=[aA g]) f rfl rfl rfl;have O:=fQ (h:=f) (n:=1) (vs:=[aA g]) rfl;obtain⟨h3,w⟩:=eX (f.push (.cells [aA g] (some 1)));rw[←w]at u O;have L:Ext f h3:=w▸Ext.push f _;have n3:=L.next;have m:=P.trans L;obtain⟨y,r,U,V,s4,Q,sn⟩:=fS (bs:=8) (I.out.ext m) O (by omega) (by simp;omega) (by simp;omega);have n4:=Q.next;have K:∀b,sid y=some b→f.next≤b:=fun b a=>by have:=sn (by simp) b a;omega
 have keep:∀b,b<h3.next→sid x≠some b→r.get b=h3.get b:=fun b a hs=>Q.get b a hs;have a3:Z'.length=Z.length:=by have:=sX List.length J;simpa using this
 refine⟨_,f,_,h3,y,r,fun b=>F b∨h.next≤b∧b<f.next,S,u,U,g,⟨⟨by have:=I.ext.next;omega,fun b a=>?_⟩,fun b a=>⟨(I.rr b a).1,by have:=(I.rr b a).2;omega⟩,fun b a=>?_,?_,?_,fun b a=>?_,fun b q a=>?_,I.ok⟩⟩
 ·have N:=I.ext.next;rw[keep b (by omega) (fun e=>by have:=(I.oo b e).1;omega),m.get b (by omega)];exact I.ext.get b a
 ·have N:=I.ext.next;rcases a with a|a
  ·have:=I.ff b a;exact⟨this.1,by omega,this.2.2⟩
  ·exact⟨by omega,by omega,fun B=>by have:=(I.rr b B).2;omega⟩
 ·exact I.md.same (by omega) (fun b a o=>by rw[keep b (by omega) (fun e=>(I.oo b e).2.1 a),m.get b o]) fun _ h _=>h
 ·rw[show aMi (p++[g])=aMi p++[[aA g]] by simp];exact V
 ·have N:=I.ext.next;have:=K b a;refine⟨by omega,fun B=>by have:=(I.rr b B).2;omega,fun z=>?_⟩;rcases z with z|z
  ·have:=(I.ff b z).2.1;omega
  ·omega
 ·rcases mJ b p.length with E|C
  ·rw[pJ E]at a;exact(I.fz b q a).same (by omega) (fun b a o=>by rw[keep b (by omega) (fun e=>(I.oo b e).2.2 a),m.get b o]) fun b a _=>.inl a
  ·rw[pK C]at a;obtain⟨X,rfl⟩:b-p.length=0∧g=q:=by
    cases M:b-p.length with
    |zero=>rw[M]at a;exact⟨rfl,pB a⟩
    |succ d=>rw[M]at a;simp at a
   obtain rfl:b=p.length:=by omega
   rw[W];refine⟨k',Z',y1.same (by omega) (fun b a o=>?_) (fun b a o=>.inr ⟨a,o⟩),J,by omega,hk,fun t ht=>?_⟩
   ·rw[keep b (by omega) (fun e=>by have:=I.out.slice.sid_lt b e;have:h.next≤b:=a;omega),L.get b o]
   ·have:t.1∈Z.map (·.1):=by rw[←J];exact mN ht
    obtain⟨t',G,e⟩:=mW.1 this;rw[←e];exact I.ok t' G
def cLt {p:kC NZ}(G:LsD h v p){L:Nat}:∀(d i m:Nat) (t:H) (R F:Nat→Prop) (o:kA) (O:kC Nat) (k:Nat) (Z:kC SP) (kept:kC Msg),i+d=p.length→d<m→OfI h t R F (lsN p) i n o O k Z kept→O.length=i+1→Z.length≤i→kept.length≤i→lY (lsN p) i=iW Z kept→(∀j,j<i→tK (lsN p) (lY (lsN p)) iI jM j=some (lY (lsN p) (j+1)))→
 ∃(y:H) (E:kA) (e:Nat),aKg (CI D) L (fun V W t=>some (Value.tuple ⟨[V,W]⟩,t)) (fun X U t=>bHs t U X fun V W t=>some (Value.tuple ⟨[V,W]⟩,t)) m (iN (i:Int)) (aA n) o v t=some (.tuple ⟨[E,iN (e:Int)]⟩,y)∧aNp h (lsN p) E e y:=by
 intro d
 induction d with
 |zero=>
  intro i m t R F o O k Z kept hi hm I hp hZ hk hM M;obtain⟨m,rfl⟩:=pS m (by omega);have hd:decide ((i:Int)<(p.length:Int))=false:=kO (by omega);have j3:i=p.length:=by omega
  refine⟨t,o,i,?_,I.ext,⟨rfl,by rw[pO];omega,M,fun t=>by rw[pO]at t;omega⟩,O,I.out.slice,hp,fun j q f=>(I.fz j q f).same (kQ _) (fun _ _ _=>rfl) fun _ _ _=>trivial⟩;simp only[aKg,aWu,qS,G.ln,zZ,hd,bHs];rw[j3]
 |succ d ih=>
  intro i m t R F o O k Z kept hi hm I hp hZ hk hM M;obtain⟨m,rfl⟩:=pS m (by omega);have hd:decide ((i:Int)<(p.length:Int))=true:=kN (by omega);have p3:=G.len;obtain⟨z,hz⟩:∃z,p[i]?=some z:=⟨_,kZ (by omega)⟩;have N:=sY hz;have hn:=lG hz;obtain⟨u3,q,ei,b3,lc,_⟩:=G.at hz;have l0:=lc t I.ext 0 (iU (z.2.2.kind:Int)) rfl (by omega);rw[sS]at l0;have w2:=gQ (i:=i) (by omega);have r:∀kn:Pk.K5 (kA×H),bCl t v (aA n) o (iN (i:Int)) kn=kn (.bool (decide (z.2.2.kind=2∨z.2.2.kind=5))) o (iN (i:Int)) (aA n) v t:=fun kn=>by
   by_cases c2:z.2.2.kind=2
   ·have d2:decide ((z.2.2.kind:Int)=2)=true:=kN (by omega);rw[kN (.inl c2)];simp only[bCl,qS,ei,sS,l0,zQ,d2]
   ·have d2:decide ((z.2.2.kind:Int)=2)=false:=kO (by omega);by_cases c5:z.2.2.kind=5
    ·have d5:decide ((z.2.2.kind:Int)=5)=true:=kN (by omega);rw[kN (.inr c5)];simp only[bCl,qS,ei,sS,l0,zQ,d2,d5]
    ·have d5:decide ((z.2.2.kind:Int)=5)=false:=kO (by omega);rw[kO (fun t=>t.elim c2 c5)];simp only[bCl,qS,ei,sS,l0,zQ,d2,d5]
  have ex:∀(a b c:kA),A.u 0 (.tuple ⟨[a,b,c]⟩)=some a∧A.u 1 (.tuple ⟨[a,b,c]⟩)=some b∧A.u 2 (.tuple ⟨[a,b,c]⟩)=some c:=fun _ _ _=>⟨rfl,rfl,rfl⟩;have next:∀{Q:H} {R1 F1:Nat→Prop} {Z1:kC SP} {l:kC Msg},OfI h Q R1 F1 (lsN p) i n o O k Z1 l→Z1.length≤i+1→l.length≤i+1→lY (lsN p) (i+1)=iW Z1 l→tK (lsN p) (lY (lsN p)) iI jM i=some (lY (lsN p) (i+1))→
   ∃(y:H) (E:kA) (e:Nat),bQn (CI D) Q v (aA n) o (iN (i:Int)) (fun x6 x4 X U t=>bHd t U x4 X x6 fun x6 x4 X U t=>aKg (CI D) L (fun V W t=>some (Value.tuple ⟨[V,W]⟩,t)) (fun X U t=>bHs t U X fun V W t=>some (Value.tuple ⟨[V,W]⟩,t)) m x6 x4 X U t)=some (.tuple ⟨[E,iN (e:Int)]⟩,y)∧aNp h (lsN p) E e y:=by
   intro Q R1 F1 Z1 l I1 f3 k3 a3 m3;obtain⟨c,h2,s,h3,E,h4,F',e1,e2,e3,q',I4⟩:=bLd Y I1 (by omega) (by omega) (by omega) (by rw[hp];exact a3);obtain⟨y,n3,e,eq,w⟩:=ih (i+1) m h4 R1 F' E (O++[q']) k Z1 l (by omega) (by omega) ⟨I4.ext,I4.rr,I4.ff,I4.md,I4.out,I4.oo,I4.fz,I4.ok⟩ (by simp;omega) f3 k3 a3 (fun j f=>by
    rcases mJ j i with l3|i3
    ·exact M j l3
    ·obtain rfl:j=i:=by omega
     exact m3)
   refine⟨y,n3,e,?_,w⟩;rw[←eq];simp only[bQn,bHd,e1,qS,e2,e3,w2]
  by_cases S:(nt (lsN p) i).kind=2∨(nt (lsN p) i).kind=5
  ·have C:=S;rw[hn]at C;rw[kN C]at r;have q3:=I.ext.next;obtain⟨v3,Q,J,cs,pr,d3,Z1,l,rfl,K,y1,z1,t3,s3,o3⟩:=V34 Y (P:=fun j=>R j∨t.next≤j) (fun j f=>.inr f) (I.md.same (kQ _) (fun _ _ _=>rfl) fun j f _=>.inl f) (by omega) I.ok (by omega) ((G.nb z N).subs.ext I.ext) (fun j f x=>by
    have:=(G.nb z N).subs.sid_lt j f;rcases x with hR|i3
    ·have:=(I.rr j hR).1;omega
    ·omega) (G.sml z N) (G.nb z N).small
   have J:CI D 34 [aA n,.agg ⟨nzC z⟩] t=_:=J;rw[←hM]at K;have n1:=z1.next
   cases B:cY iI jM (lY (lsN p) i) z.2.2 with
   |none=>
    have K:d3=false:=by
     have:cY (fZ cA) (fB cA) (lY (lsN p) i) z.2.2=none:=B;rw[this]at K;exact K
    subst K;refine⟨Q,o,i,?_,⟨by omega,fun j f=>by rw[z1.get j (by omega) (fun x=>x.elim (fun hR=>by have:=(I.rr j hR).1;omega) fun g=>by omega)];exact I.ext.get j f⟩,⟨rfl,by rw[pO];omega,M,fun _=>?_⟩,O,?_,hp,fun j q f=>?_⟩
    ·simp only[aKg,aWu,bDk,bIb,r,bHe,qS,G.ln,zZ,hd,ei,b3 t I.ext,J,ex]
    ·unfold tK;rw[kM S,hn,B];rfl
    ·exact(I.out.but z1 fun j f x=>x.elim (I.oo j f).2.1 fun g=>by have:=I.out.slice.sid_lt j f;omega).slice
    ·exact(I.fz j q f).same n1 (fun j f hl=>z1.get j hl fun x=>x.elim (I.ff j f).2.2 fun g=>by omega) fun _ _ _=>trivial
   |some a=>
    have K:d3=true∧cs=a.1∧a.2=iW Z1 l:=by
     have:cY (fZ cA) (fB cA) (lY (lsN p) i) z.2.2=some a:=B;rw[this]at K;exact K
    obtain⟨rfl,_,g3⟩:=K;have I1:OfI h Q (fun j=>(R j∨t.next≤j)∧j<Q.next) F (lsN p) i n o O k Z1 l:=⟨⟨by omega,fun j f=>by rw[z1.get j (by omega) (fun x=>x.elim (fun hR=>by have:=(I.rr j hR).1;omega) fun g=>by omega)];exact I.ext.get j f⟩,
     fun j f=>⟨f.1.elim (fun g=>(I.rr j g).1) fun g=>by omega,f.2⟩,fun j f=>⟨(I.ff j f).1,by have:=(I.ff j f).2.1;omega,fun g=>g.1.elim (I.ff j f).2.2 fun g=>by have:=(I.ff j f).2.1;omega⟩,
     y1.same (kQ _) (fun _ _ _=>rfl) fun j f hl=>⟨f,hl⟩,I.out.but z1 fun j f x=>x.elim (I.oo j f).2.1 fun g=>by have:=I.out.slice.sid_lt j f;omega,
     fun j f=>⟨(I.oo j f).1,fun g=>g.1.elim (I.oo j f).2.1 fun g=>by have:=I.out.slice.sid_lt j f;omega,(I.oo j f).2.2⟩,
     fun j q f=>(I.fz j q f).same n1 (fun j f hl=>z1.get j hl fun x=>x.elim (I.ff j f).2.2 fun g=>by omega) fun _ t _=>t,o3⟩
    have hs:lY (lsN p) (i+1)=a.2:=by
     show(if(nt (lsN p) i).kind=2∨(nt (lsN p) i).kind=5 then _ else _)=_
     rw[kM S,hn,B];rfl
    obtain⟨y,E,e,eq,w⟩:=next I1 (by omega) (by omega) (by rw[hs];exact g3) (by
     unfold tK;rw[kM S,hn,B,hs];rfl)
    refine⟨y,E,e,?_,w⟩;rw[←eq];simp only[aKg,aWu,bDk,bIb,r,bHe,qS,G.ln,zZ,hd,ei,b3 t I.ext,J,ex]
  ·have C:=S;rw[hn]at C;rw[kO C]at r;have hs:lY (lsN p) (i+1)=lY (lsN p) i:=by
    show(if(nt (lsN p) i).kind=2∨(nt (lsN p) i).kind=5 then _ else _)=_
    rw[kL S]
   obtain⟨y,E,e,eq,w⟩:=next I (by omega) (by omega) (by rw[hs];exact hM) (by
    unfold tK;rw[kL S,hs])
   refine⟨y,E,e,?_,w⟩;rw[←eq];simp only[aKg,aWu,bDk,bIb,r,bHe,qS,G.ln,zZ,hd]
def V17 (J:LsD h x s):∃(m:H) (o:kA) (e:Nat),CI D 17 [x] h=some (.tuple ⟨[o,iN (e:Int)]⟩,m)∧aNp h (lsN s) o e m:=by
 obtain⟨C,p,k,K,G,E⟩:=V32 Y h;obtain⟨b,r,N,Z',M,O,w,y⟩:=V33 Y G (by simp) (fun z f=>by cases f) (by simp);have P:=E.next;have Q:=y.next;obtain⟨h3,c⟩:=eX (b.push (.cells [aA r] (some 1)));have d:=aX (n:=1) (zs:=TaV.Z68L) (v:=aA r) (vs:=[aA r]) b rfl rfl rfl;rw[←c]at d;have B:Ext b h3:=c▸Ext.push b _;have R:h3.next=b.next+1:=by rw[c];rfl
 have u:Z'=[]:=by simpa using w
 subst u;have I:OfI h h3 (fun j=>h.next≤j∧j<C.next) (fun j=>C.next≤j∧j<b.next) (lsN s) 0 p (.slice (some ⟨b.next,0,none⟩) 1 3) [r] k [] []:=
  ⟨(E.trans y).trans B,fun j a=>⟨a.1,by omega⟩,fun j a=>⟨by omega,by omega,fun g=>by omega⟩,G.same (by omega) (fun j _ l=>by rw[B.get j (by omega),y.get j l]) fun j a l=>⟨a,l⟩,
   .inr ⟨by simp,b.next,3,rfl,.inr rfl,by omega,by rw[c,H.get_push,kM rfl];rfl⟩,fun j a=>by
    simp[sid]at a;exact⟨by omega,fun g=>by omega,fun g=>by omega⟩,fun j q a=>by
    cases j with
    |succ j=>simp at a
    |zero=>
     obtain rfl:=pB a;exact⟨N,[],O.same (by omega) (fun j _ l=>B.get j l) fun j a l=>⟨a,l⟩,rfl,by simp,by simp[lY],fun z f=>by cases f⟩,fun z f=>by cases f⟩
 obtain⟨m,o,e,t,i⟩:=cLt Y J (L:=s.length+1) s.length 0 (s.length+1) h3 _ _ _ _ k [] [] (by omega) (by omega) I rfl (kQ _) (kQ _) rfl (fun j a=>dC a (Nat.not_lt_zero _));have t:aKg (CI D) _ _ _ _ (iN 0) (aA p) (.slice (some ⟨b.next,0,none⟩) 1 3) x h3=_:=t;refine⟨m,o,e,cDs (s.length+1) _ h (Y.no 17 _ _ (by decide)) ?_,i⟩;simp only[F17,bKh,cJd,K,qS,M,d,bTb,cJc,t]
end
def nJ (a n:Nat):List.range' a (n+1)=a::List.range' (a+1) n:=List.range'_succ
section
variable {D:CF}(k:KD D)
include k
def V18 (G:LsD h v L){a:Nat}(W:b≤L.length)(c:Nat)(o:Int)(p:Nat):
 CI D 18 [v,iN (a:Int),iN (b:Int),iU (c:Int),iN o,iU (p:Int)] h=some (fV (bK (lsN L) a b c o p),h):=by
 have I:=G.len;have lp:∀(d i m:Nat) (n:Pk.K1 (kA×H)) (s:Pk.K0 (kA×H)) (N:Nat),b-i=d→d<m→aSs (CI D) N n s m (iN (b:Int)) (iN (i:Int)) (iU (p:Int)) v (iN o) (iU (c:Int)) h=
  match aCu (lsN L) c o p i d with|some r=>n (iN (r:Int)) h|none=>s h:=by
  intro d
  induction d with
  |zero=>
   intro i m n s N P Q;obtain⟨m,rfl⟩:=pS m (by omega);have w:decide ((i:Int)<(b:Int))=false:=kO (by omega);simp only[aSs,bCk,qS,zZ,w,aCu]
  |succ d S=>
   intro i m n s N P Q;obtain⟨m,rfl⟩:=pS m (by omega);have w:decide ((i:Int)<(b:Int))=true:=kN (by omega);obtain⟨z,J⟩:∃z,L[i]?=some z:=⟨_,kZ (by omega)⟩;have R:=lG J;obtain⟨V,q,u,_,C,_⟩:=G.at J;have t:=C h (Ext.refl h) 0 (iU (z.2.2.kind:Int)) rfl (by omega);have B:=C h (Ext.refl h) 1 (iN z.2.2.op) rfl (by omega);have U:=C h (Ext.refl h) 4 (iU (z.2.2.ptype:Int)) rfl (by omega);rw[sS]at t;have w2:=gQ (i:=i) (by omega);have e:=S (i+1) m n s N (by omega) (by omega);have j:decide ((z.2.2.kind:Int)=(c:Int))=decide (z.2.2.kind=c):=mK.2 (by omega);have f:decide ((p:Int)=0)=decide (p=0):=mK.2 (by omega);have O:decide ((z.2.2.ptype:Int)=(p:Int))=decide (z.2.2.ptype=p):=mK.2 (by omega);have g:∀y:Pk.K7 (kA×H),aWt h v (iN (b:Int)) (iU (c:Int)) (iN o) (iU (p:Int)) (iN (i:Int)) y=y (.bool (decide (isD (lsN L) c o p i))) (iN (i:Int)) (iN (b:Int)) (iU (p:Int)) v (iN o) (iU (c:Int)) h:=fun y=>by
    have l:decide (isD (lsN L) c o p i)=(decide (z.2.2.kind=c)&&(decide (z.2.2.op=o)&&(decide (p=0)||decide (z.2.2.ptype=p)))):=by
     rw[show decide (isD (lsN L) c o p i)=decide (z.2.2.kind=c∧z.2.2.op=o∧(p=0∨z.2.2.ptype=p))from mK.2 (by unfold isD;rw[R])];simp
    rw[l]
    cases K:decide (z.2.2.kind=c)with
    |false=>rw[K]at j;simp only[aWt,qS,u,sS,t,zQ,j,mG]
    |true=>
     rw[K]at j
     cases E:decide (z.2.2.op=o)with
     |false=>simp only[aWt,qS,u,sS,t,B,zQ,j,E,mG,mF]
     |true=>
      cases M:decide (p=0)with
      |true=>rw[M]at f;simp only[aWt,qS,u,sS,t,B,zQ,j,E,f,mF,tL]
      |false=>rw[M]at f;simp only[aWt,qS,u,sS,t,B,U,zQ,j,E,f,O,mF,mZ]
   simp only[aCu];by_cases l:isD (lsN L) c o p i
   ·rw[kN l]at g;rw[kM l];simp only[aSs,bCk,bIa,bQm,qS,zZ,w,g]
   ·rw[kO l]at g;rw[kL l,←e];simp only[aSs,bCk,bIa,bQm,bQl,qS,zZ,w,g,w2]
 have e:=lp (b-a) a (b-a+1) (fun x h=>some (x,h)) (fun h=>cHh h fun x h=>some (x,h)) (b-a+1) rfl (by omega);refine cDr (b-a+1) _ _ _ _ _ _ h (k.no 18 _ _ (by decide)) ?_;simp only[F18,bKg,cHj,bSt,cHi,e];unfold bK;cases aCu (lsN L) c o p a (b-a)<;>rfl
def V35 (E:LsD h v L){r:Nat}(Z:r<L.length)(hb:b≤L.length)(c:Bs):CI D 35 [v,iN (r:Int),iN (b:Int),str c] h=some (.bool (bS (lsN L) r b c),h):=by
 have P:=E.len;obtain⟨a,s⟩:∃z,L[r]?=some z:=⟨_,kZ Z⟩;have p:=lG s;obtain⟨R,qr,G,_,M,_⟩:=E.at s;have J:=M h (Ext.refl h) 1 (iN a.2.2.op) rfl (by omega);have lp:∀(d i m:Nat) (t:Pk.K1 (kA×H)) (x:Pk.K0 (kA×H)) (V:Nat),b-i=d→d<m→aSk (CI D) V t x m (iN (b:Int)) (iN (i:Int)) (str c) v (iN a.2.2.op) h=
  if((List.range' i d).any fun j=>decide (((nt (lsN L) j).kind=6∨(nt (lsN L) j).kind=7)∧(nt (lsN L) j).op=(nt (lsN L) r).op∧(nt (lsN L) j).client=c))=true then t (.bool true) h else x h:=by
  intro d
  induction d with
  |zero=>
   intro i m t x V W X;obtain⟨m,rfl⟩:=pS m (by omega);have y:decide ((i:Int)<(b:Int))=false:=kO (by omega);simp only[aSk,bBn,qS,zZ,y];rfl
  |succ d ih=>
   intro i m t x V W X;obtain⟨m,rfl⟩:=pS m (by omega);have y:decide ((i:Int)<(b:Int))=true:=kN (by omega);obtain⟨z,Q⟩:∃z,L[i]?=some z:=⟨_,kZ (by omega)⟩;have Y:=lG Q;obtain⟨a3,q,o,_,K,_⟩:=E.at Q;have l:=K h (Ext.refl h) 0 (iU (z.2.2.kind:Int)) rfl (by omega);have B:=K h (Ext.refl h) 1 (iN z.2.2.op) rfl (by omega);have C:=K h (Ext.refl h) 3 (str z.2.2.client) rfl (by omega);rw[sS]at l;have w2:=gQ (i:=i) (by omega);have e:=ih (i+1) m t x V (by omega) (by omega);have f:decide ((z.2.2.kind:Int)=6)=decide (z.2.2.kind=6):=mK.2 (by omega);have n:decide ((z.2.2.kind:Int)=7)=decide (z.2.2.kind=7):=mK.2 (by omega);have O:=bX z.2.2.client c;have g:∀I:Pk.K6 (kA×H),aRt h v (iN (b:Int)) (str c) (iN a.2.2.op) (iN (i:Int)) I=I (.bool (decide ((z.2.2.kind=6∨z.2.2.kind=7)∧z.2.2.op=a.2.2.op∧z.2.2.client=c))) (iN (i:Int)) (iN (b:Int)) (str c) v (iN a.2.2.op) h:=fun I=>by
    have w:decide ((z.2.2.kind=6∨z.2.2.kind=7)∧z.2.2.op=a.2.2.op∧z.2.2.client=c)=((decide (z.2.2.kind=6)||decide (z.2.2.kind=7))&&(decide (z.2.2.op=a.2.2.op)&&decide (z.2.2.client=c))):=by simp
    rw[w]
    cases S:decide (z.2.2.kind=6)with
    |true=>
     rw[S]at f
     cases u:decide (z.2.2.op=a.2.2.op)with
     |true=>simp only[aRt,qS,o,sS,l,B,C,zQ,f,u,O,mF,tL]
     |false=>simp only[aRt,qS,o,sS,l,B,C,zQ,f,u,mF,tL,mG]
    |false=>
     rw[S]at f
     cases U:decide (z.2.2.kind=7)with
     |false=>rw[U]at n;simp only[aRt,qS,o,sS,l,zQ,f,n,mZ,mG]
     |true=>
      rw[U]at n
      cases u:decide (z.2.2.op=a.2.2.op)with
      |true=>simp only[aRt,qS,o,sS,l,B,C,zQ,f,n,u,O,mF,mZ]
      |false=>simp only[aRt,qS,o,sS,l,B,C,zQ,f,n,u,mF,mZ,mG]
   rw[nJ,dP,Y,p];rw[p]at e;by_cases w:(z.2.2.kind=6∨z.2.2.kind=7)∧z.2.2.op=a.2.2.op∧z.2.2.client=c
   ·rw[kN w]at g⊢;rw[tL,kM rfl];simp only[aSk,bBn,bIc,bPe,qS,zZ,y,g]
   ·rw[kO w]at g⊢;rw[mZ,←e];simp only[aSk,bBn,bIc,bPe,bPd,qS,zZ,y,g,w2]
 have e:=lp (b-r) r (b-r+1) (fun N h=>some (N,h)) (fun h=>cFw h fun N h=>some (N,h)) (b-r+1) rfl (by omega);refine cDg (b-r+1) _ _ _ _ h (k.no 35 _ _ (by decide)) ?_;simp only[F35,bKd,cFy,G,qS,J,bSu,cFx,e];unfold bS;cases(List.range' r (b-r)).any fun j=>decide (((nt (lsN L) j).kind=6∨(nt (lsN L) j).kind=7)∧(nt (lsN L) j).op=(nt (lsN L) r).op∧(nt (lsN L) j).client=c)<;>rfl
def V37 (m:Msg)(q:Nat)(b:Bool)(h:H):∃p,CI D 37 [.agg ⟨aG m⟩,iU (q:Int),.bool b] h=some (.agg ⟨aG (cK m q b)⟩,p)∧Ext h p:=by
 obtain⟨c,_,B,_,_,Q,_,L,U⟩:=aTl k (aG m) rfl m h;obtain⟨i,_,C,_,_,J,_,E,V⟩:=aTl k TaV.Z30L rfl m c;have j:i.get h.next=some (.cells (aG m) (some 0)):=by rw[J.get _ (by omega)];exact L
 have G:A.load false 1 (.pointer (some ⟨h.next,2,none⟩)) i=some (iU (m.qos:Int)):=ldC j 2 rfl;have I:=fun r p=>cDe 0 (.agg ⟨aG m⟩) (iU (q:Int)) (.bool b) h (r:=(r,p)) (k.no 37 _ _ (by decide));have n:∀(h3:H) (o:Nat),h3.next=i.next→h3.get h.next=some (.cells [str m.topic,str m.payload,iU (o:Int),.bool m.retain] (some 0))→h3.get c.next=some (.cells TaV.Z30L (some 0))→Ext h h3→∃e f,A.store 1 (.pointer (some ⟨h.next,3,none⟩)) (.bool b) h3=some e∧A.load true 4 (aA h.next) e=some (.agg ⟨aG ⟨m.topic,m.payload,o,b⟩⟩)∧A.store 4 (aA c.next) (.agg ⟨aG ⟨m.topic,m.payload,o,b⟩⟩) e=some f∧A.load true 4 (aA c.next) f=some (.agg ⟨aG ⟨m.topic,m.payload,o,b⟩⟩)∧Ext h f:=by
  intro h3 o S N O P;obtain⟨e,g⟩:=eX (h3.put h.next (.cells (aG ⟨m.topic,m.payload,o,b⟩) (some 0)));have M:e.get h.next=some (.cells (aG ⟨m.topic,m.payload,o,b⟩) (some 0)):=by rw[g,H.get_put,kM rfl]
  have w:e.get c.next=some (.cells TaV.Z30L (some 0)):=by rw[g,H.get_put,kL (by omega)];exact O
  obtain⟨f,l⟩:=eX (e.put c.next (.cells (aG ⟨m.topic,m.payload,o,b⟩) (some 0)));refine⟨e,f,by rw[qU,N,g];rfl,jB k M,by rw[qU,w,l];rfl,jB k (by rw[l,H.get_put,kM rfl]),?_⟩;rw[l,g];exact(P.put _ _ (kQ _)).put _ _ (by omega)
 have x:=Q.trans J;by_cases R:q<m.qos
 ·have d:decide ((q:Int)<(m.qos:Int))=true:=kN (by omega);obtain⟨h3,a⟩:=eX (i.put h.next (.cells [str m.topic,str m.payload,iU (q:Int),.bool m.retain] (some 0)));have K:A.store 1 (.pointer (some ⟨h.next,2,none⟩)) (iU (q:Int)) i=some h3:=by rw[qU,j,a];rfl
  obtain⟨e,f,s,t,u,v,z⟩:=n h3 q (by rw[a];rfl) (by rw[a,H.get_put,kM rfl]) (by rw[a,H.get_put,kL (by omega)];exact E) (by rw[a];exact x.put _ _ (kQ _));have y:cK m q b=⟨m.topic,m.payload,q,b⟩:=by unfold cK;rw[show min m.qos q=q by omega]
  rw[y];refine⟨f,I _ _ ?_,z⟩;simp only[F37,bKb,B,qS,show A.box 4 TaV.Z30 c=some (aA c.next,i)from C,sR,G,zZ,d,K,s,t,u,v];rfl
 ·have d:decide ((q:Int)<(m.qos:Int))=false:=kO (by omega);obtain⟨e,f,s,t,u,v,z⟩:=n i m.qos rfl j E x;have y:cK m q b=⟨m.topic,m.payload,m.qos,b⟩:=by unfold cK;rw[show min m.qos q=m.qos by omega]
  rw[y];refine⟨f,I _ _ ?_,z⟩;simp only[F37,bKb,B,qS,show A.box 4 TaV.Z30 c=some (aA c.next,i)from C,sR,G,zZ,d,s,t,u,v];rfl
def V38 (l:LsD h v L)(m:b≤L.length)(o:Int):CI D 38 [v,iN (b:Int),iN o] h=some (match gT (lsN L) b o with|some (a,d)=>.tuple ⟨[iN (a:Int),iN (d:Int)]⟩|none=>.tuple ⟨[iN (-1),iN (-1)]⟩,h):=by
 have e:CI D 18 [v,iN 0,iN (b:Int),iU 2,iN o,iU 8] h=_:=V18 k l (a:=0) m 2 o 8;have q:=fun r=>cDd 0 v (iN (b:Int)) (iN o) h (r:=(r,h)) (k.no 38 _ _ (by decide));unfold gT
 cases j:bK (lsN L) 0 b 2 o 8 with
 |none=>
  rw[j]at e;have d:decide ((-1:Int)<0)=true:=by decide
  refine q _ ?_;simp only[F38,bDz,e,qS,zZ,d];rfl
 |some c=>
  rw[j]at e;obtain⟨_,n,_⟩:=fst_some.1 j;have d:decide ((c:Int)<0)=false:=kO (by omega);have f:CI D 18 [v,iN 0,iN (c:Int),iU 1,iN o,iU 8] h=_:=V18 k l (a:=0) (b:=c) (by omega) 1 o 8
  cases g:bK (lsN L) 0 c 1 o 8 with
  |none=>
   rw[g]at f;have i:decide ((-1:Int)<0)=true:=by decide
   refine q _ ?_;simp only[F38,bDz,e,qS,zZ,d,f,i,mA,g,tH]
  |some a=>
   rw[g]at f;have i:decide ((a:Int)<0)=false:=kO (by omega);refine q _ ?_;simp only[F38,bDz,e,qS,zZ,d,f,i,mA,g,pQ]
end
def aDa:∀(l:Row) (r:Row),(nD iI r l).1.length=l.length
 |[],r=>rfl
 |y::l,r=>by simp only[nD,kY,aDa l]
def aIj:∀(l:Row) (r:Row),(∀y∈l,y.2<256)→∀c∈(nD iI r l).1,c<256
 |[],r,_,c,a=>by cases a
 |y::l,r,h,c,a=>by
  rcases sI.1 a with rfl|a
  ·exact aOd (h y mO)
  ·exact aIj l _ (fun t b=>h t (mL _ b)) c a
def aHp {n:cD}(k:n.kind=2)(p:n.ptype=8)(s:∀y∈n.subs,y.2<256){a:kC Nat×MD}(h:cY iI jM M n=some a):a.1.length=n.subs.length∧∀c∈a.1,c<256:=by
 unfold cY at h;rw[kL (by omega),kL (by omega),kL (by omega)]at h;split at h
 ·cases h
 ·split at h
  ·cases h
  ·obtain rfl:=pB h;exact⟨aDa _ _,aIj _ _ s⟩
def aTk (r:Row)(x:(Bs×Nat)×Nat):Row:=if x.2<128 then(lX iI r x.1.1 x.1.2).2 else r
section
variable {D:CF}(Y:KD D)
include Y
def V39 (J:LsD h v L)(hb:b≤L.length)(o:Int)(t:Bs)(x:Bool):CI D 39 [v,iN (b:Int),iN o,str t,.bool x] h=some (.bool (fI (lsN L) b o t x),h):=by
 have P:=J.len;have lp:∀(d i m:Nat) (w:Pk.K1 (kA×H)) (y:Pk.K0 (kA×H)) (V:Nat),b-i=d→d<m→aQr (CI D) V w y m (iN (b:Int)) (iN (i:Int)) (str t) (.bool x) (iN o) v h=
  if((List.range' i d).any fun j=>gW (lsN L) j o&&decide ((nt (lsN L) j).op=o∧((nt (lsN L) j).msg.topic=t∨x=false∧t<(nt (lsN L) j).msg.topic)))=true then w (.bool true) h else y h:=by
  intro d
  induction d with
  |zero=>
   intro i m w y V Z hm;obtain⟨m,rfl⟩:=pS m (by omega);have E:decide ((i:Int)<(b:Int))=false:=kO (by omega);simp only[aQr,bBm,qS,zZ,E];rfl
  |succ d ih=>
   intro i m w y V Z hm;obtain⟨m,rfl⟩:=pS m (by omega);have E:decide ((i:Int)<(b:Int))=true:=kN (by omega);obtain⟨z,R⟩:∃z,L[i]?=some z:=⟨_,kZ (by omega)⟩;have Q:=lG R;obtain⟨a3,q,f,_,M,_⟩:=J.at R;have G:=M h (Ext.refl h) 0 (iU (z.2.2.kind:Int)) rfl (by omega);have I:=M h (Ext.refl h) 1 (iN z.2.2.op) rfl (by omega);have l:=M h (Ext.refl h) 28 (str z.2.2.msg.topic) rfl (by omega);rw[sS]at G;have w2:=gQ (i:=i) (by omega);have e:=ih (i+1) m w y V (by omega) (by omega);have n:decide ((z.2.2.kind:Int)=8)=decide (z.2.2.kind=8):=mK.2 (by omega);have B:decide ((z.2.2.kind:Int)=7)=decide (z.2.2.kind=7):=mK.2 (by omega);have K:CI D 18 [v,iN 0,iN (i:Int),iU 4,iN o,iU 0] h=_:=V18 Y J (a:=0) (b:=i) (by omega) 4 o 0;have u:gW (lsN L) i o=(decide (z.2.2.kind=8)||(decide (z.2.2.kind=7)&&decide (bK (lsN L) 0 i 4 o 0=none))):=by
    unfold gW;rw[Q];simp
   have W:decide ((match bK (lsN L) 0 i 4 o 0 with|some r=>(r:Int)|none=> -1)<0)=decide (bK (lsN L) 0 i 4 o 0=none):=by
    cases bK (lsN L) 0 i 4 o 0 with
    |none=>rfl
    |some r=>
     show decide ((r:Int)<0)=_;rw[kO (by omega),kO (by simp)]
   have N:∀k:Pk.K8 (kA×H),bBl (CI D) h v (iN (b:Int)) (iN o) (str t) (.bool x) (iN (i:Int)) k=k (.bool (gW (lsN L) i o)) (str z.2.2.msg.topic) (iN (i:Int)) (iN (b:Int)) (str t) (.bool x) (iN o) v h:=fun k=>by
    rw[u]
    cases g:decide (z.2.2.kind=8)with
    |true=>rw[g]at n;simp only[bBl,qS,f,sS,G,l,zQ,n,tL]
    |false=>
     rw[g]at n
     cases U:decide (z.2.2.kind=7)with
     |false=>rw[U]at B;simp only[bBl,qS,f,sS,G,l,zQ,n,B,mZ,mG]
     |true=>rw[U]at B;simp only[bBl,qS,f,sS,G,l,zQ,n,B,K,zZ,mZ,mF];rw[←W];rfl
   have p:=bX z.2.2.msg.topic t;have X:=aNt z.2.2.msg.topic t;have s:(gW (lsN L) i o&&decide (z.2.2.op=o∧(z.2.2.msg.topic=t∨x=false∧t<z.2.2.msg.topic)))=(gW (lsN L) i o&&(decide (z.2.2.op=o)&&(decide (z.2.2.msg.topic=t)||(!x&&decide (t<z.2.2.msg.topic))))):=by
    congr 1;cases x<;>simp
   have C:∀k:Pk.K7 (kA×H),aRs h v (iN (b:Int)) (iN o) (str t) (.bool x) (iN (i:Int)) (str z.2.2.msg.topic) (.bool (gW (lsN L) i o)) k=k (.bool (gW (lsN L) i o&&decide (z.2.2.op=o∧(z.2.2.msg.topic=t∨x=false∧t<z.2.2.msg.topic)))) (iN (i:Int)) (iN (b:Int)) (str t) (.bool x) (iN o) v h:=fun k=>by
    rw[s]
    cases gW (lsN L) i o with
    |false=>simp only[aRs,qS,mG]
    |true=>
     cases g:decide (z.2.2.op=o)with
     |false=>simp only[aRs,qS,f,I,zQ,g,mG,mF]
     |true=>
      cases S:decide (z.2.2.msg.topic=t)with
      |true=>rw[S]at p;simp only[aRs,qS,f,I,zQ,g,p,mF,tL]
      |false=>
       rw[S]at p
       cases x with
       |true=>simp only[aRs,qS,f,I,zQ,g,p,mF,mZ,mG]
       |false=>simp only[aRs,qS,f,I,zQ,g,p,X,mF,mZ]
   rw[nJ,dP,Q]
   cases O:(gW (lsN L) i o&&decide (z.2.2.op=o∧(z.2.2.msg.topic=t∨x=false∧t<z.2.2.msg.topic)))with
   |true=>
    rw[O]at C;rw[tL,kM rfl];simp only[aQr,bBm,bIg,bPc,qS,zZ,E,N,C]
   |false=>
    rw[O]at C;rw[mZ,←e];simp only[aQr,bBm,bIg,bPc,bPb,qS,zZ,E,N,C,w2]
 have e:=lp b 0 (b+1) (fun c h=>some (c,h)) (fun h=>bPa h fun c h=>some (c,h)) (b+1) rfl (by omega);have e:aQr (CI D) _ (fun c h=>some (c,h)) (fun h=>bPa h fun c h=>some (c,h)) _ (iN (b:Int)) (iN 0) (str t) (.bool x) (iN o) v h=_:=e;refine cDc (b+1) _ _ _ _ _ h (Y.no 39 _ _ (by decide)) ?_;simp only[F39,bKa,cFv,bSw,cFu,e];unfold fI;cases(List.range' 0 b).any fun j=>gW (lsN L) j o&&decide ((nt (lsN L) j).op=o∧((nt (lsN L) j).msg.topic=t∨x=false∧t<(nt (lsN L) j).msg.topic))<;>rfl
def bUt (P:LsD h v ls)(hz:ls[n]?=some z){b:kC Nat}(hc:b.length=z.2.2.subs.length)(U:∀c∈b,c<256){l:Nat}(hl:h.next≤l)(kx:Pk.K1 (kA×H)){L:Nat}:
 ∀(d j m:Nat) (J:H) (W:kA) (r:Row),j+d=z.2.2.subs.length→d<m→Ext h J→LstD J l W r→wH r→
  ∃k G,aQq (CI D) L kx m (iN (j:Int)) (str (iR b)) (iN (n:Int)) v (aA l) J=kx (aA l) k∧LstD k l G (((z.2.2.subs.zip b).drop j).foldl aTk r)∧Ext h k∧wH (((z.2.2.subs.zip b).drop j).foldl aTk r):=by
 have x:=sY hz;have O:=P.nb z x;have E:=P.sml z x;obtain⟨d3,q,Q,_,lc,_⟩:=P.at hz;intro d
 induction d with
 |zero=>
  intro j m J W r hj hm B y C;obtain⟨m,rfl⟩:=pS m (by omega);have g:=lc J B 26 z.2.1 rfl (by omega);have N:A.zE z.2.1=some (iN (z.2.2.subs.length:Int)):=by have:=O.subs.len.1;rwa [aW,pO]at this
  have M:decide ((j:Int)<(z.2.2.subs.length:Int))=false:=kO (by omega);rw[pZ (by rw[List.length_zip];omega)];refine⟨J,W,?_,y,B,C⟩;simp only[aQq,bBk,qS,Q,Nat.add_assoc,Nat.reduceAdd,g,N,zZ,M]
 |succ d ih=>
  intro j m J W r hj hm B y C;obtain⟨m,rfl⟩:=pS m (by omega);have g:=lc J B 26 z.2.1 rfl (by omega);have N:A.zE z.2.1=some (iN (z.2.2.subs.length:Int)):=by have:=O.subs.len.1;rwa [aW,pO]at this
  have M:decide ((j:Int)<(z.2.2.subs.length:Int))=true:=kN (by omega);obtain⟨s,V⟩:∃s,z.2.2.subs[j]?=some s:=⟨_,kZ (by omega)⟩;obtain⟨c,p⟩:∃c,b[j]?=some c:=⟨_,kZ (by omega)⟩;have u:=sY V;have o:=U c (sY p);obtain⟨a3,q2,t,l2,_,_⟩:=oQ (O.subs.ext B) V;obtain⟨h1,h2,X,Z,g2,I,n2⟩:=cJw Y s J;have f0:=ldC g2 0 (v:=str s.1) rfl;have f1:=ldC g2 1 (v:=iU (s.2:Int)) rfl;have ib:(iR b)[j]?=some (UInt8.ofNat c):=by unfold iR;rw[pL,p];rfl
  have ix:=ixS ib;have a:decide (((UInt8.ofNat c).toNat:Int)<128)=decide (c<128):=by rw[bEn o];exact mK.2 (by omega)
  have w2:=gQ (i:=j) (by have:=E.1;omega);have w:(z.2.2.subs.zip b).drop j=(s,c)::(z.2.2.subs.zip b).drop (j+1):=aU (by rw[List.getElem?_zip_eq_some];exact⟨V,p⟩);rw[w,dN];have y2:=y.ext I
  cases K:decide (c<128)with
  |true=>
   rw[K]at a;have S:aTk r (s,c)=(lX iI r s.1 s.2).2:=by unfold aTk;rw[kM (tE K)]
   have b3:=E.2 s u;obtain⟨h3,v3,e3,y3,s3,z3⟩:=V57 Y y2 (by have:=C.1;omega) (f:=s.1) (by omega) (O.small s u);have R:Ext h h3:=⟨by have:=B.next;have:=I.next;have:=z3.next;omega,fun i hi=>by
    have:=B.next;have:=I.next;rw[z3.get i (by omega) (fun e=>by omega),I.get i (by omega)];exact B.get i hi⟩
   obtain⟨k,G,e,r1,r2,r3⟩:=ih (j+1) m h3 v3 _ (by omega) (by omega) R y3 (aOc C (by omega) s.2);rw[S];refine⟨k,G,?_,r1,r2,r3⟩;rw[←e];simp only[aQq,bBk,qS,Q,Nat.add_assoc,Nat.reduceAdd,g,N,zZ,M,t,l2,X,Z,ix,a,sR,f0,f1,e3,w2]
  |false=>
   rw[K]at a;have S:aTk r (s,c)=r:=by unfold aTk;rw[kL (of_decide_eq_false K)]
   obtain⟨k,G,e,r1,r2,r3⟩:=ih (j+1) m h2 W r (by omega) (by omega) (B.trans I) y2 C;rw[S];refine⟨k,G,?_,r1,r2,r3⟩;rw[←e];simp only[aQq,bBk,qS,Q,Nat.add_assoc,Nat.reduceAdd,g,N,zZ,M,t,l2,X,Z,ix,a,w2]
def V40 (B:LsD h v E)(ss:SliceE 1 h x (aMi ps))(hp:ps[n]?=some i)(st:StD h i (S n))(J:E[n]?=some z)(hk:z.2.2.kind=2)(ht:z.2.2.ptype=8){a:kC Nat×MD}(W:cY iI jM (S n) z.2.2=some a):
 ∃U l n3,CI D 40 [v,x,iN (n:Int)] h=some (aA l,U)∧LstD U l n3 (cH (lsN E) S iI jM n)∧Ext h U∧wH (cH (lsN E) S iI jM n):=by
 have p:=sY J;have K:=B.nb z p;have hn:=lG J;obtain⟨m3,q,ei,C,lc,_⟩:=B.at J;have hx:(aMi ps)[n]?=some [aA i]:=by rw[pL,hp];rfl
 obtain⟨id,G,cells,own,R,_,g1,_,_,X⟩:=ss.at hx .i64;have l1:A.load false 1 (.pointer (some ⟨id,G,none⟩)) h=some (aA i):=by rw[qK,g1];have:=X 0 (by omega);rwa [sS]at this
 obtain⟨k,Z,md,V,hZ,d3,ok⟩:=st;obtain⟨h2,q',k',Z',e2,y2,o,M⟩:=V33 Y md (by omega) ok (by omega);have l3:Z'.length=Z.length:=by have:=sX List.length o;simpa using this
 have j3:lB Z':=fun t g3=>by
  have:t.1∈Z.map (·.1):=by rw[←o];exact mN g3
  obtain⟨t',f3,e⟩:=mW.1 this;rw[←e];exact ok t' f3
 have n2:=M.next;obtain⟨n3,h3,N,cs,pr,k3,Z3,r,rfl,d,y3,z3,_⟩:=V34 Y (P:=fun j=>h.next≤j) (fun j I=>by show h.next≤j;omega) y2 (by omega) j3 d3 (K.subs.ext M) (fun j I hP=>by have:=K.subs.sid_lt j I;omega) (B.sml z p) K.small;have N:CI D 34 [aA q',.agg ⟨nzC z⟩] h2=_:=N;have hM:iW Z' (S n).kept=S n:=by
  show MD.mk (Z'.map (·.1)) (S n).kept=S n;rw[o,V]
 rw[hM]at d;have d:k3=true∧cs=a.1∧a.2=iW Z3 r:=by
  have:cY (fZ cA) (fB cA) (S n) z.2.2=some a:=W;rw[this]at d;exact d
 obtain⟨rfl,rfl,_⟩:=d;obtain⟨a3,m⟩:=aHp hk ht K.small W;have x3:Ext h h3:=⟨by have:=z3.next;omega,fun j I=>by rw[z3.get j (by omega) (fun g=>by omega),M.get j I]⟩;obtain⟨w,f⟩:=eX (h3.push (.cells [eJ] (some 0)));have Q:A.zI TaV.Z118L []=some (.agg ⟨[eJ]⟩):=rfl;have e4:A.box 1 (.agg ⟨[eJ]⟩) h3=some (aA h3.next,w):=by rw[f];rfl
 have x4:Ext h w:=x3.trans (by rw[f];exact Ext.push h3 _);have i3:LstD w h3.next eJ []:=⟨by rw[f,H.get_push,kM rfl],by rw[f];simp,GN.nil 2 w⟩;obtain⟨h5,v5,O,y5,x5,ok5⟩:=bUt Y B J a3 m (l:=h3.next) x3.next (fun s h=>bGa h s fun x6 h=>some (x6,h)) (L:=z.2.2.subs.length+1) z.2.2.subs.length 0 (z.2.2.subs.length+1) w eJ [] (by omega) (by omega) x4 i3 ⟨by simp,fun y hy=>by cases hy⟩;have O:aQq (CI D) _ (fun s h=>bGa h s fun x6 h=>some (x6,h)) _ (iN 0) (str (iR a.1)) (iN (n:Int)) v (aA h3.next) w=_:=O;have b3:cH (lsN E) S iI jM n=(z.2.2.subs.zip a.1).foldl aTk []:=by
  unfold cH;rw[hn,W];rfl
 rw[mI,←b3]at y5 ok5;have sm:AM.chk (some (.agg ⟨nzC z⟩)) (.agg ⟨nzC z⟩)=true:=eG rfl (B.same p);have ex:∀(a b c:kA),A.u 0 (.tuple ⟨[a,b,c]⟩)=some a∧A.u 1 (.tuple ⟨[a,b,c]⟩)=some b∧A.u 2 (.tuple ⟨[a,b,c]⟩)=some c:=fun _ _ _=>⟨rfl,rfl,rfl⟩;refine⟨h5,h3.next,v5,cDb (z.2.2.subs.length+1) _ _ _ h (Y.no 40 _ _ (by decide)) ?_,y5,x5,ok5⟩;simp only[F40,bJz,cFt,cFs,cFr,qS,R,l1,e2,ei,C h2 M,C h (Ext.refl h),sm,dB,N,ex,Q,e4,bSg,cFq,O];simp only[bGa]
end
structure EnvD (B:H)(x sv:kA)(ls:kC NZ)(e:Nat)(S:Nat→MD):Prop where
 l:LsD B x ls
 le:e≤ls.length
 sts:∃ps:kC Nat,SliceE 1 B sv (aMi ps)∧ps.length=e+1∧∀j q,ps[j]?=some q→StD B q (S j)
def StD.ext (x:StD h q M)(e:Ext h j):StD j q M:=x.same e.next (fun i _ a=>e.get i a) fun _ _ _=>trivial
def EnvD.ext {j h:H}{v x:kA}{L:kC NZ}{e:Nat}{S:Nat→MD}(y:EnvD j v x L e S)(q:Ext j h):EnvD h v x L e S:=
 let⟨ps,a,b,c⟩:=y.sts
 ⟨y.l.ext q,y.le,ps,a.ext q,b,fun f p d=>(c f p d).ext q⟩
def EnvD.at {h:H}{x v:kA}{ls:kC NZ}{e:Nat}{S:Nat→MD}(y:EnvD h x v ls e S){j:Nat}(m:j≤e):∃o q p,A.zB 1 v (iN (j:Int))=some (.pointer (some ⟨q,o,none⟩))∧A.load false 1 (.pointer (some ⟨q,o,none⟩)) h=some (aA p)∧StD h p (S j):=by
 obtain⟨s,a,b,c⟩:=y.sts;obtain⟨p,g⟩:∃p,s[j]?=some p:=⟨_,kZ (by omega)⟩;have l:(aMi s)[j]?=some [aA p]:=by rw[pL,g];rfl
 obtain⟨id,f,cells,own,i,_,k,_,_,d⟩:=a.at l .i64;exact⟨f,id,p,i,by rw[qK,k];have:=d 0 (by omega);rwa [sS]at this,c j p g⟩
def aYv (z:NZ)(h:H):∃c d,A.box 35 TaV.Z35 h=some (aA h.next,c)∧A.store 35 (aA h.next) (.agg ⟨nzC z⟩) c=some d∧d.get h.next=some (.cells (nzC z) (some 0))∧Ext h d∧d.next=h.next+1:=by
 obtain⟨c,a⟩:=eX (h.push (.cells TaV.Z35L (some 0)));have g:c.get h.next=some (.cells TaV.Z35L (some 0)):=by rw[a,H.get_push,kM rfl]
 obtain⟨d,b⟩:=eX (c.put h.next (.cells (nzC z) (some 0)));exact⟨c,d,by rw[a];rfl,by rw[qU,g,b];rfl,by rw[b,H.get_put,kM rfl],by rw[b,a];exact(Ext.push h _).put _ _ (kQ _),by rw[b,a];rfl⟩
def aDb (m:Msg):AM.same (.agg ⟨aG m⟩) (.agg ⟨aG m⟩)=true:=by
 obtain⟨a,b,c,d⟩:=m;simp[aG,AM.same,AM.sameA,AM.sameL]
def ex2:∀(x y:kA),A.u 0 (.tuple ⟨[x,y]⟩)=some x∧A.u 1 (.tuple ⟨[x,y]⟩)=some y:=fun _ _=>⟨rfl,rfl⟩
def iQ (o:kB Nat):A.z prog .lss 3 (fV o) (iN 0)=some (.bool o.isNone)∧A.z prog .geq 3 (fV o) (iN 0)=some (.bool o.isSome):=by
 cases o with
 |none=>exact⟨by rw[zZ];rfl,by rw[bF];rfl⟩
 |some r=>
  refine⟨?_,?_⟩
  ·rw[zZ];show some (Value.bool (decide ((r:Int)<0)))=_;rw[kO (by omega)];rfl
  ·rw[bF];show some (Value.bool (decide ((0:Int)≤(r:Int))))=_;rw[kN (by omega)];rfl
section
variable {D:CF}(Y:KD D)
include Y
def V19 {c:kA}(E:EnvD h x c L n S)(hi:i<n):∃h',CI D 19 [x,c,iN (i:Int)] h=some (.bool (aBy (lsN L) S iV i),h')∧Ext h h':=by
 have hle:=E.le;have b4:=E.l.len;obtain⟨z,hz⟩:∃z,L[i]?=some z:=⟨_,kZ (by omega)⟩;have hn:=lG hz;obtain⟨k4,q,ei,e3,lc,_⟩:=E.l.at hz;obtain⟨h1,w,e1,e2,g2,x2,n2⟩:=aYv z h;have E2:=E.ext x2;have f1:=ldC g2 1 (v:=iN z.2.2.op) rfl;have f3:=ldC g2 3 (v:=str z.2.2.client) rfl;have C:CI D 18 [x,iN 0,iN (i:Int),iU 4,iN z.2.2.op,iU 0] w=_:=V18 Y E2.l (a:=0) (b:=i) (by omega) 4 z.2.2.op 0;have qq:=fun a4 r h'=>cDq a4 x c (iN (i:Int)) h (r:=(r,h')) (Y.no 19 _ _ (by decide));unfold aBy;rw[hn]
 cases hf:bK (lsN L) 0 i 4 z.2.2.op 0 with
 |none=>
  rw[hf]at C;refine⟨w,qq 0 _ _ ?_,x2⟩;simp only[F19,aTi,bHc,bDe,bCj,bCi,qS,ei,e3 h (Ext.refl h),e1,e2,sR,f1,C,(iQ _).1];rfl
 |some r=>
  rw[hf]at C;obtain⟨_,hr,_⟩:=fst_some.1 hf
  dsimp only
  obtain⟨e,b3⟩:∃z,L[r]?=some z:=⟨_,kZ (by omega)⟩;have p3:=lG b3;rw[p3];have M:CI D 18 [x,iN (r:Int),iN (i:Int),iU 3,iN z.2.2.op,iU 0] w=_:=V18 Y E2.l (a:=r) (b:=i) (by omega) 3 z.2.2.op 0;have l3:=V35 Y E2.l (r:=r) (b:=i) (by omega) (by omega) z.2.2.client;have d0:decide ((r:Int)<0)=false:=kO (by omega);have al:∀f:Pk.K5 (kA×H),bHc (CI D) h x c (iN (i:Int)) f=f c (aA h.next) (iN (i:Int)) x (iN (r:Int)) w:=fun f=>by
   simp only[bHc,qS,ei,e3 h (Ext.refl h),e1,e2,sR,f1,C]
  have g1:∀f:Pk.K6 (kA×H),bCj (CI D) w x c (iN (i:Int)) (aA h.next) (iN (r:Int)) f=f (.bool (decide ((bK (lsN L) r i 3 z.2.2.op 0).isSome=true∨bS (lsN L) r i z.2.2.client=true))) c (aA h.next) (iN (i:Int)) x (iN (r:Int)) w:=fun f=>by
   cases hs:(bK (lsN L) r i 3 z.2.2.op 0).isSome with
   |true=>
    rw[kN (.inl rfl)];simp only[bCj,qS,zZ,d0,sR,f1,M,(iQ _).2,hs]
   |false=>
    have:decide (false=true∨bS (lsN L) r i z.2.2.client=true)=bS (lsN L) r i z.2.2.client:=by simp
    rw[this];simp only[bCj,qS,zZ,d0,sR,f1,f3,M,(iQ _).2,hs,l3]
  by_cases c1:(bK (lsN L) r i 3 z.2.2.op 0).isSome=true∨bS (lsN L) r i z.2.2.client=true
  ·rw[kN c1]at g1;rw[kM c1];refine⟨w,qq 0 _ _ ?_,x2⟩;simp only[F19,aTi,al,bDe,g1,bCi,qS]
  rw[kO c1]at g1;rw[kL c1];obtain⟨e4,qr,t,_,P,v3⟩:=E2.l.at b3;have j3:=P w (Ext.refl w) 28 (str e.2.2.msg.topic) rfl (by omega);obtain⟨f4,qs,p,m3,z3,st⟩:=E2.at (j:=i) (by omega);obtain⟨k,Z,md,o3,hZ,j4,ok⟩:=st;obtain⟨h3,G,V⟩:=V36 Y md (by omega) ok z.2.2.client e.2.2.msg.topic;have hM:iW Z (S i).kept=S i:=by
   show MD.mk (Z.map (·.1)) (S i).kept=S i;rw[o3]
  rw[hM]at G;obtain⟨s,N⟩:=eX (bD iV (S i) z.2.2.client e.2.2.msg.topic);have G:CI D 36 [aA p,str z.2.2.client,str e.2.2.msg.topic] w=some (.tuple ⟨[iU (s.1:Int),.bool s.2]⟩,h3):=by rw[N];exact G
  rw[←N];have g3:h3.get h.next=some (.cells (nzC z) (some 0)):=by rw[V.get _ (by omega)];exact g2
  have d3:A.load true 4 (.pointer (some ⟨h.next,28,none⟩)) h3=some (.agg ⟨aG z.2.2.msg⟩):=by rw[aI,g3];rfl
  have i3:=v3 h3 V;obtain⟨h4,X,x4⟩:=V37 Y e.2.2.msg s.1 false h3;have l4:=V.next;have g4:h4.get h.next=some (.cells (nzC z) (some 0)):=by rw[x4.get _ (by omega)];exact g3
  have O:A.load true 4 (.pointer (some ⟨h.next,28,none⟩)) h4=some (.agg ⟨aG z.2.2.msg⟩):=by rw[aI,g4];rfl
  have u3:=ldC g4 34 (v:=iU (z.2.2.qos:Int)) rfl;have t3:=ldC g4 30 (v:=iU (z.2.2.msg.qos:Int)) rfl;have ck:AM.chk (some (.agg ⟨aG z.2.2.msg⟩)) (.agg ⟨aG z.2.2.msg⟩)=true:=eG rfl (aDb _);have J:=bEp z.2.2.msg (cK e.2.2.msg s.1 false);have dq:(!decide ((z.2.2.qos:Int)=(z.2.2.msg.qos:Int)))=!decide (z.2.2.qos=z.2.2.msg.qos):=by rw[show decide ((z.2.2.qos:Int)=(z.2.2.msg.qos:Int))=decide (z.2.2.qos=z.2.2.msg.qos)from mK.2 (by omega)]
  have a3:∀f:Pk.K6 (kA×H),bQk (CI D) w x c (iN (i:Int)) (aA h.next) (iN (r:Int)) f=f (.bool s.2) (iU (s.1:Int)) (aA h.next) (iN (i:Int)) x (iN (r:Int)) h3:=fun f=>by
   simp only[bQk,qS,m3,z3,sR,f3,t,sS,j3,G,ex2]
  have u:∃hh,Ext h3 hh∧∀f:Pk.K5 (kA×H),bCh (CI D) h3 x (iN (i:Int)) (aA h.next) (iN (r:Int)) (iU (s.1:Int)) (.bool s.2) f=f (.bool (decide (s.2=false∨z.2.2.msg≠cK e.2.2.msg s.1 false∨z.2.2.qos≠z.2.2.msg.qos))) (aA h.next) (iN (i:Int)) x (iN (r:Int)) hh:=by
   cases hb:s.2 with
   |false=>
    refine⟨h3,Ext.refl h3,fun f=>?_⟩;rw[kN (.inl rfl)];simp only[bCh,qS]
   |true=>
    refine⟨h4,x4,fun f=>?_⟩;have:decide (true=false∨z.2.2.msg≠cK e.2.2.msg s.1 false∨z.2.2.qos≠z.2.2.msg.qos)=(!decide (z.2.2.msg=cK e.2.2.msg s.1 false)||!decide (z.2.2.qos=z.2.2.msg.qos)):=by simp
    rw[this]
    cases hm:decide (z.2.2.msg=cK e.2.2.msg s.1 false)with
    |false=>
     rw[hm]at J;simp only[bCh,qS,sR,d3,t,i3,X,O,ck,dB,J,tL]
    |true=>
     rw[hm]at J;simp only[bCh,qS,sR,d3,t,i3,X,O,ck,dB,J,u3,Nat.reduceAdd,t3,bA,dq,mZ]
  obtain⟨o,x5,u⟩:=u;by_cases c2:s.2=false∨z.2.2.msg≠cK e.2.2.msg s.1 false∨z.2.2.qos≠z.2.2.msg.qos
  ·rw[kN c2]at u;rw[kM c2];refine⟨o,qq 0 _ _ ?_,(x2.trans V).trans x5⟩;simp only[F19,aTi,al,bDe,g1,bCi,qS,a3,bRu,u,bQj]
  rw[kO c2]at u;rw[kL c2];have K:=V.trans x5;have E5:=E2.ext K;have g5:o.get h.next=some (.cells (nzC z) (some 0)):=by rw[K.get _ (by omega)];exact g2
  have n3:=ldC g5 3 (v:=str z.2.2.client) rfl;have R:=P o K 3 (str e.2.2.client) rfl (by omega);have B:=P o K 28 (str e.2.2.msg.topic) rfl (by omega);have lp:∀(d j m:Nat) (kr:Pk.K1 (kA×H)) (kx:Pk.K0 (kA×H)) (a4:Nat),i-j=d→d<m→aSr (CI D) a4 kr kx m (iN (j:Int)) (aA h.next) (iN (i:Int)) x (iN (r:Int)) o=
   if((List.range' j d).any fun k=>decide ((nt (lsN L) k).kind=4∧(nt (lsN L) k).client=e.2.2.client∧(nt (lsN L) k).msg.topic=e.2.2.msg.topic∧bS (lsN L) k i z.2.2.client=true))=true then kr (.bool false) o else kx o:=by
   intro d
   induction d with
   |zero=>
    intro j m kr kx a4 hj hm;obtain⟨m,rfl⟩:=pS m (by omega);have hd:decide ((j:Int)<(i:Int))=false:=kO (by omega);simp only[aSr,bCg,qS,zZ,hd];rfl
   |succ d ih=>
    intro j m kr kx a4 hj hm;obtain⟨m,rfl⟩:=pS m (by omega);have hd:decide ((j:Int)<(i:Int))=true:=kN (by omega);obtain⟨y,hy⟩:∃z,L[j]?=some z:=⟨_,kZ (by omega)⟩;have s3:=lG hy;obtain⟨i4,qy,I,_,Q,_⟩:=E5.l.at hy;have y0:=Q o (Ext.refl o) 0 (iU (y.2.2.kind:Int)) rfl (by omega);have y3:=Q o (Ext.refl o) 3 (str y.2.2.client) rfl (by omega);have k3:=Q o (Ext.refl o) 28 (str y.2.2.msg.topic) rfl (by omega);rw[sS]at y0;have w2:=gQ (i:=j) (by omega);have en:=ih (j+1) m kr kx a4 (by omega) (by omega);have U:decide ((y.2.2.kind:Int)=4)=decide (y.2.2.kind=4):=mK.2 (by omega);have s1:=bX y.2.2.client e.2.2.client;have s2:=bX y.2.2.msg.topic e.2.2.msg.topic;have W:=V35 Y E5.l (r:=j) (b:=i) (by omega) (by omega) z.2.2.client;have g:∀f:Pk.K6 (kA×H),aWs (CI D) o x (iN (i:Int)) (aA h.next) (iN (r:Int)) (iN (j:Int)) f=f (.bool (decide (y.2.2.kind=4∧y.2.2.client=e.2.2.client∧y.2.2.msg.topic=e.2.2.msg.topic∧bS (lsN L) j i z.2.2.client=true))) (iN (j:Int)) (aA h.next) (iN (i:Int)) x (iN (r:Int)) o:=fun f=>by
     have:decide (y.2.2.kind=4∧y.2.2.client=e.2.2.client∧y.2.2.msg.topic=e.2.2.msg.topic∧bS (lsN L) j i z.2.2.client=true)=(decide (y.2.2.kind=4)&&(decide (y.2.2.client=e.2.2.client)&&(decide (y.2.2.msg.topic=e.2.2.msg.topic)&&bS (lsN L) j i z.2.2.client))):=by simp
     rw[this]
     cases q1:decide (y.2.2.kind=4)with
     |false=>rw[q1]at U;simp only[aWs,qS,I,sS,y0,zQ,U,mG]
     |true=>
      rw[q1]at U
      cases q2:decide (y.2.2.client=e.2.2.client)with
      |false=>rw[q2]at s1;simp only[aWs,qS,I,sS,y0,zQ,U,y3,t,R,s1,mG,mF]
      |true=>
       rw[q2]at s1
       cases q3:decide (y.2.2.msg.topic=e.2.2.msg.topic)with
       |false=>rw[q3]at s2;simp only[aWs,qS,I,sS,y0,zQ,U,y3,t,R,s1,k3,B,s2,mG,mF]
       |true=>rw[q3]at s2;simp only[aWs,qS,I,sS,y0,zQ,U,y3,t,R,s1,k3,B,s2,sR,n3,W,mF]
    rw[nJ,dP,s3]
    cases hD:decide (y.2.2.kind=4∧y.2.2.client=e.2.2.client∧y.2.2.msg.topic=e.2.2.msg.topic∧bS (lsN L) j i z.2.2.client=true)with
    |true=>
     rw[hD]at g;rw[tL,kM rfl];simp only[aSr,bCg,bHz,bQi,qS,zZ,hd,g]
    |false=>
     rw[hD]at g;rw[mZ,←en];simp only[aSr,bCg,bHz,bQi,bQh,qS,zZ,hd,g,w2]
  have el:=lp (i-(r+1)) (r+1) (i-(r+1)+1) (fun x6 h=>some (x6,h)) (fun h=>cHf h fun x6 h=>some (x6,h)) (i-(r+1)+1) rfl (by omega);have wr:=gQ (i:=r) (by omega);refine⟨o,qq (i-(r+1)+1) _ _ ?_,(x2.trans V).trans x5⟩;simp only[F19,aTi,al,bDe,g1,bCi,qS,a3,bRu,u,bQj,bSs,cHg,wr,el];cases(List.range' (r+1) (i-(r+1))).any fun k=>decide ((nt (lsN L) k).kind=4∧(nt (lsN L) k).client=e.2.2.client∧(nt (lsN L) k).msg.topic=e.2.2.msg.topic∧bS (lsN L) k i z.2.2.client=true)<;>rfl
end
def aTs (t:Bs):AM.same (str t) (str t)=true:=by simp[AM.same]
def aEc {I:Int}{a d:Nat}(h:gT l n I=some (a,d)):a≤d∧d<n∧(nt l d).kind=2∧(nt l d).ptype=8:=by
 unfold gT at h;obtain⟨r,i,e⟩:=sZ.1 h;obtain⟨_,f,h3,_⟩:=fst_some.1 i;rw[kW]at e;obtain⟨c,rfl⟩:=e;refine⟨?_,f,h3.1,h3.2.2.resolve_left (by omega)⟩;rw[←c]
 cases g:bK l 0 r 1 I 8 with
 |none=>exact kQ _
 |some b=>obtain⟨_,q,_⟩:=fst_some.1 g;exact sC q
def aAm {d:Nat}(R:aRc l S iI jM n)(b:d<n)(k:(nt l d).kind=2):∃a,cY iI jM (S d) (nt l d)=some a:=by
 have:=R.step d b;unfold tK at this;rw[kM (.inl k)]at this;obtain⟨a,h,_⟩:=sZ.1 this;exact⟨a,h⟩
section
variable {D:CF}(Y:KD D)
include Y
def V20 (E:EnvD h v x L n S)(R:aRc (lsN L) S iI jM n)(hi:i<n):∃f,CI D 20 [v,x,iN (i:Int)] h=some (.bool (uD (lsN L) S iI jM iV i),f)∧Ext h f:=by
 have hle:=E.le;have l4:=E.l.len;obtain⟨z,hz⟩:∃z,L[i]?=some z:=⟨_,kZ (by omega)⟩;have hn:=lG hz;obtain⟨u4,q,ei,o3,lc,_⟩:=E.l.at hz;obtain⟨h1,J,e1,e2,Q,x2,n2⟩:=aYv z h;have E2:=E.ext x2;have f1:=ldC Q 1 (v:=iN z.2.2.op) rfl;have f3:=ldC Q 3 (v:=str z.2.2.client) rfl;have y:=ldC Q 28 (v:=str z.2.2.msg.topic) rfl;have z3:=ldC Q 30 (v:=iU (z.2.2.msg.qos:Int)) rfl;have a4:=ldC Q 34 (v:=iU (z.2.2.qos:Int)) rfl;have o:=V38 Y E2.l (b:=i) (by omega) z.2.2.op;have qq:=fun t3 r f=>cDp t3 v x (iN (i:Int)) h (r:=(r,f)) (Y.no 20 _ _ (by decide));unfold uD;rw[hn]
 cases hf:gT (lsN L) i z.2.2.op with
 |none=>
  rw[hf]at o;have dm:decide ((-1:Int)<0)=true:=by decide
  refine⟨J,qq 0 _ _ ?_,x2⟩;simp only[F20,aTh,bHb,bDh,aSb,bCf,qS,ei,o3 h (Ext.refl h),e1,e2,sR,f1,o,ex2,zZ,dm]
 |some ad=>
  obtain⟨a,d⟩:=ad;rw[hf]at o;obtain⟨p4,q4,hk,ht⟩:=aEc hf
  dsimp only at o⊢
  obtain⟨zd,W⟩:∃z,L[d]?=some z:=⟨_,kZ (by omega)⟩;have V:=lG W;rw[V]at hk ht⊢;obtain⟨m4,qd,P,_,f4,_⟩:=E2.l.at W;have X:=f4 J (Ext.refl J) 3 (str zd.2.2.client) rfl (by omega);have e:CI D 18 [v,iN (d:Int),iN (i:Int),iU 3,iN z.2.2.op,iU 0] J=_:=V18 Y E2.l (a:=d) (b:=i) (by omega) 3 z.2.2.op 0;have w:=V39 Y E2.l (b:=i) (by omega) z.2.2.op z.2.2.msg.topic false;have d0:decide ((d:Int)<0)=false:=kO (by omega);have s1:=gZ z.2.2.client zd.2.2.client;have dq:(!decide ((z.2.2.qos:Int)=(z.2.2.msg.qos:Int)))=!decide (z.2.2.qos=z.2.2.msg.qos):=by rw[show decide ((z.2.2.qos:Int)=(z.2.2.msg.qos:Int))=decide (z.2.2.qos=z.2.2.msg.qos)from mK.2 (by omega)]
  have al:∀u:Pk.K6 (kA×H),bHb (CI D) h v x (iN (i:Int)) u=u (iN (i:Int)) v (iN (a:Int)) (iN (d:Int)) (aA h.next) x J:=fun u=>by
   simp only[bHb,qS,ei,o3 h (Ext.refl h),e1,e2,sR,f1,o,ex2]
  have g1:∀u:Pk.K6 (kA×H),aSb (CI D) J v x (iN (i:Int)) (aA h.next) (iN (a:Int)) (iN (d:Int)) u=u (.bool (decide ((bK (lsN L) d i 3 z.2.2.op 0).isSome=true∨z.2.2.client≠zd.2.2.client∨fI (lsN L) i z.2.2.op z.2.2.msg.topic false=true∨z.2.2.qos≠z.2.2.msg.qos))) v (iN (a:Int)) (iN (d:Int)) (aA h.next) x J:=fun u=>by
   have:decide ((bK (lsN L) d i 3 z.2.2.op 0).isSome=true∨z.2.2.client≠zd.2.2.client∨fI (lsN L) i z.2.2.op z.2.2.msg.topic false=true∨z.2.2.qos≠z.2.2.msg.qos)=((bK (lsN L) d i 3 z.2.2.op 0).isSome||(!decide (z.2.2.client=zd.2.2.client)||(fI (lsN L) i z.2.2.op z.2.2.msg.topic false||!decide (z.2.2.qos=z.2.2.msg.qos)))):=by simp
   rw[this]
   cases q1:(bK (lsN L) d i 3 z.2.2.op 0).isSome with
   |true=>simp only[aSb,qS,zZ,d0,sR,f1,e,(iQ _).2,q1,tL]
   |false=>
    cases q2:decide (z.2.2.client=zd.2.2.client)with
    |false=>rw[q2]at s1;simp only[aSb,qS,zZ,d0,sR,f1,e,(iQ _).2,q1,f3,P,X,s1,tL,mZ]
    |true=>
     rw[q2]at s1
     cases q3:fI (lsN L) i z.2.2.op z.2.2.msg.topic false with
     |true=>rw[q3]at w;simp only[aSb,qS,zZ,d0,sR,Nat.reduceAdd,f1,e,(iQ _).2,q1,f3,P,X,s1,y,sS,w,tL,mZ]
     |false=>rw[q3]at w;simp only[aSb,qS,zZ,d0,sR,Nat.reduceAdd,f1,e,(iQ _).2,q1,f3,P,X,s1,y,sS,w,a4,z3,bA,dq,mZ]
  by_cases c1:(bK (lsN L) d i 3 z.2.2.op 0).isSome=true∨z.2.2.client≠zd.2.2.client∨fI (lsN L) i z.2.2.op z.2.2.msg.topic false=true∨z.2.2.qos≠z.2.2.msg.qos
  ·rw[kN c1]at g1;rw[kM c1];refine⟨J,qq 0 _ _ ?_,x2⟩;simp only[F20,aTh,al,bDh,g1,bCf,qS]
  rw[kO c1]at g1;rw[kL c1];obtain⟨ps,ss,t4,e4⟩:=E2.sts;obtain⟨pd,n3⟩:∃p,ps[d]?=some p:=⟨_,kZ (by omega)⟩;obtain⟨ap,m3⟩:=aAm R (d:=d) (by omega) (by rw[V];exact hk);rw[V]at m3;obtain⟨h3,l,j4,j3,yl,x3,a3⟩:=V40 Y E2.l ss n3 (e4 d pd n3) W hk ht m3;have g3:h3.get h.next=some (.cells (nzC z) (some 0)):=by rw[x3.get _ (by omega)];exact Q
  have I:=ldC g3 28 (v:=str z.2.2.msg.topic) rfl;have ck:AM.chk (some (str z.2.2.msg.topic)) (str z.2.2.msg.topic)=true:=eG rfl (aTs _);obtain⟨fr,d4⟩:=eX (cH (lsN L) S iI jM d);rw[←d4]at yl a3⊢;obtain⟨h4,g,x4⟩:=V41 Y yl (by have:=a3.1;omega) a3.2 z.2.2.msg.topic;obtain⟨s,K⟩:=eX (cN iV fr z.2.2.msg.topic);have g:CI D 41 [aA l,str z.2.2.msg.topic] h3=some (.tuple ⟨[iU (s.1:Int),.bool s.2]⟩,h4):=by rw[K];exact g
  rw[←K];have C:=x3.trans x4
  cases hb:s.2 with
  |false=>
   rw[hb]at g;rw[kM rfl];refine⟨h4,qq 0 _ _ ?_,x2.trans C⟩;simp only[F20,aTh,al,bDh,g1,bCf,qS,bQg,j3,sR,I,y,ck,dB,g,ex2]
  |true=>
   rw[hb]at g;rw[kL (by simp)];have E4:=E2.ext C;have lp:∀(k4 j m:Nat) (M:H) (kr:Pk.K1 (kA×H)) (kx:Pk.K0 (kA×H)) (t3:Nat),d+1-j=k4→k4<m→Ext h4 M→∃f,Ext h4 f∧aQu (CI D) t3 kr kx m (iN (d:Int)) (iN (j:Int)) (iU (s.1:Int)) (aA h.next) x M=
    if((List.range' j k4).any fun k=>uG (fY (S k).kept z.2.2.msg.topic) z.2.2.msg s.1)=true then kr (.bool true) f else kx f:=by
    intro k4
    induction k4 with
    |zero=>
     intro j m M kr kx t3 hj hm U;obtain⟨m,rfl⟩:=pS m (by omega);have hd:decide ((j:Int)≤(d:Int))=false:=kO (by omega);refine⟨M,U,?_⟩;simp only[aQu,aWr,qS,cG,hd];rfl
    |succ k4 ih=>
     intro j m M kr kx t3 hj hm U;obtain⟨m,rfl⟩:=pS m (by omega);have hd:decide ((j:Int)≤(d:Int))=true:=kN (by omega);have Eh:=E4.ext U;obtain⟨n4,qs,p,y3,g4,k,Z,md,o4,hZ,s4,ok⟩:=Eh.at (j:=j) (by omega);obtain⟨v0,w0,b1,_,v3,_⟩:=md.box;have w2:=gQ (i:=j) (by omega);have b3:=(C.trans U);have gh:M.get h.next=some (.cells (nzC z) (some 0)):=by rw[b3.get _ (by omega)];exact Q
     have i4:=ldC gh 28 (v:=str z.2.2.msg.topic) rfl;obtain⟨t,k3,x5⟩:=V42 Y v3 (by omega) z.2.2.msg.topic;rw[nJ,dP];have G:∀(mm:Msg) (is:Bool),cJq (fY (S j).kept z.2.2.msg.topic)=.tuple ⟨[.agg ⟨aG mm⟩,.bool is]⟩→∃c,Ext M c∧c.get t.next=some (.cells (aG mm) (some 0))∧t.next<c.next∧∀u:Pk.K7 (kA×H),bQf (CI D) M x (aA h.next) (iN (d:Int)) (iU (s.1:Int)) (iN (j:Int)) u=u (.bool is) (aA t.next) (iN (j:Int)) (iN (d:Int)) (iU (s.1:Int)) (aA h.next) x c:=fun mm is hv=>by
      obtain⟨h6,c,u3,d3,g7,x6,O,_,n6⟩:=aTl Y TaV.Z30L rfl mm t;rw[hv]at k3;have nn:t.next<c.next:=by
       have:=d3;rcases mJ t.next c.next with h|h
       ·exact h
       ·exfalso;have g6:h6.get t.next=some (.cells TaV.Z30L (some 0)):=by assumption
        rw[qU,g6]at this;have e7:c=h6.put t.next (.cells (splice TaV.Z30L 0 (aG mm)) (some 0)):=by
         simp only[uW]at this;exact(pB this).symm
        rw[e7]at h;have:(h6.put t.next (.cells (splice TaV.Z30L 0 (aG mm)) (some 0))).next=h6.next:=rfl;omega
      refine⟨c,x5.trans O,g7,nn,fun u=>?_⟩;simp only[bQf,qS,y3,g4,sR,(aR b1).2,i4,Nat.reduceAdd,k3,ex2,show A.box 4 TaV.Z30 t=some (aA t.next,h6)from u3,d3]
     cases hg:fY (S j).kept z.2.2.msg.topic with
     |none=>
      obtain⟨c,O,_,_,eb⟩:=G ⟨[],[],0,false⟩ false (by rw[hg];rfl);obtain⟨f,xh,en⟩:=ih (j+1) m c kr kx t3 (by omega) (by omega) (U.trans O);refine⟨f,xh,?_⟩;rw[show uG none z.2.2.msg s.1=false from rfl,mZ,←en];simp only[aQu,aWr,bDc,bHa,bGz,qS,cG,hd,eb,w2]
     |some mk=>
      obtain⟨c,O,g7,n7,eb⟩:=G mk true (by rw[hg];rfl);have l3:c.get h.next=some (.cells (nzC z) (some 0)):=by rw[O.get _ (by have:=b3.next;omega)];exact gh
      have p3:A.load true 4 (.pointer (some ⟨h.next,28,none⟩)) c=some (.agg ⟨aG z.2.2.msg⟩):=by rw[aI,l3];rfl
      have s3:=jB Y g7;obtain⟨h8,i3,x8⟩:=V37 Y mk s.1 true c;have v4:=O.next;have b4:h8.get h.next=some (.cells (nzC z) (some 0)):=by rw[x8.get _ (by have:=b3.next;omega)];exact l3
      have N:A.load true 4 (.pointer (some ⟨h.next,28,none⟩)) h8=some (.agg ⟨aG z.2.2.msg⟩):=by rw[aI,b4];rfl
      have e3:AM.chk (some (.agg ⟨aG z.2.2.msg⟩)) (.agg ⟨aG z.2.2.msg⟩)=true:=eG rfl (aDb _);have B:=bEs z.2.2.msg (cK mk s.1 true);rw[show uG (some mk) z.2.2.msg s.1=decide (z.2.2.msg=cK mk s.1 true)from rfl]
      cases hq:decide (z.2.2.msg=cK mk s.1 true)with
      |true=>
       rw[hq]at B;refine⟨h8,(U.trans O).trans x8,?_⟩;rw[tL,kM rfl];simp only[aQu,aWr,bDc,bHa,qS,cG,hd,eb,sR,p3,s3,i3,N,e3,dB,B]
      |false=>
       rw[hq]at B;obtain⟨f,xh,en⟩:=ih (j+1) m h8 kr kx t3 (by omega) (by omega) ((U.trans O).trans x8);refine⟨f,xh,?_⟩;rw[mZ,←en];simp only[aQu,aWr,bDc,bHa,bGz,qS,cG,hd,eb,sR,p3,s3,i3,N,e3,dB,B,w2]
   obtain⟨f,xh,el⟩:=lp (d+1-a) a (d+1-a+1) h4 (fun x6 h=>some (x6,h)) (fun h=>cHd h fun x6 h=>some (x6,h)) (d+1-a+1) rfl (by omega) (Ext.refl h4);refine⟨f,qq (d+1-a+1) _ _ ?_,(x2.trans C).trans xh⟩;simp only[F20,aTh,al,bDh,g1,bCf,qS,bQg,j3,sR,I,y,ck,dB,g,ex2,bSv,cHe,el];cases(List.range' a (d+1-a)).any fun k=>uG (fY (S k).kept z.2.2.msg.topic) z.2.2.msg s.1<;>rfl
end
section
variable {D:CF}(Y:KD D)
include Y
omit Y in
def EnvD.atx (y:EnvD h v x L n S){j:Nat}(r:j≤n):∃o q p,A.zB 1 x (iN (j:Int))=some (.pointer (some ⟨q,o,none⟩))∧(∀d,Ext h d→A.load false 1 (.pointer (some ⟨q,o,none⟩)) d=some (aA p))∧StD h p (S j):=by
 obtain⟨s,a,b,c⟩:=y.sts;obtain⟨p,i⟩:∃p,s[j]?=some p:=⟨_,kZ (by omega)⟩;have m:(aMi s)[j]?=some [aA p]:=by rw[pL,i];rfl
 obtain⟨id,f,cells,own,e,l,k,_,_,g⟩:=a.at m .i64;exact⟨f,id,p,e,fun d q=>by rw[qK,q.get id l,k];have:=g 0 (by omega);rwa [sS]at this,c j p i⟩
def bAi (E:EnvD h v x L n S){j:Nat}(g:j≤n)(c t:Bs):∃o q p b,A.zB 1 x (iN (j:Int))=some (.pointer (some ⟨q,o,none⟩))∧A.load false 1 (.pointer (some ⟨q,o,none⟩)) h=some (aA p)∧
 CI D 36 [aA p,str c,str t] h=some (.tuple ⟨[iU ((bD iV (S j) c t).1:Int),.bool (bD iV (S j) c t).2]⟩,b)∧Ext h b:=by
 obtain⟨o,q,p,d,f,k,Z,m,a,s,i,l⟩:=E.at g;obtain⟨h3,e,r⟩:=V36 Y m (by omega) l c t;have M:iW Z (S j).kept=S j:=by
  show MD.mk (Z.map (·.1)) (S j).kept=S j;rw[a]
 rw[M]at e;exact⟨o,q,p,h3,d,f,e,r⟩
def V21 (E:EnvD h v x L n S)(hi:i<n):∃d,CI D 21 [v,x,iN (i:Int)] h=some (.bool (aGg (lsN L) S iV i),d)∧Ext h d:=by
 have hle:=E.le;have q3:=E.l.len;obtain⟨z,hz⟩:∃z,L[i]?=some z:=⟨_,kZ (by omega)⟩;have hn:=lG hz;obtain⟨y3,q,ei,_,lc,_⟩:=E.l.at hz;have f1:=lc h (Ext.refl h) 1 (iN z.2.2.op) rfl (by omega);have g:CI D 18 [v,iN 0,iN (i:Int),iU 4,iN z.2.2.op,iU 0] h=_:=V18 Y E.l (a:=0) (b:=i) (by omega) 4 z.2.2.op 0;have qq:=fun o3 r d=>cDo o3 v x (iN (i:Int)) h (r:=(r,d)) (Y.no 21 _ _ (by decide));unfold aGg;rw[hn]
 cases hf:bK (lsN L) 0 i 4 z.2.2.op 0 with
 |none=>
  rw[hf]at g;refine⟨h,qq 0 _ _ ?_,Ext.refl h⟩;simp only[F21,aXz,bGy,qS,ei,f1,g,(iQ _).1];rfl
 |some r=>
  rw[hf]at g;obtain⟨_,hr,_⟩:=fst_some.1 hf
  dsimp only
  obtain⟨M,e3⟩:∃z,L[r]?=some z:=⟨_,kZ (by omega)⟩;have j3:=lG e3;rw[j3];have J:CI D 18 [v,iN (r:Int),iN (i:Int),iU 3,iN z.2.2.op,iU 0] h=_:=V18 Y E.l (a:=r) (b:=i) (by omega) 3 z.2.2.op 0;have d0:decide ((r:Int)<0)=false:=kO (by omega)
  cases hs:(bK (lsN L) r i 3 z.2.2.op 0).isSome with
  |true=>
   rw[kM rfl];refine⟨h,qq 0 _ _ ?_,Ext.refl h⟩;simp only[F21,aXz,bGy,qS,ei,f1,g,zZ,d0,J,(iQ _).2,hs]
  |false=>
  rw[kL (by simp)];obtain⟨v3,qr,a3,_,l3,_⟩:=E.l.at e3;obtain⟨u3,_,_,W,lS,kS,Z,md,i3,hZ,_,z3⟩:=E.atx (j:=r) (by omega);have hL:(S r).L=Z.map (·.1):=i3.symm;have N:∀(c:Bs) (R j m:Nat) (e:H) (b:Bool) (k:Nat) (f:Pk.K7 (kA×H)) (o3:Nat),i+1-j=R→R<m→Ext h e→∃d,Ext h d∧aSq (CI D) o3 f m (iN (j:Int)) (.bool b) (str c) (iN (k:Int)) (iN (i:Int)) (iN (r:Int)) v x e=
   f (.bool (b&&(List.range' j R).all fun j=>(bD iV (S j) c M.2.2.msg.topic).2)) (str c) (iN (k:Int)) (iN (i:Int)) (iN (r:Int)) v x d:=by
   intro c R
   induction R with
   |zero=>
    intro j m e b k f o3 hj hm B;obtain⟨m,rfl⟩:=pS m (by omega);have K:decide ((j:Int)≤(i:Int))=false:=kO (by omega);refine⟨e,B,?_⟩;simp only[aSq,bCe,qS,cG,K];cases b<;>rfl
   |succ R ih=>
    intro j m e b k f o3 hj hm B;obtain⟨m,rfl⟩:=pS m (by omega);have K:decide ((j:Int)≤(i:Int))=true:=kN (by omega);have w2:=gQ (i:=j) (by omega);have f3:=l3 e B 28 (str M.2.2.msg.topic) rfl (by omega);obtain⟨s3,q1,p1,h2,V,l1,U,o⟩:=bAi Y (E.ext B) (j:=j) (by omega) c M.2.2.msg.topic;obtain⟨d,Q,en⟩:=ih (j+1) m h2 (b&&(bD iV (S j) c M.2.2.msg.topic).2) k f o3 (by omega) (by omega) (B.trans o);refine⟨d,Q,?_⟩;rw[nJ,dQ,←Bool.and_assoc,←en]
    cases b with
    |true=>simp only[aSq,bCe,bHy,bQe,bQd,bGw,qS,cG,K,V,l1,a3,f3,sS,U,ex2,w2,mF]
    |false=>simp only[aSq,bCe,bHy,bQe,bQd,bGw,qS,cG,K,V,l1,a3,f3,sS,U,ex2,w2,mG]
  have O:∀(R k m:Nat) (e:H) (p:Pk.K1 (kA×H)) (f:Pk.K0 (kA×H)),Z.length-k=R→R<m→k≤Z.length→Ext h e→∃d,Ext h d∧aKf (CI D) (i+Z.length+5) p f m (iN (k:Int)) (iN (i:Int)) (iN (r:Int)) v x e=
   if(((Z.drop k).map (·.1)).all fun s=>!((List.range' r (i+1-r)).all fun j=>(bD iV (S j) s.client M.2.2.msg.topic).2)||bS (lsN L) r i s.client)=true then f d else p (.bool false) d:=by
   intro R
   induction R with
   |zero=>
    intro k m e p f hj hm hk B;obtain⟨m,rfl⟩:=pS m (by omega);obtain⟨a4,w,b1,b2,_⟩:=(md.ext B).box;have ln:A.zE a4=some (iN (Z.length:Int)):=by have:=b2.len;rwa [eB,pO]at this
    have K:decide ((k:Int)<(Z.length:Int))=false:=kO (by omega);refine⟨e,B,?_⟩;rw[pZ (by omega)];simp only[aKf,bGx,qS,W,lS e B,sR,(aR b1).1,ln,zZ,K];rfl
   |succ R ih=>
    intro k m e p f hj hm hk B;obtain⟨m,rfl⟩:=pS m (by omega);obtain⟨a4,w,b1,b2,_⟩:=(md.ext B).box;have ln:A.zE a4=some (iN (Z.length:Int)):=by have:=b2.len;rwa [eB,pO]at this
    have K:decide ((k:Int)<(Z.length:Int))=true:=kN (by omega);obtain⟨P,d3⟩:∃y,Z[k]?=some y:=⟨_,kZ (by omega)⟩;obtain⟨t3,q2,g3,_,k3,_⟩:=lD b2.slice d3;have w2:=gQ (i:=k) (by omega);obtain⟨h3,x3,X⟩:=N P.1.client (i+1-r) r (i+Z.length+5) e true k (fun n3 m3 I o G u C h=>aWq (CI D) h u C o G I m3 n3 p fun I o G u C h=>aWp h u C o G I fun I o G u C h=>aKf (CI D) (i+Z.length+5) p f m I o G u C h) (i+Z.length+5) rfl (by omega) B;rw[mF]at X;have t:=V35 Y (E.ext x3).l (r:=r) (b:=i) (by omega) (by omega) P.1.client;obtain⟨d,Q,en⟩:=ih (k+1) m h3 p f (by omega) (by omega) (by omega) x3;have st:aKf (CI D) (i+Z.length+5) p f (m+1) (iN (k:Int)) (iN (i:Int)) (iN (r:Int)) v x e=aWq (CI D) h3 v x (iN (i:Int)) (iN (r:Int)) (iN (k:Int)) (str P.1.client) (.bool ((List.range' r (i+1-r)).all fun j=>(bD iV (S j) P.1.client M.2.2.msg.topic).2)) p fun I o G u C h=>aWp h u C o G I fun I o G u C h=>aKf (CI D) (i+Z.length+5) p f m I o G u C h:=by
     rw[←X];simp only[aKf,bGx,bIz,cHb,bSr,cHa,qS,W,lS e B,(aR b1).1,ln,zZ,K,g3,sS,k3]
    rw[st,aU d3,mH,dQ]
    cases p3:(List.range' r (i+1-r)).all fun j=>(bD iV (S j) P.1.client M.2.2.msg.topic).2 with
    |false=>
     refine⟨d,Q,?_⟩;rw[show(!false||bS (lsN L) r i P.1.client)=true from rfl,mF,←en];simp only[aWq,aWp,qS,w2]
    |true=>
     cases b3:bS (lsN L) r i P.1.client with
     |true=>
      rw[b3]at t;refine⟨d,Q,?_⟩;rw[show(!true||true)=true from rfl,mF,←en];simp only[aWq,aWp,qS,t,w2]
     |false=>
      rw[b3]at t;refine⟨h3,x3,?_⟩;rw[show(!true||false)=false from rfl,mG,kL (by simp)];simp only[aWq,qS,t]
  obtain⟨d,Q,eo⟩:=O Z.length 0 (i+Z.length+5) h (fun x6 h=>some (x6,h)) (fun h=>cGz h fun x6 h=>some (x6,h)) rfl (by omega) (sE _) (Ext.refl h);have eo:aKf (CI D) _ _ _ _ (iN 0) _ _ v x h=_:=eo;rw[mI]at eo;refine⟨d,qq (i+Z.length+5) _ _ ?_,Q⟩;simp only[F21,aXz,bGy,qS,ei,f1,g,zZ,d0,J,(iQ _).2,hs,bTc,cHc,eo,hL];cases(Z.map (·.1)).all fun s=>!((List.range' r (i+1-r)).all fun j=>(bD iV (S j) s.client M.2.2.msg.topic).2)||bS (lsN L) r i s.client<;>rfl
end
section
variable {D:CF}(Y:KD D)
include Y
def V22 (E:EnvD h v x L n S)(R:aRc (lsN L) S iI jM n)(hi:i<n):∃B,CI D 22 [v,x,iN (i:Int)] h=some (.bool (aCm (lsN L) S iI jM iV i),B)∧Ext h B:=by
 have hle:=E.le;have l4:=E.l.len;obtain⟨z,hz⟩:∃z,L[i]?=some z:=⟨_,kZ (by omega)⟩;have hn:=lG hz;obtain⟨t4,q,ei,_,lc,_⟩:=E.l.at hz;have f1:=lc h (Ext.refl h) 1 (iN z.2.2.op) rfl (by omega);have G:=V38 Y E.l (b:=i) (by omega) z.2.2.op;have qq:=fun k4 r B=>cDn k4 v x (iN (i:Int)) h (r:=(r,B)) (Y.no 22 _ _ (by decide));unfold aCm;rw[hn]
 cases hf:gT (lsN L) i z.2.2.op with
 |none=>
  rw[hf]at G;have dm:decide ((-1:Int)<0)=true:=by decide
  refine⟨h,qq 0 _ _ ?_,Ext.refl h⟩;simp only[F22,aXy,bHr,qS,ei,f1,G,ex2,zZ,dm]
 |some ad=>
  obtain⟨a,d⟩:=ad;rw[hf]at G;obtain⟨p4,q4,hk,ht⟩:=aEc hf
  dsimp only at G⊢
  have a3:CI D 18 [v,iN (d:Int),iN (i:Int),iU 3,iN z.2.2.op,iU 0] h=_:=V18 Y E.l (a:=d) (b:=i) (by omega) 3 z.2.2.op 0;have d0:decide ((d:Int)<0)=false:=kO (by omega)
  cases hs:(bK (lsN L) d i 3 z.2.2.op 0).isSome with
  |true=>
   rw[kM rfl];refine⟨h,qq 0 _ _ ?_,Ext.refl h⟩;simp only[F22,aXy,bHr,qS,ei,f1,G,ex2,zZ,d0,a3,(iQ _).2,hs]
  |false=>
  rw[kL (by simp)];obtain⟨zd,p3⟩:∃z,L[d]?=some z:=⟨_,kZ (by omega)⟩;have f3:=lG p3;rw[f3]at hk ht;obtain⟨ps,ss,s4,f4⟩:=E.sts;obtain⟨pd,o3⟩:∃p,ps[d]?=some p:=⟨_,kZ (by omega)⟩;obtain⟨ap,n3⟩:=aAm R (d:=d) (by omega) (by rw[f3];exact hk);rw[f3]at n3;obtain⟨h2,l,v4,v3,yl,u,i3⟩:=V40 Y E.l ss o3 (f4 d pd o3) p3 hk ht n3;obtain⟨fr,z3⟩:=eX (cH (lsN L) S iI jM d);rw[←z3]at yl i3⊢;have E2:=E.ext u;obtain⟨m4,_,_,y3,lS,kS,Z,md,o4,_,a4,_⟩:=E2.atx (j:=a) (by omega);obtain⟨v0,w0,b1,_,w,_⟩:=md.box;obtain⟨s,b4⟩:=eX ((S a).kept);rw[←b4]at w a4⊢;have g3:∀(t:Bs) (k:Nat) (o:Msg),s[k]?=some o→o.topic=t→∀(k3 j m:Nat) (g:H) (b tk:Bool) (C:Pk.K10 (kA×H)) (k4:Nat),d-j=k3→k3<m→Ext h2 g→aQt (CI D) k4 C m (iN (j:Int)) (.bool tk) (.bool b) (iN (k:Int)) w0 (iN z.2.2.op) (iN (i:Int)) v (iN (d:Int)) (iN (a:Int)) (aA l) g=
   C (.bool tk) (.bool (b&&(List.range' j k3).all fun j=>!decide ((nt (lsN L) j).kind=5∧(nt (lsN L) j).msg.topic=t))) (iN (k:Int)) w0 (iN z.2.2.op) (iN (i:Int)) v (iN (d:Int)) (iN (a:Int)) (aA l) g:=by
   intro t k o I d4 k3
   induction k3 with
   |zero=>
    intro j m g b tk C k4 hj hm O;obtain⟨m,rfl⟩:=pS m (by omega);have X:decide ((j:Int)<(d:Int))=false:=kO (by omega);simp only[aQt,aWo,qS,zZ,X];cases b<;>rfl
   |succ k3 ih=>
    intro j m g b tk C k4 hj hm O;obtain⟨m,rfl⟩:=pS m (by omega);have X:decide ((j:Int)<(d:Int))=true:=kN (by omega);have w2:=gQ (i:=j) (by omega);obtain⟨y,hy⟩:∃z,L[j]?=some z:=⟨_,kZ (by omega)⟩;have e4:=lG hy;obtain⟨n4,qy,m3,_,s3,_⟩:=(E2.ext O).l.at hy;have y0:=s3 g (Ext.refl g) 0 (iU (y.2.2.kind:Int)) rfl (by omega);have j4:=s3 g (Ext.refl g) 28 (str y.2.2.msg.topic) rfl (by omega);rw[sS]at y0;obtain⟨u3,qk,e3,_,lk⟩:=tU (w.ext O).row.slice I;rw[d4]at lk;have d5:decide ((y.2.2.kind:Int)=5)=decide (y.2.2.kind=5):=mK.2 (by omega);have s1:=bX y.2.2.msg.topic t;have en:=ih (j+1) m g (b&&!decide (y.2.2.kind=5∧y.2.2.msg.topic=t)) tk C k4 (by omega) (by omega) O;have hD:decide (y.2.2.kind=5∧y.2.2.msg.topic=t)=(decide (y.2.2.kind=5)&&decide (y.2.2.msg.topic=t)):=by simp
    rw[nJ,dQ,←Bool.and_assoc,e4,←en,hD]
    cases b with
    |false=>simp only[aQt,aWo,bCd,bCc,qS,zZ,X,w2,mG]
    |true=>
     cases q1:decide (y.2.2.kind=5)with
     |false=>rw[q1]at d5;simp only[aQt,aWo,bCd,bCc,qS,zZ,X,w2,m3,sS,y0,zQ,d5,mG,Bool.and_self]
     |true=>
      rw[q1]at d5;simp only[aQt,aWo,bCd,bCc,qS,zZ,X,w2,m3,sS,y0,zQ,d5,j4,e3,lk,s1,mF]
  have j3:∀(k3 k m:Nat) (g:H) (V:Pk.K1 (kA×H)) (C:Pk.K0 (kA×H)),s.length-k=k3→k3<m→k≤s.length→Ext h2 g→∃B,Ext h2 B∧aKe (CI D) (d+s.length+5) V C m (iN (k:Int)) w0 (iN z.2.2.op) (iN (i:Int)) v (iN (d:Int)) (iN (a:Int)) (aA l) g=
   if((s.drop k).all fun m=>!((cN iV fr m.topic).2&&(List.range' a (d-a)).all (fun j=>!decide ((nt (lsN L) j).kind=5∧(nt (lsN L) j).msg.topic=m.topic))&&!fI (lsN L) i z.2.2.op m.topic true))=true then C B else V (.bool false) B:=by
   intro k3
   induction k3 with
   |zero=>
    intro k m g V C hj hm hk O;obtain⟨m,rfl⟩:=pS m (by omega);have ln:=(w.ext O).len;have X:decide ((k:Int)<(s.length:Int))=false:=kO (by omega);refine⟨g,O,?_⟩;rw[pZ (by omega)];simp only[aKe,bGv,qS,ln,zZ,X];rfl
   |succ k3 ih=>
    intro k m g V C hj hm hk O;obtain⟨m,rfl⟩:=pS m (by omega);have ln:=(w.ext O).len;have X:decide ((k:Int)<(s.length:Int))=true:=kN (by omega);obtain⟨o,I⟩:∃y,s[k]?=some y:=⟨_,kZ (by omega)⟩;obtain⟨u3,qk,e3,_,lk⟩:=tU (w.ext O).row.slice I;have w2:=gQ (i:=k) (by omega);obtain⟨h3,d3,x3⟩:=V41 Y (yl.ext O) (by have:=i3.1;omega) i3.2 o.topic;have d3:CI D 41 [aA l,str o.topic] g=some (.tuple ⟨[iU ((cN iV fr o.topic).1:Int),.bool (cN iV fr o.topic).2]⟩,h3):=d3;have P:=O.trans x3;obtain⟨same,Q⟩:=eX ((List.range' a (d-a)).all fun j=>!decide ((nt (lsN L) j).kind=5∧(nt (lsN L) j).msg.topic=o.topic));have l3:=g3 o.topic k o I rfl (d-a) a (d+s.length+5) h3 true (cN iV fr o.topic).2 (fun h4 i4 f e K u J N M c h=>aSa (CI D) h J u K M N c e f h4 i4 fun U f e K u J N M c h=>aRz h J u K M N c e f U V fun f e K u J N M c h=>aRy h J u K M N c e f fun f e K u J N M c h=>aKe (CI D) (d+s.length+5) V C m f e K u J N M c h) (d+s.length+5) rfl (by omega) P;rw[mF,←Q]at l3;obtain⟨g4,u4,b3,_,t3⟩:=tU (w.ext P).row.slice I;have W:=V39 Y (E2.ext P).l (b:=i) (by omega) z.2.2.op o.topic true
    have st:aKe (CI D) (d+s.length+5) V C (m+1) (iN (k:Int)) w0 (iN z.2.2.op) (iN (i:Int)) v (iN (d:Int)) (iN (a:Int)) (aA l) g=aSa (CI D) h3 v (iN (i:Int)) (iN z.2.2.op) (iN (a:Int)) (iN (d:Int)) (aA l) w0 (iN (k:Int)) (.bool (cN iV fr o.topic).2) (.bool same) fun U f e K u J N M c h=>aRz h J u K M N c e f U V fun f e K u J N M c h=>aRy h J u K M N c e f fun f e K u J N M c h=>aKe (CI D) (d+s.length+5) V C m f e K u J N M c h:=by
     rw[←l3];simp only[aKe,bGv,bJa,cGx,bSn,cGw,qS,ln,zZ,X,e3,sS,lk,d3,ex2]
    obtain⟨B,xh,en⟩:=ih (k+1) m h3 V C (by omega) (by omega) (by omega) P;rw[st,aU I,dQ,←Q]
    cases q1:(cN iV fr o.topic).2 with
    |false=>
     refine⟨B,xh,?_⟩;rw[show(!(false&&same&&!fI (lsN L) i z.2.2.op o.topic true))=true from rfl,mF,←en];simp only[aSa,aRz,aRy,qS,w2]
    |true=>
     cases q2:same with
     |false=>
      refine⟨B,xh,?_⟩;rw[show(!(true&&false&&!fI (lsN L) i z.2.2.op o.topic true))=true from rfl,mF,←en];simp only[aSa,aRz,aRy,qS,w2]
     |true=>
      cases q3:fI (lsN L) i z.2.2.op o.topic true with
      |true=>
       rw[q3]at W;refine⟨B,xh,?_⟩;rw[show(!(true&&true&&!true))=true from rfl,mF,←en];simp only[aSa,aRz,aRy,qS,b3,sS,t3,W,w2]
      |false=>
       rw[q3]at W;refine⟨h3,P,?_⟩;rw[show(!(true&&true&&!false))=false from rfl,mG,kL (by simp)];simp only[aSa,aRz,qS,b3,sS,t3,W]
  obtain⟨B,xh,eo⟩:=j3 s.length 0 (d+s.length+5) h2 (fun x6 h=>some (x6,h)) (fun h=>cJh h fun x6 h=>some (x6,h)) rfl (by omega) (sE _) (Ext.refl h2);have eo:aKe (CI D) _ _ _ _ (iN 0) _ _ _ _ _ _ _ h2=_:=eo;rw[mI]at eo;refine⟨B,qq (d+s.length+5) _ _ ?_,u.trans xh⟩;simp only[F22,aXy,bHr,qS,ei,f1,G,ex2,zZ,d0,a3,(iQ _).2,hs,cJb,v3,y3,lS h2 (Ext.refl h2),sR,(aR b1).2,w.load,bTd,cGy,eo];cases s.all fun m=>!((cN iV fr m.topic).2&&(List.range' a (d-a)).all (fun j=>!decide ((nt (lsN L) j).kind=5∧(nt (lsN L) j).msg.topic=m.topic))&&!fI (lsN L) i z.2.2.op m.topic true)<;>rfl
end
section
variable {D:CF}(k:KD D)
include k
def cLo {c:kA}(E:EnvD h x c L n S)(R:aRc (lsN L) S iI jM n)(I:i<n)(V:L[i]?=some z){l:Nat}(g:h.get l=some (.cells (nzC z) (some 0))):
 ∃O,Ext h O∧∀a:Pk.K5 (kA×H),aHy (CI D) h x c (iN (n:Int)) (iN (i:Int)) (aA l) (.bool true) (.bool (bK (lsN L) 0 i 4 z.2.2.op 0).isSome) a=a (.bool (okD (lsN L) S iI jM iV i)) (iN (i:Int)) c (iN (n:Int)) x O:=by
 have U:=lG V;have f:=ldC g 0 (v:=iU (z.2.2.kind:Int)) rfl;have N:=ldC g 1 (v:=iN z.2.2.op) rfl;unfold okD;rw[U];obtain⟨C,B⟩:=eX ((bK (lsN L) 0 i 4 z.2.2.op 0).isSome);have p:(bK (lsN L) 0 i 4 z.2.2.op 0).isNone=!C:=by rw[B];cases bK (lsN L) 0 i 4 z.2.2.op 0<;>rfl
 rw[p,←B];by_cases c4:z.2.2.kind=4
 ·have j:decide ((z.2.2.kind:Int)=4)=true:=kN (by omega);rw[kM c4];refine⟨h,Ext.refl h,fun a=>?_⟩
  cases M:decide (1≤z.2.2.op)with
  |true=>simp only[aHy,aKa,bOb,qS,sR,f,zQ,j,N,bF,M,mF]
  |false=>simp only[aHy,aKa,bOb,qS,sR,f,zQ,j,N,bF,M,mG]
 have j:decide ((z.2.2.kind:Int)=4)=false:=kO (by omega);rw[kL c4];by_cases b:z.2.2.kind=6∨z.2.2.kind=7∧C=true
 ·rw[kM b];obtain⟨w,t,q⟩:=V19 k E I;refine⟨w,q,fun a=>?_⟩;by_cases c6:z.2.2.kind=6
  ·have r:decide ((z.2.2.kind:Int)=6)=true:=kN (by omega);simp only[aHy,aKa,aVt,bOc,qS,sR,f,zQ,j,r,t]
  ·have r:decide ((z.2.2.kind:Int)=6)=false:=kO (by omega);obtain⟨K,y⟩:=b.resolve_left c6;have d:decide ((z.2.2.kind:Int)=7)=true:=kN (by omega);rw[y];simp only[aHy,aKa,aVt,bOc,qS,sR,f,zQ,j,r,d,t]
 rw[kL b];have c6:¬z.2.2.kind=6:=fun h=>b (.inl h);have r:decide ((z.2.2.kind:Int)=6)=false:=kO (by omega);have e:∀a:Pk.K7 (kA×H),aVt h x c (iN (n:Int)) (iN (i:Int)) (aA l) (.bool true) (.bool C) a=a (.bool false) (aA l) (.bool true) (iN (i:Int)) c (iN (n:Int)) x h:=fun a=>by
  by_cases K:z.2.2.kind=7
  ·have d:decide ((z.2.2.kind:Int)=7)=true:=kN (by omega);have y:C=false:=by cases y:C;rfl;exact dC (.inr ⟨K,y⟩) b
   rw[y];simp only[aVt,qS,sR,f,zQ,r,d]
  ·have d:decide ((z.2.2.kind:Int)=7)=false:=kO (by omega);simp only[aVt,qS,sR,f,zQ,r,d]
 by_cases s:z.2.2.kind=8∨z.2.2.kind=7
 ·rw[kM s];obtain⟨w,u,q⟩:=V20 k E R I;refine⟨w,q,fun a=>?_⟩;by_cases c8:z.2.2.kind=8
  ·have o:decide ((z.2.2.kind:Int)=8)=true:=kN (by omega);simp only[aHy,aKa,e,aVs,aVr,qS,sR,f,zQ,j,o,u]
  ·have o:decide ((z.2.2.kind:Int)=8)=false:=kO (by omega);have d:decide ((z.2.2.kind:Int)=7)=true:=kN (by omega);simp only[aHy,aKa,e,aVs,aVr,qS,sR,f,zQ,j,o,d,u]
 rw[kL s];have o:decide ((z.2.2.kind:Int)=8)=false:=kO (by omega);have d:decide ((z.2.2.kind:Int)=7)=false:=kO (by omega);by_cases c3:z.2.2.kind=3
 ·rw[kM c3];have G:decide ((z.2.2.kind:Int)=3)=true:=kN (by omega);obtain⟨w,m,q⟩:=V21 k E I;obtain⟨Q,J,W⟩:=V22 k (E.ext q) R I
  cases P:aGg (lsN L) S iV i with
  |false=>
   rw[P]at m;refine⟨w,q,fun a=>?_⟩;simp only[aHy,aKa,e,aVs,aVr,qS,sR,f,zQ,j,o,d,G,m,mG]
  |true=>
   rw[P]at m;refine⟨Q,q.trans W,fun a=>?_⟩;simp only[aHy,aKa,e,aVs,aVr,qS,sR,f,zQ,j,o,d,G,m,J,mF]
 ·rw[kL c3];have G:decide ((z.2.2.kind:Int)=3)=false:=kO (by omega);refine⟨h,Ext.refl h,fun a=>?_⟩;simp only[aHy,aKa,e,aVs,aVr,qS,sR,f,zQ,j,o,d,G]
def V7 (s:LsD h x L):∃d e,CI D 7 [x] h=some (.tuple ⟨[iN ((bTy (lsN L) (lY (lsN L)) iI jM iV e).1:Int),.bool (bTy (lsN L) (lY (lsN L)) iI jM iV e).2]⟩,d)∧Ext h d∧aRc (lsN L) (lY (lsN L)) iI jM e:=by
 obtain⟨g,G,e,w,p⟩:=V17 k s;have L1:=s.ext p.ext;have hle:e≤L.length:=by have:=p.runs.le;rwa [pO]at this
 have R:=s.len;have E:EnvD g x G L e (lY (lsN L)):=⟨L1,hle,p.sts⟩;have lp:∀(n i m:Nat) (c:H),e-i=n→i≤e→n<m→Ext g c→∃d,Ext g d∧aQk (CI D) (e+1) (fun I f h=>some (Value.tuple ⟨[I,f]⟩,h)) (fun x5 x0 h=>bTf h x0 x5 fun I f h=>some (Value.tuple ⟨[I,f]⟩,h)) m (iN (i:Int)) G (iN (e:Int)) x c=
  some (.tuple ⟨[iN ((aNe (lsN L) (lY (lsN L)) iI jM iV e i n).1:Int),.bool (aNe (lsN L) (lY (lsN L)) iI jM iV e i n).2]⟩,d):=by
  intro n
  induction n with
  |zero=>
   intro i m c X C Y B;obtain⟨m,rfl⟩:=pS m (by omega);have u:decide ((i:Int)<(e:Int))=false:=kO (by omega);have V:decide ((e:Int)=(L.length:Int))=decide (e=(lsN L).length):=by rw[pO];exact mK.2 (by omega)
   refine⟨c,B,?_⟩;simp only[aQk,bAu,bTf,qS,zZ,u,s.ln,zQ,V,aNe]
  |succ n Z=>
   intro i m c X C Y B;obtain⟨m,rfl⟩:=pS m (by omega);have u:decide ((i:Int)<(e:Int))=true:=kN (by omega);have w2:=gQ (i:=i) (by omega);have Eh:=E.ext B;obtain⟨z,S⟩:∃z,L[i]?=some z:=⟨_,kZ (by omega)⟩;obtain⟨a3,q,N,r,lc,_⟩:=Eh.l.at S;obtain⟨h2,h3,K,M,P,f,n3⟩:=aYv z c;have O:=ldC P 1 (v:=iN z.2.2.op) rfl;have j:CI D 18 [x,iN 0,iN (i:Int),iU 4,iN z.2.2.op,iU 0] h3=_:=V18 k (Eh.ext f).l (a:=0) (b:=i) (by omega) 4 z.2.2.op 0;obtain⟨Q,U,t⟩:=cLo k (Eh.ext f) p.runs (i:=i) (by omega) S P;simp only[aNe]
   cases o:okD (lsN L) (lY (lsN L)) iI jM iV i with
   |false=>
    rw[o]at t;refine⟨Q,(B.trans f).trans U,?_⟩;simp only[aQk,bAu,bJb,bOd,bOa,qS,zZ,u,N,r c (Ext.refl c),K,M,sR,O,j,(iQ _).2,t];rfl
   |true=>
    rw[o]at t;obtain⟨d,J,W⟩:=Z (i+1) m Q (by omega) (by omega) (by omega) ((B.trans f).trans U);refine⟨d,J,?_⟩;rw[kM rfl,←W];simp only[aQk,bAu,bJb,bOd,bOa,bNz,qS,zZ,u,N,r c (Ext.refl c),K,M,sR,O,j,(iQ _).2,t,w2]
 obtain⟨d,J,y⟩:=lp e 0 (e+1) g rfl (sE _) (by omega) (Ext.refl g);have y:aQk (CI D) _ _ _ _ (iN 0) G _ x g=_:=y;refine⟨d,e,cNu (e+1) _ h (k.no 7 _ _ (by decide)) ?_,p.ext.trans J,p.runs⟩;simp only[F7,p7a,cJk,w,qS,ex2,bTe,cEq,y];rfl
end
def aNo:kB (kA×H)→Bool
 |some (.bool b,_)=>b
 |_=>false
noncomputable def bEf (D1:CF)(a:H)(s:Bs):Bool:=aNo (CI D1 65 [str s] a)
noncomputable def bEd (D1:CF)(a:H)(s:Bs):Bool:=aNo (CI D1 91 [str s] a)
noncomputable def bAn (D1:CF)(a:H)(f n:Bs):Bool:=aNo (CI D1 72 [str f,str n] a)
def pF (f:kI):Bool:=[65,91,72].any (Nat.beq f)
def D5:CF:=fun f a h=>bif Nat.beq f 5 then(match a with|[]=>some (.bool true,h)|_=>none)else none
noncomputable def DD (D1 Dx:CF)(a:H):CF:=orD D5 (orD (tO pF (CI D1) a) Dx)
def aYx {D1:CF}(x:∀Q a h,Q≠99→Q≠68→Dx Q a h=none){Q:kI}(a:kC kA)(h:H)(h1:Nat.beq Q 5=false)(b:pF Q=false)(h3:Q≠99)(c:Q≠68):DD D1 Dx j Q a h=none:=by
 unfold DD orD D5;rw[h1,sW];simp only;have:tO pF (CI D1) j Q a h=none:=by
  unfold tO;rw[kL];rintro⟨h,_⟩;rw[b]at h;cases h
 rw[this];exact x Q a h h3 c
def aFq {D1:CF}{Q:kI}{h1:H}(b:Nat.beq Q 5=false)(c:pF Q=true)(d:eU a=true)(t:HasT j h)(f:aJ v=true)(e:CI D1 Q a j=some (v,h1)):DD D1 Dx j Q a h=some (v,h):=by
 unfold DD orD D5;rw[b,sW];simp only;rw[aIt c d t f e]
def cKt {D1:CF}{Q:kI}(c:Nat.beq Q 5=false)(b:pF Q=false):DD D1 Dx j Q a h=Dx Q a h:=by
 unfold DD orD D5;rw[c,sW];simp only;have:tO pF (CI D1) j Q a h=none:=by
  unfold tO;rw[kL];rintro⟨h,_⟩;rw[b]at h;cases h
 rw[this]
def cLs {D1:CF}{w:kC kG→Bool}(g:K1 D1 h w)(z:∀f c b,f≠99→f≠68→Dx f c b=none)(N:∀b m (l:kC (Bs×kA)) box,b.get box=some (.cells [aV m] (some 0))→box<b.next→m<b.next→MapR b m cC l→l.length≤2^40→(∀x∈l,x.1.length≤maxLen)→∃a v,Dx 99 [.func (.func 120) ⟨[]⟩ ⟨[aA box]⟩] b=some (v,a)∧SliceE 1 a v ((uZ (l.map (·.1))).map fun k=>[str k])∧Ext b a∧∀i,sid v=some i→b.next≤i)(M:∀b v (d:kC (Bs×Bs)),Vec 2 b v (bR d)→d.length≤2^41→∃a u,Dx 68 [v,.func (.func 69) ⟨[]⟩ ⟨[]⟩] b=some (u,a)∧SliceE 2 a v (bR (d.mergeSort hle))∧ExtBut (fun i=>sid v=some i) b a):
 K4 (DD D1 Dx h) h (bEf D1 h) (bEd D1 h) (bAn D1 h):=by
 have q:HasT h h:=fun _ _ b=>b;have y:3≤h.next:=by rw[g.tab.next];exact kQ _
 refine⟨⟨⟨fun b s t=>?_,fun b s t=>?_,fun b f n t=>?_,fun f c b L=>?_,g.tab⟩,fun b m l box o p G I J K=>?_,fun id O b=>aYx z _ _ (by decide) (by decide) (by decide) (by decide)⟩,fun b v d o p=>?_⟩
 ·obtain⟨a,e,_⟩:=N40 g q y s;refine aFq (by decide) (by decide) rfl t rfl (h1:=a) ?_;rw[e];unfold bEf;rw[e];rfl
 ·have e:=N61 g q s;refine aFq (by decide) (by decide) rfl t rfl (h1:=h) ?_;rw[e];unfold bEd;rw[e];rfl
 ·obtain⟨a,e,_⟩:=N47 g q y f n;refine aFq (by decide) (by decide) rfl t rfl (h1:=a) ?_;rw[e];unfold bAn;rw[e];rfl
 ·have j:∀f∈[4,6,8,15,16,23,24,25,26,27,28,29,30,31,43,44,45,46,47,48,49,50,51,52,60,61,62,63,64,66,67,69,70,71,73,79,80,81,85,86,87,90,97,98,100,104,124],Nat.beq f 5=false∧pF f=false∧f≠99∧f≠68:=by decide
  obtain⟨B,C,D,E⟩:=j f L;exact aYx z _ _ B C D E
 ·obtain⟨a,v,e,r⟩:=N b m l box o p G I J K;exact⟨a,v,by rw[cKt (by decide) (by decide)];exact e,r⟩
 ·obtain⟨a,u,e,r⟩:=M b v d o p;exact⟨a,u,by rw[cKt (by decide) (by decide)];exact e,r⟩
def aZt {D1:CF}{v:kC kG→Bool}(k:K1 D1 h v):bEf D1 h=fZ v:=funext fun s=>by
 obtain⟨b,e,_⟩:=N40 k (h:=h) (fun _ _ a=>a) (by rw[k.tab.next];exact kQ _) s;unfold bEf;rw[e];rfl
def aZq {D1:CF}{v:kC kG→Bool}(k:K1 D1 h v):bEd D1 h=fB v:=funext fun s=>by
 have e:=N61 k (h:=h) (fun _ _ a=>a) s;unfold bEd;rw[e];rfl
def aZa {D1:CF}{v:kC kG→Bool}(k:K1 D1 h v):bAn D1 h=xP v:=funext fun f=>funext fun n=>by
 obtain⟨b,e,_⟩:=N47 k (h:=h) (fun _ _ a=>a) (by rw[k.tab.next];exact kQ _) f n;unfold bAn;rw[e];rfl
def bAl {D1:CF}(a:H):DD D1 Dx h 5 [] a=some (.bool true,a):=rfl
def cDz {D1:CF}(j:aO prog 3 D5)(i:aO prog 3 D1)(x:aO prog 3 Dx)(t:aKj 3 h):aO prog 3 (DD D1 Dx h):=by
 refine aNi j (aNi (aIs (aJt (by kernel_rfl) (by kernel_rfl) (by kernel_rfl) i) (fun f d=>?_) t) x);have a:([65,91,72].all fun f=>decide (f<Y0)&&(match prog.funcs[f]? with|some n=>n.body.isSome|none=>true))=true:=by kernel_rfl
 unfold pF at d;obtain⟨g,l,k⟩:=rP.1 d;have:=beq_iff.1 k;subst this;have e:=mB.1 a f l;rw[pA]at e;refine⟨tE e.1,fun n b=>?_⟩;have c:=e.2;rw[b]at c;exact c
def aPs (b:Bool):A.z prog .eql 4 (.bool b) (.bool b)=some (.bool true):=by
 cases b<;>kernel_rfl
section
variable {D:CF}(Z:K4 D Y iI jM iV)(X:KD D)(W:aO prog 3 (CI D))
include Z X W
def W3 (P:∀a,D 5 [] a=some (.bool true,a))(O:HasT Y h)(b:3≤h.next)(x:SliceE 35 h v (L.map nzC))(o:∀z∈L,wI h z.2.1 z.2.2)(M:∀z∈L,EOk z.1)(N:∀z∈L,∀k,AM.same (z.1 k) (z.1 k)=true):
 ∃u I,RelOK prog 3 TaZ.isR u I∧∃V,fK prog (CI D) TaZ.isR u I V 3 3 [v] h (fun S h'=>S=.bool true):=by
 have G:=ok6 Z W (fil:=iI) (nam:=jM) (tak:=iV) (fun _=>L);have w:∀a,CI D 5 [] a=some (.bool true,a):=fun a=>iC (P a);obtain⟨q,C,g,B,n1,c1⟩:=T4 Z x o M (Ext.refl h);have g:CI D 4 [v] h=some (.bool q,C):=g;refine⟨_,_,G,0,F3W G _ h ?_⟩;have t:∀_:H,okU True=some ():=fun _=>okU_iff.2 trivial
 cases q with
 |true=>
  simp only[F3,p3a,qS,g,w];exact t C
 |false=>
 obtain⟨Q,s⟩:=c1 rfl;have p:∀z∈L,NoteOk h z.2.1 z.2.2:=fun z f=>⟨o z f,by have:=(s z f).1;omega⟩;simp only[F3,p3a,qS,g,yW];refine okU_iff.2 fun J n=>?_;refine tR n rfl ⟨rfl,v,rfl,O.ext Z.k3.k2.tab b B,kR b B.next,x.ext B,fun z f=>(p z f).ext B,by show L.length≤2^30;omega⟩ fun S h3 R=>?_;obtain⟨m,U⟩:=R;have m:S=.tuple ⟨[iN ((bEg iI jM iV L).1:Int),.bool (bEg iI jM iV L).2]⟩:=m;subst m;have d:=B.trans U;have L3:LsD h3 v L:=LsD.ext ⟨x,o,s,Q,N⟩ d;obtain⟨j,e,y,_,r⟩:=V7 X L3;have K:=aUq e r (tak:=iV);obtain⟨c,E⟩:=eX (bEg iI jM iV L);have l:c=Ra.check (aT iI jM iV) {} 0 (lsN L):=E;rw[←K,←l]at y;rw[←E];have i:lZ (CI D) TaZ.isR J 7 [v] h3=some (.tuple ⟨[iN (c.1:Int),.bool c.2]⟩,j):=y;have c5:∀a,lZ (CI D) TaZ.isR J 5 [] a=some (.bool true,a):=fun a=>w a;have z1:decide ((c.1:Int)=(c.1:Int))=true:=kN rfl;simp only[qS,ex2,i,zQ,aPs,c5]
 first|exact t j|(simp;exact t j)
end
def bVd {D1:CF}(x:∀f a h,f≠99→f≠68→Dx f a h=none):KD (DD D1 Dx Y):=⟨fun f a h g=>by
 have l:∀f∈cJr,Nat.beq f 5=false∧pF f=false∧f≠99∧f≠68:=by decide
 obtain⟨b,c,d,e⟩:=l f g;exact aYx x _ _ b c d e⟩
def tF (f:kI):Bool:=[82,103].any (Nat.beq f)
noncomputable def D1 (Q:Orc)(a:H):CF:=orD (tO tF (aK prog 3 Q 2000000) a) (aMb (fun f=>Nat.beq f 102) (aK prog 3 Q 2000000))
def aOo {g:H}(b:tF f=true)(c:eU a=true)(t:HasT j h)(e:aJ v=true)(d:aK prog 3 Q 2000000 f a j=some (v,g)):D1 Q j f a h=some (v,h):=by
 unfold D1 orD;rw[aIt b c t e d]
def aOn (b:tF f=false):D1 Q j f a h=aMb (fun f=>Nat.beq f 102) (aK prog 3 Q 2000000) f a h:=by
 unfold D1 orD;have:tO tF (aK prog 3 Q 2000000) j f a h=none:=by
  unfold tO;rw[kL];rintro⟨h,_⟩;rw[b]at h;cases h
 rw[this]
def cJn {i:kC Nat}(k:KnA Q)(o:aMh h i)(g:aKj 3 h):K1 (D1 Q h) h (aJx i):=by
 refine⟨fun b s t=>?_,fun b s t l=>?_,fun b s l=>?_,fun s d=>?_,fun f j b p=>?_,g⟩
 ·obtain⟨c,e,_⟩:=T77 k o (h:=h) 999600 (s:=s) (Ext.refl h);exact aOo rfl rfl t rfl e
 ·obtain⟨c,e,_⟩:=cNs k (h:=h) 999679 (s:=s) l;exact aOo rfl rfl t rfl e
 ·obtain⟨c,v,e,r⟩:=cNr k (h:=b) 999680 (s:=s) l;exact⟨c,v,by rw[aOn rfl];exact e,r⟩
 ·unfold aJx at d;split at d
  ·cases d
  ·omega
 ·have a:∀f∈[65,72,83,84,91,92,115,116,130],tF f=false∧Nat.beq f 102=false:=by decide
  obtain⟨m,n⟩:=a f p;rw[aOn m];unfold aMb;simp only[n,sW]
def cEb (j:∀f a v,Q f a=some v→iP prog f a v)(t:aKj 3 h):aO prog 3 (D1 Q h):=by
 have d:=rA (P:=prog) (NG:=3) (by kernel_rfl) (by kernel_rfl) (by kernel_rfl) j 2000000;refine aNi (aIs d (fun f e=>?_) t) (aUa d);have l:([82,103].all fun f=>decide (f<Y0)&&(match prog.funcs[f]? with|some n=>n.body.isSome|none=>true))=true:=by kernel_rfl
 unfold tF at e;obtain⟨g,m,k⟩:=rP.1 e;have:=beq_iff.1 k;subst this;have i:=mB.1 l f m;rw[pA]at i;refine⟨tE i.1,fun n b=>?_⟩;have c:=i.2;rw[b]at c;exact c
end Go.Proofs.YtbmdhjdgpeleoaaGreatDoor.Ra
