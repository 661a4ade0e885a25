import Derived.Test.YtohapjojkjjflaaGreatDoorRi
import Derived.Test.YtohapjojkjjflaaGreatDoorWzD
import Derived.Test.YtohapjojkjjflaaGreatDoorRj
namespace Go.Proofs.YtohapjojkjjflaaGreatDoor.Wz
open Go Go.AM
abbrev Pe:=Pq×List Sb×Value
def Pe.c (r:Pe):List Value:=r.1.cells r.2.2
structure InR (h:H)(x:Value)(ps:List Pe):Prop where
 row:SliceE 24 h x (ps.map Pe.c)
 sub:∀r∈ps,SliceE 2 h r.2.2 (r.2.1.map sbC)
theorem InR.ext {h h':H}{x:Value}{ps:List Pe}(r:InR h x ps)(e:Ext h h'):InR h' x ps:=⟨r.row.ext e,fun p hp=>(r.sub p hp).ext e⟩
theorem InR.extBut {S:Nat→Prop}{h h':H}{x:Value}{ps:List Pe}(r:InR h x ps)(e:ExtBut S h h')(s:∀i,S i→∀B:H,True)(h0:∀i,i<h.next→(sid x=some i∨∃p∈ps,sid p.2.2=some i)→¬S i):InR h' x ps:=
 ⟨r.row.extBut e fun i hi=>h0 i (r.row.sid_lt i hi) (.inl hi),fun p hp=>(r.sub p hp).extBut e fun i hi=>h0 i ((r.sub p hp).sid_lt i hi) (.inr ⟨p,hp,hi⟩)⟩
theorem aUp (h:H){p:Pq}{w:Value}(hw:aJ w=some [w]):∃h',A.zJ 24 WzA.Z38 h=some (aB h.next,h.push (.cells WzA.Z38L (some 0)))∧A.store 24 (aB h.next) (.agg ⟨p.cells w⟩) (h.push (.cells WzA.Z38L (some 0)))=some h'∧BQ h' h.next p w∧Ext h h'∧h'.next=h.next+1:=by
 refine⟨(h.push (.cells WzA.Z38L (some 0))).put h.next (.cells (p.cells w) (some 0)),rfl,?_,⟨by rw[H.get_put,kB rfl],Nat.lt_succ_self _⟩,(Ext.push h _).put _ _ (kF _),rfl⟩;have _:=hw;have hcl:aJ (.agg ⟨p.cells w⟩)=some (p.cells w):=rfl;rw[qU,H.get_push,kB rfl,hcl];rfl
end Go.Proofs.YtohapjojkjjflaaGreatDoor.Wz

namespace Go.Proofs.YtohapjojkjjflaaGreatDoor.Wz
open Tryz (prog)
open Go Go.AM WzA WzD
def Pe.d (r:Pe):Pq×List Sb:=(r.1,r.2.1)
section
variable {C:CF}{dec:List UInt8→Option (Pq×List Sb×Nat)}(pos:∀l p es n,dec l=some (p,es,n)→0<n∧n≤l.length){B:H}
 (hD:∀(h:H) (l:List UInt8),l.length≤1000300→Ext B h→D7 (C 15 [str l] h) h (dec l))
include pos hD
theorem lpC (L:Nat)(kr:Value→Value→H→Option (Value×H)){s:List UInt8}(hs:s.length≤1000300){H0:H}(hB0:Ext B H0):
 ∀(f m:Nat) (h:H) (v:Value) (acc:List Pe) (a:Nat),a≤s.length→s.length-a<f→f≤m→Ext H0 h→Vec 24 h v (acc.map Pe.c)→(∀r∈acc,SliceE 2 h r.2.2 (r.2.1.map sbC))→(∀j,sid v=some j→H0.next≤j)→(∀r∈acc,∀j,sid r.2.2=some j→H0.next≤j∧sid v≠some j)→acc.length+f≤2000000→
  ∃h' v' new,aAz (C) L kr m (str s) v (.int .i64 (a:Int)) h=kr v' (.int .i64 ((a+(dM dec f (s.drop a)).2:Nat):Int)) h'∧new.map Pe.d=(dM dec f (s.drop a)).1∧InR h' v' (acc++new)∧Ext H0 h'∧(∀j,sid v'=some j→H0.next≤j)∧(∀r∈acc++new,∀j,sid r.2.2=some j→H0.next≤j):=by
 intro f
 induction f with
 |zero=>intro m h v acc a _ h1;omega
 |succ f ih=>
  intro m h v acc a ha hf hm x0 vv hsub hv hrs hacc;obtain⟨m,rfl⟩:∃r,m=r+1:=⟨m-1,by omega⟩;have sl1:=slS ha;have d7:=hD h (s.drop a) (by rw[kU];omega) (hB0.trans x0);unfold dM
  cases hd:dec (s.drop a)with
  |none=>
   rw[hd]at d7;obtain⟨h1,e,e16,he,x1⟩:=d7;have t0:A.z 0 (pJ (zq 0) aF (0,e))=some (.agg ⟨(zq 0).cells aF⟩):=rfl;have t1:A.z 1 (pJ (zq 0) aF (0,e))=some (.int .i64 0):=rfl;have t2:A.z 2 (pJ (zq 0) aF (0,e))=some (.int .i64 (e:Int)):=rfl;obtain⟨h2,eb,es,_,x2,_⟩:=aUp h1 (p:=zq 0) (w:=aF) rfl;have dn:A.zA prog .neq 45 (.int .i64 (e:Int)) (.int .i64 0)=some (.bool true):=by rw[aK,kD (by omega)];rfl
   have x12:=x1.trans x2;refine⟨h2,v,[],?_,rfl,?_,x0.trans x12,hv,?_⟩
   ·simp only[aAz,aJu,sl1,WzO.S,e16,t0,t1,t2,eb,es,dn,Nat.add_zero]
   ·rw[List.append_nil];exact⟨(vv.ext x12).slice,fun r hr=>(hsub r hr).ext x12⟩
   ·rw[List.append_nil];exact fun r hr j hj=>(hrs r hr j hj).1
  |some x=>
   obtain⟨p,es,n⟩:=x;rw[hd]at d7;obtain⟨h1,w,e16,slw,sw,x1⟩:=d7;obtain⟨hn0,hn1⟩:=pos _ _ _ _ hd;rw[kU]at hn1;have t0:A.z 0 (pJ p w (n,0))=some (.agg ⟨p.cells w⟩):=rfl;have t1:A.z 1 (pJ p w (n,0))=some (.int .i64 (n:Int)):=rfl;have t2:A.z 2 (pJ p w (n,0))=some (.int .i64 0):=rfl;have e16:C 15 [str (s.drop a)] h=some (pJ p w (n,0),h1):=e16;obtain⟨h2,eb,es',bq,x2,n2⟩:=aUp h1 (p:=p) slw.cells;have dn:A.zA prog .neq 45 (.int .i64 0) (.int .i64 0)=some (.bool false):=by rw[aK];rfl
   obtain⟨h3,hh3⟩:∃h3,h3=h2.push (.cells (p.cells w) (some 24)):=⟨_,rfl⟩;have e3:A.zD 24 1 WzA.Z38L [(0,24,.agg ⟨p.cells w⟩)] h2=some (.slice (some ⟨h2.next,0,none⟩) 1 3,h3):=by rw[hh3];exact cC h2 rfl rfl rfl
   have x3:Ext h2 h3:=by rw[hh3];exact Ext.push h2 _
   have n3:h3.next=h2.next+1:=by rw[hh3];rfl
   have s3:SliceE 24 h3 (.slice (some ⟨h2.next,0,none⟩) 1 3) [p.cells w]:=by rw[hh3];exact fU rfl
   have x13:=(x1.trans x2).trans x3;have lm:(acc.map Pe.c).length=acc.length:=pA ..;obtain⟨h4,e4,v4,n4,x4⟩:=eZ (bs:=200) (vv.ext x13) s3 (by simp) (by omega) (by rw[lm];simp;omega) (by rw[lm];simp;omega);obtain⟨v2,hv2⟩:∃v2,v2=Value.slice (some ⟨h3.next,0,none⟩) ((acc.map Pe.c).length+[p.cells w].length) (2*((acc.map Pe.c).length+[p.cells w].length)):=⟨_,rfl⟩;rw[←hv2]at e4 v4;have hsid:sid v2=some h3.next:=by rw[hv2];rfl
   have hvlt:∀j,sid v=some j→j<h.next:=fun j hj=>vv.slice.sid_lt j hj;have hn03:=x0.next;have hnx:=x1.next;have x04:Ext H0 h4:=⟨kG x0.next (kG x13.next x4.next),fun i hi=>by
    rw[x4.get i (kH hi (kG x0.next x13.next)) (fun e=>by have:=hv i e;omega),x13.get i (kH hi x0.next),x0.get i hi]⟩
   have wb:IntKind.i64.wrap ((a:Int)+(n:Int))=((a+n:Nat):Int):=by rw[aS (by omega) (by omega)];omega
   have hw13:SliceE 2 h4 w (es.map sbC):=((slw.ext x2).ext x3).extBut x4 fun j hj e=>by have:=sw j hj;have:=hvlt j e;omega
   have hwlt:∀j,sid w=some j→j<h3.next:=fun j hj=>by have:=slw.sid_lt j hj;have:=x2.next;omega
   have heq:s.drop (a+n)=(s.drop a).drop n:=by rw[pS]
   obtain⟨h',v',new,eL,em,hr,x',hv',hs'⟩:=ih m h4 v2 (acc++[(p,es,w)]) (a+n) (by omega) (by omega) (by omega) x04 (by rw[List.map_append];exact v4) (fun r hr=>by
    rcases List.mem_append.1 hr with hr|hr
    ·exact((hsub r hr).ext x13).extBut x4 fun j hj e=>(hrs r hr j hj).2 e
    ·rw[List.mem_singleton]at hr;subst hr;exact hw13) (fun j hj=>by rw[hsid]at hj;cases hj;omega) (fun r hr j hj=>by
    rcases List.mem_append.1 hr with hr|hr
    ·refine⟨(hrs r hr j hj).1,fun e=>?_⟩;rw[hsid]at e;cases e;have:=(hsub r hr).sid_lt _ hj;have:=x13.next;omega
    ·rw[List.mem_singleton]at hr;subst hr;refine⟨by have:=sw j hj;omega,fun e=>?_⟩;rw[hsid]at e;cases e;have:=hwlt _ hj;omega) (by rw[kL,List.length_singleton];omega)
   rw[heq]at eL em;refine⟨h',v',(p,es,w)::new,?_,?_,by rw[List.append_cons];exact hr,x',hv',by rw[List.append_cons];exact hs'⟩
   ·simp only[aAz,aJu,sl1,WzO.S,e16,t0,t1,t2,eb,es',dn,bq.all,e3,e4,aG,wb];rw[eL,Nat.add_assoc]
   ·rw[List.map_cons,em];rfl
end
section
variable {Q:Orc}(kn:KnA Q){dec:List UInt8→Option (Pq×List Sb×Nat)}(pos:∀l p es n,dec l=some (p,es,n)→0<n∧n≤l.length){n:Nat}{B:H}
include kn pos
def cFj (X:Option (Value×H))(h:H)(dec:List UInt8→Option (Pq×List Sb×Nat))(s:List UInt8):Prop:=
 ∃h' v' new,X=some (.tuple ⟨[v',.int .i64 ((dM dec (s.length+1) s).2:Int)]⟩,h')∧new.map Pe.d=(dM dec (s.length+1) s).1∧InR h' v' new∧Ext h h'∧(∀j,sid v'=some j→h.next≤j)∧(∀r∈new,∀j,sid r.2.2=some j→h.next≤j)
theorem T7c (hn:1000400≤n)(hD:∀(h:H) (l:List UInt8),l.length≤1000300→Ext B h→D7 (aA prog 2 Q n 15 [str l] h) h (dec l))(h:H){s:List UInt8}(hs:s.length≤1000300)(hB:Ext B h):
 cFj (aA prog 2 Q (n+1) 8 [str s] h) h dec s:=by
 rw[cKo Q n _ h (kn.fr 8 _ (by decide))];obtain⟨h',v',new,e,em,hr,x,hv,hnn⟩:=lpC pos hD n (fun x2 x3 h=>some (Value.tuple ⟨[x2,x3]⟩,h)) hs hB (s.length+1) n h aF [] 0 (pQ _) (by omega) (by omega) (Ext.refl h) (Vec.nil 24 h) (fun r hr=>by cases hr) (fun j hj=>by cases hj) (fun r hr=>by cases hr) (by show 0+(s.length+1)≤2000000;omega);rw[List.drop_zero,Nat.zero_add]at e;rw[List.drop_zero]at em;rw[List.nil_append]at hr hnn;refine⟨h',v',new,?_,em,hr,x,hv,hnn⟩;simp only[F8,p8a,cDg,WzO.S];exact e
theorem cGh (C:CF)(L:Nat)(kr:Value→Value→H→Option (Value×H)):∀(m:Nat) (x0 x4 x5:Value) (h:H),aKw C L kr m x0 x4 x5 h=aAz (fun _=>C 18) L kr m x0 x4 x5 h:=by
 have _:=kn;have _:=pos;intro m
 induction m with
 |zero=>intro x0 x4 x5 h;rfl
 |succ m ih=>
  intro x0 x4 x5 h;show aJu (fun _=>C 18) h x0 x4 x5 kr (fun x0 x4 x5 h=>aKw C L kr m x0 x4 x5 h)=aJu (fun _=>C 18) h x0 x4 x5 kr (fun x0 x4 x5 h=>aAz (fun _=>C 18) L kr m x0 x4 x5 h);rw[show(fun x0 x4 x5 h=>aKw C L kr m x0 x4 x5 h)=(fun x0 x4 x5 h=>aAz (fun _=>C 18) L kr m x0 x4 x5 h)from by funext a b c d;exact ih a b c d]
theorem U9 (hn:1000400≤n)(hD:∀(h:H) (l:List UInt8),l.length≤1000300→Ext B h→D7 (aA prog 2 Q n 18 [str l] h) h (dec l))(h:H){s:List UInt8}(hs:s.length≤1000300)(hB:Ext B h):
 cFj (aA prog 2 Q (n+1) 9 [str s] h) h dec s:=by
 rw[cKn Q n _ h (kn.fr 9 _ (by decide))];obtain⟨h',v',new,e,em,hr,x,hv,hnn⟩:=lpC (C:=fun _=>aA prog 2 Q n 18) pos hD n (fun x2 x3 h=>some (Value.tuple ⟨[x2,x3]⟩,h)) hs hB (s.length+1) n h aF [] 0 (pQ _) (by omega) (by omega) (Ext.refl h) (Vec.nil 24 h) (fun r hr=>by cases hr) (fun j hj=>by cases hj) (fun r hr=>by cases hr) (by show 0+(s.length+1)≤2000000;omega);rw[List.drop_zero,Nat.zero_add]at e;rw[List.drop_zero]at em;rw[List.nil_append]at hr hnn;refine⟨h',v',new,?_,em,hr,x,hv,hnn⟩;simp only[F9,p9a,cDe,cGh kn pos,WzO.S];exact e
end
end Go.Proofs.YtohapjojkjjflaaGreatDoor.Wz

set_option maxRecDepth 100000
namespace Go.Proofs.YtohapjojkjjflaaGreatDoor.Wz
open Tryz (prog)
open Go Go.AM
open Go.AM.Pk (K0 K1 K2 K3 K4 K5 K6 K7 K8)
abbrev Ms:=List UInt8×List UInt8×Nat×Bool
def msC (m:Ms):List Value:=[str m.1,str m.2.1,.int .u8 (m.2.2.1:Int),.bool m.2.2.2]
structure Nt where
 kind:Nat
 op:Int
 conn:Int
 client:List UInt8
 pk:Pe
 msg:Ms
 codes:List UInt8
 present:Bool
 qos:Nat
def Nt.cells (n:Nt):List Value:=.int .u8 (n.kind:Int)::.int .i64 n.op::.int .i64 n.conn::str n.client::(n.pk.c++(msC n.msg++[str n.codes,.bool n.present,.int .u8 (n.qos:Int)]))
def oH (p:Pq)(n:Nt):List Pq:=
 if p.kind=1 then[{zq 2 with present:=n.present}]
 else if p.kind=8 then[{zq 9 with id:=p.id,codes:=n.codes}]
 else if p.kind=10 then[{zq 11 with id:=p.id}]
 else if p.kind=3∧p.qos=1 then[{zq 4 with id:=p.id}]
 else if p.kind=3∧p.qos=2 then[{zq 5 with id:=p.id}]
 else[]
def oM (conn op:Int)(n:Nt):Bool:=decide (n.kind=1∧n.conn=conn∧n.op=op)
def cA (l:List Nt)(conn op:Int):Option Pq:=(l.find? (oM conn op)).map fun n=>n.pk.1
def jS (conn:Int):List Nt→List Nt→List Pq
 |_,[]=>[]
 |pre,n::r=>(if n.kind=3∧n.conn=conn then oH ((cA pre conn n.op).getD (zq 0)) n else[])++jS conn (pre++[n]) r
def cN (client:List UInt8)(l:List Nt):List Ms:=(l.filter fun n=>decide (n.client=client∧(n.kind=6∨n.kind=8))).map (·.msg)
def dB (ms:List Ms)(m:Ms)(ends:List Nat):List Nat:=(ends.filter fun i=>decide (ms[i]?=some m)).map (·+1)
def bF (p:Pq):Ms:=(p.topic,p.payload,p.qos,p.retain)
theorem nN {n:Nat}{h:H}{v:Value}{els:List (List Value)}(s:SliceE n h v els){i:Nat}{e:List Value}(hi:els[i]?=some e)(k:IntKind):
 ∃id off,A.zH n v (.int k (i:Int))=some (.pointer (some ⟨id,off,none⟩))∧id<h.next∧sid v=some id∧∀h':H,h'.get id=h.get id→
  (∀j y,e[j]?=some y→A.load false 1 (.pointer (some ⟨id,off+j,none⟩)) h'=some y)∧(∀a m,a+m≤n→A.load true m (.pointer (some ⟨id,off+a,none⟩)) h'=some (.agg ⟨(e.drop a).take m⟩)):=by
 have hl:e.length=n:=s.1 e (List.mem_of_getElem? hi);have hv:∃id,sid v=some id:=by
  rcases s.2 with⟨rfl,rfl⟩|⟨id,off,c,rfl,_⟩
  ·cases hi
  ·exact⟨id,rfl⟩
 obtain⟨id',hid⟩:=hv;obtain⟨id,off,cells,own,e1,e2,e3,e4,e5,e6⟩:=s.at hi k;have same:id'=id:=by
  rcases s.2 with⟨rfl,rfl⟩|⟨q,o,c,rfl,_⟩
  ·cases hi
  ·have hlt:=(List.getElem?_eq_some_iff.1 hi).1;rw[lP n q o _ c i k hlt]at e1;simp only[kE,Value.pointer.injEq,Addr.mk.injEq]at e1;simp only[sid,kE]at hid;omega
 subst same;refine⟨id',off,e1,e2,hid,fun h' hg=>⟨fun j y hj=>?_,fun a m ha=>?_⟩⟩
 ·have hjl:=(List.getElem?_eq_some_iff.1 hj).1;rw[qK,hg,e3];exact(e6 j (by omega)).trans hj
 ·refine uH (hg.trans e3) (by omega) ?_;rw[←e5,List.drop_take,pS,List.take_take,Nat.min_eq_left (by omega)]
theorem Nt.len (n:Nt):n.cells.length=35:=rfl
structure NIn (h:H)(x:Value)(l:List Nt):Prop where
 row:SliceE 35 h x (l.map Nt.cells)
 sub:∀n∈l,SliceE 2 h n.pk.2.2 (n.pk.2.1.map sbC)
 rg:∀n∈l,Rg n.pk.1 n.pk.2.1∧n.kind<256∧n.msg.2.2.1<256
 le:l.length≤200
 odd:∀a k c,x=.slice (some a) k c→c%2=1
theorem NIn.ext {h h':H}{x:Value}{l:List Nt}(r:NIn h x l)(e:Ext h h'):NIn h' x l:=⟨r.row.ext e,fun n hn=>(r.sub n hn).ext e,r.rg,r.le,r.odd⟩
theorem NIn.len {h:H}{x:Value}{l:List Nt}(r:NIn h x l):A.zG x=some (.int .i64 (l.length:Int)):=by have:=r.row.len.1;rw[pA]at this;exact this
theorem nK {h:H}{x:Value}{l:List Nt}(r:NIn h x l){i:Nat}{n:Nt}(hi:l[i]?=some n):∃id off,A.zH 35 x (.int .i64 (i:Int))=some (.pointer (some ⟨id,off,none⟩))∧∀h',Ext h h'→
 (∀j y,n.cells[j]?=some y→A.load false 1 (.pointer (some ⟨id,off+j,none⟩)) h'=some y)∧A.load true 35 (.pointer (some ⟨id,off,none⟩)) h'=some (.agg ⟨n.cells⟩)∧A.load true 24 (.pointer (some ⟨id,off+4,none⟩)) h'=some (.agg ⟨n.pk.c⟩)∧A.load true 4 (.pointer (some ⟨id,off+28,none⟩)) h'=some (.agg ⟨msC n.msg⟩):=by
 obtain⟨id,off,e1,e2,_,e3⟩:=nN r.row (i:=i) (e:=n.cells) (by rw[kX,hi];rfl) .i64;refine⟨id,off,e1,fun h' x=>?_⟩;obtain⟨a,b⟩:=e3 h' (x.get id e2);exact⟨a,b 0 35 (by omega),b 4 24 (by omega),b 28 4 (by omega)⟩
def NB (h:H)(t:Nat)(n:Nt):Prop:=h.get t=some (.cells n.cells (some 0))∧t<h.next
theorem NB.ld {h:H}{t:Nat}{n:Nt}(b:NB h t n){i:Nat}{v:Value}(hv:n.cells[i]?=some v):A.load false 1 (.pointer (some ⟨t,i,none⟩)) h=some v:=by
 rw[qK,b.1];exact hv
theorem NB.ext {h h':H}{t:Nat}{n:Nt}(b:NB h t n)(x:Ext h h'):NB h' t n:=⟨by rw[x.get t b.2];exact b.1,kH b.2 x.next⟩
theorem NB.msg {h:H}{t:Nat}{n:Nt}(b:NB h t n):A.load true 4 (.pointer (some ⟨t,28,none⟩)) h=some (.agg ⟨msC n.msg⟩):=by rw[bJ,b.1];rfl
theorem NB.pk {h:H}{t:Nat}{n:Nt}(b:NB h t n):A.load true 24 (.pointer (some ⟨t,4,none⟩)) h=some (.agg ⟨n.pk.c⟩):=by rw[bJ,b.1];rfl
theorem NB.all {h:H}{t:Nat}{n:Nt}(b:NB h t n):A.load true 35 (.pointer (some ⟨t,0,none⟩)) h=some (.agg ⟨n.cells⟩):=by rw[bJ,b.1];rfl
theorem bBu (h:H)(n:Nt):∃h',A.zJ 35 (.agg ⟨n.cells⟩) h=some (aB h.next,h')∧NB h' h.next n∧Ext h h':=by
 obtain⟨h',hh⟩:∃h',h'=h.push (.cells n.cells (some 0)):=⟨_,rfl⟩;exact⟨h',by rw[hh];rfl,⟨by rw[hh,H.get_push,kB rfl],by rw[hh];exact Nat.lt_succ_self _⟩,by rw[hh];exact Ext.push h _⟩
theorem uO (h:H)(n:Nt):∃h1 h',A.zJ 35 WzD.Z40 h=some (aB h.next,h1)∧A.store 35 (aB h.next) (.agg ⟨n.cells⟩) h1=some h'∧NB h' h.next n∧Ext h h':=by
 obtain⟨h1,hh1⟩:∃h1,h1=h.push (.cells WzD.Z40L (some 0)):=⟨_,rfl⟩;obtain⟨h',hh⟩:∃h',h'=h1.put h.next (.cells n.cells (some 0)):=⟨_,rfl⟩;have g:h1.get h.next=some (.cells WzD.Z40L (some 0)):=by rw[hh1,H.get_push,kB rfl]
 have hcl:aJ (.agg ⟨n.cells⟩)=some n.cells:=rfl;refine⟨h1,h',by rw[hh1];rfl,by rw[qU,g,hcl,hh];rfl,⟨by rw[hh,H.get_put,kB rfl],?_⟩,?_⟩
 ·rw[hh,hh1];exact Nat.lt_succ_self _
 ·rw[hh,hh1];exact(Ext.push h _).put _ _ (kF _)
theorem oR (h:H)(p:Pq)(w:Value):∃h1 h',A.zJ 24 WzD.Z38 h=some (aB h.next,h1)∧A.store 24 (aB h.next) (.agg ⟨p.cells w⟩) h1=some h'∧BQ h' h.next p w∧Ext h h':=by
 obtain⟨h1,hh1⟩:∃h1,h1=h.push (.cells WzD.Z38L (some 0)):=⟨_,rfl⟩;obtain⟨h',hh⟩:∃h',h'=h1.put h.next (.cells (p.cells w) (some 0)):=⟨_,rfl⟩;have g:h1.get h.next=some (.cells WzD.Z38L (some 0)):=by rw[hh1,H.get_push,kB rfl]
 have hcl:aJ (.agg ⟨p.cells w⟩)=some (p.cells w):=rfl;refine⟨h1,h',by rw[hh1];rfl,by rw[qU,g,hcl,hh];rfl,⟨by rw[hh,H.get_put,kB rfl],?_⟩,?_⟩
 ·rw[hh,hh1];exact Nat.lt_succ_self _
 ·rw[hh,hh1];exact(Ext.push h _).put _ _ (kF _)
theorem lN {n bs:Nat}{B h:H}{v y:Value}{acc:List (List Value)}{e z:List Value}(x:Ext B h)(vv:Vec n h v acc)(sv:∀i,sid v=some i→B.next≤i)(hz:z.length=n)(hy:aJ y=some e)(he:e.length=n)(hn:0<n)(hb:(acc.length+1)*bs≤2^47)(hl:acc.length+1≤2^47):
 ∃h1 h2 w1 w2,A.zD n 1 z [(0,n,y)] h=some (w1,h1)∧A.zK n bs v w1 h1=some (w2,h2)∧Ext B h2∧Vec n h2 w2 (acc++[e])∧sid w2=some (h.next+1)∧ExtBut (fun i=>sid v=some i) h h2:=by
 obtain⟨h1,hh1⟩:∃h1,h1=h.push (.cells e (some n)):=⟨_,rfl⟩;have e1:A.zD n 1 z [(0,n,y)] h=some (.slice (some ⟨h.next,0,none⟩) 1 3,h1):=by
  rw[hh1];exact cC h hz hy he
 have x1:Ext h h1:=by rw[hh1];exact Ext.push h _
 have n1:h1.next=h.next+1:=by rw[hh1];rfl
 have s1:SliceE n h1 (.slice (some ⟨h.next,0,none⟩) 1 3) [e]:=by rw[hh1];exact fU he
 obtain⟨h2,e2,v2,n2,x2⟩:=eZ (bs:=bs) (vv.ext x1) s1 (by simp) hn (by simpa using hb) (by simpa using hl);refine⟨h1,h2,_,_,e1,e2,?_,v2,by show some h1.next=_;rw[n1],⟨by have:=x1.next;have:=x2.next;omega,fun i hi hs=>?_⟩⟩
 ·refine⟨kG (x.trans x1).next x2.next,fun i hi=>?_⟩;rw[x2.get i (kH hi (x.trans x1).next) (fun e=>by have:=sv i e;omega)];exact(x.trans x1).get i hi
 ·rw[x2.get i (kH hi x1.next) hs];exact x1.get i hi
theorem wI {n:Nat}(h:H){y:Value}{e z:List Value}(hz:z.length=n)(hy:aJ y=some e)(he:e.length=n):∃h' v,A.zD n 1 z [(0,n,y)] h=some (v,h')∧SliceE n h' v [e]∧sid v=some h.next∧Ext h h':=by
 obtain⟨h1,hh1⟩:∃h1,h1=h.push (.cells e (some n)):=⟨_,rfl⟩;exact⟨h1,.slice (some ⟨h.next,0,none⟩) 1 3,by rw[hh1];exact cC h hz hy he,by rw[hh1];exact fU he,rfl,by rw[hh1];exact Ext.push h _⟩
theorem uP (a b:Ms):A.zA prog .eql 35 (.agg ⟨msC a⟩) (.agg ⟨msC b⟩)=some (.bool (decide (a=b))):=by
 obtain⟨a1,a2,a3,a4⟩:=a;obtain⟨b1,b2,b3,b4⟩:=b;have e:A.yF prog 20 35 (.agg ⟨[str a1,str a2,.int .u8 (a3:Int),.bool a4]⟩) (.agg ⟨[str b1,str b2,.int .u8 (b3:Int),.bool b4]⟩)=(bif a1==b1 then(bif a2==b2 then(bif (a3:Int)==(b3:Int)then(bif a4==b4 then some true else some false)else some false)else some false)else some false):=by kernel_rfl
 refine oD rfl rfl (by kernel_rfl) (e.trans ?_);have hc:((a3:Int)==(b3:Int))=decide (a3=b3):=by rw[Bool.eq_iff_iff,beq_iff_eq,pI];omega
 have hd:(a4==b4)=decide (a4=b4):=by cases a4<;>cases b4<;>rfl
 have ha:(a1==b1)=decide (a1=b1):=by rw[Bool.eq_iff_iff,beq_iff_eq,pI]
 have hb:(a2==b2)=decide (a2=b2):=by rw[Bool.eq_iff_iff,beq_iff_eq,pI]
 rw[ha,hb,hc,hd];have hp:decide ((a1,a2,a3,a4)=(b1,b2,b3,b4))=(decide (a1=b1)&&(decide (a2=b2)&&(decide (a3=b3)&&decide (a4=b4)))):=by
  rw[Bool.eq_iff_iff];simp only[kO,pI,kK]
 rw[hp];cases decide (a1=b1)<;>cases decide (a2=b2)<;>cases decide (a3=b3)<;>cases decide (a4=b4)<;>rfl
theorem sR {n:Nat}:∀{els:List (List Value)} (k:Nat),(∀e∈els,e.length=n)→(els.take k).flatten=els.flatten.take (k*n)
 |els,0,_=>by simp
 |[],k+1,_=>by simp
 |e::els,k+1,h=>by
  have he:=h e List.mem_cons_self;rw[List.take_succ_cons,List.flatten_cons,List.flatten_cons,sR k (fun x hx=>h x (List.mem_cons_of_mem _ hx)),show(k+1)*n=e.length+k*n by rw[he,Nat.succ_mul];omega,List.take_length_add_append]
theorem sS {n:Nat}:∀{els:List (List Value)} (k:Nat),(∀e∈els,e.length=n)→(els.drop k).flatten=els.flatten.drop (k*n)
 |els,0,_=>by simp
 |[],k+1,_=>by simp
 |e::els,k+1,h=>by
  have he:=h e List.mem_cons_self;rw[List.drop_succ_cons,List.flatten_cons,sS k (fun x hx=>h x (List.mem_cons_of_mem _ hx)),show(k+1)*n=e.length+k*n by rw[he,Nat.succ_mul];omega,List.drop_length_add_append]
theorem aIx {n:Nat}{h:H}{v:Value}{els:List (List Value)}(s:SliceE n h v els){lo hi:Nat}(h1:lo≤hi)(h2:hi≤els.length)(hne:els≠[])(ho:(∀a k c,v=.slice (some a) k c→c%2=1)∨lo=0):
 ∃v',(∀l,(l=some (.int .i64 (lo:Int))∨lo=0∧l=none)→A.zQ n v l (some (.int .i64 (hi:Int))) none h=some v')∧SliceE n h v' ((els.drop lo).take (hi-lo))∧sid v'=sid v∧(∀a k c,v'=.slice (some a) k c→∃a' k' c',v=.slice (some a') k' c'∧c%2=c'%2):=by
 rcases s.2 with⟨_,e⟩|⟨id,off,c,rfl,hc,hid,hcs⟩
 ·exact absurd e hne
 obtain⟨cells,own,g,e1,e2⟩:=hcs hne;have hln:((els.drop lo).take (hi-lo)).length=hi-lo:=by rw[kT,kU];omega
 have mem:∀e∈(els.drop lo).take (hi-lo),e.length=n:=fun e he=>s.1 e (List.mem_of_mem_drop (List.mem_of_mem_take he));refine⟨.slice (some ⟨id,off+lo*n,none⟩) (hi-lo) (c-2*lo),fun l hl=>?_,⟨mem,.inr ⟨id,off+lo*n,c-2*lo,by rw[hln],by rw[hln];omega,hid,fun _=>⟨cells,own,g,?_,?_⟩⟩⟩,rfl,fun a k c' e=>⟨_,_,_,rfl,?_⟩⟩
 ·have b2:Nat.ble hi (c / 2)=true:=ble_iff.2 (by omega);have b3:Nat.ble lo hi=true:=ble_iff.2 h1;have ok:(Nat.beq (c%2) 1||false||Nat.beq lo 0||A.zZ n id h)=true:=by
   rcases ho with ho|ho
   ·have:Nat.beq (c%2) 1=true:=by rw[T.beq_dec,ho _ _ _ rfl];rfl
    rw[this];rfl
   ·have:Nat.beq lo 0=true:=by rw[T.beq_dec,ho];rfl
    rw[this,Bool.or_true,Bool.true_or]
  rcases hl with rfl|⟨h0,rfl⟩
  ·show(match(bif Nat.ble hi (c / 2)then some (some hi)else none:Option (Option Nat))with|none=>none|some r=>match A.zM (r.getD els.length) (some (.int .i64 (lo:Int)))with|none=>none|some l=>bif Nat.beq (c%2) 1||false||Nat.beq (l.getD 0) 0||A.zZ n id h then some (Value.slice (some ⟨id,off+l.getD 0*n,none⟩) (r.getD els.length-l.getD 0) (c-2*l.getD 0))else none)=_
   rw[b2];show(match(bif Nat.ble lo hi then some (some lo)else none:Option (Option Nat))with|none=>none|some l=>bif Nat.beq (c%2) 1||false||Nat.beq (l.getD 0) 0||A.zZ n id h then some (Value.slice (some ⟨id,off+l.getD 0*n,none⟩) (hi-l.getD 0) (c-2*l.getD 0))else none)=_
   rw[b3];show(bif Nat.beq (c%2) 1||false||Nat.beq lo 0||A.zZ n id h then some (Value.slice (some ⟨id,off+lo*n,none⟩) (hi-lo) (c-2*lo))else none)=_
   rw[ok];rfl
  ·subst h0;show(match(bif Nat.ble hi (c / 2)then some (some hi)else none:Option (Option Nat))with|none=>none|some r=>match A.zM (r.getD els.length) none with|none=>none|some l=>bif Nat.beq (c%2) 1||false||Nat.beq (l.getD 0) 0||A.zZ n id h then some (Value.slice (some ⟨id,off+l.getD 0*n,none⟩) (r.getD els.length-l.getD 0) (c-2*l.getD 0))else none)=_
   rw[b2];show(bif Nat.beq (c%2) 1||false||Nat.beq 0 0||A.zZ n id h then some (Value.slice (some ⟨id,off+0*n,none⟩) (hi-0) (c-2*0))else none)=_
   rw[ok];rfl
 ·rw[hln];have:hi*n≤els.length*n:=Nat.mul_le_mul_right _ h2;have:lo*n+(hi-lo)*n=hi*n:=by rw[←Nat.add_mul];congr 1;omega
  omega
 ·rw[hln,sR _ (fun e he=>s.1 e (List.mem_of_mem_drop he)),sS _ s.1,←e2,List.drop_take,pS,List.take_take];congr 1;have:hi*n≤els.length*n:=Nat.mul_le_mul_right _ h2;have:lo*n+(hi-lo)*n=hi*n:=by rw[←Nat.add_mul];congr 1;omega
  omega
 ·simp only[Value.slice.injEq,kE]at e;omega
theorem aOz {n bs:Nat}{B h:H}{v y:Value}{acc new:List (List Value)}(x:Ext B h)(vv:Vec n h v acc)(sv:∀i,sid v=some i→B.next≤i)(s:SliceE n h y new)(hn:0<n)(hb:(acc.length+new.length)*bs≤2^47)(hl:acc.length+new.length≤2^47):
 ∃v' h',A.zK n bs v y h=some (v',h')∧Vec n h' v' (acc++new)∧Ext B h'∧(sid v'=sid v∨sid v'=some h.next)∧ExtBut (fun i=>sid v=some i) h h':=by
 by_cases e:new=[]
 ·subst e;have hz:A.zK n bs v y h=some (v,h):=by
   have h1:=s.elems;have h2:=s.len.2;rcases vv.2 with⟨rfl,_⟩|⟨q,rfl,_,_⟩<;>(simp only[A.zK,h1,h2];rfl)
  exact⟨v,h,hz,by rw[List.append_nil];exact vv,x,Or.inl rfl,⟨kF _,fun _ _ _=>rfl⟩⟩
 ·obtain⟨h',e1,v1,n1,x1⟩:=eZ (bs:=bs) vv s e hn hb hl;exact⟨_,h',e1,v1,⟨kG x.next x1.next,fun i hi=>by rw[x1.get i (kH hi x.next) (fun e=>by have:=sv i e;omega)];exact x.get i hi⟩,Or.inr rfl,x1⟩
end Go.Proofs.YtohapjojkjjflaaGreatDoor.Wz

set_option maxRecDepth 100000
namespace Go.Proofs.YtohapjojkjjflaaGreatDoor.Wz
open Tryz (prog)
open Go Go.AM WzA WzB WzD
open Go.AM.Pk (K0 K1 K2 K3 K4 K5 K6 K7 K8)
section
variable {Q:Orc}(ka:KnA Q){h:H}
include ka
theorem aUk (q:Pq):∃h' v,A.zD 24 1 WzD.Z38L [(0,24,.agg ⟨q.cells aF⟩)] h=some (v,h')∧SliceE 24 h' v [q.cells aF]∧sid v=some h.next∧Ext h h':=by
 have _:=ka;exact wI h rfl rfl rfl
theorem T22 {n:Nat}(hn:2≤n){p:Pq}{w:Value}(hw:aJ w=some [w])(m:Nt)(hp:p.kind<256)(hq:p.qos<256):∃v h',aA prog 2 Q n 22 [.agg ⟨p.cells w⟩,.agg ⟨m.cells⟩] h=some (v,h')∧SliceE 24 h' v ((oH p m).map fun q=>q.cells aF)∧Ext h h'∧(∀i,sid v=some i→h.next≤i):=by
 obtain⟨n,rfl⟩:∃m,n=m+1:=⟨n-1,by omega⟩;rw[bWu Q n _ _ h (ka.fr 22 _ (by decide))];obtain⟨h0,e0,b0,x0,n0⟩:=cB p hw h;obtain⟨h1,e1,b1,x1⟩:=bBu h0 m;have b0:=b0.ext x1;obtain⟨⟨l0,_,l2,_,l4,_⟩,_⟩:=b0.lds;have bz:A.zF WzD.Z38L [(4,1,.int .u16 (p.id:Int))]=some (.agg ⟨({zq 0 with id:=p.id}:Pq).cells aF⟩):=by kernel_rfl
 obtain⟨h2,h3,e2,e3,b3,x3⟩:=oR h1 {zq 0 with id:=p.id} aF;have b03:=b0.ext x3;have b13:=b1.ext x3;obtain⟨⟨m0,_,m2,_⟩,_⟩:=b03.lds;have lc:A.load false 1 (.pointer (some ⟨h0.next,32,none⟩)) h3=some (str m.codes):=b13.ld rfl;have lp:A.load false 1 (.pointer (some ⟨h0.next,33,none⟩)) h3=some (.bool m.present):=b13.ld rfl;have xx:Ext h h3:=(x0.trans x1).trans x3;have nx:h.next≤h1.next:=(x0.trans x1).next;have d1:decide ((p.kind:Int)=1)=decide (p.kind=1):=deN _ 1;have d8:decide ((p.kind:Int)=8)=decide (p.kind=8):=deN _ 8;have d10:decide ((p.kind:Int)=10)=decide (p.kind=10):=deN _ 10;have d3:decide ((p.kind:Int)=3)=decide (p.kind=3):=deN _ 3;have q1:decide ((p.qos:Int)=1)=decide (p.qos=1):=deN _ 1;have q2:decide ((p.qos:Int)=2)=decide (p.qos=2):=deN _ 2;have fin:∀{h4:H} {q:Pq},BQ h4 h1.next q aF→ExtBut (fun j=>j=h1.next) h3 h4→∃v h',(∀kr:K1 (Value×H),bGd h4 (aB h1.next) kr=kr v h')∧SliceE 24 h' v [q.cells aF]∧Ext h h'∧(∀i,sid v=some i→h.next≤i):=by
  intro h4 q b4 x4;have x04:Ext h h4:=⟨kG xx.next x4.next,fun i hi=>by rw[x4.get i (kH hi xx.next) (by omega)];exact xx.get i hi⟩;obtain⟨h5,v,e5,s5,sv,x5⟩:=aUk ka (h:=h4) q;refine⟨v,h5,fun kr=>?_,s5,x04.trans x5,fun i hi=>by rw[sv]at hi;have:=x04.next;simp only[kE]at hi;omega⟩;simp only[bGd,b4.all,WzO.S,e5]
 unfold oH;by_cases k1:p.kind=1
 ·rw[kC k1]at d1;rw[kB k1];have bz2:A.zF WzD.Z38L [(0,1,.int .u8 2),(20,1,.bool m.present)]=some (.agg ⟨({zq 2 with present:=m.present}:Pq).cells aF⟩):=by kernel_rfl
  obtain⟨h5,v,e5,s5,sv,x5⟩:=aUk ka (h:=h3) {zq 2 with present:=m.present};refine⟨v,h5,?_,s5,xx.trans x5,fun i hi=>by rw[sv]at hi;have:=xx.next;simp only[kE]at hi;omega⟩;simp only[F22,xT,aEa,e0,e1,WzO.S,WzO.n0,l4,bz,e2,e3,aEz,aRp,m0,aRo,zQ,d1,cAu,lp,bz2,e5]
 rw[kD k1]at d1;rw[kA k1];by_cases k8:p.kind=8
 ·rw[kC k8]at d8;rw[kB k8];obtain⟨h4,e4,b4,x4⟩:=b3.set (i:=0) (v:=.int .u8 9) (q':={zq 9 with id:=p.id}) (w':=aF) (by omega) rfl rfl;have lc4:A.load false 1 (.pointer (some ⟨h0.next,32,none⟩)) h4=some (str m.codes):=by
   have:NB h4 h0.next m:=⟨by rw[x4.get _ b13.2 (by have:=b1.2;omega)];exact b13.1,kH b13.2 x4.next⟩;exact this.ld rfl
  obtain⟨h5,e5,b5,x5⟩:=b4.set (i:=23) (v:=str m.codes) (q':={zq 9 with id:=p.id,codes:=m.codes}) (w':=aF) (by omega) rfl rfl;obtain⟨v,h6,f1,f2,f3,f4⟩:=fin b5 (x4.trans x5);refine⟨v,h6,?_,f2,f3,f4⟩;simp only[F22,xT,aEa,e0,e1,WzO.S,WzO.n0,l4,bz,e2,e3,aEz,aRp,m0,aRo,zQ,d1,aXj,d8,cAv,e4,lc4,e5,f1]
 rw[kD k8]at d8;rw[kA k8];by_cases k10:p.kind=10
 ·rw[kC k10]at d10;rw[kB k10];obtain⟨h4,e4,b4,x4⟩:=b3.set (i:=0) (v:=.int .u8 11) (q':={zq 11 with id:=p.id}) (w':=aF) (by omega) rfl rfl;obtain⟨v,h6,f1,f2,f3,f4⟩:=fin b4 x4;refine⟨v,h6,?_,f2,f3,f4⟩;simp only[F22,xT,aEa,e0,e1,WzO.S,WzO.n0,l4,bz,e2,e3,aEz,aRp,m0,aRo,zQ,d1,aXj,d8,bGe,d10,cAw,e4,f1]
 rw[kD k10]at d10;rw[kA k10];have pre:∀kr kn:K1 (Value×H),aEz h3 (aB h.next) (aB h0.next) (aB h1.next) kr kn=bif decide (p.kind=3)then aRn h3 (aB h.next) (aB h1.next) kr kn else kr (.slice none 0 0) h3:=by
  intro kr kn;simp only[aEz,aRp,WzO.S,WzO.n0,m0,aRo,zQ,d1,aXj,d8,bGe,d10,cAy,d3,cAx]
 by_cases k3:p.kind=3
 ·by_cases c1:p.qos=1
  ·rw[kB ⟨k3,c1⟩];rw[kC c1]at q1;obtain⟨h4,e4,b4,x4⟩:=b3.set (i:=0) (v:=.int .u8 4) (q':={zq 4 with id:=p.id}) (w':=aF) (by omega) rfl rfl;obtain⟨v,h6,f1,f2,f3,f4⟩:=fin b4 x4;refine⟨v,h6,?_,f2,f3,f4⟩;have a1:A.zA prog .add 5 (.int .u8 4) (.int .u8 (p.qos:Int))=some (.int .u8 5):=by rw[c1];rfl
   have a2:A.zA prog .sub 5 (.int .u8 5) (.int .u8 1)=some (.int .u8 4):=by rfl
   simp only[F22,xT,aEa,e0,e1,WzO.S,WzO.n0,l4,bz,e2,e3,pre,kC k3,aRn,m2,aK,q1,a1,a2,e4,f1]
  ·rw[kA (fun h=>c1 h.2)];rw[kD c1]at q1;by_cases c2:p.qos=2
   ·rw[kB ⟨k3,c2⟩];rw[kC c2]at q2;obtain⟨h4,e4,b4,x4⟩:=b3.set (i:=0) (v:=.int .u8 5) (q':={zq 5 with id:=p.id}) (w':=aF) (by omega) rfl rfl;obtain⟨v,h6,f1,f2,f3,f4⟩:=fin b4 x4;refine⟨v,h6,?_,f2,f3,f4⟩;have a1:A.zA prog .add 5 (.int .u8 4) (.int .u8 (p.qos:Int))=some (.int .u8 6):=by rw[c2];rfl
    have a2:A.zA prog .sub 5 (.int .u8 6) (.int .u8 1)=some (.int .u8 5):=by rfl
    simp only[F22,xT,aEa,e0,e1,WzO.S,WzO.n0,l4,bz,e2,e3,pre,kC k3,aRn,m2,aK,q1,q2,a1,a2,e4,f1]
   ·rw[kA (fun h=>c2 h.2)];rw[kD c2]at q2;refine⟨aF,h3,?_,(Vec.nil 24 h3).slice,xx,fun i hi=>by cases hi⟩;simp only[F22,xT,aEa,e0,e1,WzO.S,WzO.n0,l4,bz,e2,e3,pre,kC k3,aRn,m2,aK,q1,q2]
 ·rw[kA (fun h=>k3 h.1),kA (fun h=>k3 h.1)];refine⟨aF,h3,?_,(Vec.nil 24 h3).slice,xx,fun i hi=>by cases hi⟩;simp only[F22,xT,aEa,e0,e1,WzO.S,WzO.n0,l4,bz,e2,e3,pre,kD k3]
theorem cGq {B:H}{x0:Value}{l:List Nt}(r:NIn B x0 l)(client:List UInt8)(C:CF)(L:Nat):∀(d i m:Nat) (h:H) (v:Value) (acc:List Ms),i+d=l.length→d<m→acc.length+d≤1000→Ext B h→Vec 4 h v (acc.map msC)→(∀j,sid v=some j→B.next≤j)→
 ∃h' v',(∀(β:Type) (kx:K1 β),aGk C L kx m (.int .i64 (l.length:Int)) (.int .i64 (i:Int)) (str client) x0 v h=kx v' h')∧Ext B h'∧Vec 4 h' v' ((acc++cN client (l.drop i)).map msC)∧(∀j,sid v'=some j→B.next≤j):=by
 have _:=ka;intro d
 induction d with
 |zero=>
  intro i m h v acc hi hm ha x vv sv;obtain⟨m,rfl⟩:∃r,m=r+1:=⟨m-1,by omega⟩;have dl:decide ((i:Int)<(l.length:Int))=false:=by rw[kI];omega
  refine⟨h,v,fun β kx=>?_,x,?_,sv⟩
  ·simp only[aGk,aRm,zZ,dl,WzO.S]
  ·rw[pL (by omega),show cN client []=[]from rfl,List.append_nil];exact vv
 |succ d ih=>
  intro i m h v acc hi hm ha x vv sv;obtain⟨m,rfl⟩:∃r,m=r+1:=⟨m-1,by omega⟩;have dl:decide ((i:Int)<(l.length:Int))=true:=by rw[kJ];omega
  obtain⟨n,hni⟩:∃n,l[i]?=some n:=⟨_,kN (by omega)⟩;have hl:=r.le;obtain⟨id,off,ix,ld⟩:=nK r hni;obtain⟨_,la,_,_⟩:=ld h x;obtain⟨h1,h2,e1,e2,b2,x2⟩:=uO h n;have l3:A.load false 1 (.pointer (some ⟨h.next,3,none⟩)) h2=some (str n.client):=b2.ld rfl;have l0:A.load false 1 (.pointer (some ⟨h.next,0,none⟩)) h2=some (.int .u8 (n.kind:Int)):=b2.ld rfl;have lm:=b2.msg;have se:=cV n.client client;have d6:decide ((n.kind:Int)=6)=decide (n.kind=6):=deN _ 6;have d8:decide ((n.kind:Int)=8)=decide (n.kind=8):=deN _ 8;have wr:=aI (n:=i) (by omega);have v2:=vv.ext x2;have hd:l.drop i=n::l.drop (i+1):=aQ hni;have q:∀(β:Type) (kn:K7 β),bGb h2 (str client) v (aB h.next) x0 (.int .i64 (l.length:Int)) (.int .i64 (i:Int)) kn=kn (.bool (decide (n.client=client∧(n.kind=6∨n.kind=8)))) (aB h.next) (.int .i64 (i:Int)) (.int .i64 (l.length:Int)) (str client) x0 v h2:=by
   intro β kn;simp only[bGb,WzO.S,WzO.n0,l3,se,l0,zQ,d6,d8];by_cases c1:n.client=client
   ·rw[kC c1];by_cases c2:n.kind=6
    ·rw[kC c2,kC (show n.client=client∧(n.kind=6∨n.kind=8)from⟨c1,Or.inl c2⟩)];rfl
    ·rw[kD c2,show decide (n.client=client∧(n.kind=6∨n.kind=8))=decide (n.kind=8)from decide_eq_decide.2 ⟨fun h=>h.2.resolve_left c2,fun h=>⟨c1,Or.inr h⟩⟩];rfl
   ·rw[kD c1,kD (show¬(n.client=client∧(n.kind=6∨n.kind=8))from fun h=>c1 h.1)];rfl
  by_cases c:n.client=client∧(n.kind=6∨n.kind=8)
  ·rw[kC c]at q;obtain⟨h3,h4,w1,w2,e3,e4,x4,v4,s4,_⟩:=lN (bs:=40) (z:=WzD.Z35L) (y:=.agg ⟨msC n.msg⟩) (e:=msC n.msg) (x.trans x2) v2 sv rfl rfl rfl (by omega) (by rw[pA];omega) (by rw[pA];omega);have hm2:cN client (l.drop i)=n.msg::cN client (l.drop (i+1)):=by
    rw[hd];unfold cN;rw[List.filter_cons_of_pos (by rw[kC c]),List.map_cons]
   obtain⟨h',v',f1,f2,f3,f4⟩:=ih (i+1) m h4 w2 (acc++[n.msg]) (by omega) (by omega) (by simp;omega) x4 (by rw[List.map_append];exact v4) (fun j hj=>by rw[s4]at hj;have:=(x.trans x2).next;simp only[kE]at hj;omega);refine⟨h',v',fun β kx=>?_,f2,by rw[hm2,List.append_cons];exact f3,f4⟩;simp only[aGk,aRm,zZ,dl,WzO.S,aLk,bGc,ix,la,e1,e2,q,bGa,WzO.n0,lm,e3,e4,aXi,aG,wr,f1]
  ·rw[kD c]at q;have hm2:cN client (l.drop i)=cN client (l.drop (i+1)):=by
    rw[hd];unfold cN;rw[List.filter_cons_of_neg (by rw[kD c];decide)]
   obtain⟨h',v',f1,f2,f3,f4⟩:=ih (i+1) m h2 v acc (by omega) (by omega) (by omega) (x.trans x2) v2 sv;refine⟨h',v',fun β kx=>?_,f2,by rw[hm2];exact f3,f4⟩;simp only[aGk,aRm,zZ,dl,WzO.S,aLk,bGc,ix,la,e1,e2,q,bGa,aXi,aG,wr,f1]
theorem T23 {n:Nat}(hn:300≤n){x0:Value}{l:List Nt}(r:NIn h x0 l)(client:List UInt8):∃v h',aA prog 2 Q n 23 [x0,str client] h=some (v,h')∧SliceE 4 h' v ((cN client l).map msC)∧Ext h h'∧(∀i,sid v=some i→h.next≤i):=by
 obtain⟨n,rfl⟩:∃m,n=m+1:=⟨n-1,by omega⟩;rw[bWt Q n _ _ h (ka.fr 23 _ (by decide))];have hl:=r.le;obtain⟨h',v',f1,f2,f3,f4⟩:=cGq ka r client (aA prog 2 Q n) n l.length 0 n h aF [] (by omega) (by omega) (by simp;omega) (Ext.refl h) (Vec.nil 4 h) (fun j hj=>by cases hj);have ln:=r.len;refine⟨v',h',?_,f3.slice,f2,f4⟩;simp only[F23,bAo,cAt,aZe,cAs,ln,WzO.S,cAr];exact f1 _ _
def oG (l:List Nat):List (List Value):=l.map fun(i:Nat)=>[Value.int .i64 (i:Int)]
structure aUb (h:H)(c1 c3 wp:Nat)(vm:Value)(ends:List Nat):Prop where
 a1:h.get c1=some (.cells [vm] (some 0))∧c1<h.next
 a3:∃v,h.get c3=some (.cells [v] (some 0))∧Vec 1 h v (oG ends)∧(∀i,sid v=some i→i≠c1∧i≠c3∧i≠wp)
 lt:c3<h.next
 ne:c1≠c3
abbrev iF (c1 c3:Nat):Value:=.func (.func 43) ⟨[]⟩ ⟨[aB c3,aB c1]⟩
theorem T24 {n wp:Nat}(hn:300≤n)(hwp:wp<h.next){vm:Value}{ms:List Ms}(sl:SliceE 4 h vm (ms.map msC))(hl:ms.length≤200):∃c1 c3 h',aA prog 2 Q n 24 [vm] h=some (iF c1 c3,h')∧aUb h' c1 c3 wp vm (List.range ms.length)∧Ext h h'∧h.next≤c1∧h.next≤c3:=by
 obtain⟨n,rfl⟩:∃m,n=m+1:=⟨n-1,by omega⟩;rw[bWs Q n _ h (ka.fr 24 _ (by decide))];have hcv:=sl.cells;obtain⟨h1,hh1⟩:∃h1,h1=h.push (.cells [vm] (some 0)):=⟨_,rfl⟩;have e1:A.zJ 1 vm h=some (aB h.next,h1):=by rw[aJm,hcv,hh1];rfl
 have x1:Ext h h1:=by rw[hh1];exact Ext.push h _
 have n1:h1.next=h.next+1:=by rw[hh1];rfl
 have g1:h1.get h.next=some (.cells [vm] (some 0)):=by rw[hh1,H.get_push,kB rfl]
 obtain⟨h2,hh2⟩:∃h2,h2=h1.push (.cells [aF] (some 0)):=⟨_,rfl⟩;have e2:A.zJ 1 WzD.Z84 h1=some (aB h1.next,h2):=by rw[hh2];rfl
 have x2:Ext h1 h2:=by rw[hh2];exact Ext.push h1 _
 have n2:h2.next=h1.next+1:=by rw[hh2];rfl
 have g2:h2.get h1.next=some (.cells [aF] (some 0)):=by rw[hh2,H.get_push,kB rfl]
 have ln:A.zG vm=some (.int .i64 (ms.length:Int)):=by have:=sl.len.1;rw[pA]at this;exact this
 have lp:∀(L d i m:Nat) (h':H) (v:Value),i+d=ms.length→d<m→Ext h h'→h1.next<h'.next→h'.get h.next=some (.cells [vm] (some 0))→h'.get h1.next=some (.cells [v] (some 0))→Vec 1 h' v (oG (List.range i))→(∀j,sid v=some j→h1.next<j)→
  ∃h3 v3,(∀(β:Type) (kx:K2 β),aGj (aA prog 2 Q n) L kx m (.int .i64 (ms.length:Int)) (.int .i64 (i:Int)) (aB h.next) (aB h1.next) h'=kx (aB h.next) (aB h1.next) h3)∧Ext h h3∧h1.next<h3.next∧h3.get h.next=some (.cells [vm] (some 0))∧h3.get h1.next=some (.cells [v3] (some 0))∧Vec 1 h3 v3 (oG (List.range ms.length))∧(∀j,sid v3=some j→h1.next<j):=by
  intro L d
  induction d with
  |zero=>
   intro i m h' v hi hm x lt ga gb vv sv;obtain⟨m,rfl⟩:∃r,m=r+1:=⟨m-1,by omega⟩;have dl:decide ((i:Int)<(ms.length:Int))=false:=by rw[kI];omega
   refine⟨h',v,fun β kx=>?_,x,lt,ga,gb,by rw[←show i=ms.length by omega];exact vv,sv⟩;simp only[aGj,aXh,zZ,dl,WzO.S]
  |succ d ih=>
   intro i m h' v hi hm x lt ga gb vv sv;obtain⟨m,rfl⟩:∃r,m=r+1:=⟨m-1,by omega⟩;have dl:decide ((i:Int)<(ms.length:Int))=true:=by rw[kJ];omega
   have ldv:A.load false 1 (aB h1.next) h'=some v:=by rw[qK,gb];rfl
   have x':Ext h h':=x;have il:(oG (List.range i)).length=i:=by unfold oG;rw[pA,List.length_range]
   obtain⟨h3,h4,w1,w2,e3,e4,x4,v4,s4,b4⟩:=lN (bs:=8) (z:=WzD.Z3L) (y:=.int .i64 (i:Int)) (e:=[.int .i64 (i:Int)]) x' vv (fun j hj=>by have:=sv j hj;omega) rfl rfl rfl (by omega) (by rw[il];omega) (by rw[il];omega);have ga4:h4.get h.next=some (.cells [vm] (some 0)):=by rw[b4.get _ (by omega) (fun e=>by have:=sv _ e;omega)];exact ga
   have gb4:h4.get h1.next=some (.cells [v] (some 0)):=by rw[b4.get _ (by omega) (fun e=>by have:=sv _ e;omega)];exact gb
   have c4:=v4.slice.cells;obtain⟨h5,hh5⟩:∃h5,h5=h4.put h1.next (.cells [w2] (some 0)):=⟨_,rfl⟩;have e5:A.store 1 (aB h1.next) w2 h4=some h5:=by rw[qU,gb4,c4,hh5];rfl
   have x5:ExtBut (fun j=>j=h1.next) h4 h5:=by rw[hh5];exact ExtBut.put ⟨kF _,fun _ _ _=>rfl⟩ _ _ rfl
   have n5:h5.next=h4.next:=by rw[hh5];rfl
   have lt4:h1.next<h4.next:=kH lt b4.next;have wr:A.zA prog .add 3 (.int .i64 (i:Int)) (.int .i64 1)=some (.int .i64 ((i+1:Nat):Int)):=by rw[aG,aI (by omega)]
   have v5:Vec 1 h5 w2 (oG (List.range (i+1))):=by
    have:oG (List.range (i+1))=oG (List.range i)++[[.int .i64 (i:Int)]]:=by unfold oG;rw[List.range_succ,List.map_append];rfl
    rw[this];exact v4.extBut x5 (fun j hj e=>by rw[s4]at hj;simp only[kE]at hj;omega)
   obtain⟨h6,v6,f1,f2,f3,f4,f5,f6,f7⟩:=ih (i+1) m h5 w2 (by omega) (by omega) (aT x4 x5 (by omega)) (by omega) (by rw[x5.get _ (by omega) (by omega)];exact ga4) (by rw[hh5,H.get_put,kB rfl]) v5 (fun j hj=>by rw[s4]at hj;simp only[kE]at hj;omega);refine⟨h6,v6,fun β kx=>?_,f2,f3,f4,f5,f6,f7⟩;simp only[aGj,aXh,zZ,dl,WzO.S,ldv,e3,e4,e5,wr,f1]
 obtain⟨h3,v3,f1,f2,f3,f4,f5,f6,f7⟩:=lp n ms.length 0 n h2 aF (by omega) (by omega) (x1.trans x2) (by omega) (by rw[x2.get _ (by omega)];exact g1) g2 (Vec.nil 1 h2) (fun j hj=>by cases hj);have f1:∀(β:Type) (kx:K2 β),aGj (aA prog 2 Q n) n kx n (.int .i64 (ms.length:Int)) (.int .i64 0) (aB h.next) (aB h1.next) h2=kx (aB h.next) (aB h1.next) h3:=f1;have ld:A.load false 1 (aB h.next) h2=some vm:=by rw[qK,x2.get _ (by omega),g1];rfl
 refine⟨h.next,h1.next,h3,?_,⟨⟨f4,by omega⟩,⟨v3,f5,f6,fun i hi=>by have:=f7 i hi;omega⟩,f3,by omega⟩,f2,kF _,by omega⟩;simp only[F24,bAn,cAq,e1,WzO.S,e2,aYk,cAp,ld,ln,f1,cAo]
theorem T43 {n wp:Nat}(hn:300≤n)(hwp:wp<h.next){vm:Value}{ms:List Ms}{c1 c3:Nat}{ends:List Nat}(f:aUb h c1 c3 wp vm ends)(sl:SliceE 4 h vm (ms.map msC))(he:ends.length≤200)(hb:∀i∈ends,i≤1000)(m:Ms):
 ∃h',aAk prog (aA prog 2 Q n) (iF c1 c3) [.agg ⟨msC m⟩] h=some (.bool (decide (dB ms m ends≠[])),h')∧aUb h' c1 c3 wp vm (dB ms m ends)∧ExtBut (fun j=>j=c3) h h':=by
 have hcm:aAk prog (aA prog 2 Q n) (iF c1 c3) [.agg ⟨msC m⟩] h=aA prog 2 Q n 43 [.agg ⟨msC m⟩,aB c3,aB c1] h:=rfl;rw[hcm];obtain⟨n,rfl⟩:∃m,n=m+1:=⟨n-1,by omega⟩;rw[bWb Q n _ _ _ h (ka.fr 43 _ (by decide))];obtain⟨h1,hh1⟩:∃h1,h1=h.push (.cells (msC m) (some 0)):=⟨_,rfl⟩;have e1:A.zJ 4 (.agg ⟨msC m⟩) h=some (aB h.next,h1):=by rw[hh1];rfl
 have x1:Ext h h1:=by rw[hh1];exact Ext.push h _
 have n1:h1.next=h.next+1:=by rw[hh1];rfl
 have g1:h1.get h.next=some (.cells (msC m) (some 0)):=by rw[hh1,H.get_push,kB rfl]
 obtain⟨v,gv,vv,sv⟩:=f.a3;have lt1:=f.a1.2;have lt3:=f.lt;have sle:=vv.slice;have ln:A.zG v=some (.int .i64 (ends.length:Int)):=by have:=sle.len.1;unfold oG at this;rw[pA]at this;exact this
 have lnm:A.zG vm=some (.int .i64 (ms.length:Int)):=by have:=sl.len.1;rw[pA]at this;exact this
 have ne:∀a:List Nat,dB ms m a=(a.filter fun i=>decide (ms[i]?=some m)).map (·+1):=fun _=>rfl;have lp:∀(L d i k:Nat) (h':H) (w:Value) (acc:List Nat),i+d=ends.length→d<k→Ext h1 h'→Vec 1 h' w (oG acc)→(∀j,sid w=some j→h1.next≤j)→acc.length+d≤1000→
  ∃h3 w3,(∀(β:Type) (kx:K2 β),xK (aA prog 2 Q n) L kx k (.int .i64 (ends.length:Int)) (.int .i64 (i:Int)) (aB h.next) (aB c1) v w (aB c3) h'=kx w3 (aB c3) h3)∧Ext h1 h3∧Vec 1 h3 w3 (oG (acc++dB ms m (ends.drop i)))∧(∀j,sid w3=some j→h1.next≤j):=by
  intro L d
  induction d with
  |zero=>
   intro i k h' w acc hi hk x vw sw ha;obtain⟨k,rfl⟩:∃r,k=r+1:=⟨k-1,by omega⟩;have dl:decide ((i:Int)<(ends.length:Int))=false:=by rw[kI];omega
   refine⟨h',w,fun β kx=>?_,x,?_,sw⟩
   ·simp only[xK,aQs,zZ,dl,WzO.S]
   ·rw[pL (by omega),ne,List.filter_nil,List.map_nil,List.append_nil];exact vw
  |succ d ih=>
   intro i k h' w acc hi hk x vw sw ha;obtain⟨k,rfl⟩:∃r,k=r+1:=⟨k-1,by omega⟩;have dl:decide ((i:Int)<(ends.length:Int))=true:=by rw[kJ];omega
   obtain⟨e,hei⟩:∃e,ends[i]?=some e:=⟨_,kN (by omega)⟩;have heb:=hb e (List.mem_of_getElem? hei);obtain⟨id,off,ix,hid,_,ld⟩:=nN sle (i:=i) (e:=[.int .i64 (e:Int)]) (by unfold oG;rw[kX,hei];rfl) .i64;obtain⟨la,_⟩:=ld h' (by rw[x.get _ (by omega),x1.get _ hid]);have la:=la 0 _ rfl;rw[Nat.add_zero]at la;have lc1:A.load false 1 (aB c1) h'=some vm:=by rw[qK,x.get _ (by omega),x1.get _ lt1,f.a1.1];rfl
   have lmm:A.load true 4 (aB h.next) h'=some (.agg ⟨msC m⟩):=by rw[bJ,x.get _ (by omega),g1];rfl
   have wr:A.zA prog .add 3 (.int .i64 (i:Int)) (.int .i64 1)=some (.int .i64 ((i+1:Nat):Int)):=by rw[aG,aI (by omega)]
   have de:decide ((e:Int)<(ms.length:Int))=decide (e<ms.length):=dlN _ _;have hd:ends.drop i=e::ends.drop (i+1):=by
    obtain⟨hi,rfl⟩:=List.getElem?_eq_some_iff.1 hei;exact List.drop_eq_getElem_cons hi
   have skip:ms[e]?≠some m→(∀(β:Type) (kx:K2 β),aQr h' (aB c3) (aB c1) (aB h.next) w (.int .i64 (e:Int)) v (.int .i64 (ends.length:Int)) (.int .i64 (i:Int)) (fun x10 x9 x3 x2 x8 x5 x1 h=>aKj h x1 x2 x3 x5 x8 x9 x10 (fun x9 x10 x3 x2 x8 x5 x1 h=>xK (aA prog 2 Q n) L kx k x9 x10 x3 x2 x8 x5 x1 h))=xK (aA prog 2 Q n) L kx k (.int .i64 (ends.length:Int)) (.int .i64 ((i+1:Nat):Int)) (aB h.next) (aB c1) v w (aB c3) h'):=by
    intro hne β kx;by_cases c:e<ms.length
    ·rw[kC c]at de;obtain⟨y,hy⟩:∃y,ms[e]?=some y:=⟨_,kN c⟩;obtain⟨id2,off2,ix2,hid2,_,ld2⟩:=nN sl (i:=e) (e:=msC y) (by rw[kX,hy];rfl) .i64;obtain⟨_,lb⟩:=ld2 h' (by rw[x.get _ (by omega),x1.get _ hid2]);have lb:A.load true 4 (.pointer (some ⟨id2,off2,none⟩)) h'=some (.agg ⟨msC y⟩):=lb 0 4 (by omega);have eq:=uP y m;rw[kD (fun e=>hne (by rw[hy,e]))]at eq;simp only[aQr,lc1,WzO.S,lnm,zZ,de,ix2,lb,lmm,eq,aKj,wr]
    ·rw[kD c]at de;simp only[aQr,lc1,WzO.S,lnm,zZ,de,aKj,wr]
   by_cases c:ms[e]?=some m
   ·have hlt:e<ms.length:=(List.getElem?_eq_some_iff.1 c).1;rw[kC hlt]at de;obtain⟨id2,off2,ix2,hid2,_,ld2⟩:=nN sl (i:=e) (e:=msC m) (by rw[kX,c];rfl) .i64;obtain⟨_,lb⟩:=ld2 h' (by rw[x.get _ (by omega),x1.get _ hid2]);have lb:A.load true 4 (.pointer (some ⟨id2,off2,none⟩)) h'=some (.agg ⟨msC m⟩):=lb 0 4 (by omega);have eq:=uP m m;rw[kC rfl]at eq;have we:A.zA prog .add 3 (.int .i64 (e:Int)) (.int .i64 1)=some (.int .i64 ((e+1:Nat):Int)):=by rw[aG,aI (by omega)]
    have il:(oG acc).length=acc.length:=pA ..;obtain⟨h3,h4,w1,w2,e3,e4,x4,v4,s4,b4⟩:=lN (bs:=8) (z:=WzD.Z3L) (y:=.int .i64 ((e+1:Nat):Int)) (e:=[.int .i64 ((e+1:Nat):Int)]) x vw sw rfl rfl rfl (by omega) (by rw[il];omega) (by rw[il];omega);have v5:Vec 1 h4 w2 (oG (acc++[e+1])):=by unfold oG at v4⊢;rw[List.map_append];exact v4
    obtain⟨h5,w5,f1,f2,f3,f4⟩:=ih (i+1) k h4 w2 (acc++[e+1]) (by omega) (by omega) x4 v5 (fun j hj=>by rw[s4]at hj;have:=x.next;simp only[kE]at hj;omega) (by simp;omega);have hnx:dB ms m (ends.drop i)=(e+1)::dB ms m (ends.drop (i+1)):=by
     rw[hd,ne,ne,List.filter_cons_of_pos (by rw[kC c]),List.map_cons]
    refine⟨h5,w5,fun β kx=>?_,f2,by rw[hnx,List.append_cons];exact f3,f4⟩;simp only[xK,aQs,zZ,dl,WzO.S,aLj,bEs,ix,la,aQr,lc1,lnm,de,ix2,lb,lmm,eq,we,e3,e4,aKj,wr,f1]
   ·obtain⟨h5,w5,f1,f2,f3,f4⟩:=ih (i+1) k h' w acc (by omega) (by omega) x vw sw (by omega);have hnx:dB ms m (ends.drop i)=dB ms m (ends.drop (i+1)):=by
     rw[hd,ne,ne,List.filter_cons_of_neg (by rw[kD c];decide)]
    have sk:=skip c;refine⟨h5,w5,fun β kx=>?_,f2,by rw[hnx];exact f3,f4⟩;simp only[xK,aQs,zZ,dl,WzO.S,aLj,bEs,ix,la,sk,f1]
 obtain⟨h3,w3,f1,f2,f3,f4⟩:=lp n ends.length 0 n h1 aF [] (by omega) (by omega) (Ext.refl h1) (Vec.nil 1 h1) (fun j hj=>by cases hj) (by simp;omega);have f1:∀(β:Type) (kx:K2 β),xK (aA prog 2 Q n) n kx n (.int .i64 (ends.length:Int)) (.int .i64 0) (aB h.next) (aB c1) v aF (aB c3) h1=kx w3 (aB c3) h3:=f1;rw[List.drop_zero,List.nil_append]at f3;have x3:=x1.trans f2;have g3:h3.get c3=some (.cells [v] (some 0)):=by rw[x3.get _ lt3];exact gv
 have cw:=f3.slice.cells;obtain⟨h4,hh4⟩:∃h4,h4=h3.put c3 (.cells [w3] (some 0)):=⟨_,rfl⟩;have e4:A.store 1 (aB c3) w3 h3=some h4:=by rw[qU,g3,cw,hh4];rfl
 have x4:ExtBut (fun j=>j=c3) h3 h4:=by rw[hh4];exact ExtBut.put ⟨kF _,fun _ _ _=>rfl⟩ _ _ rfl
 have g4:h4.get c3=some (.cells [w3] (some 0)):=by rw[hh4,H.get_put,kB rfl]
 have ld4:A.load false 1 (aB c3) h4=some w3:=by rw[qK,g4];rfl
 have ln3:A.zG w3=some (.int .i64 ((dB ms m ends).length:Int)):=by have:=f3.slice.len.1;unfold oG at this;rw[pA]at this;exact this
 have dp:decide ((0:Int)<((dB ms m ends).length:Int))=decide (dB ms m ends≠[]):=decide_eq_decide.2 ⟨fun h e=>by rw[e]at h;simp at h,fun h=>by have:=List.length_pos_iff.2 h;omega⟩;have ldv:A.load false 1 (aB c3) h1=some v:=by rw[qK,x1.get _ lt3,gv];rfl
 have ne13:=f.ne;refine⟨h4,?_,⟨⟨by rw[x4.get _ (kH lt1 x3.next) ne13,x3.get _ lt1];exact f.a1.1,kH lt1 (kG x3.next x4.next)⟩,⟨w3,g4,f3.extBut x4 (fun j hj e=>by have:=f4 j hj;omega),fun i hi=>by have:=f4 i hi;omega⟩,kH lt3 (kG x3.next x4.next),ne13⟩,⟨kG x3.next x4.next,fun i hi hs=>by rw[x4.get i (kH hi x3.next) hs];exact x3.get i hi⟩⟩;simp only[F43,bAe,bYq,e1,WzO.S,aZf,bYp,ldv,ln,f1,bYo,e4,ld4,ln3,zY,dp]
end
end Go.Proofs.YtohapjojkjjflaaGreatDoor.Wz

set_option maxRecDepth 100000
namespace Go.Proofs.YtohapjojkjjflaaGreatDoor.Wz
open Tryz (prog)
open Go Go.AM WzA WzB WzD
open Go.AM.Pk (K0 K1 K2 K3 K4 K5 K6 K7 K8)
def aV (conn:Int)(l:List Nt):Option (List UInt8):=(l.find? fun n=>decide (n.kind=1∧n.conn=conn∧n.pk.1.kind=1)).map (·.client)
theorem iR (conn:Int)(l:List Nt)(n:Nt):aV conn (l++[n])=match aV conn l with|some c=>some c|none=>if n.kind=1∧n.conn=conn∧n.pk.1.kind=1 then some n.client else none:=by
 unfold aV;rw[List.find?_append]
 cases l.find? fun n=>decide (n.kind=1∧n.conn=conn∧n.pk.1.kind=1)with
 |some c=>rfl
 |none=>
  by_cases h:n.kind=1∧n.conn=conn∧n.pk.1.kind=1
  ·simp[List.find?,h]
  ·simp[List.find?,h]
theorem iO (conn op:Int)(l:List Nt)(n:Nt):cA (l++[n]) conn op=match cA l conn op with|some c=>some c|none=>if n.kind=1∧n.conn=conn∧n.op=op then some n.pk.1 else none:=by
 unfold cA;rw[List.find?_append]
 cases l.find? (oM conn op)with
 |some c=>rfl
 |none=>
  by_cases h:n.kind=1∧n.conn=conn∧n.op=op
  ·simp[List.find?,oM,h]
  ·simp[List.find?,oM,h]
def fH (conn:Int)(cl:Option (List UInt8)):List Nt→Nat→Option Nat→Nat→Option Nat×Nat×Nat
 |[],i,b,f=>(b,f,i)
 |n::r,i,b,f=>
  if cl.isSome=false∨n.kind≠2∨n.client≠cl.getD []then fH conn cl r (i+1) b f
  else
   let b':=if b=none∧n.pk.1.kind=1∧n.conn=conn then some i else b
   let f':=if n.pk.1.kind=1∧n.present=false∧(b'=none∨b'=some i)then i else f
   if b'≠none∧b'≠some i∧n.conn=conn∧(n.pk.1.kind=14∨n.pk.1.kind=0)then(b',f',i)else fH conn cl r (i+1) b' f'
def bI:Option Nat→Int
 |none=> -1
 |some i=>(i:Int)
def MapOK (h:H)(m:Nat)(l:List Nt)(conn:Int):Prop:=∃es c,h.get m=some (.map es c)∧m<h.next∧∀op:Int,match cA l conn op with
 |none=>A.zR (.int .i64 op) es 0=some none
 |some p=>∃i w,A.zR (.int .i64 op) es 0=some (some (i,.agg ⟨p.cells w⟩))∧aJ w=some [w]
theorem MapOK.but {S:Nat→Prop}{h h':H}{m:Nat}{l:List Nt}{conn:Int}(o:MapOK h m l conn)(x:ExtBut S h h')(s:¬S m):MapOK h' m l conn:=by
 obtain⟨es,c,g,lt,r⟩:=o;exact⟨es,c,by rw[x.get m lt s];exact g,kH lt x.next,r⟩
theorem sT (op k:Int)(v:Value)(c:Nat):∀(es:List Ent) (i:Nat),A.zR (.int .i64 op) (es++[⟨.int .i64 k,v,c⟩]) i=match A.zR (.int .i64 op) es i with|some none=>if op=k then some (some (i+es.length,v))else some none|r=>r
 |[],i=>by
  have e:A.zR (.int .i64 op) ([]++[⟨.int .i64 k,v,c⟩]) i=(bif op==k then some (some (i,v))else some none):=rfl
  rw[e];show _=if op=k then some (some (i+0,v))else some none
  by_cases h:op=k
  ·rw[kB h,beq_iff_eq.2 h];rfl
  ·rw[kA h,beq_eq_false_iff_ne.2 h];rfl
 |e::es,i=>by
  have ih:=sT op k v c es (i+1);show(match A.yC (.int .i64 op) e.key with|some b=>(bif b then some (some (i,e.val))else A.zR (.int .i64 op) (es++[⟨.int .i64 k,v,c⟩]) (i+1))|none=>none)=match(match A.yC (.int .i64 op) e.key with|some b=>(bif b then some (some (i,e.val))else A.zR (.int .i64 op) es (i+1))|none=>none)with|some none=>if op=k then some (some (i+(es.length+1),v))else some none|r=>r
  cases A.yC (.int .i64 op) e.key with
  |none=>rfl
  |some b=>
   cases b with
   |true=>rfl
   |false=>
    simp only[cond_false,ih,show i+1+es.length=i+(es.length+1) by omega]
def wC (asked:Bool)(va vm:Value)(packets told:Nat)(first:Pq)(fw:Value)(begun again:Bool)(fits:Value):List Value:=.bool asked::va::vm::.int .i64 (packets:Int)::.int .i64 (told:Int)::(first.cells fw++[.bool begun,.bool again,fits])
theorem dN {h:H}{t i:Nat}{cs cs':List Value}{v:Value}(g:h.get t=some (.cells cs (some 0)))(hv:aJ v=some [v])(hi:i<cs.length)(hc:cs'=cs.set i v):∃h',A.store 1 (.pointer (some ⟨t,i,none⟩)) v h=some h'∧h'.get t=some (.cells cs' (some 0))∧ExtBut (fun j=>j=t) h h'∧h'.next=h.next:=by
 obtain⟨h',hh⟩:∃h',h'=h.put t (.cells cs' (some 0)):=⟨_,rfl⟩;refine⟨h',?_,by rw[hh,H.get_put,kB rfl],by rw[hh];exact ExtBut.put ⟨kF _,fun _ _ _=>rfl⟩ t _ rfl,by rw[hh];rfl⟩;have e1:Nat.ble (i+1) cs.length=true:=ble_iff.2 (by omega);have e0:Nat.beq [v].length 1=true:=rfl;rw[qU,g,hv];simp only[e0,e1,Bool.and_self,cond_true,fZ hi];rw[hh,hc]
section
variable {Q:Orc}(ka:KnA Q)
include ka
theorem bJm {B:H}{x0:Value}{l:List Nt}(r:NIn B x0 l)(conn:Int){n:Nat}(hn:300≤n)(L:Nat){wp mp:Nat}(hw:B.next≤wp)(hm:B.next≤mp)(hwm:wp≠mp):
 ∀(d i m:Nat) (h:H) (va:Value) (acc:List Pq),i+d=l.length→d<m→acc.length≤i→Ext B h→(h.get wp=some (.cells (wC (aV conn (l.take i)).isSome va aF 0 0 (zq 0) aF false false .nilFunc) (some 0))∧wp<h.next)→MapOK h mp (l.take i) conn→
  Vec 24 h va (acc.map fun q=>q.cells aF)→(∀j,sid va=some j→B.next≤j∧j≠wp∧j≠mp)→
  ∃h' va',(∀(β:Type) (kx:K7 β),aGm (aA prog 2 Q n) L kx m (.int .i64 (l.length:Int)) (.int .i64 (i:Int)) (.map (some mp)) x0 (.int .i64 conn) (.int .i64 (-1)) (str ((aV conn (l.take i)).getD [])) (.int .i64 (l.length:Int)) (.int .i64 0) x0 (aB wp) h=kx (.int .i64 conn) (.int .i64 (-1)) (str ((aV conn l).getD [])) (.int .i64 (l.length:Int)) (.int .i64 0) x0 (aB wp) h')∧
   Ext B h'∧(h'.get wp=some (.cells (wC (aV conn l).isSome va' aF 0 0 (zq 0) aF false false .nilFunc) (some 0))∧wp<h'.next)∧Vec 24 h' va' ((acc++jS conn (l.take i) (l.drop i)).map fun q=>q.cells aF)∧(∀j,sid va'=some j→B.next≤j∧j≠wp):=by
 intro d
 induction d with
 |zero=>
  intro i m h va acc hi hmm ha x w mo vv sv;obtain⟨m,rfl⟩:∃r,m=r+1:=⟨m-1,by omega⟩;have dl:decide ((i:Int)<(l.length:Int))=false:=by rw[kI];omega
  have ht:l.take i=l:=pM (by omega);rw[ht]at w⊢;refine⟨h,va,fun β kx=>?_,x,w,?_,fun j hj=>⟨(sv j hj).1,(sv j hj).2.1⟩⟩
  ·simp only[aGm,aXz,zZ,dl,WzO.S]
  ·rw[pL (by omega),show jS conn l []=[]from rfl,List.append_nil];exact vv
 |succ d ih=>
  intro i m h va acc hi hmm ha x w mo vv sv;obtain⟨m,rfl⟩:∃r,m=r+1:=⟨m-1,by omega⟩;have dl:decide ((i:Int)<(l.length:Int))=true:=by rw[kJ];omega
  obtain⟨nt,hni⟩:∃n,l[i]?=some n:=⟨_,kN (by omega)⟩;have hl:=r.le;have hmem:=List.mem_of_getElem? hni;obtain⟨hrg,_,_⟩:=r.rg nt hmem;obtain⟨id,off,ix,ld⟩:=nK r hni;obtain⟨_,la,_,_⟩:=ld h x;obtain⟨h1,h2,e1,e2,b2,x2⟩:=uO h nt;have htk:l.take (i+1)=l.take i++[nt]:=by rw[List.take_add_one,hni];rfl
  have hdr:l.drop i=nt::l.drop (i+1):=aQ hni;have hag:jS conn (l.take i) (l.drop i)=(if nt.kind=3∧nt.conn=conn then oH ((cA (l.take i) conn nt.op).getD (zq 0)) nt else[])++jS conn (l.take (i+1)) (l.drop (i+1)):=by rw[hdr,htk];rfl
  have wr:A.zA prog .add 3 (.int .i64 (i:Int)) (.int .i64 1)=some (.int .i64 ((i+1:Nat):Int)):=by rw[aG,aI (by omega)]
  obtain⟨PRE,hPRE⟩:∃P,P=l.take i:=⟨_,rfl⟩;rw[←hPRE]at w mo hag htk;have w2:h2.get wp=some (.cells (wC (aV conn PRE).isSome va aF 0 0 (zq 0) aF false false .nilFunc) (some 0)):=by rw[x2.get _ w.2];exact w.1
  have wl2:wp<h2.next:=kH w.2 x2.next;have mo2:=mo.but x2.but (S:=fun _=>False) (fun h=>h);have vv2:=vv.ext x2;have xB2:=x.trans x2;have hbx:B.next≤h.next:=x.next;have l0:∀{h':H},NB h' h.next nt→A.load false 1 (.pointer (some ⟨h.next,0,none⟩)) h'=some (.int .u8 (nt.kind:Int)):=fun b=>b.ld rfl;have l1:∀{h':H},NB h' h.next nt→A.load false 1 (.pointer (some ⟨h.next,1,none⟩)) h'=some (.int .i64 nt.op):=fun b=>b.ld rfl;have l2:∀{h':H},NB h' h.next nt→A.load false 1 (.pointer (some ⟨h.next,2,none⟩)) h'=some (.int .i64 nt.conn):=fun b=>b.ld rfl;have l3:∀{h':H},NB h' h.next nt→A.load false 1 (.pointer (some ⟨h.next,3,none⟩)) h'=some (str nt.client):=fun b=>b.ld rfl;have l4:∀{h':H},NB h' h.next nt→A.load false 1 (.pointer (some ⟨h.next,4,none⟩)) h'=some (.int .u8 (nt.pk.1.kind:Int)):=fun b=>b.ld rfl;have d1:decide ((nt.kind:Int)=1)=decide (nt.kind=1):=deN _ 1;have d3:decide ((nt.kind:Int)=3)=decide (nt.kind=3):=deN _ 3;have dk:decide ((nt.pk.1.kind:Int)=1)=decide (nt.pk.1.kind=1):=deN _ 1;have nbm:∀{S:Nat→Prop} {h' h'':H},NB h' h.next nt→ExtBut S h' h''→¬S h.next→NB h'' h.next nt:=fun b x s=>⟨by rw[x.get _ b.2 s];exact b.1,kH b.2 x.next⟩;have hwn:h.next≠wp:=by have:=w.2;omega
  have hmn:h.next≠mp:=by obtain⟨_,_,_,lt,_⟩:=mo;omega
  obtain⟨h5,PC,hPC,st5,x5,w5,wl5,mo5,vv5,b5⟩:∃h5 PC,PC=aV conn (PRE++[nt])∧(∀(β:Type) (kn:Value→Value→Value→Value→Value→Value→Value→Value→Value→Value→Value→Value→H→Option β),aGx h2 x0 (.int .i64 conn) (aB wp) (.map (some mp)) (str ((aV conn PRE).getD [])) (.int .i64 (-1)) (.int .i64 0) (.int .i64 (l.length:Int)) (aB h.next) x0 (.int .i64 (l.length:Int)) (.int .i64 (i:Int)) kn=kn (aB h.next) (.int .i64 (i:Int)) (.int .i64 (l.length:Int)) (.map (some mp)) x0 (.int .i64 conn) (.int .i64 (-1)) (str (PC.getD [])) (.int .i64 (l.length:Int)) (.int .i64 0) x0 (aB wp) h5)∧
   Ext B h5∧h5.get wp=some (.cells (wC PC.isSome va aF 0 0 (zq 0) aF false false .nilFunc) (some 0))∧wp<h5.next∧MapOK h5 mp (PRE++[nt]) conn∧Vec 24 h5 va (acc.map fun q=>q.cells aF)∧NB h5 h.next nt:=by
   by_cases c1:nt.kind=1∧nt.conn=conn
   ·obtain⟨es,c,gm,lm,mf⟩:=mo2;obtain⟨pv,ok,hlk,hcells,hok,hval⟩:∃(pv:Value) (ok:Bool),A.zT false WzD.Z38 true (.int .i64 nt.op) (.map (some mp)) h2=some (.tuple ⟨[pv,.bool ok]⟩)∧(∃p w,pv=.agg ⟨Pq.cells p w⟩)∧ok=(cA PRE conn nt.op).isSome∧(ok=false→A.zR (.int .i64 nt.op) es 0=some none):=by
     have hlk:A.zT false WzD.Z38 true (.int .i64 nt.op) (.map (some mp)) h2=match A.zR (.int .i64 nt.op) es 0 with|some (some (_,v))=>some (.tuple ⟨[v,.bool true]⟩)|some none=>some (.tuple ⟨[WzD.Z38,.bool false]⟩)|none=>none:=by
      show A.zV WzD.Z38 true (.int .i64 nt.op) (.map (some mp)) h2=_;unfold A.zV;simp only[gm];rfl
     have:=mf nt.op
     cases hf:cA PRE conn nt.op with
     |none=>
      rw[hf]at this;rw[this]at hlk;exact⟨_,_,hlk,⟨zq 0,aF,rfl⟩,rfl,fun _=>this⟩
     |some p=>
      rw[hf]at this;obtain⟨j,w,f1,_⟩:=this;rw[f1]at hlk;exact⟨_,_,hlk,⟨p,w,rfl⟩,rfl,fun h=>by cases h⟩
    obtain⟨p,pw,rfl⟩:=hcells;obtain⟨h3,h4,e3,e4,_,x4⟩:=oR h2 p pw;have b4:=b2.ext x4;have lpk:=b4.pk;obtain⟨h5,st5,x5,mo5,lk5⟩:∃h5,(bif !ok then A.yA false (.int .i64 nt.op) (.agg ⟨nt.pk.c⟩) (.map (some mp)) h4=some h5 else h5=h4)∧ExtBut (fun j=>j=mp) h4 h5∧MapOK h5 mp (PRE++[nt]) conn∧h5.next=h4.next:=by
     cases ok with
     |true=>
      refine⟨h4,rfl,⟨kF _,fun _ _ _=>rfl⟩,?_,rfl⟩;refine⟨es,c,by rw[x4.get _ lm];exact gm,kH lm x4.next,fun op=>?_⟩;rw[iO];have:=mf op
      cases hf:cA PRE conn op with
      |some p=>rw[hf]at this;exact this
      |none=>
       rw[hf]at this;have hne:¬(nt.kind=1∧nt.conn=conn∧nt.op=op):=fun h=>by rw[h.2.2,hf]at hok;cases hok
       simp only[kA hne];exact this
     |false=>
      have hf0:=hval rfl;have hn0:cA PRE conn nt.op=none:=by cases hf:cA PRE conn nt.op with|none=>rfl|some p=>rw[hf]at hok;cases hok
      obtain⟨h5,hh5⟩:∃h5,h5=h4.put mp (.map (es++[⟨.int .i64 nt.op,.agg ⟨nt.pk.c⟩,c⟩]) (c+1)):=⟨_,rfl⟩;have gm4:h4.get mp=some (.map es c):=by rw[x4.get _ lm];exact gm
      have eu:A.yA false (.int .i64 nt.op) (.agg ⟨nt.pk.c⟩) (.map (some mp)) h4=some h5:=by
       show A.zS (.int .i64 nt.op) (.agg ⟨nt.pk.c⟩) (.map (some mp)) h4=_;unfold A.zS;simp only[gm4,hf0];rw[hh5]
      refine⟨h5,eu,by rw[hh5];exact ExtBut.put ⟨kF _,fun _ _ _=>rfl⟩ mp _ rfl,⟨_,_,by rw[hh5,H.get_put,kB rfl],by rw[hh5];exact kH lm x4.next,fun op=>?_⟩,by rw[hh5];rfl⟩;rw[iO,sT];have:=mf op
      cases hf:cA PRE conn op with
      |some p=>
       rw[hf]at this;obtain⟨j,w,f1,f2⟩:=this;exact⟨j,w,by rw[f1],f2⟩
      |none=>
       rw[hf]at this;by_cases c2:nt.op=op
       ·simp only[kB (show nt.kind=1∧nt.conn=conn∧nt.op=op from⟨c1.1,c1.2,c2⟩)];exact⟨_,nt.pk.2.2,by rw[this];simp only[kB c2.symm];rfl,(r.sub nt hmem).cells⟩
       ·simp only[kA (show¬(nt.kind=1∧nt.conn=conn∧nt.op=op)from fun h=>c2 h.2.2)];rw[this];simp only[kA (fun h:op=nt.op=>c2 h.symm)]
    have w5:h5.get wp=some (.cells (wC (aV conn PRE).isSome va aF 0 0 (zq 0) aF false false .nilFunc) (some 0)):=by rw[x5.get _ (kH wl2 x4.next) hwm,x4.get _ wl2];exact w2
    have wl5:wp<h5.next:=by rw[lk5];exact kH wl2 x4.next
    have xB5:Ext B h5:=aT (xB2.trans x4) x5 hm;have b5:=nbm b4 x5 hmn;have vv5:Vec 24 h5 va (acc.map fun q=>q.cells aF):=(vv2.ext x4).extBut x5 (fun j hj e=>(sv j hj).2.2 e);have law:A.load false 1 (.pointer (some ⟨wp,0,none⟩)) h5=some (.bool (aV conn PRE).isSome):=by rw[qK,w5];rfl
    have t0:∀a b:Value,A.z 0 (.tuple ⟨[a,b]⟩)=some a:=fun _ _=>rfl;have t1:∀a b:Value,A.z 1 (.tuple ⟨[a,b]⟩)=some b:=fun _ _=>rfl;have pre:∀(β:Type) (kn:Value→Value→Value→Value→Value→Value→Value→Value→Value→Value→Value→Value→H→Option β),aGx h2 x0 (.int .i64 conn) (aB wp) (.map (some mp)) (str ((aV conn PRE).getD [])) (.int .i64 (-1)) (.int .i64 0) (.int .i64 (l.length:Int)) (aB h.next) x0 (.int .i64 (l.length:Int)) (.int .i64 (i:Int)) kn=aSb h5 x0 (.int .i64 conn) (aB wp) (.map (some mp)) (str ((aV conn PRE).getD [])) (.int .i64 (-1)) (.int .i64 0) (.int .i64 (l.length:Int)) (aB h.next) x0 (.int .i64 (l.length:Int)) (.int .i64 (i:Int)) kn:=by
     intro β kn;have dc:decide (nt.conn=conn)=true:=kC c1.2;simp only[aGx,bGu,WzO.S,WzO.n0,l0 b2,zQ,d1,kC c1.1,l2 b2,dc,cCe,l1 b2,hlk,t0,t1,e3,e4,l1 b4,lpk]
     cases ok with
     |true=>simp only[sA,cond_false]at st5⊢;rw[st5]
     |false=>simp only[sB,cond_true]at st5⊢;rw[st5,qZ]
    by_cases c2:(aV conn PRE).isSome=true
    ·-- it was asked before
     have hPC:aV conn (PRE++[nt])=aV conn PRE:=by
      rw[iR]
      cases ha:aV conn PRE with
      |some c=>rfl
      |none=>rw[ha]at c2;cases c2
     rw[c2]at law;refine⟨h5,aV conn PRE,hPC.symm,fun β kn=>?_,xB5,w5,wl5,mo5,vv5,b5⟩;rw[pre];simp only[aSb,WzO.S,WzO.n0,law]
    ·have c2':(aV conn PRE).isSome=false:=by cases h:(aV conn PRE).isSome with|false=>rfl|true=>exact absurd h c2
     have hn:aV conn PRE=none:=by cases ha:aV conn PRE with|none=>rfl|some c=>rw[ha]at c2';cases c2'
     rw[c2']at law;by_cases c3:nt.pk.1.kind=1
     ·have hPC:aV conn (PRE++[nt])=some nt.client:=by
       rw[iR,hn];simp only[kB (show nt.kind=1∧nt.conn=conn∧nt.pk.1.kind=1 from⟨c1.1,c1.2,c3⟩)]
      obtain⟨h6,e6,g6,x6,n6⟩:=dN (i:=0) (v:=.bool true) (cs':=wC true va aF 0 0 (zq 0) aF false false .nilFunc) w5 rfl (by rw[show(wC (aV conn PRE).isSome va aF 0 0 (zq 0) aF false false .nilFunc).length=32 from rfl];omega) rfl;have b6:=nbm b5 x6 hwn;refine⟨h6,some nt.client,hPC.symm,fun β kn=>?_,aT xB5 x6 hw,g6,by omega,mo5.but x6 (fun e=>hwm e.symm),vv5.extBut x6 (fun j hj e=>(sv j hj).2.1 e),b6⟩;rw[pre];simp only[aSb,WzO.S,WzO.n0,Nat.add_zero,law,l4 b5,zQ,dk,kC c3,e6,l3 b6];rfl
     ·have hPC:aV conn (PRE++[nt])=aV conn PRE:=by
       rw[iR,hn];simp only[kA (show¬(nt.kind=1∧nt.conn=conn∧nt.pk.1.kind=1)from fun h=>c3 h.2.2)]
      refine⟨h5,aV conn PRE,hPC.symm,fun β kn=>?_,xB5,w5,wl5,mo5,vv5,b5⟩;rw[pre];simp only[aSb,WzO.S,WzO.n0,Nat.add_zero,law,l4 b5,zQ,dk,kD c3]
   ·have hPC:aV conn (PRE++[nt])=aV conn PRE:=by
     rw[iR]
     cases aV conn PRE with
     |some c=>rfl
     |none=>simp only[kA (show¬(nt.kind=1∧nt.conn=conn∧nt.pk.1.kind=1)from fun h=>c1 ⟨h.1,h.2.1⟩)]
    have mo5:MapOK h2 mp (PRE++[nt]) conn:=by
     obtain⟨es,c,gm,lm,mf⟩:=mo2;refine⟨es,c,gm,lm,fun op=>?_⟩;rw[iO];have:=mf op
     cases hf:cA PRE conn op with
     |some p=>rw[hf]at this;exact this
     |none=>
      rw[hf]at this;simp only[kA (show¬(nt.kind=1∧nt.conn=conn∧nt.op=op)from fun h=>c1 ⟨h.1,h.2.1⟩)];exact this
    refine⟨h2,aV conn PRE,hPC.symm,fun β kn=>?_,xB2,w2,wl2,mo5,vv2,b2⟩;simp only[aGx,bGu,WzO.S,WzO.n0,l0 b2,zQ,d1,l2 b2];by_cases c2:nt.kind=1
    ·have dc:decide (nt.conn=conn)=false:=kD (fun h=>c1 ⟨c2,h⟩);simp only[kC c2,WzO.S,dc,bGt]
    ·simp only[kD c2,WzO.S,bGt]
  obtain⟨h9,va9,st9,x9,w9,wl9,mo9,vv9,sv9,len9⟩:∃h9 va9,(∀(β:Type) (kn:Value→Value→Value→Value→Value→Value→Value→Value→Value→Value→Value→H→Option β),(aXy h5 x0 (.int .i64 conn) (aB wp) (.map (some mp)) (str (PC.getD [])) (.int .i64 (-1)) (.int .i64 0) (.int .i64 (l.length:Int)) (aB h.next) x0 (.int .i64 (l.length:Int)) (.int .i64 (i:Int)) (fun x76 x12 x25 x24 x6 x23 x1 x8 x7 x10 x9 x0 x5 h=>aSa (aA prog 2 Q n) h x0 x1 x5 x6 x7 x8 x9 x10 x12 x23 x24 x25 x76 kn))=kn (.int .i64 (i:Int)) (.int .i64 (l.length:Int)) (.map (some mp)) x0 (.int .i64 conn) (.int .i64 (-1)) (str (PC.getD [])) (.int .i64 (l.length:Int)) (.int .i64 0) x0 (aB wp) h9)∧
   Ext B h9∧h9.get wp=some (.cells (wC PC.isSome va9 aF 0 0 (zq 0) aF false false .nilFunc) (some 0))∧wp<h9.next∧MapOK h9 mp (PRE++[nt]) conn∧Vec 24 h9 va9 ((acc++if nt.kind=3∧nt.conn=conn then oH ((cA PRE conn nt.op).getD (zq 0)) nt else[]).map fun q=>q.cells aF)∧(∀j,sid va9=some j→B.next≤j∧j≠wp∧j≠mp)∧(if nt.kind=3∧nt.conn=conn then oH ((cA PRE conn nt.op).getD (zq 0)) nt else[]).length≤1:=by
   by_cases c1:nt.kind=3∧nt.conn=conn
   ·rw[kB c1];obtain⟨es,c,gm,lm,mf⟩:=mo5;obtain⟨p,pw,hlk,hp,hpw⟩:∃(p:Pq) (pw:Value),A.zT false WzD.Z38 false (.int .i64 nt.op) (.map (some mp)) h5=some (.agg ⟨p.cells pw⟩)∧p=(cA PRE conn nt.op).getD (zq 0)∧aJ pw=some [pw]:=by
     have hlk:A.zT false WzD.Z38 false (.int .i64 nt.op) (.map (some mp)) h5=match A.zR (.int .i64 nt.op) es 0 with|some (some (_,v))=>some v|some none=>some WzD.Z38|none=>none:=by
      show A.zV WzD.Z38 false (.int .i64 nt.op) (.map (some mp)) h5=_;unfold A.zV;simp only[gm];rfl
     have:=mf nt.op;rw[iO]at this
     cases hf:cA PRE conn nt.op with
     |none=>
      rw[hf]at this;simp only[show¬nt.kind=1 by omega,false_and,if_false]at this;rw[this]at hlk;exact⟨zq 0,aF,hlk,rfl,rfl⟩
     |some p=>
      rw[hf]at this;obtain⟨j,w,f1,f2⟩:=this;rw[f1]at hlk;exact⟨p,w,hlk,rfl,f2⟩
    have hpb:p.kind<256∧p.qos<256:=by
     rw[hp]
     cases hf:cA PRE conn nt.op with
     |none=>exact⟨by show 0<256;omega,by show 0<256;omega⟩
     |some p'=>
      have hf2:=hf;unfold cA at hf2;obtain⟨n',hn',rfl⟩:=Option.map_eq_some_iff.1 hf2;have hmem':n'∈l:=by have:=List.mem_of_find?_eq_some hn';rw[hPRE]at this;exact List.mem_of_mem_take this
      exact⟨(r.rg n' hmem').1.kind,(r.rg n' hmem').1.qos⟩
    obtain⟨vn,h6,e6,s6,x6,svn⟩:=T22 ka (h:=h5) (n:=n) (by omega) hpw nt hpb.1 hpb.2;rw[←hp];have lav:A.load false 1 (.pointer (some ⟨wp,1,none⟩)) h5=some va:=by rw[qK,w5];rfl
    have w6:h6.get wp=some (.cells (wC PC.isSome va aF 0 0 (zq 0) aF false false .nilFunc) (some 0)):=by rw[x6.get _ wl5];exact w5
    have lav6:A.load false 1 (.pointer (some ⟨wp,1,none⟩)) h6=some va:=by rw[qK,w6];rfl
    have ck:chk (some va) va=true:=aHg vv.slice.same;have len1:(oH p nt).length≤1:=by unfold oH;(repeat' split)<;>simp
    have lma:(acc.map fun q:Pq=>q.cells aF).length=acc.length:=pA ..;have lmn:((oH p nt).map fun q:Pq=>q.cells aF).length=(oH p nt).length:=pA ..;obtain⟨va7,h7,e7,vv7,x7,sv7,xb7⟩:=aOz (bs:=200) (x5.trans x6) (vv5.ext x6) (fun j hj=>(sv j hj).1) s6 (by omega) (by rw[lma,lmn];omega) (by rw[lma,lmn];omega);have wl6:wp<h6.next:=kH wl5 x6.next;have w7:h7.get wp=some (.cells (wC PC.isSome va aF 0 0 (zq 0) aF false false .nilFunc) (some 0)):=by rw[xb7.get _ wl6 (fun e=>(sv _ e).2.1 rfl)];exact w6
    obtain⟨h8,e8,g8,x8,n8⟩:=dN (i:=1) (v:=va7) (cs':=wC PC.isSome va7 aF 0 0 (zq 0) aF false false .nilFunc) w7 vv7.slice.cells (by rw[show(wC PC.isSome va aF 0 0 (zq 0) aF false false .nilFunc).length=32 from rfl];omega) rfl;have lm6:mp<h6.next:=kH lm x6.next;have mo8:MapOK h8 mp (PRE++[nt]) conn:=by
     refine((MapOK.but ⟨es,c,gm,lm,mf⟩ x6.but (S:=fun _=>False) (fun h=>h)).but xb7 (fun e=>(sv _ e).2.2 rfl)).but x8 (fun e=>hwm e.symm)
    have s9:∀j,sid va7=some j→B.next≤j∧j≠wp∧j≠mp:=fun j hj=>by
     rcases sv7 with e|e
     ·rw[e]at hj;exact sv j hj
     ·rw[e]at hj;simp only[kE]at hj;have:=(x5.trans x6).next;omega
    have b5l:=b5.all;refine⟨h8,va7,fun β kn=>?_,aT x7 x8 hw,g8,by have:=xb7.next;omega,mo8,by rw[List.map_append];exact vv7.extBut x8 (fun j hj e=>(s9 j hj).2.1 e),s9,len1⟩;have dc:decide (nt.conn=conn)=true:=kC c1.2;simp only[aXy,WzO.S,WzO.n0,l0 b5,zQ,d3,kC c1.1,l2 b5,dc,aSa,lav,l1 b5,hlk,b5l,e6,lav6,ck,Bool.and_true,e7,e8]
   ·rw[kA c1];refine⟨h5,va,fun β kn=>?_,x5,w5,wl5,mo5,by rw[List.append_nil];exact vv5,sv,pQ _⟩;simp only[aXy,WzO.S,WzO.n0,l0 b5,zQ,d3,l2 b5];by_cases c2:nt.kind=3
    ·have dc:decide (nt.conn=conn)=false:=kD (fun h=>c1 ⟨c2,h⟩);simp only[kC c2,WzO.S,dc,aSa]
    ·simp only[kD c2,WzO.S,aSa]
  rw[hPC]at w9 st9 st5;rw[←htk]at w9 st9 mo9 st5;obtain⟨h',va',f1,f2,f3,f4,f5⟩:=ih (i+1) m h9 va9 _ (by omega) (by omega) (by rw[kL];omega) x9 ⟨w9,wl9⟩ mo9 vv9 sv9;refine⟨h',va',fun β kx=>?_,f2,f3,by rw[←hPRE,hag,←pT];exact f4,f5⟩;rw[←hPRE];simp only[aGm,aXz,zZ,dl,WzO.S,aTc,cCf,ix,la,e1,e2,st5,st9,bGs,wr,f1]
end
end Go.Proofs.YtohapjojkjjflaaGreatDoor.Wz

set_option maxRecDepth 100000
namespace Go.Proofs.YtohapjojkjjflaaGreatDoor.Wz
open Tryz (prog)
open Go Go.AM WzA WzB WzD
open Go.AM.Pk (K0 K1 K2 K3 K4 K5 K6 K7 K8 K10 K11)
theorem mT (b:Option Nat):decide (bI b<0)=decide (b=none):=decide_eq_decide.2 (by cases b<;>simp[bI])
theorem aBv (b:Option Nat):decide (0≤bI b)=!decide (b=none):=by cases b<;>simp[bI]
theorem bTy (b:Option Nat)(i:Nat):decide (bI b=(i:Int))=decide (b=some i):=decide_eq_decide.2 (by cases b<;>simp[bI]<;>omega)
theorem bTx {b:Option Nat}{i:Nat}(h:∀j,b=some j→j≤i):decide (bI b<(i:Int))=!decide (b=some i):=by
 cases b with
 |none=>
  show decide ((-1:Int)<(i:Int))=true;exact kC (by omega)
 |some j=>
  have:=h j rfl;by_cases e:j=i
  ·subst e;simp[bI]
  ·have:j<i:=by omega
   simp[bI,e,this]
theorem uE (conn:Int)(cl:Option (List UInt8)):∀(l:List Nt) (i:Nat) (b:Option Nat) (f:Nat),f≤i→(fH conn cl l i b f).2.1≤(fH conn cl l i b f).2.2∧(fH conn cl l i b f).2.2≤i+l.length
 |[],i,b,f,h=>⟨h,kF _⟩
 |n::r,i,b,f,h=>by
  obtain⟨R,hR⟩:∃R,R=fH conn cl (n::r) i b f:=⟨_,rfl⟩;rw[←hR];unfold fH at hR;split at hR
  ·have:=uE conn cl r (i+1) b f (by omega);rw[hR];simp only[kM];omega
  ·simp only at hR;generalize (if b=none∧n.pk.1.kind=1∧n.conn=conn then some i else b)=b' at hR
   obtain⟨f',hf'⟩:∃f',f'=if n.pk.1.kind=1∧n.present=false∧(b'=none∨b'=some i)then i else f:=⟨_,rfl⟩
   rw[←hf']at hR;have hl:f'≤i:=by rw[hf'];split<;>omega
   split at hR
   ·rw[hR];exact⟨hl,by simp only[kM];omega⟩
   ·have:=uE conn cl r (i+1) b' f' (by omega);rw[hR];simp only[kM];omega
section
variable {Q:Orc}(ka:KnA Q)
include ka
theorem bJl {B:H}{x0:Value}{l:List Nt}(r:NIn B x0 l)(conn:Int)(C:CF)(L:Nat){wp:Nat}{cl:Option (List UInt8)}{cs:List Value}(hcs:cs[0]?=some (.bool cl.isSome)):
 ∀(d i m:Nat) (h:H) (b:Option Nat) (f:Nat),i+d=l.length→d<m→(∀j,b=some j→j<i)→Ext B h→(h.get wp=some (.cells cs (some 0))∧wp<h.next)→
  ∃h',(∀(β:Type) (kx:K6 β),aBe C L kx m (.int .i64 (l.length:Int)) (.int .i64 (i:Int)) (.int .i64 conn) x0 (.int .i64 (bI b)) (str (cl.getD [])) (.int .i64 (l.length:Int)) (.int .i64 (f:Int)) x0 (aB wp) h=kx (.int .i64 (bI (fH conn cl (l.drop i) i b f).1)) (str (cl.getD [])) (.int .i64 ((fH conn cl (l.drop i) i b f).2.2:Int)) (.int .i64 ((fH conn cl (l.drop i) i b f).2.1:Int)) x0 (aB wp) h')∧Ext h h':=by
 have _:=ka;intro d
 induction d with
 |zero=>
  intro i m h b f hi hm hb x w;obtain⟨m,rfl⟩:∃r,m=r+1:=⟨m-1,by omega⟩;have dl:decide ((i:Int)<(l.length:Int))=false:=by rw[kI];omega
  refine⟨h,fun β kx=>?_,Ext.refl h⟩;rw[pL (by omega)];simp only[aBe,aKu,zZ,dl,WzO.S,fH];rw[show i=l.length by omega]
 |succ d ih=>
  intro i m h b f hi hm hb x w;obtain⟨m,rfl⟩:∃r,m=r+1:=⟨m-1,by omega⟩;have dl:decide ((i:Int)<(l.length:Int))=true:=by rw[kJ];omega
  obtain⟨nt,hni⟩:∃n,l[i]?=some n:=⟨_,kN (by omega)⟩;have hl:=r.le;obtain⟨id,off,ix,ld⟩:=nK r hni;obtain⟨_,la,_,_⟩:=ld h x;obtain⟨h1,h2,e1,e2,b2,x2⟩:=uO h nt;have hdr:l.drop i=nt::l.drop (i+1):=aQ hni;have wr:A.zA prog .add 3 (.int .i64 (i:Int)) (.int .i64 1)=some (.int .i64 ((i+1:Nat):Int)):=by rw[aG,aI (by omega)]
  have w2:h2.get wp=some (.cells cs (some 0)):=by rw[x2.get _ w.2];exact w.1
  have wl2:wp<h2.next:=kH w.2 x2.next;have law:A.load false 1 (.pointer (some ⟨wp,0,none⟩)) h2=some (.bool cl.isSome):=by rw[qK,w2];exact hcs
  have l0:A.load false 1 (.pointer (some ⟨h.next,0,none⟩)) h2=some (.int .u8 (nt.kind:Int)):=b2.ld rfl;have l2:A.load false 1 (.pointer (some ⟨h.next,2,none⟩)) h2=some (.int .i64 nt.conn):=b2.ld rfl;have l3:A.load false 1 (.pointer (some ⟨h.next,3,none⟩)) h2=some (str nt.client):=b2.ld rfl;have l4:A.load false 1 (.pointer (some ⟨h.next,4,none⟩)) h2=some (.int .u8 (nt.pk.1.kind:Int)):=b2.ld rfl;have l33:A.load false 1 (.pointer (some ⟨h.next,33,none⟩)) h2=some (.bool nt.present):=b2.ld rfl;have d2:decide ((nt.kind:Int)=2)=decide (nt.kind=2):=deN _ 2;have k1:decide ((nt.pk.1.kind:Int)=1)=decide (nt.pk.1.kind=1):=deN _ 1;have k14:decide ((nt.pk.1.kind:Int)=14)=decide (nt.pk.1.kind=14):=deN _ 14;have k0:decide ((nt.pk.1.kind:Int)=0)=decide (nt.pk.1.kind=0):=deN _ 0;have sn:=dS nt.client (cl.getD []);have nx:=fun(b:Option Nat) (f:Nat) (hb:∀j,b=some j→j<i+1)=>ih (i+1) m h2 b f (by omega) (by omega) hb (x.trans x2) ⟨w2,wl2⟩;have ask:∀(β:Type) (kx3:K10 β) (kn:Value→Value→Value→Value→Value→Value→Value→Value→Value→Value→Value→Value→H→Option β),aSn h2 x0 (.int .i64 conn) (aB wp) (str (cl.getD [])) (.int .i64 (bI b)) (.int .i64 (f:Int)) (.int .i64 (l.length:Int)) (.int .i64 (i:Int)) (aB h.next) x0 (.int .i64 (l.length:Int)) (.int .i64 (i:Int)) kx3 kn=
   if cl.isSome=false∨nt.kind≠2∨nt.client≠cl.getD []then kx3 (.int .i64 (i:Int)) (.int .i64 (l.length:Int)) (.int .i64 conn) x0 (.int .i64 (bI b)) (str (cl.getD [])) (.int .i64 (l.length:Int)) (.int .i64 (f:Int)) x0 (aB wp) h2 else kn (aB h.next) (.int .i64 (i:Int)) (.int .i64 (i:Int)) (.int .i64 (l.length:Int)) (.int .i64 conn) x0 (.int .i64 (bI b)) (str (cl.getD [])) (.int .i64 (l.length:Int)) (.int .i64 (f:Int)) x0 (aB wp) h2:=by
   intro β kx3 kn;simp only[aSn,cCc,WzO.S,WzO.n0,Nat.add_zero,law,l0,aK,d2,l3,sn,cCb]
   cases hc:cl.isSome with
   |false=>rw[kB (Or.inl rfl)];rfl
   |true=>
    by_cases c2:nt.kind=2
    ·rw[kC c2];by_cases c3:nt.client=cl.getD []
     ·rw[kC c3,kA (fun h=>h.elim (fun h=>by cases h) (fun h=>h.elim (fun h=>h c2) (fun h=>h c3)))];rfl
     ·rw[kD c3,kB (Or.inr (Or.inr c3))];rfl
    ·rw[kD c2,kB (Or.inr (Or.inl c2))];rfl
  rw[hdr];unfold fH;by_cases hsk:cl.isSome=false∨nt.kind≠2∨nt.client≠cl.getD []
  ·rw[kB hsk];obtain⟨h',f1,f2⟩:=nx b f (fun j hj=>by have:=hb j hj;omega);refine⟨h',fun β kx=>?_,x2.trans f2⟩;simp only[aBe,aKu,zZ,dl,WzO.S,aHc,aXx,ix,la,e1,e2,ask,kB hsk,aXw,wr,f1]
  ·rw[kA hsk];obtain⟨b',hb'⟩:∃b',b'=if b=none∧nt.pk.1.kind=1∧nt.conn=conn then some i else b:=⟨_,rfl⟩
   obtain⟨f',hf'⟩:∃f',f'=if nt.pk.1.kind=1∧nt.present=false∧(b'=none∨b'=some i)then i else f:=⟨_,rfl⟩
   have hle:∀j,b'=some j→j≤i:=fun j hj=>by
    rw[hb']at hj;split at hj
    ·cases hj;exact kF _
    ·exact Nat.le_of_lt (hb j hj)
   have st1:∀(β:Type) (kn:Value→Value→Value→Value→Value→Value→Value→Value→Value→Value→Value→Value→Value→H→Option β),aSm h2 x0 (.int .i64 conn) (aB wp) (str (cl.getD [])) (.int .i64 (bI b)) (.int .i64 (f:Int)) (.int .i64 (l.length:Int)) (.int .i64 (i:Int)) (aB h.next) (.bool (decide (nt.pk.1.kind=1))) x0 (.int .i64 (l.length:Int)) (.int .i64 (i:Int)) kn=
    kn (.bool (decide (nt.pk.1.kind=1))) (aB h.next) (.int .i64 (i:Int)) (.int .i64 (i:Int)) (.int .i64 (l.length:Int)) (.int .i64 conn) x0 (.int .i64 (bI b')) (str (cl.getD [])) (.int .i64 (l.length:Int)) (.int .i64 (f:Int)) x0 (aB wp) h2:=by
    intro β kn;simp only[aSm,cCa,zZ,mT,WzO.S,WzO.n0,l2,zQ,cBz];rw[hb'];by_cases c1:b=none
    ·rw[kC c1];by_cases c2:nt.pk.1.kind=1
     ·rw[kC c2];by_cases c3:nt.conn=conn
      ·rw[kC c3,kB ⟨c1,c2,c3⟩];rfl
      ·rw[kD c3,kA (fun h=>c3 h.2.2)];rfl
     ·rw[kD c2,kA (fun h=>c2 h.2.1)];rfl
    ·rw[kD c1,kA (fun h=>c1 h.1)];rfl
   have st2:∀(β:Type) (kn:Value→Value→Value→Value→Value→Value→Value→Value→Value→Value→Value→Value→H→Option β),aSl h2 x0 (.int .i64 conn) (aB wp) (str (cl.getD [])) (.int .i64 (bI b')) (.int .i64 (f:Int)) (.int .i64 (l.length:Int)) (.int .i64 (i:Int)) (aB h.next) (.bool (decide (nt.pk.1.kind=1))) x0 (.int .i64 (l.length:Int)) (.int .i64 (i:Int)) kn=
    kn (aB h.next) (.int .i64 (i:Int)) (.int .i64 (i:Int)) (.int .i64 (l.length:Int)) (.int .i64 conn) x0 (.int .i64 (bI b')) (str (cl.getD [])) (.int .i64 (l.length:Int)) (.int .i64 (f':Int)) x0 (aB wp) h2:=by
    intro β kn;simp only[aSl,cBy,WzO.S,WzO.n0,l33,zZ,mT,zQ,bTy,cBx];rw[hf'];by_cases c2:nt.pk.1.kind=1
    ·rw[kC c2]
     cases c3:nt.present with
     |true=>rw[kA (fun h=>by cases h.2.1)];rfl
     |false=>
      by_cases c4:b'=none
      ·rw[kC c4,kB ⟨c2,rfl,Or.inl c4⟩];rfl
      ·rw[kD c4];by_cases c5:b'=some i
       ·rw[kC c5,kB ⟨c2,rfl,Or.inr c5⟩];rfl
       ·rw[kD c5,kA (fun h=>h.2.2.elim c4 c5)];rfl
    ·rw[kD c2,kA (fun h=>c2 h.1)];rfl
   have st3:∀(β:Type) (kn:Value→Value→Value→Value→Value→Value→Value→Value→Value→Value→Value→Value→H→Option β),bGq h2 x0 (.int .i64 conn) (aB wp) (str (cl.getD [])) (.int .i64 (bI b')) (.int .i64 (f':Int)) (.int .i64 (l.length:Int)) (.int .i64 (i:Int)) (aB h.next) x0 (.int .i64 (l.length:Int)) (.int .i64 (i:Int)) kn=
    kn (.bool (decide (b'≠none∧b'≠some i∧nt.conn=conn∧(nt.pk.1.kind=14∨nt.pk.1.kind=0)))) (.int .i64 (i:Int)) (.int .i64 (i:Int)) (.int .i64 (l.length:Int)) (.int .i64 conn) x0 (.int .i64 (bI b')) (str (cl.getD [])) (.int .i64 (l.length:Int)) (.int .i64 (f':Int)) x0 (aB wp) h2:=by
    intro β kn;simp only[bGq,bA,aBv,WzO.S,zY,bTx hle,WzO.n0,Nat.add_zero,l2,zQ,l4,k14,k0];by_cases c1:b'=none
    ·rw[kC c1,kD (show¬(b'≠none∧b'≠some i∧nt.conn=conn∧(nt.pk.1.kind=14∨nt.pk.1.kind=0))from fun h=>h.1 c1)];rfl
    ·rw[kD c1];by_cases c2:b'=some i
     ·rw[kC c2,kD (show¬(b'≠none∧b'≠some i∧nt.conn=conn∧(nt.pk.1.kind=14∨nt.pk.1.kind=0))from fun h=>h.2.1 c2)];rfl
     ·rw[kD c2];by_cases c3:nt.conn=conn
      ·rw[kC c3];by_cases c4:nt.pk.1.kind=14
       ·rw[kC c4,kC (show(b'≠none∧b'≠some i∧nt.conn=conn∧(nt.pk.1.kind=14∨nt.pk.1.kind=0))from⟨c1,c2,c3,Or.inl c4⟩)];rfl
       ·rw[kD c4,show decide (b'≠none∧b'≠some i∧nt.conn=conn∧(nt.pk.1.kind=14∨nt.pk.1.kind=0))=decide (nt.pk.1.kind=0)from decide_eq_decide.2 ⟨fun h=>h.2.2.2.resolve_left c4,fun h=>⟨c1,c2,c3,Or.inr h⟩⟩];rfl
      ·rw[kD c3,kD (show¬(b'≠none∧b'≠some i∧nt.conn=conn∧(nt.pk.1.kind=14∨nt.pk.1.kind=0))from fun h=>c3 h.2.2.1)];rfl
   simp only[←hb',←hf'];by_cases hbr:b'≠none∧b'≠some i∧nt.conn=conn∧(nt.pk.1.kind=14∨nt.pk.1.kind=0)
   ·rw[kB hbr];rw[kC hbr]at st3;refine⟨h2,fun β kx=>?_,x2⟩;simp only[aBe,aKu,zZ,dl,WzO.S,aHc,aXx,ix,la,e1,e2,ask,kA hsk,bGr,WzO.n0,Nat.add_zero,l4,zQ,k1,st1,st2,st3,bGp]
   ·rw[kA hbr];rw[kD hbr]at st3;obtain⟨h',g1,g2⟩:=nx b' f' (fun j hj=>by have:=hle j hj;omega);refine⟨h',fun β kx=>?_,x2.trans g2⟩;simp only[aBe,aKu,zZ,dl,WzO.S,aHc,aXx,ix,la,e1,e2,ask,kA hsk,bGr,WzO.n0,Nat.add_zero,l4,zQ,k1,st1,st2,st3,bGp,aXw,wr,g1]
end
def eV (conn:Int)(l:List Nt):List Ms:=
 match(fH conn (aV conn l) l 0 none 0).1 with
 |none=>[]
 |some _=>cN ((aV conn l).getD []) ((l.drop (fH conn (aV conn l) l 0 none 0).2.1).take ((fH conn (aV conn l) l 0 none 0).2.2-(fH conn (aV conn l) l 0 none 0).2.1))
structure PS where
 packets:Nat
 told:Nat
 first:Pq
 begun:Bool
 again:Bool
 ends:List Nat
structure WS (B h:H)(wp c1 c3:Nat)(va vm:Value)(asked:Bool)(ans:List Pq)(ms:List Ms)(s:PS):Prop where
 x:Ext B h
 w:∃fw,h.get wp=some (.cells (wC asked va vm s.packets s.told s.first fw s.begun s.again (iF c1 c3)) (some 0))
 wl:wp<h.next
 sla:SliceE 24 h va (ans.map fun q=>q.cells aF)
 slm:SliceE 4 h vm (ms.map msC)
 fit:aUb h c1 c3 wp vm s.ends
 nw:B.next≤wp
 n1:B.next≤c1
 n3:B.next≤c3
 ne1:wp≠c1
 ne3:wp≠c3
 sa:∀i,sid va=some i→i≠wp∧i≠c3
 sm:∀i,sid vm=some i→i≠wp∧i≠c3
theorem wQ (client:List UInt8)(l:List Nt):(cN client l).length≤l.length:=by
 unfold cN;rw[pA];exact List.length_filter_le _ _
theorem sL (conn:Int)(l:List Nt):(eV conn l).length≤l.length:=by
 unfold eV;split
 ·exact pQ _
 ·refine kG (wQ _ _) ?_;rw[kT,kU];omega
theorem T14 {Q:Orc}(ka:KnA Q){h:H}{n:Nat}(hn:400≤n){x0:Value}{l:List Nt}(r:NIn h x0 l)(conn:Int):
 ∃h' wp c1 c3 va vm,aA prog 2 Q n 14 [x0,.int .i64 conn] h=some (aB wp,h')∧WS h h' wp c1 c3 va vm (aV conn l).isSome (jS conn [] l) (eV conn l) ⟨0,0,zq 0,false,false,List.range (eV conn l).length⟩:=by
 obtain⟨n,rfl⟩:∃m,n=m+1:=⟨n-1,by omega⟩;rw[bXa Q n _ _ h (ka.fr 14 _ (by decide))];have hl:=r.le;have hlen:=r.len;have bz:A.zF WzD.Z51L []=some (.agg ⟨wC false aF aF 0 0 (zq 0) aF false false .nilFunc⟩):=by kernel_rfl
 obtain⟨h1,hh1⟩:∃h1,h1=h.push (.cells (wC false aF aF 0 0 (zq 0) aF false false .nilFunc) (some 0)):=⟨_,rfl⟩;have e1:A.zJ 32 (.agg ⟨wC false aF aF 0 0 (zq 0) aF false false .nilFunc⟩) h=some (aB h.next,h1):=by rw[hh1];rfl
 have x1:Ext h h1:=by rw[hh1];exact Ext.push h _
 have n1:h1.next=h.next+1:=by rw[hh1];rfl
 have g1:h1.get h.next=some (.cells (wC false aF aF 0 0 (zq 0) aF false false .nilFunc) (some 0)):=by rw[hh1,H.get_push,kB rfl]
 obtain⟨h2,hh2⟩:∃h2,h2=h1.push (.map [] 0):=⟨_,rfl⟩;have e2:A.yB h1=some (.map (some h1.next),h2):=by rw[hh2];rfl
 have x2:Ext h1 h2:=by rw[hh2];exact Ext.push h1 _
 have n2:h2.next=h1.next+1:=by rw[hh2];rfl
 have mo:MapOK h2 h1.next (l.take 0) conn:=⟨[],0,by rw[hh2,H.get_push,kB rfl],by omega,fun op=>rfl⟩;obtain⟨h3,va,f1,f2,f3,f4,f5⟩:=bJm ka r conn (n:=n) (by omega) n (wp:=h.next) (mp:=h1.next) (kF _) (by omega) (by omega) l.length 0 n h2 aF [] (by omega) (by omega) (kF _) (x1.trans x2) ⟨by rw[x2.get _ (by omega)];exact g1,by omega⟩ mo (Vec.nil 24 h2) (fun j hj=>by cases hj);have f1:∀(β:Type) (kx:K7 β),aGm (aA prog 2 Q n) n kx n (.int .i64 (l.length:Int)) (.int .i64 0) (.map (some h1.next)) x0 (.int .i64 conn) (.int .i64 (-1)) (str []) (.int .i64 (l.length:Int)) (.int .i64 0) x0 (aB h.next) h2=_:=f1;have f4:Vec 24 h3 va ((jS conn [] l).map fun q=>q.cells aF):=f4;obtain⟨cl,hcl⟩:∃cl,cl=aV conn l:=⟨_,rfl⟩;obtain⟨h4,k1,k2⟩:=bJl ka r conn (aA prog 2 Q n) n (wp:=h.next) (cl:=cl) (cs:=wC cl.isSome va aF 0 0 (zq 0) aF false false .nilFunc) rfl l.length 0 n h3 none 0 (by omega) (by omega) (fun j hj=>by cases hj) f2 (by rw[hcl];exact f3);rw[List.drop_zero]at k1;have hsc:=uE conn cl l 0 none 0 (kF _);obtain⟨R,hR⟩:∃R,R=fH conn cl l 0 none 0:=⟨_,rfl⟩;rw[←hR]at k1 hsc;rw[←hcl]at f1 f3;have k1:∀(β:Type) (kx:K6 β),aBe (aA prog 2 Q n) n kx n (.int .i64 (l.length:Int)) (.int .i64 0) (.int .i64 conn) x0 (.int .i64 (-1)) (str (cl.getD [])) (.int .i64 (l.length:Int)) (.int .i64 0) x0 (aB h.next) h3=_:=k1;have wl4:h.next<h4.next:=kH f3.2 k2.next
 have w4:h4.get h.next=some (.cells (wC cl.isSome va aF 0 0 (zq 0) aF false false .nilFunc) (some 0)):=by rw[k2.get _ f3.2];exact f3.1
 have x4:=f2.trans k2;have va4:=f4.slice.ext k2;have hml:=sL conn l;have fin:∀{h5:H} {vm:Value} {ms:List Ms},Ext h h5→h5.get h.next=some (.cells (wC cl.isSome va vm 0 0 (zq 0) aF false false .nilFunc) (some 0))→h.next<h5.next→SliceE 24 h5 va ((jS conn [] l).map fun q=>q.cells aF)→SliceE 4 h5 vm (ms.map msC)→ms.length≤200→(∀i,sid vm=some i→i≠h.next)→
  ∃h' c1 c3 h6,aA prog 2 Q n 24 [vm] h5=some (iF c1 c3,h6)∧A.store 1 (.pointer (some ⟨h.next,31,none⟩)) (iF c1 c3) h6=some h'∧WS h h' h.next c1 c3 va vm cl.isSome (jS conn [] l) ms ⟨0,0,zq 0,false,false,List.range ms.length⟩:=by
  intro h5 vm ms x5 g5 l5 sa sm hm hs;obtain⟨c1,c3,h6,e6,fit,x6,m1,m3⟩:=T24 ka (h:=h5) (n:=n) (wp:=h.next) (by omega) l5 sm hm;have g6:h6.get h.next=some (.cells (wC cl.isSome va vm 0 0 (zq 0) aF false false .nilFunc) (some 0)):=by rw[x6.get _ l5];exact g5
  obtain⟨h7,e7,g7,x7,n7⟩:=dN (i:=31) (v:=iF c1 c3) (cs':=wC cl.isSome va vm 0 0 (zq 0) aF false false (iF c1 c3)) g6 rfl (by rw[show(wC cl.isSome va vm 0 0 (zq 0) aF false false .nilFunc).length=32 from rfl];omega) rfl;have hx5:=x5.next;have sal:=sa.sid_lt;have sml:=sm.sid_lt;obtain⟨v3,ga,gb,gc⟩:=fit.a3;refine⟨h7,c1,c3,h6,e6,e7,⟨aT (x5.trans x6) x7 (kF _),⟨aF,g7⟩,by have:=x6.next;omega,(sa.ext x6).extBut x7 (fun i hi e=>by have:=f5 i hi;omega),(sm.ext x6).extBut x7 (fun i hi e=>hs i hi e),?_,kF _,by omega,by omega,by omega,by omega,fun i hi=>⟨(f5 i hi).2,by have:=sal i hi;omega⟩,fun i hi=>⟨hs i hi,by have:=sml i hi;omega⟩⟩⟩;exact⟨⟨by rw[x7.get _ fit.a1.2 (by omega)];exact fit.a1.1,by rw[n7];exact fit.a1.2⟩,⟨v3,by rw[x7.get _ fit.lt (by omega)];exact ga,gb.extBut x7 (fun i hi e=>(gc i hi).2.2 e),gc⟩,by rw[n7];exact fit.lt,fit.ne⟩
 have pre:∀(kr:K1 (Value×H)),aTv (aA prog 2 Q n) n h x0 (.int .i64 conn) kr=aXv (aA prog 2 Q n) h4 x0 (aB h.next) (str (cl.getD [])) (.int .i64 (bI R.1)) (.int .i64 (R.2.1:Int)) (.int .i64 (R.2.2:Int)) kr:=by
  intro kr;simp only[aTv,cCh,bz,WzO.S,e1,e2,hlen,aZn,cCg,f1,aZp,cCd,k1]
 have dg:=aBv R.1;rw[←hcl]
 cases hb:R.1 with
 |none=>
  have ho:eV conn l=[]:=by unfold eV;rw[←hcl,←hR,hb]
  rw[ho];have lm:A.load false 1 (.pointer (some ⟨h.next,2,none⟩)) h4=some aF:=by rw[qK,w4];rfl
  obtain⟨h',c1,c3,h6,e6,e7,ws⟩:=fin (ms:=[]) x4 w4 wl4 va4 ((Vec.nil 4 h4).slice) (pQ _) (fun i hi=>by cases hi);refine⟨h',h.next,c1,c3,va,aF,?_,ws⟩;rw[hb]at dg pre;unfold F14;rw[pre];have dg:decide (0≤bI none)=false:=dg;simp only[aXv,bA,dg,WzO.S,WzO.n0,lm,e6,e7]
 |some bg=>
  have ho:eV conn l=cN (cl.getD []) ((l.drop R.2.1).take (R.2.2-R.2.1)):=by unfold eV;rw[←hcl,←hR,hb]
  have hne:l≠[]:=fun e=>by rw[e]at hR;rw[hR]at hb;cases hb
  have row4:=r.row.ext x4;obtain⟨v',s1,s2,s3,s4⟩:=aIx row4 (lo:=R.2.1) (hi:=R.2.2) hsc.1 (by rw[pA];omega) (fun e=>hne (List.map_eq_nil_iff.1 e)) (Or.inl r.odd);have s1:=s1 _ (Or.inl rfl);rw[←List.map_drop,←List.map_take]at s2;have r4:NIn h4 v' ((l.drop R.2.1).take (R.2.2-R.2.1)):=⟨s2,fun m hm=>(r.sub m (List.mem_of_mem_drop (List.mem_of_mem_take hm))).ext x4,fun m hm=>r.rg m (List.mem_of_mem_drop (List.mem_of_mem_take hm)),by rw[kT,kU];omega,fun a k c e=>by obtain⟨a',k',c',q1,q2⟩:=s4 a k c e;rw[q2];exact r.odd _ _ _ q1⟩;obtain⟨vm,h5,e5,sm5,x5,sv5⟩:=T23 ka (h:=h4) (n:=n) (by omega) r4 (cl.getD []);rw[←ho]at sm5;have w5:h5.get h.next=some (.cells (wC cl.isSome va aF 0 0 (zq 0) aF false false .nilFunc) (some 0)):=by rw[x5.get _ wl4];exact w4
  obtain⟨h6,e6,g6,x6,n6⟩:=dN (i:=2) (v:=vm) (cs':=wC cl.isSome va vm 0 0 (zq 0) aF false false .nilFunc) w5 sm5.cells (by rw[show(wC cl.isSome va aF 0 0 (zq 0) aF false false .nilFunc).length=32 from rfl];omega) rfl;have lm:A.load false 1 (.pointer (some ⟨h.next,2,none⟩)) h6=some vm:=by rw[qK,g6];rfl
  have hx5:=x5.next;obtain⟨h',c1,c3,h7,e7,e8,ws⟩:=fin (aT (x4.trans x5) x6 (kF _)) g6 (by omega) ((va4.ext x5).extBut x6 (fun i hi e=>by have:=f5 i hi;omega)) (sm5.extBut x6 (fun i hi e=>by have:=sv5 i hi;omega)) (by omega) (fun i hi=>by have:=sv5 i hi;omega);refine⟨h',h.next,c1,c3,va,vm,?_,ws⟩;rw[hb]at dg pre;unfold F14;rw[pre];have dg:decide (0≤bI (some bg))=true:=dg;simp only[aXv,bA,dg,WzO.S,WzO.n0,s1,e5,e6,lm,e7,e8]
end Go.Proofs.YtohapjojkjjflaaGreatDoor.Wz
