import Derived.Test.YtohapjojkjjflaaGreatDoorRp
namespace Go.Proofs.YtohapjojkjjflaaGreatDoor.Wz
open Tryz (prog)
open Go Go.AM WzA
def Lit (n:Nat)(h:H)(v:Value)(es:List (List Value)):Prop:=
 (∀e∈es,e.length=n)∧∃q,v=.slice (some ⟨q,0,none⟩) es.length (2*es.length+1)∧q<h.next∧h.get q=some (.cells es.flatten (some n))
theorem aAg {n bs:Nat}{h:H}{v x:Value}{es new:List (List Value)}(vv:Lit n h v es)(sx:SliceE n h x new)(hne:new≠[])
 (hb:(es.length+new.length)*bs≤2^47) (hl:es.length+new.length≤2^47):
 ∃h',A.zK n bs v x h=some (.slice (some ⟨h.next,0,none⟩) (es.length+new.length) (2*(es.length+new.length)),h')∧
  Vec n h' (.slice (some ⟨h.next,0,none⟩) (es.length+new.length) (2*(es.length+new.length))) (es++new)∧h'.next=h.next+1∧Ext h h':=by
 obtain⟨_,hlen⟩:=sx.len;have hel:=sx.elems;have hpos:0<new.length:=List.length_pos_iff.2 hne;have hfl:es.flatten.length=es.length*n:=dH vv.1;have e0:Nat.beq new.length 0=false:=by rw[T.beq_dec];simp;omega
 have hall:∀e∈es++new,e.length=n:=fun e he=>by
  rcases List.mem_append.1 he with he|he
  ·exact vv.1 e he
  ·exact sx.1 e he
 obtain⟨q,rfl,hq,hg⟩:=vv.2;refine⟨h.push (.cells (es.flatten++new.flatten) (some n)),?_,⟨hall,.inr ⟨h.next,by simp,by simp,by simp[H.get_push]⟩⟩,rfl,Ext.push h _⟩;have e1:Nat.ble (es.length+new.length) ((2*es.length+1) / 2)=false:=by
  cases hb1:Nat.ble (es.length+new.length) ((2*es.length+1) / 2)with
  |false=>rfl
  |true=>have:=ble_iff.1 hb1;omega
 have e2:Nat.beq ((2*es.length+1)%2) 1=true:=by rw[T.beq_dec];simp
 have e3:Nat.ble ((es.length+new.length)*bs) (2^47)=true:=ble_iff.2 hb;have e4:Nat.ble (es.length+new.length) (2^47)=true:=ble_iff.2 hl;have e5:Nat.ble (0+es.length*n) es.flatten.length=true:=ble_iff.2 (by omega);simp only[A.zK,hel,hlen,e0,cond_false,hg,e1,e3,e4,e5,Bool.and_self,cond_true,e2,List.drop_zero];rw[pM (by omega)]
def tE:List (List UInt8)→Nat→Bool
 |[],_=>false
 |s::l,left=>if left<s.length then true else tE l (left-s.length)
def txL (p:Pq)(es:List Sb):List (List UInt8):=[p.topic,p.payload,p.client,p.wt,p.wp,p.user,p.pass,p.codes]++es.map (·.1)
def grB (p:Pq)(es:List Sb):Bool:=if 100<es.length then true else tE (txL p es) 10000
section
variable {Q:Orc}(kn:KnA Q)
include kn
theorem lpG (C:CF)(L:Nat){p:Pq}{w:Value}{es:List Sb}{t:Nat}{H1:H}(hl:es.length≤100)(b1:BQ H1 t p w)(s1:SliceE 2 H1 w (es.map sbC))(x3:Value):
 ∀(d i m:Nat) (h:H) (v:Value) (acc:List (List UInt8)),i+d=es.length→d<m→Ext H1 h→(Lit 1 h v (acc.map fun s=>[str s])∨Vec 1 h v (acc.map fun s=>[str s]))→acc≠[]→(∀j,sid v=some j→H1.next≤j)→acc.length+d≤1000→
  ∃h' v',(∀kx:Value→Value→H→Option (Value×H),aGn C L kx m (.int .i64 (i:Int)) (aB t) v x3 h=kx v' x3 h')∧Ext H1 h'∧SliceE 1 h' v' ((acc++(es.drop i).map (·.1)).map fun s=>[str s]):=by
 have _:=kn;intro d
 induction d with
 |zero=>
  intro i m h v acc hi hm x hv hne hs hacc;obtain⟨m,rfl⟩:∃r,m=r+1:=⟨m-1,by omega⟩;have hd:decide ((i:Int)<(es.length:Int))=false:=by rw[kI];omega
  have lw:=(b1.ext x).ld (i:=22) rfl;have n1:A.zG w=some (.int .i64 (es.length:Int)):=by have:=s1.len.1;rwa [pA]at this
  refine⟨h,v,fun kx=>?_,x,?_⟩
  ·simp only[aGn,aYa,WzO.S,WzO.n0,lw,n1,zZ,hd]
  ·rw[pL (by omega),List.map_nil,List.append_nil];rcases hv with hv|hv
   ·obtain⟨q,e,hq,hg⟩:=hv.2;have hfl:=dH hv.1;exact⟨hv.1,.inr ⟨q,0,_,e,by omega,hq,fun _=>⟨_,_,hg,by omega,by rw[List.drop_zero,pM (by omega)]⟩⟩⟩
   ·exact hv.slice
 |succ d ih=>
  intro i m h v acc hi hm x hv hne hs hacc;obtain⟨m,rfl⟩:∃r,m=r+1:=⟨m-1,by omega⟩;have hd:decide ((i:Int)<(es.length:Int))=true:=by rw[kJ];omega
  have lw:=(b1.ext x).ld (i:=22) rfl;have n1:A.zG w=some (.int .i64 (es.length:Int)):=by have:=s1.len.1;rwa [pA]at this
  obtain⟨s,hsi⟩:∃s,es[i]?=some s:=⟨_,kN (by omega)⟩;obtain⟨id,off,cells,own,ix,_,hg,_,_,hc⟩:=(s1.ext x).at (i:=i) (e:=sbC s) (by rw[kX,hsi];rfl) .i64;have ld:A.load false 1 (.pointer (some ⟨id,off,none⟩)) h=some (str s.1):=by
   rw[qK,hg];have:=hc 0 (by show 0<2;omega);simpa[sbC]using this
  obtain⟨h1,hh1⟩:∃h1,h1=h.push (.cells [str s.1] (some 1)):=⟨_,rfl⟩;have e1:A.zD 1 1 WzA.Z9L [(0,1,str s.1)] h=some (.slice (some ⟨h.next,0,none⟩) 1 3,h1):=by rw[hh1];exact cC h rfl rfl rfl
  have x1:Ext h h1:=by rw[hh1];exact Ext.push h _
  have s2:SliceE 1 h1 (.slice (some ⟨h.next,0,none⟩) 1 3) [[str s.1]]:=by rw[hh1];exact fU rfl
  have lm:(acc.map fun s=>[str s]).length=acc.length:=pA ..;have hwr:IntKind.i64.wrap ((i:Int)+1)=((i+1:Nat):Int):=aI (by omega);have app:∃v2 h2,A.zK 1 16 v (.slice (some ⟨h.next,0,none⟩) 1 3) h1=some (v2,h2)∧Vec 1 h2 v2 ((acc++[s.1]).map fun s=>[str s])∧sid v2=some h1.next∧Ext H1 h2:=by
   rcases hv with hv|hv
   ·have hv1:Lit 1 h1 v (acc.map fun s=>[str s]):=by
     obtain⟨q,e,hq,hg⟩:=hv.2;exact⟨hv.1,q,e,kH hq x1.next,by rw[x1.get q hq];exact hg⟩
    obtain⟨h2,e2,v2,n2,x2⟩:=aAg (bs:=16) hv1 s2 (by simp) (by rw[lm];simp;omega) (by rw[lm];simp;omega);exact⟨_,h2,e2,by rw[List.map_append];exact v2,rfl,(x.trans x1).trans x2⟩
   ·obtain⟨h2,e2,v2,n2,x2⟩:=eZ (bs:=16) (hv.ext x1) s2 (by simp) (by omega) (by rw[lm];simp;omega) (by rw[lm];simp;omega);exact⟨_,h2,e2,by rw[List.map_append];exact v2,rfl,Ext.grow (x.trans x1) x2 hs⟩
  obtain⟨v2,h2,e2,vv2,hsid,x2⟩:=app;have hnx:=x.next;have hn1:=x1.next;obtain⟨h',v',e,x',sl⟩:=ih (i+1) m h2 v2 (acc++[s.1]) (by omega) (by omega) x2 (.inr vv2) (by simp) (fun j hj=>by rw[hsid]at hj;cases hj;omega) (by rw[kL,List.length_singleton];omega);refine⟨h',v',fun kx=>?_,x',?_⟩
  ·simp only[aGn,aYa,WzO.S,WzO.n0,Nat.add_zero,lw,n1,zZ,hd,ix,ld,e1,e2,aG,hwr];exact e kx
  ·rw[aQ hsi,List.map_cons,List.append_cons];exact sl
theorem lpH (C:CF)(L:Nat){v:Value}{ls:List (List UInt8)}{h:H}(sl:SliceE 1 h v (ls.map fun s=>[str s]))(hl:ls.length≤1000):
 ∀(d i m left:Nat),i+d=ls.length→d<m→left≤10000→∀(kr:Value→H→Option (Value×H)) (kx:H→Option (Value×H)),aEm C L kr kx m (.int .i64 (i:Int)) v (.int .i64 (left:Int)) h=if tE (ls.drop i) left then kr (.bool true) h else kx h:=by
 have _:=kn;have n1:A.zG v=some (.int .i64 (ls.length:Int)):=by have:=sl.len.1;rwa [pA]at this
 intro d
 induction d with
 |zero=>
  intro i m left hi hm hleft kr kx;obtain⟨m,rfl⟩:∃r,m=r+1:=⟨m-1,by omega⟩;have hd:decide ((i:Int)<(ls.length:Int))=false:=by rw[kI];omega
  rw[pL (by omega)];simp only[aEm,aSc,n1,WzO.S,zZ,hd,tE,pB,if_false]
 |succ d ih=>
  intro i m left hi hm hleft kr kx;obtain⟨m,rfl⟩:∃r,m=r+1:=⟨m-1,by omega⟩;have hd:decide ((i:Int)<(ls.length:Int))=true:=by rw[kJ];omega
  obtain⟨s,hsi⟩:∃s,ls[i]?=some s:=⟨_,kN (by omega)⟩;obtain⟨id,off,cells,own,ix,_,hg,_,_,hc⟩:=sl.at (i:=i) (e:=[str s]) (by rw[kX,hsi];rfl) .i64;have ld:A.load false 1 (.pointer (some ⟨id,off,none⟩)) h=some (str s):=by
   rw[qK,hg];have:=hc 0 (by show 0<1;omega);simpa using this
  rw[aQ hsi];have hwr:IntKind.i64.wrap ((i:Int)+1)=((i+1:Nat):Int):=aI (by omega);unfold tE;by_cases ho:left<s.length
  ·have dg:decide ((left:Int)<(s.length:Int))=true:=kC (by omega);rw[kB ho];simp only[aEm,aSc,n1,WzO.S,zZ,hd,ix,ld,qJ,zY,dg,if_true]
  ·have dg:decide ((left:Int)<(s.length:Int))=false:=kD (by omega);have w1:IntKind.i64.wrap ((left:Int)-(s.length:Int))=((left-s.length:Nat):Int):=by rw[aS (by omega) (by omega)];omega
   rw[kA ho];simp only[aEm,aSc,n1,WzO.S,zZ,hd,ix,ld,qJ,zY,dg,bP,w1,aG,hwr];exact ih (i+1) m (left-s.length) (by omega) (by omega) (by omega) kr kx
theorem T5 (k:Nat){h:H}{p:Pq}{w:Value}{es:List Sb}(s:SliceE 2 h w (es.map sbC)):∃h',aA prog 2 Q (k+2002) 11 [.agg ⟨p.cells w⟩] h=some (.bool (grB p es),h')∧Ext h h':=by
 rw[bXb Q (k+2001) _ h (kn.fr 11 _ (by decide))];obtain⟨ha,ea,ba,xa,na⟩:=cB p s.cells h;have sa:=s.ext xa;have n1:A.zG w=some (.int .i64 (es.length:Int)):=by have:=s.len.1;rwa [pA]at this
 have l22:=ba.ld (i:=22) rfl;unfold grB;by_cases hl:100<es.length
 ·have d:decide ((100:Int)<(es.length:Int))=true:=kC (by omega);rw[kB hl];refine⟨ha,?_,xa⟩;simp only[F11,aTw,bGv,ea,WzO.S,WzO.n0,l22,n1,zY,d]
 have d:decide ((100:Int)<(es.length:Int))=false:=kD (by omega);rw[kA hl];have l5:=ba.ld (i:=5) rfl;have l6:=ba.ld (i:=6) rfl;have l10:=ba.ld (i:=10) rfl;have l12:=ba.ld (i:=12) rfl;have l13:=ba.ld (i:=13) rfl;have l18:=ba.ld (i:=18) rfl;have l19:=ba.ld (i:=19) rfl;have l23:=ba.ld (i:=23) rfl;obtain⟨hb,hhb⟩:∃hb,hb=ha.push (.cells [str p.topic,str p.payload,str p.client,str p.wt,str p.wp,str p.user,str p.pass,str p.codes] (some 1)):=⟨_,rfl⟩;have eb:A.zD 1 8 WzA.Z9L [(0,1,str p.topic),(1,1,str p.payload),(2,1,str p.client),(3,1,str p.wt),(4,1,str p.wp),(5,1,str p.user),(6,1,str p.pass),(7,1,str p.codes)] ha=some (.slice (some ⟨ha.next,0,none⟩) 8 17,hb):=by rw[hhb];rfl
 have xb:Ext ha hb:=by rw[hhb];exact Ext.push ha _
 have vb:Lit 1 hb (.slice (some ⟨ha.next,0,none⟩) 8 17) ([p.topic,p.payload,p.client,p.wt,p.wp,p.user,p.pass,p.codes].map fun s=>[str s]):=⟨by intro e he;simp at he;rcases he with rfl|rfl|rfl|rfl|rfl|rfl|rfl|rfl<;>rfl,ha.next,rfl,by rw[hhb];exact Nat.lt_succ_self _,by rw[hhb,H.get_push,kB rfl];rfl⟩
 obtain⟨hc,vc,ec,xc,sc⟩:=lpG kn (aA prog 2 Q (k+2001)) (k+2001) (by omega) ba sa (.int .i64 10000) es.length 0 (k+2001) hb _ _ (by omega) (by omega) xb (.inl vb) (by simp) (fun j hj=>by cases hj;exact kF _) (by simp;omega);rw[List.drop_zero]at sc;have hh:=lpH kn (aA prog 2 Q (k+2001)) (k+2001) sc (by rw[kL,pA];simp;omega) _ 0 (k+2001) 10000 (Nat.zero_add _) (by rw[kL,pA];simp;omega) (kF _);rw[List.drop_zero]at hh;refine⟨hc,?_,xa.trans xc⟩;generalize k+2001=M at ec hh⊢;have ec:∀kx:Value→Value→H→Option (Value×H),aGn (aA prog 2 Q M) M kx M (.int .i64 0) (aB h.next) (.slice (some ⟨ha.next,0,none⟩) 8 17) (.int .i64 10000) hb=kx vc (.int .i64 10000) hc:=ec;have hh:∀(kr:Value→H→Option (Value×H)) (kx:H→Option (Value×H)),aEm (aA prog 2 Q M) M kr kx M (.int .i64 0) vc (.int .i64 10000) hc=if tE (txL p es) 10000 then kr (.bool true) hc else kx hc:=hh
 simp only[F11,aTw,bGv,ea,WzO.S,WzO.n0,Nat.add_zero,Nat.reduceAdd,l22,n1,zY,d,l5,l6,l10,l12,l13,l18,l19,l23,eb,aYl,cCk,ec,aYt,cCj,hh,cCi];cases tE (txL p es) 10000<;>rfl
end
end Go.Proofs.YtohapjojkjjflaaGreatDoor.Wz
