import Derived.Test.YtohapjojkjjflaaGreatDoorRf
set_option maxRecDepth 100000
namespace Go.Proofs.YtohapjojkjjflaaGreatDoor.Wz
open Go Go.AM
def aW (f:List UInt8)(c:UInt8):Bool:=f.any fun b=>b==c
def aN (kind:Nat):List UInt8:=
  ([[45],[108,99,107,110,119,117,115],[101,111],[100,113,114,105,116,112],[105],[105],[105],[105],[105,98],[105,109],[105,98],[105],[],[],[]]:List (List UInt8))[kind]?.getD [45]
def iA (f:List UInt8)(p:Pq):Pq:=
  {kind:=p.kind,dup:=p.dup&&aW f 100,qos:=if aW f 113 then p.qos else 0,retain:=p.retain&&aW f 114,id:=if aW f 105 then p.id else 0,
    topic:=if aW f 116 then p.topic else[],payload:=if aW f 112 then p.payload else[],level:=if aW f 108 then p.level else 0,clean:=p.clean&&aW f 99,keep:=if aW f 108 then p.keep else 0,
    client:=if aW f 108 then p.client else[],will:=if aW f 108 then p.will else false,wt:=if aW f 108 then p.wt else[],wp:=if aW f 108 then p.wp else[],wq:=if aW f 108 then p.wq else 0,wr:=if aW f 108 then p.wr else false,
    hu:=if aW f 108 then p.hu else false,hp:=if aW f 108 then p.hp else false,user:=if aW f 108 then p.user else[],pass:=if aW f 108 then p.pass else[],present:=p.present&&aW f 101,code:=if aW f 111 then p.code else 0,codes:=if aW f 109 then p.codes else[]}
def mJ (f:List UInt8)(es:List Sb):List Sb:=if aW f 98 then es else[]
def jF (val nm:List UInt8→Bool)(p:Pq):Bool:=
  if p.level≠4∨val p.client=false then false
  else if p.will=true∧(nm p.wt=false∨65535<p.wp.length∨2<p.wq)then false
  else if p.will=false∧(p.wt≠[]∨p.wp≠[]∨p.wq≠0∨p.wr=true)then false
  else if p.hu=true∧val p.user=false∨p.hu=false∧(p.user≠[]∨p.hp=true)then false
  else decide (p.hp=true∧p.pass.length≤65535∨p.hp=false∧p.pass=[])
def cO (fi:List UInt8→Bool)(p:Pq)(es:List Sb):Bool:=
  (es.all fun s=>fi s.1&&decide (s.2≤2)&&decide (p.kind=10→s.2=0))&&p.codes.all okc&&decide ((p.kind=8∨p.kind=10)↔es≠[])&&decide (p.kind=9↔p.codes≠[])
def fM (kind:Nat)(es:List Sb):Nat:=(es.map fun s=>2+s.1.length+(if kind=8 then 1 else 0)).sum
def oF (p:Pq)(es:List Sb):Nat:=
  p.payload.length+p.codes.length+(if 0<p.id then 2 else 0)+fM p.kind es+
  (if p.kind=1 then 12+p.client.length+(if p.will then 4+p.wt.length+p.wp.length else 0)+(if p.hu then 2+p.user.length else 0)+(if p.hp then 2+p.pass.length else 0)
   else if p.kind=2 then 2 else if p.kind=3 then 2+p.topic.length else 0)
def eF (val nm fi:List UInt8→Bool)(p:Pq)(es:List Sb):Bool:=
  if aN p.kind=[45]then false
  else if¬(p=iA (aN p.kind) p∧es=mJ (aN p.kind) es)then false
  else if cO fi p es=false∨2<p.qos then false
  else if p.kind=1∧jF val nm p=false∨p.kind=2∧(5<p.code∨p.present=true∧0<p.code)then false
  else if p.kind=3∧(nm p.topic=false∨p.qos=0∧(p.dup=true∨p.id≠0)∨0<p.qos∧p.id=0)then false
  else if p.kind≠3∧aW (aN p.kind) 105=true∧p.id=0 then false
  else decide (oF p es≤268435455)
theorem aCa (fi:List UInt8→Bool)(most more:Nat):∀(l:List Sb) (n:Nat),suL fi most more l n=if(l.all fun s=>fi s.1&&decide (s.2≤most))=true then some (n+(l.map fun s=>2+s.1.length+more).sum)else none
  |[],n=>rfl
  |s::l,n=>by
    show(if fi s.1 then(if most<s.2 then none else suL fi most more l (n+(2+s.1.length+more)))else none)=_
    rw[aCa fi most more l];simp only[List.all_cons,List.map_cons,List.sum_cons,kO,pI]
    cases hf:fi s.1 with
    |false=>simp
    |true=>
      by_cases h1:most<s.2
      ·simp[h1,Nat.not_le.2 h1]
      ·simp only[if_true,h1,if_false,Nat.le_of_not_lt h1,true_and,Nat.add_assoc]
section
variable {val nm fi:List UInt8→Bool}
theorem uZ {p:Pq}(es:List Sb)(h:p.kind=0∨14<p.kind):eF val nm fi p es=(iS val nm fi p es).isSome:=by
  have h1:aN p.kind=[45]:=by
    rcases h with h|h
    ·rw[h];rfl
    ·unfold aN;rw[List.getElem?_eq_none (by simp;omega)];rfl
  have h2:eN val nm fi p es=none:=by
    unfold eN;rw[kA (by omega),kA (by omega),kA (by omega),kA (by omega),kA (by omega),kA (by omega),kA (by omega)]
  unfold eF iS;rw[kB h1,h2];rfl
theorem aCx {p:Pq}(h:1≤p.kind∧p.kind≤14):iA (aN p.kind) p={bz p with kind:=p.kind}:=by
  obtain⟨kind,dup,qos,retain,id,topic,payload,level,clean,keep,client,will,wt,wp,wq,wr,hu,hp,user,pass,present,code,codes⟩:=p;have h:1≤kind∧kind≤14:=h;have hk:kind=1∨kind=2∨kind=3∨kind=4∨kind=5∨kind=6∨kind=7∨kind=8∨kind=9∨kind=10∨kind=11∨kind=12∨kind=13∨kind=14:=by omega
  rcases hk with rfl|rfl|rfl|rfl|rfl|rfl|rfl|rfl|rfl|rfl|rfl|rfl|rfl|rfl<;>
    simp only[iA,aN,kZ,kY,pC,aW,List.any_cons,List.any_nil,bz,zq,Bool.or_false]<;>simp
theorem aOd {p:Pq}{es:List Sb}(h:1≤p.kind∧p.kind≤14):es=mJ (aN p.kind) es↔(p.kind=8∨p.kind=10∨es=[]):=by
  obtain⟨k,hk'⟩:∃k,k=p.kind:=⟨_,rfl⟩;rw[←hk']at h⊢;have hk:k=1∨k=2∨k=3∨k=4∨k=5∨k=6∨k=7∨k=8∨k=9∨k=10∨k=11∨k=12∨k=13∨k=14:=by omega
  rcases hk with rfl|rfl|rfl|rfl|rfl|rfl|rfl|rfl|rfl|rfl|rfl|rfl|rfl|rfl<;>
    simp[mJ,aN,aW]
theorem sZ {p:Pq}{es:List Sb}(h:1≤p.kind∧p.kind≤14):(p=iA (aN p.kind) p∧es=mJ (aN p.kind) es)↔fG p es=true:=by
  rw[aCx h,aOd h];unfold fG;by_cases h1:es≠[]∧p.kind≠8∧p.kind≠10
  ·rw[kB h1];constructor
   ·intro h2;exact absurd h2.2 (by intro h3;rcases h3 with h3|h3|h3;exact h1.2.1 h3;exact h1.2.2 h3;exact h1.1 h3)
   ·intro h2;cases h2
  ·rw[kA h1,pI];constructor
   ·exact fun h2=>h2.1
   ·intro h2;refine⟨h2,?_⟩;by_cases h3:p.kind=8
    ·exact Or.inl h3
    by_cases h4:p.kind=10
    ·exact Or.inr (Or.inl h4)
    ·exact Or.inr (Or.inr (Classical.byContradiction fun h5=>h1 ⟨h5,h3,h4⟩))
theorem yM {p:Pq}{es:List Sb}(h:1≤p.kind∧p.kind≤14)(hb:fG p es=false):eF val nm fi p es=(iS val nm fi p es).isSome:=by
  have h1:eF val nm fi p es=false:=by
    unfold eF;split
    ·rfl
    ·rw[kB (fun h2=>by rw[(sZ h).1 h2]at hb;cases hb)]
  have h2:iS val nm fi p es=none:=by
    unfold iS;split
    ·rfl
    ·split
     ·rfl
     ·rw[hb];rfl
  rw[h1,h2];rfl
def QR (val nm fi:List UInt8→Bool)(p:Pq)(es:List Sb):Prop:=eN val nm fi p es=if(cO fi p es=false∨2<p.qos)∨(p.kind=1∧jF val nm p=false∨p.kind=2∧(5<p.code∨p.present=true∧0<p.code))∨(p.kind=3∧(nm p.topic=false∨p.qos=0∧(p.dup=true∨p.id≠0)∨0<p.qos∧p.id=0))∨(p.kind≠3∧aW (aN p.kind) 105=true∧p.id=0)then none else some (oF p es)
theorem aHs {p:Pq}{es:List Sb}(h:1≤p.kind∧p.kind≤14)(hb:fG p es=true)
    (q:QR val nm fi p es):
    eF val nm fi p es=(iS val nm fi p es).isSome:=by
  have hf:aN p.kind≠[45]:=by
    obtain⟨k,hk'⟩:∃k,k=p.kind:=⟨_,rfl⟩;rw[←hk']at h⊢;have hk:k=1∨k=2∨k=3∨k=4∨k=5∨k=6∨k=7∨k=8∨k=9∨k=10∨k=11∨k=12∨k=13∨k=14:=by omega
    rcases hk with rfl|rfl|rfl|rfl|rfl|rfl|rfl|rfl|rfl|rfl|rfl|rfl|rfl|rfl<;>decide
  unfold eF iS;unfold QR at q;rw[kA hf,kA (not_not_intro ((sZ h).2 hb)),q];by_cases h1:cO fi p es=false∨2<p.qos
  ·rw[kB h1,kB (Or.inl h1)];rfl
  rw[kA h1];by_cases h2:p.kind=1∧jF val nm p=false∨p.kind=2∧(5<p.code∨p.present=true∧0<p.code)
  ·rw[kB h2,kB (Or.inr (Or.inl h2))];rfl
  rw[kA h2];by_cases h3:p.kind=3∧(nm p.topic=false∨p.qos=0∧(p.dup=true∨p.id≠0)∨0<p.qos∧p.id=0)
  ·rw[kB h3,kB (Or.inr (Or.inr (Or.inl h3)))];rfl
  rw[kA h3];by_cases h4:p.kind≠3∧aW (aN p.kind) 105=true∧p.id=0
  ·rw[kB h4,kB (Or.inr (Or.inr (Or.inr h4)))];rfl
  rw[kA h4,kA (fun h5=>by rcases h5 with h5|h5|h5|h5;exact h1 h5;exact h2 h5;exact h3 h5;exact h4 h5)];simp only[hb,if_true];by_cases h5:268435455<oF p es
  ·rw[kB h5,kD (by omega)];rfl
  ·rw[kA h5,kC (by omega)];rfl
theorem iW {p:Pq}{es:List Sb}(hb:fG p es=true):p={bz p with kind:=p.kind}∧(p.kind≠8→p.kind≠10→es=[]):=by
  unfold fG at hb;split at hb
  ·cases hb
  ·rename_i h1;exact⟨of_decide_eq_true hb,fun h2 h3=>Classical.byContradiction fun h4=>h1 ⟨h4,h2,h3⟩⟩
theorem bIx {p:Pq}{es:List Sb}(k:p.kind=2)(hb:fG p es=true):QR val nm fi p es:=by
  obtain⟨hp,he1⟩:=iW hb;have he:es=[]:=he1 (by omega) (by omega);clear hb he1;obtain⟨kind,dup,qos,retain,id,topic,payload,level,clean,keep,client,will,wt,wp,wq,wr,hu,hpw,user,pass,present,code,codes⟩:=p;simp only at k;subst k;subst he;simp only[bz,zq,Pq.mk.injEq]at hp;simp at hp;obtain⟨rfl,rfl,rfl,rfl,rfl,rfl,rfl,rfl,rfl,rfl,rfl,rfl,rfl,rfl,rfl,rfl,rfl,rfl,rfl,rfl⟩:=hp;have h1:cO fi ⟨2,false,0,false,0,[],[],0,false,0,[],false,[],[],0,false,false,false,[],[],present,code,[]⟩ []=true:=by simp[cO]
  have h2:aW (aN 2) 105=false:=by decide
  simp only[QR,h1,eN,oF,fM];simp[h2];by_cases c5:code≤5
  ·rw[kB c5];by_cases c0:code=0
   ·simp[c0]
   ·cases present with
    |true=>simp[c0]<;>omega
    |false=>simp[c0]<;>omega
  ·rw[kA c5,kB (by omega)]
theorem cFp {p:Pq}{es:List Sb}(k:p.kind=4∨p.kind=5∨p.kind=6∨p.kind=7∨p.kind=11)(hb:fG p es=true):QR val nm fi p es:=by
  obtain⟨hp,he1⟩:=iW hb;have he:es=[]:=he1 (by omega) (by omega);clear hb he1;obtain⟨kind,dup,qos,retain,id,topic,payload,level,clean,keep,client,will,wt,wp,wq,wr,hu,hpw,user,pass,present,code,codes⟩:=p;simp only at k;subst he;have hz:id=id∧∀q:Pq,q.kind=kind→q.id=id→q={bz q with kind:=q.kind}→q={zq kind with id:=id}:=⟨rfl,fun q h1 h2 h3=>by
    have hb:bz q={zq 0 with id:=q.id}:=by
      unfold bz;rw[kA (by omega),kA (by omega),kA (by omega),kA (by omega),kA (by omega)]
    rw[hb]at h3;rw[h3,h1,h2];rfl⟩
  rw[hz.2 _ rfl rfl hp];by_cases h0:id=0
  ·rcases k with rfl|rfl|rfl|rfl|rfl<;>simp[QR,eN,idO,zq,cO,oF,fM,aN,aW,h0]
  ·rcases k with rfl|rfl|rfl|rfl|rfl<;>simp[QR,eN,idO,zq,cO,oF,fM,aN,aW,h0]<;>omega
theorem bBj {p:Pq}{es:List Sb}(k:p.kind=12∨p.kind=13∨p.kind=14)(hb:fG p es=true):QR val nm fi p es:=by
  obtain⟨hp,he1⟩:=iW hb;have he:es=[]:=he1 (by omega) (by omega);clear hb he1;obtain⟨kind,dup,qos,retain,id,topic,payload,level,clean,keep,client,will,wt,wp,wq,wr,hu,hpw,user,pass,present,code,codes⟩:=p;simp only at k;subst he;have hb:bz ⟨kind,dup,qos,retain,id,topic,payload,level,clean,keep,client,will,wt,wp,wq,wr,hu,hpw,user,pass,present,code,codes⟩=zq 0:=by
    unfold bz;simp only;rw[kA (by omega),kA (by omega),kA (by omega),kA (by omega),kB k]
  rw[hb]at hp;rw[hp];show QR val nm fi (zq kind) [];unfold QR;rcases k with rfl|rfl|rfl<;>simp[eN,zq,cO,oF,fM,aN,aW]
theorem aNz {p:Pq}{es:List Sb}(k:p.kind=9)(hb:fG p es=true):QR val nm fi p es:=by
  obtain⟨hp,he1⟩:=iW hb;have he:es=[]:=he1 (by omega) (by omega);clear hb he1;obtain⟨kind,dup,qos,retain,id,topic,payload,level,clean,keep,client,will,wt,wp,wq,wr,hu,hpw,user,pass,present,code,codes⟩:=p;simp only at k;subst k;subst he;simp only[bz,zq,Pq.mk.injEq]at hp;simp at hp;obtain⟨rfl,rfl,rfl,rfl,rfl,rfl,rfl,rfl,rfl,rfl,rfl,rfl,rfl,rfl,rfl,rfl,rfl,rfl,rfl,rfl⟩:=hp;have h2:aW (aN 9) 105=true:=rfl;simp only[QR,eN,aBl,idO,oF,fM,cO];simp[h2];by_cases h0:id=0
  ·simp[h0]
  ·by_cases h1:codes=[]
   ·simp[h0,h1]
   ·by_cases h3:codes.all okc=true
    ·have h3':∀x∈codes,okc x=true:=List.all_eq_true.1 h3;have h5:0<id:=by omega
     simp[h0,h1,h3',h5];rw[kB h3',kA (fun⟨x,hx,hf⟩=>by rw[h3' x hx]at hf;cases hf),Nat.add_comm]
    ·simp only[h0,h1,h3];have h3':∃x,x∈codes∧okc x=false:=by simpa using h3
     simp[h3']
theorem bIw {p:Pq}{es:List Sb}(k:p.kind=3)(hb:fG p es=true):QR val nm fi p es:=by
  obtain⟨hp,he1⟩:=iW hb;have he:es=[]:=he1 (by omega) (by omega);clear hb he1;obtain⟨kind,dup,qos,retain,id,topic,payload,level,clean,keep,client,will,wt,wp,wq,wr,hu,hpw,user,pass,present,code,codes⟩:=p;simp only at k;subst k;subst he;simp only[bz,zq,Pq.mk.injEq]at hp;simp at hp;obtain⟨rfl,rfl,rfl,rfl,rfl,rfl,rfl,rfl,rfl,rfl,rfl,rfl,rfl,rfl,rfl,rfl⟩:=hp;simp only[QR,eN,xE,oF,fM,cO]
  cases hn:nm topic with
  |false=>simp[hn]
  |true=>
    by_cases h2:2<qos
    ·simp[h2,hn]
    ·by_cases h0:qos=0
     ·by_cases hi:id=0
      ·cases dup<;>simp[h0,hi,hn]<;>omega
      ·have:0<id:=by omega
       simp[h0,hi,hn,this]
     ·have hq:0<qos:=by omega
      by_cases hi:id=0
      ·simp[h0,hi,hn,h2,hq]
      ·have:0<id:=by omega
       simp[h0,hi,hn,this,h2,hq];omega
theorem aHm {kind:Nat}(k:kind=8∨kind=10)(es:List Sb):(es.map fun s=>2+s.1.length+rN kind).sum=fM kind es:=by
  unfold fM;have:rN kind=if kind=8 then 1 else 0:=by rcases k with rfl|rfl<;>rfl
  rw[this]
theorem aIu {kind:Nat}(k:kind=8∨kind=10)(es:List Sb):(es.all fun s=>fi s.1&&decide (s.2≤nL kind))=(es.all fun s=>fi s.1&&decide (s.2≤2)&&decide (kind=10→s.2=0)):=by
  congr 1;funext s;rcases k with rfl|rfl
  ·simp[nL]
  ·have:nL 10=0:=rfl;rw[this,Bool.eq_iff_iff];simp;omega
theorem bBi {p:Pq}{es:List Sb}(k:p.kind=8∨p.kind=10)(hb:fG p es=true):QR val nm fi p es:=by
  obtain⟨hp,_⟩:=iW hb;clear hb;obtain⟨kind,dup,qos,retain,id,topic,payload,level,clean,keep,client,will,wt,wp,wq,wr,hu,hpw,user,pass,present,code,codes⟩:=p;simp only at k;have hz:bz ⟨kind,dup,qos,retain,id,topic,payload,level,clean,keep,client,will,wt,wp,wq,wr,hu,hpw,user,pass,present,code,codes⟩={zq 0 with id:=id}:=by
    unfold bz;simp only;rw[kA (by omega),kA (by omega),kA (by omega),kA (by omega),kA (by omega)]
  rw[hz]at hp;simp only[zq,Pq.mk.injEq,true_and,and_true]at hp;obtain⟨rfl,rfl,rfl,rfl,rfl,rfl,rfl,rfl,rfl,rfl,rfl,rfl,rfl,rfl,rfl,rfl,rfl,rfl,rfl,rfl,rfl⟩:=hp;have h2:aW (aN kind) 105=true:=by rcases k with rfl|rfl<;>rfl
  have hr:eN val nm fi ⟨kind,false,0,false,id,[],[],0,false,0,[],false,[],[],0,false,false,false,[],[],false,0,[]⟩ es=if id=0 then none else if es=[]then none else if(es.all fun s=>fi s.1&&decide (s.2≤2)&&decide (kind=10→s.2=0))=true then some (2+fM kind es)else none:=by
    unfold eN;simp only;rw[kA (by omega),kA (by omega),kA (by omega),kA (by omega),kB k];unfold aAn idO;simp only;by_cases h0:id=0
    ·rw[kB h0,kB h0]
    ·rw[kA h0,kA h0];by_cases h1:es=[]
     ·simp only[kB h1]
     ·simp only[kA h1];rw[aCa,aIu k,aHm k]
  have hl:cO fi ⟨kind,false,0,false,id,[],[],0,false,0,[],false,[],[],0,false,false,false,[],[],false,0,[]⟩ es=((es.all fun s=>fi s.1&&decide (s.2≤2)&&decide (kind=10→s.2=0))&&decide (es≠[])):=by
    unfold cO;simp only;have h9:¬kind=9:=by omega
    simp[k,h9]
  have hn:oF ⟨kind,false,0,false,id,[],[],0,false,0,[],false,[],[],0,false,false,false,[],[],false,0,[]⟩ es=(if 0<id then 2 else 0)+fM kind es:=by
    unfold oF;simp only;rw[kA (show¬kind=1 by omega),kA (show¬kind=2 by omega),kA (show¬kind=3 by omega)];simp
  unfold QR;rw[hr,hl,hn];simp only;have k1:¬kind=1:=by omega
  have k2:¬kind=2:=by omega
  have k3:¬kind=3:=by omega
  by_cases h0:id=0
  ·simp[h0,k1,k2,k3,h2]
  ·have hq:0<id:=by omega
   by_cases h1:es=[]
   ·simp[h1,h0]
   ·cases ha:(es.all fun s=>fi s.1&&decide (s.2≤2)&&decide (kind=10→s.2=0))with
    |true=>simp[h1,h0,k1,k2,k3,hq]
    |false=>simp[h1,h0,k1,k2,k3]
theorem bBl (hv0:val []=true){p:Pq}{es:List Sb}(k:p.kind=1)(hb:fG p es=true):QR val nm fi p es:=by
  obtain⟨hp,he1⟩:=iW hb;have he:es=[]:=he1 (by omega) (by omega);clear hb he1;obtain⟨kind,dup,qos,retain,id,topic,payload,level,clean,keep,client,will,wt,wp,wq,wr,hu,hpw,user,pass,present,code,codes⟩:=p;simp only at k;subst k;subst he;simp only[bz,zq,Pq.mk.injEq]at hp;simp at hp;obtain⟨rfl,rfl,rfl,rfl,rfl,rfl,rfl,rfl,rfl⟩:=hp;have h2:aW (aN 1) 105=false:=by decide
  have hl:cO fi ⟨1,false,0,false,0,[],[],level,clean,keep,client,will,wt,wp,wq,wr,hu,hpw,user,pass,false,0,[]⟩ []=true:=by simp[cO]
  have hr:eN val nm fi ⟨1,false,0,false,0,[],[],level,clean,keep,client,will,wt,wp,wq,wr,hu,hpw,user,pass,false,0,[]⟩ []=aBk val nm ⟨1,false,0,false,0,[],[],level,clean,keep,client,will,wt,wp,wq,wr,hu,hpw,user,pass,false,0,[]⟩:=rfl;have hn:oF ⟨1,false,0,false,0,[],[],level,clean,keep,client,will,wt,wp,wq,wr,hu,hpw,user,pass,false,0,[]⟩ []=12+client.length+(if will then 4+wt.length+wp.length else 0)+(if hu then 2+user.length else 0)+(if hpw then 2+pass.length else 0):=by
    simp[oF,fM]
  unfold QR;rw[hr,hl,hn];simp[h2];unfold aBk jF aDs aAm xF wz;simp only;by_cases h4:level=4
  case neg=>simp[h4]
  cases hc:val client with
  |false=>simp[h4,hc]
  |true=>
  simp only[h4,hc,if_true,ne_eq,not_true_eq_false,Bool.true_eq_false,or_self,if_false]
  cases will with
  |true=>
    cases hw:nm wt with
    |false=>simp[hw]
    |true=>
    by_cases hwp:65535<wp.length
    ·simp[hw,hwp]
    by_cases hwq:2<wq
    ·simp[hw,hwp,hwq]
    cases hu with
    |true=>
      cases hvu:val user with
      |false=>cases hpw<;>by_cases hps:pass=[]<;>simp[hw,hwp,hwq,hvu,hps]
      |true=>
        cases hpw with
        |true=>by_cases hpl:65535<pass.length<;>simp[hw,hwp,hwq,hvu,hpl,Nat.le_of_not_lt,Nat.not_le_of_lt]<;>omega
        |false=>by_cases hps:pass=[]<;>simp[hw,hwp,hwq,hvu,hps]<;>omega
    |false=>
      by_cases hus:user=[]
      ·cases hpw with
       |true=>simp[hw,hwp,hwq,hus]
       |false=>by_cases hps:pass=[]<;>simp[hw,hwp,hwq,hus,hps,hv0]
      ·simp[hw,hwp,hwq,hus]
  |false=>
    by_cases hz:wt=[]∧wp=[]∧wq=0∧wr=false
    case neg=>
      have:(bif wt==[]then bif wp==[]then bif (wq:Int)==0 then wr==false else false else false else false)=false:=by
        rw[Bool.eq_false_iff];intro h;apply hz;by_cases a:wt=[]
        ·by_cases b:wp=[]
         ·by_cases c:wq=0
          ·cases wr
           ·exact⟨a,b,c,rfl⟩
           ·simp[a,b,c]at h
          ·simp[a,b,c]at h
         ·simp[a,b]at h
        ·simp[a]at h
      have hz2:¬wt=[]∨¬wp=[]∨¬wq=0∨wr=true:=by
        by_cases a:wt=[]
        ·by_cases b:wp=[]
         ·by_cases c:wq=0
          ·cases wr
           ·exact absurd ⟨a,b,c,rfl⟩ hz
           ·simp
          ·simp[c]
         ·simp[b]
        ·simp[a]
      simp[this,hz2];rw[kA hz]
    obtain⟨rfl,rfl,rfl,rfl⟩:=hz
    cases hu with
    |true=>
      cases hvu:val user with
      |false=>cases hpw<;>by_cases hps:pass=[]<;>simp[hvu,hps]
      |true=>
        cases hpw with
        |true=>by_cases hpl:65535<pass.length<;>simp[hvu,hpl,Nat.le_of_not_lt,Nat.not_le_of_lt]
        |false=>by_cases hps:pass=[]<;>simp[hvu,hps]
    |false=>
      by_cases hus:user=[]
      ·cases hpw with
       |true=>simp[hus]
       |false=>by_cases hps:pass=[]<;>simp[hus,hps,hv0]
      ·simp[hus]
theorem wM (hv0:val []=true)(p:Pq)(es:List Sb):eF val nm fi p es=(iS val nm fi p es).isSome:=by
  by_cases h:1≤p.kind∧p.kind≤14
  case neg=>exact uZ es (by omega)
  cases hb:fG p es with
  |false=>exact yM h hb
  |true=>
    refine aHs h hb ?_;by_cases k1:p.kind=1
    ·exact bBl hv0 k1 hb
    by_cases k2:p.kind=2
    ·exact bIx k2 hb
    by_cases k3:p.kind=3
    ·exact bIw k3 hb
    by_cases k8:p.kind=8∨p.kind=10
    ·exact bBi k8 hb
    by_cases k9:p.kind=9
    ·exact aNz k9 hb
    by_cases k12:p.kind=12∨p.kind=13∨p.kind=14
    ·exact bBj k12 hb
    ·exact cFp (by omega) hb
end
end Go.Proofs.YtohapjojkjjflaaGreatDoor.Wz

set_option maxRecDepth 100000
namespace Go.Proofs.YtohapjojkjjflaaGreatDoor.Wz
open Go Go.AM
def gS (kind:Nat):Nat→List UInt8→Nat→List Sb
 |0,_,_=>[]
 |n+1,l,was=>if l=[]∨was≤l.length then[]else
  ((aM l).1,if kind=8 then(bR (aM l).2.1).1 else 0)::gS kind n (if kind=8 then(bR (aM l).2.1).2.1 else(aM l).2.1) l.length
def dQ (c:Nat)(rest:List UInt8):Pq×List Sb:=
 if c / 16=8∨c / 16=10 then({zq (c / 16)with id:=(aX rest).1},gS (c / 16) ((aX rest).2.1.length+1) (aX rest).2.1 ((aX rest).2.1.length+1))
 else((fI (fun _=>true) (c%16) (rest,false,zq (c / 16))).1.2.2,(fI (fun _=>true) (c%16) (rest,false,zq (c / 16))).2)
def pN (val nm fi:List UInt8→Bool)(l:List UInt8):Option (Pq×List Sb×Nat):=
 match l with
 |[]=>none
 |c::t=>
  if bG c.toNat=true then
   if(rlF t 4 1 0 0).2.2=0 then
    if(c::t).length-((rlF t 4 1 0 0).2.1+1)<(rlF t 4 1 0 0).1 then none
    else
     let rest:=((c::t).drop ((rlF t 4 1 0 0).2.1+1)).take (rlF t 4 1 0 0).1;let n:=(rlF t 4 1 0 0).2.1+1+(rlF t 4 1 0 0).1
     if lv7 (c.toNat / 16) rest then some ({zq 1 with level:=(rest[6]?.getD 0).toNat},[],n)
     else
      let g:=dQ c.toNat rest
      if eF val nm fi g.1 g.2=true∧16*g.1.kind+dO g.1=c.toNat∧bX g.1 g.2=rest then some (g.1,g.2,n)else none
   else none
  else none
theorem rH (b:UInt8):UInt8.ofNat b.toNat=b:=by rw[←UInt8.toNat_inj,u8n b.toNat_lt]
theorem jU {l:List UInt8}(h:(bR l).2.2=false):l=UInt8.ofNat (bR l).1::(bR l).2.1:=by
 cases l with
 |nil=>cases h
 |cons b t=>show b::t=UInt8.ofNat b.toNat::t;rw[rH]
theorem aBw {l:List UInt8}{n:Nat}(h:wrd l=some n):l=bD n++l.drop 2:=by
 match l,h with
 |a::b::r,h=>
  simp only[wrd,kE]at h;have ha:=a.toNat_lt;have hb:=b.toNat_lt;subst h;show a::b::r=[UInt8.ofNat ((256*a.toNat+b.toNat) / 256),UInt8.ofNat ((256*a.toNat+b.toNat)%256)]++r;rw[show(256*a.toNat+b.toNat) / 256=a.toNat by omega,show(256*a.toNat+b.toNat)%256=b.toNat by omega,rH,rH];rfl
theorem gX {l:List UInt8}(h:(aX l).2.2=false):l=bD (aX l).1++(aX l).2.1:=by
 unfold aX at h⊢
 cases hw:wrd l with
 |none=>rw[hw]at h;cases h
 |some n=>exact aBw hw
theorem nQ {l:List UInt8}(h:(aM l).2.2=false):l=aH (aM l).1++(aM l).2.1∧(aM l).1.length<65536:=by
 unfold aM at h⊢
 cases hg:getD l with
 |none=>rw[hg]at h;cases h
 |some du=>
  obtain⟨d,u⟩:=du;show l=aH d++l.drop u∧d.length<65536;unfold getD at hg;split at hg
  ·rename_i n hw;have h2:=lM hw;split at hg
   ·simp only[kE,kK]at hg;obtain⟨rfl,rfl⟩:=hg;have hi:=aBw hw;have hl:((l.drop 2).take n).length=n:=by rw[kT,kU];omega
    refine⟨?_,by omega⟩;have:aH ((l.drop 2).take n)=bD n++(l.drop 2).take n:=by unfold aH bD;rw[hl];rfl
    rw[this,pT,←pS,pY];exact hi
   ·cases hg
  ·cases hg
theorem nO {val:List UInt8→Bool}{l:List UInt8}(h:(aZ val l).2.2=false):aM l=aZ val l∧val (aZ val l).1=true:=by
 unfold aZ at h⊢;unfold aM
 cases hg:getD l with
 |none=>rw[hg]at h;cases h
 |some du=>
  obtain⟨d,u⟩:=du;rw[hg]at h;simp only at h⊢
  cases hv:val d with
  |true=>exact⟨rfl,hv⟩
  |false=>rw[hv]at h;cases h
theorem pU (l:List UInt8):aZ (fun _=>true) l=aM l:=by
 unfold aZ aM;cases getD l<;>rfl
theorem gY {val:List UInt8→Bool}{l:List UInt8}(h:(aZ val l).2.2=false):aZ (fun _=>true) l=aZ val l:=by rw[pU,(nO h).1]
theorem eX {val:List UInt8→Bool}{l:List UInt8}(h:(aZ val l).2.2=false):l=aH (aZ val l).1++(aZ val l).2.1:=by
 obtain⟨e,_⟩:=nO h;rw[←e]at h⊢;exact(nQ h).1
theorem or3 {a b c:Bool}(h:(a||b||c)=false):a=false∧b=false∧c=false:=by
 cases a<;>cases b<;>cases c<;>first|exact⟨rfl,rfl,rfl⟩|cases h
theorem or2 {a b:Bool}(h:(a||b)=false):a=false∧b=false:=by
 cases a<;>cases b<;>first|exact⟨rfl,rfl⟩|cases h
theorem wG (val:List UInt8→Bool)(kind:Nat):∀(n:Nat) (l:List UInt8),(eO val kind n l true).2.2=true
 |0,_=>rfl
 |n+1,l=>by
  show(if l=[]∨true=true then([],l,true)else _:List Sb×List UInt8×Bool).2.2=true
  rw[kB (Or.inr rfl)]
theorem wE {val:List UInt8→Bool}{kind:Nat}(hk:kind=8∨kind=10):∀(n:Nat) (l:List UInt8) (es:List Sb),eO val kind n l false=(es,[],false)→∀was,l.length<was→l=dD kind es∧gS kind n l was=es
 |0,l,es,h,was,_=>by
  have h:(([],l,false):List Sb×List UInt8×Bool)=(es,[],false):=h;simp only[kK]at h;obtain⟨rfl,rfl,_⟩:=h;exact⟨rfl,rfl⟩
 |n+1,l,es,h,was,hw=>by
  by_cases hl:l=[]
  ·subst hl;have h:(([],[],false):List Sb×List UInt8×Bool)=(es,[],false):=h;simp only[kK]at h;obtain⟨rfl,_⟩:=h;exact⟨rfl,rfl⟩
  obtain⟨a,ha⟩:∃a,a=aZ val l:=⟨_,rfl⟩;obtain⟨b,hb⟩:∃b,b=if kind=8 then bR a.2.1 else(0,a.2.1,false):=⟨_,rfl⟩
  have e:eO val kind (n+1) l false=((a.1,b.1)::(eO val kind n b.2.1 (false||a.2.2||b.2.2)).1,(eO val kind n b.2.1 (false||a.2.2||b.2.2)).2):=by
   show(if l=[]∨false=true then([],l,false)else _:List Sb×List UInt8×Bool)=_
   rw[kA (by simp[hl])];rw[hb,ha]
  rw[e]at h
  cases hbad:(false||a.2.2||b.2.2)with
  |true=>
   rw[hbad]at h;have h1:=congrArg (fun x:List Sb×List UInt8×Bool=>x.2.2) h;have h1:(eO val kind n b.2.1 true).2.2=false:=h1;rw[wG]at h1;cases h1
  |false=>
   rw[hbad]at h;obtain⟨_,h1,h2⟩:=or3 hbad;rw[ha]at h1;have hc:=sF h1;have hi:=eX h1;obtain⟨hd,_⟩:=nO h1;rw[←ha]at hc hi hd;obtain⟨t,ht⟩:∃t,t=eO val kind n b.2.1 false:=⟨_,rfl⟩;rw[←ht]at h;obtain⟨t1,t2⟩:=t;simp only[kK]at h;obtain⟨rfl,rfl⟩:=h;have hbl:b.2.1.length≤a.2.1.length:=by
    rw[hb];split
    ·exact fJ _
    ·exact kF _
   obtain⟨i1,i2⟩:=wE hk n b.2.1 t1 ht.symm l.length (by omega);have hR:gS kind (n+1) l was=(a.1,b.1)::gS kind n b.2.1 l.length:=by
    show(if l=[]∨was≤l.length then[]else _)=_
    rw[kA (by simp[hl];omega),hd,hb];by_cases h8:kind=8
    ·simp only[kB h8]
    ·simp only[kA h8]
   refine⟨?_,by rw[hR,i2]⟩;rw[fY,←i1];unfold nE;by_cases h8:kind=8
   ·rw[kB h8]at hb⊢;rw[hb]at h2;have:=jU h2;rw[←hb]at this;rw[pT];show l=aH a.1++(UInt8.ofNat b.1::b.2.1);rw[←this];exact hi
   ·rw[kA h8]at hb⊢;rw[List.append_nil,hb];exact hi
theorem fl3 {c:Nat}(h:c<256)(k:c / 16=3):16*3+((if aO 8 (c%16)then 8 else 0)+2*(c%16 / 2%4)+(if aO 1 (c%16)then 1 else 0))=c:=by
 unfold aO;simp only[pI];split<;>split<;>omega
theorem bCn:∀c:Nat,c<256→aO 1 c=false→(if aO 128 c then 128 else 0)+(if aO 64 c then 64 else 0)+(if aO 32 c then 32 else 0)+8*(c / 8%4)+(if aO 4 c then 4 else 0)+(if aO 2 c then 2 else 0)=c:=by
 have all:((List.range 256).all fun c=>aO 1 c||Nat.beq ((if aO 128 c then 128 else 0)+(if aO 64 c then 64 else 0)+(if aO 32 c then 32 else 0)+8*(c / 8%4)+(if aO 4 c then 4 else 0)+(if aO 2 c then 2 else 0)) c)=true:=by kernel_rfl
 intro c hc h1;have:=List.all_eq_true.1 all c (List.mem_range.2 hc);rw[h1,Bool.false_or]at this;exact Nat.eq_of_beq_eq_true this
theorem wW {c:Nat}(h256:c<256)(h:bG c=true):1≤c / 16∧c / 16≤14∧(c / 16=3∨c%16=if c / 16=6∨c / 16=8∨c / 16=10 then 2 else 0):=by
 unfold bG at h;split at h
 ·cases h
 ·rename_i h0;split at h
  ·rename_i h3;exact⟨by omega,by omega,Or.inl h3⟩
  ·split at h
   ·rename_i h6;have:=of_decide_eq_true h;exact⟨by omega,by omega,Or.inr (by rw[kB h6];exact this)⟩
   ·rename_i h6;have:=of_decide_eq_true h;exact⟨by omega,by omega,Or.inr (by rw[kA h6];exact this)⟩
section
variable {val nm fi:List UInt8→Bool}
def Inv (val:List UInt8→Bool)(c:Nat)(rest:List UInt8)(p:Pq)(es:List Sb):Prop:=dQ c rest=(p,es)∧bX p es=rest∧16*p.kind+dO p=c
theorem aOi {c:Nat}{rest:List UInt8}(k:c / 16=2)(hc:c%16=0)(hb:(wA (rest,false,zq 2)).2.1=false)(hl:(wA (rest,false,zq 2)).1=[]):Inv val c rest (wA (rest,false,zq 2)).2.2 []:=by
 refine⟨?_,?_,?_⟩
 ·unfold dQ;rw[kA (by omega),k];rfl
 ·obtain⟨a,ha⟩:∃a,a=bR rest:=⟨_,rfl⟩;obtain⟨b,hb'⟩:∃b,b=bR a.2.1:=⟨_,rfl⟩;have hb:((if false||a.2.2 then true else decide (1<a.1))||b.2.2)=false:=by rw[hb',ha];exact hb
  have hl:b.2.1=[]:=by rw[hb',ha];exact hl
  obtain⟨h1,h2⟩:=or2 hb;have ha2:a.2.2=false:=by cases h:a.2.2 with|false=>rfl|true=>rw[h]at h1;cases h1
  rw[ha2]at h1;have h1:decide (1<a.1)=false:=h1;have h1:=of_decide_eq_false h1;have i1:=jU (l:=rest) (by rw[←ha];exact ha2);have i2:=jU (l:=a.2.1) (by rw[←hb'];exact h2);rw[←ha]at i1;rw[←hb',hl]at i2;show[UInt8.ofNat (if decide ((bR rest).1=1)then 1 else 0),UInt8.ofNat (bR (bR rest).2.1).1]=rest
  rw[←ha,←hb',i1,i2];by_cases h:a.1=1
  ·rw[h];rfl
  ·have:a.1=0:=by omega
   rw[this];rfl
 ·show 16*2+0=c;omega
theorem aOh {c:Nat}{rest:List UInt8}(h256:c<256)(k:c / 16=3)(hb:(jR val (c%16) (rest,false,zq 3)).2.1=false)(hr:(iS val nm fi (jR val (c%16) (rest,false,zq 3)).2.2 []).isSome=true):Inv val c rest (jR val (c%16) (rest,false,zq 3)).2.2 []:=by
 obtain⟨a,ha⟩:∃a,a=aZ val rest:=⟨_,rfl⟩;obtain⟨b,hb'⟩:∃b,b=if 0<c%16 / 2%4 then aX a.2.1 else(0,a.2.1,false):=⟨_,rfl⟩
 have hp:jR val (c%16) (rest,false,zq 3)=([],false||a.2.2||b.2.2,{zq 3 with dup:=aO 8 (c%16),qos:=c%16 / 2%4,retain:=aO 1 (c%16),topic:=a.1,id:=b.1,payload:=b.2.1}):=by rw[hb',ha];rfl
 rw[hp]at hb hr⊢;obtain⟨_,h1,h2⟩:=or3 hb;rw[ha]at h1;have i1:=eX h1;have i0:=gY h1;rw[←ha]at i1 i0;have hq:0<c%16 / 2%4→0<b.1:=by
  intro hq;have hk:eN val nm fi ({zq 3 with dup:=aO 8 (c%16),qos:=c%16 / 2%4,retain:=aO 1 (c%16),topic:=a.1,id:=b.1,payload:=b.2.1}:Pq) []=xE nm {zq 3 with dup:=aO 8 (c%16),qos:=c%16 / 2%4,retain:=aO 1 (c%16),topic:=a.1,id:=b.1,payload:=b.2.1}:=rfl;refine Nat.pos_of_ne_zero fun h0=>?_;have:xE nm ({zq 3 with dup:=aO 8 (c%16),qos:=c%16 / 2%4,retain:=aO 1 (c%16),topic:=a.1,id:=b.1,payload:=b.2.1}:Pq)=none:=by
   unfold xE;simp only;rw[h0];split
   ·split
    ·rfl
    ·rw[kA (by omega),kB (Or.inl hq)]
   ·rfl
  unfold iS at hr;rw[hk,this]at hr;cases hr
 refine⟨?_,?_,?_⟩
 ·unfold dQ;rw[kA (by omega),k];show((jR (fun _=>true) (c%16) (rest,false,zq 3)).2.2,([]:List Sb))=_;unfold jR;simp only[i0];rw[hb'];rfl
 ·show aH a.1++(if 0<b.1 then bD b.1 else[])++dD 3 []++[]++b.2.1=rest
  have:dD 3 []=[]:=rfl;rw[this,List.append_nil,List.append_nil];by_cases h:0<c%16 / 2%4
  ·rw[kB (hq h)];rw[kB h]at hb';have i2:=gX (l:=a.2.1) (by rw[←hb'];exact h2);rw[←hb']at i2;rw[pT,←i2];exact i1.symm
  ·rw[kA h]at hb';rw[hb'];show aH a.1++[]++a.2.1=rest;rw[List.append_nil];exact i1.symm
 ·show 16*3+dO _=c;exact fl3 h256 k
theorem aBs {p:Pq}{es:List Sb}(k:p.kind=4∨p.kind=5∨p.kind=6∨p.kind=7∨p.kind=8∨p.kind=9∨p.kind=10∨p.kind=11)(hr:(iS val nm fi p es).isSome=true):0<p.id:=by
 refine Nat.pos_of_ne_zero fun h0=>?_;have hi:idO p=none:=by unfold idO;rw[kB h0]
 have:eN val nm fi p es=none:=by
  unfold eN aAn aBl;rw[kA (by omega),kA (by omega),kA (by omega),hi];split
  ·rfl
  ·split
   ·rfl
   ·split
    ·rfl
    ·split
     ·omega
     ·rfl
 unfold iS at hr;rw[this]at hr;cases hr
theorem aIb {c:Nat}{rest:List UInt8}(k:c / 16=4∨c / 16=5∨c / 16=6∨c / 16=7∨c / 16=8∨c / 16=9∨c / 16=10∨c / 16=11)(hc:c%16=if c / 16=6∨c / 16=8∨c / 16=10 then 2 else 0){a:CS×List Sb}(ea:a=cY val ((aX rest).2.1,false||(aX rest).2.2,{zq (c / 16)with id:=(aX rest).1}))
 (hb:a.1.2.1=false) (hl:a.1.1=[]) (hr:(iS val nm fi a.1.2.2 a.2).isSome=true):Inv val c rest a.1.2.2 a.2:=by
 obtain⟨w,hw⟩:∃w,w=aX rest:=⟨_,rfl⟩;rw[←hw]at ea;unfold cY at ea;simp only[Bool.false_or]at ea;have hkz:({zq (c / 16)with id:=w.1}:Pq).kind=c / 16:=rfl;have fl:∀p:Pq,p.kind=c / 16→16*p.kind+dO p=c:=by
  intro p hp;unfold dO;rw[hp,kA (by omega)];omega
 by_cases k9:c / 16=9
 ·rw[kB (by rw[hkz];exact k9)]at ea;subst ea;have h1:w.2.2=false:=hb;have i1:=gX (l:=rest) (by rw[←hw];exact h1);rw[←hw]at i1;have hp:=aBs (by show c / 16=4∨_;exact k) hr;have hp:0<w.1:=hp;refine⟨?_,?_,fl _ rfl⟩
  ·unfold dQ;rw[kA (by omega),k9];show((cY (fun _=>true) ((aX rest).2.1,false||(aX rest).2.2,{zq 9 with id:=(aX rest).1})).1.2.2,(cY (fun _=>true) ((aX rest).2.1,false||(aX rest).2.2,{zq 9 with id:=(aX rest).1})).2)=_;rw[←hw];rfl
  ·unfold bX;show(if c / 16=1 then _ else if c / 16=2 then _ else(if c / 16=3 then _ else[])++(if 0<w.1 then bD w.1 else[])++dD (c / 16) []++w.2.1++[])=rest
   rw[kA (by omega),kA (by omega),kA (by omega),kB hp];show[]++bD w.1++[]++w.2.1++[]=rest;rw[List.nil_append,List.append_nil,List.append_nil];exact i1.symm
 rw[kA (by rw[hkz];exact k9)]at ea;by_cases k8:c / 16=8∨c / 16=10
 ·rw[kB (by rw[hkz];exact k8)]at ea;obtain⟨s,hs⟩:∃s,s=eO val (c / 16) (w.2.1.length+1) w.2.1 w.2.2:=⟨_,rfl⟩;have ea:a=((s.2.1,s.2.2,{zq (c / 16)with id:=w.1}),s.1):=by rw[ea,hs];rfl
  subst ea;have hb:s.2.2=false:=hb;have hl:s.2.1=[]:=hl;have h1:w.2.2=false:=by
   cases h:w.2.2 with
   |false=>rfl
   |true=>rw[h]at hs;rw[hs,wG]at hb;cases hb
  have i1:=gX (l:=rest) (by rw[←hw];exact h1);rw[←hw]at i1;have hp:=aBs (by show c / 16=4∨_;exact k) hr;have hp:0<w.1:=hp;have e2:eO val (c / 16) (w.2.1.length+1) w.2.1 false=(s.1,[],false):=by
   rw[h1]at hs;rw[←hs,←hl,←hb]
  obtain⟨s1,s2⟩:=wE k8 _ _ _ e2 (w.2.1.length+1) (by omega);refine⟨?_,?_,fl _ rfl⟩
  ·unfold dQ;rw[kB k8,←hw,s2]
  ·unfold bX;show(if c / 16=1 then _ else if c / 16=2 then _ else(if c / 16=3 then _ else[])++(if 0<w.1 then bD w.1 else[])++dD (c / 16) s.1++[]++[])=rest
   rw[kA (by omega),kA (by omega),kA (by omega),kB hp];rw[List.nil_append,List.append_nil,List.append_nil,←s1];exact i1.symm
 rw[kA (by rw[hkz];exact k8)]at ea;subst ea;have h1:w.2.2=false:=hb;have hl:w.2.1=[]:=hl;have i1:=gX (l:=rest) (by rw[←hw];exact h1);rw[←hw,hl]at i1;have hp:=aBs (by show c / 16=4∨_;exact k) hr;have hp:0<w.1:=hp;refine⟨?_,?_,fl _ rfl⟩
 ·unfold dQ;rw[kA k8];have e:fI (fun _=>true) (c%16) (rest,false,zq (c / 16))=((w.2.1,w.2.2,{zq (c / 16)with id:=w.1}),[]):=by
   unfold fI;show(if c / 16=1 then _ else if c / 16=2 then _ else if c / 16=3 then _ else if c / 16=12∨c / 16=13∨c / 16=14 then _ else _)=_
   rw[kA (by omega),kA (by omega),kA (by omega),kA (by omega)];unfold cY;show(if c / 16=9 then _ else if c / 16=8∨c / 16=10 then _ else _)=_
   rw[kA k9,kA k8,←hw,Bool.false_or]
  rw[e]
 ·unfold bX;show(if c / 16=1 then _ else if c / 16=2 then _ else(if c / 16=3 then _ else[])++(if 0<w.1 then bD w.1 else[])++dD (c / 16) []++[]++[])=rest
  rw[kA (by omega),kA (by omega),kA (by omega),kB hp];show[]++bD w.1++[]++[]++[]=rest;rw[List.nil_append,List.append_nil,List.append_nil];exact i1.symm
theorem aIa {c:Nat}{rest:List UInt8}(k:c / 16=12∨c / 16=13∨c / 16=14)(hc:c%16=0)(hl:rest=[]):Inv val c rest (zq (c / 16)) []:=by
 refine⟨?_,?_,?_⟩
 ·have e:fI (fun _=>true) (c%16) (rest,false,zq (c / 16))=((rest,false,zq (c / 16)),[]):=by
   unfold fI;show(if c / 16=1 then _ else if c / 16=2 then _ else if c / 16=3 then _ else if c / 16=12∨c / 16=13∨c / 16=14 then _ else _)=_
   rw[kA (by omega),kA (by omega),kA (by omega),kB k]
  unfold dQ;rw[kA (by omega),e]
 ·rw[hl];unfold bX;show(if c / 16=1 then _ else if c / 16=2 then _ else(if c / 16=3 then _ else[])++(if 0<0 then bD 0 else[])++dD (c / 16) []++[]++[])=[]
  rw[kA (by omega),kA (by omega),kA (by omega)];rfl
 ·show 16*(c / 16)+(if c / 16=3 then _ else if c / 16=6∨c / 16=8∨c / 16=10 then 2 else 0)=c
  rw[kA (by omega),kA (by omega)];omega
theorem aDk {val:List UInt8→Bool}{s:CS}(h:s.2.1=true):(bH val s).2.1=true:=by
 unfold bH;split<;>simp[h]
theorem aAe {val:List UInt8→Bool}{s:CS}(h:s.2.1=true):(bT val s).2.1=true:=by
 unfold bT;simp[h]
theorem uN {s t:CS}(h:s.2.1=true→t.2.1=true)(ht:t.2.1=false):s.2.1=false:=by
 cases hs:s.2.1 with
 |false=>rfl
 |true=>rw[h hs]at ht;cases ht
theorem aDn {s:CS}(hs:s.2.1=false)(h:(cW val s).2.1=false):cW (fun _=>true) s=cW val s∧∃x:Nat,x<256∧aO 1 x=false∧s.1=aH MQTT++[UInt8.ofNat (cW val s).2.2.level,UInt8.ofNat x]++(cW val s).1∧(cW val s).2.2={s.2.2 with level:=(cW val s).2.2.level,clean:=aO 2 x,will:=aO 4 x,wq:=x / 8%4,wr:=aO 32 x,hp:=aO 64 x,hu:=aO 128 x}:=by
 obtain⟨a,ha⟩:∃a,a=aZ val s.1:=⟨_,rfl⟩;obtain⟨b,hb⟩:∃b,b=bR a.2.1:=⟨_,rfl⟩;obtain⟨c,hc⟩:∃c,c=bR b.2.1:=⟨_,rfl⟩;have e:cW val s=(c.2.1,(if s.2.1||a.2.2||b.2.2||c.2.2 then true else if a.1=MQTT then aO 1 c.1 else true),{s.2.2 with level:=b.1,clean:=aO 2 c.1,will:=aO 4 c.1,wq:=c.1 / 8%4,wr:=aO 32 c.1,hp:=aO 64 c.1,hu:=aO 128 c.1}):=by rw[hc,hb,ha];rfl
 rw[e]at h⊢;have h:(if s.2.1||a.2.2||b.2.2||c.2.2 then true else if a.1=MQTT then aO 1 c.1 else true)=false:=h
 rw[hs,Bool.false_or]at h;split at h
 ·cases h
 rename_i h1;obtain⟨h2,h3,h4⟩:=or3 (Bool.eq_false_iff.2 h1);split at h
 case isFalse=>cases h
 rename_i hm;rw[ha]at h2;have i1:=eX h2;have i0:=gY h2;rw[←ha]at i1 i0;have i2:=jU (l:=a.2.1) (by rw[←hb];exact h3);rw[←hb]at i2;have i3:=jU (l:=b.2.1) (by rw[←hc];exact h4);rw[←hc]at i3;refine⟨?_,c.1,by rw[hc];exact eM _,h,?_,rfl⟩
 ·unfold cW;simp only[i0];rw[←hb,←hc,hm]
 ·show s.1=aH MQTT++[UInt8.ofNat b.1,UInt8.ofNat c.1]++c.2.1;rw[i1,hm,pT];show aH MQTT++a.2.1=aH MQTT++(UInt8.ofNat b.1::UInt8.ofNat c.1::c.2.1);rw[i2,i3]
theorem aAd {s:CS}(hs:s.2.1=false)(h:(bT val s).2.1=false):bT (fun _=>true) s=bT val s∧s.1=bD (bT val s).2.2.keep++aH (bT val s).2.2.client++(bT val s).1:=by
 obtain⟨d,hd⟩:∃d,d=aX s.1:=⟨_,rfl⟩;obtain⟨e,he⟩:∃e,e=aZ val d.2.1:=⟨_,rfl⟩;have q:bT val s=(e.2.1,s.2.1||d.2.2||e.2.2,{s.2.2 with keep:=d.1,client:=e.1}):=by rw[he,hd];rfl
 rw[q]at h⊢;obtain⟨_,h1,h2⟩:=or3 h;rw[hd]at h1;have i1:=gX h1;rw[←hd]at i1;rw[he]at h2;have i2:=eX h2;have i0:=gY h2;rw[←he]at i2 i0;refine⟨?_,?_⟩
 ·unfold bT;simp only;rw[←hd,i0]
 ·show s.1=bD d.1++aH e.1++e.2.1;rw[pT,←i2];exact i1
theorem aDj {s:CS}(hs:s.2.1=false)(h:(bH val s).2.1=false):bH (fun _=>true) s=bH val s∧s.1=(if s.2.2.will then aH (bH val s).2.2.wt++aH (bH val s).2.2.wp else[])++(bH val s).1:=by
 cases hw:s.2.2.will with
 |false=>
  have e:∀v,bH v s=s:=fun v=>by unfold bH;rw[hw];rfl
  rw[e,e];exact⟨rfl,rfl⟩
 |true=>
  obtain⟨a,ha⟩:∃a,a=aZ val s.1:=⟨_,rfl⟩;obtain⟨b,hb⟩:∃b,b=aM a.2.1:=⟨_,rfl⟩;have q:bH val s=(b.2.1,s.2.1||a.2.2||b.2.2,{s.2.2 with wt:=a.1,wp:=b.1}):=by unfold bH;rw[hw,hb,ha];rfl
  rw[q]at h⊢;obtain⟨_,h1,h2⟩:=or3 h;rw[ha]at h1;have i1:=eX h1;have i0:=gY h1;rw[←ha]at i1 i0;rw[hb]at h2;have i2:=(nQ h2).1;rw[←hb]at i2;refine⟨?_,?_⟩
  ·unfold bH;rw[hw];simp only[if_true];rw[i0,←hb]
  ·show s.1=aH a.1++aH b.1++b.2.1;rw[pT,←i2];exact i1
theorem aDg {s:CS}(hs:s.2.1=false)(h:(bY val s).2.1=false):bY (fun _=>true) s=bY val s∧s.1=(if s.2.2.hu then aH (bY val s).2.2.user else[])++(bY val s).1:=by
 cases hw:s.2.2.hu with
 |false=>
  have e:∀v,bY v s=s:=fun v=>by unfold bY;rw[hw];rfl
  rw[e,e];exact⟨rfl,rfl⟩
 |true=>
  obtain⟨a,ha⟩:∃a,a=aZ val s.1:=⟨_,rfl⟩;have q:bY val s=(a.2.1,s.2.1||a.2.2,{s.2.2 with user:=a.1}):=by unfold bY;rw[hw,ha];rfl
  rw[q]at h⊢;obtain⟨_,h1⟩:=or2 h;rw[ha]at h1;have i1:=eX h1;have i0:=gY h1;rw[←ha]at i1 i0;refine⟨?_,i1⟩;unfold bY;rw[hw];simp only[if_true];rw[i0]
theorem aDh {s:CS}(hs:s.2.1=false)(h:(bU s).2.1=false):s.1=(if s.2.2.hp then aH (bU s).2.2.pass else[])++(bU s).1:=by
 cases hw:s.2.2.hp with
 |false=>
  have e:bU s=s:=by unfold bU;rw[hw];rfl
  rw[e];rfl
 |true=>
  obtain⟨a,ha⟩:∃a,a=aM s.1:=⟨_,rfl⟩;have q:bU s=(a.2.1,s.2.1||a.2.2,{s.2.2 with pass:=a.1}):=by unfold bU;rw[hw,ha];rfl
  rw[q]at h⊢;obtain⟨_,h1⟩:=or2 h;rw[ha]at h1;have i1:=(nQ h1).1;rw[←ha]at i1;exact i1
theorem aIc {c:Nat}{rest:List UInt8}(k:c / 16=1)(hc:c%16=0)(hb:(eW val (rest,false,zq 1)).2.1=false)(hl:(eW val (rest,false,zq 1)).1=[]):Inv val c rest (eW val (rest,false,zq 1)).2.2 []:=by
 obtain⟨s0,e0⟩:∃s0:CS,s0=(rest,false,zq 1):=⟨_,rfl⟩;obtain⟨s1,e1⟩:∃s1,s1=cW val s0:=⟨_,rfl⟩;obtain⟨s2,e2⟩:∃s2,s2=bT val s1:=⟨_,rfl⟩;obtain⟨s3,e3⟩:∃s3,s3=bH val s2:=⟨_,rfl⟩;obtain⟨s4,e4⟩:∃s4,s4=bY val s3:=⟨_,rfl⟩;obtain⟨s5,e5⟩:∃s5,s5=bU s4:=⟨_,rfl⟩;have eS:eW val (rest,false,zq 1)=s5:=by rw[e5,e4,e3,e2,e1,e0];rfl
 rw[eS]at hb hl⊢;have b4:s4.2.1=false:=uN (t:=s5) (fun h=>by rw[e5];unfold bU;split<;>simp[h]) hb
 have b3:s3.2.1=false:=uN (t:=s4) (fun h=>by rw[e4];unfold bY;split<;>simp[h]) b4
 have b2:s2.2.1=false:=uN (t:=s3) (fun h=>by rw[e3];exact aDk h) b3;have b1:s1.2.1=false:=uN (t:=s2) (fun h=>by rw[e2];exact aAe h) b2;have b0:s0.2.1=false:=by rw[e0]
 obtain⟨g1,x,hx,hx1,r1,q1⟩:=aDn (val:=val) b0 (by rw[←e1];exact b1);obtain⟨g2,r2⟩:=aAd (val:=val) b1 (by rw[←e2];exact b2);obtain⟨g3,r3⟩:=aDj (val:=val) b2 (by rw[←e3];exact b3);obtain⟨g4,r4⟩:=aDg (val:=val) b3 (by rw[←e4];exact b4);have r5:=aDh b4 (by rw[←e5];exact hb);rw[←e1]at g1 r1 q1;rw[←e2]at g2 r2;rw[←e3]at g3 r3;rw[←e4]at g4 r4;rw[←e5]at r5;have p2:s2.2.2={s1.2.2 with keep:=s2.2.2.keep,client:=s2.2.2.client}:=by rw[e2];rfl
 have p3:s3.2.2={s2.2.2 with wt:=s3.2.2.wt,wp:=s3.2.2.wp}:=by rw[e3];unfold bH;split<;>rfl
 have p4:s4.2.2={s3.2.2 with user:=s4.2.2.user}:=by rw[e4];unfold bY;split<;>rfl
 have p5:s5.2.2={s4.2.2 with pass:=s5.2.2.pass}:=by rw[e5];unfold bU;split<;>rfl
 have f5:∀{α:Type} (f:Pq→α),(∀q r:Pq,f {q with pass:=r.pass}=f q)→f s5.2.2=f s4.2.2:=fun f hf=>by rw[p5];exact hf _ _
 have f4:∀{α:Type} (f:Pq→α),(∀q r:Pq,f {q with user:=r.user}=f q)→f s4.2.2=f s3.2.2:=fun f hf=>by rw[p4];exact hf _ _
 have f3:∀{α:Type} (f:Pq→α),(∀q r:Pq,f {q with wt:=r.wt,wp:=r.wp}=f q)→f s3.2.2=f s2.2.2:=fun f hf=>by rw[p3];exact hf _ _
 have f2:∀{α:Type} (f:Pq→α),(∀q r:Pq,f {q with keep:=r.keep,client:=r.client}=f q)→f s2.2.2=f s1.2.2:=fun f hf=>by rw[p2];exact hf _ _
 have z0:s0.2.2=zq 1:=by rw[e0]
 rw[z0]at q1;have kd:s5.2.2.kind=1:=by
  rw[f5 Pq.kind (fun _ _=>rfl),f4 Pq.kind (fun _ _=>rfl),f3 Pq.kind (fun _ _=>rfl),f2 Pq.kind (fun _ _=>rfl),q1];rfl
 have lv:s5.2.2.level=s1.2.2.level:=by
  rw[f5 Pq.level (fun _ _=>rfl),f4 Pq.level (fun _ _=>rfl),f3 Pq.level (fun _ _=>rfl),f2 Pq.level (fun _ _=>rfl)]
 have kp:s5.2.2.keep=s2.2.2.keep:=by
  rw[f5 Pq.keep (fun _ _=>rfl),f4 Pq.keep (fun _ _=>rfl),f3 Pq.keep (fun _ _=>rfl)]
 have cl:s5.2.2.client=s2.2.2.client:=by
  rw[f5 Pq.client (fun _ _=>rfl),f4 Pq.client (fun _ _=>rfl),f3 Pq.client (fun _ _=>rfl)]
 have wt:s5.2.2.wt=s3.2.2.wt:=by rw[f5 Pq.wt (fun _ _=>rfl),f4 Pq.wt (fun _ _=>rfl)]
 have wp:s5.2.2.wp=s3.2.2.wp:=by rw[f5 Pq.wp (fun _ _=>rfl),f4 Pq.wp (fun _ _=>rfl)]
 have us:s5.2.2.user=s4.2.2.user:=by rw[f5 Pq.user (fun _ _=>rfl)]
 have wi:s5.2.2.will=s2.2.2.will:=by rw[f5 Pq.will (fun _ _=>rfl),f4 Pq.will (fun _ _=>rfl),f3 Pq.will (fun _ _=>rfl)]
 have hu3:s5.2.2.hu=s3.2.2.hu:=by rw[f5 Pq.hu (fun _ _=>rfl),f4 Pq.hu (fun _ _=>rfl)]
 have hp4:s5.2.2.hp=s4.2.2.hp:=by rw[f5 Pq.hp (fun _ _=>rfl)]
 have w1:s5.2.2.will=aO 4 x:=by rw[wi,f2 Pq.will (fun _ _=>rfl),q1]
 have hu1:s5.2.2.hu=aO 128 x:=by rw[hu3,f3 Pq.hu (fun _ _=>rfl),f2 Pq.hu (fun _ _=>rfl),q1]
 have hp1:s5.2.2.hp=aO 64 x:=by rw[hp4,f4 Pq.hp (fun _ _=>rfl),f3 Pq.hp (fun _ _=>rfl),f2 Pq.hp (fun _ _=>rfl),q1]
 have wr1:s5.2.2.wr=aO 32 x:=by rw[f5 Pq.wr (fun _ _=>rfl),f4 Pq.wr (fun _ _=>rfl),f3 Pq.wr (fun _ _=>rfl),f2 Pq.wr (fun _ _=>rfl),q1]
 have cn1:s5.2.2.clean=aO 2 x:=by rw[f5 Pq.clean (fun _ _=>rfl),f4 Pq.clean (fun _ _=>rfl),f3 Pq.clean (fun _ _=>rfl),f2 Pq.clean (fun _ _=>rfl),q1]
 have wq1:s5.2.2.wq=x / 8%4:=by rw[f5 Pq.wq (fun _ _=>rfl),f4 Pq.wq (fun _ _=>rfl),f3 Pq.wq (fun _ _=>rfl),f2 Pq.wq (fun _ _=>rfl),q1]
 refine⟨?_,?_,?_⟩
 ·unfold dQ;rw[kA (by omega),k];show((eW (fun _=>true) (rest,false,zq 1)).2.2,([]:List Sb))=_;have:eW (fun _=>true) (rest,false,zq 1)=s5:=by
   unfold eW;rw[←e0,g1,g2,g3,g4,e5]
  rw[this]
 ·have cf:cfN s5.2.2=x:=by
   unfold cfN;rw[w1,hu1,hp1,wr1,cn1,wq1];exact bCn x hx hx1
  unfold bX;rw[kB kd];unfold oO;rw[cf,lv,kp,cl,wi,wt,wp,hu3,us,hp4];have r0:rest=s0.1:=by rw[e0]
  rw[hl,List.append_nil]at r5;rw[r0,r1,r2,r3,r4,r5];simp only[pT]
 ·have:dO s5.2.2=0:=by unfold dO;rw[kd];rfl
  rw[kd,this];omega
theorem aOb {c:Nat}{rest:List UInt8}(h256:c<256)(hf:bG c=true){a:CS×List Sb}(ea:a=fI val (c%16) (rest,false,zq (c / 16)))(hb:a.1.2.1=false)(hl:a.1.1=[])(hr:(iS val nm fi a.1.2.2 a.2).isSome=true):Inv val c rest a.1.2.2 a.2:=by
 obtain⟨k1,k14,hfl⟩:=wW h256 hf;unfold fI at ea;have ea:a=(if c / 16=1 then(eW val (rest,false,zq (c / 16)),[])else if c / 16=2 then(wA (rest,false,zq (c / 16)),[])else if c / 16=3 then(jR val (c%16) (rest,false,zq (c / 16)),[])else if c / 16=12∨c / 16=13∨c / 16=14 then((rest,false,zq (c / 16)),[])else cY val ((aX rest).2.1,false||(aX rest).2.2,{zq (c / 16)with id:=(aX rest).1})):=ea
 by_cases h1:c / 16=1
 ·rw[kB h1,h1]at ea;subst ea;exact aIc h1 (by rcases hfl with h|h;exact absurd h (by omega);rw[h,kA (by omega)]) hb hl
 rw[kA h1]at ea;by_cases h2:c / 16=2
 ·rw[kB h2,h2]at ea;subst ea;exact aOi h2 (by rcases hfl with h|h;exact absurd h (by omega);rw[h,kA (by omega)]) hb hl
 rw[kA h2]at ea;by_cases h3:c / 16=3
 ·rw[kB h3,h3]at ea;subst ea;exact aOh h256 h3 hb hr
 rw[kA h3]at ea;have hfl:c%16=if c / 16=6∨c / 16=8∨c / 16=10 then 2 else 0:=by
  rcases hfl with h|h
  ·omega
  ·exact h
 by_cases h12:c / 16=12∨c / 16=13∨c / 16=14
 ·rw[kB h12]at ea;subst ea;exact aIa h12 (by rw[kA (by omega)]at hfl;exact hfl) hl
 rw[kA h12]at ea;exact aIb (by omega) hfl ea hb hl hr
theorem bCa {c:Nat}{rest:List UInt8}(h256:c<256):Rg (dQ c rest).1 (dQ c rest).2:=by
 have sub:∀(kind n:Nat) (l:List UInt8) (was:Nat),∀s∈gS kind n l was,s.2<256:=by
  intro kind n
  induction n with
  |zero=>intro l was s hs;cases hs
  |succ n ih=>
   intro l was s hs;have e:gS kind (n+1) l was=if l=[]∨was≤l.length then[]else((aM l).1,if kind=8 then(bR (aM l).2.1).1 else 0)::gS kind n (if kind=8 then(bR (aM l).2.1).2.1 else(aM l).2.1) l.length:=rfl
   rw[e]at hs;split at hs
   ·cases hs
   ·rcases List.mem_cons.1 hs with rfl|hs
    ·show(if kind=8 then _ else 0)<256
     split
     ·exact eM _
     ·decide
    ·exact ih _ _ s hs
 unfold dQ;split
 ·exact⟨by show c / 16<256;omega,by show 0<256;decide,(bZ rest).2,by show 0<256;decide,by show 0<65536;decide,by show 0<256;decide,by show 0<256;decide,sub _ _ _ _⟩
 ·rename_i h8;unfold fI;show Rg (if c / 16=1 then _ else if c / 16=2 then _ else if c / 16=3 then _ else if c / 16=12∨c / 16=13∨c / 16=14 then _ else _:CS×List Sb).1.2.2 (if c / 16=1 then _ else if c / 16=2 then _ else if c / 16=3 then _ else if c / 16=12∨c / 16=13∨c / 16=14 then _ else _:CS×List Sb).2
  split
  ·show Rg (bU (bY _ (bH _ (bT _ (cW _ _))))).2.2 [];obtain⟨s1,e1⟩:∃s1,s1=cW (fun _=>true) (rest,false,zq (c / 16)):=⟨_,rfl⟩;have r1:Rg s1.2.2 []:=by
    rw[e1];refine⟨by show c / 16<256;omega,by show 0<256;decide,by show 0<65536;decide,eM _,by show 0<65536;decide,by show _ / 8%4<256;omega,by show 0<256;decide,fun s hs=>by cases hs⟩
   rw[←e1];have r2:Rg (bT (fun _=>true) s1).2.2 []:=⟨r1.kind,r1.qos,r1.id,r1.level,(bZ _).2,r1.wq,r1.code,r1.es⟩;have r3:Rg (bH (fun _=>true) (bT (fun _=>true) s1)).2.2 []:=by
    unfold bH;split
    ·exact⟨r2.kind,r2.qos,r2.id,r2.level,r2.keep,r2.wq,r2.code,r2.es⟩
    ·exact r2
   have r4:Rg (bY (fun _=>true) (bH (fun _=>true) (bT (fun _=>true) s1))).2.2 []:=by
    generalize bH (fun _=>true) (bT (fun _=>true) s1)=s3 at r3;unfold bY;split
    ·exact⟨r3.kind,r3.qos,r3.id,r3.level,r3.keep,r3.wq,r3.code,r3.es⟩
    ·exact r3
   generalize bY (fun _=>true) (bH (fun _=>true) (bT (fun _=>true) s1))=s4 at r4;unfold bU;split
   ·exact⟨r4.kind,r4.qos,r4.id,r4.level,r4.keep,r4.wq,r4.code,r4.es⟩
   ·exact r4
  split
  ·exact⟨by show c / 16<256;omega,by show 0<256;decide,by show 0<65536;decide,by show 0<256;decide,by show 0<65536;decide,by show 0<256;decide,eM _,fun s hs=>by cases hs⟩
  split
  ·refine⟨by show c / 16<256;omega,by show c%16 / 2%4<256;omega,?_,by show 0<256;decide,by show 0<65536;decide,by show 0<256;decide,by show 0<256;decide,fun s hs=>by cases hs⟩;show(if 0<c%16 / 2%4 then aX _ else(0,_,false):Nat×List UInt8×Bool).1<65536
   split
   ·exact(bZ _).2
   ·show 0<65536;decide
  split
  ·exact⟨by show c / 16<256;omega,by show 0<256;decide,by show 0<65536;decide,by show 0<256;decide,by show 0<65536;decide,by show 0<256;decide,by show 0<256;decide,fun s hs=>by cases hs⟩
  ·unfold cY;show Rg (if c / 16=9 then _ else if c / 16=8∨c / 16=10 then _ else _:CS×List Sb).1.2.2 (if c / 16=9 then _ else if c / 16=8∨c / 16=10 then _ else _:CS×List Sb).2
   rw[kA h8];split<;>exact⟨by show c / 16<256;omega,by show 0<256;decide,(bZ rest).2,by show 0<256;decide,by show 0<65536;decide,by show 0<256;decide,by show 0<256;decide,fun s hs=>by cases hs⟩
theorem aIf (vl:Vl val nm fi)(hv0:val []=true)(l:List UInt8):pN val nm fi l=pO val nm fi l:=by
 match l with
 |[]=>rfl
 |c::t=>
  have hc:=c.toNat_lt;unfold pN pO;simp only;split
  case isFalse=>rfl
  rename_i hf;split
  case isFalse=>rfl
  split
  ·rfl
  obtain⟨rest,hrest⟩:∃rest,rest=((c::t).drop ((rlF t 4 1 0 0).2.1+1)).take (rlF t 4 1 0 0).1:=⟨_,rfl⟩;rw[←hrest];split
  ·rfl
  obtain⟨a,ea⟩:∃a,a=fI val (c.toNat%16) (rest,false,zq (c.toNat / 16)):=⟨_,rfl⟩;rw[←ea];by_cases hd:eF val nm fi (dQ c.toNat rest).1 (dQ c.toNat rest).2=true∧16*(dQ c.toNat rest).1.kind+dO (dQ c.toNat rest).1=c.toNat∧bX (dQ c.toNat rest).1 (dQ c.toNat rest).2=rest
  ·rw[kB hd];obtain⟨d1,d2,d3⟩:=hd;rw[wM hv0]at d1;obtain⟨n,hn⟩:=Option.isSome_iff_exists.1 d1;obtain⟨⟨f16,_,_,_,ha,_⟩,_⟩:=bBg vl (bCa hc) hn;have k1:c.toNat / 16=(dQ c.toNat rest).1.kind:=by omega
   have k2:c.toNat%16=dO (dQ c.toNat rest).1:=by omega
   have ea:a=(([],false,(dQ c.toNat rest).1),(dQ c.toNat rest).2):=by
    rw[ea,←ha,d3,←k1,←k2]
   rw[ea,kA (by simp),kB d1]
  ·rw[kA hd];by_cases h1:a.1.2.1=true∨a.1.1≠[]
   ·rw[kB h1]
   ·rw[kA h1];split
    ·rename_i hr;exfalso;apply hd;have hb:a.1.2.1=false:=by
      cases h:a.1.2.1 with
      |false=>rfl
      |true=>exact absurd (Or.inl h) h1
     have hl:a.1.1=[]:=Classical.byContradiction fun h=>h1 (Or.inr h);obtain⟨g1,g2,g3⟩:=aOb hc hf ea hb hl hr;rw[g1];exact⟨by rw[wM hv0];exact hr,g3,g2⟩
    ·rfl
end
end Go.Proofs.YtohapjojkjjflaaGreatDoor.Wz
