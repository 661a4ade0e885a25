import Derived.Test.YtpanfoafajepcaaGreatDoorGt
import Derived.Test.YtpanfoafajepcaaGreatDoorGp
namespace Ra
open Go Go.AM
section
variable {κ α:Type}[DecidableEq κ]
def dP:List (κ×α)→κ→Option (Nat×α)
 |[],_=>none
 |(k,a)::r,x=>if k=x then some (0,a)else(dP r x).map fun p=>(p.1+1,p.2)
theorem lF:∀(l:List (κ×α)) (x:κ),aE l x=(dP l x).map (·.2)
 |[],_=>rfl
 |(k,a)::r,x=>by
  simp only[aE,dP];split
  ·rfl
  ·rw[lF r x,Option.map_map];rfl
theorem tN:∀(l:List (κ×α)) (x:κ),dP l x=none→fL l x=l
 |[],_,_=>rfl
 |(k,a)::r,x,h=>by
  simp only[dP]at h;split at h
  ·simp at h
  ·rename_i hne;simp only[fL,hne,if_false];rw[tN r x (by simpa using h)]
def Ents (ek:κ→Value)(es:List Ent)(l:List (κ×Value)):Prop:=es.map (fun e=>(e.key,e.val))=l.map fun x=>(ek x.1,x.2)
variable {ek:κ→Value}(hk:∀x y,A.yD (ek x) (ek y)=some (decide (x=y)))
include hk
theorem Ents.find:∀{es:List Ent} {l:List (κ×Value)},Ents ek es l→∀(x:κ) (i:Nat),A.findE (ek x) es i=some ((dP l x).map fun p=>(i+p.1,p.2))
 |[],[],_,x,i=>rfl
 |[],_::_,h,x,i=>by simp[Ents]at h
 |_::_,[],h,x,i=>by simp[Ents]at h
 |e::es,(k,v)::l,h,x,i=>by
  simp only[Ents,List.map_cons,List.cons.injEq,kK]at h;obtain⟨⟨h1,h2⟩,h3⟩:=h;simp only[A.findE,h1,hk x k,dP];by_cases e1:x=k
  ·subst e1;simp[h2]
  ·have e2:¬k=x:=fun e=>e1 e.symm;simp only[e1,e2,decide_false,cond_false,if_false];rw[Ents.find (es:=es) (l:=l) h3 x (i+1)]
   cases dP l x with
   |none=>rfl
   |some p=>simp;omega
omit hk in
theorem Ents.mod:∀{es:List Ent} {l:List (κ×Value)},Ents ek es l→∀{x:κ} {i:Nat} {u:Value} (v:Value),dP l x=some (i,u)→Ents ek (A.yE v es i) (aL l x v)
 |[],[],_,x,i,u,v,hf=>by simp[dP]at hf
 |[],_::_,h,x,i,u,v,hf=>by simp[Ents]at h
 |_::_,[],h,x,i,u,v,hf=>by simp[Ents]at h
 |e::es,(k,w)::l,h,x,i,u,v,hf=>by
  simp only[Ents,List.map_cons,List.cons.injEq,kK]at h;obtain⟨⟨h1,h2⟩,h3⟩:=h;simp only[dP]at hf;split at hf
  ·rename_i e1;simp only[kE,kK]at hf;obtain⟨rfl,_⟩:=hf;simp only[aL,e1,if_true,A.yE,Ents,List.map_cons,h3,h1]
  ·rename_i e1;obtain⟨p,hp,he⟩:=Option.map_eq_some_iff.1 hf;obtain⟨j,u'⟩:=p;simp only[kK]at he;obtain⟨rfl,rfl⟩:=he;have ih:=Ents.mod (es:=es) (l:=l) h3 v hp;simp only[aL,e1,if_false,A.yE,Ents,List.map_cons,h1,h2]at ih⊢;rw[ih]
omit hk in
theorem Ents.new:∀{es:List Ent} {l:List (κ×Value)},Ents ek es l→∀{x:κ} (v:Value) (c:Nat),dP l x=none→Ents ek (es++[⟨ek x,v,c⟩]) (aL l x v)
 |[],[],_,x,v,c,_=>rfl
 |[],_::_,h,x,v,c,hf=>by simp[Ents]at h
 |_::_,[],h,x,v,c,hf=>by simp[Ents]at h
 |e::es,(k,w)::l,h,x,v,c,hf=>by
  simp only[Ents,List.map_cons,List.cons.injEq,kK]at h;obtain⟨⟨h1,h2⟩,h3⟩:=h;simp only[dP]at hf;split at hf
  ·simp at hf
  ·rename_i e1;have ih:=Ents.new (es:=es) (l:=l) h3 v c (x:=x) (by simpa using hf);simp only[aL,e1,if_false,Ents,List.map_cons,List.cons_append,h1,h2]at ih⊢;rw[ih]
omit hk in
theorem Ents.del:∀{es:List Ent} {l:List (κ×Value)},Ents ek es l→∀{x:κ} {i:Nat} {u:Value},dP l x=some (i,u)→Ents ek (es.eraseIdx i) (fL l x)
 |[],[],_,x,i,u,hf=>by simp[dP]at hf
 |[],_::_,h,x,i,u,hf=>by simp[Ents]at h
 |_::_,[],h,x,i,u,hf=>by simp[Ents]at h
 |e::es,(k,w)::l,h,x,i,u,hf=>by
  simp only[Ents,List.map_cons,List.cons.injEq,kK]at h;obtain⟨⟨h1,h2⟩,h3⟩:=h;simp only[dP]at hf;split at hf
  ·rename_i e1;simp only[kE,kK]at hf;obtain⟨rfl,_⟩:=hf;simp only[fL,e1,if_true,List.eraseIdx_cons_zero];exact h3
  ·rename_i e1;obtain⟨p,hp,he⟩:=Option.map_eq_some_iff.1 hf;obtain⟨j,u'⟩:=p;simp only[kK]at he;obtain⟨rfl,rfl⟩:=he;have ih:=Ents.del (es:=es) (l:=l) h3 hp;simp only[fL,e1,if_false,Ents,List.map_cons,h1,h2,List.eraseIdx_cons_succ]at ih⊢;rw[ih]
end
def bO (b:Bs):Value:=.string ⟨⟨b⟩⟩
def jQ (n:Int):Value:=.int .i64 n
theorem keyS (x y:Bs):A.yD (bO x) (bO y)=some (decide (x=y)):=by
 show some (x==y)=_;rw[kE,Bool.eq_iff_iff];simp
theorem bJq (x y:Int):A.yD (jQ x) (jQ y)=some (decide (x=y)):=by
 show some (x==y)=_;rw[kE,Bool.eq_iff_iff];simp
section
variable {κ α:Type}[DecidableEq κ]
theorem nU:∀(l:List (κ×α)) (x:κ),dP l x=none↔x∉l.map (·.1)
 |[],x=>by simp[dP]
 |(k,a)::r,x=>by
  simp only[dP,List.map_cons,pV,not_or];split
  ·rename_i e;simp[e]
  ·rename_i e;rw[Option.map_eq_none_iff,nU r x];exact⟨fun h=>⟨fun h2=>e h2.symm,h⟩,fun h=>h.2⟩
theorem nS:∀(l:List (κ×α)) (x:κ) (a:α),(aL l x a).map (·.1)=if dP l x=none then l.map (·.1)++[x]else l.map (·.1)
 |[],x,a=>rfl
 |(k,b)::r,x,a=>by
  simp only[aL,dP];split
  ·rename_i e;simp
  ·rename_i e;simp only[List.map_cons,nS r x a,Option.map_eq_none_iff];split<;>rfl
theorem rI {l:List (κ×α)}(h:(l.map (·.1)).Nodup)(x:κ)(a:α):((aL l x a).map (·.1)).Nodup:=by
 rw[nS];split
 ·rename_i e;rw[List.nodup_append];exact⟨h,by simp,fun y hy z hz=>by
   simp only[List.mem_singleton]at hz;subst hz;exact fun e2=>(nU l z).1 e (e2▸hy)⟩
 ·exact h
theorem sF:∀(l:List (κ×α)) (x:κ),(fL l x).Sublist l
 |[],_=>List.Sublist.refl _
 |(k,a)::r,x=>by
  simp only[fL];split
  ·exact List.sublist_cons_self _ _
  ·exact(sF r x).cons_cons _
theorem nT (v:Value):∀(es:List Ent) (i:Nat),(A.yE v es i).map (·.born)=es.map (·.born)
 |[],_=>rfl
 |e::r,0=>rfl
 |e::r,i+1=>by simp only[A.yE,List.map_cons,nT v r i]
structure MapR (h:H)(id:Nat)(ek:κ→Value)(l:List (κ×Value)):Prop where
 at_:∃es c,h.get id=some (.map es c)∧Ents ek es l∧(es.map (·.born)).Nodup∧∀b∈es.map (·.born),b<c
 nodup:(l.map (·.1)).Nodup
variable {ek:κ→Value}{h h':H}{id:Nat}{l:List (κ×Value)}
omit [DecidableEq κ] in
theorem MapR.congr (m:MapR h id ek l)(e:h'.get id=h.get id):MapR h' id ek l:=⟨by rw[e];exact m.at_,m.nodup⟩
omit [DecidableEq κ] in
theorem MapR.made (h:H)(ek:κ→Value):MapR (h.push (.map [] 0)) h.next ek ([]:List (κ×Value)):=
 ⟨⟨[],0,by rw[H.get_push,kB rfl],rfl,List.Pairwise.nil,fun b hb=>by simp at hb⟩,List.Pairwise.nil⟩
variable (hk:∀x y,A.yD (ek x) (ek y)=some (decide (x=y)))
include hk
theorem MapR.look (m:MapR h id ek l)(z:Value)(co:Bool)(x:κ):A.yA z co (ek x) (.map (some id)) h=some (match aE l x with|some v=>A.yR co v true|none=>A.yR co z false):=by
 obtain⟨es,c,hg,he,_⟩:=m.at_;simp only[A.yA,hg,he.find hk x 0,lF];cases dP l x<;>rfl
theorem MapR.put (m:MapR h id ek l)(x:κ)(v:Value):∃es c,A.zU (ek x) v (.map (some id)) h=some (h.put id (.map es c))∧MapR (h.put id (.map es c)) id ek (aL l x v):=by
 obtain⟨es,c,hg,he,hb,hc⟩:=m.at_;simp only[A.zU,hg,he.find hk x 0]
 cases hf:dP l x with
 |none=>
  refine⟨_,_,rfl,⟨_,_,by rw[H.get_put,kB rfl],he.new v c hf,?_,fun b hb'=>?_⟩,rI m.nodup x v⟩
  ·rw[List.map_append,List.nodup_append];exact⟨hb,by simp,fun y hy z hz=>by
    simp only[List.map_cons,List.map_nil,List.mem_singleton]at hz;have:=hc y hy;omega⟩
  ·rw[List.map_append,List.mem_append]at hb';rcases hb' with h1|h1
   ·have:=hc b h1;omega
   ·simp only[List.map_cons,List.map_nil,List.mem_singleton]at h1;omega
 |some p=>
  obtain⟨i,u⟩:=p;simp only[Option.map_some,Nat.zero_add];exact⟨_,_,rfl,⟨_,_,by rw[H.get_put,kB rfl],he.mod v hf,by rw[nT];exact hb,by rw[nT];exact hc⟩,rI m.nodup x v⟩
theorem MapR.del (m:MapR h id ek l)(x:κ):∃h',A.yI (ek x) (.map (some id)) h=some h'∧h'.next=h.next∧(∀j,j≠id→h'.get j=h.get j)∧MapR h' id ek (fL l x):=by
 obtain⟨es,c,hg,he,hb,hc⟩:=m.at_;simp only[A.yI,hg,he.find hk x 0]
 cases hf:dP l x with
 |none=>exact⟨_,rfl,rfl,fun _ _=>rfl,by rw[tN l x hf];exact m⟩
 |some p=>
  obtain⟨i,u⟩:=p;simp only[Option.map_some,Nat.zero_add];refine⟨_,rfl,rfl,fun j hj=>by rw[H.get_put,kA hj],⟨_,_,by rw[H.get_put,kB rfl],he.del hf,?_,fun b hb'=>?_⟩,m.nodup.sublist ((sF l x).map _)⟩
  ·exact hb.sublist ((List.eraseIdx_sublist es i).map _)
  ·exact hc b (((List.eraseIdx_sublist es i).map _).subset hb')
end
end Ra

namespace Ra
open Go Go.AM
def jR (a b:Bs):Int:=Extern.BytealgCompare.cmp ⟨⟨a⟩⟩ ⟨⟨b⟩⟩
def bsG (r:Row)(f:Bs):Nat→Nat→Nat→Nat
 |0,i,_=>i
 |n+1,i,j=>if i<j then(if jR ((r[(i+j) / 2]?).getD ([],0)).1 f<0 then bsG r f n ((i+j) / 2+1) j else bsG r f n i ((i+j) / 2))else i
def bX (r:Row)(f:Bs):Nat:=bsG r f (r.length+1) 0 r.length
def cN (r:Row)(f:Bs):Bool:=match r[bX r f]? with|some x=>decide (jR x.1 f=0)|none=>false
theorem aCy (r:Row)(f:Bs):∀(n i j:Nat),i≤j→bsG r f n i j≤j
 |0,i,j,h=>h
 |n+1,i,j,h=>by
  simp only[bsG];split
  ·rename_i hlt;split
   ·exact aCy r f n _ _ (by omega)
   ·exact kG (aCy r f n _ _ (by omega)) (by omega)
  ·exact h
theorem nP (r:Row)(f:Bs):bX r f≤r.length:=aCy r f _ _ _ (pR _)
theorem tH {r:Row}{f:Bs}(h:cN r f=true):bX r f<r.length:=by
 unfold cN at h;split at h
 ·rename_i x hx;exact(List.getElem?_eq_some_iff.1 hx).1
 ·cases h
section
variable (fil nam:Bs→Bool)(tak:Bs→Bs→Bool)
def gE (r:Row)(f:Bs)(q:Nat):Nat×Row:=
 if 2<q∨fil f=false then(128,r)
 else if cN r f then(q,r.set (bX r f) (((r[bX r f]?).getD ([],0)).1,q))
 else if r.length=16 then(128,r)
 else(q,r.take (bX r f)++(f,q)::r.drop (bX r f))
def oZ (r:Row)(f:Bs):Row:=if cN r f then r.take (bX r f)++r.drop (bX r f+1)else r
def wD (n:Bs)(b:Nat×Bool):Row→Nat×Bool
 |[]=>b
 |x::r=>wD n (if tak x.1 n then(max b.1 x.2,true)else b) r
def eV (r:Row)(n:Bs):Nat×Bool:=wD tak n (0,false) r
def gL:Row→Row→List Nat×Row
 |r,[]=>([],r)
 |r,x::l=>((gE fil r x.1 x.2).1::(gL (gE fil r x.1 x.2).2 l).1,(gL (gE fil r x.1 x.2).2 l).2)
def cG (s:St)(client topic:Bs):Nat×Bool:=match aE s.seats client with|some x=>eV tak x.row topic|none=>(0,false)
def aO (s:St)(n:cU):Option St:=
 if n.conn<1 then none else
 match aE s.seats n.client with
 |some x=>if 0<x.conn then none else
  if x.clean=false∧n.clean=false then some {s with seats:=aL s.seats n.client {x with conn:=n.conn,clean:=n.clean}}
  else some {s with seats:=aL s.seats n.client ⟨[],n.conn,n.clean⟩}
 |none=>some {s with seats:=aL s.seats n.client ⟨[],n.conn,n.clean⟩}
def dR (s:St)(m:Msg):Bool×St:=
 if nam m.topic∧m.qos≤2 then(true,{s with kept:=if m.payload=[]then fL s.kept m.topic else aL s.kept m.topic {m with retain:=true}})else(false,s)
def bL (s:St)(n:cU):Option (List Nat)×St:=
 if n.kind=5 then(let a:=dR nam s n.msg;(if a.1 then some []else none,a.2))
 else if n.kind≠2 then(some [],s)
 else if n.ptype=1 then(match aO s n with|some s'=>(some [],s')|none=>(none,s))
 else match aE s.seats n.client with
  |none=>(none,s)
  |some x=>
   if n.conn<1∨x.conn≠n.conn then(none,s)
   else if n.ptype=8 then(let a:=gL fil x.row n.subs;(some a.1,{s with seats:=aL s.seats n.client {x with row:=a.2}}))
   else if n.ptype=10 then(some [],{s with seats:=aL s.seats n.client {x with row:=n.subs.foldl (fun r y=>oZ r y.1) x.row}})
   else if n.ptype=14∨n.ptype=0 then(some [],{s with seats:=if x.clean then fL s.seats n.client else aL s.seats n.client {x with conn:=0}})
   else(none,s)
def gM (s:St):List Msg:=((s.kept.map (·.1)).mergeSort fun a b=>decide (a≤b)).filterMap (aE s.kept)
def iV (s:St):List (Bs×Bs):=(s.seats.flatMap fun x=>x.2.row.map fun y=>(y.1,x.1)).mergeSort hle
def sY (b:Sb)(l:List Msg):Sb:=l.foldl (fun b m=>{b with past:=aL b.past m.topic [m],still:=lR b.still m.topic}) b
def eB (s:St):Sb:=sY {} (gM s)
def eU (s:St)(client:Bs)(p:Pub):Pub:=if(cG tak s client p.msg.topic).2 then p else{p with holds:=p.holds.erase client}
def nJ (s:St)(n:cU):Bool×St:=
 match bL fil nam s n with
 |(none,s)=>(false,s)
 |(some codes,s)=>
  let s:={s with pubs:=s.pubs.map fun x=>(x.1,eU tak s n.client x.2)}
  if n.ptype≠8 then(true,s)
  else
   let b:=(aE s.subs n.op).getD (eB s);let s:=if(aE s.subs n.op).isSome then s else{s with subs:=aL s.subs n.op b}
   if b.done then(true,s)
   else
    let f:=(n.subs.zip codes).foldl (fun r x=>if x.2<128 then(gE fil r x.1.1 x.1.2).2 else r) []
    (true,{s with subs:=aL s.subs n.op {b with done:=true,open_:=true,client:=n.client,filters:=f}})
def dB (m:Msg)(b:Sb):Sb:=if b.done then b else
 {b with still:=b.still.erase m.topic,past:=if m.payload=[]then b.past else aL b.past m.topic ((aE b.past m.topic).getD []++[m])}
def lW (s:St)(n:cU):Bool×St:=
 match bL fil nam s n with
 |(none,s)=>(false,s)
 |(some _,s)=>(true,{s with subs:=s.subs.map fun x=>(x.1,dB {n.msg with retain:=true} x.2)})
def eX (s:St)(at_:Nat)(n:cU):Bool×St:=
 if n.op<1∨(aE s.pubs n.op).isSome then(false,s)
 else(true,{s with pubs:=aL s.pubs n.op ⟨n.client,n.msg,at_,true,(iV s).foldl (fun h x=>if(cG tak s x.2 n.msg.topic).2 then lR h x.2 else h) [],[]⟩})
def eG (m:Msg)(q:Nat)(retain:Bool):Msg:={m with qos:=min m.qos q,retain:=retain}
def oW (client:Bs)(p q:Pub):Bool:=decide (client∈q.serve∧p.place<q.place∧q.client=p.client∧q.msg.topic=p.msg.topic)
def fT (s:St)(n:cU):Bool×St:=
 match aE s.pubs n.op with
 |none=>(false,s)
 |some p=>
  if p.open_=false∨n.client∈p.serve then(false,s)
  else if(cG tak s n.client p.msg.topic).2=false then(false,s)
  else if n.msg≠eG p.msg (cG tak s n.client p.msg.topic).1 false∨n.qos≠n.msg.qos then(false,s)
  else if s.pubs.any fun x=>oW n.client p x.2 then(false,s)
  else(true,{s with pubs:=aL s.pubs n.op {p with serve:=lR p.serve n.client}})
def eA (s:St)(n:cU):Bool×St:=
 match aE s.subs n.op with
 |none=>(false,s)
 |some b=>
  if b.open_=false∨n.client≠b.client∨(b.some_=true∧n.msg.topic≤b.last)then(false,s)
  else if(eV tak b.filters n.msg.topic).2=false∨n.qos≠n.msg.qos∨(((aE b.past n.msg.topic).getD []).any fun m=>decide (n.msg=eG m (eV tak b.filters n.msg.topic).1 true))=false then(false,s)
  else(true,{s with subs:=aL s.subs n.op {b with last:=n.msg.topic,some_:=true,got:=lR b.got n.msg.topic}})
def dO (s:St)(op:Int):Bool×St:=
 match aE s.pubs op with
 |none=>(true,s)
 |some p=>if p.open_ then(p.holds.all fun c=>decide (c∈p.serve),{s with pubs:=aL s.pubs op {p with open_:=false}})else(true,s)
def fC (s:St)(op:Int):Bool×St:=
 match aE s.subs op with
 |none=>(true,s)
 |some b=>if b.open_ then(b.still.all fun t=>!((eV tak b.filters t).2&&!decide (t∈b.got)),{s with subs:=aL s.subs op {b with open_:=false}})else(true,s)
def aY (s:St)(at_:Nat)(n:cU):Bool×St:=
 if n.kind=1 then(true,if n.ptype=8∧(aE s.subs n.op).isSome=false then{s with subs:=aL s.subs n.op (eB s)}else s)
 else if n.kind=2 then nJ fil nam tak s n
 else if n.kind=5 then lW fil nam s n
 else if n.kind=4 then eX tak s at_ n
 else if n.kind=6 then fT tak s n
 else if n.kind=7 then(if(aE s.pubs n.op).isSome then fT tak s n else eA tak s n)
 else if n.kind=8 then eA tak s n
 else if n.kind=3 then(let a:=dO s n.op;if a.1 then fC tak a.2 n.op else a)
 else(true,s)
end
end Ra
