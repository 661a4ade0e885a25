import Derived.Test.YtbmdhjdgpeleoaaGreatDoorGq
import Derived.Test.YtbmdhjdgpeleoaaGreatDoorGp
set_option linter.defProp false
namespace Ra
open Go Go.AM
variable {B:Bs}{R r:Row}
section
variable {κ α:Type}[DecidableEq κ]
def gA:kC (κ×α)→κ→kB (Nat×α)
 |[],_=>none
 |(k,a)::r,x=>if k=x then some (0,a)else(gA r x).map fun p=>(p.1+1,p.2)
def rZ:∀(l:kC (κ×α)) (x:κ),aE l x=(gA l x).map (·.2)
 |[],_=>rfl
 |(k,a)::r,x=>by
  simp only[aE,gA];split
  ·rfl
  ·rw[rZ r x,Option.map_map];rfl
def aDh:∀(l:kC (κ×α)) (x:κ),gA l x=none→jA l x=l
 |[],_,_=>rfl
 |(k,a)::r,x,h=>by
  simp only[gA]at h;split at h
  ·simp at h
  ·rename_i n;simp only[jA,n,mD];rw[aDh r x (by simpa using h)]
def Ents (k:κ→kA)(es:kC Ent)(l:kC (κ×kA)):Prop:=es.map (fun e=>(e.key,e.val))=l.map fun x=>(k x.1,x.2)
variable {ek:κ→kA}(Z:∀x y,A.yD (ek x) (ek y)=some (decide (x=y)))
include Z
def Ents.find:∀{es:kC Ent} {l:kC (κ×kA)},Ents ek es l→∀(x:κ) (i:Nat),A.findE (ek x) es i=some ((gA l x).map fun p=>(i+p.1,p.2))
 |[],[],_,x,i=>rfl
 |[],_::_,h,x,i=>by simp[Ents]at h
 |_::_,[],h,x,i=>by simp[Ents]at h
 |e::es,(k,v)::l,h,x,i=>by
  simp only[Ents,mH,tM,kW]at h;obtain⟨⟨c,d⟩,h3⟩:=h;simp only[A.findE,c,Z x k,gA];by_cases a:x=k
  ·subst a;simp[d]
  ·have b:¬k=x:=fun e=>a e.symm;simp only[a,b,decide_false,sW,mD];rw[Ents.find (es:=es) (l:=l) h3 x (i+1)]
   cases gA l x with
   |none=>rfl
   |some p=>simp;omega
omit Z in
def Ents.mod:∀{es:kC Ent} {l:kC (κ×kA)},Ents ek es l→∀{x:κ} {i:Nat} {u:kA} (v:kA),gA l x=some (i,u)→Ents ek (A.yE v es i) (aM l x v)
 |[],[],_,x,i,u,v,hf=>by simp[gA]at hf
 |[],_::_,h,x,i,u,v,hf=>by simp[Ents]at h
 |_::_,[],h,x,i,u,v,hf=>by simp[Ents]at h
 |e::es,(k,w)::l,h,x,i,u,v,hf=>by
  simp only[Ents,mH,tM,kW]at h;obtain⟨⟨b,f⟩,h3⟩:=h;simp only[gA]at hf;split at hf
  ·rename_i a;simp only[kP,kW]at hf;obtain⟨rfl,_⟩:=hf;simp only[aM,a,mE,A.yE,Ents,mH,h3,b]
  ·rename_i a;obtain⟨p,g,c⟩:=sZ.1 hf;obtain⟨j,m⟩:=p;simp only[kW]at c;obtain⟨rfl,rfl⟩:=c;have d:=Ents.mod (es:=es) (l:=l) h3 v g;simp only[aM,a,mD,A.yE,Ents,mH,b,f]at d⊢;rw[d]
omit Z in
def Ents.new:∀{es:kC Ent} {l:kC (κ×kA)},Ents ek es l→∀{x:κ} (v:kA) (c:Nat),gA l x=none→Ents ek (es++[⟨ek x,v,c⟩]) (aM l x v)
 |[],[],_,x,v,c,_=>rfl
 |[],_::_,h,x,v,c,hf=>by simp[Ents]at h
 |_::_,[],h,x,v,c,hf=>by simp[Ents]at h
 |e::es,(k,w)::l,h,x,v,c,hf=>by
  simp only[Ents,mH,tM,kW]at h;obtain⟨⟨b,d⟩,h3⟩:=h;simp only[gA]at hf;split at hf
  ·simp at hf
  ·rename_i a;have i:=Ents.new (es:=es) (l:=l) h3 v c (x:=x) (by simpa using hf);simp only[aM,a,mD,Ents,mH,dG,b,d]at i⊢;rw[i]
omit Z in
def Ents.del:∀{es:kC Ent} {l:kC (κ×kA)},Ents ek es l→∀{x:κ} {i:Nat} {u:kA},gA l x=some (i,u)→Ents ek (es.eraseIdx i) (jA l x)
 |[],[],_,x,i,u,hf=>by simp[gA]at hf
 |[],_::_,h,x,i,u,hf=>by simp[Ents]at h
 |_::_,[],h,x,i,u,hf=>by simp[Ents]at h
 |e::es,(k,w)::l,h,x,i,u,hf=>by
  simp only[Ents,mH,tM,kW]at h;obtain⟨⟨d,f⟩,h3⟩:=h;simp only[gA]at hf;split at hf
  ·rename_i a;simp only[kP,kW]at hf;obtain⟨rfl,_⟩:=hf;simp only[jA,a,mE,List.eraseIdx_cons_zero];exact h3
  ·rename_i a;obtain⟨p,g,b⟩:=sZ.1 hf;obtain⟨j,m⟩:=p;simp only[kW]at b;obtain⟨rfl,rfl⟩:=b;have c:=Ents.del (es:=es) (l:=l) h3 g;simp only[jA,a,mD,Ents,mH,d,f,List.eraseIdx_cons_succ]at c⊢;rw[c]
end
def cC (b:Bs):kA:=.string ⟨⟨b⟩⟩
def rF (n:Int):kA:=iN n
def keyS (x y:Bs):A.yD (cC x) (cC y)=some (decide (x=y)):=by
 show some (x==y)=_;rw[kP,mR];simp
def cJp (x y:Int):A.yD (rF x) (rF y)=some (decide (x=y)):=by
 show some (x==y)=_;rw[kP,mR];simp
section
variable {κ α:Type}[DecidableEq κ]
def wQ:∀(l:kC (κ×α)) (x:κ),gA l x=none↔x∉l.map (·.1)
 |[],x=>by simp[gA]
 |(k,a)::r,x=>by
  simp only[gA,mH,sI,not_or];split
  ·rename_i e;simp[e]
  ·rename_i e;rw[Option.map_eq_none_iff,wQ r x];exact⟨fun h=>⟨fun b=>e b.symm,h⟩,fun h=>h.2⟩
def wO:∀(l:kC (κ×α)) (x:κ) (a:α),(aM l x a).map (·.1)=if gA l x=none then l.map (·.1)++[x]else l.map (·.1)
 |[],x,a=>rfl
 |(k,b)::r,x,a=>by
  simp only[aM,gA];split
  ·rename_i e;simp
  ·rename_i e;simp only[mH,wO r x a,Option.map_eq_none_iff];split<;>rfl
def fE {l:kC (κ×α)}(h:(l.map (·.1)).Nodup)(x:κ)(a:α):((aM l x a).map (·.1)).Nodup:=by
 rw[wO];split
 ·rename_i e;rw[List.nodup_append];exact⟨h,by simp,fun y d z b=>by
   simp only[mC]at b;subst b;exact fun c=>(wQ l z).1 e (c▸d)⟩
 ·exact h
def vQ:∀(l:kC (κ×α)) (x:κ),(jA l x).Sublist l
 |[],_=>List.Sublist.refl _
 |(k,a)::r,x=>by
  simp only[jA];split
  ·exact List.sublist_cons_self _ _
  ·exact(vQ r x).cons_cons _
def wP (v:kA):∀(s:kC Ent) (i:Nat),(A.yE v s i).map (·.born)=s.map (·.born)
 |[],_=>rfl
 |e::r,0=>rfl
 |e::r,i+1=>by simp only[A.yE,mH,wP v r i]
structure MapR (h:H)(id:Nat)(ek:κ→kA)(l:kC (κ×kA)):Prop where
 at_:∃es c,h.get id=some (.map es c)∧Ents ek es l∧(es.map (·.born)).Nodup∧∀b∈es.map (·.born),b<c
 nodup:(l.map (·.1)).Nodup
variable {ek:κ→kA}{h Y:H}{id:Nat}{l:kC (κ×kA)}
omit [DecidableEq κ] in
def MapR.congr (m:MapR h id ek l)(e:Y.get id=h.get id):MapR Y id ek l:=⟨by rw[e];exact m.at_,m.nodup⟩
omit [DecidableEq κ] in
def MapR.made (h:H)(ek:κ→kA):MapR (h.push (.map [] 0)) h.next ek ([]:kC (κ×kA)):=
 ⟨⟨[],0,by rw[H.get_push,kM rfl],rfl,List.Pairwise.nil,fun b a=>by simp at a⟩,List.Pairwise.nil⟩
variable (Z:∀x y,A.yD (ek x) (ek y)=some (decide (x=y)))
include Z
def MapR.look (m:MapR h id ek l)(z:kA)(o:Bool)(x:κ):A.yA z o (ek x) (.map (some id)) h=some (match aE l x with|some v=>A.yQ o v true|none=>A.yQ o z false):=by
 obtain⟨s,c,g,e,_⟩:=m.at_;simp only[A.yA,g,e.find Z x 0,rZ];cases gA l x<;>rfl
def MapR.put (m:MapR h id ek l)(x:κ)(v:kA):∃e c,A.zU (ek x) v (.map (some id)) h=some (h.put id (.map e c))∧MapR (h.put id (.map e c)) id ek (aM l x v):=by
 obtain⟨e,c,n,g,j,f⟩:=m.at_;simp only[A.zU,n,g.find Z x 0]
 cases k:gA l x with
 |none=>
  refine⟨_,_,rfl,⟨_,_,by rw[H.get_put,kM rfl],g.new v c k,?_,fun b a=>?_⟩,fE m.nodup x v⟩
  ·rw[rJ,List.nodup_append];exact⟨j,by simp,fun y o z q=>by
    simp only[mH,List.map_nil,mC]at q;have:=f y o;omega⟩
  ·rw[rJ,mP]at a;rcases a with d|d
   ·have:=f b d;omega
   ·simp only[mH,List.map_nil,mC]at d;omega
 |some p=>
  obtain⟨i,u⟩:=p;simp only[mA,sR];exact⟨_,_,rfl,⟨_,_,by rw[H.get_put,kM rfl],g.mod v k,by rw[wP];exact j,by rw[wP];exact f⟩,fE m.nodup x v⟩
def MapR.del (m:MapR h id ek l)(x:κ):∃Y,A.yJ (ek x) (.map (some id)) h=some Y∧Y.next=h.next∧(∀j,j≠id→Y.get j=h.get j)∧MapR Y id ek (jA l x):=by
 obtain⟨e,c,n,d,g,k⟩:=m.at_;simp only[A.yJ,n,d.find Z x 0]
 cases f:gA l x with
 |none=>exact⟨_,rfl,rfl,fun _ _=>rfl,by rw[aDh l x f];exact m⟩
 |some p=>
  obtain⟨i,u⟩:=p;simp only[mA,sR];refine⟨_,rfl,rfl,fun j o=>by rw[H.get_put,kL o],⟨_,_,by rw[H.get_put,kM rfl],d.del f,?_,fun b a=>?_⟩,m.nodup.sublist ((vQ l x).map _)⟩
  ·exact g.sublist ((List.eraseIdx_sublist e i).map _)
  ·exact k b (((List.eraseIdx_sublist e i).map _).subset a)
end
def lT (a b:Bs):Int:=Extern.BytealgCompare.cmp ⟨⟨a⟩⟩ ⟨⟨b⟩⟩
def bsG (r:Row)(f:Bs):Nat→Nat→Nat→Nat
 |0,i,_=>i
 |n+1,i,j=>if i<j then(if lT ((r[(i+j) / 2]?).getD ([],0)).1 f<0 then bsG r f n ((i+j) / 2+1) j else bsG r f n i ((i+j) / 2))else i
def bQ (r:Row)(f:Bs):Nat:=bsG r f (r.length+1) 0 r.length
def cW (r:Row)(f:Bs):Bool:=match r[bQ r f]? with|some x=>decide (lT x.1 f=0)|none=>false
def aNm (r:Row)(f:Bs):∀(n i j:Nat),i≤j→bsG r f n i j≤j
 |0,i,j,h=>h
 |n+1,i,j,h=>by
  simp only[bsG];split
  ·rename_i l;split
   ·exact aNm r f n _ _ (by omega)
   ·exact kR (aNm r f n _ _ (by omega)) (by omega)
  ·exact h
def rV (r:Row)(f:Bs):bQ r f≤r.length:=aNm r f _ _ _ (sE _)
def aCx (h:cW R B=true):bQ R B<R.length:=by
 unfold cW at h;split at h
 ·rename_i x a;exact(pX.1 a).1
 ·cases h
section
variable (fil nam:Bs→Bool)(tak:Bs→Bs→Bool)
def iZ (r:Row)(f:Bs)(q:Nat):Nat×Row:=
 if 2<q∨fil f=false then(128,r)
 else if cW r f then(q,r.set (bQ r f) (((r[bQ r f]?).getD ([],0)).1,q))
 else if r.length=16 then(128,r)
 else(q,r.take (bQ r f)++(f,q)::r.drop (bQ r f))
def nF (r:Row)(f:Bs):Row:=if cW r f then r.take (bQ r f)++r.drop (bQ r f+1)else r
def oN (n:Bs)(b:Nat×Bool):Row→Nat×Bool
 |[]=>b
 |x::r=>oN n (if tak x.1 n then(max b.1 x.2,true)else b) r
def cN (r:Row)(n:Bs):Nat×Bool:=oN tak n (0,false) r
def jE:Row→Row→kC Nat×Row
 |r,[]=>([],r)
 |r,x::l=>((iZ fil r x.1 x.2).1::(jE (iZ fil r x.1 x.2).2 l).1,(jE (iZ fil r x.1 x.2).2 l).2)
def cB (s:St)(c t:Bs):Nat×Bool:=match aE s.seats c with|some x=>cN tak x.row t|none=>(0,false)
def aS (s:St)(n:cD):kB St:=
 if n.conn<1 then none else
 match aE s.seats n.client with
 |some x=>if 0<x.conn then none else
  if x.clean=false∧n.clean=false then some {s with seats:=aM s.seats n.client {x with conn:=n.conn,clean:=n.clean}}
  else some {s with seats:=aM s.seats n.client ⟨[],n.conn,n.clean⟩}
 |none=>some {s with seats:=aM s.seats n.client ⟨[],n.conn,n.clean⟩}
def fH (s:St)(m:Msg):Bool×St:=
 if nam m.topic∧m.qos≤2 then(true,{s with kept:=if m.payload=[]then jA s.kept m.topic else aM s.kept m.topic {m with retain:=true}})else(false,s)
def bT (s:St)(n:cD):kB (kC Nat)×St:=
 if n.kind=5 then(let a:=fH nam s n.msg;(if a.1 then some []else none,a.2))
 else if n.kind≠2 then(some [],s)
 else if n.ptype=1 then(match aS s n with|some b=>(some [],b)|none=>(none,s))
 else match aE s.seats n.client with
  |none=>(none,s)
  |some x=>
   if n.conn<1∨x.conn≠n.conn then(none,s)
   else if n.ptype=8 then(let a:=jE fil x.row n.subs;(some a.1,{s with seats:=aM s.seats n.client {x with row:=a.2}}))
   else if n.ptype=10 then(some [],{s with seats:=aM s.seats n.client {x with row:=n.subs.foldl (fun r y=>nF r y.1) x.row}})
   else if n.ptype=14∨n.ptype=0 then(some [],{s with seats:=if x.clean then jA s.seats n.client else aM s.seats n.client {x with conn:=0}})
   else(none,s)
def gP (s:St):kC Msg:=((s.kept.map (·.1)).mergeSort fun a b=>decide (a≤b)).filterMap (aE s.kept)
def lQ (s:St):kC (Bs×Bs):=(s.seats.flatMap fun x=>x.2.row.map fun y=>(y.1,x.1)).mergeSort hle
def fN (b:Sb)(l:kC Msg):Sb:=l.foldl (fun b m=>{b with past:=aM b.past m.topic [m],still:=lH b.still m.topic}) b
def cJ (s:St):Sb:=fN {} (gP s)
def fJ (s:St)(c:Bs)(p:Pub):Pub:=if(cB tak s c p.msg.topic).2 then p else{p with holds:=p.holds.erase c}
def nG (s:St)(n:cD):Bool×St:=
 match bT fil nam s n with
 |(none,s)=>(false,s)
 |(some codes,s)=>
  let s:={s with pubs:=s.pubs.map fun x=>(x.1,fJ tak s n.client x.2)}
  if n.ptype≠8 then(true,s)
  else
   let b:=(aE s.subs n.op).getD (cJ s);let s:=if(aE s.subs n.op).isSome then s else{s with subs:=aM s.subs n.op b}
   if b.done then(true,s)
   else
    let f:=(n.subs.zip codes).foldl (fun r x=>if x.2<128 then(iZ fil r x.1.1 x.1.2).2 else r) []
    (true,{s with subs:=aM s.subs n.op {b with done:=true,open_:=true,client:=n.client,filters:=f}})
def cU (m:Msg)(b:Sb):Sb:=if b.done then b else
 {b with still:=b.still.erase m.topic,past:=if m.payload=[]then b.past else aM b.past m.topic ((aE b.past m.topic).getD []++[m])}
def jH (s:St)(n:cD):Bool×St:=
 match bT fil nam s n with
 |(none,s)=>(false,s)
 |(some _,s)=>(true,{s with subs:=s.subs.map fun x=>(x.1,cU {n.msg with retain:=true} x.2)})
def iA (s:St)(at_:Nat)(n:cD):Bool×St:=
 if n.op<1∨(aE s.pubs n.op).isSome then(false,s)
 else(true,{s with pubs:=aM s.pubs n.op ⟨n.client,n.msg,at_,true,(lQ s).foldl (fun h x=>if(cB tak s x.2 n.msg.topic).2 then lH h x.2 else h) [],[]⟩})
def cK (m:Msg)(q:Nat)(retain:Bool):Msg:={m with qos:=min m.qos q,retain:=retain}
def tQ (c:Bs)(p q:Pub):Bool:=decide (c∈q.serve∧p.place<q.place∧q.client=p.client∧q.msg.topic=p.msg.topic)
def gV (s:St)(n:cD):Bool×St:=
 match aE s.pubs n.op with
 |none=>(false,s)
 |some p=>
  if p.open_=false∨n.client∈p.serve then(false,s)
  else if(cB tak s n.client p.msg.topic).2=false then(false,s)
  else if n.msg≠cK p.msg (cB tak s n.client p.msg.topic).1 false∨n.qos≠n.msg.qos then(false,s)
  else if s.pubs.any fun x=>tQ n.client p x.2 then(false,s)
  else(true,{s with pubs:=aM s.pubs n.op {p with serve:=lH p.serve n.client}})
def eQ (s:St)(n:cD):Bool×St:=
 match aE s.subs n.op with
 |none=>(false,s)
 |some b=>
  if b.open_=false∨n.client≠b.client∨(b.some_=true∧n.msg.topic≤b.last)then(false,s)
  else if(cN tak b.filters n.msg.topic).2=false∨n.qos≠n.msg.qos∨(((aE b.past n.msg.topic).getD []).any fun m=>decide (n.msg=cK m (cN tak b.filters n.msg.topic).1 true))=false then(false,s)
  else(true,{s with subs:=aM s.subs n.op {b with last:=n.msg.topic,some_:=true,got:=lH b.got n.msg.topic}})
def eA (s:St)(o:Int):Bool×St:=
 match aE s.pubs o with
 |none=>(true,s)
 |some p=>if p.open_ then(p.holds.all fun c=>decide (c∈p.serve),{s with pubs:=aM s.pubs o {p with open_:=false}})else(true,s)
def eW (s:St)(o:Int):Bool×St:=
 match aE s.subs o with
 |none=>(true,s)
 |some b=>if b.open_ then(b.still.all fun t=>!((cN tak b.filters t).2&&!decide (t∈b.got)),{s with subs:=aM s.subs o {b with open_:=false}})else(true,s)
def aT (s:St)(at_:Nat)(n:cD):Bool×St:=
 if n.kind=1 then(true,if n.ptype=8∧(aE s.subs n.op).isSome=false then{s with subs:=aM s.subs n.op (cJ s)}else s)
 else if n.kind=2 then nG fil nam tak s n
 else if n.kind=5 then jH fil nam s n
 else if n.kind=4 then iA tak s at_ n
 else if n.kind=6 then gV tak s n
 else if n.kind=7 then(if(aE s.pubs n.op).isSome then gV tak s n else eQ tak s n)
 else if n.kind=8 then eQ tak s n
 else if n.kind=3 then(let a:=eA s n.op;if a.1 then eW tak a.2 n.op else a)
 else(true,s)
end
section
def aJo (a b:Bs):∀(m n:Nat),((List.range' m n).find? fun i=>(a[i]?).getD 0 != (b[i]?).getD 0)=none∨∃k,m≤k∧k<m+n∧((List.range' m n).find? fun i=>(a[i]?).getD 0 != (b[i]?).getD 0)=some k∧((a[k]?).getD 0≠(b[k]?).getD 0)∧∀j,m≤j→j<k→(a[j]?).getD 0=(b[j]?).getD 0
 |m,0=>.inl rfl
 |m,n+1=>by
  rw[List.range'_succ,dR];by_cases h:(a[m]?).getD 0=(b[m]?).getD 0
  ·have c:((a[m]?).getD 0 != (b[m]?).getD 0)=false:=by simp[h]
   rw[c];rcases aJo a b (m+1) n with e|⟨k,f,g,h3,l,o⟩
   ·exact .inl e
   ·refine .inr ⟨k,by omega,by omega,h3,l,fun j q p=>?_⟩;rcases mJ m j with d|d
    ·exact o j d p
    ·rw[show j=m by omega];exact h
  ·have c:((a[m]?).getD 0 != (b[m]?).getD 0)=true:=by simp[h]
   rw[c];exact .inr ⟨m,by omega,by omega,rfl,h,fun j f g=>by omega⟩
def aPn (a b:Bs)(m n:Nat)(h:((List.range' m n).find? fun i=>(a[i]?).getD 0 != (b[i]?).getD 0)=none)(j:Nat)(c:m≤j)(d:j<m+n):(a[j]?).getD 0=(b[j]?).getD 0:=by
 have:=List.find?_eq_none.1 h j (List.mem_range'_1.2 ⟨c,d⟩);simpa using this
def aUu (l:Bs)(i:Nat):(⟨⟨l⟩⟩:ByteArray)[i]! =(l[i]?).getD 0:=by
 rw[getElem!_def];by_cases h:i<l.length
 ·have a:i<(⟨⟨l⟩⟩:ByteArray).size:=h;rw[getElem?_pos _ i a,kZ h];rfl
 ·have a:¬i<(⟨⟨l⟩⟩:ByteArray).size:=h;rw[getElem?_neg _ i a,List.getElem?_eq_none (by omega)];rfl
def aYs:∀{a b:Bs} (k:Nat),(∀j,j<k→(a[j]?).getD 0=(b[j]?).getD 0)→k<a.length→k<b.length→(a[k]?).getD 0<(b[k]?).getD 0→a<b
 |[],_,k,_,h,_,_=>dC h (Nat.not_lt_zero _)
 |_::_,[],k,_,_,h,_=>dC h (Nat.not_lt_zero _)
 |x::a,y::b,0,_,_,_,h=>List.cons_lt_cons_iff.2 (.inl h)
 |x::a,y::b,k+1,hj,h1,h2,h=>List.cons_lt_cons_iff.2 (.inr ⟨hj 0 (by omega),aYs k (fun j h=>hj (j+1) (by omega)) (by simpa using h1) (by simpa using h2) h⟩)
def aNj:∀{a b:Bs},(∀j,j<a.length→(a[j]?).getD 0=(b[j]?).getD 0)→a.length<b.length→a<b
 |[],[],_,h=>dC h (Nat.lt_irrefl _)
 |[],_::_,_,_=>List.nil_lt_cons _ _
 |_::_,[],_,h=>dC h (Nat.not_lt_zero _)
 |x::a,y::b,hj,h=>List.cons_lt_cons_iff.2 (.inr ⟨hj 0 (by simp),aNj (fun j h=>hj (j+1) (by simp;omega)) (by simpa using h)⟩)
def aVj:∀{a b:Bs},(∀j,j<a.length→(a[j]?).getD 0=(b[j]?).getD 0)→a.length=b.length→a=b
 |[],[],_,_=>rfl
 |[],_::_,_,h=>by cases h
 |_::_,[],_,h=>by cases h
 |x::a,y::b,hj,h=>by rw[show x=y from hj 0 (by simp),aVj (fun j h=>hj (j+1) (by simp;omega)) (by simpa using h)]
def vR {u:Bs}(h:B<u):¬u<B:=fun g=>List.lt_irrefl B (List.lt_trans h g)
def aDu (a b:Bs):lT a b=if a<b then -1 else if a=b then 0 else 1:=by
 have r:∀x:Bs,¬x<x:=List.lt_irrefl;have e:lT a b=match(List.range' 0 (min a.length b.length)).find? fun i=>(a[i]?).getD 0 != (b[i]?).getD 0 with
  |some i=>if(a[i]?).getD 0<(b[i]?).getD 0 then -1 else 1
  |none=>if a.length<b.length then -1 else if a.length>b.length then 1 else 0:=by
  unfold lT Extern.BytealgCompare.cmp;simp only[aUu];rw[show(⟨⟨a⟩⟩:ByteArray).size=a.length from rfl,show(⟨⟨b⟩⟩:ByteArray).size=b.length from rfl,List.range_eq_range'];rfl
 rw[e];rcases aJo a b 0 (min a.length b.length)with h|⟨k,_,g,h3,h4,h5⟩
 ·have d:=aPn a b 0 _ h;rw[h];simp only;by_cases c:a.length<b.length
  ·rw[kM c,kM (aNj (fun j f=>d j (sE _) (by omega)) c)]
  ·by_cases g:a.length>b.length
   ·have:b<a:=aNj (fun j f=>(d j (sE _) (by omega)).symm) g;rw[kL c,kM g,kL (vR this),kL fun e=>r a (by rw[e]at this⊢;exact this)]
   ·have:a=b:=aVj (fun j f=>d j (sE _) (by omega)) (by omega);rw[kL c,kL g,this,kL (r b),kM rfl]
 ·rw[h3];simp only;by_cases c:(a[k]?).getD 0<(b[k]?).getD 0
  ·rw[kM c,kM (aYs k (fun j d=>h5 j (sE _) d) (by omega) (by omega) c)]
  ·have l:(b[k]?).getD 0<(a[k]?).getD 0:=by
    rcases mJ ((b[k]?).getD 0).toNat ((a[k]?).getD 0).toNat with h|h
    ·exact UInt8.lt_iff_toNat_lt.2 h
    ·exact dC (UInt8.toNat_inj.1 (Nat.le_antisymm h (Nat.le_of_not_lt fun q=>c (UInt8.lt_iff_toNat_lt.2 q)))) h4
   have:b<a:=aYs k (fun j d=>(h5 j (sE _) d).symm) (by omega) (by omega) l;rw[kL c,kL (vR this),kL fun e=>h4 (by rw[e])]
def bAd {u:Bs}:lT B u<0↔B<u:=by
 rw[aDu];by_cases h:B<u
 ·simp[h]
 ·rw[kL h];by_cases e:B=u
  ·rw[kM e];exact⟨fun h=>dC h (by decide),fun g=>dC g h⟩
  ·rw[kL e];exact⟨fun h=>dC h (by decide),fun g=>dC g h⟩
def aDt {u:Bs}:lT B u=0↔B=u:=by
 rw[aDu];by_cases h:B<u
 ·simp only[kM h];exact⟨fun e=>by omega,fun e=>dC (e▸h) (List.lt_irrefl _)⟩
 ·by_cases e:B=u<;>simp[h,e]
def SrR (r:Row):Prop:=r.Pairwise fun x y=>x.1<y.1
def vH (r:Row)(f:Bs):Bool:=r.any fun x=>decide (x.1=f)
def eI (r:Row)(f:Bs):Row:=r.filter fun x=>!decide (x.1=f)
def aNb:Row→Bs→Nat→Row
 |[],f,q=>[(f,q)]
 |x::r,f,q=>if x.1<f then x::aNb r f q else(f,q)::x::r
def lX (i:Bs→Bool)(r:Row)(f:Bs)(q:Nat):Nat×Row:=
 if 2<q∨i f=false∨vH r f=false∧16≤r.length then(128,r)else(q,aNb (eI r f) f q)
def nD (f:Bs→Bool):Row→Row→kC Nat×Row
 |r,[]=>([],r)
 |r,x::l=>((lX f r x.1 x.2).1::(nD f (lX f r x.1 x.2).2 l).1,(nD f (lX f r x.1 x.2).2 l).2)
def aFp {R:Row}{B:Bs}:∀(n i j:Nat),i≤j→j≤R.length→j-i<n→(∀k x,k<i→R[k]?=some x→x.1<B)→(∀k x,j≤k→R[k]?=some x→¬x.1<B)→
 SrR R→(∀k x,k<bsG R B n i j→R[k]?=some x→x.1<B)∧∀k x,bsG R B n i j≤k→R[k]?=some x→¬x.1<B
 |0,i,j,_,_,h,_,_,_=>dC h (Nat.not_lt_zero _)
 |n+1,i,j,hij,hj,hn,h1,h2,s=>by
  simp only[bsG];split
  ·rename_i f;have m:(i+j) / 2<R.length:=by omega
   have d:R[(i+j) / 2]?=some R[(i+j) / 2]:=kZ m;rw[d];simp only[pQ,bAd];split
   ·rename_i c;refine aFp n _ j (by omega) hj (by omega) (fun k x e a=>?_) h2 s;rcases mJ k ((i+j) / 2)with l|g
    ·have b:=(pX.1 a).1;have:=List.pairwise_iff_getElem.1 s k ((i+j) / 2) b m l;rw[(pX.1 a).2]at this;exact List.lt_trans this c
    ·obtain rfl:k=(i+j) / 2:=by omega
     rw[d]at a;obtain rfl:=pB a;exact c
   ·rename_i c;refine aFp n i _ (by omega) (by omega) (by omega) h1 (fun k x e a=>?_) s;rcases mJ ((i+j) / 2) k with l|g
    ·have b:=(pX.1 a).1;have:=List.pairwise_iff_getElem.1 s ((i+j) / 2) k m b l;rw[(pX.1 a).2]at this;exact fun q=>c (List.lt_trans this q)
    ·obtain rfl:k=(i+j) / 2:=by omega
     rw[d]at a;obtain rfl:=pB a;exact c
  ·obtain rfl:i=j:=by omega
   exact⟨h1,h2⟩
def aKs (s:SrR R)(f:Bs):(∀k x,k<bQ R f→R[k]?=some x→x.1<f)∧∀k x,bQ R f≤k→R[k]?=some x→¬x.1<f:=
 aFp _ _ _ (sE _) (kQ _) (by omega) (fun k x h=>dC h (Nat.not_lt_zero _)) (fun k x b a=>dC (pX.1 a).1 (by omega)) s
def aPa (s:SrR R)(f:Bs):∃a b:Row,R=a++b∧a.length=bQ R f∧(∀x∈a,x.1<f)∧∀x∈b,¬x.1<f:=by
 obtain⟨d,e⟩:=aKs s f;refine⟨R.take (bQ R f),R.drop (bQ R f),(sM _ _).symm,by rw[pH,dU (rV R f)],fun x c=>?_,fun x c=>?_⟩
 ·obtain⟨k,h⟩:=mM.1 c;rw[sK]at h;split at h
  ·exact d k x (by assumption) h
  ·cases h
 ·obtain⟨k,h⟩:=mM.1 c;rw[sL]at h;exact e _ x (Nat.le_add_right _ _) h
def bVc {u:Bs}(h:¬B<u)(e:B≠u):u<B:=by
 rcases List.le_iff_lt_or_eq.1 (List.not_lt.1 h)with h|h
 ·exact h
 ·exact dC h.symm e
def wU:∀(a b:Row) (f:Bs) (q:Nat),(∀x∈a,x.1<f)→(∀x∈b,¬x.1<f)→aNb (a++b) f q=a++(f,q)::b
 |[],[],f,q,_,_=>rfl
 |[],y::b,f,q,_,h=>by simp only[dF,aNb,kL (h y mO)]
 |x::a,b,f,q,h1,h2=>by
  simp only[dG,aNb,kM (h1 x mO)];rw[wU a b f q (fun y c=>h1 y (mL _ c)) h2]
def sD (h:∀x∈R,x.1≠B):eI R B=R:=List.filter_eq_self.2 fun x a=>by simp[h x a]
def has_iff :vH R B=true↔∃x∈R,x.1=B:=by simp[vH]
def aOj (h:∀x∈R,x.1≠B):vH R B=false:=by
 cases e:vH R B with
 |false=>rfl
 |true=>obtain⟨x,a,f⟩:=has_iff.1 e;exact dC f (h x a)
def aIp (s:SrR r)(f:Bs):(∃(a b:Row) (x:Bs×Nat),r=a++x::b∧x.1=f∧a.length=bQ r f∧cW r f=true∧vH r f=true∧eI r f=a++b∧(∀x∈a,x.1<f)∧∀x∈b,f<x.1)∨
 (∃a b:Row,r=a++b∧a.length=bQ r f∧cW r f=false∧vH r f=false∧eI r f=r∧(∀x∈a,x.1<f)∧∀x∈b,f<x.1):=by
 obtain⟨a,b,e,m,k,u⟩:=aPa s f;have n:∀x∈a,x.1≠f:=fun x c h=>List.lt_irrefl f (by have:=k x c;rwa [h]at this);have p:r[bQ r f]?=b[0]?:=by
  rw[←m];conv=>lhs;rw[e]
  rw[pK (kQ _),dI]
 cases b with
 |nil=>
  rw[dD]at e;have j:∀x∈r,x.1≠f:=by rw[e];exact n
  exact .inr ⟨a,[],by rw[dD];exact e,m,by unfold cW;rw[p];rfl,aOj j,sD j,k,fun x c=>by cases c⟩
 |cons y b=>
  have v:SrR (y::b):=by
   have:SrR (a++y::b):=e▸s;exact(List.pairwise_append.1 this).2.1
  have g:∀x∈b,y.1<x.1:=(List.pairwise_cons.1 v).1;by_cases d:y.1=f
  ·have o:∀x∈b,x.1≠f:=fun x c h=>List.lt_irrefl f (by have:=g x c;rwa [h,d]at this);refine .inl ⟨a,b,y,e,d,m,?_,has_iff.2 ⟨y,by rw[e];simp,d⟩,?_,k,fun x c=>d▸g x c⟩
   ·unfold cW;rw[p];simp[aDt,d]
   ·rw[e,eI,List.filter_append,dO];rw[kL (by simp[d])];have q:=sD n;have t:=sD o;unfold eI at q t;rw[q,t]
  ·have l:f<y.1:=bVc (u y mO) d;have i:∀x∈y::b,f<x.1:=fun x c=>by
    rcases sI.1 c with rfl|c
    ·exact l
    ·exact List.lt_trans l (g x c)
   have j:∀x∈r,x.1≠f:=fun x c h=>by
    rw[e]at c;rcases mP.1 c with c|c
    ·exact n x c h
    ·exact List.lt_irrefl f (by have:=i x c;rwa [h]at this)
   exact .inr ⟨a,y::b,e,m,by unfold cW;rw[p];simp[aDt,d],aOj j,sD j,k,i⟩
def aNx {b:Row}{x:Bs×Nat}(e:SrR R)(f:SrR b)(a:∀y∈R,y.1<x.1)(c:∀y∈b,x.1<y.1):SrR (R++x::b):=
 List.pairwise_append.2 ⟨e,List.pairwise_cons.2 ⟨c,f⟩,fun y d z h=>by
  rcases sI.1 h with rfl|h
  ·exact a y d
  ·exact List.lt_trans (a y d) (c z h)⟩
def aCy {b:Row}(h:SrR (R++b)):SrR R∧SrR b:=⟨(List.pairwise_append.1 h).1,(List.pairwise_append.1 h).2.1⟩
variable (fil:Bs→Bool)
def aVc (s:SrR r)(g:r.length≤16)(f:Bs)(q:Nat):iZ fil r f q=lX fil r f q∧(iZ fil r f q).2.length≤16∧SrR (iZ fil r f q).2:=by
 unfold iZ lX;by_cases d:2<q∨fil f=false
 ·rw[kM d,kM (by rcases d with h|h;exact .inl h;exact .inr (.inl h))];exact⟨rfl,g,s⟩
 rw[kL d];rcases aIp s f with⟨a,b,x,e,i,hl,ht,hh,hd,ha,hb⟩|⟨a,b,e,hl,ht,hh,hd,ha,hb⟩
 ·rw[ht,hh,hd,kM rfl,kL (fun h=>h.elim (fun h=>d (.inl h)) fun h=>h.elim (fun h=>d (.inr h)) fun h=>dC h.1 (by decide))];have p:=aCy (e▸s);have sb:SrR b:=(List.pairwise_cons.1 p.2).2;have k:r.set (bQ r f) (((r[bQ r f]?).getD ([],0)).1,q)=a++(f,q)::b:=by
   have l:r[bQ r f]?=some x:=by
    rw[←hl];conv=>lhs;rw[e]
    rw[pK (kQ _),dI];rfl
   rw[l,←hl]
   conv=>lhs;rw[e]
   rw[dH _ _ (kQ _),dI];simp only[pQ,List.set_cons_zero,i]
  rw[k,wU a b f q ha fun x i=>fun h=>vR (hb x i) h];refine⟨rfl,?_,aNx p.1 sb ha hb⟩;rw[e]at g;simp only[kX,kY]at g⊢;omega
 ·rw[ht,hh,hd];simp only[pP,mD];have p:=aCy (e▸s);by_cases c:r.length=16
  ·rw[kM c,kM (.inr (.inr ⟨trivial,by omega⟩))];exact⟨rfl,g,s⟩
  ·rw[kL c];have t:r.take (bQ r f)=a:=by
    rw[←hl];conv=>lhs;rw[e]
    exact List.take_left
   have j:r.drop (bQ r f)=b:=by
    rw[←hl];conv=>lhs;rw[e]
    exact List.drop_left
   rw[t,j];refine⟨?_,by rw[e]at c g;simp only[kX,kY]at c g⊢;omega,aNx p.1 p.2 ha hb⟩;rw[kL (by rintro(h|h|h);exact d (.inl h);exact d (.inr h);exact c (by omega))]
   conv=>rhs;rw[e]
   rw[wU a b f q ha fun x i=>fun h=>vR (hb x i) h]
end
end Ra
