
namespace Ra
def check {σ ν:Type}(right:σ→Nat→ν→Bool×σ):σ→Nat→List ν→Nat×Bool
 |_,i,[]=>(i,true)
 |s,i,n::l=>match right s i n with
  |(true,s')=>check right s' (i+1) l
  |(false,_)=>(i,false)
section
variable {σ ν:Type}{right:σ→Nat→ν→Bool×σ}
theorem check_bounds:∀(l:List ν) (s:σ) (i:Nat),i≤(check right s i l).1∧(check right s i l).1≤i+l.length∧((check right s i l).2=true↔(check right s i l).1=i+l.length)
 |[],s,i=>by simp[check]
 |n::l,s,i=>by
  simp only[check,List.length_cons];split
  ·rename_i s' _;obtain⟨h1,h2,h3⟩:=check_bounds l s' (i+1);refine⟨by omega,by omega,h3.trans ⟨fun h=>by omega,fun h=>by omega⟩⟩
  ·simp only[Bool.false_eq_true,false_iff];exact⟨Nat.le_refl _,by omega,by omega⟩
theorem check_take:∀(l:List ν) (s:σ) (i k:Nat),i+k≤(check right s i l).1→check right s i (l.take k)=(i+k,true)
 |[],s,i,k,h=>by
  simp only[check]at h;have:k=0:=by omega
  subst this;rfl
 |n::l,s,i,0,h=>rfl
 |n::l,s,i,k+1,h=>by
  simp only[check,List.take_succ_cons]at h⊢;split at h
  ·rename_i s' e;rw[check_take l s' (i+1) k (by omega),show i+1+k=i+(k+1) by omega]
  ·exact absurd h (by simp only;omega)
theorem check_more:∀(l:List ν) (s:σ) (i:Nat) (more:List ν),(check right s i l).2=false→check right s i (l.take ((check right s i l).1-i+1)++more)=((check right s i l).1,false)
 |[],s,i,more,h=>by simp[check]at h
 |n::l,s,i,more,h=>by
  simp only[check]at h⊢;split at h
  ·rename_i s' e;have hb:=(check_bounds (right:=right) l s' (i+1)).1;have hm:=check_more l s' (i+1) more h;rw[show(check right s' (i+1) l).1-i+1=((check right s' (i+1) l).1-(i+1)+1)+1 by omega];simp only[List.take_succ_cons,List.cons_append,check,e];exact hm
  ·rename_i s' e;simp[check,e]
end
end Ra

namespace Ra
abbrev Bs:=List UInt8
abbrev Row:=List (Bs×Nat)
structure Msg where
 topic:Bs
 payload:Bs
 qos:Nat
 retain:Bool
 deriving DecidableEq
structure cU where
 kind:Nat
 op:Int
 conn:Int
 client:Bs
 ptype:Nat
 clean:Bool
 subs:Row
 msg:Msg
 qos:Nat
structure tG where
 row:Row
 conn:Int
 clean:Bool
structure Pub where
 client:Bs
 msg:Msg
 place:Nat
 open_ : Bool
 holds:List Bs
 serve:List Bs
structure Sb where
 client:Bs:=[]
 done:Bool:=false
 open_ : Bool := false
 filters:Row:=[]
 past:List (Bs×List Msg):=[]
 still:List Bs:=[]
 got:List Bs:=[]
 last:Bs:=[]
 some_:Bool:=false
structure St where
 seats:List (Bs×tG):=[]
 kept:List (Bs×Msg):=[]
 pubs:List (Int×Pub):=[]
 subs:List (Int×Sb):=[]
def aE {κ α:Type}[DecidableEq κ]:List (κ×α)→κ→Option α
 |[],_=>none
 |(k,a)::r,x=>if k=x then some a else aE r x
def aL {κ α:Type}[DecidableEq κ]:List (κ×α)→κ→α→List (κ×α)
 |[],x,a=>[(x,a)]
 |(k,b)::r,x,a=>if k=x then(k,a)::r else(k,b)::aL r x a
def fL {κ α:Type}[DecidableEq κ]:List (κ×α)→κ→List (κ×α)
 |[],_=>[]
 |(k,b)::r,x=>if k=x then r else(k,b)::fL r x
def lR (l:List Bs)(x:Bs):List Bs:=if x∈l then l else l++[x]
section
variable (name filter:Bs→Bool)(takes:Bs→Bs→Bool)
def place (r:Row)(f:Bs):Nat:=(r.takeWhile fun x=>decide (x.1<f)).length
def aJp (r:Row)(f:Bs):Bool:=match r[place r f]? with|some x=>decide (x.1=f)|none=>false
def set (r:Row)(f:Bs)(q:Nat):Nat×Row:=
 if 2<q∨filter f=false then(128,r)
 else if aJp r f then(q,r.set (place r f) (f,q))
 else if r.length=16 then(128,r)
 else(q,r.take (place r f)++(f,q)::r.drop (place r f))
def drop (r:Row)(f:Bs):Row:=if aJp r f then r.eraseIdx (place r f)else r
def best (r:Row)(n:Bs):Option Nat:=
 r.foldl (fun b x=>if takes x.1 n then some (max (b.getD 0) x.2)else b) none
def bGg:Row→Row→List Nat×Row
 |r,[]=>([],r)
 |r,(f,q)::l=>let a:=set filter r f q;let b:=bGg a.2 l;(a.1::b.1,b.2)
def aJx (s:St)(client topic:Bs):Option Nat:=(aE s.seats client).bind fun x=>best takes x.row topic
def aLf (s:St)(n:cU):Option St:=
 let o:=aE s.seats n.client
 if n.conn<1∨(o.map fun x=>decide (0<x.conn))=some true then none
 else match o with
  |some x=>if x.clean=false∧n.clean=false then some {s with seats:=aL s.seats n.client {x with conn:=n.conn,clean:=n.clean}}
   else some {s with seats:=aL s.seats n.client ⟨[],n.conn,n.clean⟩}
  |none=>some {s with seats:=aL s.seats n.client ⟨[],n.conn,n.clean⟩}
def apply(s:St)(n:cU):Option (List Nat×St):=
 if n.kind=5 then
  (if name n.msg.topic∧n.msg.qos≤2 then some ([],{s with kept:=if n.msg.payload=[]then fL s.kept n.msg.topic else aL s.kept n.msg.topic {n.msg with retain:=true}})else none)
 else if n.kind≠2 then some ([],s)
 else if n.ptype=1 then(aLf s n).map fun s=>([],s)
 else match aE s.seats n.client with
  |none=>none
  |some x=>
   if n.conn<1∨x.conn≠n.conn then none
   else if n.ptype=8 then(let a:=bGg filter x.row n.subs;some (a.1,{s with seats:=aL s.seats n.client {x with row:=a.2}}))
   else if n.ptype=10 then some ([],{s with seats:=aL s.seats n.client {x with row:=n.subs.foldl (fun r y=>drop r y.1) x.row}})
   else if n.ptype=14∨n.ptype=0 then some ([],{s with seats:=if x.clean then fL s.seats n.client else aL s.seats n.client {x with conn:=0}})
   else none
def aKx (s:St):List Msg:=((s.kept.map (·.1)).mergeSort fun a b=>decide (a≤b)).filterMap (aE s.kept)
def aYe (s:St):List (Bs×Bs):=
 (s.seats.flatMap fun x=>x.2.row.map fun y=>(y.1,x.1)).mergeSort fun a b=>decide (a.1<b.1∨a.1=b.1∧a.2≤b.2)
def aIh (s:St):Sb:=
 let l:=aKx s
 {past:=l.foldl (fun p m=>aL p m.topic [m]) [],still:=l.foldl (fun p m=>lR p m.topic) []}
def bMk (s:St)(n:cU):Bool×St:=
 match apply name filter s n with
 |none=>(false,s)
 |some (codes,s)=>
  let s:={s with pubs:=s.pubs.map fun(k,p)=>(k,if(aJx takes s n.client p.msg.topic).isSome then p else{p with holds:=p.holds.erase n.client})}
  if n.ptype≠8 then(true,s)
  else
   let b:=(aE s.subs n.op).getD (aIh s)
   if b.done then(true,s)
   else
    let f:=(n.subs.zip codes).foldl (fun r x=>if x.2<128 then(set filter r x.1.1 x.1.2).2 else r) []
    (true,{s with subs:=aL s.subs n.op {b with done:=true,open_:=true,client:=n.client,filters:=f}})
def aYf (s:St)(n:cU):Bool×St:=
 match apply name filter s n with
 |none=>(false,s)
 |some (_,s)=>
  let m:={n.msg with retain:=true}
  (true,{s with subs:=s.subs.map fun(k,b)=>(k,if b.done then b else
   {b with still:=b.still.erase m.topic,past:=if m.payload=[]then b.past else aL b.past m.topic ((aE b.past m.topic).getD []++[m])})})
def aSc (s:St)(at_:Nat)(n:cU):Bool×St:=
 if n.op<1∨(aE s.pubs n.op).isSome then(false,s)
 else
  let h:=(aYe s).foldl (fun h x=>if(aJx takes s x.2 n.msg.topic).isSome then lR h x.2 else h) []
  (true,{s with pubs:=aL s.pubs n.op ⟨n.client,n.msg,at_,true,h,[]⟩})
def bJp (m:Msg)(q:Nat)(retain:Bool):Msg:={m with qos:=min m.qos q,retain:=retain}
def aLq (s:St)(n:cU):Bool×St:=
 match aE s.pubs n.op with
 |none=>(false,s)
 |some p=>
  if p.open_=false∨n.client∈p.serve then(false,s)
  else match aJx takes s n.client p.msg.topic with
   |none=>(false,s)
   |some b=>
    if n.msg≠bJp p.msg b false∨n.qos≠n.msg.qos then(false,s)
    else if s.pubs.any fun(_,q)=>decide (n.client∈q.serve∧p.place<q.place∧q.client=p.client∧q.msg.topic=p.msg.topic)then(false,s)
    else(true,{s with pubs:=aL s.pubs n.op {p with serve:=lR p.serve n.client}})
def aCb (s:St)(n:cU):Bool×St:=
 match aE s.subs n.op with
 |none=>(false,s)
 |some b=>
  if b.open_=false∨n.client≠b.client∨(b.some_=true∧n.msg.topic≤b.last)then(false,s)
  else match best takes b.filters n.msg.topic with
   |none=>(false,s)
   |some q=>
    if n.qos≠n.msg.qos∨¬(((aE b.past n.msg.topic).getD []).any fun m=>decide (n.msg=bJp m q true))then(false,s)
    else(true,{s with subs:=aL s.subs n.op {b with last:=n.msg.topic,some_:=true,got:=lR b.got n.msg.topic}})
def aAr (s:St)(op:Int):Bool×St:=
 match aE s.pubs op with
 |none=>(true,s)
 |some p=>
  if p.open_ then(p.holds.all fun c=>decide (c∈p.serve),{s with pubs:=aL s.pubs op {p with open_:=false}})
  else(true,s)
def aKa (s:St)(op:Int):Bool×St:=
 match aE s.subs op with
 |none=>(true,s)
 |some b=>
  if b.open_ then(b.still.all fun t=>!((best takes b.filters t).isSome&&!decide (t∈b.got)),{s with subs:=aL s.subs op {b with open_:=false}})
  else(true,s)
def right (s:St)(at_:Nat)(n:cU):Bool×St:=
 match n.kind with
 |1=>(true,if n.ptype=8∧(aE s.subs n.op).isNone then{s with subs:=aL s.subs n.op (aIh s)}else s)
 |2=>bMk name filter takes s n
 |5=>aYf name filter s n
 |4=>aSc takes s at_ n
 |6=>aLq takes s n
 |7=>if(aE s.pubs n.op).isSome then aLq takes s n else aCb takes s n
 |8=>aCb takes s n
 |3=>let a:=aAr s n.op;if a.1 then aKa takes a.2 n.op else a
 |_=>(true,s)
end
end Ra

namespace Ra
theorem aAp {a b c:Bs}(h1:a<b)(h2:b<c):a<c:=List.lt_trans h1 h2
theorem nZ (a:Bs):¬a<a:=List.lt_irrefl a
theorem aHt {a b:Bs}(h:¬a<b)(hne:a≠b):b<a:=by
 rcases List.le_total a b with h1|h1
 ·rcases List.le_iff_lt_or_eq.1 h1 with h2|h2
  ·exact absurd h2 h
  ·exact absurd h2 hne
 ·rcases List.le_iff_lt_or_eq.1 h1 with h2|h2
  ·exact h2
  ·exact absurd h2.symm hne
def hle (a b:Bs×Bs):Bool:=decide (a.1<b.1∨a.1=b.1∧a.2≤b.2)
theorem rV {a b:Bs×Bs}:hle a b=true↔a.1<b.1∨a.1=b.1∧a.2≤b.2:=by simp[hle]
theorem nX (a b c:Bs×Bs)(h1:hle a b=true)(h2:hle b c=true):hle a c=true:=by
 rw[rV]at h1 h2⊢;rcases h1 with h1|⟨e1,h1⟩
 ·rcases h2 with h2|⟨e2,h2⟩
  ·exact .inl (aAp h1 h2)
  ·exact .inl (e2▸h1)
 ·rcases h2 with h2|⟨e2,h2⟩
  ·exact .inl (e1▸h2)
  ·exact .inr ⟨e1.trans e2,List.le_trans h1 h2⟩
theorem tQ (a b:Bs×Bs):(hle a b||hle b a)=true:=by
 rw[Bool.or_eq_true,rV,rV];by_cases e:a.1=b.1
 ·rcases List.le_total a.2 b.2 with h|h
  ·exact .inl (.inr ⟨e,h⟩)
  ·exact .inr (.inr ⟨e.symm,h⟩)
 ·by_cases h:a.1<b.1
  ·exact .inl (.inl h)
  ·exact .inr (.inl (aHt h e))
theorem aHk (a b:Bs×Bs)(h1:hle a b=true)(h2:hle b a=true):a=b:=by
 rw[rV]at h1 h2;rcases h1 with h1|⟨e1,h1⟩
 ·rcases h2 with h2|⟨e2,_⟩
  ·exact absurd (aAp h1 h2) (nZ _)
  ·exact absurd (e2▸h1) (nZ _)
 ·rcases h2 with h2|⟨_,h2⟩
  ·exact absurd (e1▸h2) (nZ _)
  ·exact Prod.ext e1 (List.le_antisymm h1 h2)
theorem aHj {l l':List (Bs×Bs)}(hp:l.Perm l')(hs:l.Pairwise fun a b=>hle a b=true):l=l'.mergeSort hle:=
 (hp.trans (List.mergeSort_perm l' hle).symm).eq_of_pairwise (fun a b _ _ h1 h2=>aHk a b h1 h2) hs (List.pairwise_mergeSort nX tQ l')
theorem aBo {l l':List (Bs×Bs)}(hp:l.Perm l'):l.mergeSort hle=l'.mergeSort hle:=
 aHj ((List.mergeSort_perm l hle).trans hp) (List.pairwise_mergeSort nX tQ l)
end Ra
