import Derived.Test.YtbmdhjdgpeleoaaGreatDoorGb
set_option linter.defProp false
namespace Go.AM
open Go
mutual
def same:kA→kA→Bool
  | .bool a,.bool b=>bif a then b else(bif b then false else true)
  | .int k a,.int j b=>k==j&&a==b
  | .string a,.string b=>a.data.toList==b.data.toList
  | .pointer none,.pointer none=>true
  | .pointer (some ⟨a,b,none⟩),.pointer (some ⟨c,d,none⟩)=>Nat.beq a c&&Nat.beq b d
  | .slice none l c,.slice none m d=>Nat.beq l m&&Nat.beq c d
  | .slice (some ⟨a,b,none⟩) l c,.slice (some ⟨e,f,none⟩) m d=>Nat.beq a e&&Nat.beq b f&&Nat.beq l m&&Nat.beq c d
  | .map none,.map none=>true
  | .map (some a),.map (some b)=>Nat.beq a b
  | .func (.func f) a b,.func (.func g) c d=>Nat.beq f g&&sameA a c&&sameA b d
  | .nilFunc,.nilFunc=>true
  | .nilIface,.nilIface=>true
  | .iface t v,.iface u w=>Nat.beq t u&&same v w
  | .agg a,.agg b=>sameA a b
  | .tuple a,.tuple b=>sameA a b
  |_,_=>false
def sameA:kH kA→kH kA→Bool
  |⟨a⟩,⟨b⟩=>sameL a b
def sameL:kC kA→kC kA→Bool
  |[],[]=>true
  |a::r,b::s=>same a b&&sameL r s
  |_,_=>false
end
mutual
def lV:∀(a b:kA),same a b=true→a=b
  | .bool a,b,h=>by
    cases b with
    |bool b=>cases a<;>cases b<;>simp_all [same]
    |_=>simp[same]at h
  | .int k a,b,h=>by
    cases b with
    |int j b=>simp only[same,pA,beq_iff_eq]at h;rw[h.1,h.2]
    |_=>simp[same]at h
  | .string a,b,h=>by
    cases b with
    |string b=>simp only[same,beq_iff_eq]at h;rw[jV h]
    |_=>simp[same]at h
  | .pointer none,b,h=>by
    cases b with
    |pointer b=>cases b with
      |none=>rfl
      |some b=>simp[same]at h
    |_=>simp[same]at h
  | .pointer (some ⟨a,o,none⟩),b,h=>by
    cases b with
    |pointer b=>cases b with
      |none=>simp[same]at h
      |some b=>
        obtain⟨c,d,s⟩:=b
        cases s with
        |none=>simp only[same,pA,beq_iff]at h;rw[h.1,h.2]
        |some s=>simp[same]at h
    |_=>simp[same]at h
  | .pointer (some ⟨a,o,some s⟩),b,h=>by simp[same]at h
  | .slice none l c,b,h=>by
    cases b with
    |slice b m d=>cases b with
      |none=>simp only[same,pA,beq_iff]at h;rw[h.1,h.2]
      |some b=>simp[same]at h
    |_=>simp[same]at h
  | .slice (some ⟨a,o,none⟩) l c,b,h=>by
    cases b with
    |slice b m d=>cases b with
      |none=>simp[same]at h
      |some b=>
        obtain⟨e,f,s⟩:=b
        cases s with
        |none=>simp only[same,pA,beq_iff]at h;rw[h.1.1.1,h.1.1.2,h.1.2,h.2]
        |some s=>simp[same]at h
    |_=>simp[same]at h
  | .slice (some ⟨a,o,some s⟩) l c,b,h=>by simp[same]at h
  | .map none,b,h=>by
    cases b with
    |map b=>cases b with
      |none=>rfl
      |some b=>simp[same]at h
    |_=>simp[same]at h
  | .map (some a),b,h=>by
    cases b with
    |map b=>cases b with
      |none=>simp[same]at h
      |some b=>simp only[same,beq_iff]at h;rw[h]
    |_=>simp[same]at h
  | .func (.func f) a c,b,h=>by
    cases b with
    |func g p q=>
      cases g with
      |func g=>simp only[same,pA,beq_iff]at h;rw[h.1.1,vP a p h.1.2,vP c q h.2]
      |_=>simp[same]at h
    |_=>simp[same]at h
  | .func (.method _) _ _,b,h=>by simp[same]at h
  | .func (.methodOf _ _) _ _,b,h=>by simp[same]at h
  | .func (.via _ _ _ _) _ _,b,h=>by simp[same]at h
  | .func (.yield _) _ _,b,h=>by simp[same]at h
  | .nilFunc,b,h=>by cases b<;>simp_all [same]
  | .nilIface,b,h=>by cases b<;>simp_all [same]
  | .iface t v,b,h=>by
    cases b with
    |iface u x=>simp only[same,pA,beq_iff]at h;rw[h.1,lV v x h.2]
    |_=>simp[same]at h
  | .agg a,b,h=>by
    cases b with
    |agg b=>simp only[same]at h;rw[vP a b h]
    |_=>simp[same]at h
  | .tuple a,b,h=>by
    cases b with
    |tuple b=>simp only[same]at h;rw[vP a b h]
    |_=>simp[same]at h
  | .float _ _,b,h=>by simp[same]at h
  | .complex _ _ _,b,h=>by simp[same]at h
  | .chan _,b,h=>by simp[same]at h
def vP:∀(a b:kH kA),sameA a b=true→a=b
  |⟨a⟩,⟨b⟩,h=>by simp only[sameA]at h;rw[aBn a b h]
def aBn:∀(a b:kC kA),sameL a b=true→a=b
  |[],[],_=>rfl
  |[],_::_,h=>by simp[sameL]at h
  |_::_,[],h=>by simp[sameL]at h
  |a::r,b::s,h=>by
    simp only[sameL,pA]at h;rw[lV a b h.1,aBn r s h.2]
end
inductive OK where
  |pure|reads|makes|effect
  deriving DecidableEq
def bL (P:kD)(o:Oper):kB OK:=
  match o.op with
  | .move _| .assign _| .pick .. | .build .. | .nilCheck _| .binOp .. | .unOp .. | .makeFunc .. | .fieldAddr .. | .field .. | .indexAddr .. | .index .. | .extract .. =>some .pure
  | .slice t .. =>(match P.underlying t with|some .string=>some .pure|_=>some .reads)
  | .load .. =>some .reads
  | .lookup .. =>some .reads
  | .alloc _| .box .. | .buildSlice .. | .makeSlice .. | .makeMap .. =>some .makes
  | .store .. =>some .effect
  | .mapUpdate .. | .range .. | .next .. =>some .effect
  | .call c=>match c.callee with
    | .value _=>some .effect
    | .builtin .append| .builtin .copy| .builtin .clear| .builtin .delete=>some .effect
    | .builtin .len=>(match(c.argTypes[0]?).bind P.underlying with|some (.map _ _)=>some .reads|_=>some .pure)
    | .builtin .min| .builtin .max=>some .pure
    |_=>none
  | .convert s d _=>(match P.underlying s,P.underlying d with|some (.int _),some (.int _)=>some .pure|_,_=>some .effect)
  |_=>none
def before (o:kH Oper):kC Nat:=(Region.before o).toList
def aYu (p:Oper)(d:Tmp):Bool:=match p.dst with|some e=>Nat.beq d e|none=>false
def aVd (a:kH Oper)(b:kC Nat):Bool:=
  let l:=a.toList.zipIdx
  l.all fun(o,i)=>
    match o.dst with
    |none=>true
    |some d=>l.all fun(p,j)=>
      Nat.beq i j||!((uB p a).any (Nat.beq d)||aYu p d)||
        Nat.testBit (b.getD (max i j) 0) (min i j)
def lR (P:kD)(a:kH Oper)(b:kC Nat):Bool:=
  let l:=a.toList.zipIdx
  (l.all fun(o,i)=>(bL P o).isSome&&o.after.toList.all (fun e=>Nat.blt e.on i||!Region.binds .any e)&&
    (match o.guard with
     |none=>true
     |some (j,_)=>Nat.blt j i&&Nat.testBit (b.getD i 0) j))&&
  (l.all fun(o,i)=>l.all fun(p,j)=>!(bL P o==some .effect&&bL P p==some .effect&&Nat.blt i j)||Nat.testBit (b.getD j 0) i)&&
  aVd a b
def bV (P:kD)(N:Nat)(o:Oper)(f:T kA)(h:H)(v:kA):Bool:=
  match aop P (fun _ _ _=>none) (aH N f h) h o (fun r _=>r)with
  |some u=>same u v
  |none=>false
def runD {Y:Type}(P:kD)(C:CF)(N:Nat)(ops:kH Oper)(bef:kC Nat):Nat→kC Oper→T kA→H→kC (Nat×H)→kC (Nat×Oper×T kA×kA)→(T kA→H→kB Y)→kB Y
  |_,[],fr,h,_,_,K=>K fr h
  |i,o::rest,fr,h,es,ls,K=>
    let r (fr:T kA):kB Y:=
      match bL P o with
      |some .effect=>aop P C (aH N fr h) h o<|bN P o fun c a=>
          bif ls.all (fun(j,g,f,k)=>Nat.testBit (bef.getD i 0) j||bV P N g f a k)then
            runD P C N ops bef (i+1) rest (cS fr o.dst c) a ((i,h)::es) ls K else none
      |some .reads=>aop P C (aH N fr h) h o<|bN P o fun c a=>
          (match c with
           |some v=>bif es.all (fun(p,e)=>Nat.testBit (bef.getD i 0) p||bV P N o fr e v)then
              runD P C N ops bef (i+1) rest (cS fr o.dst c) a es ((i,o,fr,v)::ls) K else none
           |none=>none)
      |some _=>aop P C (aH N fr h) h o<|bN P o fun c a=>runD P C N ops bef (i+1) rest (cS fr o.dst c) a es ls K
      |none=>none
    match o.guard with
    |none=>r fr
    |some (j,want)=>
      match(ops[j]?).bind (·.dst)with
      |none=>none
      |some d=>
        match fr.get d with
        |some (.bool b)=>
          bif b then
            (bif want then r (fr.set d (some (.bool true)))
             else runD P C N ops bef (i+1) rest (cS (fr.set d (some (.bool true))) o.dst (some undef)) h es ls K)
          else
            (bif want then runD P C N ops bef (i+1) rest (cS (fr.set d (some (.bool false))) o.dst (some undef)) h es ls K
             else r (fr.set d (some (.bool false))))
        |some (.tuple _)=>runD P C N ops bef (i+1) rest (cS fr o.dst (some undef)) h es ls K
        |_=>none
section
variable {P:kD}{C:CF}{NG:Nat}
abbrev aY:kB kA→H→kB (kB kA×H):=fun a b=>some (a,b)
set_option maxHeartbeats 1000000 in
def eH {Y:Type}(P:kD)(C:CF)(e:kK→kB kA)(h:H)(o:Oper)(K:kB kA→H→kB Y):
 aop P C e h o K=(aop P C e h o aY).bind fun p=>K p.1 p.2:=by
 obtain⟨s,k,j,l,g,u⟩:=o
 cases k with
 |pick c x y=>
  simp only[aop]
  cases e c with
  |none=>rfl
  |some v=>
   cases v<;>try rfl
   rename_i t;cases e x<;>cases e y<;>cases t<;>rfl
 |makeFunc f a b=>
  cases f<;>simp only[aop]<;>(try rfl)
  repeat' split
  all_goals rfl
 |call c=>
  obtain⟨d,i,r⟩:=c
  cases d with
  |builtin b=>
   simp only[aop]
   repeat' split
   all_goals (first|rfl|(simp only[Option.bind_assoc];rfl)|(cases m:(_:Bool)<;>rfl)|skip)
   all_goals (simp only[cond_eq_ite];split<;>first|rfl|(simp only[Option.bind_assoc];rfl))
  |value f=>
   simp only[aop]
   repeat' split
   all_goals (first|rfl|(simp only[Option.bind_assoc];rfl))
  |invoke a b=>rfl
 |_=>
  simp only[aop]
  repeat' split
  all_goals (first|rfl|(simp only[Option.bind_assoc];rfl)|skip)
  all_goals (simp only[cond_eq_ite];repeat' split)
  all_goals (first|rfl|(simp only[Option.bind_assoc];rfl))
def LEh (X Y:H):Prop:=X.next≤Y.next∧∀id b,X.get id=some b→Y.get id=some b
def aIr {G:kK→kB kA}{h:H}{o:Oper}{R:kB kA}{j:H}(I:bL P o=some .pure)(r:aop P C G h o aY=some (R,j)):
 j=h∧∀X,aop P C G X o aY=some (R,X):=by
 obtain⟨b3,Y,a3,e3,S,U⟩:=o;have p:∀{v:kA},(some (some v,h):kB (kB kA×H))=some (R,j)→j=h∧R=some v:=by
  intro v N;simp only[kP,kW]at N;exact⟨N.2.symm,N.1.symm⟩
 cases Y with
 |move x=>
  obtain⟨v,B,r⟩:=bind_some r;obtain⟨s,w⟩:=p r;exact⟨s,fun X=>by simp only[aop,B,pR,aY,w]⟩
 |assign x=>
  obtain⟨v,B,r⟩:=bind_some r;obtain⟨s,w⟩:=p r;exact⟨s,fun X=>by simp only[aop,B,pR,aY,w]⟩
 |pick c x y=>
  simp only[aop]at r⊢;split at r
  ·rename_i t hc;split at r
   ·rename_i va vb L M;obtain⟨s,w⟩:=p r;exact⟨s,fun X=>by simp only[aY,w]⟩
   ·rename_i va L M
    cases t with
    |false=>simp at r
    |true=>obtain⟨s,w⟩:=p r;exact⟨s,fun X=>by simp only[aY,w,sV]⟩
   ·rename_i vb L M
    cases t with
    |true=>simp at r
    |false=>obtain⟨s,w⟩:=p r;exact⟨s,fun X=>by simp only[aY,w,sW]⟩
   ·simp at r
  ·simp at r
 |build t ps=>
  simp only[aop]at r⊢;split at r
  ·rename_i z l hz hl;obtain⟨V,r⟩:=aB r;obtain⟨v,B,r⟩:=bind_some r;obtain⟨s,w⟩:=p r;exact⟨s,fun X=>by simp only[V,sV,B,pR,aY,w]⟩
  ·simp at r
 |nilCheck x=>
  simp only[aop]at r⊢;obtain⟨v,B,r⟩:=bind_some r;obtain⟨u,D,r⟩:=bind_some r;obtain⟨s,w⟩:=p r;exact⟨s,fun X=>by simp only[B,D,pR,aY,w]⟩
 |binOp Y t x y t2=>
  simp only[aop]at r⊢;split at r
  ·rename_i a b L M;obtain⟨u,D,r⟩:=bind_some r;obtain⟨s,w⟩:=p r;exact⟨s,fun X=>by simp only[D,pR,aY,w]⟩
  ·simp at r
 |convert t d x=>
  simp only[bL]at I;split at I
  ·rename_i k1 k2 K h2;simp only[aop,K,h2]at r⊢;split at r
   ·simp at r
   ·rename_i v B;obtain⟨u,D,r⟩:=bind_some r;obtain⟨s,w⟩:=p r;exact⟨s,fun X=>by simp only[D,pR,aY,w]⟩
  ·simp at I
 |unOp Y t x=>
  simp only[aop]at r⊢;obtain⟨v,B,r⟩:=bind_some r;obtain⟨u,D,r⟩:=bind_some r;obtain⟨s,w⟩:=p r;exact⟨s,fun X=>by simp only[B,D,pR,aY,w]⟩
 |makeFunc f a b=>
  cases f with
  |func f=>
   simp only[aop]at r⊢;split at r
   ·rename_i va vb L M;obtain⟨s,w⟩:=p r;exact⟨s,fun X=>by simp only[aY,w]⟩
   ·simp at r
  |methodOf t m=>
   simp only[aop]at r⊢;split at r
   ·rename_i L M;obtain⟨s,w⟩:=p r;exact⟨s,fun X=>by simp only[aY,w]⟩
   ·simp at r
  |_=>simp[aop]at r
 |slice t x lo hi mx=>
  simp only[aop]at r⊢;split at r
  ·rename_i v l q m Q hl hq hm;have D:P.underlying t=some .string:=by
    simp only[bL]at I;split at I
    ·assumption
    ·simp at I
   simp only[D]at r⊢;split at r
   ·obtain⟨u,B,r⟩:=bind_some r;obtain⟨s,w⟩:=p r;exact⟨s,fun X=>by simp only[B,pR,aY,w]⟩
   ·simp at r
  ·simp at r
 |fieldAddr t x i=>
  simp only[aop]at r⊢;split at r
  ·rename_i f v hf Q;split at r
   ·rename_i n O
    cases h0:Nat.beq n 0 with
    |true=>rw[h0]at r;simp at r
    |false=>
     rw[h0]at r;simp only[sW]at r;obtain⟨u,B,r⟩:=bind_some r;obtain⟨s,w⟩:=p r;exact⟨s,fun X=>by simp only[sW,B,pR,aY,w]⟩
   ·simp at r
  ·simp at r
 |field t x i=>
  simp only[aop]at r⊢;split at r
  ·rename_i f v hf Q;split at r
   ·rename_i g n hg O;obtain⟨u,B,r⟩:=bind_some r;obtain⟨s,w⟩:=p r;exact⟨s,fun X=>by simp only[B,pR,aY,w]⟩
   ·simp at r
  ·simp at r
 |indexAddr t x i=>
  simp only[aop]at r⊢;split at r
  ·rename_i v iv Q hi;split at r
   ·rename_i e D;split at r
    ·rename_i n O;obtain⟨u,B,r⟩:=bind_some r;obtain⟨s,w⟩:=p r;exact⟨s,fun X=>by simp only[B,pR,aY,w]⟩
    ·simp at r
   ·rename_i len e D;split at r
    ·rename_i n O;obtain⟨u,B,r⟩:=bind_some r;obtain⟨s,w⟩:=p r;exact⟨s,fun X=>by simp only[B,pR,aY,w]⟩
    ·simp at r
   ·simp at r
  ·simp at r
 |index t x i=>
  simp only[aop]at r⊢;split at r
  ·rename_i v iv Q hi;split at r
   ·rename_i D;obtain⟨u,B,r⟩:=bind_some r;obtain⟨s,w⟩:=p r;exact⟨s,fun X=>by simp only[B,pR,aY,w]⟩
   ·rename_i len e D;split at r
    ·rename_i g n hg O;obtain⟨u,B,r⟩:=bind_some r;obtain⟨s,w⟩:=p r;exact⟨s,fun X=>by simp only[B,pR,aY,w]⟩
    ·simp at r
   ·simp at r
  ·simp at r
 |extract x i=>
  simp only[aop]at r⊢;obtain⟨v,B,r⟩:=bind_some r;obtain⟨u,D,r⟩:=bind_some r;obtain⟨s,w⟩:=p r;exact⟨s,fun X=>by simp only[B,D,pR,aY,w]⟩
 |call c=>
  obtain⟨J,Z,E⟩:=c
  cases J with
  |value f=>simp[bL]at I
  |invoke a b=>simp[bL]at I
  |builtin b=>
   simp only[aop]at r⊢;split at r
   ·simp at r
   ·rename_i vs d3
    cases b with
    |len=>
     have W:∀k e,(E[0]?).bind P.underlying≠some (.map k e):=by
      intro k e N;simp[bL,N]at I
     split at r
     ·rename_i v;split at r
      ·rename_i e D;obtain⟨u,B,r⟩:=bind_some r;obtain⟨s,w⟩:=p r;exact⟨s,fun X=>by simp only[B,pR,aY,w]⟩
      ·rename_i D;obtain⟨u,B,r⟩:=bind_some r;obtain⟨s,w⟩:=p r;exact⟨s,fun X=>by simp only[B,pR,aY,w]⟩
      ·rename_i k e D;exact dC D (W k e)
      ·simp at r
     ·rename_i K;simp at K
     ·rename_i K;simp at K
     ·rename_i K;simp at K
     ·rename_i K;simp at K
     ·obtain⟨u,B,r⟩:=bind_some r;simp[A.zS]at B
    |min=>
     simp only at r⊢;obtain⟨u,B,r⟩:=bind_some r;obtain⟨s,w⟩:=p r;exact⟨s,fun X=>by simp only[B,pR,aY,w]⟩
    |max=>
     simp only at r⊢;obtain⟨u,B,r⟩:=bind_some r;obtain⟨s,w⟩:=p r;exact⟨s,fun X=>by simp only[B,pR,aY,w]⟩
    |_=>simp[bL]at I
 |_=>simp[bL]at I
def aDj {G:kK→kB kA}{h:H}{o:Oper}{w:kB kA}{j:H}(k:bL P o=some .makes)(a:aop P C G h o aY=some (w,j)):
 ∃b,b.owned=true∧j=h.push b∧(w=some (.pointer (some ⟨h.next,0,none⟩))∨(∃l c,w=some (.slice (some ⟨h.next,0,none⟩) l c))∨w=some (.map (some h.next)))∧
  ∀X:H,X.next=h.next→aop P C G X o aY=some (w,X.push b):=by
 obtain⟨Q,V,O,W,y,B⟩:=o
 cases V with
 |alloc t=>
  simp only[aop]at a⊢;split at a
  ·rename_i z n N J;obtain⟨⟨v,D⟩,f,a⟩:=bind_some a;simp only[aY,kP,kW]at a;obtain⟨rfl,rfl⟩:=a;unfold A.box at f;split at f
   ·rename_i Y q;obtain⟨u,f⟩:=aB f;simp only[kP,kW]at f;obtain⟨rfl,rfl⟩:=f;exact⟨_,rfl,rfl,.inl rfl,fun X i=>by simp only[A.box,q,u,sV,pR,aY,i]⟩
   ·simp at f
  ·simp at a
 |box t x=>
  simp only[aop]at a⊢;split at a
  ·rename_i n v J hx;obtain⟨⟨v,D⟩,f,a⟩:=bind_some a;simp only[aY,kP,kW]at a;obtain⟨rfl,rfl⟩:=a;unfold A.box at f;split at f
   ·rename_i Y q;obtain⟨u,f⟩:=aB f;simp only[kP,kW]at f;obtain⟨rfl,rfl⟩:=f;exact⟨_,rfl,rfl,.inl rfl,fun X i=>by simp only[A.box,q,u,sV,pR,aY,i]⟩
   ·simp at f
  ·simp at a
 |buildSlice t U ps=>
  simp only[aop]at a⊢;split at a
  ·simp at a
  ·rename_i e R;split at a
   ·rename_i n z J N;split at a
    ·rename_i Z l K S;obtain⟨u,a⟩:=aB a;obtain⟨⟨v,D⟩,f,a⟩:=bind_some a;simp only[aY,kP,kW]at a;obtain⟨rfl,rfl⟩:=a;unfold A.zC at f;obtain⟨cs,I,f⟩:=sZ.1 f;simp only[kW]at f;obtain⟨rfl,rfl⟩:=f;exact⟨_,rfl,rfl,.inr (.inl ⟨_,_,rfl⟩),fun X i=>by simp only[u,sV,A.zC,I,mA,pR,aY,i]⟩
    ·simp at a
   ·simp at a
 |makeSlice t l c=>
  simp only[aop]at a⊢;split at a
  ·rename_i e vl vc R S u;split at a
   ·rename_i n bs z J f N;split at a
    ·rename_i Z K;obtain⟨m,a⟩:=aB a;obtain⟨⟨v,D⟩,p,a⟩:=bind_some a;simp only[aY,kP,kW]at a;obtain⟨rfl,rfl⟩:=a;unfold A.zP at p;split at p
     ·obtain⟨E,p⟩:=aB p;simp only[kP,kW]at p;obtain⟨rfl,rfl⟩:=p;exact⟨_,rfl,rfl,.inr (.inl ⟨_,_,rfl⟩),fun X i=>by simp only[m,sV,A.zP,E,pR,aY,i]⟩
     ·simp at p
    ·simp at a
   ·simp at a
  ·simp at a
 |makeMap t L=>
  cases L with
  |none=>
   simp only[aop,A.zL,pR,aY,kP,kW]at a;obtain⟨rfl,rfl⟩:=a;exact⟨_,rfl,rfl,.inr (.inr rfl),fun X i=>by simp only[aop,A.zL,pR,aY,i]⟩
  |some r=>simp[aop]at a
 |slice t x lo hi mx=>simp only[bL]at k;split at k<;>simp at k
 |call c=>
  obtain⟨g,M,s⟩:=c
  cases g with
  |builtin b=>cases b<;>simp[bL]at k<;>split at k<;>simp at k
  |_=>simp[bL]at k
 |convert t d x=>simp only[bL]at k;split at k<;>simp at k
 |_=>simp[bL]at k
def iG {X h:H}(_:LEh X h){f r:T kA}(a:∀t,f.get t=r.get t){x:kK}{v:kA}(b:aH NG f X x=some v):aH NG r h x=some v:=by
 cases x with
 |tmp t=>simp only[aH]at b⊢;rw[←a];exact b
 |const v=>exact b
 |global g=>exact b
 |func d=>exact b
def aAx {X j:H}(hle:LEh X j){f r:T kA}(a:∀t,f.get t=r.get t):∀{xs:kC kK} {vs:kC kA},eT (aH NG f X) xs=some vs→eT (aH NG r j) xs=some vs
 |[],vs,h=>h
 |x::xs,vs,h=>by
  simp only[eT]at h⊢;split at h
  ·rename_i v c;split at h
   ·rename_i s b;simp only[iG hle a c,aAx hle a b];exact h
   ·simp at h
  ·simp at h
def uT {X h:H}(hle:LEh X h){f r:T kA}(a:∀t,f.get t=r.get t){x:kB kK}{v:kB kA}(b:oY (aH NG f X) x=some v):oY (aH NG r h) x=some v:=by
 cases x with
 |none=>exact b
 |some x=>
  simp only[oY]at b⊢;split at b
  ·rename_i u c;simp only[iG hle a c];exact b
  ·simp at b
def aPe {X h:H}(hle:LEh X h){g:Bool}{n:Nat}{v x:kA}(a:A.load g n v X=some x):A.load g n v h=some x:=by
 cases g with
 |false=>
  simp only[A.load,sW]at a⊢;unfold A.load1 at a⊢;split at a
  ·split at a
   ·rename_i c own b;simp only[hle.2 _ _ b];exact a
   ·simp at a
  ·simp at a
 |true=>
  simp only[A.load,sV]at a⊢;unfold A.loadN at a⊢;split at a
  ·split at a
   ·rename_i c own b;simp only[hle.2 _ _ b];exact a
   ·simp at a
  ·simp at a
def aPo {X h:H}(hle:LEh X h){n id:Nat}(a:A.yH n id X=true):A.yH n id h=true:=by
 unfold A.yH at a⊢;split at a
 ·rename_i c e g;simp only[hle.2 _ _ g];exact a
 ·simp at a
def xD {X h:H}(hle:LEh X h){n:Nat}{v x:kA}{l i f:kB kA}(b:A.zK n v l i f X=some x):A.zK n v l i f h=some x:=by
 unfold A.zK at b⊢
 cases g:(f.isSome&&i.isNone)with
 |true=>rw[g]at b;simp at b
 |false=>
  rw[g]at b;simp only[sW]at b⊢;split at b
  ·split at b
   ·simp at b
   ·rename_i m j;split at b
    ·simp at b
    ·rename_i q o;split at b
     ·simp at b
     ·rename_i p k;obtain⟨d,b⟩:=aB b;have a:∀c id,(Nat.beq (c%2) 1||m.isSome||Nat.beq (p.getD 0) 0||A.yH n id X)=true→(Nat.beq (c%2) 1||m.isSome||Nat.beq (p.getD 0) 0||A.yH n id h)=true:=by
       intro c id e;simp only[tI]at e⊢;rcases e with e|e
       ·exact .inl e
       ·exact .inr (aPo hle e)
      simp only[a _ _ d,sV];exact b
  ·exact b
  ·simp at b
def aGv {X h:H}(hle:LEh X h){z v x c:kA}{J:Bool}(a:A.yA z J v x X=some c):A.yA z J v x h=some c:=by
 unfold A.yA at a⊢;split at a
 ·exact a
 ·split at a
  ·rename_i e b g;simp only[hle.2 _ _ g];exact a
  ·simp at a
 ·simp at a
def oC {D:CF}{o:Oper}(B:bL P o=some .reads){f J:T kA}(j:∀t,f.get t=J.get t){X h:H}(hle:LEh X h){v:kA}
 (i:aop P D (aH NG f X) X o (fun rv _=>rv)=some v) (C:CF):aop P C (aH NG J h) h o aY=some (some v,h):=by
 obtain⟨Y,op,W,a3,L,M⟩:=o
 cases op with
 |load t x=>
  simp only[aop]at i⊢;split at i
  ·rename_i g n p N R hp;obtain⟨u,E,i⟩:=bind_some i;simp only[kP]at i;subst i;rw[N,R,iG hle j hp];simp only[aPe hle E,pR,aY]
  ·simp at i
 |lookup t x k co=>
  simp only[aop]at i⊢;split at i
  ·rename_i kt et xv kv ht U O;simp only[ht,iG hle j U,iG hle j O];split at i
   ·rename_i s z hs hz;obtain⟨u,E,i⟩:=bind_some i;simp only[kP]at i;subst i;obtain⟨Q,E⟩:=aB E;simp only[A.zJ,Q,sV,aGv hle E,pR,aY]
   ·simp at i
  ·simp at i
 |slice t x lo hi mx=>
  simp only[bL]at B;simp only[aop]at i⊢;split at i
  ·rename_i w l q m U Z hq hm;simp only[iG hle j U,uT hle j Z,uT hle j hq,uT hle j hm];split at i
   ·rename_i E;rw[E]at B;simp at B
   ·rename_i e E;split at i
    ·rename_i n R;obtain⟨u,r,i⟩:=bind_some i;simp only[kP]at i;subst i;simp only[xD hle r,pR,aY]
    ·simp at i
   ·rename_i len e E;split at i
    ·rename_i n R;obtain⟨u,r,i⟩:=bind_some i;simp only[kP]at i;subst i;have:A.yM len n w l q m h=some u:=by
      unfold A.yM at r⊢;split at r
      ·exact xD hle r
      ·simp at r
     simp only[this,pR,aY]
    ·simp at i
   ·simp at i
  ·simp at i
 |call c=>
  obtain⟨G,V,y⟩:=c
  cases G with
  |value b3=>simp[bL]at B
  |invoke a b=>simp[bL]at B
  |builtin b=>
   cases b with
   |len=>
    have K:∃k e,(y[0]?).bind P.underlying=some (.map k e):=by
     simp only[bL]at B;split at B
     ·exact⟨_,_,by assumption⟩
     ·simp at B
    obtain⟨k,e,E⟩:=K;simp only[aop]at i⊢;split at i
    ·simp at i
    ·rename_i vs S;simp only[aAx hle j S];split at i
     ·rename_i x _;simp only[E]at i⊢;obtain⟨u,r,i⟩:=bind_some i;simp only[kP]at i;subst i;have:A.lenM x h=some u:=by
       unfold A.lenM at r⊢;split at r
       ·exact r
       ·split at r
        ·rename_i es cl N;simp only[hle.2 _ _ N];exact r
        ·simp at r
       ·simp at r
      simp only[this,pR,aY]
     ·rename_i I;simp at I
     ·rename_i I;simp at I
     ·rename_i I;simp at I
     ·rename_i I;simp at I
     ·obtain⟨u,r,i⟩:=bind_some i;simp[A.zS]at r
   |_=>simp[bL]at B
 |convert t d x=>simp only[bL]at B;split at B<;>simp at B
 |_=>simp[bL]at B
end
section
variable {P:kD}{C:CF}{NG:Nat}
def lK {f r:T kA}(h:∀t,f.get t=r.get t)(X:H):aH NG f X=aH NG r X:=by
  funext x
  cases x with
  |tmp t=>exact h t
  |_=>rfl
def dT (f:T kA)(p:kH Oper)(o:Oper):kB Bool:=
  match o.guard with
  |none=>some true
  |some (j,want)=>
    match(p[j]?).bind (·.dst)with
    |none=>none
    |some d=>match f.get d with
      |some (.bool b)=>some (b==want)
      |some (.tuple _)=>some false
      |_=>none
def Row (P:kD)(C:CF)(NG:Nat)(p:kH Oper)(o:Oper)(f:T kA)(h:H)(r:kB kA)(b:T kA)(a:H):Prop:=
  (∀t,b.get t=if o.dst=some t then r else f.get t)∧
  ((dT f p o=some false∧r=some undef∧a=h)∨(dT f p o=some true∧aop P C (aH NG f h) h o aY=some (r,a)))
def aTy (f:T kA)(s:kB Tmp)(v:kB kA)(t:Tmp):(cS f s v).get t=if s=some t then v else f.get t:=by
  cases s with
  |none=>simp[cS]
  |some d=>
    simp only[cS,T.get_set];by_cases h:t=d
    ·subst h;simp
    ·rw[kL h,kL (by simpa using fun e=>h e.symm)]
def jK {f:T kA}{d:Tmp}{v:kA}(h:f.get d=some v)(t:Tmp):(f.set d (some v)).get t=f.get t:=by
  rw[T.get_set];split
  ·rename_i e;subst e;exact h.symm
  ·rfl
def upd {Y:Type}(F:Nat→Y)(k:Nat)(x:Y):Nat→Y:=fun i=>if i=k then x else F i
def gD {Y:Type}(F:Nat→Y)(k:Nat)(x:Y):upd F k x k=x:=by simp[upd]
def aNg {Y:Type}(F:Nat→Y){n i:Nat}(x:Y)(h:i≠n):upd F n x i=F i:=by simp[upd,h]
def Ran (P:kD)(p:kH Oper)(F:Nat→T kA)(i:Nat)(o:Oper)(k:OK):Prop:=
  p[i]?=some o∧dT (F i) p o=some true∧bL P o=some k
def uA (o:kH Oper)(j i:Nat):Prop:=Nat.testBit ((before o).getD j 0) i=true
abbrev tB {Y:Type}(P:kD)(C:CF)(NG:Nat)(a:kH Oper)(K:T kA→H→kB Y)(r:Y)(k:Nat)(l:T kA)(h:H)(s:kC (Nat×H))(m:kC (Nat×Oper×T kA×kA)):Prop:=
    ∃(F:Nat→T kA) (Hh:Nat→H) (c:Nat→kB kA),k≤max k a.size∧F k=l∧Hh k=h∧K (F (max k a.size)) (Hh (max k a.size))=some r∧
      (∀i,k≤i→i<a.size→∃o,a[i]?=some o∧Row P C NG a o (F i) (Hh i) (c i) (F (i+1)) (Hh (i+1)))∧
      (∀i o v,k≤i→Ran P a F i o .reads→c i=some v→∀p d,(p,d)∈s→uA a i p∨bV P NG o (F i) d v=true)∧
      (∀p o,k≤p→Ran P a F p o .effect→∀j e f g,(j,e,f,g)∈m→uA a p j∨bV P NG e f (Hh (p+1)) g=true)∧
      (∀p i o b v,k≤p→p<i→Ran P a F p o .effect→Ran P a F i b .reads→c i=some v→uA a i p∨bV P NG b (F i) (Hh p) v=true)∧
      (∀i p o b v,k≤i→i<p→Ran P a F p o .effect→Ran P a F i b .reads→c i=some v→uA a p i∨bV P NG b (F i) (Hh (p+1)) v=true)∧
      (∀i o,k≤i→Ran P a F i o .reads→∃v,c i=some v)
def aAn {Y:Type}{O:kH Oper}{K:T kA→H→kB Y}{r:Y}:∀(l:kC Oper) (k:Nat) (g:T kA) (h:H) (S:kC (Nat×H)) (U:kC (Nat×Oper×T kA×kA)),
    O.toList.drop k=l→runD P C NG O (before O) k l g h S U K=some r→
    tB P C NG O K r k g h S U:=by
  intro l
  induction l with
  |nil=>
    intro k g h S U hl Q;have hk:O.size≤k:=by
      have:=sX List.length hl;simp at this;omega
    have b3:∀{F:Nat→T kA} {i:Nat} {o:Oper} {kd:OK},k≤i→Ran P O F i o kd→False:=by
      intro F i o kd E a;have:=(sT.1 a.1).1;omega
    refine⟨fun _=>g,fun _=>h,fun _=>none,by omega,rfl,rfl,Q,fun i J h2=>dC h2 (by omega),?_,?_,?_,?_,?_⟩
    ·intro i o v E a;exact(b3 E a).elim
    ·intro p o L a;exact(b3 L a).elim
    ·intro p i o o' v L _ a;exact(b3 L a).elim
    ·intro i p o o' v E u3 a;exact(b3 (by omega) a).elim
    ·intro i o E a;exact(b3 E a).elim
  |cons o z ih=>
    intro k g h S U hl Q;have h4:k<O.size:=by
      have:=sX List.length hl;simp at this;omega
    have ho:O[k]?=some o:=by
      have:(O.toList.drop k)[0]?=some o:=by rw[hl];rfl
      simpa using this
    have m3:O.toList.drop (k+1)=z:=by
      have:(O.toList.drop k).drop 1=z:=by rw[hl];rfl
      rw[sG]at this;exact this
    have v3:max (k+1) O.size=max k O.size:=by omega
    have Z:∀{f D:T kA},(∀t,f.get t=D.get t)→∀(o:Oper) (X:H) (v:kA),bV P NG o f X v=bV P NG o D X v:=by
      intro f D he o X v;unfold bV;rw[lK he]
    have I:∀(f:T kA) (u:kB kA) (J:H) (i3:kC (Nat×H)) (j3:kC (Nat×Oper×T kA×kA)),(∀t,f.get t=g.get t)→
        runD P C NG O (before O) (k+1) z (cS f o.dst u) J i3 j3 K=some r→
        ((dT g O o=some false∧u=some undef∧J=h)∨(dT g O o=some true∧aop P C (aH NG g h) h o aY=some (u,J)))→
        (∀p L,(p,L)∈S→(p,L)∈i3)→(∀j oj w vj,(j,oj,w,vj)∈U→(j,oj,w,vj)∈j3)→
        (dT g O o=some true→bL P o=some .effect→(k,h)∈i3∧∀j oj w vj,(j,oj,w,vj)∈U→uA O k j∨bV P NG oj w J vj=true)→
        (dT g O o=some true→bL P o=some .reads→∃v D,u=some v∧(∀t,D.get t=g.get t)∧(k,o,D,v)∈j3∧∀p L,(p,L)∈S→uA O k p∨bV P NG o D L v=true)→
        tB P C NG O K r k g h S U:=by
      intro f u J i3 j3 G c z3 b4 e4 k3 l3;obtain⟨F,Hh,rv,_,hF,hH,hK,n3,q1,q2,q3,q4,q5⟩:=ih (k+1) _ _ _ _ m3 c;have fu:∀i,i≠k→upd F k g i=F i:=fun i E=>aNg F g E;have hu:∀i,i≠k→upd Hh k h i=Hh i:=fun i E=>aNg Hh h E;have ru:∀i,i≠k→upd rv k u i=rv i:=fun i E=>aNg rv u E;have n:∀i o kd,i≠k→Ran P O (upd F k g) i o kd→Ran P O F i o kd:=by
        intro i o kd E a;unfold Ran at a⊢;rw[fu i E]at a;exact a
      have N:∀y kd,Ran P O (upd F k g) k y kd→y=o∧dT g O o=some true∧bL P o=some kd:=by
        intro y kd a;unfold Ran at a;rw[gD]at a;have:y=o:=by have:=a.1;rw[ho]at this;simpa using this.symm
        subst this;exact⟨rfl,a.2.1,a.2.2⟩
      refine⟨upd F k g,upd Hh k h,upd rv k u,by omega,gD _ _ _,gD _ _ _,?_,?_,?_,?_,?_,?_,?_⟩
      ·rw[fu _ (by omega),hu _ (by omega),←v3];exact hK
      ·intro i g4 a4;by_cases E:i=k
       ·subst E;refine⟨o,ho,?_⟩;rw[gD,gD,gD,fu _ (by omega),hu _ (by omega),hF,hH];refine⟨fun t=>by rw[aTy,G],z3⟩
       ·obtain⟨y,e1,e2⟩:=n3 i (by omega) a4;exact⟨y,e1,by rw[fu i E,hu i E,ru i E,fu _ (by omega),hu _ (by omega)];exact e2⟩
      ·intro i y v E a R p L m;by_cases q:i=k
       ·subst q;obtain⟨rfl,B,e⟩:=N _ _ a;obtain⟨v',D,e3,a3,_,s3⟩:=l3 B e;rw[gD]at R⊢;rw[e3]at R;simp at R;subst R;rw[Z (fun t=>(a3 t).symm)];exact s3 p L m
       ·rw[fu i q];exact q1 i y v (by omega) (n i y _ q a) (by rw[←ru i q];exact R) p L (b4 p L m)
      ·intro p y L a j oj w vj m;by_cases V:p=k
       ·subst V;obtain⟨rfl,B,e⟩:=N _ _ a;rw[hu _ (by omega),hH];exact(k3 B e).2 j oj w vj m
       ·rw[hu _ (by omega)];exact q2 p y (by omega) (n p y _ V a) j oj w vj (e4 _ _ _ _ m)
      ·intro p i y o3 v L f4 a x R;rw[fu i (by omega)];rw[ru i (by omega)]at R;by_cases V:p=k
       ·subst V;obtain⟨rfl,B,e⟩:=N _ _ a;rw[gD];exact q1 i o3 v (by omega) (n i o3 _ (by omega) x) R _ _ (k3 B e).1
       ·rw[hu p V];exact q3 p i y o3 v (by omega) f4 (n p y _ V a) (n i o3 _ (by omega) x) R
      ·intro i p y o3 v E u3 a x R;rw[hu (p+1) (by omega)];by_cases q:i=k
       ·subst q;obtain⟨rfl,B,e⟩:=N _ _ x;obtain⟨v',D,e3,a3,M,_⟩:=l3 B e;rw[gD]at R⊢;rw[e3]at R;simp at R;subst R;rw[Z (fun t=>(a3 t).symm)];exact q2 p y (by omega) (n p y _ (by omega) a) _ _ _ _ M
       ·rw[fu i q];rw[ru i q]at R;exact q4 i p y o3 v (by omega) u3 (n p y _ (by omega) a) (n i o3 _ q x) R
      ·intro i y E a;by_cases q:i=k
       ·subst q;obtain⟨rfl,B,e⟩:=N _ _ a;obtain⟨v',D,e3,_⟩:=l3 B e;rw[gD];exact⟨v',e3⟩
       ·rw[ru i q];exact q5 i y (by omega) (n i y _ q a)
    have f3:∀(f:T kA),(∀t,f.get t=g.get t)→dT g O o=some false→runD P C NG O (before O) (k+1) z (cS f o.dst (some undef)) h S U K=some r→tB P C NG O K r k g h S U:=
      fun f G B c=>I f (some undef) h S U G c (.inl ⟨B,rfl,rfl⟩) (fun _ _ M=>M) (fun _ _ _ _ M=>M) (fun J=>by rw[B]at J;simp at J) (fun J=>by rw[B]at J;simp at J)
    have p3:∀(f:T kA),(∀t,f.get t=g.get t)→dT g O o=some true→
        (match bL P o with
        |some .effect=>aop P C (aH NG f h) h o<|bN P o fun rv h'=>
          bif U.all (fun(j,oj,w,vj)=>Nat.testBit ((before O).getD k 0) j||bV P NG oj w h' vj)then
            runD P C NG O (before O) (k+1) z (cS f o.dst rv) h' ((k,h)::S) U K else none
        |some .reads=>aop P C (aH NG f h) h o<|bN P o fun rv h'=>
          (match rv with
           |some v=>bif S.all (fun(p,L)=>Nat.testBit ((before O).getD k 0) p||bV P NG o f L v)then
              runD P C NG O (before O) (k+1) z (cS f o.dst rv) h' S ((k,o,f,v)::U) K else none
           |none=>none)
        |some _=>aop P C (aH NG f h) h o<|bN P o fun rv h'=>runD P C NG O (before O) (k+1) z (cS f o.dst rv) h' S U K
        |none=>none)=some r→tB P C NG O K r k g h S U:=by
      intro f G B c;have d4:aH NG f h=aH NG g h:=lK G h;rw[d4]at c;split at c
      ·rename_i e;rw[eH]at c;obtain⟨⟨u,J⟩,d3,c⟩:=bind_some c;replace c:=eM c;obtain⟨W,c⟩:=aB c;refine I f u J _ _ G c (.inr ⟨B,d3⟩) (fun _ _ M=>mL _ M) (fun _ _ _ _ M=>M) (fun _ _=>⟨by simp,fun j oj w vj m=>?_⟩) (fun _ s=>by rw[e]at s;simp at s);have:=mB.1 W _ m;simpa[tI,uA]using this
      ·rename_i e;rw[eH]at c;obtain⟨⟨u,J⟩,d3,c⟩:=bind_some c;replace c:=eM c;simp only at c;split at c
       ·rename_i v;obtain⟨W,c⟩:=aB c;refine I f _ J _ _ G c (.inr ⟨B,d3⟩) (fun _ _ M=>M) (fun _ _ _ _ M=>mL _ M) (fun _ s=>by rw[e]at s;simp at s) (fun _ _=>⟨v,f,rfl,G,by simp,fun p L m=>?_⟩);have:=mB.1 W _ m;simpa[tI,uA]using this
       ·simp at c
      ·rename_i kd x3 y3 e;rw[eH]at c;obtain⟨⟨u,J⟩,d3,c⟩:=bind_some c;replace c:=eM c;exact I f u J _ _ G c (.inr ⟨B,d3⟩) (fun _ _ M=>M) (fun _ _ _ _ M=>M) (fun _ s=>by rw[e]at s;simp at s;exact dC s x3) (fun _ s=>by rw[e]at s;simp at s;exact dC s y3)
      ·simp at c
    simp only[runD]at Q;split at Q
    ·rename_i hg;exact p3 g (fun _=>rfl) (by simp[dT,hg]) Q
    ·rename_i j g3 hg;split at Q
     ·simp at Q
     ·rename_i d t3;split at Q
      ·rename_i b hb;have B:dT g O o=some (b==g3):=by simp only[dT,hg,t3,hb]
       cases b with
       |true=>
         simp only[sV]at Q
         cases g3 with
         |true=>exact p3 _ (jK hb) (B.trans rfl) Q
         |false=>exact f3 _ (jK hb) (B.trans rfl) Q
       |false=>
         simp only[sW]at Q
         cases g3 with
         |true=>exact f3 _ (jK hb) (B.trans rfl) Q
         |false=>exact p3 _ (jK hb) (B.trans rfl) Q
      ·rename_i vs hb;exact f3 g (fun _=>rfl) (by simp only[dT,hg,t3,hb]) Q
      ·simp at Q
end
section
variable {P:kD}{NG:Nat}
def fX (a:kH Nat)(o:Oper):kH Nat:=
 a.push (o.after.foldl (fun s e=>if Region.binds .any e then s|||2^e.on|||a.getD e.on 0 else s) 0)
def aDo (a:kH Nat)(i:Nat):∀(b:kC Edge) (s:Nat),Nat.testBit (b.foldl (fun s e=>if Region.binds .any e then s|||2^e.on|||a.getD e.on 0 else s) s) i=true→
 Nat.testBit s i=true∨∃e∈b,Region.binds .any e=true∧(e.on=i∨Nat.testBit (a.getD e.on 0) i=true)
 |[],s,h=>.inl h
 |e::b,s,h=>by
  rw[dN]at h;rcases aDo a i b _ h with h|⟨f,d,c,x⟩
  ·split at h
   ·rename_i c;rw[Nat.testBit_or,Nat.testBit_or]at h;simp only[tI,Nat.testBit_two_pow,pW]at h;rcases h with(h|h)|h
    ·exact .inl h
    ·exact .inr ⟨e,by simp,c,.inl h⟩
    ·exact .inr ⟨e,by simp,c,.inr h⟩
   ·exact .inl h
  ·exact .inr ⟨f,by simp[d],c,x⟩
def vF:∀(l:kC Oper) (a:kH Nat),(l.foldl fX a).size=a.size+l.length∧(∀j,j<a.size→(l.foldl fX a).getD j 0=a.getD j 0)∧
 ∀j o,l[j]?=some o→∀i,Nat.testBit ((l.foldl fX a).getD (a.size+j) 0) i=true→
  ∃e∈o.after.toList,Region.binds .any e=true∧(e.on=i∨(e.on<a.size+j∧Nat.testBit ((l.foldl fX a).getD e.on 0) i=true))
 |[],a=>⟨by simp,fun _ _=>rfl,fun j o h=>by simp at h⟩
 |o::l,a=>by
  obtain⟨q,d,h3⟩:=vF l (fX a o);have n:(fX a o).size=a.size+1:=by simp[fX]
  have b:∀j,j<a.size→(fX a o).getD j 0=a.getD j 0:=by
   intro j p;simp only[fX,pT,Array.getElem?_push];rw[kL (by omega)]
  refine⟨by rw[dN,q,n,kY];omega,fun j p=>?_,fun j t m i c=>?_⟩
  ·rw[dN,d j (by omega),b j p]
  ·rw[dN]at c⊢
   cases j with
   |zero=>
    simp only[pM,kP]at m;subst m;rw[sS,d _ (by omega)]at c;have v:(fX a o).getD a.size 0=o.after.foldl (fun s e=>if Region.binds .any e then s|||2^e.on|||a.getD e.on 0 else s) 0:=by
     simp[fX]
    rw[v,←Array.foldl_toList]at c;rcases aDo a i _ _ c with c|⟨e,r,f,x⟩
    ·simp at c
    ·refine⟨e,r,f,?_⟩;rcases x with x|x
     ·exact .inl x
     ·have k:e.on<a.size:=by
       rcases mJ e.on a.size with g|g
       ·exact g
       ·simp[pT,Array.getElem?_eq_none g]at x
      exact .inr ⟨by omega,by rw[d _ (by omega),b _ k];exact x⟩
   |succ j=>
    have:=h3 j t (by simpa using m) i (by rw[n,show a.size+1+j=a.size+(j+1) by omega];exact c);rw[n,show a.size+1+j=a.size+(j+1) by omega]at this;exact this
def aDg {O:kH Oper}{n i:Nat}(h:uA O n i):∃o,O[n]?=some o∧∃e∈o.after.toList,Region.binds .any e=true∧(e.on=i∨(e.on<n∧uA O e.on i)):=by
 unfold uA before at h;have d:Region.before O=O.toList.foldl fX #[]:=by
  unfold Region.before;rw[←Array.foldl_toList];rfl
 have g:∀k,(Region.before O).toList.getD k 0=(O.toList.foldl fX #[]).getD k 0:=by
  intro k;rw[d];simp[List.getD_eq_getElem?_getD]
 obtain⟨f,_,h3⟩:=vF O.toList #[];rw[g]at h;have l:n<O.size:=by
  rcases mJ n O.size with a|a
  ·exact a
  ·rw[pT,Array.getElem?_eq_none (by rw[f];simpa using a)]at h;simp at h
 have p:O.toList[n]?=some O[n]:=by simp[l]
 have:=h3 n O[n] p i (by simpa using h);obtain⟨e,m,j,x⟩:=this;refine⟨O[n],by simp[l],e,m,j,?_⟩;rcases x with x|⟨b,c⟩
 ·exact .inl x
 ·refine .inr ⟨by simpa using b,?_⟩;unfold uA before;rw[g];exact c
structure bW (P:kD)(ops:kH Oper):Prop where
 kind:∀(i:Nat) (o:Oper),ops[i]?=some o→∃k,bL P o=some k
 edge:∀(i:Nat) (o:Oper),ops[i]?=some o→∀e∈o.after.toList,Region.binds .any e=true→e.on<i
 guard:∀(i:Nat) (o:Oper) (j:Nat) (want:Bool),ops[i]?=some o→o.guard=some (j,want)→j<i∧uA ops i j
 chain:∀(i j:Nat) (oi oj:Oper),ops[i]?=some oi→ops[j]?=some oj→i<j→bL P oi=some .effect→bL P oj=some .effect→uA ops j i
 regs:∀(i j:Nat) (oi oj:Oper) (d:Tmp),ops[i]?=some oi→ops[j]?=some oj→oi.dst=some d→i≠j→(d∈uB oj ops∨oj.dst=some d)→uA ops (max i j) (min i j)
def aAz {O:kH Oper}(h:lR P O (before O)=true):bW P O:=by
 simp only[lR,pA]at h;obtain⟨⟨s,t⟩,h3⟩:=h;have m:∀{i:Nat} {o:Oper},O[i]?=some o→(o,i)∈O.toList.zipIdx:=by
  intro i o b;rw[List.mem_zipIdx_iff_getElem?];simpa using b
 have k:=fun(i:Nat) (o:Oper) (b:O[i]?=some o)=>mB.1 s _ (m b);refine⟨?_,?_,?_,?_,?_⟩
 ·intro i o b;have:=k i o b;simp only[pA]at this;exact Option.isSome_iff_exists.1 this.1.1
 ·intro i o b e v g;have:=k i o b;simp only[pA]at this;have:=mB.1 this.1.2 e v;simp only[g,sO,Bool.or_false]at this;exact blt_iff.1 this
 ·intro i o j w b x;have:=k i o b;simp only[pA,x]at this;exact⟨blt_iff.1 this.2.1,this.2.2⟩
 ·intro i j z r c f p l n;have:=mB.1 (mB.1 t _ (m c)) _ (m f);simp only[l,n,beq_self_eq_true,mF,blt_iff.2 p,sO,mZ]at this;exact this
 ·intro i j z r d c f u q a;unfold aVd at h3;have:=mB.1 h3 _ (m c);simp only[u]at this;have:=mB.1 this _ (m f);have g:Nat.beq i j=false:=by
   cases g:Nat.beq i j with
   |false=>rfl
   |true=>exact dC (beq_iff.1 g) q
  have y:((uB r O).any (Nat.beq d)||aYu r d)=true:=by
   rcases a with a|a
   ·simp only[tI];left;exact rP.2 ⟨d,a,by simp⟩
   ·simp[aYu,a]
  simp only[g,y,sO,mZ]at this;exact this
def xZ (o:kH Oper)(i:Nat):kB Tmp:=(o[i]?).bind (·.dst)
def env (o:kH Oper)(f0:T kA)(rv:Nat→kB kA)(D:Nat→Bool):Nat→Tmp→kB kA
 |0,t=>f0.get t
 |i+1,t=>if D i=true∧xZ o i=some t then rv i else env o f0 rv D i t
def nB {O:kH Oper}{f0:T kA}{rv:Nat→kB kA}{D D':Nat→Bool}(t:Tmp):∀(m:Nat),(∀i,i<m→xZ O i=some t→D i=D' i)→env O f0 rv D m t=env O f0 rv D' m t
 |0,_=>rfl
 |m+1,h=>by
  simp only[env];have a:=nB (f0:=f0) (rv:=rv) (D:=D) (D':=D') t m (fun i b=>h i (by omega));by_cases d:xZ O m=some t
  ·rw[h m (by omega) d,a]
  ·rw[kL (fun e=>d e.2),kL (fun e=>d e.2),a]
def vU {O:kH Oper}{f:T kA}{r:Nat→kB kA}{D:Nat→Bool}(t:Tmp)(j:Nat):∀(m:Nat),j≤m→(∀i,j≤i→i<m→xZ O i=some t→D i=false)→env O f r D m t=env O f r D j t
 |0,hj,_=>by rw[show j=0 by omega]
 |m+1,hj,h=>by
  by_cases e:j=m+1
  ·rw[e]
  ·simp only[env];rw[kL (fun a=>by rw[h m (by omega) (by omega) a.2]at a;simp at a)];exact vU t j m (by omega) (fun i b c=>h i b (by omega))
end
section
variable {P:kD}{NG nt:Nat}{C:CF}
def iS {ρ ρ':kK→kB kA}:∀{xs:kC kK},(∀x∈xs,ρ x=ρ' x)→eT ρ xs=eT ρ' xs
 |[],_=>rfl
 |x::xs,h=>by
  simp only[eT];rw[h x (by simp),iS fun y a=>h y (by simp[a])]
def qO {ρ ρ':kK→kB kA}{x:kB kK}(h:∀y∈x.toArray,ρ y=ρ' y):oY ρ x=oY ρ' x:=by
 cases x with
 |none=>rfl
 |some x=>simp only[oY];rw[h x (by simp)]
def nT {ρ ρ':kK→kB kA}(place:Nat→kB (Nat×Nat)):∀{ps:kC (Nat×kK)},(∀x∈ps.map (·.2),ρ x=ρ' x)→lP ρ place ps=lP ρ' place ps
 |[],_=>rfl
 |(i,x)::r,h=>by
  simp only[lP];rw[h x (by simp),nT place fun y a=>h y (by simp at a⊢;exact .inr a)]
def sJ {Y:Type}{ρ ρ':kK→kB kA}(h:H)(o:Oper)(K:kB kA→H→kB Y)(e:∀x∈o.op.operands,ρ x=ρ' x):
 aop P C ρ h o K=aop P C ρ' h o K:=by
 obtain⟨G,z,E,N,u,v⟩:=o
 cases z with
 |build t B=>simp only[Op.operands]at e;simp only[aop];rw[nT _ (fun x g=>e x (by simpa using g))]
 |buildSlice t n B=>
  simp only[Op.operands]at e;have w:=fun M=>nT (ρ:=ρ) (ρ':=ρ') M (ps:=B.toList) (fun x g=>e x (by simpa using g));simp only[aop,w]
 |makeFunc f a b=>
  simp only[Op.operands]at e;cases f<;>simp only[aop]
  rw[iS (xs:=a.toList) (fun x g=>e x (by simp at g⊢;exact .inl g)),iS (xs:=b.toList) (fun x g=>e x (by simp at g⊢;exact .inr g))]
 |slice t x J I L=>
  simp only[Op.operands]at e;simp only[aop];rw[e x (by simp),qO (x:=J) (fun y p=>e y (by simp at p⊢;simp[p])),qO (x:=I) (fun y p=>e y (by simp at p⊢;simp[p])),qO (x:=L) (fun y p=>e y (by simp at p⊢;simp[p]))]
 |call c=>
  obtain⟨j,m,q⟩:=c;simp only[Op.operands,Call.operands]at e;have D:eT ρ m.toList=eT ρ' m.toList:=iS (fun x g=>e x (by simp at g⊢;exact .inr g))
  cases j with
  |value f=>simp only[aop];rw[e f (by simp),D]
  |builtin b=>simp only[aop];rw[D]
  |invoke a b=>rfl
 |pick c a b=>simp only[Op.operands]at e;simp only[aop];rw[e c (by simp),e a (by simp),e b (by simp)]
 |move x=>simp only[Op.operands]at e;simp only[aop];rw[e x (by simp)]
 |assign x=>simp only[Op.operands]at e;simp only[aop];rw[e x (by simp)]
 |box t x=>simp only[Op.operands]at e;simp only[aop];rw[e x (by simp)]
 |load t x=>simp only[Op.operands]at e;simp only[aop];rw[e x (by simp)]
 |store t x y=>simp only[Op.operands]at e;simp only[aop];rw[e x (by simp),e y (by simp)]
 |nilCheck x=>simp only[Op.operands]at e;simp only[aop];rw[e x (by simp)]
 |binOp z t x y Q=>simp only[Op.operands]at e;simp only[aop];rw[e x (by simp),e y (by simp)]
 |unOp z t x=>simp only[Op.operands]at e;simp only[aop];rw[e x (by simp)]
 |convert s d x=>simp only[Op.operands]at e;simp only[aop];rw[e x (by simp)]
 |makeSlice t l c=>simp only[Op.operands]at e;simp only[aop];rw[e l (by simp),e c (by simp)]
 |fieldAddr t x i=>simp only[Op.operands]at e;simp only[aop];rw[e x (by simp)]
 |field t x i=>simp only[Op.operands]at e;simp only[aop];rw[e x (by simp)]
 |indexAddr t x i=>simp only[Op.operands]at e;simp only[aop];rw[e x (by simp),e i (by simp)]
 |index t x i=>simp only[Op.operands]at e;simp only[aop];rw[e x (by simp),e i (by simp)]
 |extract x i=>simp only[Op.operands]at e;simp only[aop];rw[e x (by simp)]
 |makeMap t r=>cases r<;>rfl
 |lookup t x k O=>simp only[Op.operands]at e;simp only[aop];rw[e x (by simp),e k (by simp)]
 |mapUpdate t x k y=>simp only[Op.operands]at e;simp only[aop];rw[e x (by simp),e k (by simp),e y (by simp)]
 |range t x=>simp only[Op.operands]at e;simp only[aop];rw[e x (by simp)]
 |next x s=>simp only[Op.operands]at e;simp only[aop];rw[e x (by simp)]
 |entry x=>simp only[Op.operands]at e;simp only[aop];rw[e x (by simp)]
 |_=>rfl
structure Trace (P:kD)(C:CF)(NG:Nat)(ops:kH Oper)(F:Nat→T kA)(Hh:Nat→H)(rv:Nat→kB kA):Prop where
 row:∀i,i<ops.size→∃o,ops[i]?=some o∧Row P C NG ops o (F i) (Hh i) (rv i) (F (i+1)) (Hh (i+1))
 c1:∀p i o o' v,p<i→Ran P ops F p o .effect→Ran P ops F i o' .reads→rv i=some v→uA ops i p∨bV P NG o' (F i) (Hh p) v=true
 c2:∀i p o o' v,i<p→Ran P ops F p o .effect→Ran P ops F i o' .reads→rv i=some v→uA ops p i∨bV P NG o' (F i) (Hh (p+1)) v=true
 c5:∀i o,Ran P ops F i o .reads→∃v,rv i=some v
section
variable {ops:kH Oper}{F:Nat→T kA}{Hh:Nat→H}{rv:Nat→kB kA}
def Eff (P:kD)(ops:kH Oper)(F:Nat→T kA)(i:Nat):Prop:=∃o,Ran P ops F i o .effect
def Mk (P:kD)(ops:kH Oper)(F:Nat→T kA)(Hh:Nat→H)(i:Nat)(b:Blk):Prop:=
 (∃o,Ran P ops F i o .makes)∧b.owned=true∧Hh (i+1)=(Hh i).push b
def Ran.lt {i:Nat}{o:Oper}{k:OK}(h:Ran P ops F i o k):i<ops.size:=(sT.1 h.1).1
def aTx {o:Oper}(k:bL P o=some .reads){f:T kA}{X:H}{v:kA}{h:H}(a:aop P C (aH NG f X) X o aY=some (some v,h)):h=X:=by
 have e:aop P C (aH NG f X) X o (fun rv _=>rv)=some v:=by rw[eH,a];rfl
 have:=oC k (fun _=>rfl) ⟨kQ _,fun _ _ a=>a⟩ e C;rw[this]at a;simp only[kP,kW,true_and]at a;exact a.symm
def Trace.quiet (t:Trace P C NG ops F Hh rv)(D:bW P ops){i:Nat}(f:i<ops.size)(e:¬Eff P ops F i):Hh (i+1)=Hh i∨∃b,Mk P ops F Hh i b:=by
 obtain⟨o,c,_,h⟩:=t.row i f;rcases h with⟨_,_,h⟩|⟨hw,h⟩
 ·exact .inl h
 ·obtain⟨k,a⟩:=D.kind i o c
  cases k with
  |effect=>exact dC ⟨o,c,hw,a⟩ e
  |pure=>exact .inl (aIr a h).1
  |reads=>
   obtain⟨v,g⟩:=t.c5 i o ⟨c,hw,a⟩;rw[g]at h;exact .inl (aTx a h)
  |makes=>
   obtain⟨b,d,e,_⟩:=aDj a h;exact .inr ⟨b,⟨o,c,hw,a⟩,d,e⟩
def Trace.next_succ (z:aL P=true)(a:aO P NG C)(t:Trace P C NG ops F Hh rv){i:Nat}(b:i<ops.size):(Hh i).next≤(Hh (i+1)).next:=by
 obtain⟨o,d,_,h⟩:=t.row i b;rcases h with⟨_,_,h⟩|⟨hw,h⟩
 ·rw[h];exact kQ _
 ·obtain⟨r,c,k,s⟩:=gN z a h;simp only[aY,kP,kW]at k;obtain⟨rfl,rfl⟩:=k;exact s.1
def Trace.next_mono (z:aL P=true)(a:aO P NG C)(t:Trace P C NG ops F Hh rv):∀{i j:Nat},i≤j→j≤ops.size→(Hh i).next≤(Hh j).next:=by
 intro i j h
 induction h with
 |refl=>intro _;exact kQ _
 |step _ b=>intro c;exact kR (b (by omega)) (t.next_succ z a (by omega))
def Wf (h:H):Prop:=∀id b,h.get id=some b→id<h.next
def Trace.between (u:Trace P C NG ops F Hh rv)(D:bW P ops){q:Nat}(w:Wf (Hh q)):∀(d:Nat),q+d≤ops.size→(∀i,q≤i→i<q+d→¬Eff P ops F i)→
 Wf (Hh (q+d))∧LEh (Hh q) (Hh (q+d))∧(∀i b,q≤i→i<q+d→Mk P ops F Hh i b→(Hh (q+d)).get (Hh i).next=some b)∧
 ∀id b,(Hh (q+d)).get id=some b→(Hh q).get id=some b∨∃i,q≤i∧i<q+d∧Mk P ops F Hh i b∧id=(Hh i).next:=by
 intro d
 induction d with
 |zero=>intro _ _;exact⟨w,⟨kQ _,fun _ _ h=>h⟩,fun i b a c=>dC c (by omega),fun id b h=>.inl h⟩
 |succ d t=>
  intro hle n;obtain⟨w1,l,s,r⟩:=t (by omega) (fun i a c=>n i a (by omega));rcases u.quiet D (i:=q+d) (by omega) (n _ (by omega) (by omega))with g|⟨b0,m⟩
  ·rw[show q+(d+1)=q+d+1 by omega,g];refine⟨w1,l,fun i b a c m=>?_,fun id b h=>?_⟩
   ·by_cases k:i=q+d
    ·subst k;have:=sX H.next m.2.2;rw[g]at this;simp at this
    ·exact s i b a (by omega) m
   ·rcases r id b h with h|⟨i,a,c,h3⟩
    ·exact .inl h
    ·exact .inr ⟨i,a,by omega,h3⟩
  ·have g:=m.2.2;rw[show q+(d+1)=q+d+1 by omega,g];refine⟨fun id b h=>?_,⟨by simp;have:=l.1;omega,fun id b h=>?_⟩,fun i b a c j=>?_,fun id b h=>?_⟩
   ·rw[H.get_push]at h;split at h
    ·rename_i e;subst e;simp
    ·have:=w1 id b h;simp;omega
   ·rw[H.get_push];have f:=l.2 id b h;rw[kL (fun e=>by have:=w1 id b f;omega)];exact f
   ·rw[H.get_push];by_cases k:i=q+d
    ·subst k;rw[kM rfl];have o:=j.2.2;rw[g]at o;have p:((Hh (q+d)).push b0).get (Hh (q+d)).next=((Hh (q+d)).push b).get (Hh (q+d)).next:=by rw[o]
     rw[H.get_push,H.get_push,kM rfl,kM rfl]at p;exact p
    ·have f:=s i b a (by omega) j;rw[kL (fun e=>by have:=w1 _ b f;omega)];exact f
   ·rw[H.get_push]at h;split at h
    ·rename_i e;simp only[kP]at h;subst h;exact .inr ⟨q+d,by omega,by omega,m,e⟩
    ·rcases r id b h with h|⟨i,a,c,h3⟩
     ·exact .inl h
     ·exact .inr ⟨i,a,by omega,h3⟩
end
end
section
variable {P:kD}{NG nt:Nat}{C:CF}{ops:kH Oper}{F:Nat→T kA}{Hh:Nat→H}{rv:Nat→kB kA}
def aEl (NG:Nat)(g:Tmp→kB kA):kK→kB kA
 | .tmp t=>g t
 |x=>aH NG .nil ⟨.nil,0⟩ x
structure Inv (P:kD)(NG nt:Nat)(ops:kH Oper)(F:Nat→T kA)(Hh:Nat→H)(rv:Nat→kB kA)(μ0:Mu)(a0:Act)(w0:kE)
 (D:Nat→Bool) (a:Act) (w:kE) (μ:Mu) (p:Nat):Prop where
 closed:∀(j:Nat) (o:Oper),D j=true→ops[j]?=some o→∀e∈o.after.toList,Region.binds .any e=true→D e.on=true
 dlt:∀j,D j=true→j<ops.size
 pn:p≤ops.size
 pE:∀i,i<p→Eff P ops F i→D i=true
 pNext:p=ops.size∨(Eff P ops F p∧D p=false)
 wfs:∀i,i≤p→Wf (Hh i)
 rh:RH NG μ (Hh p) w
 sz:nt≤a.tmps.size
 regs:∀(t:Tmp) (v:kA),env ops (F 0) rv D ops.size t=some v→t<nt∧VR μ v (a.tmps.getD t undef)
 dfr:a.defers=a0.defers
 mk1:∀i b,Mk P ops F Hh i b→D i=true→∃l,μ (Hh i).next=some l∧w0.heap.size≤l.blk∧(p≤i→BR μ b l w∧
  (∀id' b' l',(Hh p).get id'=some b'→μ id'=some l'→l'.blk≠l.blk)∧
  (∀i' b',i'≠i→Mk P ops F Hh i' b'→D i'=true→p≤i'→∀l',μ (Hh i').next=some l'→l'.blk≠l.blk))
 mk2:∀i b,Mk P ops F Hh i b→D i=false→μ (Hh i).next=none∧(i<p→(Hh p).get (Hh i).next=some b)
 fresh:∀id,(Hh p).next≤id→id<(Hh ops.size).next→(∀i b,Mk P ops F Hh i b→D i=true→id≠(Hh i).next)→μ id=none
 le0:μ0.le μ
 old0:∀id,id<(Hh 0).next→μ id=μ0 id
 out0:∀id,(Hh ops.size).next≤id→μ id=μ0 id
 size0:w0.heap.size≤w.heap.size
 os0:w.os=w0.os
 tape0:w.tape=w0.tape
 output0:w.output=w0.output
 frame0:∀b,b<w0.heap.size→(∀id k l,(Hh 0).get id=some k→k.owned=true→μ0 id=some l→l.blk≠b)→w.heap[b]?=w0.heap[b]?
 src0:∀id k l,(Hh p).get id=some k→k.owned=true→μ id=some l→w0.heap.size≤l.blk∨∃id0 k0 l0,(Hh 0).get id0=some k0∧k0.owned=true∧μ0 id0=some l0∧l0.blk=l.blk
 unm0:∀id k,(Hh 0).get id=some k→μ0 id=none→(Hh p).get id=some k
 dead0:∀id,id<(Hh 0).next→(Hh 0).get id=none→(Hh p).get id=none
 ro0:∀id k,(Hh p).get id=some k→k.owned=false→(Hh 0).get id=some k
def add (D:Nat→Bool)(j:Nat):Nat→Bool:=fun i=>if i=j then true else D i
def vX (D:Nat→Bool)(j:Nat):add D j j=true:=by simp[add]
def fP (D:Nat→Bool){n i:Nat}(h:n≠i):add D i n=D n:=by simp[add,h]
def rR (D:Nat→Bool)(j:Nat){n:Nat}(h:D n=true):add D j n=true:=by
 unfold add;split
 ·rfl
 ·exact h
def iT {D:Nat→Bool}(c:∀(j:Nat) (o:Oper),D j=true→ops[j]?=some o→∀e∈o.after.toList,Region.binds .any e=true→D e.on=true):
 ∀(j i:Nat),D j=true→uA ops j i→D i=true:=by
 intro j
 induction j using Nat.strongRecOn with
 |_ j g=>
  intro i a p;obtain⟨o,f,e,d,b,x⟩:=aDg p;have h:=c j o a f e d b;rcases x with x|⟨l,x⟩
  ·rw[←x];exact h
  ·exact g e.on l i h x
def oB {D:Nat→Bool}(c:∀(n:Nat) (o:Oper),D n=true→ops[n]?=some o→∀e∈o.after.toList,Region.binds .any e=true→D e.on=true)
 {n:Nat} {o:Oper} (f:ops[n]?=some o) (r:∀e∈o.after.toList,Region.binds .any e=true→D e.on=true) {i:Nat} (p:uA ops n i):D i=true:=by
 obtain⟨g,a,e,d,b,x⟩:=aDg p;have:g=o:=by rw[f]at a;simpa using a.symm
 subst this;have h:=r e d b;rcases x with x|⟨_,x⟩
 ·rw[←x];exact h
 ·exact iT c _ i h x
def Trace.env_at (r:Trace P C NG ops F Hh rv)(t:Tmp):∀(i:Nat),i≤ops.size→env ops (F 0) rv (fun _=>true) i t=(F i).get t
 |0,_=>rfl
 |i+1,h=>by
  obtain⟨o,a,g,_⟩:=r.row i (by omega);rw[g t,env,←r.env_at t i (by omega)];simp[xZ,a]
section
variable {D:Nat→Bool}{j:Nat}{o:Oper}
def aFk (k:bW P ops)(h:∀(j:Nat) (o:Oper),D j=true→ops[j]?=some o→∀e∈o.after.toList,Region.binds .any e=true→D e.on=true)
 (r:D j=false) (g:ops[j]?=some o) (s:∀e∈o.after.toList,Region.binds .any e=true→D e.on=true) {t:Tmp} (u:t∈uB o ops∨o.dst=some t)
 {n:Nat} (c:xZ ops n=some t) (a:n≠j):D n=decide (n<j):=by
 obtain⟨i,f,d⟩:∃i,ops[n]?=some i∧i.dst=some t:=by
  unfold xZ at c
  cases q:ops[n]? with
  |none=>simp[q]at c
  |some i=>exact⟨i,rfl,by simpa[q]using c⟩
 have p:=k.regs n j i o t f g d a u;rcases Nat.lt_or_gt_of_ne a with l|m
 ·rw[Nat.max_eq_right (by omega),dU (by omega)]at p;rw[oB h g s p];simp[l]
 ·rw[Nat.max_eq_left (by omega),Nat.min_eq_right (by omega)]at p
  cases b:D n with
  |true=>
   have:=iT h n j b p;rw[r]at this;simp at this
  |false=>simp;omega
def aJj (k:Trace P C NG ops F Hh rv)(c:bW P ops)(h:∀(j:Nat) (o:Oper),D j=true→ops[j]?=some o→∀e∈o.after.toList,Region.binds .any e=true→D e.on=true)
 (a:D j=false) (b:ops[j]?=some o) (r:∀e∈o.after.toList,Region.binds .any e=true→D e.on=true) {t:Tmp} (f:t∈uB o ops):
 env ops (F 0) rv D ops.size t=(F j).get t:=by
 have l:j<ops.size:=(sT.1 b).1;rw[vU t j ops.size (by omega) (fun i m n d=>?_),←k.env_at t j (by omega)]
 ·refine nB t j fun i g d=>?_;rw[aFk c h a b r (.inl f) d (by omega)];simp[g]
 ·by_cases e:i=j
  ·rw[e];exact a
  ·rw[aFk c h a b r (.inl f) d e];simp;omega
def aZv (b:bW P ops)(c:∀(j:Nat) (o:Oper),D j=true→ops[j]?=some o→∀e∈o.after.toList,Region.binds .any e=true→D e.on=true)
 (g:D j=false) (a:ops[j]?=some o) (r:∀e∈o.after.toList,Region.binds .any e=true→D e.on=true) (f:T kA) (t:Tmp):
 env ops f rv (add D j) ops.size t=if o.dst=some t then rv j else env ops f rv D ops.size t:=by
 have l:j<ops.size:=(sT.1 a).1;by_cases d:o.dst=some t
 ·rw[kM d];rw[vU t (j+1) ops.size (by omega) (fun i k m h=>?_)]
  ·simp only[env];rw[kM ⟨vX D j,by simp[xZ,a,d]⟩]
  ·rw[fP D (by omega),aFk b c g a r (.inr d) h (by omega)];simp;omega
 ·rw[kL d];refine nB t ops.size fun i n h=>?_;rw[fP D (fun e=>by subst e;simp[xZ,a,d]at h)]
end
section
variable {μ0:Mu}{a0:Act}{w0:kE}{D:Nat→Bool}{a:Act}{w:kE}{μ:Mu}{p:Nat}
def Inv.ev (i:Inv P NG nt ops F Hh rv μ0 a0 w0 D a w μ p):EvR μ (aEl NG (env ops (F 0) rv D ops.size)) a:=by
 intro x v h
 cases x with
 |tmp t=>exact(i.regs t v h).2
 |const u=>
  simp only[aEl,aH]at h;obtain⟨m,h⟩:=aB h;simp only[kP]at h;subst h;exact VR.of_plain μ _ m
 |global g=>
  simp only[aEl,aH]at h;obtain⟨d,h⟩:=aB h;simp only[kP]at h;subst h;obtain⟨l,k,e,b⟩:=i.rh.gl g (blt_iff.1 d);have:=VR.ptr (off:=0) k;rw[e,b]at this;exact this
 |func f=>
  simp only[aEl,aH,kP]at h;subst h;exact .func f [] [] [] [] rfl rfl (by simp) (by simp)
def Inv.look (i:Inv P NG nt ops F Hh rv μ0 a0 w0 D a w μ p)(f:Trace P C NG ops F Hh rv)(b:bW P ops){j:Nat}{o:Oper}(h:D j=false)(c:ops[j]?=some o)
 (r:∀e∈o.after.toList,Region.binds .any e=true→D e.on=true) (X:H):∀x∈o.op.operands,aH NG (F j) X x=aEl NG (env ops (F 0) rv D ops.size) x:=by
 intro x d
 cases x with
 |tmp t=>
  simp only[aH,aEl];rw[aJj f b i.closed h c r];unfold uB;exact List.mem_append_left _ (List.mem_filterMap.2 ⟨.tmp t,by simpa using d,rfl⟩)
 |_=>rfl
def Inv.wanted (i:Inv P NG nt ops F Hh rv μ0 a0 w0 D a w μ p)(G:Trace P C NG ops F Hh rv)(q:bW P ops){j:Nat}{o:Oper}(y:D j=false)(z:ops[j]?=some o)
 (B:∀e∈o.after.toList,Region.binds .any e=true→D e.on=true) {J:Bool} (h:dT (F j) ops o=some J):Region.wanted o (yielded ops a.tmps)=J:=by
 unfold dT at h;split at h
 ·rename_i b;simp only[kP]at h;subst h;simp[Region.wanted,b]
 ·rename_i g c b;split at h
  ·simp at h
  ·rename_i d m;have s:=aJj G q i.closed y z B (t:=d) (by unfold uB;rw[b];simp[m]);have r:∀v,(F j).get d=some v→d<nt∧VR μ v (a.tmps.getD d undef):=fun v E=>i.regs d v (by rw[s];exact E);split at h
   ·rename_i x n;simp only[kP]at h;subst h;obtain⟨k,f⟩:=r _ n;have l:d<a.tmps.size:=kT k i.sz;have e:a.tmps[d]?=some (a.tmps.getD d undef):=by
     rw[pV l];simp only[pT,pV l,pQ]
    simp only[Region.wanted,b,Go.yielded,m,pR,e,f.bool_inv];cases x<;>cases c<;>rfl
   ·rename_i I n;simp only[kP]at h;subst h;obtain⟨k,f⟩:=r _ n;have l:d<a.tmps.size:=kT k i.sz;have e:a.tmps[d]?=some (a.tmps.getD d undef):=by
     rw[pV l];simp only[pT,pV l,pQ]
    simp only[Region.wanted,b,Go.yielded,m,pR,e];generalize a.tmps.getD d undef=u at f;cases f;rfl
   ·simp at h
def Inv.regs_add (i:Inv P NG nt ops F Hh rv μ0 a0 w0 D a w μ p)(q:bW P ops)(u:gC nt ops=true){j:Nat}{o:Oper}(x:D j=false)(k:ops[j]?=some o)
 (y:∀e∈o.after.toList,Region.binds .any e=true→D e.on=true) {M:Mu} (hle:μ.le M) {v:kA} (l:RV M (rv j) v):
 ∀(t:Tmp) (m:kA),env ops (F 0) rv (add D j) ops.size t=some m→t<nt∧VR M m ((a.put o.dst v).tmps.getD t undef):=by
 intro t m c;rw[aZv q i.closed x k y]at c;split at c
 ·rename_i h;have b:=aFv u k t h;have g:t<a.tmps.size:=kT b i.sz;refine⟨b,?_⟩;rw[c]at l;simp only[h,Act.put,pT,Array.getElem?_setIfInBounds,g,mE,pQ];exact l
 ·rename_i h;obtain⟨r,s⟩:=i.regs t m c;refine⟨r,?_⟩;have:(a.put o.dst v).tmps.getD t undef=a.tmps.getD t undef:=by
   cases f:o.dst with
   |none=>rfl
   |some d=>
    have n:d≠t:=fun e=>h (by rw[f,e]);simp only[Act.put,pT,Array.getElem?_setIfInBounds_ne n]
  rw[this];exact s.mono hle
def uU {j:Nat}{o:Oper}(c:∀(j:Nat) (o:Oper),D j=true→ops[j]?=some o→∀e∈o.after.toList,Region.binds .any e=true→D e.on=true)
 (m:ops[j]?=some o) (r:∀e∈o.after.toList,Region.binds .any e=true→D e.on=true):
 ∀(i:Nat) (b:Oper),add D j i=true→ops[i]?=some b→∀e∈b.after.toList,Region.binds .any e=true→add D j e.on=true:=by
 intro i b d h e g f;have k:D e.on=true:=by
  by_cases l:i=j
  ·subst l;have:b=o:=by rw[m]at h;simpa using h.symm
   subst this;exact r e g f
  ·rw[fP D l]at d;exact c i b d h e g f
 unfold add;split
 ·rfl
 ·exact k
def Inv.quiet (n:Inv P NG nt ops F Hh rv μ0 a0 w0 D a w μ p)(X:bW P ops)(hd:gC nt ops=true){j:Nat}{o:Oper}(hj:D j=false)(x:ops[j]?=some o)
 (U:∀e∈o.after.toList,Region.binds .any e=true→D e.on=true) (E:¬Eff P ops F j) (g:∀b,¬Mk P ops F Hh j b)
 {W:kE} {cv:kA} (K:RH NG μ (Hh p) W) (L:w.heap.size≤W.heap.size) (G:W.os=w.os) (M:W.tape=w.tape) (y:W.output=w.output)
 (r:∀b,b<w.heap.size→(∀id k l,(Hh p).get id=some k→k.owned=true→μ id=some l→l.blk≠b)→W.heap[b]?=w.heap[b]?) (hv:RV μ (rv j) cv):
 Inv P NG nt ops F Hh rv μ0 a0 w0 (add D j) (a.put o.dst cv) W μ p where
 closed:=uU n.closed x U
 dlt:=fun i c=>by
  by_cases e:i=j
  ·subst e;exact(sT.1 x).1
  ·rw[fP D e]at c;exact n.dlt i c
 pn:=n.pn
 pE:=fun i c he=>by
  unfold add;split
  ·rfl
  ·exact n.pE i c he
 pNext:=by
  rcases n.pNext with h|⟨d,q⟩
  ·exact .inl h
  ·have J:p≠j:=fun e=>by subst e;exact E d
   exact .inr ⟨d,by rw[fP D J];exact q⟩
 wfs:=n.wfs
 rh:=K
 sz:=by
  have:=n.sz;cases a3:o.dst<;>simp[Act.put]<;>exact this
 regs:=n.regs_add X hd hj x U (fun _ _ h=>h) hv
 dfr:=(gE _ _ _).trans n.dfr
 mk1:=fun i b m c=>by
  have f:i≠j:=fun e=>g b (e▸m);rw[fP D f]at c;obtain⟨l,d,q,h3⟩:=n.mk1 i b m c;refine⟨l,d,q,fun hp=>?_⟩;obtain⟨h4,Q,h6⟩:=h3 hp;refine⟨h4.congr (r _ (n.rh.bd _ _ d) (fun id k l' z _ B=>Q id k l' z B)),Q,fun V O v u s I=>?_⟩;have t:V≠j:=fun e=>g O (e▸u);rw[fP D t]at s;exact h6 V O v u s I
 mk2:=fun i b m c=>by
  have f:i≠j:=fun e=>g b (e▸m);rw[fP D f]at c;exact n.mk2 i b m c
 fresh:=fun id d q h3=>n.fresh id d q fun i b m c=>h3 i b m (rR D j c)
 le0:=n.le0
 old0:=n.old0
 out0:=n.out0
 size0:=kR n.size0 L
 os0:=G.trans n.os0
 tape0:=M.trans n.tape0
 output0:=y.trans n.output0
 frame0:=fun b R S=>by
  rw[r b (kT R n.size0) ?_,n.frame0 b R S];intro id k l z x B e;rcases n.src0 id k l z x B with h|⟨N,k0,l0,Y,Z,g3,g4⟩
  ·omega
  ·exact S N k0 l0 Y Z g3 (g4.trans e)
 src0:=n.src0
 unm0:=n.unm0
 dead0:=n.dead0
 ro0:=n.ro0
def Inv.make (n:Inv P NG nt ops F Hh rv μ0 a0 w0 D a w μ p)(DF:bW P ops)(hd:gC nt ops=true){j:Nat}{o:Oper}(hj:D j=false)(ho:ops[j]?=some o)
 (hr:∀e∈o.after.toList,Region.binds .any e=true→D e.on=true) (m3:¬Eff P ops F j) {b:Blk} (hm:Mk P ops F Hh j b)
 (t:∀i O,i≤O→O≤ops.size→(Hh i).next≤(Hh O).next) (a4:NG≤(Hh 0).next)
 {W:kE} {v:kA} {M:Mu} {l:Loc} (V:M (Hh j).next=some l) (Z:w.heap.size≤l.blk) (hb:BR M b l W) (q:∀id,id≠(Hh j).next→M id=μ id)
 (g3:∀id l,M id=some l→l.blk<W.heap.size)
 (s3:w.heap.size≤W.heap.size) (p3:W.os=w.os) (t3:W.tape=w.tape) (d3:W.output=w.output)
 (S:∀b,b<w.heap.size→W.heap[b]?=w.heap[b]?) (hv:RV M (rv j) v):
 Inv P NG nt ops F Hh rv μ0 a0 w0 (add D j) (a.put o.dst v) W M p:=by
 have j3:j<ops.size:=(sT.1 ho).1;obtain⟨u3,a3⟩:=n.mk2 j b hm hj;have hle:μ.le M:=fun id m f=>by
  by_cases e:id=(Hh j).next
  ·rw[e,u3]at f;simp at f
  ·rw[q id e];exact f
 have n3:(Hh (j+1)).next=(Hh j).next+1:=by rw[hm.2.2];simp
 have Q:∀i B,Mk P ops F Hh i B→i≠j→(Hh i).next≠(Hh j).next:=by
  intro i B s E;have z3:(Hh (i+1)).next=(Hh i).next+1:=by rw[s.2.2];simp
  obtain⟨o',o3⟩:=s.1;have x3:=o3.lt;rcases Nat.lt_or_gt_of_ne E with h|h
  ·have:=t (i+1) j (by omega) (by omega);omega
  ·have:=t (j+1) i (by omega) (by omega);omega
 have y3:(Hh 0).next≤(Hh j).next:=t 0 j (by omega) (by omega);have u:∀B,(Hh p).get (Hh j).next=some B→j<p:=by
  intro B L;rcases mJ j p with h|h
  ·exact h
  ·have J:=n.rh.wf _ _ L;have X:=t p j h (by omega);omega
 have z:∀id m,μ id=some m→m.blk≠l.blk:=fun id m f=>by have:=n.rh.bd id m f;omega
 exact{
 closed:=uU n.closed ho hr
 dlt:=fun i G=>by
  by_cases e:i=j
  ·subst e;exact j3
  ·rw[fP D e]at G;exact n.dlt i G
 pn:=n.pn
 pE:=fun i G he=>rR D j (n.pE i G he)
 pNext:=by
  rcases n.pNext with h|⟨J,X⟩
  ·exact .inl h
  ·have q3:p≠j:=fun e=>by subst e;exact m3 J
   exact .inr ⟨J,by rw[fP D q3];exact X⟩
 wfs:=n.wfs
 rh:={
  ng:=n.rh.ng
  wf:=n.rh.wf
  br:=fun id c m R f=>by
   by_cases e:id=(Hh j).next
   ·subst e;have k3:=u c R;have:=a3 k3;rw[this]at R;simp only[kP]at R;subst R;rw[V]at f;simp only[kP]at f;subst f;exact hb
   ·rw[q id e]at f;exact((n.rh.br id c m R f).congr (S _ (n.rh.bd _ _ f))).mono hle
  inj:=fun id c m r Y K R i3 f I d y=>by
   by_cases e:id=(Hh j).next
   ·subst e;rw[V]at f;simp only[kP]at f;subst f;rw[q r y]at d;exact z r K d
   ·rw[q id e]at f;by_cases e':r=(Hh j).next
    ·subst e';rw[V]at d;simp only[kP]at d;subst d;exact fun x=>z id m f x.symm
    ·rw[q r e']at d;exact n.rh.inj id c m r Y K R i3 f I d y
  bd:=g3
  gl:=fun g hg=>by
   rw[q g (by omega)];exact n.rh.gl g hg}
 sz:=by
  have:=n.sz;cases v3:o.dst<;>simp[Act.put]<;>exact this
 regs:=n.regs_add DF hd hj ho hr hle hv
 dfr:=(gE _ _ _).trans n.dfr
 mk1:=fun i B s G=>by
  by_cases E:i=j
  ·subst E;have f3:B=b:=by
    have e1:=s.2.2;rw[hm.2.2]at e1;have e2:((Hh i).push b).get (Hh i).next=((Hh i).push B).get (Hh i).next:=by rw[e1]
    rw[H.get_push,H.get_push,kM rfl,kM rfl]at e2;simpa using e2.symm
   subst f3;refine⟨l,V,kR n.size0 Z,fun hp=>⟨hb,fun r Y K I d=>?_,fun O b2 y N U e3 K d=>?_⟩⟩
   ·have b3:r≠(Hh i).next:=fun e=>by subst e;have:=u Y I;omega
    rw[q r b3]at d;exact z r K d
   ·rw[q _ (Q O b2 N y)]at d;exact z _ K d
  ·rw[fP D E]at G;obtain⟨m,J,X,h3⟩:=n.mk1 i B s G;refine⟨m,by rw[q _ (Q i B s E)];exact J,X,fun hp=>?_⟩;obtain⟨h4,h5,h6⟩:=h3 hp;refine⟨(h4.congr (S _ (n.rh.bd _ _ J))).mono hle,fun r Y K I d=>?_,fun O b2 y N U e3 K d=>?_⟩
   ·by_cases e:r=(Hh j).next
    ·subst e;rw[V]at d;simp only[kP]at d;subst d;have:=n.rh.bd _ _ J;omega
    ·rw[q r e]at d;exact h5 r Y K I d
   ·by_cases e:O=j
    ·subst e;rw[V]at d;simp only[kP]at d;subst d;have:=n.rh.bd _ _ J;omega
    ·rw[fP D e]at U;rw[q _ (Q O b2 N e)]at d;exact h6 O b2 y N U e3 K d
 mk2:=fun i B s G=>by
  have E:i≠j:=fun e=>by subst e;rw[vX]at G;simp at G
  rw[fP D E]at G;rw[q _ (Q i B s E)];exact n.mk2 i B s G
 fresh:=fun id J X h3=>by
  rw[q id (h3 j b hm (vX D j))];exact n.fresh id J X fun i B s G=>h3 i B s (rR D j G)
 le0:=fun id m f=>hle _ _ (n.le0 _ _ f)
 old0:=fun id f=>by rw[q id (by omega)];exact n.old0 id f
 out0:=fun id f=>by
  have:=t (j+1) ops.size (by omega) (kQ _);rw[q id (by omega)];exact n.out0 id f
 size0:=kR n.size0 s3
 os0:=p3.trans n.os0
 tape0:=t3.trans n.tape0
 output0:=d3.trans n.output0
 frame0:=fun B L hn=>by
  rw[S B (kT L n.size0),n.frame0 B L hn]
 src0:=fun id k m hk l3 f=>by
  by_cases e:id=(Hh j).next
  ·subst e;rw[V]at f;simp only[kP]at f;subst f;exact .inl (kR n.size0 Z)
  ·rw[q id e]at f;exact n.src0 id k m hk l3 f
 unm0:=n.unm0
 dead0:=n.dead0
 ro0:=n.ro0}
end
end
section
variable {P:kD}{NG nt:Nat}{C:CF}{ops:kH Oper}{F:Nat→T kA}{Z:Nat→H}{rv:Nat→kB kA}
variable {μ0:Mu}{a0:Act}{w0:kE}{D:Nat→Bool}{a:Act}{w:kE}{μ:Mu}{p:Nat}
def Mk.next {i:Nat}{b:Blk}(h:Mk P ops F Z i b):(Z (i+1)).next=(Z i).next+1:=by rw[h.2.2];simp
def Mk.not_eff {n:Nat}{b:Blk}(h:Mk P ops F Z n b):¬Eff P ops F n:=by
 rintro⟨o,d⟩;obtain⟨e,c⟩:=h.1;have:e=o:=by have:=d.1;rw[c.1]at this;simpa using this
 subst this;have:=d.2.2;rw[c.2.2]at this;simp at this
def Inv.fresh_step (g:Inv P NG nt ops F Z rv μ0 a0 w0 D a w μ p)(m:∀i f,i≤f→f≤ops.size→(Z i).next≤(Z f).next)(E:Eff P ops F p):Fresh μ (Z p).next (Z (p+1)).next:=by
 intro id k q;obtain⟨o,j⟩:=E;have t:=j.lt;have:=m (p+1) ops.size (by omega) (kQ _);refine g.fresh id k (by omega) fun i b c r e=>?_;obtain⟨u,d⟩:=c.1;have l:=d.lt;have n:i≠p:=fun e=>c.not_eff (e▸⟨o,j⟩);have s:=c.next;rcases Nat.lt_or_gt_of_ne n with h|h
 ·have:=m (i+1) p (by omega) (by omega);omega
 ·have:=m (p+1) i (by omega) (by omega);omega
def Inv.effect (n:Inv P NG nt ops F Z rv μ0 a0 w0 D a w μ p)(tr:Trace P C NG ops F Z rv)(DF:bW P ops)(hd:gC nt ops=true){o:Oper}(hj:D p=false)(ho:ops[p]?=some o)
 (hr:∀e∈o.after.toList,Region.binds .any e=true→D e.on=true) (hE:Eff P ops F p)
 (u:∀i x,i≤x→x≤ops.size→(Z i).next≤(Z x).next) (t3:Wf (Z 0))
 {W:kE} {v:kA} {M:Mu} (s:Step NG μ (Z p) w M (Z (p+1)) W) (hv:RV M (rv p) v):
 ∃G,Inv P NG nt ops F Z rv μ0 a0 w0 (add D p) (a.put o.dst v) W M G:=by
 have a4:p<ops.size:=(sT.1 ho).1;have next:∀d,d≤ops.size-(p+1)→∃G,p+1≤G∧G≤p+1+d∧(∀i,p+1≤i→i<G→¬Eff P ops F i)∧(G=p+1+d∨Eff P ops F G):=by
  intro d
  induction d with
  |zero=>intro _;exact⟨p+1,by omega,by omega,fun i h1 h2=>dC h2 (by omega),.inl rfl⟩
  |succ d ih=>
   intro d4;obtain⟨G,h1,h2,h3,h4⟩:=ih (by omega);by_cases l3:Eff P ops F G
   ·exact⟨G,h1,by omega,h3,.inr l3⟩
   ·rcases h4 with h4|h4
    ·refine⟨G+1,by omega,by omega,fun i N g2=>?_,.inl (by omega)⟩;by_cases e:i=G
     ·subst e;exact l3
     ·exact h3 i N (by omega)
    ·exact dC h4 l3
 obtain⟨G,i4,j4,S,n3⟩:=next (ops.size-(p+1)) (kQ _)
 have i3:G≤ops.size:=by omega
 obtain⟨d,rfl⟩:∃d,G=p+1+d:=⟨G-(p+1),by omega⟩;obtain⟨x3,a3,v3,O⟩:=tr.between DF (q:=p+1) s.rh.wf d i3 S;have r:∀i b,Mk P ops F Z i b→i≠p:=fun i b f e=>f.not_eff (e▸hE);have d3:∀i b,Mk P ops F Z i b→i<ops.size:=fun i b f=>by obtain⟨o',y3⟩:=f.1;exact y3.lt
 have u3:∀i b,Mk P ops F Z i b→i<p→(Z i).next<(Z p).next:=fun i b f B=>by
  have:=u (i+1) p (by omega) (by omega);have:=f.next;omega
 have j3:∀i b,Mk P ops F Z i b→p<i→(Z (p+1)).next≤(Z i).next:=fun i b f B=>
  u (p+1) i (by omega) (by have:=d3 i b f;omega)
 have X:∀(l:Loc),l.blk<w.heap.size→(∀j b' V,(Z p).get j=some b'→μ j=some V→V.blk≠l.blk)→
  ∀j y z,(Z (p+1)).get j=some y→M j=some z→z.blk≠l.blk:=by
  intro l E e3 j y z I g
  cases b3:y.owned with
  |true=>
   rcases s.src j y z I b3 g with h|⟨U,k0,l0,N,g2,K,g4⟩
   ·omega
   ·rw[←g4];exact e3 U k0 l0 N K
  |false=>
   have h0:=s.ro j y I b3;rw[s.old j (s.wf j y h0)]at g;exact e3 j y z h0 g
 have fl:∀i b,Mk P ops F Z i b→p<i→D i=true→∃l,μ (Z i).next=some l∧M (Z i).next=some l∧w0.heap.size≤l.blk∧BR M b l W∧
  (∀j y z,(Z (p+1)).get j=some y→M j=some z→z.blk≠l.blk)∧
  (∀x b',x≠i→Mk P ops F Z x b'→D x=true→p<x→∀V,M (Z x).next=some V→V.blk≠l.blk):=by
  intro i b f k4 Q;obtain⟨l,h1,h2,h3⟩:=n.mk1 i b f Q;obtain⟨h4,h5,h6⟩:=h3 (by omega);have E:=n.rh.bd _ _ h1;refine⟨l,h1,s.le _ _ h1,h2,(h4.congr (s.frame _ E fun id k V Y _ hl=>h5 id k V Y hl)).mono s.le,X l E h5,fun x b' L g o3 z3 V m3=>?_⟩;obtain⟨l2,N,_,_⟩:=n.mk1 x b' g o3;have:=s.le _ _ N;rw[m3]at this;simp only[kP]at this;subst this;exact h6 x b' L g o3 (by omega) V N
 have k3:∀i b,Mk P ops F Z i b→D i=false→M (Z i).next=none:=by
  intro i b f Q;have h0:=(n.mk2 i b f Q).1;rcases Nat.lt_or_gt_of_ne (r i b f)with h|h
  ·rw[s.old _ (u3 i b f h)];exact h0
  ·rw[s.out _ (j3 i b f h)];exact h0
 have t:∀id c m,(Z (p+1+d)).get id=some c→M id=some m→(Z (p+1)).get id=some c∨∃i,p+1≤i∧i<p+1+d∧Mk P ops F Z i c∧D i=true∧id=(Z i).next:=by
  intro id c m hc f;rcases O id c hc with h|⟨i,h1,h2,h3,h4⟩
  ·exact .inl h
  ·right;refine⟨i,h1,h2,h3,?_,h4⟩
   cases Q:D i with
   |true=>rfl
   |false=>rw[h4,k3 i c h3 Q]at f;simp at f
 refine⟨p+1+d,{
  closed:=uU n.closed ho hr
  dlt:=fun i B=>by
   by_cases e:i=p
   ·subst e;exact a4
   ·rw[fP D e]at B;exact n.dlt i B
  pn:=i3
  pE:=fun i B he=>by
   by_cases e:i=p
   ·subst e;exact vX D _
   ·by_cases E:i<p
    ·exact rR D p (n.pE i E he)
    ·exact dC he (S i (by omega) B)
  pNext:=by
   rcases n3 with h|h
   ·left;omega
   ·right;refine⟨h,?_⟩;rw[fP D (by omega)]
    cases hD:D (p+1+d)with
    |false=>rfl
    |true=>
     obtain⟨o1,q3⟩:=hE;obtain⟨o2,s3⟩:=h;have hp:=DF.chain p (p+1+d) o1 o2 q3.1 s3.1 (by omega) q3.2.2 s3.2.2;have:=iT n.closed _ p hD hp;rw[hj]at this;simp at this
  wfs:=fun i B=>by
   by_cases hle:i≤p
   ·exact n.wfs i hle
   ·obtain⟨k,rfl⟩:∃k,i=p+1+k:=⟨i-(p+1),by omega⟩;exact(tr.between DF (q:=p+1) s.rh.wf k (by omega) fun i h1 h2=>S i h1 (by omega)).1
  rh:={
   ng:=kR s.rh.ng a3.1
   wf:=x3
   br:=fun id c m hc f=>by
    rcases t id c m hc f with h|⟨i,h1,h2,h3,h4,h5⟩
    ·exact s.rh.br id c m h f
    ·obtain⟨l,_,g2,_,g4,_⟩:=fl i c h3 (by omega) h4;rw[h5,g2]at f;simp only[kP]at f;subst f;exact g4
   inj:=fun id c m j y z hc b3 f I g L=>by
    rcases t id c m hc f with h|⟨i,h1,h2,h3,h4,h5⟩
    ·rcases t j y z I g with h'|⟨x,h1',h2',h3',h4',h5'⟩
     ·exact s.rh.inj id c m j y z h b3 f h' g L
     ·obtain⟨l,_,g2,_,_,g5,_⟩:=fl x y h3' (by omega) h4';rw[h5',g2]at g;simp only[kP]at g;subst g;exact fun e=>g5 id c m h f e.symm
    ·obtain⟨l,_,g2,_,_,g5,g6⟩:=fl i c h3 (by omega) h4;rw[h5,g2]at f;simp only[kP]at f;subst f;rcases t j y z I g with h'|⟨x,h1',h2',h3',h4',h5'⟩
     ·exact g5 j y z h' g
     ·exact g6 x y (fun e=>L (by rw[h5,h5',e])) h3' h4' (by omega) z (by rw[←h5'];exact g)
   bd:=s.rh.bd
   gl:=s.rh.gl}
  sz:=by
   have:=n.sz;cases e4:o.dst<;>simp[Act.put]<;>exact this
  regs:=n.regs_add DF hd hj ho hr s.le hv
  dfr:=(gE _ _ _).trans n.dfr
  mk1:=fun i b f B=>by
   rw[fP D (r i b f)]at B;rcases Nat.lt_or_gt_of_ne (r i b f)with E|hgt
   ·obtain⟨l,h1,h2,_⟩:=n.mk1 i b f B;exact⟨l,s.le _ _ h1,h2,fun h=>dC h (by omega)⟩
   ·obtain⟨l,_,g2,K,g4,g5,g6⟩:=fl i b f hgt B;refine⟨l,g2,K,fun hp=>⟨g4,fun j y z I g=>?_,fun x b' L g p3 z3 V m3=>?_⟩⟩
    ·rcases t j y z I g with h'|⟨x,h1',h2',h3',h4',h5'⟩
     ·exact g5 j y z h' g
     ·exact g6 x y (by omega) h3' h4' (by omega) z (by rw[←h5'];exact g)
    ·rw[fP D (r x b' g)]at p3;exact g6 x b' L g p3 (by omega) V m3
  mk2:=fun i b f B=>by
   rw[fP D (r i b f)]at B;refine⟨k3 i b f B,fun E=>?_⟩;rcases Nat.lt_or_gt_of_ne (r i b f)with h|h
   ·have h0:=n.mk2 i b f B;exact a3.2 _ _ (s.unm _ _ (h0.2 h) h0.1)
   ·exact v3 i b (by omega) E f
  fresh:=fun id h1 h2 h3=>by
   have hle:=a3.1;rw[s.out id (by omega)];have:=s.next;exact n.fresh id (by omega) h2 fun i b f B=>h3 i b f (rR D p B)
  le0:=fun id m f=>s.le _ _ (n.le0 _ _ f)
  old0:=fun id R=>by
   have:=u 0 p (by omega) (by omega);rw[s.old id (by omega)];exact n.old0 id R
  out0:=fun id R=>by
   have:=u (p+1) ops.size (by omega) (kQ _);rw[s.out id (by omega)];exact n.out0 id R
  size0:=kR n.size0 s.size
  os0:=s.os.trans n.os0
  tape0:=s.tape.trans n.tape0
  output0:=s.output.trans n.output0
  frame0:=fun b hb hn=>by
   rw[s.frame b (kT hb n.size0) ?_,n.frame0 b hb hn];intro id k l Y J hl e;rcases n.src0 id k l Y J hl with h|⟨U,k0,l0,N,g2,K,g4⟩
   ·omega
   ·exact hn U k0 l0 N g2 K (g4.trans e)
  src0:=fun id k m Y J f=>by
   rcases t id k m Y f with h|⟨i,h1,h2,h3,h4,h5⟩
   ·rcases s.src id k m h J f with hs|⟨U,k0,l0,N,g2,K,g4⟩
    ·exact .inl (kR n.size0 hs)
    ·rcases n.src0 U k0 l0 N g2 K with hs|⟨b4,k1,l1,f1,f2,f3,f4⟩
     ·exact .inl (g4▸hs)
     ·exact .inr ⟨b4,k1,l1,f1,f2,f3,f4.trans g4⟩
   ·obtain⟨l,_,g2,K,_⟩:=fl i k h3 (by omega) h4;rw[h5,g2]at f;simp only[kP]at f;subst f;exact .inl K
  unm0:=fun id k Y f=>by
   refine a3.2 _ _ (s.unm id k (n.unm0 id k Y f) ?_);rw[n.old0 id (t3 id k Y)];exact f
  dead0:=fun id R hn=>by
   have h1:=u 0 p (by omega) (by omega);have h2:=s.dead id (by omega) (n.dead0 id R hn)
   cases hg:(Z (p+1+d)).get id with
   |none=>rfl
   |some c=>
    rcases O id c hg with h|⟨i,N,g2,K,g4⟩
    ·rw[h2]at h;simp at h
    ·have:=j3 i c K (by omega);have:=s.next;omega
  ro0:=fun id k Y J=>by
   rcases O id k Y with h|⟨i,N,g2,K,g4⟩
   ·exact n.ro0 id k (s.ro id k h J) J
   ·have:=K.2.1;rw[J]at this;simp at this}⟩
end
section
variable {P:kD}{NG nt:Nat}{C:CF}{ops:kH Oper}{F:Nat→T kA}{Z:Nat→H}{rv:Nat→kB kA}
variable {μ0:Mu}{a0:Act}{w0:kE}{D:Nat→Bool}{a:Act}{w:kE}{μ:Mu}{p:Nat}
def RH.wider {h:H}{w W:kE}{μ:Mu}(r:RH NG μ h w)(s:w.heap.size≤W.heap.size)(e:∀b,b<w.heap.size→W.heap[b]?=w.heap[b]?):RH NG μ h W:=
 ⟨r.ng,r.wf,fun id c l f d=>(r.br id c l f d).congr (e _ (r.bd _ _ d)),r.inj,fun id l d=>kT (r.bd id l d) s,r.gl⟩
def RH.empty {h:H}{w:kE}{μ:Mu}(r:RH NG μ h w)(k:Nat)(d:NG≤k):RH NG μ ⟨.nil,k⟩ w:=
 ⟨d,fun id b c=>by simp[H.get]at c,fun id b l c=>by simp[H.get]at c,fun id b l i e f c=>by simp[H.get]at c,r.bd,r.gl⟩
def Step.mu_eq {h j:H}{w W:kE}{μ M:Mu}(s:Step NG μ h w M j W)(n:j.next=h.next):M=μ:=by
 funext id;rcases mJ id h.next with l|g
 ·exact s.old id l
 ·exact s.out id (by omega)
def Inv.stepR {C':CF}(f:Inv P NG nt ops F Z rv μ0 a0 w0 D a w μ p)(Y:aL P=true)(hC:aO P NG C)(tr:Trace P C' NG ops F Z rv)(K:bW P ops)(hd:gC nt ops=true)
 (y:∀i i',i≤i'→i'≤ops.size→(Z i).next≤(Z i').next) (p3:Wf (Z 0)) (y3:NG≤(Z 0).next)
 {n:Nat} {o:Oper} (O:D n=false) (E:ops[n]?=some o) (g3:Row P C NG ops o (F n) (Z n) (rv n) (F (n+1)) (Z (n+1))) (S:∀e∈o.after.toList,Region.binds .any e=true→D e.on=true)
 (ro:kB Nat) (Q:Exit→Act→kE→Prop) (Kc:Act→kE→Prop) (hK:∀a' w',(∃m p',Inv P NG nt ops F Z rv μ0 a0 w0 (add D n) a' w' m p')→Kc a' w'):wpOpIn (Fr ro) 0 P ops Q n Kc a w:=by
 have f4:n<ops.size:=(sT.1 E).1;have b3:∀{I:Oper},ops[n]?=some I→I=o:=fun h=>by rw[E]at h;simpa using h.symm
 obtain⟨I,rfl⟩:∃I,I=o:=⟨_,rfl⟩;obtain⟨b4,o3⟩:=g3;have x:=f.look tr K O E S;unfold wpOpIn;simp only[E];rcases o3 with⟨hw,hrv,hh⟩|⟨hw,hop⟩
 ·-- passed over
  have n3:∀k J,¬Ran P ops F n J k:=by
   intro k J z;obtain rfl:=b3 z.1;rw[z.2.1]at hw;simp at hw
  rw[f.wanted tr K O E S hw];simp only[pP,mD];refine⟨fun _ _=>trivial,?_⟩;refine hK _ _ ⟨μ,p,f.quiet K hd O E S (fun⟨J,g⟩=>n3 _ _ g) (fun b V=>by obtain⟨J,g⟩:=V.1;exact n3 _ _ g) f.rh (kQ _) rfl rfl rfl (fun _ _ _=>rfl) (cv:=undef) ?_⟩;rw[hrv];exact vN μ
 ·rw[f.wanted tr K O E S hw];simp only[mE];obtain⟨k,M⟩:=K.kind n I E;have R:Ran P ops F n I k:=⟨E,hw,M⟩;have t:∀k',k'≠k→∀J,¬Ran P ops F n J k':=by
   intro k' W J z;obtain rfl:=b3 z.1;have:=z.2.2;rw[M]at this;simp at this;exact W this.symm
  cases k with
  |pure=>
   obtain⟨_,N⟩:=aIr M hop;have r:=N ⟨.nil,NG⟩;rw[sJ _ _ _ (x _)]at r;obtain⟨j3,h',j,hs⟩:=gN Y hC r;simp only[aY,kP,kW]at j;obtain⟨rfl,rfl⟩:=j;refine hs.2 μ a w (f.rh.empty NG (kQ _)) (fun id r g=>dC g (Nat.not_lt.2 r)) f.ev ro _ _ fun m w' cv s G=>?_;have i3:=s.mu_eq rfl;subst i3;have k3:∀b,b<w.heap.size→w'.heap[b]?=w.heap[b]?:=fun b L=>s.frame b L fun id k l M=>by simp[H.get]at M
   exact hK _ _ ⟨m,p,f.quiet K hd O E S (fun⟨J,g⟩=>t _ (by simp) _ g) (fun b V=>by obtain⟨J,g⟩:=V.1;exact t _ (by simp) _ g)
    (f.rh.wider s.size k3) s.size s.os s.tape s.output (fun b L _=>k3 b L) G⟩
  |reads=>
   obtain⟨v,G⟩:=tr.c5 n I R;have chk:∀X,bV P NG I (F n) X v=true→aop P (fun _ _ _=>none) (aH NG (F n) X) X I (fun rv _=>rv)=some v:=by
    intro X hc;unfold bV at hc;split at hc
    ·rename_i u hu;rw[hu,lV u v hc]
    ·simp at hc
   have f3:n≠p∨p=ops.size:=by
    rcases f.pNext with h|⟨⟨J,g⟩,_⟩
    ·exact .inr h
    ·exact .inl fun e=>t .effect (by simp) J (e▸g)
   have a3:aop P C (aH NG (F n) (Z p)) (Z p) I aY=some (some v,Z p):=by
    rcases mJ n p with m3|u3
    ·-- the B effect between n and p
     have B:∀d,n+1+d≤p→(∀i,n<i→i<n+1+d→¬Eff P ops F i)∨∃q,n<q∧q<n+1+d∧Eff P ops F q∧∀i,q<i→i<n+1+d→¬Eff P ops F i:=by
      intro d
      induction d with
      |zero=>intro _;exact .inl fun i r g=>dC g (by omega)
      |succ d ih=>
       intro hle;by_cases hE:Eff P ops F (n+1+d)
       ·exact .inr ⟨n+1+d,by omega,by omega,hE,fun i r g=>dC g (by omega)⟩
       ·rcases ih (by omega)with h|⟨q,r,g,h3,h4⟩
        ·exact .inl fun i g1 g2=>by
          by_cases e:i=n+1+d
          ·subst e;exact hE
          ·exact h i g1 (by omega)
        ·exact .inr ⟨q,r,by omega,h3,fun i g1 g2=>by
          by_cases e:i=n+1+d
          ·subst e;exact hE
          ·exact h4 i g1 (by omega)⟩
     have B:=B (p-(n+1)) (by omega);rw[show n+1+(p-(n+1))=p by omega]at B;have g4:=f.pn;rcases B with h|⟨q,r,g,⟨oq,hq⟩,h4⟩
     ·have L:=tr.between K (q:=n) (f.wfs n (by omega)) (p-n) (by omega) (fun i g1 g2=>by
       by_cases e:i=n
       ·subst e;rintro⟨J,g⟩;exact t _ (by simp) _ g
       ·exact h i (by omega) (by omega))
      rw[show n+(p-n)=p by omega]at L;have e1:aop P C (aH NG (F n) (Z n)) (Z n) I (fun rv _=>rv)=some v:=by
       rw[eH,hop,G];rfl
      exact oC M (fun _=>rfl) L.2.1 e1 C
     ·rcases tr.c2 n q oq I v r hq R G with hp|hc
      ·have s3:=f.pE q g ⟨oq,hq⟩;have:=iT f.closed q n s3 hp;rw[O]at this;simp at this
      ·have L:=tr.between K (q:=q+1) (f.wfs (q+1) (by omega)) (p-(q+1)) (by omega) (fun i g1 g2=>h4 i (by omega) (by omega));rw[show q+1+(p-(q+1))=p by omega]at L;exact oC M (fun _=>rfl) L.2.1 (chk _ hc) C
    ·rcases f.pNext with h|⟨⟨oq,hq⟩,d3⟩
     ·omega
     ·have W:n≠p:=by
       rcases f3 with h|h
       ·exact h
       ·omega
      rcases tr.c1 p n oq I v (by omega) hq R G with hp|hc
      ·have:=oB f.closed E S hp;rw[d3]at this;simp at this
      ·exact oC M (fun _=>rfl) ⟨kQ _,fun _ _ h=>h⟩ (chk _ hc) C
   rw[sJ _ _ _ (x _)]at a3;obtain⟨j3,h',j,hs⟩:=gN Y hC a3;simp only[aY,kP,kW]at j;obtain⟨rfl,rfl⟩:=j;refine hs.2 μ a w f.rh (fun id r g=>dC g (Nat.not_lt.2 r)) f.ev ro _ _ fun m w' cv s a4=>?_;have i3:=s.mu_eq rfl;subst i3;exact hK _ _ ⟨m,p,f.quiet K hd O E S (fun⟨J,g⟩=>t _ (by simp) _ g) (fun b V=>by obtain⟨J,g⟩:=V.1;exact t _ (by simp) _ g)
    s.rh s.size s.os s.tape s.output s.frame (by rw[G];exact a4)⟩
  |makes=>
   obtain⟨b,L,hh,e3,N⟩:=aDj M hop;have V:Mk P ops F Z n b:=⟨⟨_,R⟩,L,hh⟩;have W:¬Eff P ops F n:=V.not_eff;have r:=N ⟨.nil,(Z n).next⟩ rfl;rw[sJ _ _ _ (x _)]at r;obtain⟨j3,h',j,hs⟩:=gN Y hC r;simp only[aY,kP,kW]at j;obtain⟨rfl,rfl⟩:=j;obtain⟨z3,_⟩:=f.mk2 n b V O;have d4:=y 0 n (by omega) (by omega);refine hs.2 μ a w (f.rh.empty _ (by omega)) (fun id r g=>by
    have e:id=(Z n).next:=by simp only[H.next_push]at r g;omega
    rw[e];exact z3) f.ev ro _ _ fun m w' cv s G=>?_
   have x3:∃l,m (Z n).next=some l:=by
    rcases e3 with hf|⟨j4,c,hf⟩|hf
    ·rw[hf]at G;obtain⟨l,U,_⟩:=VR.ptr_inv G;exact⟨l,U⟩
    ·rw[hf]at G;obtain⟨l,_,_,U,_⟩:=VR.slice_inv G;exact⟨l,U⟩
    ·rw[hf]at G;obtain⟨l,U,_⟩:=VR.map_inv G;exact⟨l,U⟩
   obtain⟨l,U⟩:=x3;have l3:((⟨.nil,(Z n).next⟩:H).push b).get (Z n).next=some b:=by rw[H.get_push,kM rfl]
   have v3:w.heap.size≤l.blk:=by
    rcases s.src _ b l l3 L U with h|⟨i4,k0,l0,g1,_⟩
    ·exact h
    ·simp[H.get]at g1
   refine hK _ _ ⟨m,p,f.make K hd O E S W V y y3 U v3 (s.rh.br _ b l l3 U) (fun id e4=>?_) s.rh.bd s.size s.os s.tape s.output
    (fun b' t3=>s.frame b' t3 fun id k l M=>by simp[H.get]at M) G⟩
   rcases mJ id (Z n).next with m3|u3
   ·exact s.old id m3
   ·exact s.out id (by simp only[H.next_push];omega)
  |effect=>
   have hE:Eff P ops F n:=⟨_,R⟩;have f3:n=p:=by
    rcases mJ n p with h|h
    ·have:=f.pE n h hE;rw[O]at this;simp at this
    ·rcases f.pNext with h'|⟨⟨oq,hq⟩,d3⟩
     ·omega
     ·by_cases e:n=p
      ·exact e
      ·have hp:=K.chain p n oq _ hq.1 E (by omega) hq.2.2 M;have:=oB f.closed E S hp;rw[d3]at this;simp at this
   subst f3;have r:=hop;rw[sJ _ _ _ (x _)]at r;obtain⟨j3,h',j,hs⟩:=gN Y hC r;simp only[aY,kP,kW]at j;obtain⟨rfl,rfl⟩:=j;refine hs.2 μ a w f.rh (f.fresh_step y hE) f.ev ro _ _ fun m w' cv s G=>?_;obtain⟨p',q3⟩:=f.effect tr K hd O E S hE y p3 s G;exact hK _ _ ⟨m,p',q3⟩
def Inv.step (j:Inv P NG nt ops F Z rv μ0 a0 w0 D a w μ p)(z:aL P=true)(u:aO P NG C)(t:Trace P C NG ops F Z rv)(s:bW P ops)(x:gC nt ops=true)
 (h:∀i g,i≤g→g≤ops.size→(Z i).next≤(Z g).next) (c:Wf (Z 0)) (d:NG≤(Z 0).next)
 {n:Nat} {o:Oper} (y:D n=false) (f:ops[n]?=some o) (B:∀e∈o.after.toList,Region.binds .any e=true→D e.on=true)
 (m:kB Nat) (Q:Exit→Act→kE→Prop) (K:Act→kE→Prop) (v:∀l q,(∃k G,Inv P NG nt ops F Z rv μ0 a0 w0 (add D n) l q k G)→K l q):wpOpIn (Fr m) 0 P ops Q n K a w:=by
 obtain⟨E,b,r⟩:=t.row n (sT.1 f).1;obtain rfl:E=o:=by rw[f]at b;simpa using b.symm
 exact j.stepR z u t s x h c d y f r B m Q K v
def Inv.start (tr:Trace P C NG ops F Z rv)(DF:bW P ops)(n:∀i i',i≤i'→i'≤ops.size→(Z i).next≤(Z i').next)
 (r:RH NG μ0 (Z 0) w0) (M:Fresh μ0 (Z 0).next (Z ops.size).next) (f0:FR nt μ0 (F 0) a0) {w:kE} (V:w.heap=w0.heap) (f3:w.os=w0.os) (U:w.tape=w0.tape) (Q:w.output=w0.output):
 ∃p,Inv P NG nt ops F Z rv μ0 a0 w0 (fun _=>false) a0 w μ0 p:=by
 have next:∀d,d≤ops.size→∃y,y≤d∧(∀i,i<y→¬Eff P ops F i)∧(y=d∨Eff P ops F y):=by
  intro d
  induction d with
  |zero=>intro _;exact⟨0,by omega,fun i K=>dC K (by omega),.inl rfl⟩
  |succ d ih=>
   intro j3;obtain⟨y,K,h3,B⟩:=ih (by omega);by_cases E:Eff P ops F y
   ·exact⟨y,by omega,h3,.inr E⟩
   ·rcases B with B|B
    ·refine⟨y+1,by omega,fun i g2=>?_,.inl (by omega)⟩;by_cases e:i=y
     ·subst e;exact E
     ·exact h3 i (by omega)
    ·exact dC B E
 obtain⟨p,i3,x,I⟩:=next ops.size (kQ _)
 have hb:=tr.between DF (q:=0) r.wf p (by omega) (fun i _ h=>x i (by omega));rw[sR]at hb;obtain⟨X,z,W,u⟩:=hb;have s:∀i b,Mk P ops F Z i b→i<ops.size:=fun i b g=>by obtain⟨o',e3⟩:=g.1;exact e3.lt
 have R:∀i b,Mk P ops F Z i b→μ0 (Z i).next=none:=fun i b g=>by
  have h1:=s i b g;have K:=g.next;have h3:=n 0 i (by omega) (by omega);have B:=n (i+1) ops.size (by omega) (kQ _);exact M _ h3 (by omega)
 have f:∀id c m,(Z p).get id=some c→μ0 id=some m→(Z 0).get id=some c:=by
  intro id c m L g;rcases u id c L with h|⟨i,_,_,h3,B⟩
  ·exact h
  ·rw[B,R i c h3]at g;simp at g
 have J:∀t,env ops (F 0) rv (fun _=>false) ops.size t=(F 0).get t:=fun t=>vU t 0 ops.size (by omega) (fun _ _ _ _=>rfl);exact⟨p,{
  closed:=fun j o h=>by simp at h
  dlt:=fun j h=>by simp at h
  pn:=i3
  pE:=fun i hi he=>dC he (x i hi)
  pNext:=by
   rcases I with h|h
   ·exact .inl h
   ·exact .inr ⟨h,rfl⟩
  wfs:=fun i hi=>by
   have:=(tr.between DF (q:=0) r.wf i (by omega) (fun k _ h=>x k (by omega))).1
   rwa [sR]at this
  rh:={
   ng:=kR r.ng z.1
   wf:=X
   br:=fun id c m L g=>(r.br id c m (f id c m L g) g).congr (by rw[V])
   inj:=fun id c m S c' m' L b3 g a3 O d3=>r.inj id c m S c' m' (f id c m L g) b3 g (f S c' m' a3 O) O d3
   bd:=fun id l hl=>by rw[V];exact r.bd id l hl
   gl:=r.gl}
  sz:=f0.1
  regs:=fun t v U=>by rw[J]at U;exact f0.2 t v U
  dfr:=rfl
  mk1:=fun i b _ h=>by simp at h
  mk2:=fun i b g _=>⟨R i b g,fun hi=>W i b (by omega) (by omega) g⟩
  fresh:=fun id h1 K _=>M id (kR z.1 h1) K
  le0:=fun _ _ h=>h
  old0:=fun _ _=>rfl
  out0:=fun _ _=>rfl
  size0:=by rw[V];exact kQ _
  os0:=f3
  tape0:=U
  output0:=Q
  frame0:=fun b _ _=>by rw[V]
  src0:=fun id k m N G g=>.inr ⟨id,k,m,f id k m N g,G,g,rfl⟩
  unm0:=fun id k N _=>z.2 id k N
  dead0:=fun id k3 hn=>by
   cases hg:(Z p).get id with
   |none=>rfl
   |some c=>
    rcases u id c hg with h|⟨i,_,g2,Y,g4⟩
    ·rw[hn]at h;simp at h
    ·have:=n 0 i (by omega) (by have:=s i c Y;omega);omega
  ro0:=fun id k N G=>by
   rcases u id k N with h|⟨i,_,_,Y,_⟩
   ·exact h
   ·have:=Y.2.1;rw[G]at this;simp at this}⟩
def aPv (N:aL P=true)(Y:aO P NG C)(tr:Trace P C NG ops F Z rv)(S:bW P ops)(hd:gC nt ops=true)
 (t:∀i O,i≤O→O≤ops.size→(Z i).next≤(Z O).next) (z:Wf (Z 0)) (M:NG≤(Z 0).next)
 (W:kB Nat) (Q:Exit→Act→kE→Prop) (hQ:∀B G u,Inv P NG nt ops F Z rv μ0 a0 w0 (fun i=>decide (i<ops.size)) B G u ops.size→Q .normal B G):
 ∀(f:Nat) (l:kH Bool) (a:Act) (w:kE),l.size=ops.size→((List.range ops.size).filter fun i=>!l.getD i false).length≤f→
  (∃μ p,Inv P NG nt ops F Z rv μ0 a0 w0 (fun i=>l.getD i false) a w μ p)→wpAnyIn (Fr W) 0 P .any ops Q f l a w:=by
 have g:∀(l:kH Bool) (i:Nat),l.size=ops.size→i<ops.size→l.getD i true=l.getD i false:=by
  intro l i s c;simp[pT,pV (show i<l.size by omega)]
 have done:∀(l:kH Bool) (a:Act) (w:kE) (μ:Mu) (p:Nat),l.size=ops.size→Inv P NG nt ops F Z rv μ0 a0 w0 (fun i=>l.getD i false) a w μ p→
  Region.ready .any ops l=[]→Q .normal a w:=by
  intro l a w μ p s n E;have I:∀i,i<ops.size→l.getD i false=true:=by
   intro i
   induction i using Nat.strongRecOn with
   |_ i R=>
    intro c
    cases hl:l.getD i false with
    |true=>rfl
    |false=>
     exfalso;have m:i∈Region.ready .any ops l:=by
      rw[mem_ready];refine⟨by rw[g l i s c];exact hl,ops[i],by simp[c],fun e L K=>?_⟩;have b:=S.edge i ops[i] (by simp[c]) e (by simpa using L) K;exact R e.on b (by omega)
     rw[E]at m;simp at m
  have hD:(fun i=>l.getD i false)=fun i=>decide (i<ops.size):=by
   funext i;by_cases c:i<ops.size
   ·simp only[I i c,c,decide_true]
   ·rw[pT,Array.getElem?_eq_none (by omega)];simp[c]
  rw[hD]at n;have hp:p=ops.size:=by
   rcases n.pNext with h|⟨⟨o,v⟩,X⟩
   ·exact h
   ·have:=v.lt;simp at X;omega
  subst hp;exact hQ a w μ n
 intro f
 induction f with
 |zero=>
  intro l a w s q ⟨μ,p,n⟩;have E:Region.ready .any ops l=[]:=by
   apply List.eq_nil_iff_forall_not_mem.2;intro i c;rw[mem_ready]at c;obtain⟨J,o,v,_⟩:=c;have b:i<ops.size:=(sT.1 v).1;have:i∈(List.range ops.size).filter fun i=>!l.getD i false:=by
    rw[dS];exact⟨rO.2 b,by rw[←g l i s b,J];rfl⟩
   rw[pY.1 (Nat.le_zero.1 q)]at this;simp at this
  exact⟨E,done l a w μ p s n E⟩
 |succ f R=>
  intro l a w s q ⟨μ,p,n⟩;refine⟨done l a w μ p s n,fun j U=>?_⟩;rw[mem_ready]at U;obtain⟨J,o,v,d⟩:=U;have b:j<ops.size:=(sT.1 v).1;have x:l.getD j false=false:=by rw[←g l j s b];exact J
  refine n.step N Y tr S hd t z M x v (fun e L K=>d e (by simpa using L) K) W Q _ fun B G ⟨u,p',r⟩=>?_;have k:add (fun i=>l.getD i false) j=fun i=>(l.setIfInBounds j true).getD i false:=by
   funext i;unfold add;by_cases e:i=j
   ·subst e;rw[kM rfl,pT,Array.getElem?_setIfInBounds,kM rfl,kM (by omega)];rfl
   ·rw[kL e];show l.getD i false=_;rw[pT,pT,Array.getElem?_setIfInBounds_ne (mV e)]
  rw[k]at r;refine R _ B G (by simpa using s) ?_ ⟨u,p',r⟩;have y:((List.range ops.size).filter fun i=>!(l.setIfInBounds j true).getD i false)=((List.range ops.size).filter fun i=>!l.getD i false).filter fun i=>decide (i≠j):=by
   rw[List.filter_filter];apply List.filter_congr;intro i _;have:=congrFun k i;rw[←this];unfold add;by_cases e:i=j
   ·subst e;simp
   ·simp[e]
  rw[y];have m:j∈(List.range ops.size).filter fun i=>!l.getD i false:=by
   rw[dS];exact⟨rO.2 b,by rw[x];rfl⟩
  have V:(((List.range ops.size).filter fun i=>!l.getD i false).filter fun i=>decide (i≠j)).length<((List.range ops.size).filter fun i=>!l.getD i false).length:=by
   rw[List.length_filter_lt_length_iff_exists];exact⟨j,m,by simp⟩
  omega
def uM {Y:Type}(z:aL P=true)(J:aO P NG C){ops:kH Oper}(V:gC nt ops=true)(B:lR P ops (before ops)=true)
 {f:T kA} {h:H} {K:T kA→H→kB Y} {r:Y} (X:runD P C NG ops (before ops) 0 ops.toList f h [] [] K=some r):
  ∃d j,K d j=some r∧h.next≤j.next∧∀(μ:Mu) (a:Act) (w:kE),RH NG μ h w→Fresh μ h.next j.next→FR nt μ f a→
   ∀(ro:kB Nat) (Q:Exit→Act→kE→Prop),(∀g s,tX NG nt μ h w a d j g s→Q .normal g s)→
    wpAnyIn (Fr ro) 0 P .any ops Q ops.size (Array.replicate ops.size false) a {w with drawn:=w.drawn+1}:=by
 obtain⟨F,Z,rv,_,S,L,M,b,_,_,u,x,y⟩:=aAn ops.toList 0 f h [] [] rfl X;rw[Nat.max_eq_right (sE _)]at M;have DF:=aAz B;have q:Trace P C NG ops F Z rv:=⟨fun i c=>b i (sE _) c,fun p i o G v l=>u p i o G v (sE _) l,fun i p o G v l=>x i p o G v (sE _) l,fun i o=>y i o (sE _)⟩;have m:∀i k,i≤k→k≤ops.size→(Z i).next≤(Z k).next:=fun i k O R=>q.next_mono z J O R;refine⟨F ops.size,Z ops.size,M,by rw[←L];exact m 0 _ (sE _) (kQ _),fun μ a w rh W a3 ro Q U=>?_⟩;subst S;subst L;obtain⟨p,E⟩:=Inv.start (a0:=a) (rv:=rv) q DF m rh W a3 (w:={w with drawn:=w.drawn+1}) rfl rfl rfl rfl;refine aPv (μ0:=μ) (a0:=a) (w0:=w) z J q DF V m rh.wf rh.ng ro Q (fun g s I n=>U g s ⟨I,?_,?_,n.dfr⟩) ops.size _ a _ (by simp) ?_ ⟨μ,p,?_⟩
 ·exact{
   wf:=rh.wf
   le:=n.le0
   old:=n.old0
   out:=n.out0
   next:=m 0 _ (sE _) (kQ _)
   rh:=n.rh
   size:=n.size0
   os:=n.os0
   tape:=n.tape0
   output:=n.output0
   frame:=n.frame0
   src:=n.src0
   unm:=n.unm0
   dead:=n.dead0
   ro:=n.ro0}
 ·refine⟨n.sz,fun t v N=>n.regs t v ?_⟩;rw[←q.env_at t ops.size (kQ _)]at N;rw[←N];exact nB t ops.size fun i c _=>by simp[c]
 ·exact kR (List.length_filter_le _ _) (by simp)
 ·have e:(fun i=>(Array.replicate ops.size false).getD i false)=fun _=>false:=by
   funext i;rw[pT];by_cases c:i<ops.size
   ·simp[c]
   ·rw[Array.getElem?_eq_none (by simpa using c)];rfl
  rw[e];exact E
end
inductive Ex where
 |normal
 |exit (id:Nat)
 |ret
def eO:Code→Bool
 | .seq a b=>eO a&&eO b
 | .cond _ a b=>eO a&&eO b
 | .block _ b=>eO b
 | .loop b=>eO b
 | .scope b=>eO b
 | .rangeFunc _ _ _ _=>false
 |_=>true
def aBw (f:T kA):kC Tmp→kC kA→T kA
 |t::ts,v::vs=>aBw (f.set t (some v)) ts vs
 |_,_=>f
def xS (f:Func):Nat:=
 if f.name= "internal/bytealg.IndexByteString" ∧f.origin= "" then 1
 else if f.name= "internal/bytealg.CountString" ∧f.origin= "" then 3
 else if f.name= "internal/bytealg.abigen_runtime_cmpstring" ∧f.origin= "" then 4
 else 0
def tT (k:Nat)(r:kC kA)(h:H):kB (kA×H):=
 match k,r with
 |1,[.string s,.int .u8 c]=>some (.int .i64 (match(List.range s.size).find? fun i=>s[i]! ==c.toNat.toUInt8 with|some i=>(i:Int)|none=> -1),h)
 |3,[.string s,.int .u8 c]=>some (.int .i64 (s.foldl (fun(n:Int) x=>if x==c.toNat.toUInt8 then n+1 else n) ((0:Nat):Int)),h)
 |4,[.string a,.string b]=>some (.int .i64 (Extern.BytealgCompare.cmp a b),h)
 |_,_=>none
def qM {n:String}{f:Func}(h:f.name=n)(o:f.origin= "")(e:kH kA→Sem kA)(b:Extern.allNextRows.lookup n=none)(d:Extern.allNextRows.lookup "" =none)(a:Extern.allGenericRows.lookup n=none)
 (h3:Extern.allTypedRows.lookup n=none) (c:Extern.allRows.lookup n=some e):Extern.findNext f=none∧Extern.find f=some e:=by
 constructor
 ·simp[Extern.findNext,h,o,b,d]
 ·simp[Extern.find,h,a,c,h3]
section
variable {P:kD}{NG nt:Nat}{C:CF}
def ExR:Ex→Exit→Prop
 | .normal,.normal=>True
 | .exit i,.exit j=>i=j
 | .ret,.ret=>True
 |_,_=>False
def Marks (d a:kC Deferred)(n0:Nat)(w:kE):Prop:=
 ∃m:kC Nat,a=m.map (fun r=>(⟨.collected r,#[]⟩:Deferred))++d∧m.Nodup∧∀r∈m,n0≤r∧w.heap[r]?=some (.deferred (some []))
def StepTo (NG nt:Nat)(g:Mu)(h:H)(w:kE)(a:Act)(f:T kA)(e:H)(c:Act)(d:kE):Prop:=
 ∃b,Step NG g h w b e d∧FR nt b f c∧Marks a.defers c.defers w.heap.size d
def Marks.refl (d:kC Deferred)(n0:Nat)(w:kE):Marks d d n0 w:=⟨[],rfl,.nil,by simp⟩
def BR.not_deferred {M:Mu}{b:Blk}{l:Loc}{w:kE}(r:BR M b l w){d:kB (kC Deferred)}(h:w.heap[l.blk]?=some (.deferred d)):False:=by
 cases b with
 |cells j own=>obtain⟨_,_,_,a,_⟩:=r;rw[h]at a;simp at a
 |map k c=>obtain⟨_,a,_⟩:=r;rw[h]at a;simp at a
 |siter s p=>obtain⟨_,a⟩:=r;rw[h]at a;simp at a
 |miter m i f e=>obtain⟨_,_,_,a⟩:=r;rw[h]at a;simp at a
 |loop nt n o g b t=>obtain⟨_,_,a,_⟩:=r;rw[h]at a;simp at a
def Step.deferred {M U:Mu}{h j:H}{w W:kE}(s:Step NG M h w U j W)(r:RH NG M h w){n:Nat}{d:kB (kC Deferred)}(b:w.heap[n]?=some (.deferred d)):W.heap[n]?=some (.deferred d):=by
 rw[s.frame n (sT.1 b).1 fun id k l a _ c e=>by
  subst e;exact(r.br id k l a c).not_deferred b]
 exact b
def StepTo.trans {M U:Mu}{h j g:H}{w w1 w2:kE}{a Z n:Act}{f:T kA}(s:Step NG M h w U j w1)(e:Marks a.defers Z.defers w.heap.size w1)
 (B:StepTo NG nt U j w1 Z f g n w2):StepTo NG nt M h w a f g n w2:=by
 obtain⟨l,t,D,k,p,z,d⟩:=B;obtain⟨m,o,v,c⟩:=e;refine⟨l,s.trans t,D,k++m,by rw[p,o];simp,?_,?_⟩
 ·rw[List.nodup_append];refine⟨z,v,fun x q y u i=>?_⟩;subst i;have j:=(d x q).1;have g:=(sT.1 (c x u).2).1;omega
 ·intro r b;rcases mP.1 b with b|b
  ·exact⟨kR s.size (d r b).1,(d r b).2⟩
  ·exact⟨(c r b).1,t.deferred s.rh (c r b).2⟩
def aMg (P:kD)(NG nt:Nat)(c:Code)(i:T kA)(h:H)(x:Ex)(f:T kA)(d:H):Prop:=
 h.next≤d.next∧∀(b:Mu) (a:Act) (w:kE),RH NG b h w→Fresh b h.next d.next→FR nt b i a→∀(r:kB Nat),(r=none∨eO c=true)→
  c.wpIn (Fr r) 0 P (fun e g j=>ExR x e∧StepTo NG nt b h w a f d g j) a w
def Fresh.second {M U:Mu}{h j g:H}{w w1:kE}(f:Fresh M h.next g.next)(s:Step NG M h w U j w1):Fresh U j.next g.next:=fun id a b=>by
 rw[s.out id a];exact f id (kR s.next a) b
def yR {r:kB Nat}{J b:Bool}(h:r=none∨(J&&b)=true):(r=none∨J=true)∧(r=none∨b=true):=by
 rcases h with h|h
 ·exact⟨.inl h,.inl h⟩
 ·simp only[pA]at h;exact⟨.inr h.1,.inr h.2⟩
def Step.alloc_other {M:Mu}{h:H}{w:kE}(r:RH NG M h w)(o:Obj):Step NG M h w M h (w.alloc o) where
 wf:=r.wf
 le:=fun _ _ h=>h
 old:=fun _ _=>rfl
 out:=fun _ _=>rfl
 next:=kQ _
 rh:=⟨r.ng,r.wf,fun id b l d a=>(r.br id b l d a).congr (by
  have:=r.bd id l a;show(w.heap.push o)[l.blk]?=_;rw[Array.getElem?_push,kL (by omega)]),r.inj,fun id l a=>by have:=r.bd id l a;show l.blk<(w.heap.push o).size;rw[Array.size_push];omega,r.gl⟩
 size:=by show w.heap.size≤(w.heap.push o).size;rw[Array.size_push];omega
 os:=rfl
 tape:=rfl
 output:=rfl
 frame:=fun k c _=>by show(w.heap.push o)[k]?=_;rw[Array.getElem?_push,kL (by omega)]
 src:=fun id k l c e a=>.inr ⟨id,k,l,c,e,a,rfl⟩
 unm:=fun _ _ h _=>h
 dead:=fun _ _ h=>h
 ro:=fun _ _ h _=>h
def Step.shut {M U:Mu}{h j:H}{w W:kE}(s:Step NG M h w U j W){n:Nat}{d:kB (kC Deferred)}(c:W.heap[n]?=some (.deferred d))(g:w.heap.size≤n)(o:Obj):Step NG M h w U j (setObj W n o) where
 wf:=s.wf
 le:=s.le
 old:=s.old
 out:=s.out
 next:=s.next
 rh:=⟨s.rh.ng,s.rh.wf,fun id k l a b=>(s.rh.br id k l a b).congr (iJ fun e=>by subst e;exact(s.rh.br id k l a b).not_deferred c),s.rh.inj,fun id l b=>by rw[qA];exact s.rh.bd id l b,s.rh.gl⟩
 size:=by rw[qA];exact s.size
 os:=s.os
 tape:=s.tape
 output:=s.output
 frame:=fun k a f=>by rw[iJ (by omega)];exact s.frame k a f
 src:=s.src
 unm:=s.unm
 dead:=s.dead
 ro:=s.ro
def aTj (P:kD)(gv:kA):Bool:=
 match gv with
 | .func (.func g) _ _=>(match P.funcs[g]? with|some f=>f.body.isSome|none=>false)
 |_=>false
def uF:LSt→kB Ex
 | .ready=>some .normal
 | .done none=>some .ret
 | .done (some id)=>some (.exit id)
 |_=>none
def iY (hC:aO P NG C){g:kK}{Z:kH Tmp}{assign body:Code}{f:T kA}{h j:H}{v x:kA}(t3:aH NG f h g=some v)(N:aTj P v=true)
 (d:callV C v [.func (.yield h.next) #[] #[]] (h.push (.loop nt f Z.toList assign body .ready))=some (x,j))
 {n:Nat} {E:T kA} {I:kC Tmp} {B D:Code} {st:LSt} (k3:j.get h.next=some (.loop n E I B D st)) {ex:Ex} (k:uF st=some ex)
 {R:T kA} (O:∀t x,R.get t=some x→f.get t=some x):
 aMg P NG nt (.rangeFunc g Z assign body) f h ex R (j.put h.next (.loop n E I B D .exhausted)):=by
 unfold callV at d;split at d
 case h_2=>simp[aTj]at N
 case h_3=>simp at d
 rename_i gf first a3
 obtain⟨hg,d⟩:=aB d;have hg:=blt_iff.1 hg;obtain⟨hle,o,_⟩:=hC _ _ _ _ _ d;obtain⟨fn,d3,x3,o⟩:=o hg;simp only[H.next_push]at hle;refine⟨by show h.next≤j.next;omega,fun Q a w rh hf n3 ro hro=>?_⟩;rcases hro with rfl|hro
 case inr=>simp[eO]at hro
 have m:Q h.next=none:=hf _ (kQ _) (by show h.next<j.next;omega);have f3:=n3.ev rh g _ t3;obtain⟨L,K,q3,r1,r2⟩:∃L K,a.eval g=.func (.func gf) ⟨L⟩ ⟨K⟩∧LR Q first L∧LR Q a3 K:=by
  generalize he:a.eval g=u at f3
  cases f3 with
  |func _ _ _ l3 m3 h1 j g1 Y=>exact⟨l3,m3,rfl,⟨h1,g1⟩,⟨j,Y⟩⟩
 refine wpIn_rangeFunc fun M _=>?_;obtain⟨w0,G⟩:=eX (w.alloc (.deferred (some [])));have s0:Step NG Q h w Q h w0:=G▸Step.alloc_other rh _;have y3:w0.heap.size=w.heap.size+1:=by rw[G];show(w.heap.push _).size=_;rw[Array.size_push]
 obtain⟨y,i⟩:∃y:Loop,y={state:=.ready,pending:=none,fn:=M,tmps:=a.tmps,params:=Z,assign,body,defers:=w.heap.size}:=⟨_,rfl⟩;have o3:BR (Q.set h.next ⟨w0.heap.size,0,0,0⟩) (.loop nt f Z.toList assign body .ready) ⟨w0.heap.size,0,0,0⟩ (w0.alloc (.loop y)):=
  ⟨rfl,y,nQ _ _,by rw[i];exact⟨rfl,rfl⟩,by rw[i],by rw[i],by rw[i],by rw[i];exact n3.1,
   fun t x hv=>⟨(n3.2 t x hv).1,by rw[i];exact(n3.2 t x hv).2.mono (Mu.le_set m)⟩⟩
 have W:=s0.trans (Step.push_at s0.rh m rfl o3);obtain⟨z,q⟩:=eX (Q.set h.next ⟨w0.heap.size,0,0,0⟩);obtain⟨w1,V⟩:=eX (w0.alloc (.loop y));rw[←q,←V]at W;have i3:z h.next=some ⟨w0.heap.size,0,0,0⟩:=by rw[q];exact Mu.set_same _ _ _
 have p3:w1.heap[w.heap.size]?=some (.deferred (some [])):=by
  have e0:w0.heap[w.heap.size]?=some (.deferred (some [])):=by rw[G];exact nQ _ _
  rw[V];show(w0.heap.push _)[w.heap.size]?=_;rw[Array.getElem?_push,kL (by omega)];exact e0
 have e3:Fresh z (h.push (.loop nt f Z.toList assign body .ready)).next j.next:=fun id h1 h3=>by
  simp only[H.next_push]at h1;rw[q,Mu.set_ne _ _ (by omega)];exact hf id (by omega) h3
 have S:LR z (first++[Value.func (.yield h.next) #[] #[]]++a3) (L++[Value.func (.yield w0.heap.size) #[] #[]]++K):=by
  have hy:VR z (.func (.yield h.next) #[] #[]) (.func (.yield w0.heap.size) #[] #[]):=VR.yield i3;exact((r1.mono W.le).append (.cons hy .nil)).append (r2.mono W.le)
 rcases o with⟨⟨b,hbd⟩,hcalls⟩|⟨hbd,_⟩
 case inr=>simp[aTj,d3,hbd]at N
 refine⟨w0.heap.size,[⟨.collected w.heap.size,#[]⟩],w1,{target:=.fn (.func gf) ⟨K⟩,args:=⟨L⟩++#[.func (.yield w0.heap.size) #[] #[]]},w1,gf,⟨L++[Value.func (.yield w0.heap.size) #[] #[]]++K⟩,w1,?_,?_,?_,?_,?_,?_⟩
 ·have:=run_enterLoop_outer (P:=P) (w:=w) M a.tmps Z assign body;rw[y3];rw[V,i,G];exact this
 ·simp only[resolve,q3,Deferred.ofValue,pG];rw[show Array.map a.eval #[Operand.const (Value.func (Fn.yield w0.heap.size) #[] #[])]=#[Value.func (Fn.yield w0.heap.size) #[] #[]]from by simp[Act.eval]]
 ·intro f' _;trivial
 ·have U:(fn.name== "runtime.NumGoroutine")=false:=by simpa using x3
  have e:((⟨L⟩:kH kA)++#[Value.func (.yield w0.heap.size) #[] #[]]++(⟨K⟩:kH kA))=⟨L++[Value.func (.yield w0.heap.size) #[] #[]]++K⟩:=by apply Array.ext';simp
  simp only[invoke,callFunc,pD,run_program,pC,d3,U,pP,mD,hbd,Option.isNone_some,pG,e]
 ·intro h;simp[Fr,Fence.wide]at h
 ·refine callsIn_Fr.2 ((hcalls z w1 _ W.rh e3 S).mono fun e w2 ⟨cv,J,he,X,_⟩=>?_);subst he;have j3:J h.next=some ⟨w0.heap.size,0,0,0⟩:=X.le _ _ i3;obtain⟨_,s,g1,Y,g3,g4,g5,g6,g7⟩:=X.rh.br _ _ _ k3 j3;have v3:s.state≠.busy:=by
   cases st with
   |ready=>rw[Y.1];simp
   |busy=>simp[uF]at k
   |done z3=>rw[Y.1];simp
   |exhausted=>simp[uF]at k
  have b3:=run_endLoop (P:=P) g1 v3;have s3:Step NG J j w2 J (j.put h.next (.loop n E I B D .exhausted)) (setObj w2 w0.heap.size (.loop {s with state:=.exhausted})):=
   Step.write X.rh (l:=⟨w0.heap.size,0,0,0⟩) k3 rfl rfl j3 ⟨rfl,_,bJ (sT.1 g1).1,rfl,g3,g4,g5,g6,g7⟩
  have u3:Marks a.defers ([(⟨.collected w.heap.size,#[]⟩:Deferred)]++a.defers) w.heap.size (setObj w2 w0.heap.size (.loop {s with state:=.exhausted})):=by
   refine⟨[w.heap.size],rfl,by simp,fun r hr=>?_⟩;have:r=w.heap.size:=by simpa using hr
   subst this;exact⟨kQ _,s3.deferred X.rh (X.deferred W.rh p3)⟩
  have p:StepTo NG nt Q h w a R (j.put h.next (.loop n E I B D .exhausted)) {a with defers:=[(⟨.collected w.heap.size,#[]⟩:Deferred)]++a.defers} (setObj w2 w0.heap.size (.loop {s with state:=.exhausted})):=
   ⟨J,(W.trans X).trans s3,⟨n3.1,fun t x hv=>⟨(n3.2 t x (O t x hv)).1,(n3.2 t x (O t x hv)).2.mono ((W.trans X).le)⟩⟩,u3⟩
  refine⟨s.pending,_,b3,?_⟩
  cases st with
  |ready=>
   simp only[uF,kP]at k;subst k;rw[Y.2]at p⊢;exact⟨trivial,p⟩
  |busy=>simp[uF]at k
  |exhausted=>simp[uF]at k
  |done z3=>
   rw[Y.2]at p⊢
   cases z3 with
   |none=>
    simp only[uF,kP]at k;subst k;exact wpIn_ret ⟨trivial,p⟩
   |some id=>
    simp only[uF,kP]at k;subst k;exact wpIn_exit ⟨rfl,p⟩
def xF {nt:Nat}{M:Mu}:∀(d:kC Tmp) (f s:kC kA) (r:T kA) (m:kH kA),(∀t∈d,t<nt)→LR M f s→nt≤m.size→(∀(t:Tmp) (v:kA),r.get t=some v→t<nt∧VR M v (m.getD t undef))→
 nt≤((d.zip s).foldl (fun(m:kH kA) (x:Tmp×kA)=>m.setIfInBounds x.1 x.2) m).size∧
 ∀(t:Tmp) (v:kA),(aBw r d f).get t=some v→t<nt∧VR M v (((d.zip s).foldl (fun(m:kH kA) (x:Tmp×kA)=>m.setIfInBounds x.1 x.2) m).getD t undef)
 |[],f,s,r,m,_,_,hn,hf=>by simp only[aBw,List.zip_nil_left,List.foldl_nil];exact⟨hn,hf⟩
 |p::d,[],s,r,m,hp,hl,hn,hf=>by
  have:s=[]:=pY.1 hl.1.symm;subst this;simp only[aBw,List.zip_nil_right,List.foldl_nil];exact⟨hn,hf⟩
 |p::d,v::f,[],r,m,hp,hl,hn,hf=>dC hl.1 (by simp)
 |p::d,v::f,c::s,r,m,hp,hl,hn,hf=>by
  simp only[aBw,List.zip_cons_cons,dN];have l:LR M f s:=⟨by simpa using hl.1,fun i a b n o=>hl.2 (i+1) a b (by simpa using n) (by simpa using o)⟩;refine xF d f s _ _ (fun t q=>hp t (by simp[q])) l (by simpa using hn) fun t u g=>?_;rw[T.get_set]at g;have h:=hp p (by simp);split at g
  ·rename_i e;subst e;simp only[kP]at g;subst g;refine⟨h,?_⟩;have:(m.setIfInBounds t c).getD t undef=c:=by
    rw[pT,Array.getElem?_setIfInBounds,kM rfl,kM (kT h hn)];rfl
   rw[this];exact hl.2 0 _ _ rfl rfl
  ·rename_i e;obtain⟨j,k⟩:=hf t u g;refine⟨j,?_⟩;rw[pT,Array.getElem?_setIfInBounds_ne (mV e),←pT];exact k
def aEm:Ex→Bool×LSt
 | .normal=>(true,.ready)
 | .ret=>(false,.done none)
 | .exit j=>(false,.done (some j))
def aGl {id:Nat}{a:kC kA}{h:H}{f:T kA}{p:kC Tmp}{s o:Code}(hb:h.get id=some (.loop nt f p s o .ready))(t3:p.length=a.length)
 (n3:∀t∈p,t<nt) (l3:eO s=true) (m3:eO o=true) {J:T kA} {j:H} (c1:aMg P NG nt s (aBw f p a) h .normal J j)
 {n:Nat} {f2:T kA} {p2:kC Tmp} {a2 b2:Code} (L:j.get id=some (.loop n f2 p2 a2 b2 .ready)) {y:Ex} {i3:T kA} {q:H}
 (c2:aMg P NG nt o J (j.put id (.loop n f2 p2 a2 b2 .busy)) y i3 q) {i:Nat} {W:T kA} {X:kC Tmp} {U V:Code} {q3:LSt} (M:q.get id=some (.loop i W X U V q3)):
 h.next≤q.next∧∀z w d l,RH NG z h w→Fresh z h.next q.next→LR z a d→z id=some l→
  ∃g G y3 b,(Instr.yield l.blk ⟨d⟩).run P w=.ok (.round l.blk g G y3 b) w∧RoundIn Fence.wide 0 P l.blk g G y3 b w (nI NG z h w (.bool (aEm y).1) (q.put id (.loop i W X U V (aEm y).2))):=by
 have O:=c1.1;have E:j.next≤q.next:=c2.1;refine⟨kR O E,fun z w d l rh hf hl hm=>?_⟩;obtain⟨h0,r,g1,g2,g3,g4,g5,g6,g7⟩:=rh.br _ _ _ hb hm;have x3:d.length=a.length:=hl.1.symm;have hy:=run_yield (P:=P) (w:=w) (args:=⟨d⟩) g1 (by rw[g3];simp;omega);refine⟨_,_,_,_,hy,roundIn_of_wpIn trivial ?_⟩;rw[g4,g5,g3];have d3:(Array.foldl (fun(tmps:kH kA) (x:Tmp×kA)=>tmps.setIfInBounds x.1 x.2) r.tmps ((⟨p⟩:kH Tmp).zip ⟨d⟩))=(p.zip d).foldl (fun(G:kH kA) (x:Tmp×kA)=>G.setIfInBounds x.1 x.2) r.tmps:=by
  rw[←Array.foldl_toList];simp
 obtain⟨f1,e3⟩:=xF (nt:=nt) p a d f r.tmps n3 hl g6 g7;have p3:s.wpIn (Fr (some l.blk)) 0 P (fun e a' w'=>ExR .normal e∧StepTo NG nt z h w {tmps:=(p.zip d).foldl (fun(G:kH kA) (x:Tmp×kA)=>G.setIfInBounds x.1 x.2) r.tmps,defers:=[]} J j a' w') {tmps:=(p.zip d).foldl (fun(G:kH kA) (x:Tmp×kA)=>G.setIfInBounds x.1 x.2) r.tmps,defers:=[]} w:=
  c1.2 z _ w rh (fun u3 e1 e2=>hf u3 e1 (kT e2 E)) ⟨f1,e3⟩ (some l.blk) (.inr l3)
 show s.wpIn (Fr (some l.blk)) 0 P _ {tmps:=Array.foldl (fun(tmps:kH kA) (x:Tmp×kA)=>tmps.setIfInBounds x.1 x.2) r.tmps ((⟨p⟩:kH Tmp).zip ⟨d⟩),defers:=[]} w;rw[d3];refine wpIn_mono p3 fun e a1 w1 ⟨N,B,S,f3,_⟩=>?_
 cases e with
 |normal=>
  have K:B id=some l:=S.le _ _ hm;obtain⟨_,r2,k1,k2,k3,k4,k5,k6,k7⟩:=S.rh.br _ _ _ L K;refine⟨_,run_beginRound k1 k2.1,?_⟩;have s2:Step NG B j w1 B (j.put id (.loop n f2 p2 a2 b2 .busy)) (setObj w1 l.blk (.loop {r2 with state:=.busy})):=
   Step.write S.rh L rfl rfl K ⟨h0,_,bJ (sT.1 k1).1,rfl,k3,k4,k5,k6,k7⟩
  have R:=c2.2 B a1 (setObj w1 l.blk (.loop {r2 with state:=.busy})) s2.rh (fun u3 e1 e2=>by
   have b3:j.next≤u3:=e1;rw[S.out u3 b3];exact hf u3 (by omega) e2) f3 (some l.blk) (.inr m3)
  refine wpIn_mono (show o.wpIn (Fr (some l.blk)) 0 P _ a1 (setObj w1 l.blk (.loop {r2 with state:=.busy}))from R) fun e a3 w3 ⟨m,D,Y,_,_⟩=>?_;have Q:D id=some l:=Y.le _ _ K;obtain⟨_,r3,j1,j2,j3,j4,j5,j6,j7⟩:=Y.rh.br _ _ _ M Q;have I:∀(u:kB Code) (b:Bool) (Z:LSt),u.isNone=b→(∀r:Loop,cKb Z {r with state:=if u.isNone then .ready else .done,pending:=u})→
   ∃v w',(Instr.endRound l.blk u).run P w3=.ok v w'∧nI NG z h w (.bool b) (q.put id (.loop i W X U V Z)) (.returned v) w':=by
   intro u b Z hj o3;refine⟨_,_,run_endRound (P:=P) u j1,.bool u.isNone,D,rfl,?_,by rw[hj];exact .bool b⟩;have s4:Step NG D q w3 D (q.put id (.loop i W X U V Z)) (setObj w3 l.blk (.loop {r3 with state:=if u.isNone then .ready else .done,pending:=u})):=
    Step.write Y.rh M rfl rfl Q ⟨h0,_,bJ (sT.1 j1).1,o3 r3,j3,j4,j5,j6,j7⟩
   exact((S.trans s2).trans Y).trans s4
  cases e with
  |normal=>
   cases y with
   |normal=>exact I none true .ready rfl fun r=>⟨rfl,rfl⟩
   |ret=>exact m.elim
   |exit v3=>exact m.elim
  |ret=>
   cases y with
   |normal=>exact m.elim
   |ret=>exact I (some .ret) false (.done none) rfl fun r=>⟨rfl,rfl⟩
   |exit v3=>exact m.elim
  |exit k=>
   cases y with
   |normal=>exact m.elim
   |ret=>exact m.elim
   |exit v3=>
    simp only[ExR]at m;subst m;exact I (some (.exit v3)) false (.done (some v3)) rfl fun r=>⟨rfl,rfl⟩
  |goto t=>cases y<;>exact m.elim
  |panic c=>cases y<;>exact m.elim
  |outgrown=>cases y<;>exact m.elim
 |exit k=>exact N.elim
 |ret=>exact N.elim
 |goto t=>exact N.elim
 |panic c=>exact N.elim
 |outgrown=>exact N.elim
def qN {Q:kI}{f:Func}(b:P.funcs[Q]?=some f)(h:f.name≠ "runtime.NumGoroutine")(g:f.body=none){e:kH kA→Sem kA}(c:Extern.findNext f=none)(d:Extern.find f=some e)
 {a:kH kA} {v:kA} {w:kE} (i:(e a).run P w=.ok v w):(callFunc Q a).run P w=.ok (.value v) w:=by
 have n:(f.name== "runtime.NumGoroutine")=false:=by simpa using h
 simp only[callFunc,pD,run_program,pC,b,n,pP,mD,g,Option.isNone_none,mE];simp[c,d,i,Result.andThen,mark,Sem.run]
def jP (s:ByteArray)(w:kE):(Extern.Bytes.bytesOf (.string s)).run P w=.ok s w:=rfl
def aEe (c:Int)(w:kE):(Extern.Bytes.asByte (.int .u8 c)).run P w=.ok c.toNat.toUInt8 w:=rfl
def aCi {Q:kI}{m:Func}(p:P.funcs[Q]?=some m)(f:m.name≠ "runtime.NumGoroutine")(I:m.body=none){a:kC kA}{h j:H}{v:kA}(r:tT (xS m) a h=some (v,j)):
 j=h∧∀o w d,RH NG o h w→LR o a d→∃J L E,(callFunc Q ⟨d⟩).run P w=.ok (.value J) L∧Step NG o h w E j L∧VR E v J:=by
 unfold tT at r;split at r
 ·rename_i s c k;simp only[kP,kW]at r;obtain⟨rfl,rfl⟩:=r;refine⟨rfl,fun o w d D l=>?_⟩;have g:d=[.string s,.int .u8 c]:=by
   match d,l with
   |[x,y],l=>
    have u:=l.2 0 _ _ rfl rfl;have z:=l.2 1 _ _ rfl rfl;cases u;cases z;rfl
   |[],l=>have:=l.1;simp at this
   |[_],l=>have:=l.1;simp at this
   |_::_::_::_,l=>have:=l.1;simp at this
  subst g;have e:m.name= "internal/bytealg.IndexByteString" ∧m.origin= "" :=by
   unfold xS at k;split at k<;>rename_i G
   ·exact G
   ·split at k
    ·simp at k
    ·split at k<;>simp at k
  obtain⟨q,t⟩:=qM e.1 e.2 Extern.BytealgIndexByte.indexByte (by kernel_rfl) (by kernel_rfl) (by kernel_rfl) (by kernel_rfl) (by kernel_rfl);refine⟨_,w,o,qN p f I q t (v:=.int .i64 (match(List.range s.size).find? fun i=>s[i]! ==c.toNat.toUInt8 with|some i=>(i:Int)|none=> -1)) ?_,Step.refl D,.int _ _⟩
  have B:Extern.BytealgIndexByte.indexByte ⟨[.string s,.int .u8 c]⟩=(do
   let b←Extern.Bytes.bytesOf (.string s);let c←Extern.Bytes.asByte (.int .u8 c)
   match(List.range b.size).find? fun i=>b[i]! ==c with
   |some i=>pure (goInt i)
   |none=>pure (goInt (-1))):=rfl
  rw[B];simp only[pD,jP,aEe,pC];cases(List.range s.size).find? fun i=>s[i]! ==c.toNat.toUInt8<;>rfl
 ·rename_i s c k;simp only[kP,kW]at r;obtain⟨rfl,rfl⟩:=r;refine⟨rfl,fun o w d D l=>?_⟩;have g:d=[.string s,.int .u8 c]:=by
   match d,l with
   |[x,y],l=>
    have u:=l.2 0 _ _ rfl rfl;have z:=l.2 1 _ _ rfl rfl;cases u;cases z;rfl
   |[],l=>have:=l.1;simp at this
   |[_],l=>have:=l.1;simp at this
   |_::_::_::_,l=>have:=l.1;simp at this
  subst g;have e:m.name= "internal/bytealg.CountString" ∧m.origin= "" :=by
   unfold xS at k;split at k<;>rename_i G
   ·simp at k
   ·split at k<;>rename_i K
    ·exact K
    ·split at k<;>simp at k
  obtain⟨q,t⟩:=qM e.1 e.2 Extern.BytealgCount.count (by kernel_rfl) (by kernel_rfl) (by kernel_rfl) (by kernel_rfl) (by kernel_rfl);refine⟨_,w,o,qN p f I q t (v:=.int .i64 (s.foldl (fun(n:Int) x=>if x==c.toNat.toUInt8 then n+1 else n) ((0:Nat):Int))) ?_,Step.refl D,.int _ _⟩
  have B:Extern.BytealgCount.count ⟨[.string s,.int .u8 c]⟩=(do
   let b←Extern.Bytes.bytesOf (.string s);let c←Extern.Bytes.asByte (.int .u8 c)
   pure (goInt (b.foldl (fun(n:Int) x=>if x==c then n+1 else n) ((0:Nat):Int)))):=rfl
  rw[B];simp only[pD,jP,aEe,pC];rfl
 ·rename_i M b k;simp only[kP,kW]at r;obtain⟨rfl,rfl⟩:=r;refine⟨rfl,fun o w d D l=>?_⟩;have g:d=[.string M,.string b]:=by
   match d,l with
   |[x,y],l=>
    have u:=l.2 0 _ _ rfl rfl;have z:=l.2 1 _ _ rfl rfl;cases u;cases z;rfl
   |[],l=>have:=l.1;simp at this
   |[_],l=>have:=l.1;simp at this
   |_::_::_::_,l=>have:=l.1;simp at this
  subst g;have e:m.name= "internal/bytealg.abigen_runtime_cmpstring" ∧m.origin= "" :=by
   unfold xS at k;split at k<;>rename_i G
   ·simp at k
   ·split at k<;>rename_i K
    ·simp at k
    ·split at k<;>rename_i h3
     ·exact h3
     ·simp at k
  obtain⟨q,t⟩:=qM e.1 e.2 Extern.BytealgCompare.compare (by kernel_rfl) (by kernel_rfl) (by kernel_rfl) (by kernel_rfl) (by kernel_rfl);refine⟨_,w,o,qN p f I q t (v:=.int .i64 (Extern.BytealgCompare.cmp M b)) ?_,Step.refl D,.int _ _⟩;have B:Extern.BytealgCompare.compare ⟨[.string M,.string b]⟩=(do pure (goInt (Extern.BytealgCompare.cmp (←Extern.Bytes.bytesOf (.string M)) (←Extern.Bytes.bytesOf (.string b))))):=rfl;rw[B];simp only[pD,jP,pC];rfl
 ·simp at r
def nU {f:Func}{t:kH kA}{R:Ending→kE→Prop}{M U:Mu}{h j:H}{w:kE}:∀(m:kC Nat) (c:kE),Step NG M h w U j c→m.Nodup→(∀r∈m,w.heap.size≤r∧c.heap[r]?=some (.deferred (some [])))→
 (∀b,Step NG M h w U j b→∃v,(results f t).run P b=.ok v b∧R (.returned v) b)→LeavesInM (Fr none) 0 P f t R (m.map (fun r=>(⟨.collected r,#[]⟩:Deferred))) .returning c
 |[],c,st,_,_,hR=>hR c st
 |r::m,c,st,hnd,hms,hR=>by
  obtain⟨i,g⟩:=hms r (by simp);refine⟨by simp,.inl ⟨r,_,rfl,run_takeDeferred g,?_⟩⟩;have n:∀d∈m,d≠r:=fun d a e=>by subst e;exact(tW.1 hnd).1 a
  exact nU m (setObj c r (.deferred none)) (st.shut g i _) (tW.1 hnd).2
   (fun d a=>⟨(hms d (by simp[a])).1,by rw[iJ (n d a)];exact(hms d (by simp[a])).2⟩) hR
end
def jC (f:Func):kC Tmp:=f.results.toList.map fun| .tmp t=>t| .cell t _=>t
def aJy (P:kD)(f:T kA)(h:H):kC ResultVar→kB (kC kA)
  |[]=>some []
  | .tmp t::r=>match f.get t with
    |some v=>(match aJy P f h r with|some s=>some (v::s)|none=>none)
    |none=>none
  | .cell t ty::r=>match f.get t,aFj P ty,szP P ty with
    |some p,some g,some n=>(match A.load g n p h with
      |some v=>(match aJy P f h r with|some s=>some (v::s)|none=>none)
      |none=>none)
    |_,_,_=>none
def tP:kC kA→kA
  |[v]=>v
  |vs=>.tuple ⟨vs⟩
def nH:Nat→kC kA→T kA
  |_,[]=>.nil
  |i,v::r=>(nH (i+1) r).set i (some v)
def iB (P:kD):Bool:=(P.funcs.toList.all fun f=>f.name != "runtime.NumGoroutine")&&Nat.ble P.funcs.size 1099511627776
def nL {P:kD}(a:iB P=true){n:Nat}{f:Func}(h:P.funcs[n]?=some f):f.name≠ "runtime.NumGoroutine" ∧n<Y0:=by
  unfold iB at a;simp only[pA]at a;have m:f∈P.funcs.toList:=by rw[Array.mem_toList_iff];exact Array.mem_of_getElem? h
  have b:=mB.1 a.1 f m;have c:=Nat.le_of_ble_eq_true a.2;have h3:=(sT.1 h).1;exact⟨by simpa using b,by show n<1099511627776;omega⟩
section
variable {P:kD}{NG nt:Nat}{C:CF}
def wZ:∀(a:kC kA) (i t:Nat) (v:kA),(nH i a).get t=some v→i≤t∧a[t-i]?=some v
  |[],i,t,v,h=>by simp[nH]at h
  |x::r,i,t,v,h=>by
    simp only[nH,T.get_set]at h;split at h
    ·rename_i e;subst e;simp at h;subst h;simp
    ·rename_i e;obtain⟨c,b⟩:=wZ r (i+1) t v h;refine⟨by omega,?_⟩;rw[show t-i=(t-(i+1))+1 by omega];simpa using b
def uN {f:T kA}{h:H}{M:Mu}{w:kE}{Z:Act}(y:RH NG M h w)(z:FR nt M f Z):∀(d:kC ResultVar) (k:kC kA),aJy P f h d=some k→
    ∃c,(d.mapM (m:=Sem) fun| .tmp t=>pure (Z.tmps.getD t undef)| .cell e t=>do loadVar t (←asAddr (Z.tmps.getD e undef))).run P w=.ok c w∧LR M k c
  |[],k,hr=>by
    simp only[aJy,kP]at hr;subst hr;exact⟨[],rfl,.nil⟩
  | .tmp t::d,k,hr=>by
    simp only[aJy]at hr;split at hr
    ·rename_i v a;split at hr
     ·rename_i s b;simp only[kP]at hr;subst hr;obtain⟨c,r,o⟩:=uN y z d s b;exact⟨_::c,by simp only[List.mapM_cons,pD,pG,pC,r],.cons (z.2 t v a).2 o⟩
     ·simp at hr
    ·simp at hr
  | .cell t ty::d,k,hr=>by
    simp only[aJy]at hr;split at hr
    ·rename_i p g n B G I;split at hr
     ·rename_i v a;split at hr
      ·rename_i s b;simp only[kP]at hr;subst hr;obtain⟨c,r,o⟩:=uN y z d s b;obtain⟨D,l,x⟩:=uP P y G I a (z.2 t p B).2;have:∃e,Z.tmps.getD t undef=.pointer (some e):=by
         have j:=(z.2 t p B).2;have:∃q,p=.pointer (some q):=by
           cases g with
           |true=>
             simp only[A.load,sV]at a;unfold A.loadN at a;split at a
             ·exact⟨_,rfl⟩
             ·simp at a
           |false=>
             simp only[A.load,sW]at a;unfold A.load1 at a;split at a
             ·exact⟨_,rfl⟩
             ·simp at a
         obtain⟨q,rfl⟩:=this;generalize Z.tmps.getD t undef=u at j;cases j;exact⟨_,rfl⟩
       obtain⟨e,i⟩:=this;rw[i]at l;simp only[Instr.loadAt,Instr.sureAddr,pD,pG,pC]at l;have E:(asAddr (Z.tmps.getD t undef)).run P w=.ok e w:=by rw[i];rfl
       exact⟨D::c,by simp only[List.mapM_cons,pD,E,pG,pC,l,r],.cons x o⟩
      ·simp at hr
     ·simp at hr
    ·simp at hr
def tG {n:Func}{f:T kA}{h:H}{M:Mu}{w:kE}{Z:Act}(g:RH NG M h w)(i:FR nt M f Z){a:kC kA}(d:aJy P f h n.results.toList=some a):
    ∃b,(results n Z.tmps).run P w=.ok b w∧VR M (tP a) b:=by
  obtain⟨s,r,l⟩:=uN g i _ _ d;have e:(n.results.mapM (m:=Sem) fun| .tmp t=>pure (Z.tmps.getD t undef)| .cell ad t=>do loadVar t (←asAddr (Z.tmps.getD ad undef))).run P w=.ok s.toArray w:=by
    rw[Array.mapM_eq_mapM_toList];simp only[Sem.run_map];have:=r;rw[this];rfl
  clear r d
  match a,s,l,e with
  |[v],[c],l,e=>
    refine⟨c,?_,l.2 0 v c rfl rfl⟩;simp only[results,pD];exact(sX (fun q=>Result.andThen q _) e).trans rfl
  |[],[],l,e=>
    refine⟨.tuple ⟨[]⟩,?_,.tuple [] [] rfl (by simp)⟩;simp only[results,pD];exact(sX (fun q=>Result.andThen q _) e).trans rfl
  |v::v2::a,c::c2::s,l,e=>
    refine⟨.tuple ⟨c::c2::s⟩,?_,.tuple _ _ l.1 l.2⟩;simp only[results,pD];refine(sX (fun q=>Result.andThen q _) e).trans ?_;simp only[pC,pG];rw[dif_neg (by simp)]
  |[],_::_,l,_=>exact dC l.1 (by simp)
  |_::_,[],l,_=>exact dC l.1 (by simp)
  |[_],_::_::_,l,_=>exact dC l.1 (by simp)
  |_::_::_,[_],l,_=>exact dC l.1 (by simp)
def aCv {Y:Type}{a:kC kA}{K:Nat→kC kA→kB Y}{r:Y}(h:bFb a K=some r):∃id v k,a=.int k (.ofNat id)::v∧K id v=some r:=by
  unfold bFb at h;split at h
  ·exact⟨_,_,_,rfl,h⟩
  ·simp at h
def aCk {n:Nat}(e:n=Y0):¬n<Y0:=by rw[e];exact Nat.lt_irrefl _
def oI (hn:iB P=true){Q:kI}{m:Func}(q:P.funcs[Q]?=some m){c:Code}(W:m.body=some c){a:kC kA}{h:H}(B:a.length≤m.ntmps)
    {L:Ex} {f:T kA} {j:H} (z:aMg P NG m.ntmps c (nH 0 a) h L f j) (O:L=.normal∨L=.ret) {d:kC kA} (E:aJy P f j m.results.toList=some d):
    h.next≤j.next∧
    (Q<Y0→∃m,P.funcs[Q]?=some m∧m.name≠ "runtime.NumGoroutine" ∧
      (((∃c,m.body=some c)∧∀k w i,RH NG k h w→Fresh k h.next j.next→LR k a i→Calls P Q ⟨i⟩ w (nI NG k h w (tP d) j))∨
       (m.body=none∧∀k w i,RH NG k h w→Fresh k h.next j.next→LR k a i→∃x I p,(callFunc Q ⟨i⟩).run P w=.ok (.value x) I∧Step NG k h w p j I∧VR p (tP d) x)))∧
    (∀id U,Q=Y0→a=.int .i64 (.ofNat id)::U→∀k w i l,RH NG k h w→Fresh k h.next j.next→LR k U i→k id=some l→
      ∃g tm a3 b,(Instr.yield l.blk ⟨i⟩).run P w=.ok (.round l.blk g tm a3 b) w∧RoundIn Fence.wide 0 P l.blk g tm a3 b w (nI NG k h w (tP d) j)):=by
  obtain⟨v,o⟩:=nL hn q;refine⟨z.1,fun _=>⟨m,q,v,.inl ⟨⟨c,W⟩,fun k w i rh hf Y=>callsIn_Fr.1 (callsIn_of_wp_marks (F:=Fr none) (n:=0) q W trivial ?_)⟩⟩,fun id U e=>dC o (aCk e)⟩;have N:i.length=a.length:=Y.1.symm;have f0:FR m.ntmps k (nH 0 a) {tmps:=(⟨i⟩:kH kA)++Array.replicate (m.ntmps-(⟨i⟩:kH kA).size) undef,defers:=[]}:=by
    refine⟨by simp;omega,fun(t:Nat) u hu=>?_⟩;obtain⟨_,M⟩:=wZ a 0 t u hu;simp only[dJ]at M;have o:t<a.length:=(pX.1 M).1;refine⟨kT o B,?_⟩;obtain⟨b,hb,R⟩:=Y.get M;have D:t<i.length:=by rw[N];exact o
    have:((⟨i⟩:kH kA)++Array.replicate (m.ntmps-(⟨i⟩:kH kA).size) undef)[t]?=some b:=by
      rw[Array.getElem?_append_left (by simpa using D)];simpa using hb
    simp only[pT,this,pQ];exact R
  refine wpIn_mono (z.2 k _ w rh hf f0 none (.inl rfl)) fun e J I ⟨X,p,st,f',Z,ed,nd,gd⟩=>?_;have y:LeavesInM (Fr none) 0 P m J.tmps (nI NG k h w (tP d) j) J.defers .returning I:=by
    have K:J.defers=Z.map (fun r=>(⟨.collected r,#[]⟩:Deferred)):=by rw[ed];simp
    rw[K];refine nU Z I st nd gd fun V s=>?_;obtain⟨x,G,S⟩:=tG (w:=V) s.rh f' E;exact⟨x,G,x,p,rfl,s,S⟩
  rcases O with rfl|rfl
  ·cases e with
   |normal=>exact y
   |_=>exact X.elim
  ·cases e with
   |ret=>exact y
   |_=>exact X.elim
def aDp (x:iB P=true){Q:kI}{i:Func}(k:P.funcs[Q]?=some i)(q:i.body=none){a:kC kA}{h j:H}{v:kA}(y:tT (xS i) a h=some (v,j)):
    h.next≤j.next∧
    (Q<Y0→∃i,P.funcs[Q]?=some i∧i.name≠ "runtime.NumGoroutine" ∧
      (((∃c,i.body=some c)∧∀f w d,RH NG f h w→Fresh f h.next j.next→LR f a d→Calls P Q ⟨d⟩ w (nI NG f h w v j))∨
       (i.body=none∧∀f w d,RH NG f h w→Fresh f h.next j.next→LR f a d→∃p r m,(callFunc Q ⟨d⟩).run P w=.ok (.value p) r∧Step NG f h w m j r∧VR m v p)))∧
    (∀id u,Q=Y0→a=.int .i64 (.ofNat id)::u→∀f w d l,RH NG f h w→Fresh f h.next j.next→LR f u d→f id=some l→
      ∃g t D b,(Instr.yield l.blk ⟨d⟩).run P w=.ok (.round l.blk g t D b) w∧RoundIn Fence.wide 0 P l.blk g t D b w (nI NG f h w v j)):=by
  obtain⟨n,o⟩:=nL x k;obtain⟨rfl,z⟩:=aCi (NG:=NG) k n q y;exact⟨kQ _,fun _=>⟨i,k,n,.inr ⟨q,fun f w d B _ s=>z f w d B s⟩⟩,fun id u e=>dC o (aCk e)⟩
end
open Go.RowKit
def RH.nothing (w:kE):RH 0 (fun _=>none) ⟨.nil,0⟩ w:=
 ⟨kQ _,fun id b h=>by simp[H.get]at h,fun id b l h=>by simp[H.get]at h,fun id b l i c e h=>by simp[H.get]at h,
  fun id l a=>by simp at a,fun g d=>by omega⟩
def Step.below {n:Nat}{M U:Mu}{h j:H}{w W:kE}(s:Step n M h w U j W)(o:∀id k,h.get id=some k→k.owned=false):Below w.heap.size w W:=
 ⟨s.os,s.tape,s.output,s.size,fun k d=>s.frame k d fun id c l b a=>by rw[o id c b]at a;simp at a⟩
section
variable {β:Type}
def aP (v:kA)(x y:kB β):kB β:=
  match v with
  | .bool t=>bif t then x else y
  |_=>none
def aHr (e:Ex)(n:T kA→H→kB β)(K:Ex→T kA→H→kB β)(f:T kA)(h:H):kB β:=
  match e with
  | .normal=>n f h
  | .exit j=>K (.exit j) f h
  | .ret=>K .ret f h
def nX (id:Nat)(e:Ex)(K:Ex→T kA→H→kB β)(f:T kA)(h:H):kB β:=
  match e with
  | .normal=>K .normal f h
  | .exit j=>bif Nat.beq j id then K .normal f h else K (.exit j) f h
  | .ret=>K .ret f h
def lN (f:T kA→H→(Ex→T kA→H→kB β)→kB β):Nat→T kA→H→(Ex→T kA→H→kB β)→kB β
  |0,_,_,_=>none
  |n+1,r,h,K=>f r h fun e a b=>aHr e (fun r h=>lN f n r h K) K a b
def exL:kC (Nat×(H→kB β))→Nat→H→kB β
  |[],_,_=>none
  |(i,k)::r,id,h=>bif Nat.beq i id then k h else exL r id h
def oU (l:Nat)(h:H)(k r:H→kB β)(x:Nat→H→kB β):kB β:=
  match h.get l with
  |some (.loop nt' fr' ps' as' bd' st)=>
    (match st with
     | .ready=>k (h.put l (.loop nt' fr' ps' as' bd' .exhausted))
     | .done none=>r (h.put l (.loop nt' fr' ps' as' bd' .exhausted))
     | .done (some id)=>x id (h.put l (.loop nt' fr' ps' as' bd' .exhausted))
     |_=>none)
  |_=>none
def execK (P:kD)(C:CF)(L N nt:Nat)(RR:kC Tmp):Code→kC Tmp→kC (Nat×kC Tmp)→T kA→H→(Ex→T kA→H→kB β)→kB β
  | .skip,out,_,f,h,K=>K .normal (bY f out) h
  | .region _ ops draw,out,_,f,h,K=>
    bif gC nt ops then
      bif draw then
        (bif lR P ops (before ops)then runD P C N ops (before ops) 0 ops.toList f h [] [] fun f h=>K .normal (bY f out) h else none)
      else runOps P C N ops ops.toList f h fun f h=>K .normal (bY f out) h
    else none
  | .seq a b,out,env,f,h,K=>
    execK P C L N nt RR a (live RR b out env) env f h fun e r d=>aHr e (fun f h=>execK P C L N nt RR b out env f h K) K r d
  | .cond c a b,out,env,f,h,K=>
    (aH N f h c).bind fun v=>aP v (execK P C L N nt RR a out env f h K) (execK P C L N nt RR b out env f h K)
  | .block id b,out,env,f,h,K=>
    execK P C L N nt RR b out ((id,out)::env) f h fun e r d=>nX id e K r d
  | .loop b,_,env,f,h,K=>lN (fun f h K=>execK P C L N nt RR b (live RR b [] env) env f h K) L (bY f (live RR b [] env)) h K
  | .exit id,_,env,f,h,K=>K (.exit id) (bY f (aMd id env)) h
  | .scope b,out,env,f,h,K=>execK P C L N nt RR b out env f h K
  | .label _,out,_,f,h,K=>K .normal (bY f out) h
  | .ret,_,_,f,h,K=>K .ret (bY f RR) h
  | .rangeFunc g ps assign body,out,env,f,h,K=>
    (aH N f h g).bind fun i=>
    bif aTj P i then(callV C i [.func (.yield h.next) #[] #[]] (h.push (.loop nt f ps.toList assign body .ready))).bind fun(_,j)=>oU h.next j (fun h=>K .normal (bY f out) h) (fun h=>K .ret (bY f RR) h) (exL (env.map fun p=>(p.1,fun h=>K (.exit p.1) (bY f p.2) h)))
    else none
  |_,_,_,_,_,_=>none
def yV (P:kD)(f:Func)(K:kA→H→kB β)(e:Ex)(r:T kA)(h:H):kB β:=
  match e with
  | .exit _=>none
  |_=>(aJy P r h f.results.toList).bind fun v=>K (tP v) h
def fR (P:kD)(C:CF)(L NG:Nat)(f:Func)(c:Code)(a:kC kA)(h:H)(K:kA→H→kB β):kB β:=
  bif Nat.ble a.length f.ntmps then
    execK P C L NG f.ntmps (jC f) c (jC f) [] (nH 0 a) h (yV P f K)
  else none
end
def roundK {β:Type}(P:kD)(C:CF)(L N:Nat)(id:Nat)(a:kC kA)(h:H)(K:kA→H→kB β):kB β:=
  match h.get id with
  |some (.loop nt fr ps assign body .ready)=>
    bif Nat.beq ps.length a.length&&ps.all (fun t=>Nat.blt t nt)&&eO assign&&eO body then
      execK P C L N nt [] assign (live [] body [] []) [] (aBw fr ps a) h fun e f b=>match e with
        | .normal=>(match b.get id with
          |some (.loop nt2 f2 p2 a2 b2 .ready)=>execK P C L N nt [] body [] [] f (b.put id (.loop nt2 f2 p2 a2 b2 .busy)) fun e _ c=>(match c.get id with
            |some (.loop nt4 f4 p4 a4 b4 _)=>K (.bool (aEm e).1) (c.put id (.loop nt4 f4 p4 a4 b4 (aEm e).2))
            |_=>none)
          |_=>none)
        |_=>none
    else none
  |_=>none
def Step.ofBelow {n:Nat}{M:Mu}{h:H}{w W:kE}(r:RH n M h w)(b:Go.RowKit.Below w.heap.size w W):Step n M h w M h W where
  wf:=r.wf
  le:=fun _ _ h=>h
  old:=fun _ _=>rfl
  out:=fun _ _=>rfl
  next:=kQ _
  rh:=⟨r.ng,r.wf,fun id c l e a=>(r.br id c l e a).congr (b.block l.blk (r.bd _ _ a)),r.inj,fun id l a=>kT (r.bd id l a) b.size,r.gl⟩
  size:=b.size
  os:=b.os
  tape:=b.tape
  output:=b.output
  frame:=fun k d _=>b.block k d
  src:=fun id k l d o a=>.inr ⟨id,k,l,d,o,a,rfl⟩
  unm:=fun _ _ h _=>h
  dead:=fun _ _ h=>h
  ro:=fun _ _ h _=>h
section
variable {β:Type}{P:kD}{NG nt:Nat}{C:CF}
def FR.keep {M:Mu}{s:kC Tmp}{f:T kA}{Z:Act}(a:FR nt M f Z):FR nt M (bY f s) Z:=
  ⟨a.1,fun t v h=>a.2 t v (jR f s t v h)⟩
def KS (P:kD)(NG nt:Nat)(c:Code)(b:T kA)(h:H)(K:Ex→T kA→H→kB β)(r:β):Prop:=
  ∃e f a,K e f a=some r∧aMg P NG nt c b h e f a
def aGu {f:T kA→H→(Ex→T kA→H→kB β)→kB β}{b:Code}(Z:∀k h K r,f k h K=some r→KS P NG nt b k h K r):
    ∀(n:Nat) (k:T kA) (h:H) (K:Ex→T kA→H→kB β) (r:β),lN f n k h K=some r→
      ∃x c i,K x c i=some r∧x≠.normal∧h.next≤i.next∧
      ∀(g:Mu) (a:Act) (w:kE),RH NG g h w→Fresh g h.next i.next→FR nt g k a→∀(o:kB Nat),(o=none∨eO b=true)→
        Code.roundsIn (Fr o) 0 P b (fun e u E=>ExR x e∧StepTo NG nt g h w a c i u E) n a w:=by
  intro n
  induction n with
  |zero=>intro k h K r J;simp[lN]at J
  |succ n S=>
    intro k h K r J;simp only[lN]at J;obtain⟨L,z,M,t,p⟩:=Z _ _ _ _ J
    cases L with
    |normal=>
      simp only[aHr]at t;obtain⟨x,c,i,Y,N,hle,R⟩:=S _ _ _ _ t;refine⟨x,c,i,Y,N,kR p.1 hle,fun g a w D q y o d=>?_⟩;rw[roundsIn_succ];refine wpIn_mono (p.2 g a w D (fun id V W=>q id V (kT W hle)) y o d) fun e v w1 ⟨l,G,Q,X,U⟩=>?_
      cases e with
      |normal=>
        have:=R G v w1 Q.rh (q.second Q) X o d;clear R S;have B:∀(m:Nat) (I:Act) (w2:kE),Code.roundsIn (Fr o) 0 P b (fun e u E=>ExR x e∧StepTo NG nt G M w1 v c i u E) m I w2→
            Code.roundsIn (Fr o) 0 P b (fun e u E=>ExR x e∧StepTo NG nt g h w a c i u E) m I w2:=by
          intro m
          induction m with
          |zero=>intro I w2 j;exact j
          |succ m O=>
            intro I w2 j;rw[roundsIn_succ]at j⊢;refine wpIn_mono j fun e a3 w3 j=>?_
            cases e with
            |normal=>exact O _ _ j
            |_=>exact⟨j.1,j.2.trans Q U⟩
        exact B n v w1 this
      |_=>exact l.elim
    |exit id=>
      simp only[aHr]at t;refine⟨.exit id,z,M,t,by simp,p.1,fun g a w D q y o d=>?_⟩;rw[roundsIn_succ];refine wpIn_mono (p.2 g a w D q y o d) fun e v w1 ⟨l,s⟩=>?_
      cases e with
      |normal=>exact l.elim
      |_=>exact⟨l,s⟩
    |ret=>
      simp only[aHr]at t;refine⟨.ret,z,M,t,by simp,p.1,fun g a w D q y o d=>?_⟩;rw[roundsIn_succ];refine wpIn_mono (p.2 g a w D q y o d) fun e v w1 ⟨l,s⟩=>?_
      cases e with
      |normal=>exact l.elim
      |_=>exact⟨l,s⟩
def aJi {f:T kA}{K:Ex→T kA→H→kB β}:∀{env:kC (Nat×kC Tmp)} {id:Nat} {h:H} {r:β},exL (env.map fun p=>(p.1,fun h=>K (.exit p.1) (bY f p.2) h)) id h=some r→∃s,K (.exit id) (bY f s) h=some r
  |[],id,h,r,hr=>by simp[exL]at hr
  |(i,s)::env,id,h,r,hr=>by
    simp only[mH,exL]at hr
    cases b:Nat.beq i id with
    |true=>rw[b]at hr;have:=beq_iff.1 b;subst this;exact⟨s,hr⟩
    |false=>rw[b]at hr;exact aJi (env:=env) hr
def aAj {F:Fence}{n:Nat}{P:kD}{Q:Exit→Act→kE→Prop}{Z:Act}{w:kE}{c:Code}(h:c.wpIn F n P Q Z w)(u:∀l Z w,¬Q (.goto l) Z w):(Code.scope c).wpIn F n P Q Z w:=by
  intro b k s o i r;have t:step P (lone (b.atR Z (.code (.scope c)::k)) s w)=.next (lone (b.atR Z (.code c::.inScope c::k)) s w):=step_lone_go (by simp[stepG,stepG.exec,Frame.atR]);have p:∀Z w,step P (lone (b.atR Z (.inScope c::k)) s w)=.next (lone (b.atR Z k) s w):=fun _ _=>step_lone_go (by simp[stepG,stepG.exec,Frame.atR]);have g:(lone (b.atR Z (.code (.scope c)::k)) s w).fenced P F:=fenced_calm i r rfl;obtain⟨e,d,f,q,a⟩:=h b (.inScope c::k) s o i r
  cases e with
  |normal=>exact⟨.normal,d,f,q,.head g t (StepsIn.trans a (.one (fenced_calm i r rfl) (p _ _)))⟩
  |exit id=>
    have x:exitTo id (.inScope c::k)=exitTo id k:=by simp[exitTo]
    exact⟨.exit id,d,f,q,fun v j=>.head g t (a.1 v (by rw[x];exact j)),
      fun m j=>let⟨k₁,h1,h2⟩:=a.2 m (by rw[x];exact j);⟨k₁,h1,.head g t h2⟩⟩
  |goto l=>exact dC q (u _ _ _)
  |ret=>exact⟨_,d,f,q,.of_steps (.one g t) a⟩
  |panic y=>exact⟨_,d,f,q,.of_steps (.one g t) a⟩
  |outgrown=>exact⟨_,d,f,q,.of_steps (.one g t) a⟩
def lJ (d3:aL P=true)(hm:P.follows .mixedOrders=true)(hC:aO P NG C){n:Nat}{RR:kC Tmp}:
    ∀(c:Code) (B:kC Tmp) (env:kC (Nat×kC Tmp)) (E:T kA) (h:H) (K:Ex→T kA→H→kB β) (r:β),
      execK P C n NG nt RR c B env E h K=some r→KS P NG nt c E h K r:=by
  intro c
  induction c with
  |skip=>
    intro B env E h K r i;exact⟨_,_,_,i,kQ _,fun u a w q _ f z _=>wpIn_skip ⟨trivial,u,Step.refl q,f.keep,Marks.refl _ _ _⟩⟩
  |label l=>
    intro B env E h K r i;exact⟨_,_,_,i,kQ _,fun u a w q _ f z _=>wpIn_label ⟨trivial,u,Step.refl q,f.keep,Marks.refl _ _ _⟩⟩
  |exit id=>
    intro B env E h K r i;exact⟨_,_,_,i,kQ _,fun u a w q _ f z _=>wpIn_exit ⟨rfl,u,Step.refl q,f.keep,Marks.refl _ _ _⟩⟩
  |ret=>
    intro B env E h K r i;exact⟨_,_,_,i,kQ _,fun u a w q _ f z _=>wpIn_ret ⟨trivial,u,Step.refl q,f.keep,Marks.refl _ _ _⟩⟩
  |region id j3 b3=>
    intro B env E h K r i;simp only[execK]at i;obtain⟨hd,i⟩:=aB i
    cases b3 with
    |false=>
      simp only[sW]at i;obtain⟨M,h1,G,hle,X⟩:=gU d3 hC hd j3.toList 0 E h rfl i;refine⟨_,_,_,G,hle,fun u a w q D f z m=>wpIn_region ?_⟩;have:=X u a w q D f z (fun e a' w'=>ExR .normal e∧StepTo NG nt u h w a (bY M B) h1 a' w') fun a' w' ⟨a3,Q,f',d⟩=>⟨trivial,a3,Q,f'.keep,by rw[d];exact Marks.refl _ _ _⟩;rw[dJ,←List.range_eq_range']at this;exact this
    |true=>
      simp only[sV]at i;obtain⟨g3,i⟩:=aB i;obtain⟨M,h1,G,hle,X⟩:=uM d3 hC hd g3 i;refine⟨_,_,_,G,hle,fun u a w q D f z m=>wpIn_region_any hm ?_⟩;exact X u a w q D f z _ fun a' w' ⟨a3,Q,f',d⟩=>⟨trivial,a3,Q,f'.keep,by rw[d];exact Marks.refl _ _ _⟩
  |seq x y Y Z=>
    intro B env E h K r i;simp only[execK]at i;obtain⟨L,M,h1,G,o⟩:=Y _ _ _ _ _ _ i
    cases L with
    |normal=>
      simp only[aHr]at G;obtain⟨ex2,f3,h2,S,U⟩:=Z _ _ _ _ _ _ G;refine⟨ex2,f3,h2,S,kR o.1 U.1,fun u a w q D f z m=>wpIn_seq (wpIn_mono (o.2 u a w q (fun id e1 e2=>D id e1 (kT e2 U.1)) f z (yR m).1) fun e R w1 ⟨I,k3,Q,f1,d1⟩=>?_)⟩
      cases e with
      |normal=>exact wpIn_mono (U.2 k3 R w1 Q.rh (D.second Q) f1 z (yR m).2) fun e a2 w2 ⟨i3,p⟩=>⟨i3,p.trans Q d1⟩
      |_=>exact I.elim
    |exit id=>
      refine⟨_,_,_,G,o.1,fun u a w q D f z m=>wpIn_seq (wpIn_mono (o.2 u a w q D f z (yR m).1) fun e R w1 ⟨I,p⟩=>?_)⟩
      cases e with
      |normal=>exact I.elim
      |_=>exact⟨I,p⟩
    |ret=>
      refine⟨_,_,_,G,o.1,fun u a w q D f z m=>wpIn_seq (wpIn_mono (o.2 u a w q D f z (yR m).1) fun e R w1 ⟨I,p⟩=>?_)⟩
      cases e with
      |normal=>exact I.elim
      |_=>exact⟨I,p⟩
  |cond c x y Y Z=>
    intro B env E h K r i;simp only[execK]at i;obtain⟨v,hc,i⟩:=bind_some i;unfold aP at i;split at i
    ·rename_i t
     cases t with
     |true=>
       simp only[sV]at i;obtain⟨ex,N,h',S,hx⟩:=Y _ _ _ _ _ _ i;exact⟨ex,N,h',S,hx.1,fun u a w q D f z m=>wpIn_cond_true ((f.ev q c _ hc).bool_inv) (hx.2 u a w q D f z (yR m).1)⟩
     |false=>
       simp only[sW]at i;obtain⟨ex,N,h',S,hy⟩:=Z _ _ _ _ _ _ i;exact⟨ex,N,h',S,hy.1,fun u a w q D f z m=>wpIn_cond_false ((f.ev q c _ hc).bool_inv) (hy.2 u a w q D f z (yR m).2)⟩
    ·simp at i
  |block id b ih=>
    intro B env E h K r i;simp only[execK]at i;obtain⟨L,M,h1,G,o⟩:=ih _ _ _ _ _ _ i
    cases L with
    |normal=>
      refine⟨_,_,_,G,o.1,fun u a w q D f z m=>wpIn_block (wpIn_mono (o.2 u a w q D f z m) fun e R w1 ⟨I,p⟩=>?_)⟩
      cases e with
      |normal=>exact⟨trivial,p⟩
      |_=>exact I.elim
    |ret=>
      refine⟨_,_,_,G,o.1,fun u a w q D f z m=>wpIn_block (wpIn_mono (o.2 u a w q D f z m) fun e R w1 ⟨I,p⟩=>?_)⟩
      cases e with
      |ret=>exact⟨trivial,p⟩
      |_=>exact I.elim
    |exit j=>
      simp only[nX]at G
      cases O:Nat.beq j id with
      |true=>
        rw[O]at G;simp only[sV]at G;have O:=beq_iff.1 O;refine⟨_,_,_,G,o.1,fun u a w q D f z m=>wpIn_block (wpIn_mono (o.2 u a w q D f z m) fun e R w1 ⟨I,p⟩=>?_)⟩
        cases e with
        |exit k=>
          simp only[ExR]at I;simp only[Exit.inBlock,←I,O,mE];exact⟨trivial,p⟩
        |_=>exact I.elim
      |false=>
        rw[O]at G;simp only[sW]at G;have O:j≠id:=fun e=>by rw[beq_iff.2 e]at O;simp at O
        refine⟨_,_,_,G,o.1,fun u a w q D f z m=>wpIn_block (wpIn_mono (o.2 u a w q D f z m) fun e R w1 ⟨I,p⟩=>?_)⟩
        cases e with
        |exit k=>
          simp only[ExR]at I;simp only[Exit.inBlock,←I,O,mD];exact⟨rfl,p⟩
        |_=>exact I.elim
  |loop b ih=>
    intro B env E h K r i;simp only[execK]at i;obtain⟨ex,N,h',S,_,hle,X⟩:=aGu (fun E h K r hh=>ih _ _ E h K r hh) n _ h K r i;exact⟨ex,N,h',S,hle,fun u a w q D f z m=>wpIn_loop_rounds n (X u a w q D f.keep z m)⟩
  |rangeFunc g ps e3 l3 o3 p3=>
    intro B env E h K r i;simp only[execK]at i;obtain⟨gv,W,i⟩:=bind_some i;obtain⟨V,i⟩:=aB i;obtain⟨⟨v,h2⟩,J,i⟩:=bind_some i;unfold oU at i;split at i
    ·rename_i q3 f' s3 m3 n3 Q p;split at i
     ·exact⟨_,_,_,i,iY hC W V J p rfl (jR E _)⟩
     ·exact⟨_,_,_,i,iY hC W V J p rfl (jR E _)⟩
     ·rename_i id;obtain⟨s,X⟩:=aJi i;exact⟨_,_,_,X,iY hC W V J p rfl (jR E _)⟩
     ·simp at i
    ·simp at i
  |scope b ih=>
    intro B env E h K r i;simp only[execK]at i;obtain⟨L,M,h1,G,o⟩:=ih _ _ _ _ _ _ i;refine⟨L,M,h1,G,o.1,fun u a w q D f z m=>aAj (o.2 u a w q D f z m) fun l a w hq=>?_⟩;have:=hq.1;cases L<;>exact this.elim
  |_=>intro B env E h K r i;simp[execK]at i
end
end Go.AM
